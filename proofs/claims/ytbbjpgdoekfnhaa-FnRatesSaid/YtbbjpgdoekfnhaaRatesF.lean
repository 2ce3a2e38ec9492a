/- Tasks that come again: the order by rate, and the statement. -/
import Derived.Test.YtbbjpgdoekfnhaaRatesE
namespace Go.Proofs.Ytbbjpgdoekfnhaa.MFnRates
open Go.RowKit Go.Proofs.YtbbjpgdoekfnhaaW.PrintWords Go.Proofs.YtbbjpgdoekfnhaaW.PrintLast Go.Proofs.YtbbjpgdoekfnhaaW.PrintMore
def keyR (l : List S34) (i : Int) : Int := (rd_T34 l i).f1
theorem rd_mid (P Q : List Int) (y : Int) : rd (P ++ y :: Q) (P.length : Int) = y := by simp [rd, List.getD]
theorem cmp_eq {l : List S34} (hg : l.all okT = true) {a b : Int} (a0 : 0 ≤ a) (a1 : a < l.length) (b0 : 0 ≤ b) (b1 : b < l.length) : impl_ByRate_1.f a b [l] = some (keyR l a - keyR l b) := by
  have h1 := okT_iff.mp (List.all_eq_true.mp hg _ (rdT_mem a0 a1))
  have h2 := okT_iff.mp (List.all_eq_true.mp hg _ (rdT_mem b0 b1))
  have e : rd_L3 [l] 0 = l := by simp [rd_L3]
  unfold impl_ByRate_1.f keyR
  rw [e]
  have h3 : (0 : Int) < (([l] : List (List S34)).length : Int) := by simp
  rw [if_pos h3, if_pos a0, if_pos a1, if_pos b0, if_pos b1, wrap64_in (by omega) (by omega)]
theorem ins_l1 {l : List S34} (hg : l.all okT = true) {n i : Int} {r : List Int} : ∀ (Ar : List Int) (x : Int) (R : List Int), (∀ v ∈ Ar.reverse ++ x :: R, 0 ≤ v ∧ v < (l.length : Int)) → Ar.length ≤ 100 →
    Ev (fun k => slices_insertionSortCmpFunc_59_impl_ByRate_1.l0 k ((insR (keyR l) x Ar).reverse ++ R) 0 n (wrap64 (i + 1)) [l]) r →
    Ev (fun k => slices_insertionSortCmpFunc_59_impl_ByRate_1.l1 k (Ar.reverse ++ x :: R) 0 n i (Ar.length : Int) [l]) r := by
  intro Ar
  induction Ar with
  | nil =>
    intro x R _ _ h
    refine Ev.succ ?_
    have h1 : ¬ (((([] : List Int).length : Nat) : Int) > 0) := by simp
    simp only [slices_insertionSortCmpFunc_59_impl_ByRate_1.l1, h1, if_false]
    simpa [insR] using h
  | cons y Ar ih =>
    intro x R hv hl h
    refine Ev.succ ?_
    have e0 : (y :: Ar).reverse ++ x :: R = Ar.reverse ++ y :: x :: R := by simp
    have e1 : (((y :: Ar).length : Nat) : Int) > 0 := by simp only [List.length_cons]; omega
    have e2 : (0 : Int) ≤ (((y :: Ar).length : Nat) : Int) := by omega
    have e3 : (((y :: Ar).length : Nat) : Int) < (((Ar.reverse ++ y :: x :: R).length : Nat) : Int) := by simp; omega
    have e4 : wrap64 ((((y :: Ar).length : Nat) : Int) - 1) = ((Ar.length : Nat) : Int) := by
      have : (y :: Ar).length = Ar.length + 1 := rfl
      simp only [List.length_cons] at hl
      rw [wrap64_in (by omega) (by omega)]; omega
    have e5 : (0 : Int) ≤ ((Ar.length : Nat) : Int) := by omega
    have e6 : ((Ar.length : Nat) : Int) < (((Ar.reverse ++ y :: x :: R).length : Nat) : Int) := by simp; omega
    have r1 : rd (Ar.reverse ++ y :: x :: R) ((Ar.length : Nat) : Int) = y := by have := rd_mid Ar.reverse (x :: R) y; rwa [List.length_reverse] at this
    have r2 : rd (Ar.reverse ++ y :: x :: R) (((y :: Ar).length : Nat) : Int) = x := by
      have := rd_mid (Ar.reverse ++ [y]) R x
      simpa using this
    have hx := hv x (by simp)
    have hy := hv y (by simp)
    have hc := cmp_eq hg hx.1 hx.2 hy.1 hy.2
    rw [e0]
    simp only [slices_insertionSortCmpFunc_59_impl_ByRate_1.l1, e1, e2, e3, e4, e5, e6, if_true, r1, r2, hc, Option.bind_some]
    by_cases hk : keyR l x < keyR l y
    · have e7 : keyR l x - keyR l y < 0 := by omega
      simp only [e7, if_true]
      have s1 : (((Ar.reverse ++ y :: x :: R).set ((((y :: Ar).length : Nat) : Int)).toNat y).set (((Ar.length : Nat) : Int)).toNat x) = Ar.reverse ++ x :: y :: R := by
        simp
      rw [s1]
      refine ih x (y :: R) (fun v hv' => hv v (by simp only [List.mem_append, List.mem_cons, List.mem_reverse] at hv' ⊢; grind)) (by simp only [List.length_cons] at hl; omega) ?_
      simp only [insR, hk, if_true] at h
      simpa using h
    · have e7 : ¬ keyR l x - keyR l y < 0 := by omega
      simp only [e7, if_false]
      simp only [insR, hk, if_false] at h
      simpa using h
theorem ins_l0 {l : List S34} (hg : l.all okT = true) : ∀ (rest acc : List Int) (n : Int), (∀ v ∈ acc.reverse ++ rest, 0 ≤ v ∧ v < (l.length : Int)) → acc.length + rest.length ≤ 100 → n = ((acc.length + rest.length : Nat) : Int) →
    Ev (fun k => slices_insertionSortCmpFunc_59_impl_ByRate_1.l0 k (acc.reverse ++ rest) 0 n (acc.length : Int) [l]) (isortR (keyR l) acc rest).reverse := by
  intro rest
  induction rest with
  | nil =>
    intro acc n _ _ hn
    refine Ev.succ ?_
    have h1 : ¬ ((acc.length : Nat) : Int) < n := by rw [hn]; simp
    simp only [slices_insertionSortCmpFunc_59_impl_ByRate_1.l0, h1, if_false, isortR, List.foldl_nil, List.append_nil]
    exact Ev.now _
  | cons x rest ih =>
    intro acc n hv hl hn
    refine Ev.succ ?_
    simp only [List.length_cons] at hl hn
    have h1 : ((acc.length : Nat) : Int) < n := by omega
    simp only [slices_insertionSortCmpFunc_59_impl_ByRate_1.l0, h1, if_true]
    refine ins_l1 hg acc x rest hv (by omega) ?_
    have hl2 := insR_length (keyR l) x acc
    have := ih (insR (keyR l) x acc) n (fun v hv' => hv v (by simp only [List.mem_append, List.mem_cons, List.mem_reverse, insR_mem] at hv' ⊢; grind)) (by omega) (by omega)
    rw [hl2] at this
    have hw : wrap64 (((acc.length : Nat) : Int) + 1) = ((acc.length + 1 : Nat) : Int) := by rw [wrap64_in (by omega) (by omega)]; omega
    rw [hw]
    exact this
theorem stable_eq {l : List S34} (hg : l.all okT = true) {o : List Int} (hv : ∀ v ∈ o, 0 ≤ v ∧ v < (l.length : Int)) (hl : o.length ≤ 10) :
    Ev (fun k => slices_SortStableFunc_27_impl_ByRate_1.f k o [l]) (isortR (keyR l) [] o).reverse := by
  have hi : Ev (fun k => slices_insertionSortCmpFunc_59_impl_ByRate_1.f k o 0 (o.length : Int) [l]) (isortR (keyR l) [] o).reverse := by
    unfold slices_insertionSortCmpFunc_59_impl_ByRate_1.f
    have hw : wrap64 ((0 : Int) + 1) = 1 := wrap64_in (by omega) (by omega)
    rw [hw]
    cases o with
    | nil =>
      refine Ev.succ ?_
      have h1 : ¬ (1 : Int) < ((([] : List Int).length : Nat) : Int) := by simp
      simp only [slices_insertionSortCmpFunc_59_impl_ByRate_1.l0, h1, if_false, isortR, List.foldl_nil, List.reverse_nil]
      exact Ev.now _
    | cons x o =>
      have := ins_l0 hg o [x] (((x :: o).length : Nat) : Int) (by simpa using hv) (by simp at hl ⊢; omega) (by simp; omega)
      simpa [isortR, insR] using this
  have h20 : ¬ (20 : Int) ≤ ((o.length : Nat) : Int) := by omega
  have h21 : ¬ (20 : Int) < ((o.length : Nat) : Int) := by omega
  have hs : Ev (fun k => slices_stableCmpFunc_48_impl_ByRate_1.f k o (o.length : Int) [l]) (isortR (keyR l) [] o).reverse := by
    unfold slices_stableCmpFunc_48_impl_ByRate_1.f
    refine Ev.succ ?_
    simp only [slices_stableCmpFunc_48_impl_ByRate_1.l0, h20, if_false]
    refine Ev.bind hi (Ev.succ ?_)
    simp only [slices_stableCmpFunc_48_impl_ByRate_1.l1, h21, if_false]
    exact Ev.now _
  unfold slices_SortStableFunc_27_impl_ByRate_1.f
  exact Ev.bind hs (Ev.now _)
def idx (n : Nat) : List Int := (List.range n).map fun i : Nat => (i : Int)
theorem idx_succ (n : Nat) : idx (n + 1) = idx n ++ [(n : Int)] := by simp [idx, List.range_succ]
theorem idx_length (n : Nat) : (idx n).length = n := by simp [idx]
theorem idx_mem {n : Nat} {v : Int} : v ∈ idx n ↔ 0 ≤ v ∧ v < n := by
  simp only [idx, List.mem_map, List.mem_range]
  constructor
  · rintro ⟨a, h, rfl⟩; omega
  · rintro ⟨h0, h1⟩; exact ⟨v.toNat, by omega, by omega⟩
theorem idx_map (l : List S34) : (idx l.length).map (rd_T34 l) = l := by
  refine List.ext_getElem (by simp [idx]) (fun i h1 h2 => ?_)
  simp only [idx, List.map_map, List.getElem_map, List.getElem_range, Function.comp]
  exact rdT_at h2
def byRate (l : List S34) : List Int := (isortR (keyR l) [] (idx l.length)).reverse
def rates (l : List S34) : List Int × Bool := if good l then (byRate l, true) else ([], false)
theorem impl_by_l0 {l : List S34} (hg : l.all okT = true) (hl : l.length ≤ 5) : ∀ (d i : Nat), i + d = l.length → Ev (fun k => impl_ByRate.l0 k (idx i) (l.length : Int) (i : Int) l) (byRate l, true) := by
  intro d
  induction d with
  | zero =>
    intro i hi
    refine Ev.succ ?_
    have h1 : ¬ (i : Int) < (l.length : Int) := by omega
    simp only [impl_ByRate.l0, h1, if_false]
    obtain rfl : i = l.length := by omega
    exact Ev.bind (stable_eq hg (fun v hv => idx_mem.mp hv) (by rw [idx_length]; omega)) (Ev.now _)
  | succ d ih =>
    intro i hi
    refine Ev.succ ?_
    have h1 : (i : Int) < (l.length : Int) := by omega
    have h2 : (idx i).length < 17592186044416 := by rw [idx_length]; omega
    have hw : wrap64 ((i : Int) + 1) = ((i + 1 : Nat) : Int) := by rw [wrap64_in (by omega) (by omega)]; omega
    simp only [impl_ByRate.l0, h1, h2, if_true, hw, ← idx_succ]
    exact ih (i + 1) (by omega)
theorem impl_by (l : List S34) : Ev (fun k => impl_ByRate.f k l) (rates l) := by
  unfold impl_ByRate.f rates
  simp only [impl_good, Option.bind_some]
  cases hg : good l with
  | false => simp only [Bool.false_eq_true, if_false]; exact Ev.now _
  | true => simp only [if_true]; have h := good_parts hg; exact impl_by_l0 h.2 h.1 l.length 0 (by omega)
theorem spec_by_l1 {l : List S34} {i : Nat} {r : List Int × Bool} {x4 : List Int} (hx4 : x4.length ≤ 100) (hv : ∀ v ∈ x4, 0 ≤ v ∧ v < (l.length : Int)) (hd : down (keyR l) x4.reverse)
    (h : Ev (fun k => spec_ByRate.l0 k l ((insR (keyR l) (i : Int) x4.reverse).reverse) l (l.length : Int) (wrap64 ((i : Int) + 1))) r) :
    ∀ (d j : Nat), j + d = x4.length → (∀ a ∈ x4.take j, keyR l a ≤ keyR l (i : Int)) →
      Ev (fun k => spec_ByRate.l1 k l x4 (i : Int) (j : Int) l (l.length : Int) (i : Int) (rd_T34 l (i : Int)).f0 (rd_T34 l (i : Int)).f1) r := by
  have stop : ∀ j : Nat, j ≤ x4.length → (∀ a ∈ x4.take j, keyR l a ≤ keyR l (i : Int)) → (∀ b, (x4.drop j).head? = some b → keyR l (i : Int) < keyR l b) →
      Ev (fun k => spec_ByRate.l0 k l (x4.take j ++ [(i : Int)] ++ x4.drop j) l (l.length : Int) (wrap64 ((i : Int) + 1))) r := by
    intro j hj hA hB
    have := insR_split (key := keyR l) (x := (i : Int)) (x4.take j) (x4.drop j) (by rw [List.take_append_drop]; exact hd) hA hB
    rw [List.take_append_drop] at this
    rw [this] at h
    simpa using h
  intro d
  induction d with
  | zero =>
    intro j hj hA
    refine Ev.succ ?_
    have h1 : ¬ (j : Int) < (x4.length : Int) := by omega
    have h2 : (0 : Int) ≤ (j : Int) := by omega
    have h3 : (j : Int) ≤ (x4.length : Int) := by omega
    have h4 : (([] : List Int)).length + (x4.take j).length < 17592186044416 := by simp; omega
    have h5 : (x4.take j).length < 17592186044416 := by simp; omega
    have h6 : (x4.take j ++ [(i : Int)]).length + (x4.drop j).length < 17592186044416 := by simp; omega
    simp only [spec_ByRate.l1, h1, h2, h3, if_true, if_false, Option.bind_some, Int.toNat_natCast, h4, List.nil_append, h5, h6]
    exact stop j (by omega) hA (fun b hb => by rw [List.drop_eq_nil_of_le (by omega)] at hb; cases hb)
  | succ d ih =>
    intro j hj hA
    refine Ev.succ ?_
    have h1 : (j : Int) < (x4.length : Int) := by omega
    have h2 : (0 : Int) ≤ (j : Int) := by omega
    have h3 : (j : Int) ≤ (x4.length : Int) := by omega
    have h4 : (([] : List Int)).length + (x4.take j).length < 17592186044416 := by simp; omega
    have h5 : (x4.take j).length < 17592186044416 := by simp; omega
    have h6 : (x4.take j ++ [(i : Int)]).length + (x4.drop j).length < 17592186044416 := by simp; omega
    have hr : rd x4 (j : Int) = x4[j]'(by omega) := by simp [rd, List.getD, show j < x4.length by omega]
    have hm := hv (x4[j]'(by omega)) (List.getElem_mem _)
    have hw : wrap64 ((j : Int) + 1) = ((j + 1 : Nat) : Int) := by rw [wrap64_in (by omega) (by omega)]; omega
    simp only [spec_ByRate.l1, h1, h2, if_true, hr, hm.1, hm.2, hw]
    by_cases hk : keyR l (x4[j]'(by omega)) ≤ keyR l (i : Int)
    · have hk' : (rd_T34 l (x4[j]'(by omega))).f1 ≤ (rd_T34 l (i : Int)).f1 := hk
      simp only [hk', if_true]
      refine ih (j + 1) (by omega) (fun a ha => ?_)
      rw [List.take_succ_eq_append_getElem (by omega)] at ha
      rcases List.mem_append.mp ha with ha | ha
      · exact hA a ha
      · rw [List.mem_singleton.mp ha]; exact hk
    · have hk' : ¬ (rd_T34 l (x4[j]'(by omega))).f1 ≤ (rd_T34 l (i : Int)).f1 := hk
      simp only [hk', if_false, h3, if_true, Option.bind_some, Int.toNat_natCast, h4, List.nil_append, h5, h6]
      refine stop j (by omega) hA (fun b hb => ?_)
      rw [List.drop_eq_getElem_cons (by omega)] at hb
      simp only [List.head?_cons, Option.some.injEq] at hb
      subst hb; omega
theorem spec_by_l0 {l : List S34} (hl : l.length ≤ 5) : ∀ (d i : Nat), i + d = l.length → Ev (fun k => spec_ByRate.l0 k l (isortR (keyR l) [] (idx i)).reverse l (l.length : Int) (i : Int)) (byRate l, true) := by
  intro d
  induction d with
  | zero =>
    intro i hi
    refine Ev.succ ?_
    have h1 : ¬ (i : Int) < (l.length : Int) := by omega
    obtain rfl : i = l.length := by omega
    simp only [spec_ByRate.l0, h1, if_false]; exact Ev.now _
  | succ d ih =>
    intro i hi
    refine Ev.succ ?_
    have h1 : (i : Int) < (l.length : Int) := by omega
    have h2 : (0 : Int) ≤ (i : Int) := by omega
    have hw : wrap64 ((i : Int) + 1) = ((i + 1 : Nat) : Int) := by rw [wrap64_in (by omega) (by omega)]; omega
    have hlen := isortR_length (keyR l) (idx i) []
    rw [idx_length] at hlen
    simp only [List.length_nil] at hlen
    simp only [spec_ByRate.l0, h1, h2, if_true]
    have hn := ih (i + 1) (by omega)
    rw [idx_succ] at hn
    have e : isortR (keyR l) [] (idx i ++ [(i : Int)]) = insR (keyR l) (i : Int) (isortR (keyR l) [] (idx i)) := by simp [isortR]
    rw [e] at hn
    refine spec_by_l1 (by simp; omega) (fun v hv => ?_) (by rw [List.reverse_reverse]; exact isortR_down _ _ List.Pairwise.nil) (by rw [hw, List.reverse_reverse]; exact hn) (isortR (keyR l) [] (idx i)).reverse.length 0 (by omega) (by simp)
    rw [List.mem_reverse, isortR_mem] at hv
    rcases hv with hv | hv
    · cases hv
    · have := idx_mem.mp hv; omega
theorem spec_by {l : List S34} (hl : l.length ≤ 1000000) : Ev (fun k => spec_ByRate.f k l) (rates l) := by
  unfold spec_ByRate.f rates
  refine Ev.bind (spec_good hl) ?_
  cases hg : good l with
  | false => simp only [Bool.false_eq_true, if_false]; exact Ev.now _
  | true => simp only [if_true]; have h := good_parts hg; exact spec_by_l0 h.1 l.length 0 (by omega)
theorem same_l0 (a : List Int) (ha : a.length ≤ 1000000) : ∀ (d i : Nat), i + d = a.length → Ev (fun k => laws_sameInts.l0 k a a (a.length : Int) (i : Int)) true := by
  intro d
  induction d with
  | zero =>
    intro i hi
    refine Ev.succ ?_
    have h1 : ¬ (i : Int) < (a.length : Int) := by omega
    simp only [laws_sameInts.l0, h1, if_false]; exact Ev.now _
  | succ d ih =>
    intro i hi
    refine Ev.succ ?_
    have h1 : (i : Int) < (a.length : Int) := by omega
    have h2 : (0 : Int) ≤ (i : Int) := by omega
    have hw : wrap64 ((i : Int) + 1) = ((i + 1 : Nat) : Int) := by rw [wrap64_in (by omega) (by omega)]; omega
    simp only [laws_sameInts.l0, h1, h2, if_true, hw]
    exact ih (i + 1) (by omega)
theorem same_self {a : List Int} (ha : a.length ≤ 1000000) : Ev (fun k => laws_sameInts.f k a a) true := by
  unfold laws_sameInts.f
  simp only [if_true]
  exact same_l0 a ha a.length 0 (by omega)
end Go.Proofs.Ytbbjpgdoekfnhaa.MFnRates
