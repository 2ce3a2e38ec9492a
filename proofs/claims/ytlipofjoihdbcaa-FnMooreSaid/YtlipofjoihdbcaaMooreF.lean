/- Sorting the numbers of a list's elements by a key: what the library's sort and the reference's insertion come to. -/
import Derived.Test.YtlipofjoihdbcaaMooreE
import Derived.Test.YtlipofjoihdbcaaMooreS
namespace Go.Proofs.Ytlipofjoihdbcaa.MFnMoore
open Go.RowKit Go.Proofs.YtlipofjoihdbcaaW.PrintWords Go.Proofs.YtlipofjoihdbcaaW.PrintLast Go.Proofs.YtlipofjoihdbcaaW.PrintMore
theorem rd_mid (P Q : List Int) (y : Int) : rd (P ++ y :: Q) (P.length : Int) = y := by simp [rd, List.getD]
theorem cmp_eq {l : List S69} (hg : l.all okT = true) {a b : Int} (a0 : 0 ≤ a) (a1 : a < l.length) (b0 : 0 ≤ b) (b1 : b < l.length) : impl_byEnd_1.f a b [l] = some (keyE l a - keyE l b) := by
  have h1 := okT_iff.mp (List.all_eq_true.mp hg _ (rdT_mem a0 a1))
  have h2 := okT_iff.mp (List.all_eq_true.mp hg _ (rdT_mem b0 b1))
  have e : rd_L3 [l] 0 = l := by simp [rd_L3]
  unfold impl_byEnd_1.f keyE
  rw [e]
  have h3 : (0 : Int) < (([l] : List (List S69)).length : Int) := by simp
  rw [if_pos h3, if_pos a0, if_pos a1, if_pos b0, if_pos b1, wrap64_in (by omega) (by omega)]
theorem ins_l1 {l : List S69} (hg : l.all okT = true) {n i : Int} {r : List Int} : ∀ (Ar : List Int) (x : Int) (R : List Int), (∀ v ∈ Ar.reverse ++ x :: R, 0 ≤ v ∧ v < (l.length : Int)) → Ar.length ≤ 100 →
    Ev (fun k => slices_insertionSortCmpFunc_76_impl_byEnd_1.l0 k ((insR (keyE l) x Ar).reverse ++ R) 0 n (wrap64 (i + 1)) [l]) r →
    Ev (fun k => slices_insertionSortCmpFunc_76_impl_byEnd_1.l1 k (Ar.reverse ++ x :: R) 0 n i (Ar.length : Int) [l]) r := by
  intro Ar
  induction Ar with
  | nil =>
    intro x R _ _ h
    refine Ev.succ ?_
    have h1 : ¬ (((([] : List Int).length : Nat) : Int) > 0) := by simp
    simp only [slices_insertionSortCmpFunc_76_impl_byEnd_1.l1, h1, if_false]
    simpa [insR] using h
  | cons y Ar ih =>
    intro x R hv hl h
    refine Ev.succ ?_
    have e0 : (y :: Ar).reverse ++ x :: R = Ar.reverse ++ y :: x :: R := by simp
    have e1 : (((y :: Ar).length : Nat) : Int) > 0 := by simp only [List.length_cons]; omega
    have e2 : (0 : Int) ≤ (((y :: Ar).length : Nat) : Int) := by omega
    have e3 : (((y :: Ar).length : Nat) : Int) < (((Ar.reverse ++ y :: x :: R).length : Nat) : Int) := by simp; omega
    have e4 : wrap64 ((((y :: Ar).length : Nat) : Int) - 1) = ((Ar.length : Nat) : Int) := by
      have : (y :: Ar).length = Ar.length + 1 := rfl
      simp only [List.length_cons] at hl
      rw [wrap64_in (by omega) (by omega)]; omega
    have e5 : (0 : Int) ≤ ((Ar.length : Nat) : Int) := by omega
    have e6 : ((Ar.length : Nat) : Int) < (((Ar.reverse ++ y :: x :: R).length : Nat) : Int) := by simp; omega
    have r1 : rd (Ar.reverse ++ y :: x :: R) ((Ar.length : Nat) : Int) = y := by have := rd_mid Ar.reverse (x :: R) y; rwa [List.length_reverse] at this
    have r2 : rd (Ar.reverse ++ y :: x :: R) (((y :: Ar).length : Nat) : Int) = x := by
      have := rd_mid (Ar.reverse ++ [y]) R x
      simpa using this
    have hx := hv x (by simp)
    have hy := hv y (by simp)
    have hc := cmp_eq hg hx.1 hx.2 hy.1 hy.2
    rw [e0]
    simp only [slices_insertionSortCmpFunc_76_impl_byEnd_1.l1, e1, e2, e3, e4, e5, e6, if_true, r1, r2, hc, Option.bind_some]
    by_cases hk : keyE l x < keyE l y
    · have e7 : keyE l x - keyE l y < 0 := by omega
      simp only [e7, if_true]
      have s1 : (((Ar.reverse ++ y :: x :: R).set ((((y :: Ar).length : Nat) : Int)).toNat y).set (((Ar.length : Nat) : Int)).toNat x) = Ar.reverse ++ x :: y :: R := by
        simp
      rw [s1]
      refine ih x (y :: R) (fun v hv' => hv v (by simp only [List.mem_append, List.mem_cons, List.mem_reverse] at hv' ⊢; grind)) (by simp only [List.length_cons] at hl; omega) ?_
      simp only [insR, hk, if_true] at h
      simpa using h
    · have e7 : ¬ keyE l x - keyE l y < 0 := by omega
      simp only [e7, if_false]
      simp only [insR, hk, if_false] at h
      simpa using h
theorem ins_l0 {l : List S69} (hg : l.all okT = true) : ∀ (rest acc : List Int) (n : Int), (∀ v ∈ acc.reverse ++ rest, 0 ≤ v ∧ v < (l.length : Int)) → acc.length + rest.length ≤ 100 → n = ((acc.length + rest.length : Nat) : Int) →
    Ev (fun k => slices_insertionSortCmpFunc_76_impl_byEnd_1.l0 k (acc.reverse ++ rest) 0 n (acc.length : Int) [l]) (isortR (keyE l) acc rest).reverse := by
  intro rest
  induction rest with
  | nil =>
    intro acc n _ _ hn
    refine Ev.succ ?_
    have h1 : ¬ ((acc.length : Nat) : Int) < n := by rw [hn]; simp
    simp only [slices_insertionSortCmpFunc_76_impl_byEnd_1.l0, h1, if_false, isortR, List.foldl_nil, List.append_nil]
    exact Ev.now _
  | cons x rest ih =>
    intro acc n hv hl hn
    refine Ev.succ ?_
    simp only [List.length_cons] at hl hn
    have h1 : ((acc.length : Nat) : Int) < n := by omega
    simp only [slices_insertionSortCmpFunc_76_impl_byEnd_1.l0, h1, if_true]
    refine ins_l1 hg acc x rest hv (by omega) ?_
    have hl2 := insR_length (keyE l) x acc
    have := ih (insR (keyE l) x acc) n (fun v hv' => hv v (by simp only [List.mem_append, List.mem_cons, List.mem_reverse, insR_mem] at hv' ⊢; grind)) (by omega) (by omega)
    rw [hl2] at this
    have hw : wrap64 (((acc.length : Nat) : Int) + 1) = ((acc.length + 1 : Nat) : Int) := by rw [wrap64_in (by omega) (by omega)]; omega
    rw [hw]
    exact this
theorem stable_eq {l : List S69} (hg : l.all okT = true) {o : List Int} (hv : ∀ v ∈ o, 0 ≤ v ∧ v < (l.length : Int)) (hl : o.length ≤ 10) :
    Ev (fun k => slices_SortStableFunc_41_impl_byEnd_1.f k o [l]) (isortR (keyE l) [] o).reverse := by
  have hi : Ev (fun k => slices_insertionSortCmpFunc_76_impl_byEnd_1.f k o 0 (o.length : Int) [l]) (isortR (keyE l) [] o).reverse := by
    unfold slices_insertionSortCmpFunc_76_impl_byEnd_1.f
    have hw : wrap64 ((0 : Int) + 1) = 1 := wrap64_in (by omega) (by omega)
    rw [hw]
    cases o with
    | nil =>
      refine Ev.succ ?_
      have h1 : ¬ (1 : Int) < ((([] : List Int).length : Nat) : Int) := by simp
      simp only [slices_insertionSortCmpFunc_76_impl_byEnd_1.l0, h1, if_false, isortR, List.foldl_nil, List.reverse_nil]
      exact Ev.now _
    | cons x o =>
      have := ins_l0 hg o [x] (((x :: o).length : Nat) : Int) (by simpa using hv) (by simp at hl ⊢; omega) (by simp; omega)
      simpa [isortR, insR] using this
  have h20 : ¬ (20 : Int) ≤ ((o.length : Nat) : Int) := by omega
  have h21 : ¬ (20 : Int) < ((o.length : Nat) : Int) := by omega
  have hs : Ev (fun k => slices_stableCmpFunc_65_impl_byEnd_1.f k o (o.length : Int) [l]) (isortR (keyE l) [] o).reverse := by
    unfold slices_stableCmpFunc_65_impl_byEnd_1.f
    refine Ev.succ ?_
    simp only [slices_stableCmpFunc_65_impl_byEnd_1.l0, h20, if_false]
    refine Ev.bind hi (Ev.succ ?_)
    simp only [slices_stableCmpFunc_65_impl_byEnd_1.l1, h21, if_false]
    exact Ev.now _
  unfold slices_SortStableFunc_41_impl_byEnd_1.f
  exact Ev.bind hs (Ev.now _)
theorem idx_map (l : List S69) : (idx l.length).map (rd_T69 l) = l := by
  refine List.ext_getElem (by simp [idx]) (fun i h1 h2 => ?_)
  simp only [idx, List.map_map, List.getElem_map, List.getElem_range, Function.comp]
  exact rdT_at h2
theorem spec_by_l1 {l : List S69} {i : Nat} {r : List Int} {x4 : List Int} (hx4 : x4.length ≤ 100) (hv : ∀ v ∈ x4, 0 ≤ v ∧ v < (l.length : Int)) (hd : down (keyE l) x4.reverse)
    (h : Ev (fun k => spec_l5ByEnd.l0 k l ((insR (keyE l) (i : Int) x4.reverse).reverse) l (l.length : Int) (wrap64 ((i : Int) + 1))) r) :
    ∀ (d j : Nat), j + d = x4.length → (∀ a ∈ x4.take j, keyE l a ≤ keyE l (i : Int)) →
      Ev (fun k => spec_l5ByEnd.l1 k l x4 (i : Int) (j : Int) l (l.length : Int) (i : Int) (rd_T69 l (i : Int)).f0 (rd_T69 l (i : Int)).f1) r := by
  have stop : ∀ j : Nat, j ≤ x4.length → (∀ a ∈ x4.take j, keyE l a ≤ keyE l (i : Int)) → (∀ b, (x4.drop j).head? = some b → keyE l (i : Int) < keyE l b) →
      Ev (fun k => spec_l5ByEnd.l0 k l (x4.take j ++ [(i : Int)] ++ x4.drop j) l (l.length : Int) (wrap64 ((i : Int) + 1))) r := by
    intro j hj hA hB
    have := insR_split (key := keyE l) (x := (i : Int)) (x4.take j) (x4.drop j) (by rw [List.take_append_drop]; exact hd) hA hB
    rw [List.take_append_drop] at this
    rw [this] at h
    simpa using h
  intro d
  induction d with
  | zero =>
    intro j hj hA
    refine Ev.succ ?_
    have h1 : ¬ (j : Int) < (x4.length : Int) := by omega
    have h2 : (0 : Int) ≤ (j : Int) := by omega
    have h3 : (j : Int) ≤ (x4.length : Int) := by omega
    have h4 : (([] : List Int)).length + (x4.take j).length < 17592186044416 := by simp; omega
    have h5 : (x4.take j).length < 17592186044416 := by simp; omega
    have h6 : (x4.take j ++ [(i : Int)]).length + (x4.drop j).length < 17592186044416 := by simp; omega
    simp only [spec_l5ByEnd.l1, h1, h2, h3, if_true, if_false, Option.bind_some, Int.toNat_natCast, h4, List.nil_append, h5, h6]
    exact stop j (by omega) hA (fun b hb => by rw [List.drop_eq_nil_of_le (by omega)] at hb; cases hb)
  | succ d ih =>
    intro j hj hA
    refine Ev.succ ?_
    have h1 : (j : Int) < (x4.length : Int) := by omega
    have h2 : (0 : Int) ≤ (j : Int) := by omega
    have h3 : (j : Int) ≤ (x4.length : Int) := by omega
    have h4 : (([] : List Int)).length + (x4.take j).length < 17592186044416 := by simp; omega
    have h5 : (x4.take j).length < 17592186044416 := by simp; omega
    have h6 : (x4.take j ++ [(i : Int)]).length + (x4.drop j).length < 17592186044416 := by simp; omega
    have hr : rd x4 (j : Int) = x4[j]'(by omega) := by simp [rd, List.getD, show j < x4.length by omega]
    have hm := hv (x4[j]'(by omega)) (List.getElem_mem _)
    have hw : wrap64 ((j : Int) + 1) = ((j + 1 : Nat) : Int) := by rw [wrap64_in (by omega) (by omega)]; omega
    simp only [spec_l5ByEnd.l1, h1, h2, if_true, hr, hm.1, hm.2, hw]
    by_cases hk : keyE l (x4[j]'(by omega)) ≤ keyE l (i : Int)
    · have hk' : (rd_T69 l (x4[j]'(by omega))).f1 ≤ (rd_T69 l (i : Int)).f1 := hk
      simp only [hk', if_true]
      refine ih (j + 1) (by omega) (fun a ha => ?_)
      rw [List.take_succ_eq_append_getElem (by omega)] at ha
      rcases List.mem_append.mp ha with ha | ha
      · exact hA a ha
      · rw [List.mem_singleton.mp ha]; exact hk
    · have hk' : ¬ (rd_T69 l (x4[j]'(by omega))).f1 ≤ (rd_T69 l (i : Int)).f1 := hk
      simp only [hk', if_false, h3, if_true, Option.bind_some, Int.toNat_natCast, h4, List.nil_append, h5, h6]
      refine stop j (by omega) hA (fun b hb => ?_)
      rw [List.drop_eq_getElem_cons (by omega)] at hb
      simp only [List.head?_cons, Option.some.injEq] at hb
      subst hb; omega
end Go.Proofs.Ytlipofjoihdbcaa.MFnMoore
