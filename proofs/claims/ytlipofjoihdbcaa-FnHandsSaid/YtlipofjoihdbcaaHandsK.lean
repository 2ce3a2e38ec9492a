/- The least span of all: the search over all, and the one that cuts branches. -/
import Derived.Test.YtlipofjoihdbcaaHandsJ
import Derived.Test.YtlipofjoihdbcaaMFnHandsx8
import Derived.Test.YtlipofjoihdbcaaMFnHandsx9
namespace Go.Proofs.Ytlipofjoihdbcaa.MFnHands
open Go.RowKit Go.Proofs.YtlipofjoihdbcaaW.PrintWords Go.Proofs.YtlipofjoihdbcaaW.PrintLast Go.Proofs.YtlipofjoihdbcaaW.PrintMore
def minL : List Int → Int
  | [] => -1
  | a :: r => least a r
def put (has : List Int) (k x : Int) : List Int := has.set k.toNat (rd has k + x)
def bestM : List Int → List Int → Int
  | [], has => most 0 has
  | x :: l, has => minL ((idx has.length).map fun k => bestM l (put has k x))
theorem minL_mem {A : List Int} (h : A ≠ []) : minL A ∈ A := by
  cases A with
  | nil => exact absurd rfl h
  | cons a r =>
    rcases least_in r a with h1 | h1
    · simp only [minL]; rw [h1]; exact List.mem_cons_self
    · exact List.mem_cons_of_mem _ h1
theorem minL_le {A : List Int} {x : Int} (h : x ∈ A) : minL A ≤ x := by
  cases A with
  | nil => cases h
  | cons a r =>
    have := least_le r a
    cases h with
    | head => exact this.1
    | tail _ h => exact this.2 x h
theorem least_snoc (a x : Int) (r : List Int) : least a (r ++ [x]) = mn (least a r) x := by simp [least, List.foldl_append]
theorem minL_snoc {A : List Int} (h : A ≠ []) (x : Int) : minL (A ++ [x]) = mn (minL A) x := by
  cases A with
  | nil => exact absurd rfl h
  | cons a r => exact least_snoc a x r
theorem put_length (has : List Int) (k x : Int) : (put has k x).length = has.length := by simp [put]
theorem put_rd {has : List Int} {k x : Int} (h0 : 0 ≤ k) (h1 : k < (has.length : Int)) : rd (put has k x) k = rd has k + x := by
  unfold put; rw [rd_set ⟨h0, h1⟩ ⟨h0, h1⟩, if_pos rfl]
theorem put_back {has : List Int} {k x : Int} (h0 : 0 ≤ k) (h1 : k < (has.length : Int)) : (put has k x).set k.toNat (rd has k) = has := by
  obtain ⟨i, rfl⟩ := Int.eq_ofNat_of_zero_le h0
  unfold put
  rw [List.set_set, Int.toNat_natCast, rd_at (by omega), List.set_getElem_self]
/-- rows that stay small -/
def smallR (has : List Int) (m : Int) : Prop := ∀ x ∈ has, 0 ≤ x ∧ x ≤ m
theorem smallR_put {has : List Int} {m k x : Int} (h : smallR has m) (h0 : 0 ≤ k) (h1 : k < (has.length : Int)) (hx : 0 ≤ x ∧ x ≤ 50) (_hm : 0 ≤ m) : smallR (put has k x) (m + 50) := by
  intro y hy
  obtain ⟨i, rfl⟩ := Int.eq_ofNat_of_zero_le h0
  have hr := h (rd has (i : Int)) (by rw [rd_at (by omega)]; exact List.getElem_mem _)
  rcases List.mem_or_eq_of_mem_set hy with h2 | h2
  · have := h y h2; omega
  · omega
theorem vals_ne {has l : List Int} {x : Int} (h : 0 < has.length) : ((idx has.length).map fun k => bestM l (put has k x)) ≠ [] := by
  intro e
  have := congrArg List.length e
  simp [idx_length] at this
  rw [this] at h; simp at h
theorem bestM_nonneg : ∀ (l has : List Int), 0 < has.length → 0 ≤ bestM l has := by
  intro l
  induction l with
  | nil => intro has _; exact (most_ge has 0).1
  | cons x l ih =>
    intro has h
    simp only [bestM]
    have := minL_mem (vals_ne (l := l) (x := x) h)
    obtain ⟨k, _, e⟩ := List.mem_map.mp this
    rw [← e]
    exact ih _ (by rw [put_length]; exact h)
theorem best_loop {l has : List Int} {x : Int} (hn : 0 < has.length) (hn4 : has.length ≤ 4) (hx : 0 ≤ x ∧ x ≤ 50) {m : Int} (hs : smallR has m) (hm : 0 ≤ m ∧ m ≤ 1000)
    (ih : ∀ k : Int, 0 ≤ k → k < (has.length : Int) → Ev (fun q => impl_best.f q l (put has k x)) (bestM l (put has k x), put has k x)) : ∀ (d i : Nat), i + d = has.length →
    Ev (fun k => impl_best.l0 k (x :: l) has (minL ((idx i).map fun k => bestM l (put has k x))) (has.length : Int) (i : Int)) (minL ((idx has.length).map fun k => bestM l (put has k x)), has) := by
  intro d
  induction d with
  | zero =>
    intro i hi
    refine Ev.succ ?_
    have h1 : ¬ (i : Int) < (has.length : Int) := by omega
    have e : i = has.length := by omega
    simp only [impl_best.l0, h1, if_false]
    rw [e]; exact Ev.now _
  | succ d ihd =>
    intro i hi
    refine Ev.succ ?_
    have h1 : (i : Int) < (has.length : Int) := by omega
    have h2 : (0 : Int) ≤ (i : Int) := by omega
    have h3 : (0 : Int) < (((x :: l).length : Nat) : Int) := by rw [List.length_cons]; omega
    have h4 : (1 : Int) ≤ (((x :: l).length : Nat) : Int) := by rw [List.length_cons]; omega
    have hr := hs (rd has (i : Int)) (by rw [rd_at (by omega)]; exact List.getElem_mem _)
    have e0 : rd (x :: l) 0 = x := rfl
    have e1 : wrap64 (rd has (i : Int) + x) = rd has (i : Int) + x := wrap64_in (by omega) (by omega)
    have e2 : (x :: l).drop 1 = l := rfl
    have e3 : (has.set (i : Int).toNat (rd has (i : Int) + x)) = put has (i : Int) x := rfl
    have e4 : wrap64 (rd has (i : Int) + x - x) = rd has (i : Int) := by rw [wrap64_in (by omega) (by omega)]; omega
    have h5 : (i : Int) < ((put has (i : Int) x).length : Int) := by rw [put_length]; exact h1
    have h6 := ihd (i + 1) (by omega)
    have h7 := bestM_nonneg l (put has (i : Int) x) (by rw [put_length]; exact hn)
    simp only [impl_best.l0, h1, h2, h3, h4, if_true, e0, e1, e2, e3]
    refine Ev.bind (ih (i : Int) h2 h1) ?_
    simp only [h5, put_rd h2 h1, e4, put_back h2 h1, w_next (i := i) (by omega), if_true]
    rw [idx_succ, List.map_append, List.map_cons, List.map_nil] at h6
    by_cases hi0 : i = 0
    · subst hi0
      have e5 : minL ((idx 0).map fun k => bestM l (put has k x)) = -1 := rfl
      have e6 : (-1 : Int) < 0 := by omega
      simp only [e5, e6, if_true]
      simpa [idx, minL, least] using h6
    · have hne : ((idx i).map fun k => bestM l (put has k x)) ≠ [] := by
        intro e
        have := congrArg List.length e
        simp [idx_length] at this
        omega
      rw [minL_snoc hne] at h6
      have hmem := minL_mem hne
      obtain ⟨k, _, ek⟩ := List.mem_map.mp hmem
      have hk := bestM_nonneg l (put has k x) (by rw [put_length]; exact hn)
      have e6 : ¬ minL ((idx i).map fun k => bestM l (put has k x)) < 0 := by omega
      simp only [e6, if_false]
      by_cases hlt : bestM l (put has (i : Int) x) < minL ((idx i).map fun k => bestM l (put has k x))
      · simp only [mn, hlt, if_true] at h6 ⊢
        exact h6
      · simp only [mn, hlt, if_false] at h6 ⊢
        exact h6
theorem best_ok : ∀ (l has : List Int) (m : Int), (∀ x ∈ l, 1 ≤ x ∧ x ≤ 50) → 0 < has.length → has.length ≤ 4 → smallR has m → 0 ≤ m → m + 50 * l.length ≤ 1000 →
    Ev (fun k => impl_best.f k l has) (bestM l has, has) := by
  intro l
  induction l with
  | nil =>
    intro has m _ hn hn4 hs _ _
    refine Ev.succ ?_
    have h1 : ((([] : List Int).length : Nat) : Int) = 0 := rfl
    simp only [impl_best.f, h1, if_true]
    refine Ev.bind (max_ok0 (by omega) hn (fun x hx => (hs x hx).1)) ?_
    exact Ev.now _
  | cons x l ih =>
    intro has m hl hn hn4 hs h0 hm
    refine Ev.succ ?_
    have h1 : ¬ (((x :: l).length : Nat) : Int) = 0 := by rw [List.length_cons]; omega
    have hx := hl x List.mem_cons_self
    have hm2 : m + 50 + 50 * (l.length : Int) ≤ 1000 := by rw [List.length_cons] at hm; omega
    simp only [impl_best.f, h1, if_false]
    exact best_loop hn hn4 (by omega) hs (by omega) (fun k hk0 hk1 => ih (put has k x) (m + 50) (fun y hy => hl y (List.mem_cons_of_mem _ hy)) (by rw [put_length]; exact hn) (by rw [put_length]; exact hn4) (smallR_put hs hk0 hk1 (by omega) h0) (by omega) hm2) has.length 0 (by omega)
end Go.Proofs.Ytlipofjoihdbcaa.MFnHands
