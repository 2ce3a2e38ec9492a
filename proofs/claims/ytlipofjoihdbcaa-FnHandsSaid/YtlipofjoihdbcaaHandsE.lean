/- Giving in an order to whoever has the least: what the functions answer. -/
import Derived.Test.YtlipofjoihdbcaaHandsD
import Derived.Test.YtlipofjoihdbcaaMFnHandsx4
namespace Go.Proofs.Ytlipofjoihdbcaa.MFnHands
open Go.RowKit Go.Proofs.YtlipofjoihdbcaaW.PrintWords Go.Proofs.YtlipofjoihdbcaaW.PrintLast Go.Proofs.YtlipofjoihdbcaaW.PrintMore
def isLow (s : List Int) (b : Int) : Prop := (0 ≤ b ∧ b < (s.length : Int)) ∧ (∀ k, 0 ≤ k → k < (s.length : Int) → rd s b ≤ rd s k) ∧ ∀ k, 0 ≤ k → k < b → rd s b < rd s k
theorem isLow_one {s : List Int} {a b : Int} (ha : isLow s a) (hb : isLow s b) : a = b := by
  rcases Int.lt_trichotomy a b with h | h | h
  · have := hb.2.2 a ha.1.1 h; have := ha.2.1 b hb.1.1 hb.1.2; omega
  · exact h
  · have := ha.2.2 b hb.1.1 h; have := hb.2.1 a ha.1.1 ha.1.2; omega
def lowStep (s : List Int) (b : Int) : Nat → Int
  | 0 => b
  | d + 1 => let i : Int := (s.length : Int) - ((d : Int) + 1); lowStep s (if rd s i < rd s b then i else b) d
def lowI (s : List Int) : Int := lowStep s 0 s.length
theorem lowStep_low {s : List Int} : ∀ (d : Nat) (b : Int), d ≤ s.length → (0 ≤ b ∧ b < (s.length : Int)) → (∀ k, 0 ≤ k → k < (s.length : Int) - d → rd s b ≤ rd s k) → (∀ k, 0 ≤ k → k < b → rd s b < rd s k) → isLow s (lowStep s b d) := by
  intro d
  induction d with
  | zero => intro b _ hb h1 h2; exact ⟨hb, fun k h0 hk => h1 k h0 (by omega), h2⟩
  | succ d ih =>
    intro b hd hb h1 h2
    simp only [lowStep]
    by_cases h : rd s ((s.length : Int) - ((d : Int) + 1)) < rd s b
    · rw [if_pos h]
      refine ih _ (by omega) (by omega) (fun k h0 hk => ?_) (fun k h0 hk => ?_)
      · by_cases e : k = (s.length : Int) - ((d : Int) + 1)
        · rw [e]; exact Int.le_refl _
        · have := h1 k h0 (by omega); omega
      · have := h1 k h0 (by omega); omega
    · rw [if_neg h]
      refine ih _ (by omega) hb (fun k h0 hk => ?_) h2
      by_cases e : k = (s.length : Int) - ((d : Int) + 1)
      · rw [e]; omega
      · exact h1 k h0 (by omega)
theorem lowI_low {s : List Int} (h : 0 < s.length) : isLow s (lowI s) :=
  lowStep_low s.length 0 (Nat.le_refl _) (by omega) (fun k h0 hk => by omega) (fun k h0 hk => by omega)
/-- the least of a row of which none is above a -/
def least (a : Int) (l : List Int) : Int := l.foldl mn a
theorem least_cons (a x : Int) (l : List Int) : least a (x :: l) = least (mn a x) l := rfl
theorem least_le : ∀ (l : List Int) (a : Int), least a l ≤ a ∧ ∀ x ∈ l, least a l ≤ x := by
  intro l
  induction l with
  | nil => intro a; exact ⟨Int.le_refl _, by simp⟩
  | cons x l ih =>
    intro a
    have h := ih (mn a x)
    have hm : mn a x ≤ a ∧ mn a x ≤ x := by unfold mn; split <;> omega
    rw [least_cons]
    refine ⟨by omega, fun y hy => ?_⟩
    cases hy with
    | head => omega
    | tail _ hy => exact h.2 y hy
theorem least_in : ∀ (l : List Int) (a : Int), least a l = a ∨ least a l ∈ l := by
  intro l
  induction l with
  | nil => intro a; exact Or.inl rfl
  | cons x l ih =>
    intro a
    rw [least_cons]
    rcases ih (mn a x) with h | h
    · rw [h]; unfold mn; split
      · exact Or.inr List.mem_cons_self
      · exact Or.inl rfl
    · exact Or.inr (List.mem_cons_of_mem _ h)
theorem min_l0 {l : List Int} (hl : l.length ≤ 1000) : ∀ (d i : Nat) (a : Int), i + d = l.length → Ev (fun k => slices_Min_int_int.l0 k l a (i : Int)) (least a (l.drop i)) := by
  intro d
  induction d with
  | zero =>
    intro i a hi
    refine Ev.succ ?_
    have h1 : ¬ (i : Int) < (l.length : Int) := by omega
    simp only [slices_Min_int_int.l0, h1, if_false, drop_end hi]
    exact Ev.now _
  | succ d ih =>
    intro i a hi
    refine Ev.succ ?_
    have h1 : (i : Int) < (l.length : Int) := by omega
    have h2 : (0 : Int) ≤ (i : Int) := by omega
    have h3 := ih (i + 1) (mn a (rd l (i : Int))) (by omega)
    rw [drop_rd (by omega), least_cons]
    simp only [slices_Min_int_int.l0, h1, h2, if_true, w_next (i := i) (by omega)]
    exact h3
theorem min_ok {x : Int} {l : List Int} (hl : l.length ≤ 900) : Ev (fun k => slices_Min_int_int.f k (x :: l)) (least x l) := by
  have h := min_l0 (l := x :: l) (by simp; omega) l.length 1 x (by simp; omega)
  unfold slices_Min_int_int.f
  have h1 : ¬ (((x :: l).length : Nat) : Int) < 1 := by rw [List.length_cons]; omega
  have h2 : 0 < (((x :: l).length : Nat) : Int) := by rw [List.length_cons]; omega
  simp only [h1, if_false, h2, if_true]
  exact h
/-- The place of the first that is v, if any is. -/
theorem index_l0 {s : List Int} (hs : s.length ≤ 1000) (v b : Int) (hb : isLow s b) (hv : v = rd s b) : ∀ (d i : Nat), (i : Int) + d = b → Ev (fun k => slices_Index_int_int.l0 k s v (s.length : Int) (i : Int)) b := by
  intro d
  induction d with
  | zero =>
    intro i hi
    have e : (i : Int) = b := by omega
    refine Ev.succ ?_
    rw [e]
    simp only [slices_Index_int_int.l0, hb.1.1, hb.1.2, if_true, hv]
    exact Ev.now _
  | succ d ih =>
    intro i hi
    refine Ev.succ ?_
    have h1 : (i : Int) < (s.length : Int) := by have := hb.1.2; omega
    have h2 : (0 : Int) ≤ (i : Int) := by omega
    have h4 := hb.2.2 (i : Int) h2 (by omega)
    have h5 : ¬ v = rd s (i : Int) := by omega
    have h3 := ih (i + 1) (by omega)
    simp only [slices_Index_int_int.l0, h1, h2, if_true, h5, if_false, w_next (i := i) (by omega)]
    exact h3
theorem low_impl {s : List Int} (hs : s.length ≤ 900) (h0 : 0 < s.length) : ∃ v, Ev (fun k => slices_Min_int_int.f k s) v ∧ Ev (fun k => slices_Index_int_int.f k s v) (lowI s) := by
  have hb := lowI_low h0
  cases s with
  | nil => simp at h0
  | cons x l =>
    refine ⟨least x l, min_ok (by simp at hs; omega), ?_⟩
    have h1 := least_le l x
    have hmem : ∀ y ∈ x :: l, least x l ≤ y := by
      intro y hy
      cases hy with
      | head => exact h1.1
      | tail _ hy => exact h1.2 y hy
    have hin : least x l ∈ x :: l := by
      rcases least_in l x with h | h
      · rw [h]; exact List.mem_cons_self
      · exact List.mem_cons_of_mem _ h
    have hv : least x l = rd (x :: l) (lowI (x :: l)) := by
      refine Int.le_antisymm ?_ ?_
      · obtain ⟨i, e⟩ := Int.eq_ofNat_of_zero_le hb.1.1
        have hi : i < (x :: l).length := by have := hb.1.2; omega
        rw [e, rd_at hi]; exact hmem _ (List.getElem_mem _)
      · obtain ⟨i, hi, e⟩ := List.getElem_of_mem hin
        have := hb.2.1 (i : Int) (by omega) (by omega)
        rw [rd_at hi, e] at this; exact this
    obtain ⟨d, e⟩ := Int.eq_ofNat_of_zero_le hb.1.1
    have := index_l0 (s := x :: l) (by omega) (least x l) _ hb hv d 0 (by omega)
    unfold slices_Index_int_int.f
    exact this
end Go.Proofs.Ytlipofjoihdbcaa.MFnHands
