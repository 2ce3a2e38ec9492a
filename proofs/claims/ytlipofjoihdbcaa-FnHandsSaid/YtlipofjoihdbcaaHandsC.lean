/- Good chores; the most and the least of a row; what a hand has: what the functions answer. -/
import Derived.Test.YtlipofjoihdbcaaHandsB
import Derived.Test.YtlipofjoihdbcaaMFnHandsx3
import Derived.Test.YtlipofjoihdbcaaMFnHandsx4
namespace Go.Proofs.Ytlipofjoihdbcaa.MFnHands
open Go.RowKit Go.Proofs.YtlipofjoihdbcaaW.PrintWords Go.Proofs.YtlipofjoihdbcaaW.PrintLast Go.Proofs.YtlipofjoihdbcaaW.PrintMore
def inB (a b c : Int) : Bool := decide (b ≤ a) && decide (a ≤ c)
theorem in_eq (a b c : Int) : impl_in.f a b c = some (inB a b c) := by unfold impl_in.f inB; split <;> rename_i h <;> simp [h]
theorem l1In_eq (a b c : Int) : spec_l1In.f a b c = some (inB a b c) := by unfold spec_l1In.f inB; split <;> rename_i h <;> simp [h]
theorem idxO_any {α : Type} {p : α → Option Bool} {q : α → Bool} (e : ∀ x, p x = some (q x)) : ∀ (l : List α) (i : Int), 0 ≤ i → ∃ j, idxO p l i = some j ∧ decide (0 ≤ j) = l.any q := by
  have e : p = fun x => some (q x) := funext e
  subst e
  intro l
  induction l with
  | nil => intro i _; exact ⟨-1, rfl, rfl⟩
  | cons x l ih =>
    intro i hi
    simp only [idxO, Option.bind_some]
    cases hx : q x with
    | false =>
      obtain ⟨j, hj, hd⟩ := ih (i + 1) (by omega)
      exact ⟨j, by simpa using hj, by simpa [hx] using hd⟩
    | true => exact ⟨i, by simp, by simp [hx, hi]⟩
theorem rd_at {o : List Int} {i : Nat} (h : i < o.length) : rd o (i : Int) = o[i] := by simp [rd, List.getD, h]
theorem drop_rd {l : List Int} {i : Nat} (h : i < l.length) : l.drop i = rd l (i : Int) :: l.drop (i + 1) := by
  rw [rd_at h]; exact List.drop_eq_getElem_cons h
theorem drop_end {α : Type} {l : List α} {i : Nat} (h : i + 0 = l.length) : l.drop i = [] := List.drop_eq_nil_of_le (by omega)
theorem w_next {i : Nat} (h : i ≤ 1000000) : wrap64 ((i : Int) + 1) = ((i + 1 : Nat) : Int) := by rw [wrap64_in (by omega) (by omega)]; omega
def good (l : List Int) (h : Int) : Bool := decide (l.length ≤ 8) && (l.all (fun x => inB x 1 50) && inB h 1 4)
theorem impl_good (l : List Int) (h : Int) : impl_GoodChores.f l h = some (good l h) := by
  obtain ⟨j, hj, hd⟩ := idxO_any (p := fun x => impl_GoodChores_1.f x) (q := fun x => !inB x 1 50) (fun x => by simp [impl_GoodChores_1.f, in_eq]) l 0 (by omega)
  unfold impl_GoodChores.f slices_ContainsFunc_30_impl_GoodChores_1.f slices_IndexFunc_61_impl_GoodChores_1.f good
  rw [hj]
  simp only [Option.bind_some, hd, in_eq]
  have he : l.any (fun x => !inB x 1 50) = !l.all (fun x => inB x 1 50) := by rw [List.not_all_eq_any_not]
  rw [he]
  by_cases h8 : l.length ≤ 8
  · rw [if_pos (by omega)]; cases l.all (fun x => inB x 1 50) <;> simp [h8]
  · rw [if_neg (by omega)]; simp [h8]
theorem all_l0 {l : List Int} (hl : l.length ≤ 1000) (a b : Int) : ∀ (d i : Nat), i + d = l.length → Ev (fun k => spec_l1All.l0 k a b l (l.length : Int) (i : Int)) ((l.drop i).all (fun x => inB x a b)) := by
  intro d
  induction d with
  | zero =>
    intro i hi
    refine Ev.succ ?_
    have h1 : ¬ (i : Int) < (l.length : Int) := by omega
    simp only [spec_l1All.l0, h1, if_false, drop_end hi, List.all_nil]
    exact Ev.now _
  | succ d ih =>
    intro i hi
    refine Ev.succ ?_
    have h1 : (i : Int) < (l.length : Int) := by omega
    have h2 : (0 : Int) ≤ (i : Int) := by omega
    have h3 := ih (i + 1) (by omega)
    rw [drop_rd (by omega)]
    simp only [spec_l1All.l0, h1, h2, if_true, l1In_eq, Option.bind_some, w_next (i := i) (by omega), List.all_cons]
    cases inB (rd l (i : Int)) a b with
    | false => simp only [Bool.false_and, Bool.false_eq_true, if_false]; exact Ev.now _
    | true => simp only [Bool.true_and, if_true]; exact h3
theorem all_ok {l : List Int} (hl : l.length ≤ 1000) (a b : Int) : Ev (fun k => spec_l1All.f k l a b) (l.all (fun x => inB x a b)) := by
  have := all_l0 hl a b l.length 0 (by omega)
  simpa [spec_l1All.f] using this
theorem spec_good {l : List Int} (hl : l.length ≤ 1000) (h : Int) : Ev (fun k => spec_GoodChores.f k l h) (good l h) := by
  unfold spec_GoodChores.f good
  by_cases h8 : l.length ≤ 8
  · have : (l.length : Int) ≤ 8 := by omega
    simp only [this, if_true, h8, decide_true, Bool.true_and]
    refine Ev.bind (all_ok hl 1 50) ?_
    cases l.all (fun x => inB x 1 50) with
    | false => simp only [Bool.false_and, Bool.false_eq_true, if_false]; exact Ev.now _
    | true => simp only [Bool.true_and, if_true, l1In_eq, Option.bind_some]; exact Ev.now _
  · have : ¬ (l.length : Int) ≤ 8 := by omega
    simp only [this, if_false, h8, decide_false, Bool.false_and]; exact Ev.now _
theorem good_parts {l : List Int} {h : Int} (hg : good l h = true) : l.length ≤ 8 ∧ (∀ x ∈ l, 1 ≤ x ∧ x ≤ 50) ∧ 1 ≤ h ∧ h ≤ 4 := by
  simp only [good, inB, Bool.and_eq_true, decide_eq_true_eq, List.all_eq_true] at hg
  exact ⟨hg.1, fun x hx => hg.2.1 x hx, hg.2.2.1, hg.2.2.2⟩
/-- the most of a row of which none is below a -/
def most (a : Int) (l : List Int) : Int := l.foldl (fun a b => if a > b then a else b) a
theorem most_cons (a x : Int) (l : List Int) : most a (x :: l) = most (if a > x then a else x) l := rfl
theorem most_le {m : Int} : ∀ {l : List Int} {a : Int}, a ≤ m → (∀ x ∈ l, x ≤ m) → most a l ≤ m := by
  intro l
  induction l with
  | nil => intro a h _; exact h
  | cons x l ih => intro a h hx; rw [most_cons]; exact ih (by have := hx x List.mem_cons_self; split <;> omega) (fun y hy => hx y (List.mem_cons_of_mem _ hy))
theorem most_ge : ∀ (l : List Int) (a : Int), a ≤ most a l ∧ ∀ x ∈ l, x ≤ most a l := by
  intro l
  induction l with
  | nil => intro a; exact ⟨Int.le_refl _, by simp⟩
  | cons x l ih =>
    intro a
    have h := ih (if a > x then a else x)
    rw [most_cons]
    refine ⟨by have := h.1; split at this <;> omega, fun y hy => ?_⟩
    cases hy with
    | head => have := h.1; split at this <;> omega
    | tail _ hy => exact h.2 y hy
theorem most_in : ∀ (l : List Int) (a : Int), most a l = a ∨ most a l ∈ l := by
  intro l
  induction l with
  | nil => intro a; exact Or.inl rfl
  | cons x l ih =>
    intro a
    rw [most_cons]
    rcases ih (if a > x then a else x) with h | h
    · rw [h]; split
      · exact Or.inl rfl
      · exact Or.inr List.mem_cons_self
    · exact Or.inr (List.mem_cons_of_mem _ h)
theorem mx_eq (a b : Int) : mx a b = if a > b then a else b := by unfold mx; split <;> split <;> omega
theorem max_l0 {l : List Int} (hl : l.length ≤ 1000) : ∀ (d i : Nat) (a : Int), i + d = l.length → Ev (fun k => slices_Max_int_int.l0 k l a (i : Int)) (most a (l.drop i)) := by
  intro d
  induction d with
  | zero =>
    intro i a hi
    refine Ev.succ ?_
    have h1 : ¬ (i : Int) < (l.length : Int) := by omega
    simp only [slices_Max_int_int.l0, h1, if_false, drop_end hi]
    exact Ev.now _
  | succ d ih =>
    intro i a hi
    refine Ev.succ ?_
    have h1 : (i : Int) < (l.length : Int) := by omega
    have h2 : (0 : Int) ≤ (i : Int) := by omega
    have h3 := ih (i + 1) (if a > rd l (i : Int) then a else rd l (i : Int)) (by omega)
    rw [drop_rd (by omega), most_cons]
    simp only [slices_Max_int_int.l0, h1, h2, if_true, mx_eq, w_next (i := i) (by omega)]
    exact h3
theorem max_ok {x : Int} {l : List Int} (hl : l.length ≤ 900) : Ev (fun k => slices_Max_int_int.f k (x :: l)) (most x l) := by
  have h := max_l0 (l := x :: l) (by simp; omega) l.length 1 x (by simp; omega)
  unfold slices_Max_int_int.f
  have h1 : ¬ (((x :: l).length : Nat) : Int) < 1 := by rw [List.length_cons]; omega
  have h2 : 0 < (((x :: l).length : Nat) : Int) := by rw [List.length_cons]; omega
  simp only [h1, if_false, h2, if_true]
  exact h
theorem max_ok0 {l : List Int} (hl : l.length ≤ 900) (h0 : 0 < l.length) (hp : ∀ x ∈ l, 0 ≤ x) : Ev (fun k => slices_Max_int_int.f k l) (most 0 l) := by
  cases l with
  | nil => simp at h0
  | cons x l =>
    have := max_ok (x := x) (l := l) (by simp at hl; omega)
    rw [most_cons]
    have h2 := hp x List.mem_cons_self
    have e : (if 0 > x then 0 else x) = x := by split <;> omega
    rw [e]; exact this
end Go.Proofs.Ytlipofjoihdbcaa.MFnHands
