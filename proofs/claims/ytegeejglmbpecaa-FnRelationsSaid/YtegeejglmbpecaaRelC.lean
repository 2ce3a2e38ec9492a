/- Relations; whether a number is in spans; how many are; what two spans have both. -/
import Derived.Test.YtegeejglmbpecaaRelB
import Derived.Test.YtegeejglmbpecaaMFnRelationsx7
import Derived.Test.YtegeejglmbpecaaMFnRelationsx15
namespace Go.Proofs.Ytegeejglmbpecaa.MFnRelations
open Go.RowKit Go.Proofs.YtegeejglmbpecaaW.PrintWords Go.Proofs.YtegeejglmbpecaaW.PrintLast Go.Proofs.YtegeejglmbpecaaW.PrintMore
def relF (a b : S24) : Int :=
  if a.f1 < b.f0 then 1 else if a.f1 = b.f0 then 2 else if a.f0 = b.f0 ∧ a.f1 = b.f1 then 3 else if a.f0 = b.f0 ∧ a.f1 < b.f1 then 4 else if a.f1 = b.f1 ∧ b.f0 < a.f0 then 5
  else if b.f0 < a.f0 ∧ a.f1 < b.f1 then 6 else if a.f0 < b.f0 ∧ b.f0 < a.f1 ∧ a.f1 < b.f1 then 7 else 0
set_option maxHeartbeats 4000000 in
theorem rel_ev (a b : S24) : Ev (fun k => impl_relation.f k a.f0 a.f1 b.f0 b.f1) (relF a b) ∧ Ev (fun k => spec_l2Relation.f k a.f0 a.f1 b.f0 b.f1) (relF a b) := by
  unfold impl_relation.f spec_l2Relation.f relF
  by_cases h1 : a.f1 < b.f0
  · simp only [h1, if_true]; exact ⟨Ev.now _, Ev.now _⟩
  by_cases h2 : a.f1 = b.f0
  · simp only [h1, h2, if_true, if_false]; simp only [Int.lt_irrefl, if_false]; exact ⟨Ev.now _, Ev.now _⟩
  by_cases h3 : a.f0 = b.f0 ∧ a.f1 = b.f1
  · have e : (a.f0 == b.f0 && (a.f1 == b.f1)) = true := by simp [h3.1, h3.2]
    simp only [if_neg h1, if_neg h2, if_pos h3, if_pos e]; exact ⟨Ev.now _, Ev.now _⟩
  have e3 : ¬ ((a.f0 == b.f0 && (a.f1 == b.f1)) = true) := by simpa using h3
  simp only [h1, h2, h3, e3, if_false]
  by_cases h4 : a.f0 = b.f0
  · by_cases h5 : a.f1 < b.f1
    · simp only [h4, h5, if_true, decide_true, and_self]
      exact ⟨Ev.succ (by simp only [impl_relation.j0, if_true]; exact Ev.now _), Ev.succ (by simp only [spec_l2Relation.j0, if_true]; exact Ev.now _)⟩
    · have h6 : ¬ a.f1 = b.f1 := fun h => h3 ⟨h4, h⟩
      have h7 : ¬ b.f0 < b.f0 := by omega
      have h8 : ¬ b.f0 > b.f0 := by omega
      simp only [h4, h5, if_true, if_false, decide_false, and_false, h6, h7, and_self, false_and]
      refine ⟨Ev.succ ?_, Ev.succ ?_⟩
      · simp only [impl_relation.j0, Bool.false_eq_true, if_false, h6]
        refine Ev.succ ?_
        simp only [impl_relation.j1, Bool.false_eq_true, if_false, h8]
        refine Ev.succ ?_
        simp only [impl_relation.j2, Bool.false_eq_true, if_false, h7]; exact Ev.now _
      · simp only [spec_l2Relation.j0, Bool.false_eq_true, if_false, h6]
        refine Ev.succ ?_
        simp only [spec_l2Relation.j1, Bool.false_eq_true, if_false, h7]
        refine Ev.succ ?_
        simp only [spec_l2Relation.j2, Bool.false_eq_true, if_false, h7]; exact Ev.now _
  simp only [h4, if_false, false_and]
  have j2 : ∀ r : Int, (r = if a.f0 < b.f0 ∧ b.f0 < a.f1 ∧ a.f1 < b.f1 then 7 else 0) → Ev (fun k => impl_relation.j2 k false a.f0 a.f1 b.f0 b.f1) r ∧ Ev (fun k => spec_l2Relation.j2 k false a.f0 a.f1 b.f0 b.f1) r := by
    intro r hr
    subst hr
    by_cases g1 : a.f0 < b.f0
    · by_cases g2 : b.f0 < a.f1
      · have g2' : a.f1 > b.f0 := g2
        by_cases g3 : a.f1 < b.f1
        · exact ⟨Ev.succ (by simp only [impl_relation.j2, Bool.false_eq_true, if_false, g1, g2', g2, g3, if_true, and_self]; exact Ev.now _), Ev.succ (by simp only [spec_l2Relation.j2, Bool.false_eq_true, if_false, g1, g2, g3, if_true, and_self]; exact Ev.now _)⟩
        · exact ⟨Ev.succ (by simp only [impl_relation.j2, Bool.false_eq_true, if_false, g1, g2', g2, g3, if_true, and_false]; exact Ev.now _), Ev.succ (by simp only [spec_l2Relation.j2, Bool.false_eq_true, if_false, g1, g2, g3, if_true, and_false]; exact Ev.now _)⟩
      · have g2' : ¬ a.f1 > b.f0 := g2
        exact ⟨Ev.succ (by simp only [impl_relation.j2, Bool.false_eq_true, if_false, g1, g2', g2, if_true, false_and, and_false]; exact Ev.now _), Ev.succ (by simp only [spec_l2Relation.j2, Bool.false_eq_true, if_false, g1, g2, if_true, false_and, and_false]; exact Ev.now _)⟩
    · exact ⟨Ev.succ (by simp only [impl_relation.j2, Bool.false_eq_true, if_false, g1, false_and]; exact Ev.now _), Ev.succ (by simp only [spec_l2Relation.j2, Bool.false_eq_true, if_false, g1, false_and]; exact Ev.now _)⟩
  have j1 : ∀ r : Int, (r = if b.f0 < a.f0 ∧ a.f1 < b.f1 then 6 else if a.f0 < b.f0 ∧ b.f0 < a.f1 ∧ a.f1 < b.f1 then 7 else 0) → Ev (fun k => impl_relation.j1 k false a.f0 a.f1 b.f0 b.f1) r ∧ Ev (fun k => spec_l2Relation.j1 k false a.f0 a.f1 b.f0 b.f1) r := by
    intro r hr
    by_cases g1 : b.f0 < a.f0
    · have g1' : a.f0 > b.f0 := g1
      by_cases g3 : a.f1 < b.f1
      · simp only [g1, g3, and_self, if_true] at hr
        subst hr
        refine ⟨Ev.succ ?_, Ev.succ ?_⟩
        · simp only [impl_relation.j1, Bool.false_eq_true, if_false, g1', if_true, g3, decide_true]
          exact Ev.succ (by simp only [impl_relation.j2, if_true]; exact Ev.now _)
        · simp only [spec_l2Relation.j1, Bool.false_eq_true, if_false, g1, if_true, g3, decide_true]
          exact Ev.succ (by simp only [spec_l2Relation.j2, if_true]; exact Ev.now _)
      · simp only [g3, and_false, if_false] at hr
        have := j2 r (by simp only [g3, and_false, if_false]; exact hr)
        refine ⟨Ev.succ ?_, Ev.succ ?_⟩
        · simp only [impl_relation.j1, Bool.false_eq_true, if_false, g1', if_true, g3, decide_false]; exact this.1
        · simp only [spec_l2Relation.j1, Bool.false_eq_true, if_false, g1, if_true, g3, decide_false]; exact this.2
    · have g1' : ¬ a.f0 > b.f0 := g1
      simp only [g1, false_and, if_false] at hr
      have := j2 r hr
      refine ⟨Ev.succ ?_, Ev.succ ?_⟩
      · simp only [impl_relation.j1, Bool.false_eq_true, if_false, g1']; exact this.1
      · simp only [spec_l2Relation.j1, Bool.false_eq_true, if_false, g1]; exact this.2
  by_cases h5 : a.f1 = b.f1
  · by_cases h6 : b.f0 < a.f0
    · simp only [h5, h6, and_self, if_true]
      refine ⟨Ev.succ ?_, Ev.succ ?_⟩
      · simp only [impl_relation.j0, Bool.false_eq_true, if_false, if_true, h6, decide_true]
        exact Ev.succ (by simp only [impl_relation.j1, if_true]; exact Ev.now _)
      · simp only [spec_l2Relation.j0, Bool.false_eq_true, if_false, if_true, h6, decide_true]
        exact Ev.succ (by simp only [spec_l2Relation.j1, if_true]; exact Ev.now _)
    · have h7 : ¬ a.f1 < b.f1 := by omega
      have := j1 (if a.f1 = b.f1 ∧ b.f0 < a.f0 then 5 else if b.f0 < a.f0 ∧ a.f1 < b.f1 then 6 else if a.f0 < b.f0 ∧ b.f0 < a.f1 ∧ a.f1 < b.f1 then 7 else 0) (by simp only [h6, and_false, if_false])
      refine ⟨Ev.succ ?_, Ev.succ ?_⟩
      · simp only [impl_relation.j0, Bool.false_eq_true, if_false, h5, if_true, h6, decide_false]; simpa only [h5, h6] using this.1
      · simp only [spec_l2Relation.j0, Bool.false_eq_true, if_false, h5, if_true, h6, decide_false]; simpa only [h5, h6] using this.2
  · simp only [h5, false_and, if_false]
    have := j1 _ rfl
    refine ⟨Ev.succ ?_, Ev.succ ?_⟩
    · simp only [impl_relation.j0, Bool.false_eq_true, if_false, h5]; exact this.1
    · simp only [spec_l2Relation.j0, Bool.false_eq_true, if_false, h5]; exact this.2
set_option maxHeartbeats 4000000 in
theorem relF_bd (a b : S24) : 0 ≤ relF a b ∧ relF a b ≤ 7 := by unfold relF; (repeat' split) <;> omega
def relV (a b : S24) : Int := if relF a b > 0 then relF a b else if relF b a = 1 then 8 else if relF b a = 2 then 9 else 6 + relF b a
def relR (a b : S24) : Int × Bool := if okS a && okS b then (relV a b, true) else (0, false)
set_option maxHeartbeats 4000000 in
theorem rel_zero {a b : S24} (ha : okS a = true) (hb : okS b = true) (h : ¬ relF a b > 0) : relF b a ≠ 0 ∧ relF b a ≠ 3 := by
  have ha := okS_iff.mp ha
  have hb := okS_iff.mp hb
  unfold relF at h ⊢
  constructor
  · intro h0
    (repeat' split at h) <;> (repeat' split at h0) <;> omega
  · intro h0
    (repeat' split at h) <;> (repeat' split at h0) <;> omega
theorem impl_relR (a b : S24) : Ev (fun k => impl_RelationOf.f k a.f0 a.f1 b.f0 b.f1) (relR a b) := by
  unfold impl_RelationOf.f relR
  rw [isSpan_eq]
  simp only [Option.bind_some]
  cases ha : okS a with
  | false =>
    simp only [Bool.false_eq_true, if_false, Bool.false_and]
    exact Ev.succ (by simp only [impl_RelationOf.j0, if_true]; exact Ev.now _)
  | true =>
    simp only [if_true, isSpan_eq, Option.bind_some, Bool.true_and]
    cases hb : okS b with
    | false => simp only [Bool.not_false, Bool.false_eq_true, if_false]; exact Ev.succ (by simp only [impl_RelationOf.j0, if_true]; exact Ev.now _)
    | true =>
      simp only [Bool.not_true, if_true]
      refine Ev.succ ?_
      simp only [impl_RelationOf.j0, Bool.false_eq_true, if_false]
      refine Ev.bind (rel_ev a b).1 ?_
      unfold relV
      by_cases h : relF a b > 0
      · simp only [h, if_true]; exact Ev.now _
      · simp only [h, if_false]
        refine Ev.bind (rel_ev b a).1 ?_
        obtain ⟨z1, z2⟩ := rel_zero ha hb h
        have hbd := relF_bd b a
        have : relF b a = 1 ∨ relF b a = 2 ∨ relF b a = 4 ∨ relF b a = 5 ∨ relF b a = 6 ∨ relF b a = 7 := by omega
        rcases this with e | e | e | e | e | e <;> (rw [e]; exact ⟨0, fun _ _ => rfl⟩)
theorem spec_relR (a b : S24) : Ev (fun k => spec_RelationOf.f k a.f0 a.f1 b.f0 b.f1) (relR a b) := by
  unfold spec_RelationOf.f relR
  rw [l2Span_eq]
  simp only [Option.bind_some]
  cases ha : okS a with
  | false =>
    simp only [Bool.false_eq_true, if_false, Bool.false_and]
    exact Ev.succ (by simp only [spec_RelationOf.j0, if_true]; exact Ev.now _)
  | true =>
    simp only [if_true, l2Span_eq, Option.bind_some, Bool.true_and]
    cases hb : okS b with
    | false => simp only [Bool.not_false, Bool.false_eq_true, if_false]; exact Ev.succ (by simp only [spec_RelationOf.j0, if_true]; exact Ev.now _)
    | true =>
      simp only [Bool.not_true, if_true]
      refine Ev.succ ?_
      simp only [spec_RelationOf.j0, Bool.false_eq_true, if_false]
      refine Ev.bind (rel_ev a b).2 ?_
      unfold relV
      by_cases h : relF a b > 0
      · simp only [h, if_true]; exact Ev.now _
      · simp only [h, if_false]
        refine Ev.bind (rel_ev b a).2 ?_
        obtain ⟨z1, z2⟩ := rel_zero ha hb h
        have hbd := relF_bd b a
        have : relF b a = 1 ∨ relF b a = 2 ∨ relF b a = 4 ∨ relF b a = 5 ∨ relF b a = 6 ∨ relF b a = 7 := by omega
        have w7 : wrap64 (7 + relF b a) = 7 + relF b a := wrap64_in (by omega) (by omega)
        have w6 : wrap64 (6 + relF b a) = 6 + relF b a := wrap64_in (by omega) (by omega)
        rw [w7, w6]
        rcases this with e | e | e | e | e | e <;> (rw [e]; exact ⟨0, fun _ _ => rfl⟩)
/-! #### a number in spans; how many -/
theorem idxO_any {α : Type} {p : α → Option Bool} {q : α → Bool} (e : ∀ x, p x = some (q x)) : ∀ (l : List α) (i : Int), 0 ≤ i → ∃ j, idxO p l i = some j ∧ decide (0 ≤ j) = l.any q := by
  have e : p = fun x => some (q x) := funext e
  subst e
  intro l
  induction l with
  | nil => intro i _; exact ⟨-1, rfl, rfl⟩
  | cons x l ih =>
    intro i hi
    simp only [idxO, Option.bind_some]
    cases hx : q x with
    | false =>
      obtain ⟨j, hj, hd⟩ := ih (i + 1) (by omega)
      exact ⟨j, by simpa using hj, by simpa [hx] using hd⟩
    | true => exact ⟨i, by simp, by simp [hx, hi]⟩
def inS (n : Int) (x : S24) : Bool := decide (n ≥ x.f0) && decide (n < x.f1)
theorem impl_has_eq (l : List S24) (n : Int) : impl_has.f l n = some (l.any (inS n)) := by
  obtain ⟨j, hj, hd⟩ := idxO_any (p := fun x => impl_has_1.f x.f0 x.f1 [n]) (q := inS n) (fun x => by
    have h0 : (0 : Int) < (([n] : List Int).length : Int) := by simp
    have h1 : rd [n] 0 = n := rfl
    unfold impl_has_1.f inS
    rw [if_pos h0, h1]
    by_cases h : n ≥ x.f0
    · rw [if_pos h]; simp [h]
    · rw [if_neg h]; simp [h]) l 0 (by omega)
  unfold impl_has.f slices_ContainsFunc_82_impl_has_1.f slices_IndexFunc_98_impl_has_1.f
  rw [hj]; simp only [Option.bind_some, hd]
theorem spec_has_l0 {l : List S24} (hl : l.length ≤ 1000) (n : Int) : ∀ (d i : Nat), i + d = l.length → Ev (fun k => spec_l2Has.l0 k n l (l.length : Int) (i : Int)) ((l.drop i).any (inS n)) := by
  intro d
  induction d with
  | zero =>
    intro i hi
    have h1 : ¬ (i : Int) < (l.length : Int) := by omega
    rw [List.drop_eq_nil_of_le (by omega)]
    exact Ev.succ (by simp only [spec_l2Has.l0, h1, if_false, List.any_nil]; exact Ev.now _)
  | succ d ih =>
    intro i hi
    have h1 : (i : Int) < (l.length : Int) := by omega
    have h2 : (0 : Int) ≤ (i : Int) := by omega
    have h3 := ih (i + 1) (by omega)
    rw [drop_rdT (by omega), List.any_cons]
    refine Ev.succ ?_
    by_cases c1 : n ≥ (rd_T24 l (i : Int)).f0
    · by_cases c2 : n < (rd_T24 l (i : Int)).f1
      · simp only [spec_l2Has.l0, h1, h2, if_true, c1, c2, inS, decide_true, Bool.true_and, Bool.true_or]; exact Ev.now _
      · simp only [spec_l2Has.l0, h1, h2, if_true, c1, c2, if_false, w_next (i := i) (by omega)]
        have e : inS n (rd_T24 l (i : Int)) = false := by simp [inS, c2]
        rw [e, Bool.false_or]; exact h3
    · simp only [spec_l2Has.l0, h1, h2, if_true, c1, if_false, w_next (i := i) (by omega)]
      have e : inS n (rd_T24 l (i : Int)) = false := by simp only [inS, c1, decide_false, Bool.false_and]
      rw [e, Bool.false_or]; exact h3
def hpR (l : List S24) (n : Int) : Bool × Bool := if goodS l then (l.any (inS n), true) else (false, false)
theorem impl_hp {l : List S24} (hl : l.length ≤ 1000) (n : Int) : Ev (fun k => impl_HasPoint.f k l n) (hpR l n) := by
  unfold impl_HasPoint.f hpR
  refine Ev.bind (impl_are hl) ?_
  cases goodS l with
  | false => simp only [Bool.false_eq_true, if_false]; exact Ev.now _
  | true => simp only [if_true, impl_has_eq, Option.bind_some]; exact Ev.now _
theorem spec_hp {l : List S24} (hl : l.length ≤ 1000) (n : Int) : Ev (fun k => spec_HasPoint.f k l n) (hpR l n) := by
  unfold spec_HasPoint.f hpR
  refine Ev.bind (spec_goodS hl) ?_
  cases goodS l with
  | false => simp only [Bool.false_eq_true, if_false]; exact Ev.now _
  | true =>
    simp only [if_true]
    refine Ev.bind (a := l.any (inS n)) ?_ (Ev.now _)
    exact spec_has_l0 hl n l.length 0 (by omega)
def lenV (l : List S24) : Int := l.foldl (fun t x => wrap64 (t + wrap64 (x.f1 - x.f0))) 0
theorem len_l0 {l : List S24} (hl : l.length ≤ 1000) : ∀ (d i : Nat) (t : Int), i + d = l.length → Ev (fun k => impl_length.l0 k t l (l.length : Int) (i : Int)) ((l.drop i).foldl (fun t x => wrap64 (t + wrap64 (x.f1 - x.f0))) t) ∧
    Ev (fun k => spec_l2Length.l0 k t l (l.length : Int) (i : Int)) ((l.drop i).foldl (fun t x => wrap64 (t + wrap64 (x.f1 - x.f0))) t) := by
  intro d
  induction d with
  | zero =>
    intro i t hi
    have h1 : ¬ (i : Int) < (l.length : Int) := by omega
    rw [List.drop_eq_nil_of_le (by omega)]
    exact ⟨Ev.succ (by simp only [impl_length.l0, h1, if_false, List.foldl_nil]; exact Ev.now _), Ev.succ (by simp only [spec_l2Length.l0, h1, if_false, List.foldl_nil]; exact Ev.now _)⟩
  | succ d ih =>
    intro i t hi
    have h1 : (i : Int) < (l.length : Int) := by omega
    have h2 : (0 : Int) ≤ (i : Int) := by omega
    have h3 := ih (i + 1) (wrap64 (t + wrap64 ((rd_T24 l (i : Int)).f1 - (rd_T24 l (i : Int)).f0))) (by omega)
    rw [drop_rdT (by omega), List.foldl_cons]
    exact ⟨Ev.succ (by simp only [impl_length.l0, h1, h2, if_true, w_next (i := i) (by omega)]; exact h3.1), Ev.succ (by simp only [spec_l2Length.l0, h1, h2, if_true, w_next (i := i) (by omega)]; exact h3.2)⟩
def loR (l : List S24) : Int × Bool := if goodS l then (lenV l, true) else (0, false)
theorem impl_lo {l : List S24} (hl : l.length ≤ 1000) : Ev (fun k => impl_LengthOf.f k l) (loR l) := by
  unfold impl_LengthOf.f loR
  refine Ev.bind (impl_are hl) ?_
  cases goodS l with
  | false => simp only [Bool.false_eq_true, if_false]; exact Ev.now _
  | true => simp only [if_true]; exact Ev.bind (a := lenV l) (len_l0 hl l.length 0 0 (by omega)).1 (Ev.now _)
theorem spec_lo {l : List S24} (hl : l.length ≤ 1000) : Ev (fun k => spec_LengthOf.f k l) (loR l) := by
  unfold spec_LengthOf.f loR
  refine Ev.bind (spec_goodS hl) ?_
  cases goodS l with
  | false => simp only [Bool.false_eq_true, if_false]; exact Ev.now _
  | true => simp only [if_true]; exact Ev.bind (a := lenV l) (len_l0 hl l.length 0 0 (by omega)).2 (Ev.now _)
/-! #### what two spans have both -/
set_option maxRecDepth 100000 in
theorem len_bits {n : Nat} (hn : n ≤ 1) : ∃ v, Ev (fun k => bits_Len.f k (IntKind.u64.wrap (n : Int))) v := by
  have e : IntKind.u64.wrap (n : Int) = (n : Int) := by
    have e : IntKind.u64.wrap (n : Int) = (n : Int) % 18446744073709551616 := by simp [IntKind.wrap, IntKind.bits, IntKind.signed]
    rw [e]; omega
  rw [e]
  have h1 : ¬ (n : Int) ≥ 4294967296 := by omega
  have h2 : ¬ (n : Int) ≥ 65536 := by omega
  have h3 : ¬ (n : Int) ≥ 256 := by omega
  have h4 : (0 : Int) ≤ (n : Int) % 256 := by omega
  have h5 : (n : Int) % 256 < 256 := by omega
  unfold bits_Len.f bits_Len64.f
  simp only [h1, if_false]
  obtain ⟨v, hv⟩ : ∃ v, Ev (fun k => bits_Len64.j0 k (n : Int) 0) v := Ev.ends (by
    unfold bits_Len64.j0
    simp only [if_neg h2, if_neg h3, if_pos h4, if_pos h5]
    exact ⟨_, Ev.now _⟩)
  exact ⟨v, Ev.bind hv (Ev.now _)⟩
theorem sort_few {l : List S24} (hl : l.length ≤ 1) : Ev (fun k => slices_SortFunc_84_impl_joined_1.f k l) l := by
  unfold slices_SortFunc_84_impl_joined_1.f
  obtain ⟨v, hv⟩ := len_bits hl
  refine Ev.bind hv (Ev.bind (a := l) ?_ (Ev.now _))
  refine Ev.succ ?_
  simp only [slices_pdqsortCmpFunc_99_impl_joined_1.f]
  refine Ev.succ ?_
  have h1 : wrap64 ((l.length : Int) - 0) ≤ 12 := by rw [wrap64_in (by omega) (by omega)]; omega
  simp only [slices_pdqsortCmpFunc_99_impl_joined_1.l0, h1, if_true]
  refine Ev.bind (a := l) (Ev.succ ?_) (Ev.now _)
  simp only [slices_insertionSortCmpFunc_113_impl_joined_1.f]
  refine Ev.succ ?_
  have h2 : ¬ wrap64 (0 + 1) < (l.length : Int) := by rw [wrap64_in (by omega) (by omega)]; omega
  simp only [slices_insertionSortCmpFunc_113_impl_joined_1.l0, h2, if_false]
  exact Ev.now _
theorem joined_few {l : List S24} (hl : l.length ≤ 1) : Ev (fun k => impl_joined.f k l) l := by
  unfold impl_joined.f impl_Span_69.f
  have h1 : ([] : List S24).length + l.length < 8796093022208 := by simp; omega
  simp only [Option.bind_some, h1, if_true, List.nil_append]
  refine Ev.bind (sort_few hl) ?_
  have hw : ¬ wrap64 ((([] : List S24).length : Int) - 1) ≥ 0 := by rw [wrap64_in (by simp) (by simp)]; simp
  match l, hl with
  | [], _ =>
    have h2 : ¬ (0 : Int) < ((([] : List S24).length : Nat) : Int) := by simp
    exact Ev.succ (by simp only [impl_joined.l0, h2, if_false]; exact Ev.now _)
  | [x], _ =>
    have h2 : (0 : Int) < ((([x] : List S24).length : Nat) : Int) := by simp
    have h3 : (0 : Int) ≤ 0 := by omega
    have h4 : ([] : List S24).length < 8796093022208 := by simp
    have e : rd_T24 [x] 0 = x := rfl
    have hw1 : wrap64 ((0 : Int) + 1) = 1 := wrap64_in (by omega) (by omega)
    have h5 : ¬ (1 : Int) < ((([x] : List S24).length : Nat) : Int) := by simp
    refine Ev.succ ?_
    simp only [impl_joined.l0, h2, h3, if_true, hw, if_false, h4, e, hw1, List.nil_append]
    exact Ev.succ (by simp only [impl_joined.l0, h5, if_false]; exact Ev.now _)
def meet1 (a b : S24) : List S24 := if mx a.f0 b.f0 < mn a.f1 b.f1 then [⟨mx a.f0 b.f0, mn a.f1 b.f1⟩] else []
theorem are_one {a : S24} (ha : okS a = true) : Ev (fun k => impl_areSpans.f k [a]) true := by
  have h := impl_are (l := [a]) (by simp)
  have e : goodS [a] = true := by simp [goodS, chain, ha]
  rw [e] at h; exact h
theorem meet_ok {a b : S24} (ha : okS a = true) (hb : okS b = true) : Ev (fun k => impl_MeetSpans.f k [a] [b]) (meet1 a b, true) := by
  unfold impl_MeetSpans.f
  refine Ev.bind (are_one ha) ?_
  simp only [if_true]
  refine Ev.bind (are_one hb) ?_
  simp only [Bool.not_true]
  refine Ev.succ ?_
  simp only [impl_MeetSpans.j0, Bool.false_eq_true, if_false]
  have hlen : (meet1 a b).length ≤ 1 := by unfold meet1; split <;> simp
  refine Ev.bind (a := meet1 a b) ?_ ?_
  · unfold impl_met.f
    have h2 : (0 : Int) < ((([a] : List S24).length : Nat) : Int) := by simp
    have h2b : (0 : Int) < ((([b] : List S24).length : Nat) : Int) := by simp
    have h3 : (0 : Int) ≤ 0 := by omega
    have h4 : ([] : List S24).length < 8796093022208 := by simp
    have ea : rd_T24 [a] 0 = a := rfl
    have eb : rd_T24 [b] 0 = b := rfl
    have hw1 : wrap64 ((0 : Int) + 1) = 1 := wrap64_in (by omega) (by omega)
    have h5 : ¬ (1 : Int) < ((([a] : List S24).length : Nat) : Int) := by simp
    have h5b : ¬ (1 : Int) < ((([b] : List S24).length : Nat) : Int) := by simp
    have fin : ∀ r : List S24, r.length ≤ 1 → Ev (fun k => impl_met.l1 k [b] r [a] (([a] : List S24).length : Int) 0 [b] (([b] : List S24).length : Int) 1 a.f0 a.f1) r := by
      intro r hr
      refine Ev.succ ?_
      simp only [impl_met.l1, h5b, if_false, hw1]
      refine Ev.succ ?_
      simp only [impl_met.l0, h5, if_false]
      exact Ev.bind (joined_few hr) (Ev.now _)
    refine Ev.succ ?_
    simp only [impl_met.l0, h2, h3, if_true, ea]
    refine Ev.succ ?_
    by_cases hc : mx a.f0 b.f0 < mn a.f1 b.f1
    · simp only [impl_met.l1, h2b, h3, if_true, eb, hc, h4, hw1, List.nil_append]
      have := fin (meet1 a b) hlen
      unfold meet1 at this ⊢
      rw [if_pos hc] at this ⊢
      exact this
    · simp only [impl_met.l1, h2b, h3, if_true, eb, hc, if_false, hw1]
      have := fin (meet1 a b) hlen
      unfold meet1 at this ⊢
      rw [if_neg hc] at this ⊢
      exact this
  · have h : ¬ ((meet1 a b).length : Int) > 20 := by omega
    simp only [impl_few.f, h, if_false, Option.bind_some]
    exact Ev.now _
set_option maxHeartbeats 4000000 in
theorem meet_len {a b : S24} (ha : okS a = true) (hb : okS b = true) : ((meet1 a b).length : Int) = if relF a b = 1 ∨ relF a b = 2 ∨ relF b a = 1 ∨ relF b a = 2 then 0 else 1 := by
  have ha := okS_iff.mp ha
  have hb := okS_iff.mp hb
  have e1 : relF a b = 1 ∨ relF a b = 2 ↔ a.f1 ≤ b.f0 := by unfold relF; (repeat' split) <;> omega
  have e2 : relF b a = 1 ∨ relF b a = 2 ↔ b.f1 ≤ a.f0 := by unfold relF; (repeat' split) <;> omega
  unfold meet1
  by_cases hc : mx a.f0 b.f0 < mn a.f1 b.f1
  · rw [if_pos hc, if_neg]
    · rfl
    · unfold mx mn at hc
      (repeat' split at hc) <;> omega
  · rw [if_neg hc, if_pos]
    · rfl
    · unfold mx mn at hc
      (repeat' split at hc) <;> omega
end Go.Proofs.Ytegeejglmbpecaa.MFnRelations
