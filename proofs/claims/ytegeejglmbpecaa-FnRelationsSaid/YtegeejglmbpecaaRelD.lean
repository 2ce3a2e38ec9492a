/- Two spans stand in just one of thirteen ways, and the other way round in its counterpart: the statement over lists. -/
import Derived.Test.YtegeejglmbpecaaRelC
import Derived.Test.YtegeejglmbpecaaMFnRelationsx16
namespace Go.Proofs.Ytegeejglmbpecaa.MFnRelations
open Go.RowKit Go.Proofs.YtegeejglmbpecaaW.PrintWords Go.Proofs.YtegeejglmbpecaaW.PrintLast Go.Proofs.YtegeejglmbpecaaW.PrintMore
theorem law_j4 {d : List Int} (hd : bytes8 d) : Ev (fun k => laws_FnRelations.j4 k d) true := by
  obtain ⟨r, hr, hl⟩ := drawHas_ok hd
  obtain ⟨x, hx, hxl⟩ := drawLen_ok hd
  refine Ev.succ ?_
  simp only [laws_FnRelations.j4]
  refine Ev.bind hr (Ev.bind (impl_hp hl r.2) (Ev.bind (spec_hp hl r.2) (Ev.bind hx (Ev.bind (impl_lo hxl) (Ev.bind (spec_lo hxl) ?_)))))
  simp only [beq_self_eq_true, if_true]
  exact Ev.now _
/-- the counterpart of a way -/
def other (r : Int) : Int := if r = 3 then 3 else if r < 3 then r + 7 else if r < 8 then r + 6 else if r < 10 then r - 7 else r - 6
theorem relV_bd {a b : S24} (ha : okS a = true) (hb : okS b = true) : 1 ≤ relV a b ∧ relV a b ≤ 13 := by
  have h1 := relF_bd a b
  have h2 := relF_bd b a
  unfold relV
  by_cases h : relF a b > 0
  · rw [if_pos h]; omega
  · rw [if_neg h]
    have := rel_zero ha hb h
    (repeat' split) <;> omega
set_option maxHeartbeats 4000000 in
theorem rel_both {a b : S24} (ha : okS a = true) (hb : okS b = true) (p : relF a b > 0) (q : relF b a > 0) : relF a b = 3 ∧ relF b a = 3 := by
  have ha := okS_iff.mp ha
  have hb := okS_iff.mp hb
  unfold relF at p q ⊢
  constructor
  · (repeat' split at p) <;> (repeat' split at q) <;> (repeat' split) <;> omega
  · (repeat' split at p) <;> (repeat' split at q) <;> (repeat' split) <;> omega
theorem rel_three {a b : S24} (h : relF a b = 3) : relF b a = 3 := by
  have e : a.f0 = b.f0 ∧ a.f1 = b.f1 := by
    unfold relF at h
    (repeat' split at h) <;> first | assumption | (exact absurd h (by decide))
  have e : a = b := by cases a; cases b; simp_all
  subst e; exact h
theorem relV_other {a b : S24} (ha : okS a = true) (hb : okS b = true) : relV b a = other (relV a b) := by
  have h1 := relF_bd a b
  have h2 := relF_bd b a
  have both := rel_both ha hb
  have z1 := rel_zero ha hb
  have z2 := rel_zero hb ha
  have t1 := rel_three (a := a) (b := b)
  have t2 := rel_three (a := b) (b := a)
  unfold relV
  generalize relF a b = m at *
  generalize relF b a = n at *
  unfold other
  by_cases hm : m > 0
  · by_cases hn : n > 0
    · obtain ⟨r1, r2⟩ := both hm hn
      subst r1; subst r2; rfl
    · have h3 : m ≠ 3 := fun h => by have := t1 h; omega
      have h4 : n = 0 := by omega
      subst h4
      have : m = 1 ∨ m = 2 ∨ m = 4 ∨ m = 5 ∨ m = 6 ∨ m = 7 := by omega
      rcases this with e | e | e | e | e | e <;> (subst e; rfl)
  · have h4 : m = 0 := by omega
    have := z1 hm
    have : n = 1 ∨ n = 2 ∨ n = 4 ∨ n = 5 ∨ n = 6 ∨ n = 7 := by omega
    subst h4
    rcases this with e | e | e | e | e | e <;> (subst e; rfl)
theorem apart_iff {a b : S24} (ha : okS a = true) (hb : okS b = true) : (relF a b = 1 ∨ relF a b = 2 ∨ relF b a = 1 ∨ relF b a = 2) ↔ (relV a b = 1 ∨ relV a b = 2 ∨ relV a b = 8 ∨ relV a b = 9) := by
  have h1 := relF_bd a b
  have h2 := relF_bd b a
  have both := rel_both ha hb
  have z1 := rel_zero ha hb
  unfold relV
  generalize relF a b = m at *
  generalize relF b a = n at *
  by_cases hm : m > 0
  · rw [if_pos hm]
    have : n > 0 → n = 3 := fun h => (both hm h).2
    omega
  · rw [if_neg hm]
    have := z1 hm
    (repeat' split) <;> omega
theorem law_j3 {d : List Int} (hd : bytes8 d) : Ev (fun k => laws_FnRelations.j3 k d false) true := by
  refine Ev.succ ?_
  simp only [laws_FnRelations.j3, Bool.false_eq_true, if_false]
  exact law_j4 hd
theorem law_j2 {d : List Int} (hd : bytes8 d) {v : Int} {l : List S24} {ap : Bool} (h0 : 1 ≤ v) (h1 : v ≤ 13) (hl : ((l.length : Int) == 0) = ap) :
    Ev (fun k => laws_FnRelations.j2 k d v (other v) true l true (other v) ap) true := by
  have e1 : ¬ v < 1 := by omega
  have e2 : ¬ v > 13 := by omega
  refine Ev.succ ?_
  simp only [laws_FnRelations.j2, e1, e2, if_false, if_true, hl, bne_self_eq_false]
  exact law_j3 hd
theorem law_j1 {d : List Int} (hd : bytes8 d) {v : Int} {l : List S24} (h0 : 1 ≤ v) (h1 : v ≤ 13) (hl : ((l.length : Int) == 0) = decide (v = 1 ∨ v = 2 ∨ v = 8 ∨ v = 9)) :
    Ev (fun k => laws_FnRelations.j1 k d v (other v) true l true (other v)) true := by
  refine Ev.succ ?_
  simp only [laws_FnRelations.j1]
  by_cases c1 : v = 1
  · rw [decide_eq_true (Or.inl c1)] at hl
    simp only [if_pos c1]; exact law_j2 hd h0 h1 hl
  by_cases c2 : v = 2
  · rw [decide_eq_true (Or.inr (Or.inl c2))] at hl
    simp only [if_neg c1, if_pos c2]; exact law_j2 hd h0 h1 hl
  by_cases c3 : v = 8
  · rw [decide_eq_true (Or.inr (Or.inr (Or.inl c3)))] at hl
    simp only [if_neg c1, if_neg c2, if_pos c3]; exact law_j2 hd h0 h1 hl
  · simp only [if_neg c1, if_neg c2, if_neg c3]
    refine law_j2 hd h0 h1 ?_
    rw [hl]
    by_cases c4 : v = 9 <;> simp [c1, c2, c3, c4]
theorem law_j0 {d : List Int} (hd : bytes8 d) (a b : S24) : Ev (fun k => laws_FnRelations.j0 k d (relR a b).1 (relR a b).2 false a.f0 a.f1 b.f0 b.f1) true := by
  refine Ev.succ ?_
  simp only [laws_FnRelations.j0, Bool.false_eq_true, if_false]
  cases ha : okS a with
  | false =>
    have e : relR a b = (0, false) := by simp [relR, ha]
    simp only [e, Bool.false_eq_true, if_false]
    exact law_j4 hd
  | true =>
    cases hb : okS b with
    | false =>
      have e : relR a b = (0, false) := by simp [relR, hb]
      simp only [e, Bool.false_eq_true, if_false]
      exact law_j4 hd
    | true =>
      have e : relR a b = (relV a b, true) := by simp [relR, ha, hb]
      have e2 : relR b a = (other (relV a b), true) := by simp [relR, ha, hb, relV_other ha hb]
      obtain ⟨h0, h1⟩ := relV_bd ha hb
      have hl : (((meet1 a b).length : Int) == 0) = decide (relV a b = 1 ∨ relV a b = 2 ∨ relV a b = 8 ∨ relV a b = 9) := by
        rw [meet_len ha hb]
        by_cases h : relF a b = 1 ∨ relF a b = 2 ∨ relF b a = 1 ∨ relF b a = 2
        · rw [if_pos h, decide_eq_true ((apart_iff ha hb).mp h)]; rfl
        · rw [if_neg h, decide_eq_false (fun g => h ((apart_iff ha hb).mpr g))]; rfl
      rw [e]
      simp only [if_true]
      refine Ev.bind (impl_relR b a) ?_
      rw [e2]
      have em : Ev (fun k => impl_MeetSpans.f k [a] [b]) (meet1 a b, true) := meet_ok ha hb
      refine Ev.bind em ?_
      have fin := law_j1 hd (l := meet1 a b) h0 h1 hl
      generalize relV a b = v at *
      have w7 : wrap64 (v + 7) = v + 7 := wrap64_in (by omega) (by omega)
      have w6 : wrap64 (v + 6) = v + 6 := wrap64_in (by omega) (by omega)
      have u7 : wrap64 (v - 7) = v - 7 := wrap64_in (by omega) (by omega)
      have u6 : wrap64 (v - 6) = v - 6 := wrap64_in (by omega) (by omega)
      rw [w7, w6, u7, u6]
      by_cases c1 : v = 3
      · have eo : other v = 3 := by unfold other; rw [if_pos c1]
        simp only [if_pos c1]; rw [eo] at fin ⊢; exact fin
      by_cases c2 : v < 3
      · have eo : other v = v + 7 := by unfold other; rw [if_neg c1, if_pos c2]
        simp only [if_neg c1, if_pos c2]; rw [eo] at fin ⊢; exact fin
      by_cases c3 : v < 8
      · have eo : other v = v + 6 := by unfold other; rw [if_neg c1, if_neg c2, if_pos c3]
        simp only [if_neg c1, if_neg c2, if_pos c3]; rw [eo] at fin ⊢; exact fin
      by_cases c4 : v < 10
      · have eo : other v = v - 7 := by unfold other; rw [if_neg c1, if_neg c2, if_neg c3, if_pos c4]
        simp only [if_neg c1, if_neg c2, if_neg c3, if_pos c4]; rw [eo] at fin ⊢; exact fin
      · have eo : other v = v - 6 := by unfold other; rw [if_neg c1, if_neg c2, if_neg c3, if_neg c4]
        simp only [if_neg c1, if_neg c2, if_neg c3, if_neg c4]; rw [eo] at fin ⊢; exact fin
theorem FnRelations : laws_FnRelations.Pure := by
  intro c d _ _ hc0 _ _ hd0
  have hc := bytes8_of hc0
  have hd := bytes8_of hd0
  show ∃ k, laws_FnRelations.f k c d = some true
  have h : Ev (fun k => laws_FnRelations.f k c d) true := by
    unfold laws_FnRelations.f
    by_cases hz : wrap64 ((c.length : Int) + (d.length : Int)) > 1048576
    · simp only [if_pos hz]; exact Ev.now _
    · simp only [if_neg hz]
      obtain ⟨a, b, e⟩ := drawRel_ok hc
      rw [e]
      simp only [Option.bind_some]
      refine Ev.bind (impl_relR a b) (Ev.bind (spec_relR a b) ?_)
      simp only [bne_self_eq_false, Bool.false_eq_true, if_false]
      exact law_j0 hd a b
  exact Ev.rounds h
end Go.Proofs.Ytegeejglmbpecaa.MFnRelations
