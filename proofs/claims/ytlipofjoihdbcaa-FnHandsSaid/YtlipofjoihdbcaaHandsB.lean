/- The chores that are drawn: there are some, whatever the bytes. -/
import Derived.Test.YtlipofjoihdbcaaHandsL
import Derived.Test.YtlipofjoihdbcaaMFnHandsx2
namespace Go.Proofs.Ytlipofjoihdbcaa.MFnHands
open Go.RowKit Go.Proofs.YtlipofjoihdbcaaW.PrintWords Go.Proofs.YtlipofjoihdbcaaW.PrintLast Go.Proofs.YtlipofjoihdbcaaW.PrintMore
theorem chores_j2 {c : List Int} (hc : bytes8 c) (x4 : List Int) (b : Bool) (a s : Int) (h0 : 0 ≤ a) (h1 : a < 4000000000000000000) (hb : b = true → 0 < x4.length) (hl : x4.length ≤ 1000) :
    ∃ r, Ev (fun k => spec_l1Cur_chores.j2 k x4 b c a s) r ∧ (r.1.length ≤ 1000 ∧ (0 ≤ r.2.1 ∧ r.2.1 ≤ 5) ∧ a ≤ r.2.2.1 ∧ r.2.2.1 ≤ a + 10) := by
  cases b with
  | false =>
    obtain ⟨v, a1, s1, e1, hv, h2, h3⟩ := among_ok hc a s [0, 1, 2, 2, 3, 3, 4, 5] h0 (by omega) (by simp) (by simp)
    exact Ev.endsP (by simp only [spec_l1Cur_chores.j2, e1, Option.bind_some]; exact ⟨_, Ev.now _, hl, by simp at hv; simp; omega, by simp; omega, by simp; omega⟩)
  | true =>
    obtain ⟨v, a1, s1, e1, _, h2, h3⟩ := among_ok hc a s [0, 50, 51] h0 (by omega) (by simp) (by simp)
    obtain ⟨v2, a2, s2, e2, hv, h4, h5⟩ := among_ok hc a1 s1 [0, 1, 2, 2, 3, 3, 4, 5] (by omega) (by omega) (by simp) (by simp)
    refine Ev.endsP ?_
    have : 0 < (x4.length : Int) := by have := hb rfl; omega
    simp only [spec_l1Cur_chores.j2, e1, Option.bind_some, e2, if_true, this]
    exact ⟨_, Ev.now _, by simpa using hl, by simp at hv; simp; omega, by simp; omega, by simp; omega⟩
theorem chores_l0 {c : List Int} (hc : bytes8 c) (d : Nat) : ∀ (x4 : List Int) (x5 a s : Int), x5 ≤ d → x4.length + d ≤ 1000 → 0 ≤ a → a + 4 * d < 4000000000000000000 - 100 → -10 ≤ x5 →
    ∃ r, Ev (fun k => spec_l1Cur_chores.l0 k x4 x5 c a s) r ∧ (r.1.length ≤ 1000 ∧ (0 ≤ r.2.1 ∧ r.2.1 ≤ 5) ∧ a ≤ r.2.2.1 ∧ r.2.2.1 ≤ a + 4 * d + 20) := by
  induction d with
  | zero =>
    intro x4 x5 a s h4 hl h0 h1 _
    by_cases hz : (x4.length : Int) > 0
    · obtain ⟨b, a', s', e, h2, h3⟩ := one_ok hc a s 30 h0 (by omega) (by omega)
      obtain ⟨r, hr, hp, hh, q1, q2⟩ := chores_j2 hc x4 b a' s' (by omega) (by omega) (fun _ => by omega) (by omega)
      refine ⟨r, Ev.succ ?_, hp, hh, by omega, by omega⟩
      have : ¬ x5 > 0 := by omega
      simp only [spec_l1Cur_chores.l0, this, if_false, hz, if_true, e, Option.bind_some]
      exact hr
    · obtain ⟨r, hr, hp, hh, q1, q2⟩ := chores_j2 hc x4 false a s (by omega) (by omega) (by simp) (by omega)
      refine ⟨r, Ev.succ ?_, hp, hh, by omega, by omega⟩
      have : ¬ x5 > 0 := by omega
      simp only [spec_l1Cur_chores.l0, this, if_false, hz]
      exact hr
  | succ d ih =>
    intro x4 x5 a s h4 hl h0 h1 h5
    by_cases hx : x5 > 0
    · obtain ⟨v, a1, s1, e1, _, _, h2, h3⟩ := pick_ok hc a s 12 h0 (by omega) (by omega)
      obtain ⟨r, hr, hp, hh, q1, q2⟩ := ih (x4 ++ [wrap64 (1 + v)]) (x5 - 1) a1 s1 (by omega) (by simp; omega) (by omega) (by omega) (by omega)
      refine ⟨r, Ev.succ ?_, hp, hh, by omega, by omega⟩
      have hl' : x4.length < 17592186044416 := by omega
      have hw : wrap64 (x5 - 1) = x5 - 1 := wrap64_in (by omega) (by omega)
      simp only [spec_l1Cur_chores.l0, hx, if_true, e1, Option.bind_some, hl', hw]
      exact hr
    · obtain ⟨r, hr, hp, hh, q1, q2⟩ := ih x4 x5 a s (by omega) (by omega) h0 (by omega) h5
      exact ⟨r, hr, hp, hh, by omega, by omega⟩
theorem chores_ok {c : List Int} (hc : bytes8 c) : ∃ r, Ev (fun k => spec_l1Cur_chores.f k c 0 0) r ∧ (r.1.length ≤ 1000 ∧ (0 ≤ r.2.1 ∧ r.2.1 ≤ 5) ∧ 0 ≤ r.2.2.1 ∧ r.2.2.1 ≤ 1000) := by
  obtain ⟨n, a1, s1, e1, n0, n1, h2, h3⟩ := pick_ok hc 0 0 7 (by omega) (by omega) (by omega)
  obtain ⟨b, a2, s2, e2, h4, h5⟩ := one_ok hc a1 s1 20 (by omega) (by omega) (by omega)
  obtain ⟨m, a3, s3, e3, m0, m1, h6, h7⟩ := pick_ok hc a2 s2 2 (by omega) (by omega) (by omega)
  obtain ⟨r1, hr1, hp1, hh1, q1, q2⟩ := chores_l0 hc 100 [] (wrap64 (8 + m)) a3 s3 (by rw [wrap64_in (by omega) (by omega)]; omega) (by simp) (by omega) (by omega) (by rw [wrap64_in (by omega) (by omega)]; omega)
  obtain ⟨r2, hr2, hp2, hh2, q3, q4⟩ := chores_l0 hc 100 [] n a2 s2 (by omega) (by simp) (by omega) (by omega) (by omega)
  cases b with
  | true =>
    refine ⟨r1, ?_, hp1, hh1, by omega, by omega⟩
    simp only [spec_l1Cur_chores.f, e1, Option.bind_some, e2, if_true, e3]
    exact Ev.succ (by simp only [spec_l1Cur_chores.j0]; exact hr1)
  | false =>
    refine ⟨r2, ?_, hp2, hh2, by omega, by omega⟩
    simp only [spec_l1Cur_chores.f, e1, Option.bind_some, e2]
    exact Ev.succ (by simp only [spec_l1Cur_chores.j0]; exact hr2)
theorem most_eq (a b : Int) : spec_l1Most.f a b = some (if a > b then a else b) := by unfold spec_l1Most.f; split <;> rfl
theorem drawn_l0 {c : List Int} (hc : bytes8 c) (l : List Int) (n : Nat) (h : Int) (hh : h ≤ 5) : ∀ (d : Nat) (x8 : List Int) (a s : Int), x8.length + d = n → n ≤ 1000 → 0 ≤ a → a + 4 * d < 4000000000000000000 - 100 →
    ∃ r, Ev (fun k => spec_DrawSpanOf.l0 k l h x8 (n : Int) (x8.length : Int) c a s) r ∧ (r.1 = l ∧ r.2.1 = h ∧ r.2.2.length ≤ 1000) := by
  intro d
  induction d with
  | zero =>
    intro x8 a s hx hn h0 h1
    refine Ev.endsP ?_
    have h2 : ¬ ((x8.length : Nat) : Int) < (n : Int) := by omega
    by_cases hz : (x8.length : Int) > 0
    · obtain ⟨b, a', s', e, h3, h4⟩ := one_ok hc a s 20 h0 (by omega) (by omega)
      obtain ⟨v, a1, s1, e1, _, _, h5, h6⟩ := pick_ok hc a' s' 7 (by omega) (by omega) (by omega)
      have hz' : 0 < (x8.length : Int) := hz
      cases b with
      | true =>
        simp only [spec_DrawSpanOf.l0, h2, if_false, hz, if_true, e, Option.bind_some, e1, hz']
        exact ⟨_, Ev.now _, rfl, rfl, by simp; omega⟩
      | false =>
        simp only [spec_DrawSpanOf.l0, h2, if_false, hz, if_true, e, Option.bind_some]
        exact ⟨_, Ev.now _, rfl, rfl, by simp; omega⟩
    · simp only [spec_DrawSpanOf.l0, h2, if_false, hz]
      exact ⟨_, Ev.now _, rfl, rfl, by simp; omega⟩
  | succ d ih =>
    intro x8 a s hx hn h0 h1
    obtain ⟨v, a1, s1, e1, _, _, h5, h6⟩ := pick_ok hc a s (if 1 > h then 1 else h) h0 (by omega) (by split <;> omega)
    obtain ⟨r, hr, hp⟩ := ih (x8 ++ [v]) a1 s1 (by simp; omega) hn (by omega) (by omega)
    refine ⟨r, Ev.succ ?_, hp⟩
    have h2 : ((x8.length : Nat) : Int) < (n : Int) := by omega
    have h3 : x8.length < 17592186044416 := by omega
    have hw : wrap64 (((x8.length : Nat) : Int) + 1) = (((x8 ++ [v]).length : Nat) : Int) := by rw [wrap64_in (by omega) (by omega)]; simp
    simp only [spec_DrawSpanOf.l0, h2, if_true, most_eq, Option.bind_some, e1, h3, hw]
    exact hr
theorem drawn_ok {c : List Int} (hc : bytes8 c) : ∃ r, Ev (fun k => spec_DrawSpanOf.f k c) r ∧ (r.1.length ≤ 1000 ∧ (0 ≤ r.2.1 ∧ r.2.1 ≤ 5) ∧ r.2.2.length ≤ 1000) := by
  obtain ⟨⟨l, h, a, s⟩, hr, hl, hh, h0, h1⟩ := chores_ok hc
  obtain ⟨r, hr2, e1, e2, hp⟩ := drawn_l0 hc l l.length h hh.2 l.length [] a s (by simp) hl h0 (by simp at hl h1; omega)
  refine ⟨r, ?_, by rw [e1]; exact hl, by rw [e2]; exact hh, hp⟩
  unfold spec_DrawSpanOf.f
  exact Ev.bind hr hr2
end Go.Proofs.Ytlipofjoihdbcaa.MFnHands
