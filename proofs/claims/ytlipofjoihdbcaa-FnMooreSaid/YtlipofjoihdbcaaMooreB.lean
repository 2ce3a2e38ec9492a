/- The tasks and the orders that are drawn: there are some, whatever the bytes. -/
import Derived.Test.YtlipofjoihdbcaaMooreA
import Derived.Test.YtlipofjoihdbcaaMFnMoorex2
namespace Go.Proofs.Ytlipofjoihdbcaa.MFnMoore
open Go.RowKit Go.Proofs.YtlipofjoihdbcaaW.PrintWords Go.Proofs.YtlipofjoihdbcaaW.PrintLast Go.Proofs.YtlipofjoihdbcaaW.PrintMore
theorem tasks_j2 {c : List Int} (hc : bytes8 c) (x3 : List S69) (b : Bool) (a s : Int) (h0 : 0 ≤ a) (h1 : a < 4000000000000000000) (hb : b = true → 0 < x3.length) (hl : x3.length ≤ 1000) :
    ∃ r, Ev (fun k => spec_l1Cur_tasks.j2 k x3 b c a s) r ∧ (r.1.length ≤ 1000 ∧ a ≤ r.2.1 ∧ r.2.1 ≤ a + 10) := by
  cases b with
  | false => exact Ev.endsP (by simp only [spec_l1Cur_tasks.j2]; exact ⟨_, Ev.now _, hl, by simp, by simp; omega⟩)
  | true =>
    obtain ⟨v, a1, s1, e1, _, h2, h3⟩ := among_ok hc a s [0, 20, 21] h0 (by omega) (by simp) (by simp)
    obtain ⟨v2, a2, s2, e2, _, h4, h5⟩ := among_ok hc a1 s1 [-1, 200, 201] (by omega) (by omega) (by simp) (by simp)
    refine Ev.endsP ?_
    have : 0 < (x3.length : Int) := by have := hb rfl; omega
    simp only [spec_l1Cur_tasks.j2, e1, Option.bind_some, e2, if_true, this]
    exact ⟨_, Ev.now _, by simpa using hl, by simp; omega, by simp; omega⟩
theorem tasks_l0 {c : List Int} (hc : bytes8 c) (d : Nat) : ∀ (x3 : List S69) (x4 a s : Int), x4 ≤ d → x3.length + d ≤ 1000 → 0 ≤ a → a + 4 * d < 4000000000000000000 - 100 → -10 ≤ x4 →
    ∃ r, Ev (fun k => spec_l1Cur_tasks.l0 k x3 x4 c a s) r ∧ (r.1.length ≤ 1000 ∧ a ≤ r.2.1 ∧ r.2.1 ≤ a + 4 * d + 20) := by
  induction d with
  | zero =>
    intro x3 x4 a s h4 hl h0 h1 _
    by_cases hz : (x3.length : Int) > 0
    · obtain ⟨b, a', s', e, h2, h3⟩ := one_ok hc a s 30 h0 (by omega) (by omega)
      obtain ⟨r, hr, hp, q1, q2⟩ := tasks_j2 hc x3 b a' s' (by omega) (by omega) (fun _ => by omega) (by omega)
      refine ⟨r, Ev.succ ?_, hp, by omega, by omega⟩
      have : ¬ x4 > 0 := by omega
      simp only [spec_l1Cur_tasks.l0, this, if_false, hz, if_true, e, Option.bind_some]
      exact hr
    · obtain ⟨r, hr, hp, q1, q2⟩ := tasks_j2 hc x3 false a s (by omega) (by omega) (by simp) (by omega)
      refine ⟨r, Ev.succ ?_, hp, by omega, by omega⟩
      have : ¬ x4 > 0 := by omega
      simp only [spec_l1Cur_tasks.l0, this, if_false, hz]
      exact hr
  | succ d ih =>
    intro x3 x4 a s h4 hl h0 h1 h5
    by_cases hx : x4 > 0
    · obtain ⟨v, a1, s1, e1, _, _, h2, h3⟩ := pick_ok hc a s 8 h0 (by omega) (by omega)
      obtain ⟨v2, a2, s2, e2, _, _, h6, h7⟩ := pick_ok hc a1 s1 25 (by omega) (by omega) (by omega)
      obtain ⟨r, hr, hp, q1, q2⟩ := ih (x3 ++ [⟨wrap64 (1 + v), v2⟩]) (x4 - 1) a2 s2 (by omega) (by simp; omega) (by omega) (by omega) (by omega)
      refine ⟨r, Ev.succ ?_, hp, by omega, by omega⟩
      have hl' : x3.length < 8796093022208 := by omega
      have hw : wrap64 (x4 - 1) = x4 - 1 := wrap64_in (by omega) (by omega)
      simp only [spec_l1Cur_tasks.l0, hx, if_true, e1, Option.bind_some, e2, hl', hw]
      exact hr
    · obtain ⟨r, hr, hp, q1, q2⟩ := ih x3 x4 a s (by omega) (by omega) h0 (by omega) h5
      exact ⟨r, hr, hp, by omega, by omega⟩
theorem tasks_ok {c : List Int} (hc : bytes8 c) : ∃ r, Ev (fun k => spec_l1Cur_tasks.f k c 0 0) r ∧ (r.1.length ≤ 1000 ∧ 0 ≤ r.2.1 ∧ r.2.1 ≤ 1000) := by
  obtain ⟨n, a1, s1, e1, n0, n1, h2, h3⟩ := pick_ok hc 0 0 7 (by omega) (by omega) (by omega)
  obtain ⟨b, a2, s2, e2, h4, h5⟩ := one_ok hc a1 s1 20 (by omega) (by omega) (by omega)
  obtain ⟨m, a3, s3, e3, m0, m1, h6, h7⟩ := pick_ok hc a2 s2 2 (by omega) (by omega) (by omega)
  obtain ⟨r1, hr1, hp1, q1, q2⟩ := tasks_l0 hc 100 [] (wrap64 (10 + m)) a3 s3 (by rw [wrap64_in (by omega) (by omega)]; omega) (by simp) (by omega) (by omega) (by rw [wrap64_in (by omega) (by omega)]; omega)
  obtain ⟨r2, hr2, hp2, q3, q4⟩ := tasks_l0 hc 100 [] n a2 s2 (by omega) (by simp) (by omega) (by omega) (by omega)
  cases b with
  | true =>
    refine ⟨r1, ?_, hp1, by omega, by omega⟩
    simp only [spec_l1Cur_tasks.f, e1, Option.bind_some, e2, if_true, e3]
    exact Ev.succ (by simp only [spec_l1Cur_tasks.j0]; exact hr1)
  | false =>
    refine ⟨r2, ?_, hp2, by omega, by omega⟩
    simp only [spec_l1Cur_tasks.f, e1, Option.bind_some, e2]
    exact Ev.succ (by simp only [spec_l1Cur_tasks.j0]; exact hr2)
theorem order_l1 {c : List Int} (hc : bytes8 c) (n : Nat) (hn : n ≤ 1000) (d : Nat) : ∀ (x5 : List Int) (x7 a s : Int), x5.length = n → x7 ≤ d → 0 ≤ a → a + 10 * d < 4000000000000000000 - 100 → -10 ≤ x7 → d ≤ 1000 →
    ∃ r, Ev (fun k => spec_l1Cur_taskOrder.l1 k (n : Int) x5 x7 c a s) r ∧ r.1.length ≤ 1000 := by
  have last : ∀ (x5 : List Int) (x7 a s : Int), x5.length = n → 0 ≤ a → a < 4000000000000000000 - 100 → ∃ r, Ev (fun k => spec_l1Cur_taskOrder.j2 k (n : Int) x5 x7 false c a s) r ∧ r.1.length ≤ 1000 := by
    intro x5 x7 a s hx5 h0 h1
    refine Ev.endsP ?_
    by_cases hz : (n : Int) > 0
    · obtain ⟨b, a', s', e, h2, h3⟩ := one_ok hc a s 20 h0 (by omega) (by omega)
      have hw : wrap64 ((n : Int) + 2) = (n : Int) + 2 := wrap64_in (by omega) (by omega)
      obtain ⟨v, a2, s2, e2, _, _, h6, h7⟩ := pick_ok hc a' s' ((n : Int) + 2) (by omega) (by omega) (by omega)
      have hl : 0 < (x5.length : Int) := by omega
      cases b with
      | true =>
        simp only [spec_l1Cur_taskOrder.j2, Bool.false_eq_true, if_false, hz, if_true, e, Option.bind_some, hw, e2, hl]
        exact ⟨_, Ev.now _, by simp; omega⟩
      | false =>
        simp only [spec_l1Cur_taskOrder.j2, Bool.false_eq_true, if_false, hz, if_true, e, Option.bind_some]
        exact ⟨_, Ev.now _, by simp; omega⟩
    · simp only [spec_l1Cur_taskOrder.j2, Bool.false_eq_true, if_false, hz]
      exact ⟨_, Ev.now _, by simp; omega⟩
  induction d with
  | zero =>
    intro x5 x7 a s hx5 h7 h0 h1 _ _
    obtain ⟨r, hr, hp⟩ := last x5 x7 a s hx5 h0 (by omega)
    refine ⟨r, Ev.succ ?_, hp⟩
    have : ¬ x7 > 0 := by omega
    simp only [spec_l1Cur_taskOrder.l1, this, if_false]; exact hr
  | succ d ih =>
    intro x5 x7 a s hx5 h7 h0 h1 h8 h9
    by_cases hx : x7 > 0
    · by_cases h2 : (n : Int) > 1
      · obtain ⟨v, a1, s1, e1, v0, v1, h3, h4⟩ := pick_ok hc a s (n : Int) h0 (by omega) (by omega)
        obtain ⟨v2, a2, s2, e2, u0, u1, h5, h6⟩ := pick_ok hc a1 s1 (n : Int) (by omega) (by omega) (by omega)
        obtain ⟨r, hr, hp⟩ := ih ((x5.set v.toNat (rd x5 v2)).set v2.toNat (rd x5 v)) (x7 - 1) a2 s2 (by simpa using hx5) (by omega) (by omega) (by omega) (by omega) (by omega)
        refine ⟨r, Ev.succ ?_, hp⟩
        simp only [spec_l1Cur_taskOrder.l1, hx, if_true, h2, decide_true]
        refine Ev.succ ?_
        have w1 : v < (x5.length : Int) := by omega
        have w2 : v2 < (x5.length : Int) := by omega
        have hw : wrap64 (x7 - 1) = x7 - 1 := wrap64_in (by omega) (by omega)
        simp only [spec_l1Cur_taskOrder.j2, if_true, e1, Option.bind_some, e2, v0, u0, w1, w2, hw]
        exact hr
      · obtain ⟨r, hr, hp⟩ := last x5 x7 a s hx5 h0 (by omega)
        refine ⟨r, Ev.succ ?_, hp⟩
        simp only [spec_l1Cur_taskOrder.l1, hx, if_true, h2, decide_false]; exact hr
    · exact ih x5 x7 a s hx5 (by omega) h0 (by omega) h8 (by omega)
theorem order_l0 {c : List Int} (hc : bytes8 c) (n : Nat) (hn : n ≤ 1000) (a s : Int) (h0 : 0 ≤ a) (h1 : a ≤ 1000000) : ∀ (d : Nat) (x5 : List Int), x5.length + d = n →
    ∃ r, Ev (fun k => spec_l1Cur_taskOrder.l0 k (n : Int) x5 (x5.length : Int) c a s) r ∧ r.1.length ≤ 1000 := by
  intro d
  induction d with
  | zero =>
    intro x5 hx
    obtain ⟨v, a1, s1, e1, v0, v1, h3, h4⟩ := pick_ok hc a s 6 h0 (by omega) (by omega)
    obtain ⟨r, hr, hp⟩ := order_l1 hc n hn 10 x5 v a1 s1 (by omega) (by omega) (by omega) (by omega) (by omega) (by omega)
    refine ⟨r, Ev.succ ?_, hp⟩
    have : ¬ ((x5.length : Nat) : Int) < (n : Int) := by omega
    simp only [spec_l1Cur_taskOrder.l0, this, if_false, e1, Option.bind_some]; exact hr
  | succ d ih =>
    intro x5 hx
    obtain ⟨r, hr, hp⟩ := ih (x5 ++ [(x5.length : Int)]) (by simp; omega)
    refine ⟨r, Ev.succ ?_, hp⟩
    have h2 : ((x5.length : Nat) : Int) < (n : Int) := by omega
    have h3 : x5.length < 17592186044416 := by omega
    have hw : wrap64 (((x5.length : Nat) : Int) + 1) = (((x5 ++ [(x5.length : Int)]).length : Nat) : Int) := by rw [wrap64_in (by omega) (by omega)]; simp
    simp only [spec_l1Cur_taskOrder.l0, h2, if_true, h3, hw]; exact hr
theorem draw_order {c : List Int} (hc : bytes8 c) : ∃ r, Ev (fun k => spec_DrawLatenessOf.f k c) r ∧ (r.1.length ≤ 1000000 ∧ r.2.length ≤ 1000000) := by
  obtain ⟨r, hr, h1, h2, h3⟩ := tasks_ok hc
  obtain ⟨q, hq, h4⟩ := order_l0 hc r.1.length h1 r.2.1 r.2.2 h2 (by omega) r.1.length [] (by simp)
  refine ⟨(r.1, q.1), ?_, by simp; omega, by simp; omega⟩
  unfold spec_DrawLatenessOf.f
  refine Ev.bind hr (Ev.bind ?_ (Ev.now _))
  exact hq
end Go.Proofs.Ytlipofjoihdbcaa.MFnMoore
