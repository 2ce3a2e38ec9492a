/- The tasks that are drawn: there are some, whatever the bytes. -/
import Derived.Test.YtbbjpgdoekfnhaaRatesA
namespace Go.Proofs.Ytbbjpgdoekfnhaa.MFnRates
open Go.RowKit Go.Proofs.YtbbjpgdoekfnhaaW.PrintWords Go.Proofs.YtbbjpgdoekfnhaaW.PrintLast Go.Proofs.YtbbjpgdoekfnhaaW.PrintMore
theorem again_j2 {c : List Int} (hc : bytes8 c) (x3 : List S34) (b : Bool) (a s : Int) (h0 : 0 ≤ a) (h1 : a < 4000000000000000000) (hb : b = true → 0 < x3.length) (hl : x3.length ≤ 1000) :
    ∃ r, Ev (fun k => spec_l1Cur_again.j2 k x3 b c a s) r ∧ r.1.length ≤ 1000 := by
  cases b with
  | false => exact Ev.endsP (by simp only [spec_l1Cur_again.j2]; exact ⟨_, Ev.now _, hl⟩)
  | true =>
    obtain ⟨v, a1, s1, e1, _, h2, h3⟩ := among_ok hc a s [0, 10, 11] h0 (by omega) (by simp) (by simp)
    obtain ⟨v2, a2, s2, e2, _, h4, h5⟩ := among_ok hc a1 s1 [5, 40, 41] (by omega) (by omega) (by simp) (by simp)
    refine Ev.endsP ?_
    have : 0 < (x3.length : Int) := by have := hb rfl; omega
    simp only [spec_l1Cur_again.j2, e1, Option.bind_some, e2, if_true, this]
    exact ⟨_, Ev.now _, by simpa using hl⟩
theorem again_l0 {c : List Int} (hc : bytes8 c) (d : Nat) : ∀ (x3 : List S34) (x4 a s : Int), x4 ≤ d → x3.length + d ≤ 1000 → 0 ≤ a → a + 4 * d < 4000000000000000000 - 100 → -10 ≤ x4 →
    ∃ r, Ev (fun k => spec_l1Cur_again.l0 k x3 x4 c a s) r ∧ r.1.length ≤ 1000 := by
  induction d with
  | zero =>
    intro x3 x4 a s h4 hl h0 h1 _
    by_cases hz : (x3.length : Int) > 0
    · obtain ⟨b, a', s', e, h2, h3⟩ := one_ok hc a s 30 h0 (by omega) (by omega)
      obtain ⟨r, hr, hp⟩ := again_j2 hc x3 b a' s' (by omega) (by omega) (fun _ => by omega) (by omega)
      refine ⟨r, Ev.succ ?_, hp⟩
      have : ¬ x4 > 0 := by omega
      simp only [spec_l1Cur_again.l0, this, if_false, hz, if_true, e, Option.bind_some]
      exact hr
    · obtain ⟨r, hr, hp⟩ := again_j2 hc x3 false a s (by omega) (by omega) (by simp) (by omega)
      refine ⟨r, Ev.succ ?_, hp⟩
      have : ¬ x4 > 0 := by omega
      simp only [spec_l1Cur_again.l0, this, if_false, hz]
      exact hr
  | succ d ih =>
    intro x3 x4 a s h4 hl h0 h1 h5
    by_cases hx : x4 > 0
    · obtain ⟨v, a1, s1, e1, _, _, h2, h3⟩ := pick_ok hc a s 4 h0 (by omega) (by omega)
      obtain ⟨v2, a2, s2, e2, _, _, h6, h7⟩ := pick_ok hc a1 s1 14 (by omega) (by omega) (by omega)
      obtain ⟨t, ht⟩ : ∃ t, spec_l1Least.f 40 (wrap64 (wrap64 (1 + v) + v2)) = some t := by unfold spec_l1Least.f; split <;> exact ⟨_, rfl⟩
      obtain ⟨r, hr, hp⟩ := ih (x3 ++ [⟨wrap64 (1 + v), t⟩]) (x4 - 1) a2 s2 (by omega) (by simp; omega) (by omega) (by omega) (by omega)
      refine ⟨r, Ev.succ ?_, hp⟩
      have hl' : x3.length < 8796093022208 := by omega
      have hw : wrap64 (x4 - 1) = x4 - 1 := wrap64_in (by omega) (by omega)
      simp only [spec_l1Cur_again.l0, hx, if_true, e1, Option.bind_some, e2, ht, hl', hw]
      exact hr
    · exact ih x3 x4 a s (by omega) (by omega) h0 (by omega) h5
theorem draw_again {c : List Int} (hc : bytes8 c) : ∃ l, Ev (fun k => spec_DrawGoodAgain.f k c) l ∧ l.length ≤ 1000000 := by
  obtain ⟨n, a1, s1, e1, n0, n1, h2, h3⟩ := pick_ok hc 0 0 5 (by omega) (by omega) (by omega)
  obtain ⟨b, a2, s2, e2, h4, h5⟩ := one_ok hc a1 s1 20 (by omega) (by omega) (by omega)
  obtain ⟨m, a3, s3, e3, m0, m1, h6, h7⟩ := pick_ok hc a2 s2 2 (by omega) (by omega) (by omega)
  obtain ⟨r1, hr1, hp1⟩ := again_l0 hc 100 [] (wrap64 (5 + m)) a3 s3 (by rw [wrap64_in (by omega) (by omega)]; omega) (by simp) (by omega) (by omega) (by rw [wrap64_in (by omega) (by omega)]; omega)
  obtain ⟨r2, hr2, hp2⟩ := again_l0 hc 100 [] n a2 s2 (by omega) (by simp) (by omega) (by omega) (by omega)
  have key : ∃ r, Ev (fun k => spec_l1Cur_again.f k c 0 0) r ∧ r.1.length ≤ 1000 := by
    cases b with
    | true =>
      refine ⟨r1, ?_, hp1⟩
      simp only [spec_l1Cur_again.f, e1, Option.bind_some, e2, if_true, e3]
      exact Ev.succ (by simp only [spec_l1Cur_again.j0]; exact hr1)
    | false =>
      refine ⟨r2, ?_, hp2⟩
      simp only [spec_l1Cur_again.f, e1, Option.bind_some, e2]
      exact Ev.succ (by simp only [spec_l1Cur_again.j0]; exact hr2)
  obtain ⟨r, hr, hp⟩ := key
  exact ⟨r.1, Ev.bind hr (Ev.now _), by omega⟩
end Go.Proofs.Ytbbjpgdoekfnhaa.MFnRates
