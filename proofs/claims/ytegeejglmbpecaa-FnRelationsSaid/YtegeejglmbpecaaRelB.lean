/- Drawn spans; what a good span is; the thirteen ways. -/
import Derived.Test.YtegeejglmbpecaaRelA
import Derived.Test.YtegeejglmbpecaaMFnRelationsx15
namespace Go.Proofs.Ytegeejglmbpecaa.MFnRelations
open Go.RowKit Go.Proofs.YtegeejglmbpecaaW.PrintWords Go.Proofs.YtegeejglmbpecaaW.PrintLast Go.Proofs.YtegeejglmbpecaaW.PrintMore
theorem span_ok {c : List Int} (hc : bytes8 c) (a s : Int) (h0 : 0 ≤ a) (h1 : a < 4000000000000000000) :
    ∃ p q a' s', spec_l1Cur_span.f c a s = some (p, q, a', s') ∧ a ≤ a' ∧ a' ≤ a + 10 := by
  obtain ⟨b, a1, s1, e1, h2, h3⟩ := one_ok hc a s 30 h0 (by omega) (by omega)
  cases b with
  | true =>
    obtain ⟨v, a2, s2, e2, _, h4, h5⟩ := among_ok hc a1 s1 [-1, 5, 999999] (by omega) (by omega) (by simp) (by simp)
    obtain ⟨v3, a3, s3, e3, _, h6, h7⟩ := among_ok hc a2 s2 [0, 5, 1000000, 1000001] (by omega) (by omega) (by simp) (by simp)
    exact ⟨v, v3, a3, s3, by simp only [spec_l1Cur_span.f, e1, Option.bind_some, if_true, e2, e3], by omega, by omega⟩
  | false =>
    obtain ⟨v, a2, s2, e2, _, _, h4, h5⟩ := pick_ok hc a1 s1 30 (by omega) (by omega) (by omega)
    obtain ⟨v3, a3, s3, e3, _, _, h6, h7⟩ := pick_ok hc a2 s2 8 (by omega) (by omega) (by omega)
    exact ⟨v, wrap64 (wrap64 (v + 1) + v3), a3, s3, by simp only [spec_l1Cur_span.f, e1, Option.bind_some, Bool.false_eq_true, if_false, e2, e3], by omega, by omega⟩
theorem drawRel_ok {c : List Int} (hc : bytes8 c) : ∃ a b : S24, spec_DrawRelationOf.f c = some (a.f0, a.f1, b.f0, b.f1) := by
  obtain ⟨v1, a1, s1, e1, _, _, h1, h2⟩ := pick_ok hc 0 0 5 (by omega) (by omega) (by omega)
  obtain ⟨v2, a2, s2, e2, _, _, h3, h4⟩ := pick_ok hc a1 s1 3 (by omega) (by omega) (by omega)
  obtain ⟨v3, a3, s3, e3, _, _, h5, h6⟩ := pick_ok hc a2 s2 5 (by omega) (by omega) (by omega)
  obtain ⟨v4, a4, s4, e4, _, _, h7, h8⟩ := pick_ok hc a3 s3 3 (by omega) (by omega) (by omega)
  obtain ⟨b, a5, s5, e5, h9, h10⟩ := one_ok hc a4 s4 20 (by omega) (by omega) (by omega)
  cases b with
  | true =>
    obtain ⟨p, q, a6, s6, e6, _, _⟩ := span_ok hc a5 s5 (by omega) (by omega)
    exact ⟨⟨p, q⟩, ⟨v3, wrap64 (wrap64 (v3 + 1) + v4)⟩, by simp only [spec_DrawRelationOf.f, e1, e2, e3, e4, e5, e6, Option.bind_some, if_true]⟩
  | false =>
    exact ⟨⟨v1, wrap64 (wrap64 (v1 + 1) + v2)⟩, ⟨v3, wrap64 (wrap64 (v3 + 1) + v4)⟩, by simp only [spec_DrawRelationOf.f, e1, e2, e3, e4, e5, Option.bind_some, Bool.false_eq_true, if_false]⟩
theorem spans_l0 {c : List Int} (hc : bytes8 c) (d : Nat) : ∀ (x3 : List S24) (x4 x5 a s : Int), x4 ≤ d → x3.length + d ≤ 1000 → 0 ≤ a → a + 10 * d < 4000000000000000000 - 100 → -10 ≤ x4 →
    ∃ r, Ev (fun k => spec_l1Cur_spans.l0 k x3 x4 x5 c a s) r ∧ (r.1.length ≤ 1000 ∧ a ≤ r.2.1 ∧ r.2.1 ≤ a + 10 * d + 20) := by
  have base : ∀ (x3 : List S24) (x4 x5 a s : Int), ¬ x4 > 0 → x3.length ≤ 1000 → 0 ≤ a → a < 4000000000000000000 - 100 →
      ∃ r, Ev (fun k => spec_l1Cur_spans.l0 k x3 x4 x5 c a s) r ∧ (r.1.length ≤ 1000 ∧ a ≤ r.2.1 ∧ r.2.1 ≤ a + 20) := by
    intro x3 x4 x5 a s h4 hl h0 h1
    refine Ev.endsP ?_
    by_cases hz : (x3.length : Int) > 0
    · obtain ⟨b, a', s', e, h2, h3⟩ := one_ok hc a s 30 h0 (by omega) (by omega)
      have hz' : 0 < (x3.length : Int) := hz
      cases b with
      | true =>
        simp only [spec_l1Cur_spans.l0, h4, if_false, hz, if_true, e, Option.bind_some, hz']
        exact ⟨_, Ev.now _, by simpa using hl, by simp; omega, by simp; omega⟩
      | false =>
        simp only [spec_l1Cur_spans.l0, h4, if_false, hz, if_true, e, Option.bind_some]
        exact ⟨_, Ev.now _, by simpa using hl, by simp; omega, by simp; omega⟩
    · simp only [spec_l1Cur_spans.l0, h4, if_false, hz]
      exact ⟨_, Ev.now _, by simpa using hl, by simp, by simp; omega⟩
  induction d with
  | zero =>
    intro x3 x4 x5 a s h4 hl h0 h1 _
    obtain ⟨r, hr, h2, h3, h5⟩ := base x3 x4 x5 a s (by omega) (by omega) h0 (by omega)
    exact ⟨r, hr, h2, h3, by omega⟩
  | succ d ih =>
    intro x3 x4 x5 a s h4 hl h0 h1 h5
    by_cases hx : x4 > 0
    · obtain ⟨v, a1, s1, e1, _, _, h2, h3⟩ := pick_ok hc a s 5 h0 (by omega) (by omega)
      obtain ⟨v2, a2, s2, e2, _, _, h6, h7⟩ := pick_ok hc a1 s1 4 (by omega) (by omega) (by omega)
      have hw : wrap64 (x4 - 1) = x4 - 1 := wrap64_in (by omega) (by omega)
      obtain ⟨r, hr, hp, q1, q2⟩ := ih (x3 ++ [(⟨x5, wrap64 (wrap64 (x5 + 1) + v)⟩ : S24)]) (x4 - 1) (wrap64 (wrap64 (wrap64 (wrap64 (x5 + 1) + v) + 1) + v2)) a2 s2 (by omega) (by simp; omega) (by omega) (by omega) (by omega)
      refine ⟨r, Ev.succ ?_, hp, by omega, by omega⟩
      have hl' : x3.length < 8796093022208 := by omega
      simp only [spec_l1Cur_spans.l0, hx, if_true, e1, Option.bind_some, hl', e2, hw]
      exact hr
    · obtain ⟨r, hr, h2, h3, h6⟩ := base x3 x4 x5 a s hx (by omega) h0 (by omega)
      exact ⟨r, hr, h2, h3, by omega⟩
theorem spans_j0 {c : List Int} (hc : bytes8 c) (n a s : Int) (hn : n ≤ 100) (hn2 : -10 ≤ n) (h0 : 0 ≤ a) (h1 : a ≤ 1000000) :
    ∃ r, Ev (fun k => spec_l1Cur_spans.j0 k [] n c a s) r ∧ (r.1.length ≤ 1000 ∧ a ≤ r.2.1 ∧ r.2.1 ≤ a + 2000) := by
  obtain ⟨v, a1, s1, e1, _, _, h2, h3⟩ := pick_ok hc a s 4 h0 (by omega) (by omega)
  obtain ⟨r, hr, h4, h5, h6⟩ := spans_l0 hc 100 [] n v a1 s1 (by omega) (by simp) (by omega) (by omega) hn2
  refine ⟨r, Ev.succ ?_, h4, by omega, by omega⟩
  simp only [spec_l1Cur_spans.j0, e1, Option.bind_some]
  exact hr
theorem spans_ok {c : List Int} (hc : bytes8 c) : ∃ r, Ev (fun k => spec_l1Cur_spans.f k c 0 0) r ∧ (r.1.length ≤ 1000 ∧ 0 ≤ r.2.1 ∧ r.2.1 ≤ 3000) := by
  obtain ⟨n, a1, s1, e1, n0, n1, h2, h3⟩ := pick_ok hc 0 0 6 (by omega) (by omega) (by omega)
  obtain ⟨b, a2, s2, e2, h4, h5⟩ := one_ok hc a1 s1 20 (by omega) (by omega) (by omega)
  cases b with
  | true =>
    obtain ⟨m, a3, s3, e3, m0, m1, h6, h7⟩ := pick_ok hc a2 s2 3 (by omega) (by omega) (by omega)
    have hw : wrap64 (19 + m) = 19 + m := wrap64_in (by omega) (by omega)
    obtain ⟨r, hr, q1, q2, q3⟩ := spans_j0 hc (19 + m) a3 s3 (by omega) (by omega) (by omega) (by omega)
    refine ⟨r, ?_, q1, by omega, by omega⟩
    simp only [spec_l1Cur_spans.f, e1, Option.bind_some, e2, if_true, e3, hw]
    exact hr
  | false =>
    obtain ⟨r, hr, q1, q2, q3⟩ := spans_j0 hc n a2 s2 (by omega) (by omega) (by omega) (by omega)
    refine ⟨r, ?_, q1, by omega, by omega⟩
    simp only [spec_l1Cur_spans.f, e1, Option.bind_some, e2, Bool.false_eq_true, if_false]
    exact hr
theorem drawHas_ok {c : List Int} (hc : bytes8 c) : ∃ r, Ev (fun k => spec_DrawHasPoint.f k c) r ∧ r.1.length ≤ 1000 := by
  obtain ⟨r, hr, h1, h2, h3⟩ := spans_ok hc
  obtain ⟨v, a1, s1, e1, _, _, _, _⟩ := pick_ok hc r.2.1 r.2.2 40 h2 (by omega) (by omega)
  refine ⟨(r.1, wrap64 (v - 1)), ?_, h1⟩
  unfold spec_DrawHasPoint.f
  refine Ev.bind hr ?_
  simp only [e1, Option.bind_some]
  exact Ev.now _
theorem drawLen_ok {c : List Int} (hc : bytes8 c) : ∃ r, Ev (fun k => spec_DrawLengthOf.f k c) r ∧ r.length ≤ 1000 := by
  obtain ⟨r, hr, h1, _, _⟩ := spans_ok hc
  refine ⟨r.1, ?_, h1⟩
  unfold spec_DrawLengthOf.f spec_DrawGoodSpans.f
  exact Ev.bind (Ev.bind hr (Ev.now _)) (Ev.now _)
/-! #### good spans -/
def okS (x : S24) : Bool := decide (0 ≤ x.f0) && (decide (x.f0 < x.f1) && decide (x.f1 ≤ 1000000))
theorem okS_iff {x : S24} : okS x = true ↔ 0 ≤ x.f0 ∧ x.f0 < x.f1 ∧ x.f1 ≤ 1000000 := by simp [okS]
theorem isSpan_eq (x : S24) : impl_isSpan.f x.f0 x.f1 = some (okS x) := by
  unfold impl_isSpan.f okS
  by_cases h1 : x.f0 ≥ 0
  · have h1' : 0 ≤ x.f0 := h1
    by_cases h2 : x.f0 < x.f1 <;> simp [h1', h2]
  · have h1' : ¬ 0 ≤ x.f0 := h1
    simp [h1']
theorem l2Span_eq (x : S24) : spec_l2Span.f x.f0 x.f1 = some (okS x) := isSpan_eq x
def chain : Option Int → List S24 → Bool
  | _, [] => true
  | p, x :: r => okS x && ((match p with | none => true | some t => decide (t < x.f0)) && chain (some x.f1) r)
def prevOf (l : List S24) : Nat → Option Int
  | 0 => none
  | i + 1 => some (rd_T24 l (i : Int)).f1
theorem rdT_at {l : List S24} {i : Nat} (h : i < l.length) : rd_T24 l (i : Int) = l[i] := by simp [rd_T24, List.getD, h]
theorem drop_rdT {l : List S24} {i : Nat} (h : i < l.length) : l.drop i = rd_T24 l (i : Int) :: l.drop (i + 1) := by
  rw [rdT_at h]; exact List.drop_eq_getElem_cons h
theorem w_next {i : Nat} (h : i ≤ 1000000) : wrap64 ((i : Int) + 1) = ((i + 1 : Nat) : Int) := by rw [wrap64_in (by omega) (by omega)]; omega
theorem areSpans_l0 {l : List S24} (hl : l.length ≤ 1000) : ∀ (d i : Nat), i + d = l.length → Ev (fun k => impl_areSpans.l0 k l l (l.length : Int) (i : Int)) (chain (prevOf l i) (l.drop i)) ∧
    Ev (fun k => spec_GoodSpans.l0 k l l (l.length : Int) (i : Int)) (chain (prevOf l i) (l.drop i) && decide (l.length ≤ 20)) := by
  intro d
  induction d with
  | zero =>
    intro i hi
    have h1 : ¬ (i : Int) < (l.length : Int) := by omega
    rw [List.drop_eq_nil_of_le (by omega)]
    refine ⟨Ev.succ ?_, Ev.succ ?_⟩
    · simp only [impl_areSpans.l0, h1, if_false, chain]; exact Ev.now _
    · simp only [spec_GoodSpans.l0, h1, if_false, chain, Bool.true_and]
      have e : decide ((l.length : Int) ≤ 20) = decide (l.length ≤ 20) := by
        by_cases h : l.length ≤ 20
        · have : (l.length : Int) ≤ 20 := by omega
          simp [h, this]
        · have : ¬ (l.length : Int) ≤ 20 := by omega
          simp [h, this]
      rw [e]; exact Ev.now _
  | succ d ih =>
    intro i hi
    have h1 : (i : Int) < (l.length : Int) := by omega
    have h2 : (0 : Int) ≤ (i : Int) := by omega
    obtain ⟨i1, i2⟩ := ih (i + 1) (by omega)
    have ep : prevOf l (i + 1) = some (rd_T24 l (i : Int)).f1 := rfl
    rw [drop_rdT (by omega)]
    cases hx : okS (rd_T24 l (i : Int)) with
    | false =>
      refine ⟨Ev.succ ?_, Ev.succ ?_⟩
      · simp only [impl_areSpans.l0, h1, h2, if_true, isSpan_eq, Option.bind_some, hx, Bool.false_eq_true, if_false, chain, Bool.false_and]; exact Ev.now _
      · simp only [spec_GoodSpans.l0, h1, h2, if_true, l2Span_eq, Option.bind_some, hx, Bool.false_eq_true, if_false, chain, Bool.false_and]; exact Ev.now _
    | true =>
      cases i with
      | zero =>
        have h3 : ¬ (((0 : Nat) : Int) > 0) := by omega
        refine ⟨Ev.succ ?_, Ev.succ ?_⟩
        · simp only [impl_areSpans.l0, h1, h2, if_true, isSpan_eq, Option.bind_some, hx, h3, if_false, chain, prevOf, Bool.true_and, w_next (i := 0) (by omega)]; rw [← ep]; exact i1
        · simp only [spec_GoodSpans.l0, h1, h2, if_true, l2Span_eq, Option.bind_some, hx, h3, if_false, chain, prevOf, Bool.true_and, w_next (i := 0) (by omega)]; rw [← ep]; exact i2
      | succ i =>
        have h3 : (((i + 1 : Nat) : Int) > 0) := by omega
        have hw : wrap64 (((i + 1 : Nat) : Int) - 1) = (i : Int) := by rw [wrap64_in (by omega) (by omega)]; omega
        have h4 : (0 : Int) ≤ (i : Int) := by omega
        have h5 : (i : Int) < (l.length : Int) := by omega
        by_cases hc : (rd_T24 l (i : Int)).f1 < (rd_T24 l ((i + 1 : Nat) : Int)).f0
        · have c1 : ¬ (rd_T24 l ((i + 1 : Nat) : Int)).f0 ≤ (rd_T24 l (i : Int)).f1 := by omega
          have c2 : ¬ (rd_T24 l (i : Int)).f1 ≥ (rd_T24 l ((i + 1 : Nat) : Int)).f0 := by omega
          refine ⟨Ev.succ ?_, Ev.succ ?_⟩
          · simp only [impl_areSpans.l0, h1, h2, if_true, isSpan_eq, Option.bind_some, hx, h3, hw, h4, h5, c1, if_false, chain, prevOf, hc, decide_true, Bool.true_and, w_next (i := i + 1) (by omega)]; rw [← ep]; exact i1
          · simp only [spec_GoodSpans.l0, h1, h2, if_true, l2Span_eq, Option.bind_some, hx, h3, hw, h4, h5, c2, if_false, chain, prevOf, hc, decide_true, Bool.true_and, w_next (i := i + 1) (by omega)]; rw [← ep]; exact i2
        · have c1 : (rd_T24 l ((i + 1 : Nat) : Int)).f0 ≤ (rd_T24 l (i : Int)).f1 := by omega
          have c2 : (rd_T24 l (i : Int)).f1 ≥ (rd_T24 l ((i + 1 : Nat) : Int)).f0 := by omega
          refine ⟨Ev.succ ?_, Ev.succ ?_⟩
          · simp only [impl_areSpans.l0, h1, h2, if_true, isSpan_eq, Option.bind_some, hx, h3, hw, h4, h5, c1, chain, prevOf, hc, decide_false, Bool.true_and, Bool.false_and]; exact Ev.now _
          · simp only [spec_GoodSpans.l0, h1, h2, if_true, l2Span_eq, Option.bind_some, hx, h3, hw, h4, h5, c2, chain, prevOf, hc, decide_false, Bool.true_and, Bool.false_and]; exact Ev.now _
def goodS (l : List S24) : Bool := decide (l.length ≤ 20) && chain none l
theorem impl_are {l : List S24} (hl : l.length ≤ 1000) : Ev (fun k => impl_areSpans.f k l) (goodS l) := by
  unfold impl_areSpans.f goodS
  by_cases h : l.length ≤ 20
  · have h' : ¬ (l.length : Int) > 20 := by omega
    simp only [h', if_false, h, decide_true, Bool.true_and]
    exact (areSpans_l0 hl l.length 0 (by omega)).1
  · have h' : (l.length : Int) > 20 := by omega
    simp only [h', if_true, h, decide_false, Bool.false_and]
    exact Ev.now _
theorem spec_goodS {l : List S24} (hl : l.length ≤ 1000) : Ev (fun k => spec_GoodSpans.f k l) (goodS l) := by
  unfold spec_GoodSpans.f goodS
  have h := (areSpans_l0 hl l.length 0 (by omega)).2
  rw [Bool.and_comm] at h
  exact h
theorem goodS_parts {l : List S24} (h : goodS l = true) : l.length ≤ 20 ∧ ∀ x ∈ l, okS x = true := by
  unfold goodS at h
  rw [Bool.and_eq_true, decide_eq_true_eq] at h
  refine ⟨h.1, ?_⟩
  have key : ∀ (l : List S24) (p : Option Int), chain p l = true → ∀ x ∈ l, okS x = true := by
    intro l
    induction l with
    | nil => intro p _ x hx; cases hx
    | cons y l ih =>
      intro p hp x hx
      simp only [chain, Bool.and_eq_true] at hp
      rcases List.mem_cons.mp hx with rfl | hx
      · exact hp.1
      · exact ih _ hp.2.2 x hx
  exact key l none h.2
end Go.Proofs.Ytegeejglmbpecaa.MFnRelations
