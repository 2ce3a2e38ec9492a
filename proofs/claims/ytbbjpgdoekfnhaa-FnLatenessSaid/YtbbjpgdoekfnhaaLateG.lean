/- No order has a lesser greatest lateness than that by ends: the statement over lists. -/
import Derived.Test.YtbbjpgdoekfnhaaLateF
namespace Go.Proofs.Ytbbjpgdoekfnhaa.MFnLateness
open Go.RowKit Go.Proofs.YtbbjpgdoekfnhaaW.PrintWords Go.Proofs.YtbbjpgdoekfnhaaW.PrintLast Go.Proofs.YtbbjpgdoekfnhaaW.PrintMore
def byEnd (l : List S43) : List Int := (isortR (keyE l) [] (idx l.length)).reverse
def ends (l : List S43) : List Int × Bool := if good l then (byEnd l, true) else ([], false)
theorem impl_by_l0 {l : List S43} (hg : l.all okT = true) (hl : l.length ≤ 10) : ∀ (d i : Nat), i + d = l.length → Ev (fun k => impl_byEnd.l0 k (idx i) (l.length : Int) (i : Int) l) (byEnd l) := by
  intro d
  induction d with
  | zero =>
    intro i hi
    refine Ev.succ ?_
    have h1 : ¬ (i : Int) < (l.length : Int) := by omega
    simp only [impl_byEnd.l0, h1, if_false]
    obtain rfl : i = l.length := by omega
    exact Ev.bind (stable_eq hg (fun v hv => idx_mem.mp hv) (by rw [idx_length]; omega)) (Ev.now _)
  | succ d ih =>
    intro i hi
    refine Ev.succ ?_
    have h1 : (i : Int) < (l.length : Int) := by omega
    have h2 : (idx i).length < 17592186044416 := by rw [idx_length]; omega
    have hw : wrap64 ((i : Int) + 1) = ((i + 1 : Nat) : Int) := by rw [wrap64_in (by omega) (by omega)]; omega
    simp only [impl_byEnd.l0, h1, h2, if_true, hw, ← idx_succ]
    exact ih (i + 1) (by omega)
theorem impl_byEnd_ev {l : List S43} (hg : good l = true) : Ev (fun k => impl_byEnd.f k l) (byEnd l) := by
  have h := good_parts hg
  exact impl_by_l0 h.2 h.1 l.length 0 (by omega)
theorem impl_by (l : List S43) : Ev (fun k => impl_ByEnd.f k l) (ends l) := by
  unfold impl_ByEnd.f ends
  simp only [impl_good, Option.bind_some]
  cases hg : good l with
  | false => simp only [Bool.false_eq_true, if_false]; exact Ev.now _
  | true => simp only [if_true]; exact Ev.bind (impl_byEnd_ev hg) (Ev.now _)
theorem spec_by_l0 {l : List S43} (hl : l.length ≤ 10) : ∀ (d i : Nat), i + d = l.length → Ev (fun k => spec_l5ByEnd.l0 k l (isortR (keyE l) [] (idx i)).reverse l (l.length : Int) (i : Int)) (byEnd l) := by
  intro d
  induction d with
  | zero =>
    intro i hi
    refine Ev.succ ?_
    have h1 : ¬ (i : Int) < (l.length : Int) := by omega
    obtain rfl : i = l.length := by omega
    simp only [spec_l5ByEnd.l0, h1, if_false]; exact Ev.now _
  | succ d ih =>
    intro i hi
    refine Ev.succ ?_
    have h1 : (i : Int) < (l.length : Int) := by omega
    have h2 : (0 : Int) ≤ (i : Int) := by omega
    have hw : wrap64 ((i : Int) + 1) = ((i + 1 : Nat) : Int) := by rw [wrap64_in (by omega) (by omega)]; omega
    have hlen := isortR_length (keyE l) (idx i) []
    rw [idx_length] at hlen
    simp only [List.length_nil] at hlen
    simp only [spec_l5ByEnd.l0, h1, h2, if_true]
    have hn := ih (i + 1) (by omega)
    rw [idx_succ] at hn
    have e : isortR (keyE l) [] (idx i ++ [(i : Int)]) = insR (keyE l) (i : Int) (isortR (keyE l) [] (idx i)) := by simp [isortR]
    rw [e] at hn
    refine spec_by_l1 (by simp; omega) (fun v hv => ?_) (by rw [List.reverse_reverse]; exact isortR_down _ _ List.Pairwise.nil) (by rw [hw, List.reverse_reverse]; exact hn) (isortR (keyE l) [] (idx i)).reverse.length 0 (by omega) (by simp)
    rw [List.mem_reverse, isortR_mem] at hv
    rcases hv with hv | hv
    · cases hv
    · have := idx_mem.mp hv; omega
theorem spec_by {l : List S43} (hl : l.length ≤ 1000000) : Ev (fun k => spec_ByEnd.f k l) (ends l) := by
  unfold spec_ByEnd.f ends
  refine Ev.bind (spec_good hl) ?_
  cases hg : good l with
  | false => simp only [Bool.false_eq_true, if_false]; exact Ev.now _
  | true => simp only [if_true]; have h := good_parts hg; exact Ev.bind (a := byEnd l) (spec_by_l0 h.1 l.length 0 (by omega)) (Ev.now _)
theorem insR_perm {α : Type} (key : α → Int) (x : α) : ∀ l : List α, (insR key x l).Perm (x :: l) := by
  intro l
  induction l with
  | nil => exact List.Perm.refl _
  | cons y r ih =>
    simp only [insR]
    split
    · exact (List.Perm.cons y ih).trans (List.Perm.swap x y r)
    · exact List.Perm.refl _
theorem isortR_perm {α : Type} (key : α → Int) : ∀ (l acc : List α), (isortR key acc l).Perm (acc ++ l) := by
  intro l
  induction l with
  | nil => intro acc; simp [isortR]
  | cons x l ih =>
    intro acc
    refine (ih (insR key x acc)).trans ?_
    exact ((insR_perm key x acc).append_right l).trans (by simpa using List.perm_middle.symm)
theorem byEnd_ord (l : List S43) : isOrd (byEnd l) l.length := by
  unfold byEnd isOrd
  exact (List.reverse_perm _).trans (by simpa using isortR_perm (keyE l) (idx l.length) [])
theorem byEnd_sorted (l : List S43) : (byEnd l).Pairwise fun a b => keyE l a ≤ keyE l b := by
  unfold byEnd
  rw [List.pairwise_reverse]
  exact isortR_down _ _ List.Pairwise.nil
theorem same_l0 (a : List Int) (ha : a.length ≤ 1000000) : ∀ (d i : Nat), i + d = a.length → Ev (fun k => laws_sameInts.l0 k a a (a.length : Int) (i : Int)) true := by
  intro d
  induction d with
  | zero =>
    intro i hi
    refine Ev.succ ?_
    have h1 : ¬ (i : Int) < (a.length : Int) := by omega
    simp only [laws_sameInts.l0, h1, if_false]; exact Ev.now _
  | succ d ih =>
    intro i hi
    refine Ev.succ ?_
    have h1 : (i : Int) < (a.length : Int) := by omega
    have h2 : (0 : Int) ≤ (i : Int) := by omega
    have hw : wrap64 ((i : Int) + 1) = ((i + 1 : Nat) : Int) := by rw [wrap64_in (by omega) (by omega)]; omega
    simp only [laws_sameInts.l0, h1, h2, if_true, hw]
    exact ih (i + 1) (by omega)
theorem same_self {a : List Int} (ha : a.length ≤ 1000000) : Ev (fun k => laws_sameInts.f k a a) true := by
  unfold laws_sameInts.f
  simp only [if_true]
  exact same_l0 a ha a.length 0 (by omega)
theorem sum_l1 {l : List S43} (hg : good l = true) {o dn : List Int} (ho : isOrd o l.length) (hdn : dn = done l o) (hpos : 0 < o.length) : ∀ (d i : Nat) (t : Int), i + d = l.length → 0 ≤ t → t + 20 * d ≤ 1000000 → t + sumF (need l) ((idx l.length).drop i) = sumF (need l) (idx l.length) →
    Ev (fun k => laws_FnLateness.l1 k o dn t l (l.length : Int) (i : Int)) true := by
  have h := good_parts hg
  have hlen := isOrd_length ho
  intro d
  induction d with
  | zero =>
    intro i t hi _ _ ht
    refine Ev.succ ?_
    have h1 : ¬ (i : Int) < (l.length : Int) := by omega
    rw [List.drop_eq_nil_of_le (by rw [idx_length]; omega)] at ht
    have hw : wrap64 ((o.length : Int) - 1) = ((o.length - 1 : Nat) : Int) := by rw [wrap64_in (by omega) (by omega)]; omega
    have h2 : (0 : Int) ≤ ((o.length - 1 : Nat) : Int) := by omega
    have h3 : ((o.length - 1 : Nat) : Int) < (o.length : Int) := by omega
    have hm : rd o ((o.length - 1 : Nat) : Int) ∈ o := by rw [rd_at (by omega)]; exact List.getElem_mem _
    obtain ⟨v0, v1⟩ := (isOrd_mem ho).mp hm
    have v2 : rd o ((o.length - 1 : Nat) : Int) < (dn.length : Int) := by rw [hdn, done_length]; exact v1
    have e : o = o.take (o.length - 1) ++ [rd o ((o.length - 1 : Nat) : Int)] := by
      have := take_rdI (o := o) (i := o.length - 1) (by omega)
      rw [show o.length - 1 + 1 = o.length by omega, List.take_length] at this
      exact this
    have hl := done_last ho e
    simp only [laws_FnLateness.l1, h1, if_false, hw, h2, h3, if_true, v0, v2]
    have hs : sumF (need l) [] = 0 := rfl
    have : (rd dn (rd o ((o.length - 1 : Nat) : Int)) == t) = true := by rw [beq_iff_eq, hdn, hl]; omega
    rw [this]; exact Ev.now _
  | succ d ih =>
    intro i t hi h0 hb ht
    refine Ev.succ ?_
    have h1 : (i : Int) < (l.length : Int) := by omega
    have h2 : (0 : Int) ≤ (i : Int) := by omega
    have hw : wrap64 ((i : Int) + 1) = ((i + 1 : Nat) : Int) := by rw [wrap64_in (by omega) (by omega)]; omega
    have hx := okT_iff.mp (List.all_eq_true.mp h.2 _ (rdT_mem h2 h1))
    have hw2 : wrap64 (t + (rd_T43 l (i : Int)).f0) = t + need l (i : Int) := wrap64_in (by omega) (by omega)
    simp only [laws_FnLateness.l1, h1, h2, if_true, hw, hw2]
    rw [idx_drop (by omega), sumF_cons] at ht
    exact ih (i + 1) _ (by omega) (by unfold need; omega) (by unfold need; omega) (by omega)
theorem draw_j3 {c : List Int} (hc : bytes8 c) : Ev (fun k => laws_FnLateness.j3 k c) true := by
  obtain ⟨r, hr, hl, ho⟩ := draw_order hc
  have hd : Ev (fun k => spec_DrawCompletionsOf.f k c) (r.1, r.2) := Ev.bind hr (Ev.now _)
  refine Ev.succ ?_
  simp only [laws_FnLateness.j3]
  refine Ev.bind hd (Ev.bind (impl_compOf hl ho) (Ev.bind (spec_compOf hl) ?_))
  have e : ((compOf r.1 r.2).2 != (compOf r.1 r.2).2) = false := by simp
  simp only [e, Bool.false_eq_true, if_false]
  refine Ev.bind (a := true) (same_self ?_) ?_
  · unfold compOf
    split
    · rw [done_length]; exact hl
    · simp
  · refine Ev.succ ?_
    simp only [laws_FnLateness.j4, Bool.not_true, Bool.false_eq_true, if_false]
    cases hb : good r.1 && decide (isOrd r.2 r.1.length) with
    | false =>
      have e2 : compOf r.1 r.2 = ([], false) := by unfold compOf; rw [hb]; rfl
      simp only [e2, Bool.false_eq_true, if_false]
      exact Ev.succ (by simp only [laws_FnLateness.j5, Bool.false_eq_true, if_false]; exact Ev.now _)
    | true =>
      have e2 : compOf r.1 r.2 = (done r.1 r.2, true) := by unfold compOf; rw [hb]; rfl
      simp only [Bool.and_eq_true, decide_eq_true_eq] at hb
      simp only [e2, if_true]
      refine Ev.succ ?_
      by_cases hp : (r.2.length : Int) > 0
      · simp only [laws_FnLateness.j5, hp, decide_true, if_true]
        have h := good_parts hb.1
        exact sum_l1 hb.1 hb.2 rfl (by omega) r.1.length 0 0 (by omega) (by omega) (by omega) (by simp)
      · simp only [laws_FnLateness.j5, hp, decide_false, Bool.false_eq_true, if_false]; exact Ev.now _
theorem law_l0 {c : List Int} (hc : bytes8 c) {l : List S43} (hg : good l = true) : ∀ (d i : Nat), i + d = l.length + 1 → 1 ≤ i → Ev (fun k => laws_FnLateness.l0 k c l (byEnd l) (i : Int)) true := by
  have ho := byEnd_ord l
  have hlen := isOrd_length ho
  have hs := byEnd_sorted l
  have h10 := (good_parts hg).1
  have stop : ∀ i : Nat, ¬ i < (byEnd l).length → Ev (fun k => laws_FnLateness.l0 k c l (byEnd l) (i : Int)) true := by
    intro i hi
    refine Ev.succ ?_
    have h1 : ¬ (i : Int) < ((byEnd l).length : Int) := by omega
    simp only [laws_FnLateness.l0, h1, if_false]; exact draw_j3 hc
  intro d
  induction d with
  | zero => intro i hi h; exact stop i (by omega)
  | succ d ih =>
    intro i hi h
    by_cases hlt : i < (byEnd l).length
    · refine Ev.succ ?_
      have h1 : (i : Int) < ((byEnd l).length : Int) := by omega
      have h2 : (0 : Int) ≤ (i : Int) := by omega
      have hw : wrap64 ((i : Int) - 1) = ((i - 1 : Nat) : Int) := by rw [wrap64_in (by omega) (by omega)]; omega
      have hw2 : wrap64 ((i : Int) + 1) = ((i + 1 : Nat) : Int) := by rw [wrap64_in (by omega) (by omega)]; omega
      have h3 : (0 : Int) ≤ ((i - 1 : Nat) : Int) := by omega
      have h4 : ((i - 1 : Nat) : Int) < ((byEnd l).length : Int) := by omega
      have ma : rd (byEnd l) ((i - 1 : Nat) : Int) ∈ byEnd l := by rw [rd_at (by omega)]; exact List.getElem_mem _
      have mb : rd (byEnd l) (i : Int) ∈ byEnd l := by rw [rd_at hlt]; exact List.getElem_mem _
      obtain ⟨a0, a1⟩ := (isOrd_mem ho).mp ma
      obtain ⟨b0, b1⟩ := (isOrd_mem ho).mp mb
      have hle : keyE l (rd (byEnd l) ((i - 1 : Nat) : Int)) ≤ keyE l (rd (byEnd l) (i : Int)) := by
        rw [rd_at (by omega), rd_at hlt]
        exact List.pairwise_iff_getElem.mp hs (i - 1) i (by omega) hlt (by omega)
      have h5 : ¬ (rd_T43 l (rd (byEnd l) ((i - 1 : Nat) : Int))).f1 > (rd_T43 l (rd (byEnd l) (i : Int))).f1 := by unfold keyE at hle; omega
      simp only [laws_FnLateness.l0, h1, h2, hw, h3, h4, if_true, a0, a1, b0, b1, h5, if_false, hw2]
      exact ih (i + 1) (by omega) (by omega)
    · exact stop i hlt
theorem FnLateness : laws_FnLateness.Pure := by
  intro c d hc0 hc1 hc2 hd0 hd1 hd2
  have hc := bytes8_of hc2
  have hd := bytes8_of hd2
  refine Ev.rounds (g := fun k => laws_FnLateness.f k c d) ?_
  unfold laws_FnLateness.f
  by_cases hb : (wrap64 ((c.length : Int) + (d.length : Int))) > 1048576
  · simp only [hb, if_true]; exact Ev.now _
  · simp only [hb, if_false]
    obtain ⟨r, hr, hl, ho⟩ := draw_order hc
    refine Ev.bind hr (Ev.bind (impl_latOf hl ho) (Ev.bind (spec_latOf hl) (Ev.bind (impl_by r.1) (Ev.bind (spec_by hl) ?_))))
    have n1 : ((latOf r.1 r.2).2 != (latOf r.1 r.2).2) = false := by simp
    have n2 : ((ends r.1).2 != (ends r.1).2) = false := by simp
    simp only [n1, n2, Bool.false_eq_true, if_false, if_true]
    have hend : (ends r.1).1.length ≤ 1000000 := by
      unfold ends
      split
      · rw [isOrd_length (byEnd_ord r.1)]; exact hl
      · simp
    refine Ev.bind (a := true) (same_self hend) (Ev.succ ?_)
    simp only [laws_FnLateness.j0, Bool.not_true, Bool.false_eq_true, if_false]
    cases hg : good r.1 with
    | false =>
      have e : ends r.1 = ([], false) := by unfold ends; rw [hg]; rfl
      simp only [e, Bool.false_eq_true, if_false]; exact draw_j3 hd
    | true =>
      have e : ends r.1 = (byEnd r.1, true) := by unfold ends; rw [if_pos hg]
      have hbo := byEnd_ord r.1
      have e2 : latOf r.1 (byEnd r.1) = (if r.1.length = 0 then 0 else lat r.1 (done r.1 (byEnd r.1)), true) := by
        unfold latOf; rw [hg, decide_eq_true hbo]; rfl
      simp only [e, if_true]
      refine Ev.bind (impl_latOf hl (by rw [isOrd_length hbo]; exact hl)) ?_
      rw [e2]
      have go : Ev (fun k => laws_FnLateness.j1 k d r.1 (byEnd r.1) false) true := by
        refine Ev.succ ?_
        simp only [laws_FnLateness.j1, Bool.false_eq_true, if_false]
        exact law_l0 hd hg r.1.length 1 (by omega) (by omega)
      simp only [if_true]
      cases hb2 : decide (isOrd r.2 r.1.length) with
      | false =>
        have e3 : latOf r.1 r.2 = (0, false) := by unfold latOf; rw [hg, hb2]; rfl
        simp only [e3, Bool.false_eq_true, if_false]; exact go
      | true =>
        have e3 : latOf r.1 r.2 = (if r.1.length = 0 then 0 else lat r.1 (done r.1 r.2), true) := by unfold latOf; rw [hg, hb2]; rfl
        simp only [e3, if_true]
        have hle : ¬ (if r.1.length = 0 then (0 : Int) else lat r.1 (done r.1 (byEnd r.1))) > (if r.1.length = 0 then (0 : Int) else lat r.1 (done r.1 r.2)) := by
          by_cases h0 : r.1.length = 0
          · rw [if_pos h0, if_pos h0]; omega
          · rw [if_neg h0, if_neg h0]
            have := jackson (good_parts hg).2 (by omega) hbo (of_decide_eq_true hb2) (byEnd_sorted r.1)
            omega
        simp only [hle, decide_false]; exact go
end Go.Proofs.Ytbbjpgdoekfnhaa.MFnLateness
