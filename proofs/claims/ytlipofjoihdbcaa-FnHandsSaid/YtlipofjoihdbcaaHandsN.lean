/- Work of at least one chore given in order takes less than twice as long as it must, and from the longest on four thirds at most: the statement over lists. -/
import Derived.Test.YtlipofjoihdbcaaHandsM
import Derived.Test.YtlipofjoihdbcaaMFnHandsx11
namespace Go.Proofs.Ytlipofjoihdbcaa.MFnHands
open Go.RowKit Go.Proofs.YtlipofjoihdbcaaW.PrintWords Go.Proofs.YtlipofjoihdbcaaW.PrintLast Go.Proofs.YtlipofjoihdbcaaW.PrintMore
theorem same_l0 (a : List Int) (ha : a.length ≤ 1000000) : ∀ (d i : Nat), i + d = a.length → Ev (fun k => laws_sameInts.l0 k a a (a.length : Int) (i : Int)) true := by
  intro d
  induction d with
  | zero =>
    intro i hi
    refine Ev.succ ?_
    have h1 : ¬ (i : Int) < (a.length : Int) := by omega
    simp only [laws_sameInts.l0, h1, if_false]; exact Ev.now _
  | succ d ih =>
    intro i hi
    refine Ev.succ ?_
    have h1 : (i : Int) < (a.length : Int) := by omega
    have h2 : (0 : Int) ≤ (i : Int) := by omega
    have hw : wrap64 ((i : Int) + 1) = ((i + 1 : Nat) : Int) := by rw [wrap64_in (by omega) (by omega)]; omega
    simp only [laws_sameInts.l0, h1, h2, if_true, hw]
    exact ih (i + 1) (by omega)
theorem same_self {a : List Int} (ha : a.length ≤ 1000000) : Ev (fun k => laws_sameInts.f k a a) true := by
  unfold laws_sameInts.f
  simp only [if_true]
  exact same_l0 a ha a.length 0 (by omega)
theorem span_bd {l g : List Int} {n : Nat} (hl : l.length ≤ 8) (hx : ∀ x ∈ l, 1 ≤ x ∧ x ≤ 50) : 0 ≤ spanF l g n ∧ spanF l g n ≤ 400 :=
  ⟨spanF_ge.1, spanF_le (by omega) (fun k _ _ => (ld_bd (okP_idx hl hx (Nat.le_refl _)) k).2)⟩
theorem two_bound {l : List Int} {n : Nat} {order : List Int} (hn : 1 ≤ n) (hl : l.length ≤ 8) (hx : ∀ x ∈ l, 1 ≤ x ∧ x ≤ 50) (ho : isOrd order l.length) :
    (n : Int) * spanF l (giveF l n order) n ≤ (2 * n - 1) * bestS l n := by
  obtain ⟨g, h1, h2, h3⟩ := bestS_ex (l := l) hn
  have hok := okP_idx hl hx (Nat.le_refl _)
  have hG := giveF_gre (l := l) (order := order) hn ho
  have hm0 : 0 ≤ bestS l n := by rw [h3]; exact spanF_ge.1
  have hgi : ∀ i ∈ idx l.length, 0 ≤ rd g i ∧ rd g i < (n : Int) := fun i hi => by
    have := idx_mem.mp hi
    have e : i = ((i.toNat : Nat) : Int) := by omega
    rw [e, rd_at (by omega)]
    exact h2 _ (List.getElem_mem _)
  have hS := spanF_ge (l := l) (g := g) (n := n)
  rw [← h3] at hS
  have hle : ∀ i ∈ idx l.length, rd l i ≤ bestS l n := fun i hi => by
    have h4 := hS.2 (rd g i) (hgi _ hi).1 (hgi _ hi).2
    have h5 := sumF_sub (f := rd l) [i] ((idx l.length).filter fun j => rd g j == rd g i) (by simp) (by simp [hi]) (fun b hb => by have := hok.2 b (List.mem_filter.mp hb).1; omega)
    rw [sumF_cons, sumF_nil] at h5
    unfold ld at h4; omega
  have hsum : sumF (rd l) (idx l.length) ≤ (n : Int) * bestS l n := by
    have h4 := ld_all (f := rd l) (g := rd g) (n := n) (idx l.length) hgi
    have h5 := sumF_le (f := ld (rd l) (rd g) (idx l.length)) (M := bestS l n) (A := idx n) (fun k hk => hS.2 k (idx_mem.mp hk).1 (idx_mem.mp hk).2)
    rw [h4, idx_length, Int.mul_comm] at h5
    exact h5
  have hgr := graham hG.1 hn (M := bestS l n) (fun i hi => by
    have him : i ∈ idx l.length := (ho.mem_iff).mp hi
    have := hok.2 i him
    exact ⟨by omega, hle i him⟩) hm0
  have e1 : (2 * (n : Int) - 1) * bestS l n = n * bestS l n + (n - 1) * bestS l n := by rw [← Int.add_mul]; congr 1; omega
  rw [sumF_perm ho] at hgr
  rcases spanF_in (l := l) (g := giveF l n order) (n := n) with h | ⟨k, hk, h⟩
  · rw [h, Int.mul_zero]; exact Int.mul_nonneg (by omega) hm0
  · have := hgr k hk.1 hk.2
    rw [ld_perm ho, h] at this
    omega
theorem four_bound {l : List Int} {n : Nat} (hn : 1 ≤ n) (hl : l.length ≤ 8) (hx : ∀ x ∈ l, 1 ≤ x ∧ x ≤ 50) :
    3 * (n : Int) * spanF l (giveF l n (ordL l l.length)) n ≤ (4 * n - 1) * bestS l n := by
  obtain ⟨g, h1, h2, h3⟩ := bestS_ex (l := l) hn
  have hok := okP_idx hl hx (Nat.le_refl _)
  have ho := ordL_ord l l.length
  have hG := giveF_gre (l := l) (order := ordL l l.length) hn ho
  have hm0 : 0 ≤ bestS l n := by rw [h3]; exact spanF_ge.1
  have hgi : ∀ i ∈ ordL l l.length, 0 ≤ rd g i ∧ rd g i < (n : Int) := fun i hi => by
    have := idx_mem.mp ((ho.mem_iff).mp hi)
    have e : i = ((i.toNat : Nat) : Int) := by omega
    rw [e, rd_at (by omega)]
    exact h2 _ (List.getElem_mem _)
  have hS := spanF_ge (l := l) (g := g) (n := n)
  rw [← h3] at hS
  have hgr := graham_longest hG.1 hn (gs := rd g) (m := bestS l n) (fun i hi => by have := hok.2 i ((ho.mem_iff).mp hi); omega) (fun done j rest e v hv => ordL_longest done j rest e v hv) hgi
    (fun k h0 hk => by rw [ld_perm ho]; exact hS.2 k h0 hk)
  rcases spanF_in (l := l) (g := giveF l n (ordL l l.length)) (n := n) with h | ⟨k, hk, h⟩
  · rw [h, Int.mul_zero]; exact Int.mul_nonneg (by omega) hm0
  · have := hgr k hk.1 hk.2
    rw [ld_perm ho, h] at this
    exact this
theorem spanR_of {l g : List Int} {n : Nat} (hg : good l (n : Int) = true) (hl : g.length = l.length) (h : ∀ x ∈ g, 0 ≤ x ∧ x < (n : Int)) : spanR l (n : Int) g = (spanF l g n, true) := by
  unfold spanR
  rw [if_pos, Int.toNat_natCast]
  refine ⟨hg, hl, List.all_eq_true.mpr fun x hx => ?_⟩
  have := h x hx
  simp only [inB, Bool.and_eq_true, decide_eq_true_eq]; omega
theorem law_j1 {x1 : List Int} {l g : List Int} {n : Nat} (hn1 : 1 ≤ n) (hn : n ≤ 4) (hl : l.length ≤ 8) (hx : ∀ x ∈ l, 1 ≤ x ∧ x ≤ 50) (_hg : True) :
    Ev (fun k => laws_FnHands.j1 k x1 (n : Int) (spanF l (giveF l n (idx l.length)) n) (spanF l (giveF l n (ordL l l.length)) n) (bestS l n) false) true := by
  have h1 := two_bound (l := l) hn1 hl hx (List.Perm.refl (idx l.length))
  have h2 := four_bound (l := l) hn1 hl hx
  have b1 := span_bd (g := giveF l n (idx l.length)) (n := n) hl hx
  have b2 := span_bd (g := giveF l n (ordL l l.length)) (n := n) hl hx
  obtain ⟨g', _, _, h3⟩ := bestS_ex (l := l) hn1
  have b3 := span_bd (g := g') (n := n) hl hx
  rw [← h3] at b3
  have hn' : n = 1 ∨ n = 2 ∨ n = 3 ∨ n = 4 := by omega
  refine Ev.succ ?_
  have w : ∀ x : Int, -100000 ≤ x → x ≤ 100000 → wrap64 x = x := fun x h0 h1 => wrap64_in (by omega) (by omega)
  generalize spanF l (giveF l n (idx l.length)) n = s at *
  generalize spanF l (giveF l n (ordL l l.length)) n = t at *
  generalize bestS l n = m at *
  have q1 : ¬ wrap64 ((n : Int) * s) > wrap64 (wrap64 (wrap64 (2 * (n : Int)) - 1) * m) := by
    rcases hn' with rfl | rfl | rfl | rfl <;> (rw [w _ (by omega) (by omega), w (2 * _) (by omega) (by omega), w (_ - 1) (by omega) (by omega), w _ (by omega) (by omega)]; omega)
  have q2 : ¬ wrap64 (wrap64 (3 * (n : Int)) * t) > wrap64 (wrap64 (wrap64 (4 * (n : Int)) - 1) * m) := by
    rcases hn' with rfl | rfl | rfl | rfl <;> (rw [w (3 * _) (by omega) (by omega), w (_ * t) (by omega) (by omega), w (4 * _) (by omega) (by omega), w (_ - 1) (by omega) (by omega), w _ (by omega) (by omega)]; omega)
  have q3 : ((x1.length : Nat) : Int) ≥ 0 := by omega
  simp only [laws_FnHands.j1, Bool.false_eq_true, if_false, q1, q2, q3, decide_true]
  exact Ev.now _
theorem law_j0 {x1 l g : List Int} {h : Int} :
    Ev (fun k => laws_FnHands.j0 k x1 l h (spanR l h g).1 (spanR l h g).2 (gioR l h).1 (gioR l h).2.1 (gioR l h).2.2 (glR l h).1 (glR l h).2.1 (glR l h).2.2 (bsR l h).1 (bsR l h).2 (lsR l h).1 (lsR l h).2 false) true := by
  refine Ev.succ ?_
  have q3 : ((x1.length : Nat) : Int) ≥ 0 := by omega
  cases hg : good l h with
  | false =>
    have e : (gioR l h).2.2 = false := by unfold gioR; rw [hg]; rfl
    simp only [laws_FnHands.j0, e, Bool.false_eq_true, if_false, q3, decide_true]
    exact Ev.now _
  | true =>
    obtain ⟨n, rfl, hn1, hn4⟩ := of_hands hg
    obtain ⟨hl, hx, _, _⟩ := good_parts hg
    have e1 : gioR l (n : Int) = (giveF l n (idx l.length), spanF l (giveF l n (idx l.length)) n, true) := by unfold gioR; rw [hg]; rfl
    have e2 : glR l (n : Int) = (giveF l n (ordL l l.length), spanF l (giveF l n (ordL l l.length)) n, true) := by unfold glR; rw [hg]; rfl
    have e3 : bsR l (n : Int) = (bestS l n, true) := by unfold bsR; rw [hg]; rfl
    have e4 : lsR l (n : Int) = (lsV l n, true) := by unfold lsR; rw [hg]; rfl
    have g1 := giveF_gre (l := l) (order := idx l.length) hn1 (List.Perm.refl _)
    have g2 := giveF_gre (l := l) (order := ordL l l.length) hn1 (ordL_ord l l.length)
    have s1 := impl_span l (n : Int) (giveF l n (idx l.length))
    have s2 := impl_span l (n : Int) (giveF l n (ordL l l.length))
    rw [spanR_of hg g1.2.2 g1.2.1] at s1
    rw [spanR_of hg g2.2.2 g2.2.1] at s2
    have m1 := bestS_le (l := l) (n := n) g1.2.2 g1.2.1
    have m2 := bestS_le (l := l) (n := n) g2.2.2 g2.2.1
    have m3 : lsV l n ≤ bestS l n := by
      obtain ⟨g', h1, h2, h3⟩ := bestS_ex (l := l) hn1
      rw [h3]; exact lsV_le hn1 hx h1 h2
    simp only [laws_FnHands.j0, e1, e2, e3, e4, Bool.false_eq_true, if_false, if_true]
    refine Ev.bind s1 (Ev.bind s2 ?_)
    have c1 : ¬ bestS l n < lsV l n := by omega
    have c2 : ¬ spanF l (giveF l n (idx l.length)) n < bestS l n := by omega
    have c3 : ¬ spanF l (giveF l n (ordL l l.length)) n < bestS l n := by omega
    simp only [if_true, c1, c2, c3, if_false]
    have hj := law_j1 (x1 := x1) (g := g) hn1 hn4 hl hx trivial
    by_cases hs : (spanR l (n : Int) g).2 = true
    · have m4 : ¬ (spanR l (n : Int) g).1 < bestS l n := by
        unfold spanR at hs ⊢
        by_cases hc : good l (n : Int) = true ∧ g.length = l.length ∧ g.all (fun x => inB x 0 ((n : Int) - 1)) = true
        · rw [if_pos hc, Int.toNat_natCast]
          have := bestS_le (l := l) (n := n) hc.2.1 (given_in hc.2.2)
          show ¬ spanF l g n < bestS l n
          omega
        · rw [if_neg hc] at hs; cases hs
      simp only [hs, if_true, m4, decide_false]
      exact hj
    · simp only [hs, if_false, Bool.false_eq_true]
      exact hj
theorem FnHands : laws_FnHands.Pure := by
  intro c d hc0 hc1 hc2 hd0 hd1 hd2
  have hc := bytes8_of hc2
  refine Ev.rounds (g := fun k => laws_FnHands.f k c d) ?_
  unfold laws_FnHands.f
  by_cases hb : (wrap64 ((c.length : Int) + (d.length : Int))) > 1048576
  · simp only [hb, if_true]; exact Ev.now _
  simp only [hb, if_false]
  obtain ⟨⟨l, h, g⟩, hr, hl, hh, hgl⟩ := drawn_ok hc
  refine Ev.bind hr ?_
  simp only at hl hgl ⊢
  refine Ev.bind (impl_span l h g) (Ev.bind (spec_span hl hgl) (Ev.bind (impl_gio l h) (Ev.bind (spec_gio hl h) (Ev.bind (impl_gl l h) (Ev.bind (spec_gl hl h) (Ev.bind (impl_bs l h) (Ev.bind (spec_bs hl h) (Ev.bind (impl_ls l h) (Ev.bind (spec_ls hl h) ?_)))))))))
  have hs1 : (gioR l h).1.length ≤ 1000000 := by
    unfold gioR; split
    · rename_i hg
      obtain ⟨n, rfl, hn1, hn4⟩ := of_hands hg
      rw [Int.toNat_natCast]
      have := (giveF_gre (l := l) (order := idx l.length) hn1 (List.Perm.refl _)).2.2
      show (giveF l n (idx l.length)).length ≤ _
      omega
    · simp
  have hs2 : (glR l h).1.length ≤ 1000000 := by
    unfold glR; split
    · rename_i hg
      obtain ⟨n, rfl, hn1, hn4⟩ := of_hands hg
      rw [Int.toNat_natCast]
      have := (giveF_gre (l := l) (order := ordL l l.length) hn1 (ordL_ord l l.length)).2.2
      show (giveF l n (ordL l l.length)).length ≤ _
      omega
    · simp
  simp only [bne_self_eq_false, Bool.false_eq_true, if_false, if_true]
  refine Ev.bind (same_self hs1) ?_
  simp only [if_true]
  refine Ev.bind (same_self hs2) ?_
  simp only [if_true, impl_good, Option.bind_some]
  have e : (good l h != (gioR l h).2.2) = false := by unfold gioR; cases good l h <;> rfl
  rw [e]
  exact law_j0
end Go.Proofs.Ytlipofjoihdbcaa.MFnHands
