/- The search that cuts branches; the least span is some assignment's, and no assignment's is less; LeastSpan. -/
import Derived.Test.YtlipofjoihdbcaaHandsK
import Derived.Test.YtlipofjoihdbcaaMFnHandsx9
import Derived.Test.YtlipofjoihdbcaaMFnHandsx10
namespace Go.Proofs.Ytlipofjoihdbcaa.MFnHands
open Go.RowKit Go.Proofs.YtlipofjoihdbcaaW.PrintWords Go.Proofs.YtlipofjoihdbcaaW.PrintLast Go.Proofs.YtlipofjoihdbcaaW.PrintMore
def cap (b x : Int) : Int := if x < b then x else b
theorem cap_cap (b x y : Int) : cap (cap b x) y = cap b (mn x y) := by unfold cap mn; (repeat' split) <;> omega
theorem put_most {has : List Int} {k x : Int} (h0 : 0 ≤ k) (h1 : k < (has.length : Int)) (hx : 0 ≤ x) : most 0 has ≤ most 0 (put has k x) := by
  obtain ⟨i, rfl⟩ := Int.eq_ofNat_of_zero_le h0
  unfold put
  rw [Int.toNat_natCast, most_set (k := i) (by omega) (by rw [rd_at (by omega)]; omega)]
  split <;> omega
theorem bestM_ge : ∀ (l has : List Int), (∀ x ∈ l, 0 ≤ x) → 0 < has.length → most 0 has ≤ bestM l has := by
  intro l
  induction l with
  | nil => intro has _ _; exact Int.le_refl _
  | cons x l ih =>
    intro has hl h
    simp only [bestM]
    have := minL_mem (vals_ne (l := l) (x := x) h)
    obtain ⟨k, hk, e⟩ := List.mem_map.mp this
    rw [← e]
    have hk := idx_mem.mp hk
    exact Int.le_trans (put_most hk.1 hk.2 (hl x List.mem_cons_self)) (ih _ (fun y hy => hl y (List.mem_cons_of_mem _ hy)) (by rw [put_length]; exact h))
theorem sbest_loop {l has : List Int} {x b : Int} (_hn : 0 < has.length) (hn4 : has.length ≤ 4) (hx : 0 ≤ x ∧ x ≤ 50) {m : Int} (hs : smallR has m) (hm : 0 ≤ m ∧ m ≤ 1000)
    (ih : ∀ k : Int, 0 ≤ k → k < (has.length : Int) → ∀ b, Ev (fun q => spec_l14Best.f q l (put has k x) b) (cap b (bestM l (put has k x)))) : ∀ (d i : Nat) (c : Int), i + d = has.length →
    (i = 0 → c = b) → (0 < i → c = cap b (minL ((idx i).map fun k => bestM l (put has k x)))) →
    Ev (fun k => spec_l14Best.l1 k (x :: l) has c (has.length : Int) (i : Int)) (cap b (minL ((idx has.length).map fun k => bestM l (put has k x)))) := by
  intro d
  induction d with
  | zero =>
    intro i c hi _ h2
    refine Ev.succ ?_
    have h1 : ¬ (i : Int) < (has.length : Int) := by omega
    have e : i = has.length := by omega
    simp only [spec_l14Best.l1, h1, if_false]
    rw [h2 (by omega), e]; exact Ev.now _
  | succ d ihd =>
    intro i c hi hc0 hc1
    refine Ev.succ ?_
    have h1 : (i : Int) < (has.length : Int) := by omega
    have h2 : (0 : Int) ≤ (i : Int) := by omega
    have h3 : (0 : Int) < (((x :: l).length : Nat) : Int) := by rw [List.length_cons]; omega
    have h4 : (1 : Int) ≤ (((x :: l).length : Nat) : Int) := by rw [List.length_cons]; omega
    have hr := hs (rd has (i : Int)) (by rw [rd_at (by omega)]; exact List.getElem_mem _)
    have e0 : rd (x :: l) 0 = x := rfl
    have e1 : wrap64 (rd has (i : Int) + x) = rd has (i : Int) + x := wrap64_in (by omega) (by omega)
    have e2 : (x :: l).drop 1 = l := rfl
    have e3 : (has.set (i : Int).toNat (rd has (i : Int) + x)) = put has (i : Int) x := rfl
    have h5 : ([] : List Int).length + has.length < 17592186044416 := by rw [List.length_nil]; omega
    have h6 := ihd (i + 1) (cap c (bestM l (put has (i : Int) x))) (by omega) (by omega) (fun _ => by
      rw [idx_succ, List.map_append, List.map_cons, List.map_nil]
      by_cases hi0 : i = 0
      · subst hi0; rw [hc0 rfl]; rfl
      · have hne : ((idx i).map fun k => bestM l (put has k x)) ≠ [] := by
          intro e
          have := congrArg List.length e
          simp [idx_length] at this
          omega
        rw [minL_snoc hne, hc1 (by omega), cap_cap])
    simp only [spec_l14Best.l1, h1, h2, h3, h4, if_true, e0, Option.bind_some, h5, List.nil_append, e1, e2, e3]
    refine Ev.bind (ih (i : Int) h2 h1 c) ?_
    simp only [w_next (i := i) (by omega)]
    exact h6
theorem smost_l0 {l has : List Int} {b R : Int} (hn : has.length ≤ 4) (hR : Ev (fun k => if most 0 has ≥ b then some b else (if (l.length : Int) = 0 then some (most 0 has) else spec_l14Best.l1 k l has b (has.length : Int) 0)) R) : ∀ (d i : Nat) (a : Int), i + d = has.length → most a (has.drop i) = most 0 has →
    Ev (fun k => spec_l14Best.l0 k l has b a has (has.length : Int) (i : Int)) R := by
  intro d
  induction d with
  | zero =>
    intro i a hi ha
    refine Ev.succ ?_
    have h1 : ¬ (i : Int) < (has.length : Int) := by omega
    have e : a = most 0 has := by rw [← ha, drop_end hi]; rfl
    subst e
    simp only [spec_l14Best.l0, h1, if_false]
    exact hR
  | succ d ih =>
    intro i a hi ha
    refine Ev.succ ?_
    have h1 : (i : Int) < (has.length : Int) := by omega
    have h2 : (0 : Int) ≤ (i : Int) := by omega
    rw [drop_rd (by omega), most_cons] at ha
    have h3 := ih (i + 1) _ (by omega) ha
    simp only [spec_l14Best.l0, h1, h2, if_true, most_eq, Option.bind_some, w_next (i := i) (by omega)]
    exact h3
theorem sbest_ok : ∀ (l has : List Int) (m b : Int), (∀ x ∈ l, 1 ≤ x ∧ x ≤ 50) → 0 < has.length → has.length ≤ 4 → smallR has m → 0 ≤ m → m + 50 * l.length ≤ 1000 →
    Ev (fun k => spec_l14Best.f k l has b) (cap b (bestM l has)) := by
  intro l
  induction l with
  | nil =>
    intro has m b _ hn hn4 hs _ _
    refine Ev.succ ?_
    simp only [spec_l14Best.f]
    refine smost_l0 hn4 ?_ has.length 0 0 (by omega) rfl
    have h1 : ((([] : List Int).length : Nat) : Int) = 0 := rfl
    simp only [h1, if_true, bestM, cap]
    by_cases h : most 0 has ≥ b
    · simp only [h, if_true]
      have e : ¬ most 0 has < b := by omega
      simp only [e, if_false]; exact Ev.now _
    · simp only [h, if_false]
      have e : most 0 has < b := by omega
      simp only [e, if_true]; exact Ev.now _
  | cons x l ih =>
    intro has m b hl hn hn4 hs h0 hm
    refine Ev.succ ?_
    simp only [spec_l14Best.f]
    refine smost_l0 hn4 ?_ has.length 0 0 (by omega) rfl
    have h1 : ¬ (((x :: l).length : Nat) : Int) = 0 := by rw [List.length_cons]; omega
    have hx := hl x List.mem_cons_self
    have hm2 : m + 50 + 50 * (l.length : Int) ≤ 1000 := by rw [List.length_cons] at hm; omega
    by_cases h : most 0 has ≥ b
    · simp only [h, if_true]
      have h2 := bestM_ge (x :: l) has (fun y hy => by have := hl y hy; omega) hn
      have e : cap b (bestM (x :: l) has) = b := by unfold cap; split <;> omega
      rw [e]; exact Ev.now _
    · simp only [h, if_false, h1, bestM]
      exact sbest_loop hn hn4 (by omega) hs (by omega) (fun k hk0 hk1 b' => ih (put has k x) (m + 50) b' (fun y hy => hl y (List.mem_cons_of_mem _ hy)) (by rw [put_length]; exact hn) (by rw [put_length]; exact hn4) (smallR_put hs hk0 hk1 (by omega) h0) (by omega) hm2) has.length 0 b (by omega) (fun _ => rfl) (fun h => by omega)
/-- chores put one by one on given hands -/
def putAll : List Int → List Int → List Int → List Int
  | has, x :: l, k :: g => putAll (put has k x) l g
  | has, _, _ => has
theorem bestM_le : ∀ (l has g : List Int), g.length = l.length → (∀ k ∈ g, 0 ≤ k ∧ k < (has.length : Int)) → bestM l has ≤ most 0 (putAll has l g) := by
  intro l
  induction l with
  | nil => intro has g _ _; cases g <;> exact Int.le_refl _
  | cons x l ih =>
    intro has g hg hk
    cases g with
    | nil => simp at hg
    | cons k g =>
      simp only [bestM, putAll]
      refine Int.le_trans (minL_le (x := bestM l (put has k x)) ?_) (ih _ g (by simpa using hg) (fun j hj => by rw [put_length]; exact hk j (List.mem_cons_of_mem _ hj)))
      exact List.mem_map.mpr ⟨k, idx_mem.mpr (hk k List.mem_cons_self), rfl⟩
theorem bestM_ex : ∀ (l has : List Int), 0 < has.length → ∃ g : List Int, g.length = l.length ∧ (∀ k ∈ g, 0 ≤ k ∧ k < (has.length : Int)) ∧ bestM l has = most 0 (putAll has l g) := by
  intro l
  induction l with
  | nil => intro has _; exact ⟨[], rfl, by simp, rfl⟩
  | cons x l ih =>
    intro has h
    have := minL_mem (vals_ne (l := l) (x := x) h)
    obtain ⟨k, hk, e⟩ := List.mem_map.mp this
    obtain ⟨g, h1, h2, h3⟩ := ih (put has k x) (by rw [put_length]; exact h)
    refine ⟨k :: g, by simp [h1], fun j hj => ?_, ?_⟩
    · cases hj with
      | head => exact idx_mem.mp hk
      | tail _ hj => have := h2 j hj; rw [put_length] at this; exact this
    · simp only [bestM, putAll]; rw [← h3, ← e]
theorem putAll_row {L G : List Int} {n : Nat} (hl : G.length = L.length) (hG : ∀ k ∈ G, 0 ≤ k ∧ k < (n : Int)) : ∀ (d i : Nat), i + d = L.length → putAll (row (rd L) (rd G) (idx i) n) (L.drop i) (G.drop i) = row (rd L) (rd G) (idx L.length) n := by
  intro d
  induction d with
  | zero => intro i hi; rw [drop_end hi, drop_end (by omega)]; have : i = L.length := by omega
            subst this; rfl
  | succ d ih =>
    intro i hi
    rw [drop_rd (by omega), drop_rd (l := G) (by omega)]
    have hgi : 0 ≤ rd G (i : Int) ∧ rd G (i : Int) < (n : Int) := by rw [rd_at (by omega)]; exact hG _ (List.getElem_mem _)
    simp only [putAll]
    have e : put (row (rd L) (rd G) (idx i) n) (rd G (i : Int)) (rd L (i : Int)) = row (rd L) (rd G) (idx (i + 1)) n := by
      unfold put; rw [row_rd hgi.1 hgi.2, row_snoc hgi.1, ← idx_succ]
    rw [e]; exact ih (i + 1) (by omega)
theorem putAll_span {L G : List Int} {n : Nat} (hl : G.length = L.length) (hG : ∀ k ∈ G, 0 ≤ k ∧ k < (n : Int)) : most 0 (putAll (List.replicate n 0) L G) = spanF L G n := by
  have h := putAll_row hl hG L.length 0 (by omega)
  rw [show idx 0 = [] from rfl, ← row_nil] at h
  simp only [List.drop_zero] at h
  rw [h]; rfl
/-- the least span -/
def bestS (l : List Int) (n : Nat) : Int := bestM l (List.replicate n 0)
theorem bestS_le {l g : List Int} {n : Nat} (hl : g.length = l.length) (hg : ∀ k ∈ g, 0 ≤ k ∧ k < (n : Int)) : bestS l n ≤ spanF l g n := by
  rw [← putAll_span hl hg]; exact bestM_le l _ g hl (by simpa using hg)
theorem bestS_ex {l : List Int} {n : Nat} (hn : 1 ≤ n) : ∃ g : List Int, g.length = l.length ∧ (∀ k ∈ g, 0 ≤ k ∧ k < (n : Int)) ∧ bestS l n = spanF l g n := by
  obtain ⟨g, h1, h2, h3⟩ := bestM_ex l (List.replicate n 0) (by rw [List.length_replicate]; omega)
  rw [List.length_replicate] at h2
  exact ⟨g, h1, h2, by rw [← putAll_span h1 h2]; exact h3⟩
theorem spanF_le {l g : List Int} {n : Nat} {m : Int} (h0 : 0 ≤ m) (h : ∀ k, 0 ≤ k → k < (n : Int) → ld (rd l) (rd g) (idx l.length) k ≤ m) : spanF l g n ≤ m := by
  refine most_le h0 (fun x hx => ?_)
  obtain ⟨k, hk, e⟩ := row_mem.mp hx
  rw [← e]; exact h k hk.1 hk.2
theorem spanF_ge {l g : List Int} {n : Nat} : 0 ≤ spanF l g n ∧ ∀ k, 0 ≤ k → k < (n : Int) → ld (rd l) (rd g) (idx l.length) k ≤ spanF l g n :=
  ⟨(most_ge _ 0).1, fun k h0 h1 => (most_ge _ 0).2 _ (row_mem.mpr ⟨k, ⟨h0, h1⟩, rfl⟩)⟩
theorem spanF_in {l g : List Int} {n : Nat} : spanF l g n = 0 ∨ ∃ k, (0 ≤ k ∧ k < (n : Int)) ∧ ld (rd l) (rd g) (idx l.length) k = spanF l g n := by
  rcases most_in (row (rd l) (rd g) (idx l.length) n) 0 with h | h
  · exact Or.inl h
  · exact Or.inr (row_mem.mp h)
theorem sumF_rd (l : List Int) : sumF (rd l) (idx l.length) = l.sum := by
  have e : (idx l.length).map (rd l) = l := by
    refine List.ext_getElem (by rw [List.length_map, idx_length]) (fun i h1 h2 => ?_)
    rw [List.getElem_map, idx_get, rd_at h2]
  unfold sumF; rw [e]
theorem bestS_sum {l : List Int} {n : Nat} (hn : 1 ≤ n) (hx : ∀ x ∈ l, 1 ≤ x ∧ x ≤ 50) : bestS l n ≤ l.sum := by
  obtain ⟨g, h1, h2, h3⟩ := bestS_ex (l := l) hn
  rw [h3]
  have hp : ∀ i ∈ idx l.length, 0 ≤ rd l i := fun i hi => by
    have := idx_mem.mp hi
    have e : i = ((i.toNat : Nat) : Int) := by omega
    rw [e, rd_at (by omega)]
    have := hx _ (List.getElem_mem (show i.toNat < l.length by omega)); omega
  refine spanF_le ?_ (fun k _ _ => ?_)
  · rw [← sumF_rd]; exact sumF_nonneg hp
  · rw [← sumF_rd]; exact ld_le_all hp k
def bsR (l : List Int) (h : Int) : Int × Bool := if good l h = true then (bestS l h.toNat, true) else (0, false)
theorem impl_bs (l : List Int) (h : Int) : Ev (fun k => impl_BestSpan.f k l h) (bsR l h) := by
  unfold impl_BestSpan.f bsR
  rw [impl_good]
  simp only [Option.bind_some]
  cases hg : good l h with
  | false => simp only [Bool.false_eq_true, if_false]; exact Ev.now _
  | true =>
    obtain ⟨n, rfl, hn1, hn4⟩ := of_hands hg
    obtain ⟨hl, hx, _, _⟩ := good_parts hg
    have h1 : (0 : Int) ≤ (n : Int) := by omega
    have h2 : n ≤ 35184372088832 := by omega
    simp only [if_true, Int.toNat_natCast, h1, h2]
    refine Ev.bind (best_ok l (List.replicate n 0) 0 hx (by rw [List.length_replicate]; omega) (by rw [List.length_replicate]; omega) (fun x hx => by rw [(List.mem_replicate.mp hx).2]; omega) (by omega) (by omega)) ?_
    exact Ev.now _
theorem ssum_l0 {l : List Int} (hl : l.length ≤ 8) (hx : ∀ x ∈ l, 1 ≤ x ∧ x ≤ 50) : ∀ (d i : Nat) (a : Int), i + d = l.length → 0 ≤ a → a + 50 * d ≤ 1000 → Ev (fun k => spec_l1Sum.l0 k a l (l.length : Int) (i : Int)) (a + (l.drop i).sum) ∧ Ev (fun k => impl_sum.l0 k a l (l.length : Int) (i : Int)) (a + (l.drop i).sum) := by
  intro d
  induction d with
  | zero =>
    intro i a hi _ _
    have h1 : ¬ (i : Int) < (l.length : Int) := by omega
    rw [drop_end hi]
    have e : a + ([] : List Int).sum = a := by simp
    rw [e]
    exact ⟨Ev.succ (by simp only [spec_l1Sum.l0, h1, if_false]; exact Ev.now _), Ev.succ (by simp only [impl_sum.l0, h1, if_false]; exact Ev.now _)⟩
  | succ d ih =>
    intro i a hi h0 hb
    have h1 : (i : Int) < (l.length : Int) := by omega
    have h2 : (0 : Int) ≤ (i : Int) := by omega
    have hli : 1 ≤ rd l (i : Int) ∧ rd l (i : Int) ≤ 50 := by rw [rd_at (by omega)]; exact hx _ (List.getElem_mem _)
    have hw : wrap64 (a + rd l (i : Int)) = a + rd l (i : Int) := wrap64_in (by omega) (by omega)
    have h3 := ih (i + 1) (a + rd l (i : Int)) (by omega) (by omega) (by omega)
    rw [drop_rd (by omega)]
    have e : a + (rd l (i : Int) :: l.drop (i + 1)).sum = a + rd l (i : Int) + (l.drop (i + 1)).sum := by simp; omega
    rw [e]
    refine ⟨Ev.succ ?_, Ev.succ ?_⟩
    · simp only [spec_l1Sum.l0, h1, h2, if_true, hw, w_next (i := i) (by omega)]; exact h3.1
    · simp only [impl_sum.l0, h1, h2, if_true, hw, w_next (i := i) (by omega)]; exact h3.2
theorem sum_ok {l : List Int} (hl : l.length ≤ 8) (hx : ∀ x ∈ l, 1 ≤ x ∧ x ≤ 50) : Ev (fun k => spec_l1Sum.f k l) l.sum ∧ Ev (fun k => impl_sum.f k l) l.sum := by
  have h := ssum_l0 hl hx l.length 0 0 (by omega) (by omega) (by omega)
  simp only [List.drop_zero, Int.zero_add] at h
  exact h
theorem sum_bd {l : List Int} (hl : l.length ≤ 8) (hx : ∀ x ∈ l, 1 ≤ x ∧ x ≤ 50) : 0 ≤ l.sum ∧ l.sum ≤ 400 := by
  have hok := okP_idx hl hx (Nat.le_refl _)
  rw [← sumF_rd]
  have h1 := sumF_nonneg (f := rd l) (A := idx l.length) (fun i hi => by have := hok.2 i hi; omega)
  have h2 := sumF_le (f := rd l) (M := 50) (A := idx l.length) (fun i hi => (hok.2 i hi).2)
  rw [idx_length] at h2
  omega
theorem spec_bs {l : List Int} (hl0 : l.length ≤ 1000) (h : Int) : Ev (fun k => spec_BestSpan.f k l h) (bsR l h) := by
  unfold spec_BestSpan.f bsR
  refine Ev.bind (spec_good hl0 h) ?_
  cases hg : good l h with
  | false => simp only [Bool.false_eq_true, if_false]; exact Ev.now _
  | true =>
    obtain ⟨n, rfl, hn1, hn4⟩ := of_hands hg
    obtain ⟨hl, hx, _, _⟩ := good_parts hg
    have h1 : (0 : Int) ≤ (n : Int) := by omega
    have h2 : n ≤ 35184372088832 := by omega
    have hb := sum_bd hl hx
    have hs := bestS_sum hn1 hx
    have hw : wrap64 (l.sum + 1) = l.sum + 1 := wrap64_in (by omega) (by omega)
    simp only [if_true, Int.toNat_natCast, h1, h2]
    refine Ev.bind (sum_ok hl hx).1 ?_
    simp only [hw]
    refine Ev.bind (sbest_ok l (List.replicate n 0) 0 (l.sum + 1) hx (by rw [List.length_replicate]; omega) (by rw [List.length_replicate]; omega) (fun x hx => by rw [(List.mem_replicate.mp hx).2]; omega) (by omega) (by omega)) ?_
    have e : cap (l.sum + 1) (bestM l (List.replicate n 0)) = bestS l n := by
      have e2 : bestM l (List.replicate n 0) = bestS l n := rfl
      rw [e2]; unfold cap; rw [if_pos (by omega)]
    rw [e]; exact Ev.now _
/-- what LeastSpan answers -/
def lsV (l : List Int) (n : Nat) : Int := most ((l.sum + n - 1) / n) l
def lsR (l : List Int) (h : Int) : Int × Bool := if good l h = true then (lsV l h.toNat, true) else (0, false)
theorem most_mx {l : List Int} : ∀ {a c : Int}, mx (most a l) c = most (mx a c) l := by
  induction l with
  | nil => intro a c; rfl
  | cons x l ih => intro a c; rw [most_cons, most_cons, ih]; congr 1; unfold mx; (repeat' split) <;> omega
theorem ceil_w {s : Int} {n : Nat} (hn1 : 1 ≤ n) (hn : n ≤ 4) (h0 : 0 ≤ s) (h1 : s ≤ 400) : wrap64 (Int.tdiv (wrap64 ((wrap64 (s + (n : Int))) - 1)) (n : Int)) = (s + n - 1) / n := by
  have e1 : wrap64 (s + (n : Int)) = s + n := wrap64_in (by omega) (by omega)
  have e2 : wrap64 (s + (n : Int) - 1) = s + n - 1 := wrap64_in (by omega) (by omega)
  rw [e1, e2, Int.tdiv_eq_ediv_of_nonneg (by omega)]
  have h2 : (s + n - 1) / (n : Int) ≤ s + n - 1 := Int.ediv_le_self _ (by omega)
  have h3 : 0 ≤ (s + n - 1) / (n : Int) := Int.ediv_nonneg (by omega) (by omega)
  exact wrap64_in (by omega) (by omega)
theorem impl_ls (l : List Int) (h : Int) : Ev (fun k => impl_LeastSpan.f k l h) (lsR l h) := by
  unfold impl_LeastSpan.f lsR
  rw [impl_good]
  simp only [Option.bind_some]
  cases hg : good l h with
  | false => simp only [Bool.false_eq_true, if_false]; exact Ev.now _
  | true =>
    obtain ⟨n, rfl, hn1, hn4⟩ := of_hands hg
    obtain ⟨hl, hx, _, _⟩ := good_parts hg
    have h1 : ([0] : List Int).length + l.length < 17592186044416 := by simp; omega
    have hb := sum_bd hl hx
    have h2 : ¬ (n : Int) = 0 := by omega
    have e : ([0] : List Int) ++ l = 0 :: l := rfl
    simp only [if_true, Int.toNat_natCast, h1, e]
    refine Ev.bind (max_ok (by omega)) (Ev.bind (sum_ok hl hx).2 ?_)
    simp only [h2, if_false, ceil_w hn1 hn4 hb.1 hb.2, most_mx]
    have h3 : 0 ≤ (l.sum + n - 1) / (n : Int) := Int.ediv_nonneg (by omega) (by omega)
    have e3 : mx 0 ((l.sum + n - 1) / (n : Int)) = (l.sum + n - 1) / (n : Int) := by unfold mx; split <;> omega
    rw [e3]; exact Ev.now _
theorem sls_l0 {l : List Int} (hl : l.length ≤ 8) : ∀ (d i : Nat) (a : Int), i + d = l.length → Ev (fun k => spec_LeastSpan.l0 k a l (l.length : Int) (i : Int)) (most a (l.drop i), true) := by
  intro d
  induction d with
  | zero =>
    intro i a hi
    refine Ev.succ ?_
    have h1 : ¬ (i : Int) < (l.length : Int) := by omega
    simp only [spec_LeastSpan.l0, h1, if_false]
    rw [drop_end hi]; exact Ev.now _
  | succ d ih =>
    intro i a hi
    refine Ev.succ ?_
    have h1 : (i : Int) < (l.length : Int) := by omega
    have h2 : (0 : Int) ≤ (i : Int) := by omega
    rw [drop_rd (by omega), most_cons]
    have h3 := ih (i + 1) (if a > rd l (i : Int) then a else rd l (i : Int)) (by omega)
    simp only [spec_LeastSpan.l0, h1, h2, if_true, most_eq, Option.bind_some, w_next (i := i) (by omega)]
    exact h3
theorem spec_ls {l : List Int} (hl0 : l.length ≤ 1000) (h : Int) : Ev (fun k => spec_LeastSpan.f k l h) (lsR l h) := by
  unfold spec_LeastSpan.f lsR
  refine Ev.bind (spec_good hl0 h) ?_
  cases hg : good l h with
  | false => simp only [Bool.false_eq_true, if_false]; exact Ev.now _
  | true =>
    obtain ⟨n, rfl, hn1, hn4⟩ := of_hands hg
    obtain ⟨hl, hx, _, _⟩ := good_parts hg
    have hb := sum_bd hl hx
    have h2 : ¬ (n : Int) = 0 := by omega
    simp only [if_true, Int.toNat_natCast]
    refine Ev.bind (sum_ok hl hx).1 ?_
    simp only [h2, if_false, ceil_w hn1 hn4 hb.1 hb.2]
    exact sls_l0 hl l.length 0 _ (by omega)
/-- no assignment's span is less than what LeastSpan answers -/
theorem lsV_le {l g : List Int} {n : Nat} (hn1 : 1 ≤ n) (hx : ∀ x ∈ l, 1 ≤ x ∧ x ≤ 50) (hl : g.length = l.length) (hg : ∀ k ∈ g, 0 ≤ k ∧ k < (n : Int)) : lsV l n ≤ spanF l g n := by
  have hp : ∀ i ∈ idx l.length, 0 ≤ rd l i := fun i hi => by
    have := idx_mem.mp hi
    have e : i = ((i.toNat : Nat) : Int) := by omega
    rw [e, rd_at (by omega)]
    have := hx _ (List.getElem_mem (show i.toNat < l.length by omega)); omega
  have hgi : ∀ i ∈ idx l.length, 0 ≤ rd g i ∧ rd g i < (n : Int) := fun i hi => by
    have := idx_mem.mp hi
    have e : i = ((i.toNat : Nat) : Int) := by omega
    rw [e, rd_at (by omega)]
    exact hg _ (List.getElem_mem _)
  have hS := spanF_ge (l := l) (g := g) (n := n)
  refine most_le ?_ (fun x hx' => ?_)
  · have h1 := ld_all (f := rd l) (g := rd g) (n := n) (idx l.length) hgi
    have h2 := sumF_le (f := ld (rd l) (rd g) (idx l.length)) (M := spanF l g n) (A := idx n) (fun k hk => hS.2 k (idx_mem.mp hk).1 (idx_mem.mp hk).2)
    rw [h1, sumF_rd, idx_length] at h2
    have h3 : l.sum + n - 1 < (n : Int) * (spanF l g n + 1) := by
      rw [Int.mul_add, Int.mul_comm]; omega
    have := Int.ediv_lt_of_lt_mul (a := l.sum + n - 1) (b := spanF l g n + 1) (c := (n : Int)) (by omega) (by rw [Int.mul_comm]; exact h3)
    omega
  · obtain ⟨i, hi, e⟩ := List.getElem_of_mem hx'
    have him : (i : Int) ∈ idx l.length := idx_mem.mpr (by omega)
    have h2 := hS.2 (rd g (i : Int)) (hgi _ him).1 (hgi _ him).2
    have h3 : rd l (i : Int) ≤ ld (rd l) (rd g) (idx l.length) (rd g (i : Int)) := by
      have h4 := sumF_sub (f := rd l) [(i : Int)] ((idx l.length).filter fun j => rd g j == rd g (i : Int)) (by simp) (by simp [him]) (fun b hb => hp b (List.mem_filter.mp hb).1)
      rw [sumF_cons, sumF_nil] at h4
      unfold ld; omega
    rw [rd_at hi, e] at h3
    omega
end Go.Proofs.Ytlipofjoihdbcaa.MFnHands
