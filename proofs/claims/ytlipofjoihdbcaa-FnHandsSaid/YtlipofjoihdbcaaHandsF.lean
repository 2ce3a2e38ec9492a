/- Giving in an order: the walk's loops and the plain function. -/
import Derived.Test.YtlipofjoihdbcaaHandsE
namespace Go.Proofs.Ytlipofjoihdbcaa.MFnHands
open Go.RowKit Go.Proofs.YtlipofjoihdbcaaW.PrintWords Go.Proofs.YtlipofjoihdbcaaW.PrintLast Go.Proofs.YtlipofjoihdbcaaW.PrintMore
def giveG (l : List Int) (n : Nat) : List Int → List Int → List Int → List Int
  | [], g, _ => g
  | j :: r, g, done => giveG l n r (g.set j.toNat (lowI (row (rd l) (rd g) done n))) (done ++ [j])
theorem giveG_length (l : List Int) (n : Nat) : ∀ (r g done : List Int), (giveG l n r g done).length = g.length := by
  intro r
  induction r with
  | nil => intro g done; rfl
  | cons j r ih => intro g done; simp only [giveG]; rw [ih, List.length_set]
theorem rd_set {g : List Int} {j i v : Int} (hj : 0 ≤ j ∧ j < (g.length : Int)) (hi : 0 ≤ i ∧ i < (g.length : Int)) : rd (g.set j.toNat v) i = if j = i then v else rd g i := by
  obtain ⟨a, rfl⟩ := Int.eq_ofNat_of_zero_le hj.1
  obtain ⟨b, rfl⟩ := Int.eq_ofNat_of_zero_le hi.1
  rw [rd_at (by rw [List.length_set]; omega), List.getElem_set, Int.toNat_natCast]
  by_cases h : a = b
  · subst h; simp
  · rw [if_neg h, if_neg (by omega), rd_at (by omega)]
/-- What holds while giving: done and what is left have each chore once. -/
structure Giving (l g done r : List Int) : Prop where
  nodup : (done ++ r).Nodup
  range : ∀ i ∈ done ++ r, 0 ≤ i ∧ i < (l.length : Int)
  len : g.length = l.length
theorem Giving.next {l g done r : List Int} {j v : Int} (h : Giving l g done (j :: r)) : Giving l (g.set j.toNat v) (done ++ [j]) r := by
  refine ⟨?_, ?_, by rw [List.length_set, h.len]⟩
  · have := h.nodup; rwa [List.append_cons] at this
  · intro i hi; refine h.range i ?_; rwa [List.append_cons]
theorem Giving.j {l g done r : List Int} {j : Int} (h : Giving l g done (j :: r)) : 0 ≤ j ∧ j < (l.length : Int) := h.range j (by simp)
theorem Giving.fresh {l g done r : List Int} {j : Int} (h : Giving l g done (j :: r)) : j ∉ done := by
  intro hj
  have := (List.nodup_append.mp h.nodup).2.2 j hj j List.mem_cons_self
  exact this rfl
theorem Giving.row {l g done r : List Int} {j v : Int} (h : Giving l g done (j :: r)) (hv : 0 ≤ v) (n : Nat) :
    (row (rd l) (rd g) done n).set v.toNat (ld (rd l) (rd g) done v + rd l j) = row (rd l) (rd (g.set j.toNat v)) (done ++ [j]) n := by
  have hj : 0 ≤ j ∧ j < (g.length : Int) := by rw [h.len]; exact h.j
  have e : rd (g.set j.toNat v) j = v := by rw [rd_set hj hj, if_pos rfl]
  have hc : ∀ i ∈ done, rd g i = rd (g.set j.toNat v) i := by
    intro i hi
    have hi2 : 0 ≤ i ∧ i < (g.length : Int) := by rw [h.len]; exact h.range i (List.mem_append_left _ hi)
    rw [rd_set hj hi2, if_neg (fun e : j = i => h.fresh (by rw [e]; exact hi))]
  have := row_snoc (p := rd l) (g := rd (g.set j.toNat v)) (js := done) (n := n) (j := j) (by rw [e]; exact hv)
  rw [e, ← ld_congr hc, ← row_congr hc] at this
  exact this
theorem nodup_len : ∀ (A B : List Int), A.Nodup → (∀ x ∈ A, x ∈ B) → A.length ≤ B.length := by
  intro A
  induction A with
  | nil => intro B _ _; simp
  | cons a A ih =>
    intro B hn hs
    have ha := hs a List.mem_cons_self
    rw [List.nodup_cons] at hn
    have h1 := ih (B.erase a) hn.2 (fun x hx => by
      have hne : x ≠ a := by rintro rfl; exact hn.1 hx
      exact (List.mem_erase_of_ne hne).mpr (hs x (List.mem_cons_of_mem _ hx)))
    rw [List.length_erase_of_mem ha] at h1
    have := List.length_pos_of_mem ha
    rw [List.length_cons]; omega
theorem Giving.ok {l g done r : List Int} (h : Giving l g done r) (hl : l.length ≤ 8) (hx : ∀ x ∈ l, 1 ≤ x ∧ x ≤ 50) : okP (rd l) done := by
  refine ⟨?_, fun v hv => ?_⟩
  · have hn : done.Nodup := (List.nodup_append.mp h.nodup).1
    have := (nodup_len done (idx l.length) hn (fun x hx => idx_mem.mpr (h.range x (List.mem_append_left _ hx))))
    rw [idx_length] at this; omega
  · have := h.range v (List.mem_append_left _ hv)
    have e : v = ((v.toNat : Nat) : Int) := by omega
    rw [e, rd_at (by omega)]
    exact hx _ (List.getElem_mem _)
theorem low_row {l : List Int} {n : Nat} {g done : List Int} (hn : 1 ≤ n) : (0 ≤ lowI (row (rd l) (rd g) done n) ∧ lowI (row (rd l) (rd g) done n) < (n : Int)) ∧
    ∀ k, 0 ≤ k → k < (n : Int) → ld (rd l) (rd g) done (lowI (row (rd l) (rd g) done n)) ≤ ld (rd l) (rd g) done k := by
  have h := lowI_low (s := row (rd l) (rd g) done n) (by rw [row_length]; omega)
  have h1 := h.1
  rw [row_length] at h1
  refine ⟨h1, fun k h0 hk => ?_⟩
  have := h.2.1 k h0 (by rw [row_length]; exact hk)
  rwa [row_rd h1.1 h1.2, row_rd h0 hk] at this
theorem give_l0 {l : List Int} {n : Nat} (hn1 : 1 ≤ n) (hn : n ≤ 4) (hl : l.length ≤ 8) (hx : ∀ x ∈ l, 1 ≤ x ∧ x ≤ 50) : ∀ (r done g : List Int), Giving l g done r → (done ++ r).length ≤ 8 →
    Ev (fun k => impl_give.l0 k l g (row (rd l) (rd g) done n) (done ++ r) ((done ++ r).length : Int) (done.length : Int)) (giveG l n r g done, most 0 (row (rd l) (rd (giveG l n r g done)) (done ++ r) n), true) := by
  intro r
  induction r with
  | nil =>
    intro done g hG h8
    refine Ev.succ ?_
    rw [List.append_nil] at h8 ⊢
    have h1 : ¬ ((done.length : Nat) : Int) < (done.length : Int) := by omega
    simp only [impl_give.l0, h1, if_false, giveG]
    have hok := hG.ok hl hx
    refine Ev.bind (max_ok0 (by rw [row_length]; omega) (by rw [row_length]; omega) (row_pos (fun i hi => by have := hok.2 i hi; omega))) ?_
    exact Ev.now _
  | cons j r ih =>
    intro done g hG h8
    refine Ev.succ ?_
    have hlen : (done ++ j :: r).length = done.length + r.length + 1 := by simp; omega
    have h1 : ((done.length : Nat) : Int) < ((done ++ j :: r).length : Int) := by omega
    have h2 : (0 : Int) ≤ ((done.length : Nat) : Int) := by omega
    have hrd : rd (done ++ j :: r) ((done.length : Nat) : Int) = j := by simp [rd, List.getD]
    have hj := hG.j
    have hjg : j < (g.length : Int) := by rw [hG.len]; exact hj.2
    obtain ⟨v, hv1, hv2⟩ := low_impl (s := row (rd l) (rd g) done n) (by rw [row_length]; omega) (by rw [row_length]; omega)
    have hlow := low_row (l := l) (g := g) (done := done) hn1
    have hb := ld_bd (g := rd g) (hG.ok hl hx) (lowI (row (rd l) (rd g) done n))
    have hlj : 1 ≤ rd l j ∧ rd l j ≤ 50 := by
      have e : j = ((j.toNat : Nat) : Int) := by omega
      rw [e, rd_at (by omega)]; exact hx _ (List.getElem_mem _)
    have hw : wrap64 (ld (rd l) (rd g) done (lowI (row (rd l) (rd g) done n)) + rd l j) = ld (rd l) (rd g) done (lowI (row (rd l) (rd g) done n)) + rd l j := wrap64_in (by omega) (by omega)
    have h3 := ih (done ++ [j]) _ (hG.next (v := lowI (row (rd l) (rd g) done n))) (by rw [← List.append_cons]; exact h8)
    have hwn : wrap64 (((done.length : Nat) : Int) + 1) = (((done ++ [j]).length : Nat) : Int) := by rw [w_next (by omega)]; simp
    rw [← List.append_cons] at h3
    have hlr : lowI (row (rd l) (rd g) done n) < ((row (rd l) (rd g) done n).length : Int) := by rw [row_length]; exact hlow.1.2
    simp only [impl_give.l0, h1, h2, if_true, hrd]
    refine Ev.bind hv1 ?_
    refine Ev.bind hv2 ?_
    simp only [hj.1, hjg, hlow.1.1, hlr, hj.2, if_true, row_rd hlow.1.1 hlow.1.2, hw, hG.row hlow.1.1, hwn, giveG]
    exact h3
end Go.Proofs.Ytlipofjoihdbcaa.MFnHands
