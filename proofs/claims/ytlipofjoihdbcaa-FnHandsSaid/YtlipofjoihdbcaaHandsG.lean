/- The other function that gives in an order; what is given goes to whoever has the least. -/
import Derived.Test.YtlipofjoihdbcaaHandsF
import Derived.Test.YtlipofjoihdbcaaMFnHandsx5
namespace Go.Proofs.Ytlipofjoihdbcaa.MFnHands
open Go.RowKit Go.Proofs.YtlipofjoihdbcaaW.PrintWords Go.Proofs.YtlipofjoihdbcaaW.PrintLast Go.Proofs.YtlipofjoihdbcaaW.PrintMore
theorem sgive_l1 {l s g order : List Int} {j io no : Int} {R : List Int} (hs : s.length ≤ 100) (hj : 0 ≤ j ∧ j < (l.length : Int)) (hg : g.length = l.length) : ∀ (d i : Nat) (b : Int), i + d = s.length → (0 ≤ b ∧ b < (s.length : Int)) →
    (∀ t, t = lowStep s b d → Ev (fun k => spec_l14Give.l0 k l (s.set t.toNat (wrap64 (rd s t + rd l j))) (g.set j.toNat t) order no (wrap64 (io + 1))) R) →
    Ev (fun k => spec_l14Give.l1 k l s g j b order no io (s.length : Int) (i : Int)) R := by
  intro d
  induction d with
  | zero =>
    intro i b hi hb h
    refine Ev.succ ?_
    have h1 : ¬ (i : Int) < (s.length : Int) := by omega
    have h2 : j < (g.length : Int) := by rw [hg]; exact hj.2
    simp only [spec_l14Give.l1, h1, if_false, hb.1, hb.2, hj.1, hj.2, h2, if_true]
    exact h b rfl
  | succ d ih =>
    intro i b hi hb h
    refine Ev.succ ?_
    have h1 : (i : Int) < (s.length : Int) := by omega
    have h2 : (0 : Int) ≤ (i : Int) := by omega
    have e : (s.length : Int) - ((d : Int) + 1) = (i : Int) := by omega
    simp only [lowStep, e] at h
    simp only [spec_l14Give.l1, h1, h2, if_true, hb.1, hb.2, w_next (i := i) (by omega)]
    by_cases hlt : rd s (i : Int) < rd s b
    · simp only [hlt, if_true] at h ⊢
      exact ih (i + 1) (i : Int) (by omega) (by omega) h
    · simp only [hlt, if_false] at h ⊢
      exact ih (i + 1) b (by omega) hb h
theorem sgive_l0 {l : List Int} {n : Nat} (hn1 : 1 ≤ n) (hn : n ≤ 4) (hl : l.length ≤ 8) (hx : ∀ x ∈ l, 1 ≤ x ∧ x ≤ 50) : ∀ (r done g : List Int), Giving l g done r → (done ++ r).length ≤ 8 →
    Ev (fun k => spec_l14Give.l0 k l (row (rd l) (rd g) done n) g (done ++ r) ((done ++ r).length : Int) (done.length : Int)) (giveG l n r g done) := by
  intro r
  induction r with
  | nil =>
    intro done g hG h8
    refine Ev.succ ?_
    rw [List.append_nil] at h8 ⊢
    have h1 : ¬ ((done.length : Nat) : Int) < (done.length : Int) := by omega
    simp only [spec_l14Give.l0, h1, if_false, giveG]
    exact Ev.now _
  | cons j r ih =>
    intro done g hG h8
    refine Ev.succ ?_
    have hlen : (done ++ j :: r).length = done.length + r.length + 1 := by simp; omega
    have h1 : ((done.length : Nat) : Int) < ((done ++ j :: r).length : Int) := by omega
    have h2 : (0 : Int) ≤ ((done.length : Nat) : Int) := by omega
    have hrd : rd (done ++ j :: r) ((done.length : Nat) : Int) = j := by simp [rd, List.getD]
    have hlow := low_row (l := l) (g := g) (done := done) hn1
    have hb := ld_bd (g := rd g) (hG.ok hl hx) (lowI (row (rd l) (rd g) done n))
    have hj := hG.j
    have hlj : 1 ≤ rd l j ∧ rd l j ≤ 50 := by
      have e : j = ((j.toNat : Nat) : Int) := by omega
      rw [e, rd_at (by omega)]; exact hx _ (List.getElem_mem _)
    have hw : wrap64 (ld (rd l) (rd g) done (lowI (row (rd l) (rd g) done n)) + rd l j) = ld (rd l) (rd g) done (lowI (row (rd l) (rd g) done n)) + rd l j := wrap64_in (by omega) (by omega)
    have h3 := ih (done ++ [j]) _ (hG.next (v := lowI (row (rd l) (rd g) done n))) (by rw [← List.append_cons]; exact h8)
    have hwn : wrap64 (((done.length : Nat) : Int) + 1) = (((done ++ [j]).length : Nat) : Int) := by rw [w_next (by omega)]; simp
    rw [← List.append_cons] at h3
    simp only [spec_l14Give.l0, h1, h2, if_true, hrd]
    have hrl := row_length (rd l) (rd g) done n
    refine sgive_l1 (by omega) hj hG.len (row (rd l) (rd g) done n).length 0 0 (by omega) (by omega) (fun t ht => ?_)
    have ht2 : t = lowI (row (rd l) (rd g) done n) := ht
    subst ht2
    simp only [row_rd hlow.1.1 hlow.1.2, hw, hG.row hlow.1.1, hwn, giveG]
    exact h3
theorem Gre.snoc {p g : Int → Int} {n : Nat} {done : List Int} {j : Int} (h : Gre p g n done) (hr : 0 ≤ g j ∧ g j < (n : Int)) (hm : ∀ k, 0 ≤ k → k < (n : Int) → ld p g done (g j) ≤ ld p g done k) : Gre p g n (done ++ [j]) := by
  intro d x r e
  rcases List.eq_nil_or_concat r with h0 | ⟨r', y, h0⟩
  · subst h0
    obtain ⟨e1, e2⟩ := List.append_inj' e rfl
    injection e2 with e2 _
    subst e1 e2
    exact ⟨hr, hm⟩
  · subst h0
    have e3 : done ++ [j] = (d ++ x :: r') ++ [y] := by rw [e]; simp
    obtain ⟨e1, _⟩ := List.append_inj' e3 rfl
    exact h d x r' e1
theorem Gre.congr {p g g' : Int → Int} {n : Nat} {order : List Int} (hc : ∀ i ∈ order, g i = g' i) (h : Gre p g n order) : Gre p g' n order := by
  intro d x r e
  have h1 := h d x r e
  have hx : g x = g' x := hc x (by rw [e]; simp)
  have hd : ∀ i ∈ d, g i = g' i := fun i hi => hc i (by rw [e]; exact List.mem_append_left _ hi)
  rw [← hx]
  refine ⟨h1.1, fun k h0 hk => ?_⟩
  rw [← ld_congr hd, ← ld_congr hd]
  exact h1.2 k h0 hk
theorem giveG_gre {l : List Int} {n : Nat} (hn : 1 ≤ n) : ∀ (r g done : List Int), Giving l g done r → Gre (rd l) (rd g) n done → (∀ x ∈ g, 0 ≤ x ∧ x < (n : Int)) →
    Gre (rd l) (rd (giveG l n r g done)) n (done ++ r) ∧ ∀ x ∈ giveG l n r g done, 0 ≤ x ∧ x < (n : Int) := by
  intro r
  induction r with
  | nil => intro g done _ h hg; rw [List.append_nil]; exact ⟨h, hg⟩
  | cons j r ih =>
    intro g done hG h hg
    have hlow := low_row (l := l) (g := g) (done := done) hn
    have hj : 0 ≤ j ∧ j < (g.length : Int) := by rw [hG.len]; exact hG.j
    have e : rd (g.set j.toNat (lowI (row (rd l) (rd g) done n))) j = lowI (row (rd l) (rd g) done n) := by rw [rd_set hj hj, if_pos rfl]
    have hc : ∀ i ∈ done, rd g i = rd (g.set j.toNat (lowI (row (rd l) (rd g) done n))) i := by
      intro i hi
      have hi2 : 0 ≤ i ∧ i < (g.length : Int) := by rw [hG.len]; exact hG.range i (List.mem_append_left _ hi)
      rw [rd_set hj hi2, if_neg (fun e : j = i => hG.fresh (by rw [e]; exact hi))]
    have h1 := ih _ _ (hG.next (v := lowI (row (rd l) (rd g) done n))) (Gre.snoc (h.congr hc) (by rw [e]; exact hlow.1) (fun k h0 hk => by
      rw [e, ← ld_congr hc, ← ld_congr hc]; exact hlow.2 k h0 hk)) (fun x hx => by
      rcases List.mem_or_eq_of_mem_set hx with h | h
      · exact hg x h
      · rw [h]; exact hlow.1)
    rw [← List.append_cons] at h1
    exact h1
/-- what is given in an order -/
def giveF (l : List Int) (n : Nat) (order : List Int) : List Int := giveG l n order (List.replicate l.length 0) []
theorem giving0 {l order : List Int} (ho : isOrd order l.length) : Giving l (List.replicate l.length 0) [] order :=
  ⟨isOrd_nodup ho, fun i hi => (isOrd_mem ho).mp hi, by simp⟩
theorem giveF_gre {l order : List Int} {n : Nat} (hn : 1 ≤ n) (ho : isOrd order l.length) : Gre (rd l) (rd (giveF l n order)) n order ∧ (∀ x ∈ giveF l n order, 0 ≤ x ∧ x < (n : Int)) ∧ (giveF l n order).length = l.length := by
  have h := giveG_gre (l := l) hn order _ [] (giving0 ho) (fun d j r e => by cases d <;> simp at e) (fun x hx => by rw [(List.mem_replicate.mp hx).2]; omega)
  exact ⟨h.1, h.2, by unfold giveF; rw [giveG_length]; simp⟩
theorem give_ok {l order : List Int} {n : Nat} (hn1 : 1 ≤ n) (hn : n ≤ 4) (hl : l.length ≤ 8) (hx : ∀ x ∈ l, 1 ≤ x ∧ x ≤ 50) (ho : isOrd order l.length) :
    Ev (fun k => impl_give.f k l (n : Int) order) (giveF l n order, spanF l (giveF l n order) n, true) := by
  have hlen := isOrd_length ho
  have h := give_l0 hn1 hn hl hx order [] _ (giving0 ho) (by simp; omega)
  unfold impl_give.f
  have h1 : (0 : Int) ≤ (n : Int) := by omega
  have h2 : n ≤ 35184372088832 := by omega
  have h3 : (0 : Int) ≤ (l.length : Int) := by omega
  have h4 : l.length ≤ 35184372088832 := by omega
  simp only [h1, h3, if_true, Int.toNat_natCast, h2, h4]
  rw [← row_nil, List.nil_append] at h
  have e : most 0 (row (rd l) (rd (giveG l n order (List.replicate l.length 0) [])) order n) = spanF l (giveF l n order) n := by
    unfold spanF giveF; rw [row_perm ho]
  rw [e] at h
  exact h
theorem sgive_ok {l order : List Int} {n : Nat} (hn1 : 1 ≤ n) (hn : n ≤ 4) (hl : l.length ≤ 8) (hx : ∀ x ∈ l, 1 ≤ x ∧ x ≤ 50) (ho : isOrd order l.length) :
    Ev (fun k => spec_l14Give.f k l (n : Int) order) (giveF l n order) := by
  have hlen := isOrd_length ho
  have h := sgive_l0 hn1 hn hl hx order [] _ (giving0 ho) (by simp; omega)
  unfold spec_l14Give.f
  have h1 : (0 : Int) ≤ (n : Int) := by omega
  have h2 : n ≤ 35184372088832 := by omega
  have h3 : (0 : Int) ≤ (l.length : Int) := by omega
  have h4 : l.length ≤ 35184372088832 := by omega
  simp only [h1, h3, if_true, Int.toNat_natCast, h2, h4]
  rw [← row_nil, List.nil_append] at h
  exact h
end Go.Proofs.Ytlipofjoihdbcaa.MFnHands
