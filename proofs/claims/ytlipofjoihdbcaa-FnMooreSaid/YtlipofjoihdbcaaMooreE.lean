/- What orders come to, both ways. -/
import Derived.Test.YtlipofjoihdbcaaMooreD
namespace Go.Proofs.Ytlipofjoihdbcaa.MFnMoore
open Go.RowKit Go.Proofs.YtlipofjoihdbcaaW.PrintWords Go.Proofs.YtlipofjoihdbcaaW.PrintLast Go.Proofs.YtlipofjoihdbcaaW.PrintMore
theorem comp_both {l : List S69} (hg : l.all okT = true) {o : List Int} (ho : ∀ x ∈ o, 0 ≤ x ∧ x < (l.length : Int)) (hl : o.length ≤ 100) : ∀ (d i : Nat) (p : List Int × Int), i + d = o.length → p.1.length = l.length → 0 ≤ p.2 → p.2 + 20 * d ≤ 1000000 →
    Ev (fun k => impl_completions.l0 k l p.1 p.2 o (o.length : Int) (i : Int)) ((o.drop i).foldl (compS l) p).1 ∧ Ev (fun k => spec_l5Done.l0 k l p.1 p.2 o (o.length : Int) (i : Int)) ((o.drop i).foldl (compS l) p).1 := by
  intro d
  induction d with
  | zero =>
    intro i p hi _ _ _
    have h1 : ¬ (i : Int) < (o.length : Int) := by omega
    rw [List.drop_eq_nil_of_le (by omega)]
    exact ⟨Ev.succ (by simp only [impl_completions.l0, h1, if_false]; exact Ev.now _), Ev.succ (by simp only [spec_l5Done.l0, h1, if_false]; exact Ev.now _)⟩
  | succ d ih =>
    intro i p hi hp h0 hb
    have h1 : (i : Int) < (o.length : Int) := by omega
    have h2 : (0 : Int) ≤ (i : Int) := by omega
    have hw : wrap64 ((i : Int) + 1) = ((i + 1 : Nat) : Int) := by rw [wrap64_in (by omega) (by omega)]; omega
    have hm : rd o (i : Int) ∈ o := by rw [rd_at (by omega)]; exact List.getElem_mem _
    obtain ⟨v0, v1⟩ := ho _ hm
    have v2 : rd o (i : Int) < (p.1.length : Int) := by omega
    have hx := okT_iff.mp (List.all_eq_true.mp hg _ (rdT_mem v0 v1))
    have hw2 : wrap64 (p.2 + (rd_T69 l (rd o (i : Int))).f0) = p.2 + (rd_T69 l (rd o (i : Int))).f0 := wrap64_in (by omega) (by omega)
    have hn := ih (i + 1) (compS l p (rd o (i : Int))) (by omega) (by simp [compS, hp]) (by simp only [compS, need]; omega) (by simp only [compS, need]; omega)
    rw [drop_rdI (by omega), List.foldl_cons]
    constructor
    · refine Ev.succ ?_
      simp only [impl_completions.l0, h1, h2, if_true, v0, v1, v2, hw, hw2]
      exact hn.1
    · refine Ev.succ ?_
      simp only [spec_l5Done.l0, h1, h2, if_true, v0, v1, v2, hw, hw2]
      exact hn.2
theorem done_both {l : List S69} (hg : good l = true) {o : List Int} (ho : isOrd o l.length) : Ev (fun k => impl_completions.f k l o) (done l o) ∧ Ev (fun k => spec_l5Done.f k l o) (done l o) := by
  have h := good_parts hg
  have hl := isOrd_length ho
  have hb := comp_both h.2 (fun x hx => (isOrd_mem ho).mp hx) (by omega) o.length 0 (List.replicate l.length 0, 0) (by omega) (by simp) (by simp) (by simp; omega)
  have e1 : (0 : Int) ≤ (l.length : Int) := by omega
  have e2 : l.length ≤ 35184372088832 := by omega
  unfold impl_completions.f spec_l5Done.f
  simp only [e1, if_true, Int.toNat_natCast, e2]
  exact hb
theorem done_bd {l : List S69} (hg : good l = true) {o : List Int} (ho : isOrd o l.length) {k : Int} (k0 : 0 ≤ k) (k1 : k < (l.length : Int)) : 0 ≤ rd (done l o) k ∧ rd (done l o) k ≤ 200 := by
  have h := good_parts hg
  have hin : ∀ x ∈ o, 0 ≤ x ∧ x < (l.length : Int) := fun x hx => (isOrd_mem ho).mp hx
  obtain ⟨A, B, rfl⟩ := List.append_of_mem ((isOrd_mem ho).mpr ⟨k0, k1⟩)
  have hn := isOrd_nodup ho
  rw [List.nodup_append] at hn
  rw [done_at l hin (List.nodup_cons.mp hn.2.1).1]
  have hnd : ∀ x ∈ A ++ [k], 0 ≤ need l x ∧ need l x ≤ 20 := by
    intro x hx
    have := hin x (by simp only [List.mem_append, List.mem_cons, List.not_mem_nil, or_false] at hx ⊢; grind)
    have := okT_iff.mp (List.all_eq_true.mp h.2 _ (rdT_mem this.1 this.2))
    unfold need; omega
  have hlen := isOrd_length ho
  simp only [List.length_append, List.length_cons] at hlen
  have h1 := sumF_nonneg (f := need l) (A := A ++ [k]) (fun x hx => (hnd x hx).1)
  have h2 := sumF_le (f := need l) (M := 20) (A := A ++ [k]) (fun x hx => (hnd x hx).2)
  simp only [List.length_append, List.length_cons, List.length_nil] at h2
  omega
theorem spec_both {l : List S69} (hl : l.length ≤ 1000000) {o : List Int} : Ev (fun k => spec_l5Both.f k l o) (good l && decide (isOrd o l.length)) := by
  unfold spec_l5Both.f
  refine Ev.bind (spec_good hl) ?_
  cases hg : good l with
  | false => simp only [Bool.false_and, Bool.false_eq_true, if_false]; exact Ev.now _
  | true => simp only [Bool.true_and, if_true]; exact Ev.bind (spec_order_ev hl) (Ev.now _)
theorem idx_rd {n i : Nat} (h : i < n) : rd (idx n) (i : Int) = (i : Int) := by
  rw [rd_at (by rw [idx_length]; exact h)]; simp [idx]
theorem idx_drop {n i : Nat} (h : i < n) : (idx n).drop i = (i : Int) :: (idx n).drop (i + 1) := by
  rw [drop_rdI (by rw [idx_length]; exact h), idx_rd h]
end Go.Proofs.Ytlipofjoihdbcaa.MFnMoore
