/- GiveInOrder: what both answer. -/
import Derived.Test.YtlipofjoihdbcaaHandsG
import Derived.Test.YtlipofjoihdbcaaMFnHandsx5
import Derived.Test.YtlipofjoihdbcaaMFnHandsx6
namespace Go.Proofs.Ytlipofjoihdbcaa.MFnHands
open Go.RowKit Go.Proofs.YtlipofjoihdbcaaW.PrintWords Go.Proofs.YtlipofjoihdbcaaW.PrintLast Go.Proofs.YtlipofjoihdbcaaW.PrintMore
theorem inOrder_l0 {n : Nat} (hn : n ≤ 1000) : ∀ (d i : Nat), i + d = n → Ev (fun k => impl_inOrder.l0 k (idx i) (n : Int) (i : Int)) (idx n) := by
  intro d
  induction d with
  | zero =>
    intro i hi
    refine Ev.succ ?_
    have h1 : ¬ (i : Int) < (n : Int) := by omega
    have e : i = n := by omega
    simp only [impl_inOrder.l0, h1, if_false]
    rw [e]; exact Ev.now _
  | succ d ih =>
    intro i hi
    refine Ev.succ ?_
    have h1 : (i : Int) < (n : Int) := by omega
    have h2 : (idx i).length < 17592186044416 := by rw [idx_length]; omega
    have h3 := ih (i + 1) (by omega)
    rw [idx_succ] at h3
    simp only [impl_inOrder.l0, h1, if_true, h2, w_next (i := i) (by omega)]
    exact h3
theorem inOrder_ok {l : List Int} (hl : l.length ≤ 1000) : Ev (fun k => impl_inOrder.f k l) (idx l.length) := inOrder_l0 hl l.length 0 (by omega)
def gioR (l : List Int) (h : Int) : List Int × Int × Bool :=
  if good l h = true then (giveF l h.toNat (idx l.length), spanF l (giveF l h.toNat (idx l.length)) h.toNat, true) else ([], 0, false)
theorem impl_gio (l : List Int) (h : Int) : Ev (fun k => impl_GiveInOrder.f k l h) (gioR l h) := by
  unfold impl_GiveInOrder.f gioR
  rw [impl_good]
  simp only [Option.bind_some]
  cases hg : good l h with
  | false => simp only [Bool.false_eq_true, if_false]; exact Ev.now _
  | true =>
    obtain ⟨n, rfl, hn1, hn4⟩ := of_hands hg
    obtain ⟨hl, hx, _, _⟩ := good_parts hg
    simp only [if_true, Int.toNat_natCast]
    refine Ev.bind (inOrder_ok (by omega)) ?_
    refine Ev.bind (give_ok hn1 hn4 hl hx (List.Perm.refl _)) ?_
    exact Ev.now _
theorem sgio_l0 {l : List Int} {n : Nat} (hn1 : 1 ≤ n) (hn : n ≤ 4) (hl : l.length ≤ 8) (hx : ∀ x ∈ l, 1 ≤ x ∧ x ≤ 50) : ∀ (d i : Nat), i + d = l.length →
    Ev (fun k => spec_GiveInOrder.l0 k l (n : Int) (idx i) (l.length : Int) (i : Int)) (giveF l n (idx l.length), spanF l (giveF l n (idx l.length)) n, true) := by
  intro d
  induction d with
  | zero =>
    intro i hi
    refine Ev.succ ?_
    have h1 : ¬ (i : Int) < (l.length : Int) := by omega
    have e : i = l.length := by omega
    simp only [spec_GiveInOrder.l0, h1, if_false]
    rw [e]
    refine Ev.bind (sgive_ok hn1 hn hl hx (List.Perm.refl _)) ?_
    have hG := giveF_gre (l := l) (order := idx l.length) hn1 (List.Perm.refl _)
    refine Ev.bind (span_ok hn hl hx hG.2.2 hG.2.1) ?_
    exact Ev.now _
  | succ d ih =>
    intro i hi
    refine Ev.succ ?_
    have h1 : (i : Int) < (l.length : Int) := by omega
    have h2 : (idx i).length < 17592186044416 := by rw [idx_length]; omega
    have h3 := ih (i + 1) (by omega)
    rw [idx_succ] at h3
    simp only [spec_GiveInOrder.l0, h1, if_true, h2, w_next (i := i) (by omega)]
    exact h3
theorem spec_gio {l : List Int} (hl0 : l.length ≤ 1000) (h : Int) : Ev (fun k => spec_GiveInOrder.f k l h) (gioR l h) := by
  unfold spec_GiveInOrder.f gioR
  refine Ev.bind (spec_good hl0 h) ?_
  cases hg : good l h with
  | false => simp only [Bool.false_eq_true, if_false]; exact Ev.now _
  | true =>
    obtain ⟨n, rfl, hn1, hn4⟩ := of_hands hg
    obtain ⟨hl, hx, _, _⟩ := good_parts hg
    simp only [if_true, Int.toNat_natCast]
    exact sgio_l0 hn1 hn4 hl hx l.length 0 (by omega)
end Go.Proofs.Ytlipofjoihdbcaa.MFnHands
