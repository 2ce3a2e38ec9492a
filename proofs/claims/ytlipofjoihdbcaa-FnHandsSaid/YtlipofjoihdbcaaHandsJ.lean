/- GiveLongest: what both answer; the longest come first. -/
import Derived.Test.YtlipofjoihdbcaaHandsI
namespace Go.Proofs.Ytlipofjoihdbcaa.MFnHands
open Go.RowKit Go.Proofs.YtlipofjoihdbcaaW.PrintWords Go.Proofs.YtlipofjoihdbcaaW.PrintLast Go.Proofs.YtlipofjoihdbcaaW.PrintMore
def ordL (l : List Int) (i : Nat) : List Int := (isortR (keyL l) [] (idx i)).reverse
theorem ordL_length (l : List Int) (i : Nat) : (ordL l i).length = i := by unfold ordL; rw [List.length_reverse, isortR_length, idx_length]; simp
theorem ordL_mem {l : List Int} {i : Nat} {v : Int} : v ∈ ordL l i ↔ 0 ≤ v ∧ v < (i : Int) := by unfold ordL; rw [List.mem_reverse, isortR_mem]; simp [idx_mem]
theorem ordL_ord (l : List Int) (i : Nat) : isOrd (ordL l i) i := isOrd_of_has (fun j hj => ordL_mem.mpr (by omega)) (ordL_length l i)
theorem ordL_down (l : List Int) (i : Nat) : down (keyL l) (ordL l i).reverse := by unfold ordL; rw [List.reverse_reverse]; exact isortR_down _ _ (by simp [down])
theorem ordL_succ (l : List Int) (i : Nat) : ordL l (i + 1) = (insR (keyL l) (i : Int) (ordL l i).reverse).reverse := by
  unfold ordL; rw [List.reverse_reverse, idx_succ]; simp [isortR, List.foldl_append]
theorem ordL_longest {l : List Int} {i : Nat} : ∀ done j rest, ordL l i = done ++ j :: rest → ∀ v ∈ done, rd l j ≤ rd l v := by
  intro done j rest e v hv
  have h := ordL_down l i
  rw [e] at h
  have e2 : (done ++ j :: rest).reverse = rest.reverse ++ j :: done.reverse := by simp
  rw [e2] at h
  have h2 := (List.pairwise_cons.mp (List.pairwise_append.mp h).2.1).1 v (by simpa using hv)
  unfold keyL at h2
  omega
def glR (l : List Int) (h : Int) : List Int × Int × Bool :=
  if good l h = true then (giveF l h.toNat (ordL l l.length), spanF l (giveF l h.toNat (ordL l l.length)) h.toNat, true) else ([], 0, false)
theorem impl_gl (l : List Int) (h : Int) : Ev (fun k => impl_GiveLongest.f k l h) (glR l h) := by
  unfold impl_GiveLongest.f glR
  rw [impl_good]
  simp only [Option.bind_some]
  cases hg : good l h with
  | false => simp only [Bool.false_eq_true, if_false]; exact Ev.now _
  | true =>
    obtain ⟨n, rfl, hn1, hn4⟩ := of_hands hg
    obtain ⟨hl, hx, _, _⟩ := good_parts hg
    simp only [if_true, Int.toNat_natCast]
    refine Ev.bind (inOrder_ok (by omega)) ?_
    refine Ev.bind (stable_eq (l := l) hx (o := idx l.length) (fun v hv => idx_mem.mp hv) (by rw [idx_length]; omega)) ?_
    refine Ev.bind (give_ok hn1 hn4 hl hx (ordL_ord l l.length)) ?_
    exact Ev.now _
theorem sgl_l0 {l : List Int} {n : Nat} (hn1 : 1 ≤ n) (hn : n ≤ 4) (hl : l.length ≤ 8) (hx : ∀ x ∈ l, 1 ≤ x ∧ x ≤ 50) : ∀ (d i : Nat), i + d = l.length →
    Ev (fun k => spec_GiveLongest.l0 k l (n : Int) (ordL l i) l (l.length : Int) (i : Int)) (giveF l n (ordL l l.length), spanF l (giveF l n (ordL l l.length)) n, true) := by
  intro d
  induction d with
  | zero =>
    intro i hi
    refine Ev.succ ?_
    have h1 : ¬ (i : Int) < (l.length : Int) := by omega
    have e : i = l.length := by omega
    simp only [spec_GiveLongest.l0, h1, if_false]
    rw [e]
    refine Ev.bind (sgive_ok hn1 hn hl hx (ordL_ord l l.length)) ?_
    have hG := giveF_gre (l := l) (order := ordL l l.length) hn1 (ordL_ord l l.length)
    refine Ev.bind (span_ok hn hl hx hG.2.2 hG.2.1) ?_
    exact Ev.now _
  | succ d ih =>
    intro i hi
    refine Ev.succ ?_
    have h1 : (i : Int) < (l.length : Int) := by omega
    have h2 : (0 : Int) ≤ (i : Int) := by omega
    have h3 := ih (i + 1) (by omega)
    simp only [spec_GiveLongest.l0, h1, h2, if_true]
    have hlen := ordL_length l i
    refine spec_by_l1 (by omega) (fun v hv => by have := ordL_mem.mp hv; omega) (ordL_down l i) ?_ (ordL l i).length 0 (by omega) (by simp)
    rw [← ordL_succ, w_next (by omega)]
    exact h3
theorem spec_gl {l : List Int} (hl0 : l.length ≤ 1000) (h : Int) : Ev (fun k => spec_GiveLongest.f k l h) (glR l h) := by
  unfold spec_GiveLongest.f glR
  refine Ev.bind (spec_good hl0 h) ?_
  cases hg : good l h with
  | false => simp only [Bool.false_eq_true, if_false]; exact Ev.now _
  | true =>
    obtain ⟨n, rfl, hn1, hn4⟩ := of_hands hg
    obtain ⟨hl, hx, _, _⟩ := good_parts hg
    simp only [if_true, Int.toNat_natCast]
    exact sgl_l0 hn1 hn4 hl hx l.length 0 (by omega)
end Go.Proofs.Ytlipofjoihdbcaa.MFnHands
