/- The order by ends, both ways. -/
import Derived.Test.YtlipofjoihdbcaaMooreF
namespace Go.Proofs.Ytlipofjoihdbcaa.MFnMoore
open Go.RowKit Go.Proofs.YtlipofjoihdbcaaW.PrintWords Go.Proofs.YtlipofjoihdbcaaW.PrintLast Go.Proofs.YtlipofjoihdbcaaW.PrintMore
def byEnd (l : List S69) : List Int := (isortR (keyE l) [] (idx l.length)).reverse
theorem impl_by_l0 {l : List S69} (hg : l.all okT = true) (hl : l.length ≤ 10) : ∀ (d i : Nat), i + d = l.length → Ev (fun k => impl_byEnd.l0 k (idx i) (l.length : Int) (i : Int) l) (byEnd l) := by
  intro d
  induction d with
  | zero =>
    intro i hi
    refine Ev.succ ?_
    have h1 : ¬ (i : Int) < (l.length : Int) := by omega
    simp only [impl_byEnd.l0, h1, if_false]
    obtain rfl : i = l.length := by omega
    exact Ev.bind (stable_eq hg (fun v hv => idx_mem.mp hv) (by rw [idx_length]; omega)) (Ev.now _)
  | succ d ih =>
    intro i hi
    refine Ev.succ ?_
    have h1 : (i : Int) < (l.length : Int) := by omega
    have h2 : (idx i).length < 17592186044416 := by rw [idx_length]; omega
    have hw : wrap64 ((i : Int) + 1) = ((i + 1 : Nat) : Int) := by rw [wrap64_in (by omega) (by omega)]; omega
    simp only [impl_byEnd.l0, h1, h2, if_true, hw, ← idx_succ]
    exact ih (i + 1) (by omega)
theorem impl_byEnd_ev {l : List S69} (hg : good l = true) : Ev (fun k => impl_byEnd.f k l) (byEnd l) := by
  have h := good_parts hg
  exact impl_by_l0 h.2 h.1 l.length 0 (by omega)
theorem spec_by_l0 {l : List S69} (hl : l.length ≤ 10) : ∀ (d i : Nat), i + d = l.length → Ev (fun k => spec_l5ByEnd.l0 k l (isortR (keyE l) [] (idx i)).reverse l (l.length : Int) (i : Int)) (byEnd l) := by
  intro d
  induction d with
  | zero =>
    intro i hi
    refine Ev.succ ?_
    have h1 : ¬ (i : Int) < (l.length : Int) := by omega
    obtain rfl : i = l.length := by omega
    simp only [spec_l5ByEnd.l0, h1, if_false]; exact Ev.now _
  | succ d ih =>
    intro i hi
    refine Ev.succ ?_
    have h1 : (i : Int) < (l.length : Int) := by omega
    have h2 : (0 : Int) ≤ (i : Int) := by omega
    have hw : wrap64 ((i : Int) + 1) = ((i + 1 : Nat) : Int) := by rw [wrap64_in (by omega) (by omega)]; omega
    have hlen := isortR_length (keyE l) (idx i) []
    rw [idx_length] at hlen
    simp only [List.length_nil] at hlen
    simp only [spec_l5ByEnd.l0, h1, h2, if_true]
    have hn := ih (i + 1) (by omega)
    rw [idx_succ] at hn
    have e : isortR (keyE l) [] (idx i ++ [(i : Int)]) = insR (keyE l) (i : Int) (isortR (keyE l) [] (idx i)) := by simp [isortR]
    rw [e] at hn
    refine spec_by_l1 (by simp; omega) (fun v hv => ?_) (by rw [List.reverse_reverse]; exact isortR_down _ _ List.Pairwise.nil) (by rw [hw, List.reverse_reverse]; exact hn) (isortR (keyE l) [] (idx i)).reverse.length 0 (by omega) (by simp)
    rw [List.mem_reverse, isortR_mem] at hv
    rcases hv with hv | hv
    · cases hv
    · have := idx_mem.mp hv; omega
theorem insR_perm {α : Type} (key : α → Int) (x : α) : ∀ l : List α, (insR key x l).Perm (x :: l) := by
  intro l
  induction l with
  | nil => exact List.Perm.refl _
  | cons y r ih =>
    simp only [insR]
    split
    · exact (List.Perm.cons y ih).trans (List.Perm.swap x y r)
    · exact List.Perm.refl _
theorem isortR_perm {α : Type} (key : α → Int) : ∀ (l acc : List α), (isortR key acc l).Perm (acc ++ l) := by
  intro l
  induction l with
  | nil => intro acc; simp [isortR]
  | cons x l ih =>
    intro acc
    refine (ih (insR key x acc)).trans ?_
    exact ((insR_perm key x acc).append_right l).trans (by simpa using List.perm_middle.symm)
theorem byEnd_ord (l : List S69) : isOrd (byEnd l) l.length := by
  unfold byEnd isOrd
  exact (List.reverse_perm _).trans (by simpa using isortR_perm (keyE l) (idx l.length) [])
theorem byEnd_sorted (l : List S69) : (byEnd l).Pairwise fun a b => keyE l a ≤ keyE l b := by
  unfold byEnd
  rw [List.pairwise_reverse]
  exact isortR_down _ _ List.Pairwise.nil
end Go.Proofs.Ytlipofjoihdbcaa.MFnMoore
