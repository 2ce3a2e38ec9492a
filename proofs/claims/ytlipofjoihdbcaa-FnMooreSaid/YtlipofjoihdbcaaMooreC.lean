/- Tasks with ends: when they are done, how late at most, and that the order by ends is the least late. -/
import Derived.Test.YtlipofjoihdbcaaMooreP
import Derived.Test.YtlipofjoihdbcaaMFnMoorex2
namespace Go.Proofs.Ytlipofjoihdbcaa.MFnMoore
open Go.RowKit Go.Proofs.YtlipofjoihdbcaaW.PrintWords Go.Proofs.YtlipofjoihdbcaaW.PrintLast Go.Proofs.YtlipofjoihdbcaaW.PrintMore
theorem rdT_at {l : List S69} {i : Nat} (h : i < l.length) : rd_T69 l (i : Int) = l[i] := by simp [rd_T69, List.getD, h]
theorem rdT_mem {l : List S69} {i : Int} (h0 : 0 ≤ i) (h : i < l.length) : rd_T69 l i ∈ l := by
  obtain ⟨n, rfl⟩ := Int.eq_ofNat_of_zero_le h0
  rw [rdT_at (by omega)]; exact List.getElem_mem _
def okT (x : S69) : Bool := decide (1 ≤ x.f0) && decide (x.f0 ≤ 20) && (decide (0 ≤ x.f1) && decide (x.f1 ≤ 200))
theorem okT_iff {x : S69} : okT x = true ↔ 1 ≤ x.f0 ∧ x.f0 ≤ 20 ∧ 0 ≤ x.f1 ∧ x.f1 ≤ 200 := by
  simp [okT]; omega
def good (l : List S69) : Bool := decide (l.length ≤ 10) && l.all okT
def need (l : List S69) (i : Int) : Int := (rd_T69 l i).f0
def keyE (l : List S69) (i : Int) : Int := (rd_T69 l i).f1
/-- when each is done: (the times, now) -/
def compS (l : List S69) (p : List Int × Int) (i : Int) : List Int × Int := (p.1.set i.toNat (p.2 + need l i), p.2 + need l i)
def comp (l : List S69) (o : List Int) : List Int × Int := o.foldl (compS l) (List.replicate l.length 0, 0)
def done (l : List S69) (o : List Int) : List Int := (comp l o).1
theorem comp_now (l : List S69) : ∀ (o : List Int) (p : List Int × Int), (o.foldl (compS l) p).2 = p.2 + sumF (need l) o := by
  intro o
  induction o with
  | nil => intro p; simp [sumF]
  | cons a o ih => intro p; rw [List.foldl_cons, ih, sumF_cons]; simp [compS]; omega
theorem comp_length (l : List S69) : ∀ (o : List Int) (p : List Int × Int), (o.foldl (compS l) p).1.length = p.1.length := by
  intro o
  induction o with
  | nil => intro p; rfl
  | cons a o ih => intro p; rw [List.foldl_cons, ih]; simp [compS]
theorem done_length (l : List S69) (o : List Int) : (done l o).length = l.length := by unfold done comp; rw [comp_length]; simp
theorem comp_far (l : List S69) {k : Int} (hk : 0 ≤ k) : ∀ (o : List Int) (p : List Int × Int), (∀ x ∈ o, 0 ≤ x) → k ∉ o → rd (o.foldl (compS l) p).1 k = rd p.1 k := by
  intro o
  induction o with
  | nil => intro p _ _; rfl
  | cons a o ih =>
    intro p h0 hn
    simp only [List.mem_cons, not_or] at hn
    have ha := h0 a List.mem_cons_self
    rw [List.foldl_cons, ih _ (fun x hx => h0 x (List.mem_cons_of_mem _ hx)) hn.2]
    simp only [compS, rd, List.getD_eq_getElem?_getD]
    rw [List.getElem?_set_ne (by omega)]
theorem done_at (l : List S69) {A B : List Int} {k : Int} (h0 : ∀ x ∈ A ++ k :: B, 0 ≤ x ∧ x < (l.length : Int)) (hk : k ∉ B) : rd (done l (A ++ k :: B)) k = sumF (need l) (A ++ [k]) := by
  have hk0 := h0 k (by simp)
  unfold done comp
  rw [List.foldl_append, List.foldl_cons, comp_far l hk0.1 B _ (fun x hx => (h0 x (by simp [hx])).1) hk]
  have h1 := comp_now l A (List.replicate l.length 0, 0)
  have h2 := comp_length l A (List.replicate l.length 0, 0)
  simp only [compS, rd, List.getD_eq_getElem?_getD]
  rw [List.getElem?_set_self (by rw [h2]; simp; omega)]
  simp only [Option.getD_some]
  rw [h1, sumF_append, sumF_cons]
  simp [sumF]
/-- the greatest lateness -/
def mxI (a b : Int) : Int := if a < b then b else a
def latF (l : List S69) (d : List Int) (i : Int) : Int := rd d i - keyE l i
def lat (l : List S69) (d : List Int) : Int := (idx l.length).foldl (fun m i => mxI m (latF l d i)) (latF l d 0)
theorem fold_mx_ge (f : Int → Int) : ∀ (o : List Int) (m : Int), m ≤ o.foldl (fun m i => mxI m (f i)) m ∧ ∀ i ∈ o, f i ≤ o.foldl (fun m i => mxI m (f i)) m := by
  intro o
  induction o with
  | nil => intro m; simp
  | cons a o ih =>
    intro m
    rw [List.foldl_cons]
    obtain ⟨h1, h2⟩ := ih (mxI m (f a))
    have h3 : m ≤ mxI m (f a) ∧ f a ≤ mxI m (f a) := by unfold mxI; split <;> omega
    refine ⟨by omega, fun i hi => ?_⟩
    rcases List.mem_cons.mp hi with rfl | hi
    · omega
    · exact h2 i hi
theorem fold_mx_le (f : Int → Int) : ∀ (o : List Int) (m L : Int), m ≤ L → (∀ i ∈ o, f i ≤ L) → o.foldl (fun m i => mxI m (f i)) m ≤ L := by
  intro o
  induction o with
  | nil => intro m L h _; exact h
  | cons a o ih =>
    intro m L h hf
    rw [List.foldl_cons]
    refine ih _ _ ?_ (fun i hi => hf i (List.mem_cons_of_mem _ hi))
    have := hf a List.mem_cons_self
    unfold mxI; split <;> omega
/-- No order has a lesser greatest lateness than one by ends (Jackson). -/
theorem jackson {l : List S69} (hg : l.all okT = true) (hl : 0 < l.length) {e p : List Int} (he : isOrd e l.length) (hp : isOrd p l.length) (hs : e.Pairwise fun a b => keyE l a ≤ keyE l b) :
    lat l (done l e) ≤ lat l (done l p) := by
  have hin : ∀ {o : List Int}, isOrd o l.length → ∀ x ∈ o, 0 ≤ x ∧ x < (l.length : Int) := fun ho x hx => (isOrd_mem ho).mp hx
  have hneed : ∀ x : Int, 0 ≤ x → x < (l.length : Int) → 0 ≤ need l x := fun x h0 h1 => by have := okT_iff.mp (List.all_eq_true.mp hg _ (rdT_mem h0 h1)); unfold need; omega
  have key : ∀ k : Int, 0 ≤ k → k < (l.length : Int) → latF l (done l e) k ≤ lat l (done l p) := by
    intro k k0 k1
    obtain ⟨A, B, rfl⟩ := List.append_of_mem ((isOrd_mem he).mpr ⟨k0, k1⟩)
    have hne := isOrd_nodup he
    rw [List.nodup_append] at hne
    have hkB : k ∉ B := (List.nodup_cons.mp hne.2.1).1
    have hS : (A ++ [k]).Nodup := by
      rw [List.nodup_append]
      refine ⟨hne.1, by simp, fun a ha b hb => ?_⟩
      have : b = k := by simpa using hb
      exact hne.2.2 a ha b (by simp [this])
    rw [List.pairwise_append] at hs
    have hend : ∀ j ∈ A ++ [k], keyE l j ≤ keyE l k := by
      intro j hj
      rcases List.mem_append.mp hj with hj | hj
      · exact hs.2.2 j hj k List.mem_cons_self
      · rw [List.mem_singleton.mp hj]; omega
    have d1 := done_at l (hin he) hkB
    obtain ⟨P, j, Q, rfl, hj, hQ⟩ := last_of (S := A ++ [k]) p ⟨k, (isOrd_mem hp).mpr ⟨k0, k1⟩, by simp⟩
    have hj' := hin hp j (by simp)
    have hnp := isOrd_nodup hp
    rw [List.nodup_append] at hnp
    have hjQ : j ∉ Q := (List.nodup_cons.mp hnp.2.1).1
    have d2 := done_at l (hin hp) hjQ
    have hsub : sumF (need l) (A ++ [k]) ≤ sumF (need l) (P ++ [j]) := by
      refine sumF_sub _ _ hS (fun x hx => ?_) (fun b hb => ?_)
      · have hxe : x ∈ A ++ k :: B := by simp only [List.mem_append, List.mem_cons, List.not_mem_nil, or_false] at hx ⊢; grind
        have hxp := (isOrd_mem hp).mpr (hin he x hxe)
        have hxQ : x ∉ Q := fun h => hQ x h hx
        simp only [List.mem_append, List.mem_cons, List.not_mem_nil, or_false] at hxp ⊢; grind
      · have hbp : b ∈ P ++ j :: Q := by simp only [List.mem_append, List.mem_cons, List.not_mem_nil, or_false] at hb ⊢; grind
        have := hin hp b hbp
        exact hneed b this.1 this.2
    have h3 := (fold_mx_ge (latF l (done l (P ++ j :: Q))) (idx l.length) (latF l (done l (P ++ j :: Q)) 0)).2 j (idx_mem.mpr hj')
    have h4 := hend j hj
    have h5 : latF l (done l (A ++ k :: B)) k = sumF (need l) (A ++ [k]) - keyE l k := by unfold latF; rw [d1]
    have h6 : latF l (done l (P ++ j :: Q)) j = sumF (need l) (P ++ [j]) - keyE l j := by unfold latF; rw [d2]
    have h7 : latF l (done l (P ++ j :: Q)) j ≤ lat l (done l (P ++ j :: Q)) := h3
    omega
  refine fold_mx_le _ _ _ _ (key 0 (by omega) (by omega)) (fun i hi => ?_)
  have := idx_mem.mp hi
  exact key i this.1 this.2
/-- The last one in an order is done when all are. -/
theorem done_last {l : List S69} {o : List Int} (ho : isOrd o l.length) {A : List Int} {k : Int} (e : o = A ++ [k]) : rd (done l o) k = sumF (need l) (idx l.length) := by
  rw [← sumF_perm ho, e]
  exact done_at l (fun x hx => (isOrd_mem ho).mp (by rw [e]; exact hx)) (by simp)
end Go.Proofs.Ytlipofjoihdbcaa.MFnMoore
