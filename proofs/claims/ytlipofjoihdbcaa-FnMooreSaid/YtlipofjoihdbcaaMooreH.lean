/- How many are late: both; none has more in time than Moore's. -/
import Derived.Test.YtlipofjoihdbcaaMooreG
import Derived.Test.YtlipofjoihdbcaaMooreL
namespace Go.Proofs.Ytlipofjoihdbcaa.MFnMoore
open Go.RowKit Go.Proofs.YtlipofjoihdbcaaW.PrintWords Go.Proofs.YtlipofjoihdbcaaW.PrintLast Go.Proofs.YtlipofjoihdbcaaW.PrintMore
def lateN (l : List S69) (o : List Int) : Int := (((idx l.length).filter fun i => decide (rd (done l o) i > keyE l i)).length : Nat)
def lmOf (l : List S69) (o : List Int) : Int × Bool := if good l && decide (isOrd o l.length) then (lateN l o, true) else (0, false)
theorem count_two (f : Int → Bool) : ∀ A : List Int, (A.filter f).length + (A.filter fun x => !f x).length = A.length := by
  intro A
  induction A with
  | nil => rfl
  | cons a A ih => cases h : f a <;> simp [List.filter_cons, h] <;> omega
theorem impl_late_l0 {l : List S69} {dn o : List Int} (hd : dn.length = l.length) (ho : ∀ v ∈ o, 0 ≤ v ∧ v < (l.length : Int)) (hl : o.length ≤ 100) : ∀ (d i : Nat) (n : Int), i + d = o.length → 0 ≤ n → n + d ≤ 1000 →
    Ev (fun k => impl_lateMany.l0 k l n dn o (o.length : Int) (i : Int)) (n + (((o.drop i).filter fun i => decide (rd dn i > keyE l i)).length : Nat)) := by
  intro d
  induction d with
  | zero =>
    intro i n hi _ _
    refine Ev.succ ?_
    have h1 : ¬ (i : Int) < (o.length : Int) := by omega
    simp only [impl_lateMany.l0, h1, if_false]
    rw [List.drop_eq_nil_of_le (by omega)]
    have e : n + ((([] : List Int).filter fun i => decide (rd dn i > keyE l i)).length : Nat) = n := by simp
    rw [e]; exact Ev.now _
  | succ d ih =>
    intro i n hi h0 hb
    refine Ev.succ ?_
    have h1 : (i : Int) < (o.length : Int) := by omega
    have h2 : (0 : Int) ≤ (i : Int) := by omega
    have hv := ho (rd o (i : Int)) (by rw [rd_at (by omega)]; exact List.getElem_mem _)
    have hv2 : rd o (i : Int) < (dn.length : Int) := by rw [hd]; exact hv.2
    have hw : wrap64 ((i : Int) + 1) = ((i + 1 : Nat) : Int) := by rw [wrap64_in (by omega) (by omega)]; omega
    have hw2 : wrap64 (n + 1) = n + 1 := wrap64_in (by omega) (by omega)
    rw [drop_rdI (by omega), List.filter_cons]
    have ek : keyE l (rd o (i : Int)) = (rd_T69 l (rd o (i : Int))).f1 := rfl
    simp only [impl_lateMany.l0, h1, h2, if_true, hv.1, hv.2, hv2, hw, hw2]
    by_cases hc : rd dn (rd o (i : Int)) > (rd_T69 l (rd o (i : Int))).f1
    · have h3 := ih (i + 1) (n + 1) (by omega) (by omega) (by omega)
      simp only [hc, if_true, ek, decide_true]
      have e : n + ((rd o (i : Int) :: (o.drop (i + 1)).filter fun i => decide (rd dn i > keyE l i)).length : Nat) = n + 1 + (((o.drop (i + 1)).filter fun i => decide (rd dn i > keyE l i)).length : Nat) := by rw [List.length_cons]; omega
      rw [e]; exact h3
    · have h3 := ih (i + 1) n (by omega) h0 (by omega)
      simp only [hc, if_false, ek, decide_false, Bool.false_eq_true]
      exact h3
theorem bit_eq (b : Bool) : spec_l1Bit.f b = some (if b = true then 1 else 0) := by unfold spec_l1Bit.f; split <;> rfl
theorem spec_late_l0 {l : List S69} {dn : List Int} (hd : dn.length = l.length) (hl : l.length ≤ 100) : ∀ (d i : Nat) (n : Int), i + d = l.length → 0 ≤ n → n + d ≤ 1000 →
    Ev (fun k => spec_l5Late.l0 k l n dn (dn.length : Int) (i : Int)) (n + ((((idx l.length).drop i).filter fun i => decide (rd dn i > keyE l i)).length : Nat)) := by
  intro d
  induction d with
  | zero =>
    intro i n hi _ _
    refine Ev.succ ?_
    have h1 : ¬ (i : Int) < (dn.length : Int) := by omega
    simp only [spec_l5Late.l0, h1, if_false]
    rw [List.drop_eq_nil_of_le (by rw [idx_length]; omega)]
    have e : n + ((([] : List Int).filter fun i => decide (rd dn i > keyE l i)).length : Nat) = n := by simp
    rw [e]; exact Ev.now _
  | succ d ih =>
    intro i n hi h0 hb
    refine Ev.succ ?_
    have h1 : (i : Int) < (dn.length : Int) := by omega
    have h2 : (0 : Int) ≤ (i : Int) := by omega
    have h4 : (i : Int) < (l.length : Int) := by omega
    have hw : wrap64 ((i : Int) + 1) = ((i + 1 : Nat) : Int) := by rw [wrap64_in (by omega) (by omega)]; omega
    rw [idx_drop (by omega), List.filter_cons]
    have ek : keyE l (i : Int) = (rd_T69 l (i : Int)).f1 := rfl
    simp only [spec_l5Late.l0, h1, h2, h4, if_true, bit_eq, Option.bind_some, hw]
    by_cases hc : rd dn (i : Int) > (rd_T69 l (i : Int)).f1
    · have h3 := ih (i + 1) (n + 1) (by omega) (by omega) (by omega)
      have hw2 : wrap64 (n + 1) = n + 1 := wrap64_in (by omega) (by omega)
      simp only [hc, decide_true, if_true, ek, hw2]
      have e : n + (((i : Int) :: ((idx l.length).drop (i + 1)).filter fun i => decide (rd dn i > keyE l i)).length : Nat) = n + 1 + ((((idx l.length).drop (i + 1)).filter fun i => decide (rd dn i > keyE l i)).length : Nat) := by rw [List.length_cons]; omega
      rw [e]; exact h3
    · have h3 := ih (i + 1) n (by omega) h0 (by omega)
      have hw2 : wrap64 (n + 0) = n := by rw [Int.add_zero]; exact wrap64_in (by omega) (by omega)
      simp only [hc, decide_false, if_false, ek, Bool.false_eq_true, hw2]
      exact h3
theorem impl_lmOf {l : List S69} (hl : l.length ≤ 1000000) {o : List Int} (ho : o.length ≤ 1000000) : Ev (fun k => impl_LateMany.f k l o) (lmOf l o) := by
  unfold impl_LateMany.f lmOf
  rw [impl_good]
  simp only [Option.bind_some]
  cases hg : good l with
  | false => simp only [Bool.false_eq_true, if_false, Bool.false_and]; exact Ev.now _
  | true =>
    simp only [if_true, Bool.true_and]
    refine Ev.bind (impl_isOrder_ev ho hl) ?_
    by_cases hi : isOrd o l.length
    · have hlen := isOrd_length hi
      have h10 := (good_parts hg).1
      simp only [hi, decide_true, if_true]
      refine Ev.bind (a := lateN l o) ?_ (Ev.now _)
      unfold impl_lateMany.f
      refine Ev.bind (done_both hg hi).1 ?_
      have h := impl_late_l0 (l := l) (dn := done l o) (o := o) (done_length l o) (fun v hv => (isOrd_mem hi).mp hv) (by omega) o.length 0 0 (by omega) (by omega) (by omega)
      simp only [List.drop_zero, Int.zero_add] at h
      have e : ((o.filter fun i => decide (rd (done l o) i > keyE l i)).length : Int) = lateN l o := by
        unfold lateN
        rw [(List.Perm.filter _ hi).length_eq]
      rw [e] at h; exact h
    · simp only [hi, decide_false, Bool.false_eq_true, if_false]; exact Ev.now _
theorem spec_lmOf {l : List S69} (hl : l.length ≤ 1000000) {o : List Int} : Ev (fun k => spec_LateMany.f k l o) (lmOf l o) := by
  unfold spec_LateMany.f lmOf
  refine Ev.bind (spec_both hl) ?_
  cases hb : good l && decide (isOrd o l.length) with
  | false => simp only [Bool.false_eq_true, if_false]; exact Ev.now _
  | true =>
    simp only [Bool.and_eq_true, decide_eq_true_eq] at hb
    obtain ⟨hg, hi⟩ := hb
    have h10 := (good_parts hg).1
    simp only [if_true]
    refine Ev.bind (a := lateN l o) ?_ (Ev.now _)
    unfold spec_l5Late.f
    refine Ev.bind (done_both hg hi).2 ?_
    have h := spec_late_l0 (l := l) (dn := done l o) (done_length l o) (by omega) l.length 0 0 (by omega) (by omega) (by omega)
    simp only [List.drop_zero, Int.zero_add] at h
    exact h
/-- What is in time in any order is, by ends, in time too. -/
theorem intime_feas {l : List S69} (hg : l.all okT = true) {e q : List Int} (he : isOrd e l.length) (hq : isOrd q l.length) (hs : e.Pairwise fun a b => keyE l a ≤ keyE l b) :
    feas (need l) (keyE l) (e.filter fun i => decide (rd (done l q) i ≤ keyE l i)) := by
  intro P k Q eB
  have hin : ∀ {o : List Int}, isOrd o l.length → ∀ x ∈ o, 0 ≤ x ∧ x < (l.length : Int) := fun ho x hx => (isOrd_mem ho).mp hx
  have hneed : ∀ x : Int, 0 ≤ x → x < (l.length : Int) → 0 ≤ need l x := fun x h0 h1 => by have := okT_iff.mp (List.all_eq_true.mp hg _ (rdT_mem h0 h1)); unfold need; omega
  have hsub : (e.filter fun i => decide (rd (done l q) i ≤ keyE l i)).Sublist e := List.filter_sublist
  have hnB : (e.filter fun i => decide (rd (done l q) i ≤ keyE l i)).Nodup := (isOrd_nodup he).sublist hsub
  have hsB : (e.filter fun i => decide (rd (done l q) i ≤ keyE l i)).Pairwise fun a b => keyE l a ≤ keyE l b := hs.sublist hsub
  have hmB : ∀ x ∈ P ++ k :: Q, x ∈ e ∧ rd (done l q) x ≤ keyE l x := by
    intro x hx
    rw [← eB] at hx
    have := List.mem_filter.mp hx
    exact ⟨this.1, by simpa using this.2⟩
  rw [eB] at hnB hsB
  have hS : (P ++ [k]).Nodup := by
    have : (P ++ k :: Q) = (P ++ [k]) ++ Q := by simp
    rw [this] at hnB
    exact (List.nodup_append.mp hnB).1
  have hk := hin he k (hmB k (by simp)).1
  obtain ⟨P', j, Q', rfl, hj, hQ'⟩ := last_of (S := P ++ [k]) q ⟨k, (isOrd_mem hq).mpr hk, by simp⟩
  have hnq := isOrd_nodup hq
  rw [List.nodup_append] at hnq
  have hjQ : j ∉ Q' := (List.nodup_cons.mp hnq.2.1).1
  have d2 := done_at l (hin hq) hjQ
  have hjB : j ∈ P ++ k :: Q := by simp only [List.mem_append, List.mem_cons, List.not_mem_nil, or_false] at hj ⊢; grind
  have h3 := (hmB j hjB).2
  have hjk : keyE l j ≤ keyE l k := by
    rcases List.mem_append.mp hj with h | h
    · exact (List.pairwise_append.mp hsB).2.2 j h k List.mem_cons_self
    · rw [List.mem_singleton.mp h]; omega
  have hle : sumF (need l) (P ++ [k]) ≤ sumF (need l) (P' ++ [j]) := by
    refine sumF_sub _ _ hS (fun x hx => ?_) (fun b hb => ?_)
    · have hxB : x ∈ P ++ k :: Q := by simp only [List.mem_append, List.mem_cons, List.not_mem_nil, or_false] at hx ⊢; grind
      have hxq := (isOrd_mem hq).mpr (hin he x (hmB x hxB).1)
      have hxQ : x ∉ Q' := fun h => hQ' x h hx
      simp only [List.mem_append, List.mem_cons, List.not_mem_nil, or_false] at hxq ⊢; grind
    · have hbq : b ∈ P' ++ j :: Q' := by simp only [List.mem_append, List.mem_cons, List.not_mem_nil, or_false] at hb ⊢; grind
      have := hin hq b hbq
      exact hneed b this.1 this.2
  omega
def mooreR (l : List S69) : List Int × List Int := mooreG (need l) (keyE l) (byEnd l) [] []
theorem moore_facts {l : List S69} (hg : good l = true) : Opt (need l) (keyE l) (byEnd l) (mooreR l).1 ∧ isOrd ((mooreR l).1 ++ (mooreR l).2) l.length := by
  have hgp := good_parts hg
  have h := moore_opt (p := need l) (d := keyE l) (byEnd l) [] [] [] (Opt.start _ _) (by simpa using isOrd_nodup (byEnd_ord l)) (by simpa using byEnd_sorted l) (fun a ha => by
    have ha : a ∈ byEnd l := by simpa using ha
    have := (isOrd_mem (byEnd_ord l)).mp ha
    have := okT_iff.mp (List.all_eq_true.mp hgp.2 _ (rdT_mem this.1 this.2)); unfold need; omega) (by simp)
  rw [List.nil_append] at h
  exact ⟨h.1, h.2.trans (byEnd_ord l)⟩
/-- No order has fewer late than what Moore takes out. -/
theorem late_ge {l : List S69} (hg : good l = true) {q : List Int} (hq : isOrd q l.length) : (l.length : Int) - ((mooreR l).1.length : Nat) ≤ lateN l q := by
  have hgp := good_parts hg
  have h1 := intime_feas hgp.2 (byEnd_ord l) hq (byEnd_sorted l)
  have h2 := (moore_facts hg).1.most (List.filter_sublist) h1
  have h3 := count_two (fun i => decide (rd (done l q) i ≤ keyE l i)) (byEnd l)
  have h4 : ((byEnd l).filter fun x => !decide (rd (done l q) x ≤ keyE l x)).length = ((idx l.length).filter fun i => decide (rd (done l q) i > keyE l i)).length := by
    have e : (fun x => !decide (rd (done l q) x ≤ keyE l x)) = fun i => decide (rd (done l q) i > keyE l i) := by
      funext x
      by_cases h : rd (done l q) x ≤ keyE l x
      · have : ¬ rd (done l q) x > keyE l x := by omega
        simp [h, this]
      · have : rd (done l q) x > keyE l x := by omega
        simp [h, this]
    rw [e]
    exact (List.Perm.filter _ (byEnd_ord l)).length_eq
  have h5 := isOrd_length (byEnd_ord l)
  unfold lateN
  omega
theorem late_moore {l : List S69} (hg : good l = true) : lateN l ((mooreR l).1 ++ (mooreR l).2) = (l.length : Int) - ((mooreR l).1.length : Nat) := by
  obtain ⟨hopt, hord⟩ := moore_facts hg
  have h1 := late_ge hg hord
  have hin : ∀ x ∈ (mooreR l).1 ++ (mooreR l).2, 0 ≤ x ∧ x < (l.length : Int) := fun x hx => (isOrd_mem hord).mp hx
  have hn := isOrd_nodup hord
  have h2 : ∀ x ∈ (mooreR l).1, rd (done l ((mooreR l).1 ++ (mooreR l).2)) x ≤ keyE l x := by
    intro x hx
    obtain ⟨P, Q, e⟩ := List.append_of_mem hx
    have h3 := hopt.ok P x Q e
    rw [e] at hin hn ⊢
    have e2 : P ++ x :: Q ++ (mooreR l).2 = P ++ x :: (Q ++ (mooreR l).2) := by simp
    rw [e2] at hin hn ⊢
    have hxQ : x ∉ Q ++ (mooreR l).2 := (List.nodup_cons.mp (List.nodup_append.mp hn).2.1).1
    rw [done_at l hin hxQ]; exact h3
  have h3 := count_two (fun i => decide (rd (done l ((mooreR l).1 ++ (mooreR l).2)) i > keyE l i)) ((mooreR l).1 ++ (mooreR l).2)
  have h4 : (((mooreR l).1 ++ (mooreR l).2).filter fun i => decide (rd (done l ((mooreR l).1 ++ (mooreR l).2)) i > keyE l i)).length = ((idx l.length).filter fun i => decide (rd (done l ((mooreR l).1 ++ (mooreR l).2)) i > keyE l i)).length :=
    (List.Perm.filter _ hord).length_eq
  have h5 : (mooreR l).1.length ≤ (((mooreR l).1 ++ (mooreR l).2).filter fun x => !decide (rd (done l ((mooreR l).1 ++ (mooreR l).2)) x > keyE l x)).length := by
    refine nodup_len _ _ ((List.nodup_append.mp hn).1) (fun x hx => List.mem_filter.mpr ⟨List.mem_append_left _ hx, ?_⟩)
    have := h2 x hx
    have : ¬ rd (done l ((mooreR l).1 ++ (mooreR l).2)) x > keyE l x := by omega
    simp [this]
  have h6 := isOrd_length hord
  unfold lateN at h1 ⊢
  omega
end Go.Proofs.Ytlipofjoihdbcaa.MFnMoore
