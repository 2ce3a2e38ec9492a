/- Tasks with ends: the program's functions and the reference's, and what they come to. -/
import Derived.Test.YtlipofjoihdbcaaMooreC
import Derived.Test.YtlipofjoihdbcaaMooreB
import Derived.Test.YtlipofjoihdbcaaMFnMoorex8
namespace Go.Proofs.Ytlipofjoihdbcaa.MFnMoore
open Go.RowKit Go.Proofs.YtlipofjoihdbcaaW.PrintWords Go.Proofs.YtlipofjoihdbcaaW.PrintLast Go.Proofs.YtlipofjoihdbcaaW.PrintMore
theorem in_eq (a b c : Int) : impl_in.f a b c = some (decide (b ≤ a) && decide (a ≤ c)) := by
  unfold impl_in.f; split <;> rename_i h <;> simp [h]
theorem l1In_eq (a b c : Int) : spec_l1In.f a b c = some (decide (b ≤ a) && decide (a ≤ c)) := by
  unfold spec_l1In.f; split <;> rename_i h <;> simp [h]
theorem good1_eq (x : S69) : impl_GoodTasks_1.f x.f0 x.f1 = some (!okT x) := by
  unfold impl_GoodTasks_1.f
  simp only [in_eq, Option.bind_some]
  unfold okT
  cases decide (1 ≤ x.f0) <;> cases decide (x.f0 ≤ 20) <;> simp
theorem idx_good : ∀ (l : List S69) (i : Int), 0 ≤ i → ∃ j, idxO (fun x => impl_GoodTasks_1.f x.f0 x.f1) l i = some j ∧ decide (0 ≤ j) = !l.all okT := by
  have e : (fun x : S69 => impl_GoodTasks_1.f x.f0 x.f1) = fun x => some (!okT x) := funext good1_eq
  rw [e]
  intro l
  induction l with
  | nil => intro i _; exact ⟨-1, rfl, by decide⟩
  | cons x l ih =>
    intro i hi
    simp only [idxO, Option.bind_some]
    cases hx : okT x with
    | true =>
      obtain ⟨j, hj, hd⟩ := ih (i + 1) (by omega)
      exact ⟨j, by simpa using hj, by simpa [hx] using hd⟩
    | false => exact ⟨i, by simp, by simp [hx, hi]⟩
theorem impl_good (l : List S69) : impl_GoodTasks.f l = some (good l) := by
  obtain ⟨j, hj, hd⟩ := idx_good l 0 (by omega)
  unfold impl_GoodTasks.f slices_ContainsFunc_57_impl_GoodTasks_1.f slices_IndexFunc_75_impl_GoodTasks_1.f good
  rw [hj]
  simp only [Option.bind_some, hd]
  by_cases h : l.length ≤ 10
  · rw [if_pos (by omega)]; simp [h]
  · rw [if_neg (by omega)]; simp [h]
theorem drop_rd {l : List S69} {i : Nat} (h : i < l.length) : l.drop i = rd_T69 l (i : Int) :: l.drop (i + 1) := by
  rw [rdT_at h]; exact List.drop_eq_getElem_cons h
theorem spec_good_l0 {l : List S69} (hl : l.length ≤ 1000000) : ∀ (d i : Nat), i + d = l.length → Ev (fun k => spec_GoodTasks.l0 k l l (l.length : Int) (i : Int)) (decide (l.length ≤ 10) && (l.drop i).all okT) := by
  intro d
  induction d with
  | zero =>
    intro i hi
    refine Ev.succ ?_
    have h1 : ¬ (i : Int) < (l.length : Int) := by omega
    have h2 : l.drop i = [] := List.drop_eq_nil_of_le (by omega)
    simp only [spec_GoodTasks.l0, h1, if_false, h2, List.all_nil, Bool.and_true]
    have : decide ((l.length : Int) ≤ 10) = decide (l.length ≤ 10) := by congr 1; apply propext; omega
    rw [this]; exact Ev.now _
  | succ d ih =>
    intro i hi
    refine Ev.succ ?_
    have h1 : (i : Int) < (l.length : Int) := by omega
    have h2 : (0 : Int) ≤ (i : Int) := by omega
    have hw : wrap64 ((i : Int) + 1) = ((i + 1 : Nat) : Int) := by rw [wrap64_in (by omega) (by omega)]; omega
    rw [drop_rd (by omega)]
    have h3 := ih (i + 1) (by omega)
    simp only [spec_GoodTasks.l0, h1, h2, if_true, l1In_eq, Option.bind_some, hw, List.all_cons]
    generalize rd_T69 l (i : Int) = x
    have ht : ∀ x : S69, okT x = ((decide (1 ≤ x.f0) && decide (x.f0 ≤ 20)) && (decide (0 ≤ x.f1) && decide (x.f1 ≤ 200))) := fun _ => rfl
    rw [ht]
    cases decide (1 ≤ x.f0) && decide (x.f0 ≤ 20) with
    | false => simp only [Bool.false_and, Bool.and_false, Bool.false_eq_true, if_false]; exact Ev.now _
    | true =>
      cases decide (0 ≤ x.f1) && decide (x.f1 ≤ 200) with
      | false => simp only [Bool.false_and, Bool.and_false, Bool.false_eq_true, if_true, if_false]; exact Ev.now _
      | true => simp only [Bool.true_and, if_true]; exact h3
theorem spec_good {l : List S69} (hl : l.length ≤ 1000000) : Ev (fun k => spec_GoodTasks.f k l) (good l) := by
  have h := spec_good_l0 hl l.length 0 (by omega)
  simpa [spec_GoodTasks.f, good] using h
theorem good_parts {l : List S69} (h : good l = true) : l.length ≤ 10 ∧ l.all okT = true := by
  unfold good at h; simp only [Bool.and_eq_true, decide_eq_true_eq] at h; exact h
/-! orders -/
theorem rd_at {o : List Int} {i : Nat} (h : i < o.length) : rd o (i : Int) = o[i] := by simp [rd, List.getD, h]
theorem drop_rdI {o : List Int} {i : Nat} (h : i < o.length) : o.drop i = rd o (i : Int) :: o.drop (i + 1) := by
  rw [rd_at h]; exact List.drop_eq_getElem_cons h
theorem take_rdI {o : List Int} {i : Nat} (h : i < o.length) : o.take (i + 1) = o.take i ++ [rd o (i : Int)] := by
  rw [rd_at h, List.take_succ_eq_append_getElem h]
theorem index_l0 {o : List Int} (ho : o.length ≤ 1000000) (v : Int) : ∀ (d i : Nat), i + d = o.length → ∃ r, Ev (fun k => slices_Index_int_int.l0 k o v (o.length : Int) (i : Int)) r ∧ (decide (r ≥ 0) = decide (v ∈ o.drop i)) := by
  intro d
  induction d with
  | zero =>
    intro i hi
    have h1 : ¬ (i : Int) < (o.length : Int) := by omega
    refine ⟨-1, Ev.succ ?_, ?_⟩
    · simp only [slices_Index_int_int.l0, h1, if_false]; exact Ev.now _
    · rw [List.drop_eq_nil_of_le (by omega)]; simp
  | succ d ih =>
    intro i hi
    have h1 : (i : Int) < (o.length : Int) := by omega
    have h2 : (0 : Int) ≤ (i : Int) := by omega
    have hw : wrap64 ((i : Int) + 1) = ((i + 1 : Nat) : Int) := by rw [wrap64_in (by omega) (by omega)]; omega
    rw [drop_rdI (by omega)]
    by_cases hv : v = rd o (i : Int)
    · refine ⟨(i : Int), Ev.succ ?_, ?_⟩
      · simp only [slices_Index_int_int.l0, h1, h2, if_true, ← hv]; exact Ev.now _
      · simp [hv]
    · obtain ⟨r, hr, hd⟩ := ih (i + 1) (by omega)
      refine ⟨r, Ev.succ ?_, ?_⟩
      · simp only [slices_Index_int_int.l0, h1, h2, if_true, hv, if_false, hw]; exact hr
      · rw [hd]; simp [hv]
theorem contains_ev {o : List Int} (ho : o.length ≤ 1000000) (v : Int) : Ev (fun k => slices_Contains_int_int.f k o v) (decide (v ∈ o)) := by
  obtain ⟨r, hr, hd⟩ := index_l0 ho v o.length 0 (by omega)
  unfold slices_Contains_int_int.f slices_Index_int_int.f
  refine Ev.bind hr ?_
  simp only [hd, List.drop_zero]; exact Ev.now _
theorem impl_isOrder_l0 {o : List Int} (ho : o.length ≤ 1000000) {n : Nat} (hn : n ≤ 1000000) : ∀ (d i : Nat), i + d = n → (∀ j : Nat, j < i → (j : Int) ∈ o) → Ev (fun k => impl_isOrder.l0 k o (n : Int) (n : Int) (i : Int)) (decide (isOrd o n)) := by
  intro d
  induction d with
  | zero =>
    intro i hi hj
    refine Ev.succ ?_
    have h1 : ¬ (i : Int) < (n : Int) := by omega
    simp only [impl_isOrder.l0, h1, if_false]
    have : ((o.length : Int) == (n : Int)) = decide (isOrd o n) := by
      rw [Bool.eq_iff_iff]
      simp only [beq_iff_eq, decide_eq_true_eq]
      constructor
      · intro h; exact isOrd_of_has (fun j hjn => hj j (by omega)) (by omega)
      · intro h; have := isOrd_length h; omega
    rw [this]; exact Ev.now _
  | succ d ih =>
    intro i hi hj
    refine Ev.succ ?_
    have h1 : (i : Int) < (n : Int) := by omega
    have hw : wrap64 ((i : Int) + 1) = ((i + 1 : Nat) : Int) := by rw [wrap64_in (by omega) (by omega)]; omega
    simp only [impl_isOrder.l0, h1, if_true, hw]
    refine Ev.bind (contains_ev ho (i : Int)) ?_
    by_cases hm : (i : Int) ∈ o
    · simp only [hm, decide_true, if_true]
      refine ih (i + 1) (by omega) (fun j hjn => ?_)
      by_cases e : j = i
      · rw [e]; exact hm
      · exact hj j (by omega)
    · have : ¬ isOrd o n := fun h => hm ((isOrd_mem h).mpr ⟨by omega, h1⟩)
      simp only [hm, decide_false, Bool.false_eq_true, if_false, this]; exact Ev.now _
theorem impl_isOrder_ev {o : List Int} (ho : o.length ≤ 1000000) {n : Nat} (hn : n ≤ 1000000) : Ev (fun k => impl_isOrder.f k o (n : Int)) (decide (isOrd o n)) := by
  unfold impl_isOrder.f
  exact impl_isOrder_l0 ho hn n 0 (by omega) (fun j h => by omega)
theorem has_l0 {o : List Int} (ho : o.length ≤ 1000000) (v : Int) : ∀ (d i : Nat), i + d = o.length → Ev (fun k => spec_l1Has.l0 k v o (o.length : Int) (i : Int)) (decide (v ∈ o.drop i)) := by
  intro d
  induction d with
  | zero =>
    intro i hi
    refine Ev.succ ?_
    have h1 : ¬ (i : Int) < (o.length : Int) := by omega
    have h2 : decide (v ∈ o.drop i) = false := by rw [List.drop_eq_nil_of_le (by omega)]; simp
    rw [h2]
    simp only [spec_l1Has.l0, h1, if_false]; exact Ev.now _
  | succ d ih =>
    intro i hi
    refine Ev.succ ?_
    have h1 : (i : Int) < (o.length : Int) := by omega
    have h2 : (0 : Int) ≤ (i : Int) := by omega
    have hw : wrap64 ((i : Int) + 1) = ((i + 1 : Nat) : Int) := by rw [wrap64_in (by omega) (by omega)]; omega
    rw [drop_rdI (by omega)]
    by_cases hv : rd o (i : Int) = v
    · simp only [spec_l1Has.l0, h1, h2, if_true, hv]
      have : decide (v ∈ v :: o.drop (i + 1)) = true := by simp
      rw [this]; exact Ev.now _
    · simp only [spec_l1Has.l0, h1, h2, if_true, hv, if_false, hw]
      have : decide (v ∈ rd o (i : Int) :: o.drop (i + 1)) = decide (v ∈ o.drop (i + 1)) := by
        have : ¬ v = rd o (i : Int) := fun h => hv h.symm
        simp [this]
      rw [this]; exact ih (i + 1) (by omega)
theorem spec_order_l0 {o : List Int} {n : Nat} (hn : n ≤ 1000000) (ho : o.length = n) : ∀ (d i : Nat), i + d = o.length → (o.take i).Nodup → (∀ v ∈ o.take i, 0 ≤ v ∧ v < (n : Int)) →
    Ev (fun k => spec_l5Order.l0 k o (n : Int) o (o.length : Int) (i : Int)) (decide (isOrd o n)) := by
  intro d
  induction d with
  | zero =>
    intro i hi hd hv
    refine Ev.succ ?_
    have h1 : ¬ (i : Int) < (o.length : Int) := by omega
    rw [List.take_of_length_le (by omega)] at hd hv
    have : decide (isOrd o n) = true := decide_eq_true (isOrd_of_nodup hd hv ho)
    rw [this]
    simp only [spec_l5Order.l0, h1, if_false]; exact Ev.now _
  | succ d ih =>
    intro i hi hd hv
    refine Ev.succ ?_
    have h1 : (i : Int) < (o.length : Int) := by omega
    have h2 : (0 : Int) ≤ (i : Int) := by omega
    have h3 : (i : Int) ≤ (o.length : Int) := by omega
    have hw : wrap64 ((i : Int) + 1) = ((i + 1 : Nat) : Int) := by rw [wrap64_in (by omega) (by omega)]; omega
    have hw2 : wrap64 ((n : Int) - 1) = (n : Int) - 1 := wrap64_in (by omega) (by omega)
    have hm : rd o (i : Int) ∈ o := by rw [rd_at (by omega)]; exact List.getElem_mem _
    simp only [spec_l5Order.l0, h1, h2, h3, if_true, l1In_eq, Option.bind_some, hw, hw2, Int.toNat_natCast]
    by_cases hr : 0 ≤ rd o (i : Int) ∧ rd o (i : Int) ≤ (n : Int) - 1
    · have e1 : decide (0 ≤ rd o (i : Int)) = true := decide_eq_true hr.1
      have e2 : decide (rd o (i : Int) ≤ (n : Int) - 1) = true := decide_eq_true hr.2
      simp only [e1, e2, Bool.and_self, if_true]
      have hl : (o.take i).length ≤ 1000000 := by simp; omega
      have hh := has_l0 hl (rd o (i : Int)) (o.take i).length 0 (by omega)
      simp only [List.drop_zero] at hh
      refine Ev.bind (a := decide (rd o (i : Int) ∈ o.take i)) (by unfold spec_l1Has.f; exact hh) ?_
      by_cases hin : rd o (i : Int) ∈ o.take i
      · have : ¬ isOrd o n := by
          intro h
          have hnd := isOrd_nodup h
          rw [← List.take_append_drop i o, drop_rdI (by omega), List.nodup_append] at hnd
          exact hnd.2.2 _ hin _ List.mem_cons_self rfl
        simp only [hin, decide_true, if_true, this, decide_false]; exact Ev.now _
      · simp only [hin, decide_false, Bool.false_eq_true, if_false]
        refine ih (i + 1) (by omega) ?_ ?_
        · rw [take_rdI (by omega), List.nodup_append]
          refine ⟨hd, by simp, fun a ha b hb => ?_⟩
          have : b = rd o (i : Int) := by simpa using hb
          rw [this]; rintro rfl; exact hin ha
        · intro v hv2
          rw [take_rdI (by omega)] at hv2
          rcases List.mem_append.mp hv2 with h | h
          · exact hv v h
          · rw [List.mem_singleton.mp h]; omega
    · have : ¬ isOrd o n := fun h => hr (by have := (isOrd_mem h).mp hm; omega)
      have e : (decide (0 ≤ rd o (i : Int)) && decide (rd o (i : Int) ≤ (n : Int) - 1)) = false := by
        rw [Bool.eq_false_iff]; intro h; simp only [Bool.and_eq_true, decide_eq_true_eq] at h; exact hr h
      simp only [e, Bool.false_eq_true, if_false, this, decide_false]; exact Ev.now _
theorem spec_order_ev {o : List Int} {n : Nat} (hn : n ≤ 1000000) : Ev (fun k => spec_l5Order.f k o (n : Int)) (decide (isOrd o n)) := by
  unfold spec_l5Order.f
  by_cases h : (o.length : Int) = (n : Int)
  · simp only [h, if_true]
    have := spec_order_l0 (o := o) hn (by omega) o.length 0 (by omega) (by simp) (by simp)
    rw [← h]
    rw [← h] at this
    exact this
  · have : ¬ isOrd o n := fun hh => h (by have := isOrd_length hh; omega)
    simp only [h, if_false, this, decide_false]; exact Ev.now _
end Go.Proofs.Ytlipofjoihdbcaa.MFnMoore
