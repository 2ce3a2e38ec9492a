/- Tasks that come again: the program's functions and the reference's, and what they come to. -/
import Derived.Test.YtbbjpgdoekfnhaaRatesB
import Derived.Test.YtbbjpgdoekfnhaaRatesC
import Derived.Test.YtbbjpgdoekfnhaaRatesS
import Derived.Test.YtbbjpgdoekfnhaaMFnRatesx7
namespace Go.Proofs.Ytbbjpgdoekfnhaa.MFnRates
open Go.RowKit Go.Proofs.YtbbjpgdoekfnhaaW.PrintWords Go.Proofs.YtbbjpgdoekfnhaaW.PrintLast Go.Proofs.YtbbjpgdoekfnhaaW.PrintMore
theorem rdT_at {l : List S34} {i : Nat} (h : i < l.length) : rd_T34 l (i : Int) = l[i] := by simp [rd_T34, List.getD, h]
theorem rdT_mem {l : List S34} {i : Int} (h0 : 0 ≤ i) (h : i < l.length) : rd_T34 l i ∈ l := by
  obtain ⟨n, rfl⟩ := Int.eq_ofNat_of_zero_le h0
  rw [rdT_at (by omega)]; exact List.getElem_mem _
theorem in_eq (a b c : Int) : impl_in.f a b c = some (decide (b ≤ a) && decide (a ≤ c)) := by
  unfold impl_in.f; split <;> rename_i h <;> simp [h]
theorem l1In_eq (a b c : Int) : spec_l1In.f a b c = some (decide (b ≤ a) && decide (a ≤ c)) := by
  unfold spec_l1In.f; split <;> rename_i h <;> simp [h]
theorem good1_eq (x : S34) : impl_GoodAgain_1.f x.f0 x.f1 = some (!okT x) := by
  unfold impl_GoodAgain_1.f
  simp only [in_eq, Option.bind_some]
  unfold okT
  cases decide (1 ≤ x.f0) <;> cases decide (x.f0 ≤ 10) <;> simp
theorem idx_good : ∀ (l : List S34) (i : Int), 0 ≤ i → ∃ j, idxO (fun x => impl_GoodAgain_1.f x.f0 x.f1) l i = some j ∧ decide (0 ≤ j) = !l.all okT := by
  have e : (fun x : S34 => impl_GoodAgain_1.f x.f0 x.f1) = fun x => some (!okT x) := funext good1_eq
  rw [e]
  intro l
  induction l with
  | nil => intro i _; exact ⟨-1, rfl, by decide⟩
  | cons x l ih =>
    intro i hi
    simp only [idxO, Option.bind_some]
    cases hx : okT x with
    | true =>
      obtain ⟨j, hj, hd⟩ := ih (i + 1) (by omega)
      exact ⟨j, by simpa using hj, by simpa [hx] using hd⟩
    | false => exact ⟨i, by simp, by simp [hx, hi]⟩
theorem impl_good (l : List S34) : impl_GoodAgain.f l = some (good l) := by
  obtain ⟨j, hj, hd⟩ := idx_good l 0 (by omega)
  unfold impl_GoodAgain.f slices_ContainsFunc_43_impl_GoodAgain_1.f slices_IndexFunc_58_impl_GoodAgain_1.f good
  rw [hj]
  simp only [Option.bind_some, hd]
  by_cases h : l.length ≤ 5
  · rw [if_pos (by omega)]; simp [h]
  · rw [if_neg (by omega)]; simp [h]
theorem drop_rd {l : List S34} {i : Nat} (h : i < l.length) : l.drop i = rd_T34 l (i : Int) :: l.drop (i + 1) := by
  rw [rdT_at h]; exact List.drop_eq_getElem_cons h
theorem take_rd {l : List S34} {i : Nat} (h : i < l.length) : l.take (i + 1) = l.take i ++ [rd_T34 l (i : Int)] := by
  rw [rdT_at h, List.take_succ_eq_append_getElem h]
theorem spec_good_l0 {l : List S34} (hl : l.length ≤ 1000000) : ∀ (d i : Nat), i + d = l.length → Ev (fun k => spec_GoodAgain.l0 k l l (l.length : Int) (i : Int)) (decide (l.length ≤ 5) && (l.drop i).all okT) := by
  intro d
  induction d with
  | zero =>
    intro i hi
    refine Ev.succ ?_
    have h1 : ¬ (i : Int) < (l.length : Int) := by omega
    have h2 : l.drop i = [] := List.drop_eq_nil_of_le (by omega)
    simp only [spec_GoodAgain.l0, h1, if_false, h2, List.all_nil, Bool.and_true]
    have : decide ((l.length : Int) ≤ 5) = decide (l.length ≤ 5) := by congr 1; apply propext; omega
    rw [this]; exact Ev.now _
  | succ d ih =>
    intro i hi
    refine Ev.succ ?_
    have h1 : (i : Int) < (l.length : Int) := by omega
    have h2 : (0 : Int) ≤ (i : Int) := by omega
    have hw : wrap64 ((i : Int) + 1) = ((i + 1 : Nat) : Int) := by rw [wrap64_in (by omega) (by omega)]; omega
    rw [drop_rd (by omega)]
    have h3 := ih (i + 1) (by omega)
    simp only [spec_GoodAgain.l0, h1, h2, if_true, l1In_eq, Option.bind_some, hw, List.all_cons]
    generalize rd_T34 l (i : Int) = x
    have ht : ∀ x : S34, okT x = ((decide (1 ≤ x.f0) && decide (x.f0 ≤ 10)) && (decide (x.f0 ≤ x.f1) && decide (x.f1 ≤ 40))) := fun _ => rfl
    rw [ht]
    cases decide (1 ≤ x.f0) && decide (x.f0 ≤ 10) with
    | false => simp only [Bool.false_and, Bool.and_false, Bool.false_eq_true, if_false]; exact Ev.now _
    | true =>
      cases decide (x.f0 ≤ x.f1) && decide (x.f1 ≤ 40) with
      | false => simp only [Bool.false_and, Bool.and_false, Bool.false_eq_true, if_true, if_false]; exact Ev.now _
      | true => simp only [Bool.true_and, if_true]; exact h3
theorem spec_good {l : List S34} (hl : l.length ≤ 1000000) : Ev (fun k => spec_GoodAgain.f k l) (good l) := by
  have h := spec_good_l0 hl l.length 0 (by omega)
  simpa [spec_GoodAgain.f, good] using h
/-! the time it takes -/
def lonR (H : List S34) (c : Int) (n : Nat) (t : Int) : Int × Bool := match lon H c n t with
  | some r => (r, true)
  | none => (0, false)
def lonS (H : List S34) (c : Int) (n : Nat) (t : Int) : Int := match lon H c n t with
  | some r => r
  | none => -1
theorem wk_step {x : S34} (hx : okT x = true) {t acc : Int} (h0 : 1 ≤ t) (h1 : t ≤ 200) (ha : 0 ≤ acc) (hb : acc ≤ 1000000) :
    ¬ x.f1 = 0 ∧ wrap64 (acc + wrap64 (x.f0 * wrap64 (Int.tdiv (wrap64 (wrap64 (t + x.f1) - 1)) x.f1))) = acc + x.f0 * ((t + x.f1 - 1) / x.f1) := by
  have h := okT_iff.mp hx
  have e1 : wrap64 (t + x.f1) = t + x.f1 := wrap64_in (by omega) (by omega)
  have e2 : wrap64 (t + x.f1 - 1) = t + x.f1 - 1 := wrap64_in (by omega) (by omega)
  have e3 : Int.tdiv (t + x.f1 - 1) x.f1 = (t + x.f1 - 1) / x.f1 := Int.tdiv_eq_ediv_of_nonneg (by omega)
  have q0 := ceil_nonneg (T := x.f1) (t := t) (by omega) (by omega)
  have q1 : (t + x.f1 - 1) / x.f1 ≤ t + x.f1 - 1 := Int.ediv_le_self _ (by omega)
  have m0 := Int.mul_nonneg (show 0 ≤ x.f0 by omega) q0
  have m1 := Int.mul_le_mul (show x.f0 ≤ 10 by omega) (show (t + x.f1 - 1) / x.f1 ≤ 240 by omega) q0 (by omega)
  refine ⟨by omega, ?_⟩
  rw [e1, e2, e3, wrap64_in (x := (t + x.f1 - 1) / x.f1) (by omega) (by omega), wrap64_in (x := x.f0 * _) (by omega) (by omega), wrap64_in (by omega) (by omega)]
theorem wk_cons (x : S34) (H : List S34) (c t : Int) : wk (x :: H) c t = wk H (c + x.f0 * ((t + x.f1 - 1) / x.f1)) t := rfl
theorem impl_l1 {l H : List S34} (hH : H.all okT = true) (hl : H.length ≤ 5) {a t : Int} (h0 : 1 ≤ t) (h1 : t ≤ 200) {R : Int × Bool} :
    ∀ (d i : Nat) (acc : Int), i + d = H.length → 0 ≤ acc → acc + 2400 * d ≤ 1000000 →
      Ev (fun k => if wk (H.drop i) acc t = t then some (t, true) else impl_longest.l0 k l a (wk (H.drop i) acc t)) R →
      Ev (fun k => impl_longest.l1 k l a t acc H (H.length : Int) (i : Int)) R := by
  intro d
  induction d with
  | zero =>
    intro i acc hi h2 h3 h
    refine Ev.succ ?_
    have e1 : ¬ (i : Int) < (H.length : Int) := by omega
    have e2 : H.drop i = [] := List.drop_eq_nil_of_le (by omega)
    rw [e2] at h
    simp only [impl_longest.l1, e1, if_false]
    exact h
  | succ d ih =>
    intro i acc hi h2 h3 h
    refine Ev.succ ?_
    have e1 : (i : Int) < (H.length : Int) := by omega
    have e2 : (0 : Int) ≤ (i : Int) := by omega
    have hx : okT (rd_T34 H (i : Int)) = true := List.all_eq_true.mp hH _ (rdT_mem e2 e1)
    rw [drop_rd (by omega), wk_cons] at h
    obtain ⟨e3, e4⟩ := wk_step hx h0 h1 h2 (by omega)
    have hb := okT_iff.mp hx
    have q0 := ceil_nonneg (T := (rd_T34 H (i : Int)).f1) (t := t) (by omega) (by omega)
    have q1 : (t + (rd_T34 H (i : Int)).f1 - 1) / (rd_T34 H (i : Int)).f1 ≤ t + (rd_T34 H (i : Int)).f1 - 1 := Int.ediv_le_self _ (by omega)
    have m0 := Int.mul_nonneg (show 0 ≤ (rd_T34 H (i : Int)).f0 by omega) q0
    have m1 := Int.mul_le_mul (show (rd_T34 H (i : Int)).f0 ≤ 10 by omega) (show (t + (rd_T34 H (i : Int)).f1 - 1) / (rd_T34 H (i : Int)).f1 ≤ 240 by omega) q0 (by omega)
    have hw : wrap64 ((i : Int) + 1) = ((i + 1 : Nat) : Int) := by rw [wrap64_in (by omega) (by omega)]; omega
    simp only [impl_longest.l1, e1, e2, if_true, e3, if_false, e4, hw]
    exact ih (i + 1) _ (by omega) (by omega) (by omega) h
/-- the same loop of the reference -/
theorem spec_l1 {l H : List S34} (hH : H.all okT = true) (hl : H.length ≤ 5) {a t : Int} (h0 : 1 ≤ t) (h1 : t ≤ 200) {R : Int} :
    ∀ (d i : Nat) (acc : Int), i + d = H.length → 0 ≤ acc → acc + 2400 * d ≤ 1000000 →
      Ev (fun k => if wk (H.drop i) acc t = t then some t else spec_l6Longest.l0 k l a (wk (H.drop i) acc t)) R →
      Ev (fun k => spec_l6Longest.l1 k l a t acc H (H.length : Int) (i : Int)) R := by
  intro d
  induction d with
  | zero =>
    intro i acc hi h2 h3 h
    refine Ev.succ ?_
    have e1 : ¬ (i : Int) < (H.length : Int) := by omega
    have e2 : H.drop i = [] := List.drop_eq_nil_of_le (by omega)
    rw [e2] at h
    simp only [spec_l6Longest.l1, e1, if_false]
    exact h
  | succ d ih =>
    intro i acc hi h2 h3 h
    refine Ev.succ ?_
    have e1 : (i : Int) < (H.length : Int) := by omega
    have e2 : (0 : Int) ≤ (i : Int) := by omega
    have hx : okT (rd_T34 H (i : Int)) = true := List.all_eq_true.mp hH _ (rdT_mem e2 e1)
    rw [drop_rd (by omega), wk_cons] at h
    obtain ⟨e3, e4⟩ := wk_step hx h0 h1 h2 (by omega)
    have hb := okT_iff.mp hx
    have q0 := ceil_nonneg (T := (rd_T34 H (i : Int)).f1) (t := t) (by omega) (by omega)
    have q1 : (t + (rd_T34 H (i : Int)).f1 - 1) / (rd_T34 H (i : Int)).f1 ≤ t + (rd_T34 H (i : Int)).f1 - 1 := Int.ediv_le_self _ (by omega)
    have m0 := Int.mul_nonneg (show 0 ≤ (rd_T34 H (i : Int)).f0 by omega) q0
    have m1 := Int.mul_le_mul (show (rd_T34 H (i : Int)).f0 ≤ 10 by omega) (show (t + (rd_T34 H (i : Int)).f1 - 1) / (rd_T34 H (i : Int)).f1 ≤ 240 by omega) q0 (by omega)
    have hw : wrap64 ((i : Int) + 1) = ((i + 1 : Nat) : Int) := by rw [wrap64_in (by omega) (by omega)]; omega
    simp only [spec_l6Longest.l1, e1, e2, if_true, e3, if_false, e4, hw]
    exact ih (i + 1) _ (by omega) (by omega) (by omega) h
theorem all_take {l : List S34} (h : l.all okT = true) (n : Nat) : (l.take n).all okT = true := List.all_eq_true.mpr fun x hx => List.all_eq_true.mp h x (List.mem_of_mem_take hx)
theorem longest_l0 {l : List S34} (hg : l.all okT = true) (hl : l.length ≤ 5) {a : Nat} (ha : a < l.length) : ∀ (n : Nat) (t : Int), 1 ≤ t → t ≤ wk (l.take a) (rd_T34 l (a : Int)).f0 t → 201 < n + t →
    Ev (fun k => impl_longest.l0 k l (a : Int) t) (lonR (l.take a) (rd_T34 l (a : Int)).f0 n t) ∧ Ev (fun k => spec_l6Longest.l0 k l (a : Int) t) (lonS (l.take a) (rd_T34 l (a : Int)).f0 n t) := by
  have hH := all_take hg a
  have hx := okT_iff.mp (List.all_eq_true.mp hg _ (rdT_mem (l := l) (i := (a : Int)) (by omega) (by omega)))
  have hlen : (l.take a).length = a := by simp; omega
  have e1 : (0 : Int) ≤ (a : Int) := by omega
  have e2 : (a : Int) < (l.length : Int) := by omega
  have e3 : (a : Int) ≤ (l.length : Int) := by omega
  intro n
  induction n with
  | zero =>
    intro t h0 h1 h2
    have e4 : ¬ t ≤ 200 := by omega
    constructor
    · refine Ev.succ ?_
      simp only [impl_longest.l0, e4, if_false, lonR, lon]; exact Ev.now _
    · refine Ev.succ ?_
      simp only [spec_l6Longest.l0, e4, if_false, lonS, lon]; exact Ev.now _
  | succ n ih =>
    intro t h0 h1 h2
    by_cases e4 : t ≤ 200
    · have hb := sm_bd hH (t := t) (by omega) e4
      have hm : wk (l.take a) (rd_T34 l (a : Int)).f0 t ≤ wk (l.take a) (rd_T34 l (a : Int)).f0 (wk (l.take a) (rd_T34 l (a : Int)).f0 t) := by
        have := sm_mono hH h1
        rw [wk_eq _ _ t] at this ⊢
        rw [wk_eq _ _ ((rd_T34 l (a : Int)).f0 + _)]; omega
      have hlen' : (((l.take a).length : Nat) : Int) = (a : Int) := by omega
      constructor
      · refine Ev.succ ?_
        simp only [impl_longest.l0, e4, e1, e2, e3, if_true, Option.bind_some, Int.toNat_natCast]
        have h := impl_l1 (l := l) hH (by omega) (a := (a : Int)) h0 e4 (R := lonR (l.take a) (rd_T34 l (a : Int)).f0 (n + 1) t) (l.take a).length 0 (rd_T34 l (a : Int)).f0 (by omega) (by omega) (by omega)
        simp only [List.drop_zero] at h
        refine h ?_
        simp only [lonR, lon, e4, if_true]
        by_cases e5 : wk (l.take a) (rd_T34 l (a : Int)).f0 t = t
        · simp only [e5, if_true]; exact Ev.now _
        · simp only [e5, if_false]; exact (ih _ (by omega) hm (by omega)).1
      · refine Ev.succ ?_
        simp only [spec_l6Longest.l0, e4, e1, e2, e3, if_true, Option.bind_some, Int.toNat_natCast]
        have h := spec_l1 (l := l) hH (by omega) (a := (a : Int)) h0 e4 (R := lonS (l.take a) (rd_T34 l (a : Int)).f0 (n + 1) t) (l.take a).length 0 (rd_T34 l (a : Int)).f0 (by omega) (by omega) (by omega)
        simp only [List.drop_zero] at h
        refine h ?_
        simp only [lonS, lon, e4, if_true]
        by_cases e5 : wk (l.take a) (rd_T34 l (a : Int)).f0 t = t
        · simp only [e5, if_true]; exact Ev.now _
        · simp only [e5, if_false]; exact (ih _ (by omega) hm (by omega)).2
    · constructor
      · refine Ev.succ ?_
        simp only [impl_longest.l0, e4, if_false, lonR, lon]; exact Ev.now _
      · refine Ev.succ ?_
        simp only [spec_l6Longest.l0, e4, if_false, lonS, lon]; exact Ev.now _
theorem longest_both {l : List S34} (hg : l.all okT = true) (hl : l.length ≤ 5) {a : Nat} (ha : a < l.length) :
    Ev (fun k => impl_longest.f k l (a : Int)) (lonR (l.take a) (rd_T34 l (a : Int)).f0 300 (rd_T34 l (a : Int)).f0) ∧ Ev (fun k => spec_l6Longest.f k l (a : Int)) (lonS (l.take a) (rd_T34 l (a : Int)).f0 300 (rd_T34 l (a : Int)).f0) := by
  have hH := all_take hg a
  have hx := okT_iff.mp (List.all_eq_true.mp hg _ (rdT_mem (l := l) (i := (a : Int)) (by omega) (by omega)))
  have e1 : (0 : Int) ≤ (a : Int) := by omega
  have e2 : (a : Int) < (l.length : Int) := by omega
  have hw : (rd_T34 l (a : Int)).f0 ≤ wk (l.take a) (rd_T34 l (a : Int)).f0 (rd_T34 l (a : Int)).f0 := by
    have := (sm_bd hH (t := (rd_T34 l (a : Int)).f0) (by omega) (by omega)).1
    rw [wk_eq]; omega
  have h := longest_l0 hg hl ha 300 (rd_T34 l (a : Int)).f0 (by omega) hw (by omega)
  simp only [impl_longest.f, spec_l6Longest.f, e1, e2, if_true]
  exact h
end Go.Proofs.Ytbbjpgdoekfnhaa.MFnRates
