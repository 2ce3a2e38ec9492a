/- Tasks that come again: in time, the load, the order by rate. -/
import Derived.Test.YtbbjpgdoekfnhaaRatesD
namespace Go.Proofs.Ytbbjpgdoekfnhaa.MFnRates
open Go.RowKit Go.Proofs.YtbbjpgdoekfnhaaW.PrintWords Go.Proofs.YtbbjpgdoekfnhaaW.PrintLast Go.Proofs.YtbbjpgdoekfnhaaW.PrintMore
theorem all_l0 {l : List S34} (hg : l.all okT = true) (hl : l.length ≤ 5) : ∀ (d i : Nat), i + d = l.length →
    Ev (fun k => impl_AllInTime.l0 k l l (l.length : Int) (i : Int)) (allFrom (l.take i) (l.drop i), true) ∧ Ev (fun k => spec_l6All.l0 k l l (l.length : Int) (i : Int)) (allFrom (l.take i) (l.drop i)) := by
  intro d
  induction d with
  | zero =>
    intro i hi
    have h1 : ¬ (i : Int) < (l.length : Int) := by omega
    have h2 : l.drop i = [] := List.drop_eq_nil_of_le (by omega)
    rw [h2]
    exact ⟨Ev.succ (by simp only [impl_AllInTime.l0, h1, if_false, allFrom]; exact Ev.now _), Ev.succ (by simp only [spec_l6All.l0, h1, if_false, allFrom]; exact Ev.now _)⟩
  | succ d ih =>
    intro i hi
    have h1 : (i : Int) < (l.length : Int) := by omega
    have h2 : (0 : Int) ≤ (i : Int) := by omega
    have hx := okT_iff.mp (List.all_eq_true.mp hg _ (rdT_mem h2 h1))
    have hw : wrap64 ((i : Int) + 1) = ((i + 1 : Nat) : Int) := by rw [wrap64_in (by omega) (by omega)]; omega
    have hb := longest_both hg hl (a := i) (by omega)
    have hn := ih (i + 1) (by omega)
    have hx0 : ∀ r, lon (l.take i) (rd_T34 l (i : Int)).f0 300 (rd_T34 l (i : Int)).f0 = some r → (rd_T34 l (i : Int)).f0 ≤ r := by
      intro r h
      refine lon_ge (all_take hg i) _ _ _ ?_ h
      have := (sm_bd (all_take hg i) (t := (rd_T34 l (i : Int)).f0) (by omega) (by omega)).1
      rw [wk_eq]; omega
    rw [drop_rd (by omega)]
    simp only [allFrom]
    rw [take_rd (by omega)] at hn
    constructor
    · refine Ev.succ ?_
      simp only [impl_AllInTime.l0, h1, h2, if_true, hw]
      refine Ev.bind hb.1 ?_
      unfold lonR inTime
      cases hq : lon (l.take i) (rd_T34 l (i : Int)).f0 300 (rd_T34 l (i : Int)).f0 with
      | none => simp only [Bool.false_eq_true, if_false, Bool.false_and]; exact Ev.now _
      | some r =>
        simp only [if_true]
        by_cases h3 : r > (rd_T34 l (i : Int)).f1
        · have h4 : decide (r ≤ (rd_T34 l (i : Int)).f1) = false := decide_eq_false (by omega)
          simp only [h3, if_true, h4, Bool.false_and]; exact Ev.now _
        · have h4 : decide (r ≤ (rd_T34 l (i : Int)).f1) = true := decide_eq_true (by omega)
          simp only [h3, if_false, h4, Bool.true_and]; exact hn.1
    · refine Ev.succ ?_
      simp only [spec_l6All.l0, h1, h2, if_true, hw]
      refine Ev.bind hb.2 ?_
      unfold lonS inTime
      cases hq : lon (l.take i) (rd_T34 l (i : Int)).f0 300 (rd_T34 l (i : Int)).f0 with
      | none => simp only [Bool.false_and, show ((-1 : Int) < 0) = True from by decide, if_true]; exact Ev.now _
      | some r =>
        have h5 : ¬ r < 0 := by have := hx0 _ hq; omega
        simp only [h5, if_false]
        by_cases h3 : r > (rd_T34 l (i : Int)).f1
        · have h4 : decide (r ≤ (rd_T34 l (i : Int)).f1) = false := decide_eq_false (by omega)
          simp only [h3, if_true, h4, Bool.false_and]; exact Ev.now _
        · have h4 : decide (r ≤ (rd_T34 l (i : Int)).f1) = true := decide_eq_true (by omega)
          simp only [h3, if_false, h4, Bool.true_and]; exact hn.2
theorem good_parts {l : List S34} (h : good l = true) : l.length ≤ 5 ∧ l.all okT = true := by
  unfold good at h; simp only [Bool.and_eq_true, decide_eq_true_eq] at h; exact h
def allIn (l : List S34) : Bool × Bool := if good l then (allFrom [] l, true) else (false, false)
theorem impl_all (l : List S34) : Ev (fun k => impl_AllInTime.f k l) (allIn l) := by
  unfold impl_AllInTime.f allIn
  simp only [impl_good, Option.bind_some]
  cases hg : good l with
  | false => simp only [Bool.false_eq_true, if_false]; exact Ev.now _
  | true =>
    simp only [if_true]
    have h := good_parts hg
    have := (all_l0 h.2 h.1 l.length 0 (by omega)).1
    simpa using this
theorem spec_all {l : List S34} (hl : l.length ≤ 1000000) : Ev (fun k => spec_AllInTime.f k l) (allIn l) := by
  unfold spec_AllInTime.f allIn
  refine Ev.bind (spec_good hl) ?_
  cases hg : good l with
  | false => simp only [Bool.false_eq_true, if_false]; exact Ev.now _
  | true =>
    simp only [if_true]
    have h := good_parts hg
    have := (all_l0 h.2 h.1 l.length 0 (by omega)).2
    unfold spec_l6All.f
    refine Ev.bind (by simpa using this) (Ev.now _)
/-! the greatest divisor -/
theorem tmod_nat (a b : Nat) : Int.tmod (a : Int) (b : Int) = ((a % b : Nat) : Int) := by
  rw [Int.tmod_eq_emod_of_nonneg (by omega)]; omega
theorem gcd_step (a b : Nat) : Nat.gcd a b = Nat.gcd b (a % b) := by rw [Nat.gcd_comm a b, Nat.gcd_rec b a, Nat.gcd_comm]
theorem impl_gcd : ∀ (n a b : Nat), b < n → Ev (fun k => impl_divisor.l0 k (a : Int) (b : Int)) ((Nat.gcd a b : Nat) : Int) := by
  intro n
  induction n with
  | zero => intro a b h; omega
  | succ n ih =>
    intro a b h
    refine Ev.succ ?_
    by_cases hb : b = 0
    · subst hb
      have : (((0 : Nat) : Int) = 0) = True := by simp
      simp only [impl_divisor.l0, this, if_true, Nat.gcd_zero_right]; exact Ev.now _
    · have : ¬ ((b : Int) = 0) := by omega
      simp only [impl_divisor.l0, this, if_false, tmod_nat]
      rw [gcd_step]
      exact ih b (a % b) (by have := Nat.mod_lt a (show 0 < b by omega); omega)
theorem spec_gcd : ∀ (n a b : Nat), b < n → Ev (fun k => spec_l6Gcd.l0 k (a : Int) (b : Int)) ((Nat.gcd a b : Nat) : Int) := by
  intro n
  induction n with
  | zero => intro a b h; omega
  | succ n ih =>
    intro a b h
    refine Ev.succ ?_
    by_cases hb : b = 0
    · subst hb
      have : ¬ (((0 : Nat) : Int) > 0) := by simp
      simp only [spec_l6Gcd.l0, this, if_false, Nat.gcd_zero_right]; exact Ev.now _
    · have h1 : ¬ ((b : Int) = 0) := by omega
      have h2 : (b : Int) > 0 := by omega
      simp only [spec_l6Gcd.l0, h1, h2, if_true, if_false, tmod_nat]
      rw [gcd_step]
      exact ih b (a % b) (by have := Nat.mod_lt a (show 0 < b by omega); omega)
/-! the load, step by step -/
def up1 (p : Nat × Nat) (x : S34) : Nat := p.1 * x.f1.toNat + x.f0.toNat * p.2
def lo1 (p : Nat × Nat) (x : S34) : Nat := p.2 * x.f1.toNat
def lstep (p : Nat × Nat) (x : S34) : Nat × Nat := (up1 p x / Nat.gcd (up1 p x) (lo1 p x), lo1 p x / Nat.gcd (up1 p x) (lo1 p x))
def lfold (p : Nat × Nat) (l : List S34) : Nat × Nat := l.foldl lstep p
theorem mul_bd {a b A B : Nat} (h1 : a ≤ A) (h2 : b ≤ B) : a * b ≤ A * B := Nat.mul_le_mul h1 h2
theorem lstep_vals {p : Nat × Nat} {x : S34} {M : Nat} (hx : okT x = true) (h1 : p.1 ≤ M) (h2 : p.2 ≤ M) (hM : M ≤ 10000000000) :
    wrap64 (wrap64 ((p.1 : Int) * x.f1) + wrap64 (x.f0 * (p.2 : Int))) = ((up1 p x : Nat) : Int) ∧ wrap64 ((p.2 : Int) * x.f1) = ((lo1 p x : Nat) : Int) ∧ up1 p x ≤ 50 * M ∧ lo1 p x ≤ 50 * M := by
  have h := okT_iff.mp hx
  have e0 : x.f0 = ((x.f0.toNat : Nat) : Int) := by omega
  have e1 : x.f1 = ((x.f1.toNat : Nat) : Int) := by omega
  have a1 := mul_bd h1 (show x.f1.toNat ≤ 40 by omega)
  have a2 := mul_bd (show x.f0.toNat ≤ 10 by omega) h2
  have a3 := mul_bd h2 (show x.f1.toNat ≤ 40 by omega)
  have b1 : (p.1 : Int) * x.f1 = ((p.1 * x.f1.toNat : Nat) : Int) := by rw [Int.natCast_mul, ← e1]
  have b2 : x.f0 * (p.2 : Int) = ((x.f0.toNat * p.2 : Nat) : Int) := by rw [Int.natCast_mul, ← e0]
  have b3 : (p.2 : Int) * x.f1 = ((p.2 * x.f1.toNat : Nat) : Int) := by rw [Int.natCast_mul, ← e1]
  unfold up1 lo1
  rw [b1, b2, b3]
  generalize p.1 * x.f1.toNat = u at *
  generalize x.f0.toNat * p.2 = v at *
  generalize p.2 * x.f1.toNat = w at *
  refine ⟨?_, ?_, by omega, by omega⟩
  · rw [wrap64_in (x := (u : Int)) (by omega) (by omega), wrap64_in (x := (v : Int)) (by omega) (by omega), wrap64_in (by omega) (by omega)]; omega
  · rw [wrap64_in (by omega) (by omega)]
theorem wrap_nat {n : Nat} (h : n ≤ 9000000000000000000) : wrap64 (n : Int) = (n : Int) := wrap64_in (by omega) (by omega)
theorem tdiv_nat (a b : Nat) : Int.tdiv (a : Int) (b : Int) = ((a / b : Nat) : Int) := by
  rw [Int.tdiv_eq_ediv_of_nonneg (by omega)]; omega
theorem gcd_pos {a b : Nat} (h : 0 < b) : 0 < Nat.gcd a b := Nat.gcd_pos_of_pos_right _ h
theorem load_l0 {l : List S34} (hg : l.all okT = true) (hl : l.length ≤ 5) : ∀ (d i : Nat) (p : Nat × Nat) (M : Nat), i + d = l.length → p.1 ≤ M → p.2 ≤ M → 0 < p.2 → M * 50 ^ d ≤ 400000000 →
    Ev (fun k => impl_LoadOf.l0 k (p.1 : Int) (p.2 : Int) l (l.length : Int) (i : Int)) (((lfold p (l.drop i)).1 : Int), ((lfold p (l.drop i)).2 : Int), true) ∧
    Ev (fun k => spec_LoadOf.l0 k (p.1 : Int) (p.2 : Int) l (l.length : Int) (i : Int)) (((lfold p (l.drop i)).1 : Int), ((lfold p (l.drop i)).2 : Int), true) := by
  intro d
  induction d with
  | zero =>
    intro i p M hi _ _ _ _
    have h1 : ¬ (i : Int) < (l.length : Int) := by omega
    have h2 : l.drop i = [] := List.drop_eq_nil_of_le (by omega)
    rw [h2]
    exact ⟨Ev.succ (by simp only [impl_LoadOf.l0, h1, if_false]; exact Ev.now _), Ev.succ (by simp only [spec_LoadOf.l0, h1, if_false]; exact Ev.now _)⟩
  | succ d ih =>
    intro i p M hi hp1 hp2 hp3 hM
    have h1 : (i : Int) < (l.length : Int) := by omega
    have h2 : (0 : Int) ≤ (i : Int) := by omega
    have hx := List.all_eq_true.mp hg _ (rdT_mem h2 h1)
    have hx' := okT_iff.mp hx
    have hw : wrap64 ((i : Int) + 1) = ((i + 1 : Nat) : Int) := by rw [wrap64_in (by omega) (by omega)]; omega
    have hM1 : 50 * M * 50 ^ d ≤ 400000000 := by rw [Nat.pow_succ] at hM; have : M * (50 ^ d * 50) = 50 * M * 50 ^ d := by grind
                                                 omega
    have hM2 : 50 * M ≤ 400000000 := Nat.le_trans (Nat.le_mul_of_pos_right _ (Nat.pow_pos (by omega))) hM1
    obtain ⟨v1, v2, v3, v4⟩ := lstep_vals hx hp1 hp2 (by omega)
    have hlo : 0 < lo1 p (rd_T34 l (i : Int)) := Nat.mul_pos hp3 (by omega)
    have hgp : 0 < Nat.gcd (up1 p (rd_T34 l (i : Int))) (lo1 p (rd_T34 l (i : Int))) := gcd_pos hlo
    have hg0 : ¬ ((Nat.gcd (up1 p (rd_T34 l (i : Int))) (lo1 p (rd_T34 l (i : Int))) : Nat) : Int) = 0 := by omega
    have d1 := Nat.div_le_self (up1 p (rd_T34 l (i : Int))) (Nat.gcd (up1 p (rd_T34 l (i : Int))) (lo1 p (rd_T34 l (i : Int))))
    have d2 := Nat.div_le_self (lo1 p (rd_T34 l (i : Int))) (Nat.gcd (up1 p (rd_T34 l (i : Int))) (lo1 p (rd_T34 l (i : Int))))
    have d3 : 0 < lo1 p (rd_T34 l (i : Int)) / Nat.gcd (up1 p (rd_T34 l (i : Int))) (lo1 p (rd_T34 l (i : Int))) := Nat.div_pos (Nat.le_of_dvd hlo (Nat.gcd_dvd_right _ _)) hgp
    have hn := ih (i + 1) (lstep p (rd_T34 l (i : Int))) (50 * M) (by omega) (Nat.le_trans d1 v3) (Nat.le_trans d2 v4) d3 hM1
    have e : lfold p (l.drop i) = lfold (lstep p (rd_T34 l (i : Int))) (l.drop (i + 1)) := by rw [drop_rd (by omega)]; rfl
    have w1 : wrap64 (((up1 p (rd_T34 l (i : Int)) / Nat.gcd (up1 p (rd_T34 l (i : Int))) (lo1 p (rd_T34 l (i : Int))) : Nat)) : Int) = ((lstep p (rd_T34 l (i : Int))).1 : Int) := wrap_nat (Nat.le_trans d1 (by omega))
    have w2 : wrap64 (((lo1 p (rd_T34 l (i : Int)) / Nat.gcd (up1 p (rd_T34 l (i : Int))) (lo1 p (rd_T34 l (i : Int))) : Nat)) : Int) = ((lstep p (rd_T34 l (i : Int))).2 : Int) := wrap_nat (Nat.le_trans d2 (by omega))
    rw [e]
    constructor
    · refine Ev.succ ?_
      simp only [impl_LoadOf.l0, h1, h2, if_true, hw, v1, v2]
      refine Ev.bind (impl_gcd _ _ _ (Nat.lt_succ_self _)) ?_
      simp only [hg0, if_false, tdiv_nat, w1, w2]
      exact hn.1
    · refine Ev.succ ?_
      simp only [spec_LoadOf.l0, h1, h2, if_true, hw, v1, v2]
      refine Ev.bind (spec_gcd _ _ _ (Nat.lt_succ_self _)) ?_
      simp only [hg0, if_false, tdiv_nat, w1, w2]
      exact hn.2
def load (l : List S34) : Int × Int × Bool := if good l then (((lfold (0, 1) l).1 : Int), ((lfold (0, 1) l).2 : Int), true) else (0, 0, false)
theorem pow_le5 {d : Nat} (h : d ≤ 5) : 1 * 50 ^ d ≤ 400000000 := by
  rcases d with _ | _ | _ | _ | _ | _ | d <;> first | decide | omega
theorem load_both {l : List S34} (hl : l.length ≤ 1000000) : Ev (fun k => impl_LoadOf.f k l) (load l) ∧ Ev (fun k => spec_LoadOf.f k l) (load l) := by
  unfold impl_LoadOf.f spec_LoadOf.f load
  simp only [impl_good, Option.bind_some]
  cases hg : good l with
  | false =>
    refine ⟨by simp only [Bool.false_eq_true, if_false]; exact Ev.now _, Ev.bind (spec_good hl) ?_⟩
    simp only [hg, Bool.false_eq_true, if_false]; exact Ev.now _
  | true =>
    have h := good_parts hg
    have hb := load_l0 h.2 h.1 l.length 0 (0, 1) 1 (by omega) (by decide) (by decide) (by decide) (pow_le5 h.1)
    simp only [List.drop_zero] at hb
    refine ⟨by simp only [if_true]; exact hb.1, Ev.bind (spec_good hl) ?_⟩
    simp only [hg, if_true]; exact hb.2
/-! lowest terms tell the load -/
def low (p : Nat × Nat) (q : Int × Int) : Prop := 0 < p.2 ∧ Nat.Coprime p.1 p.2 ∧ 0 < q.2 ∧ (p.1 : Int) * q.2 = (p.2 : Int) * q.1
theorem low_step {p : Nat × Nat} {q : Int × Int} {x : S34} (hx : okT x = true) (h : low p q) : low (lstep p x) (q.1 * x.f1 + x.f0 * q.2, q.2 * x.f1) := by
  obtain ⟨h1, h2, h3, h4⟩ := h
  have hx' := okT_iff.mp hx
  have hlo : 0 < lo1 p x := Nat.mul_pos h1 (by omega)
  have hgp : 0 < Nat.gcd (up1 p x) (lo1 p x) := gcd_pos hlo
  refine ⟨Nat.div_pos (Nat.le_of_dvd hlo (Nat.gcd_dvd_right _ _)) hgp, Nat.coprime_div_gcd_div_gcd hgp, Int.mul_pos h3 (by omega), ?_⟩
  have e1 : up1 p x / Nat.gcd (up1 p x) (lo1 p x) * Nat.gcd (up1 p x) (lo1 p x) = up1 p x := Nat.div_mul_cancel (Nat.gcd_dvd_left _ _)
  have e2 : lo1 p x / Nat.gcd (up1 p x) (lo1 p x) * Nat.gcd (up1 p x) (lo1 p x) = lo1 p x := Nat.div_mul_cancel (Nat.gcd_dvd_right _ _)
  have f0 : ((x.f0.toNat : Nat) : Int) = x.f0 := by omega
  have f1 : ((x.f1.toNat : Nat) : Int) = x.f1 := by omega
  have g1 : ((up1 p x : Nat) : Int) = p.1 * x.f1 + x.f0 * p.2 := by unfold up1; rw [Int.natCast_add, Int.natCast_mul, Int.natCast_mul, f0, f1]
  have g2 : ((lo1 p x : Nat) : Int) = p.2 * x.f1 := by unfold lo1; rw [Int.natCast_mul, f1]
  show (((up1 p x / Nat.gcd (up1 p x) (lo1 p x) : Nat)) : Int) * (q.2 * x.f1) = (((lo1 p x / Nat.gcd (up1 p x) (lo1 p x) : Nat)) : Int) * (q.1 * x.f1 + x.f0 * q.2)
  generalize up1 p x / Nat.gcd (up1 p x) (lo1 p x) = u at *
  generalize lo1 p x / Nat.gcd (up1 p x) (lo1 p x) = w at *
  generalize Nat.gcd (up1 p x) (lo1 p x) = g at *
  have e1' : (u : Int) * g = p.1 * x.f1 + x.f0 * p.2 := by rw [← g1, ← e1, Int.natCast_mul]
  have e2' : (w : Int) * g = p.2 * x.f1 := by rw [← g2, ← e2, Int.natCast_mul]
  have hg' : (g : Int) ≠ 0 := by omega
  refine Int.eq_of_mul_eq_mul_right hg' ?_
  have r1 : (u : Int) * (q.2 * x.f1) * g = (u * g) * (q.2 * x.f1) := by grind
  have r2 : (w : Int) * (q.1 * x.f1 + x.f0 * q.2) * g = (w * g) * (q.1 * x.f1 + x.f0 * q.2) := by grind
  rw [r1, r2, e1', e2']
  grind
theorem low_fold : ∀ (l : List S34) (p : Nat × Nat) (q : Int × Int), l.all okT = true → low p q → low (lfold p l) (raw l q) := by
  intro l
  induction l with
  | nil => intro p q _ h; exact h
  | cons x l ih =>
    intro p q hl h
    simp only [List.all_cons, Bool.and_eq_true] at hl
    exact ih _ _ hl.2 (low_step hl.1 h)
theorem low_one {p p' : Nat × Nat} {q : Int × Int} (h : low p q) (h' : low p' q) : p = p' := by
  obtain ⟨a1, a2, a3, a4⟩ := h
  obtain ⟨b1, b2, b3, b4⟩ := h'
  have e : (p.1 : Int) * p'.2 = p'.1 * p.2 := by
    refine Int.eq_of_mul_eq_mul_right (show q.2 ≠ 0 by omega) ?_
    have r1 : (p.1 : Int) * p'.2 * q.2 = p.1 * q.2 * p'.2 := by grind
    have r2 : (p'.1 : Int) * p.2 * q.2 = p'.1 * q.2 * p.2 := by grind
    rw [r1, r2, a4, b4]; grind
  have e' : p.1 * p'.2 = p'.1 * p.2 := by exact_mod_cast e
  have c1 : p.2 ∣ p'.2 := Nat.Coprime.dvd_of_dvd_mul_left a2.symm ⟨p'.1, by rw [e', Nat.mul_comm]⟩
  have c2 : p'.2 ∣ p.2 := Nat.Coprime.dvd_of_dvd_mul_left b2.symm ⟨p.1, by rw [← e', Nat.mul_comm]⟩
  have c3 : p.2 = p'.2 := Nat.dvd_antisymm c1 c2
  rw [c3] at e'
  have c4 : p.1 = p'.1 := Nat.eq_of_mul_eq_mul_right b1 e'
  exact Prod.ext c4 c3
end Go.Proofs.Ytbbjpgdoekfnhaa.MFnRates
