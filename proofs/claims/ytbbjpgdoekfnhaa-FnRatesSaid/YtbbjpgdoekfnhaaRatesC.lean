/- Tasks that come again: plain laws on lists of tasks. -/
import Derived.Test.YtbbjpgdoekfnhaaRatesA
namespace Go.Proofs.Ytbbjpgdoekfnhaa.MFnRates
open Go.RowKit Go.Proofs.YtbbjpgdoekfnhaaW.PrintWords Go.Proofs.YtbbjpgdoekfnhaaW.PrintLast Go.Proofs.YtbbjpgdoekfnhaaW.PrintMore
def okT (x : S34) : Bool := decide (1 ≤ x.f0) && decide (x.f0 ≤ 10) && (decide (x.f0 ≤ x.f1) && decide (x.f1 ≤ 40))
theorem okT_iff {x : S34} : okT x = true ↔ 1 ≤ x.f0 ∧ x.f0 ≤ 10 ∧ x.f0 ≤ x.f1 ∧ x.f1 ≤ 40 := by
  simp [okT]; omega
theorem all_snoc {H : List S34} {x : S34} (h : H.all okT = true) (hx : okT x = true) : (H ++ [x]).all okT = true := by rw [List.all_append, h]; simp [hx]
def good (l : List S34) : Bool := decide (l.length ≤ 5) && l.all okT
/-- what the tasks ahead need up to t, and c -/
def wk (H : List S34) (c t : Int) : Int := H.foldl (fun a x => a + x.f0 * ((t + x.f1 - 1) / x.f1)) c
def sm (H : List S34) (t : Int) : Int := (H.map fun x => x.f0 * ((t + x.f1 - 1) / x.f1)).sum
theorem wk_eq (H : List S34) : ∀ c t, wk H c t = c + sm H t := by
  induction H with
  | nil => intro c t; simp [wk, sm]
  | cons x H ih =>
    intro c t
    have h := ih (c + x.f0 * ((t + x.f1 - 1) / x.f1)) t
    unfold wk at h ⊢
    rw [List.foldl_cons, h]
    simp only [sm, List.map_cons, List.sum_cons]
    omega
theorem sm_append (A B : List S34) (t : Int) : sm (A ++ B) t = sm A t + sm B t := by simp [sm]
theorem sm_cons (x : S34) (B : List S34) (t : Int) : sm (x :: B) t = x.f0 * ((t + x.f1 - 1) / x.f1) + sm B t := by simp [sm]
theorem ceil_mono {T t t' : Int} (hT : 1 ≤ T) (h : t ≤ t') : (t + T - 1) / T ≤ (t' + T - 1) / T := Int.ediv_le_ediv (by omega) (by omega)
theorem ceil_nonneg {T t : Int} (hT : 1 ≤ T) (h : 0 ≤ t) : 0 ≤ (t + T - 1) / T := Int.ediv_nonneg (by omega) (by omega)
theorem ceil_one {T t : Int} (h1 : 1 ≤ t) (h2 : t ≤ T) : (t + T - 1) / T = 1 := by
  have : t + T - 1 = (t - 1) + 1 * T := by omega
  rw [this, Int.add_mul_ediv_right _ _ (by omega), Int.ediv_eq_zero_of_lt (by omega) (by omega)]; omega
theorem ceil_mul {T t : Int} (hT : 1 ≤ T) : t ≤ (t + T - 1) / T * T := by
  have h := Int.emod_add_mul_ediv (t + T - 1) T
  have h2 := Int.emod_lt_of_pos (t + T - 1) (show 0 < T by omega)
  have h3 := Int.mul_comm ((t + T - 1) / T) T
  omega
theorem sm_mono {H : List S34} (hH : H.all okT = true) {t t' : Int} (h : t ≤ t') : sm H t ≤ sm H t' := by
  induction H with
  | nil => simp [sm]
  | cons x H ih =>
    simp only [List.all_cons, Bool.and_eq_true] at hH
    have hx := okT_iff.mp hH.1
    rw [sm_cons, sm_cons]
    have := Int.mul_le_mul_of_nonneg_left (ceil_mono (T := x.f1) (by omega) h) (show 0 ≤ x.f0 by omega)
    have := ih hH.2
    omega
theorem sm_bd {H : List S34} (hH : H.all okT = true) {t : Int} (h0 : 0 ≤ t) (h : t ≤ 200) : 0 ≤ sm H t ∧ sm H t ≤ 2400 * H.length := by
  induction H with
  | nil => simp [sm]
  | cons x H ih =>
    simp only [List.all_cons, Bool.and_eq_true] at hH
    have hx := okT_iff.mp hH.1
    rw [sm_cons]
    have h1 := ceil_nonneg (T := x.f1) (by omega) h0
    have h2 : (t + x.f1 - 1) / x.f1 ≤ t + x.f1 - 1 := Int.ediv_le_self _ (by omega)
    have h3 := Int.mul_nonneg (show 0 ≤ x.f0 by omega) h1
    have h4 := Int.mul_le_mul (show x.f0 ≤ 10 by omega) (show (t + x.f1 - 1) / x.f1 ≤ 240 by omega) h1 (by omega)
    have := ih hH.2
    simp only [List.length_cons]
    omega
/-- the least time that stays, from t on -/
def lon (H : List S34) (c : Int) : Nat → Int → Option Int
  | 0, _ => none
  | n + 1, t => if t ≤ 200 then (if wk H c t = t then some t else lon H c n (wk H c t)) else none
theorem lon_fix {H : List S34} {c : Int} : ∀ (n : Nat) (t r : Int), lon H c n t = some r → wk H c r = r := by
  intro n
  induction n with
  | zero => intro t r h; simp [lon] at h
  | succ n ih =>
    intro t r h
    simp only [lon] at h
    split at h
    · split at h
      · cases h; assumption
      · exact ih _ _ h
    · cases h
theorem lon_ge {H : List S34} (hH : H.all okT = true) {c : Int} : ∀ (n : Nat) (t r : Int), t ≤ wk H c t → lon H c n t = some r → t ≤ r := by
  intro n
  induction n with
  | zero => intro t r _ h; simp [lon] at h
  | succ n ih =>
    intro t r ht h
    simp only [lon] at h
    split at h
    · split at h
      · cases h; omega
      · have h2 : wk H c t ≤ wk H c (wk H c t) := by
          have := sm_mono hH ht
          rw [wk_eq H c t] at this ⊢
          rw [wk_eq H c (c + sm H t)]; omega
        have := ih _ _ h2 h
        omega
    · cases h
theorem lon_le {H : List S34} (hH : H.all okT = true) {c s : Int} (hs : wk H c s ≤ s) (hs2 : s ≤ 200) : ∀ (n : Nat) (t : Int), t ≤ s → t ≤ wk H c t → s < n + t → ∃ r, lon H c n t = some r ∧ r ≤ s := by
  intro n
  induction n with
  | zero => intro t h1 h2 h3; omega
  | succ n ih =>
    intro t h1 h2 h3
    have hm : wk H c t ≤ s := by
      have := sm_mono hH h1
      rw [wk_eq] at hs ⊢; omega
    simp only [lon]
    rw [if_pos (by omega)]
    by_cases e : wk H c t = t
    · rw [if_pos e]; exact ⟨t, rfl, h1⟩
    · rw [if_neg e]
      refine ih _ hm ?_ (by omega)
      have := sm_mono hH h2
      rw [wk_eq H c t] at this ⊢
      rw [wk_eq H c (c + sm H t)]; omega
/-- is a task done in time behind these? -/
def inTime (H : List S34) (x : S34) : Bool := match lon H x.f0 300 x.f0 with
  | some r => decide (r ≤ x.f1)
  | none => false
theorem inTime_iff {H : List S34} (hH : H.all okT = true) {x : S34} (hx : okT x = true) : inTime H x = true ↔ ∃ t, 1 ≤ t ∧ t ≤ x.f1 ∧ wk H x.f0 t ≤ t := by
  have h := okT_iff.mp hx
  have h0 : x.f0 ≤ wk H x.f0 x.f0 := by have := (sm_bd hH (t := x.f0) (by omega) (by omega)).1; rw [wk_eq]; omega
  unfold inTime
  constructor
  · intro e
    split at e
    · rename_i r hr
      have h1 := lon_fix _ _ _ hr
      have h2 := lon_ge hH _ _ _ h0 hr
      exact ⟨r, by omega, by simpa using e, by omega⟩
    · cases e
  · rintro ⟨t, h1, h2, h3⟩
    have h4 : x.f0 ≤ t := by have := (sm_bd hH (t := t) (by omega) (by omega)).1; rw [wk_eq] at h3; omega
    obtain ⟨r, hr, hrt⟩ := lon_le hH h3 (by omega) 300 x.f0 h4 h0 (by omega)
    rw [hr]; simp; omega
def allFrom : List S34 → List S34 → Bool
  | _, [] => true
  | H, x :: r => inTime H x && allFrom (H ++ [x]) r
theorem inTime_congr {H H' : List S34} (hH : H.all okT = true) (hH' : H'.all okT = true) (e : ∀ t, sm H t = sm H' t) {x : S34} (hx : okT x = true) : inTime H x = inTime H' x := by
  rw [Bool.eq_iff_iff, inTime_iff hH hx, inTime_iff hH' hx]
  simp only [wk_eq, e]
theorem allFrom_congr : ∀ (r H H' : List S34), H.all okT = true → H'.all okT = true → r.all okT = true → (∀ t, sm H t = sm H' t) → allFrom H r = allFrom H' r := by
  intro r
  induction r with
  | nil => intros; rfl
  | cons x r ih =>
    intro H H' hH hH' hr e
    simp only [List.all_cons, Bool.and_eq_true] at hr
    simp only [allFrom]
    rw [inTime_congr hH hH' e hr.1, ih (H ++ [x]) (H' ++ [x]) (by simp [hH, hr.1]) (by simp [hH', hr.1]) hr.2 (fun t => by rw [sm_append, sm_append, e])]
theorem allFrom_append : ∀ (A H r : List S34), allFrom H (A ++ r) = (allFrom H A && allFrom (H ++ A) r) := by
  intro A
  induction A with
  | nil => intro H r; simp [allFrom]
  | cons x A ih => intro H r; simp only [List.cons_append, allFrom, ih, Bool.and_assoc]; simp
/-- Two neighbours of which the second comes more often change places: what was in time stays so. -/
theorem allFrom_swap {H A B : List S34} {x y : S34} (hH : H.all okT = true) (hA : A.all okT = true) (hB : B.all okT = true) (hx : okT x = true) (hy : okT y = true) (hxy : x.f1 < y.f1)
    (h : allFrom H (A ++ y :: x :: B) = true) : allFrom H (A ++ x :: y :: B) = true := by
  rw [allFrom_append] at h ⊢
  simp only [Bool.and_eq_true, allFrom] at h ⊢
  obtain ⟨h1, h2, h3, h4⟩ := h
  have hHA : (H ++ A).all okT = true := by rw [List.all_append, hH, hA]; rfl
  have hx' := okT_iff.mp hx
  have hy' := okT_iff.mp hy
  refine ⟨h1, ?_, ?_, ?_⟩
  · obtain ⟨t, t1, t2, t3⟩ := (inTime_iff (all_snoc hHA hy) hx).mp h3
    refine (inTime_iff hHA hx).mpr ⟨t, t1, t2, ?_⟩
    rw [wk_eq] at t3 ⊢
    rw [sm_append, sm_cons] at t3
    have := Int.mul_nonneg (show 0 ≤ y.f0 by omega) (ceil_nonneg (T := y.f1) (t := t) (by omega) (by omega))
    have : sm [] t = 0 := rfl
    omega
  · obtain ⟨t, t1, t2, t3⟩ := (inTime_iff (all_snoc hHA hy) hx).mp h3
    refine (inTime_iff (all_snoc hHA hx) hy).mpr ⟨t, t1, by omega, ?_⟩
    rw [wk_eq] at t3 ⊢
    rw [sm_append, sm_cons, ceil_one t1 (by omega)] at t3 ⊢
    omega
  · rw [← h4]
    refine allFrom_congr _ _ _ (all_snoc (all_snoc hHA hx) hy) (all_snoc (all_snoc hHA hy) hx) hB (fun t => ?_)
    simp only [sm_append, sm_cons]; omega
/-! the load -/
def raw : List S34 → Int × Int → Int × Int
  | [], p => p
  | x :: r, p => raw r (p.1 * x.f1 + x.f0 * p.2, p.2 * x.f1)
theorem raw_append : ∀ (A B : List S34) (p : Int × Int), raw (A ++ B) p = raw B (raw A p) := by
  intro A
  induction A with
  | nil => intros; rfl
  | cons x A ih => intro B p; simp only [List.cons_append, raw, ih]
theorem raw_swap (A B : List S34) (x y : S34) (p : Int × Int) : raw (A ++ x :: y :: B) p = raw (A ++ y :: x :: B) p := by
  rw [raw_append, raw_append]
  simp only [raw]
  congr 1
  · congr 1
    · grind
    · grind
theorem raw_pos : ∀ (l : List S34) (p : Int × Int), l.all okT = true → 0 ≤ p.1 → 0 < p.2 → 0 ≤ (raw l p).1 ∧ 0 < (raw l p).2 := by
  intro l
  induction l with
  | nil => intro p _ h1 h2; exact ⟨h1, h2⟩
  | cons x l ih =>
    intro p hl h1 h2
    simp only [List.all_cons, Bool.and_eq_true] at hl
    have hx := okT_iff.mp hl.1
    simp only [raw]
    refine ih _ hl.2 ?_ ?_
    · have := Int.mul_nonneg h1 (show 0 ≤ x.f1 by omega)
      have := Int.mul_nonneg (show 0 ≤ x.f0 by omega) (show 0 ≤ p.2 by omega)
      show 0 ≤ p.1 * x.f1 + x.f0 * p.2
      omega
    · exact Int.mul_pos h2 (by omega)
theorem raw_sm : ∀ (l : List S34) (p : Int × Int) (t c : Int), l.all okT = true → 0 < p.2 → p.1 * t ≤ p.2 * c → (raw l p).1 * t ≤ (raw l p).2 * (c + sm l t) := by
  intro l
  induction l with
  | nil => intro p t c _ _ h; simpa [raw, sm] using h
  | cons x l ih =>
    intro p t c hl h2 h
    simp only [List.all_cons, Bool.and_eq_true] at hl
    have hx := okT_iff.mp hl.1
    rw [sm_cons, ← Int.add_assoc]
    refine ih (p.1 * x.f1 + x.f0 * p.2, p.2 * x.f1) t (c + x.f0 * ((t + x.f1 - 1) / x.f1)) hl.2 (Int.mul_pos h2 (by omega)) ?_
    have hc := ceil_mul (T := x.f1) (t := t) (by omega)
    generalize (t + x.f1 - 1) / x.f1 = q at hc
    have e1 := Int.mul_le_mul_of_nonneg_right h (show 0 ≤ x.f1 by omega)
    have e2 := Int.mul_le_mul_of_nonneg_left hc (show 0 ≤ x.f0 * p.2 from Int.mul_nonneg (by omega) (by omega))
    show (p.1 * x.f1 + x.f0 * p.2) * t ≤ p.2 * x.f1 * (c + x.f0 * q)
    have e3 : (p.1 * x.f1 + x.f0 * p.2) * t = p.1 * t * x.f1 + x.f0 * p.2 * t := by grind
    have e4 : p.2 * x.f1 * (c + x.f0 * q) = p.2 * c * x.f1 + x.f0 * p.2 * (q * x.f1) := by grind
    omega
/-- what is all in time needs no more than there is -/
theorem load_le {l : List S34} (hl : l.all okT = true) (h : allFrom [] l = true) : (raw l (0, 1)).1 ≤ (raw l (0, 1)).2 := by
  rcases List.eq_nil_or_concat l with rfl | ⟨H, x, rfl⟩
  · decide
  · rw [List.concat_eq_append] at *
    rw [allFrom_append] at h
    simp only [Bool.and_eq_true, allFrom, List.nil_append] at h
    simp only [List.all_append, Bool.and_eq_true, List.all_cons, List.all_nil] at hl
    have hx := okT_iff.mp hl.2.1
    obtain ⟨t, t1, t2, t3⟩ := (inTime_iff hl.1 hl.2.1).mp h.2.1
    rw [wk_eq] at t3
    have e := raw_sm H (0, 1) t 0 hl.1 (by decide) (by simp)
    have hp := raw_pos H (0, 1) hl.1 (by decide) (by decide)
    rw [raw_append]
    simp only [raw]
    generalize raw H (0, 1) = p at e hp
    have e1 := Int.mul_le_mul_of_nonneg_right e (show 0 ≤ x.f1 by omega)
    have e2 := Int.mul_le_mul_of_nonneg_left t2 (show 0 ≤ x.f0 * p.2 from Int.mul_nonneg (by omega) (by omega))
    have e3 := Int.mul_le_mul_of_nonneg_left t3 (show 0 ≤ p.2 * x.f1 from Int.mul_nonneg (by omega) (by omega))
    have e4 : (p.1 * x.f1 + x.f0 * p.2) * t = p.1 * t * x.f1 + x.f0 * p.2 * t := by grind
    have e5 : p.2 * (0 + sm H t) * x.f1 + x.f0 * p.2 * x.f1 = p.2 * x.f1 * (x.f0 + sm H t) := by grind
    have e6 : (p.1 * x.f1 + x.f0 * p.2) * t ≤ p.2 * x.f1 * t := by omega
    exact Int.le_of_mul_le_mul_right e6 (by omega)
end Go.Proofs.Ytbbjpgdoekfnhaa.MFnRates
