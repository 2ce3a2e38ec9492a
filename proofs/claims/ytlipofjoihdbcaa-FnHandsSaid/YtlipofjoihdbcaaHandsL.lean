/- Graham's bounds on giving chores to whoever has the least: plain laws. -/
import Derived.Test.YtlipofjoihdbcaaHandsP
namespace Go.Proofs.Ytlipofjoihdbcaa.MFnHands
open Go.RowKit Go.Proofs.YtlipofjoihdbcaaW.PrintWords Go.Proofs.YtlipofjoihdbcaaW.PrintLast Go.Proofs.YtlipofjoihdbcaaW.PrintMore
theorem sumF_nil (f : Int → Int) : sumF f [] = 0 := by simp [sumF]
theorem sumF_add2 (a b : Int → Int) : ∀ A : List Int, sumF (fun k => a k + b k) A = sumF a A + sumF b A := by
  intro A
  induction A with
  | nil => simp [sumF]
  | cons x A ih => simp only [sumF_cons, ih]; omega
theorem sumF_none {x c : Int} : ∀ A : List Int, x ∉ A → sumF (fun k => if x = k then c else 0) A = 0 := by
  intro A
  induction A with
  | nil => intro _; simp [sumF]
  | cons a A ih =>
    intro h
    rw [sumF_cons, ih (fun hx => h (List.mem_cons_of_mem _ hx)), if_neg (fun e : x = a => h (by rw [e]; exact List.mem_cons_self))]; rfl
theorem sumF_one {x c : Int} : ∀ A : List Int, A.Nodup → x ∈ A → sumF (fun k => if x = k then c else 0) A = c := by
  intro A
  induction A with
  | nil => intro _ h; cases h
  | cons a A ih =>
    intro hn h
    rw [List.nodup_cons] at hn
    rw [sumF_cons]
    by_cases e : x = a
    · subst e; rw [if_pos rfl, sumF_none A hn.1]; omega
    · rw [if_neg e, ih hn.2 (by cases h with | head => exact absurd rfl e | tail _ h => exact h)]; omega
theorem sumF_ge {f : Int → Int} {c : Int} : ∀ {A : List Int}, (∀ a ∈ A, c ≤ f a) → c * A.length ≤ sumF f A := by
  intro A
  induction A with
  | nil => intro _; simp [sumF]
  | cons a A ih =>
    intro h
    rw [sumF_cons, List.length_cons]
    have h1 := h a List.mem_cons_self
    have h2 := ih (fun x hx => h x (List.mem_cons_of_mem _ hx))
    have : c * ((A.length + 1 : Nat) : Int) = c * A.length + c := by rw [Int.natCast_add, Int.mul_add]; simp
    omega
/-- What lies on a hand: the sum of f over those numbers that g gives to it. -/
def ld (f g : Int → Int) (js : List Int) (k : Int) : Int := sumF f (js.filter fun i => g i == k)
theorem ld_nil (f g : Int → Int) (k : Int) : ld f g [] k = 0 := by simp [ld, sumF]
theorem ld_cons (f g : Int → Int) (j : Int) (js : List Int) (k : Int) : ld f g (j :: js) k = (if g j = k then f j else 0) + ld f g js k := by
  unfold ld
  by_cases h : g j = k
  · rw [List.filter_cons_of_pos (by simpa using h), sumF_cons, if_pos h]
  · rw [List.filter_cons_of_neg (by simpa using h), if_neg h]; omega
theorem ld_append (f g : Int → Int) (A B : List Int) (k : Int) : ld f g (A ++ B) k = ld f g A k + ld f g B k := by
  unfold ld; rw [List.filter_append, sumF_append]
theorem ld_snoc (f g : Int → Int) (j : Int) (js : List Int) (k : Int) : ld f g (js ++ [j]) k = ld f g js k + (if g j = k then f j else 0) := by
  rw [ld_append, ld_cons, ld_nil]; omega
theorem ld_perm {f g : Int → Int} {A B : List Int} (h : A.Perm B) (k : Int) : ld f g A k = ld f g B k := sumF_perm (h.filter _)
theorem ld_nonneg {f g : Int → Int} {A : List Int} (h : ∀ a ∈ A, 0 ≤ f a) (k : Int) : 0 ≤ ld f g A k := sumF_nonneg (fun a ha => h a (List.mem_filter.mp ha).1)
theorem ld_le {f g : Int → Int} {A B : List Int} (h : ∀ a ∈ B, 0 ≤ f a) (k : Int) : ld f g A k ≤ ld f g (A ++ B) k := by
  have := ld_nonneg (g := g) h k; rw [ld_append]; omega
theorem ld_all {f g : Int → Int} {n : Nat} : ∀ js : List Int, (∀ i ∈ js, 0 ≤ g i ∧ g i < (n : Int)) → sumF (ld f g js) (idx n) = sumF f js := by
  intro js
  induction js with
  | nil => intro _; rw [show ld f g [] = fun _ => 0 from funext (ld_nil f g)]; have := sumF_le (f := fun _ => 0) (M := 0) (A := idx n) (by simp); have := sumF_nonneg (f := fun _ => 0) (A := idx n) (by simp); simp only [sumF_nil]; omega
  | cons j js ih =>
    intro h
    rw [show ld f g (j :: js) = fun k => (if g j = k then f j else 0) + ld f g js k from funext (ld_cons f g j js), sumF_add2, sumF_one _ (idx_nodup n) (idx_mem.mpr (h j List.mem_cons_self)), ih (fun i hi => h i (List.mem_cons_of_mem _ hi)), sumF_cons]
/-- Each number goes to a hand that has the least. -/
def Gre (p g : Int → Int) (n : Nat) (order : List Int) : Prop :=
  ∀ done j rest, order = done ++ j :: rest → (0 ≤ g j ∧ g j < (n : Int)) ∧ ∀ k, 0 ≤ k → k < (n : Int) → ld p g done (g j) ≤ ld p g done k
theorem Gre.range {p g : Int → Int} {n : Nat} {order : List Int} (h : Gre p g n order) : ∀ i ∈ order, 0 ≤ g i ∧ g i < (n : Int) := by
  intro i hi
  obtain ⟨s, t, e⟩ := List.append_of_mem hi
  exact (h s i t e).1
theorem step_through {order : List Int} {P : List Int → Prop} (h0 : P []) (hs : ∀ done j rest, order = done ++ j :: rest → P done → P (done ++ [j])) : P order := by
  have : ∀ (rest done : List Int), order = done ++ rest → P done → P order := by
    intro rest
    induction rest with
    | nil => intro done e h; rw [e, List.append_nil]; exact h
    | cons j rest ih => intro done e h; exact ih (done ++ [j]) (by rw [e]; simp) (hs done j rest e h)
  exact this order [] rfl h0
theorem least_avg {p g : Int → Int} {n : Nat} {order done rest : List Int} {j : Int} (h : Gre p g n order) (e : order = done ++ j :: rest) : n * ld p g done (g j) ≤ sumF p done := by
  have hr : ∀ i ∈ done, 0 ≤ g i ∧ g i < (n : Int) := fun i hi => h.range i (by rw [e]; exact List.mem_append_left _ hi)
  have h1 := sumF_ge (f := ld p g done) (c := ld p g done (g j)) (A := idx n) (fun k hk => (h done j rest e).2 k (idx_mem.mp hk).1 (idx_mem.mp hk).2)
  rw [ld_all done hr, idx_length] at h1
  rw [Int.mul_comm]; exact h1
/-- The first bound. -/
theorem graham {p g : Int → Int} {n : Nat} {order : List Int} {M : Int} (h : Gre p g n order) (hn : 1 ≤ n) (hp : ∀ i ∈ order, 0 ≤ p i ∧ p i ≤ M) (hM : 0 ≤ M) :
    ∀ k, 0 ≤ k → k < (n : Int) → n * ld p g order k ≤ sumF p order + (n - 1) * M := by
  refine step_through (P := fun done => ∀ k, 0 ≤ k → k < (n : Int) → n * ld p g done k ≤ sumF p done + (n - 1) * M) ?_ ?_
  · intro k _ _
    rw [ld_nil, sumF_nil]
    have : 0 ≤ ((n : Int) - 1) * M := Int.mul_nonneg (by omega) hM
    omega
  · intro done j rest e ih k h0 h1
    have hj := hp j (by rw [e]; simp)
    rw [ld_snoc, sumF_append, sumF_cons, sumF_nil]
    by_cases hk : g j = k
    · rw [if_pos hk, ← hk]
      have h2 := least_avg h e
      have h3 : ((n : Int) - 1) * p j ≤ ((n : Int) - 1) * M := Int.mul_le_mul_of_nonneg_left hj.2 (by omega)
      have h4 : (n : Int) * (ld p g done (g j) + p j) = n * ld p g done (g j) + (((n : Int) - 1) * p j + p j) := by grind
      omega
    · rw [if_neg hk]
      have := ih k h0 h1
      rw [Int.add_zero]; omega
theorem two_at_most {p : Int → Int} {q m : Int} (hq : 3 * q > m) (hq0 : 0 ≤ q) : ∀ ys : List Int, (∀ i ∈ ys, q ≤ p i) → sumF p ys ≤ m → sumF (fun i => if p i + q > m then 2 else 1) ys ≤ 2 := by
  intro ys h hs
  match ys with
  | [] => rw [sumF_nil]; omega
  | [a] => rw [sumF_cons, sumF_nil]; split <;> omega
  | [a, b] =>
    have ha := h a (by simp)
    have hb := h b (by simp)
    simp only [sumF_cons, sumF_nil] at hs ⊢
    rw [if_neg (by omega), if_neg (by omega)]; omega
  | a :: b :: c :: r =>
    have ha := h a (by simp)
    have hb := h b (by simp)
    have hc := h c (by simp)
    have hr := sumF_nonneg (f := p) (A := r) (fun i hi => by have := h i (by simp [hi]); omega)
    simp only [sumF_cons] at hs
    omega
theorem two_at_least {p : Int → Int} {q m : Int} (hq : q ≤ m) : ∀ ys : List Int, sumF p ys + q > m → 2 ≤ sumF (fun i => if p i + q > m then 2 else 1) ys := by
  intro ys hs
  match ys with
  | [] => rw [sumF_nil] at hs; omega
  | [a] =>
    simp only [sumF_cons, sumF_nil] at hs ⊢
    rw [if_pos (by omega)]; omega
  | a :: b :: r =>
    have hr := sumF_nonneg (f := fun i => if p i + q > m then 2 else 1) (A := r) (fun i _ => by split <;> omega)
    simp only [sumF_cons]
    split <;> split <;> omega
/-- The second bound: the longest first. -/
theorem graham_longest {p g gs : Int → Int} {n : Nat} {order : List Int} {m : Int} (h : Gre p g n order) (hn : 1 ≤ n) (hp : ∀ i ∈ order, 0 ≤ p i)
    (hd : ∀ done j rest, order = done ++ j :: rest → ∀ i ∈ done, p j ≤ p i) (hg : ∀ i ∈ order, 0 ≤ gs i ∧ gs i < (n : Int)) (hm : ∀ k, 0 ≤ k → k < (n : Int) → ld p gs order k ≤ m) :
    ∀ k, 0 ≤ k → k < (n : Int) → 3 * n * ld p g order k ≤ (4 * n - 1) * m := by
  have hm0 : 0 ≤ m := Int.le_trans (ld_nonneg hp 0) (hm 0 (by omega) (by omega))
  have hall : sumF p order ≤ n * m := by
    rw [← ld_all (f := p) order hg]
    have := sumF_le (f := ld p gs order) (M := m) (A := idx n) (fun k hk => hm k (idx_mem.mp hk).1 (idx_mem.mp hk).2)
    rwa [idx_length, Int.mul_comm] at this
  refine step_through (P := fun done => ∀ k, 0 ≤ k → k < (n : Int) → 3 * n * ld p g done k ≤ (4 * n - 1) * m) ?_ ?_
  · intro k _ _
    rw [ld_nil, Int.mul_zero]
    exact Int.mul_nonneg (by omega) hm0
  · intro done j rest e ih k h0 h1
    have hj := hp j (by rw [e]; simp)
    have hpre : order = (done ++ [j]) ++ rest := by rw [e]; simp
    have hrest : ∀ a ∈ rest, 0 ≤ p a := fun a ha => hp a (by rw [e]; simp [ha])
    rw [ld_snoc]
    by_cases hk : g j = k
    · rw [if_pos hk, ← hk]
      have h2 := least_avg h e
      by_cases h3 : 3 * p j ≤ m
      · have h4 : sumF p done + p j ≤ n * m := by
          have h5 := sumF_nonneg hrest
          rw [hpre, sumF_append, sumF_append, sumF_cons, sumF_nil] at hall
          omega
        have h5 : ((n : Int) - 1) * (3 * p j) ≤ ((n : Int) - 1) * m := Int.mul_le_mul_of_nonneg_left h3 (by omega)
        have h6 : 3 * (n : Int) * (ld p g done (g j) + p j) = 3 * (n * ld p g done (g j)) + (((n : Int) - 1) * (3 * p j) + 3 * p j) := by grind
        have h7 : (4 * (n : Int) - 1) * m = 3 * (n * m) + ((n : Int) - 1) * m := by grind
        omega
      · have key : ld p g done (g j) + p j ≤ m := by
          refine Int.not_lt.mp fun hlt => ?_
          have hlast : ∀ i ∈ done ++ [j], p j ≤ p i := by
            intro i hi
            rcases List.mem_append.mp hi with hi | hi
            · exact hd done j rest e i hi
            · rw [List.mem_singleton.mp hi]; exact Int.le_refl _
          have hjm : p j ≤ m := by
            have h8 := hm (gs j) (hg j (by rw [e]; simp)).1 (hg j (by rw [e]; simp)).2
            rw [hpre, ld_append, ld_snoc, if_pos rfl] at h8
            have h9 := ld_nonneg (g := gs) hrest (gs j)
            have h10 := ld_nonneg (g := gs) (f := p) (A := done) (fun a ha => hp a (by rw [e]; simp [ha])) (gs j)
            omega
          have hr : ∀ i ∈ done, 0 ≤ g i ∧ g i < (n : Int) := fun i hi => h.range i (by rw [e]; exact List.mem_append_left _ hi)
          have hgs : ∀ i ∈ done ++ [j], 0 ≤ gs i ∧ gs i < (n : Int) := fun i hi => hg i (by rw [hpre]; exact List.mem_append_left _ hi)
          have hup : sumF (fun i => if p i + p j > m then 2 else 1) (done ++ [j]) ≤ 2 * n := by
            rw [← ld_all (n := n) (done ++ [j]) hgs]
            have := sumF_le (f := ld (fun i => if p i + p j > m then 2 else 1) gs (done ++ [j])) (M := 2) (A := idx n) (fun k hk => by
              refine two_at_most (by omega) (by omega) _ (fun i hi => hlast i (List.mem_filter.mp hi).1) ?_
              have h8 := hm k (idx_mem.mp hk).1 (idx_mem.mp hk).2
              rw [hpre] at h8
              exact Int.le_trans (ld_le hrest k) h8)
            rwa [idx_length] at this
          have hlo : 2 * n ≤ sumF (fun i => if p i + p j > m then 2 else 1) done := by
            rw [← ld_all (n := n) done hr]
            have := sumF_ge (f := ld (fun i => if p i + p j > m then 2 else 1) g done) (c := 2) (A := idx n) (fun k hk => by
              refine two_at_least hjm _ ?_
              have h8 := (h done j rest e).2 k (idx_mem.mp hk).1 (idx_mem.mp hk).2
              have h9 : sumF p (done.filter fun i => g i == k) = ld p g done k := rfl
              omega)
            rwa [idx_length] at this
          rw [sumF_append, sumF_cons, sumF_nil] at hup
          split at hup <;> omega
        have h5 : 3 * (n : Int) * (ld p g done (g j) + p j) ≤ 3 * (n : Int) * m := Int.mul_le_mul_of_nonneg_left key (by omega)
        have h7 : (4 * (n : Int) - 1) * m = 3 * n * m + ((n : Int) - 1) * m := by grind
        have h8 : 0 ≤ ((n : Int) - 1) * m := Int.mul_nonneg (by omega) hm0
        omega
    · rw [if_neg hk, Int.add_zero]
      exact ih k h0 h1
end Go.Proofs.Ytlipofjoihdbcaa.MFnHands
