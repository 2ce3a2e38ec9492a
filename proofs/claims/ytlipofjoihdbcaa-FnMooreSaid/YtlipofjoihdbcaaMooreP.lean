/- Lists that have the numbers below n, each once: plain laws. -/
import Derived.Test.YtlipofjoihdbcaaMooreA
namespace Go.Proofs.Ytlipofjoihdbcaa.MFnMoore
open Go.RowKit Go.Proofs.YtlipofjoihdbcaaW.PrintWords Go.Proofs.YtlipofjoihdbcaaW.PrintLast Go.Proofs.YtlipofjoihdbcaaW.PrintMore
def idx (n : Nat) : List Int := (List.range n).map fun i : Nat => (i : Int)
theorem idx_succ (n : Nat) : idx (n + 1) = idx n ++ [(n : Int)] := by simp [idx, List.range_succ]
theorem idx_length (n : Nat) : (idx n).length = n := by simp [idx]
theorem idx_mem {n : Nat} {v : Int} : v ∈ idx n ↔ 0 ≤ v ∧ v < n := by
  simp only [idx, List.mem_map, List.mem_range]
  constructor
  · rintro ⟨a, h, rfl⟩; omega
  · rintro ⟨h0, h1⟩; exact ⟨v.toNat, by omega, by omega⟩
theorem idx_nodup (n : Nat) : (idx n).Nodup := by
  induction n with
  | zero => simp [idx]
  | succ n ih =>
    rw [idx_succ, List.nodup_append]
    refine ⟨ih, by simp, fun a ha b hb => ?_⟩
    have := idx_mem.mp ha
    have hb' : b = (n : Int) := by simpa using hb
    omega
theorem perm_of_sub : ∀ (A B : List Int), A.Nodup → (∀ x ∈ A, x ∈ B) → B.length ≤ A.length → A.Perm B := by
  intro A
  induction A with
  | nil => intro B _ _ h; cases B with
    | nil => exact List.Perm.refl _
    | cons b B => simp at h
  | cons a A ih =>
    intro B hn hs hl
    have ha := hs a List.mem_cons_self
    have hp := List.perm_cons_erase ha
    rw [List.nodup_cons] at hn
    have hl2 := List.length_erase_of_mem ha
    have := ih (B.erase a) hn.2 (fun x hx => by
      have hne : x ≠ a := by rintro rfl; exact hn.1 hx
      exact (List.mem_erase_of_ne hne).mpr (hs x (List.mem_cons_of_mem _ hx))) (by simp only [List.length_cons] at hl; omega)
    exact (List.Perm.cons a this).trans hp.symm
def isOrd (o : List Int) (n : Nat) : Prop := o.Perm (idx n)
theorem isOrd_of_has {o : List Int} {n : Nat} (h : ∀ i : Nat, i < n → (i : Int) ∈ o) (hl : o.length = n) : isOrd o n :=
  (perm_of_sub (idx n) o (idx_nodup n) (fun x hx => by have := idx_mem.mp hx; have e := h x.toNat (by omega); rwa [show ((x.toNat : Nat) : Int) = x by omega] at e) (by rw [idx_length, hl]; exact Nat.le_refl _)).symm
theorem isOrd_of_nodup {o : List Int} {n : Nat} (hn : o.Nodup) (h : ∀ v ∈ o, 0 ≤ v ∧ v < (n : Int)) (hl : o.length = n) : isOrd o n :=
  perm_of_sub o (idx n) hn (fun x hx => idx_mem.mpr (h x hx)) (by rw [idx_length, hl]; exact Nat.le_refl _)
theorem isOrd_mem {o : List Int} {n : Nat} (h : isOrd o n) {v : Int} : v ∈ o ↔ 0 ≤ v ∧ v < (n : Int) := by rw [h.mem_iff]; exact idx_mem
theorem isOrd_nodup {o : List Int} {n : Nat} (h : isOrd o n) : o.Nodup := h.nodup_iff.mpr (idx_nodup n)
theorem isOrd_length {o : List Int} {n : Nat} (h : isOrd o n) : o.length = n := by rw [h.length_eq, idx_length]
instance isOrd_dec (o : List Int) (n : Nat) : Decidable (isOrd o n) := inferInstanceAs (Decidable (o.Perm (idx n)))
/-- sums over lists of numbers -/
def sumF (f : Int → Int) (l : List Int) : Int := (l.map f).sum
theorem sumF_append (f : Int → Int) (A B : List Int) : sumF f (A ++ B) = sumF f A + sumF f B := by simp [sumF]
theorem sumF_cons (f : Int → Int) (a : Int) (B : List Int) : sumF f (a :: B) = f a + sumF f B := by simp [sumF]
theorem sumF_perm {f : Int → Int} {A B : List Int} (h : A.Perm B) : sumF f A = sumF f B := by
  induction h with
  | nil => rfl
  | cons x _ ih => simp only [sumF_cons, ih]
  | swap x y l => simp only [sumF_cons]; omega
  | trans _ _ h1 h2 => exact h1.trans h2
theorem sumF_nonneg {f : Int → Int} {A : List Int} (h : ∀ a ∈ A, 0 ≤ f a) : 0 ≤ sumF f A := by
  induction A with
  | nil => simp [sumF]
  | cons a A ih => rw [sumF_cons]; have := h a List.mem_cons_self; have := ih (fun x hx => h x (List.mem_cons_of_mem _ hx)); omega
theorem sumF_sub {f : Int → Int} : ∀ (A B : List Int), A.Nodup → (∀ x ∈ A, x ∈ B) → (∀ b ∈ B, 0 ≤ f b) → sumF f A ≤ sumF f B := by
  intro A
  induction A with
  | nil => intro B _ _ h; exact sumF_nonneg h
  | cons a A ih =>
    intro B hn hs hf
    have ha := hs a List.mem_cons_self
    rw [List.nodup_cons] at hn
    rw [sumF_perm (List.perm_cons_erase ha), sumF_cons, sumF_cons]
    have := ih (B.erase a) hn.2 (fun x hx => by
      have hne : x ≠ a := by rintro rfl; exact hn.1 hx
      exact (List.mem_erase_of_ne hne).mpr (hs x (List.mem_cons_of_mem _ hx))) (fun b hb => hf b (List.mem_of_mem_erase hb))
    omega
theorem sumF_le {f : Int → Int} {M : Int} {A : List Int} (h : ∀ a ∈ A, f a ≤ M) : sumF f A ≤ M * A.length := by
  induction A with
  | nil => simp [sumF]
  | cons a A ih =>
    rw [sumF_cons, List.length_cons]
    have h1 := h a List.mem_cons_self
    have h2 := ih (fun x hx => h x (List.mem_cons_of_mem _ hx))
    have : M * ((A.length + 1 : Nat) : Int) = M * A.length + M := by rw [Int.natCast_add, Int.mul_add]; simp
    omega
/-- The last of a list that is among some. -/
theorem last_of {S : List Int} : ∀ (p : List Int), (∃ x ∈ p, x ∈ S) → ∃ P j Q, p = P ++ j :: Q ∧ j ∈ S ∧ ∀ q ∈ Q, q ∉ S := by
  intro p
  induction p with
  | nil => rintro ⟨x, hx, _⟩; cases hx
  | cons a p ih =>
    intro h
    by_cases h2 : ∃ x ∈ p, x ∈ S
    · obtain ⟨P, j, Q, e, hj, hQ⟩ := ih h2
      exact ⟨a :: P, j, Q, by rw [e]; rfl, hj, hQ⟩
    · obtain ⟨x, hx, hs⟩ := h
      rcases List.mem_cons.mp hx with rfl | hx
      · exact ⟨[], x, p, rfl, hs, fun q hq hqs => h2 ⟨q, hq, hqs⟩⟩
      · exact absurd ⟨x, hx, hs⟩ h2
end Go.Proofs.Ytlipofjoihdbcaa.MFnMoore
