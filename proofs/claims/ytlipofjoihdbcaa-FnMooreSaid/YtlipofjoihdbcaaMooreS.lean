/- Sorting by insertion, from behind: plain laws on lists. -/
import Derived.Test.YtlipofjoihdbcaaMooreA
namespace Go.Proofs.Ytlipofjoihdbcaa.MFnMoore
open Go.RowKit Go.Proofs.YtlipofjoihdbcaaW.PrintWords Go.Proofs.YtlipofjoihdbcaaW.PrintLast Go.Proofs.YtlipofjoihdbcaaW.PrintMore
def insR {α : Type} (key : α → Int) (x : α) : List α → List α
  | [] => [x]
  | y :: r => if key x < key y then y :: insR key x r else x :: y :: r
def isortR {α : Type} (key : α → Int) (acc l : List α) : List α := l.foldl (fun a x => insR key x a) acc
theorem insR_length {α : Type} (key : α → Int) (x : α) : ∀ l, (insR key x l).length = l.length + 1 := by
  intro l
  induction l with
  | nil => rfl
  | cons y r ih => simp only [insR]; split <;> simp [ih]
theorem insR_mem {α : Type} (key : α → Int) (x : α) : ∀ l z, z ∈ insR key x l ↔ z = x ∨ z ∈ l := by
  intro l
  induction l with
  | nil => intro z; simp [insR]
  | cons y r ih => intro z; simp only [insR]; split <;> simp [ih] <;> grind
theorem insR_keeps {α : Type} {key : α → Int} {P : List α → Prop} (hP : ∀ A B x y, key x < key y → P (A ++ y :: x :: B) → P (A ++ x :: y :: B)) :
    ∀ (acc : List α) (x : α) (rest : List α), P (acc.reverse ++ x :: rest) → P ((insR key x acc).reverse ++ rest) := by
  intro acc
  induction acc with
  | nil => intro x rest h; simpa [insR] using h
  | cons y r ih =>
    intro x rest h
    simp only [insR]
    split
    · rename_i hlt
      have h1 : P (r.reverse ++ y :: x :: rest) := by simpa using h
      have := ih x (y :: rest) (hP _ _ _ _ hlt h1)
      simpa using this
    · simpa using h
theorem isortR_keeps {α : Type} {key : α → Int} {P : List α → Prop} (hP : ∀ A B x y, key x < key y → P (A ++ y :: x :: B) → P (A ++ x :: y :: B)) :
    ∀ (l acc : List α), P (acc.reverse ++ l) → P (isortR key acc l).reverse := by
  intro l
  induction l with
  | nil => intro acc h; simpa [isortR] using h
  | cons x l ih => intro acc h; exact ih _ (insR_keeps hP acc x l h)
theorem isortR_length {α : Type} (key : α → Int) : ∀ (l acc : List α), (isortR key acc l).length = acc.length + l.length := by
  intro l
  induction l with
  | nil => intro acc; simp [isortR]
  | cons x l ih => intro acc; have := ih (insR key x acc); simp only [isortR, List.foldl_cons] at this ⊢; rw [this, insR_length]; simp; omega
theorem isortR_mem {α : Type} (key : α → Int) : ∀ (l acc : List α) z, z ∈ isortR key acc l ↔ z ∈ acc ∨ z ∈ l := by
  intro l
  induction l with
  | nil => intro acc z; simp [isortR]
  | cons x l ih => intro acc z; have := ih (insR key x acc) z; simp only [isortR, List.foldl_cons] at this ⊢; rw [this, insR_mem]; simp; grind
theorem insR_front {α : Type} {key : α → Int} {x : α} : ∀ (B C : List α), (∀ b ∈ B, key x < key b) → insR key x (B ++ C) = B ++ insR key x C := by
  intro B
  induction B with
  | nil => intro C _; rfl
  | cons b B ih =>
    intro C h
    simp only [List.cons_append, insR]
    rw [if_pos (h b List.mem_cons_self), ih C (fun z hz => h z (List.mem_cons_of_mem _ hz))]
theorem insR_stop {α : Type} {key : α → Int} {x : α} : ∀ (C : List α), (∀ c, C.head? = some c → ¬ key x < key c) → insR key x C = x :: C := by
  intro C h
  cases C with
  | nil => rfl
  | cons c C => simp only [insR]; rw [if_neg (h c rfl)]
def down {α : Type} (key : α → Int) (l : List α) : Prop := l.Pairwise fun a b => key b ≤ key a
theorem insR_down {α : Type} {key : α → Int} (x : α) : ∀ l : List α, down key l → down key (insR key x l) := by
  intro l
  induction l with
  | nil => intro _; simp [insR, down]
  | cons y r ih =>
    intro h
    unfold down at h ih ⊢
    rw [List.pairwise_cons] at h
    simp only [insR]
    split
    · rename_i hlt
      rw [List.pairwise_cons]
      refine ⟨fun z hz => ?_, ih h.2⟩
      rcases (insR_mem key x r z).mp hz with rfl | hz
      · omega
      · exact h.1 z hz
    · rename_i hlt
      rw [List.pairwise_cons, List.pairwise_cons]
      refine ⟨fun z hz => ?_, h.1, h.2⟩
      rcases List.mem_cons.mp hz with rfl | hz
      · omega
      · have := h.1 z hz; omega
theorem isortR_down {α : Type} {key : α → Int} : ∀ (l acc : List α), down key acc → down key (isortR key acc l) := by
  intro l
  induction l with
  | nil => intro acc h; exact h
  | cons x l ih => intro acc h; exact ih _ (insR_down x acc h)
/-- The place by looking from the front: behind all that are no greater. -/
theorem insR_split {α : Type} {key : α → Int} {x : α} (A B : List α) (hs : down key (A ++ B).reverse) (hA : ∀ a ∈ A, key a ≤ key x) (hB : ∀ b, B.head? = some b → key x < key b) :
    (insR key x (A ++ B).reverse).reverse = A ++ x :: B := by
  rw [List.reverse_append, insR_front, insR_stop]
  · simp
  · intro c hc
    have : c ∈ A := by have := List.mem_of_mem_head? hc; simpa using this
    have := hA c this; omega
  · intro b hb
    have hb' : b ∈ B := by simpa using hb
    cases B with
    | nil => cases hb'
    | cons b0 B =>
      have h0 := hB b0 rfl
      rcases List.mem_cons.mp hb' with rfl | hm
      · exact h0
      · unfold down at hs
        rw [List.pairwise_reverse, List.pairwise_append] at hs
        have := (List.pairwise_cons.mp hs.2.1).1 b hm
        omega
theorem set_swap {α : Type} (P R : List α) (x y : α) : ((P ++ y :: x :: R).set (P.length + 1) y).set P.length x = P ++ x :: y :: R := by
  induction P with
  | nil => rfl
  | cons p P ih => simp only [List.cons_append, List.length_cons, List.set_cons_succ, ih]
end Go.Proofs.Ytlipofjoihdbcaa.MFnMoore
