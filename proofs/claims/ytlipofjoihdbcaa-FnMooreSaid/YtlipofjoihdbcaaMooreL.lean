/- As many in time as can be (Moore; Hodgson): over lists of numbers. -/
import Derived.Test.YtlipofjoihdbcaaMooreP
namespace Go.Proofs.Ytlipofjoihdbcaa.MFnMoore
open Go.RowKit Go.Proofs.YtlipofjoihdbcaaW.PrintWords Go.Proofs.YtlipofjoihdbcaaW.PrintLast Go.Proofs.YtlipofjoihdbcaaW.PrintMore
theorem sumF_nil (f : Int → Int) : sumF f [] = 0 := rfl
theorem nodup_len : ∀ (A B : List Int), A.Nodup → (∀ x ∈ A, x ∈ B) → A.length ≤ B.length := by
  intro A
  induction A with
  | nil => intro B _ _; simp
  | cons a A ih =>
    intro B hn hs
    have ha := hs a List.mem_cons_self
    rw [List.nodup_cons] at hn
    have h1 := ih (B.erase a) hn.2 (fun x hx => by
      have hne : x ≠ a := by rintro rfl; exact hn.1 hx
      exact (List.mem_erase_of_ne hne).mpr (hs x (List.mem_cons_of_mem _ hx)))
    rw [List.length_erase_of_mem ha] at h1
    have := List.length_pos_of_mem ha
    rw [List.length_cons]; omega
theorem sumF_snoc (f : Int → Int) (A : List Int) (a : Int) : sumF f (A ++ [a]) = sumF f A + f a := by rw [sumF_append, sumF_cons, sumF_nil]; omega
/-- One by one, each is done by its end. -/
def feas (p d : Int → Int) (B : List Int) : Prop := ∀ P j Q, B = P ++ j :: Q → sumF p (P ++ [j]) ≤ d j
theorem feas_nil (p d : Int → Int) : feas p d [] := by intro P j Q e; cases P <;> simp at e
theorem feas_front {p d : Int → Int} {A C : List Int} (h : feas p d (A ++ C)) : feas p d A := by
  intro P j Q e
  exact h P j (Q ++ C) (by rw [e]; simp)
theorem feas_snoc {p d : Int → Int} {A : List Int} {x : Int} (h : feas p d A) (hx : sumF p (A ++ [x]) ≤ d x) : feas p d (A ++ [x]) := by
  intro P j Q e
  rcases List.eq_nil_or_concat Q with h0 | ⟨Q', y, h0⟩
  · subst h0
    obtain ⟨e1, e2⟩ := List.append_inj' e rfl
    injection e2 with e2 _
    subst e1 e2
    exact hx
  · subst h0
    have e3 : A ++ [x] = (P ++ j :: Q') ++ [y] := by rw [e]; simp
    obtain ⟨e1, _⟩ := List.append_inj' e3 rfl
    exact h P j Q' e1
theorem feas_last {p d : Int → Int} {A : List Int} {x : Int} (h : feas p d (A ++ [x])) : sumF p (A ++ [x]) ≤ d x := h A x [] rfl
theorem sublist_snoc {B D : List Int} {x : Int} (h : B.Sublist (D ++ [x])) : B.Sublist D ∨ ∃ B', B = B' ++ [x] ∧ B'.Sublist D := by
  obtain ⟨l1, l2, e, h1, h2⟩ := List.sublist_append_iff.mp h
  rcases List.sublist_cons_iff.mp h2 with h3 | ⟨r, e3, h3⟩
  · have : l2 = [] := List.sublist_nil.mp h3
    subst this; rw [e, List.append_nil]; exact .inl h1
  · have : r = [] := List.sublist_nil.mp h3
    subst this; subst e3; exact .inr ⟨l1, e, h1⟩
/-- What holds of the tasks that are kept, behind some of the order. -/
structure Opt (p d : Int → Int) (D A : List Int) : Prop where
  sub : A.Sublist D
  ok : feas p d A
  best : ∀ B : List Int, B.Sublist D → feas p d B → ∃ C : List Int, C.Nodup ∧ (∀ c ∈ C, c ∈ A) ∧ C.length = B.length ∧ sumF p C ≤ sumF p B
theorem Opt.start (p d : Int → Int) : Opt p d [] [] := ⟨List.Sublist.refl _, feas_nil p d, fun B hB _ => by
  have : B = [] := List.sublist_nil.mp hB
  subst this; exact ⟨[], by simp, by simp, rfl, Int.le_refl _⟩⟩
theorem Opt.most {p d : Int → Int} {D A B : List Int} (h : Opt p d D A) (hB : B.Sublist D) (hf : feas p d B) : B.length ≤ A.length := by
  obtain ⟨C, h1, h2, h3, _⟩ := h.best B hB hf
  rw [← h3]; exact nodup_len C A h1 h2
/-- The ways with the next one: what can be put against it. -/
theorem Opt.next {p d : Int → Int} {D A B : List Int} {x : Int} (h : Opt p d D A) (hn : (D ++ [x]).Nodup) (hB : B.Sublist (D ++ [x])) (hf : feas p d B) :
    ∃ C : List Int, C.Nodup ∧ (∀ c ∈ C, c ∈ A ++ [x]) ∧ C.length = B.length ∧ sumF p C ≤ sumF p B ∧ (C.length ≤ A.length ∨ sumF p (A ++ [x]) ≤ d x) := by
  have hxD : x ∉ D := by
    intro hx
    exact (List.nodup_append.mp hn).2.2 x hx x (by simp) rfl
  rcases sublist_snoc hB with hB1 | ⟨B', rfl, hB2⟩
  · obtain ⟨C, h1, h2, h3, h4⟩ := h.best B hB1 hf
    exact ⟨C, h1, fun c hc => List.mem_append_left _ (h2 c hc), h3, h4, .inl (nodup_len C A h1 h2)⟩
  · obtain ⟨C, h1, h2, h3, h4⟩ := h.best B' hB2 (feas_front hf)
    have hxC : x ∉ C := fun hx => hxD (h.sub.subset (h2 x hx))
    have hl := nodup_len C A h1 h2
    refine ⟨C ++ [x], ?_, ?_, by simp [h3], by rw [sumF_snoc, sumF_snoc]; omega, ?_⟩
    · rw [List.nodup_append]
      refine ⟨h1, by simp, fun a ha b hb => ?_⟩
      rw [List.mem_singleton.mp hb]
      rintro rfl; exact hxC ha
    · intro c hc
      rcases List.mem_append.mp hc with hc | hc
      · exact List.mem_append_left _ (h2 c hc)
      · exact List.mem_append_right _ hc
    · rw [List.length_append, List.length_singleton]
      rcases Nat.lt_or_ge C.length A.length with h5 | h5
      · exact .inl h5
      · refine .inr ?_
        have hlast := feas_last hf
        have hperm : A.Perm C := (perm_of_sub C A h1 h2 (by omega)).symm
        rw [sumF_snoc] at hlast ⊢
        rw [sumF_perm hperm]; omega
theorem Opt.keep {p d : Int → Int} {D A : List Int} {x : Int} (h : Opt p d D A) (hn : (D ++ [x]).Nodup) (hx : sumF p (A ++ [x]) ≤ d x) : Opt p d (D ++ [x]) (A ++ [x]) := by
  refine ⟨h.sub.append (List.Sublist.refl _), feas_snoc h.ok hx, fun B hB hf => ?_⟩
  obtain ⟨C, h1, h2, h3, h4, _⟩ := h.next hn hB hf
  exact ⟨C, h1, h2, h3, h4⟩
theorem Opt.drop {p d : Int → Int} {D A P Q : List Int} {x j : Int} (h : Opt p d D A) (hn : (D ++ [x]).Nodup) (hs : (D ++ [x]).Pairwise fun a b => d a ≤ d b) (hp : ∀ a ∈ A ++ [x], 0 ≤ p a)
    (hx : ¬ sumF p (A ++ [x]) ≤ d x) (e : A ++ [x] = P ++ j :: Q) (hj : ∀ a ∈ A ++ [x], p a ≤ p j) : Opt p d (D ++ [x]) (P ++ Q) := by
  have hsub2 : (A ++ [x]).Sublist (D ++ [x]) := h.sub.append (List.Sublist.refl _)
  have hn2 : (A ++ [x]).Nodup := hn.sublist hsub2
  have hsub : (P ++ Q).Sublist (A ++ [x]) := by rw [e]; exact (List.Sublist.refl P).append (List.sublist_cons_self j Q)
  have hs2 : (A ++ [x]).Pairwise fun a b => d a ≤ d b := hs.sublist hsub2
  have hjm : j ∈ A ++ [x] := by rw [e]; simp
  refine ⟨hsub.trans hsub2, ?_, fun B hB hf => ?_⟩
  · -- each is still done by its end
    rcases List.eq_nil_or_concat Q with h0 | ⟨Q', y, h0⟩
    · subst h0
      obtain ⟨e1, _⟩ := List.append_inj' e rfl
      rw [List.append_nil, ← e1]; exact h.ok
    · rw [List.concat_eq_append] at h0
      subst h0
      have e3 : A ++ [x] = (P ++ j :: Q') ++ [y] := by rw [e]; simp
      obtain ⟨e1, e2⟩ := List.append_inj' e3 rfl
      injection e2 with e2 _
      subst e2
      rw [← List.append_assoc]
      have hPQ : feas p d (P ++ Q') := by
        intro P1 y Q1 e4
        have hA := h.ok
        rw [e1] at hA
        rcases List.append_eq_append_iff.mp e4 with ⟨a', e5, e6⟩ | ⟨c', e5, e6⟩
        · -- y stands behind j
          subst e5 e6
          have h7 := hA (P ++ j :: a') y Q1 (by simp)
          have h8 : 0 ≤ p j := hp j hjm
          simp only [sumF_append, sumF_cons, sumF_nil] at h7 ⊢; omega
        · cases c' with
          | nil =>
            simp only [List.append_nil, List.nil_append] at e5 e6
            subst e5
            have h7 := hA (P ++ [j]) y Q1 (by rw [← e6]; simp)
            have h8 : 0 ≤ p j := hp j hjm
            simp only [sumF_append, sumF_cons, sumF_nil] at h7 ⊢; omega
          | cons c c' =>
            simp only [List.cons_append] at e6
            injection e6 with e6 e7
            subst e6
            exact hA P1 y (c' ++ j :: Q') (by rw [e5]; simp)
      refine feas_snoc hPQ ?_
      have h5 : sumF p (P ++ j :: Q') ≤ d x := by
        rw [← e1]
        rcases List.eq_nil_or_concat A with hA | ⟨A0, z, hA⟩
        · rw [hA] at e1; cases P <;> simp at e1
        · rw [List.concat_eq_append] at hA
          rw [hA]
          have h6 := h.ok A0 z [] (by rw [hA])
          have h7 : d z ≤ d x := by
            rw [hA] at hs2
            exact (List.pairwise_append.mp hs2).2.2 z (by simp) x (by simp)
          omega
      have h6 := hj x (by simp)
      simp only [sumF_append, sumF_cons, sumF_nil] at h5 ⊢; omega
  · obtain ⟨C, h1, h2, h3, h4, h5⟩ := h.next hn hB hf
    have hlen : C.length ≤ A.length := h5.resolve_right hx
    have hmem : ∀ c, c ∈ A ++ [x] → c ≠ j → c ∈ P ++ Q := by
      intro c hc hne
      rw [e] at hc
      simp only [List.mem_append, List.mem_cons] at hc ⊢
      rcases hc with hc | hc | hc
      · exact .inl hc
      · exact absurd hc hne
      · exact .inr hc
    by_cases hjC : j ∈ C
    · have hy : ∃ y ∈ A ++ [x], y ∉ C := by
        refine Classical.byContradiction fun hno => ?_
        have := nodup_len (A ++ [x]) C hn2 (fun a ha => Classical.byContradiction fun hc => hno ⟨a, ha, hc⟩)
        rw [List.length_append, List.length_singleton] at this
        omega
      obtain ⟨y, hyA, hyC⟩ := hy
      have hyj : y ≠ j := by rintro rfl; exact hyC hjC
      have hperm := List.perm_cons_erase hjC
      have hsum : sumF p C = p j + sumF p (C.erase j) := by rw [sumF_perm hperm, sumF_cons]
      have hle := hperm.length_eq
      rw [List.length_cons] at hle
      have hjE : j ∉ C.erase j := fun hm => by
        have := (hperm.nodup_iff).mp h1
        exact (List.nodup_cons.mp this).1 hm
      refine ⟨y :: C.erase j, ?_, ?_, by rw [List.length_cons]; omega, ?_⟩
      · rw [List.nodup_cons]
        exact ⟨fun hm => hyC (List.mem_of_mem_erase hm), h1.erase j⟩
      · intro c hc
        rcases List.mem_cons.mp hc with rfl | hc
        · exact hmem _ hyA hyj
        · exact hmem c (h2 c (List.mem_of_mem_erase hc)) (by rintro rfl; exact hjE hc)
      · rw [sumF_cons]
        have := hj y hyA
        omega
    · exact ⟨C, h1, fun c hc => hmem c (h2 c hc) (by rintro rfl; exact hjC hc), h3, h4⟩
/-- The first of the greatest of a row. -/
def hiStep (p : Int → Int) (s : List Int) (b : Int) : Nat → Int
  | 0 => b
  | d + 1 => let i : Int := (s.length : Int) - ((d : Int) + 1); hiStep p s (if p (rd s i) > p (rd s b) then i else b) d
def hiI (p : Int → Int) (s : List Int) : Int := hiStep p s 0 s.length
theorem hiStep_hi {p : Int → Int} {s : List Int} : ∀ (d : Nat) (b : Int), d ≤ s.length → (0 ≤ b ∧ b < (s.length : Int)) → (∀ k, 0 ≤ k → k < (s.length : Int) - d → p (rd s k) ≤ p (rd s b)) →
    (0 ≤ hiStep p s b d ∧ hiStep p s b d < (s.length : Int)) ∧ ∀ k, 0 ≤ k → k < (s.length : Int) → p (rd s k) ≤ p (rd s (hiStep p s b d)) := by
  intro d
  induction d with
  | zero => intro b _ hb h1; exact ⟨hb, fun k h0 hk => h1 k h0 (by omega)⟩
  | succ d ih =>
    intro b hd hb h1
    simp only [hiStep]
    by_cases hc : p (rd s ((s.length : Int) - ((d : Int) + 1))) > p (rd s b)
    · simp only [hc, if_true]
      refine ih _ (by omega) (by omega) (fun k h0 hk => ?_)
      rcases Int.lt_or_eq_of_le (show k ≤ (s.length : Int) - ((d : Int) + 1) by omega) with h2 | h2
      · have := h1 k h0 (by omega); omega
      · rw [h2]; omega
    · simp only [hc, if_false]
      refine ih _ (by omega) hb (fun k h0 hk => ?_)
      rcases Int.lt_or_eq_of_le (show k ≤ (s.length : Int) - ((d : Int) + 1) by omega) with h2 | h2
      · exact h1 k h0 (by omega)
      · rw [h2]; omega
theorem hiI_hi {p : Int → Int} {s : List Int} (hs : 0 < s.length) : (0 ≤ hiI p s ∧ hiI p s < (s.length : Int)) ∧ ∀ k, 0 ≤ k → k < (s.length : Int) → p (rd s k) ≤ p (rd s (hiI p s)) :=
  hiStep_hi s.length 0 (Nat.le_refl _) (by omega) (fun k h0 hk => by omega)
/-- Moore's way through an order: what is kept, what is taken out. -/
def mooreG (p d : Int → Int) : List Int → List Int → List Int → List Int × List Int
  | [], out, gone => (out, gone)
  | x :: r, out, gone => if sumF p (out ++ [x]) ≤ d x then mooreG p d r (out ++ [x]) gone else mooreG p d r ((out ++ [x]).eraseIdx (hiI p (out ++ [x])).toNat) (gone ++ [rd (out ++ [x]) (hiI p (out ++ [x]))])
theorem rd_memA {s : List Int} {i : Int} (h0 : 0 ≤ i) (h1 : i < (s.length : Int)) : rd s i ∈ s := by
  obtain ⟨n, rfl⟩ := Int.eq_ofNat_of_zero_le h0
  have hn : n < s.length := by omega
  have : rd s (n : Int) = s[n] := by simp [rd, List.getD, hn]
  rw [this]; exact List.getElem_mem _
theorem split_at {s : List Int} {i : Int} (h0 : 0 ≤ i) (h1 : i < (s.length : Int)) : s = s.take i.toNat ++ rd s i :: s.drop (i.toNat + 1) ∧ s.eraseIdx i.toNat = s.take i.toNat ++ s.drop (i.toNat + 1) := by
  obtain ⟨n, rfl⟩ := Int.eq_ofNat_of_zero_le h0
  have hn : n < s.length := by omega
  have e : rd s (n : Int) = s[n] := by simp [rd, List.getD, hn]
  refine ⟨?_, ?_⟩
  · rw [e, Int.toNat_natCast, List.getElem_cons_drop hn, List.take_append_drop]
  · rw [Int.toNat_natCast, List.eraseIdx_eq_take_drop_succ]
theorem hi_top {p : Int → Int} {s : List Int} (hs : 0 < s.length) : ∀ a ∈ s, p a ≤ p (rd s (hiI p s)) := by
  intro a ha
  obtain ⟨i, hi, e⟩ := List.getElem_of_mem ha
  have := (hiI_hi (p := p) hs).2 (i : Int) (by omega) (by omega)
  have e2 : rd s (i : Int) = s[i] := by simp [rd, List.getD, hi]
  rw [e2, e] at this; exact this
theorem perm_keep {out gone D : List Int} {x : Int} (hperm : (out ++ gone).Perm D) : ((out ++ [x]) ++ gone).Perm (D ++ [x]) := by
  refine List.Perm.trans ?_ (hperm.append_right [x])
  simp only [List.append_assoc]
  exact List.Perm.append_left out List.perm_append_comm
theorem perm_drop {out gone D P Q : List Int} {x j : Int} (hperm : (out ++ gone).Perm D) (e1 : out ++ [x] = P ++ j :: Q) : ((P ++ Q) ++ (gone ++ [j])).Perm (D ++ [x]) := by
  have h2 := perm_keep (x := x) hperm
  rw [e1] at h2
  refine List.Perm.trans ?_ h2
  simp only [List.append_assoc, List.cons_append]
  refine List.Perm.append_left P ?_
  have h3 : (Q ++ (gone ++ [j])).Perm ((Q ++ gone) ++ [j]) := by rw [List.append_assoc]
  exact h3.trans (List.perm_append_comm.trans (by simp))
theorem moore_opt {p d : Int → Int} : ∀ (r D out gone : List Int), Opt p d D out → (D ++ r).Nodup → (D ++ r).Pairwise (fun a b => d a ≤ d b) → (∀ a ∈ D ++ r, 0 ≤ p a) → (out ++ gone).Perm D →
    Opt p d (D ++ r) (mooreG p d r out gone).1 ∧ ((mooreG p d r out gone).1 ++ (mooreG p d r out gone).2).Perm (D ++ r) := by
  intro r
  induction r with
  | nil => intro D out gone h _ _ _ hp; rw [List.append_nil]; exact ⟨h, hp⟩
  | cons x r ih =>
    intro D out gone h hn hs hp hperm
    have e : D ++ x :: r = (D ++ [x]) ++ r := by simp
    rw [e] at hn hs hp ⊢
    have hn1 := (List.nodup_append.mp hn).1
    have hs1 := (List.pairwise_append.mp hs).1
    simp only [mooreG]
    by_cases hx : sumF p (out ++ [x]) ≤ d x
    · simp only [hx, if_true]
      exact ih (D ++ [x]) _ gone (h.keep hn1 hx) hn hs hp (perm_keep hperm)
    · simp only [hx, if_false]
      have hpos : 0 < (out ++ [x]).length := by simp
      have hi := (hiI_hi (p := p) hpos).1
      obtain ⟨e1, e2⟩ := split_at hi.1 hi.2
      rw [e2]
      refine ih (D ++ [x]) _ _ (h.drop hn1 hs1 (fun a ha => ?_) hx e1 (hi_top hpos)) hn hs hp (perm_drop hperm e1)
      refine hp a (List.mem_append_left _ ?_)
      rcases List.mem_append.mp ha with ha | ha
      · exact List.mem_append_left _ (h.sub.subset ha)
      · exact List.mem_append_right _ ha
end Go.Proofs.Ytlipofjoihdbcaa.MFnMoore
