/- What each hand has, as a row; the span of chores that are given. -/
import Derived.Test.YtlipofjoihdbcaaHandsC
import Derived.Test.YtlipofjoihdbcaaMFnHandsx5
namespace Go.Proofs.Ytlipofjoihdbcaa.MFnHands
open Go.RowKit Go.Proofs.YtlipofjoihdbcaaW.PrintWords Go.Proofs.YtlipofjoihdbcaaW.PrintLast Go.Proofs.YtlipofjoihdbcaaW.PrintMore
theorem ld_congr {f g g' : Int → Int} {js : List Int} (h : ∀ i ∈ js, g i = g' i) (k : Int) : ld f g js k = ld f g' js k := by
  unfold ld
  congr 1
  exact List.filter_congr (fun i hi => by rw [h i hi])
theorem ld_le_all {f g : Int → Int} {js : List Int} (h : ∀ i ∈ js, 0 ≤ f i) (k : Int) : ld f g js k ≤ sumF f js := by
  induction js with
  | nil => rw [ld_nil, sumF_nil]; exact Int.le_refl _
  | cons j js ih =>
    rw [ld_cons, sumF_cons]
    have := ih (fun i hi => h i (List.mem_cons_of_mem _ hi))
    have := h j List.mem_cons_self
    split <;> omega
def row (p g : Int → Int) (js : List Int) (n : Nat) : List Int := (idx n).map (ld p g js)
theorem row_length (p g : Int → Int) (js : List Int) (n : Nat) : (row p g js n).length = n := by simp [row, idx_length]
theorem idx_get {n i : Nat} (h : i < (idx n).length) : (idx n)[i] = (i : Int) := by simp [idx]
theorem row_get {p g : Int → Int} {js : List Int} {n i : Nat} (h : i < (row p g js n).length) : (row p g js n)[i] = ld p g js (i : Int) := by simp [row, idx_get]
theorem row_rd {p g : Int → Int} {js : List Int} {n : Nat} {k : Int} (h0 : 0 ≤ k) (h1 : k < (n : Int)) : rd (row p g js n) k = ld p g js k := by
  obtain ⟨i, rfl⟩ := Int.eq_ofNat_of_zero_le h0
  rw [rd_at (by rw [row_length]; omega), row_get]
theorem row_nil (p g : Int → Int) (n : Nat) : List.replicate n 0 = row p g [] n := by
  refine List.ext_getElem (by rw [row_length, List.length_replicate]) (fun i h1 h2 => ?_)
  rw [row_get, ld_nil, List.getElem_replicate]
theorem row_snoc {p g : Int → Int} {js : List Int} {n : Nat} {j : Int} (h0 : 0 ≤ g j) : (row p g js n).set (g j).toNat (ld p g js (g j) + p j) = row p g (js ++ [j]) n := by
  refine List.ext_getElem (by rw [List.length_set, row_length, row_length]) (fun i h1 h2 => ?_)
  rw [row_get, ld_snoc, List.getElem_set]
  by_cases h : (g j).toNat = i
  · have : g j = (i : Int) := by omega
    rw [if_pos h, if_pos this, this]
  · have : ¬ g j = (i : Int) := by omega
    rw [if_neg h, if_neg this, row_get]; omega
theorem row_congr {p g g' : Int → Int} {js : List Int} (h : ∀ i ∈ js, g i = g' i) (n : Nat) : row p g js n = row p g' js n := by
  unfold row
  exact List.map_congr_left (fun k _ => ld_congr h k)
theorem row_mem {p g : Int → Int} {js : List Int} {n : Nat} {x : Int} : x ∈ row p g js n ↔ ∃ k, (0 ≤ k ∧ k < (n : Int)) ∧ ld p g js k = x := by
  unfold row
  rw [List.mem_map]
  constructor
  · rintro ⟨k, hk, e⟩; exact ⟨k, idx_mem.mp hk, e⟩
  · rintro ⟨k, hk, e⟩; exact ⟨k, idx_mem.mpr hk, e⟩
theorem row_perm {p g : Int → Int} {A B : List Int} (h : A.Perm B) (n : Nat) : row p g A n = row p g B n := by
  unfold row
  exact List.map_congr_left (fun k _ => ld_perm h k)
theorem row_pos {p g : Int → Int} {js : List Int} {n : Nat} (hp : ∀ i ∈ js, 0 ≤ p i) : ∀ x ∈ row p g js n, 0 ≤ x := by
  intro x hx
  obtain ⟨k, _, e⟩ := row_mem.mp hx
  rw [← e]; exact ld_nonneg hp k
theorem most_set {s : List Int} {k : Nat} (hk : k < s.length) {v a : Int} (hv : s[k] ≤ v) : most a (s.set k v) = if most a s > v then most a s else v := by
  have g1 := most_ge s a
  have g2 := most_ge (s.set k v) a
  refine Int.le_antisymm (most_le ?_ (fun x hx => ?_)) ?_
  · have := g1.1; split <;> omega
  · rcases List.mem_or_eq_of_mem_set hx with h | h
    · have := g1.2 x h; split <;> omega
    · subst h; split <;> omega
  · have hv2 := g2.2 v (List.mem_set hk v)
    have h3 : most a s ≤ most a (s.set k v) := by
      refine most_le g2.1 (fun x hx => ?_)
      obtain ⟨i, hi, e⟩ := List.getElem_of_mem hx
      by_cases h : k = i
      · subst h; omega
      · have : (s.set k v)[i]'(by rw [List.length_set]; exact hi) ∈ s.set k v := List.getElem_mem _
        rw [List.getElem_set, if_neg h, e] at this
        exact g2.2 x this
    split <;> omega
def okP (p : Int → Int) (js : List Int) : Prop := js.length ≤ 8 ∧ ∀ i ∈ js, 1 ≤ p i ∧ p i ≤ 50
theorem ld_bd {p g : Int → Int} {js : List Int} (h : okP p js) (k : Int) : 0 ≤ ld p g js k ∧ ld p g js k ≤ 400 := by
  have h1 := ld_nonneg (f := p) (g := g) (A := js) (fun i hi => by have := h.2 i hi; omega) k
  have h2 := ld_le_all (f := p) (g := g) (js := js) (fun i hi => by have := h.2 i hi; omega) k
  have h3 := sumF_le (f := p) (M := 50) (A := js) (fun i hi => (h.2 i hi).2)
  have := h.1
  omega
theorem okP_idx {l : List Int} (hl : l.length ≤ 8) (hx : ∀ x ∈ l, 1 ≤ x ∧ x ≤ 50) {i : Nat} (hi : i ≤ l.length) : okP (rd l) (idx i) := by
  refine ⟨by rw [idx_length]; omega, fun v hv => ?_⟩
  have := idx_mem.mp hv
  have e : v = ((v.toNat : Nat) : Int) := by omega
  rw [e, rd_at (by omega)]
  exact hx _ (List.getElem_mem _)
/-- the span of what is given -/
def spanF (l given : List Int) (n : Nat) : Int := most 0 (row (rd l) (rd given) (idx l.length) n)
theorem loads_l0 {l given : List Int} {n : Nat} (hl : l.length ≤ 8) (hx : ∀ x ∈ l, 1 ≤ x ∧ x ≤ 50) (he : given.length = l.length) (hg : ∀ x ∈ given, 0 ≤ x ∧ x < (n : Int)) :
    ∀ (d i : Nat), i + d = l.length → Ev (fun k => impl_loads.l0 k given (row (rd l) (rd given) (idx i) n) l (l.length : Int) (i : Int)) (row (rd l) (rd given) (idx l.length) n) := by
  intro d
  induction d with
  | zero =>
    intro i hi
    refine Ev.succ ?_
    have h1 : ¬ (i : Int) < (l.length : Int) := by omega
    have e : i = l.length := by omega
    simp only [impl_loads.l0, h1, if_false]
    rw [e]; exact Ev.now _
  | succ d ih =>
    intro i hi
    refine Ev.succ ?_
    have h1 : (i : Int) < (l.length : Int) := by omega
    have h2 : (0 : Int) ≤ (i : Int) := by omega
    have h3 : (i : Int) < (given.length : Int) := by omega
    have hgi : 0 ≤ rd given (i : Int) ∧ rd given (i : Int) < (n : Int) := by rw [rd_at (by omega)]; exact hg _ (List.getElem_mem _)
    have h4 : rd given (i : Int) < ((row (rd l) (rd given) (idx i) n).length : Int) := by rw [row_length]; exact hgi.2
    have hb := ld_bd (g := rd given) (okP_idx hl hx (i := i) (by omega)) (rd given (i : Int))
    have hli : 1 ≤ rd l (i : Int) ∧ rd l (i : Int) ≤ 50 := by rw [rd_at (by omega)]; exact hx _ (List.getElem_mem _)
    have hw : wrap64 (ld (rd l) (rd given) (idx i) (rd given (i : Int)) + rd l (i : Int)) = ld (rd l) (rd given) (idx i) (rd given (i : Int)) + rd l (i : Int) := wrap64_in (by omega) (by omega)
    have h5 := ih (i + 1) (by omega)
    simp only [impl_loads.l0, h1, h2, h3, h4, hgi.1, if_true, w_next (i := i) (by omega), row_rd hgi.1 hgi.2, hw, row_snoc hgi.1]
    rw [idx_succ] at h5
    exact h5
theorem loads_ok {l given : List Int} {n : Nat} (hn : n ≤ 4) (hl : l.length ≤ 8) (hx : ∀ x ∈ l, 1 ≤ x ∧ x ≤ 50) (he : given.length = l.length) (hg : ∀ x ∈ given, 0 ≤ x ∧ x < (n : Int)) :
    Ev (fun k => impl_loads.f k l (n : Int) given) (row (rd l) (rd given) (idx l.length) n) := by
  unfold impl_loads.f
  have h1 : (0 : Int) ≤ (n : Int) := by omega
  have h2 : n ≤ 35184372088832 := by omega
  simp only [h1, if_true, Int.toNat_natCast, h2]
  rw [row_nil (rd l) (rd given)]
  exact loads_l0 hl hx he hg l.length 0 (by omega)
theorem span_l0 {l given : List Int} {n : Nat} (hl : l.length ≤ 8) (hx : ∀ x ∈ l, 1 ≤ x ∧ x ≤ 50) (he : given.length = l.length) (hg : ∀ x ∈ given, 0 ≤ x ∧ x < (n : Int)) :
    ∀ (d i : Nat), i + d = l.length → Ev (fun k => spec_l14Span.l0 k l (row (rd l) (rd given) (idx i) n) (most 0 (row (rd l) (rd given) (idx i) n)) given (given.length : Int) (i : Int)) (spanF l given n) := by
  intro d
  induction d with
  | zero =>
    intro i hi
    refine Ev.succ ?_
    have h1 : ¬ (i : Int) < (given.length : Int) := by omega
    have e : i = l.length := by omega
    simp only [spec_l14Span.l0, h1, if_false]
    rw [e]; exact Ev.now _
  | succ d ih =>
    intro i hi
    refine Ev.succ ?_
    have h1 : (i : Int) < (given.length : Int) := by omega
    have h2 : (0 : Int) ≤ (i : Int) := by omega
    have h3 : (i : Int) < (l.length : Int) := by omega
    have hgi : 0 ≤ rd given (i : Int) ∧ rd given (i : Int) < (n : Int) := by rw [rd_at (by omega)]; exact hg _ (List.getElem_mem _)
    have h4 : rd given (i : Int) < ((row (rd l) (rd given) (idx i) n).length : Int) := by rw [row_length]; exact hgi.2
    have hb := ld_bd (g := rd given) (okP_idx hl hx (i := i) (by omega)) (rd given (i : Int))
    have hli : 1 ≤ rd l (i : Int) ∧ rd l (i : Int) ≤ 50 := by rw [rd_at (by omega)]; exact hx _ (List.getElem_mem _)
    have hw : wrap64 (ld (rd l) (rd given) (idx i) (rd given (i : Int)) + rd l (i : Int)) = ld (rd l) (rd given) (idx i) (rd given (i : Int)) + rd l (i : Int) := wrap64_in (by omega) (by omega)
    have h5 := ih (i + 1) (by omega)
    have hk : (rd given (i : Int)).toNat < (row (rd l) (rd given) (idx i) n).length := by rw [row_length]; omega
    have h6 := most_set hk (v := ld (rd l) (rd given) (idx i) (rd given (i : Int)) + rd l (i : Int)) (a := 0) (by rw [row_get, Int.toNat_of_nonneg hgi.1]; omega)
    rw [row_snoc hgi.1] at h6
    rw [idx_succ, h6] at h5
    simp only [spec_l14Span.l0, h1, h2, h3, h4, hgi.1, if_true, most_eq, Option.bind_some, w_next (i := i) (by omega), row_rd hgi.1 hgi.2, hw, row_snoc hgi.1]
    exact h5
theorem most_zero (n : Nat) : most 0 (List.replicate n 0) = 0 := by
  rcases most_in (List.replicate n 0) 0 with h | h
  · exact h
  · exact (List.mem_replicate.mp h).2
theorem span_ok {l given : List Int} {n : Nat} (hn : n ≤ 4) (hl : l.length ≤ 8) (hx : ∀ x ∈ l, 1 ≤ x ∧ x ≤ 50) (he : given.length = l.length) (hg : ∀ x ∈ given, 0 ≤ x ∧ x < (n : Int)) :
    Ev (fun k => spec_l14Span.f k l (n : Int) given) (spanF l given n) := by
  unfold spec_l14Span.f
  have h1 : (0 : Int) ≤ (n : Int) := by omega
  have h2 : n ≤ 35184372088832 := by omega
  simp only [h1, if_true, Int.toNat_natCast, h2]
  have h3 := span_l0 hl hx he hg l.length 0 (by omega)
  rw [show idx 0 = [] from rfl, ← row_nil, most_zero] at h3
  exact h3
/-- the answer of SpanOf -/
def spanR (l : List Int) (h : Int) (given : List Int) : Int × Bool :=
  if good l h = true ∧ given.length = l.length ∧ given.all (fun x => inB x 0 (h - 1)) = true then (spanF l given h.toNat, true) else (0, false)
theorem of_hands {l : List Int} {h : Int} (hg : good l h = true) : ∃ n : Nat, h = (n : Int) ∧ 1 ≤ n ∧ n ≤ 4 := by
  obtain ⟨_, _, h1, h2⟩ := good_parts hg
  exact ⟨h.toNat, by omega, by omega, by omega⟩
theorem given_in {given : List Int} {n : Nat} (h : given.all (fun x => inB x 0 ((n : Int) - 1)) = true) : ∀ x ∈ given, 0 ≤ x ∧ x < (n : Int) := by
  intro x hx
  have := List.all_eq_true.mp h x hx
  simp only [inB, Bool.and_eq_true, decide_eq_true_eq] at this
  omega
theorem impl_span (l : List Int) (h : Int) (given : List Int) : Ev (fun k => impl_SpanOf.f k l h given) (spanR l h given) := by
  unfold impl_SpanOf.f spanR
  rw [impl_good]
  simp only [Option.bind_some]
  cases hg : good l h with
  | false =>
    simp only [Bool.false_eq_true, if_false, false_and]
    refine Ev.succ ?_
    simp only [impl_SpanOf.j0, if_true]
    exact Ev.now _
  | true =>
    obtain ⟨n, rfl, hn1, hn4⟩ := of_hands hg
    obtain ⟨hl, hx, _, _⟩ := good_parts hg
    have hw : wrap64 ((n : Int) - 1) = (n : Int) - 1 := wrap64_in (by omega) (by omega)
    by_cases he : given.length = l.length
    · have he' : (given.length : Int) = (l.length : Int) := by omega
      obtain ⟨j, hj, hd⟩ := idxO_any (p := fun x => impl_SpanOf_1.f x [(n : Int)]) (q := fun x => !inB x 0 ((n : Int) - 1)) (fun x => by
        have : rd [(n : Int)] 0 = (n : Int) := rfl
        simp [impl_SpanOf_1.f, in_eq, this, hw]) given 0 (by omega)
      have hc : slices_ContainsFunc_30_impl_SpanOf_1.f given [(n : Int)] = some (given.any (fun x => !inB x 0 ((n : Int) - 1))) := by
        unfold slices_ContainsFunc_30_impl_SpanOf_1.f slices_IndexFunc_61_impl_SpanOf_1.f
        rw [hj]; simp only [Option.bind_some, hd]
      have hn : given.any (fun x => !inB x 0 ((n : Int) - 1)) = !given.all (fun x => inB x 0 ((n : Int) - 1)) := by rw [List.not_all_eq_any_not]
      simp only [if_true, he', hc, Option.bind_some, hn, he, true_and]
      refine Ev.succ ?_
      cases ha : given.all (fun x => inB x 0 ((n : Int) - 1)) with
      | false => simp only [impl_SpanOf.j0, Bool.not_false, if_true, Bool.false_eq_true, if_false]; exact Ev.now _
      | true =>
        simp only [impl_SpanOf.j0, Bool.not_true, Bool.false_eq_true, if_false, if_true]
        refine Ev.bind (loads_ok hn4 hl hx he (given_in ha)) ?_
        refine Ev.bind (max_ok0 (by rw [row_length]; omega) (by rw [row_length]; omega) (row_pos (fun i hi => by have := (okP_idx hl hx (Nat.le_refl _)).2 i hi; omega))) ?_
        exact Ev.now _
    · have he' : ¬ (given.length : Int) = (l.length : Int) := by omega
      simp only [if_true, he', if_false, he, false_and, and_false]
      refine Ev.succ ?_
      simp only [impl_SpanOf.j0, if_true]
      exact Ev.now _
theorem spec_span {l given : List Int} {h : Int} (hl0 : l.length ≤ 1000) (hg0 : given.length ≤ 1000) : Ev (fun k => spec_SpanOf.f k l h given) (spanR l h given) := by
  unfold spec_SpanOf.f spanR
  refine Ev.bind (spec_good hl0 h) ?_
  cases hg : good l h with
  | false => simp only [Bool.false_eq_true, if_false, false_and]; exact Ev.now _
  | true =>
    obtain ⟨n, rfl, hn1, hn4⟩ := of_hands hg
    obtain ⟨hl, hx, _, _⟩ := good_parts hg
    have hw : wrap64 ((n : Int) - 1) = (n : Int) - 1 := wrap64_in (by omega) (by omega)
    by_cases he : given.length = l.length
    · have he' : (given.length : Int) = (l.length : Int) := by omega
      simp only [if_true, he', hw, he, true_and]
      refine Ev.bind (all_ok hg0 0 ((n : Int) - 1)) ?_
      cases ha : given.all (fun x => inB x 0 ((n : Int) - 1)) with
      | false => simp only [Bool.false_eq_true, if_false]; exact Ev.now _
      | true =>
        simp only [if_true]
        exact Ev.bind (span_ok hn4 hl hx he (given_in ha)) (Ev.now _)
    · have he' : ¬ (given.length : Int) = (l.length : Int) := by omega
      simp only [if_true, he', if_false, he, false_and, and_false]
      exact Ev.now _
end Go.Proofs.Ytlipofjoihdbcaa.MFnHands
