/- Where some order has all in time the one by how often they come has, and then there is no more load than one: the statement over lists. -/
import Derived.Test.YtbbjpgdoekfnhaaRatesF
namespace Go.Proofs.Ytbbjpgdoekfnhaa.MFnRates
open Go.RowKit Go.Proofs.YtbbjpgdoekfnhaaW.PrintWords Go.Proofs.YtbbjpgdoekfnhaaW.PrintLast Go.Proofs.YtbbjpgdoekfnhaaW.PrintMore
theorem byRate_mem {l : List S34} {v : Int} : v ∈ byRate l ↔ 0 ≤ v ∧ v < (l.length : Int) := by
  unfold byRate
  rw [List.mem_reverse, isortR_mem]
  simp only [List.not_mem_nil, false_or]
  exact idx_mem
theorem byRate_length (l : List S34) : (byRate l).length = l.length := by
  unfold byRate
  rw [List.length_reverse, isortR_length, idx_length]; simp
def sorted (l : List S34) : List S34 := (byRate l).map (rd_T34 l)
theorem sorted_good {l : List S34} (h : good l = true) : good (sorted l) = true := by
  have hg := good_parts h
  unfold good
  rw [Bool.and_eq_true, decide_eq_true_eq]
  refine ⟨by unfold sorted; rw [List.length_map, byRate_length]; exact hg.1, ?_⟩
  refine List.all_eq_true.mpr fun x hx => ?_
  obtain ⟨v, hv, rfl⟩ := List.mem_map.mp hx
  have := byRate_mem.mp hv
  exact List.all_eq_true.mp hg.2 _ (rdT_mem this.1 this.2)
theorem sorted_in {l : List S34} (h : good l = true) (ha : allFrom [] l = true) : allFrom [] (sorted l) = true := by
  have hg := good_parts h
  have key : (∀ v ∈ byRate l, okT (rd_T34 l v) = true) ∧ allFrom [] ((byRate l).map (rd_T34 l)) = true := by
    unfold byRate
    refine isortR_keeps (key := keyR l) (P := fun o => (∀ v ∈ o, okT (rd_T34 l v) = true) ∧ allFrom [] (o.map (rd_T34 l)) = true) ?_ (idx l.length) [] ⟨fun v hv => ?_, ?_⟩
    · rintro A B x y hxy ⟨h1, h2⟩
      refine ⟨fun v hv => h1 v (by simp only [List.mem_append, List.mem_cons] at hv ⊢; grind), ?_⟩
      rw [List.map_append, List.map_cons, List.map_cons] at h2 ⊢
      have hA : (A.map (rd_T34 l)).all okT = true := List.all_eq_true.mpr fun z hz => by obtain ⟨v, hv, rfl⟩ := List.mem_map.mp hz; exact h1 v (List.mem_append_left _ hv)
      have hB : (B.map (rd_T34 l)).all okT = true := List.all_eq_true.mpr fun z hz => by obtain ⟨v, hv, rfl⟩ := List.mem_map.mp hz; exact h1 v (List.mem_append_right _ (List.mem_cons_of_mem _ (List.mem_cons_of_mem _ hv)))
      exact allFrom_swap (by rfl) hA hB (h1 x (by simp)) (h1 y (by simp)) hxy h2
    · simp only [List.reverse_nil, List.nil_append] at hv
      have := idx_mem.mp hv
      exact List.all_eq_true.mp hg.2 _ (rdT_mem this.1 this.2)
    · simp only [List.reverse_nil, List.nil_append, idx_map]; exact ha
  exact key.2
theorem sorted_raw (l : List S34) : raw (sorted l) (0, 1) = raw l (0, 1) := by
  unfold sorted byRate
  refine isortR_keeps (key := keyR l) (P := fun o => raw (o.map (rd_T34 l)) (0, 1) = raw l (0, 1)) ?_ (idx l.length) [] ?_
  · intro A B x y _ h
    rw [List.map_append, List.map_cons, List.map_cons] at h ⊢
    rw [raw_swap]; exact h
  · simp only [List.reverse_nil, List.nil_append, idx_map]
theorem sorted_load {l : List S34} (h : good l = true) : lfold (0, 1) (sorted l) = lfold (0, 1) l := by
  have hs := good_parts (sorted_good h)
  have hg := good_parts h
  have h0 : low (0, 1) (0, 1) := ⟨by decide, by decide, by decide, by decide⟩
  have h1 := low_fold l _ _ hg.2 h0
  have h2 := low_fold (sorted l) _ _ hs.2 h0
  rw [sorted_raw] at h2
  exact low_one h2 h1
theorem load_one {l : List S34} (h : good l = true) (ha : allFrom [] l = true) : (((lfold (0, 1) l).1 : Nat) : Int) ≤ (((lfold (0, 1) l).2 : Nat) : Int) := by
  have hg := good_parts h
  obtain ⟨h1, h2, h3, h4⟩ := low_fold l (0, 1) (0, 1) hg.2 ⟨by decide, by decide, by decide, by decide⟩
  have h5 := load_le hg.2 ha
  have h6 := Int.mul_le_mul_of_nonneg_left h5 (show (0 : Int) ≤ ((lfold (0, 1) l).2 : Nat) by omega)
  rw [← h4] at h6
  exact Int.le_of_mul_le_mul_right h6 h3
theorem draw_j3 {c : List Int} (hc : bytes8 c) : Ev (fun k => laws_FnRates.j3 k c) true := by
  obtain ⟨l, hl, hn⟩ := draw_again hc
  have hd : Ev (fun k => spec_DrawByRate.f k c) l := Ev.bind hl (Ev.now _)
  refine Ev.succ ?_
  simp only [laws_FnRates.j3]
  refine Ev.bind hd (Ev.bind (impl_by l) (Ev.bind (spec_by hn) ?_))
  have e : ((rates l).2 == (rates l).2) = true := by simp
  simp only [e, if_true]
  refine Ev.bind (same_self ?_) (Ev.now _)
  unfold rates
  split
  · rw [byRate_length]; exact hn
  · simp
theorem law_l0 {c : List Int} (hc : bytes8 c) {l : List S34} (hg : good l = true) : ∀ (rest done : List Int), done ++ rest = byRate l →
    Ev (fun k => laws_FnRates.l0 k c l (allFrom [] l) ((lfold (0, 1) l).1 : Int) ((lfold (0, 1) l).2 : Int) (done.map (rd_T34 l)) (byRate l) ((byRate l).length : Int) (done.length : Int)) true := by
  have hlen := byRate_length l
  have hl5 := (good_parts hg).1
  intro rest
  induction rest with
  | nil =>
    intro done hd
    simp only [List.append_nil] at hd
    subst hd
    refine Ev.succ ?_
    have h1 : ¬ (((byRate l).length : Nat) : Int) < (((byRate l).length : Nat) : Int) := by omega
    have hs := sorted_good hg
    have hsl : (sorted l).length ≤ 1000000 := by unfold sorted; rw [List.length_map]; omega
    have ea : allIn (sorted l) = (allFrom [] (sorted l), true) := by unfold allIn; rw [if_pos hs]
    have el : load (sorted l) = (((lfold (0, 1) l).1 : Int), ((lfold (0, 1) l).2 : Int), true) := by unfold load; rw [if_pos hs, sorted_load hg]
    simp only [laws_FnRates.l0, h1, if_false]
    refine Ev.bind (impl_all (sorted l)) (Ev.bind (load_both hsl).1 ?_)
    rw [ea, el]
    cases ha : allFrom [] l with
    | true =>
      have h2 := sorted_in hg ha
      have h3 : ¬ (((lfold (0, 1) l).1 : Nat) : Int) > (((lfold (0, 1) l).2 : Nat) : Int) := by have := load_one hg ha; omega
      simp only [if_true, h2, h3, if_false]
      exact draw_j3 hc
    | false =>
      simp only [if_true, Bool.false_eq_true, if_false]
      exact draw_j3 hc
  | cons v rest ih =>
    intro done hd
    refine Ev.succ ?_
    have hv : v ∈ byRate l := by rw [← hd]; simp
    have hv' := byRate_mem.mp hv
    have h0 : (byRate l).length = done.length + (rest.length + 1) := by rw [← hd]; simp
    have h1 : ((done.length : Nat) : Int) < (((byRate l).length : Nat) : Int) := by omega
    have h2 : (0 : Int) ≤ ((done.length : Nat) : Int) := by omega
    have hr : rd (byRate l) ((done.length : Nat) : Int) = v := by rw [← hd]; exact rd_mid _ _ _
    have h3 : (done.map (rd_T34 l)).length < 8796093022208 := by rw [List.length_map]; omega
    have hw : wrap64 (((done.length : Nat) : Int) + 1) = ((done.length + 1 : Nat) : Int) := by rw [wrap64_in (by omega) (by omega)]; omega
    simp only [laws_FnRates.l0, h1, h2, if_true, hr, hv'.1, hv'.2, h3, hw]
    have := ih (done ++ [v]) (by simpa using hd)
    simpa using this
theorem FnRates : laws_FnRates.Pure := by
  intro c d hc0 hc1 hc2 hd0 hd1 hd2
  have hc := bytes8_of hc2
  have hd := bytes8_of hd2
  refine Ev.rounds (g := fun k => laws_FnRates.f k c d) ?_
  unfold laws_FnRates.f
  by_cases hb : (wrap64 ((c.length : Int) + (d.length : Int))) > 1048576
  · simp only [hb, if_true]; exact Ev.now _
  · simp only [hb, if_false]
    obtain ⟨l, hl, hn⟩ := draw_again hc
    have hdr : Ev (fun k => spec_DrawAllInTime.f k c) l := Ev.bind hl (Ev.now _)
    refine Ev.bind hdr (Ev.bind (impl_all l) (Ev.bind (spec_all hn) (Ev.bind (impl_by l) (Ev.bind (spec_by hn) (Ev.bind (load_both hn).1 (Ev.bind (load_both hn).2 ?_))))))
    have n1 : ((allIn l).2 != (allIn l).2) = false := by simp
    have n2 : ((allIn l).1 != (allIn l).1) = false := by simp
    have n3 : ((rates l).2 != (rates l).2) = false := by simp
    have n4 : ((load l).2.2 != (load l).2.2) = false := by simp
    have n5 : ((load l).2.1 != (load l).2.1) = false := by simp
    simp only [n1, n2, n3, n4, n5, Bool.false_eq_true, if_false]
    refine Ev.bind (a := true) (same_self ?_) ?_
    · unfold rates
      split
      · rw [byRate_length]; exact hn
      · simp
    · simp only [if_true]
      refine Ev.succ ?_
      simp only [laws_FnRates.j0, Bool.false_eq_true, if_false]
      cases hg : good l with
      | false =>
        have e : allIn l = (false, false) := by unfold allIn; rw [hg]; rfl
        simp only [e, Bool.false_eq_true, if_false]
        refine Ev.succ ?_
        simp only [laws_FnRates.j1, Bool.false_eq_true, if_false]
        exact draw_j3 hd
      | true =>
        have e : allIn l = (allFrom [] l, true) := by unfold allIn; rw [if_pos hg]
        have e2 : rates l = (byRate l, true) := by unfold rates; rw [if_pos hg]
        have e3 : load l = (((lfold (0, 1) l).1 : Int), ((lfold (0, 1) l).2 : Int), true) := by unfold load; rw [if_pos hg]
        simp only [e, e2, e3, if_true]
        refine Ev.succ ?_
        simp only [laws_FnRates.j1, if_true]
        have := law_l0 hd hg (byRate l) [] (by simp)
        simpa using this
end Go.Proofs.Ytbbjpgdoekfnhaa.MFnRates
