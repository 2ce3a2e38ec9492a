/- No order has more in time than Moore's: the statement over lists. -/
import Derived.Test.YtlipofjoihdbcaaMooreI
import Derived.Test.YtlipofjoihdbcaaMFnMoorex8
namespace Go.Proofs.Ytlipofjoihdbcaa.MFnMoore
open Go.RowKit Go.Proofs.YtlipofjoihdbcaaW.PrintWords Go.Proofs.YtlipofjoihdbcaaW.PrintLast Go.Proofs.YtlipofjoihdbcaaW.PrintMore
theorem imoore_l1 {l : List S69} {s gone order : List Int} {n io t : Int} {R : List Int × Int} (hs : ∀ v ∈ s, 0 ≤ v ∧ v < (l.length : Int)) (hl : s.length ≤ 100) (hg : l.all okT = true) (hgl : gone.length ≤ 100) (ht : 0 ≤ t ∧ t ≤ 10000)
    (hK : Ev (fun k => impl_moore.l0 k l (s.eraseIdx (hiI (need l) s).toNat) (gone ++ [rd s (hiI (need l) s)]) (t - need l (rd s (hiI (need l) s))) order n (wrap64 (io + 1))) R) :
    ∀ (d i : Nat) (b : Int), i + d = s.length → (0 ≤ b ∧ b < (s.length : Int)) → hiStep (need l) s b d = hiI (need l) s → Ev (fun k => impl_moore.l1 k l s gone t b order n io s (s.length : Int) (i : Int)) R := by
  intro d
  induction d with
  | zero =>
    intro i b hi hb hst
    refine Ev.succ ?_
    have h1 : ¬ (i : Int) < (s.length : Int) := by omega
    have hb2 : b = hiI (need l) s := hst
    have hv := hs (rd s b) (rd_memA hb.1 hb.2)
    have hn := need_bd hg hv.1 hv.2
    have hwb : wrap64 (b + 1) = b + 1 := wrap64_in (by omega) (by omega)
    have e4 : gone.length < 17592186044416 := by omega
    have hw : wrap64 (t - (rd_T69 l (rd s b)).f0) = t - need l (rd s b) := wrap64_in (by unfold need at hn; omega) (by unfold need at hn; omega)
    simp only [impl_moore.l1, h1, if_false, hb.1, hb.2, hv.1, hv.2, if_true, e4, hw, hwb, slices_Delete_int_int.f, Option.bind_some]
    rw [hb2]; exact hK
  | succ d ih =>
    intro i b hi hb hst
    refine Ev.succ ?_
    have h1 : (i : Int) < (s.length : Int) := by omega
    have h2 : (0 : Int) ≤ (i : Int) := by omega
    have hv := hs (rd s b) (rd_memA hb.1 hb.2)
    have hv2 := hs (rd s (i : Int)) (rd_memA h2 h1)
    have hw : wrap64 ((i : Int) + 1) = ((i + 1 : Nat) : Int) := by rw [wrap64_in (by omega) (by omega)]; omega
    rw [hiStep_take (by omega) hi] at hst
    simp only [impl_moore.l1, h1, h2, if_true, hb.1, hb.2, hv.1, hv.2, hv2.1, hv2.2, hw]
    by_cases hc : (rd_T69 l (rd s (i : Int))).f0 > (rd_T69 l (rd s b)).f0
    · have hc' : need l (rd s (i : Int)) > need l (rd s b) := hc
      simp only [hc', if_true] at hst
      simp only [hc, if_true]
      exact ih (i + 1) (i : Int) (by omega) (by omega) hst
    · have hc' : ¬ need l (rd s (i : Int)) > need l (rd s b) := hc
      simp only [hc', if_false] at hst
      simp only [hc, if_false]
      exact ih (i + 1) b (by omega) hb hst
theorem imoore_l0 {l : List S69} (hg : good l = true) : ∀ (r D out gone : List Int), isOrd (D ++ r) l.length → (out ++ gone).Perm D →
    Ev (fun k => impl_moore.l0 k l out gone (sumF (need l) out) (D ++ r) ((D ++ r).length : Int) (D.length : Int)) ((mooreG (need l) (keyE l) r out gone).1 ++ (mooreG (need l) (keyE l) r out gone).2, (((mooreG (need l) (keyE l) r out gone).1.length : Nat) : Int)) := by
  have hgp := good_parts hg
  intro r
  induction r with
  | nil =>
    intro D out gone ho hp
    obtain ⟨m1, m2, m3, m4⟩ := mem_rng ho hp
    refine Ev.succ ?_
    rw [List.append_nil]
    have h5 : out.length + gone.length < 17592186044416 := by rw [List.length_nil] at m4; omega
    have h1 : ¬ ((D.length : Nat) : Int) < (D.length : Int) := by omega
    simp only [impl_moore.l0, h1, if_false, h5, if_true, mooreG]; exact Ev.now _
  | cons x r ih =>
    intro D out gone ho hp
    obtain ⟨m1, m2, m3, m4⟩ := mem_rng ho hp
    refine Ev.succ ?_
    rw [List.length_cons] at m4
    have hx := m1 x (by simp)
    have hlen : (D ++ x :: r).length = D.length + r.length + 1 := by simp; omega
    have h1 : ((D.length : Nat) : Int) < ((D ++ x :: r).length : Int) := by omega
    have h2 : (0 : Int) ≤ ((D.length : Nat) : Int) := by omega
    have hrd : rd (D ++ x :: r) ((D.length : Nat) : Int) = x := rd_mid D r x
    have h3 : out.length < 17592186044416 := by omega
    have hA : ∀ v ∈ out ++ [x], 0 ≤ v ∧ v < (l.length : Int) := fun v hv => by
      rcases List.mem_append.mp hv with hv | hv
      · exact m2 v hv
      · rw [List.mem_singleton.mp hv]; exact hx
    have hb := sum_bd hgp.2 m2
    have hb2 := sum_bd hgp.2 hA
    rw [List.length_append, List.length_singleton] at hb2
    have hn := need_bd hgp.2 hx.1 hx.2
    have es : sumF (need l) out + (rd_T69 l x).f0 = sumF (need l) (out ++ [x]) := by rw [sumF_snoc]; rfl
    have hw : wrap64 (sumF (need l) (out ++ [x])) = sumF (need l) (out ++ [x]) := wrap64_in (by omega) (by omega)
    have hwn : wrap64 (((D.length : Nat) : Int) + 1) = (((D ++ [x]).length : Nat) : Int) := by rw [wrap64_in (by omega) (by omega)]; simp
    have ek : (rd_T69 l x).f1 = keyE l x := rfl
    simp only [impl_moore.l0, h1, h2, if_true, hrd, h3, Option.bind_some, hx.1, hx.2, es, hw, ek, mooreG]
    have ea : D ++ x :: r = (D ++ [x]) ++ r := by simp
    rw [ea] at ho ⊢
    by_cases hc : sumF (need l) (out ++ [x]) ≤ keyE l x
    · simp only [hc, if_true, hwn]
      exact ih (D ++ [x]) (out ++ [x]) gone ho (perm_keep hp)
    · simp only [hc, if_false]
      have hpos : 0 < (out ++ [x]).length := by simp
      have hi := (hiI_hi (p := need l) hpos).1
      obtain ⟨e1, e2⟩ := split_at hi.1 hi.2
      have hsum : sumF (need l) (out ++ [x]) - need l (rd (out ++ [x]) (hiI (need l) (out ++ [x]))) = sumF (need l) ((out ++ [x]).eraseIdx (hiI (need l) (out ++ [x])).toNat) := by
        rw [e2]
        have h5 : sumF (need l) (out ++ [x]) = sumF (need l) (List.take (hiI (need l) (out ++ [x])).toNat (out ++ [x])) + (need l (rd (out ++ [x]) (hiI (need l) (out ++ [x]))) + sumF (need l) (List.drop ((hiI (need l) (out ++ [x])).toNat + 1) (out ++ [x]))) :=
          (congrArg (sumF (need l)) e1).trans (by rw [sumF_append, sumF_cons])
        rw [sumF_append (need l) (List.take _ _)]; omega
      have h4 := ih (D ++ [x]) ((out ++ [x]).eraseIdx (hiI (need l) (out ++ [x])).toNat) (gone ++ [rd (out ++ [x]) (hiI (need l) (out ++ [x]))]) ho (by rw [e2]; exact perm_drop hp e1)
      rw [← hwn, ← hsum] at h4
      exact imoore_l1 hA (by simp; omega) hgp.2 (by omega) (by omega) h4 (out ++ [x]).length 0 0 (by omega) (by omega) rfl
theorem impl_moore_ev {l : List S69} (hg : good l = true) : Ev (fun k => impl_moore.f k l) ((mooreR l).1 ++ (mooreR l).2, (((mooreR l).1.length : Nat) : Int)) := by
  unfold impl_moore.f
  refine Ev.bind (impl_byEnd_ev hg) ?_
  exact imoore_l0 hg (byEnd l) [] [] [] (byEnd_ord l) (by simp)
theorem impl_mo (l : List S69) : Ev (fun k => impl_MooreOrder.f k l) (mooreO l) := by
  unfold impl_MooreOrder.f mooreO
  rw [impl_good]
  simp only [Option.bind_some]
  cases hg : good l with
  | false => simp only [Bool.false_eq_true, if_false]; exact Ev.now _
  | true => simp only [if_true]; exact Ev.bind (impl_moore_ev hg) (Ev.now _)
theorem impl_bm (l : List S69) : Ev (fun k => impl_BestMany.f k l) (bmOf l) := by
  unfold impl_BestMany.f bmOf
  rw [impl_good]
  simp only [Option.bind_some]
  cases hg : good l with
  | false => simp only [Bool.false_eq_true, if_false]; exact Ev.now _
  | true => simp only [if_true]; exact Ev.bind (impl_moore_ev hg) (Ev.now _)
theorem same_l0 (a : List Int) (ha : a.length ≤ 1000000) : ∀ (d i : Nat), i + d = a.length → Ev (fun k => laws_sameInts.l0 k a a (a.length : Int) (i : Int)) true := by
  intro d
  induction d with
  | zero =>
    intro i hi
    refine Ev.succ ?_
    have h1 : ¬ (i : Int) < (a.length : Int) := by omega
    simp only [laws_sameInts.l0, h1, if_false]; exact Ev.now _
  | succ d ih =>
    intro i hi
    refine Ev.succ ?_
    have h1 : (i : Int) < (a.length : Int) := by omega
    have h2 : (0 : Int) ≤ (i : Int) := by omega
    have hw : wrap64 ((i : Int) + 1) = ((i + 1 : Nat) : Int) := by rw [wrap64_in (by omega) (by omega)]; omega
    simp only [laws_sameInts.l0, h1, h2, if_true, hw]
    exact ih (i + 1) (by omega)
theorem same_self {a : List Int} (ha : a.length ≤ 1000000) : Ev (fun k => laws_sameInts.f k a a) true := by
  unfold laws_sameInts.f
  simp only [if_true]
  exact same_l0 a ha a.length 0 (by omega)
theorem law_j0 {x1 : List Int} {l : List S69} {o : List Int} (hl : l.length ≤ 1000000) :
    Ev (fun k => laws_FnMoore.j0 k x1 l (lmOf l o).1 (lmOf l o).2 (mooreO l).1 (mooreO l).2.1 (mooreO l).2.2 (bmOf l).1 (bmOf l).2 false) true := by
  refine Ev.succ ?_
  have q3 : ((x1.length : Nat) : Int) ≥ 0 := by omega
  cases hg : good l with
  | false =>
    have e : (mooreO l).2.2 = false := by unfold mooreO; rw [hg]; rfl
    simp only [laws_FnMoore.j0, e, Bool.false_eq_true, if_false, q3, decide_true]
    exact Ev.now _
  | true =>
    have hgp := good_parts hg
    have hm := moore_facts hg
    have hml := moore_len hg
    have e1 : mooreO l = ((mooreR l).1 ++ (mooreR l).2, (((mooreR l).1.length : Nat) : Int), true) := by unfold mooreO; rw [hg]; rfl
    have e2 : bmOf l = ((((mooreR l).1.length : Nat) : Int), true) := by unfold bmOf; rw [hg]; rfl
    have e3 : lmOf l ((mooreR l).1 ++ (mooreR l).2) = (lateN l ((mooreR l).1 ++ (mooreR l).2), true) := by
      unfold lmOf; rw [hg]; simp only [Bool.true_and, decide_eq_true hm.2, if_true]
    have h1 := impl_lmOf (l := l) hl (o := (mooreR l).1 ++ (mooreR l).2) (by rw [List.length_append]; omega)
    rw [e3, late_moore hg] at h1
    have hw : wrap64 ((l.length : Int) - (((mooreR l).1.length : Nat) : Int)) = (l.length : Int) - ((mooreR l).1.length : Nat) := wrap64_in (by omega) (by omega)
    simp only [laws_FnMoore.j0, e1, e2, Bool.false_eq_true, if_false, if_true]
    refine Ev.bind h1 ?_
    simp only [if_true, hw]
    by_cases hi : isOrd o l.length
    · have e4 : lmOf l o = (lateN l o, true) := by unfold lmOf; rw [hg]; simp only [Bool.true_and, decide_eq_true hi, if_true]
      have h2 := late_ge hg hi
      have h3 : ¬ lateN l o < (l.length : Int) - ((mooreR l).1.length : Nat) := by omega
      simp only [e4, if_true, h3, if_false, q3, decide_true]
      exact Ev.now _
    · have e4 : lmOf l o = (0, false) := by unfold lmOf; rw [hg]; simp [hi]
      simp only [e4, Bool.false_eq_true, if_false, q3, decide_true]
      exact Ev.now _
theorem FnMoore : laws_FnMoore.Pure := by
  intro c d hc0 hc1 hc2 hd0 hd1 hd2
  have hc := bytes8_of hc2
  refine Ev.rounds (g := fun k => laws_FnMoore.f k c d) ?_
  unfold laws_FnMoore.f
  by_cases hb : (wrap64 ((c.length : Int) + (d.length : Int))) > 1048576
  · simp only [hb, if_true]; exact Ev.now _
  simp only [hb, if_false]
  obtain ⟨r, hr, hl, ho⟩ := draw_order hc
  have hd : Ev (fun k => spec_DrawLateMany.f k c) (r.1, r.2) := Ev.bind hr (Ev.now _)
  refine Ev.bind hd (Ev.bind (impl_lmOf hl ho) (Ev.bind (spec_lmOf hl) (Ev.bind (impl_mo r.1) (Ev.bind (spec_mo hl) (Ev.bind (impl_bm r.1) (Ev.bind (spec_bm hl) ?_))))))
  have hs : (mooreO r.1).1.length ≤ 1000000 := by
    unfold mooreO; split
    · rename_i hg
      have := moore_len hg
      have := (good_parts hg).1
      show ((mooreR r.1).1 ++ (mooreR r.1).2).length ≤ _
      rw [List.length_append]; omega
    · simp
  simp only [bne_self_eq_false, Bool.false_eq_true, if_false, if_true]
  refine Ev.bind (same_self hs) ?_
  simp only [if_true, impl_good, Option.bind_some]
  have e : (good r.1 != (mooreO r.1).2.2) = false := by unfold mooreO; cases good r.1 <;> rfl
  rw [e]
  exact law_j0 hl
end Go.Proofs.Ytlipofjoihdbcaa.MFnMoore
