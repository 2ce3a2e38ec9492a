/- Moore's order and the search over all subsets, as the other has them. -/
import Derived.Test.YtlipofjoihdbcaaMooreH
namespace Go.Proofs.Ytlipofjoihdbcaa.MFnMoore
open Go.RowKit Go.Proofs.YtlipofjoihdbcaaW.PrintWords Go.Proofs.YtlipofjoihdbcaaW.PrintLast Go.Proofs.YtlipofjoihdbcaaW.PrintMore
theorem need_bd {l : List S69} (hg : l.all okT = true) {v : Int} (h0 : 0 ≤ v) (h1 : v < (l.length : Int)) : 1 ≤ need l v ∧ need l v ≤ 20 := by
  have := okT_iff.mp (List.all_eq_true.mp hg _ (rdT_mem h0 h1)); unfold need; omega
theorem sum_bd {l : List S69} (hg : l.all okT = true) {A : List Int} (hA : ∀ v ∈ A, 0 ≤ v ∧ v < (l.length : Int)) : 0 ≤ sumF (need l) A ∧ sumF (need l) A ≤ 20 * A.length :=
  ⟨sumF_nonneg (fun a ha => by have := need_bd hg (hA a ha).1 (hA a ha).2; omega), sumF_le (fun a ha => (need_bd hg (hA a ha).1 (hA a ha).2).2)⟩
theorem hiStep_take {p : Int → Int} {s : List Int} {i : Nat} (hi : i < s.length) {b : Int} {d : Nat} (hd : i + (d + 1) = s.length) : hiStep p s b (d + 1) = hiStep p s (if p (rd s (i : Int)) > p (rd s b) then (i : Int) else b) d := by
  have e : (s.length : Int) - ((d : Int) + 1) = (i : Int) := by omega
  simp only [hiStep, e]
theorem smoore_l1 {l : List S69} {s gone order : List Int} {n io t : Int} {R : List Int × List Int} (hs : ∀ v ∈ s, 0 ≤ v ∧ v < (l.length : Int)) (hl : s.length ≤ 100) (hg : l.all okT = true) (hgl : gone.length ≤ 100) (ht : 0 ≤ t ∧ t ≤ 10000)
    (hK : Ev (fun k => spec_l5Moore.l0 k l (s.eraseIdx (hiI (need l) s).toNat) (gone ++ [rd s (hiI (need l) s)]) (t - need l (rd s (hiI (need l) s))) order n (wrap64 (io + 1))) R) :
    ∀ (d i : Nat) (b : Int), i + d = s.length → (0 ≤ b ∧ b < (s.length : Int)) → hiStep (need l) s b d = hiI (need l) s → Ev (fun k => spec_l5Moore.l1 k l s gone t b order n io s (s.length : Int) (i : Int)) R := by
  intro d
  induction d with
  | zero =>
    intro i b hi hb hst
    refine Ev.succ ?_
    have h1 : ¬ (i : Int) < (s.length : Int) := by omega
    have hb2 : b = hiI (need l) s := hst
    have hv := hs (rd s b) (rd_memA hb.1 hb.2)
    have hn := need_bd hg hv.1 hv.2
    have e1 : ([] : List Int).length + (s.take b.toNat).length < 17592186044416 := by simp; omega
    have hwb : wrap64 (b + 1) = b + 1 := wrap64_in (by omega) (by omega)
    have h2 : (0 : Int) ≤ b + 1 := by omega
    have h3 : b + 1 ≤ (s.length : Int) := by omega
    have h4 : b ≤ (s.length : Int) := by omega
    have e2 : (b + 1).toNat = b.toNat + 1 := by omega
    have e3 : (s.take b.toNat).length + (s.drop (b.toNat + 1)).length < 17592186044416 := by simp; omega
    have e4 : gone.length < 17592186044416 := by omega
    have hw : wrap64 (t - (rd_T69 l (rd s b)).f0) = t - need l (rd s b) := wrap64_in (by unfold need at hn; omega) (by unfold need at hn; omega)
    have e5 := (split_at hb.1 hb.2).2
    simp only [spec_l5Moore.l1, h1, if_false, hb.1, hb.2, hv.1, hv.2, if_true, Option.bind_some, h4, e1, hwb, h2, h3, e2, List.nil_append, e3, e4, hw]
    rw [← e5, hb2]; exact hK
  | succ d ih =>
    intro i b hi hb hst
    refine Ev.succ ?_
    have h1 : (i : Int) < (s.length : Int) := by omega
    have h2 : (0 : Int) ≤ (i : Int) := by omega
    have hv := hs (rd s b) (rd_memA hb.1 hb.2)
    have hv2 := hs (rd s (i : Int)) (rd_memA h2 h1)
    have hw : wrap64 ((i : Int) + 1) = ((i + 1 : Nat) : Int) := by rw [wrap64_in (by omega) (by omega)]; omega
    rw [hiStep_take (by omega) hi] at hst
    simp only [spec_l5Moore.l1, h1, h2, if_true, hb.1, hb.2, hv.1, hv.2, hv2.1, hv2.2, hw]
    by_cases hc : (rd_T69 l (rd s (i : Int))).f0 > (rd_T69 l (rd s b)).f0
    · have hc' : need l (rd s (i : Int)) > need l (rd s b) := hc
      simp only [hc', if_true] at hst
      simp only [hc, if_true]
      exact ih (i + 1) (i : Int) (by omega) (by omega) hst
    · have hc' : ¬ need l (rd s (i : Int)) > need l (rd s b) := hc
      simp only [hc', if_false] at hst
      simp only [hc, if_false]
      exact ih (i + 1) b (by omega) hb hst
theorem mem_rng {l : List S69} {D r out gone : List Int} (ho : isOrd (D ++ r) l.length) (hp : (out ++ gone).Perm D) : (∀ v ∈ D ++ r, 0 ≤ v ∧ v < (l.length : Int)) ∧ (∀ v ∈ out, 0 ≤ v ∧ v < (l.length : Int)) ∧ out.length + gone.length = D.length ∧ D.length + r.length = l.length := by
  have h1 : ∀ v ∈ D ++ r, 0 ≤ v ∧ v < (l.length : Int) := fun v hv => (isOrd_mem ho).mp hv
  refine ⟨h1, fun v hv => h1 v (List.mem_append_left _ ((hp.mem_iff).mp (List.mem_append_left _ hv))), ?_, ?_⟩
  · have := hp.length_eq; simpa using this
  · have := isOrd_length ho; simpa using this
theorem smoore_l0 {l : List S69} (hg : good l = true) : ∀ (r D out gone : List Int), isOrd (D ++ r) l.length → (out ++ gone).Perm D →
    Ev (fun k => spec_l5Moore.l0 k l out gone (sumF (need l) out) (D ++ r) ((D ++ r).length : Int) (D.length : Int)) (mooreG (need l) (keyE l) r out gone) := by
  have hgp := good_parts hg
  intro r
  induction r with
  | nil =>
    intro D out gone _ _
    refine Ev.succ ?_
    rw [List.append_nil]
    have h1 : ¬ ((D.length : Nat) : Int) < (D.length : Int) := by omega
    simp only [spec_l5Moore.l0, h1, if_false, mooreG]; exact Ev.now _
  | cons x r ih =>
    intro D out gone ho hp
    obtain ⟨m1, m2, m3, m4⟩ := mem_rng ho hp
    refine Ev.succ ?_
    rw [List.length_cons] at m4
    have hx := m1 x (by simp)
    have hlen : (D ++ x :: r).length = D.length + r.length + 1 := by simp; omega
    have h1 : ((D.length : Nat) : Int) < ((D ++ x :: r).length : Int) := by omega
    have h2 : (0 : Int) ≤ ((D.length : Nat) : Int) := by omega
    have hrd : rd (D ++ x :: r) ((D.length : Nat) : Int) = x := rd_mid D r x
    have h3 : out.length < 17592186044416 := by omega
    have hA : ∀ v ∈ out ++ [x], 0 ≤ v ∧ v < (l.length : Int) := fun v hv => by
      rcases List.mem_append.mp hv with hv | hv
      · exact m2 v hv
      · rw [List.mem_singleton.mp hv]; exact hx
    have hb := sum_bd hgp.2 m2
    have hb2 := sum_bd hgp.2 hA
    rw [List.length_append, List.length_singleton] at hb2
    have hn := need_bd hgp.2 hx.1 hx.2
    have es : sumF (need l) out + (rd_T69 l x).f0 = sumF (need l) (out ++ [x]) := by rw [sumF_snoc]; rfl
    have hw : wrap64 (sumF (need l) (out ++ [x])) = sumF (need l) (out ++ [x]) := wrap64_in (by omega) (by omega)
    have hwn : wrap64 (((D.length : Nat) : Int) + 1) = (((D ++ [x]).length : Nat) : Int) := by rw [wrap64_in (by omega) (by omega)]; simp
    have ek : (rd_T69 l x).f1 = keyE l x := rfl
    simp only [spec_l5Moore.l0, h1, h2, if_true, hrd, h3, Option.bind_some, hx.1, hx.2, es, hw, ek, mooreG]
    have ea : D ++ x :: r = (D ++ [x]) ++ r := by simp
    rw [ea] at ho ⊢
    by_cases hc : sumF (need l) (out ++ [x]) ≤ keyE l x
    · simp only [hc, if_true, hwn]
      exact ih (D ++ [x]) (out ++ [x]) gone ho (perm_keep hp)
    · simp only [hc, if_false]
      have hpos : 0 < (out ++ [x]).length := by simp
      have hi := (hiI_hi (p := need l) hpos).1
      obtain ⟨e1, e2⟩ := split_at hi.1 hi.2
      have hsum : sumF (need l) (out ++ [x]) - need l (rd (out ++ [x]) (hiI (need l) (out ++ [x]))) = sumF (need l) ((out ++ [x]).eraseIdx (hiI (need l) (out ++ [x])).toNat) := by
        rw [e2]
        have h5 : sumF (need l) (out ++ [x]) = sumF (need l) (List.take (hiI (need l) (out ++ [x])).toNat (out ++ [x])) + (need l (rd (out ++ [x]) (hiI (need l) (out ++ [x]))) + sumF (need l) (List.drop ((hiI (need l) (out ++ [x])).toNat + 1) (out ++ [x]))) :=
          (congrArg (sumF (need l)) e1).trans (by rw [sumF_append, sumF_cons])
        rw [sumF_append (need l) (List.take _ _)]; omega
      have h4 := ih (D ++ [x]) ((out ++ [x]).eraseIdx (hiI (need l) (out ++ [x])).toNat) (gone ++ [rd (out ++ [x]) (hiI (need l) (out ++ [x]))]) ho (by rw [e2]; exact perm_drop hp e1)
      rw [← hwn, ← hsum] at h4
      exact smoore_l1 hA (by simp; omega) hgp.2 (by omega) (by omega) h4 (out ++ [x]).length 0 0 (by omega) (by omega) rfl
theorem spec_moore_ev {l : List S69} (hg : good l = true) : Ev (fun k => spec_l5Moore.f k l) (mooreR l) := by
  have hgp := good_parts hg
  unfold spec_l5Moore.f
  have hby : Ev (fun k => spec_l5ByEnd.f k l) (byEnd l) := spec_by_l0 hgp.1 l.length 0 (by omega)
  refine Ev.bind hby ?_
  exact smoore_l0 hg (byEnd l) [] [] [] (byEnd_ord l) (by simp)
def mooreO (l : List S69) : List Int × Int × Bool := if good l then ((mooreR l).1 ++ (mooreR l).2, ((mooreR l).1.length : Nat), true) else ([], 0, false)
theorem moore_len {l : List S69} (hg : good l = true) : (mooreR l).1.length + (mooreR l).2.length = l.length := by
  have := isOrd_length (moore_facts hg).2
  simpa using this
theorem spec_mo {l : List S69} (hl : l.length ≤ 1000000) : Ev (fun k => spec_MooreOrder.f k l) (mooreO l) := by
  unfold spec_MooreOrder.f mooreO
  refine Ev.bind (spec_good hl) ?_
  cases hg : good l with
  | false => simp only [Bool.false_eq_true, if_false]; exact Ev.now _
  | true =>
    have hgp := good_parts hg
    have hm := moore_len hg
    simp only [if_true]
    refine Ev.bind (spec_moore_ev hg) ?_
    have h1 : ([] : List Int).length + (mooreR l).1.length < 17592186044416 := by simp; omega
    have h2 : (mooreR l).1.length + (mooreR l).2.length < 17592186044416 := by omega
    simp only [Option.bind_some, h1, if_true, List.nil_append, h2]
    exact Ev.now _
/-! #### all subsets -/
def bitI (m : Nat) (v : Int) : Bool := m / 2 ^ v.toNat % 2 == 1
theorem mask_of (f : Nat → Bool) : ∀ n : Nat, ∃ m, m < 2 ^ n ∧ ∀ i, i < n → (m / 2 ^ i % 2 == 1) = f i := by
  intro n
  induction n with
  | zero => exact ⟨0, by simp, fun i hi => by omega⟩
  | succ n ih =>
    obtain ⟨m, h1, h2⟩ := ih
    have hp : 2 ^ (n + 1) = 2 ^ n + 2 ^ n := by rw [Nat.pow_succ]; omega
    cases hf : f n with
    | false =>
      refine ⟨m, by omega, fun i hi => ?_⟩
      rcases Nat.lt_or_eq_of_le (Nat.le_of_lt_succ hi) with h | h
      · exact h2 i h
      · subst h; rw [Nat.div_eq_of_lt h1, hf]; rfl
    | true =>
      refine ⟨m + 2 ^ n, by omega, fun i hi => ?_⟩
      rcases Nat.lt_or_eq_of_le (Nat.le_of_lt_succ hi) with h | h
      · rw [← h2 i h]
        have e : 2 ^ n = 2 ^ i * (2 * 2 ^ (n - i - 1)) := by
          rw [← Nat.mul_assoc, ← Nat.pow_succ, ← Nat.pow_add]; congr 1; omega
        rw [e, Nat.add_mul_div_left _ _ (Nat.pow_pos (by omega)), Nat.add_mul_mod_self_left]
      · subst h
        rw [Nat.add_div_right _ (Nat.pow_pos (by omega)), Nat.div_eq_of_lt h1, hf]; rfl
def subI (m : Nat) (o : List Int) : List Int := o.filter (bitI m)
theorem u64_in {x : Int} (h0 : 0 ≤ x) (h1 : x < 1000000) : IntKind.u64.wrap x = x := by
  have e : IntKind.u64.wrap x = x % 18446744073709551616 := by simp [IntKind.wrap, IntKind.bits, IntKind.signed]
  rw [e]; omega
theorem bit_and {m : Nat} {v : Int} (h0 : 0 ≤ v) (h1 : v ≤ 10) (hm : m ≤ 1024) : (Go.bits .and .i64 (shr .i64 (m : Int) (IntKind.u64.wrap v)) 1 = 1) ↔ bitI m v = true := by
  obtain ⟨n, rfl⟩ := Int.eq_ofNat_of_zero_le h0
  rw [u64_in (by omega) (by omega)]
  have e1 : shr .i64 (m : Int) (n : Int) = ((m / 2 ^ n : Nat) : Int) := by
    unfold shr
    have : min n IntKind.i64.bits = n := Nat.min_eq_left (by simp [IntKind.bits]; omega)
    rw [Int.toNat_natCast, this]
    norm_cast
  rw [e1]
  have hq : m / 2 ^ n ≤ 1024 := Nat.le_trans (Nat.div_le_self _ _) hm
  unfold bitI
  rw [Int.toNat_natCast, beq_iff_eq]
  generalize m / 2 ^ n = q at hq ⊢
  have h := bits_mask .i64 24 (by decide) (fun n h0 h1 => by
    simp only [IntKind.wrap, IntKind.bits, IntKind.signed]
    simp; omega) 1 (by decide) (q : Int) (by omega) (by omega)
  have h' : Go.bits .and .i64 (q : Int) 1 = (q : Int) % 2 := h
  rw [h']
  omega
theorem best_l1 {l : List S69} (hg : good l = true) {m : Nat} (hm : m ≤ 1024) {best : Int} {R : Int × Bool} (hb : 0 ≤ best ∧ best ≤ 100)
    (hK : ∀ b' : Int, (feas (need l) (keyE l) (subI m (byEnd l)) → b' = if ((subI m (byEnd l)).length : Int) > best then ((subI m (byEnd l)).length : Int) else best) → (¬ feas (need l) (keyE l) (subI m (byEnd l)) → b' = best) → Ev (fun k => spec_BestMany.l0 k l (byEnd l) b' (wrap64 ((m : Int) + 1))) R) :
    ∀ (r D : List Int) (ok : Bool), D ++ r = byEnd l → (ok = true ↔ feas (need l) (keyE l) (subI m D)) →
    Ev (fun k => spec_BestMany.l1 k l (byEnd l) best (m : Int) ((subI m D).length : Int) (sumF (need l) (subI m D)) ok (byEnd l) ((byEnd l).length : Int) (D.length : Int)) R := by
  have hgp := good_parts hg
  intro r
  induction r with
  | nil =>
    intro D ok e hok
    rw [List.append_nil] at e
    refine Ev.succ ?_
    have h1 : ¬ ((D.length : Nat) : Int) < ((byEnd l).length : Int) := by rw [e]; omega
    rw [e] at hok
    simp only [spec_BestMany.l1, h1, if_false]
    cases ok with
    | true =>
      have hf := hok.mp rfl
      simp only [if_true, e]
      by_cases hc : ((subI m (byEnd l)).length : Int) > best
      · simp only [hc, if_true]
        exact hK _ (fun _ => by rw [if_pos hc]) (fun h => absurd hf h)
      · simp only [hc, if_false]
        exact hK _ (fun _ => by rw [if_neg hc]) (fun h => absurd hf h)
    | false =>
      have hf : ¬ feas (need l) (keyE l) (subI m (byEnd l)) := fun h => by have := hok.mpr h; cases this
      simp only [Bool.false_eq_true, if_false]
      exact hK _ (fun h => absurd h hf) (fun _ => rfl)
  | cons x r ih =>
    intro D ok e hok
    refine Ev.succ ?_
    have ho := byEnd_ord l
    rw [← e] at ho
    have hx := (isOrd_mem ho).mp (show x ∈ D ++ x :: r by simp)
    have hlen := isOrd_length ho
    have hl2 : (D ++ x :: r).length = D.length + r.length + 1 := by simp; omega
    have h1 : ((D.length : Nat) : Int) < ((byEnd l).length : Int) := by rw [← e]; omega
    have h2 : (0 : Int) ≤ ((D.length : Nat) : Int) := by omega
    have hrd : rd (byEnd l) ((D.length : Nat) : Int) = x := by rw [← e]; exact rd_mid D r x
    have hu : (0 : Int) ≤ IntKind.u64.wrap x := by rw [u64_in hx.1 (by omega)]; exact hx.1
    have hwn : wrap64 (((D.length : Nat) : Int) + 1) = (((D ++ [x]).length : Nat) : Int) := by rw [wrap64_in (by omega) (by omega)]; simp
    have hbit := bit_and (m := m) hx.1 (by omega) hm
    have hDs : ∀ v ∈ subI m D, 0 ≤ v ∧ v < (l.length : Int) := fun v hv => (isOrd_mem ho).mp (List.mem_append_left _ (List.mem_filter.mp hv).1)
    have hsl : (subI m D).length ≤ D.length := List.length_filter_le _ _
    have hsb := sum_bd hgp.2 hDs
    have hn := need_bd hgp.2 hx.1 hx.2
    have ea : D ++ x :: r = (D ++ [x]) ++ r := by simp
    have es : subI m (D ++ [x]) = subI m D ++ (if bitI m x = true then [x] else []) := by
      unfold subI; rw [List.filter_append]; congr 1; cases h : bitI m x <;> simp [List.filter_cons, h]
    simp only [spec_BestMany.l1, h1, h2, if_true, hrd, hu]
    by_cases hbx : bitI m x = true
    · rw [if_pos hbx] at es
      have hb1 := hbit.mpr hbx
      have hw1 : wrap64 (((subI m D).length : Int) + 1) = ((subI m (D ++ [x])).length : Int) := by rw [wrap64_in (by omega) (by omega), es]; simp
      have hw2 : wrap64 (sumF (need l) (subI m D) + (rd_T69 l x).f0) = sumF (need l) (subI m (D ++ [x])) := by
        rw [es, sumF_snoc]; exact wrap64_in (by unfold need at hn hsb ⊢; omega) (by unfold need at hn hsb ⊢; omega)
      simp only [hb1, if_true, hx.1, hx.2, hw1, hw2, hwn]
      have hfe : feas (need l) (keyE l) (subI m (D ++ [x])) ↔ feas (need l) (keyE l) (subI m D) ∧ sumF (need l) (subI m (D ++ [x])) ≤ (rd_T69 l x).f1 := by
        rw [es]
        exact ⟨fun h => ⟨feas_front h, feas_last h⟩, fun h => feas_snoc h.1 h.2⟩
      cases ok with
      | true =>
        simp only [if_true]
        refine ih (D ++ [x]) _ (by rw [← ea]; exact e) ?_
        rw [hfe, decide_eq_true_eq]
        exact ⟨fun h => ⟨hok.mp rfl, h⟩, fun h => h.2⟩
      | false =>
        simp only [Bool.false_eq_true, if_false]
        refine ih (D ++ [x]) _ (by rw [← ea]; exact e) ?_
        rw [hfe]
        exact ⟨fun h => (by cases h), fun h => (by have := hok.mpr h.1; cases this)⟩
    · rw [if_neg hbx, List.append_nil] at es
      have hb1 : ¬ (Go.bits .and .i64 (shr .i64 (m : Int) (IntKind.u64.wrap x)) 1 = 1) := fun h => hbx (hbit.mp h)
      simp only [hb1, if_false, hwn]
      have h3 := ih (D ++ [x]) ok (by rw [← ea]; exact e) (by rw [es]; exact hok)
      rw [es] at h3
      exact h3
theorem filter_mem {A B : List Int} (h : A.Sublist B) (hn : B.Nodup) : B.filter (fun x => decide (x ∈ A)) = A := by
  induction h with
  | slnil => rfl
  | cons b h ih =>
    rename_i A B
    rw [List.nodup_cons] at hn
    have : b ∉ A := fun hb => hn.1 (h.subset hb)
    rw [List.filter_cons]
    simp only [this, decide_false, Bool.false_eq_true, if_false]
    exact ih hn.2
  | cons_cons b h ih =>
    rename_i A B
    rw [List.nodup_cons] at hn
    rw [List.filter_cons]
    simp only [List.mem_cons, true_or, decide_true, if_true]
    congr 1
    rw [← ih hn.2]
    refine List.filter_congr fun x hx => ?_
    have hxb : x ≠ b := by rintro rfl; exact hn.1 hx
    rw [ih hn.2]
    simp [hxb]
theorem pow_w {n : Nat} (hn : n ≤ 10) : shl .i64 1 (IntKind.u64.wrap (n : Int)) = ((2 ^ n : Nat) : Int) ∧ 2 ^ n ≤ 1024 := by
  rw [u64_in (by omega) (by omega)]
  have : n = 0 ∨ n = 1 ∨ n = 2 ∨ n = 3 ∨ n = 4 ∨ n = 5 ∨ n = 6 ∨ n = 7 ∨ n = 8 ∨ n = 9 ∨ n = 10 := by omega
  rcases this with rfl | rfl | rfl | rfl | rfl | rfl | rfl | rfl | rfl | rfl | rfl <;> exact ⟨by simp [shl, IntKind.wrap, IntKind.bits, IntKind.signed], by decide⟩
theorem best_l0 {l : List S69} (hg : good l = true) {m0 : Nat} (hm0 : m0 < 2 ^ l.length) (h0 : subI m0 (byEnd l) = (mooreR l).1) : ∀ (d m : Nat) (best : Int), m + d = 2 ^ l.length → (0 ≤ best ∧ best ≤ ((mooreR l).1.length : Nat)) → (m0 < m → best = ((mooreR l).1.length : Nat)) →
    Ev (fun k => spec_BestMany.l0 k l (byEnd l) best (m : Int)) (((mooreR l).1.length : Nat), true) := by
  have hgp := good_parts hg
  have hf := moore_facts hg
  have hml := moore_len hg
  obtain ⟨hp1, hp2⟩ := pow_w hgp.1
  have hu : (0 : Int) ≤ IntKind.u64.wrap (l.length : Int) := by rw [u64_in (by omega) (by omega)]; omega
  obtain ⟨N, hN⟩ : ∃ N, N = 2 ^ l.length := ⟨_, rfl⟩
  rw [← hN] at hp1 hp2 hm0
  rw [← hN]
  clear hN
  intro d
  induction d with
  | zero =>
    intro m best hm _ hb
    refine Ev.succ ?_
    have h1 : ¬ (m : Int) < ((N : Nat) : Int) := by omega
    simp only [spec_BestMany.l0, hu, if_true, hp1, h1, if_false]
    rw [hb (by omega)]; exact Ev.now _
  | succ d ih =>
    intro m best hm hb1 hb
    refine Ev.succ ?_
    have h1 : (m : Int) < ((N : Nat) : Int) := by omega
    simp only [spec_BestMany.l0, hu, if_true, hp1, h1]
    have hw : wrap64 ((m : Int) + 1) = ((m + 1 : Nat) : Int) := by rw [wrap64_in (by omega) (by omega)]; omega
    have hm1 : m ≤ 1024 := by clear hp1 hu hw ih; omega
    have hb3 : 0 ≤ best ∧ best ≤ 100 := by clear hp1 hu hw ih; omega
    refine best_l1 hg hm1 hb3 (fun b' hy hn => ?_) (byEnd l) [] true rfl ⟨fun _ => feas_nil _ _, fun _ => rfl⟩
    rw [hw]
    have hmost : feas (need l) (keyE l) (subI m (byEnd l)) → (subI m (byEnd l)).length ≤ (mooreR l).1.length := fun h => hf.1.most List.filter_sublist h
    refine ih (m + 1) b' (by omega) ?_ (fun h => ?_)
    · by_cases h : feas (need l) (keyE l) (subI m (byEnd l))
      · have := hmost h
        rw [hy h]; split <;> omega
      · rw [hn h]; omega
    · rcases Nat.lt_or_eq_of_le (Nat.le_of_lt_succ h) with h2 | h2
      · have h3 := hb h2
        by_cases h : feas (need l) (keyE l) (subI m (byEnd l))
        · have := hmost h
          rw [hy h]; split <;> omega
        · rw [hn h]; exact h3
      · subst h2
        have hfe : feas (need l) (keyE l) (subI m0 (byEnd l)) := by rw [h0]; exact hf.1.ok
        rw [hy hfe, h0]; split <;> omega
def bmOf (l : List S69) : Int × Bool := if good l then (((mooreR l).1.length : Nat), true) else (0, false)
theorem spec_bm {l : List S69} (hl : l.length ≤ 1000000) : Ev (fun k => spec_BestMany.f k l) (bmOf l) := by
  unfold spec_BestMany.f bmOf
  refine Ev.bind (spec_good hl) ?_
  cases hg : good l with
  | false => simp only [Bool.false_eq_true, if_false]; exact Ev.now _
  | true =>
    have hgp := good_parts hg
    have hf := moore_facts hg
    simp only [if_true]
    have hby : Ev (fun k => spec_l5ByEnd.f k l) (byEnd l) := spec_by_l0 hgp.1 l.length 0 (by omega)
    refine Ev.bind hby ?_
    obtain ⟨m0, hm0, hb⟩ := mask_of (fun i => decide ((i : Int) ∈ (mooreR l).1)) l.length
    refine best_l0 hg hm0 ?_ (2 ^ l.length) 0 0 (by omega) (by omega) (fun h => by omega)
    have hn := isOrd_nodup (byEnd_ord l)
    rw [← filter_mem hf.1.sub hn]
    unfold subI
    refine List.filter_congr fun v hv => ?_
    have hr := (isOrd_mem (byEnd_ord l)).mp hv
    have := hb v.toNat (by omega)
    have e : ((v.toNat : Nat) : Int) = v := by omega
    rw [e] at this
    exact this
end Go.Proofs.Ytlipofjoihdbcaa.MFnMoore
