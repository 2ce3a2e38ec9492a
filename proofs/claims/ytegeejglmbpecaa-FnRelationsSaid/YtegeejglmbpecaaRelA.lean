/- The drawing of numbers: what is drawn lies in its bounds, and how far the place goes on. -/
import Derived.Test.YtegeejglmbpecaaMFnRelationsx15
namespace Go.Proofs.Ytegeejglmbpecaa.MFnRelations
open Go.RowKit Go.Proofs.YtegeejglmbpecaaW.PrintWords Go.Proofs.YtegeejglmbpecaaW.PrintLast Go.Proofs.YtegeejglmbpecaaW.PrintMore
def bytes8 (c : List Int) : Prop := ∀ x ∈ c, 0 ≤ x ∧ x ≤ 255
theorem bytes8_of {c : List Int} (h : ∀ x ∈ c, (Lit.int .u8 x).wf = true) : bytes8 c := by
  intro x hx
  have := h x hx
  simp [Lit.wf, IntKind.min, IntKind.max, IntKind.signed, IntKind.bits] at this
  omega
theorem wrap64_in {x : Int} (h0 : -9223372036854775808 ≤ x) (h1 : x ≤ 9223372036854775807) : wrap64 x = x := by unfold wrap64; omega
theorem rd_in {c : List Int} (hc : bytes8 c) (i : Int) : 0 ≤ rd c i ∧ rd c i ≤ 255 := by
  unfold rd
  rw [List.getD_eq_getElem?_getD]
  cases h : c[i.toNat]? with
  | none => simp
  | some v => simpa using hc v (List.mem_of_getElem? h)
theorem u64_wrap_bd (x : Int) : 0 ≤ IntKind.u64.wrap x ∧ IntKind.u64.wrap x < 18446744073709551616 := by
  have e : IntKind.u64.wrap x = x % 18446744073709551616 := by simp [IntKind.wrap, IntKind.bits, IntKind.signed]
  rw [e]; omega
theorem and255 (x : Int) : 0 ≤ Go.bits .and .u64 (IntKind.u64.wrap x / 1099511627776) 255 ∧ Go.bits .and .u64 (IntKind.u64.wrap x / 1099511627776) 255 ≤ 255 := by
  have h := u64_wrap_bd x
  have e := bits_mask .u64 24 (by decide) (fun n h0 h1 => by
    have e : IntKind.u64.wrap n = n % 18446744073709551616 := by simp [IntKind.wrap, IntKind.bits, IntKind.signed]
    rw [e]; omega) 8 (by decide) (IntKind.u64.wrap x / 1099511627776) (by omega) (by omega)
  have e' : Go.bits .and .u64 (IntKind.u64.wrap x / 1099511627776) 255 = (IntKind.u64.wrap x / 1099511627776) % 256 := e
  rw [e']; omega
theorem next_ok {c : List Int} (hc : bytes8 c) (a s : Int) (h0 : 0 ≤ a) (h1 : a < 4611686018427387904) :
    ∃ v s', spec_l1Cur_next.f c a s = some (v, a + 1, s') ∧ 0 ≤ v ∧ v ≤ 255 := by
  have e : wrap64 (a + 1) = a + 1 := wrap64_in (by omega) (by omega)
  have hr := rd_in hc a
  have er : wrap64 (rd c a) = rd c a := wrap64_in (by omega) (by omega)
  unfold spec_l1Cur_next.f
  rw [e, er]
  have hb : ∀ x : Int, wrap64 (Go.bits .and .u64 (IntKind.u64.wrap x / 1099511627776) 255) = Go.bits .and .u64 (IntKind.u64.wrap x / 1099511627776) 255 := fun x => wrap64_in (by have := and255 x; omega) (by have := and255 x; omega)
  by_cases h : a < (c.length : Int)
  · rw [if_pos h, if_pos h0, if_pos (by omega)]; exact ⟨_, _, rfl, hr.1, hr.2⟩
  · rw [if_neg h]
    by_cases h2 : a + 1 ≤ (c.length : Int)
    · rw [if_pos h2]; exact ⟨_, _, rfl, by omega, by omega⟩
    · rw [if_neg h2, hb]; exact ⟨_, _, rfl, (and255 _).1, (and255 _).2⟩
theorem pick_ok {c : List Int} (hc : bytes8 c) (a s n : Int) (h0 : 0 ≤ a) (h1 : a < 4611686018427387900) (hn : n ≤ 9223372036854775807) :
    ∃ v a' s', spec_l1Cur_pick.f c a s n = some (v, a', s') ∧ 0 ≤ v ∧ (v < n ∨ v = 0) ∧ a ≤ a' ∧ a' ≤ a + 2 := by
  unfold spec_l1Cur_pick.f
  by_cases hn1 : n ≤ 1
  · rw [if_pos hn1]; exact ⟨0, a, s, rfl, by omega, .inr rfl, by omega, by omega⟩
  · rw [if_neg hn1]
    obtain ⟨v, s1, e1, v0, v1⟩ := next_ok hc a s h0 (by omega)
    rw [e1]; simp only [Option.bind_some]
    by_cases hb : n > 200
    · rw [if_pos hb]
      obtain ⟨v2, s2, e2, u0, u1⟩ := next_ok hc (a + 1) s1 (by omega) (by omega)
      rw [e2]; simp only [Option.bind_some]
      rw [if_neg (by omega)]
      have ew : wrap64 (wrap64 (v * 256) + v2) = v * 256 + v2 := by
        rw [wrap64_in (x := v * 256) (by omega) (by omega), wrap64_in (by omega) (by omega)]
      rw [ew, Int.tmod_eq_emod_of_nonneg (by omega)]
      exact ⟨_, _, _, rfl, Int.emod_nonneg _ (by omega), .inl (Int.emod_lt_of_pos _ (by omega)), by omega, by omega⟩
    · rw [if_neg hb, if_neg (by omega), Int.tmod_eq_emod_of_nonneg (by omega)]
      exact ⟨_, _, _, rfl, Int.emod_nonneg _ (by omega), .inl (Int.emod_lt_of_pos _ (by omega)), by omega, by omega⟩
theorem one_ok {c : List Int} (hc : bytes8 c) (a s n : Int) (h0 : 0 ≤ a) (h1 : a < 4611686018427387900) (hn : n ≤ 9223372036854775807) :
    ∃ b a' s', spec_l1Cur_one.f c a s n = some (b, a', s') ∧ a ≤ a' ∧ a' ≤ a + 2 := by
  obtain ⟨v, a', s', e, _, _, h2, h3⟩ := pick_ok hc a s n h0 h1 hn
  unfold spec_l1Cur_one.f
  rw [e]; simp only [Option.bind_some]
  exact ⟨_, _, _, rfl, h2, h3⟩
theorem among_ok {c : List Int} (hc : bytes8 c) (a s : Int) (l : List Int) (h0 : 0 ≤ a) (h1 : a < 4611686018427387900) (hl : 0 < l.length) (hl2 : l.length ≤ 1000000) :
    ∃ v a' s', spec_l1Cur_among.f c a s l = some (v, a', s') ∧ v ∈ l ∧ a ≤ a' ∧ a' ≤ a + 2 := by
  obtain ⟨v, a', s', e, v0, v1, h2, h3⟩ := pick_ok hc a s (l.length : Int) h0 h1 (by omega)
  unfold spec_l1Cur_among.f
  rw [e]; simp only [Option.bind_some]
  rw [if_pos v0, if_pos (by omega)]
  refine ⟨_, _, _, rfl, ?_, h2, h3⟩
  unfold rd
  rw [List.getD_eq_getElem?_getD, List.getElem?_eq_getElem (by omega)]
  exact List.getElem_mem _
theorem Ev.succ {α : Type} {g : Nat → Option α} {r : α} (h : Ev (fun k => g (k + 1)) r) : Ev g r := Ev.step (fun _ => rfl) h
theorem Ev.ends {α : Type} {g : Nat → Option α} (h : ∃ r, Ev (fun k => g (k + 1)) r) : ∃ r, Ev g r := by
  obtain ⟨r, h⟩ := h
  exact ⟨r, Ev.succ h⟩
theorem Ev.some {α : Type} {r : α} : Ev (fun _ => Option.some r) r := Ev.now r
theorem Ev.endsP {α : Type} {g : Nat → Option α} {P : α → Prop} (h : ∃ r, Ev (fun k => g (k + 1)) r ∧ P r) : ∃ r, Ev g r ∧ P r := by
  obtain ⟨r, h, hp⟩ := h
  exact ⟨r, Ev.succ h, hp⟩
end Go.Proofs.Ytegeejglmbpecaa.MFnRelations
