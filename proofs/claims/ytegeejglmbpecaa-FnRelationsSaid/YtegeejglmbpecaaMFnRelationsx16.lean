-- by myprint
import Derived.Test.YtegeejglmbpecaaMFnRelationsx0
import Derived.Test.YtegeejglmbpecaaMFnRelationsx3
import Derived.Test.YtegeejglmbpecaaMFnRelationsx5
import Derived.Test.YtegeejglmbpecaaMFnRelationsx7
import Derived.Test.YtegeejglmbpecaaMFnRelationsx13
import Derived.Test.YtegeejglmbpecaaMFnRelationsx15
namespace Go.Proofs.Ytegeejglmbpecaa.MFnRelations
open Go.RowKit Go.Proofs.YtegeejglmbpecaaW.PrintWords Go.Proofs.YtegeejglmbpecaaW.PrintLast Go.Proofs.YtegeejglmbpecaaW.PrintMore
attribute [local go_sem] max2_int min2_int max_two min_two max_three min_three max_four min_four   -- for this text's walks alone
set_option linter.unusedVariables false
set_option linter.unusedSimpArgs false

/-! ### laws_FnRelations: function 3 -/
mutual
def laws_FnRelations.j0 : Nat → List Int → Int → Bool → Bool → Int → Int → Int → Int → Option (Bool)
 | 0, _, _, _, _, _, _, _, _ => none
 | k + 1, x1, x7, x8, x58, x317000, x317001, x318000, x318001 => if x58 = true then (none) else (if x8 = true then ((impl_RelationOf.f k x318000 x318001 x317000 x317001).bind fun bt322 => ((impl_MeetSpans.f k (([(⟨x317000, x317001⟩ : S24)] : List (S24))) (([(⟨x318000, x318001⟩ : S24)] : List (S24)))).bind fun bt330 => (if x7 = 3 then (laws_FnRelations.j1 k x1 x7 bt322.1 bt322.2 bt330.1 bt330.2 3) else (if x7 < 3 then (laws_FnRelations.j1 k x1 x7 bt322.1 bt322.2 bt330.1 bt330.2 (wrap64 (x7 + 7))) else (if x7 < 8 then (laws_FnRelations.j1 k x1 x7 bt322.1 bt322.2 bt330.1 bt330.2 (wrap64 (x7 + 6))) else (if x7 < 10 then (laws_FnRelations.j1 k x1 x7 bt322.1 bt322.2 bt330.1 bt330.2 (wrap64 (x7 - 7))) else (laws_FnRelations.j1 k x1 x7 bt322.1 bt322.2 bt330.1 bt330.2 (wrap64 (x7 - 6))))))))) else (laws_FnRelations.j4 k x1))
def laws_FnRelations.j4 : Nat → List Int → Option (Bool)
 | 0, _ => none
 | k + 1, x1 => (spec_DrawHasPoint.f k x1).bind fun bt334 => ((impl_HasPoint.f k bt334.1 bt334.2).bind fun bt338 => ((spec_HasPoint.f k bt334.1 bt334.2).bind fun bt340 => ((spec_DrawLengthOf.f k x1).bind fun t342 => ((impl_LengthOf.f k t342).bind fun bt345 => ((spec_LengthOf.f k t342).bind fun bt347 => (if (bt338.2 == bt340.2) = true then (if (bt338.1 == bt340.1) = true then (if (bt345.2 == bt347.2) = true then (some (bt345.1 == bt347.1)) else (none)) else (none)) else (none)))))))
def laws_FnRelations.j1 : Nat → List Int → Int → Int → Bool → List (S24) → Bool → Int → Option (Bool)
 | 0, _, _, _, _, _, _, _ => none
 | k + 1, x1, x7, x11, x12, x13, x14, x15 => if x7 = 1 then (laws_FnRelations.j2 k x1 x7 x11 x12 x13 x14 x15 true) else (if x7 = 2 then (laws_FnRelations.j2 k x1 x7 x11 x12 x13 x14 x15 true) else (if x7 = 8 then (laws_FnRelations.j2 k x1 x7 x11 x12 x13 x14 x15 true) else (laws_FnRelations.j2 k x1 x7 x11 x12 x13 x14 x15 (x7 == 9))))
def laws_FnRelations.j2 : Nat → List Int → Int → Int → Bool → List (S24) → Bool → Int → Bool → Option (Bool)
 | 0, _, _, _, _, _, _, _, _ => none
 | k + 1, x1, x7, x11, x12, x13, x14, x15, x16 => if x7 < 1 then (none) else (if x7 > 13 then (none) else (if x12 = true then (if x11 = x15 then (if x14 = true then (laws_FnRelations.j3 k x1 (((x13.length : Int) == 0) != x16)) else (none)) else (none)) else (none)))
def laws_FnRelations.j3 : Nat → List Int → Bool → Option (Bool)
 | 0, _, _ => none
 | k + 1, x1, x133 => if x133 = true then (none) else (laws_FnRelations.j4 k x1)
end
def laws_FnRelations.f (k : Nat) (l0 : List Int) (l1 : List Int) : Option (Bool) := if (wrap64 ((l0.length : Int) + (l1.length : Int))) > 1048576 then (some true) else ((spec_DrawRelationOf.f l0).bind fun bt312 => ((impl_RelationOf.f k bt312.1 bt312.2.1 bt312.2.2.1 bt312.2.2.2).bind fun bt318 => ((spec_RelationOf.f k bt312.1 bt312.2.1 bt312.2.2.1 bt312.2.2.2).bind fun bt320 => (if (bt318.2 != bt320.2) = true then (none) else (laws_FnRelations.j0 k l1 bt318.1 bt318.2 (bt318.1 != bt320.1) bt312.1 bt312.2.1 bt312.2.2.1 bt312.2.2.2)))))
theorem laws_FnRelations.mono_l : ∀ k, (∀ y0 y1 y2 y3 y4 y5 y6 y7, LeO (laws_FnRelations.j0 k y0 y1 y2 y3 y4 y5 y6 y7) (laws_FnRelations.j0 (k + 1) y0 y1 y2 y3 y4 y5 y6 y7)) ∧ (∀ y0, LeO (laws_FnRelations.j4 k y0) (laws_FnRelations.j4 (k + 1) y0)) ∧ (∀ y0 y1 y2 y3 y4 y5 y6, LeO (laws_FnRelations.j1 k y0 y1 y2 y3 y4 y5 y6) (laws_FnRelations.j1 (k + 1) y0 y1 y2 y3 y4 y5 y6)) ∧ (∀ y0 y1 y2 y3 y4 y5 y6 y7, LeO (laws_FnRelations.j2 k y0 y1 y2 y3 y4 y5 y6 y7) (laws_FnRelations.j2 (k + 1) y0 y1 y2 y3 y4 y5 y6 y7)) ∧ (∀ y0 y1, LeO (laws_FnRelations.j3 k y0 y1) (laws_FnRelations.j3 (k + 1) y0 y1))
 | 0 => ⟨fun _ _ _ _ _ _ _ _ r h => by simp [laws_FnRelations.j0] at h, fun _ r h => by simp [laws_FnRelations.j4] at h, fun _ _ _ _ _ _ _ r h => by simp [laws_FnRelations.j1] at h, fun _ _ _ _ _ _ _ _ r h => by simp [laws_FnRelations.j2] at h, fun _ _ r h => by simp [laws_FnRelations.j3] at h⟩
 | k + 1 => by
  obtain ⟨ih0, ih1, ih2, ih3, ih4⟩ := laws_FnRelations.mono_l k
  refine ⟨?_, ?_, ?_, ?_, ?_⟩
  ·intro y0 y1 y2 y3 y4 y5 y6 y7
   unfold laws_FnRelations.j0
   repeat' first
   | (with_reducible exact ih0 _ _ _ _ _ _ _ _)
   | (with_reducible exact ih1 _)
   | (with_reducible exact ih2 _ _ _ _ _ _ _)
   | (with_reducible exact ih3 _ _ _ _ _ _ _ _)
   | (with_reducible exact ih4 _ _)
   | (with_reducible exact impl_HasPoint.mono _ _ _)
   | (with_reducible exact impl_LengthOf.mono _ _)
   | (with_reducible exact impl_MeetSpans.mono _ _ _)
   | (with_reducible exact impl_RelationOf.mono _ _ _ _ _)
   | (with_reducible exact spec_DrawHasPoint.mono _ _)
   | (with_reducible exact spec_DrawLengthOf.mono _ _)
   | (with_reducible exact spec_HasPoint.mono _ _ _)
   | (with_reducible exact spec_LengthOf.mono _ _)
   | (with_reducible exact spec_RelationOf.mono _ _ _ _ _)
   | (with_reducible exact LeO.refl _)
   | (with_reducible exact LeO.none _)
   | (with_reducible refine LeO.ite ?_ ?_)
   | (with_reducible refine LeO.bind ?_ (fun _ => ?_))
   | exact ih0 _ _ _ _ _ _ _ _
   | exact ih1 _
   | exact ih2 _ _ _ _ _ _ _
   | exact ih3 _ _ _ _ _ _ _ _
   | exact ih4 _ _
   | exact impl_HasPoint.mono _ _ _
   | exact impl_LengthOf.mono _ _
   | exact impl_MeetSpans.mono _ _ _
   | exact impl_RelationOf.mono _ _ _ _ _
   | exact spec_DrawHasPoint.mono _ _
   | exact spec_DrawLengthOf.mono _ _
   | exact spec_HasPoint.mono _ _ _
   | exact spec_LengthOf.mono _ _
   | exact spec_RelationOf.mono _ _ _ _ _
   | exact LeO.none _
   | refine LeO.ite ?_ ?_
   | refine LeO.bind ?_ (fun _ => ?_)
  ·intro y0
   unfold laws_FnRelations.j4
   repeat' first
   | (with_reducible exact ih0 _ _ _ _ _ _ _ _)
   | (with_reducible exact ih1 _)
   | (with_reducible exact ih2 _ _ _ _ _ _ _)
   | (with_reducible exact ih3 _ _ _ _ _ _ _ _)
   | (with_reducible exact ih4 _ _)
   | (with_reducible exact impl_HasPoint.mono _ _ _)
   | (with_reducible exact impl_LengthOf.mono _ _)
   | (with_reducible exact impl_MeetSpans.mono _ _ _)
   | (with_reducible exact impl_RelationOf.mono _ _ _ _ _)
   | (with_reducible exact spec_DrawHasPoint.mono _ _)
   | (with_reducible exact spec_DrawLengthOf.mono _ _)
   | (with_reducible exact spec_HasPoint.mono _ _ _)
   | (with_reducible exact spec_LengthOf.mono _ _)
   | (with_reducible exact spec_RelationOf.mono _ _ _ _ _)
   | (with_reducible exact LeO.refl _)
   | (with_reducible exact LeO.none _)
   | (with_reducible refine LeO.ite ?_ ?_)
   | (with_reducible refine LeO.bind ?_ (fun _ => ?_))
   | exact ih0 _ _ _ _ _ _ _ _
   | exact ih1 _
   | exact ih2 _ _ _ _ _ _ _
   | exact ih3 _ _ _ _ _ _ _ _
   | exact ih4 _ _
   | exact impl_HasPoint.mono _ _ _
   | exact impl_LengthOf.mono _ _
   | exact impl_MeetSpans.mono _ _ _
   | exact impl_RelationOf.mono _ _ _ _ _
   | exact spec_DrawHasPoint.mono _ _
   | exact spec_DrawLengthOf.mono _ _
   | exact spec_HasPoint.mono _ _ _
   | exact spec_LengthOf.mono _ _
   | exact spec_RelationOf.mono _ _ _ _ _
   | exact LeO.none _
   | refine LeO.ite ?_ ?_
   | refine LeO.bind ?_ (fun _ => ?_)
  ·intro y0 y1 y2 y3 y4 y5 y6
   unfold laws_FnRelations.j1
   repeat' first
   | (with_reducible exact ih0 _ _ _ _ _ _ _ _)
   | (with_reducible exact ih1 _)
   | (with_reducible exact ih2 _ _ _ _ _ _ _)
   | (with_reducible exact ih3 _ _ _ _ _ _ _ _)
   | (with_reducible exact ih4 _ _)
   | (with_reducible exact impl_HasPoint.mono _ _ _)
   | (with_reducible exact impl_LengthOf.mono _ _)
   | (with_reducible exact impl_MeetSpans.mono _ _ _)
   | (with_reducible exact impl_RelationOf.mono _ _ _ _ _)
   | (with_reducible exact spec_DrawHasPoint.mono _ _)
   | (with_reducible exact spec_DrawLengthOf.mono _ _)
   | (with_reducible exact spec_HasPoint.mono _ _ _)
   | (with_reducible exact spec_LengthOf.mono _ _)
   | (with_reducible exact spec_RelationOf.mono _ _ _ _ _)
   | (with_reducible exact LeO.refl _)
   | (with_reducible exact LeO.none _)
   | (with_reducible refine LeO.ite ?_ ?_)
   | (with_reducible refine LeO.bind ?_ (fun _ => ?_))
   | exact ih0 _ _ _ _ _ _ _ _
   | exact ih1 _
   | exact ih2 _ _ _ _ _ _ _
   | exact ih3 _ _ _ _ _ _ _ _
   | exact ih4 _ _
   | exact impl_HasPoint.mono _ _ _
   | exact impl_LengthOf.mono _ _
   | exact impl_MeetSpans.mono _ _ _
   | exact impl_RelationOf.mono _ _ _ _ _
   | exact spec_DrawHasPoint.mono _ _
   | exact spec_DrawLengthOf.mono _ _
   | exact spec_HasPoint.mono _ _ _
   | exact spec_LengthOf.mono _ _
   | exact spec_RelationOf.mono _ _ _ _ _
   | exact LeO.none _
   | refine LeO.ite ?_ ?_
   | refine LeO.bind ?_ (fun _ => ?_)
  ·intro y0 y1 y2 y3 y4 y5 y6 y7
   unfold laws_FnRelations.j2
   repeat' first
   | (with_reducible exact ih0 _ _ _ _ _ _ _ _)
   | (with_reducible exact ih1 _)
   | (with_reducible exact ih2 _ _ _ _ _ _ _)
   | (with_reducible exact ih3 _ _ _ _ _ _ _ _)
   | (with_reducible exact ih4 _ _)
   | (with_reducible exact impl_HasPoint.mono _ _ _)
   | (with_reducible exact impl_LengthOf.mono _ _)
   | (with_reducible exact impl_MeetSpans.mono _ _ _)
   | (with_reducible exact impl_RelationOf.mono _ _ _ _ _)
   | (with_reducible exact spec_DrawHasPoint.mono _ _)
   | (with_reducible exact spec_DrawLengthOf.mono _ _)
   | (with_reducible exact spec_HasPoint.mono _ _ _)
   | (with_reducible exact spec_LengthOf.mono _ _)
   | (with_reducible exact spec_RelationOf.mono _ _ _ _ _)
   | (with_reducible exact LeO.refl _)
   | (with_reducible exact LeO.none _)
   | (with_reducible refine LeO.ite ?_ ?_)
   | (with_reducible refine LeO.bind ?_ (fun _ => ?_))
   | exact ih0 _ _ _ _ _ _ _ _
   | exact ih1 _
   | exact ih2 _ _ _ _ _ _ _
   | exact ih3 _ _ _ _ _ _ _ _
   | exact ih4 _ _
   | exact impl_HasPoint.mono _ _ _
   | exact impl_LengthOf.mono _ _
   | exact impl_MeetSpans.mono _ _ _
   | exact impl_RelationOf.mono _ _ _ _ _
   | exact spec_DrawHasPoint.mono _ _
   | exact spec_DrawLengthOf.mono _ _
   | exact spec_HasPoint.mono _ _ _
   | exact spec_LengthOf.mono _ _
   | exact spec_RelationOf.mono _ _ _ _ _
   | exact LeO.none _
   | refine LeO.ite ?_ ?_
   | refine LeO.bind ?_ (fun _ => ?_)
  ·intro y0 y1
   unfold laws_FnRelations.j3
   repeat' first
   | (with_reducible exact ih0 _ _ _ _ _ _ _ _)
   | (with_reducible exact ih1 _)
   | (with_reducible exact ih2 _ _ _ _ _ _ _)
   | (with_reducible exact ih3 _ _ _ _ _ _ _ _)
   | (with_reducible exact ih4 _ _)
   | (with_reducible exact impl_HasPoint.mono _ _ _)
   | (with_reducible exact impl_LengthOf.mono _ _)
   | (with_reducible exact impl_MeetSpans.mono _ _ _)
   | (with_reducible exact impl_RelationOf.mono _ _ _ _ _)
   | (with_reducible exact spec_DrawHasPoint.mono _ _)
   | (with_reducible exact spec_DrawLengthOf.mono _ _)
   | (with_reducible exact spec_HasPoint.mono _ _ _)
   | (with_reducible exact spec_LengthOf.mono _ _)
   | (with_reducible exact spec_RelationOf.mono _ _ _ _ _)
   | (with_reducible exact LeO.refl _)
   | (with_reducible exact LeO.none _)
   | (with_reducible refine LeO.ite ?_ ?_)
   | (with_reducible refine LeO.bind ?_ (fun _ => ?_))
   | exact ih0 _ _ _ _ _ _ _ _
   | exact ih1 _
   | exact ih2 _ _ _ _ _ _ _
   | exact ih3 _ _ _ _ _ _ _ _
   | exact ih4 _ _
   | exact impl_HasPoint.mono _ _ _
   | exact impl_LengthOf.mono _ _
   | exact impl_MeetSpans.mono _ _ _
   | exact impl_RelationOf.mono _ _ _ _ _
   | exact spec_DrawHasPoint.mono _ _
   | exact spec_DrawLengthOf.mono _ _
   | exact spec_HasPoint.mono _ _ _
   | exact spec_LengthOf.mono _ _
   | exact spec_RelationOf.mono _ _ _ _ _
   | exact LeO.none _
   | refine LeO.ite ?_ ?_
   | refine LeO.bind ?_ (fun _ => ?_)
theorem laws_FnRelations.mono : ∀ a0 a1 k, LeO (laws_FnRelations.f k a0 a1) (laws_FnRelations.f (k + 1) a0 a1) := by
 intro a0 a1 k
 obtain ⟨ih0, ih1, ih2, ih3, ih4⟩ := laws_FnRelations.mono_l k
 unfold laws_FnRelations.f
 repeat' first
   | (with_reducible exact ih0 _ _ _ _ _ _ _ _)
   | (with_reducible exact ih1 _)
   | (with_reducible exact ih2 _ _ _ _ _ _ _)
   | (with_reducible exact ih3 _ _ _ _ _ _ _ _)
   | (with_reducible exact ih4 _ _)
   | (with_reducible exact impl_HasPoint.mono _ _ _)
   | (with_reducible exact impl_LengthOf.mono _ _)
   | (with_reducible exact impl_MeetSpans.mono _ _ _)
   | (with_reducible exact impl_RelationOf.mono _ _ _ _ _)
   | (with_reducible exact spec_DrawHasPoint.mono _ _)
   | (with_reducible exact spec_DrawLengthOf.mono _ _)
   | (with_reducible exact spec_HasPoint.mono _ _ _)
   | (with_reducible exact spec_LengthOf.mono _ _)
   | (with_reducible exact spec_RelationOf.mono _ _ _ _ _)
   | (with_reducible exact LeO.refl _)
   | (with_reducible exact LeO.none _)
   | (with_reducible refine LeO.ite ?_ ?_)
   | (with_reducible refine LeO.bind ?_ (fun _ => ?_))
   | exact ih0 _ _ _ _ _ _ _ _
   | exact ih1 _
   | exact ih2 _ _ _ _ _ _ _
   | exact ih3 _ _ _ _ _ _ _ _
   | exact ih4 _ _
   | exact impl_HasPoint.mono _ _ _
   | exact impl_LengthOf.mono _ _
   | exact impl_MeetSpans.mono _ _ _
   | exact impl_RelationOf.mono _ _ _ _ _
   | exact spec_DrawHasPoint.mono _ _
   | exact spec_DrawLengthOf.mono _ _
   | exact spec_HasPoint.mono _ _ _
   | exact spec_LengthOf.mono _ _
   | exact spec_RelationOf.mono _ _ _ _ _
   | exact LeO.none _
   | refine LeO.ite ?_ ?_
   | refine LeO.bind ?_ (fun _ => ?_)
set_option maxHeartbeats 8000000 in
set_option maxRecDepth 100000 in
theorem laws_FnRelations.calls (k : Nat) (A0 : Option Addr) (c0 : Nat) (l0 : List Int) (A1 : Option Addr) (c1 : Nat) (l1 : List Int) (r : Bool) (w : World) (hr0 : Kd.C (Kd.int .u8) w A0 l0.length l0) (hc0 : l0.length ≤ c0) (hr1 : Kd.C (Kd.int .u8) w A1 l1.length l1) (hc1 : l1.length ≤ c1) (h : laws_FnRelations.f k l0 l1 = some r) :
  Calls Try.prog 3 #[.slice A0 l0.length c0, .slice A1 l1.length c1] w fun e w' => e = .returned (.bool r) ∧ Below w.heap.size w w' := by
 have hu24 := Try.underlying24
 have HR0 := Aside0.mk hr0
 have HC0 := Aside0.mk hc0
 clear hr0 hc0
 have HR1 := Aside0.mk hr1
 have HC1 := Aside0.mk hc1
 clear hr1 hc1
 have HB := Aside0.mk (Below.refl w.heap.size w)
 have H : (if (wrap64 ((l0.length : Int) + (l1.length : Int))) > 1048576 then (some true) else ((spec_DrawRelationOf.f l0).bind fun bt312 => ((impl_RelationOf.f k bt312.1 bt312.2.1 bt312.2.2.1 bt312.2.2.2).bind fun bt318 => ((spec_RelationOf.f k bt312.1 bt312.2.1 bt312.2.2.1 bt312.2.2.2).bind fun bt320 => (if (bt318.2 != bt320.2) = true then (none) else (laws_FnRelations.j0 k l1 bt318.1 bt318.2 (bt318.1 != bt320.1) bt312.1 bt312.2.1 bt312.2.2.1 bt312.2.2.2)))))) = some r := h
 clear h
 by_cases c3 : (wrap64 ((l0.length : Int) + (l1.length : Int))) > 1048576
 ·rw [if_pos c3] at H
  have c3b0 : decide (1048576 < (wrap64 ((l0.length : Int) + (l1.length : Int)))) = true := decide_eq_true c3
  clear c3
  obtain rfl := Option.some.inj H
  go_enter Try.func3, Try.ntmps3
  as_aux_lemma =>
   go_wp2
   go_ret
   exact ⟨by first | rfl | (simp [errW_none, errW_some] <;> rfl) | (simp [*, errW_none, errW_some] <;> rfl), by repeat (first | (with_reducible first | exact HB.out | apply below_alloc | apply pw_below_drewN | apply below_drew1) | exact HB.out)⟩
 ·rw [if_neg c3] at H
  have c3b0 : decide (1048576 < (wrap64 ((l0.length : Int) + (l1.length : Int)))) = false := decide_eq_false c3
  clear c3
  replace H := Option.bind_eq_some_iff.mp H
  obtain ⟨⟨t312, t313, t314, t315⟩, A40, H⟩ := H
  replace H : ((impl_RelationOf.f k t312 t313 t314 t315).bind fun bt318 => ((spec_RelationOf.f k t312 t313 t314 t315).bind fun bt320 => (if (bt318.2 != bt320.2) = true then (none) else (laws_FnRelations.j0 k l1 bt318.1 bt318.2 (bt318.1 != bt320.1) t312 t313 t314 t315)))) = some r := H
  have A4 := Aside0.mk A40
  clear A40
  replace H := Option.bind_eq_some_iff.mp H
  obtain ⟨⟨t318, t319⟩, A50, H⟩ := H
  replace H : ((spec_RelationOf.f k t312 t313 t314 t315).bind fun bt320 => (if (t319 != bt320.2) = true then (none) else (laws_FnRelations.j0 k l1 t318 t319 (t318 != bt320.1) t312 t313 t314 t315))) = some r := H
  have A5 := Aside0.mk A50
  clear A50
  replace H := Option.bind_eq_some_iff.mp H
  obtain ⟨⟨t320, t321⟩, A60, H⟩ := H
  replace H : (if (t319 != t321) = true then (none) else (laws_FnRelations.j0 k l1 t318 t319 (t318 != t320) t312 t313 t314 t315)) = some r := H
  have A6 := Aside0.mk A60
  clear A60
  have HC7 := Aside0.mk H
  clear H
  go_enter Try.func3, Try.ntmps3
  go_upto_region 6 with (first | ((with_reducible refine gate_callee (f := 6) rfl ?_); refine goesL_ (some 36) rfl rfl Try.func6 (by kernel_rfl) rfl #[.slice A0 l0.length c0] rfl (by (try simp only [List.map_toArray, List.map_cons, List.map_nil]); first | done | rfl | (simp only [List.length_drop, List.length_take]; rfl)) ?_; (with_reducible refine (spec_DrawRelationOf.calls _ _ l0 t312 t313 t314 t315 _ ?side1 ?side2 A4.out).mono ?_); (case side1 => repeat (first | exact HR0.out | (with_reducible refine Kd.C_alloc ?_ _) | (with_reducible refine Kd.C_drewN ?_ _) | (with_reducible refine Kd.C_drew ?_))); (case side2 => exact HC0.out); rintro e w8 ⟨rfl, hb⟩; refine ⟨_, rfl, ?_⟩; have n0_ := Aside0.mk (below_step (by repeat (first | (with_reducible first | exact HB.out | apply below_alloc | apply pw_below_drewN | apply below_drew1) | exact HB.out)) hb); clear HB; have HB := n0_; clear n0_; (try clear hb); (try clear hb2); (try clear hk); (try clear hi)) | ((with_reducible refine gate_dst (N := 5) rfl ?_); (try (refine gate_guard (by rfl) ?_; dsimp only)); refine box_event ?hg (N := 5) ?hd (cs := #[.int .i64 0, .int .i64 0]) (t := 24) ?hr ?_; (case hd => rfl); (case hg => rfl); (case hr => first | (go_simp; done) | (go_simp; rfl)); intro gb316 hg w9 hbox hb; have n0_ := Aside0.mk (below_step (by repeat (first | (with_reducible first | exact HB.out | apply below_alloc | apply pw_below_drewN | apply below_drew1) | exact HB.out)) hb); have n1_ := Aside0.mk (hbox); have n2_ := Aside0.mk ((by rw [hg]; exact (below_size (by repeat (first | (with_reducible first | exact HB.out | apply below_alloc | apply pw_below_drewN | apply below_drew1) | exact HB.out))) : w.heap.size ≤ gb316)); have n3_ := Aside0.mk ((by rw [hg]; exact (below_size (by repeat (first | (with_reducible first | exact HB.out | apply below_alloc | apply pw_below_drewN | apply below_drew1) | exact HB.out))) : w.heap.size ≤ gb316)); clear HB; have HB := n0_; have BK316 := n1_; have GW316 := n2_; have GE316 := n3_; clear n0_ n1_ n2_ n3_; clear hb hbox hg) | ((with_reducible refine gate_dst (N := 6) rfl ?_); (try (refine gate_guard (by rfl) ?_; dsimp only)); refine box_event ?hg (N := 6) ?hd (cs := #[.int .i64 0, .int .i64 0]) (t := 24) ?hr ?_; (case hd => rfl); (case hg => rfl); (case hr => first | (go_simp; done) | (go_simp; rfl)); intro gb317 hg w10 hbox hb; have n0_ := Aside0.mk (blk_below (g := gb316) (o := .cells #[.int .i64 0, .int .i64 0] 24 (0, 0)) (by (with_reducible repeat (first | refine blk_drewN ?_ _ | refine blk_drew ?_ | refine blk_alloc ?_ _)); exact BK316.out) hb); have n1_ := Aside0.mk (below_step (by repeat (first | (with_reducible first | exact HB.out | apply below_alloc | apply pw_below_drewN | apply below_drew1 | refine below_set ?_ GE316.out) | exact HB.out)) hb); have n2_ := Aside0.mk (hbox); have n3_ := Aside0.mk ((by rw [hg]; exact (below_size (by repeat (first | (with_reducible first | exact HB.out | apply below_alloc | apply pw_below_drewN | apply below_drew1 | refine below_set ?_ GE316.out) | exact HB.out))) : w.heap.size ≤ gb317)); have n4_ := Aside0.mk ((by rw [hg]; exact (below_size (by repeat (first | (with_reducible first | exact HB.out | apply below_alloc | apply pw_below_drewN | apply below_drew1 | refine below_set ?_ GE316.out) | exact HB.out))) : w.heap.size ≤ gb317)); have n5_ := Aside0.mk ((by rw [hg]; exact Nat.ne_of_lt (blk_lt (g := gb316) (o := .cells #[.int .i64 0, .int .i64 0] 24 (0, 0)) (by (with_reducible repeat (first | refine blk_drewN ?_ _ | refine blk_drew ?_ | refine blk_alloc ?_ _)); exact BK316.out)) : gb316 ≠ gb317)); have n6_ := Aside0.mk ((by rw [hg]; exact Nat.ne_of_gt (blk_lt (g := gb316) (o := .cells #[.int .i64 0, .int .i64 0] 24 (0, 0)) (by (with_reducible repeat (first | refine blk_drewN ?_ _ | refine blk_drew ?_ | refine blk_alloc ?_ _)); exact BK316.out)) : gb317 ≠ gb316)); clear BK316; clear HB; have BK316 := n0_; have HB := n1_; have BK317 := n2_; have GW317 := n3_; have GE317 := n4_; have NB316_317 := n5_; have NB317_316 := n6_; clear n0_ n1_ n2_ n3_ n4_ n5_ n6_; clear hb hbox hg; have hnb11 := NB316_317.out; have hnc11 := NB317_316.out; have hcz12_0 : w10.cell? ⟨gb316, 0, none⟩ = some (.int .i64 0) := (blk_cell BK316.out 0).trans rfl; have hcz12_1 : w10.cell? ⟨gb316, 1, none⟩ = some (.int .i64 0) := (blk_cell BK316.out 1).trans rfl; have hfz12_0 := blk_frozen BK316.out 0; have hfz12_1 := blk_frozen BK316.out 1; have hcz13_0 : w10.cell? ⟨gb317, 0, none⟩ = some (.int .i64 0) := (blk_cell BK317.out 0).trans rfl; have hcz13_1 : w10.cell? ⟨gb317, 1, none⟩ = some (.int .i64 0) := (blk_cell BK317.out 1).trans rfl; have hfz13_0 := blk_frozen BK317.out 0; have hfz13_1 := blk_frozen BK317.out 1) | ((with_reducible refine gate_callee (f := 7) rfl ?_); refine goesL_ (some 42) rfl rfl Try.func7 (by kernel_rfl) rfl #[.agg #[.int .i64 t312, .int .i64 t313], .agg #[.int .i64 t314, .int .i64 t315]] rfl (by (try simp only [List.map_toArray, List.map_cons, List.map_nil]); first | done | rfl | (simp only [List.length_drop, List.length_take]; rfl)) ?_; (with_reducible refine (impl_RelationOf.calls k t312 t313 t314 t315 t318 t319 _ A5.out).mono ?_); rintro e w14 ⟨rfl, hb⟩; refine ⟨_, rfl, ?_⟩; have n0_ := Aside0.mk (blk_below (g := gb316) (o := .cells #[.int .i64 t312, .int .i64 t313] 24 (0, 0)) (by (with_reducible repeat (first | refine blk_drewN ?_ _ | refine blk_drew ?_ | refine blk_alloc ?_ _)); refine blk_far ?_ NB316_317.out _; (with_reducible repeat (first | refine blk_drewN ?_ _ | refine blk_drew ?_ | refine blk_alloc ?_ _)); refine blk_far ?_ NB316_317.out _; (with_reducible repeat (first | refine blk_drewN ?_ _ | refine blk_drew ?_ | refine blk_alloc ?_ _)); refine blk_put (cs := #[.int .i64 t312, .int .i64 0]) ?_ 1 _ rfl; (with_reducible repeat (first | refine blk_drewN ?_ _ | refine blk_drew ?_ | refine blk_alloc ?_ _)); refine blk_put (cs := #[.int .i64 0, .int .i64 0]) ?_ 0 _ rfl; (with_reducible repeat (first | refine blk_drewN ?_ _ | refine blk_drew ?_ | refine blk_alloc ?_ _)); exact BK316.out) hb); have n1_ := Aside0.mk (blk_below (g := gb317) (o := .cells #[.int .i64 t314, .int .i64 t315] 24 (0, 0)) (by (with_reducible repeat (first | refine blk_drewN ?_ _ | refine blk_drew ?_ | refine blk_alloc ?_ _)); refine blk_put (cs := #[.int .i64 t314, .int .i64 0]) ?_ 1 _ rfl; (with_reducible repeat (first | refine blk_drewN ?_ _ | refine blk_drew ?_ | refine blk_alloc ?_ _)); refine blk_put (cs := #[.int .i64 0, .int .i64 0]) ?_ 0 _ rfl; (with_reducible repeat (first | refine blk_drewN ?_ _ | refine blk_drew ?_ | refine blk_alloc ?_ _)); refine blk_far ?_ NB317_316.out _; (with_reducible repeat (first | refine blk_drewN ?_ _ | refine blk_drew ?_ | refine blk_alloc ?_ _)); refine blk_far ?_ NB317_316.out _; (with_reducible repeat (first | refine blk_drewN ?_ _ | refine blk_drew ?_ | refine blk_alloc ?_ _)); exact BK317.out) hb); have n2_ := Aside0.mk (below_step (by repeat (first | (with_reducible first | exact HB.out | apply below_alloc | apply pw_below_drewN | apply below_drew1 | refine below_set ?_ GE316.out | refine below_set ?_ GE317.out) | exact HB.out)) hb); clear BK316; clear BK317; clear HB; have BK316 := n0_; have BK317 := n1_; have HB := n2_; clear n0_ n1_ n2_; (try clear hb); (try clear hb2); (try clear hk); (try clear hi); have hcz15_0 : w14.cell? ⟨gb316, 0, none⟩ = some (.int .i64 t312) := (blk_cell BK316.out 0).trans rfl; have hcz15_1 : w14.cell? ⟨gb316, 1, none⟩ = some (.int .i64 t313) := (blk_cell BK316.out 1).trans rfl; have hfz15_0 := blk_frozen BK316.out 0; have hfz15_1 := blk_frozen BK316.out 1; have hcz16_0 : w14.cell? ⟨gb317, 0, none⟩ = some (.int .i64 t314) := (blk_cell BK317.out 0).trans rfl; have hcz16_1 : w14.cell? ⟨gb317, 1, none⟩ = some (.int .i64 t315) := (blk_cell BK317.out 1).trans rfl; have hfz16_0 := blk_frozen BK317.out 0; have hfz16_1 := blk_frozen BK317.out 1) | ((with_reducible refine gate_callee (f := 8) rfl ?_); refine goesL_ (some 48) rfl rfl Try.func8 (by kernel_rfl) rfl #[.agg #[.int .i64 t312, .int .i64 t313], .agg #[.int .i64 t314, .int .i64 t315]] rfl (by (try simp only [List.map_toArray, List.map_cons, List.map_nil]); first | done | rfl | (simp only [List.length_drop, List.length_take]; rfl)) ?_; (with_reducible refine (spec_RelationOf.calls k t312 t313 t314 t315 t320 t321 _ A6.out).mono ?_); rintro e w17 ⟨rfl, hb⟩; refine ⟨_, rfl, ?_⟩; have n0_ := Aside0.mk (blk_below (g := gb316) (o := .cells #[.int .i64 t312, .int .i64 t313] 24 (0, 0)) (by (with_reducible repeat (first | refine blk_drewN ?_ _ | refine blk_drew ?_ | refine blk_alloc ?_ _)); exact BK316.out) hb); have n1_ := Aside0.mk (blk_below (g := gb317) (o := .cells #[.int .i64 t314, .int .i64 t315] 24 (0, 0)) (by (with_reducible repeat (first | refine blk_drewN ?_ _ | refine blk_drew ?_ | refine blk_alloc ?_ _)); exact BK317.out) hb); have n2_ := Aside0.mk (below_step (by repeat (first | (with_reducible first | exact HB.out | apply below_alloc | apply pw_below_drewN | apply below_drew1 | refine below_set ?_ GE316.out | refine below_set ?_ GE317.out) | exact HB.out)) hb); clear BK316; clear BK317; clear HB; have BK316 := n0_; have BK317 := n1_; have HB := n2_; clear n0_ n1_ n2_; (try clear hb); (try clear hb2); (try clear hk); (try clear hi)))
  (try simp only [Act.put, List.setIfInBounds_toArray, List.set_cons_zero, List.set_cons_succ])
  go_cut [58] (fun v58 wc => ∃ (kq : Nat) (x58_6 : Bool), v58 = .bool x58_6 ∧ Aside0 (laws_FnRelations.j0 kq l1 t318 t319 x58_6 t312 t313 t314 t315 = some r) ∧ Aside0 (kq ≤ k) ∧ Aside0 (wc.heap[gb316]? = some (.cells #[.int .i64 t312, .int .i64 t313] 24 (0, 0))) ∧ Aside0 (wc.heap[gb317]? = some (.cells #[.int .i64 t314, .int .i64 t315] 24 (0, 0))) ∧ Aside0 (Below w.heap.size w wc))
  case first =>
   as_aux_lemma =>
    have H := HC7.out
    clear HC7
    by_cases c18 : (t319 != t321) = true
    ·rw [if_pos c18] at H
     exact absurd H (by simp)
    ·rw [if_neg c18] at H
     have c18b0 : (t319 != t321) = false := by simpa using c18
     (try (have c18b1 : decide (t319 = t321) = true := by simpa using c18))
     (try (have c18b2 : (t319 == t321) = true := by simpa using c18))
     clear c18
     (first | rw [c18b0] | (simp only [i64_w, i32_w]; rw [c18b0]) | skip)
     have H' := Aside0.mk H
     clear H
     as_aux_lemma =>
      go_wp2
      go_meet
      case rel => exact ⟨_, ((t318 != t320)), (by first | rfl | (simp; done) | (simp [*]; done)), H', ⟨by first | omega | exact Nat.le_refl _⟩, ⟨by (with_reducible repeat (first | refine blk_drewN ?_ _ | refine blk_drew ?_ | refine blk_alloc ?_ _)); exact BK316.out⟩, ⟨by (with_reducible repeat (first | refine blk_drewN ?_ _ | refine blk_drew ?_ | refine blk_alloc ?_ _)); exact BK317.out⟩, ⟨by repeat (first | (with_reducible first | exact HB.out | apply below_alloc | apply pw_below_drewN | apply below_drew1 | refine below_set ?_ GE316.out | refine below_set ?_ GE317.out) | exact HB.out)⟩⟩
  case rest =>
   as_aux_lemma =>
    clear HC7
    try clear c1
    try clear p2
    try clear c3
    try clear c3b0
    try clear c6
    try clear p6
    try clear c7
    try clear c8
    try clear c11
    try clear c18
    try clear c18b0
    try clear c18b1
    try clear c18b2
    try clear hcz12_0
    try clear hcz12_1
    try clear hcz13_0
    try clear hcz13_1
    try clear hcz15_0
    try clear hcz15_1
    try clear hcz16_0
    try clear hcz16_1
    try clear hfz12_0
    try clear hfz12_1
    try clear hfz13_0
    try clear hfz13_1
    try clear hfz15_0
    try clear hfz15_1
    try clear hfz16_0
    try clear hfz16_1
    obtain ⟨kq, x58_6, rfl, HA, HJ6, BK316, BK317, HB⟩ := hcut
    cases kq with
    | zero => exact absurd HA.out (by simp [laws_FnRelations.j0])
    | succ kj6 =>
     have H := HA.out
     clear HA
     simp only [laws_FnRelations.j0] at H
     by_cases c19 : x58_6 = true
     ·subst c19
      have H1 : (none) = some r := by rw [if_pos rfl] at H; exact H
      clear H
      have H := H1
      clear H1
      exact absurd H (by simp)
     ·replace c19 := Bool.eq_false_iff.mpr c19
      subst c19
      have H1 : (if t319 = true then ((impl_RelationOf.f kj6 t314 t315 t312 t313).bind fun bt322 => ((impl_MeetSpans.f kj6 (([(⟨t312, t313⟩ : S24)] : List (S24))) (([(⟨t314, t315⟩ : S24)] : List (S24)))).bind fun bt330 => (if t318 = 3 then (laws_FnRelations.j1 kj6 l1 t318 bt322.1 bt322.2 bt330.1 bt330.2 3) else (if t318 < 3 then (laws_FnRelations.j1 kj6 l1 t318 bt322.1 bt322.2 bt330.1 bt330.2 (wrap64 (t318 + 7))) else (if t318 < 8 then (laws_FnRelations.j1 kj6 l1 t318 bt322.1 bt322.2 bt330.1 bt330.2 (wrap64 (t318 + 6))) else (if t318 < 10 then (laws_FnRelations.j1 kj6 l1 t318 bt322.1 bt322.2 bt330.1 bt330.2 (wrap64 (t318 - 7))) else (laws_FnRelations.j1 kj6 l1 t318 bt322.1 bt322.2 bt330.1 bt330.2 (wrap64 (t318 - 6))))))))) else (laws_FnRelations.j4 kj6 l1)) = some r := by rw [if_neg (show ¬ (false = true) by decide)] at H; exact H
      clear H
      have H := H1
      clear H1
      have HC20 := Aside0.mk H
      clear H
      go_upto_if 59 with (fail)
      go_cut [] (fun wc => ∃ (kq : Nat), Aside0 (laws_FnRelations.j4 kq l1 = some r) ∧ Aside0 (kq ≤ kj6) ∧ Aside0 (wc.heap[gb316]? = some (.cells #[.int .i64 t312, .int .i64 t313] 24 (0, 0))) ∧ Aside0 (wc.heap[gb317]? = some (.cells #[.int .i64 t314, .int .i64 t315] 24 (0, 0))) ∧ Aside0 (Below w.heap.size w wc))
      case first =>
       as_aux_lemma =>
        have H := HC20.out
        clear HC20
        by_cases c21 : t319 = true
        ·subst c21
         have H1 : ((impl_RelationOf.f kj6 t314 t315 t312 t313).bind fun bt322 => ((impl_MeetSpans.f kj6 (([(⟨t312, t313⟩ : S24)] : List (S24))) (([(⟨t314, t315⟩ : S24)] : List (S24)))).bind fun bt330 => (if t318 = 3 then (laws_FnRelations.j1 kj6 l1 t318 bt322.1 bt322.2 bt330.1 bt330.2 3) else (if t318 < 3 then (laws_FnRelations.j1 kj6 l1 t318 bt322.1 bt322.2 bt330.1 bt330.2 (wrap64 (t318 + 7))) else (if t318 < 8 then (laws_FnRelations.j1 kj6 l1 t318 bt322.1 bt322.2 bt330.1 bt330.2 (wrap64 (t318 + 6))) else (if t318 < 10 then (laws_FnRelations.j1 kj6 l1 t318 bt322.1 bt322.2 bt330.1 bt330.2 (wrap64 (t318 - 7))) else (laws_FnRelations.j1 kj6 l1 t318 bt322.1 bt322.2 bt330.1 bt330.2 (wrap64 (t318 - 6))))))))) = some r := by rw [if_pos rfl] at H; exact H
         clear H
         have H := H1
         clear H1
         replace H := Option.bind_eq_some_iff.mp H
         obtain ⟨⟨t322, t323⟩, A220, H⟩ := H
         replace H : ((impl_MeetSpans.f kj6 (([(⟨t312, t313⟩ : S24)] : List (S24))) (([(⟨t314, t315⟩ : S24)] : List (S24)))).bind fun bt330 => (if t318 = 3 then (laws_FnRelations.j1 kj6 l1 t318 t322 t323 bt330.1 bt330.2 3) else (if t318 < 3 then (laws_FnRelations.j1 kj6 l1 t318 t322 t323 bt330.1 bt330.2 (wrap64 (t318 + 7))) else (if t318 < 8 then (laws_FnRelations.j1 kj6 l1 t318 t322 t323 bt330.1 bt330.2 (wrap64 (t318 + 6))) else (if t318 < 10 then (laws_FnRelations.j1 kj6 l1 t318 t322 t323 bt330.1 bt330.2 (wrap64 (t318 - 7))) else (laws_FnRelations.j1 kj6 l1 t318 t322 t323 bt330.1 bt330.2 (wrap64 (t318 - 6)))))))) = some r := H
         have A22 := Aside0.mk A220
         clear A220
         obtain ⟨y324, hy324⟩ : ∃ y_ : List (S24), y_ = (([(⟨t312, t313⟩ : S24)] : List (S24))) := ⟨_, rfl⟩
         replace H : ((impl_MeetSpans.f kj6 y324 (([(⟨t314, t315⟩ : S24)] : List (S24)))).bind fun bt330 => (if t318 = 3 then (laws_FnRelations.j1 kj6 l1 t318 t322 t323 bt330.1 bt330.2 3) else (if t318 < 3 then (laws_FnRelations.j1 kj6 l1 t318 t322 t323 bt330.1 bt330.2 (wrap64 (t318 + 7))) else (if t318 < 8 then (laws_FnRelations.j1 kj6 l1 t318 t322 t323 bt330.1 bt330.2 (wrap64 (t318 + 6))) else (if t318 < 10 then (laws_FnRelations.j1 kj6 l1 t318 t322 t323 bt330.1 bt330.2 (wrap64 (t318 - 7))) else (laws_FnRelations.j1 kj6 l1 t318 t322 t323 bt330.1 bt330.2 (wrap64 (t318 - 6)))))))) = some r := by first | (rw [hy324]; with_reducible exact H) | (have H2_ := (Option.bind_some _ _).symm.trans H; rw [hy324]; with_reducible exact H2_) | (have H2_ := (Option.bind_some _ _).symm.trans H; with_reducible exact H2_) | with_reducible exact H | (rw [hy324]; exact H) | exact H
         have Ny324 := Aside0.mk hy324
         clear hy324
         obtain ⟨y327, hy327⟩ : ∃ y_ : List (S24), y_ = (([(⟨t314, t315⟩ : S24)] : List (S24))) := ⟨_, rfl⟩
         replace H : ((impl_MeetSpans.f kj6 y324 y327).bind fun bt330 => (if t318 = 3 then (laws_FnRelations.j1 kj6 l1 t318 t322 t323 bt330.1 bt330.2 3) else (if t318 < 3 then (laws_FnRelations.j1 kj6 l1 t318 t322 t323 bt330.1 bt330.2 (wrap64 (t318 + 7))) else (if t318 < 8 then (laws_FnRelations.j1 kj6 l1 t318 t322 t323 bt330.1 bt330.2 (wrap64 (t318 + 6))) else (if t318 < 10 then (laws_FnRelations.j1 kj6 l1 t318 t322 t323 bt330.1 bt330.2 (wrap64 (t318 - 7))) else (laws_FnRelations.j1 kj6 l1 t318 t322 t323 bt330.1 bt330.2 (wrap64 (t318 - 6)))))))) = some r := by first | (rw [hy327]; with_reducible exact H) | (have H2_ := (Option.bind_some _ _).symm.trans H; rw [hy327]; with_reducible exact H2_) | (have H2_ := (Option.bind_some _ _).symm.trans H; with_reducible exact H2_) | with_reducible exact H | (rw [hy327]; exact H) | exact H
         have Ny327 := Aside0.mk hy327
         clear hy327
         replace H := Option.bind_eq_some_iff.mp H
         obtain ⟨⟨t330, t331⟩, A230, H⟩ := H
         replace H : (if t318 = 3 then (laws_FnRelations.j1 kj6 l1 t318 t322 t323 t330 t331 3) else (if t318 < 3 then (laws_FnRelations.j1 kj6 l1 t318 t322 t323 t330 t331 (wrap64 (t318 + 7))) else (if t318 < 8 then (laws_FnRelations.j1 kj6 l1 t318 t322 t323 t330 t331 (wrap64 (t318 + 6))) else (if t318 < 10 then (laws_FnRelations.j1 kj6 l1 t318 t322 t323 t330 t331 (wrap64 (t318 - 7))) else (laws_FnRelations.j1 kj6 l1 t318 t322 t323 t330 t331 (wrap64 (t318 - 6))))))) = some r := H
         have A23 := Aside0.mk A230
         clear A230
         have HC24 := Aside0.mk H
         clear H
         have hnb25 := NB317_316.out
         have hnc25 := NB316_317.out
         have hcz26_0 : wc.cell? ⟨gb317, 0, none⟩ = some (.int .i64 t314) := (blk_cell BK317.out 0).trans rfl
         have hcz26_1 : wc.cell? ⟨gb317, 1, none⟩ = some (.int .i64 t315) := (blk_cell BK317.out 1).trans rfl
         have hfz26_0 := blk_frozen BK317.out 0
         have hfz26_1 := blk_frozen BK317.out 1
         have hcz27_0 : wc.cell? ⟨gb316, 0, none⟩ = some (.int .i64 t312) := (blk_cell BK316.out 0).trans rfl
         have hcz27_1 : wc.cell? ⟨gb316, 1, none⟩ = some (.int .i64 t313) := (blk_cell BK316.out 1).trans rfl
         have hfz27_0 := blk_frozen BK316.out 0
         have hfz27_1 := blk_frozen BK316.out 1
         go_upto_block 0 with (first | ((with_reducible refine gate_callee (f := 7) rfl ?_); refine goesL_ (some 63) rfl rfl Try.func7 (by kernel_rfl) rfl #[.agg #[.int .i64 t314, .int .i64 t315], .agg #[.int .i64 t312, .int .i64 t313]] rfl (by (try simp only [List.map_toArray, List.map_cons, List.map_nil]); first | done | rfl | (simp only [List.length_drop, List.length_take]; rfl)) ?_; (with_reducible refine (impl_RelationOf.calls kj6 t314 t315 t312 t313 t322 t323 _ A22.out).mono ?_); rintro e w28 ⟨rfl, hb⟩; refine ⟨_, rfl, ?_⟩; have n0_ := Aside0.mk (blk_below (g := gb316) (o := .cells #[.int .i64 t312, .int .i64 t313] 24 (0, 0)) (by (with_reducible repeat (first | refine blk_drewN ?_ _ | refine blk_drew ?_ | refine blk_alloc ?_ _)); exact BK316.out) hb); have n1_ := Aside0.mk (blk_below (g := gb317) (o := .cells #[.int .i64 t314, .int .i64 t315] 24 (0, 0)) (by (with_reducible repeat (first | refine blk_drewN ?_ _ | refine blk_drew ?_ | refine blk_alloc ?_ _)); exact BK317.out) hb); have n2_ := Aside0.mk (below_step (by repeat (first | (with_reducible first | exact HB.out | apply below_alloc | apply pw_below_drewN | apply below_drew1 | refine below_set ?_ GE316.out | refine below_set ?_ GE317.out) | exact HB.out)) hb); clear BK316; clear BK317; clear HB; have BK316 := n0_; have BK317 := n1_; have HB := n2_; clear n0_ n1_ n2_; (try clear hb); (try clear hb2); (try clear hk); (try clear hi); have hcz29_0 : w28.cell? ⟨gb316, 0, none⟩ = some (.int .i64 t312) := (blk_cell BK316.out 0).trans rfl; have hcz29_1 : w28.cell? ⟨gb316, 1, none⟩ = some (.int .i64 t313) := (blk_cell BK316.out 1).trans rfl; have hfz29_0 := blk_frozen BK316.out 0; have hfz29_1 := blk_frozen BK316.out 1) | ((with_reducible refine gate_dst (N := 68) rfl ?_); (try (refine gate_guard (by rfl) ?_; dsimp only)); refine Kd.R_lit k24 _ 24 ?hg (N := 68) ?hd (xs := ([(⟨t312, t313⟩ : S24)] : List (S24))) (inner := [.int .i64 t312, .int .i64 t313]) (ok := fun _ => True) (okp := fun _ => True) ?hr ?hp (fun _ hk => hk) trivial (Below.refl _ _) (Nat.le_refl _) (by simp) ?_; (case hd => rfl); (case hg => rfl); (case hr => first | (go_simp; done) | (go_simp; rfl)); (case hp => exact (Reps.c2 (show Kd.M k24 _ _ _ (⟨t312, t313⟩ : S24) [.int .i64 t312, .int .i64 t313] from (k24_mkM _ _ _ (⟨t312, t313⟩ : S24) )) (Reps.none _ _))); intro v325 w30 ho31 hb hg_ hnew_; clear hg_ hnew_; (first | rw [← Ny324.out] at ho31 | (simp only [Int.reduceToNat] at ho31; rw [← Ny324.out] at ho31)); have n0_ := Aside0.mk (Kd.R_lower (Kd.R_newB (Kd.R_newB ho31 (g := gb316) (o := .cells #[.int .i64 t312, .int .i64 t313] 24 (0, 0)) (by (with_reducible repeat (first | refine blk_drewN ?_ _ | refine blk_drew ?_ | refine blk_alloc ?_ _)); exact BK316.out)) (g := gb317) (o := .cells #[.int .i64 t314, .int .i64 t315] 24 (0, 0)) (by (with_reducible repeat (first | refine blk_drewN ?_ _ | refine blk_drew ?_ | refine blk_alloc ?_ _)); exact BK317.out)) (below_size (by repeat (first | (with_reducible first | exact HB.out | apply below_alloc | apply pw_below_drewN | apply below_drew1 | refine below_set ?_ GE316.out | refine below_set ?_ GE317.out) | exact HB.out)))); have n1_ := Aside0.mk (blk_below (g := gb316) (o := .cells #[.int .i64 t312, .int .i64 t313] 24 (0, 0)) (by (with_reducible repeat (first | refine blk_drewN ?_ _ | refine blk_drew ?_ | refine blk_alloc ?_ _)); exact BK316.out) hb); have n2_ := Aside0.mk (blk_below (g := gb317) (o := .cells #[.int .i64 t314, .int .i64 t315] 24 (0, 0)) (by (with_reducible repeat (first | refine blk_drewN ?_ _ | refine blk_drew ?_ | refine blk_alloc ?_ _)); exact BK317.out) hb); have n3_ := Aside0.mk (below_step (by repeat (first | (with_reducible first | exact HB.out | apply below_alloc | apply pw_below_drewN | apply below_drew1 | refine below_set ?_ GE316.out | refine below_set ?_ GE317.out) | exact HB.out)) hb); clear BK316; clear BK317; clear HB; have HO326 := n0_; have BK316 := n1_; have BK317 := n2_; have HB := n3_; clear n0_ n1_ n2_ n3_; clear hb ho31; have hcz32_0 : w30.cell? ⟨gb317, 0, none⟩ = some (.int .i64 t314) := (blk_cell BK317.out 0).trans rfl; have hcz32_1 : w30.cell? ⟨gb317, 1, none⟩ = some (.int .i64 t315) := (blk_cell BK317.out 1).trans rfl; have hfz32_0 := blk_frozen BK317.out 0; have hfz32_1 := blk_frozen BK317.out 1) | ((with_reducible refine gate_dst (N := 70) rfl ?_); (try (refine gate_guard (by rfl) ?_; dsimp only)); refine Kd.R_lit k24 _ 24 ?hg (N := 70) ?hd (xs := ([(⟨t314, t315⟩ : S24)] : List (S24))) (inner := [.int .i64 t314, .int .i64 t315]) (ok := fun _ => True) (okp := fun _ => True) ?hr ?hp (fun _ hk => hk) trivial (Below.refl _ _) (Nat.le_refl _) (by simp) ?_; (case hd => rfl); (case hg => rfl); (case hr => first | (go_simp; done) | (go_simp; rfl)); (case hp => exact (Reps.c2 (show Kd.M k24 _ _ _ (⟨t314, t315⟩ : S24) [.int .i64 t314, .int .i64 t315] from (k24_mkM _ _ _ (⟨t314, t315⟩ : S24) )) (Reps.none _ _))); intro v328 w33 ho34 hb hg_ hnew_; clear hg_ hnew_; (first | rw [← Ny327.out] at ho34 | (simp only [Int.reduceToNat] at ho34; rw [← Ny327.out] at ho34)); have n0_ := Aside0.mk (Kd.R_elder' (by (with_reducible repeat (first | apply Kd.R_alloc | apply Kd.R_drewN | apply Kd.R_drew)); exact HO326.out) (Kd.R_base ho34) hb); have n1_ := Aside0.mk (Kd.R_lower (Kd.R_newB (Kd.R_newB (Kd.R_new' ho34 (Kd.R_lt (by (with_reducible repeat (first | apply Kd.R_alloc | apply Kd.R_drewN | apply Kd.R_drew)); exact HO326.out))) (g := gb316) (o := .cells #[.int .i64 t312, .int .i64 t313] 24 (0, 0)) (by (with_reducible repeat (first | refine blk_drewN ?_ _ | refine blk_drew ?_ | refine blk_alloc ?_ _)); exact BK316.out)) (g := gb317) (o := .cells #[.int .i64 t314, .int .i64 t315] 24 (0, 0)) (by (with_reducible repeat (first | refine blk_drewN ?_ _ | refine blk_drew ?_ | refine blk_alloc ?_ _)); exact BK317.out)) (below_size (by repeat (first | (with_reducible first | exact HB.out | apply below_alloc | apply pw_below_drewN | apply below_drew1 | refine below_set ?_ GE316.out | refine below_set ?_ GE317.out) | exact HB.out)))); have n2_ := Aside0.mk (blk_below (g := gb316) (o := .cells #[.int .i64 t312, .int .i64 t313] 24 (0, 0)) (by (with_reducible repeat (first | refine blk_drewN ?_ _ | refine blk_drew ?_ | refine blk_alloc ?_ _)); exact BK316.out) hb); have n3_ := Aside0.mk (blk_below (g := gb317) (o := .cells #[.int .i64 t314, .int .i64 t315] 24 (0, 0)) (by (with_reducible repeat (first | refine blk_drewN ?_ _ | refine blk_drew ?_ | refine blk_alloc ?_ _)); exact BK317.out) hb); have n4_ := Aside0.mk (below_step (by repeat (first | (with_reducible first | exact HB.out | apply below_alloc | apply pw_below_drewN | apply below_drew1 | refine below_set ?_ GE316.out | refine below_set ?_ GE317.out) | exact HB.out)) hb); clear HO326; clear BK316; clear BK317; clear HB; have HO326 := n0_; have HO329 := n1_; have BK316 := n2_; have BK317 := n3_; have HB := n4_; clear n0_ n1_ n2_ n3_ n4_; clear hb ho34; obtain ⟨Ao35, co35, eo35⟩ := Kd.R_slice HO326.out; subst eo35; obtain ⟨Ao36, co36, eo36⟩ := Kd.R_slice HO329.out; subst eo36) | ((with_reducible refine gate_callee (f := 9) rfl ?_); refine goesL_ (some 71) rfl rfl Try.func9 (by kernel_rfl) rfl #[.slice Ao35 y324.length co35, .slice Ao36 y327.length co36] rfl (by (try simp only [List.map_toArray, List.map_cons, List.map_nil]); first | done | rfl | (simp only [List.length_drop, List.length_take]; rfl)) ?_; (with_reducible refine (impl_MeetSpans.calls kj6 _ _ y324 _ _ y327 t330 t331 _ ?side1 ?side2 ?side3 ?side4 A23.out).mono ?_); (case side1 => repeat (first | exact (Kd.R_reads' HO326.out).2.2 | (with_reducible refine Kd.C_alloc ?_ _) | (with_reducible refine Kd.C_drewN ?_ _) | (with_reducible refine Kd.C_drew ?_))); (case side2 => exact (Kd.R_reads' HO326.out).2.1); (case side3 => repeat (first | exact (Kd.R_reads' HO329.out).2.2 | (with_reducible refine Kd.C_alloc ?_ _) | (with_reducible refine Kd.C_drewN ?_ _) | (with_reducible refine Kd.C_drew ?_))); (case side4 => exact (Kd.R_reads' HO329.out).2.1); rintro e w37 ⟨v332, rfl, ho0, hb⟩; refine ⟨_, rfl, ?_⟩; have n0_ := Aside0.mk (Kd.R_elder' (by (with_reducible repeat (first | apply Kd.R_alloc | apply Kd.R_drewN | apply Kd.R_drew)); exact HO326.out) (Kd.R_base ho0) hb); have n1_ := Aside0.mk (Kd.R_elder' (by (with_reducible repeat (first | apply Kd.R_alloc | apply Kd.R_drewN | apply Kd.R_drew)); exact HO329.out) (Kd.R_base ho0) hb); have n2_ := Aside0.mk (Kd.R_lower (Kd.R_newB (Kd.R_newB (Kd.R_new' (Kd.R_new' ho0 (Kd.R_lt (by (with_reducible repeat (first | apply Kd.R_alloc | apply Kd.R_drewN | apply Kd.R_drew)); exact HO326.out))) (Kd.R_lt (by (with_reducible repeat (first | apply Kd.R_alloc | apply Kd.R_drewN | apply Kd.R_drew)); exact HO329.out))) (g := gb316) (o := .cells #[.int .i64 t312, .int .i64 t313] 24 (0, 0)) (by (with_reducible repeat (first | refine blk_drewN ?_ _ | refine blk_drew ?_ | refine blk_alloc ?_ _)); exact BK316.out)) (g := gb317) (o := .cells #[.int .i64 t314, .int .i64 t315] 24 (0, 0)) (by (with_reducible repeat (first | refine blk_drewN ?_ _ | refine blk_drew ?_ | refine blk_alloc ?_ _)); exact BK317.out)) (below_size (by repeat (first | (with_reducible first | exact HB.out | apply below_alloc | apply pw_below_drewN | apply below_drew1 | refine below_set ?_ GE316.out | refine below_set ?_ GE317.out) | exact HB.out)))); have n3_ := Aside0.mk (blk_below (g := gb316) (o := .cells #[.int .i64 t312, .int .i64 t313] 24 (0, 0)) (by (with_reducible repeat (first | refine blk_drewN ?_ _ | refine blk_drew ?_ | refine blk_alloc ?_ _)); exact BK316.out) hb); have n4_ := Aside0.mk (blk_below (g := gb317) (o := .cells #[.int .i64 t314, .int .i64 t315] 24 (0, 0)) (by (with_reducible repeat (first | refine blk_drewN ?_ _ | refine blk_drew ?_ | refine blk_alloc ?_ _)); exact BK317.out) hb); have n5_ := Aside0.mk (below_step (by repeat (first | (with_reducible first | exact HB.out | apply below_alloc | apply pw_below_drewN | apply below_drew1 | refine below_set ?_ GE316.out | refine below_set ?_ GE317.out) | exact HB.out)) hb); clear HO326; clear HO329; clear BK316; clear BK317; clear HB; have HO326 := n0_; have HO329 := n1_; have HO333 := n2_; have BK316 := n3_; have BK317 := n4_; have HB := n5_; clear n0_ n1_ n2_ n3_ n4_ n5_; (try clear hb); (try clear hb2); (try clear hk); (try clear hi); (try clear ho0)))
         (try simp only [Act.put, List.setIfInBounds_toArray, List.set_cons_zero, List.set_cons_succ])
         go_cut [15] (fun v15 wc => ∃ (kq : Nat) (x15_23 : Int), v15 = .int .i64 x15_23 ∧ Aside0 (laws_FnRelations.j1 kq l1 t318 t322 t323 t330 t331 x15_23 = some r) ∧ Aside0 (kq ≤ kj6) ∧ Aside0 (Kd.R k24 24 wc w.heap.size (fun k_ => k_ ≠ gb316 ∧ k_ ≠ gb317) v332 t330) ∧ Aside0 (wc.heap[gb316]? = some (.cells #[.int .i64 t312, .int .i64 t313] 24 (0, 0))) ∧ Aside0 (wc.heap[gb317]? = some (.cells #[.int .i64 t314, .int .i64 t315] 24 (0, 0))) ∧ Aside0 (Below w.heap.size w wc))
         case first =>
          as_aux_lemma =>
           have H := HC24.out
           clear HC24
           by_cases c38 : t318 = 3
           ·rw [if_pos c38] at H
            have c38b0 : (t318 == 3) = true := beq_iff_eq.mpr c38
            have c38b1 : (t318 != 3) = false := bne_eq_false_iff_eq.mpr c38
            clear c38
            (first | rw [c38b0] | (simp only [i64_w, i32_w]; rw [c38b0]) | skip)
            have H' := Aside0.mk H
            clear H
            as_aux_lemma =>
             go_wp2
             go_meet
             case rel => exact ⟨_, (3), (by first | rfl | (simp; done) | (simp [*]; done)), H', ⟨by have := HJ6.out; first | omega | exact Nat.le_refl _⟩, ⟨by (with_reducible repeat (first | apply Kd.R_alloc | apply Kd.R_drewN | apply Kd.R_drew)); exact Kd.R_mono HO333.out (fun _ hk => ⟨hk.1.2, hk.2⟩)⟩, ⟨by (with_reducible repeat (first | refine blk_drewN ?_ _ | refine blk_drew ?_ | refine blk_alloc ?_ _)); exact BK316.out⟩, ⟨by (with_reducible repeat (first | refine blk_drewN ?_ _ | refine blk_drew ?_ | refine blk_alloc ?_ _)); exact BK317.out⟩, ⟨by repeat (first | (with_reducible first | exact HB.out | apply below_alloc | apply pw_below_drewN | apply below_drew1 | refine below_set ?_ GE316.out | refine below_set ?_ GE317.out) | exact HB.out)⟩⟩
           ·rw [if_neg c38] at H
            have c38b0 : (t318 == 3) = false := beq_eq_false_iff_ne.mpr c38
            have c38b1 : (t318 != 3) = true := bne_iff_ne.mpr c38
            (first | rw [c38b0] | (simp only [i64_w, i32_w]; rw [c38b0]) | skip)
            by_cases c39 : t318 < 3
            ·rw [if_pos c39] at H
             have c39b0 : decide (t318 < 3) = true := decide_eq_true c39
             clear c39
             have H' := Aside0.mk H
             clear H
             as_aux_lemma =>
              go_wp2
              go_meet
              case rel => exact ⟨_, (wrap64 (t318 + 7)), (by first | rfl | (simp; done) | (simp [*]; done)), H', ⟨by have := HJ6.out; first | omega | exact Nat.le_refl _⟩, ⟨by (with_reducible repeat (first | apply Kd.R_alloc | apply Kd.R_drewN | apply Kd.R_drew)); exact Kd.R_mono HO333.out (fun _ hk => ⟨hk.1.2, hk.2⟩)⟩, ⟨by (with_reducible repeat (first | refine blk_drewN ?_ _ | refine blk_drew ?_ | refine blk_alloc ?_ _)); exact BK316.out⟩, ⟨by (with_reducible repeat (first | refine blk_drewN ?_ _ | refine blk_drew ?_ | refine blk_alloc ?_ _)); exact BK317.out⟩, ⟨by repeat (first | (with_reducible first | exact HB.out | apply below_alloc | apply pw_below_drewN | apply below_drew1 | refine below_set ?_ GE316.out | refine below_set ?_ GE317.out) | exact HB.out)⟩⟩
            ·rw [if_neg c39] at H
             have c39b0 : decide (t318 < 3) = false := decide_eq_false c39
             clear c39
             by_cases c40 : t318 < 8
             ·rw [if_pos c40] at H
              have c40b0 : decide (t318 < 8) = true := decide_eq_true c40
              clear c40
              have H' := Aside0.mk H
              clear H
              as_aux_lemma =>
               go_wp2
               go_meet
               case rel => exact ⟨_, (wrap64 (t318 + 6)), (by first | rfl | (simp; done) | (simp [*]; done)), H', ⟨by have := HJ6.out; first | omega | exact Nat.le_refl _⟩, ⟨by (with_reducible repeat (first | apply Kd.R_alloc | apply Kd.R_drewN | apply Kd.R_drew)); exact Kd.R_mono HO333.out (fun _ hk => ⟨hk.1.2, hk.2⟩)⟩, ⟨by (with_reducible repeat (first | refine blk_drewN ?_ _ | refine blk_drew ?_ | refine blk_alloc ?_ _)); exact BK316.out⟩, ⟨by (with_reducible repeat (first | refine blk_drewN ?_ _ | refine blk_drew ?_ | refine blk_alloc ?_ _)); exact BK317.out⟩, ⟨by repeat (first | (with_reducible first | exact HB.out | apply below_alloc | apply pw_below_drewN | apply below_drew1 | refine below_set ?_ GE316.out | refine below_set ?_ GE317.out) | exact HB.out)⟩⟩
             ·rw [if_neg c40] at H
              have c40b0 : decide (t318 < 8) = false := decide_eq_false c40
              clear c40
              by_cases c41 : t318 < 10
              ·rw [if_pos c41] at H
               have c41b0 : decide (t318 < 10) = true := decide_eq_true c41
               clear c41
               have H' := Aside0.mk H
               clear H
               as_aux_lemma =>
                go_wp2
                go_meet
                case rel => exact ⟨_, (wrap64 (t318 - 7)), (by first | rfl | (simp; done) | (simp [*]; done)), H', ⟨by have := HJ6.out; first | omega | exact Nat.le_refl _⟩, ⟨by (with_reducible repeat (first | apply Kd.R_alloc | apply Kd.R_drewN | apply Kd.R_drew)); exact Kd.R_mono HO333.out (fun _ hk => ⟨hk.1.2, hk.2⟩)⟩, ⟨by (with_reducible repeat (first | refine blk_drewN ?_ _ | refine blk_drew ?_ | refine blk_alloc ?_ _)); exact BK316.out⟩, ⟨by (with_reducible repeat (first | refine blk_drewN ?_ _ | refine blk_drew ?_ | refine blk_alloc ?_ _)); exact BK317.out⟩, ⟨by repeat (first | (with_reducible first | exact HB.out | apply below_alloc | apply pw_below_drewN | apply below_drew1 | refine below_set ?_ GE316.out | refine below_set ?_ GE317.out) | exact HB.out)⟩⟩
              ·rw [if_neg c41] at H
               have c41b0 : decide (t318 < 10) = false := decide_eq_false c41
               clear c41
               have H' := Aside0.mk H
               clear H
               as_aux_lemma =>
                go_wp2
                go_meet
                case rel => exact ⟨_, (wrap64 (t318 - 6)), (by first | rfl | (simp; done) | (simp [*]; done)), H', ⟨by have := HJ6.out; first | omega | exact Nat.le_refl _⟩, ⟨by (with_reducible repeat (first | apply Kd.R_alloc | apply Kd.R_drewN | apply Kd.R_drew)); exact Kd.R_mono HO333.out (fun _ hk => ⟨hk.1.2, hk.2⟩)⟩, ⟨by (with_reducible repeat (first | refine blk_drewN ?_ _ | refine blk_drew ?_ | refine blk_alloc ?_ _)); exact BK316.out⟩, ⟨by (with_reducible repeat (first | refine blk_drewN ?_ _ | refine blk_drew ?_ | refine blk_alloc ?_ _)); exact BK317.out⟩, ⟨by repeat (first | (with_reducible first | exact HB.out | apply below_alloc | apply pw_below_drewN | apply below_drew1 | refine below_set ?_ GE316.out | refine below_set ?_ GE317.out) | exact HB.out)⟩⟩
         case rest =>
          as_aux_lemma =>
           clear HC24
           try clear c1
           try clear c2
           try clear p2
           try clear c3
           try clear c3b0
           try clear c4
           try clear c6
           try clear p6
           try clear c7
           try clear c8
           try clear c9
           try clear c11
           try clear c18
           try clear c18b0
           try clear c18b1
           try clear c18b2
           try clear c19
           try clear c21
           try clear c25
           try clear c38
           try clear c38b0
           try clear c38b1
           try clear c39
           try clear c39b0
           try clear c40
           try clear c40b0
           try clear c41
           try clear c41b0
           try clear hcz12_0
           try clear hcz12_1
           try clear hcz13_0
           try clear hcz13_1
           try clear hcz15_0
           try clear hcz15_1
           try clear hcz16_0
           try clear hcz16_1
           try clear hcz26_0
           try clear hcz26_1
           try clear hcz27_0
           try clear hcz27_1
           try clear hcz29_0
           try clear hcz29_1
           try clear hcz32_0
           try clear hcz32_1
           try clear hfz12_0
           try clear hfz12_1
           try clear hfz13_0
           try clear hfz13_1
           try clear hfz15_0
           try clear hfz15_1
           try clear hfz16_0
           try clear hfz16_1
           try clear hfz26_0
           try clear hfz26_1
           try clear hfz27_0
           try clear hfz27_1
           try clear hfz29_0
           try clear hfz29_1
           try clear hfz32_0
           try clear hfz32_1
           try clear p2
           try clear p6
           obtain ⟨kq, x15_23, rfl, HA, HJ23, HO_13, BK316, BK317, HB⟩ := hcut
           cases kq with
           | zero => exact absurd HA.out (by simp [laws_FnRelations.j1])
           | succ kj23 =>
            have H := HA.out
            clear HA
            simp only [laws_FnRelations.j1] at H
            have HC42 := Aside0.mk H
            clear H
            go_upto_region 21 with (fail)
            go_cut [16] (fun v16 wc => ∃ (kq : Nat) (x16_41 : Bool), v16 = .bool x16_41 ∧ Aside0 (laws_FnRelations.j2 kq l1 t318 t322 t323 t330 t331 x15_23 x16_41 = some r) ∧ Aside0 (kq ≤ kj23) ∧ Aside0 (Kd.R k24 24 wc w.heap.size (fun k_ => k_ ≠ gb316 ∧ k_ ≠ gb317) v332 t330) ∧ Aside0 (wc.heap[gb316]? = some (.cells #[.int .i64 t312, .int .i64 t313] 24 (0, 0))) ∧ Aside0 (wc.heap[gb317]? = some (.cells #[.int .i64 t314, .int .i64 t315] 24 (0, 0))) ∧ Aside0 (Below w.heap.size w wc))
            case first =>
             as_aux_lemma =>
              have H := HC42.out
              clear HC42
              by_cases c43 : t318 = 1
              ·rw [if_pos c43] at H
               have c43b0 : (t318 == 1) = true := beq_iff_eq.mpr c43
               have c43b1 : (t318 != 1) = false := bne_eq_false_iff_eq.mpr c43
               clear c43
               (first | rw [c43b0] | (simp only [i64_w, i32_w]; rw [c43b0]) | skip)
               have H' := Aside0.mk H
               clear H
               as_aux_lemma =>
                go_wp2
                go_meet
                case rel => exact ⟨_, (true), (by first | rfl | (simp; done) | (simp [*]; done)), H', ⟨by have := HJ6.out; have := HJ23.out; first | omega | exact Nat.le_refl _⟩, ⟨by (with_reducible repeat (first | apply Kd.R_alloc | apply Kd.R_drewN | apply Kd.R_drew)); exact HO_13.out⟩, ⟨by (with_reducible repeat (first | refine blk_drewN ?_ _ | refine blk_drew ?_ | refine blk_alloc ?_ _)); exact BK316.out⟩, ⟨by (with_reducible repeat (first | refine blk_drewN ?_ _ | refine blk_drew ?_ | refine blk_alloc ?_ _)); exact BK317.out⟩, ⟨by repeat (first | (with_reducible first | exact HB.out | apply below_alloc | apply pw_below_drewN | apply below_drew1 | refine below_set ?_ GE316.out | refine below_set ?_ GE317.out) | exact HB.out)⟩⟩
              ·rw [if_neg c43] at H
               have c43b0 : (t318 == 1) = false := beq_eq_false_iff_ne.mpr c43
               have c43b1 : (t318 != 1) = true := bne_iff_ne.mpr c43
               (first | rw [c43b0] | (simp only [i64_w, i32_w]; rw [c43b0]) | skip)
               by_cases c44 : t318 = 2
               ·rw [if_pos c44] at H
                have c44b0 : (t318 == 2) = true := beq_iff_eq.mpr c44
                have c44b1 : (t318 != 2) = false := bne_eq_false_iff_eq.mpr c44
                clear c44
                have H' := Aside0.mk H
                clear H
                as_aux_lemma =>
                 go_wp2
                 go_meet
                 case rel => exact ⟨_, (true), (by first | rfl | (simp; done) | (simp [*]; done)), H', ⟨by have := HJ6.out; have := HJ23.out; first | omega | exact Nat.le_refl _⟩, ⟨by (with_reducible repeat (first | apply Kd.R_alloc | apply Kd.R_drewN | apply Kd.R_drew)); exact HO_13.out⟩, ⟨by (with_reducible repeat (first | refine blk_drewN ?_ _ | refine blk_drew ?_ | refine blk_alloc ?_ _)); exact BK316.out⟩, ⟨by (with_reducible repeat (first | refine blk_drewN ?_ _ | refine blk_drew ?_ | refine blk_alloc ?_ _)); exact BK317.out⟩, ⟨by repeat (first | (with_reducible first | exact HB.out | apply below_alloc | apply pw_below_drewN | apply below_drew1 | refine below_set ?_ GE316.out | refine below_set ?_ GE317.out) | exact HB.out)⟩⟩
               ·rw [if_neg c44] at H
                have c44b0 : (t318 == 2) = false := beq_eq_false_iff_ne.mpr c44
                have c44b1 : (t318 != 2) = true := bne_iff_ne.mpr c44
                by_cases c45 : t318 = 8
                ·rw [if_pos c45] at H
                 have c45b0 : (t318 == 8) = true := beq_iff_eq.mpr c45
                 have c45b1 : (t318 != 8) = false := bne_eq_false_iff_eq.mpr c45
                 clear c45
                 have H' := Aside0.mk H
                 clear H
                 as_aux_lemma =>
                  go_wp2
                  go_meet
                  case rel => exact ⟨_, (true), (by first | rfl | (simp; done) | (simp [*]; done)), H', ⟨by have := HJ6.out; have := HJ23.out; first | omega | exact Nat.le_refl _⟩, ⟨by (with_reducible repeat (first | apply Kd.R_alloc | apply Kd.R_drewN | apply Kd.R_drew)); exact HO_13.out⟩, ⟨by (with_reducible repeat (first | refine blk_drewN ?_ _ | refine blk_drew ?_ | refine blk_alloc ?_ _)); exact BK316.out⟩, ⟨by (with_reducible repeat (first | refine blk_drewN ?_ _ | refine blk_drew ?_ | refine blk_alloc ?_ _)); exact BK317.out⟩, ⟨by repeat (first | (with_reducible first | exact HB.out | apply below_alloc | apply pw_below_drewN | apply below_drew1 | refine below_set ?_ GE316.out | refine below_set ?_ GE317.out) | exact HB.out)⟩⟩
                ·rw [if_neg c45] at H
                 have c45b0 : (t318 == 8) = false := beq_eq_false_iff_ne.mpr c45
                 have c45b1 : (t318 != 8) = true := bne_iff_ne.mpr c45
                 have H' := Aside0.mk H
                 clear H
                 as_aux_lemma =>
                  go_wp2
                  go_meet
                  case rel => exact ⟨_, ((t318 == 9)), (by first | rfl | (simp; done) | (simp [*]; done)), H', ⟨by have := HJ6.out; have := HJ23.out; first | omega | exact Nat.le_refl _⟩, ⟨by (with_reducible repeat (first | apply Kd.R_alloc | apply Kd.R_drewN | apply Kd.R_drew)); exact HO_13.out⟩, ⟨by (with_reducible repeat (first | refine blk_drewN ?_ _ | refine blk_drew ?_ | refine blk_alloc ?_ _)); exact BK316.out⟩, ⟨by (with_reducible repeat (first | refine blk_drewN ?_ _ | refine blk_drew ?_ | refine blk_alloc ?_ _)); exact BK317.out⟩, ⟨by repeat (first | (with_reducible first | exact HB.out | apply below_alloc | apply pw_below_drewN | apply below_drew1 | refine below_set ?_ GE316.out | refine below_set ?_ GE317.out) | exact HB.out)⟩⟩
            case rest =>
             as_aux_lemma =>
              clear HC42
              try clear c1
              try clear c2
              try clear p2
              try clear c3
              try clear c3b0
              try clear c4
              try clear c6
              try clear p6
              try clear c7
              try clear c8
              try clear c9
              try clear c11
              try clear c18
              try clear c18b0
              try clear c18b1
              try clear c18b2
              try clear c19
              try clear c21
              try clear c25
              try clear c38
              try clear c38b0
              try clear c38b1
              try clear c39
              try clear c39b0
              try clear c40
              try clear c40b0
              try clear c41
              try clear c41b0
              try clear c43
              try clear c43b0
              try clear c43b1
              try clear c44
              try clear c44b0
              try clear c44b1
              try clear c45
              try clear c45b0
              try clear c45b1
              try clear hcz12_0
              try clear hcz12_1
              try clear hcz13_0
              try clear hcz13_1
              try clear hcz15_0
              try clear hcz15_1
              try clear hcz16_0
              try clear hcz16_1
              try clear hcz26_0
              try clear hcz26_1
              try clear hcz27_0
              try clear hcz27_1
              try clear hcz29_0
              try clear hcz29_1
              try clear hcz32_0
              try clear hcz32_1
              try clear hfz12_0
              try clear hfz12_1
              try clear hfz13_0
              try clear hfz13_1
              try clear hfz15_0
              try clear hfz15_1
              try clear hfz16_0
              try clear hfz16_1
              try clear hfz26_0
              try clear hfz26_1
              try clear hfz27_0
              try clear hfz27_1
              try clear hfz29_0
              try clear hfz29_1
              try clear hfz32_0
              try clear hfz32_1
              try clear p2
              try clear p6
              obtain ⟨kq, x16_41, rfl, HA, HJ41, HO_13, BK316, BK317, HB⟩ := hcut
              cases kq with
              | zero => exact absurd HA.out (by simp [laws_FnRelations.j2])
              | succ kj41 =>
               have H := HA.out
               clear HA
               simp only [laws_FnRelations.j2] at H
               have HC46 := Aside0.mk H
               clear H
               go_upto_region 22 with (fail)
               go_cut [133] (fun v133 wc => ∃ (kq : Nat) (x133_45 : Bool), v133 = .bool x133_45 ∧ Aside0 (laws_FnRelations.j3 kq l1 x133_45 = some r) ∧ Aside0 (kq ≤ kj41) ∧ Aside0 (wc.heap[gb316]? = some (.cells #[.int .i64 t312, .int .i64 t313] 24 (0, 0))) ∧ Aside0 (wc.heap[gb317]? = some (.cells #[.int .i64 t314, .int .i64 t315] 24 (0, 0))) ∧ Aside0 (Below w.heap.size w wc))
               case first =>
                as_aux_lemma =>
                 have H := HC46.out
                 clear HC46
                 by_cases c47 : t318 < 1
                 ·rw [if_pos c47] at H
                  exact absurd H (by simp)
                 ·rw [if_neg c47] at H
                  have c47b0 : decide (t318 < 1) = false := decide_eq_false c47
                  clear c47
                  (first | rw [c47b0] | (simp only [i64_w, i32_w]; rw [c47b0]) | skip)
                  by_cases c48 : t318 > 13
                  ·rw [if_pos c48] at H
                   exact absurd H (by simp)
                  ·rw [if_neg c48] at H
                   have c48b0 : decide (13 < t318) = false := decide_eq_false c48
                   clear c48
                   by_cases c49 : t323 = true
                   ·subst c49
                    have H1 : (if t322 = x15_23 then (if t331 = true then (laws_FnRelations.j3 kj41 l1 (((t330.length : Int) == 0) != x16_41)) else (none)) else (none)) = some r := by rw [if_pos rfl] at H; exact H
                    clear H
                    have H := H1
                    clear H1
                    by_cases c50 : t322 = x15_23
                    ·rw [if_pos c50] at H
                     have c50b0 : (t322 == x15_23) = true := beq_iff_eq.mpr c50
                     have c50b1 : (t322 != x15_23) = false := bne_eq_false_iff_eq.mpr c50
                     clear c50
                     by_cases c51 : t331 = true
                     ·subst c51
                      have H1 : (laws_FnRelations.j3 kj41 l1 (((t330.length : Int) == 0) != x16_41)) = some r := by rw [if_pos rfl] at H; exact H
                      clear H
                      have H := H1
                      clear H1
                      have H' := Aside0.mk H
                      clear H
                      obtain ⟨Ao52, co52, eo52⟩ := Kd.R_slice HO_13.out
                      subst eo52
                      as_aux_lemma =>
                       go_wp2
                       go_meet
                       case rel => exact ⟨_, ((((t330.length : Int) == 0) != x16_41)), (by first | rfl | (simp; done) | (simp [*]; done)), H', ⟨by have := HJ6.out; have := HJ23.out; have := HJ41.out; first | omega | exact Nat.le_refl _⟩, ⟨by (with_reducible repeat (first | refine blk_drewN ?_ _ | refine blk_drew ?_ | refine blk_alloc ?_ _)); exact BK316.out⟩, ⟨by (with_reducible repeat (first | refine blk_drewN ?_ _ | refine blk_drew ?_ | refine blk_alloc ?_ _)); exact BK317.out⟩, ⟨by repeat (first | (with_reducible first | exact HB.out | apply below_alloc | apply pw_below_drewN | apply below_drew1 | refine below_set ?_ GE316.out | refine below_set ?_ GE317.out) | exact HB.out)⟩⟩
                     ·replace c51 := Bool.eq_false_iff.mpr c51
                      subst c51
                      have H1 : (none) = some r := by rw [if_neg (show ¬ (false = true) by decide)] at H; exact H
                      clear H
                      have H := H1
                      clear H1
                      exact absurd H (by simp)
                    ·rw [if_neg c50] at H
                     exact absurd H (by simp)
                   ·replace c49 := Bool.eq_false_iff.mpr c49
                    subst c49
                    have H1 : (none) = some r := by rw [if_neg (show ¬ (false = true) by decide)] at H; exact H
                    clear H
                    have H := H1
                    clear H1
                    exact absurd H (by simp)
               case rest =>
                as_aux_lemma =>
                 clear HC46
                 try clear c1
                 try clear c2
                 try clear p2
                 try clear c3
                 try clear c3b0
                 try clear c4
                 try clear c5
                 try clear c6
                 try clear p6
                 try clear c7
                 try clear c8
                 try clear c9
                 try clear c11
                 try clear c18
                 try clear c18b0
                 try clear c18b1
                 try clear c18b2
                 try clear c19
                 try clear c21
                 try clear c25
                 try clear c38
                 try clear c38b0
                 try clear c38b1
                 try clear c39
                 try clear c39b0
                 try clear c40
                 try clear c40b0
                 try clear c41
                 try clear c41b0
                 try clear c43
                 try clear c43b0
                 try clear c43b1
                 try clear c44
                 try clear c44b0
                 try clear c44b1
                 try clear c45
                 try clear c45b0
                 try clear c45b1
                 try clear c47
                 try clear c47b0
                 try clear c48
                 try clear c48b0
                 try clear c49
                 try clear c50
                 try clear c50b0
                 try clear c50b1
                 try clear c51
                 try clear hcz12_0
                 try clear hcz12_1
                 try clear hcz13_0
                 try clear hcz13_1
                 try clear hcz15_0
                 try clear hcz15_1
                 try clear hcz16_0
                 try clear hcz16_1
                 try clear hcz26_0
                 try clear hcz26_1
                 try clear hcz27_0
                 try clear hcz27_1
                 try clear hcz29_0
                 try clear hcz29_1
                 try clear hcz32_0
                 try clear hcz32_1
                 try clear hfz12_0
                 try clear hfz12_1
                 try clear hfz13_0
                 try clear hfz13_1
                 try clear hfz15_0
                 try clear hfz15_1
                 try clear hfz16_0
                 try clear hfz16_1
                 try clear hfz26_0
                 try clear hfz26_1
                 try clear hfz27_0
                 try clear hfz27_1
                 try clear hfz29_0
                 try clear hfz29_1
                 try clear hfz32_0
                 try clear hfz32_1
                 try clear p2
                 try clear p6
                 obtain ⟨kq, x133_45, rfl, HA, HJ45, BK316, BK317, HB⟩ := hcut
                 cases kq with
                 | zero => exact absurd HA.out (by simp [laws_FnRelations.j3])
                 | succ kj45 =>
                  have H := HA.out
                  clear HA
                  simp only [laws_FnRelations.j3] at H
                  by_cases c53 : x133_45 = true
                  ·subst c53
                   have H1 : (none) = some r := by rw [if_pos rfl] at H; exact H
                   clear H
                   have H := H1
                   clear H1
                   exact absurd H (by simp)
                  ·replace c53 := Bool.eq_false_iff.mpr c53
                   subst c53
                   have H1 : (laws_FnRelations.j4 kj45 l1) = some r := by rw [if_neg (show ¬ (false = true) by decide)] at H; exact H
                   clear H
                   have H := H1
                   clear H1
                   have H' := Aside0.mk H
                   clear H
                   as_aux_lemma =>
                    go_wp2
                    go_meet
                    case rel => exact ⟨_, H', ⟨by have := HJ6.out; have := HJ23.out; have := HJ41.out; have := HJ45.out; first | omega | exact Nat.le_refl _⟩, ⟨by (with_reducible repeat (first | refine blk_drewN ?_ _ | refine blk_drew ?_ | refine blk_alloc ?_ _)); exact BK316.out⟩, ⟨by (with_reducible repeat (first | refine blk_drewN ?_ _ | refine blk_drew ?_ | refine blk_alloc ?_ _)); exact BK317.out⟩, ⟨by repeat (first | (with_reducible first | exact HB.out | apply below_alloc | apply pw_below_drewN | apply below_drew1 | refine below_set ?_ GE316.out | refine below_set ?_ GE317.out) | exact HB.out)⟩⟩
        ·replace c21 := Bool.eq_false_iff.mpr c21
         subst c21
         have H1 : (laws_FnRelations.j4 kj6 l1) = some r := by rw [if_neg (show ¬ (false = true) by decide)] at H; exact H
         clear H
         have H := H1
         clear H1
         have H' := Aside0.mk H
         clear H
         as_aux_lemma =>
          go_wp2
          go_meet
          case rel => exact ⟨_, H', ⟨by have := HJ6.out; first | omega | exact Nat.le_refl _⟩, ⟨by (with_reducible repeat (first | refine blk_drewN ?_ _ | refine blk_drew ?_ | refine blk_alloc ?_ _)); exact BK316.out⟩, ⟨by (with_reducible repeat (first | refine blk_drewN ?_ _ | refine blk_drew ?_ | refine blk_alloc ?_ _)); exact BK317.out⟩, ⟨by repeat (first | (with_reducible first | exact HB.out | apply below_alloc | apply pw_below_drewN | apply below_drew1 | refine below_set ?_ GE316.out | refine below_set ?_ GE317.out) | exact HB.out)⟩⟩
      case rest =>
       as_aux_lemma =>
        clear HC20
        try clear c1
        try clear c2
        try clear p2
        try clear c3
        try clear c3b0
        try clear c4
        try clear c5
        try clear c6
        try clear p6
        try clear c7
        try clear c8
        try clear c9
        try clear c11
        try clear c18
        try clear c18b0
        try clear c18b1
        try clear c18b2
        try clear c19
        try clear c21
        try clear c25
        try clear c38
        try clear c38b0
        try clear c38b1
        try clear c39
        try clear c39b0
        try clear c40
        try clear c40b0
        try clear c41
        try clear c41b0
        try clear c43
        try clear c43b0
        try clear c43b1
        try clear c44
        try clear c44b0
        try clear c44b1
        try clear c45
        try clear c45b0
        try clear c45b1
        try clear c47
        try clear c47b0
        try clear c48
        try clear c48b0
        try clear c49
        try clear c50
        try clear c50b0
        try clear c50b1
        try clear c51
        try clear c53
        try clear hcz12_0
        try clear hcz12_1
        try clear hcz13_0
        try clear hcz13_1
        try clear hcz15_0
        try clear hcz15_1
        try clear hcz16_0
        try clear hcz16_1
        try clear hcz26_0
        try clear hcz26_1
        try clear hcz27_0
        try clear hcz27_1
        try clear hcz29_0
        try clear hcz29_1
        try clear hcz32_0
        try clear hcz32_1
        try clear hfz12_0
        try clear hfz12_1
        try clear hfz13_0
        try clear hfz13_1
        try clear hfz15_0
        try clear hfz15_1
        try clear hfz16_0
        try clear hfz16_1
        try clear hfz26_0
        try clear hfz26_1
        try clear hfz27_0
        try clear hfz27_1
        try clear hfz29_0
        try clear hfz29_1
        try clear hfz32_0
        try clear hfz32_1
        try clear p2
        try clear p6
        obtain ⟨kq, HA, HJ19, BK316, BK317, HB⟩ := hcut
        cases kq with
        | zero => exact absurd HA.out (by simp [laws_FnRelations.j4])
        | succ kj19 =>
         have H := HA.out
         clear HA
         simp only [laws_FnRelations.j4] at H
         replace H := Option.bind_eq_some_iff.mp H
         obtain ⟨⟨t334, t335⟩, A540, H⟩ := H
         replace H : ((impl_HasPoint.f kj19 t334 t335).bind fun bt338 => ((spec_HasPoint.f kj19 t334 t335).bind fun bt340 => ((spec_DrawLengthOf.f kj19 l1).bind fun t342 => ((impl_LengthOf.f kj19 t342).bind fun bt345 => ((spec_LengthOf.f kj19 t342).bind fun bt347 => (if (bt338.2 == bt340.2) = true then (if (bt338.1 == bt340.1) = true then (if (bt345.2 == bt347.2) = true then (some (bt345.1 == bt347.1)) else (none)) else (none)) else (none))))))) = some r := H
         have A54 := Aside0.mk A540
         clear A540
         replace H := Option.bind_eq_some_iff.mp H
         obtain ⟨⟨t338, t339⟩, A550, H⟩ := H
         replace H : ((spec_HasPoint.f kj19 t334 t335).bind fun bt340 => ((spec_DrawLengthOf.f kj19 l1).bind fun t342 => ((impl_LengthOf.f kj19 t342).bind fun bt345 => ((spec_LengthOf.f kj19 t342).bind fun bt347 => (if (t339 == bt340.2) = true then (if (t338 == bt340.1) = true then (if (bt345.2 == bt347.2) = true then (some (bt345.1 == bt347.1)) else (none)) else (none)) else (none)))))) = some r := H
         have A55 := Aside0.mk A550
         clear A550
         replace H := Option.bind_eq_some_iff.mp H
         obtain ⟨⟨t340, t341⟩, A560, H⟩ := H
         replace H : ((spec_DrawLengthOf.f kj19 l1).bind fun t342 => ((impl_LengthOf.f kj19 t342).bind fun bt345 => ((spec_LengthOf.f kj19 t342).bind fun bt347 => (if (t339 == t341) = true then (if (t338 == t340) = true then (if (bt345.2 == bt347.2) = true then (some (bt345.1 == bt347.1)) else (none)) else (none)) else (none))))) = some r := H
         have A56 := Aside0.mk A560
         clear A560
         replace H := Option.bind_eq_some_iff.mp H
         obtain ⟨t342, A570, H⟩ := H
         replace H : ((impl_LengthOf.f kj19 t342).bind fun bt345 => ((spec_LengthOf.f kj19 t342).bind fun bt347 => (if (t339 == t341) = true then (if (t338 == t340) = true then (if (bt345.2 == bt347.2) = true then (some (bt345.1 == bt347.1)) else (none)) else (none)) else (none)))) = some r := H
         have A57 := Aside0.mk A570
         clear A570
         replace H := Option.bind_eq_some_iff.mp H
         obtain ⟨⟨t345, t346⟩, A580, H⟩ := H
         replace H : ((spec_LengthOf.f kj19 t342).bind fun bt347 => (if (t339 == t341) = true then (if (t338 == t340) = true then (if (t346 == bt347.2) = true then (some (t345 == bt347.1)) else (none)) else (none)) else (none))) = some r := H
         have A58 := Aside0.mk A580
         clear A580
         replace H := Option.bind_eq_some_iff.mp H
         obtain ⟨⟨t347, t348⟩, A590, H⟩ := H
         replace H : (if (t339 == t341) = true then (if (t338 == t340) = true then (if (t346 == t348) = true then (some (t345 == t347)) else (none)) else (none)) else (none)) = some r := H
         have A59 := Aside0.mk A590
         clear A590
         by_cases c60 : (t339 == t341) = true
         ·rw [if_pos c60] at H
          have c60b0 : (t339 == t341) = true := c60
          (try (have c60b1 : decide (t339 = t341) = true := by simpa using c60))
          (try (have c60b2 : (t339 == t341) = true := by simpa using c60))
          clear c60
          by_cases c61 : (t338 == t340) = true
          ·rw [if_pos c61] at H
           have c61b0 : (t338 == t340) = true := c61
           (try (have c61b1 : decide (t338 = t340) = true := by simpa using c61))
           (try (have c61b2 : (t338 == t340) = true := by simpa using c61))
           clear c61
           by_cases c62 : (t346 == t348) = true
           ·rw [if_pos c62] at H
            have c62b0 : (t346 == t348) = true := c62
            (try (have c62b1 : decide (t346 = t348) = true := by simpa using c62))
            (try (have c62b2 : (t346 == t348) = true := by simpa using c62))
            clear c62
            obtain rfl := Option.some.inj H
            as_aux_lemma =>
             go_wp2_with (first | ((with_reducible refine gate_callee (f := 10) rfl ?_); refine goesL_ (some 136) rfl rfl Try.func10 (by kernel_rfl) rfl #[.slice A1 l1.length c1] rfl (by (try simp only [List.map_toArray, List.map_cons, List.map_nil]); first | done | rfl | (simp only [List.length_drop, List.length_take]; rfl)) ?_; (with_reducible refine (spec_DrawHasPoint.calls kj19 _ _ l1 t334 t335 _ ?side1 ?side2 A54.out).mono ?_); (case side1 => repeat (first | exact (Kd.C_below HR1.out HB.out) | (with_reducible refine Kd.C_alloc ?_ _) | (with_reducible refine Kd.C_drewN ?_ _) | (with_reducible refine Kd.C_drew ?_))); (case side2 => exact HC1.out); rintro e w63 ⟨v336, rfl, ho0, hb⟩; refine ⟨_, rfl, ?_⟩; have n0_ := Aside0.mk (Kd.R_lower (Kd.R_newB (Kd.R_newB ho0 (g := gb316) (o := .cells #[.int .i64 t312, .int .i64 t313] 24 (0, 0)) (by (with_reducible repeat (first | refine blk_drewN ?_ _ | refine blk_drew ?_ | refine blk_alloc ?_ _)); exact BK316.out)) (g := gb317) (o := .cells #[.int .i64 t314, .int .i64 t315] 24 (0, 0)) (by (with_reducible repeat (first | refine blk_drewN ?_ _ | refine blk_drew ?_ | refine blk_alloc ?_ _)); exact BK317.out)) (below_size (by repeat (first | (with_reducible first | exact HB.out | apply below_alloc | apply pw_below_drewN | apply below_drew1 | refine below_set ?_ GE316.out | refine below_set ?_ GE317.out) | exact HB.out)))); have n1_ := Aside0.mk (blk_below (g := gb316) (o := .cells #[.int .i64 t312, .int .i64 t313] 24 (0, 0)) (by (with_reducible repeat (first | refine blk_drewN ?_ _ | refine blk_drew ?_ | refine blk_alloc ?_ _)); exact BK316.out) hb); have n2_ := Aside0.mk (blk_below (g := gb317) (o := .cells #[.int .i64 t314, .int .i64 t315] 24 (0, 0)) (by (with_reducible repeat (first | refine blk_drewN ?_ _ | refine blk_drew ?_ | refine blk_alloc ?_ _)); exact BK317.out) hb); have n3_ := Aside0.mk (below_step (by repeat (first | (with_reducible first | exact HB.out | apply below_alloc | apply pw_below_drewN | apply below_drew1 | refine below_set ?_ GE316.out | refine below_set ?_ GE317.out) | exact HB.out)) hb); clear BK316; clear BK317; clear HB; have HO337 := n0_; have BK316 := n1_; have BK317 := n2_; have HB := n3_; clear n0_ n1_ n2_ n3_; (try clear hb); (try clear hb2); (try clear hk); (try clear hi); (try clear ho0); obtain ⟨Ao64, co64, eo64⟩ := Kd.R_slice HO337.out; subst eo64) | ((with_reducible refine gate_callee (f := 11) rfl ?_); refine goesL_ (some 142) rfl rfl Try.func11 (by kernel_rfl) rfl #[.slice Ao64 t334.length co64, .int .i64 t335] rfl (by (try simp only [List.map_toArray, List.map_cons, List.map_nil]); first | done | rfl | (simp only [List.length_drop, List.length_take]; rfl)) ?_; (with_reducible refine (impl_HasPoint.calls kj19 _ _ t334 t335 t338 t339 _ ?side1 ?side2 A55.out).mono ?_); (case side1 => repeat (first | exact (Kd.R_reads' HO337.out).2.2 | (with_reducible refine Kd.C_alloc ?_ _) | (with_reducible refine Kd.C_drewN ?_ _) | (with_reducible refine Kd.C_drew ?_))); (case side2 => exact (Kd.R_reads' HO337.out).2.1); rintro e w65 ⟨rfl, hb⟩; refine ⟨_, rfl, ?_⟩; have n0_ := Aside0.mk (Kd.R_below (by (with_reducible repeat (first | apply Kd.R_alloc | apply Kd.R_drewN | apply Kd.R_drew)); exact HO337.out) hb); have n1_ := Aside0.mk (blk_below (g := gb316) (o := .cells #[.int .i64 t312, .int .i64 t313] 24 (0, 0)) (by (with_reducible repeat (first | refine blk_drewN ?_ _ | refine blk_drew ?_ | refine blk_alloc ?_ _)); exact BK316.out) hb); have n2_ := Aside0.mk (blk_below (g := gb317) (o := .cells #[.int .i64 t314, .int .i64 t315] 24 (0, 0)) (by (with_reducible repeat (first | refine blk_drewN ?_ _ | refine blk_drew ?_ | refine blk_alloc ?_ _)); exact BK317.out) hb); have n3_ := Aside0.mk (below_step (by repeat (first | (with_reducible first | exact HB.out | apply below_alloc | apply pw_below_drewN | apply below_drew1 | refine below_set ?_ GE316.out | refine below_set ?_ GE317.out) | exact HB.out)) hb); clear HO337; clear BK316; clear BK317; clear HB; have HO337 := n0_; have BK316 := n1_; have BK317 := n2_; have HB := n3_; clear n0_ n1_ n2_ n3_; (try clear hb); (try clear hb2); (try clear hk); (try clear hi)) | ((with_reducible refine gate_callee (f := 12) rfl ?_); refine goesL_ (some 148) rfl rfl Try.func12 (by kernel_rfl) rfl #[.slice Ao64 t334.length co64, .int .i64 t335] rfl (by (try simp only [List.map_toArray, List.map_cons, List.map_nil]); first | done | rfl | (simp only [List.length_drop, List.length_take]; rfl)) ?_; (with_reducible refine (spec_HasPoint.calls kj19 _ _ t334 t335 t340 t341 _ ?side1 ?side2 A56.out).mono ?_); (case side1 => repeat (first | exact (Kd.R_reads' HO337.out).2.2 | (with_reducible refine Kd.C_alloc ?_ _) | (with_reducible refine Kd.C_drewN ?_ _) | (with_reducible refine Kd.C_drew ?_))); (case side2 => exact (Kd.R_reads' HO337.out).2.1); rintro e w66 ⟨rfl, hb⟩; refine ⟨_, rfl, ?_⟩; have n0_ := Aside0.mk (Kd.R_below (by (with_reducible repeat (first | apply Kd.R_alloc | apply Kd.R_drewN | apply Kd.R_drew)); exact HO337.out) hb); have n1_ := Aside0.mk (blk_below (g := gb316) (o := .cells #[.int .i64 t312, .int .i64 t313] 24 (0, 0)) (by (with_reducible repeat (first | refine blk_drewN ?_ _ | refine blk_drew ?_ | refine blk_alloc ?_ _)); exact BK316.out) hb); have n2_ := Aside0.mk (blk_below (g := gb317) (o := .cells #[.int .i64 t314, .int .i64 t315] 24 (0, 0)) (by (with_reducible repeat (first | refine blk_drewN ?_ _ | refine blk_drew ?_ | refine blk_alloc ?_ _)); exact BK317.out) hb); have n3_ := Aside0.mk (below_step (by repeat (first | (with_reducible first | exact HB.out | apply below_alloc | apply pw_below_drewN | apply below_drew1 | refine below_set ?_ GE316.out | refine below_set ?_ GE317.out) | exact HB.out)) hb); clear HO337; clear BK316; clear BK317; clear HB; have HO337 := n0_; have BK316 := n1_; have BK317 := n2_; have HB := n3_; clear n0_ n1_ n2_ n3_; (try clear hb); (try clear hb2); (try clear hk); (try clear hi)) | ((with_reducible refine gate_callee (f := 13) rfl ?_); refine goesL_ (some 152) rfl rfl Try.func13 (by kernel_rfl) rfl #[.slice A1 l1.length c1] rfl (by (try simp only [List.map_toArray, List.map_cons, List.map_nil]); first | done | rfl | (simp only [List.length_drop, List.length_take]; rfl)) ?_; (with_reducible refine (spec_DrawLengthOf.calls kj19 _ _ l1 t342 _ ?side1 ?side2 A57.out).mono ?_); (case side1 => repeat (first | exact (Kd.C_below HR1.out HB.out) | (with_reducible refine Kd.C_alloc ?_ _) | (with_reducible refine Kd.C_drewN ?_ _) | (with_reducible refine Kd.C_drew ?_))); (case side2 => exact HC1.out); rintro e w67 ⟨v343, rfl, ho0, hb⟩; refine ⟨_, rfl, ?_⟩; have n0_ := Aside0.mk (Kd.R_elder' (by (with_reducible repeat (first | apply Kd.R_alloc | apply Kd.R_drewN | apply Kd.R_drew)); exact HO337.out) (Kd.R_base ho0) hb); have n1_ := Aside0.mk (Kd.R_lower (Kd.R_newB (Kd.R_newB (Kd.R_new' ho0 (Kd.R_lt (by (with_reducible repeat (first | apply Kd.R_alloc | apply Kd.R_drewN | apply Kd.R_drew)); exact HO337.out))) (g := gb316) (o := .cells #[.int .i64 t312, .int .i64 t313] 24 (0, 0)) (by (with_reducible repeat (first | refine blk_drewN ?_ _ | refine blk_drew ?_ | refine blk_alloc ?_ _)); exact BK316.out)) (g := gb317) (o := .cells #[.int .i64 t314, .int .i64 t315] 24 (0, 0)) (by (with_reducible repeat (first | refine blk_drewN ?_ _ | refine blk_drew ?_ | refine blk_alloc ?_ _)); exact BK317.out)) (below_size (by repeat (first | (with_reducible first | exact HB.out | apply below_alloc | apply pw_below_drewN | apply below_drew1 | refine below_set ?_ GE316.out | refine below_set ?_ GE317.out) | exact HB.out)))); have n2_ := Aside0.mk (blk_below (g := gb316) (o := .cells #[.int .i64 t312, .int .i64 t313] 24 (0, 0)) (by (with_reducible repeat (first | refine blk_drewN ?_ _ | refine blk_drew ?_ | refine blk_alloc ?_ _)); exact BK316.out) hb); have n3_ := Aside0.mk (blk_below (g := gb317) (o := .cells #[.int .i64 t314, .int .i64 t315] 24 (0, 0)) (by (with_reducible repeat (first | refine blk_drewN ?_ _ | refine blk_drew ?_ | refine blk_alloc ?_ _)); exact BK317.out) hb); have n4_ := Aside0.mk (below_step (by repeat (first | (with_reducible first | exact HB.out | apply below_alloc | apply pw_below_drewN | apply below_drew1 | refine below_set ?_ GE316.out | refine below_set ?_ GE317.out) | exact HB.out)) hb); clear HO337; clear BK316; clear BK317; clear HB; have HO337 := n0_; have HO344 := n1_; have BK316 := n2_; have BK317 := n3_; have HB := n4_; clear n0_ n1_ n2_ n3_ n4_; (try clear hb); (try clear hb2); (try clear hk); (try clear hi); (try clear ho0); obtain ⟨Ao68, co68, eo68⟩ := Kd.R_slice HO344.out; subst eo68) | ((with_reducible refine gate_callee (f := 14) rfl ?_); refine goesL_ (some 155) rfl rfl Try.func14 (by kernel_rfl) rfl #[.slice Ao68 t342.length co68] rfl (by (try simp only [List.map_toArray, List.map_cons, List.map_nil]); first | done | rfl | (simp only [List.length_drop, List.length_take]; rfl)) ?_; (with_reducible refine (impl_LengthOf.calls kj19 _ _ t342 t345 t346 _ ?side1 ?side2 A58.out).mono ?_); (case side1 => repeat (first | exact (Kd.R_reads' HO344.out).2.2 | (with_reducible refine Kd.C_alloc ?_ _) | (with_reducible refine Kd.C_drewN ?_ _) | (with_reducible refine Kd.C_drew ?_))); (case side2 => exact (Kd.R_reads' HO344.out).2.1); rintro e w69 ⟨rfl, hb⟩; refine ⟨_, rfl, ?_⟩; have n0_ := Aside0.mk (Kd.R_below (by (with_reducible repeat (first | apply Kd.R_alloc | apply Kd.R_drewN | apply Kd.R_drew)); exact HO337.out) hb); have n1_ := Aside0.mk (Kd.R_below (by (with_reducible repeat (first | apply Kd.R_alloc | apply Kd.R_drewN | apply Kd.R_drew)); exact HO344.out) hb); have n2_ := Aside0.mk (blk_below (g := gb316) (o := .cells #[.int .i64 t312, .int .i64 t313] 24 (0, 0)) (by (with_reducible repeat (first | refine blk_drewN ?_ _ | refine blk_drew ?_ | refine blk_alloc ?_ _)); exact BK316.out) hb); have n3_ := Aside0.mk (blk_below (g := gb317) (o := .cells #[.int .i64 t314, .int .i64 t315] 24 (0, 0)) (by (with_reducible repeat (first | refine blk_drewN ?_ _ | refine blk_drew ?_ | refine blk_alloc ?_ _)); exact BK317.out) hb); have n4_ := Aside0.mk (below_step (by repeat (first | (with_reducible first | exact HB.out | apply below_alloc | apply pw_below_drewN | apply below_drew1 | refine below_set ?_ GE316.out | refine below_set ?_ GE317.out) | exact HB.out)) hb); clear HO337; clear HO344; clear BK316; clear BK317; clear HB; have HO337 := n0_; have HO344 := n1_; have BK316 := n2_; have BK317 := n3_; have HB := n4_; clear n0_ n1_ n2_ n3_ n4_; (try clear hb); (try clear hb2); (try clear hk); (try clear hi)) | ((with_reducible refine gate_callee (f := 15) rfl ?_); refine goesL_ (some 160) rfl rfl Try.func15 (by kernel_rfl) rfl #[.slice Ao68 t342.length co68] rfl (by (try simp only [List.map_toArray, List.map_cons, List.map_nil]); first | done | rfl | (simp only [List.length_drop, List.length_take]; rfl)) ?_; (with_reducible refine (spec_LengthOf.calls kj19 _ _ t342 t347 t348 _ ?side1 ?side2 A59.out).mono ?_); (case side1 => repeat (first | exact (Kd.R_reads' HO344.out).2.2 | (with_reducible refine Kd.C_alloc ?_ _) | (with_reducible refine Kd.C_drewN ?_ _) | (with_reducible refine Kd.C_drew ?_))); (case side2 => exact (Kd.R_reads' HO344.out).2.1); rintro e w70 ⟨rfl, hb⟩; refine ⟨_, rfl, ?_⟩; have n0_ := Aside0.mk (Kd.R_below (by (with_reducible repeat (first | apply Kd.R_alloc | apply Kd.R_drewN | apply Kd.R_drew)); exact HO337.out) hb); have n1_ := Aside0.mk (Kd.R_below (by (with_reducible repeat (first | apply Kd.R_alloc | apply Kd.R_drewN | apply Kd.R_drew)); exact HO344.out) hb); have n2_ := Aside0.mk (blk_below (g := gb316) (o := .cells #[.int .i64 t312, .int .i64 t313] 24 (0, 0)) (by (with_reducible repeat (first | refine blk_drewN ?_ _ | refine blk_drew ?_ | refine blk_alloc ?_ _)); exact BK316.out) hb); have n3_ := Aside0.mk (blk_below (g := gb317) (o := .cells #[.int .i64 t314, .int .i64 t315] 24 (0, 0)) (by (with_reducible repeat (first | refine blk_drewN ?_ _ | refine blk_drew ?_ | refine blk_alloc ?_ _)); exact BK317.out) hb); have n4_ := Aside0.mk (below_step (by repeat (first | (with_reducible first | exact HB.out | apply below_alloc | apply pw_below_drewN | apply below_drew1 | refine below_set ?_ GE316.out | refine below_set ?_ GE317.out) | exact HB.out)) hb); clear HO337; clear HO344; clear BK316; clear BK317; clear HB; have HO337 := n0_; have HO344 := n1_; have BK316 := n2_; have BK317 := n3_; have HB := n4_; clear n0_ n1_ n2_ n3_ n4_; (try clear hb); (try clear hb2); (try clear hk); (try clear hi)))
             go_ret
             exact ⟨by first | rfl | (simp [errW_none, errW_some] <;> rfl) | (simp [*, errW_none, errW_some] <;> rfl), by repeat (first | (with_reducible first | exact HB.out | apply below_alloc | apply pw_below_drewN | apply below_drew1 | refine below_set ?_ GE316.out | refine below_set ?_ GE317.out) | exact HB.out)⟩
           ·rw [if_neg c62] at H
            exact absurd H (by simp)
          ·rw [if_neg c61] at H
           exact absurd H (by simp)
         ·rw [if_neg c60] at H
          exact absurd H (by simp)
  
/-- THE ONE PURE STATEMENT of laws_FnRelations: yours. -/
def laws_FnRelations.Pure : Prop := ∀ (l0 : List Int) (l1 : List Int), l0.length ≤ maxLen → l0.length * 1 ≤ 140737488351232 → (∀ x ∈ l0, (Lit.int .u8 x).wf = true) → l1.length ≤ maxLen → l1.length * 1 ≤ 140737488351232 → (∀ x ∈ l1, (Lit.int .u8 x).wf = true) → ∃ k, laws_FnRelations.f k l0 l1 = some true
theorem laws_FnRelations.walk (P : laws_FnRelations.Pure) (a0 : Option Addr) (len0 cap0 : Nat) (z0 : List Int) (a1 : Option Addr) (len1 cap1 : Nat) (z1 : List Int) (w : World) (w0 : (a0 = none ∧ len0 = 0 ∧ cap0 = 0 ∧ z0 = []) ∨ ∃ x, a0 = some x ∧ len0 ≤ cap0 ∧ cap0 ≤ maxLen ∧ z0.length = cap0 ∧ (∀ i, i < z0.length → w.cell? (x.add i) = some (.int .u8 (z0.getD i 0))) ∧ ∀ n ∈ z0, (Lit.int .u8 n).wf = true) (y0 : len0 * 1 ≤ 140737488351232) (w1 : (a1 = none ∧ len1 = 0 ∧ cap1 = 0 ∧ z1 = []) ∨ ∃ x, a1 = some x ∧ len1 ≤ cap1 ∧ cap1 ≤ maxLen ∧ z1.length = cap1 ∧ (∀ i, i < z1.length → w.cell? (x.add i) = some (.int .u8 (z1.getD i 0))) ∧ ∀ n ∈ z1, (Lit.int .u8 n).wf = true) (y1 : len1 * 1 ≤ 140737488351232) :
  Calls Try.prog 3 #[.slice a0 len0 cap0, .slice a1 len1 cap1] w fun e w' => e = .returned (.bool true) ∧ Below w.heap.size w w' := by
 obtain ⟨l0, rfl, hr0, hm0, hw0, hc0⟩ := ReadsInt.ofRowC w0
 obtain ⟨l1, rfl, hr1, hm1, hw1, hc1⟩ := ReadsInt.ofRowC w1
 obtain ⟨k, h⟩ := P l0 l1 hm0 y0 hw0 hm1 y1 hw1
 refine (laws_FnRelations.calls k _ _ l0 _ _ l1 true w (Kd.C_of_reads (d := (0 : Int)) (h1 := fun _ => rfl) hr0) hc0 (Kd.C_of_reads (d := (0 : Int)) (h1 := fun _ => rfl) hr1) hc1 h).mono ?_
 rintro e w' ⟨rfl, hd⟩
 exact ⟨rfl, hd⟩

end Go.Proofs.Ytegeejglmbpecaa.MFnRelations
