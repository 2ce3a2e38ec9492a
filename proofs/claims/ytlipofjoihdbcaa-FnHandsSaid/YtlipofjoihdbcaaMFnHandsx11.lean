-- by myprint
import Derived.Test.YtlipofjoihdbcaaMFnHandsx0
import Derived.Test.YtlipofjoihdbcaaMFnHandsx1
import Derived.Test.YtlipofjoihdbcaaMFnHandsx2
import Derived.Test.YtlipofjoihdbcaaMFnHandsx3
import Derived.Test.YtlipofjoihdbcaaMFnHandsx4
import Derived.Test.YtlipofjoihdbcaaMFnHandsx5
import Derived.Test.YtlipofjoihdbcaaMFnHandsx7
import Derived.Test.YtlipofjoihdbcaaMFnHandsx9
import Derived.Test.YtlipofjoihdbcaaMFnHandsx10
namespace Go.Proofs.Ytlipofjoihdbcaa.MFnHands
open Go.RowKit Go.Proofs.YtlipofjoihdbcaaW.PrintWords Go.Proofs.YtlipofjoihdbcaaW.PrintLast Go.Proofs.YtlipofjoihdbcaaW.PrintMore
attribute [local go_sem] max2_int min2_int max_two min_two max_three min_three max_four min_four   -- for this text's walks alone
set_option linter.unusedVariables false
set_option linter.unusedSimpArgs false

/-! ### laws_FnHands: function 3 -/
mutual
def laws_FnHands.j0 : Nat → List Int → List Int → Int → Int → Bool → List Int → Int → Bool → List Int → Int → Bool → Int → Bool → Int → Bool → Bool → Option (Bool)
 | 0, _, _, _, _, _, _, _, _, _, _, _, _, _, _, _, _ => none
 | k + 1, x1, x5, x6, x8, x9, x12, x13, x14, x18, x19, x20, x24, x25, x28, x29, x180 => if x180 = true then (none) else (if x14 = true then ((impl_SpanOf.f k x5 x6 x12).bind fun bt439 => ((impl_SpanOf.f k x5 x6 x18).bind fun bt441 => (if x20 = true then (if x25 = true then (if x29 = true then (if bt439.2 = true then (if bt439.1 = x13 then (if bt441.2 = true then (if bt441.1 = x19 then (if x24 < x28 then (none) else (if x13 < x24 then (none) else (if x19 < x24 then (none) else (if x9 = true then (laws_FnHands.j1 k x1 x6 x13 x19 x24 (decide (x8 < x24))) else (laws_FnHands.j1 k x1 x6 x13 x19 x24 false))))) else (none)) else (none)) else (none)) else (none)) else (none)) else (none)) else (none)))) else (some (decide ((x1.length : Int) ≥ 0))))
def laws_FnHands.j1 : Nat → List Int → Int → Int → Int → Int → Bool → Option (Bool)
 | 0, _, _, _, _, _, _ => none
 | k + 1, x1, x6, x13, x19, x24, x246 => if x246 = true then (none) else (if (wrap64 (x6 * x13)) > (wrap64 ((wrap64 ((wrap64 (2 * x6)) - 1)) * x24)) then (none) else (if (wrap64 ((wrap64 (3 * x6)) * x19)) > (wrap64 ((wrap64 ((wrap64 (4 * x6)) - 1)) * x24)) then (none) else (some (decide ((x1.length : Int) ≥ 0)))))
end
def laws_FnHands.f (k : Nat) (l0 : List Int) (l1 : List Int) : Option (Bool) := if (wrap64 ((l0.length : Int) + (l1.length : Int))) > 1048576 then (some true) else ((spec_DrawSpanOf.f k l0).bind fun bt397 => ((impl_SpanOf.f k bt397.1 bt397.2.1 bt397.2.2).bind fun bt404 => ((spec_SpanOf.f k bt397.1 bt397.2.1 bt397.2.2).bind fun bt406 => ((impl_GiveInOrder.f k bt397.1 bt397.2.1).bind fun bt408 => ((spec_GiveInOrder.f k bt397.1 bt397.2.1).bind fun bt413 => ((impl_GiveLongest.f k bt397.1 bt397.2.1).bind fun bt418 => ((spec_GiveLongest.f k bt397.1 bt397.2.1).bind fun bt423 => ((impl_BestSpan.f k bt397.1 bt397.2.1).bind fun bt428 => ((spec_BestSpan.f k bt397.1 bt397.2.1).bind fun bt430 => ((impl_LeastSpan.f k bt397.1 bt397.2.1).bind fun bt432 => ((spec_LeastSpan.f k bt397.1 bt397.2.1).bind fun bt434 => (if (bt404.2 != bt406.2) = true then (none) else (if bt404.1 = bt406.1 then (if (bt408.2.2 != bt413.2.2) = true then (none) else (if bt408.2.1 = bt413.2.1 then ((laws_sameInts.f k bt408.1 bt413.1).bind fun t436 => (if t436 = true then (if (bt418.2.2 != bt423.2.2) = true then (none) else (if bt418.2.1 = bt423.2.1 then ((laws_sameInts.f k bt418.1 bt423.1).bind fun t437 => (if t437 = true then (if (bt428.2 != bt430.2) = true then (none) else (if bt428.1 = bt430.1 then (if (bt432.2 != bt434.2) = true then (none) else (if bt432.1 = bt434.1 then ((impl_GoodChores.f bt397.1 bt397.2.1).bind fun t438 => (laws_FnHands.j0 k l1 bt397.1 bt397.2.1 bt404.1 bt404.2 bt408.1 bt408.2.1 bt408.2.2 bt418.1 bt418.2.1 bt418.2.2 bt428.1 bt428.2 bt432.1 bt432.2 (t438 != bt413.2.2))) else (none))) else (none))) else (none))) else (none))) else (none))) else (none))) else (none))))))))))))))
theorem laws_FnHands.mono_l : ∀ k, (∀ y0 y1 y2 y3 y4 y5 y6 y7 y8 y9 y10 y11 y12 y13 y14 y15, LeO (laws_FnHands.j0 k y0 y1 y2 y3 y4 y5 y6 y7 y8 y9 y10 y11 y12 y13 y14 y15) (laws_FnHands.j0 (k + 1) y0 y1 y2 y3 y4 y5 y6 y7 y8 y9 y10 y11 y12 y13 y14 y15)) ∧ (∀ y0 y1 y2 y3 y4 y5, LeO (laws_FnHands.j1 k y0 y1 y2 y3 y4 y5) (laws_FnHands.j1 (k + 1) y0 y1 y2 y3 y4 y5))
 | 0 => ⟨fun _ _ _ _ _ _ _ _ _ _ _ _ _ _ _ _ r h => by simp [laws_FnHands.j0] at h, fun _ _ _ _ _ _ r h => by simp [laws_FnHands.j1] at h⟩
 | k + 1 => by
  obtain ⟨ih0, ih1⟩ := laws_FnHands.mono_l k
  refine ⟨?_, ?_⟩
  ·intro y0 y1 y2 y3 y4 y5 y6 y7 y8 y9 y10 y11 y12 y13 y14 y15
   unfold laws_FnHands.j0
   repeat' first
   | (with_reducible exact ih0 _ _ _ _ _ _ _ _ _ _ _ _ _ _ _ _)
   | (with_reducible exact ih1 _ _ _ _ _ _)
   | (with_reducible exact impl_BestSpan.mono _ _ _)
   | (with_reducible exact impl_GiveInOrder.mono _ _ _)
   | (with_reducible exact impl_GiveLongest.mono _ _ _)
   | (with_reducible exact impl_LeastSpan.mono _ _ _)
   | (with_reducible exact impl_SpanOf.mono _ _ _ _)
   | (with_reducible exact laws_sameInts.mono _ _ _)
   | (with_reducible exact spec_BestSpan.mono _ _ _)
   | (with_reducible exact spec_DrawSpanOf.mono _ _)
   | (with_reducible exact spec_GiveInOrder.mono _ _ _)
   | (with_reducible exact spec_GiveLongest.mono _ _ _)
   | (with_reducible exact spec_LeastSpan.mono _ _ _)
   | (with_reducible exact spec_SpanOf.mono _ _ _ _)
   | (with_reducible exact LeO.refl _)
   | (with_reducible exact LeO.none _)
   | (with_reducible refine LeO.ite ?_ ?_)
   | (with_reducible refine LeO.bind ?_ (fun _ => ?_))
   | exact ih0 _ _ _ _ _ _ _ _ _ _ _ _ _ _ _ _
   | exact ih1 _ _ _ _ _ _
   | exact impl_BestSpan.mono _ _ _
   | exact impl_GiveInOrder.mono _ _ _
   | exact impl_GiveLongest.mono _ _ _
   | exact impl_LeastSpan.mono _ _ _
   | exact impl_SpanOf.mono _ _ _ _
   | exact laws_sameInts.mono _ _ _
   | exact spec_BestSpan.mono _ _ _
   | exact spec_DrawSpanOf.mono _ _
   | exact spec_GiveInOrder.mono _ _ _
   | exact spec_GiveLongest.mono _ _ _
   | exact spec_LeastSpan.mono _ _ _
   | exact spec_SpanOf.mono _ _ _ _
   | exact LeO.none _
   | refine LeO.ite ?_ ?_
   | refine LeO.bind ?_ (fun _ => ?_)
  ·intro y0 y1 y2 y3 y4 y5
   unfold laws_FnHands.j1
   repeat' first
   | (with_reducible exact ih0 _ _ _ _ _ _ _ _ _ _ _ _ _ _ _ _)
   | (with_reducible exact ih1 _ _ _ _ _ _)
   | (with_reducible exact impl_BestSpan.mono _ _ _)
   | (with_reducible exact impl_GiveInOrder.mono _ _ _)
   | (with_reducible exact impl_GiveLongest.mono _ _ _)
   | (with_reducible exact impl_LeastSpan.mono _ _ _)
   | (with_reducible exact impl_SpanOf.mono _ _ _ _)
   | (with_reducible exact laws_sameInts.mono _ _ _)
   | (with_reducible exact spec_BestSpan.mono _ _ _)
   | (with_reducible exact spec_DrawSpanOf.mono _ _)
   | (with_reducible exact spec_GiveInOrder.mono _ _ _)
   | (with_reducible exact spec_GiveLongest.mono _ _ _)
   | (with_reducible exact spec_LeastSpan.mono _ _ _)
   | (with_reducible exact spec_SpanOf.mono _ _ _ _)
   | (with_reducible exact LeO.refl _)
   | (with_reducible exact LeO.none _)
   | (with_reducible refine LeO.ite ?_ ?_)
   | (with_reducible refine LeO.bind ?_ (fun _ => ?_))
   | exact ih0 _ _ _ _ _ _ _ _ _ _ _ _ _ _ _ _
   | exact ih1 _ _ _ _ _ _
   | exact impl_BestSpan.mono _ _ _
   | exact impl_GiveInOrder.mono _ _ _
   | exact impl_GiveLongest.mono _ _ _
   | exact impl_LeastSpan.mono _ _ _
   | exact impl_SpanOf.mono _ _ _ _
   | exact laws_sameInts.mono _ _ _
   | exact spec_BestSpan.mono _ _ _
   | exact spec_DrawSpanOf.mono _ _
   | exact spec_GiveInOrder.mono _ _ _
   | exact spec_GiveLongest.mono _ _ _
   | exact spec_LeastSpan.mono _ _ _
   | exact spec_SpanOf.mono _ _ _ _
   | exact LeO.none _
   | refine LeO.ite ?_ ?_
   | refine LeO.bind ?_ (fun _ => ?_)
theorem laws_FnHands.mono : ∀ a0 a1 k, LeO (laws_FnHands.f k a0 a1) (laws_FnHands.f (k + 1) a0 a1) := by
 intro a0 a1 k
 obtain ⟨ih0, ih1⟩ := laws_FnHands.mono_l k
 unfold laws_FnHands.f
 repeat' first
   | (with_reducible exact ih0 _ _ _ _ _ _ _ _ _ _ _ _ _ _ _ _)
   | (with_reducible exact ih1 _ _ _ _ _ _)
   | (with_reducible exact impl_BestSpan.mono _ _ _)
   | (with_reducible exact impl_GiveInOrder.mono _ _ _)
   | (with_reducible exact impl_GiveLongest.mono _ _ _)
   | (with_reducible exact impl_LeastSpan.mono _ _ _)
   | (with_reducible exact impl_SpanOf.mono _ _ _ _)
   | (with_reducible exact laws_sameInts.mono _ _ _)
   | (with_reducible exact spec_BestSpan.mono _ _ _)
   | (with_reducible exact spec_DrawSpanOf.mono _ _)
   | (with_reducible exact spec_GiveInOrder.mono _ _ _)
   | (with_reducible exact spec_GiveLongest.mono _ _ _)
   | (with_reducible exact spec_LeastSpan.mono _ _ _)
   | (with_reducible exact spec_SpanOf.mono _ _ _ _)
   | (with_reducible exact LeO.refl _)
   | (with_reducible exact LeO.none _)
   | (with_reducible refine LeO.ite ?_ ?_)
   | (with_reducible refine LeO.bind ?_ (fun _ => ?_))
   | exact ih0 _ _ _ _ _ _ _ _ _ _ _ _ _ _ _ _
   | exact ih1 _ _ _ _ _ _
   | exact impl_BestSpan.mono _ _ _
   | exact impl_GiveInOrder.mono _ _ _
   | exact impl_GiveLongest.mono _ _ _
   | exact impl_LeastSpan.mono _ _ _
   | exact impl_SpanOf.mono _ _ _ _
   | exact laws_sameInts.mono _ _ _
   | exact spec_BestSpan.mono _ _ _
   | exact spec_DrawSpanOf.mono _ _
   | exact spec_GiveInOrder.mono _ _ _
   | exact spec_GiveLongest.mono _ _ _
   | exact spec_LeastSpan.mono _ _ _
   | exact spec_SpanOf.mono _ _ _ _
   | exact LeO.none _
   | refine LeO.ite ?_ ?_
   | refine LeO.bind ?_ (fun _ => ?_)
set_option maxHeartbeats 8000000 in
set_option maxRecDepth 100000 in
theorem laws_FnHands.calls (k : Nat) (A0 : Option Addr) (c0 : Nat) (l0 : List Int) (A1 : Option Addr) (c1 : Nat) (l1 : List Int) (r : Bool) (w : World) (hr0 : Kd.C (Kd.int .u8) w A0 l0.length l0) (hc0 : l0.length ≤ c0) (hr1 : Kd.C (Kd.int .u8) w A1 l1.length l1) (hc1 : l1.length ≤ c1) (h : laws_FnHands.f k l0 l1 = some r) :
  Calls Try.prog 3 #[.slice A0 l0.length c0, .slice A1 l1.length c1] w fun e w' => e = .returned (.bool r) ∧ Below w.heap.size w w' := by
 have HR0 := Aside0.mk hr0
 have HC0 := Aside0.mk hc0
 clear hr0 hc0
 have HR1 := Aside0.mk hr1
 have HC1 := Aside0.mk hc1
 clear hr1 hc1
 have HB := Aside0.mk (Below.refl w.heap.size w)
 have H : (if (wrap64 ((l0.length : Int) + (l1.length : Int))) > 1048576 then (some true) else ((spec_DrawSpanOf.f k l0).bind fun bt397 => ((impl_SpanOf.f k bt397.1 bt397.2.1 bt397.2.2).bind fun bt404 => ((spec_SpanOf.f k bt397.1 bt397.2.1 bt397.2.2).bind fun bt406 => ((impl_GiveInOrder.f k bt397.1 bt397.2.1).bind fun bt408 => ((spec_GiveInOrder.f k bt397.1 bt397.2.1).bind fun bt413 => ((impl_GiveLongest.f k bt397.1 bt397.2.1).bind fun bt418 => ((spec_GiveLongest.f k bt397.1 bt397.2.1).bind fun bt423 => ((impl_BestSpan.f k bt397.1 bt397.2.1).bind fun bt428 => ((spec_BestSpan.f k bt397.1 bt397.2.1).bind fun bt430 => ((impl_LeastSpan.f k bt397.1 bt397.2.1).bind fun bt432 => ((spec_LeastSpan.f k bt397.1 bt397.2.1).bind fun bt434 => (if (bt404.2 != bt406.2) = true then (none) else (if bt404.1 = bt406.1 then (if (bt408.2.2 != bt413.2.2) = true then (none) else (if bt408.2.1 = bt413.2.1 then ((laws_sameInts.f k bt408.1 bt413.1).bind fun t436 => (if t436 = true then (if (bt418.2.2 != bt423.2.2) = true then (none) else (if bt418.2.1 = bt423.2.1 then ((laws_sameInts.f k bt418.1 bt423.1).bind fun t437 => (if t437 = true then (if (bt428.2 != bt430.2) = true then (none) else (if bt428.1 = bt430.1 then (if (bt432.2 != bt434.2) = true then (none) else (if bt432.1 = bt434.1 then ((impl_GoodChores.f bt397.1 bt397.2.1).bind fun t438 => (laws_FnHands.j0 k l1 bt397.1 bt397.2.1 bt404.1 bt404.2 bt408.1 bt408.2.1 bt408.2.2 bt418.1 bt418.2.1 bt418.2.2 bt428.1 bt428.2 bt432.1 bt432.2 (t438 != bt413.2.2))) else (none))) else (none))) else (none))) else (none))) else (none))) else (none))) else (none))))))))))))))) = some r := h
 clear h
 by_cases c3 : (wrap64 ((l0.length : Int) + (l1.length : Int))) > 1048576
 ·rw [if_pos c3] at H
  have c3b0 : decide (1048576 < (wrap64 ((l0.length : Int) + (l1.length : Int)))) = true := decide_eq_true c3
  clear c3
  obtain rfl := Option.some.inj H
  go_enter Try.func3, Try.ntmps3
  as_aux_lemma =>
   go_wp2
   go_ret
   exact ⟨by first | rfl | (simp [errW_none, errW_some] <;> rfl) | (simp [*, errW_none, errW_some] <;> rfl), by repeat (first | (with_reducible first | exact HB.out | apply below_alloc | apply pw_below_drewN | apply below_drew1) | exact HB.out)⟩
 ·rw [if_neg c3] at H
  have c3b0 : decide (1048576 < (wrap64 ((l0.length : Int) + (l1.length : Int)))) = false := decide_eq_false c3
  clear c3
  replace H := Option.bind_eq_some_iff.mp H
  obtain ⟨⟨t397, t398, t399⟩, A40, H⟩ := H
  replace H : ((impl_SpanOf.f k t397 t398 t399).bind fun bt404 => ((spec_SpanOf.f k t397 t398 t399).bind fun bt406 => ((impl_GiveInOrder.f k t397 t398).bind fun bt408 => ((spec_GiveInOrder.f k t397 t398).bind fun bt413 => ((impl_GiveLongest.f k t397 t398).bind fun bt418 => ((spec_GiveLongest.f k t397 t398).bind fun bt423 => ((impl_BestSpan.f k t397 t398).bind fun bt428 => ((spec_BestSpan.f k t397 t398).bind fun bt430 => ((impl_LeastSpan.f k t397 t398).bind fun bt432 => ((spec_LeastSpan.f k t397 t398).bind fun bt434 => (if (bt404.2 != bt406.2) = true then (none) else (if bt404.1 = bt406.1 then (if (bt408.2.2 != bt413.2.2) = true then (none) else (if bt408.2.1 = bt413.2.1 then ((laws_sameInts.f k bt408.1 bt413.1).bind fun t436 => (if t436 = true then (if (bt418.2.2 != bt423.2.2) = true then (none) else (if bt418.2.1 = bt423.2.1 then ((laws_sameInts.f k bt418.1 bt423.1).bind fun t437 => (if t437 = true then (if (bt428.2 != bt430.2) = true then (none) else (if bt428.1 = bt430.1 then (if (bt432.2 != bt434.2) = true then (none) else (if bt432.1 = bt434.1 then ((impl_GoodChores.f t397 t398).bind fun t438 => (laws_FnHands.j0 k l1 t397 t398 bt404.1 bt404.2 bt408.1 bt408.2.1 bt408.2.2 bt418.1 bt418.2.1 bt418.2.2 bt428.1 bt428.2 bt432.1 bt432.2 (t438 != bt413.2.2))) else (none))) else (none))) else (none))) else (none))) else (none))) else (none))) else (none))))))))))))) = some r := H
  have A4 := Aside0.mk A40
  clear A40
  replace H := Option.bind_eq_some_iff.mp H
  obtain ⟨⟨t404, t405⟩, A50, H⟩ := H
  replace H : ((spec_SpanOf.f k t397 t398 t399).bind fun bt406 => ((impl_GiveInOrder.f k t397 t398).bind fun bt408 => ((spec_GiveInOrder.f k t397 t398).bind fun bt413 => ((impl_GiveLongest.f k t397 t398).bind fun bt418 => ((spec_GiveLongest.f k t397 t398).bind fun bt423 => ((impl_BestSpan.f k t397 t398).bind fun bt428 => ((spec_BestSpan.f k t397 t398).bind fun bt430 => ((impl_LeastSpan.f k t397 t398).bind fun bt432 => ((spec_LeastSpan.f k t397 t398).bind fun bt434 => (if (t405 != bt406.2) = true then (none) else (if t404 = bt406.1 then (if (bt408.2.2 != bt413.2.2) = true then (none) else (if bt408.2.1 = bt413.2.1 then ((laws_sameInts.f k bt408.1 bt413.1).bind fun t436 => (if t436 = true then (if (bt418.2.2 != bt423.2.2) = true then (none) else (if bt418.2.1 = bt423.2.1 then ((laws_sameInts.f k bt418.1 bt423.1).bind fun t437 => (if t437 = true then (if (bt428.2 != bt430.2) = true then (none) else (if bt428.1 = bt430.1 then (if (bt432.2 != bt434.2) = true then (none) else (if bt432.1 = bt434.1 then ((impl_GoodChores.f t397 t398).bind fun t438 => (laws_FnHands.j0 k l1 t397 t398 t404 t405 bt408.1 bt408.2.1 bt408.2.2 bt418.1 bt418.2.1 bt418.2.2 bt428.1 bt428.2 bt432.1 bt432.2 (t438 != bt413.2.2))) else (none))) else (none))) else (none))) else (none))) else (none))) else (none))) else (none)))))))))))) = some r := H
  have A5 := Aside0.mk A50
  clear A50
  replace H := Option.bind_eq_some_iff.mp H
  obtain ⟨⟨t406, t407⟩, A60, H⟩ := H
  replace H : ((impl_GiveInOrder.f k t397 t398).bind fun bt408 => ((spec_GiveInOrder.f k t397 t398).bind fun bt413 => ((impl_GiveLongest.f k t397 t398).bind fun bt418 => ((spec_GiveLongest.f k t397 t398).bind fun bt423 => ((impl_BestSpan.f k t397 t398).bind fun bt428 => ((spec_BestSpan.f k t397 t398).bind fun bt430 => ((impl_LeastSpan.f k t397 t398).bind fun bt432 => ((spec_LeastSpan.f k t397 t398).bind fun bt434 => (if (t405 != t407) = true then (none) else (if t404 = t406 then (if (bt408.2.2 != bt413.2.2) = true then (none) else (if bt408.2.1 = bt413.2.1 then ((laws_sameInts.f k bt408.1 bt413.1).bind fun t436 => (if t436 = true then (if (bt418.2.2 != bt423.2.2) = true then (none) else (if bt418.2.1 = bt423.2.1 then ((laws_sameInts.f k bt418.1 bt423.1).bind fun t437 => (if t437 = true then (if (bt428.2 != bt430.2) = true then (none) else (if bt428.1 = bt430.1 then (if (bt432.2 != bt434.2) = true then (none) else (if bt432.1 = bt434.1 then ((impl_GoodChores.f t397 t398).bind fun t438 => (laws_FnHands.j0 k l1 t397 t398 t404 t405 bt408.1 bt408.2.1 bt408.2.2 bt418.1 bt418.2.1 bt418.2.2 bt428.1 bt428.2 bt432.1 bt432.2 (t438 != bt413.2.2))) else (none))) else (none))) else (none))) else (none))) else (none))) else (none))) else (none))))))))))) = some r := H
  have A6 := Aside0.mk A60
  clear A60
  replace H := Option.bind_eq_some_iff.mp H
  obtain ⟨⟨t408, t409, t410⟩, A70, H⟩ := H
  replace H : ((spec_GiveInOrder.f k t397 t398).bind fun bt413 => ((impl_GiveLongest.f k t397 t398).bind fun bt418 => ((spec_GiveLongest.f k t397 t398).bind fun bt423 => ((impl_BestSpan.f k t397 t398).bind fun bt428 => ((spec_BestSpan.f k t397 t398).bind fun bt430 => ((impl_LeastSpan.f k t397 t398).bind fun bt432 => ((spec_LeastSpan.f k t397 t398).bind fun bt434 => (if (t405 != t407) = true then (none) else (if t404 = t406 then (if (t410 != bt413.2.2) = true then (none) else (if t409 = bt413.2.1 then ((laws_sameInts.f k t408 bt413.1).bind fun t436 => (if t436 = true then (if (bt418.2.2 != bt423.2.2) = true then (none) else (if bt418.2.1 = bt423.2.1 then ((laws_sameInts.f k bt418.1 bt423.1).bind fun t437 => (if t437 = true then (if (bt428.2 != bt430.2) = true then (none) else (if bt428.1 = bt430.1 then (if (bt432.2 != bt434.2) = true then (none) else (if bt432.1 = bt434.1 then ((impl_GoodChores.f t397 t398).bind fun t438 => (laws_FnHands.j0 k l1 t397 t398 t404 t405 t408 t409 t410 bt418.1 bt418.2.1 bt418.2.2 bt428.1 bt428.2 bt432.1 bt432.2 (t438 != bt413.2.2))) else (none))) else (none))) else (none))) else (none))) else (none))) else (none))) else (none)))))))))) = some r := H
  have A7 := Aside0.mk A70
  clear A70
  replace H := Option.bind_eq_some_iff.mp H
  obtain ⟨⟨t413, t414, t415⟩, A80, H⟩ := H
  replace H : ((impl_GiveLongest.f k t397 t398).bind fun bt418 => ((spec_GiveLongest.f k t397 t398).bind fun bt423 => ((impl_BestSpan.f k t397 t398).bind fun bt428 => ((spec_BestSpan.f k t397 t398).bind fun bt430 => ((impl_LeastSpan.f k t397 t398).bind fun bt432 => ((spec_LeastSpan.f k t397 t398).bind fun bt434 => (if (t405 != t407) = true then (none) else (if t404 = t406 then (if (t410 != t415) = true then (none) else (if t409 = t414 then ((laws_sameInts.f k t408 t413).bind fun t436 => (if t436 = true then (if (bt418.2.2 != bt423.2.2) = true then (none) else (if bt418.2.1 = bt423.2.1 then ((laws_sameInts.f k bt418.1 bt423.1).bind fun t437 => (if t437 = true then (if (bt428.2 != bt430.2) = true then (none) else (if bt428.1 = bt430.1 then (if (bt432.2 != bt434.2) = true then (none) else (if bt432.1 = bt434.1 then ((impl_GoodChores.f t397 t398).bind fun t438 => (laws_FnHands.j0 k l1 t397 t398 t404 t405 t408 t409 t410 bt418.1 bt418.2.1 bt418.2.2 bt428.1 bt428.2 bt432.1 bt432.2 (t438 != t415))) else (none))) else (none))) else (none))) else (none))) else (none))) else (none))) else (none))))))))) = some r := H
  have A8 := Aside0.mk A80
  clear A80
  replace H := Option.bind_eq_some_iff.mp H
  obtain ⟨⟨t418, t419, t420⟩, A90, H⟩ := H
  replace H : ((spec_GiveLongest.f k t397 t398).bind fun bt423 => ((impl_BestSpan.f k t397 t398).bind fun bt428 => ((spec_BestSpan.f k t397 t398).bind fun bt430 => ((impl_LeastSpan.f k t397 t398).bind fun bt432 => ((spec_LeastSpan.f k t397 t398).bind fun bt434 => (if (t405 != t407) = true then (none) else (if t404 = t406 then (if (t410 != t415) = true then (none) else (if t409 = t414 then ((laws_sameInts.f k t408 t413).bind fun t436 => (if t436 = true then (if (t420 != bt423.2.2) = true then (none) else (if t419 = bt423.2.1 then ((laws_sameInts.f k t418 bt423.1).bind fun t437 => (if t437 = true then (if (bt428.2 != bt430.2) = true then (none) else (if bt428.1 = bt430.1 then (if (bt432.2 != bt434.2) = true then (none) else (if bt432.1 = bt434.1 then ((impl_GoodChores.f t397 t398).bind fun t438 => (laws_FnHands.j0 k l1 t397 t398 t404 t405 t408 t409 t410 t418 t419 t420 bt428.1 bt428.2 bt432.1 bt432.2 (t438 != t415))) else (none))) else (none))) else (none))) else (none))) else (none))) else (none))) else (none)))))))) = some r := H
  have A9 := Aside0.mk A90
  clear A90
  replace H := Option.bind_eq_some_iff.mp H
  obtain ⟨⟨t423, t424, t425⟩, A100, H⟩ := H
  replace H : ((impl_BestSpan.f k t397 t398).bind fun bt428 => ((spec_BestSpan.f k t397 t398).bind fun bt430 => ((impl_LeastSpan.f k t397 t398).bind fun bt432 => ((spec_LeastSpan.f k t397 t398).bind fun bt434 => (if (t405 != t407) = true then (none) else (if t404 = t406 then (if (t410 != t415) = true then (none) else (if t409 = t414 then ((laws_sameInts.f k t408 t413).bind fun t436 => (if t436 = true then (if (t420 != t425) = true then (none) else (if t419 = t424 then ((laws_sameInts.f k t418 t423).bind fun t437 => (if t437 = true then (if (bt428.2 != bt430.2) = true then (none) else (if bt428.1 = bt430.1 then (if (bt432.2 != bt434.2) = true then (none) else (if bt432.1 = bt434.1 then ((impl_GoodChores.f t397 t398).bind fun t438 => (laws_FnHands.j0 k l1 t397 t398 t404 t405 t408 t409 t410 t418 t419 t420 bt428.1 bt428.2 bt432.1 bt432.2 (t438 != t415))) else (none))) else (none))) else (none))) else (none))) else (none))) else (none))) else (none))))))) = some r := H
  have A10 := Aside0.mk A100
  clear A100
  replace H := Option.bind_eq_some_iff.mp H
  obtain ⟨⟨t428, t429⟩, A110, H⟩ := H
  replace H : ((spec_BestSpan.f k t397 t398).bind fun bt430 => ((impl_LeastSpan.f k t397 t398).bind fun bt432 => ((spec_LeastSpan.f k t397 t398).bind fun bt434 => (if (t405 != t407) = true then (none) else (if t404 = t406 then (if (t410 != t415) = true then (none) else (if t409 = t414 then ((laws_sameInts.f k t408 t413).bind fun t436 => (if t436 = true then (if (t420 != t425) = true then (none) else (if t419 = t424 then ((laws_sameInts.f k t418 t423).bind fun t437 => (if t437 = true then (if (t429 != bt430.2) = true then (none) else (if t428 = bt430.1 then (if (bt432.2 != bt434.2) = true then (none) else (if bt432.1 = bt434.1 then ((impl_GoodChores.f t397 t398).bind fun t438 => (laws_FnHands.j0 k l1 t397 t398 t404 t405 t408 t409 t410 t418 t419 t420 t428 t429 bt432.1 bt432.2 (t438 != t415))) else (none))) else (none))) else (none))) else (none))) else (none))) else (none))) else (none)))))) = some r := H
  have A11 := Aside0.mk A110
  clear A110
  replace H := Option.bind_eq_some_iff.mp H
  obtain ⟨⟨t430, t431⟩, A120, H⟩ := H
  replace H : ((impl_LeastSpan.f k t397 t398).bind fun bt432 => ((spec_LeastSpan.f k t397 t398).bind fun bt434 => (if (t405 != t407) = true then (none) else (if t404 = t406 then (if (t410 != t415) = true then (none) else (if t409 = t414 then ((laws_sameInts.f k t408 t413).bind fun t436 => (if t436 = true then (if (t420 != t425) = true then (none) else (if t419 = t424 then ((laws_sameInts.f k t418 t423).bind fun t437 => (if t437 = true then (if (t429 != t431) = true then (none) else (if t428 = t430 then (if (bt432.2 != bt434.2) = true then (none) else (if bt432.1 = bt434.1 then ((impl_GoodChores.f t397 t398).bind fun t438 => (laws_FnHands.j0 k l1 t397 t398 t404 t405 t408 t409 t410 t418 t419 t420 t428 t429 bt432.1 bt432.2 (t438 != t415))) else (none))) else (none))) else (none))) else (none))) else (none))) else (none))) else (none))))) = some r := H
  have A12 := Aside0.mk A120
  clear A120
  replace H := Option.bind_eq_some_iff.mp H
  obtain ⟨⟨t432, t433⟩, A130, H⟩ := H
  replace H : ((spec_LeastSpan.f k t397 t398).bind fun bt434 => (if (t405 != t407) = true then (none) else (if t404 = t406 then (if (t410 != t415) = true then (none) else (if t409 = t414 then ((laws_sameInts.f k t408 t413).bind fun t436 => (if t436 = true then (if (t420 != t425) = true then (none) else (if t419 = t424 then ((laws_sameInts.f k t418 t423).bind fun t437 => (if t437 = true then (if (t429 != t431) = true then (none) else (if t428 = t430 then (if (t433 != bt434.2) = true then (none) else (if t432 = bt434.1 then ((impl_GoodChores.f t397 t398).bind fun t438 => (laws_FnHands.j0 k l1 t397 t398 t404 t405 t408 t409 t410 t418 t419 t420 t428 t429 t432 t433 (t438 != t415))) else (none))) else (none))) else (none))) else (none))) else (none))) else (none))) else (none)))) = some r := H
  have A13 := Aside0.mk A130
  clear A130
  replace H := Option.bind_eq_some_iff.mp H
  obtain ⟨⟨t434, t435⟩, A140, H⟩ := H
  replace H : (if (t405 != t407) = true then (none) else (if t404 = t406 then (if (t410 != t415) = true then (none) else (if t409 = t414 then ((laws_sameInts.f k t408 t413).bind fun t436 => (if t436 = true then (if (t420 != t425) = true then (none) else (if t419 = t424 then ((laws_sameInts.f k t418 t423).bind fun t437 => (if t437 = true then (if (t429 != t431) = true then (none) else (if t428 = t430 then (if (t433 != t435) = true then (none) else (if t432 = t434 then ((impl_GoodChores.f t397 t398).bind fun t438 => (laws_FnHands.j0 k l1 t397 t398 t404 t405 t408 t409 t410 t418 t419 t420 t428 t429 t432 t433 (t438 != t415))) else (none))) else (none))) else (none))) else (none))) else (none))) else (none))) else (none))) = some r := H
  have A14 := Aside0.mk A140
  clear A140
  have HC15 := Aside0.mk H
  clear H
  go_enter Try.func3, Try.ntmps3
  go_upto_region 14 with (first | ((with_reducible refine gate_callee (f := 5) rfl ?_); refine goesL_ (some 44) rfl rfl Try.func5 (by kernel_rfl) rfl #[.slice A0 l0.length c0] rfl (by (try simp only [List.map_toArray, List.map_cons, List.map_nil]); first | done | rfl | (simp only [List.length_drop, List.length_take]; rfl)) ?_; (with_reducible refine (spec_DrawSpanOf.calls k _ _ l0 t397 t398 t399 _ ?side1 ?side2 A4.out).mono ?_); (case side1 => repeat (first | exact HR0.out | (with_reducible refine Kd.C_alloc ?_ _) | (with_reducible refine Kd.C_drewN ?_ _) | (with_reducible refine Kd.C_drew ?_))); (case side2 => exact HC0.out); rintro e w16 ⟨v400, v402, rfl, ho0, ho1, hb⟩; refine ⟨_, rfl, ?_⟩; have n0_ := Aside0.mk (Kd.R_lower ho0 (below_size (by repeat (first | (with_reducible first | exact HB.out | apply below_alloc | apply pw_below_drewN | apply below_drew1) | exact HB.out)))); have n1_ := Aside0.mk (Kd.R_lower ho1 (below_size (by repeat (first | (with_reducible first | exact HB.out | apply below_alloc | apply pw_below_drewN | apply below_drew1) | exact HB.out)))); have n2_ := Aside0.mk (below_step (by repeat (first | (with_reducible first | exact HB.out | apply below_alloc | apply pw_below_drewN | apply below_drew1) | exact HB.out)) hb); clear HB; have HO401 := n0_; have HO403 := n1_; have HB := n2_; clear n0_ n1_ n2_; (try clear hb); (try clear hb2); (try clear hk); (try clear hi); (try clear ho0); (try clear ho1); obtain ⟨Ao17, co17, eo17⟩ := Kd.R_slice HO401.out; subst eo17; obtain ⟨Ao18, co18, eo18⟩ := Kd.R_slice HO403.out; subst eo18) | ((with_reducible refine gate_callee (f := 6) rfl ?_); refine goesL_ (some 52) rfl rfl Try.func6 (by kernel_rfl) rfl #[.slice Ao17 t397.length co17, .int .i64 t398, .slice Ao18 t399.length co18] rfl (by (try simp only [List.map_toArray, List.map_cons, List.map_nil]); first | done | rfl | (simp only [List.length_drop, List.length_take]; rfl)) ?_; (with_reducible refine (impl_SpanOf.calls k _ _ t397 t398 _ _ t399 t404 t405 _ ?side1 ?side2 ?side3 ?side4 A5.out).mono ?_); (case side1 => repeat (first | exact (Kd.R_reads' HO401.out).2.2 | (with_reducible refine Kd.C_alloc ?_ _) | (with_reducible refine Kd.C_drewN ?_ _) | (with_reducible refine Kd.C_drew ?_))); (case side2 => exact (Kd.R_reads' HO401.out).2.1); (case side3 => repeat (first | exact (Kd.R_reads' HO403.out).2.2 | (with_reducible refine Kd.C_alloc ?_ _) | (with_reducible refine Kd.C_drewN ?_ _) | (with_reducible refine Kd.C_drew ?_))); (case side4 => exact (Kd.R_reads' HO403.out).2.1); rintro e w19 ⟨rfl, hb⟩; refine ⟨_, rfl, ?_⟩; have n0_ := Aside0.mk (Kd.R_below (by (with_reducible repeat (first | apply Kd.R_alloc | apply Kd.R_drewN | apply Kd.R_drew)); exact HO401.out) hb); have n1_ := Aside0.mk (Kd.R_below (by (with_reducible repeat (first | apply Kd.R_alloc | apply Kd.R_drewN | apply Kd.R_drew)); exact HO403.out) hb); have n2_ := Aside0.mk (below_step (by repeat (first | (with_reducible first | exact HB.out | apply below_alloc | apply pw_below_drewN | apply below_drew1) | exact HB.out)) hb); clear HO401; clear HO403; clear HB; have HO401 := n0_; have HO403 := n1_; have HB := n2_; clear n0_ n1_ n2_; (try clear hb); (try clear hb2); (try clear hk); (try clear hi)) | ((with_reducible refine gate_callee (f := 7) rfl ?_); refine goesL_ (some 59) rfl rfl Try.func7 (by kernel_rfl) rfl #[.slice Ao17 t397.length co17, .int .i64 t398, .slice Ao18 t399.length co18] rfl (by (try simp only [List.map_toArray, List.map_cons, List.map_nil]); first | done | rfl | (simp only [List.length_drop, List.length_take]; rfl)) ?_; (with_reducible refine (spec_SpanOf.calls k _ _ t397 t398 _ _ t399 t406 t407 _ ?side1 ?side2 ?side3 ?side4 A6.out).mono ?_); (case side1 => repeat (first | exact (Kd.R_reads' HO401.out).2.2 | (with_reducible refine Kd.C_alloc ?_ _) | (with_reducible refine Kd.C_drewN ?_ _) | (with_reducible refine Kd.C_drew ?_))); (case side2 => exact (Kd.R_reads' HO401.out).2.1); (case side3 => repeat (first | exact (Kd.R_reads' HO403.out).2.2 | (with_reducible refine Kd.C_alloc ?_ _) | (with_reducible refine Kd.C_drewN ?_ _) | (with_reducible refine Kd.C_drew ?_))); (case side4 => exact (Kd.R_reads' HO403.out).2.1); rintro e w20 ⟨rfl, hb⟩; refine ⟨_, rfl, ?_⟩; have n0_ := Aside0.mk (Kd.R_below (by (with_reducible repeat (first | apply Kd.R_alloc | apply Kd.R_drewN | apply Kd.R_drew)); exact HO401.out) hb); have n1_ := Aside0.mk (Kd.R_below (by (with_reducible repeat (first | apply Kd.R_alloc | apply Kd.R_drewN | apply Kd.R_drew)); exact HO403.out) hb); have n2_ := Aside0.mk (below_step (by repeat (first | (with_reducible first | exact HB.out | apply below_alloc | apply pw_below_drewN | apply below_drew1) | exact HB.out)) hb); clear HO401; clear HO403; clear HB; have HO401 := n0_; have HO403 := n1_; have HB := n2_; clear n0_ n1_ n2_; (try clear hb); (try clear hb2); (try clear hk); (try clear hi)) | ((with_reducible refine gate_callee (f := 8) rfl ?_); refine goesL_ (some 65) rfl rfl Try.func8 (by kernel_rfl) rfl #[.slice Ao17 t397.length co17, .int .i64 t398] rfl (by (try simp only [List.map_toArray, List.map_cons, List.map_nil]); first | done | rfl | (simp only [List.length_drop, List.length_take]; rfl)) ?_; (with_reducible refine (impl_GiveInOrder.calls k _ _ t397 t398 t408 t409 t410 _ ?side1 ?side2 A7.out).mono ?_); (case side1 => repeat (first | exact (Kd.R_reads' HO401.out).2.2 | (with_reducible refine Kd.C_alloc ?_ _) | (with_reducible refine Kd.C_drewN ?_ _) | (with_reducible refine Kd.C_drew ?_))); (case side2 => exact (Kd.R_reads' HO401.out).2.1); rintro e w21 ⟨v411, rfl, ho0, hb⟩; refine ⟨_, rfl, ?_⟩; have n0_ := Aside0.mk (Kd.R_elder' (by (with_reducible repeat (first | apply Kd.R_alloc | apply Kd.R_drewN | apply Kd.R_drew)); exact HO401.out) (Kd.R_base ho0) hb); have n1_ := Aside0.mk (Kd.R_elder' (by (with_reducible repeat (first | apply Kd.R_alloc | apply Kd.R_drewN | apply Kd.R_drew)); exact HO403.out) (Kd.R_base ho0) hb); have n2_ := Aside0.mk (Kd.R_lower (Kd.R_new' (Kd.R_new' ho0 (Kd.R_lt (by (with_reducible repeat (first | apply Kd.R_alloc | apply Kd.R_drewN | apply Kd.R_drew)); exact HO401.out))) (Kd.R_lt (by (with_reducible repeat (first | apply Kd.R_alloc | apply Kd.R_drewN | apply Kd.R_drew)); exact HO403.out))) (below_size (by repeat (first | (with_reducible first | exact HB.out | apply below_alloc | apply pw_below_drewN | apply below_drew1) | exact HB.out)))); have n3_ := Aside0.mk (below_step (by repeat (first | (with_reducible first | exact HB.out | apply below_alloc | apply pw_below_drewN | apply below_drew1) | exact HB.out)) hb); clear HO401; clear HO403; clear HB; have HO401 := n0_; have HO403 := n1_; have HO412 := n2_; have HB := n3_; clear n0_ n1_ n2_ n3_; (try clear hb); (try clear hb2); (try clear hk); (try clear hi); (try clear ho0)) | ((with_reducible refine gate_callee (f := 9) rfl ?_); refine goesL_ (some 72) rfl rfl Try.func9 (by kernel_rfl) rfl #[.slice Ao17 t397.length co17, .int .i64 t398] rfl (by (try simp only [List.map_toArray, List.map_cons, List.map_nil]); first | done | rfl | (simp only [List.length_drop, List.length_take]; rfl)) ?_; (with_reducible refine (spec_GiveInOrder.calls k _ _ t397 t398 t413 t414 t415 _ ?side1 ?side2 A8.out).mono ?_); (case side1 => repeat (first | exact (Kd.R_reads' HO401.out).2.2 | (with_reducible refine Kd.C_alloc ?_ _) | (with_reducible refine Kd.C_drewN ?_ _) | (with_reducible refine Kd.C_drew ?_))); (case side2 => exact (Kd.R_reads' HO401.out).2.1); rintro e w22 ⟨v416, rfl, ho0, hb⟩; refine ⟨_, rfl, ?_⟩; have n0_ := Aside0.mk (Kd.R_elder' (by (with_reducible repeat (first | apply Kd.R_alloc | apply Kd.R_drewN | apply Kd.R_drew)); exact HO401.out) (Kd.R_base ho0) hb); have n1_ := Aside0.mk (Kd.R_elder' (by (with_reducible repeat (first | apply Kd.R_alloc | apply Kd.R_drewN | apply Kd.R_drew)); exact HO403.out) (Kd.R_base ho0) hb); have n2_ := Aside0.mk (Kd.R_elder' (by (with_reducible repeat (first | apply Kd.R_alloc | apply Kd.R_drewN | apply Kd.R_drew)); exact HO412.out) (Kd.R_base ho0) hb); have n3_ := Aside0.mk (Kd.R_lower (Kd.R_new' (Kd.R_new' (Kd.R_new' ho0 (Kd.R_lt (by (with_reducible repeat (first | apply Kd.R_alloc | apply Kd.R_drewN | apply Kd.R_drew)); exact HO401.out))) (Kd.R_lt (by (with_reducible repeat (first | apply Kd.R_alloc | apply Kd.R_drewN | apply Kd.R_drew)); exact HO403.out))) (Kd.R_lt (by (with_reducible repeat (first | apply Kd.R_alloc | apply Kd.R_drewN | apply Kd.R_drew)); exact HO412.out))) (below_size (by repeat (first | (with_reducible first | exact HB.out | apply below_alloc | apply pw_below_drewN | apply below_drew1) | exact HB.out)))); have n4_ := Aside0.mk (below_step (by repeat (first | (with_reducible first | exact HB.out | apply below_alloc | apply pw_below_drewN | apply below_drew1) | exact HB.out)) hb); clear HO401; clear HO403; clear HO412; clear HB; have HO401 := n0_; have HO403 := n1_; have HO412 := n2_; have HO417 := n3_; have HB := n4_; clear n0_ n1_ n2_ n3_ n4_; (try clear hb); (try clear hb2); (try clear hk); (try clear hi); (try clear ho0)) | ((with_reducible refine gate_callee (f := 10) rfl ?_); refine goesL_ (some 79) rfl rfl Try.func10 (by kernel_rfl) rfl #[.slice Ao17 t397.length co17, .int .i64 t398] rfl (by (try simp only [List.map_toArray, List.map_cons, List.map_nil]); first | done | rfl | (simp only [List.length_drop, List.length_take]; rfl)) ?_; (with_reducible refine (impl_GiveLongest.calls k _ _ t397 t398 t418 t419 t420 _ ?side1 ?side2 A9.out).mono ?_); (case side1 => repeat (first | exact (Kd.R_reads' HO401.out).2.2 | (with_reducible refine Kd.C_alloc ?_ _) | (with_reducible refine Kd.C_drewN ?_ _) | (with_reducible refine Kd.C_drew ?_))); (case side2 => exact (Kd.R_reads' HO401.out).2.1); rintro e w23 ⟨v421, rfl, ho0, hb⟩; refine ⟨_, rfl, ?_⟩; have n0_ := Aside0.mk (Kd.R_elder' (by (with_reducible repeat (first | apply Kd.R_alloc | apply Kd.R_drewN | apply Kd.R_drew)); exact HO401.out) (Kd.R_base ho0) hb); have n1_ := Aside0.mk (Kd.R_elder' (by (with_reducible repeat (first | apply Kd.R_alloc | apply Kd.R_drewN | apply Kd.R_drew)); exact HO403.out) (Kd.R_base ho0) hb); have n2_ := Aside0.mk (Kd.R_elder' (by (with_reducible repeat (first | apply Kd.R_alloc | apply Kd.R_drewN | apply Kd.R_drew)); exact HO412.out) (Kd.R_base ho0) hb); have n3_ := Aside0.mk (Kd.R_elder' (by (with_reducible repeat (first | apply Kd.R_alloc | apply Kd.R_drewN | apply Kd.R_drew)); exact HO417.out) (Kd.R_base ho0) hb); have n4_ := Aside0.mk (Kd.R_lower (Kd.R_new' (Kd.R_new' (Kd.R_new' (Kd.R_new' ho0 (Kd.R_lt (by (with_reducible repeat (first | apply Kd.R_alloc | apply Kd.R_drewN | apply Kd.R_drew)); exact HO401.out))) (Kd.R_lt (by (with_reducible repeat (first | apply Kd.R_alloc | apply Kd.R_drewN | apply Kd.R_drew)); exact HO403.out))) (Kd.R_lt (by (with_reducible repeat (first | apply Kd.R_alloc | apply Kd.R_drewN | apply Kd.R_drew)); exact HO412.out))) (Kd.R_lt (by (with_reducible repeat (first | apply Kd.R_alloc | apply Kd.R_drewN | apply Kd.R_drew)); exact HO417.out))) (below_size (by repeat (first | (with_reducible first | exact HB.out | apply below_alloc | apply pw_below_drewN | apply below_drew1) | exact HB.out)))); have n5_ := Aside0.mk (below_step (by repeat (first | (with_reducible first | exact HB.out | apply below_alloc | apply pw_below_drewN | apply below_drew1) | exact HB.out)) hb); clear HO401; clear HO403; clear HO412; clear HO417; clear HB; have HO401 := n0_; have HO403 := n1_; have HO412 := n2_; have HO417 := n3_; have HO422 := n4_; have HB := n5_; clear n0_ n1_ n2_ n3_ n4_ n5_; (try clear hb); (try clear hb2); (try clear hk); (try clear hi); (try clear ho0)) | ((with_reducible refine gate_callee (f := 11) rfl ?_); refine goesL_ (some 86) rfl rfl Try.func11 (by kernel_rfl) rfl #[.slice Ao17 t397.length co17, .int .i64 t398] rfl (by (try simp only [List.map_toArray, List.map_cons, List.map_nil]); first | done | rfl | (simp only [List.length_drop, List.length_take]; rfl)) ?_; (with_reducible refine (spec_GiveLongest.calls k _ _ t397 t398 t423 t424 t425 _ ?side1 ?side2 A10.out).mono ?_); (case side1 => repeat (first | exact (Kd.R_reads' HO401.out).2.2 | (with_reducible refine Kd.C_alloc ?_ _) | (with_reducible refine Kd.C_drewN ?_ _) | (with_reducible refine Kd.C_drew ?_))); (case side2 => exact (Kd.R_reads' HO401.out).2.1); rintro e w24 ⟨v426, rfl, ho0, hb⟩; refine ⟨_, rfl, ?_⟩; have n0_ := Aside0.mk (Kd.R_elder' (by (with_reducible repeat (first | apply Kd.R_alloc | apply Kd.R_drewN | apply Kd.R_drew)); exact HO401.out) (Kd.R_base ho0) hb); have n1_ := Aside0.mk (Kd.R_elder' (by (with_reducible repeat (first | apply Kd.R_alloc | apply Kd.R_drewN | apply Kd.R_drew)); exact HO403.out) (Kd.R_base ho0) hb); have n2_ := Aside0.mk (Kd.R_elder' (by (with_reducible repeat (first | apply Kd.R_alloc | apply Kd.R_drewN | apply Kd.R_drew)); exact HO412.out) (Kd.R_base ho0) hb); have n3_ := Aside0.mk (Kd.R_elder' (by (with_reducible repeat (first | apply Kd.R_alloc | apply Kd.R_drewN | apply Kd.R_drew)); exact HO417.out) (Kd.R_base ho0) hb); have n4_ := Aside0.mk (Kd.R_elder' (by (with_reducible repeat (first | apply Kd.R_alloc | apply Kd.R_drewN | apply Kd.R_drew)); exact HO422.out) (Kd.R_base ho0) hb); have n5_ := Aside0.mk (Kd.R_lower (Kd.R_new' (Kd.R_new' (Kd.R_new' (Kd.R_new' (Kd.R_new' ho0 (Kd.R_lt (by (with_reducible repeat (first | apply Kd.R_alloc | apply Kd.R_drewN | apply Kd.R_drew)); exact HO401.out))) (Kd.R_lt (by (with_reducible repeat (first | apply Kd.R_alloc | apply Kd.R_drewN | apply Kd.R_drew)); exact HO403.out))) (Kd.R_lt (by (with_reducible repeat (first | apply Kd.R_alloc | apply Kd.R_drewN | apply Kd.R_drew)); exact HO412.out))) (Kd.R_lt (by (with_reducible repeat (first | apply Kd.R_alloc | apply Kd.R_drewN | apply Kd.R_drew)); exact HO417.out))) (Kd.R_lt (by (with_reducible repeat (first | apply Kd.R_alloc | apply Kd.R_drewN | apply Kd.R_drew)); exact HO422.out))) (below_size (by repeat (first | (with_reducible first | exact HB.out | apply below_alloc | apply pw_below_drewN | apply below_drew1) | exact HB.out)))); have n6_ := Aside0.mk (below_step (by repeat (first | (with_reducible first | exact HB.out | apply below_alloc | apply pw_below_drewN | apply below_drew1) | exact HB.out)) hb); clear HO401; clear HO403; clear HO412; clear HO417; clear HO422; clear HB; have HO401 := n0_; have HO403 := n1_; have HO412 := n2_; have HO417 := n3_; have HO422 := n4_; have HO427 := n5_; have HB := n6_; clear n0_ n1_ n2_ n3_ n4_ n5_ n6_; (try clear hb); (try clear hb2); (try clear hk); (try clear hi); (try clear ho0)) | ((with_reducible refine gate_callee (f := 12) rfl ?_); refine goesL_ (some 93) rfl rfl Try.func12 (by kernel_rfl) rfl #[.slice Ao17 t397.length co17, .int .i64 t398] rfl (by (try simp only [List.map_toArray, List.map_cons, List.map_nil]); first | done | rfl | (simp only [List.length_drop, List.length_take]; rfl)) ?_; (with_reducible refine (impl_BestSpan.calls k _ _ t397 t398 t428 t429 _ ?side1 ?side2 A11.out).mono ?_); (case side1 => repeat (first | exact (Kd.R_reads' HO401.out).2.2 | (with_reducible refine Kd.C_alloc ?_ _) | (with_reducible refine Kd.C_drewN ?_ _) | (with_reducible refine Kd.C_drew ?_))); (case side2 => exact (Kd.R_reads' HO401.out).2.1); rintro e w25 ⟨rfl, hb⟩; refine ⟨_, rfl, ?_⟩; have n0_ := Aside0.mk (Kd.R_below (by (with_reducible repeat (first | apply Kd.R_alloc | apply Kd.R_drewN | apply Kd.R_drew)); exact HO401.out) hb); have n1_ := Aside0.mk (Kd.R_below (by (with_reducible repeat (first | apply Kd.R_alloc | apply Kd.R_drewN | apply Kd.R_drew)); exact HO403.out) hb); have n2_ := Aside0.mk (Kd.R_below (by (with_reducible repeat (first | apply Kd.R_alloc | apply Kd.R_drewN | apply Kd.R_drew)); exact HO412.out) hb); have n3_ := Aside0.mk (Kd.R_below (by (with_reducible repeat (first | apply Kd.R_alloc | apply Kd.R_drewN | apply Kd.R_drew)); exact HO417.out) hb); have n4_ := Aside0.mk (Kd.R_below (by (with_reducible repeat (first | apply Kd.R_alloc | apply Kd.R_drewN | apply Kd.R_drew)); exact HO422.out) hb); have n5_ := Aside0.mk (Kd.R_below (by (with_reducible repeat (first | apply Kd.R_alloc | apply Kd.R_drewN | apply Kd.R_drew)); exact HO427.out) hb); have n6_ := Aside0.mk (below_step (by repeat (first | (with_reducible first | exact HB.out | apply below_alloc | apply pw_below_drewN | apply below_drew1) | exact HB.out)) hb); clear HO401; clear HO403; clear HO412; clear HO417; clear HO422; clear HO427; clear HB; have HO401 := n0_; have HO403 := n1_; have HO412 := n2_; have HO417 := n3_; have HO422 := n4_; have HO427 := n5_; have HB := n6_; clear n0_ n1_ n2_ n3_ n4_ n5_ n6_; (try clear hb); (try clear hb2); (try clear hk); (try clear hi)) | ((with_reducible refine gate_callee (f := 13) rfl ?_); refine goesL_ (some 99) rfl rfl Try.func13 (by kernel_rfl) rfl #[.slice Ao17 t397.length co17, .int .i64 t398] rfl (by (try simp only [List.map_toArray, List.map_cons, List.map_nil]); first | done | rfl | (simp only [List.length_drop, List.length_take]; rfl)) ?_; (with_reducible refine (spec_BestSpan.calls k _ _ t397 t398 t430 t431 _ ?side1 ?side2 A12.out).mono ?_); (case side1 => repeat (first | exact (Kd.R_reads' HO401.out).2.2 | (with_reducible refine Kd.C_alloc ?_ _) | (with_reducible refine Kd.C_drewN ?_ _) | (with_reducible refine Kd.C_drew ?_))); (case side2 => exact (Kd.R_reads' HO401.out).2.1); rintro e w26 ⟨rfl, hb⟩; refine ⟨_, rfl, ?_⟩; have n0_ := Aside0.mk (Kd.R_below (by (with_reducible repeat (first | apply Kd.R_alloc | apply Kd.R_drewN | apply Kd.R_drew)); exact HO401.out) hb); have n1_ := Aside0.mk (Kd.R_below (by (with_reducible repeat (first | apply Kd.R_alloc | apply Kd.R_drewN | apply Kd.R_drew)); exact HO403.out) hb); have n2_ := Aside0.mk (Kd.R_below (by (with_reducible repeat (first | apply Kd.R_alloc | apply Kd.R_drewN | apply Kd.R_drew)); exact HO412.out) hb); have n3_ := Aside0.mk (Kd.R_below (by (with_reducible repeat (first | apply Kd.R_alloc | apply Kd.R_drewN | apply Kd.R_drew)); exact HO417.out) hb); have n4_ := Aside0.mk (Kd.R_below (by (with_reducible repeat (first | apply Kd.R_alloc | apply Kd.R_drewN | apply Kd.R_drew)); exact HO422.out) hb); have n5_ := Aside0.mk (Kd.R_below (by (with_reducible repeat (first | apply Kd.R_alloc | apply Kd.R_drewN | apply Kd.R_drew)); exact HO427.out) hb); have n6_ := Aside0.mk (below_step (by repeat (first | (with_reducible first | exact HB.out | apply below_alloc | apply pw_below_drewN | apply below_drew1) | exact HB.out)) hb); clear HO401; clear HO403; clear HO412; clear HO417; clear HO422; clear HO427; clear HB; have HO401 := n0_; have HO403 := n1_; have HO412 := n2_; have HO417 := n3_; have HO422 := n4_; have HO427 := n5_; have HB := n6_; clear n0_ n1_ n2_ n3_ n4_ n5_ n6_; (try clear hb); (try clear hb2); (try clear hk); (try clear hi)) | ((with_reducible refine gate_callee (f := 14) rfl ?_); refine goesL_ (some 105) rfl rfl Try.func14 (by kernel_rfl) rfl #[.slice Ao17 t397.length co17, .int .i64 t398] rfl (by (try simp only [List.map_toArray, List.map_cons, List.map_nil]); first | done | rfl | (simp only [List.length_drop, List.length_take]; rfl)) ?_; (with_reducible refine (impl_LeastSpan.calls k _ _ t397 t398 t432 t433 _ ?side1 ?side2 A13.out).mono ?_); (case side1 => repeat (first | exact (Kd.R_reads' HO401.out).2.2 | (with_reducible refine Kd.C_alloc ?_ _) | (with_reducible refine Kd.C_drewN ?_ _) | (with_reducible refine Kd.C_drew ?_))); (case side2 => exact (Kd.R_reads' HO401.out).2.1); rintro e w27 ⟨rfl, hb⟩; refine ⟨_, rfl, ?_⟩; have n0_ := Aside0.mk (Kd.R_below (by (with_reducible repeat (first | apply Kd.R_alloc | apply Kd.R_drewN | apply Kd.R_drew)); exact HO401.out) hb); have n1_ := Aside0.mk (Kd.R_below (by (with_reducible repeat (first | apply Kd.R_alloc | apply Kd.R_drewN | apply Kd.R_drew)); exact HO403.out) hb); have n2_ := Aside0.mk (Kd.R_below (by (with_reducible repeat (first | apply Kd.R_alloc | apply Kd.R_drewN | apply Kd.R_drew)); exact HO412.out) hb); have n3_ := Aside0.mk (Kd.R_below (by (with_reducible repeat (first | apply Kd.R_alloc | apply Kd.R_drewN | apply Kd.R_drew)); exact HO417.out) hb); have n4_ := Aside0.mk (Kd.R_below (by (with_reducible repeat (first | apply Kd.R_alloc | apply Kd.R_drewN | apply Kd.R_drew)); exact HO422.out) hb); have n5_ := Aside0.mk (Kd.R_below (by (with_reducible repeat (first | apply Kd.R_alloc | apply Kd.R_drewN | apply Kd.R_drew)); exact HO427.out) hb); have n6_ := Aside0.mk (below_step (by repeat (first | (with_reducible first | exact HB.out | apply below_alloc | apply pw_below_drewN | apply below_drew1) | exact HB.out)) hb); clear HO401; clear HO403; clear HO412; clear HO417; clear HO422; clear HO427; clear HB; have HO401 := n0_; have HO403 := n1_; have HO412 := n2_; have HO417 := n3_; have HO422 := n4_; have HO427 := n5_; have HB := n6_; clear n0_ n1_ n2_ n3_ n4_ n5_ n6_; (try clear hb); (try clear hb2); (try clear hk); (try clear hi)) | ((with_reducible refine gate_callee (f := 15) rfl ?_); refine goesL_ (some 111) rfl rfl Try.func15 (by kernel_rfl) rfl #[.slice Ao17 t397.length co17, .int .i64 t398] rfl (by (try simp only [List.map_toArray, List.map_cons, List.map_nil]); first | done | rfl | (simp only [List.length_drop, List.length_take]; rfl)) ?_; (with_reducible refine (spec_LeastSpan.calls k _ _ t397 t398 t434 t435 _ ?side1 ?side2 A14.out).mono ?_); (case side1 => repeat (first | exact (Kd.R_reads' HO401.out).2.2 | (with_reducible refine Kd.C_alloc ?_ _) | (with_reducible refine Kd.C_drewN ?_ _) | (with_reducible refine Kd.C_drew ?_))); (case side2 => exact (Kd.R_reads' HO401.out).2.1); rintro e w' ⟨rfl, ⟨nd, rfl⟩⟩; refine ⟨_, rfl, ?_⟩))
  (try simp only [Act.put, List.setIfInBounds_toArray, List.set_cons_zero, List.set_cons_succ])
  go_cut [180] (fun v180 wc => ∃ (kq : Nat) (x180_14 : Bool), v180 = .bool x180_14 ∧ Aside0 (laws_FnHands.j0 kq l1 t397 t398 t404 t405 t408 t409 t410 t418 t419 t420 t428 t429 t432 t433 x180_14 = some r) ∧ Aside0 (kq ≤ k) ∧ Aside0 (Kd.R (Kd.int .i64) 3 wc w.heap.size (fun k_ => some k_ ≠ (v411 : Value).ownBlock ∧ some k_ ≠ (v421 : Value).ownBlock) (.slice Ao17 t397.length co17) t397) ∧ Aside0 (Kd.R (Kd.int .i64) 3 wc w.heap.size (fun k_ => some k_ ≠ ((.slice Ao17 t397.length co17) : Value).ownBlock ∧ some k_ ≠ (v421 : Value).ownBlock) v411 t408) ∧ Aside0 (Kd.R (Kd.int .i64) 3 wc w.heap.size (fun k_ => some k_ ≠ ((.slice Ao17 t397.length co17) : Value).ownBlock ∧ some k_ ≠ (v411 : Value).ownBlock) v421 t418) ∧ Aside0 (Below w.heap.size w wc))
  case first =>
   as_aux_lemma =>
    have H := HC15.out
    clear HC15
    by_cases c28 : (t405 != t407) = true
    ·rw [if_pos c28] at H
     exact absurd H (by simp)
    ·rw [if_neg c28] at H
     have c28b0 : (t405 != t407) = false := by simpa using c28
     (try (have c28b1 : decide (t405 = t407) = true := by simpa using c28))
     (try (have c28b2 : (t405 == t407) = true := by simpa using c28))
     clear c28
     (first | rw [c28b0] | (simp only [i64_w, i32_w]; rw [c28b0]) | skip)
     by_cases c29 : t404 = t406
     ·rw [if_pos c29] at H
      have c29b0 : (t404 == t406) = true := beq_iff_eq.mpr c29
      have c29b1 : (t404 != t406) = false := bne_eq_false_iff_eq.mpr c29
      clear c29
      by_cases c30 : (t410 != t415) = true
      ·rw [if_pos c30] at H
       exact absurd H (by simp)
      ·rw [if_neg c30] at H
       have c30b0 : (t410 != t415) = false := by simpa using c30
       (try (have c30b1 : decide (t410 = t415) = true := by simpa using c30))
       (try (have c30b2 : (t410 == t415) = true := by simpa using c30))
       clear c30
       by_cases c31 : t409 = t414
       ·rw [if_pos c31] at H
        have c31b0 : (t409 == t414) = true := beq_iff_eq.mpr c31
        have c31b1 : (t409 != t414) = false := bne_eq_false_iff_eq.mpr c31
        clear c31
        replace H := Option.bind_eq_some_iff.mp H
        obtain ⟨t436, A320, H⟩ := H
        replace H : (if t436 = true then (if (t420 != t425) = true then (none) else (if t419 = t424 then ((laws_sameInts.f k t418 t423).bind fun t437 => (if t437 = true then (if (t429 != t431) = true then (none) else (if t428 = t430 then (if (t433 != t435) = true then (none) else (if t432 = t434 then ((impl_GoodChores.f t397 t398).bind fun t438 => (laws_FnHands.j0 k l1 t397 t398 t404 t405 t408 t409 t410 t418 t419 t420 t428 t429 t432 t433 (t438 != t415))) else (none))) else (none))) else (none))) else (none))) else (none)) = some r := H
        have A32 := Aside0.mk A320
        clear A320
        by_cases c33 : t436 = true
        ·subst c33
         have H1 : (if (t420 != t425) = true then (none) else (if t419 = t424 then ((laws_sameInts.f k t418 t423).bind fun t437 => (if t437 = true then (if (t429 != t431) = true then (none) else (if t428 = t430 then (if (t433 != t435) = true then (none) else (if t432 = t434 then ((impl_GoodChores.f t397 t398).bind fun t438 => (laws_FnHands.j0 k l1 t397 t398 t404 t405 t408 t409 t410 t418 t419 t420 t428 t429 t432 t433 (t438 != t415))) else (none))) else (none))) else (none))) else (none))) = some r := by rw [if_pos rfl] at H; exact H
         clear H
         have H := H1
         clear H1
         by_cases c34 : (t420 != t425) = true
         ·rw [if_pos c34] at H
          exact absurd H (by simp)
         ·rw [if_neg c34] at H
          have c34b0 : (t420 != t425) = false := by simpa using c34
          (try (have c34b1 : decide (t420 = t425) = true := by simpa using c34))
          (try (have c34b2 : (t420 == t425) = true := by simpa using c34))
          clear c34
          by_cases c35 : t419 = t424
          ·rw [if_pos c35] at H
           have c35b0 : (t419 == t424) = true := beq_iff_eq.mpr c35
           have c35b1 : (t419 != t424) = false := bne_eq_false_iff_eq.mpr c35
           clear c35
           replace H := Option.bind_eq_some_iff.mp H
           obtain ⟨t437, A360, H⟩ := H
           replace H : (if t437 = true then (if (t429 != t431) = true then (none) else (if t428 = t430 then (if (t433 != t435) = true then (none) else (if t432 = t434 then ((impl_GoodChores.f t397 t398).bind fun t438 => (laws_FnHands.j0 k l1 t397 t398 t404 t405 t408 t409 t410 t418 t419 t420 t428 t429 t432 t433 (t438 != t415))) else (none))) else (none))) else (none)) = some r := H
           have A36 := Aside0.mk A360
           clear A360
           by_cases c37 : t437 = true
           ·subst c37
            have H1 : (if (t429 != t431) = true then (none) else (if t428 = t430 then (if (t433 != t435) = true then (none) else (if t432 = t434 then ((impl_GoodChores.f t397 t398).bind fun t438 => (laws_FnHands.j0 k l1 t397 t398 t404 t405 t408 t409 t410 t418 t419 t420 t428 t429 t432 t433 (t438 != t415))) else (none))) else (none))) = some r := by rw [if_pos rfl] at H; exact H
            clear H
            have H := H1
            clear H1
            by_cases c38 : (t429 != t431) = true
            ·rw [if_pos c38] at H
             exact absurd H (by simp)
            ·rw [if_neg c38] at H
             have c38b0 : (t429 != t431) = false := by simpa using c38
             (try (have c38b1 : decide (t429 = t431) = true := by simpa using c38))
             (try (have c38b2 : (t429 == t431) = true := by simpa using c38))
             clear c38
             by_cases c39 : t428 = t430
             ·rw [if_pos c39] at H
              have c39b0 : (t428 == t430) = true := beq_iff_eq.mpr c39
              have c39b1 : (t428 != t430) = false := bne_eq_false_iff_eq.mpr c39
              clear c39
              by_cases c40 : (t433 != t435) = true
              ·rw [if_pos c40] at H
               exact absurd H (by simp)
              ·rw [if_neg c40] at H
               have c40b0 : (t433 != t435) = false := by simpa using c40
               (try (have c40b1 : decide (t433 = t435) = true := by simpa using c40))
               (try (have c40b2 : (t433 == t435) = true := by simpa using c40))
               clear c40
               by_cases c41 : t432 = t434
               ·rw [if_pos c41] at H
                have c41b0 : (t432 == t434) = true := beq_iff_eq.mpr c41
                have c41b1 : (t432 != t434) = false := bne_eq_false_iff_eq.mpr c41
                clear c41
                replace H := Option.bind_eq_some_iff.mp H
                obtain ⟨t438, A420, H⟩ := H
                replace H : (laws_FnHands.j0 k l1 t397 t398 t404 t405 t408 t409 t410 t418 t419 t420 t428 t429 t432 t433 (t438 != t415)) = some r := H
                have A42 := Aside0.mk A420
                clear A420
                have H' := Aside0.mk H
                clear H
                obtain ⟨Ao43, co43, eo43⟩ := Kd.R_slice HO412.out
                subst eo43
                obtain ⟨Ao44, co44, eo44⟩ := Kd.R_slice HO417.out
                subst eo44
                as_aux_lemma =>
                 go_wp2_with (first | (go_at_call 16; (with_reducible refine (laws_sameInts.calls k _ _ t408 _ _ t413 true _ ?side1 ?side2 ?side3 ?side4 A32.out).mono ?_); (case side1 => repeat (first | exact (Kd.R_reads' HO412.out).2.2 | (with_reducible refine Kd.C_alloc ?_ _) | (with_reducible refine Kd.C_drewN ?_ _) | (with_reducible refine Kd.C_drew ?_))); (case side2 => exact (Kd.R_reads' HO412.out).2.1); (case side3 => repeat (first | exact (Kd.R_reads' HO417.out).2.2 | (with_reducible refine Kd.C_alloc ?_ _) | (with_reducible refine Kd.C_drewN ?_ _) | (with_reducible refine Kd.C_drew ?_))); (case side4 => exact (Kd.R_reads' HO417.out).2.1); rintro e w' ⟨rfl, ⟨nd, rfl⟩⟩; obtain ⟨Ao45, co45, eo45⟩ := Kd.R_slice HO422.out; subst eo45; obtain ⟨Ao46, co46, eo46⟩ := Kd.R_slice HO427.out; subst eo46) | (go_at_call 16; (with_reducible refine (laws_sameInts.calls k _ _ t418 _ _ t423 true _ ?side1 ?side2 ?side3 ?side4 A36.out).mono ?_); (case side1 => repeat (first | exact (Kd.R_reads' HO422.out).2.2 | (with_reducible refine Kd.C_alloc ?_ _) | (with_reducible refine Kd.C_drewN ?_ _) | (with_reducible refine Kd.C_drew ?_))); (case side2 => exact (Kd.R_reads' HO422.out).2.1); (case side3 => repeat (first | exact (Kd.R_reads' HO427.out).2.2 | (with_reducible refine Kd.C_alloc ?_ _) | (with_reducible refine Kd.C_drewN ?_ _) | (with_reducible refine Kd.C_drew ?_))); (case side4 => exact (Kd.R_reads' HO427.out).2.1); rintro e w' ⟨rfl, ⟨nd, rfl⟩⟩) | (go_at_call 17; (with_reducible refine (impl_GoodChores.calls _ _ t397 t398 t438 _ ?side1 ?side2 A42.out).mono ?_); (case side1 => repeat (first | exact (Kd.R_reads' HO401.out).2.2 | (with_reducible refine Kd.C_alloc ?_ _) | (with_reducible refine Kd.C_drewN ?_ _) | (with_reducible refine Kd.C_drew ?_))); (case side2 => exact (Kd.R_reads' HO401.out).2.1); rintro e w47 ⟨rfl, hb⟩; have n0_ := Aside0.mk (Kd.R_below (by (with_reducible repeat (first | apply Kd.R_alloc | apply Kd.R_drewN | apply Kd.R_drew)); exact HO401.out) hb); have n1_ := Aside0.mk (Kd.R_below (by (with_reducible repeat (first | apply Kd.R_alloc | apply Kd.R_drewN | apply Kd.R_drew)); exact HO403.out) hb); have n2_ := Aside0.mk (Kd.R_below (by (with_reducible repeat (first | apply Kd.R_alloc | apply Kd.R_drewN | apply Kd.R_drew)); exact HO412.out) hb); have n3_ := Aside0.mk (Kd.R_below (by (with_reducible repeat (first | apply Kd.R_alloc | apply Kd.R_drewN | apply Kd.R_drew)); exact HO417.out) hb); have n4_ := Aside0.mk (Kd.R_below (by (with_reducible repeat (first | apply Kd.R_alloc | apply Kd.R_drewN | apply Kd.R_drew)); exact HO422.out) hb); have n5_ := Aside0.mk (Kd.R_below (by (with_reducible repeat (first | apply Kd.R_alloc | apply Kd.R_drewN | apply Kd.R_drew)); exact HO427.out) hb); have n6_ := Aside0.mk (below_step (by repeat (first | (with_reducible first | exact HB.out | apply below_alloc | apply pw_below_drewN | apply below_drew1) | exact HB.out)) hb); clear HO401; clear HO403; clear HO412; clear HO417; clear HO422; clear HO427; clear HB; have HO401 := n0_; have HO403 := n1_; have HO412 := n2_; have HO417 := n3_; have HO422 := n4_; have HO427 := n5_; have HB := n6_; clear n0_ n1_ n2_ n3_ n4_ n5_ n6_; (try clear hb); (try clear hb2); (try clear hk); (try clear hi)))
                 go_meet
                 case rel => exact ⟨_, ((t438 != t415)), (by first | rfl | (simp; done) | (simp [*]; done)), H', ⟨by first | omega | exact Nat.le_refl _⟩, ⟨by (with_reducible repeat (first | apply Kd.R_alloc | apply Kd.R_drewN | apply Kd.R_drew)); exact Kd.R_mono HO401.out (fun _ hk => ⟨hk.1.1.1.2, hk.1.2⟩)⟩, ⟨by (with_reducible repeat (first | apply Kd.R_alloc | apply Kd.R_drewN | apply Kd.R_drew)); exact Kd.R_mono HO412.out (fun _ hk => ⟨hk.1.1.1.1.2, hk.1.2⟩)⟩, ⟨by (with_reducible repeat (first | apply Kd.R_alloc | apply Kd.R_drewN | apply Kd.R_drew)); exact Kd.R_mono HO422.out (fun _ hk => ⟨hk.1.1.1.1.2, hk.1.1.2⟩)⟩, ⟨by repeat (first | (with_reducible first | exact HB.out | apply below_alloc | apply pw_below_drewN | apply below_drew1) | exact HB.out)⟩⟩
               ·rw [if_neg c41] at H
                exact absurd H (by simp)
             ·rw [if_neg c39] at H
              exact absurd H (by simp)
           ·replace c37 := Bool.eq_false_iff.mpr c37
            subst c37
            have H1 : (none) = some r := by rw [if_neg (show ¬ (false = true) by decide)] at H; exact H
            clear H
            have H := H1
            clear H1
            exact absurd H (by simp)
          ·rw [if_neg c35] at H
           exact absurd H (by simp)
        ·replace c33 := Bool.eq_false_iff.mpr c33
         subst c33
         have H1 : (none) = some r := by rw [if_neg (show ¬ (false = true) by decide)] at H; exact H
         clear H
         have H := H1
         clear H1
         exact absurd H (by simp)
       ·rw [if_neg c31] at H
        exact absurd H (by simp)
     ·rw [if_neg c29] at H
      exact absurd H (by simp)
  case rest =>
   as_aux_lemma =>
    clear HC15
    try clear c1
    try clear c2
    try clear p2
    try clear c3
    try clear c3b0
    try clear c4
    try clear c5
    try clear c6
    try clear p6
    try clear c7
    try clear c8
    try clear c9
    try clear c10
    try clear c11
    try clear c12
    try clear c13
    try clear c14
    try clear c15
    try clear c28
    try clear c28b0
    try clear c28b1
    try clear c28b2
    try clear c29
    try clear c29b0
    try clear c29b1
    try clear c30
    try clear c30b0
    try clear c30b1
    try clear c30b2
    try clear c31
    try clear c31b0
    try clear c31b1
    try clear c33
    try clear c34
    try clear c34b0
    try clear c34b1
    try clear c34b2
    try clear c35
    try clear c35b0
    try clear c35b1
    try clear c37
    try clear c38
    try clear c38b0
    try clear c38b1
    try clear c38b2
    try clear c39
    try clear c39b0
    try clear c39b1
    try clear c40
    try clear c40b0
    try clear c40b1
    try clear c40b2
    try clear c41
    try clear c41b0
    try clear c41b1
    obtain ⟨kq, x180_14, rfl, HA, HJ14, HO_5, HO_12, HO_18, HB⟩ := hcut
    cases kq with
    | zero => exact absurd HA.out (by simp [laws_FnHands.j0])
    | succ kj14 =>
     have H := HA.out
     clear HA
     simp only [laws_FnHands.j0] at H
     by_cases c48 : x180_14 = true
     ·subst c48
      have H1 : (none) = some r := by rw [if_pos rfl] at H; exact H
      clear H
      have H := H1
      clear H1
      exact absurd H (by simp)
     ·replace c48 := Bool.eq_false_iff.mpr c48
      subst c48
      have H1 : (if t410 = true then ((impl_SpanOf.f kj14 t397 t398 t408).bind fun bt439 => ((impl_SpanOf.f kj14 t397 t398 t418).bind fun bt441 => (if t420 = true then (if t429 = true then (if t433 = true then (if bt439.2 = true then (if bt439.1 = t409 then (if bt441.2 = true then (if bt441.1 = t419 then (if t428 < t432 then (none) else (if t409 < t428 then (none) else (if t419 < t428 then (none) else (if t405 = true then (laws_FnHands.j1 kj14 l1 t398 t409 t419 t428 (decide (t404 < t428))) else (laws_FnHands.j1 kj14 l1 t398 t409 t419 t428 false))))) else (none)) else (none)) else (none)) else (none)) else (none)) else (none)) else (none)))) else (some (decide ((l1.length : Int) ≥ 0)))) = some r := by rw [if_neg (show ¬ (false = true) by decide)] at H; exact H
      clear H
      have H := H1
      clear H1
      by_cases c49 : t410 = true
      ·subst c49
       have H1 : ((impl_SpanOf.f kj14 t397 t398 t408).bind fun bt439 => ((impl_SpanOf.f kj14 t397 t398 t418).bind fun bt441 => (if t420 = true then (if t429 = true then (if t433 = true then (if bt439.2 = true then (if bt439.1 = t409 then (if bt441.2 = true then (if bt441.1 = t419 then (if t428 < t432 then (none) else (if t409 < t428 then (none) else (if t419 < t428 then (none) else (if t405 = true then (laws_FnHands.j1 kj14 l1 t398 t409 t419 t428 (decide (t404 < t428))) else (laws_FnHands.j1 kj14 l1 t398 t409 t419 t428 false))))) else (none)) else (none)) else (none)) else (none)) else (none)) else (none)) else (none)))) = some r := by rw [if_pos rfl] at H; exact H
       clear H
       have H := H1
       clear H1
       replace H := Option.bind_eq_some_iff.mp H
       obtain ⟨⟨t439, t440⟩, A500, H⟩ := H
       replace H : ((impl_SpanOf.f kj14 t397 t398 t418).bind fun bt441 => (if t420 = true then (if t429 = true then (if t433 = true then (if t440 = true then (if t439 = t409 then (if bt441.2 = true then (if bt441.1 = t419 then (if t428 < t432 then (none) else (if t409 < t428 then (none) else (if t419 < t428 then (none) else (if t405 = true then (laws_FnHands.j1 kj14 l1 t398 t409 t419 t428 (decide (t404 < t428))) else (laws_FnHands.j1 kj14 l1 t398 t409 t419 t428 false))))) else (none)) else (none)) else (none)) else (none)) else (none)) else (none)) else (none))) = some r := H
       have A50 := Aside0.mk A500
       clear A500
       replace H := Option.bind_eq_some_iff.mp H
       obtain ⟨⟨t441, t442⟩, A510, H⟩ := H
       replace H : (if t420 = true then (if t429 = true then (if t433 = true then (if t440 = true then (if t439 = t409 then (if t442 = true then (if t441 = t419 then (if t428 < t432 then (none) else (if t409 < t428 then (none) else (if t419 < t428 then (none) else (if t405 = true then (laws_FnHands.j1 kj14 l1 t398 t409 t419 t428 (decide (t404 < t428))) else (laws_FnHands.j1 kj14 l1 t398 t409 t419 t428 false))))) else (none)) else (none)) else (none)) else (none)) else (none)) else (none)) else (none)) = some r := H
       have A51 := Aside0.mk A510
       clear A510
       have HC52 := Aside0.mk H
       clear H
       obtain ⟨Ao53, co53, eo53⟩ := Kd.R_slice HO_12.out
       subst eo53
       go_upto_region 19 with (first | ((with_reducible refine gate_callee (f := 6) rfl ?_); refine goesL_ (some 186) rfl rfl Try.func6 (by kernel_rfl) rfl #[.slice Ao17 t397.length co17, .int .i64 t398, .slice Ao53 t408.length co53] rfl (by (try simp only [List.map_toArray, List.map_cons, List.map_nil]); first | done | rfl | (simp only [List.length_drop, List.length_take]; rfl)) ?_; (with_reducible refine (impl_SpanOf.calls kj14 _ _ t397 t398 _ _ t408 t439 t440 _ ?side1 ?side2 ?side3 ?side4 A50.out).mono ?_); (case side1 => repeat (first | exact (Kd.R_reads' HO_5.out).2.2 | (with_reducible refine Kd.C_alloc ?_ _) | (with_reducible refine Kd.C_drewN ?_ _) | (with_reducible refine Kd.C_drew ?_))); (case side2 => exact (Kd.R_reads' HO_5.out).2.1); (case side3 => repeat (first | exact (Kd.R_reads' HO_12.out).2.2 | (with_reducible refine Kd.C_alloc ?_ _) | (with_reducible refine Kd.C_drewN ?_ _) | (with_reducible refine Kd.C_drew ?_))); (case side4 => exact (Kd.R_reads' HO_12.out).2.1); rintro e w54 ⟨rfl, hb⟩; refine ⟨_, rfl, ?_⟩; have n0_ := Aside0.mk (Kd.R_below (by (with_reducible repeat (first | apply Kd.R_alloc | apply Kd.R_drewN | apply Kd.R_drew)); exact HO_5.out) hb); have n1_ := Aside0.mk (Kd.R_below (by (with_reducible repeat (first | apply Kd.R_alloc | apply Kd.R_drewN | apply Kd.R_drew)); exact HO_12.out) hb); have n2_ := Aside0.mk (Kd.R_below (by (with_reducible repeat (first | apply Kd.R_alloc | apply Kd.R_drewN | apply Kd.R_drew)); exact HO_18.out) hb); have n3_ := Aside0.mk (below_step (by repeat (first | (with_reducible first | exact HB.out | apply below_alloc | apply pw_below_drewN | apply below_drew1) | exact HB.out)) hb); clear HO_5; clear HO_12; clear HO_18; clear HB; have HO_5 := n0_; have HO_12 := n1_; have HO_18 := n2_; have HB := n3_; clear n0_ n1_ n2_ n3_; (try clear hb); (try clear hb2); (try clear hk); (try clear hi); obtain ⟨Ao55, co55, eo55⟩ := Kd.R_slice HO_18.out; subst eo55) | ((with_reducible refine gate_callee (f := 6) rfl ?_); refine goesL_ (some 193) rfl rfl Try.func6 (by kernel_rfl) rfl #[.slice Ao17 t397.length co17, .int .i64 t398, .slice Ao55 t418.length co55] rfl (by (try simp only [List.map_toArray, List.map_cons, List.map_nil]); first | done | rfl | (simp only [List.length_drop, List.length_take]; rfl)) ?_; (with_reducible refine (impl_SpanOf.calls kj14 _ _ t397 t398 _ _ t418 t441 t442 _ ?side1 ?side2 ?side3 ?side4 A51.out).mono ?_); (case side1 => repeat (first | exact (Kd.R_reads' HO_5.out).2.2 | (with_reducible refine Kd.C_alloc ?_ _) | (with_reducible refine Kd.C_drewN ?_ _) | (with_reducible refine Kd.C_drew ?_))); (case side2 => exact (Kd.R_reads' HO_5.out).2.1); (case side3 => repeat (first | exact (Kd.R_reads' HO_18.out).2.2 | (with_reducible refine Kd.C_alloc ?_ _) | (with_reducible refine Kd.C_drewN ?_ _) | (with_reducible refine Kd.C_drew ?_))); (case side4 => exact (Kd.R_reads' HO_18.out).2.1); rintro e w56 ⟨rfl, hb⟩; refine ⟨_, rfl, ?_⟩; have n0_ := Aside0.mk (Kd.R_below (by (with_reducible repeat (first | apply Kd.R_alloc | apply Kd.R_drewN | apply Kd.R_drew)); exact HO_5.out) hb); have n1_ := Aside0.mk (Kd.R_below (by (with_reducible repeat (first | apply Kd.R_alloc | apply Kd.R_drewN | apply Kd.R_drew)); exact HO_12.out) hb); have n2_ := Aside0.mk (Kd.R_below (by (with_reducible repeat (first | apply Kd.R_alloc | apply Kd.R_drewN | apply Kd.R_drew)); exact HO_18.out) hb); have n3_ := Aside0.mk (below_step (by repeat (first | (with_reducible first | exact HB.out | apply below_alloc | apply pw_below_drewN | apply below_drew1) | exact HB.out)) hb); clear HO_5; clear HO_12; clear HO_18; clear HB; have HO_5 := n0_; have HO_12 := n1_; have HO_18 := n2_; have HB := n3_; clear n0_ n1_ n2_ n3_; (try clear hb); (try clear hb2); (try clear hk); (try clear hi)))
       (try simp only [Act.put, List.setIfInBounds_toArray, List.set_cons_zero, List.set_cons_succ])
       go_cut [246] (fun v246 wc => ∃ (kq : Nat) (x246_51 : Bool), v246 = .bool x246_51 ∧ Aside0 (laws_FnHands.j1 kq l1 t398 t409 t419 t428 x246_51 = some r) ∧ Aside0 (kq ≤ kj14) ∧ Aside0 (Below w.heap.size w wc))
       case first =>
        as_aux_lemma =>
         have H := HC52.out
         clear HC52
         by_cases c57 : t420 = true
         ·subst c57
          have H1 : (if t429 = true then (if t433 = true then (if t440 = true then (if t439 = t409 then (if t442 = true then (if t441 = t419 then (if t428 < t432 then (none) else (if t409 < t428 then (none) else (if t419 < t428 then (none) else (if t405 = true then (laws_FnHands.j1 kj14 l1 t398 t409 t419 t428 (decide (t404 < t428))) else (laws_FnHands.j1 kj14 l1 t398 t409 t419 t428 false))))) else (none)) else (none)) else (none)) else (none)) else (none)) else (none)) = some r := by rw [if_pos rfl] at H; exact H
          clear H
          have H := H1
          clear H1
          by_cases c58 : t429 = true
          ·subst c58
           have H1 : (if t433 = true then (if t440 = true then (if t439 = t409 then (if t442 = true then (if t441 = t419 then (if t428 < t432 then (none) else (if t409 < t428 then (none) else (if t419 < t428 then (none) else (if t405 = true then (laws_FnHands.j1 kj14 l1 t398 t409 t419 t428 (decide (t404 < t428))) else (laws_FnHands.j1 kj14 l1 t398 t409 t419 t428 false))))) else (none)) else (none)) else (none)) else (none)) else (none)) = some r := by rw [if_pos rfl] at H; exact H
           clear H
           have H := H1
           clear H1
           by_cases c59 : t433 = true
           ·subst c59
            have H1 : (if t440 = true then (if t439 = t409 then (if t442 = true then (if t441 = t419 then (if t428 < t432 then (none) else (if t409 < t428 then (none) else (if t419 < t428 then (none) else (if t405 = true then (laws_FnHands.j1 kj14 l1 t398 t409 t419 t428 (decide (t404 < t428))) else (laws_FnHands.j1 kj14 l1 t398 t409 t419 t428 false))))) else (none)) else (none)) else (none)) else (none)) = some r := by rw [if_pos rfl] at H; exact H
            clear H
            have H := H1
            clear H1
            by_cases c60 : t440 = true
            ·subst c60
             have H1 : (if t439 = t409 then (if t442 = true then (if t441 = t419 then (if t428 < t432 then (none) else (if t409 < t428 then (none) else (if t419 < t428 then (none) else (if t405 = true then (laws_FnHands.j1 kj14 l1 t398 t409 t419 t428 (decide (t404 < t428))) else (laws_FnHands.j1 kj14 l1 t398 t409 t419 t428 false))))) else (none)) else (none)) else (none)) = some r := by rw [if_pos rfl] at H; exact H
             clear H
             have H := H1
             clear H1
             by_cases c61 : t439 = t409
             ·rw [if_pos c61] at H
              have c61b0 : (t439 == t409) = true := beq_iff_eq.mpr c61
              have c61b1 : (t439 != t409) = false := bne_eq_false_iff_eq.mpr c61
              clear c61
              (first | rw [c61b0] | (simp only [i64_w, i32_w]; rw [c61b0]) | skip)
              by_cases c62 : t442 = true
              ·subst c62
               have H1 : (if t441 = t419 then (if t428 < t432 then (none) else (if t409 < t428 then (none) else (if t419 < t428 then (none) else (if t405 = true then (laws_FnHands.j1 kj14 l1 t398 t409 t419 t428 (decide (t404 < t428))) else (laws_FnHands.j1 kj14 l1 t398 t409 t419 t428 false))))) else (none)) = some r := by rw [if_pos rfl] at H; exact H
               clear H
               have H := H1
               clear H1
               by_cases c63 : t441 = t419
               ·rw [if_pos c63] at H
                have c63b0 : (t441 == t419) = true := beq_iff_eq.mpr c63
                have c63b1 : (t441 != t419) = false := bne_eq_false_iff_eq.mpr c63
                clear c63
                by_cases c64 : t428 < t432
                ·rw [if_pos c64] at H
                 exact absurd H (by simp)
                ·rw [if_neg c64] at H
                 have c64b0 : decide (t428 < t432) = false := decide_eq_false c64
                 clear c64
                 by_cases c65 : t409 < t428
                 ·rw [if_pos c65] at H
                  exact absurd H (by simp)
                 ·rw [if_neg c65] at H
                  have c65b0 : decide (t409 < t428) = false := decide_eq_false c65
                  clear c65
                  by_cases c66 : t419 < t428
                  ·rw [if_pos c66] at H
                   exact absurd H (by simp)
                  ·rw [if_neg c66] at H
                   have c66b0 : decide (t419 < t428) = false := decide_eq_false c66
                   clear c66
                   by_cases c67 : t405 = true
                   ·subst c67
                    have H1 : (laws_FnHands.j1 kj14 l1 t398 t409 t419 t428 (decide (t404 < t428))) = some r := by rw [if_pos rfl] at H; exact H
                    clear H
                    have H := H1
                    clear H1
                    have H' := Aside0.mk H
                    clear H
                    as_aux_lemma =>
                     go_wp2
                     go_meet
                     case rel => exact ⟨_, (decide (t404 < t428)), (by first | rfl | (simp; done) | (simp [*]; done)), H', ⟨by have := HJ14.out; first | omega | exact Nat.le_refl _⟩, ⟨by repeat (first | (with_reducible first | exact HB.out | apply below_alloc | apply pw_below_drewN | apply below_drew1) | exact HB.out)⟩⟩
                   ·replace c67 := Bool.eq_false_iff.mpr c67
                    subst c67
                    have H1 : (laws_FnHands.j1 kj14 l1 t398 t409 t419 t428 false) = some r := by rw [if_neg (show ¬ (false = true) by decide)] at H; exact H
                    clear H
                    have H := H1
                    clear H1
                    have H' := Aside0.mk H
                    clear H
                    as_aux_lemma =>
                     go_wp2
                     go_meet
                     case rel => exact ⟨_, (false), (by first | rfl | (simp; done) | (simp [*]; done)), H', ⟨by have := HJ14.out; first | omega | exact Nat.le_refl _⟩, ⟨by repeat (first | (with_reducible first | exact HB.out | apply below_alloc | apply pw_below_drewN | apply below_drew1) | exact HB.out)⟩⟩
               ·rw [if_neg c63] at H
                exact absurd H (by simp)
              ·replace c62 := Bool.eq_false_iff.mpr c62
               subst c62
               have H1 : (none) = some r := by rw [if_neg (show ¬ (false = true) by decide)] at H; exact H
               clear H
               have H := H1
               clear H1
               exact absurd H (by simp)
             ·rw [if_neg c61] at H
              exact absurd H (by simp)
            ·replace c60 := Bool.eq_false_iff.mpr c60
             subst c60
             have H1 : (none) = some r := by rw [if_neg (show ¬ (false = true) by decide)] at H; exact H
             clear H
             have H := H1
             clear H1
             exact absurd H (by simp)
           ·replace c59 := Bool.eq_false_iff.mpr c59
            subst c59
            have H1 : (none) = some r := by rw [if_neg (show ¬ (false = true) by decide)] at H; exact H
            clear H
            have H := H1
            clear H1
            exact absurd H (by simp)
          ·replace c58 := Bool.eq_false_iff.mpr c58
           subst c58
           have H1 : (none) = some r := by rw [if_neg (show ¬ (false = true) by decide)] at H; exact H
           clear H
           have H := H1
           clear H1
           exact absurd H (by simp)
         ·replace c57 := Bool.eq_false_iff.mpr c57
          subst c57
          have H1 : (none) = some r := by rw [if_neg (show ¬ (false = true) by decide)] at H; exact H
          clear H
          have H := H1
          clear H1
          exact absurd H (by simp)
       case rest =>
        as_aux_lemma =>
         clear HC52
         try clear c1
         try clear c2
         try clear p2
         try clear c3
         try clear c3b0
         try clear c4
         try clear c5
         try clear c6
         try clear p6
         try clear c7
         try clear c8
         try clear c9
         try clear c10
         try clear c11
         try clear c12
         try clear c13
         try clear c14
         try clear c15
         try clear c28
         try clear c28b0
         try clear c28b1
         try clear c28b2
         try clear c29
         try clear c29b0
         try clear c29b1
         try clear c30
         try clear c30b0
         try clear c30b1
         try clear c30b2
         try clear c31
         try clear c31b0
         try clear c31b1
         try clear c33
         try clear c34
         try clear c34b0
         try clear c34b1
         try clear c34b2
         try clear c35
         try clear c35b0
         try clear c35b1
         try clear c37
         try clear c38
         try clear c38b0
         try clear c38b1
         try clear c38b2
         try clear c39
         try clear c39b0
         try clear c39b1
         try clear c40
         try clear c40b0
         try clear c40b1
         try clear c40b2
         try clear c41
         try clear c41b0
         try clear c41b1
         try clear c48
         try clear c49
         try clear c57
         try clear c58
         try clear c59
         try clear c60
         try clear c61
         try clear c61b0
         try clear c61b1
         try clear c62
         try clear c63
         try clear c63b0
         try clear c63b1
         try clear c64
         try clear c64b0
         try clear p64
         try clear c65
         try clear c65b0
         try clear c66
         try clear c66b0
         try clear c67
         try clear p2
         try clear p6
         obtain ⟨kq, x246_51, rfl, HA, HJ51, HB⟩ := hcut
         cases kq with
         | zero => exact absurd HA.out (by simp [laws_FnHands.j1])
         | succ kj51 =>
          have H := HA.out
          clear HA
          simp only [laws_FnHands.j1] at H
          by_cases c68 : x246_51 = true
          ·subst c68
           have H1 : (none) = some r := by rw [if_pos rfl] at H; exact H
           clear H
           have H := H1
           clear H1
           exact absurd H (by simp)
          ·replace c68 := Bool.eq_false_iff.mpr c68
           subst c68
           have H1 : (if (wrap64 (t398 * t409)) > (wrap64 ((wrap64 ((wrap64 (2 * t398)) - 1)) * t428)) then (none) else (if (wrap64 ((wrap64 (3 * t398)) * t419)) > (wrap64 ((wrap64 ((wrap64 (4 * t398)) - 1)) * t428)) then (none) else (some (decide ((l1.length : Int) ≥ 0))))) = some r := by rw [if_neg (show ¬ (false = true) by decide)] at H; exact H
           clear H
           have H := H1
           clear H1
           by_cases c69 : (wrap64 (t398 * t409)) > (wrap64 ((wrap64 ((wrap64 (2 * t398)) - 1)) * t428))
           ·rw [if_pos c69] at H
            exact absurd H (by simp)
           ·rw [if_neg c69] at H
            have c69b0 : decide ((wrap64 ((wrap64 ((wrap64 (2 * t398)) - 1)) * t428)) < (wrap64 (t398 * t409))) = false := decide_eq_false c69
            clear c69
            by_cases c70 : (wrap64 ((wrap64 (3 * t398)) * t419)) > (wrap64 ((wrap64 ((wrap64 (4 * t398)) - 1)) * t428))
            ·rw [if_pos c70] at H
             exact absurd H (by simp)
            ·rw [if_neg c70] at H
             have c70b0 : decide ((wrap64 ((wrap64 ((wrap64 (4 * t398)) - 1)) * t428)) < (wrap64 ((wrap64 (3 * t398)) * t419))) = false := decide_eq_false c70
             clear c70
             obtain rfl := Option.some.inj H
             as_aux_lemma =>
              go_wp2
              go_ret
              exact ⟨by first | rfl | (simp [errW_none, errW_some] <;> rfl) | (simp [*, errW_none, errW_some] <;> rfl), by repeat (first | (with_reducible first | exact HB.out | apply below_alloc | apply pw_below_drewN | apply below_drew1) | exact HB.out)⟩
      ·replace c49 := Bool.eq_false_iff.mpr c49
       subst c49
       have H1 : (some (decide ((l1.length : Int) ≥ 0))) = some r := by rw [if_neg (show ¬ (false = true) by decide)] at H; exact H
       clear H
       have H := H1
       clear H1
       obtain rfl := Option.some.inj H
       as_aux_lemma =>
        go_wp2
        go_ret
        exact ⟨by first | rfl | (simp [errW_none, errW_some] <;> rfl) | (simp [*, errW_none, errW_some] <;> rfl), by repeat (first | (with_reducible first | exact HB.out | apply below_alloc | apply pw_below_drewN | apply below_drew1) | exact HB.out)⟩
 
/-- THE ONE PURE STATEMENT of laws_FnHands: yours. -/
def laws_FnHands.Pure : Prop := ∀ (l0 : List Int) (l1 : List Int), l0.length ≤ maxLen → l0.length * 1 ≤ 140737488351232 → (∀ x ∈ l0, (Lit.int .u8 x).wf = true) → l1.length ≤ maxLen → l1.length * 1 ≤ 140737488351232 → (∀ x ∈ l1, (Lit.int .u8 x).wf = true) → ∃ k, laws_FnHands.f k l0 l1 = some true
theorem laws_FnHands.walk (P : laws_FnHands.Pure) (a0 : Option Addr) (len0 cap0 : Nat) (z0 : List Int) (a1 : Option Addr) (len1 cap1 : Nat) (z1 : List Int) (w : World) (w0 : (a0 = none ∧ len0 = 0 ∧ cap0 = 0 ∧ z0 = []) ∨ ∃ x, a0 = some x ∧ len0 ≤ cap0 ∧ cap0 ≤ maxLen ∧ z0.length = cap0 ∧ (∀ i, i < z0.length → w.cell? (x.add i) = some (.int .u8 (z0.getD i 0))) ∧ ∀ n ∈ z0, (Lit.int .u8 n).wf = true) (y0 : len0 * 1 ≤ 140737488351232) (w1 : (a1 = none ∧ len1 = 0 ∧ cap1 = 0 ∧ z1 = []) ∨ ∃ x, a1 = some x ∧ len1 ≤ cap1 ∧ cap1 ≤ maxLen ∧ z1.length = cap1 ∧ (∀ i, i < z1.length → w.cell? (x.add i) = some (.int .u8 (z1.getD i 0))) ∧ ∀ n ∈ z1, (Lit.int .u8 n).wf = true) (y1 : len1 * 1 ≤ 140737488351232) :
  Calls Try.prog 3 #[.slice a0 len0 cap0, .slice a1 len1 cap1] w fun e w' => e = .returned (.bool true) ∧ Below w.heap.size w w' := by
 obtain ⟨l0, rfl, hr0, hm0, hw0, hc0⟩ := ReadsInt.ofRowC w0
 obtain ⟨l1, rfl, hr1, hm1, hw1, hc1⟩ := ReadsInt.ofRowC w1
 obtain ⟨k, h⟩ := P l0 l1 hm0 y0 hw0 hm1 y1 hw1
 refine (laws_FnHands.calls k _ _ l0 _ _ l1 true w (Kd.C_of_reads (d := (0 : Int)) (h1 := fun _ => rfl) hr0) hc0 (Kd.C_of_reads (d := (0 : Int)) (h1 := fun _ => rfl) hr1) hc1 h).mono ?_
 rintro e w' ⟨rfl, hd⟩
 exact ⟨rfl, hd⟩

end Go.Proofs.Ytlipofjoihdbcaa.MFnHands
