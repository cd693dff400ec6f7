/- Laid for this claim by hp.py, this session's program round the kit's print: functions of the program as plain Lean functions, the proofs that the code comes to their answers, and the rows of the laws. Not trusted: Lean checks it. -/
import Derived.Test.YtgobidmfbjmpkaaPx0
import Derived.Test.YtgobidmfbjmpkaaHShr
import Derived.Test.YtgobidmfbjmpkaaPxf26
import Derived.Test.YtgobidmfbjmpkaaPxf10
import Derived.Test.YtgobidmfbjmpkaaPxf25
import Derived.Test.YtgobidmfbjmpkaaPxf11
import Derived.Test.YtgobidmfbjmpkaaEAwake6
import Derived.Test.YtgobidmfbjmpkaaGMake
namespace Go.Proofs.Ytgobidmfbjmpkaa.P
open Go.RowKit Go.Proofs.YtgobidmfbjmpkaaW.PrintWords Go.Proofs.YtgobidmfbjmpkaaW.PrintLast Go.Proofs.YtgobidmfbjmpkaaW.PrintMore
attribute [local go_sem] max2_int min2_int max_two min_two max_three min_three max_four min_four   -- for this text's walks alone
set_option linter.unusedVariables false
set_option linter.unusedSimpArgs false

/-! ### collatorlaw06_HunksContext: function 6 -/
mutual
def collatorlaw06_HunksContext.j0 : Nat → Bool → List ByteArray → Int → List (S28) → Bool → Option (Bool)
 | 0, _, _, _, _, _ => none
 | k + 1, x7, x9, x10, x11, x66 => if x66 = true then (some false) else (collatorlaw06_HunksContext.l0 k x7 x9 x10 x11 0 0)
def collatorlaw06_HunksContext.l0 : Nat → Bool → List ByteArray → Int → List (S28) → Int → Int → Option (Bool)
 | 0, _, _, _, _, _, _ => none
 | k + 1, x7, x9, x10, x11, x15, x16 => if x16 < (x11.length : Int) then (if 0 ≤ x16 then (if (((rd_T28 x11 x16).f2).length : Int) = 0 then (some false) else (if 0 < (((rd_T28 x11 x16).f2).length : Int) then (if ((rd_T31 ((rd_T28 x11 x16).f2) 0).f0) = 1 then (collatorlaw06_HunksContext.j2 k x7 x9 x10 x11 x15 x16 (((rd_T28 x11 x16).f2).length : Int) ((rd_T31 ((rd_T28 x11 x16).f2) 0).f1)) else (collatorlaw06_HunksContext.j2 k x7 x9 x10 x11 x15 x16 (((rd_T28 x11 x16).f2).length : Int) 0)) else (none))) else (none)) else (if x7 = true then (some (decide (x15 ≤ (x9.length : Int)))) else (some false))
def collatorlaw06_HunksContext.j2 : Nat → Bool → List ByteArray → Int → List (S28) → Int → Int → Int → Int → Option (Bool)
 | 0, _, _, _, _, _, _, _, _ => none
 | k + 1, x7, x9, x10, x11, x15, x16, x17, x18 => if 0 ≤ x16 then (if x16 < (x11.length : Int) then (if 0 ≤ (wrap64 (x17 - 1)) then (if (wrap64 (x17 - 1)) < (((rd_T28 x11 x16).f2).length : Int) then (if ((rd_T31 ((rd_T28 x11 x16).f2) (wrap64 (x17 - 1))).f0) = 1 then (collatorlaw06_HunksContext.j3 k x7 x9 x10 x11 x15 x16 x18 ((rd_T31 ((rd_T28 x11 x16).f2) (wrap64 (x17 - 1))).f1)) else (collatorlaw06_HunksContext.j3 k x7 x9 x10 x11 x15 x16 x18 0)) else (none)) else (none)) else (none)) else (none)
def collatorlaw06_HunksContext.j3 : Nat → Bool → List ByteArray → Int → List (S28) → Int → Int → Int → Int → Option (Bool)
 | 0, _, _, _, _, _, _, _, _ => none
 | k + 1, x7, x9, x10, x11, x15, x16, x18, x19 => if 0 ≤ x16 then (if x16 < (x11.length : Int) then ((script_Spans.f k ((rd_T28 x11 x16).f2)).bind fun bt595 => (if x18 > x10 then (collatorlaw06_HunksContext.j4 k x7 x9 x10 x11 x16 x19 bt595.1 true) else (if x19 > x10 then (collatorlaw06_HunksContext.j4 k x7 x9 x10 x11 x16 x19 bt595.1 true) else (if x18 < x10 then (if ((rd_T28 x11 x16).f0) > x15 then (collatorlaw06_HunksContext.j4 k x7 x9 x10 x11 x16 x19 bt595.1 true) else (if x16 > 0 then (collatorlaw06_HunksContext.j4 k x7 x9 x10 x11 x16 x19 bt595.1 (decide (((rd_T28 x11 x16).f0) ≤ x15))) else (collatorlaw06_HunksContext.j4 k x7 x9 x10 x11 x16 x19 bt595.1 false))) else (if x16 > 0 then (collatorlaw06_HunksContext.j4 k x7 x9 x10 x11 x16 x19 bt595.1 (decide (((rd_T28 x11 x16).f0) ≤ x15))) else (collatorlaw06_HunksContext.j4 k x7 x9 x10 x11 x16 x19 bt595.1 false)))))) else (none)) else (none)
def collatorlaw06_HunksContext.j4 : Nat → Bool → List ByteArray → Int → List (S28) → Int → Int → Int → Bool → Option (Bool)
 | 0, _, _, _, _, _, _, _, _ => none
 | k + 1, x7, x9, x10, x11, x16, x19, x20, x162 => if x162 = true then (some false) else (if 0 ≤ x16 then (if x16 < (x11.length : Int) then (if x19 < x10 then (if (wrap64 (((rd_T28 x11 x16).f0) + x20)) < (x9.length : Int) then (some false) else (collatorlaw06_HunksContext.l0 k x7 x9 x10 x11 (wrap64 (((rd_T28 x11 x16).f0) + x20)) (wrap64 (x16 + 1)))) else (collatorlaw06_HunksContext.l0 k x7 x9 x10 x11 (wrap64 (((rd_T28 x11 x16).f0) + x20)) (wrap64 (x16 + 1)))) else (none)) else (none))
end
def collatorlaw06_HunksContext.f (k : Nat) (l0 : List Int) (a1 : Int) (a2 : Int) : Option (Bool) := (collatorlaw06_awake.f).bind fun t567 => ((collatorlaw04_Script.f k l0 ([] : List Int)).bind fun bt568 => ((collatorlaw06_pick.f a1 8).bind fun t574 => ((hunks_Make.f k bt568.1 t574).bind fun bt575 => ((collatorlaw06_pick.f a2 5).bind fun t579 => ((hunks_Make.f k bt568.1 (wrap64 (t574 + t579))).bind fun bt580 => (if bt575.2 = 0 then (if bt580.2 = 0 then (if (bt580.1.length : Int) > (bt575.1.length : Int) then (collatorlaw06_HunksContext.j0 k t567 bt568.2 t574 bt575.1 true) else ((script_Cost.f k bt568.1).bind fun t584 => (collatorlaw06_HunksContext.j0 k t567 bt568.2 t574 bt575.1 (((bt575.1.length : Int) == 0) != (t584 == 0))))) else (collatorlaw06_HunksContext.j0 k t567 bt568.2 t574 bt575.1 true)) else (collatorlaw06_HunksContext.j0 k t567 bt568.2 t574 bt575.1 true)))))))
theorem collatorlaw06_HunksContext.mono_l : ∀ k, (∀ y0 y1 y2 y3 y4, LeO (collatorlaw06_HunksContext.j0 k y0 y1 y2 y3 y4) (collatorlaw06_HunksContext.j0 (k + 1) y0 y1 y2 y3 y4)) ∧ (∀ y0 y1 y2 y3 y4 y5, LeO (collatorlaw06_HunksContext.l0 k y0 y1 y2 y3 y4 y5) (collatorlaw06_HunksContext.l0 (k + 1) y0 y1 y2 y3 y4 y5)) ∧ (∀ y0 y1 y2 y3 y4 y5 y6 y7, LeO (collatorlaw06_HunksContext.j2 k y0 y1 y2 y3 y4 y5 y6 y7) (collatorlaw06_HunksContext.j2 (k + 1) y0 y1 y2 y3 y4 y5 y6 y7)) ∧ (∀ y0 y1 y2 y3 y4 y5 y6 y7, LeO (collatorlaw06_HunksContext.j3 k y0 y1 y2 y3 y4 y5 y6 y7) (collatorlaw06_HunksContext.j3 (k + 1) y0 y1 y2 y3 y4 y5 y6 y7)) ∧ (∀ y0 y1 y2 y3 y4 y5 y6 y7, LeO (collatorlaw06_HunksContext.j4 k y0 y1 y2 y3 y4 y5 y6 y7) (collatorlaw06_HunksContext.j4 (k + 1) y0 y1 y2 y3 y4 y5 y6 y7))
 | 0 => ⟨fun _ _ _ _ _ r h => by simp [collatorlaw06_HunksContext.j0] at h, fun _ _ _ _ _ _ r h => by simp [collatorlaw06_HunksContext.l0] at h, fun _ _ _ _ _ _ _ _ r h => by simp [collatorlaw06_HunksContext.j2] at h, fun _ _ _ _ _ _ _ _ r h => by simp [collatorlaw06_HunksContext.j3] at h, fun _ _ _ _ _ _ _ _ r h => by simp [collatorlaw06_HunksContext.j4] at h⟩
 | k + 1 => by
  obtain ⟨ih0, ih1, ih2, ih3, ih4⟩ := collatorlaw06_HunksContext.mono_l k
  refine ⟨?_, ?_, ?_, ?_, ?_⟩
  ·intro y0 y1 y2 y3 y4
   unfold collatorlaw06_HunksContext.j0
   repeat' first
   | (with_reducible exact ih0 _ _ _ _ _)
   | (with_reducible exact ih1 _ _ _ _ _ _)
   | (with_reducible exact ih2 _ _ _ _ _ _ _ _)
   | (with_reducible exact ih3 _ _ _ _ _ _ _ _)
   | (with_reducible exact ih4 _ _ _ _ _ _ _ _)
   | (with_reducible exact collatorlaw04_Script.mono _ _ _)
   | (with_reducible exact hunks_Make.mono _ _ _)
   | (with_reducible exact script_Cost.mono _ _)
   | (with_reducible exact script_Spans.mono _ _)
   | (with_reducible exact LeO.refl _)
   | (with_reducible exact LeO.none _)
   | (with_reducible refine LeO.ite ?_ ?_)
   | (with_reducible refine LeO.bind ?_ (fun _ => ?_))
   | exact ih0 _ _ _ _ _
   | exact ih1 _ _ _ _ _ _
   | exact ih2 _ _ _ _ _ _ _ _
   | exact ih3 _ _ _ _ _ _ _ _
   | exact ih4 _ _ _ _ _ _ _ _
   | exact collatorlaw04_Script.mono _ _ _
   | exact hunks_Make.mono _ _ _
   | exact script_Cost.mono _ _
   | exact script_Spans.mono _ _
   | exact LeO.none _
   | refine LeO.ite ?_ ?_
   | refine LeO.bind ?_ (fun _ => ?_)
  ·intro y0 y1 y2 y3 y4 y5
   unfold collatorlaw06_HunksContext.l0
   repeat' first
   | (with_reducible exact ih0 _ _ _ _ _)
   | (with_reducible exact ih1 _ _ _ _ _ _)
   | (with_reducible exact ih2 _ _ _ _ _ _ _ _)
   | (with_reducible exact ih3 _ _ _ _ _ _ _ _)
   | (with_reducible exact ih4 _ _ _ _ _ _ _ _)
   | (with_reducible exact collatorlaw04_Script.mono _ _ _)
   | (with_reducible exact hunks_Make.mono _ _ _)
   | (with_reducible exact script_Cost.mono _ _)
   | (with_reducible exact script_Spans.mono _ _)
   | (with_reducible exact LeO.refl _)
   | (with_reducible exact LeO.none _)
   | (with_reducible refine LeO.ite ?_ ?_)
   | (with_reducible refine LeO.bind ?_ (fun _ => ?_))
   | exact ih0 _ _ _ _ _
   | exact ih1 _ _ _ _ _ _
   | exact ih2 _ _ _ _ _ _ _ _
   | exact ih3 _ _ _ _ _ _ _ _
   | exact ih4 _ _ _ _ _ _ _ _
   | exact collatorlaw04_Script.mono _ _ _
   | exact hunks_Make.mono _ _ _
   | exact script_Cost.mono _ _
   | exact script_Spans.mono _ _
   | exact LeO.none _
   | refine LeO.ite ?_ ?_
   | refine LeO.bind ?_ (fun _ => ?_)
  ·intro y0 y1 y2 y3 y4 y5 y6 y7
   unfold collatorlaw06_HunksContext.j2
   repeat' first
   | (with_reducible exact ih0 _ _ _ _ _)
   | (with_reducible exact ih1 _ _ _ _ _ _)
   | (with_reducible exact ih2 _ _ _ _ _ _ _ _)
   | (with_reducible exact ih3 _ _ _ _ _ _ _ _)
   | (with_reducible exact ih4 _ _ _ _ _ _ _ _)
   | (with_reducible exact collatorlaw04_Script.mono _ _ _)
   | (with_reducible exact hunks_Make.mono _ _ _)
   | (with_reducible exact script_Cost.mono _ _)
   | (with_reducible exact script_Spans.mono _ _)
   | (with_reducible exact LeO.refl _)
   | (with_reducible exact LeO.none _)
   | (with_reducible refine LeO.ite ?_ ?_)
   | (with_reducible refine LeO.bind ?_ (fun _ => ?_))
   | exact ih0 _ _ _ _ _
   | exact ih1 _ _ _ _ _ _
   | exact ih2 _ _ _ _ _ _ _ _
   | exact ih3 _ _ _ _ _ _ _ _
   | exact ih4 _ _ _ _ _ _ _ _
   | exact collatorlaw04_Script.mono _ _ _
   | exact hunks_Make.mono _ _ _
   | exact script_Cost.mono _ _
   | exact script_Spans.mono _ _
   | exact LeO.none _
   | refine LeO.ite ?_ ?_
   | refine LeO.bind ?_ (fun _ => ?_)
  ·intro y0 y1 y2 y3 y4 y5 y6 y7
   unfold collatorlaw06_HunksContext.j3
   repeat' first
   | (with_reducible exact ih0 _ _ _ _ _)
   | (with_reducible exact ih1 _ _ _ _ _ _)
   | (with_reducible exact ih2 _ _ _ _ _ _ _ _)
   | (with_reducible exact ih3 _ _ _ _ _ _ _ _)
   | (with_reducible exact ih4 _ _ _ _ _ _ _ _)
   | (with_reducible exact collatorlaw04_Script.mono _ _ _)
   | (with_reducible exact hunks_Make.mono _ _ _)
   | (with_reducible exact script_Cost.mono _ _)
   | (with_reducible exact script_Spans.mono _ _)
   | (with_reducible exact LeO.refl _)
   | (with_reducible exact LeO.none _)
   | (with_reducible refine LeO.ite ?_ ?_)
   | (with_reducible refine LeO.bind ?_ (fun _ => ?_))
   | exact ih0 _ _ _ _ _
   | exact ih1 _ _ _ _ _ _
   | exact ih2 _ _ _ _ _ _ _ _
   | exact ih3 _ _ _ _ _ _ _ _
   | exact ih4 _ _ _ _ _ _ _ _
   | exact collatorlaw04_Script.mono _ _ _
   | exact hunks_Make.mono _ _ _
   | exact script_Cost.mono _ _
   | exact script_Spans.mono _ _
   | exact LeO.none _
   | refine LeO.ite ?_ ?_
   | refine LeO.bind ?_ (fun _ => ?_)
  ·intro y0 y1 y2 y3 y4 y5 y6 y7
   unfold collatorlaw06_HunksContext.j4
   repeat' first
   | (with_reducible exact ih0 _ _ _ _ _)
   | (with_reducible exact ih1 _ _ _ _ _ _)
   | (with_reducible exact ih2 _ _ _ _ _ _ _ _)
   | (with_reducible exact ih3 _ _ _ _ _ _ _ _)
   | (with_reducible exact ih4 _ _ _ _ _ _ _ _)
   | (with_reducible exact collatorlaw04_Script.mono _ _ _)
   | (with_reducible exact hunks_Make.mono _ _ _)
   | (with_reducible exact script_Cost.mono _ _)
   | (with_reducible exact script_Spans.mono _ _)
   | (with_reducible exact LeO.refl _)
   | (with_reducible exact LeO.none _)
   | (with_reducible refine LeO.ite ?_ ?_)
   | (with_reducible refine LeO.bind ?_ (fun _ => ?_))
   | exact ih0 _ _ _ _ _
   | exact ih1 _ _ _ _ _ _
   | exact ih2 _ _ _ _ _ _ _ _
   | exact ih3 _ _ _ _ _ _ _ _
   | exact ih4 _ _ _ _ _ _ _ _
   | exact collatorlaw04_Script.mono _ _ _
   | exact hunks_Make.mono _ _ _
   | exact script_Cost.mono _ _
   | exact script_Spans.mono _ _
   | exact LeO.none _
   | refine LeO.ite ?_ ?_
   | refine LeO.bind ?_ (fun _ => ?_)
theorem collatorlaw06_HunksContext.mono : ∀ a0 a1 a2 k, LeO (collatorlaw06_HunksContext.f k a0 a1 a2) (collatorlaw06_HunksContext.f (k + 1) a0 a1 a2) := by
 intro a0 a1 a2 k
 obtain ⟨ih0, ih1, ih2, ih3, ih4⟩ := collatorlaw06_HunksContext.mono_l k
 unfold collatorlaw06_HunksContext.f
 repeat' first
   | (with_reducible exact ih0 _ _ _ _ _)
   | (with_reducible exact ih1 _ _ _ _ _ _)
   | (with_reducible exact ih2 _ _ _ _ _ _ _ _)
   | (with_reducible exact ih3 _ _ _ _ _ _ _ _)
   | (with_reducible exact ih4 _ _ _ _ _ _ _ _)
   | (with_reducible exact collatorlaw04_Script.mono _ _ _)
   | (with_reducible exact hunks_Make.mono _ _ _)
   | (with_reducible exact script_Cost.mono _ _)
   | (with_reducible exact script_Spans.mono _ _)
   | (with_reducible exact LeO.refl _)
   | (with_reducible exact LeO.none _)
   | (with_reducible refine LeO.ite ?_ ?_)
   | (with_reducible refine LeO.bind ?_ (fun _ => ?_))
   | exact ih0 _ _ _ _ _
   | exact ih1 _ _ _ _ _ _
   | exact ih2 _ _ _ _ _ _ _ _
   | exact ih3 _ _ _ _ _ _ _ _
   | exact ih4 _ _ _ _ _ _ _ _
   | exact collatorlaw04_Script.mono _ _ _
   | exact hunks_Make.mono _ _ _
   | exact script_Cost.mono _ _
   | exact script_Spans.mono _ _
   | exact LeO.none _
   | refine LeO.ite ?_ ?_
   | refine LeO.bind ?_ (fun _ => ?_)
set_option maxHeartbeats 8000000 in
set_option maxRecDepth 100000 in
theorem collatorlaw06_HunksContext.calls (k : Nat) (A0 : Option Addr) (c0 : Nat) (l0 : List Int) (a1 : Int) (a2 : Int) (r : Bool) (w : World) (hr0 : Kd.C (Kd.int .i64) w A0 l0.length l0) (hc0 : l0.length ≤ c0) (h : collatorlaw06_HunksContext.f k l0 a1 a2 = some r) :
  Calls Try.prog 6 #[.slice A0 l0.length c0, .int .i64 a1, .int .i64 a2] w fun e w' => e = .returned (.bool r) ∧ Below w.heap.size w w' := by
 have HR0 := Aside0.mk hr0
 have HC0 := Aside0.mk hc0
 clear hr0 hc0
 have HB := Aside0.mk (Below.refl w.heap.size w)
 have H : ((collatorlaw06_awake.f).bind fun t567 => ((collatorlaw04_Script.f k l0 ([] : List Int)).bind fun bt568 => ((collatorlaw06_pick.f a1 8).bind fun t574 => ((hunks_Make.f k bt568.1 t574).bind fun bt575 => ((collatorlaw06_pick.f a2 5).bind fun t579 => ((hunks_Make.f k bt568.1 (wrap64 (t574 + t579))).bind fun bt580 => (if bt575.2 = 0 then (if bt580.2 = 0 then (if (bt580.1.length : Int) > (bt575.1.length : Int) then (collatorlaw06_HunksContext.j0 k t567 bt568.2 t574 bt575.1 true) else ((script_Cost.f k bt568.1).bind fun t584 => (collatorlaw06_HunksContext.j0 k t567 bt568.2 t574 bt575.1 (((bt575.1.length : Int) == 0) != (t584 == 0))))) else (collatorlaw06_HunksContext.j0 k t567 bt568.2 t574 bt575.1 true)) else (collatorlaw06_HunksContext.j0 k t567 bt568.2 t574 bt575.1 true)))))))) = some r := h
 clear h
 replace H := Option.bind_eq_some_iff.mp H
 obtain ⟨t567, A40, H⟩ := H
 replace H : ((collatorlaw04_Script.f k l0 ([] : List Int)).bind fun bt568 => ((collatorlaw06_pick.f a1 8).bind fun t574 => ((hunks_Make.f k bt568.1 t574).bind fun bt575 => ((collatorlaw06_pick.f a2 5).bind fun t579 => ((hunks_Make.f k bt568.1 (wrap64 (t574 + t579))).bind fun bt580 => (if bt575.2 = 0 then (if bt580.2 = 0 then (if (bt580.1.length : Int) > (bt575.1.length : Int) then (collatorlaw06_HunksContext.j0 k t567 bt568.2 t574 bt575.1 true) else ((script_Cost.f k bt568.1).bind fun t584 => (collatorlaw06_HunksContext.j0 k t567 bt568.2 t574 bt575.1 (((bt575.1.length : Int) == 0) != (t584 == 0))))) else (collatorlaw06_HunksContext.j0 k t567 bt568.2 t574 bt575.1 true)) else (collatorlaw06_HunksContext.j0 k t567 bt568.2 t574 bt575.1 true))))))) = some r := H
 have A4 := Aside0.mk A40
 clear A40
 replace H := Option.bind_eq_some_iff.mp H
 obtain ⟨⟨t568, t569⟩, A50, H⟩ := H
 replace H : ((collatorlaw06_pick.f a1 8).bind fun t574 => ((hunks_Make.f k t568 t574).bind fun bt575 => ((collatorlaw06_pick.f a2 5).bind fun t579 => ((hunks_Make.f k t568 (wrap64 (t574 + t579))).bind fun bt580 => (if bt575.2 = 0 then (if bt580.2 = 0 then (if (bt580.1.length : Int) > (bt575.1.length : Int) then (collatorlaw06_HunksContext.j0 k t567 t569 t574 bt575.1 true) else ((script_Cost.f k t568).bind fun t584 => (collatorlaw06_HunksContext.j0 k t567 t569 t574 bt575.1 (((bt575.1.length : Int) == 0) != (t584 == 0))))) else (collatorlaw06_HunksContext.j0 k t567 t569 t574 bt575.1 true)) else (collatorlaw06_HunksContext.j0 k t567 t569 t574 bt575.1 true)))))) = some r := H
 have A5 := Aside0.mk A50
 clear A50
 replace H := Option.bind_eq_some_iff.mp H
 obtain ⟨t574, A60, H⟩ := H
 replace H : ((hunks_Make.f k t568 t574).bind fun bt575 => ((collatorlaw06_pick.f a2 5).bind fun t579 => ((hunks_Make.f k t568 (wrap64 (t574 + t579))).bind fun bt580 => (if bt575.2 = 0 then (if bt580.2 = 0 then (if (bt580.1.length : Int) > (bt575.1.length : Int) then (collatorlaw06_HunksContext.j0 k t567 t569 t574 bt575.1 true) else ((script_Cost.f k t568).bind fun t584 => (collatorlaw06_HunksContext.j0 k t567 t569 t574 bt575.1 (((bt575.1.length : Int) == 0) != (t584 == 0))))) else (collatorlaw06_HunksContext.j0 k t567 t569 t574 bt575.1 true)) else (collatorlaw06_HunksContext.j0 k t567 t569 t574 bt575.1 true))))) = some r := H
 have A6 := Aside0.mk A60
 clear A60
 replace H := Option.bind_eq_some_iff.mp H
 obtain ⟨⟨t575, t576⟩, A70, H⟩ := H
 replace H : ((collatorlaw06_pick.f a2 5).bind fun t579 => ((hunks_Make.f k t568 (wrap64 (t574 + t579))).bind fun bt580 => (if t576 = 0 then (if bt580.2 = 0 then (if (bt580.1.length : Int) > (t575.length : Int) then (collatorlaw06_HunksContext.j0 k t567 t569 t574 t575 true) else ((script_Cost.f k t568).bind fun t584 => (collatorlaw06_HunksContext.j0 k t567 t569 t574 t575 (((t575.length : Int) == 0) != (t584 == 0))))) else (collatorlaw06_HunksContext.j0 k t567 t569 t574 t575 true)) else (collatorlaw06_HunksContext.j0 k t567 t569 t574 t575 true)))) = some r := H
 have A7 := Aside0.mk A70
 clear A70
 replace H := Option.bind_eq_some_iff.mp H
 obtain ⟨t579, A80, H⟩ := H
 replace H : ((hunks_Make.f k t568 (wrap64 (t574 + t579))).bind fun bt580 => (if t576 = 0 then (if bt580.2 = 0 then (if (bt580.1.length : Int) > (t575.length : Int) then (collatorlaw06_HunksContext.j0 k t567 t569 t574 t575 true) else ((script_Cost.f k t568).bind fun t584 => (collatorlaw06_HunksContext.j0 k t567 t569 t574 t575 (((t575.length : Int) == 0) != (t584 == 0))))) else (collatorlaw06_HunksContext.j0 k t567 t569 t574 t575 true)) else (collatorlaw06_HunksContext.j0 k t567 t569 t574 t575 true))) = some r := H
 have A8 := Aside0.mk A80
 clear A80
 replace H := Option.bind_eq_some_iff.mp H
 obtain ⟨⟨t580, t581⟩, A90, H⟩ := H
 replace H : (if t576 = 0 then (if t581 = 0 then (if (t580.length : Int) > (t575.length : Int) then (collatorlaw06_HunksContext.j0 k t567 t569 t574 t575 true) else ((script_Cost.f k t568).bind fun t584 => (collatorlaw06_HunksContext.j0 k t567 t569 t574 t575 (((t575.length : Int) == 0) != (t584 == 0))))) else (collatorlaw06_HunksContext.j0 k t567 t569 t574 t575 true)) else (collatorlaw06_HunksContext.j0 k t567 t569 t574 t575 true)) = some r := H
 have A9 := Aside0.mk A90
 clear A90
 have HC10 := Aside0.mk H
 clear H
 go_enter Try.func6, Try.ntmps6
 go_upto_region 6 with (first | ((with_reducible refine gate_callee (f := 9) rfl ?_); refine goesL_ (some 22) rfl rfl Try.func9 (by kernel_rfl) rfl #[] rfl mp_ ?_; (with_reducible refine (collatorlaw06_awake.calls  t567 _ A4.out).mono ?_); rintro e w11 ⟨rfl, hb⟩; refine ⟨_, rfl, ?_⟩; have n0_ := Aside0.mk (below_step hb_ hb); clear HB; have HB := n0_; clear n0_; (try clear hb); (try clear hb2); (try clear hk); (try clear hi)) | ((with_reducible refine gate_callee (f := 10) rfl ?_); refine goesL_ (some 25) rfl rfl Try.func10 (by kernel_rfl) rfl #[.slice A0 l0.length c0, .slice none 0 0] rfl mp_ ?_; (refine (collatorlaw04_Script.calls k _ _ l0 _ _ ([] : List Int) t568 t569 _ ?side1 ?side2 ?side3 ?side4 A5.out).mono ?_); (case side1 => repeat (first | exact (Kd.C_below HR0.out HB.out) | (with_reducible refine Kd.C_alloc ?_ _) | (with_reducible refine Kd.C_drewN ?_ _) | (with_reducible refine Kd.C_drew ?_))); (case side2 => exact HC0.out); (case side3 => exact Kd.C_nil _ _); (case side4 => exact Nat.le_refl _); rintro e w12 ⟨v570, v572, rfl, ho0, ho1, hb⟩; refine ⟨_, rfl, ?_⟩; have n0_ := Aside0.mk (Kd.S_lower ho0 (below_size hb_)); have n1_ := Aside0.mk (Kd.R_lower ho1 (below_size hb_)); have n2_ := Aside0.mk (below_step hb_ hb); clear HB; have HO571 := n0_; have HO573 := n1_; have HB := n2_; clear n0_ n1_ n2_; (try clear hb); (try clear hb2); (try clear hk); (try clear hi); (try clear ho0); (try clear ho1)) | ((with_reducible refine gate_callee (f := 11) rfl ?_); refine goesL_ (some 29) rfl rfl Try.func11 (by kernel_rfl) rfl #[.int .i64 a1, .int .i64 8] rfl mp_ ?_; (with_reducible refine (collatorlaw06_pick.calls a1 8 t574 _ A6.out).mono ?_); rintro e w' ⟨rfl, ⟨nd, rfl⟩⟩; refine ⟨_, rfl, ?_⟩; (try (obtain ⟨Ao13, co13, eo13⟩ := Kd.S_slice HO571.out; subst eo13))) | ((with_reducible refine gate_callee (f := 12) rfl ?_); refine goesL_ (some 33) rfl rfl Try.func12 (by kernel_rfl) rfl #[.slice Ao13 t568.length co13, .int .i64 t574] rfl mp_ ?_; (with_reducible refine (hunks_Make.calls k _ _ t568 t574 t575 t576 _ ?side1 ?side2 A7.out).mono ?_); (case side1 => repeat (first | exact (Kd.S_reads' HO571.out).2.2 | (with_reducible refine Kd.C_alloc ?_ _) | (with_reducible refine Kd.C_drewN ?_ _) | (with_reducible refine Kd.C_drew ?_))); (case side2 => exact (Kd.S_reads' HO571.out).2.1); rintro e w14 ⟨v577, rfl, ho0, hb⟩; refine ⟨_, rfl, ?_⟩; have n0_ := Aside0.mk (Kd.S_below (by (with_reducible repeat (first | apply Kd.S_alloc | apply Kd.S_drewN | apply Kd.S_drew)); exact HO571.out) hb); have n1_ := Aside0.mk (Kd.R_below (by (with_reducible repeat (first | apply Kd.R_alloc | apply Kd.R_drewN | apply Kd.R_drew)); exact HO573.out) hb); have n2_ := Aside0.mk (Kd.R_lower (Kd.R_new' (Kd.R_new' ho0 (Kd.S_lt (by (with_reducible repeat (first | apply Kd.S_alloc | apply Kd.S_drewN | apply Kd.S_drew)); exact HO571.out))) (Kd.R_lt (by (with_reducible repeat (first | apply Kd.R_alloc | apply Kd.R_drewN | apply Kd.R_drew)); exact HO573.out))) (below_size hb_)); have n3_ := Aside0.mk (below_step hb_ hb); clear HO571; clear HO573; clear HB; have HO571 := n0_; have HO573 := n1_; have HO578 := n2_; have HB := n3_; clear n0_ n1_ n2_ n3_; (try clear hb); (try clear hb2); (try clear hk); (try clear hi); (try clear ho0)) | ((with_reducible refine gate_callee (f := 11) rfl ?_); refine goesL_ (some 40) rfl rfl Try.func11 (by kernel_rfl) rfl #[.int .i64 a2, .int .i64 5] rfl mp_ ?_; (with_reducible refine (collatorlaw06_pick.calls a2 5 t579 _ A8.out).mono ?_); rintro e w' ⟨rfl, ⟨nd, rfl⟩⟩; refine ⟨_, rfl, ?_⟩) | ((with_reducible refine gate_callee (f := 12) rfl ?_); refine goesL_ (some 42) rfl rfl Try.func12 (by kernel_rfl) rfl #[.slice Ao13 t568.length co13, .int .i64 (wrap64 (t574 + t579))] rfl mp_ ?_; (with_reducible refine (hunks_Make.calls k _ _ t568 (wrap64 (t574 + t579)) t580 t581 _ ?side1 ?side2 A9.out).mono ?_); (case side1 => repeat (first | exact (Kd.S_reads' HO571.out).2.2 | (with_reducible refine Kd.C_alloc ?_ _) | (with_reducible refine Kd.C_drewN ?_ _) | (with_reducible refine Kd.C_drew ?_))); (case side2 => exact (Kd.S_reads' HO571.out).2.1); rintro e w15 ⟨v582, rfl, ho0, hb⟩; refine ⟨_, rfl, ?_⟩; have n0_ := Aside0.mk (Kd.S_below (by (with_reducible repeat (first | apply Kd.S_alloc | apply Kd.S_drewN | apply Kd.S_drew)); exact HO571.out) hb); have n1_ := Aside0.mk (Kd.R_below (by (with_reducible repeat (first | apply Kd.R_alloc | apply Kd.R_drewN | apply Kd.R_drew)); exact HO573.out) hb); have n2_ := Aside0.mk (Kd.R_elder' (by (with_reducible repeat (first | apply Kd.R_alloc | apply Kd.R_drewN | apply Kd.R_drew)); exact HO578.out) (Kd.R_base ho0) hb); have n3_ := Aside0.mk (Kd.R_lower (Kd.R_new' (Kd.R_new' (Kd.R_new' ho0 (Kd.S_lt (by (with_reducible repeat (first | apply Kd.S_alloc | apply Kd.S_drewN | apply Kd.S_drew)); exact HO571.out))) (Kd.R_lt (by (with_reducible repeat (first | apply Kd.R_alloc | apply Kd.R_drewN | apply Kd.R_drew)); exact HO573.out))) (Kd.R_lt (by (with_reducible repeat (first | apply Kd.R_alloc | apply Kd.R_drewN | apply Kd.R_drew)); exact HO578.out))) (below_size hb_)); have n4_ := Aside0.mk (below_step hb_ hb); clear HO571; clear HO573; clear HO578; clear HB; have HO571 := n0_; have HO573 := n1_; have HO578 := n2_; have HO583 := n3_; have HB := n4_; clear n0_ n1_ n2_ n3_ n4_; (try clear hb); (try clear hb2); (try clear hk); (try clear hi); (try clear ho0)))
 (try simp only [Act.put, List.setIfInBounds_toArray, List.set_cons_zero, List.set_cons_succ])
 go_cut [66] (fun v66 wc => ∃ (kq : Nat) (x66_9 : Bool), v66 = .bool x66_9 ∧ Aside0 (collatorlaw06_HunksContext.j0 kq t567 t569 t574 t575 x66_9 = some r) ∧ Aside0 (kq ≤ k) ∧ Aside0 (Kd.R Kd.string 9 wc w.heap.size (fun _ => True) v572 t569) ∧ Aside0 (Kd.R k28 28 wc w.heap.size (fun k_ => some k_ ≠ (v572 : Value).ownBlock) v577 t575) ∧ Aside0 (Below w.heap.size w wc))
 case first =>
  have H := HC10.out
  clear HC10
  by_cases c16 : t576 = 0
  ·rw [if_pos c16] at H
   have c16b0 : (t576 == 0) = true := beq_iff_eq.mpr c16
   have c16b1 : (t576 != 0) = false := bne_eq_false_iff_eq.mpr c16
   clear c16
   (first | rw [c16b0] | rw [c16b1] | (simp only [i64_w, i32_w]; rw [c16b0]) | skip)
   by_cases c17 : t581 = 0
   ·rw [if_pos c17] at H
    have c17b0 : (t581 == 0) = true := beq_iff_eq.mpr c17
    have c17b1 : (t581 != 0) = false := bne_eq_false_iff_eq.mpr c17
    clear c17
    by_cases c18 : (t580.length : Int) > (t575.length : Int)
    ·rw [if_pos c18] at H
     have c18b0 : decide ((t575.length : Int) < (t580.length : Int)) = true := decide_eq_true c18
     have c18b1 : decide (t575.length < t580.length) = true := decide_eq_true (Int.ofNat_lt.mp c18)
     clear c18
     have H' := Aside0.mk H
     clear H
     obtain ⟨Ao19, co19, eo19⟩ := Kd.R_slice HO583.out
     subst eo19
     obtain ⟨Ao20, co20, eo20⟩ := Kd.R_slice HO578.out
     subst eo20
     go_wp2
     go_meet
     case rel => exact ⟨_, (true), rf_, H', ⟨by first | omega | exact Nat.le_refl _⟩, ⟨by (with_reducible repeat (first | apply Kd.R_alloc | apply Kd.R_drewN | apply Kd.R_drew)); exact HO573.out⟩, ⟨by (with_reducible repeat (first | apply Kd.R_alloc | apply Kd.R_drewN | apply Kd.R_drew)); exact Kd.R_mono HO578.out (fun _ hk => hk.1.2)⟩, ⟨by repeat (first | (with_reducible first | exact HB.out | apply below_alloc | apply pw_below_drewN | apply below_drew1) | exact HB.out)⟩⟩
    ·rw [if_neg c18] at H
     have c18b0 : decide ((t575.length : Int) < (t580.length : Int)) = false := decide_eq_false c18
     have c18b1 : decide (t575.length < t580.length) = false := decide_eq_false (fun h => c18 (Int.ofNat_lt.mpr h))
     clear c18
     replace H := Option.bind_eq_some_iff.mp H
     obtain ⟨t584, A210, H⟩ := H
     replace H : (collatorlaw06_HunksContext.j0 k t567 t569 t574 t575 (((t575.length : Int) == 0) != (t584 == 0))) = some r := H
     have A21 := Aside0.mk A210
     clear A210
     have H' := Aside0.mk H
     clear H
     obtain ⟨Ao22, co22, eo22⟩ := Kd.R_slice HO583.out
     subst eo22
     obtain ⟨Ao23, co23, eo23⟩ := Kd.R_slice HO578.out
     subst eo23
     go_wp2_with (first | (go_at_call 25; (with_reducible refine (script_Cost.calls k _ _ t568 t584 _ ?side1 ?side2 A21.out).mono ?_); (case side1 => repeat (first | exact (Kd.S_reads' HO571.out).2.2 | (with_reducible refine Kd.C_alloc ?_ _) | (with_reducible refine Kd.C_drewN ?_ _) | (with_reducible refine Kd.C_drew ?_))); (case side2 => exact (Kd.S_reads' HO571.out).2.1); rintro e w24 ⟨rfl, hb⟩; have n0_ := Aside0.mk (Kd.S_below (by (with_reducible repeat (first | apply Kd.S_alloc | apply Kd.S_drewN | apply Kd.S_drew)); exact HO571.out) hb); have n1_ := Aside0.mk (Kd.R_below (by (with_reducible repeat (first | apply Kd.R_alloc | apply Kd.R_drewN | apply Kd.R_drew)); exact HO573.out) hb); have n2_ := Aside0.mk (Kd.R_below (by (with_reducible repeat (first | apply Kd.R_alloc | apply Kd.R_drewN | apply Kd.R_drew)); exact HO578.out) hb); have n3_ := Aside0.mk (Kd.R_below (by (with_reducible repeat (first | apply Kd.R_alloc | apply Kd.R_drewN | apply Kd.R_drew)); exact HO583.out) hb); have n4_ := Aside0.mk (below_step hb_ hb); clear HO571; clear HO573; clear HO578; clear HO583; clear HB; have HO571 := n0_; have HO573 := n1_; have HO578 := n2_; have HO583 := n3_; have HB := n4_; clear n0_ n1_ n2_ n3_ n4_; (try clear hb); (try clear hb2); (try clear hk); (try clear hi)))
     go_meet
     case rel => exact ⟨_, ((((t575.length : Int) == 0) != (t584 == 0))), rf_, H', ⟨by first | omega | exact Nat.le_refl _⟩, ⟨by (with_reducible repeat (first | apply Kd.R_alloc | apply Kd.R_drewN | apply Kd.R_drew)); exact HO573.out⟩, ⟨by (with_reducible repeat (first | apply Kd.R_alloc | apply Kd.R_drewN | apply Kd.R_drew)); exact Kd.R_mono HO578.out (fun _ hk => hk.1.2)⟩, ⟨by repeat (first | (with_reducible first | exact HB.out | apply below_alloc | apply pw_below_drewN | apply below_drew1) | exact HB.out)⟩⟩
   ·rw [if_neg c17] at H
    have c17b0 : (t581 == 0) = false := beq_eq_false_iff_ne.mpr c17
    have c17b1 : (t581 != 0) = true := bne_iff_ne.mpr c17
    have H' := Aside0.mk H
    clear H
    go_wp2
    go_meet
    case rel => exact ⟨_, (true), rf_, H', ⟨by first | omega | exact Nat.le_refl _⟩, ⟨by (with_reducible repeat (first | apply Kd.R_alloc | apply Kd.R_drewN | apply Kd.R_drew)); exact HO573.out⟩, ⟨by (with_reducible repeat (first | apply Kd.R_alloc | apply Kd.R_drewN | apply Kd.R_drew)); exact Kd.R_mono HO578.out (fun _ hk => hk.1.2)⟩, ⟨by repeat (first | (with_reducible first | exact HB.out | apply below_alloc | apply pw_below_drewN | apply below_drew1) | exact HB.out)⟩⟩
  ·rw [if_neg c16] at H
   have c16b0 : (t576 == 0) = false := beq_eq_false_iff_ne.mpr c16
   have c16b1 : (t576 != 0) = true := bne_iff_ne.mpr c16
   (first | rw [c16b0] | rw [c16b1] | (simp only [i64_w, i32_w]; rw [c16b0]) | skip)
   have H' := Aside0.mk H
   clear H
   go_wp2
   go_meet
   case rel => exact ⟨_, (true), rf_, H', ⟨by first | omega | exact Nat.le_refl _⟩, ⟨by (with_reducible repeat (first | apply Kd.R_alloc | apply Kd.R_drewN | apply Kd.R_drew)); exact HO573.out⟩, ⟨by (with_reducible repeat (first | apply Kd.R_alloc | apply Kd.R_drewN | apply Kd.R_drew)); exact Kd.R_mono HO578.out (fun _ hk => hk.1.2)⟩, ⟨by repeat (first | (with_reducible first | exact HB.out | apply below_alloc | apply pw_below_drewN | apply below_drew1) | exact HB.out)⟩⟩
 case rest =>
  clear HC10
  (try clear c1);(try clear p2);(try clear c6);(try clear p6);(try clear c9);(try clear c10);(try clear c11);(try clear c12);(try clear c16);(try clear c16b0);(try clear c16b1);(try clear c17);(try clear c17b0);(try clear c17b1);(try clear c18);(try clear c18b0);(try clear c18b1)
  obtain ⟨kq, x66_9, rfl, HA, HJ9, HO_9, HO_11, HB⟩ := hcut
  cases kq with
  | zero => exact absurd HA.out (by simp [collatorlaw06_HunksContext.j0])
  | succ kj9 =>
   have H := HA.out
   clear HA
   simp only [collatorlaw06_HunksContext.j0] at H
   by_cases c25 : x66_9 = true
   ·subst c25
    have H1 : (some false) = some r := by rw [if_pos rfl] at H; exact H
    clear H
    have H := H1
    clear H1
    obtain rfl := Option.some.inj H
    go_wp2
    go_ret
    exact ⟨by first | rfl | (simp [errW_none, errW_some] <;> rfl) | (simp [*, errW_none, errW_some] <;> rfl), by repeat (first | (with_reducible first | exact HB.out | apply below_alloc | apply pw_below_drewN | apply below_drew1) | exact HB.out)⟩
   ·replace c25 := Bool.eq_false_iff.mpr c25
    subst c25
    have H1 : (collatorlaw06_HunksContext.l0 kj9 t567 t569 t574 t575 0 0) = some r := by rw [if_neg (show ¬ (false = true) by decide)] at H; exact H
    clear H
    have H := H1
    clear H1
    have H' := Aside0.mk H
    clear H
    go_wp2
    go_loopg [15, 16] kj9 (fun kq v15 v16 w' => ∃ (x15_2 : Int) (x16_2 : Int), v15 = .int .i64 x15_2 ∧ v16 = .int .i64 x16_2 ∧ Aside0 (collatorlaw06_HunksContext.l0 kq t567 t569 t574 t575 x15_2 x16_2 = some r) ∧ Aside0 (kq ≤ kj9) ∧ Aside0 (Kd.R Kd.string 9 w' w.heap.size (fun _ => True) v572 t569) ∧ Aside0 (Kd.R k28 28 w' w.heap.size (fun k_ => some k_ ≠ (v572 : Value).ownBlock) v577 t575) ∧ Aside0 (Below w.heap.size w w'))
    case atStart => exact ⟨(0), (0), rf_, rf_, H', ⟨Nat.le_refl _⟩, ⟨by (with_reducible repeat (first | apply Kd.R_alloc | apply Kd.R_drewN | apply Kd.R_drew)); exact HO_9.out⟩, ⟨by (with_reducible repeat (first | apply Kd.R_alloc | apply Kd.R_drewN | apply Kd.R_drew)); exact HO_11.out⟩, ⟨by repeat (first | (with_reducible first | exact HB.out | apply below_alloc | apply pw_below_drewN | apply below_drew1) | exact HB.out)⟩⟩
    case round =>
     clear H'
     (try clear c1);(try clear c2);(try clear p2);(try clear c6);(try clear p6);(try clear c9);(try clear c10);(try clear c11);(try clear c12);(try clear c16);(try clear c16b0);(try clear c16b1);(try clear c17);(try clear c17b0);(try clear c17b1);(try clear c18);(try clear c18b0);(try clear c18b1);(try clear c25);(try clear p2);(try clear p6)
     obtain ⟨x15_2, x16_2, rfl, rfl, HA, HK2, HO_9, HO_11, HB⟩ := hrel
     cases gk with
     | zero => exact absurd HA.out (by simp [collatorlaw06_HunksContext.l0])
     | succ k2 =>
      have H := HA.out
      clear HA
      simp only [collatorlaw06_HunksContext.l0] at H
      by_cases c26 : x16_2 < (t575.length : Int)
      ·rw [if_pos c26] at H
       have c26b0 : decide (x16_2 < (t575.length : Int)) = true := decide_eq_true c26
       clear c26
       by_cases c27 : 0 ≤ x16_2
       ·rw [if_pos c27] at H
        have c27b0 : decide (0 ≤ x16_2) = true := decide_eq_true c27
        clear c27
        by_cases c28 : (((rd_T28 t575 x16_2).f2).length : Int) = 0
        ·rw [if_pos c28] at H
         have c28b0 : ((((rd_T28 t575 x16_2).f2).length : Int) == 0) = true := beq_iff_eq.mpr c28
         have c28b1 : ((((rd_T28 t575 x16_2).f2).length : Int) != 0) = false := bne_eq_false_iff_eq.mpr c28
         clear c28
         obtain rfl := Option.some.inj H
         obtain ⟨Ao29, co29, eo29⟩ := Kd.R_slice HO_11.out
         subst eo29
         have p585 : 0 ≤ (x16_2 : Int) := of_decide_eq_true as_
         have q585 : x16_2 < (t575.length : Int) := of_decide_eq_true as_
         obtain ⟨ad585, A585_2, c585_2, e585, hx585_0, hx585_1, hx585_2, hl585_2, hi585_2⟩ := at_T28 (Kd.R_reads' HO_11.out).2.2 x16_2 p585 q585
         cases e585
         obtain ⟨ce585, hce585, hMe585, hcc585⟩ := Kd.R_get HO_11.out z28 x16_2 p585 (by first | exact q585 | exact of_decide_eq_true as_ | (have e_ := (Kd.R_reads' HO_11.out).1; omega))
         obtain ⟨ve585_2, rfl, ge585_2⟩ := k28_openM hMe585
         have hv585_2 := hcc585 2 _ rfl
         rw [add_field _ _ 2 (by omega)] at hv585_2
         replace hv585_2 := Option.some.inj (hv585_2.symm.trans hx585_2)
         rw [hv585_2] at ge585_2
         have HL585_2 := Aside0.mk (show Kd.R k31 31 _ _ _ _ ((rd_T28 t575 x16_2).f2) from ge585_2)
         clear hv585_2 ge585_2
         clear hcc585 hce585
         have HR585_2 := Aside0.mk hi585_2
         have HC585_2 := Aside0.mk hl585_2
         clear hi585_2 hl585_2
         replace p585 := eq_true p585
         replace q585 := eq_true q585
         go_wp2
         go_ret
         exact ⟨by first | rfl | (simp [errW_none, errW_some] <;> rfl) | (simp [*, errW_none, errW_some] <;> rfl), by repeat (first | (with_reducible first | exact HB.out | apply below_alloc | apply pw_below_drewN | apply below_drew1) | exact HB.out)⟩
        ·rw [if_neg c28] at H
         have c28b0 : ((((rd_T28 t575 x16_2).f2).length : Int) == 0) = false := beq_eq_false_iff_ne.mpr c28
         have c28b1 : ((((rd_T28 t575 x16_2).f2).length : Int) != 0) = true := bne_iff_ne.mpr c28
         have c28b2 : ¬ (((rd_T28 t575 x16_2).f2) = []) := fun h_ => c28 (by rw [h_]; rfl)
         by_cases c30 : 0 < (((rd_T28 t575 x16_2).f2).length : Int)
         ·rw [if_pos c30] at H
          have c30b0 : decide (0 < (((rd_T28 t575 x16_2).f2).length : Int)) = true := decide_eq_true c30
          have c30b1 : decide (0 < ((rd_T28 t575 x16_2).f2).length) = true := decide_eq_true (by omega)
          clear c30
          have HC31 := Aside0.mk H
          clear H
          obtain ⟨Ao32, co32, eo32⟩ := Kd.R_slice HO_11.out
          subst eo32
          have p585 : 0 ≤ (x16_2 : Int) := of_decide_eq_true as_
          have q585 : x16_2 < (t575.length : Int) := of_decide_eq_true as_
          obtain ⟨ad585, A585_2, c585_2, e585, hx585_0, hx585_1, hx585_2, hl585_2, hi585_2⟩ := at_T28 (Kd.R_reads' HO_11.out).2.2 x16_2 p585 q585
          cases e585
          obtain ⟨ce585, hce585, hMe585, hcc585⟩ := Kd.R_get HO_11.out z28 x16_2 p585 (by first | exact q585 | exact of_decide_eq_true as_ | (have e_ := (Kd.R_reads' HO_11.out).1; omega))
          obtain ⟨ve585_2, rfl, ge585_2⟩ := k28_openM hMe585
          have hv585_2 := hcc585 2 _ rfl
          rw [add_field _ _ 2 (by omega)] at hv585_2
          replace hv585_2 := Option.some.inj (hv585_2.symm.trans hx585_2)
          rw [hv585_2] at ge585_2
          have HL585_2 := Aside0.mk (show Kd.R k31 31 _ _ _ _ ((rd_T28 t575 x16_2).f2) from ge585_2)
          clear hv585_2 ge585_2
          clear hcc585 hce585
          have HR585_2 := Aside0.mk hi585_2
          have HC585_2 := Aside0.mk hl585_2
          clear hi585_2 hl585_2
          replace p585 := eq_true p585
          replace q585 := eq_true q585
          have p586 : 0 ≤ (x16_2 : Int) := of_decide_eq_true as_
          have q586 : x16_2 < (t575.length : Int) := of_decide_eq_true as_
          obtain ⟨ad586, A586_2, c586_2, e586, hx586_0, hx586_1, hx586_2, hl586_2, hi586_2⟩ := at_T28 (Kd.R_reads' HO_11.out).2.2 x16_2 p586 q586
          obtain rfl : ad585 = ad586 := (by injection e586)
          obtain ⟨ce586, hce586, hMe586, hcc586⟩ := Kd.R_get HO_11.out z28 x16_2 p586 (by first | exact q586 | exact of_decide_eq_true as_ | (have e_ := (Kd.R_reads' HO_11.out).1; omega))
          obtain ⟨ve586_2, rfl, ge586_2⟩ := k28_openM hMe586
          have hv586_2 := hcc586 2 _ rfl
          rw [add_field _ _ 2 (by omega)] at hv586_2
          replace hv586_2 := Option.some.inj (hv586_2.symm.trans hx586_2)
          rw [hv586_2] at ge586_2
          have HL586_2 := Aside0.mk (show Kd.R k31 31 _ _ _ _ ((rd_T28 t575 x16_2).f2) from ge586_2)
          clear hv586_2 ge586_2
          clear hcc586 hce586
          have HR586_2 := Aside0.mk hi586_2
          have HC586_2 := Aside0.mk hl586_2
          clear hi586_2 hl586_2
          replace p586 := eq_true p586
          replace q586 := eq_true q586
          have ea_ := Option.some.inj (hx585_2.symm.trans hx586_2)
          injection ea_ with ea_ en_ ec_
          subst ea_
          subst ec_
          clear en_
          have p587 : 0 ≤ (0 : Int) := (by omega)
          have q587 : 0 < (((rd_T28 t575 x16_2).f2).length : Int) := of_decide_eq_true as_
          obtain ⟨ad587, A587_2, c587_2, e587, hx587_0, hx587_1, hx587_2, hl587_2, hi587_2⟩ := at_T31 (by repeat (first | (with_reducible exact HR586_2.out) | (with_reducible refine Kd.C_alloc ?_ _) | (with_reducible refine Kd.C_drewN ?_ _) | (with_reducible refine Kd.C_drew ?_) | exact HR586_2.out)) 0 p587 q587
          cases e587
          obtain ⟨ce587, hce587, hMe587, hcc587⟩ := Kd.R_get HL586_2.out z31 0 p587 (by first | exact q587 | exact of_decide_eq_true as_ | (have e_ := (Kd.R_reads' HL586_2.out).1; omega))
          obtain ⟨ve587_2, rfl, ge587_2⟩ := k31_openM hMe587
          have hv587_2 := hcc587 2 _ rfl
          rw [add_field _ _ 2 (by omega)] at hv587_2
          replace hv587_2 := Option.some.inj (hv587_2.symm.trans hx587_2)
          rw [hv587_2] at ge587_2
          have HL587_2 := Aside0.mk (show Kd.R Kd.string 9 _ _ _ _ ((rd_T31 ((rd_T28 t575 x16_2).f2) 0).f2) from ge587_2)
          clear hv587_2 ge587_2
          clear hcc587 hce587
          have qi587 : (0 < ((rd_T28 t575 x16_2).f2).length) = True := eq_true (by omega)
          (try rw [show ((0 : Int)).toNat = 0 from rfl] at hx587_0)
          (try rw [show 0 * 3 = 0 from rfl] at hx587_0)
          (try rw [Addr.add_zero'] at hx587_0)
          (try rw [show ((0 : Int)).toNat = 0 from rfl] at hx587_1)
          (try rw [show 0 * 3 = 0 from rfl] at hx587_1)
          (try rw [Addr.add_zero'] at hx587_1)
          (try rw [show ((0 : Int)).toNat = 0 from rfl] at hx587_2)
          (try rw [show 0 * 3 = 0 from rfl] at hx587_2)
          (try rw [Addr.add_zero'] at hx587_2)
          have HR587_2 := Aside0.mk hi587_2
          have HC587_2 := Aside0.mk hl587_2
          clear hi587_2 hl587_2
          replace p587 := eq_true p587
          replace q587 := eq_true q587
          go_upto_if 89 with (fail)
          go_cut [18] (fun v18 wc => ∃ (kq : Nat) (x18_30 : Int), v18 = .int .i64 x18_30 ∧ Aside0 (collatorlaw06_HunksContext.j2 kq t567 t569 t574 t575 x15_2 x16_2 (((rd_T28 t575 x16_2).f2).length : Int) x18_30 = some r) ∧ Aside0 (kq ≤ k2) ∧ Aside0 (Kd.R Kd.string 9 wc w.heap.size (fun _ => True) v572 t569) ∧ Aside0 (Kd.R k28 28 wc w.heap.size (fun k_ => some k_ ≠ (v572 : Value).ownBlock) (.slice (some ad585) t575.length co32) t575) ∧ Aside0 (Kd.C k31 wc (some ad587) ((rd_T28 t575 x16_2).f2).length ((rd_T28 t575 x16_2).f2)) ∧ Aside0 (Kd.C k31 wc (some ad587) ((rd_T28 t575 x16_2).f2).length ((rd_T28 t575 x16_2).f2)) ∧ Aside0 (Kd.C Kd.string wc A587_2 ((rd_T31 ((rd_T28 t575 x16_2).f2) 0).f2).length ((rd_T31 ((rd_T28 t575 x16_2).f2) 0).f2)) ∧ Aside0 (Below w.heap.size w wc))
          case first =>
           have H := HC31.out
           clear HC31
           by_cases c33 : ((rd_T31 ((rd_T28 t575 x16_2).f2) 0).f0) = 1
           ·rw [if_pos c33] at H
            have c33b0 : (((rd_T31 ((rd_T28 t575 x16_2).f2) 0).f0) == 1) = true := beq_iff_eq.mpr c33
            have c33b1 : (((rd_T31 ((rd_T28 t575 x16_2).f2) 0).f0) != 1) = false := bne_eq_false_iff_eq.mpr c33
            clear c33
            (first | rw [c33b0] | rw [c33b1] | (simp only [i64_w, i32_w]; rw [c33b0]) | skip)
            have H' := Aside0.mk H
            clear H
            have p588 : 0 ≤ (x16_2 : Int) := of_decide_eq_true as_
            have q588 : x16_2 < (t575.length : Int) := of_decide_eq_true as_
            obtain ⟨ad588, A588_2, c588_2, e588, hx588_0, hx588_1, hx588_2, hl588_2, hi588_2⟩ := at_T28 (Kd.R_reads' HO_11.out).2.2 x16_2 p588 q588
            obtain rfl : ad585 = ad588 := (by injection e588)
            obtain ⟨ce588, hce588, hMe588, hcc588⟩ := Kd.R_get HO_11.out z28 x16_2 p588 (by first | exact q588 | exact of_decide_eq_true as_ | (have e_ := (Kd.R_reads' HO_11.out).1; omega))
            obtain ⟨ve588_2, rfl, ge588_2⟩ := k28_openM hMe588
            have hv588_2 := hcc588 2 _ rfl
            rw [add_field _ _ 2 (by omega)] at hv588_2
            replace hv588_2 := Option.some.inj (hv588_2.symm.trans hx588_2)
            rw [hv588_2] at ge588_2
            have HL588_2 := Aside0.mk (show Kd.R k31 31 _ _ _ _ ((rd_T28 t575 x16_2).f2) from ge588_2)
            clear hv588_2 ge588_2
            clear hcc588 hce588
            have HR588_2 := Aside0.mk hi588_2
            have HC588_2 := Aside0.mk hl588_2
            clear hi588_2 hl588_2
            replace p588 := eq_true p588
            replace q588 := eq_true q588
            have p589 : 0 ≤ (0 : Int) := (by omega)
            have q589 : 0 < (((rd_T28 t575 x16_2).f2).length : Int) := of_decide_eq_true as_
            obtain ⟨ad589, A589_2, c589_2, e589, hx589_0, hx589_1, hx589_2, hl589_2, hi589_2⟩ := at_T31 (by repeat (first | (with_reducible exact HR588_2.out) | (with_reducible refine Kd.C_alloc ?_ _) | (with_reducible refine Kd.C_drewN ?_ _) | (with_reducible refine Kd.C_drew ?_) | exact HR588_2.out)) 0 p589 q589
            cases e589
            obtain ⟨ce589, hce589, hMe589, hcc589⟩ := Kd.R_get HL588_2.out z31 0 p589 (by first | exact q589 | exact of_decide_eq_true as_ | (have e_ := (Kd.R_reads' HL588_2.out).1; omega))
            obtain ⟨ve589_2, rfl, ge589_2⟩ := k31_openM hMe589
            have hv589_2 := hcc589 2 _ rfl
            rw [add_field _ _ 2 (by omega)] at hv589_2
            replace hv589_2 := Option.some.inj (hv589_2.symm.trans hx589_2)
            rw [hv589_2] at ge589_2
            have HL589_2 := Aside0.mk (show Kd.R Kd.string 9 _ _ _ _ ((rd_T31 ((rd_T28 t575 x16_2).f2) 0).f2) from ge589_2)
            clear hv589_2 ge589_2
            clear hcc589 hce589
            have qi589 : (0 < ((rd_T28 t575 x16_2).f2).length) = True := eq_true (by omega)
            (try rw [show ((0 : Int)).toNat = 0 from rfl] at hx589_0)
            (try rw [show 0 * 3 = 0 from rfl] at hx589_0)
            (try rw [Addr.add_zero'] at hx589_0)
            (try rw [show ((0 : Int)).toNat = 0 from rfl] at hx589_1)
            (try rw [show 0 * 3 = 0 from rfl] at hx589_1)
            (try rw [Addr.add_zero'] at hx589_1)
            (try rw [show ((0 : Int)).toNat = 0 from rfl] at hx589_2)
            (try rw [show 0 * 3 = 0 from rfl] at hx589_2)
            (try rw [Addr.add_zero'] at hx589_2)
            have HR589_2 := Aside0.mk hi589_2
            have HC589_2 := Aside0.mk hl589_2
            clear hi589_2 hl589_2
            replace p589 := eq_true p589
            replace q589 := eq_true q589
            go_wp2
            go_meet
            case rel => exact ⟨_, ((rd_T31 ((rd_T28 t575 x16_2).f2) 0).f1), rf_, H', ⟨by have := HJ9.out; have := HK2.out; first | omega | exact Nat.le_refl _⟩, ⟨by (with_reducible repeat (first | apply Kd.R_alloc | apply Kd.R_drewN | apply Kd.R_drew)); exact HO_9.out⟩, ⟨by (with_reducible repeat (first | apply Kd.R_alloc | apply Kd.R_drewN | apply Kd.R_drew)); exact HO_11.out⟩, ⟨by repeat (first | (with_reducible exact HR585_2.out) | (with_reducible refine Kd.C_alloc ?_ _) | (with_reducible refine Kd.C_drewN ?_ _) | (with_reducible refine Kd.C_drew ?_) | exact HR585_2.out)⟩, ⟨by repeat (first | (with_reducible exact HR586_2.out) | (with_reducible refine Kd.C_alloc ?_ _) | (with_reducible refine Kd.C_drewN ?_ _) | (with_reducible refine Kd.C_drew ?_) | exact HR586_2.out)⟩, ⟨by repeat (first | (with_reducible exact HR587_2.out) | (with_reducible refine Kd.C_alloc ?_ _) | (with_reducible refine Kd.C_drewN ?_ _) | (with_reducible refine Kd.C_drew ?_) | exact HR587_2.out)⟩, ⟨by repeat (first | (with_reducible first | exact HB.out | apply below_alloc | apply pw_below_drewN | apply below_drew1) | exact HB.out)⟩⟩
           ·rw [if_neg c33] at H
            have c33b0 : (((rd_T31 ((rd_T28 t575 x16_2).f2) 0).f0) == 1) = false := beq_eq_false_iff_ne.mpr c33
            have c33b1 : (((rd_T31 ((rd_T28 t575 x16_2).f2) 0).f0) != 1) = true := bne_iff_ne.mpr c33
            (first | rw [c33b0] | rw [c33b1] | (simp only [i64_w, i32_w]; rw [c33b0]) | skip)
            have H' := Aside0.mk H
            clear H
            go_wp2
            go_meet
            case rel => exact ⟨_, (0), rf_, H', ⟨by have := HJ9.out; have := HK2.out; first | omega | exact Nat.le_refl _⟩, ⟨by (with_reducible repeat (first | apply Kd.R_alloc | apply Kd.R_drewN | apply Kd.R_drew)); exact HO_9.out⟩, ⟨by (with_reducible repeat (first | apply Kd.R_alloc | apply Kd.R_drewN | apply Kd.R_drew)); exact HO_11.out⟩, ⟨by repeat (first | (with_reducible exact HR585_2.out) | (with_reducible refine Kd.C_alloc ?_ _) | (with_reducible refine Kd.C_drewN ?_ _) | (with_reducible refine Kd.C_drew ?_) | exact HR585_2.out)⟩, ⟨by repeat (first | (with_reducible exact HR586_2.out) | (with_reducible refine Kd.C_alloc ?_ _) | (with_reducible refine Kd.C_drewN ?_ _) | (with_reducible refine Kd.C_drew ?_) | exact HR586_2.out)⟩, ⟨by repeat (first | (with_reducible exact HR587_2.out) | (with_reducible refine Kd.C_alloc ?_ _) | (with_reducible refine Kd.C_drewN ?_ _) | (with_reducible refine Kd.C_drew ?_) | exact HR587_2.out)⟩, ⟨by repeat (first | (with_reducible first | exact HB.out | apply below_alloc | apply pw_below_drewN | apply below_drew1) | exact HB.out)⟩⟩
          case rest =>
           clear HC31
           (try clear c1);(try clear c2);(try clear p2);(try clear c3);(try clear c5);(try clear p5);(try clear q5);(try clear hx5);(try clear qi5);(try clear c6);(try clear p6);(try clear c9);(try clear c10);(try clear c11);(try clear c12);(try clear c16);(try clear c16b0);(try clear c16b1);(try clear c17);(try clear c17b0);(try clear c17b1);(try clear c18);(try clear c18b0);(try clear c18b1);(try clear c25);(try clear c26);(try clear c26b0);(try clear c27);(try clear c27b0);(try clear c28);(try clear c28b0);(try clear c28b1);(try clear c28b2);(try clear c30);(try clear c30b0);(try clear c30b1);(try clear c33);(try clear c33b0);(try clear c33b1);(try clear hx585_0);(try clear hx585_1);(try clear hx585_2);(try clear hx586_0);(try clear hx586_1);(try clear hx586_2);(try clear hx587_0);(try clear hx587_1);(try clear hx587_2);(try clear hx588_0);(try clear hx588_1);(try clear hx588_2);(try clear hx589_0);(try clear hx589_1);(try clear hx589_2);(try clear p2);(try clear p585);(try clear p586);(try clear p587);(try clear p588);(try clear p589);(try clear p6);(try clear q585);(try clear q586);(try clear q587);(try clear q588);(try clear q589)
           obtain ⟨kq, x18_30, rfl, HA, HJ30, HO_9, HO_11, HR585_2, HR586_2, HR587_2, HB⟩ := hcut
           cases kq with
           | zero => exact absurd HA.out (by simp [collatorlaw06_HunksContext.j2])
           | succ kj30 =>
            have H := HA.out
            clear HA
            simp only [collatorlaw06_HunksContext.j2] at H
            by_cases c34 : 0 ≤ x16_2
            ·rw [if_pos c34] at H
             have c34b0 : decide (0 ≤ x16_2) = true := decide_eq_true c34
             clear c34
             by_cases c35 : x16_2 < (t575.length : Int)
             ·rw [if_pos c35] at H
              have c35b0 : decide (x16_2 < (t575.length : Int)) = true := decide_eq_true c35
              clear c35
              obtain ⟨ji36, hji36⟩ : ∃ j_ : Int, (wrap64 ((((rd_T28 t575 x16_2).f2).length : Int) - 1)) = j_ := ⟨_, rfl⟩
              replace H : (if 0 ≤ (ji36) then (if (ji36) < (((rd_T28 t575 x16_2).f2).length : Int) then (if ((rd_T31 ((rd_T28 t575 x16_2).f2) (ji36)).f0) = 1 then (collatorlaw06_HunksContext.j3 kj30 t567 t569 t574 t575 x15_2 x16_2 x18_30 ((rd_T31 ((rd_T28 t575 x16_2).f2) (ji36)).f1)) else (collatorlaw06_HunksContext.j3 kj30 t567 t569 t574 t575 x15_2 x16_2 x18_30 0)) else (none)) else (none)) = some r := by first | (rw [hji36] at H; exact H) | (simp only [hji36] at H ⊢; exact H)
              have hji36w : (IntKind.i64.wrap ((((rd_T28 t575 x16_2).f2).length : Int) - 1)) = ji36 := (i64_w _).trans hji36
              by_cases c37 : 0 ≤ (ji36)
              ·rw [if_pos c37] at H
               have c37b0 : decide (0 ≤ (ji36)) = true := decide_eq_true c37
               clear c37
               by_cases c38 : (ji36) < (((rd_T28 t575 x16_2).f2).length : Int)
               ·rw [if_pos c38] at H
                have c38b0 : decide ((ji36) < (((rd_T28 t575 x16_2).f2).length : Int)) = true := decide_eq_true c38
                clear c38
                have HC39 := Aside0.mk H
                clear H
                have p590 : 0 ≤ (x16_2 : Int) := of_decide_eq_true as_
                have q590 : x16_2 < (t575.length : Int) := of_decide_eq_true as_
                obtain ⟨ad590, A590_2, c590_2, e590, hx590_0, hx590_1, hx590_2, hl590_2, hi590_2⟩ := at_T28 (Kd.R_reads' HO_11.out).2.2 x16_2 p590 q590
                obtain rfl : ad585 = ad590 := (by injection e590)
                obtain ⟨ce590, hce590, hMe590, hcc590⟩ := Kd.R_get HO_11.out z28 x16_2 p590 (by first | exact q590 | exact of_decide_eq_true as_ | (have e_ := (Kd.R_reads' HO_11.out).1; omega))
                obtain ⟨ve590_2, rfl, ge590_2⟩ := k28_openM hMe590
                have hv590_2 := hcc590 2 _ rfl
                rw [add_field _ _ 2 (by omega)] at hv590_2
                replace hv590_2 := Option.some.inj (hv590_2.symm.trans hx590_2)
                rw [hv590_2] at ge590_2
                have HL590_2 := Aside0.mk (show Kd.R k31 31 _ _ _ _ ((rd_T28 t575 x16_2).f2) from ge590_2)
                clear hv590_2 ge590_2
                clear hcc590 hce590
                have HR590_2 := Aside0.mk hi590_2
                have HC590_2 := Aside0.mk hl590_2
                clear hi590_2 hl590_2
                replace p590 := eq_true p590
                replace q590 := eq_true q590
                have p591 : 0 ≤ ((ji36) : Int) := of_decide_eq_true as_
                have q591 : (ji36) < (((rd_T28 t575 x16_2).f2).length : Int) := of_decide_eq_true as_
                obtain ⟨ad591, A591_2, c591_2, e591, hx591_0, hx591_1, hx591_2, hl591_2, hi591_2⟩ := at_T31 (by repeat (first | (with_reducible exact HR590_2.out) | (with_reducible refine Kd.C_alloc ?_ _) | (with_reducible refine Kd.C_drewN ?_ _) | (with_reducible refine Kd.C_drew ?_) | exact HR590_2.out)) (ji36) p591 q591
                cases e591
                obtain ⟨ce591, hce591, hMe591, hcc591⟩ := Kd.R_get HL590_2.out z31 (ji36) p591 (by first | exact q591 | exact of_decide_eq_true as_ | (have e_ := (Kd.R_reads' HL590_2.out).1; omega))
                obtain ⟨ve591_2, rfl, ge591_2⟩ := k31_openM hMe591
                have hv591_2 := hcc591 2 _ rfl
                rw [add_field _ _ 2 (by omega)] at hv591_2
                replace hv591_2 := Option.some.inj (hv591_2.symm.trans hx591_2)
                rw [hv591_2] at ge591_2
                have HL591_2 := Aside0.mk (show Kd.R Kd.string 9 _ _ _ _ ((rd_T31 ((rd_T28 t575 x16_2).f2) (ji36)).f2) from ge591_2)
                clear hv591_2 ge591_2
                clear hcc591 hce591
                have HR591_2 := Aside0.mk hi591_2
                have HC591_2 := Aside0.mk hl591_2
                clear hi591_2 hl591_2
                replace p591 := eq_true p591
                replace q591 := eq_true q591
                go_upto_if 108 with (fail)
                go_cut [19] (fun v19 wc => ∃ (kq : Nat) (x19_38 : Int), v19 = .int .i64 x19_38 ∧ Aside0 (collatorlaw06_HunksContext.j3 kq t567 t569 t574 t575 x15_2 x16_2 x18_30 x19_38 = some r) ∧ Aside0 (kq ≤ kj30) ∧ Aside0 (Kd.R Kd.string 9 wc w.heap.size (fun _ => True) v572 t569) ∧ Aside0 (Kd.R k28 28 wc w.heap.size (fun k_ => some k_ ≠ (v572 : Value).ownBlock) (.slice (some ad585) t575.length co32) t575) ∧ Aside0 (Kd.C k31 wc (some ad587) ((rd_T28 t575 x16_2).f2).length ((rd_T28 t575 x16_2).f2)) ∧ Aside0 (Kd.C k31 wc (some ad587) ((rd_T28 t575 x16_2).f2).length ((rd_T28 t575 x16_2).f2)) ∧ Aside0 (Kd.C Kd.string wc A587_2 ((rd_T31 ((rd_T28 t575 x16_2).f2) 0).f2).length ((rd_T31 ((rd_T28 t575 x16_2).f2) 0).f2)) ∧ Aside0 (Kd.C k31 wc (some ad591) ((rd_T28 t575 x16_2).f2).length ((rd_T28 t575 x16_2).f2)) ∧ Aside0 (Kd.C Kd.string wc A591_2 ((rd_T31 ((rd_T28 t575 x16_2).f2) (ji36)).f2).length ((rd_T31 ((rd_T28 t575 x16_2).f2) (ji36)).f2)) ∧ Aside0 (Below w.heap.size w wc))
                case first =>
                 have H := HC39.out
                 clear HC39
                 by_cases c40 : ((rd_T31 ((rd_T28 t575 x16_2).f2) (ji36)).f0) = 1
                 ·rw [if_pos c40] at H
                  have c40b0 : (((rd_T31 ((rd_T28 t575 x16_2).f2) (ji36)).f0) == 1) = true := beq_iff_eq.mpr c40
                  have c40b1 : (((rd_T31 ((rd_T28 t575 x16_2).f2) (ji36)).f0) != 1) = false := bne_eq_false_iff_eq.mpr c40
                  clear c40
                  (first | rw [c40b0] | rw [c40b1] | (simp only [i64_w, i32_w]; rw [c40b0]) | skip)
                  have H' := Aside0.mk H
                  clear H
                  have p592 : 0 ≤ (x16_2 : Int) := of_decide_eq_true as_
                  have q592 : x16_2 < (t575.length : Int) := of_decide_eq_true as_
                  obtain ⟨ad592, A592_2, c592_2, e592, hx592_0, hx592_1, hx592_2, hl592_2, hi592_2⟩ := at_T28 (Kd.R_reads' HO_11.out).2.2 x16_2 p592 q592
                  obtain rfl : ad585 = ad592 := (by injection e592)
                  obtain ⟨ce592, hce592, hMe592, hcc592⟩ := Kd.R_get HO_11.out z28 x16_2 p592 (by first | exact q592 | exact of_decide_eq_true as_ | (have e_ := (Kd.R_reads' HO_11.out).1; omega))
                  obtain ⟨ve592_2, rfl, ge592_2⟩ := k28_openM hMe592
                  have hv592_2 := hcc592 2 _ rfl
                  rw [add_field _ _ 2 (by omega)] at hv592_2
                  replace hv592_2 := Option.some.inj (hv592_2.symm.trans hx592_2)
                  rw [hv592_2] at ge592_2
                  have HL592_2 := Aside0.mk (show Kd.R k31 31 _ _ _ _ ((rd_T28 t575 x16_2).f2) from ge592_2)
                  clear hv592_2 ge592_2
                  clear hcc592 hce592
                  have HR592_2 := Aside0.mk hi592_2
                  have HC592_2 := Aside0.mk hl592_2
                  clear hi592_2 hl592_2
                  replace p592 := eq_true p592
                  replace q592 := eq_true q592
                  have p593 : 0 ≤ ((ji36) : Int) := of_decide_eq_true as_
                  have q593 : (ji36) < (((rd_T28 t575 x16_2).f2).length : Int) := of_decide_eq_true as_
                  obtain ⟨ad593, A593_2, c593_2, e593, hx593_0, hx593_1, hx593_2, hl593_2, hi593_2⟩ := at_T31 (by repeat (first | (with_reducible exact HR592_2.out) | (with_reducible refine Kd.C_alloc ?_ _) | (with_reducible refine Kd.C_drewN ?_ _) | (with_reducible refine Kd.C_drew ?_) | exact HR592_2.out)) (ji36) p593 q593
                  cases e593
                  obtain ⟨ce593, hce593, hMe593, hcc593⟩ := Kd.R_get HL592_2.out z31 (ji36) p593 (by first | exact q593 | exact of_decide_eq_true as_ | (have e_ := (Kd.R_reads' HL592_2.out).1; omega))
                  obtain ⟨ve593_2, rfl, ge593_2⟩ := k31_openM hMe593
                  have hv593_2 := hcc593 2 _ rfl
                  rw [add_field _ _ 2 (by omega)] at hv593_2
                  replace hv593_2 := Option.some.inj (hv593_2.symm.trans hx593_2)
                  rw [hv593_2] at ge593_2
                  have HL593_2 := Aside0.mk (show Kd.R Kd.string 9 _ _ _ _ ((rd_T31 ((rd_T28 t575 x16_2).f2) (ji36)).f2) from ge593_2)
                  clear hv593_2 ge593_2
                  clear hcc593 hce593
                  have HR593_2 := Aside0.mk hi593_2
                  have HC593_2 := Aside0.mk hl593_2
                  clear hi593_2 hl593_2
                  replace p593 := eq_true p593
                  replace q593 := eq_true q593
                  go_wp2
                  go_meet
                  case rel => exact ⟨_, ((rd_T31 ((rd_T28 t575 x16_2).f2) (ji36)).f1), (by first | rfl | (simp; done) | (simp only [← hji36] <;> (first | rfl | simp)) | (simp [*]; done)), H', ⟨by have := HJ9.out; have := HK2.out; have := HJ30.out; first | omega | exact Nat.le_refl _⟩, ⟨by (with_reducible repeat (first | apply Kd.R_alloc | apply Kd.R_drewN | apply Kd.R_drew)); exact HO_9.out⟩, ⟨by (with_reducible repeat (first | apply Kd.R_alloc | apply Kd.R_drewN | apply Kd.R_drew)); exact HO_11.out⟩, ⟨by repeat (first | (with_reducible exact HR585_2.out) | (with_reducible refine Kd.C_alloc ?_ _) | (with_reducible refine Kd.C_drewN ?_ _) | (with_reducible refine Kd.C_drew ?_) | exact HR585_2.out)⟩, ⟨by repeat (first | (with_reducible exact HR586_2.out) | (with_reducible refine Kd.C_alloc ?_ _) | (with_reducible refine Kd.C_drewN ?_ _) | (with_reducible refine Kd.C_drew ?_) | exact HR586_2.out)⟩, ⟨by repeat (first | (with_reducible exact HR587_2.out) | (with_reducible refine Kd.C_alloc ?_ _) | (with_reducible refine Kd.C_drewN ?_ _) | (with_reducible refine Kd.C_drew ?_) | exact HR587_2.out)⟩, ⟨by repeat (first | (with_reducible exact HR590_2.out) | (with_reducible refine Kd.C_alloc ?_ _) | (with_reducible refine Kd.C_drewN ?_ _) | (with_reducible refine Kd.C_drew ?_) | exact HR590_2.out)⟩, ⟨by repeat (first | (with_reducible exact HR591_2.out) | (with_reducible refine Kd.C_alloc ?_ _) | (with_reducible refine Kd.C_drewN ?_ _) | (with_reducible refine Kd.C_drew ?_) | exact HR591_2.out)⟩, ⟨by repeat (first | (with_reducible first | exact HB.out | apply below_alloc | apply pw_below_drewN | apply below_drew1) | exact HB.out)⟩⟩
                 ·rw [if_neg c40] at H
                  have c40b0 : (((rd_T31 ((rd_T28 t575 x16_2).f2) (ji36)).f0) == 1) = false := beq_eq_false_iff_ne.mpr c40
                  have c40b1 : (((rd_T31 ((rd_T28 t575 x16_2).f2) (ji36)).f0) != 1) = true := bne_iff_ne.mpr c40
                  (first | rw [c40b0] | rw [c40b1] | (simp only [i64_w, i32_w]; rw [c40b0]) | skip)
                  have H' := Aside0.mk H
                  clear H
                  go_wp2
                  go_meet
                  case rel => exact ⟨_, (0), rf_, H', ⟨by have := HJ9.out; have := HK2.out; have := HJ30.out; first | omega | exact Nat.le_refl _⟩, ⟨by (with_reducible repeat (first | apply Kd.R_alloc | apply Kd.R_drewN | apply Kd.R_drew)); exact HO_9.out⟩, ⟨by (with_reducible repeat (first | apply Kd.R_alloc | apply Kd.R_drewN | apply Kd.R_drew)); exact HO_11.out⟩, ⟨by repeat (first | (with_reducible exact HR585_2.out) | (with_reducible refine Kd.C_alloc ?_ _) | (with_reducible refine Kd.C_drewN ?_ _) | (with_reducible refine Kd.C_drew ?_) | exact HR585_2.out)⟩, ⟨by repeat (first | (with_reducible exact HR586_2.out) | (with_reducible refine Kd.C_alloc ?_ _) | (with_reducible refine Kd.C_drewN ?_ _) | (with_reducible refine Kd.C_drew ?_) | exact HR586_2.out)⟩, ⟨by repeat (first | (with_reducible exact HR587_2.out) | (with_reducible refine Kd.C_alloc ?_ _) | (with_reducible refine Kd.C_drewN ?_ _) | (with_reducible refine Kd.C_drew ?_) | exact HR587_2.out)⟩, ⟨by repeat (first | (with_reducible exact HR590_2.out) | (with_reducible refine Kd.C_alloc ?_ _) | (with_reducible refine Kd.C_drewN ?_ _) | (with_reducible refine Kd.C_drew ?_) | exact HR590_2.out)⟩, ⟨by repeat (first | (with_reducible exact HR591_2.out) | (with_reducible refine Kd.C_alloc ?_ _) | (with_reducible refine Kd.C_drewN ?_ _) | (with_reducible refine Kd.C_drew ?_) | exact HR591_2.out)⟩, ⟨by repeat (first | (with_reducible first | exact HB.out | apply below_alloc | apply pw_below_drewN | apply below_drew1) | exact HB.out)⟩⟩
                case rest =>
                 clear HC39
                 (try clear c1);(try clear c2);(try clear p2);(try clear c3);(try clear c4);(try clear c5);(try clear p5);(try clear q5);(try clear hx5);(try clear qi5);(try clear c6);(try clear p6);(try clear c9);(try clear c10);(try clear c11);(try clear c12);(try clear c16);(try clear c16b0);(try clear c16b1);(try clear c17);(try clear c17b0);(try clear c17b1);(try clear c18);(try clear c18b0);(try clear c18b1);(try clear c25);(try clear c26);(try clear c26b0);(try clear c27);(try clear c27b0);(try clear c28);(try clear c28b0);(try clear c28b1);(try clear c28b2);(try clear c30);(try clear c30b0);(try clear c30b1);(try clear c33);(try clear c33b0);(try clear c33b1);(try clear c34);(try clear c34b0);(try clear c35);(try clear c35b0);(try clear c37);(try clear c37b0);(try clear c38);(try clear c38b0);(try clear c40);(try clear c40b0);(try clear c40b1);(try clear hx585_0);(try clear hx585_1);(try clear hx585_2);(try clear hx586_0);(try clear hx586_1);(try clear hx586_2);(try clear hx587_0);(try clear hx587_1);(try clear hx587_2);(try clear hx588_0);(try clear hx588_1);(try clear hx588_2);(try clear hx589_0);(try clear hx589_1);(try clear hx589_2);(try clear hx590_0);(try clear hx590_1);(try clear hx590_2);(try clear hx591_0);(try clear hx591_1);(try clear hx591_2);(try clear hx592_0);(try clear hx592_1);(try clear hx592_2);(try clear hx593_0);(try clear hx593_1);(try clear hx593_2);(try clear p2);(try clear p5);(try clear p585);(try clear p586);(try clear p587);(try clear p588);(try clear p589);(try clear p590);(try clear p591);(try clear p592);(try clear p593);(try clear p6);(try clear q5);(try clear q585);(try clear q586);(try clear q587);(try clear q588);(try clear q589);(try clear q590);(try clear q591);(try clear q592);(try clear q593)
                 obtain ⟨kq, x19_38, rfl, HA, HJ38, HO_9, HO_11, HR585_2, HR586_2, HR587_2, HR590_2, HR591_2, HB⟩ := hcut
                 cases kq with
                 | zero => exact absurd HA.out (by simp [collatorlaw06_HunksContext.j3])
                 | succ kj38 =>
                  have H := HA.out
                  clear HA
                  simp only [collatorlaw06_HunksContext.j3] at H
                  by_cases c41 : 0 ≤ x16_2
                  ·rw [if_pos c41] at H
                   have c41b0 : decide (0 ≤ x16_2) = true := decide_eq_true c41
                   clear c41
                   by_cases c42 : x16_2 < (t575.length : Int)
                   ·rw [if_pos c42] at H
                    have c42b0 : decide (x16_2 < (t575.length : Int)) = true := decide_eq_true c42
                    clear c42
                    replace H := Option.bind_eq_some_iff.mp H
                    obtain ⟨⟨t595, t596⟩, A430, H⟩ := H
                    replace H : (if x18_30 > t574 then (collatorlaw06_HunksContext.j4 kj38 t567 t569 t574 t575 x16_2 x19_38 t595 true) else (if x19_38 > t574 then (collatorlaw06_HunksContext.j4 kj38 t567 t569 t574 t575 x16_2 x19_38 t595 true) else (if x18_30 < t574 then (if ((rd_T28 t575 x16_2).f0) > x15_2 then (collatorlaw06_HunksContext.j4 kj38 t567 t569 t574 t575 x16_2 x19_38 t595 true) else (if x16_2 > 0 then (collatorlaw06_HunksContext.j4 kj38 t567 t569 t574 t575 x16_2 x19_38 t595 (decide (((rd_T28 t575 x16_2).f0) ≤ x15_2))) else (collatorlaw06_HunksContext.j4 kj38 t567 t569 t574 t575 x16_2 x19_38 t595 false))) else (if x16_2 > 0 then (collatorlaw06_HunksContext.j4 kj38 t567 t569 t574 t575 x16_2 x19_38 t595 (decide (((rd_T28 t575 x16_2).f0) ≤ x15_2))) else (collatorlaw06_HunksContext.j4 kj38 t567 t569 t574 t575 x16_2 x19_38 t595 false))))) = some r := H
                    have A43 := Aside0.mk A430
                    clear A430
                    have HC44 := Aside0.mk H
                    clear H
                    have p594 : 0 ≤ (x16_2 : Int) := of_decide_eq_true as_
                    have q594 : x16_2 < (t575.length : Int) := of_decide_eq_true as_
                    obtain ⟨ad594, A594_2, c594_2, e594, hx594_0, hx594_1, hx594_2, hl594_2, hi594_2⟩ := at_T28 (Kd.R_reads' HO_11.out).2.2 x16_2 p594 q594
                    obtain rfl : ad585 = ad594 := (by injection e594)
                    obtain ⟨ce594, hce594, hMe594, hcc594⟩ := Kd.R_get HO_11.out z28 x16_2 p594 (by first | exact q594 | exact of_decide_eq_true as_ | (have e_ := (Kd.R_reads' HO_11.out).1; omega))
                    obtain ⟨ve594_2, rfl, ge594_2⟩ := k28_openM hMe594
                    have hv594_2 := hcc594 2 _ rfl
                    rw [add_field _ _ 2 (by omega)] at hv594_2
                    replace hv594_2 := Option.some.inj (hv594_2.symm.trans hx594_2)
                    rw [hv594_2] at ge594_2
                    have HL594_2 := Aside0.mk (show Kd.R k31 31 _ _ _ _ ((rd_T28 t575 x16_2).f2) from ge594_2)
                    clear hv594_2 ge594_2
                    clear hcc594 hce594
                    have HR594_2 := Aside0.mk hi594_2
                    have HC594_2 := Aside0.mk hl594_2
                    clear hi594_2 hl594_2
                    replace p594 := eq_true p594
                    replace q594 := eq_true q594
                    go_upto_region 22 with (first | ((with_reducible refine gate_callee (f := 26) rfl ?_); refine goesL_ (some 125) rfl rfl Try.func26 (by kernel_rfl) rfl #[.slice A594_2 ((rd_T28 t575 x16_2).f2).length c594_2] rfl mp_ ?_; (with_reducible refine (script_Spans.calls kj38 _ _ ((rd_T28 t575 x16_2).f2) t595 t596 _ ?side1 ?side2 A43.out).mono ?_); (case side1 => repeat (first | exact (by repeat (first | (with_reducible exact HR594_2.out) | (with_reducible refine Kd.C_alloc ?_ _) | (with_reducible refine Kd.C_drewN ?_ _) | (with_reducible refine Kd.C_drew ?_) | exact HR594_2.out)) | (with_reducible refine Kd.C_alloc ?_ _) | (with_reducible refine Kd.C_drewN ?_ _) | (with_reducible refine Kd.C_drew ?_))); (case side2 => exact HC594_2.out); rintro e w45 ⟨rfl, hb⟩; refine ⟨_, rfl, ?_⟩; have n0_ := Aside0.mk (Kd.R_below (by (with_reducible repeat (first | apply Kd.R_alloc | apply Kd.R_drewN | apply Kd.R_drew)); exact HO_9.out) hb); have n1_ := Aside0.mk (Kd.R_below (by (with_reducible repeat (first | apply Kd.R_alloc | apply Kd.R_drewN | apply Kd.R_drew)); exact HO_11.out) hb); have n2_ := Aside0.mk (Kd.R_below (by (with_reducible repeat (first | apply Kd.R_alloc | apply Kd.R_drewN | apply Kd.R_drew)); exact HL594_2.out) hb); have n3_ := Aside0.mk (Kd.C_below (by repeat (first | (with_reducible exact HR585_2.out) | (with_reducible refine Kd.C_alloc ?_ _) | (with_reducible refine Kd.C_drewN ?_ _) | (with_reducible refine Kd.C_drew ?_) | exact HR585_2.out)) hb); have n4_ := Aside0.mk (Kd.C_below (by repeat (first | (with_reducible exact HR586_2.out) | (with_reducible refine Kd.C_alloc ?_ _) | (with_reducible refine Kd.C_drewN ?_ _) | (with_reducible refine Kd.C_drew ?_) | exact HR586_2.out)) hb); have n5_ := Aside0.mk (Kd.C_below (by repeat (first | (with_reducible exact HR587_2.out) | (with_reducible refine Kd.C_alloc ?_ _) | (with_reducible refine Kd.C_drewN ?_ _) | (with_reducible refine Kd.C_drew ?_) | exact HR587_2.out)) hb); have n6_ := Aside0.mk (Kd.C_below (by repeat (first | (with_reducible exact HR590_2.out) | (with_reducible refine Kd.C_alloc ?_ _) | (with_reducible refine Kd.C_drewN ?_ _) | (with_reducible refine Kd.C_drew ?_) | exact HR590_2.out)) hb); have n7_ := Aside0.mk (Kd.C_below (by repeat (first | (with_reducible exact HR591_2.out) | (with_reducible refine Kd.C_alloc ?_ _) | (with_reducible refine Kd.C_drewN ?_ _) | (with_reducible refine Kd.C_drew ?_) | exact HR591_2.out)) hb); have n8_ := Aside0.mk (Kd.C_below (by repeat (first | (with_reducible exact HR594_2.out) | (with_reducible refine Kd.C_alloc ?_ _) | (with_reducible refine Kd.C_drewN ?_ _) | (with_reducible refine Kd.C_drew ?_) | exact HR594_2.out)) hb); have n9_ := Aside0.mk (below_step hb_ hb); clear HO_9; clear HO_11; clear HL594_2; clear HR585_2; clear HR586_2; clear HR587_2; clear HR590_2; clear HR591_2; clear HR594_2; clear HB; have HO_9 := n0_; have HO_11 := n1_; have HL594_2 := n2_; have HR585_2 := n3_; have HR586_2 := n4_; have HR587_2 := n5_; have HR590_2 := n6_; have HR591_2 := n7_; have HR594_2 := n8_; have HB := n9_; clear n0_ n1_ n2_ n3_ n4_ n5_ n6_ n7_ n8_ n9_; (try clear hb); (try clear hb2); (try clear hk); (try clear hi)))
                    (try simp only [Act.put, List.setIfInBounds_toArray, List.set_cons_zero, List.set_cons_succ])
                    go_cut [162] (fun v162 wc => ∃ (kq : Nat) (x162_43 : Bool), v162 = .bool x162_43 ∧ Aside0 (collatorlaw06_HunksContext.j4 kq t567 t569 t574 t575 x16_2 x19_38 t595 x162_43 = some r) ∧ Aside0 (kq ≤ kj38) ∧ Aside0 (Kd.R Kd.string 9 wc w.heap.size (fun _ => True) v572 t569) ∧ Aside0 (Kd.R k28 28 wc w.heap.size (fun k_ => some k_ ≠ (v572 : Value).ownBlock) (.slice (some ad585) t575.length co32) t575) ∧ Aside0 (Kd.C k31 wc (some ad587) ((rd_T28 t575 x16_2).f2).length ((rd_T28 t575 x16_2).f2)) ∧ Aside0 (Kd.C k31 wc (some ad587) ((rd_T28 t575 x16_2).f2).length ((rd_T28 t575 x16_2).f2)) ∧ Aside0 (Kd.C Kd.string wc A587_2 ((rd_T31 ((rd_T28 t575 x16_2).f2) 0).f2).length ((rd_T31 ((rd_T28 t575 x16_2).f2) 0).f2)) ∧ Aside0 (Kd.C k31 wc (some ad591) ((rd_T28 t575 x16_2).f2).length ((rd_T28 t575 x16_2).f2)) ∧ Aside0 (Kd.C Kd.string wc A591_2 ((rd_T31 ((rd_T28 t575 x16_2).f2) (ji36)).f2).length ((rd_T31 ((rd_T28 t575 x16_2).f2) (ji36)).f2)) ∧ Aside0 (Kd.C k31 wc A594_2 ((rd_T28 t575 x16_2).f2).length ((rd_T28 t575 x16_2).f2)) ∧ Aside0 (Below w.heap.size w wc))
                    case first =>
                     have H := HC44.out
                     clear HC44
                     by_cases c46 : x18_30 > t574
                     ·rw [if_pos c46] at H
                      have c46b0 : decide (t574 < x18_30) = true := decide_eq_true c46
                      clear c46
                      (first | rw [c46b0] | rw [c46b1] | (simp only [i64_w, i32_w]; rw [c46b0]) | skip)
                      have H' := Aside0.mk H
                      clear H
                      go_wp2
                      go_meet
                      case rel => exact ⟨_, (true), rf_, H', ⟨by have := HJ9.out; have := HK2.out; have := HJ30.out; have := HJ38.out; first | omega | exact Nat.le_refl _⟩, ⟨by (with_reducible repeat (first | apply Kd.R_alloc | apply Kd.R_drewN | apply Kd.R_drew)); exact HO_9.out⟩, ⟨by (with_reducible repeat (first | apply Kd.R_alloc | apply Kd.R_drewN | apply Kd.R_drew)); exact HO_11.out⟩, ⟨by repeat (first | (with_reducible exact HR585_2.out) | (with_reducible refine Kd.C_alloc ?_ _) | (with_reducible refine Kd.C_drewN ?_ _) | (with_reducible refine Kd.C_drew ?_) | exact HR585_2.out)⟩, ⟨by repeat (first | (with_reducible exact HR586_2.out) | (with_reducible refine Kd.C_alloc ?_ _) | (with_reducible refine Kd.C_drewN ?_ _) | (with_reducible refine Kd.C_drew ?_) | exact HR586_2.out)⟩, ⟨by repeat (first | (with_reducible exact HR587_2.out) | (with_reducible refine Kd.C_alloc ?_ _) | (with_reducible refine Kd.C_drewN ?_ _) | (with_reducible refine Kd.C_drew ?_) | exact HR587_2.out)⟩, ⟨by repeat (first | (with_reducible exact HR590_2.out) | (with_reducible refine Kd.C_alloc ?_ _) | (with_reducible refine Kd.C_drewN ?_ _) | (with_reducible refine Kd.C_drew ?_) | exact HR590_2.out)⟩, ⟨by repeat (first | (with_reducible exact HR591_2.out) | (with_reducible refine Kd.C_alloc ?_ _) | (with_reducible refine Kd.C_drewN ?_ _) | (with_reducible refine Kd.C_drew ?_) | exact HR591_2.out)⟩, ⟨by repeat (first | (with_reducible exact HR594_2.out) | (with_reducible refine Kd.C_alloc ?_ _) | (with_reducible refine Kd.C_drewN ?_ _) | (with_reducible refine Kd.C_drew ?_) | exact HR594_2.out)⟩, ⟨by repeat (first | (with_reducible first | exact HB.out | apply below_alloc | apply pw_below_drewN | apply below_drew1) | exact HB.out)⟩⟩
                     ·rw [if_neg c46] at H
                      have c46b0 : decide (t574 < x18_30) = false := decide_eq_false c46
                      clear c46
                      (first | rw [c46b0] | rw [c46b1] | (simp only [i64_w, i32_w]; rw [c46b0]) | skip)
                      by_cases c47 : x19_38 > t574
                      ·rw [if_pos c47] at H
                       have c47b0 : decide (t574 < x19_38) = true := decide_eq_true c47
                       clear c47
                       have H' := Aside0.mk H
                       clear H
                       go_wp2
                       go_meet
                       case rel => exact ⟨_, (true), rf_, H', ⟨by have := HJ9.out; have := HK2.out; have := HJ30.out; have := HJ38.out; first | omega | exact Nat.le_refl _⟩, ⟨by (with_reducible repeat (first | apply Kd.R_alloc | apply Kd.R_drewN | apply Kd.R_drew)); exact HO_9.out⟩, ⟨by (with_reducible repeat (first | apply Kd.R_alloc | apply Kd.R_drewN | apply Kd.R_drew)); exact HO_11.out⟩, ⟨by repeat (first | (with_reducible exact HR585_2.out) | (with_reducible refine Kd.C_alloc ?_ _) | (with_reducible refine Kd.C_drewN ?_ _) | (with_reducible refine Kd.C_drew ?_) | exact HR585_2.out)⟩, ⟨by repeat (first | (with_reducible exact HR586_2.out) | (with_reducible refine Kd.C_alloc ?_ _) | (with_reducible refine Kd.C_drewN ?_ _) | (with_reducible refine Kd.C_drew ?_) | exact HR586_2.out)⟩, ⟨by repeat (first | (with_reducible exact HR587_2.out) | (with_reducible refine Kd.C_alloc ?_ _) | (with_reducible refine Kd.C_drewN ?_ _) | (with_reducible refine Kd.C_drew ?_) | exact HR587_2.out)⟩, ⟨by repeat (first | (with_reducible exact HR590_2.out) | (with_reducible refine Kd.C_alloc ?_ _) | (with_reducible refine Kd.C_drewN ?_ _) | (with_reducible refine Kd.C_drew ?_) | exact HR590_2.out)⟩, ⟨by repeat (first | (with_reducible exact HR591_2.out) | (with_reducible refine Kd.C_alloc ?_ _) | (with_reducible refine Kd.C_drewN ?_ _) | (with_reducible refine Kd.C_drew ?_) | exact HR591_2.out)⟩, ⟨by repeat (first | (with_reducible exact HR594_2.out) | (with_reducible refine Kd.C_alloc ?_ _) | (with_reducible refine Kd.C_drewN ?_ _) | (with_reducible refine Kd.C_drew ?_) | exact HR594_2.out)⟩, ⟨by repeat (first | (with_reducible first | exact HB.out | apply below_alloc | apply pw_below_drewN | apply below_drew1) | exact HB.out)⟩⟩
                      ·rw [if_neg c47] at H
                       have c47b0 : decide (t574 < x19_38) = false := decide_eq_false c47
                       clear c47
                       by_cases c48 : x18_30 < t574
                       ·rw [if_pos c48] at H
                        have c48b0 : decide (x18_30 < t574) = true := decide_eq_true c48
                        clear c48
                        by_cases c49 : ((rd_T28 t575 x16_2).f0) > x15_2
                        ·rw [if_pos c49] at H
                         have c49b0 : decide (x15_2 < ((rd_T28 t575 x16_2).f0)) = true := decide_eq_true c49
                         clear c49
                         have H' := Aside0.mk H
                         clear H
                         have p597 : 0 ≤ (x16_2 : Int) := of_decide_eq_true as_
                         have q597 : x16_2 < (t575.length : Int) := of_decide_eq_true as_
                         obtain ⟨ad597, A597_2, c597_2, e597, hx597_0, hx597_1, hx597_2, hl597_2, hi597_2⟩ := at_T28 (Kd.R_reads' HO_11.out).2.2 x16_2 p597 q597
                         obtain rfl : ad585 = ad597 := (by injection e597)
                         obtain ⟨ce597, hce597, hMe597, hcc597⟩ := Kd.R_get HO_11.out z28 x16_2 p597 (by first | exact q597 | exact of_decide_eq_true as_ | (have e_ := (Kd.R_reads' HO_11.out).1; omega))
                         obtain ⟨ve597_2, rfl, ge597_2⟩ := k28_openM hMe597
                         have hv597_2 := hcc597 2 _ rfl
                         rw [add_field _ _ 2 (by omega)] at hv597_2
                         replace hv597_2 := Option.some.inj (hv597_2.symm.trans hx597_2)
                         rw [hv597_2] at ge597_2
                         have HL597_2 := Aside0.mk (show Kd.R k31 31 _ _ _ _ ((rd_T28 t575 x16_2).f2) from ge597_2)
                         clear hv597_2 ge597_2
                         clear hcc597 hce597
                         have HR597_2 := Aside0.mk hi597_2
                         have HC597_2 := Aside0.mk hl597_2
                         clear hi597_2 hl597_2
                         replace p597 := eq_true p597
                         replace q597 := eq_true q597
                         go_wp2
                         go_meet
                         case rel => exact ⟨_, (true), rf_, H', ⟨by have := HJ9.out; have := HK2.out; have := HJ30.out; have := HJ38.out; first | omega | exact Nat.le_refl _⟩, ⟨by (with_reducible repeat (first | apply Kd.R_alloc | apply Kd.R_drewN | apply Kd.R_drew)); exact HO_9.out⟩, ⟨by (with_reducible repeat (first | apply Kd.R_alloc | apply Kd.R_drewN | apply Kd.R_drew)); exact HO_11.out⟩, ⟨by repeat (first | (with_reducible exact HR585_2.out) | (with_reducible refine Kd.C_alloc ?_ _) | (with_reducible refine Kd.C_drewN ?_ _) | (with_reducible refine Kd.C_drew ?_) | exact HR585_2.out)⟩, ⟨by repeat (first | (with_reducible exact HR586_2.out) | (with_reducible refine Kd.C_alloc ?_ _) | (with_reducible refine Kd.C_drewN ?_ _) | (with_reducible refine Kd.C_drew ?_) | exact HR586_2.out)⟩, ⟨by repeat (first | (with_reducible exact HR587_2.out) | (with_reducible refine Kd.C_alloc ?_ _) | (with_reducible refine Kd.C_drewN ?_ _) | (with_reducible refine Kd.C_drew ?_) | exact HR587_2.out)⟩, ⟨by repeat (first | (with_reducible exact HR590_2.out) | (with_reducible refine Kd.C_alloc ?_ _) | (with_reducible refine Kd.C_drewN ?_ _) | (with_reducible refine Kd.C_drew ?_) | exact HR590_2.out)⟩, ⟨by repeat (first | (with_reducible exact HR591_2.out) | (with_reducible refine Kd.C_alloc ?_ _) | (with_reducible refine Kd.C_drewN ?_ _) | (with_reducible refine Kd.C_drew ?_) | exact HR591_2.out)⟩, ⟨by repeat (first | (with_reducible exact HR594_2.out) | (with_reducible refine Kd.C_alloc ?_ _) | (with_reducible refine Kd.C_drewN ?_ _) | (with_reducible refine Kd.C_drew ?_) | exact HR594_2.out)⟩, ⟨by repeat (first | (with_reducible first | exact HB.out | apply below_alloc | apply pw_below_drewN | apply below_drew1) | exact HB.out)⟩⟩
                        ·rw [if_neg c49] at H
                         have c49b0 : decide (x15_2 < ((rd_T28 t575 x16_2).f0)) = false := decide_eq_false c49
                         clear c49
                         by_cases c50 : x16_2 > 0
                         ·rw [if_pos c50] at H
                          have c50b0 : decide (0 < x16_2) = true := decide_eq_true c50
                          clear c50
                          have H' := Aside0.mk H
                          clear H
                          have p597 : 0 ≤ (x16_2 : Int) := of_decide_eq_true as_
                          have q597 : x16_2 < (t575.length : Int) := of_decide_eq_true as_
                          obtain ⟨ad597, A597_2, c597_2, e597, hx597_0, hx597_1, hx597_2, hl597_2, hi597_2⟩ := at_T28 (Kd.R_reads' HO_11.out).2.2 x16_2 p597 q597
                          obtain rfl : ad585 = ad597 := (by injection e597)
                          obtain ⟨ce597, hce597, hMe597, hcc597⟩ := Kd.R_get HO_11.out z28 x16_2 p597 (by first | exact q597 | exact of_decide_eq_true as_ | (have e_ := (Kd.R_reads' HO_11.out).1; omega))
                          obtain ⟨ve597_2, rfl, ge597_2⟩ := k28_openM hMe597
                          have hv597_2 := hcc597 2 _ rfl
                          rw [add_field _ _ 2 (by omega)] at hv597_2
                          replace hv597_2 := Option.some.inj (hv597_2.symm.trans hx597_2)
                          rw [hv597_2] at ge597_2
                          have HL597_2 := Aside0.mk (show Kd.R k31 31 _ _ _ _ ((rd_T28 t575 x16_2).f2) from ge597_2)
                          clear hv597_2 ge597_2
                          clear hcc597 hce597
                          have HR597_2 := Aside0.mk hi597_2
                          have HC597_2 := Aside0.mk hl597_2
                          clear hi597_2 hl597_2
                          replace p597 := eq_true p597
                          replace q597 := eq_true q597
                          have p598 : 0 ≤ (x16_2 : Int) := of_decide_eq_true as_
                          have q598 : x16_2 < (t575.length : Int) := of_decide_eq_true as_
                          obtain ⟨ad598, A598_2, c598_2, e598, hx598_0, hx598_1, hx598_2, hl598_2, hi598_2⟩ := at_T28 (Kd.R_reads' HO_11.out).2.2 x16_2 p598 q598
                          obtain rfl : ad585 = ad598 := (by injection e598)
                          obtain ⟨ce598, hce598, hMe598, hcc598⟩ := Kd.R_get HO_11.out z28 x16_2 p598 (by first | exact q598 | exact of_decide_eq_true as_ | (have e_ := (Kd.R_reads' HO_11.out).1; omega))
                          obtain ⟨ve598_2, rfl, ge598_2⟩ := k28_openM hMe598
                          have hv598_2 := hcc598 2 _ rfl
                          rw [add_field _ _ 2 (by omega)] at hv598_2
                          replace hv598_2 := Option.some.inj (hv598_2.symm.trans hx598_2)
                          rw [hv598_2] at ge598_2
                          have HL598_2 := Aside0.mk (show Kd.R k31 31 _ _ _ _ ((rd_T28 t575 x16_2).f2) from ge598_2)
                          clear hv598_2 ge598_2
                          clear hcc598 hce598
                          have HR598_2 := Aside0.mk hi598_2
                          have HC598_2 := Aside0.mk hl598_2
                          clear hi598_2 hl598_2
                          replace p598 := eq_true p598
                          replace q598 := eq_true q598
                          have ea_ := Option.some.inj (hx597_2.symm.trans hx598_2)
                          injection ea_ with ea_ en_ ec_
                          subst ea_
                          subst ec_
                          clear en_
                          go_wp2
                          go_meet
                          case rel => exact ⟨_, (decide (((rd_T28 t575 x16_2).f0) ≤ x15_2)), rf_, H', ⟨by have := HJ9.out; have := HK2.out; have := HJ30.out; have := HJ38.out; first | omega | exact Nat.le_refl _⟩, ⟨by (with_reducible repeat (first | apply Kd.R_alloc | apply Kd.R_drewN | apply Kd.R_drew)); exact HO_9.out⟩, ⟨by (with_reducible repeat (first | apply Kd.R_alloc | apply Kd.R_drewN | apply Kd.R_drew)); exact HO_11.out⟩, ⟨by repeat (first | (with_reducible exact HR585_2.out) | (with_reducible refine Kd.C_alloc ?_ _) | (with_reducible refine Kd.C_drewN ?_ _) | (with_reducible refine Kd.C_drew ?_) | exact HR585_2.out)⟩, ⟨by repeat (first | (with_reducible exact HR586_2.out) | (with_reducible refine Kd.C_alloc ?_ _) | (with_reducible refine Kd.C_drewN ?_ _) | (with_reducible refine Kd.C_drew ?_) | exact HR586_2.out)⟩, ⟨by repeat (first | (with_reducible exact HR587_2.out) | (with_reducible refine Kd.C_alloc ?_ _) | (with_reducible refine Kd.C_drewN ?_ _) | (with_reducible refine Kd.C_drew ?_) | exact HR587_2.out)⟩, ⟨by repeat (first | (with_reducible exact HR590_2.out) | (with_reducible refine Kd.C_alloc ?_ _) | (with_reducible refine Kd.C_drewN ?_ _) | (with_reducible refine Kd.C_drew ?_) | exact HR590_2.out)⟩, ⟨by repeat (first | (with_reducible exact HR591_2.out) | (with_reducible refine Kd.C_alloc ?_ _) | (with_reducible refine Kd.C_drewN ?_ _) | (with_reducible refine Kd.C_drew ?_) | exact HR591_2.out)⟩, ⟨by repeat (first | (with_reducible exact HR594_2.out) | (with_reducible refine Kd.C_alloc ?_ _) | (with_reducible refine Kd.C_drewN ?_ _) | (with_reducible refine Kd.C_drew ?_) | exact HR594_2.out)⟩, ⟨by repeat (first | (with_reducible first | exact HB.out | apply below_alloc | apply pw_below_drewN | apply below_drew1) | exact HB.out)⟩⟩
                         ·rw [if_neg c50] at H
                          have c50b0 : decide (0 < x16_2) = false := decide_eq_false c50
                          clear c50
                          have H' := Aside0.mk H
                          clear H
                          have p597 : 0 ≤ (x16_2 : Int) := of_decide_eq_true as_
                          have q597 : x16_2 < (t575.length : Int) := of_decide_eq_true as_
                          obtain ⟨ad597, A597_2, c597_2, e597, hx597_0, hx597_1, hx597_2, hl597_2, hi597_2⟩ := at_T28 (Kd.R_reads' HO_11.out).2.2 x16_2 p597 q597
                          obtain rfl : ad585 = ad597 := (by injection e597)
                          obtain ⟨ce597, hce597, hMe597, hcc597⟩ := Kd.R_get HO_11.out z28 x16_2 p597 (by first | exact q597 | exact of_decide_eq_true as_ | (have e_ := (Kd.R_reads' HO_11.out).1; omega))
                          obtain ⟨ve597_2, rfl, ge597_2⟩ := k28_openM hMe597
                          have hv597_2 := hcc597 2 _ rfl
                          rw [add_field _ _ 2 (by omega)] at hv597_2
                          replace hv597_2 := Option.some.inj (hv597_2.symm.trans hx597_2)
                          rw [hv597_2] at ge597_2
                          have HL597_2 := Aside0.mk (show Kd.R k31 31 _ _ _ _ ((rd_T28 t575 x16_2).f2) from ge597_2)
                          clear hv597_2 ge597_2
                          clear hcc597 hce597
                          have HR597_2 := Aside0.mk hi597_2
                          have HC597_2 := Aside0.mk hl597_2
                          clear hi597_2 hl597_2
                          replace p597 := eq_true p597
                          replace q597 := eq_true q597
                          go_wp2
                          go_meet
                          case rel => exact ⟨_, (false), rf_, H', ⟨by have := HJ9.out; have := HK2.out; have := HJ30.out; have := HJ38.out; first | omega | exact Nat.le_refl _⟩, ⟨by (with_reducible repeat (first | apply Kd.R_alloc | apply Kd.R_drewN | apply Kd.R_drew)); exact HO_9.out⟩, ⟨by (with_reducible repeat (first | apply Kd.R_alloc | apply Kd.R_drewN | apply Kd.R_drew)); exact HO_11.out⟩, ⟨by repeat (first | (with_reducible exact HR585_2.out) | (with_reducible refine Kd.C_alloc ?_ _) | (with_reducible refine Kd.C_drewN ?_ _) | (with_reducible refine Kd.C_drew ?_) | exact HR585_2.out)⟩, ⟨by repeat (first | (with_reducible exact HR586_2.out) | (with_reducible refine Kd.C_alloc ?_ _) | (with_reducible refine Kd.C_drewN ?_ _) | (with_reducible refine Kd.C_drew ?_) | exact HR586_2.out)⟩, ⟨by repeat (first | (with_reducible exact HR587_2.out) | (with_reducible refine Kd.C_alloc ?_ _) | (with_reducible refine Kd.C_drewN ?_ _) | (with_reducible refine Kd.C_drew ?_) | exact HR587_2.out)⟩, ⟨by repeat (first | (with_reducible exact HR590_2.out) | (with_reducible refine Kd.C_alloc ?_ _) | (with_reducible refine Kd.C_drewN ?_ _) | (with_reducible refine Kd.C_drew ?_) | exact HR590_2.out)⟩, ⟨by repeat (first | (with_reducible exact HR591_2.out) | (with_reducible refine Kd.C_alloc ?_ _) | (with_reducible refine Kd.C_drewN ?_ _) | (with_reducible refine Kd.C_drew ?_) | exact HR591_2.out)⟩, ⟨by repeat (first | (with_reducible exact HR594_2.out) | (with_reducible refine Kd.C_alloc ?_ _) | (with_reducible refine Kd.C_drewN ?_ _) | (with_reducible refine Kd.C_drew ?_) | exact HR594_2.out)⟩, ⟨by repeat (first | (with_reducible first | exact HB.out | apply below_alloc | apply pw_below_drewN | apply below_drew1) | exact HB.out)⟩⟩
                       ·rw [if_neg c48] at H
                        have c48b0 : decide (x18_30 < t574) = false := decide_eq_false c48
                        clear c48
                        by_cases c51 : x16_2 > 0
                        ·rw [if_pos c51] at H
                         have c51b0 : decide (0 < x16_2) = true := decide_eq_true c51
                         clear c51
                         have H' := Aside0.mk H
                         clear H
                         have p599 : 0 ≤ (x16_2 : Int) := of_decide_eq_true as_
                         have q599 : x16_2 < (t575.length : Int) := of_decide_eq_true as_
                         obtain ⟨ad599, A599_2, c599_2, e599, hx599_0, hx599_1, hx599_2, hl599_2, hi599_2⟩ := at_T28 (Kd.R_reads' HO_11.out).2.2 x16_2 p599 q599
                         obtain rfl : ad585 = ad599 := (by injection e599)
                         obtain ⟨ce599, hce599, hMe599, hcc599⟩ := Kd.R_get HO_11.out z28 x16_2 p599 (by first | exact q599 | exact of_decide_eq_true as_ | (have e_ := (Kd.R_reads' HO_11.out).1; omega))
                         obtain ⟨ve599_2, rfl, ge599_2⟩ := k28_openM hMe599
                         have hv599_2 := hcc599 2 _ rfl
                         rw [add_field _ _ 2 (by omega)] at hv599_2
                         replace hv599_2 := Option.some.inj (hv599_2.symm.trans hx599_2)
                         rw [hv599_2] at ge599_2
                         have HL599_2 := Aside0.mk (show Kd.R k31 31 _ _ _ _ ((rd_T28 t575 x16_2).f2) from ge599_2)
                         clear hv599_2 ge599_2
                         clear hcc599 hce599
                         have HR599_2 := Aside0.mk hi599_2
                         have HC599_2 := Aside0.mk hl599_2
                         clear hi599_2 hl599_2
                         replace p599 := eq_true p599
                         replace q599 := eq_true q599
                         go_wp2
                         go_meet
                         case rel => exact ⟨_, (decide (((rd_T28 t575 x16_2).f0) ≤ x15_2)), rf_, H', ⟨by have := HJ9.out; have := HK2.out; have := HJ30.out; have := HJ38.out; first | omega | exact Nat.le_refl _⟩, ⟨by (with_reducible repeat (first | apply Kd.R_alloc | apply Kd.R_drewN | apply Kd.R_drew)); exact HO_9.out⟩, ⟨by (with_reducible repeat (first | apply Kd.R_alloc | apply Kd.R_drewN | apply Kd.R_drew)); exact HO_11.out⟩, ⟨by repeat (first | (with_reducible exact HR585_2.out) | (with_reducible refine Kd.C_alloc ?_ _) | (with_reducible refine Kd.C_drewN ?_ _) | (with_reducible refine Kd.C_drew ?_) | exact HR585_2.out)⟩, ⟨by repeat (first | (with_reducible exact HR586_2.out) | (with_reducible refine Kd.C_alloc ?_ _) | (with_reducible refine Kd.C_drewN ?_ _) | (with_reducible refine Kd.C_drew ?_) | exact HR586_2.out)⟩, ⟨by repeat (first | (with_reducible exact HR587_2.out) | (with_reducible refine Kd.C_alloc ?_ _) | (with_reducible refine Kd.C_drewN ?_ _) | (with_reducible refine Kd.C_drew ?_) | exact HR587_2.out)⟩, ⟨by repeat (first | (with_reducible exact HR590_2.out) | (with_reducible refine Kd.C_alloc ?_ _) | (with_reducible refine Kd.C_drewN ?_ _) | (with_reducible refine Kd.C_drew ?_) | exact HR590_2.out)⟩, ⟨by repeat (first | (with_reducible exact HR591_2.out) | (with_reducible refine Kd.C_alloc ?_ _) | (with_reducible refine Kd.C_drewN ?_ _) | (with_reducible refine Kd.C_drew ?_) | exact HR591_2.out)⟩, ⟨by repeat (first | (with_reducible exact HR594_2.out) | (with_reducible refine Kd.C_alloc ?_ _) | (with_reducible refine Kd.C_drewN ?_ _) | (with_reducible refine Kd.C_drew ?_) | exact HR594_2.out)⟩, ⟨by repeat (first | (with_reducible first | exact HB.out | apply below_alloc | apply pw_below_drewN | apply below_drew1) | exact HB.out)⟩⟩
                        ·rw [if_neg c51] at H
                         have c51b0 : decide (0 < x16_2) = false := decide_eq_false c51
                         clear c51
                         have H' := Aside0.mk H
                         clear H
                         go_wp2
                         go_meet
                         case rel => exact ⟨_, (false), rf_, H', ⟨by have := HJ9.out; have := HK2.out; have := HJ30.out; have := HJ38.out; first | omega | exact Nat.le_refl _⟩, ⟨by (with_reducible repeat (first | apply Kd.R_alloc | apply Kd.R_drewN | apply Kd.R_drew)); exact HO_9.out⟩, ⟨by (with_reducible repeat (first | apply Kd.R_alloc | apply Kd.R_drewN | apply Kd.R_drew)); exact HO_11.out⟩, ⟨by repeat (first | (with_reducible exact HR585_2.out) | (with_reducible refine Kd.C_alloc ?_ _) | (with_reducible refine Kd.C_drewN ?_ _) | (with_reducible refine Kd.C_drew ?_) | exact HR585_2.out)⟩, ⟨by repeat (first | (with_reducible exact HR586_2.out) | (with_reducible refine Kd.C_alloc ?_ _) | (with_reducible refine Kd.C_drewN ?_ _) | (with_reducible refine Kd.C_drew ?_) | exact HR586_2.out)⟩, ⟨by repeat (first | (with_reducible exact HR587_2.out) | (with_reducible refine Kd.C_alloc ?_ _) | (with_reducible refine Kd.C_drewN ?_ _) | (with_reducible refine Kd.C_drew ?_) | exact HR587_2.out)⟩, ⟨by repeat (first | (with_reducible exact HR590_2.out) | (with_reducible refine Kd.C_alloc ?_ _) | (with_reducible refine Kd.C_drewN ?_ _) | (with_reducible refine Kd.C_drew ?_) | exact HR590_2.out)⟩, ⟨by repeat (first | (with_reducible exact HR591_2.out) | (with_reducible refine Kd.C_alloc ?_ _) | (with_reducible refine Kd.C_drewN ?_ _) | (with_reducible refine Kd.C_drew ?_) | exact HR591_2.out)⟩, ⟨by repeat (first | (with_reducible exact HR594_2.out) | (with_reducible refine Kd.C_alloc ?_ _) | (with_reducible refine Kd.C_drewN ?_ _) | (with_reducible refine Kd.C_drew ?_) | exact HR594_2.out)⟩, ⟨by repeat (first | (with_reducible first | exact HB.out | apply below_alloc | apply pw_below_drewN | apply below_drew1) | exact HB.out)⟩⟩
                    case rest =>
                     clear HC44
                     (try clear c1);(try clear c2);(try clear p2);(try clear c3);(try clear c4);(try clear c5);(try clear p5);(try clear q5);(try clear hx5);(try clear qi5);(try clear c6);(try clear p6);(try clear c9);(try clear c10);(try clear c11);(try clear c12);(try clear c16);(try clear c16b0);(try clear c16b1);(try clear c17);(try clear c17b0);(try clear c17b1);(try clear c18);(try clear c18b0);(try clear c18b1);(try clear c25);(try clear c26);(try clear c26b0);(try clear c27);(try clear c27b0);(try clear c28);(try clear c28b0);(try clear c28b1);(try clear c28b2);(try clear c30);(try clear c30b0);(try clear c30b1);(try clear c33);(try clear c33b0);(try clear c33b1);(try clear c34);(try clear c34b0);(try clear c35);(try clear c35b0);(try clear c37);(try clear c37b0);(try clear c38);(try clear c38b0);(try clear c40);(try clear c40b0);(try clear c40b1);(try clear c41);(try clear c41b0);(try clear c42);(try clear c42b0);(try clear c46);(try clear c46b0);(try clear c47);(try clear c47b0);(try clear c48);(try clear c48b0);(try clear c49);(try clear c49b0);(try clear c50);(try clear c50b0);(try clear c51);(try clear c51b0);(try clear hx585_0);(try clear hx585_1);(try clear hx585_2);(try clear hx586_0);(try clear hx586_1);(try clear hx586_2);(try clear hx587_0);(try clear hx587_1);(try clear hx587_2);(try clear hx588_0);(try clear hx588_1);(try clear hx588_2);(try clear hx589_0);(try clear hx589_1);(try clear hx589_2);(try clear hx590_0);(try clear hx590_1);(try clear hx590_2);(try clear hx591_0);(try clear hx591_1);(try clear hx591_2);(try clear hx592_0);(try clear hx592_1);(try clear hx592_2);(try clear hx593_0);(try clear hx593_1);(try clear hx593_2);(try clear hx594_0);(try clear hx594_1);(try clear hx594_2);(try clear hx597_0);(try clear hx597_1);(try clear hx597_2);(try clear hx598_0);(try clear hx598_1);(try clear hx598_2);(try clear hx599_0);(try clear hx599_1);(try clear hx599_2);(try clear p2);(try clear p5);(try clear p585);(try clear p586);(try clear p587);(try clear p588);(try clear p589);(try clear p590);(try clear p591);(try clear p592);(try clear p593);(try clear p594);(try clear p597);(try clear p598);(try clear p599);(try clear p6);(try clear q5);(try clear q585);(try clear q586);(try clear q587);(try clear q588);(try clear q589);(try clear q590);(try clear q591);(try clear q592);(try clear q593);(try clear q594);(try clear q597);(try clear q598);(try clear q599)
                     obtain ⟨kq, x162_43, rfl, HA, HJ43, HO_9, HO_11, HR585_2, HR586_2, HR587_2, HR590_2, HR591_2, HR594_2, HB⟩ := hcut
                     cases kq with
                     | zero => exact absurd HA.out (by simp [collatorlaw06_HunksContext.j4])
                     | succ kj43 =>
                      have H := HA.out
                      clear HA
                      simp only [collatorlaw06_HunksContext.j4] at H
                      by_cases c52 : x162_43 = true
                      ·subst c52
                       have H1 : (some false) = some r := by rw [if_pos rfl] at H; exact H
                       clear H
                       have H := H1
                       clear H1
                       obtain rfl := Option.some.inj H
                       go_wp2
                       go_ret
                       exact ⟨by first | rfl | (simp [errW_none, errW_some] <;> rfl) | (simp only [← hji36]; first | rfl | (simp [errW_none, errW_some] <;> rfl)) | (simp [*, errW_none, errW_some] <;> rfl), by repeat (first | (with_reducible first | exact HB.out | apply below_alloc | apply pw_below_drewN | apply below_drew1) | exact HB.out)⟩
                      ·replace c52 := Bool.eq_false_iff.mpr c52
                       subst c52
                       have H1 : (if 0 ≤ x16_2 then (if x16_2 < (t575.length : Int) then (if x19_38 < t574 then (if (wrap64 (((rd_T28 t575 x16_2).f0) + t595)) < (t569.length : Int) then (some false) else (collatorlaw06_HunksContext.l0 kj43 t567 t569 t574 t575 (wrap64 (((rd_T28 t575 x16_2).f0) + t595)) (wrap64 (x16_2 + 1)))) else (collatorlaw06_HunksContext.l0 kj43 t567 t569 t574 t575 (wrap64 (((rd_T28 t575 x16_2).f0) + t595)) (wrap64 (x16_2 + 1)))) else (none)) else (none)) = some r := by rw [if_neg (show ¬ (false = true) by decide)] at H; exact H
                       clear H
                       have H := H1
                       clear H1
                       by_cases c53 : 0 ≤ x16_2
                       ·rw [if_pos c53] at H
                        have c53b0 : decide (0 ≤ x16_2) = true := decide_eq_true c53
                        clear c53
                        by_cases c54 : x16_2 < (t575.length : Int)
                        ·rw [if_pos c54] at H
                         have c54b0 : decide (x16_2 < (t575.length : Int)) = true := decide_eq_true c54
                         clear c54
                         by_cases c55 : x19_38 < t574
                         ·rw [if_pos c55] at H
                          have c55b0 : decide (x19_38 < t574) = true := decide_eq_true c55
                          clear c55
                          by_cases c56 : (wrap64 (((rd_T28 t575 x16_2).f0) + t595)) < (t569.length : Int)
                          ·rw [if_pos c56] at H
                           have c56b0 : decide ((wrap64 (((rd_T28 t575 x16_2).f0) + t595)) < (t569.length : Int)) = true := decide_eq_true c56
                           clear c56
                           obtain rfl := Option.some.inj H
                           have p600 : 0 ≤ (x16_2 : Int) := of_decide_eq_true as_
                           have q600 : x16_2 < (t575.length : Int) := of_decide_eq_true as_
                           obtain ⟨ad600, A600_2, c600_2, e600, hx600_0, hx600_1, hx600_2, hl600_2, hi600_2⟩ := at_T28 (Kd.R_reads' HO_11.out).2.2 x16_2 p600 q600
                           obtain rfl : ad585 = ad600 := (by injection e600)
                           obtain ⟨ce600, hce600, hMe600, hcc600⟩ := Kd.R_get HO_11.out z28 x16_2 p600 (by first | exact q600 | exact of_decide_eq_true as_ | (have e_ := (Kd.R_reads' HO_11.out).1; omega))
                           obtain ⟨ve600_2, rfl, ge600_2⟩ := k28_openM hMe600
                           have hv600_2 := hcc600 2 _ rfl
                           rw [add_field _ _ 2 (by omega)] at hv600_2
                           replace hv600_2 := Option.some.inj (hv600_2.symm.trans hx600_2)
                           rw [hv600_2] at ge600_2
                           have HL600_2 := Aside0.mk (show Kd.R k31 31 _ _ _ _ ((rd_T28 t575 x16_2).f2) from ge600_2)
                           clear hv600_2 ge600_2
                           clear hcc600 hce600
                           have HR600_2 := Aside0.mk hi600_2
                           have HC600_2 := Aside0.mk hl600_2
                           clear hi600_2 hl600_2
                           replace p600 := eq_true p600
                           replace q600 := eq_true q600
                           obtain ⟨Ao57, co57, eo57⟩ := Kd.R_slice HO_9.out
                           subst eo57
                           go_wp2
                           go_ret
                           exact ⟨by first | rfl | (simp [errW_none, errW_some] <;> rfl) | (simp only [← hji36]; first | rfl | (simp [errW_none, errW_some] <;> rfl)) | (simp [*, errW_none, errW_some] <;> rfl), by repeat (first | (with_reducible first | exact HB.out | apply below_alloc | apply pw_below_drewN | apply below_drew1) | exact HB.out)⟩
                          ·rw [if_neg c56] at H
                           have c56b0 : decide ((wrap64 (((rd_T28 t575 x16_2).f0) + t595)) < (t569.length : Int)) = false := decide_eq_false c56
                           clear c56
                           have H' := Aside0.mk H
                           clear H
                           have p600 : 0 ≤ (x16_2 : Int) := of_decide_eq_true as_
                           have q600 : x16_2 < (t575.length : Int) := of_decide_eq_true as_
                           obtain ⟨ad600, A600_2, c600_2, e600, hx600_0, hx600_1, hx600_2, hl600_2, hi600_2⟩ := at_T28 (Kd.R_reads' HO_11.out).2.2 x16_2 p600 q600
                           obtain rfl : ad585 = ad600 := (by injection e600)
                           obtain ⟨ce600, hce600, hMe600, hcc600⟩ := Kd.R_get HO_11.out z28 x16_2 p600 (by first | exact q600 | exact of_decide_eq_true as_ | (have e_ := (Kd.R_reads' HO_11.out).1; omega))
                           obtain ⟨ve600_2, rfl, ge600_2⟩ := k28_openM hMe600
                           have hv600_2 := hcc600 2 _ rfl
                           rw [add_field _ _ 2 (by omega)] at hv600_2
                           replace hv600_2 := Option.some.inj (hv600_2.symm.trans hx600_2)
                           rw [hv600_2] at ge600_2
                           have HL600_2 := Aside0.mk (show Kd.R k31 31 _ _ _ _ ((rd_T28 t575 x16_2).f2) from ge600_2)
                           clear hv600_2 ge600_2
                           clear hcc600 hce600
                           have HR600_2 := Aside0.mk hi600_2
                           have HC600_2 := Aside0.mk hl600_2
                           clear hi600_2 hl600_2
                           replace p600 := eq_true p600
                           replace q600 := eq_true q600
                           obtain ⟨Ao58, co58, eo58⟩ := Kd.R_slice HO_9.out
                           subst eo58
                           go_wp2
                           go_roundg kj43
                           case measure => have := HJ9.out; have := HK2.out; have := HJ30.out; have := HJ38.out; have := HJ43.out; omega
                           case rel => exact ⟨(wrap64 (((rd_T28 t575 x16_2).f0) + t595)), (wrap64 (x16_2 + 1)), rf_, rf_, H', ⟨by have := HJ9.out; have := HK2.out; have := HJ30.out; have := HJ38.out; have := HJ43.out; omega⟩, ⟨by (with_reducible repeat (first | apply Kd.R_alloc | apply Kd.R_drewN | apply Kd.R_drew)); exact HO_9.out⟩, ⟨by (with_reducible repeat (first | apply Kd.R_alloc | apply Kd.R_drewN | apply Kd.R_drew)); exact HO_11.out⟩, ⟨by repeat (first | (with_reducible first | exact HB.out | apply below_alloc | apply pw_below_drewN | apply below_drew1) | exact HB.out)⟩⟩
                         ·rw [if_neg c55] at H
                          have c55b0 : decide (x19_38 < t574) = false := decide_eq_false c55
                          clear c55
                          have H' := Aside0.mk H
                          clear H
                          have p600 : 0 ≤ (x16_2 : Int) := of_decide_eq_true as_
                          have q600 : x16_2 < (t575.length : Int) := of_decide_eq_true as_
                          obtain ⟨ad600, A600_2, c600_2, e600, hx600_0, hx600_1, hx600_2, hl600_2, hi600_2⟩ := at_T28 (Kd.R_reads' HO_11.out).2.2 x16_2 p600 q600
                          obtain rfl : ad585 = ad600 := (by injection e600)
                          obtain ⟨ce600, hce600, hMe600, hcc600⟩ := Kd.R_get HO_11.out z28 x16_2 p600 (by first | exact q600 | exact of_decide_eq_true as_ | (have e_ := (Kd.R_reads' HO_11.out).1; omega))
                          obtain ⟨ve600_2, rfl, ge600_2⟩ := k28_openM hMe600
                          have hv600_2 := hcc600 2 _ rfl
                          rw [add_field _ _ 2 (by omega)] at hv600_2
                          replace hv600_2 := Option.some.inj (hv600_2.symm.trans hx600_2)
                          rw [hv600_2] at ge600_2
                          have HL600_2 := Aside0.mk (show Kd.R k31 31 _ _ _ _ ((rd_T28 t575 x16_2).f2) from ge600_2)
                          clear hv600_2 ge600_2
                          clear hcc600 hce600
                          have HR600_2 := Aside0.mk hi600_2
                          have HC600_2 := Aside0.mk hl600_2
                          clear hi600_2 hl600_2
                          replace p600 := eq_true p600
                          replace q600 := eq_true q600
                          go_wp2
                          go_roundg kj43
                          case measure => have := HJ9.out; have := HK2.out; have := HJ30.out; have := HJ38.out; have := HJ43.out; omega
                          case rel => exact ⟨(wrap64 (((rd_T28 t575 x16_2).f0) + t595)), (wrap64 (x16_2 + 1)), rf_, rf_, H', ⟨by have := HJ9.out; have := HK2.out; have := HJ30.out; have := HJ38.out; have := HJ43.out; omega⟩, ⟨by (with_reducible repeat (first | apply Kd.R_alloc | apply Kd.R_drewN | apply Kd.R_drew)); exact HO_9.out⟩, ⟨by (with_reducible repeat (first | apply Kd.R_alloc | apply Kd.R_drewN | apply Kd.R_drew)); exact HO_11.out⟩, ⟨by repeat (first | (with_reducible first | exact HB.out | apply below_alloc | apply pw_below_drewN | apply below_drew1) | exact HB.out)⟩⟩
                        ·rw [if_neg c54] at H
                         exact absurd H (by simp)
                       ·rw [if_neg c53] at H
                        exact absurd H (by simp)
                   ·rw [if_neg c42] at H
                    exact absurd H (by simp)
                  ·rw [if_neg c41] at H
                   exact absurd H (by simp)
               ·rw [if_neg c38] at H
                exact absurd H (by simp)
              ·rw [if_neg c37] at H
               exact absurd H (by simp)
             ·rw [if_neg c35] at H
              exact absurd H (by simp)
            ·rw [if_neg c34] at H
             exact absurd H (by simp)
         ·rw [if_neg c30] at H
          exact absurd H (by simp)
       ·rw [if_neg c27] at H
        exact absurd H (by simp)
      ·rw [if_neg c26] at H
       have c26b0 : decide (x16_2 < (t575.length : Int)) = false := decide_eq_false c26
       clear c26
       by_cases c59 : t567 = true
       ·subst c59
        have H1 : (some (decide (x15_2 ≤ (t569.length : Int)))) = some r := by rw [if_pos rfl] at H; exact H
        clear H
        have H := H1
        clear H1
        obtain rfl := Option.some.inj H
        obtain ⟨Ao60, co60, eo60⟩ := Kd.R_slice HO_11.out
        subst eo60
        obtain ⟨Ao61, co61, eo61⟩ := Kd.R_slice HO_9.out
        subst eo61
        go_wp2
        go_ret
        exact ⟨by first | rfl | (simp [errW_none, errW_some] <;> rfl) | (simp [*, errW_none, errW_some] <;> rfl), by repeat (first | (with_reducible first | exact HB.out | apply below_alloc | apply pw_below_drewN | apply below_drew1) | exact HB.out)⟩
       ·replace c59 := Bool.eq_false_iff.mpr c59
        subst c59
        have H1 : (some false) = some r := by rw [if_neg (show ¬ (false = true) by decide)] at H; exact H
        clear H
        have H := H1
        clear H1
        obtain rfl := Option.some.inj H
        obtain ⟨Ao62, co62, eo62⟩ := Kd.R_slice HO_11.out
        subst eo62
        go_wp2
        go_ret
        exact ⟨by first | rfl | (simp [errW_none, errW_some] <;> rfl) | (simp [*, errW_none, errW_some] <;> rfl), by repeat (first | (with_reducible first | exact HB.out | apply below_alloc | apply pw_below_drewN | apply below_drew1) | exact HB.out)⟩

/-- THE ONE PURE STATEMENT of collatorlaw06_HunksContext: yours. -/
def collatorlaw06_HunksContext.Pure : Prop := ∀ (l0 : List Int) (a1 : Int) (a2 : Int), l0.length ≤ maxLen → l0.length * 8 ≤ 140737488351232 → (∀ x ∈ l0, (Lit.int .i64 x).wf = true) → (Lit.int .i64 a1).wf = true → (Lit.int .i64 a2).wf = true → ∃ k, collatorlaw06_HunksContext.f k l0 a1 a2 = some true
theorem collatorlaw06_HunksContext.walk (P : collatorlaw06_HunksContext.Pure) (a0 : Option Addr) (len0 cap0 : Nat) (z0 : List Int) (a1 : Int) (a2 : Int) (w : World) (w0 : (a0 = none ∧ len0 = 0 ∧ cap0 = 0 ∧ z0 = []) ∨ ∃ x, a0 = some x ∧ len0 ≤ cap0 ∧ cap0 ≤ maxLen ∧ z0.length = cap0 ∧ (∀ i, i < z0.length → w.cell? (x.add i) = some (.int .i64 (z0.getD i 0))) ∧ ∀ n ∈ z0, (Lit.int .i64 n).wf = true) (y0 : len0 * 8 ≤ 140737488351232) (w1 : (Lit.int .i64 a1).wf = true) (w2 : (Lit.int .i64 a2).wf = true) :
  Calls Try.prog 6 #[.slice a0 len0 cap0, .int .i64 a1, .int .i64 a2] w fun e w' => e = .returned (.bool true) ∧ Below w.heap.size w w' := by
 obtain ⟨l0, rfl, hr0, hm0, hw0, hc0⟩ := ReadsInt.ofRowC w0
 obtain ⟨k, h⟩ := P l0 a1 a2 hm0 y0 hw0 w1 w2
 refine (collatorlaw06_HunksContext.calls k _ _ l0 a1 a2 true w (Kd.C_of_reads (d := (0 : Int)) (h1 := fun _ => rfl) hr0) hc0 h).mono ?_
 rintro e w' ⟨rfl, hd⟩
 exact ⟨rfl, hd⟩

end Go.Proofs.Ytgobidmfbjmpkaa.P
