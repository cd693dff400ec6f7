/- Laid for this claim by hp.py, this session's program round the kit's print: functions of the program as plain Lean functions, the proofs that the code comes to their answers, and the rows of the laws. Not trusted: Lean checks it. -/
import Derived.Test.YtgobidmfbjmpkaaPx0
import Derived.Test.YtgobidmfbjmpkaaHShr
import Derived.Test.YtgobidmfbjmpkaaPxf21
import Derived.Test.YtgobidmfbjmpkaaPxf22
import Derived.Test.YtgobidmfbjmpkaaPxf24
import Derived.Test.YtgobidmfbjmpkaaPxf11
import Derived.Test.YtgobidmfbjmpkaaEAwake6
import Derived.Test.YtgobidmfbjmpkaaEInvert
import Derived.Test.YtgobidmfbjmpkaaGDf
import Derived.Test.YtgobidmfbjmpkaaGMake
namespace Go.Proofs.Ytgobidmfbjmpkaa.P
open Go.RowKit Go.Proofs.YtgobidmfbjmpkaaW.PrintWords Go.Proofs.YtgobidmfbjmpkaaW.PrintLast Go.Proofs.YtgobidmfbjmpkaaW.PrintMore
attribute [local go_sem] max2_int min2_int max_two min_two max_three min_three max_four min_four   -- for this text's walks alone
set_option linter.unusedVariables false
set_option linter.unusedSimpArgs false

/-! ### collatorlaw06_HunksMakes: function 8 -/
mutual
def collatorlaw06_HunksMakes.j0 : Nat → Bool → List ByteArray → List ByteArray → List (S28) → List ByteArray → List (S28) → List ByteArray → Bool → Option (Bool)
 | 0, _, _, _, _, _, _, _, _ => none
 | k + 1, x7, x8, x9, x11, x13, x17, x19, x86 => if x86 = true then (some false) else (collatorlaw06_HunksMakes.l0 k x7 x8 x9 x11 x13 x17 x19 0)
def collatorlaw06_HunksMakes.l0 : Nat → Bool → List ByteArray → List ByteArray → List (S28) → List ByteArray → List (S28) → List ByteArray → Int → Option (Bool)
 | 0, _, _, _, _, _, _, _, _ => none
 | k + 1, x7, x8, x9, x11, x13, x17, x19, x21 => if x21 < (x11.length : Int) then (if 0 ≤ x21 then (if x21 < (x17.length : Int) then (if ((rd_T28 x11 x21).f0) = ((rd_T28 x17 x21).f1) then (if ((rd_T28 x11 x21).f1) = ((rd_T28 x17 x21).f0) then (collatorlaw06_HunksMakes.l0 k x7 x8 x9 x11 x13 x17 x19 (wrap64 (x21 + 1))) else (some false)) else (some false)) else (none)) else (none)) else (if x7 = true then ((collatorref01_Texts.f k x13 x9).bind fun t678 => (if t678 = true then ((collatorref01_Texts.f k x19 x8).bind fun t679 => (some t679)) else (some false))) else (some false))
end
def collatorlaw06_HunksMakes.f (k : Nat) (l0 : List Int) (l1 : List Int) (a2 : Int) : Option (Bool) := (collatorlaw06_awake.f).bind fun t643 => ((collatorlaw03_Lines.f k l0 40).bind fun t644 => ((collatorlaw03_Lines.f k l1 40).bind fun t647 => ((myers_Diff.f t644 t647).bind fun t650 => ((collatorlaw06_pick.f a2 9).bind fun t653 => ((hunks_Make.f k t650 t653).bind fun bt654 => ((hunks_Apply.f k bt654.1 t644).bind fun bt658 => ((script_Invert.f k t650 t644).bind fun bt662 => ((hunks_Make.f k bt662.1 t653).bind fun bt666 => ((hunks_Apply.f k bt666.1 t647).bind fun bt670 => (if bt654.2 = 0 then (if bt658.2 = 0 then (if bt662.2 = 0 then (if bt666.2 = 0 then (if bt670.2 = 0 then (collatorlaw06_HunksMakes.j0 k t643 t644 t647 bt654.1 bt658.1 bt666.1 bt670.1 ((bt654.1.length : Int) != (bt666.1.length : Int))) else (collatorlaw06_HunksMakes.j0 k t643 t644 t647 bt654.1 bt658.1 bt666.1 bt670.1 true)) else (collatorlaw06_HunksMakes.j0 k t643 t644 t647 bt654.1 bt658.1 bt666.1 bt670.1 true)) else (collatorlaw06_HunksMakes.j0 k t643 t644 t647 bt654.1 bt658.1 bt666.1 bt670.1 true)) else (collatorlaw06_HunksMakes.j0 k t643 t644 t647 bt654.1 bt658.1 bt666.1 bt670.1 true)) else (collatorlaw06_HunksMakes.j0 k t643 t644 t647 bt654.1 bt658.1 bt666.1 bt670.1 true)))))))))))
theorem collatorlaw06_HunksMakes.mono_l : ∀ k, (∀ y0 y1 y2 y3 y4 y5 y6 y7, LeO (collatorlaw06_HunksMakes.j0 k y0 y1 y2 y3 y4 y5 y6 y7) (collatorlaw06_HunksMakes.j0 (k + 1) y0 y1 y2 y3 y4 y5 y6 y7)) ∧ (∀ y0 y1 y2 y3 y4 y5 y6 y7, LeO (collatorlaw06_HunksMakes.l0 k y0 y1 y2 y3 y4 y5 y6 y7) (collatorlaw06_HunksMakes.l0 (k + 1) y0 y1 y2 y3 y4 y5 y6 y7))
 | 0 => ⟨fun _ _ _ _ _ _ _ _ r h => by simp [collatorlaw06_HunksMakes.j0] at h, fun _ _ _ _ _ _ _ _ r h => by simp [collatorlaw06_HunksMakes.l0] at h⟩
 | k + 1 => by
  obtain ⟨ih0, ih1⟩ := collatorlaw06_HunksMakes.mono_l k
  refine ⟨?_, ?_⟩
  ·intro y0 y1 y2 y3 y4 y5 y6 y7
   unfold collatorlaw06_HunksMakes.j0
   repeat' first
   | (with_reducible exact ih0 _ _ _ _ _ _ _ _)
   | (with_reducible exact ih1 _ _ _ _ _ _ _ _)
   | (with_reducible exact collatorlaw03_Lines.mono _ _ _)
   | (with_reducible exact collatorref01_Texts.mono _ _ _)
   | (with_reducible exact hunks_Apply.mono _ _ _)
   | (with_reducible exact hunks_Make.mono _ _ _)
   | (with_reducible exact script_Invert.mono _ _ _)
   | (with_reducible exact LeO.refl _)
   | (with_reducible exact LeO.none _)
   | (with_reducible refine LeO.ite ?_ ?_)
   | (with_reducible refine LeO.bind ?_ (fun _ => ?_))
   | exact ih0 _ _ _ _ _ _ _ _
   | exact ih1 _ _ _ _ _ _ _ _
   | exact collatorlaw03_Lines.mono _ _ _
   | exact collatorref01_Texts.mono _ _ _
   | exact hunks_Apply.mono _ _ _
   | exact hunks_Make.mono _ _ _
   | exact script_Invert.mono _ _ _
   | exact LeO.none _
   | refine LeO.ite ?_ ?_
   | refine LeO.bind ?_ (fun _ => ?_)
  ·intro y0 y1 y2 y3 y4 y5 y6 y7
   unfold collatorlaw06_HunksMakes.l0
   repeat' first
   | (with_reducible exact ih0 _ _ _ _ _ _ _ _)
   | (with_reducible exact ih1 _ _ _ _ _ _ _ _)
   | (with_reducible exact collatorlaw03_Lines.mono _ _ _)
   | (with_reducible exact collatorref01_Texts.mono _ _ _)
   | (with_reducible exact hunks_Apply.mono _ _ _)
   | (with_reducible exact hunks_Make.mono _ _ _)
   | (with_reducible exact script_Invert.mono _ _ _)
   | (with_reducible exact LeO.refl _)
   | (with_reducible exact LeO.none _)
   | (with_reducible refine LeO.ite ?_ ?_)
   | (with_reducible refine LeO.bind ?_ (fun _ => ?_))
   | exact ih0 _ _ _ _ _ _ _ _
   | exact ih1 _ _ _ _ _ _ _ _
   | exact collatorlaw03_Lines.mono _ _ _
   | exact collatorref01_Texts.mono _ _ _
   | exact hunks_Apply.mono _ _ _
   | exact hunks_Make.mono _ _ _
   | exact script_Invert.mono _ _ _
   | exact LeO.none _
   | refine LeO.ite ?_ ?_
   | refine LeO.bind ?_ (fun _ => ?_)
theorem collatorlaw06_HunksMakes.mono : ∀ a0 a1 a2 k, LeO (collatorlaw06_HunksMakes.f k a0 a1 a2) (collatorlaw06_HunksMakes.f (k + 1) a0 a1 a2) := by
 intro a0 a1 a2 k
 obtain ⟨ih0, ih1⟩ := collatorlaw06_HunksMakes.mono_l k
 unfold collatorlaw06_HunksMakes.f
 repeat' first
   | (with_reducible exact ih0 _ _ _ _ _ _ _ _)
   | (with_reducible exact ih1 _ _ _ _ _ _ _ _)
   | (with_reducible exact collatorlaw03_Lines.mono _ _ _)
   | (with_reducible exact collatorref01_Texts.mono _ _ _)
   | (with_reducible exact hunks_Apply.mono _ _ _)
   | (with_reducible exact hunks_Make.mono _ _ _)
   | (with_reducible exact script_Invert.mono _ _ _)
   | (with_reducible exact LeO.refl _)
   | (with_reducible exact LeO.none _)
   | (with_reducible refine LeO.ite ?_ ?_)
   | (with_reducible refine LeO.bind ?_ (fun _ => ?_))
   | exact ih0 _ _ _ _ _ _ _ _
   | exact ih1 _ _ _ _ _ _ _ _
   | exact collatorlaw03_Lines.mono _ _ _
   | exact collatorref01_Texts.mono _ _ _
   | exact hunks_Apply.mono _ _ _
   | exact hunks_Make.mono _ _ _
   | exact script_Invert.mono _ _ _
   | exact LeO.none _
   | refine LeO.ite ?_ ?_
   | refine LeO.bind ?_ (fun _ => ?_)
set_option maxHeartbeats 8000000 in
set_option maxRecDepth 100000 in
theorem collatorlaw06_HunksMakes.calls (k : Nat) (A0 : Option Addr) (c0 : Nat) (l0 : List Int) (A1 : Option Addr) (c1 : Nat) (l1 : List Int) (a2 : Int) (r : Bool) (w : World) (hr0 : Kd.C (Kd.int .i64) w A0 l0.length l0) (hc0 : l0.length ≤ c0) (hr1 : Kd.C (Kd.int .i64) w A1 l1.length l1) (hc1 : l1.length ≤ c1) (h : collatorlaw06_HunksMakes.f k l0 l1 a2 = some r) :
  Calls Try.prog 8 #[.slice A0 l0.length c0, .slice A1 l1.length c1, .int .i64 a2] w fun e w' => e = .returned (.bool r) ∧ Below w.heap.size w w' := by
 have HR0 := Aside0.mk hr0
 have HC0 := Aside0.mk hc0
 clear hr0 hc0
 have HR1 := Aside0.mk hr1
 have HC1 := Aside0.mk hc1
 clear hr1 hc1
 have HB := Aside0.mk (Below.refl w.heap.size w)
 have H : ((collatorlaw06_awake.f).bind fun t643 => ((collatorlaw03_Lines.f k l0 40).bind fun t644 => ((collatorlaw03_Lines.f k l1 40).bind fun t647 => ((myers_Diff.f t644 t647).bind fun t650 => ((collatorlaw06_pick.f a2 9).bind fun t653 => ((hunks_Make.f k t650 t653).bind fun bt654 => ((hunks_Apply.f k bt654.1 t644).bind fun bt658 => ((script_Invert.f k t650 t644).bind fun bt662 => ((hunks_Make.f k bt662.1 t653).bind fun bt666 => ((hunks_Apply.f k bt666.1 t647).bind fun bt670 => (if bt654.2 = 0 then (if bt658.2 = 0 then (if bt662.2 = 0 then (if bt666.2 = 0 then (if bt670.2 = 0 then (collatorlaw06_HunksMakes.j0 k t643 t644 t647 bt654.1 bt658.1 bt666.1 bt670.1 ((bt654.1.length : Int) != (bt666.1.length : Int))) else (collatorlaw06_HunksMakes.j0 k t643 t644 t647 bt654.1 bt658.1 bt666.1 bt670.1 true)) else (collatorlaw06_HunksMakes.j0 k t643 t644 t647 bt654.1 bt658.1 bt666.1 bt670.1 true)) else (collatorlaw06_HunksMakes.j0 k t643 t644 t647 bt654.1 bt658.1 bt666.1 bt670.1 true)) else (collatorlaw06_HunksMakes.j0 k t643 t644 t647 bt654.1 bt658.1 bt666.1 bt670.1 true)) else (collatorlaw06_HunksMakes.j0 k t643 t644 t647 bt654.1 bt658.1 bt666.1 bt670.1 true)))))))))))) = some r := h
 clear h
 replace H := Option.bind_eq_some_iff.mp H
 obtain ⟨t643, A40, H⟩ := H
 replace H : ((collatorlaw03_Lines.f k l0 40).bind fun t644 => ((collatorlaw03_Lines.f k l1 40).bind fun t647 => ((myers_Diff.f t644 t647).bind fun t650 => ((collatorlaw06_pick.f a2 9).bind fun t653 => ((hunks_Make.f k t650 t653).bind fun bt654 => ((hunks_Apply.f k bt654.1 t644).bind fun bt658 => ((script_Invert.f k t650 t644).bind fun bt662 => ((hunks_Make.f k bt662.1 t653).bind fun bt666 => ((hunks_Apply.f k bt666.1 t647).bind fun bt670 => (if bt654.2 = 0 then (if bt658.2 = 0 then (if bt662.2 = 0 then (if bt666.2 = 0 then (if bt670.2 = 0 then (collatorlaw06_HunksMakes.j0 k t643 t644 t647 bt654.1 bt658.1 bt666.1 bt670.1 ((bt654.1.length : Int) != (bt666.1.length : Int))) else (collatorlaw06_HunksMakes.j0 k t643 t644 t647 bt654.1 bt658.1 bt666.1 bt670.1 true)) else (collatorlaw06_HunksMakes.j0 k t643 t644 t647 bt654.1 bt658.1 bt666.1 bt670.1 true)) else (collatorlaw06_HunksMakes.j0 k t643 t644 t647 bt654.1 bt658.1 bt666.1 bt670.1 true)) else (collatorlaw06_HunksMakes.j0 k t643 t644 t647 bt654.1 bt658.1 bt666.1 bt670.1 true)) else (collatorlaw06_HunksMakes.j0 k t643 t644 t647 bt654.1 bt658.1 bt666.1 bt670.1 true))))))))))) = some r := H
 have A4 := Aside0.mk A40
 clear A40
 replace H := Option.bind_eq_some_iff.mp H
 obtain ⟨t644, A50, H⟩ := H
 replace H : ((collatorlaw03_Lines.f k l1 40).bind fun t647 => ((myers_Diff.f t644 t647).bind fun t650 => ((collatorlaw06_pick.f a2 9).bind fun t653 => ((hunks_Make.f k t650 t653).bind fun bt654 => ((hunks_Apply.f k bt654.1 t644).bind fun bt658 => ((script_Invert.f k t650 t644).bind fun bt662 => ((hunks_Make.f k bt662.1 t653).bind fun bt666 => ((hunks_Apply.f k bt666.1 t647).bind fun bt670 => (if bt654.2 = 0 then (if bt658.2 = 0 then (if bt662.2 = 0 then (if bt666.2 = 0 then (if bt670.2 = 0 then (collatorlaw06_HunksMakes.j0 k t643 t644 t647 bt654.1 bt658.1 bt666.1 bt670.1 ((bt654.1.length : Int) != (bt666.1.length : Int))) else (collatorlaw06_HunksMakes.j0 k t643 t644 t647 bt654.1 bt658.1 bt666.1 bt670.1 true)) else (collatorlaw06_HunksMakes.j0 k t643 t644 t647 bt654.1 bt658.1 bt666.1 bt670.1 true)) else (collatorlaw06_HunksMakes.j0 k t643 t644 t647 bt654.1 bt658.1 bt666.1 bt670.1 true)) else (collatorlaw06_HunksMakes.j0 k t643 t644 t647 bt654.1 bt658.1 bt666.1 bt670.1 true)) else (collatorlaw06_HunksMakes.j0 k t643 t644 t647 bt654.1 bt658.1 bt666.1 bt670.1 true)))))))))) = some r := H
 have A5 := Aside0.mk A50
 clear A50
 replace H := Option.bind_eq_some_iff.mp H
 obtain ⟨t647, A60, H⟩ := H
 replace H : ((myers_Diff.f t644 t647).bind fun t650 => ((collatorlaw06_pick.f a2 9).bind fun t653 => ((hunks_Make.f k t650 t653).bind fun bt654 => ((hunks_Apply.f k bt654.1 t644).bind fun bt658 => ((script_Invert.f k t650 t644).bind fun bt662 => ((hunks_Make.f k bt662.1 t653).bind fun bt666 => ((hunks_Apply.f k bt666.1 t647).bind fun bt670 => (if bt654.2 = 0 then (if bt658.2 = 0 then (if bt662.2 = 0 then (if bt666.2 = 0 then (if bt670.2 = 0 then (collatorlaw06_HunksMakes.j0 k t643 t644 t647 bt654.1 bt658.1 bt666.1 bt670.1 ((bt654.1.length : Int) != (bt666.1.length : Int))) else (collatorlaw06_HunksMakes.j0 k t643 t644 t647 bt654.1 bt658.1 bt666.1 bt670.1 true)) else (collatorlaw06_HunksMakes.j0 k t643 t644 t647 bt654.1 bt658.1 bt666.1 bt670.1 true)) else (collatorlaw06_HunksMakes.j0 k t643 t644 t647 bt654.1 bt658.1 bt666.1 bt670.1 true)) else (collatorlaw06_HunksMakes.j0 k t643 t644 t647 bt654.1 bt658.1 bt666.1 bt670.1 true)) else (collatorlaw06_HunksMakes.j0 k t643 t644 t647 bt654.1 bt658.1 bt666.1 bt670.1 true))))))))) = some r := H
 have A6 := Aside0.mk A60
 clear A60
 replace H := Option.bind_eq_some_iff.mp H
 obtain ⟨t650, A70, H⟩ := H
 replace H : ((collatorlaw06_pick.f a2 9).bind fun t653 => ((hunks_Make.f k t650 t653).bind fun bt654 => ((hunks_Apply.f k bt654.1 t644).bind fun bt658 => ((script_Invert.f k t650 t644).bind fun bt662 => ((hunks_Make.f k bt662.1 t653).bind fun bt666 => ((hunks_Apply.f k bt666.1 t647).bind fun bt670 => (if bt654.2 = 0 then (if bt658.2 = 0 then (if bt662.2 = 0 then (if bt666.2 = 0 then (if bt670.2 = 0 then (collatorlaw06_HunksMakes.j0 k t643 t644 t647 bt654.1 bt658.1 bt666.1 bt670.1 ((bt654.1.length : Int) != (bt666.1.length : Int))) else (collatorlaw06_HunksMakes.j0 k t643 t644 t647 bt654.1 bt658.1 bt666.1 bt670.1 true)) else (collatorlaw06_HunksMakes.j0 k t643 t644 t647 bt654.1 bt658.1 bt666.1 bt670.1 true)) else (collatorlaw06_HunksMakes.j0 k t643 t644 t647 bt654.1 bt658.1 bt666.1 bt670.1 true)) else (collatorlaw06_HunksMakes.j0 k t643 t644 t647 bt654.1 bt658.1 bt666.1 bt670.1 true)) else (collatorlaw06_HunksMakes.j0 k t643 t644 t647 bt654.1 bt658.1 bt666.1 bt670.1 true)))))))) = some r := H
 have A7 := Aside0.mk A70
 clear A70
 replace H := Option.bind_eq_some_iff.mp H
 obtain ⟨t653, A80, H⟩ := H
 replace H : ((hunks_Make.f k t650 t653).bind fun bt654 => ((hunks_Apply.f k bt654.1 t644).bind fun bt658 => ((script_Invert.f k t650 t644).bind fun bt662 => ((hunks_Make.f k bt662.1 t653).bind fun bt666 => ((hunks_Apply.f k bt666.1 t647).bind fun bt670 => (if bt654.2 = 0 then (if bt658.2 = 0 then (if bt662.2 = 0 then (if bt666.2 = 0 then (if bt670.2 = 0 then (collatorlaw06_HunksMakes.j0 k t643 t644 t647 bt654.1 bt658.1 bt666.1 bt670.1 ((bt654.1.length : Int) != (bt666.1.length : Int))) else (collatorlaw06_HunksMakes.j0 k t643 t644 t647 bt654.1 bt658.1 bt666.1 bt670.1 true)) else (collatorlaw06_HunksMakes.j0 k t643 t644 t647 bt654.1 bt658.1 bt666.1 bt670.1 true)) else (collatorlaw06_HunksMakes.j0 k t643 t644 t647 bt654.1 bt658.1 bt666.1 bt670.1 true)) else (collatorlaw06_HunksMakes.j0 k t643 t644 t647 bt654.1 bt658.1 bt666.1 bt670.1 true)) else (collatorlaw06_HunksMakes.j0 k t643 t644 t647 bt654.1 bt658.1 bt666.1 bt670.1 true))))))) = some r := H
 have A8 := Aside0.mk A80
 clear A80
 replace H := Option.bind_eq_some_iff.mp H
 obtain ⟨⟨t654, t655⟩, A90, H⟩ := H
 replace H : ((hunks_Apply.f k t654 t644).bind fun bt658 => ((script_Invert.f k t650 t644).bind fun bt662 => ((hunks_Make.f k bt662.1 t653).bind fun bt666 => ((hunks_Apply.f k bt666.1 t647).bind fun bt670 => (if t655 = 0 then (if bt658.2 = 0 then (if bt662.2 = 0 then (if bt666.2 = 0 then (if bt670.2 = 0 then (collatorlaw06_HunksMakes.j0 k t643 t644 t647 t654 bt658.1 bt666.1 bt670.1 ((t654.length : Int) != (bt666.1.length : Int))) else (collatorlaw06_HunksMakes.j0 k t643 t644 t647 t654 bt658.1 bt666.1 bt670.1 true)) else (collatorlaw06_HunksMakes.j0 k t643 t644 t647 t654 bt658.1 bt666.1 bt670.1 true)) else (collatorlaw06_HunksMakes.j0 k t643 t644 t647 t654 bt658.1 bt666.1 bt670.1 true)) else (collatorlaw06_HunksMakes.j0 k t643 t644 t647 t654 bt658.1 bt666.1 bt670.1 true)) else (collatorlaw06_HunksMakes.j0 k t643 t644 t647 t654 bt658.1 bt666.1 bt670.1 true)))))) = some r := H
 have A9 := Aside0.mk A90
 clear A90
 replace H := Option.bind_eq_some_iff.mp H
 obtain ⟨⟨t658, t659⟩, A100, H⟩ := H
 replace H : ((script_Invert.f k t650 t644).bind fun bt662 => ((hunks_Make.f k bt662.1 t653).bind fun bt666 => ((hunks_Apply.f k bt666.1 t647).bind fun bt670 => (if t655 = 0 then (if t659 = 0 then (if bt662.2 = 0 then (if bt666.2 = 0 then (if bt670.2 = 0 then (collatorlaw06_HunksMakes.j0 k t643 t644 t647 t654 t658 bt666.1 bt670.1 ((t654.length : Int) != (bt666.1.length : Int))) else (collatorlaw06_HunksMakes.j0 k t643 t644 t647 t654 t658 bt666.1 bt670.1 true)) else (collatorlaw06_HunksMakes.j0 k t643 t644 t647 t654 t658 bt666.1 bt670.1 true)) else (collatorlaw06_HunksMakes.j0 k t643 t644 t647 t654 t658 bt666.1 bt670.1 true)) else (collatorlaw06_HunksMakes.j0 k t643 t644 t647 t654 t658 bt666.1 bt670.1 true)) else (collatorlaw06_HunksMakes.j0 k t643 t644 t647 t654 t658 bt666.1 bt670.1 true))))) = some r := H
 have A10 := Aside0.mk A100
 clear A100
 replace H := Option.bind_eq_some_iff.mp H
 obtain ⟨⟨t662, t663⟩, A110, H⟩ := H
 replace H : ((hunks_Make.f k t662 t653).bind fun bt666 => ((hunks_Apply.f k bt666.1 t647).bind fun bt670 => (if t655 = 0 then (if t659 = 0 then (if t663 = 0 then (if bt666.2 = 0 then (if bt670.2 = 0 then (collatorlaw06_HunksMakes.j0 k t643 t644 t647 t654 t658 bt666.1 bt670.1 ((t654.length : Int) != (bt666.1.length : Int))) else (collatorlaw06_HunksMakes.j0 k t643 t644 t647 t654 t658 bt666.1 bt670.1 true)) else (collatorlaw06_HunksMakes.j0 k t643 t644 t647 t654 t658 bt666.1 bt670.1 true)) else (collatorlaw06_HunksMakes.j0 k t643 t644 t647 t654 t658 bt666.1 bt670.1 true)) else (collatorlaw06_HunksMakes.j0 k t643 t644 t647 t654 t658 bt666.1 bt670.1 true)) else (collatorlaw06_HunksMakes.j0 k t643 t644 t647 t654 t658 bt666.1 bt670.1 true)))) = some r := H
 have A11 := Aside0.mk A110
 clear A110
 replace H := Option.bind_eq_some_iff.mp H
 obtain ⟨⟨t666, t667⟩, A120, H⟩ := H
 replace H : ((hunks_Apply.f k t666 t647).bind fun bt670 => (if t655 = 0 then (if t659 = 0 then (if t663 = 0 then (if t667 = 0 then (if bt670.2 = 0 then (collatorlaw06_HunksMakes.j0 k t643 t644 t647 t654 t658 t666 bt670.1 ((t654.length : Int) != (t666.length : Int))) else (collatorlaw06_HunksMakes.j0 k t643 t644 t647 t654 t658 t666 bt670.1 true)) else (collatorlaw06_HunksMakes.j0 k t643 t644 t647 t654 t658 t666 bt670.1 true)) else (collatorlaw06_HunksMakes.j0 k t643 t644 t647 t654 t658 t666 bt670.1 true)) else (collatorlaw06_HunksMakes.j0 k t643 t644 t647 t654 t658 t666 bt670.1 true)) else (collatorlaw06_HunksMakes.j0 k t643 t644 t647 t654 t658 t666 bt670.1 true))) = some r := H
 have A12 := Aside0.mk A120
 clear A120
 replace H := Option.bind_eq_some_iff.mp H
 obtain ⟨⟨t670, t671⟩, A130, H⟩ := H
 replace H : (if t655 = 0 then (if t659 = 0 then (if t663 = 0 then (if t667 = 0 then (if t671 = 0 then (collatorlaw06_HunksMakes.j0 k t643 t644 t647 t654 t658 t666 t670 ((t654.length : Int) != (t666.length : Int))) else (collatorlaw06_HunksMakes.j0 k t643 t644 t647 t654 t658 t666 t670 true)) else (collatorlaw06_HunksMakes.j0 k t643 t644 t647 t654 t658 t666 t670 true)) else (collatorlaw06_HunksMakes.j0 k t643 t644 t647 t654 t658 t666 t670 true)) else (collatorlaw06_HunksMakes.j0 k t643 t644 t647 t654 t658 t666 t670 true)) else (collatorlaw06_HunksMakes.j0 k t643 t644 t647 t654 t658 t666 t670 true)) = some r := H
 have A13 := Aside0.mk A130
 clear A130
 have HC14 := Aside0.mk H
 clear H
 go_enter Try.func8, Try.ntmps8
 go_upto_region 10 with (first | (go_at_call 9; (with_reducible refine (collatorlaw06_awake.calls  t643 _ A4.out).mono ?_); rintro e w15 ⟨rfl, hb⟩; have n0_ := Aside0.mk (below_step hb_ hb); clear HB; have HB := n0_; clear n0_; (try clear hb); (try clear hb2); (try clear hk); (try clear hi)) | (go_at_call 21; (with_reducible refine (collatorlaw03_Lines.calls k _ _ l0 40 t644 _ ?side1 ?side2 A5.out).mono ?_); (case side1 => repeat (first | exact (Kd.C_below HR0.out HB.out) | (with_reducible refine Kd.C_alloc ?_ _) | (with_reducible refine Kd.C_drewN ?_ _) | (with_reducible refine Kd.C_drew ?_))); (case side2 => exact HC0.out); rintro e w16 ⟨v645, rfl, ho0, hb⟩; have n0_ := Aside0.mk (Kd.R_lower ho0 (below_size hb_)); have n1_ := Aside0.mk (below_step hb_ hb); clear HB; have HO646 := n0_; have HB := n1_; clear n0_ n1_; (try clear hb); (try clear hb2); (try clear hk); (try clear hi); (try clear ho0)) | (go_at_call 21; (with_reducible refine (collatorlaw03_Lines.calls k _ _ l1 40 t647 _ ?side1 ?side2 A6.out).mono ?_); (case side1 => repeat (first | exact (Kd.C_below HR1.out HB.out) | (with_reducible refine Kd.C_alloc ?_ _) | (with_reducible refine Kd.C_drewN ?_ _) | (with_reducible refine Kd.C_drew ?_))); (case side2 => exact HC1.out); rintro e w17 ⟨v648, rfl, ho0, hb⟩; have n0_ := Aside0.mk (Kd.R_elder' (by (with_reducible repeat (first | apply Kd.R_alloc | apply Kd.R_drewN | apply Kd.R_drew)); exact HO646.out) (Kd.R_base ho0) hb); have n1_ := Aside0.mk (Kd.R_lower (Kd.R_new' ho0 (Kd.R_lt (by (with_reducible repeat (first | apply Kd.R_alloc | apply Kd.R_drewN | apply Kd.R_drew)); exact HO646.out))) (below_size hb_)); have n2_ := Aside0.mk (below_step hb_ hb); clear HO646; clear HB; have HO646 := n0_; have HO649 := n1_; have HB := n2_; clear n0_ n1_ n2_; (try clear hb); (try clear hb2); (try clear hk); (try clear hi); (try clear ho0); (try (obtain ⟨Ao18, co18, eo18⟩ := Kd.R_slice HO646.out; subst eo18)); (try (obtain ⟨Ao19, co19, eo19⟩ := Kd.R_slice HO649.out; subst eo19))) | (go_at_call 27; (with_reducible refine (myers_Diff.calls _ _ t644 _ _ t647 t650 _ ?side1 ?side2 ?side3 ?side4 A7.out).mono ?_); (case side1 => repeat (first | exact (Kd.R_reads' HO646.out).2.2 | (with_reducible refine Kd.C_alloc ?_ _) | (with_reducible refine Kd.C_drewN ?_ _) | (with_reducible refine Kd.C_drew ?_))); (case side2 => exact (Kd.R_reads' HO646.out).2.1); (case side3 => repeat (first | exact (Kd.R_reads' HO649.out).2.2 | (with_reducible refine Kd.C_alloc ?_ _) | (with_reducible refine Kd.C_drewN ?_ _) | (with_reducible refine Kd.C_drew ?_))); (case side4 => exact (Kd.R_reads' HO649.out).2.1); rintro e w20 ⟨v651, rfl, ho0, hb⟩; have n0_ := Aside0.mk (Kd.R_below (by (with_reducible repeat (first | apply Kd.R_alloc | apply Kd.R_drewN | apply Kd.R_drew)); exact HO646.out) hb); have n1_ := Aside0.mk (Kd.R_below (by (with_reducible repeat (first | apply Kd.R_alloc | apply Kd.R_drewN | apply Kd.R_drew)); exact HO649.out) hb); have n2_ := Aside0.mk (Kd.S_lower (Kd.S_new' (Kd.S_new' ho0 (Kd.R_lt (by (with_reducible repeat (first | apply Kd.R_alloc | apply Kd.R_drewN | apply Kd.R_drew)); exact HO646.out))) (Kd.R_lt (by (with_reducible repeat (first | apply Kd.R_alloc | apply Kd.R_drewN | apply Kd.R_drew)); exact HO649.out))) (below_size hb_)); have n3_ := Aside0.mk (below_step hb_ hb); clear HO646; clear HO649; clear HB; have HO646 := n0_; have HO649 := n1_; have HO652 := n2_; have HB := n3_; clear n0_ n1_ n2_ n3_; (try clear hb); (try clear hb2); (try clear hk); (try clear hi); (try clear ho0)) | (go_at_call 11; (with_reducible refine (collatorlaw06_pick.calls a2 9 t653 _ A8.out).mono ?_); rintro e w' ⟨rfl, ⟨nd, rfl⟩⟩; (try first | exact ⟨rfl, _, World.drewN_drewN _ _ _⟩ | exact ⟨rfl, _, Eq.trans (World.drewN_drewN _ _ _) (congrArg (World.drewN _) (Nat.add_assoc _ _ _))⟩); all_goals ((try (obtain ⟨Ao21, co21, eo21⟩ := Kd.S_slice HO652.out; subst eo21)))) | (go_at_call 12; (with_reducible refine (hunks_Make.calls k _ _ t650 t653 t654 t655 _ ?side1 ?side2 A9.out).mono ?_); (case side1 => repeat (first | exact (Kd.S_reads' HO652.out).2.2 | (with_reducible refine Kd.C_alloc ?_ _) | (with_reducible refine Kd.C_drewN ?_ _) | (with_reducible refine Kd.C_drew ?_))); (case side2 => exact (Kd.S_reads' HO652.out).2.1); rintro e w22 ⟨v656, rfl, ho0, hb⟩; have n0_ := Aside0.mk (Kd.R_below (by (with_reducible repeat (first | apply Kd.R_alloc | apply Kd.R_drewN | apply Kd.R_drew)); exact HO646.out) hb); have n1_ := Aside0.mk (Kd.R_below (by (with_reducible repeat (first | apply Kd.R_alloc | apply Kd.R_drewN | apply Kd.R_drew)); exact HO649.out) hb); have n2_ := Aside0.mk (Kd.S_below (by (with_reducible repeat (first | apply Kd.S_alloc | apply Kd.S_drewN | apply Kd.S_drew)); exact HO652.out) hb); have n3_ := Aside0.mk (Kd.R_lower (Kd.R_new' (Kd.R_new' (Kd.R_new' ho0 (Kd.R_lt (by (with_reducible repeat (first | apply Kd.R_alloc | apply Kd.R_drewN | apply Kd.R_drew)); exact HO646.out))) (Kd.R_lt (by (with_reducible repeat (first | apply Kd.R_alloc | apply Kd.R_drewN | apply Kd.R_drew)); exact HO649.out))) (Kd.S_lt (by (with_reducible repeat (first | apply Kd.S_alloc | apply Kd.S_drewN | apply Kd.S_drew)); exact HO652.out))) (below_size hb_)); have n4_ := Aside0.mk (below_step hb_ hb); clear HO646; clear HO649; clear HO652; clear HB; have HO646 := n0_; have HO649 := n1_; have HO652 := n2_; have HO657 := n3_; have HB := n4_; clear n0_ n1_ n2_ n3_ n4_; (try clear hb); (try clear hb2); (try clear hk); (try clear hi); (try clear ho0); (try (obtain ⟨Ao23, co23, eo23⟩ := Kd.R_slice HO657.out; subst eo23))) | (go_at_call 22; (with_reducible refine (hunks_Apply.calls k _ _ t654 _ _ t644 t658 t659 _ ?side1 ?side2 ?side3 ?side4 A10.out).mono ?_); (case side1 => repeat (first | exact (Kd.R_reads' HO657.out).2.2 | (with_reducible refine Kd.C_alloc ?_ _) | (with_reducible refine Kd.C_drewN ?_ _) | (with_reducible refine Kd.C_drew ?_))); (case side2 => exact (Kd.R_reads' HO657.out).2.1); (case side3 => repeat (first | exact (Kd.R_reads' HO646.out).2.2 | (with_reducible refine Kd.C_alloc ?_ _) | (with_reducible refine Kd.C_drewN ?_ _) | (with_reducible refine Kd.C_drew ?_))); (case side4 => exact (Kd.R_reads' HO646.out).2.1); rintro e w24 ⟨v660, rfl, ho0, hb⟩; have n0_ := Aside0.mk (Kd.R_elder' (by (with_reducible repeat (first | apply Kd.R_alloc | apply Kd.R_drewN | apply Kd.R_drew)); exact HO646.out) (Kd.R_base ho0) hb); have n1_ := Aside0.mk (Kd.R_elder' (by (with_reducible repeat (first | apply Kd.R_alloc | apply Kd.R_drewN | apply Kd.R_drew)); exact HO649.out) (Kd.R_base ho0) hb); have n2_ := Aside0.mk (Kd.S_elder' (by (with_reducible repeat (first | apply Kd.S_alloc | apply Kd.S_drewN | apply Kd.S_drew)); exact HO652.out) (Kd.R_base ho0) hb); have n3_ := Aside0.mk (Kd.R_elder' (by (with_reducible repeat (first | apply Kd.R_alloc | apply Kd.R_drewN | apply Kd.R_drew)); exact HO657.out) (Kd.R_base ho0) hb); have n4_ := Aside0.mk (Kd.R_lower (Kd.R_new' (Kd.R_new' ho0 (Kd.R_lt (by (with_reducible repeat (first | apply Kd.R_alloc | apply Kd.R_drewN | apply Kd.R_drew)); exact HO646.out))) (Kd.R_lt (by (with_reducible repeat (first | apply Kd.R_alloc | apply Kd.R_drewN | apply Kd.R_drew)); exact HO649.out))) (below_size hb_)); have n5_ := Aside0.mk (below_step hb_ hb); clear HO646; clear HO649; clear HO652; clear HO657; clear HB; have HO646 := n0_; have HO649 := n1_; have HO652 := n2_; have HO657 := n3_; have HO661 := n4_; have HB := n5_; clear n0_ n1_ n2_ n3_ n4_ n5_; (try clear hb); (try clear hb2); (try clear hk); (try clear hi); (try clear ho0)) | (go_at_call 28; (with_reducible refine (script_Invert.calls k _ _ t650 _ _ t644 t662 t663 _ ?side1 ?side2 ?side3 ?side4 A11.out).mono ?_); (case side1 => repeat (first | exact (Kd.S_reads' HO652.out).2.2 | (with_reducible refine Kd.C_alloc ?_ _) | (with_reducible refine Kd.C_drewN ?_ _) | (with_reducible refine Kd.C_drew ?_))); (case side2 => exact (Kd.S_reads' HO652.out).2.1); (case side3 => repeat (first | exact (Kd.R_reads' HO646.out).2.2 | (with_reducible refine Kd.C_alloc ?_ _) | (with_reducible refine Kd.C_drewN ?_ _) | (with_reducible refine Kd.C_drew ?_))); (case side4 => exact (Kd.R_reads' HO646.out).2.1); rintro e w25 ⟨v664, rfl, ho0, hb⟩; have n0_ := Aside0.mk (Kd.R_below (by (with_reducible repeat (first | apply Kd.R_alloc | apply Kd.R_drewN | apply Kd.R_drew)); exact HO646.out) hb); have n1_ := Aside0.mk (Kd.R_below (by (with_reducible repeat (first | apply Kd.R_alloc | apply Kd.R_drewN | apply Kd.R_drew)); exact HO649.out) hb); have n2_ := Aside0.mk (Kd.S_elder' (by (with_reducible repeat (first | apply Kd.S_alloc | apply Kd.S_drewN | apply Kd.S_drew)); exact HO652.out) (Kd.S_base ho0) hb); have n3_ := Aside0.mk (Kd.R_elder' (by (with_reducible repeat (first | apply Kd.R_alloc | apply Kd.R_drewN | apply Kd.R_drew)); exact HO657.out) (Kd.S_base ho0) hb); have n4_ := Aside0.mk (Kd.R_below (by (with_reducible repeat (first | apply Kd.R_alloc | apply Kd.R_drewN | apply Kd.R_drew)); exact HO661.out) hb); have n5_ := Aside0.mk (Kd.S_lower (Kd.S_new' (Kd.S_new' (Kd.S_new' (Kd.S_new' ho0 (Kd.R_lt (by (with_reducible repeat (first | apply Kd.R_alloc | apply Kd.R_drewN | apply Kd.R_drew)); exact HO646.out))) (Kd.R_lt (by (with_reducible repeat (first | apply Kd.R_alloc | apply Kd.R_drewN | apply Kd.R_drew)); exact HO649.out))) (Kd.S_lt (by (with_reducible repeat (first | apply Kd.S_alloc | apply Kd.S_drewN | apply Kd.S_drew)); exact HO652.out))) (Kd.R_lt (by (with_reducible repeat (first | apply Kd.R_alloc | apply Kd.R_drewN | apply Kd.R_drew)); exact HO661.out))) (below_size hb_)); have n6_ := Aside0.mk (below_step hb_ hb); clear HO646; clear HO649; clear HO652; clear HO657; clear HO661; clear HB; have HO646 := n0_; have HO649 := n1_; have HO652 := n2_; have HO657 := n3_; have HO661 := n4_; have HO665 := n5_; have HB := n6_; clear n0_ n1_ n2_ n3_ n4_ n5_ n6_; (try clear hb); (try clear hb2); (try clear hk); (try clear hi); (try clear ho0); (try (obtain ⟨Ao26, co26, eo26⟩ := Kd.S_slice HO665.out; subst eo26))) | (go_at_call 12; (with_reducible refine (hunks_Make.calls k _ _ t662 t653 t666 t667 _ ?side1 ?side2 A12.out).mono ?_); (case side1 => repeat (first | exact (Kd.S_reads' HO665.out).2.2 | (with_reducible refine Kd.C_alloc ?_ _) | (with_reducible refine Kd.C_drewN ?_ _) | (with_reducible refine Kd.C_drew ?_))); (case side2 => exact (Kd.S_reads' HO665.out).2.1); rintro e w27 ⟨v668, rfl, ho0, hb⟩; have n0_ := Aside0.mk (Kd.R_below (by (with_reducible repeat (first | apply Kd.R_alloc | apply Kd.R_drewN | apply Kd.R_drew)); exact HO646.out) hb); have n1_ := Aside0.mk (Kd.R_below (by (with_reducible repeat (first | apply Kd.R_alloc | apply Kd.R_drewN | apply Kd.R_drew)); exact HO649.out) hb); have n2_ := Aside0.mk (Kd.S_below (by (with_reducible repeat (first | apply Kd.S_alloc | apply Kd.S_drewN | apply Kd.S_drew)); exact HO652.out) hb); have n3_ := Aside0.mk (Kd.R_elder' (by (with_reducible repeat (first | apply Kd.R_alloc | apply Kd.R_drewN | apply Kd.R_drew)); exact HO657.out) (Kd.R_base ho0) hb); have n4_ := Aside0.mk (Kd.R_below (by (with_reducible repeat (first | apply Kd.R_alloc | apply Kd.R_drewN | apply Kd.R_drew)); exact HO661.out) hb); have n5_ := Aside0.mk (Kd.S_below (by (with_reducible repeat (first | apply Kd.S_alloc | apply Kd.S_drewN | apply Kd.S_drew)); exact HO665.out) hb); have n6_ := Aside0.mk (Kd.R_lower (Kd.R_new' (Kd.R_new' (Kd.R_new' (Kd.R_new' (Kd.R_new' (Kd.R_new' ho0 (Kd.R_lt (by (with_reducible repeat (first | apply Kd.R_alloc | apply Kd.R_drewN | apply Kd.R_drew)); exact HO646.out))) (Kd.R_lt (by (with_reducible repeat (first | apply Kd.R_alloc | apply Kd.R_drewN | apply Kd.R_drew)); exact HO649.out))) (Kd.S_lt (by (with_reducible repeat (first | apply Kd.S_alloc | apply Kd.S_drewN | apply Kd.S_drew)); exact HO652.out))) (Kd.R_lt (by (with_reducible repeat (first | apply Kd.R_alloc | apply Kd.R_drewN | apply Kd.R_drew)); exact HO657.out))) (Kd.R_lt (by (with_reducible repeat (first | apply Kd.R_alloc | apply Kd.R_drewN | apply Kd.R_drew)); exact HO661.out))) (Kd.S_lt (by (with_reducible repeat (first | apply Kd.S_alloc | apply Kd.S_drewN | apply Kd.S_drew)); exact HO665.out))) (below_size hb_)); have n7_ := Aside0.mk (below_step hb_ hb); clear HO646; clear HO649; clear HO652; clear HO657; clear HO661; clear HO665; clear HB; have HO646 := n0_; have HO649 := n1_; have HO652 := n2_; have HO657 := n3_; have HO661 := n4_; have HO665 := n5_; have HO669 := n6_; have HB := n7_; clear n0_ n1_ n2_ n3_ n4_ n5_ n6_ n7_; (try clear hb); (try clear hb2); (try clear hk); (try clear hi); (try clear ho0); (try (obtain ⟨Ao28, co28, eo28⟩ := Kd.R_slice HO669.out; subst eo28))) | (go_at_call 22; (with_reducible refine (hunks_Apply.calls k _ _ t666 _ _ t647 t670 t671 _ ?side1 ?side2 ?side3 ?side4 A13.out).mono ?_); (case side1 => repeat (first | exact (Kd.R_reads' HO669.out).2.2 | (with_reducible refine Kd.C_alloc ?_ _) | (with_reducible refine Kd.C_drewN ?_ _) | (with_reducible refine Kd.C_drew ?_))); (case side2 => exact (Kd.R_reads' HO669.out).2.1); (case side3 => repeat (first | exact (Kd.R_reads' HO649.out).2.2 | (with_reducible refine Kd.C_alloc ?_ _) | (with_reducible refine Kd.C_drewN ?_ _) | (with_reducible refine Kd.C_drew ?_))); (case side4 => exact (Kd.R_reads' HO649.out).2.1); rintro e w29 ⟨v672, rfl, ho0, hb⟩; have n0_ := Aside0.mk (Kd.R_elder' (by (with_reducible repeat (first | apply Kd.R_alloc | apply Kd.R_drewN | apply Kd.R_drew)); exact HO646.out) (Kd.R_base ho0) hb); have n1_ := Aside0.mk (Kd.R_elder' (by (with_reducible repeat (first | apply Kd.R_alloc | apply Kd.R_drewN | apply Kd.R_drew)); exact HO649.out) (Kd.R_base ho0) hb); have n2_ := Aside0.mk (Kd.S_elder' (by (with_reducible repeat (first | apply Kd.S_alloc | apply Kd.S_drewN | apply Kd.S_drew)); exact HO652.out) (Kd.R_base ho0) hb); have n3_ := Aside0.mk (Kd.R_elder' (by (with_reducible repeat (first | apply Kd.R_alloc | apply Kd.R_drewN | apply Kd.R_drew)); exact HO657.out) (Kd.R_base ho0) hb); have n4_ := Aside0.mk (Kd.R_elder' (by (with_reducible repeat (first | apply Kd.R_alloc | apply Kd.R_drewN | apply Kd.R_drew)); exact HO661.out) (Kd.R_base ho0) hb); have n5_ := Aside0.mk (Kd.S_elder' (by (with_reducible repeat (first | apply Kd.S_alloc | apply Kd.S_drewN | apply Kd.S_drew)); exact HO665.out) (Kd.R_base ho0) hb); have n6_ := Aside0.mk (Kd.R_elder' (by (with_reducible repeat (first | apply Kd.R_alloc | apply Kd.R_drewN | apply Kd.R_drew)); exact HO669.out) (Kd.R_base ho0) hb); have n7_ := Aside0.mk (Kd.R_lower (Kd.R_new' (Kd.R_new' (Kd.R_new' ho0 (Kd.R_lt (by (with_reducible repeat (first | apply Kd.R_alloc | apply Kd.R_drewN | apply Kd.R_drew)); exact HO646.out))) (Kd.R_lt (by (with_reducible repeat (first | apply Kd.R_alloc | apply Kd.R_drewN | apply Kd.R_drew)); exact HO649.out))) (Kd.R_lt (by (with_reducible repeat (first | apply Kd.R_alloc | apply Kd.R_drewN | apply Kd.R_drew)); exact HO661.out))) (below_size hb_)); have n8_ := Aside0.mk (below_step hb_ hb); clear HO646; clear HO649; clear HO652; clear HO657; clear HO661; clear HO665; clear HO669; clear HB; have HO646 := n0_; have HO649 := n1_; have HO652 := n2_; have HO657 := n3_; have HO661 := n4_; have HO665 := n5_; have HO669 := n6_; have HO673 := n7_; have HB := n8_; clear n0_ n1_ n2_ n3_ n4_ n5_ n6_ n7_ n8_; (try clear hb); (try clear hb2); (try clear hk); (try clear hi); (try clear ho0)))
 repeat (go_quiet (first | (go_at_call 9; (with_reducible refine (collatorlaw06_awake.calls  t643 _ A4.out).mono ?_); rintro e w15 ⟨rfl, hb⟩; have n0_ := Aside0.mk (below_step hb_ hb); clear HB; have HB := n0_; clear n0_; (try clear hb); (try clear hb2); (try clear hk); (try clear hi)) | (go_at_call 21; (with_reducible refine (collatorlaw03_Lines.calls k _ _ l0 40 t644 _ ?side1 ?side2 A5.out).mono ?_); (case side1 => repeat (first | exact (Kd.C_below HR0.out HB.out) | (with_reducible refine Kd.C_alloc ?_ _) | (with_reducible refine Kd.C_drewN ?_ _) | (with_reducible refine Kd.C_drew ?_))); (case side2 => exact HC0.out); rintro e w16 ⟨v645, rfl, ho0, hb⟩; have n0_ := Aside0.mk (Kd.R_lower ho0 (below_size hb_)); have n1_ := Aside0.mk (below_step hb_ hb); clear HB; have HO646 := n0_; have HB := n1_; clear n0_ n1_; (try clear hb); (try clear hb2); (try clear hk); (try clear hi); (try clear ho0)) | (go_at_call 21; (with_reducible refine (collatorlaw03_Lines.calls k _ _ l1 40 t647 _ ?side1 ?side2 A6.out).mono ?_); (case side1 => repeat (first | exact (Kd.C_below HR1.out HB.out) | (with_reducible refine Kd.C_alloc ?_ _) | (with_reducible refine Kd.C_drewN ?_ _) | (with_reducible refine Kd.C_drew ?_))); (case side2 => exact HC1.out); rintro e w17 ⟨v648, rfl, ho0, hb⟩; have n0_ := Aside0.mk (Kd.R_elder' (by (with_reducible repeat (first | apply Kd.R_alloc | apply Kd.R_drewN | apply Kd.R_drew)); exact HO646.out) (Kd.R_base ho0) hb); have n1_ := Aside0.mk (Kd.R_lower (Kd.R_new' ho0 (Kd.R_lt (by (with_reducible repeat (first | apply Kd.R_alloc | apply Kd.R_drewN | apply Kd.R_drew)); exact HO646.out))) (below_size hb_)); have n2_ := Aside0.mk (below_step hb_ hb); clear HO646; clear HB; have HO646 := n0_; have HO649 := n1_; have HB := n2_; clear n0_ n1_ n2_; (try clear hb); (try clear hb2); (try clear hk); (try clear hi); (try clear ho0); (try (obtain ⟨Ao18, co18, eo18⟩ := Kd.R_slice HO646.out; subst eo18)); (try (obtain ⟨Ao19, co19, eo19⟩ := Kd.R_slice HO649.out; subst eo19))) | (go_at_call 27; (with_reducible refine (myers_Diff.calls _ _ t644 _ _ t647 t650 _ ?side1 ?side2 ?side3 ?side4 A7.out).mono ?_); (case side1 => repeat (first | exact (Kd.R_reads' HO646.out).2.2 | (with_reducible refine Kd.C_alloc ?_ _) | (with_reducible refine Kd.C_drewN ?_ _) | (with_reducible refine Kd.C_drew ?_))); (case side2 => exact (Kd.R_reads' HO646.out).2.1); (case side3 => repeat (first | exact (Kd.R_reads' HO649.out).2.2 | (with_reducible refine Kd.C_alloc ?_ _) | (with_reducible refine Kd.C_drewN ?_ _) | (with_reducible refine Kd.C_drew ?_))); (case side4 => exact (Kd.R_reads' HO649.out).2.1); rintro e w20 ⟨v651, rfl, ho0, hb⟩; have n0_ := Aside0.mk (Kd.R_below (by (with_reducible repeat (first | apply Kd.R_alloc | apply Kd.R_drewN | apply Kd.R_drew)); exact HO646.out) hb); have n1_ := Aside0.mk (Kd.R_below (by (with_reducible repeat (first | apply Kd.R_alloc | apply Kd.R_drewN | apply Kd.R_drew)); exact HO649.out) hb); have n2_ := Aside0.mk (Kd.S_lower (Kd.S_new' (Kd.S_new' ho0 (Kd.R_lt (by (with_reducible repeat (first | apply Kd.R_alloc | apply Kd.R_drewN | apply Kd.R_drew)); exact HO646.out))) (Kd.R_lt (by (with_reducible repeat (first | apply Kd.R_alloc | apply Kd.R_drewN | apply Kd.R_drew)); exact HO649.out))) (below_size hb_)); have n3_ := Aside0.mk (below_step hb_ hb); clear HO646; clear HO649; clear HB; have HO646 := n0_; have HO649 := n1_; have HO652 := n2_; have HB := n3_; clear n0_ n1_ n2_ n3_; (try clear hb); (try clear hb2); (try clear hk); (try clear hi); (try clear ho0)) | (go_at_call 11; (with_reducible refine (collatorlaw06_pick.calls a2 9 t653 _ A8.out).mono ?_); rintro e w' ⟨rfl, ⟨nd, rfl⟩⟩; (try first | exact ⟨rfl, _, World.drewN_drewN _ _ _⟩ | exact ⟨rfl, _, Eq.trans (World.drewN_drewN _ _ _) (congrArg (World.drewN _) (Nat.add_assoc _ _ _))⟩); all_goals ((try (obtain ⟨Ao21, co21, eo21⟩ := Kd.S_slice HO652.out; subst eo21)))) | (go_at_call 12; (with_reducible refine (hunks_Make.calls k _ _ t650 t653 t654 t655 _ ?side1 ?side2 A9.out).mono ?_); (case side1 => repeat (first | exact (Kd.S_reads' HO652.out).2.2 | (with_reducible refine Kd.C_alloc ?_ _) | (with_reducible refine Kd.C_drewN ?_ _) | (with_reducible refine Kd.C_drew ?_))); (case side2 => exact (Kd.S_reads' HO652.out).2.1); rintro e w22 ⟨v656, rfl, ho0, hb⟩; have n0_ := Aside0.mk (Kd.R_below (by (with_reducible repeat (first | apply Kd.R_alloc | apply Kd.R_drewN | apply Kd.R_drew)); exact HO646.out) hb); have n1_ := Aside0.mk (Kd.R_below (by (with_reducible repeat (first | apply Kd.R_alloc | apply Kd.R_drewN | apply Kd.R_drew)); exact HO649.out) hb); have n2_ := Aside0.mk (Kd.S_below (by (with_reducible repeat (first | apply Kd.S_alloc | apply Kd.S_drewN | apply Kd.S_drew)); exact HO652.out) hb); have n3_ := Aside0.mk (Kd.R_lower (Kd.R_new' (Kd.R_new' (Kd.R_new' ho0 (Kd.R_lt (by (with_reducible repeat (first | apply Kd.R_alloc | apply Kd.R_drewN | apply Kd.R_drew)); exact HO646.out))) (Kd.R_lt (by (with_reducible repeat (first | apply Kd.R_alloc | apply Kd.R_drewN | apply Kd.R_drew)); exact HO649.out))) (Kd.S_lt (by (with_reducible repeat (first | apply Kd.S_alloc | apply Kd.S_drewN | apply Kd.S_drew)); exact HO652.out))) (below_size hb_)); have n4_ := Aside0.mk (below_step hb_ hb); clear HO646; clear HO649; clear HO652; clear HB; have HO646 := n0_; have HO649 := n1_; have HO652 := n2_; have HO657 := n3_; have HB := n4_; clear n0_ n1_ n2_ n3_ n4_; (try clear hb); (try clear hb2); (try clear hk); (try clear hi); (try clear ho0); (try (obtain ⟨Ao23, co23, eo23⟩ := Kd.R_slice HO657.out; subst eo23))) | (go_at_call 22; (with_reducible refine (hunks_Apply.calls k _ _ t654 _ _ t644 t658 t659 _ ?side1 ?side2 ?side3 ?side4 A10.out).mono ?_); (case side1 => repeat (first | exact (Kd.R_reads' HO657.out).2.2 | (with_reducible refine Kd.C_alloc ?_ _) | (with_reducible refine Kd.C_drewN ?_ _) | (with_reducible refine Kd.C_drew ?_))); (case side2 => exact (Kd.R_reads' HO657.out).2.1); (case side3 => repeat (first | exact (Kd.R_reads' HO646.out).2.2 | (with_reducible refine Kd.C_alloc ?_ _) | (with_reducible refine Kd.C_drewN ?_ _) | (with_reducible refine Kd.C_drew ?_))); (case side4 => exact (Kd.R_reads' HO646.out).2.1); rintro e w24 ⟨v660, rfl, ho0, hb⟩; have n0_ := Aside0.mk (Kd.R_elder' (by (with_reducible repeat (first | apply Kd.R_alloc | apply Kd.R_drewN | apply Kd.R_drew)); exact HO646.out) (Kd.R_base ho0) hb); have n1_ := Aside0.mk (Kd.R_elder' (by (with_reducible repeat (first | apply Kd.R_alloc | apply Kd.R_drewN | apply Kd.R_drew)); exact HO649.out) (Kd.R_base ho0) hb); have n2_ := Aside0.mk (Kd.S_elder' (by (with_reducible repeat (first | apply Kd.S_alloc | apply Kd.S_drewN | apply Kd.S_drew)); exact HO652.out) (Kd.R_base ho0) hb); have n3_ := Aside0.mk (Kd.R_elder' (by (with_reducible repeat (first | apply Kd.R_alloc | apply Kd.R_drewN | apply Kd.R_drew)); exact HO657.out) (Kd.R_base ho0) hb); have n4_ := Aside0.mk (Kd.R_lower (Kd.R_new' (Kd.R_new' ho0 (Kd.R_lt (by (with_reducible repeat (first | apply Kd.R_alloc | apply Kd.R_drewN | apply Kd.R_drew)); exact HO646.out))) (Kd.R_lt (by (with_reducible repeat (first | apply Kd.R_alloc | apply Kd.R_drewN | apply Kd.R_drew)); exact HO649.out))) (below_size hb_)); have n5_ := Aside0.mk (below_step hb_ hb); clear HO646; clear HO649; clear HO652; clear HO657; clear HB; have HO646 := n0_; have HO649 := n1_; have HO652 := n2_; have HO657 := n3_; have HO661 := n4_; have HB := n5_; clear n0_ n1_ n2_ n3_ n4_ n5_; (try clear hb); (try clear hb2); (try clear hk); (try clear hi); (try clear ho0)) | (go_at_call 28; (with_reducible refine (script_Invert.calls k _ _ t650 _ _ t644 t662 t663 _ ?side1 ?side2 ?side3 ?side4 A11.out).mono ?_); (case side1 => repeat (first | exact (Kd.S_reads' HO652.out).2.2 | (with_reducible refine Kd.C_alloc ?_ _) | (with_reducible refine Kd.C_drewN ?_ _) | (with_reducible refine Kd.C_drew ?_))); (case side2 => exact (Kd.S_reads' HO652.out).2.1); (case side3 => repeat (first | exact (Kd.R_reads' HO646.out).2.2 | (with_reducible refine Kd.C_alloc ?_ _) | (with_reducible refine Kd.C_drewN ?_ _) | (with_reducible refine Kd.C_drew ?_))); (case side4 => exact (Kd.R_reads' HO646.out).2.1); rintro e w25 ⟨v664, rfl, ho0, hb⟩; have n0_ := Aside0.mk (Kd.R_below (by (with_reducible repeat (first | apply Kd.R_alloc | apply Kd.R_drewN | apply Kd.R_drew)); exact HO646.out) hb); have n1_ := Aside0.mk (Kd.R_below (by (with_reducible repeat (first | apply Kd.R_alloc | apply Kd.R_drewN | apply Kd.R_drew)); exact HO649.out) hb); have n2_ := Aside0.mk (Kd.S_elder' (by (with_reducible repeat (first | apply Kd.S_alloc | apply Kd.S_drewN | apply Kd.S_drew)); exact HO652.out) (Kd.S_base ho0) hb); have n3_ := Aside0.mk (Kd.R_elder' (by (with_reducible repeat (first | apply Kd.R_alloc | apply Kd.R_drewN | apply Kd.R_drew)); exact HO657.out) (Kd.S_base ho0) hb); have n4_ := Aside0.mk (Kd.R_below (by (with_reducible repeat (first | apply Kd.R_alloc | apply Kd.R_drewN | apply Kd.R_drew)); exact HO661.out) hb); have n5_ := Aside0.mk (Kd.S_lower (Kd.S_new' (Kd.S_new' (Kd.S_new' (Kd.S_new' ho0 (Kd.R_lt (by (with_reducible repeat (first | apply Kd.R_alloc | apply Kd.R_drewN | apply Kd.R_drew)); exact HO646.out))) (Kd.R_lt (by (with_reducible repeat (first | apply Kd.R_alloc | apply Kd.R_drewN | apply Kd.R_drew)); exact HO649.out))) (Kd.S_lt (by (with_reducible repeat (first | apply Kd.S_alloc | apply Kd.S_drewN | apply Kd.S_drew)); exact HO652.out))) (Kd.R_lt (by (with_reducible repeat (first | apply Kd.R_alloc | apply Kd.R_drewN | apply Kd.R_drew)); exact HO661.out))) (below_size hb_)); have n6_ := Aside0.mk (below_step hb_ hb); clear HO646; clear HO649; clear HO652; clear HO657; clear HO661; clear HB; have HO646 := n0_; have HO649 := n1_; have HO652 := n2_; have HO657 := n3_; have HO661 := n4_; have HO665 := n5_; have HB := n6_; clear n0_ n1_ n2_ n3_ n4_ n5_ n6_; (try clear hb); (try clear hb2); (try clear hk); (try clear hi); (try clear ho0); (try (obtain ⟨Ao26, co26, eo26⟩ := Kd.S_slice HO665.out; subst eo26))) | (go_at_call 12; (with_reducible refine (hunks_Make.calls k _ _ t662 t653 t666 t667 _ ?side1 ?side2 A12.out).mono ?_); (case side1 => repeat (first | exact (Kd.S_reads' HO665.out).2.2 | (with_reducible refine Kd.C_alloc ?_ _) | (with_reducible refine Kd.C_drewN ?_ _) | (with_reducible refine Kd.C_drew ?_))); (case side2 => exact (Kd.S_reads' HO665.out).2.1); rintro e w27 ⟨v668, rfl, ho0, hb⟩; have n0_ := Aside0.mk (Kd.R_below (by (with_reducible repeat (first | apply Kd.R_alloc | apply Kd.R_drewN | apply Kd.R_drew)); exact HO646.out) hb); have n1_ := Aside0.mk (Kd.R_below (by (with_reducible repeat (first | apply Kd.R_alloc | apply Kd.R_drewN | apply Kd.R_drew)); exact HO649.out) hb); have n2_ := Aside0.mk (Kd.S_below (by (with_reducible repeat (first | apply Kd.S_alloc | apply Kd.S_drewN | apply Kd.S_drew)); exact HO652.out) hb); have n3_ := Aside0.mk (Kd.R_elder' (by (with_reducible repeat (first | apply Kd.R_alloc | apply Kd.R_drewN | apply Kd.R_drew)); exact HO657.out) (Kd.R_base ho0) hb); have n4_ := Aside0.mk (Kd.R_below (by (with_reducible repeat (first | apply Kd.R_alloc | apply Kd.R_drewN | apply Kd.R_drew)); exact HO661.out) hb); have n5_ := Aside0.mk (Kd.S_below (by (with_reducible repeat (first | apply Kd.S_alloc | apply Kd.S_drewN | apply Kd.S_drew)); exact HO665.out) hb); have n6_ := Aside0.mk (Kd.R_lower (Kd.R_new' (Kd.R_new' (Kd.R_new' (Kd.R_new' (Kd.R_new' (Kd.R_new' ho0 (Kd.R_lt (by (with_reducible repeat (first | apply Kd.R_alloc | apply Kd.R_drewN | apply Kd.R_drew)); exact HO646.out))) (Kd.R_lt (by (with_reducible repeat (first | apply Kd.R_alloc | apply Kd.R_drewN | apply Kd.R_drew)); exact HO649.out))) (Kd.S_lt (by (with_reducible repeat (first | apply Kd.S_alloc | apply Kd.S_drewN | apply Kd.S_drew)); exact HO652.out))) (Kd.R_lt (by (with_reducible repeat (first | apply Kd.R_alloc | apply Kd.R_drewN | apply Kd.R_drew)); exact HO657.out))) (Kd.R_lt (by (with_reducible repeat (first | apply Kd.R_alloc | apply Kd.R_drewN | apply Kd.R_drew)); exact HO661.out))) (Kd.S_lt (by (with_reducible repeat (first | apply Kd.S_alloc | apply Kd.S_drewN | apply Kd.S_drew)); exact HO665.out))) (below_size hb_)); have n7_ := Aside0.mk (below_step hb_ hb); clear HO646; clear HO649; clear HO652; clear HO657; clear HO661; clear HO665; clear HB; have HO646 := n0_; have HO649 := n1_; have HO652 := n2_; have HO657 := n3_; have HO661 := n4_; have HO665 := n5_; have HO669 := n6_; have HB := n7_; clear n0_ n1_ n2_ n3_ n4_ n5_ n6_ n7_; (try clear hb); (try clear hb2); (try clear hk); (try clear hi); (try clear ho0); (try (obtain ⟨Ao28, co28, eo28⟩ := Kd.R_slice HO669.out; subst eo28))) | (go_at_call 22; (with_reducible refine (hunks_Apply.calls k _ _ t666 _ _ t647 t670 t671 _ ?side1 ?side2 ?side3 ?side4 A13.out).mono ?_); (case side1 => repeat (first | exact (Kd.R_reads' HO669.out).2.2 | (with_reducible refine Kd.C_alloc ?_ _) | (with_reducible refine Kd.C_drewN ?_ _) | (with_reducible refine Kd.C_drew ?_))); (case side2 => exact (Kd.R_reads' HO669.out).2.1); (case side3 => repeat (first | exact (Kd.R_reads' HO649.out).2.2 | (with_reducible refine Kd.C_alloc ?_ _) | (with_reducible refine Kd.C_drewN ?_ _) | (with_reducible refine Kd.C_drew ?_))); (case side4 => exact (Kd.R_reads' HO649.out).2.1); rintro e w29 ⟨v672, rfl, ho0, hb⟩; have n0_ := Aside0.mk (Kd.R_elder' (by (with_reducible repeat (first | apply Kd.R_alloc | apply Kd.R_drewN | apply Kd.R_drew)); exact HO646.out) (Kd.R_base ho0) hb); have n1_ := Aside0.mk (Kd.R_elder' (by (with_reducible repeat (first | apply Kd.R_alloc | apply Kd.R_drewN | apply Kd.R_drew)); exact HO649.out) (Kd.R_base ho0) hb); have n2_ := Aside0.mk (Kd.S_elder' (by (with_reducible repeat (first | apply Kd.S_alloc | apply Kd.S_drewN | apply Kd.S_drew)); exact HO652.out) (Kd.R_base ho0) hb); have n3_ := Aside0.mk (Kd.R_elder' (by (with_reducible repeat (first | apply Kd.R_alloc | apply Kd.R_drewN | apply Kd.R_drew)); exact HO657.out) (Kd.R_base ho0) hb); have n4_ := Aside0.mk (Kd.R_elder' (by (with_reducible repeat (first | apply Kd.R_alloc | apply Kd.R_drewN | apply Kd.R_drew)); exact HO661.out) (Kd.R_base ho0) hb); have n5_ := Aside0.mk (Kd.S_elder' (by (with_reducible repeat (first | apply Kd.S_alloc | apply Kd.S_drewN | apply Kd.S_drew)); exact HO665.out) (Kd.R_base ho0) hb); have n6_ := Aside0.mk (Kd.R_elder' (by (with_reducible repeat (first | apply Kd.R_alloc | apply Kd.R_drewN | apply Kd.R_drew)); exact HO669.out) (Kd.R_base ho0) hb); have n7_ := Aside0.mk (Kd.R_lower (Kd.R_new' (Kd.R_new' (Kd.R_new' ho0 (Kd.R_lt (by (with_reducible repeat (first | apply Kd.R_alloc | apply Kd.R_drewN | apply Kd.R_drew)); exact HO646.out))) (Kd.R_lt (by (with_reducible repeat (first | apply Kd.R_alloc | apply Kd.R_drewN | apply Kd.R_drew)); exact HO649.out))) (Kd.R_lt (by (with_reducible repeat (first | apply Kd.R_alloc | apply Kd.R_drewN | apply Kd.R_drew)); exact HO661.out))) (below_size hb_)); have n8_ := Aside0.mk (below_step hb_ hb); clear HO646; clear HO649; clear HO652; clear HO657; clear HO661; clear HO665; clear HO669; clear HB; have HO646 := n0_; have HO649 := n1_; have HO652 := n2_; have HO657 := n3_; have HO661 := n4_; have HO665 := n5_; have HO669 := n6_; have HO673 := n7_; have HB := n8_; clear n0_ n1_ n2_ n3_ n4_ n5_ n6_ n7_ n8_; (try clear hb); (try clear hb2); (try clear hk); (try clear hi); (try clear ho0))); go_upto_region 10 with (first | (go_at_call 9; (with_reducible refine (collatorlaw06_awake.calls  t643 _ A4.out).mono ?_); rintro e w15 ⟨rfl, hb⟩; have n0_ := Aside0.mk (below_step hb_ hb); clear HB; have HB := n0_; clear n0_; (try clear hb); (try clear hb2); (try clear hk); (try clear hi)) | (go_at_call 21; (with_reducible refine (collatorlaw03_Lines.calls k _ _ l0 40 t644 _ ?side1 ?side2 A5.out).mono ?_); (case side1 => repeat (first | exact (Kd.C_below HR0.out HB.out) | (with_reducible refine Kd.C_alloc ?_ _) | (with_reducible refine Kd.C_drewN ?_ _) | (with_reducible refine Kd.C_drew ?_))); (case side2 => exact HC0.out); rintro e w16 ⟨v645, rfl, ho0, hb⟩; have n0_ := Aside0.mk (Kd.R_lower ho0 (below_size hb_)); have n1_ := Aside0.mk (below_step hb_ hb); clear HB; have HO646 := n0_; have HB := n1_; clear n0_ n1_; (try clear hb); (try clear hb2); (try clear hk); (try clear hi); (try clear ho0)) | (go_at_call 21; (with_reducible refine (collatorlaw03_Lines.calls k _ _ l1 40 t647 _ ?side1 ?side2 A6.out).mono ?_); (case side1 => repeat (first | exact (Kd.C_below HR1.out HB.out) | (with_reducible refine Kd.C_alloc ?_ _) | (with_reducible refine Kd.C_drewN ?_ _) | (with_reducible refine Kd.C_drew ?_))); (case side2 => exact HC1.out); rintro e w17 ⟨v648, rfl, ho0, hb⟩; have n0_ := Aside0.mk (Kd.R_elder' (by (with_reducible repeat (first | apply Kd.R_alloc | apply Kd.R_drewN | apply Kd.R_drew)); exact HO646.out) (Kd.R_base ho0) hb); have n1_ := Aside0.mk (Kd.R_lower (Kd.R_new' ho0 (Kd.R_lt (by (with_reducible repeat (first | apply Kd.R_alloc | apply Kd.R_drewN | apply Kd.R_drew)); exact HO646.out))) (below_size hb_)); have n2_ := Aside0.mk (below_step hb_ hb); clear HO646; clear HB; have HO646 := n0_; have HO649 := n1_; have HB := n2_; clear n0_ n1_ n2_; (try clear hb); (try clear hb2); (try clear hk); (try clear hi); (try clear ho0); (try (obtain ⟨Ao18, co18, eo18⟩ := Kd.R_slice HO646.out; subst eo18)); (try (obtain ⟨Ao19, co19, eo19⟩ := Kd.R_slice HO649.out; subst eo19))) | (go_at_call 27; (with_reducible refine (myers_Diff.calls _ _ t644 _ _ t647 t650 _ ?side1 ?side2 ?side3 ?side4 A7.out).mono ?_); (case side1 => repeat (first | exact (Kd.R_reads' HO646.out).2.2 | (with_reducible refine Kd.C_alloc ?_ _) | (with_reducible refine Kd.C_drewN ?_ _) | (with_reducible refine Kd.C_drew ?_))); (case side2 => exact (Kd.R_reads' HO646.out).2.1); (case side3 => repeat (first | exact (Kd.R_reads' HO649.out).2.2 | (with_reducible refine Kd.C_alloc ?_ _) | (with_reducible refine Kd.C_drewN ?_ _) | (with_reducible refine Kd.C_drew ?_))); (case side4 => exact (Kd.R_reads' HO649.out).2.1); rintro e w20 ⟨v651, rfl, ho0, hb⟩; have n0_ := Aside0.mk (Kd.R_below (by (with_reducible repeat (first | apply Kd.R_alloc | apply Kd.R_drewN | apply Kd.R_drew)); exact HO646.out) hb); have n1_ := Aside0.mk (Kd.R_below (by (with_reducible repeat (first | apply Kd.R_alloc | apply Kd.R_drewN | apply Kd.R_drew)); exact HO649.out) hb); have n2_ := Aside0.mk (Kd.S_lower (Kd.S_new' (Kd.S_new' ho0 (Kd.R_lt (by (with_reducible repeat (first | apply Kd.R_alloc | apply Kd.R_drewN | apply Kd.R_drew)); exact HO646.out))) (Kd.R_lt (by (with_reducible repeat (first | apply Kd.R_alloc | apply Kd.R_drewN | apply Kd.R_drew)); exact HO649.out))) (below_size hb_)); have n3_ := Aside0.mk (below_step hb_ hb); clear HO646; clear HO649; clear HB; have HO646 := n0_; have HO649 := n1_; have HO652 := n2_; have HB := n3_; clear n0_ n1_ n2_ n3_; (try clear hb); (try clear hb2); (try clear hk); (try clear hi); (try clear ho0)) | (go_at_call 11; (with_reducible refine (collatorlaw06_pick.calls a2 9 t653 _ A8.out).mono ?_); rintro e w' ⟨rfl, ⟨nd, rfl⟩⟩; (try first | exact ⟨rfl, _, World.drewN_drewN _ _ _⟩ | exact ⟨rfl, _, Eq.trans (World.drewN_drewN _ _ _) (congrArg (World.drewN _) (Nat.add_assoc _ _ _))⟩); all_goals ((try (obtain ⟨Ao21, co21, eo21⟩ := Kd.S_slice HO652.out; subst eo21)))) | (go_at_call 12; (with_reducible refine (hunks_Make.calls k _ _ t650 t653 t654 t655 _ ?side1 ?side2 A9.out).mono ?_); (case side1 => repeat (first | exact (Kd.S_reads' HO652.out).2.2 | (with_reducible refine Kd.C_alloc ?_ _) | (with_reducible refine Kd.C_drewN ?_ _) | (with_reducible refine Kd.C_drew ?_))); (case side2 => exact (Kd.S_reads' HO652.out).2.1); rintro e w22 ⟨v656, rfl, ho0, hb⟩; have n0_ := Aside0.mk (Kd.R_below (by (with_reducible repeat (first | apply Kd.R_alloc | apply Kd.R_drewN | apply Kd.R_drew)); exact HO646.out) hb); have n1_ := Aside0.mk (Kd.R_below (by (with_reducible repeat (first | apply Kd.R_alloc | apply Kd.R_drewN | apply Kd.R_drew)); exact HO649.out) hb); have n2_ := Aside0.mk (Kd.S_below (by (with_reducible repeat (first | apply Kd.S_alloc | apply Kd.S_drewN | apply Kd.S_drew)); exact HO652.out) hb); have n3_ := Aside0.mk (Kd.R_lower (Kd.R_new' (Kd.R_new' (Kd.R_new' ho0 (Kd.R_lt (by (with_reducible repeat (first | apply Kd.R_alloc | apply Kd.R_drewN | apply Kd.R_drew)); exact HO646.out))) (Kd.R_lt (by (with_reducible repeat (first | apply Kd.R_alloc | apply Kd.R_drewN | apply Kd.R_drew)); exact HO649.out))) (Kd.S_lt (by (with_reducible repeat (first | apply Kd.S_alloc | apply Kd.S_drewN | apply Kd.S_drew)); exact HO652.out))) (below_size hb_)); have n4_ := Aside0.mk (below_step hb_ hb); clear HO646; clear HO649; clear HO652; clear HB; have HO646 := n0_; have HO649 := n1_; have HO652 := n2_; have HO657 := n3_; have HB := n4_; clear n0_ n1_ n2_ n3_ n4_; (try clear hb); (try clear hb2); (try clear hk); (try clear hi); (try clear ho0); (try (obtain ⟨Ao23, co23, eo23⟩ := Kd.R_slice HO657.out; subst eo23))) | (go_at_call 22; (with_reducible refine (hunks_Apply.calls k _ _ t654 _ _ t644 t658 t659 _ ?side1 ?side2 ?side3 ?side4 A10.out).mono ?_); (case side1 => repeat (first | exact (Kd.R_reads' HO657.out).2.2 | (with_reducible refine Kd.C_alloc ?_ _) | (with_reducible refine Kd.C_drewN ?_ _) | (with_reducible refine Kd.C_drew ?_))); (case side2 => exact (Kd.R_reads' HO657.out).2.1); (case side3 => repeat (first | exact (Kd.R_reads' HO646.out).2.2 | (with_reducible refine Kd.C_alloc ?_ _) | (with_reducible refine Kd.C_drewN ?_ _) | (with_reducible refine Kd.C_drew ?_))); (case side4 => exact (Kd.R_reads' HO646.out).2.1); rintro e w24 ⟨v660, rfl, ho0, hb⟩; have n0_ := Aside0.mk (Kd.R_elder' (by (with_reducible repeat (first | apply Kd.R_alloc | apply Kd.R_drewN | apply Kd.R_drew)); exact HO646.out) (Kd.R_base ho0) hb); have n1_ := Aside0.mk (Kd.R_elder' (by (with_reducible repeat (first | apply Kd.R_alloc | apply Kd.R_drewN | apply Kd.R_drew)); exact HO649.out) (Kd.R_base ho0) hb); have n2_ := Aside0.mk (Kd.S_elder' (by (with_reducible repeat (first | apply Kd.S_alloc | apply Kd.S_drewN | apply Kd.S_drew)); exact HO652.out) (Kd.R_base ho0) hb); have n3_ := Aside0.mk (Kd.R_elder' (by (with_reducible repeat (first | apply Kd.R_alloc | apply Kd.R_drewN | apply Kd.R_drew)); exact HO657.out) (Kd.R_base ho0) hb); have n4_ := Aside0.mk (Kd.R_lower (Kd.R_new' (Kd.R_new' ho0 (Kd.R_lt (by (with_reducible repeat (first | apply Kd.R_alloc | apply Kd.R_drewN | apply Kd.R_drew)); exact HO646.out))) (Kd.R_lt (by (with_reducible repeat (first | apply Kd.R_alloc | apply Kd.R_drewN | apply Kd.R_drew)); exact HO649.out))) (below_size hb_)); have n5_ := Aside0.mk (below_step hb_ hb); clear HO646; clear HO649; clear HO652; clear HO657; clear HB; have HO646 := n0_; have HO649 := n1_; have HO652 := n2_; have HO657 := n3_; have HO661 := n4_; have HB := n5_; clear n0_ n1_ n2_ n3_ n4_ n5_; (try clear hb); (try clear hb2); (try clear hk); (try clear hi); (try clear ho0)) | (go_at_call 28; (with_reducible refine (script_Invert.calls k _ _ t650 _ _ t644 t662 t663 _ ?side1 ?side2 ?side3 ?side4 A11.out).mono ?_); (case side1 => repeat (first | exact (Kd.S_reads' HO652.out).2.2 | (with_reducible refine Kd.C_alloc ?_ _) | (with_reducible refine Kd.C_drewN ?_ _) | (with_reducible refine Kd.C_drew ?_))); (case side2 => exact (Kd.S_reads' HO652.out).2.1); (case side3 => repeat (first | exact (Kd.R_reads' HO646.out).2.2 | (with_reducible refine Kd.C_alloc ?_ _) | (with_reducible refine Kd.C_drewN ?_ _) | (with_reducible refine Kd.C_drew ?_))); (case side4 => exact (Kd.R_reads' HO646.out).2.1); rintro e w25 ⟨v664, rfl, ho0, hb⟩; have n0_ := Aside0.mk (Kd.R_below (by (with_reducible repeat (first | apply Kd.R_alloc | apply Kd.R_drewN | apply Kd.R_drew)); exact HO646.out) hb); have n1_ := Aside0.mk (Kd.R_below (by (with_reducible repeat (first | apply Kd.R_alloc | apply Kd.R_drewN | apply Kd.R_drew)); exact HO649.out) hb); have n2_ := Aside0.mk (Kd.S_elder' (by (with_reducible repeat (first | apply Kd.S_alloc | apply Kd.S_drewN | apply Kd.S_drew)); exact HO652.out) (Kd.S_base ho0) hb); have n3_ := Aside0.mk (Kd.R_elder' (by (with_reducible repeat (first | apply Kd.R_alloc | apply Kd.R_drewN | apply Kd.R_drew)); exact HO657.out) (Kd.S_base ho0) hb); have n4_ := Aside0.mk (Kd.R_below (by (with_reducible repeat (first | apply Kd.R_alloc | apply Kd.R_drewN | apply Kd.R_drew)); exact HO661.out) hb); have n5_ := Aside0.mk (Kd.S_lower (Kd.S_new' (Kd.S_new' (Kd.S_new' (Kd.S_new' ho0 (Kd.R_lt (by (with_reducible repeat (first | apply Kd.R_alloc | apply Kd.R_drewN | apply Kd.R_drew)); exact HO646.out))) (Kd.R_lt (by (with_reducible repeat (first | apply Kd.R_alloc | apply Kd.R_drewN | apply Kd.R_drew)); exact HO649.out))) (Kd.S_lt (by (with_reducible repeat (first | apply Kd.S_alloc | apply Kd.S_drewN | apply Kd.S_drew)); exact HO652.out))) (Kd.R_lt (by (with_reducible repeat (first | apply Kd.R_alloc | apply Kd.R_drewN | apply Kd.R_drew)); exact HO661.out))) (below_size hb_)); have n6_ := Aside0.mk (below_step hb_ hb); clear HO646; clear HO649; clear HO652; clear HO657; clear HO661; clear HB; have HO646 := n0_; have HO649 := n1_; have HO652 := n2_; have HO657 := n3_; have HO661 := n4_; have HO665 := n5_; have HB := n6_; clear n0_ n1_ n2_ n3_ n4_ n5_ n6_; (try clear hb); (try clear hb2); (try clear hk); (try clear hi); (try clear ho0); (try (obtain ⟨Ao26, co26, eo26⟩ := Kd.S_slice HO665.out; subst eo26))) | (go_at_call 12; (with_reducible refine (hunks_Make.calls k _ _ t662 t653 t666 t667 _ ?side1 ?side2 A12.out).mono ?_); (case side1 => repeat (first | exact (Kd.S_reads' HO665.out).2.2 | (with_reducible refine Kd.C_alloc ?_ _) | (with_reducible refine Kd.C_drewN ?_ _) | (with_reducible refine Kd.C_drew ?_))); (case side2 => exact (Kd.S_reads' HO665.out).2.1); rintro e w27 ⟨v668, rfl, ho0, hb⟩; have n0_ := Aside0.mk (Kd.R_below (by (with_reducible repeat (first | apply Kd.R_alloc | apply Kd.R_drewN | apply Kd.R_drew)); exact HO646.out) hb); have n1_ := Aside0.mk (Kd.R_below (by (with_reducible repeat (first | apply Kd.R_alloc | apply Kd.R_drewN | apply Kd.R_drew)); exact HO649.out) hb); have n2_ := Aside0.mk (Kd.S_below (by (with_reducible repeat (first | apply Kd.S_alloc | apply Kd.S_drewN | apply Kd.S_drew)); exact HO652.out) hb); have n3_ := Aside0.mk (Kd.R_elder' (by (with_reducible repeat (first | apply Kd.R_alloc | apply Kd.R_drewN | apply Kd.R_drew)); exact HO657.out) (Kd.R_base ho0) hb); have n4_ := Aside0.mk (Kd.R_below (by (with_reducible repeat (first | apply Kd.R_alloc | apply Kd.R_drewN | apply Kd.R_drew)); exact HO661.out) hb); have n5_ := Aside0.mk (Kd.S_below (by (with_reducible repeat (first | apply Kd.S_alloc | apply Kd.S_drewN | apply Kd.S_drew)); exact HO665.out) hb); have n6_ := Aside0.mk (Kd.R_lower (Kd.R_new' (Kd.R_new' (Kd.R_new' (Kd.R_new' (Kd.R_new' (Kd.R_new' ho0 (Kd.R_lt (by (with_reducible repeat (first | apply Kd.R_alloc | apply Kd.R_drewN | apply Kd.R_drew)); exact HO646.out))) (Kd.R_lt (by (with_reducible repeat (first | apply Kd.R_alloc | apply Kd.R_drewN | apply Kd.R_drew)); exact HO649.out))) (Kd.S_lt (by (with_reducible repeat (first | apply Kd.S_alloc | apply Kd.S_drewN | apply Kd.S_drew)); exact HO652.out))) (Kd.R_lt (by (with_reducible repeat (first | apply Kd.R_alloc | apply Kd.R_drewN | apply Kd.R_drew)); exact HO657.out))) (Kd.R_lt (by (with_reducible repeat (first | apply Kd.R_alloc | apply Kd.R_drewN | apply Kd.R_drew)); exact HO661.out))) (Kd.S_lt (by (with_reducible repeat (first | apply Kd.S_alloc | apply Kd.S_drewN | apply Kd.S_drew)); exact HO665.out))) (below_size hb_)); have n7_ := Aside0.mk (below_step hb_ hb); clear HO646; clear HO649; clear HO652; clear HO657; clear HO661; clear HO665; clear HB; have HO646 := n0_; have HO649 := n1_; have HO652 := n2_; have HO657 := n3_; have HO661 := n4_; have HO665 := n5_; have HO669 := n6_; have HB := n7_; clear n0_ n1_ n2_ n3_ n4_ n5_ n6_ n7_; (try clear hb); (try clear hb2); (try clear hk); (try clear hi); (try clear ho0); (try (obtain ⟨Ao28, co28, eo28⟩ := Kd.R_slice HO669.out; subst eo28))) | (go_at_call 22; (with_reducible refine (hunks_Apply.calls k _ _ t666 _ _ t647 t670 t671 _ ?side1 ?side2 ?side3 ?side4 A13.out).mono ?_); (case side1 => repeat (first | exact (Kd.R_reads' HO669.out).2.2 | (with_reducible refine Kd.C_alloc ?_ _) | (with_reducible refine Kd.C_drewN ?_ _) | (with_reducible refine Kd.C_drew ?_))); (case side2 => exact (Kd.R_reads' HO669.out).2.1); (case side3 => repeat (first | exact (Kd.R_reads' HO649.out).2.2 | (with_reducible refine Kd.C_alloc ?_ _) | (with_reducible refine Kd.C_drewN ?_ _) | (with_reducible refine Kd.C_drew ?_))); (case side4 => exact (Kd.R_reads' HO649.out).2.1); rintro e w29 ⟨v672, rfl, ho0, hb⟩; have n0_ := Aside0.mk (Kd.R_elder' (by (with_reducible repeat (first | apply Kd.R_alloc | apply Kd.R_drewN | apply Kd.R_drew)); exact HO646.out) (Kd.R_base ho0) hb); have n1_ := Aside0.mk (Kd.R_elder' (by (with_reducible repeat (first | apply Kd.R_alloc | apply Kd.R_drewN | apply Kd.R_drew)); exact HO649.out) (Kd.R_base ho0) hb); have n2_ := Aside0.mk (Kd.S_elder' (by (with_reducible repeat (first | apply Kd.S_alloc | apply Kd.S_drewN | apply Kd.S_drew)); exact HO652.out) (Kd.R_base ho0) hb); have n3_ := Aside0.mk (Kd.R_elder' (by (with_reducible repeat (first | apply Kd.R_alloc | apply Kd.R_drewN | apply Kd.R_drew)); exact HO657.out) (Kd.R_base ho0) hb); have n4_ := Aside0.mk (Kd.R_elder' (by (with_reducible repeat (first | apply Kd.R_alloc | apply Kd.R_drewN | apply Kd.R_drew)); exact HO661.out) (Kd.R_base ho0) hb); have n5_ := Aside0.mk (Kd.S_elder' (by (with_reducible repeat (first | apply Kd.S_alloc | apply Kd.S_drewN | apply Kd.S_drew)); exact HO665.out) (Kd.R_base ho0) hb); have n6_ := Aside0.mk (Kd.R_elder' (by (with_reducible repeat (first | apply Kd.R_alloc | apply Kd.R_drewN | apply Kd.R_drew)); exact HO669.out) (Kd.R_base ho0) hb); have n7_ := Aside0.mk (Kd.R_lower (Kd.R_new' (Kd.R_new' (Kd.R_new' ho0 (Kd.R_lt (by (with_reducible repeat (first | apply Kd.R_alloc | apply Kd.R_drewN | apply Kd.R_drew)); exact HO646.out))) (Kd.R_lt (by (with_reducible repeat (first | apply Kd.R_alloc | apply Kd.R_drewN | apply Kd.R_drew)); exact HO649.out))) (Kd.R_lt (by (with_reducible repeat (first | apply Kd.R_alloc | apply Kd.R_drewN | apply Kd.R_drew)); exact HO661.out))) (below_size hb_)); have n8_ := Aside0.mk (below_step hb_ hb); clear HO646; clear HO649; clear HO652; clear HO657; clear HO661; clear HO665; clear HO669; clear HB; have HO646 := n0_; have HO649 := n1_; have HO652 := n2_; have HO657 := n3_; have HO661 := n4_; have HO665 := n5_; have HO669 := n6_; have HO673 := n7_; have HB := n8_; clear n0_ n1_ n2_ n3_ n4_ n5_ n6_ n7_ n8_; (try clear hb); (try clear hb2); (try clear hk); (try clear hi); (try clear ho0))))
 (try simp only [Act.put, List.setIfInBounds_toArray, List.set_cons_zero, List.set_cons_succ])
 go_cut [86] (fun v86 wc => ∃ (kq : Nat) (x86_13 : Bool), v86 = .bool x86_13 ∧ Aside0 (collatorlaw06_HunksMakes.j0 kq t643 t644 t647 t654 t658 t666 t670 x86_13 = some r) ∧ Aside0 (kq ≤ k) ∧ Aside0 (Kd.R Kd.string 9 wc w.heap.size (fun k_ => some k_ ≠ ((.slice Ao19 t647.length co19) : Value).ownBlock ∧ some k_ ≠ (v660 : Value).ownBlock ∧ some k_ ≠ (v672 : Value).ownBlock) (.slice Ao18 t644.length co18) t644) ∧ Aside0 (Kd.R Kd.string 9 wc w.heap.size (fun k_ => some k_ ≠ ((.slice Ao18 t644.length co18) : Value).ownBlock ∧ some k_ ≠ (v660 : Value).ownBlock ∧ some k_ ≠ (v672 : Value).ownBlock) (.slice Ao19 t647.length co19) t647) ∧ Aside0 (Kd.R k28 28 wc w.heap.size (fun k_ => some k_ ≠ ((.slice Ao18 t644.length co18) : Value).ownBlock ∧ some k_ ≠ ((.slice Ao19 t647.length co19) : Value).ownBlock ∧ some k_ ≠ (v660 : Value).ownBlock ∧ some k_ ≠ ((.slice Ao28 t666.length co28) : Value).ownBlock ∧ some k_ ≠ (v672 : Value).ownBlock) (.slice Ao23 t654.length co23) t654) ∧ Aside0 (Kd.R Kd.string 9 wc w.heap.size (fun k_ => some k_ ≠ ((.slice Ao18 t644.length co18) : Value).ownBlock ∧ some k_ ≠ ((.slice Ao19 t647.length co19) : Value).ownBlock ∧ some k_ ≠ (v672 : Value).ownBlock) v660 t658) ∧ Aside0 (Kd.R k28 28 wc w.heap.size (fun k_ => some k_ ≠ ((.slice Ao18 t644.length co18) : Value).ownBlock ∧ some k_ ≠ ((.slice Ao19 t647.length co19) : Value).ownBlock ∧ some k_ ≠ ((.slice Ao23 t654.length co23) : Value).ownBlock ∧ some k_ ≠ (v660 : Value).ownBlock ∧ some k_ ≠ (v672 : Value).ownBlock) (.slice Ao28 t666.length co28) t666) ∧ Aside0 (Kd.R Kd.string 9 wc w.heap.size (fun k_ => some k_ ≠ ((.slice Ao18 t644.length co18) : Value).ownBlock ∧ some k_ ≠ ((.slice Ao19 t647.length co19) : Value).ownBlock ∧ some k_ ≠ (v660 : Value).ownBlock) v672 t670) ∧ Aside0 (Below w.heap.size w wc))
 case first =>
  have H := HC14.out
  clear HC14
  by_cases c30 : t655 = 0
  ·rw [if_pos c30] at H
   have c30b0 : (t655 == 0) = true := beq_iff_eq.mpr c30
   have c30b1 : (t655 != 0) = false := bne_eq_false_iff_eq.mpr c30
   clear c30
   (first | rw [c30b0] | rw [c30b1] | (simp only [i64_w, i32_w]; rw [c30b0]) | skip)
   by_cases c31 : t659 = 0
   ·rw [if_pos c31] at H
    have c31b0 : (t659 == 0) = true := beq_iff_eq.mpr c31
    have c31b1 : (t659 != 0) = false := bne_eq_false_iff_eq.mpr c31
    clear c31
    by_cases c32 : t663 = 0
    ·rw [if_pos c32] at H
     have c32b0 : (t663 == 0) = true := beq_iff_eq.mpr c32
     have c32b1 : (t663 != 0) = false := bne_eq_false_iff_eq.mpr c32
     clear c32
     by_cases c33 : t667 = 0
     ·rw [if_pos c33] at H
      have c33b0 : (t667 == 0) = true := beq_iff_eq.mpr c33
      have c33b1 : (t667 != 0) = false := bne_eq_false_iff_eq.mpr c33
      clear c33
      by_cases c34 : t671 = 0
      ·rw [if_pos c34] at H
       have c34b0 : (t671 == 0) = true := beq_iff_eq.mpr c34
       have c34b1 : (t671 != 0) = false := bne_eq_false_iff_eq.mpr c34
       clear c34
       have H' := Aside0.mk H
       clear H
       go_wp2
       repeat (go_quiet (fail); try go_wp2)
       go_meet
       case rel => exact ⟨_, (((t654.length : Int) != (t666.length : Int))), rf_, H', ⟨by first | omega | exact Nat.le_refl _⟩, ⟨by (with_reducible repeat (first | apply Kd.R_alloc | apply Kd.R_drewN | apply Kd.R_drew)); exact Kd.R_mono HO646.out (fun _ hk => ⟨hk.1.1.2, ⟨hk.1.2, hk.2⟩⟩)⟩, ⟨by (with_reducible repeat (first | apply Kd.R_alloc | apply Kd.R_drewN | apply Kd.R_drew)); exact Kd.R_mono HO649.out (fun _ hk => ⟨hk.1.1.2, ⟨hk.1.2, hk.2⟩⟩)⟩, ⟨by (with_reducible repeat (first | apply Kd.R_alloc | apply Kd.R_drewN | apply Kd.R_drew)); exact Kd.R_mono HO657.out (fun _ hk => ⟨hk.1.1.1.1.1.1.2, ⟨hk.1.1.1.1.1.2, ⟨hk.1.1.1.2, ⟨hk.1.2, hk.2⟩⟩⟩⟩)⟩, ⟨by (with_reducible repeat (first | apply Kd.R_alloc | apply Kd.R_drewN | apply Kd.R_drew)); exact Kd.R_mono HO661.out (fun _ hk => ⟨hk.1.1.2, ⟨hk.1.2, hk.2⟩⟩)⟩, ⟨by (with_reducible repeat (first | apply Kd.R_alloc | apply Kd.R_drewN | apply Kd.R_drew)); exact Kd.R_mono HO669.out (fun _ hk => ⟨hk.1.1.1.1.1.1.2, ⟨hk.1.1.1.1.1.2, ⟨hk.1.1.1.2, ⟨hk.1.1.2, hk.2⟩⟩⟩⟩)⟩, ⟨by (with_reducible repeat (first | apply Kd.R_alloc | apply Kd.R_drewN | apply Kd.R_drew)); exact Kd.R_mono HO673.out (fun _ hk => ⟨hk.1.1.2, ⟨hk.1.2, hk.2⟩⟩)⟩, ⟨by repeat (first | (with_reducible first | exact HB.out | apply below_alloc | apply pw_below_drewN | apply below_drew1) | exact HB.out)⟩⟩
      ·rw [if_neg c34] at H
       have c34b0 : (t671 == 0) = false := beq_eq_false_iff_ne.mpr c34
       have c34b1 : (t671 != 0) = true := bne_iff_ne.mpr c34
       have H' := Aside0.mk H
       clear H
       go_wp2
       repeat (go_quiet (fail); try go_wp2)
       go_meet
       case rel => exact ⟨_, (true), rf_, H', ⟨by first | omega | exact Nat.le_refl _⟩, ⟨by (with_reducible repeat (first | apply Kd.R_alloc | apply Kd.R_drewN | apply Kd.R_drew)); exact Kd.R_mono HO646.out (fun _ hk => ⟨hk.1.1.2, ⟨hk.1.2, hk.2⟩⟩)⟩, ⟨by (with_reducible repeat (first | apply Kd.R_alloc | apply Kd.R_drewN | apply Kd.R_drew)); exact Kd.R_mono HO649.out (fun _ hk => ⟨hk.1.1.2, ⟨hk.1.2, hk.2⟩⟩)⟩, ⟨by (with_reducible repeat (first | apply Kd.R_alloc | apply Kd.R_drewN | apply Kd.R_drew)); exact Kd.R_mono HO657.out (fun _ hk => ⟨hk.1.1.1.1.1.1.2, ⟨hk.1.1.1.1.1.2, ⟨hk.1.1.1.2, ⟨hk.1.2, hk.2⟩⟩⟩⟩)⟩, ⟨by (with_reducible repeat (first | apply Kd.R_alloc | apply Kd.R_drewN | apply Kd.R_drew)); exact Kd.R_mono HO661.out (fun _ hk => ⟨hk.1.1.2, ⟨hk.1.2, hk.2⟩⟩)⟩, ⟨by (with_reducible repeat (first | apply Kd.R_alloc | apply Kd.R_drewN | apply Kd.R_drew)); exact Kd.R_mono HO669.out (fun _ hk => ⟨hk.1.1.1.1.1.1.2, ⟨hk.1.1.1.1.1.2, ⟨hk.1.1.1.2, ⟨hk.1.1.2, hk.2⟩⟩⟩⟩)⟩, ⟨by (with_reducible repeat (first | apply Kd.R_alloc | apply Kd.R_drewN | apply Kd.R_drew)); exact Kd.R_mono HO673.out (fun _ hk => ⟨hk.1.1.2, ⟨hk.1.2, hk.2⟩⟩)⟩, ⟨by repeat (first | (with_reducible first | exact HB.out | apply below_alloc | apply pw_below_drewN | apply below_drew1) | exact HB.out)⟩⟩
     ·rw [if_neg c33] at H
      have c33b0 : (t667 == 0) = false := beq_eq_false_iff_ne.mpr c33
      have c33b1 : (t667 != 0) = true := bne_iff_ne.mpr c33
      have H' := Aside0.mk H
      clear H
      go_wp2
      repeat (go_quiet (fail); try go_wp2)
      go_meet
      case rel => exact ⟨_, (true), rf_, H', ⟨by first | omega | exact Nat.le_refl _⟩, ⟨by (with_reducible repeat (first | apply Kd.R_alloc | apply Kd.R_drewN | apply Kd.R_drew)); exact Kd.R_mono HO646.out (fun _ hk => ⟨hk.1.1.2, ⟨hk.1.2, hk.2⟩⟩)⟩, ⟨by (with_reducible repeat (first | apply Kd.R_alloc | apply Kd.R_drewN | apply Kd.R_drew)); exact Kd.R_mono HO649.out (fun _ hk => ⟨hk.1.1.2, ⟨hk.1.2, hk.2⟩⟩)⟩, ⟨by (with_reducible repeat (first | apply Kd.R_alloc | apply Kd.R_drewN | apply Kd.R_drew)); exact Kd.R_mono HO657.out (fun _ hk => ⟨hk.1.1.1.1.1.1.2, ⟨hk.1.1.1.1.1.2, ⟨hk.1.1.1.2, ⟨hk.1.2, hk.2⟩⟩⟩⟩)⟩, ⟨by (with_reducible repeat (first | apply Kd.R_alloc | apply Kd.R_drewN | apply Kd.R_drew)); exact Kd.R_mono HO661.out (fun _ hk => ⟨hk.1.1.2, ⟨hk.1.2, hk.2⟩⟩)⟩, ⟨by (with_reducible repeat (first | apply Kd.R_alloc | apply Kd.R_drewN | apply Kd.R_drew)); exact Kd.R_mono HO669.out (fun _ hk => ⟨hk.1.1.1.1.1.1.2, ⟨hk.1.1.1.1.1.2, ⟨hk.1.1.1.2, ⟨hk.1.1.2, hk.2⟩⟩⟩⟩)⟩, ⟨by (with_reducible repeat (first | apply Kd.R_alloc | apply Kd.R_drewN | apply Kd.R_drew)); exact Kd.R_mono HO673.out (fun _ hk => ⟨hk.1.1.2, ⟨hk.1.2, hk.2⟩⟩)⟩, ⟨by repeat (first | (with_reducible first | exact HB.out | apply below_alloc | apply pw_below_drewN | apply below_drew1) | exact HB.out)⟩⟩
    ·rw [if_neg c32] at H
     have c32b0 : (t663 == 0) = false := beq_eq_false_iff_ne.mpr c32
     have c32b1 : (t663 != 0) = true := bne_iff_ne.mpr c32
     have H' := Aside0.mk H
     clear H
     go_wp2
     repeat (go_quiet (fail); try go_wp2)
     go_meet
     case rel => exact ⟨_, (true), rf_, H', ⟨by first | omega | exact Nat.le_refl _⟩, ⟨by (with_reducible repeat (first | apply Kd.R_alloc | apply Kd.R_drewN | apply Kd.R_drew)); exact Kd.R_mono HO646.out (fun _ hk => ⟨hk.1.1.2, ⟨hk.1.2, hk.2⟩⟩)⟩, ⟨by (with_reducible repeat (first | apply Kd.R_alloc | apply Kd.R_drewN | apply Kd.R_drew)); exact Kd.R_mono HO649.out (fun _ hk => ⟨hk.1.1.2, ⟨hk.1.2, hk.2⟩⟩)⟩, ⟨by (with_reducible repeat (first | apply Kd.R_alloc | apply Kd.R_drewN | apply Kd.R_drew)); exact Kd.R_mono HO657.out (fun _ hk => ⟨hk.1.1.1.1.1.1.2, ⟨hk.1.1.1.1.1.2, ⟨hk.1.1.1.2, ⟨hk.1.2, hk.2⟩⟩⟩⟩)⟩, ⟨by (with_reducible repeat (first | apply Kd.R_alloc | apply Kd.R_drewN | apply Kd.R_drew)); exact Kd.R_mono HO661.out (fun _ hk => ⟨hk.1.1.2, ⟨hk.1.2, hk.2⟩⟩)⟩, ⟨by (with_reducible repeat (first | apply Kd.R_alloc | apply Kd.R_drewN | apply Kd.R_drew)); exact Kd.R_mono HO669.out (fun _ hk => ⟨hk.1.1.1.1.1.1.2, ⟨hk.1.1.1.1.1.2, ⟨hk.1.1.1.2, ⟨hk.1.1.2, hk.2⟩⟩⟩⟩)⟩, ⟨by (with_reducible repeat (first | apply Kd.R_alloc | apply Kd.R_drewN | apply Kd.R_drew)); exact Kd.R_mono HO673.out (fun _ hk => ⟨hk.1.1.2, ⟨hk.1.2, hk.2⟩⟩)⟩, ⟨by repeat (first | (with_reducible first | exact HB.out | apply below_alloc | apply pw_below_drewN | apply below_drew1) | exact HB.out)⟩⟩
   ·rw [if_neg c31] at H
    have c31b0 : (t659 == 0) = false := beq_eq_false_iff_ne.mpr c31
    have c31b1 : (t659 != 0) = true := bne_iff_ne.mpr c31
    have H' := Aside0.mk H
    clear H
    go_wp2
    repeat (go_quiet (fail); try go_wp2)
    go_meet
    case rel => exact ⟨_, (true), rf_, H', ⟨by first | omega | exact Nat.le_refl _⟩, ⟨by (with_reducible repeat (first | apply Kd.R_alloc | apply Kd.R_drewN | apply Kd.R_drew)); exact Kd.R_mono HO646.out (fun _ hk => ⟨hk.1.1.2, ⟨hk.1.2, hk.2⟩⟩)⟩, ⟨by (with_reducible repeat (first | apply Kd.R_alloc | apply Kd.R_drewN | apply Kd.R_drew)); exact Kd.R_mono HO649.out (fun _ hk => ⟨hk.1.1.2, ⟨hk.1.2, hk.2⟩⟩)⟩, ⟨by (with_reducible repeat (first | apply Kd.R_alloc | apply Kd.R_drewN | apply Kd.R_drew)); exact Kd.R_mono HO657.out (fun _ hk => ⟨hk.1.1.1.1.1.1.2, ⟨hk.1.1.1.1.1.2, ⟨hk.1.1.1.2, ⟨hk.1.2, hk.2⟩⟩⟩⟩)⟩, ⟨by (with_reducible repeat (first | apply Kd.R_alloc | apply Kd.R_drewN | apply Kd.R_drew)); exact Kd.R_mono HO661.out (fun _ hk => ⟨hk.1.1.2, ⟨hk.1.2, hk.2⟩⟩)⟩, ⟨by (with_reducible repeat (first | apply Kd.R_alloc | apply Kd.R_drewN | apply Kd.R_drew)); exact Kd.R_mono HO669.out (fun _ hk => ⟨hk.1.1.1.1.1.1.2, ⟨hk.1.1.1.1.1.2, ⟨hk.1.1.1.2, ⟨hk.1.1.2, hk.2⟩⟩⟩⟩)⟩, ⟨by (with_reducible repeat (first | apply Kd.R_alloc | apply Kd.R_drewN | apply Kd.R_drew)); exact Kd.R_mono HO673.out (fun _ hk => ⟨hk.1.1.2, ⟨hk.1.2, hk.2⟩⟩)⟩, ⟨by repeat (first | (with_reducible first | exact HB.out | apply below_alloc | apply pw_below_drewN | apply below_drew1) | exact HB.out)⟩⟩
  ·rw [if_neg c30] at H
   have c30b0 : (t655 == 0) = false := beq_eq_false_iff_ne.mpr c30
   have c30b1 : (t655 != 0) = true := bne_iff_ne.mpr c30
   (first | rw [c30b0] | rw [c30b1] | (simp only [i64_w, i32_w]; rw [c30b0]) | skip)
   have H' := Aside0.mk H
   clear H
   go_wp2
   repeat (go_quiet (fail); try go_wp2)
   go_meet
   case rel => exact ⟨_, (true), rf_, H', ⟨by first | omega | exact Nat.le_refl _⟩, ⟨by (with_reducible repeat (first | apply Kd.R_alloc | apply Kd.R_drewN | apply Kd.R_drew)); exact Kd.R_mono HO646.out (fun _ hk => ⟨hk.1.1.2, ⟨hk.1.2, hk.2⟩⟩)⟩, ⟨by (with_reducible repeat (first | apply Kd.R_alloc | apply Kd.R_drewN | apply Kd.R_drew)); exact Kd.R_mono HO649.out (fun _ hk => ⟨hk.1.1.2, ⟨hk.1.2, hk.2⟩⟩)⟩, ⟨by (with_reducible repeat (first | apply Kd.R_alloc | apply Kd.R_drewN | apply Kd.R_drew)); exact Kd.R_mono HO657.out (fun _ hk => ⟨hk.1.1.1.1.1.1.2, ⟨hk.1.1.1.1.1.2, ⟨hk.1.1.1.2, ⟨hk.1.2, hk.2⟩⟩⟩⟩)⟩, ⟨by (with_reducible repeat (first | apply Kd.R_alloc | apply Kd.R_drewN | apply Kd.R_drew)); exact Kd.R_mono HO661.out (fun _ hk => ⟨hk.1.1.2, ⟨hk.1.2, hk.2⟩⟩)⟩, ⟨by (with_reducible repeat (first | apply Kd.R_alloc | apply Kd.R_drewN | apply Kd.R_drew)); exact Kd.R_mono HO669.out (fun _ hk => ⟨hk.1.1.1.1.1.1.2, ⟨hk.1.1.1.1.1.2, ⟨hk.1.1.1.2, ⟨hk.1.1.2, hk.2⟩⟩⟩⟩)⟩, ⟨by (with_reducible repeat (first | apply Kd.R_alloc | apply Kd.R_drewN | apply Kd.R_drew)); exact Kd.R_mono HO673.out (fun _ hk => ⟨hk.1.1.2, ⟨hk.1.2, hk.2⟩⟩)⟩, ⟨by repeat (first | (with_reducible first | exact HB.out | apply below_alloc | apply pw_below_drewN | apply below_drew1) | exact HB.out)⟩⟩
 case rest =>
  clear HC14
  (try clear c1);(try clear p2);(try clear c3);(try clear c8);(try clear c30);(try clear c30b0);(try clear c30b1);(try clear c31);(try clear c31b0);(try clear c31b1);(try clear c32);(try clear c32b0);(try clear c32b1);(try clear c33);(try clear c33b0);(try clear c33b1);(try clear c34);(try clear c34b0);(try clear c34b1)
  obtain ⟨kq, x86_13, rfl, HA, HJ13, HO_8, HO_9, HO_11, HO_13, HO_17, HO_19, HB⟩ := hcut
  cases kq with
  | zero => exact absurd HA.out (by simp [collatorlaw06_HunksMakes.j0])
  | succ kj13 =>
   have H := HA.out
   clear HA
   simp only [collatorlaw06_HunksMakes.j0] at H
   by_cases c35 : x86_13 = true
   ·subst c35
    have H1 : (some false) = some r := by rw [if_pos rfl] at H; exact H
    clear H
    have H := H1
    clear H1
    obtain rfl := Option.some.inj H
    go_wp2
    repeat (go_quiet (fail); try go_wp2)
    go_ret
    exact ⟨by first | rfl | (simp [errW_none, errW_some] <;> rfl) | (simp [*, errW_none, errW_some] <;> rfl), by repeat (first | (with_reducible first | exact HB.out | apply below_alloc | apply pw_below_drewN | apply below_drew1) | exact HB.out)⟩
   ·replace c35 := Bool.eq_false_iff.mpr c35
    subst c35
    have H1 : (collatorlaw06_HunksMakes.l0 kj13 t643 t644 t647 t654 t658 t666 t670 0) = some r := by rw [if_neg (show ¬ (false = true) by decide)] at H; exact H
    clear H
    have H := H1
    clear H1
    have H' := Aside0.mk H
    clear H
    go_wp2
    repeat (go_quiet (fail); try go_wp2)
    go_loopg [21] kj13 (fun kq v21 w' => ∃ (x21_2 : Int), v21 = .int .i64 x21_2 ∧ Aside0 (collatorlaw06_HunksMakes.l0 kq t643 t644 t647 t654 t658 t666 t670 x21_2 = some r) ∧ Aside0 (kq ≤ kj13) ∧ Aside0 (Kd.R Kd.string 9 w' w.heap.size (fun k_ => some k_ ≠ ((.slice Ao19 t647.length co19) : Value).ownBlock ∧ some k_ ≠ (v660 : Value).ownBlock ∧ some k_ ≠ (v672 : Value).ownBlock) (.slice Ao18 t644.length co18) t644) ∧ Aside0 (Kd.R Kd.string 9 w' w.heap.size (fun k_ => some k_ ≠ ((.slice Ao18 t644.length co18) : Value).ownBlock ∧ some k_ ≠ (v660 : Value).ownBlock ∧ some k_ ≠ (v672 : Value).ownBlock) (.slice Ao19 t647.length co19) t647) ∧ Aside0 (Kd.R k28 28 w' w.heap.size (fun k_ => some k_ ≠ ((.slice Ao18 t644.length co18) : Value).ownBlock ∧ some k_ ≠ ((.slice Ao19 t647.length co19) : Value).ownBlock ∧ some k_ ≠ (v660 : Value).ownBlock ∧ some k_ ≠ ((.slice Ao28 t666.length co28) : Value).ownBlock ∧ some k_ ≠ (v672 : Value).ownBlock) (.slice Ao23 t654.length co23) t654) ∧ Aside0 (Kd.R Kd.string 9 w' w.heap.size (fun k_ => some k_ ≠ ((.slice Ao18 t644.length co18) : Value).ownBlock ∧ some k_ ≠ ((.slice Ao19 t647.length co19) : Value).ownBlock ∧ some k_ ≠ (v672 : Value).ownBlock) v660 t658) ∧ Aside0 (Kd.R k28 28 w' w.heap.size (fun k_ => some k_ ≠ ((.slice Ao18 t644.length co18) : Value).ownBlock ∧ some k_ ≠ ((.slice Ao19 t647.length co19) : Value).ownBlock ∧ some k_ ≠ ((.slice Ao23 t654.length co23) : Value).ownBlock ∧ some k_ ≠ (v660 : Value).ownBlock ∧ some k_ ≠ (v672 : Value).ownBlock) (.slice Ao28 t666.length co28) t666) ∧ Aside0 (Kd.R Kd.string 9 w' w.heap.size (fun k_ => some k_ ≠ ((.slice Ao18 t644.length co18) : Value).ownBlock ∧ some k_ ≠ ((.slice Ao19 t647.length co19) : Value).ownBlock ∧ some k_ ≠ (v660 : Value).ownBlock) v672 t670) ∧ Aside0 (Below w.heap.size w w'))
    case atStart => exact ⟨(0), rf_, H', ⟨Nat.le_refl _⟩, ⟨by (with_reducible repeat (first | apply Kd.R_alloc | apply Kd.R_drewN | apply Kd.R_drew)); exact HO_8.out⟩, ⟨by (with_reducible repeat (first | apply Kd.R_alloc | apply Kd.R_drewN | apply Kd.R_drew)); exact HO_9.out⟩, ⟨by (with_reducible repeat (first | apply Kd.R_alloc | apply Kd.R_drewN | apply Kd.R_drew)); exact HO_11.out⟩, ⟨by (with_reducible repeat (first | apply Kd.R_alloc | apply Kd.R_drewN | apply Kd.R_drew)); exact HO_13.out⟩, ⟨by (with_reducible repeat (first | apply Kd.R_alloc | apply Kd.R_drewN | apply Kd.R_drew)); exact HO_17.out⟩, ⟨by (with_reducible repeat (first | apply Kd.R_alloc | apply Kd.R_drewN | apply Kd.R_drew)); exact HO_19.out⟩, ⟨by repeat (first | (with_reducible first | exact HB.out | apply below_alloc | apply pw_below_drewN | apply below_drew1) | exact HB.out)⟩⟩
    case round =>
     clear H'
     (try clear c1);(try clear p2);(try clear c3);(try clear c8);(try clear c30);(try clear c30b0);(try clear c30b1);(try clear c31);(try clear c31b0);(try clear c31b1);(try clear c32);(try clear c32b0);(try clear c32b1);(try clear c33);(try clear c33b0);(try clear c33b1);(try clear c34);(try clear c34b0);(try clear c34b1);(try clear c35);(try clear p2)
     obtain ⟨x21_2, rfl, HA, HK2, HO_8, HO_9, HO_11, HO_13, HO_17, HO_19, HB⟩ := hrel
     cases gk with
     | zero => exact absurd HA.out (by simp [collatorlaw06_HunksMakes.l0])
     | succ k2 =>
      have H := HA.out
      clear HA
      simp only [collatorlaw06_HunksMakes.l0] at H
      by_cases c36 : x21_2 < (t654.length : Int)
      ·rw [if_pos c36] at H
       have c36b0 : decide (x21_2 < (t654.length : Int)) = true := decide_eq_true c36
       clear c36
       by_cases c37 : 0 ≤ x21_2
       ·rw [if_pos c37] at H
        have c37b0 : decide (0 ≤ x21_2) = true := decide_eq_true c37
        clear c37
        by_cases c38 : x21_2 < (t666.length : Int)
        ·rw [if_pos c38] at H
         have c38b0 : decide (x21_2 < (t666.length : Int)) = true := decide_eq_true c38
         clear c38
         by_cases c39 : ((rd_T28 t654 x21_2).f0) = ((rd_T28 t666 x21_2).f1)
         ·rw [if_pos c39] at H
          have c39b0 : (((rd_T28 t654 x21_2).f0) == ((rd_T28 t666 x21_2).f1)) = true := beq_iff_eq.mpr c39
          have c39b1 : (((rd_T28 t654 x21_2).f0) != ((rd_T28 t666 x21_2).f1)) = false := bne_eq_false_iff_eq.mpr c39
          clear c39
          by_cases c40 : ((rd_T28 t654 x21_2).f1) = ((rd_T28 t666 x21_2).f0)
          ·rw [if_pos c40] at H
           have c40b0 : (((rd_T28 t654 x21_2).f1) == ((rd_T28 t666 x21_2).f0)) = true := beq_iff_eq.mpr c40
           have c40b1 : (((rd_T28 t654 x21_2).f1) != ((rd_T28 t666 x21_2).f0)) = false := bne_eq_false_iff_eq.mpr c40
           clear c40
           have H' := Aside0.mk H
           clear H
           have p674 : 0 ≤ (x21_2 : Int) := of_decide_eq_true as_
           have q674 : x21_2 < (t654.length : Int) := of_decide_eq_true as_
           obtain ⟨ad674, A674_2, c674_2, e674, hx674_0, hx674_1, hx674_2, hl674_2, hi674_2⟩ := at_T28 (Kd.R_reads' HO_11.out).2.2 x21_2 p674 q674
           cases e674
           obtain ⟨ce674, hce674, hMe674, hcc674⟩ := Kd.R_get HO_11.out z28 x21_2 p674 (by first | exact q674 | exact of_decide_eq_true as_ | (have e_ := (Kd.R_reads' HO_11.out).1; omega))
           obtain ⟨ve674_2, rfl, ge674_2⟩ := k28_openM hMe674
           have hv674_2 := hcc674 2 _ rfl
           rw [add_field _ _ 2 (by omega)] at hv674_2
           replace hv674_2 := Option.some.inj (hv674_2.symm.trans hx674_2)
           rw [hv674_2] at ge674_2
           have HL674_2 := Aside0.mk (show Kd.R k31 31 _ _ _ _ ((rd_T28 t654 x21_2).f2) from ge674_2)
           clear hv674_2 ge674_2
           clear hcc674 hce674
           have HR674_2 := Aside0.mk hi674_2
           have HC674_2 := Aside0.mk hl674_2
           clear hi674_2 hl674_2
           replace p674 := eq_true p674
           replace q674 := eq_true q674
           have p675 : 0 ≤ (x21_2 : Int) := of_decide_eq_true as_
           have q675 : x21_2 < (t666.length : Int) := of_decide_eq_true as_
           obtain ⟨ad675, A675_2, c675_2, e675, hx675_0, hx675_1, hx675_2, hl675_2, hi675_2⟩ := at_T28 (Kd.R_reads' HO_17.out).2.2 x21_2 p675 q675
           cases e675
           obtain ⟨ce675, hce675, hMe675, hcc675⟩ := Kd.R_get HO_17.out z28 x21_2 p675 (by first | exact q675 | exact of_decide_eq_true as_ | (have e_ := (Kd.R_reads' HO_17.out).1; omega))
           obtain ⟨ve675_2, rfl, ge675_2⟩ := k28_openM hMe675
           have hv675_2 := hcc675 2 _ rfl
           rw [add_field _ _ 2 (by omega)] at hv675_2
           replace hv675_2 := Option.some.inj (hv675_2.symm.trans hx675_2)
           rw [hv675_2] at ge675_2
           have HL675_2 := Aside0.mk (show Kd.R k31 31 _ _ _ _ ((rd_T28 t666 x21_2).f2) from ge675_2)
           clear hv675_2 ge675_2
           clear hcc675 hce675
           have HR675_2 := Aside0.mk hi675_2
           have HC675_2 := Aside0.mk hl675_2
           clear hi675_2 hl675_2
           replace p675 := eq_true p675
           replace q675 := eq_true q675
           have p676 : 0 ≤ (x21_2 : Int) := of_decide_eq_true as_
           have q676 : x21_2 < (t654.length : Int) := of_decide_eq_true as_
           obtain ⟨ad676, A676_2, c676_2, e676, hx676_0, hx676_1, hx676_2, hl676_2, hi676_2⟩ := at_T28 (Kd.R_reads' HO_11.out).2.2 x21_2 p676 q676
           obtain rfl : ad674 = ad676 := (by injection e676)
           obtain ⟨ce676, hce676, hMe676, hcc676⟩ := Kd.R_get HO_11.out z28 x21_2 p676 (by first | exact q676 | exact of_decide_eq_true as_ | (have e_ := (Kd.R_reads' HO_11.out).1; omega))
           obtain ⟨ve676_2, rfl, ge676_2⟩ := k28_openM hMe676
           have hv676_2 := hcc676 2 _ rfl
           rw [add_field _ _ 2 (by omega)] at hv676_2
           replace hv676_2 := Option.some.inj (hv676_2.symm.trans hx676_2)
           rw [hv676_2] at ge676_2
           have HL676_2 := Aside0.mk (show Kd.R k31 31 _ _ _ _ ((rd_T28 t654 x21_2).f2) from ge676_2)
           clear hv676_2 ge676_2
           clear hcc676 hce676
           have HR676_2 := Aside0.mk hi676_2
           have HC676_2 := Aside0.mk hl676_2
           clear hi676_2 hl676_2
           replace p676 := eq_true p676
           replace q676 := eq_true q676
           have ea_ := Option.some.inj (hx674_2.symm.trans hx676_2)
           injection ea_ with ea_ en_ ec_
           subst ea_
           subst ec_
           clear en_
           have p677 : 0 ≤ (x21_2 : Int) := of_decide_eq_true as_
           have q677 : x21_2 < (t666.length : Int) := of_decide_eq_true as_
           obtain ⟨ad677, A677_2, c677_2, e677, hx677_0, hx677_1, hx677_2, hl677_2, hi677_2⟩ := at_T28 (Kd.R_reads' HO_17.out).2.2 x21_2 p677 q677
           obtain rfl : ad675 = ad677 := (by injection e677)
           obtain ⟨ce677, hce677, hMe677, hcc677⟩ := Kd.R_get HO_17.out z28 x21_2 p677 (by first | exact q677 | exact of_decide_eq_true as_ | (have e_ := (Kd.R_reads' HO_17.out).1; omega))
           obtain ⟨ve677_2, rfl, ge677_2⟩ := k28_openM hMe677
           have hv677_2 := hcc677 2 _ rfl
           rw [add_field _ _ 2 (by omega)] at hv677_2
           replace hv677_2 := Option.some.inj (hv677_2.symm.trans hx677_2)
           rw [hv677_2] at ge677_2
           have HL677_2 := Aside0.mk (show Kd.R k31 31 _ _ _ _ ((rd_T28 t666 x21_2).f2) from ge677_2)
           clear hv677_2 ge677_2
           clear hcc677 hce677
           have HR677_2 := Aside0.mk hi677_2
           have HC677_2 := Aside0.mk hl677_2
           clear hi677_2 hl677_2
           replace p677 := eq_true p677
           replace q677 := eq_true q677
           have ea_ := Option.some.inj (hx675_2.symm.trans hx677_2)
           injection ea_ with ea_ en_ ec_
           subst ea_
           subst ec_
           clear en_
           go_wp2
           repeat (go_quiet (fail); try go_wp2)
           go_roundg k2
           case measure => have := HJ13.out; have := HK2.out; omega
           case rel => exact ⟨(wrap64 (x21_2 + 1)), rf_, H', ⟨by have := HJ13.out; have := HK2.out; omega⟩, ⟨by (with_reducible repeat (first | apply Kd.R_alloc | apply Kd.R_drewN | apply Kd.R_drew)); exact HO_8.out⟩, ⟨by (with_reducible repeat (first | apply Kd.R_alloc | apply Kd.R_drewN | apply Kd.R_drew)); exact HO_9.out⟩, ⟨by (with_reducible repeat (first | apply Kd.R_alloc | apply Kd.R_drewN | apply Kd.R_drew)); exact HO_11.out⟩, ⟨by (with_reducible repeat (first | apply Kd.R_alloc | apply Kd.R_drewN | apply Kd.R_drew)); exact HO_13.out⟩, ⟨by (with_reducible repeat (first | apply Kd.R_alloc | apply Kd.R_drewN | apply Kd.R_drew)); exact HO_17.out⟩, ⟨by (with_reducible repeat (first | apply Kd.R_alloc | apply Kd.R_drewN | apply Kd.R_drew)); exact HO_19.out⟩, ⟨by repeat (first | (with_reducible first | exact HB.out | apply below_alloc | apply pw_below_drewN | apply below_drew1) | exact HB.out)⟩⟩
          ·rw [if_neg c40] at H
           have c40b0 : (((rd_T28 t654 x21_2).f1) == ((rd_T28 t666 x21_2).f0)) = false := beq_eq_false_iff_ne.mpr c40
           have c40b1 : (((rd_T28 t654 x21_2).f1) != ((rd_T28 t666 x21_2).f0)) = true := bne_iff_ne.mpr c40
           obtain rfl := Option.some.inj H
           have p674 : 0 ≤ (x21_2 : Int) := of_decide_eq_true as_
           have q674 : x21_2 < (t654.length : Int) := of_decide_eq_true as_
           obtain ⟨ad674, A674_2, c674_2, e674, hx674_0, hx674_1, hx674_2, hl674_2, hi674_2⟩ := at_T28 (Kd.R_reads' HO_11.out).2.2 x21_2 p674 q674
           cases e674
           obtain ⟨ce674, hce674, hMe674, hcc674⟩ := Kd.R_get HO_11.out z28 x21_2 p674 (by first | exact q674 | exact of_decide_eq_true as_ | (have e_ := (Kd.R_reads' HO_11.out).1; omega))
           obtain ⟨ve674_2, rfl, ge674_2⟩ := k28_openM hMe674
           have hv674_2 := hcc674 2 _ rfl
           rw [add_field _ _ 2 (by omega)] at hv674_2
           replace hv674_2 := Option.some.inj (hv674_2.symm.trans hx674_2)
           rw [hv674_2] at ge674_2
           have HL674_2 := Aside0.mk (show Kd.R k31 31 _ _ _ _ ((rd_T28 t654 x21_2).f2) from ge674_2)
           clear hv674_2 ge674_2
           clear hcc674 hce674
           have HR674_2 := Aside0.mk hi674_2
           have HC674_2 := Aside0.mk hl674_2
           clear hi674_2 hl674_2
           replace p674 := eq_true p674
           replace q674 := eq_true q674
           have p675 : 0 ≤ (x21_2 : Int) := of_decide_eq_true as_
           have q675 : x21_2 < (t666.length : Int) := of_decide_eq_true as_
           obtain ⟨ad675, A675_2, c675_2, e675, hx675_0, hx675_1, hx675_2, hl675_2, hi675_2⟩ := at_T28 (Kd.R_reads' HO_17.out).2.2 x21_2 p675 q675
           cases e675
           obtain ⟨ce675, hce675, hMe675, hcc675⟩ := Kd.R_get HO_17.out z28 x21_2 p675 (by first | exact q675 | exact of_decide_eq_true as_ | (have e_ := (Kd.R_reads' HO_17.out).1; omega))
           obtain ⟨ve675_2, rfl, ge675_2⟩ := k28_openM hMe675
           have hv675_2 := hcc675 2 _ rfl
           rw [add_field _ _ 2 (by omega)] at hv675_2
           replace hv675_2 := Option.some.inj (hv675_2.symm.trans hx675_2)
           rw [hv675_2] at ge675_2
           have HL675_2 := Aside0.mk (show Kd.R k31 31 _ _ _ _ ((rd_T28 t666 x21_2).f2) from ge675_2)
           clear hv675_2 ge675_2
           clear hcc675 hce675
           have HR675_2 := Aside0.mk hi675_2
           have HC675_2 := Aside0.mk hl675_2
           clear hi675_2 hl675_2
           replace p675 := eq_true p675
           replace q675 := eq_true q675
           have p676 : 0 ≤ (x21_2 : Int) := of_decide_eq_true as_
           have q676 : x21_2 < (t654.length : Int) := of_decide_eq_true as_
           obtain ⟨ad676, A676_2, c676_2, e676, hx676_0, hx676_1, hx676_2, hl676_2, hi676_2⟩ := at_T28 (Kd.R_reads' HO_11.out).2.2 x21_2 p676 q676
           obtain rfl : ad674 = ad676 := (by injection e676)
           obtain ⟨ce676, hce676, hMe676, hcc676⟩ := Kd.R_get HO_11.out z28 x21_2 p676 (by first | exact q676 | exact of_decide_eq_true as_ | (have e_ := (Kd.R_reads' HO_11.out).1; omega))
           obtain ⟨ve676_2, rfl, ge676_2⟩ := k28_openM hMe676
           have hv676_2 := hcc676 2 _ rfl
           rw [add_field _ _ 2 (by omega)] at hv676_2
           replace hv676_2 := Option.some.inj (hv676_2.symm.trans hx676_2)
           rw [hv676_2] at ge676_2
           have HL676_2 := Aside0.mk (show Kd.R k31 31 _ _ _ _ ((rd_T28 t654 x21_2).f2) from ge676_2)
           clear hv676_2 ge676_2
           clear hcc676 hce676
           have HR676_2 := Aside0.mk hi676_2
           have HC676_2 := Aside0.mk hl676_2
           clear hi676_2 hl676_2
           replace p676 := eq_true p676
           replace q676 := eq_true q676
           have ea_ := Option.some.inj (hx674_2.symm.trans hx676_2)
           injection ea_ with ea_ en_ ec_
           subst ea_
           subst ec_
           clear en_
           have p677 : 0 ≤ (x21_2 : Int) := of_decide_eq_true as_
           have q677 : x21_2 < (t666.length : Int) := of_decide_eq_true as_
           obtain ⟨ad677, A677_2, c677_2, e677, hx677_0, hx677_1, hx677_2, hl677_2, hi677_2⟩ := at_T28 (Kd.R_reads' HO_17.out).2.2 x21_2 p677 q677
           obtain rfl : ad675 = ad677 := (by injection e677)
           obtain ⟨ce677, hce677, hMe677, hcc677⟩ := Kd.R_get HO_17.out z28 x21_2 p677 (by first | exact q677 | exact of_decide_eq_true as_ | (have e_ := (Kd.R_reads' HO_17.out).1; omega))
           obtain ⟨ve677_2, rfl, ge677_2⟩ := k28_openM hMe677
           have hv677_2 := hcc677 2 _ rfl
           rw [add_field _ _ 2 (by omega)] at hv677_2
           replace hv677_2 := Option.some.inj (hv677_2.symm.trans hx677_2)
           rw [hv677_2] at ge677_2
           have HL677_2 := Aside0.mk (show Kd.R k31 31 _ _ _ _ ((rd_T28 t666 x21_2).f2) from ge677_2)
           clear hv677_2 ge677_2
           clear hcc677 hce677
           have HR677_2 := Aside0.mk hi677_2
           have HC677_2 := Aside0.mk hl677_2
           clear hi677_2 hl677_2
           replace p677 := eq_true p677
           replace q677 := eq_true q677
           have ea_ := Option.some.inj (hx675_2.symm.trans hx677_2)
           injection ea_ with ea_ en_ ec_
           subst ea_
           subst ec_
           clear en_
           go_wp2
           repeat (go_quiet (fail); try go_wp2)
           go_ret
           exact ⟨by first | rfl | (simp [errW_none, errW_some] <;> rfl) | (simp [*, errW_none, errW_some] <;> rfl), by repeat (first | (with_reducible first | exact HB.out | apply below_alloc | apply pw_below_drewN | apply below_drew1) | exact HB.out)⟩
         ·rw [if_neg c39] at H
          have c39b0 : (((rd_T28 t654 x21_2).f0) == ((rd_T28 t666 x21_2).f1)) = false := beq_eq_false_iff_ne.mpr c39
          have c39b1 : (((rd_T28 t654 x21_2).f0) != ((rd_T28 t666 x21_2).f1)) = true := bne_iff_ne.mpr c39
          obtain rfl := Option.some.inj H
          have p674 : 0 ≤ (x21_2 : Int) := of_decide_eq_true as_
          have q674 : x21_2 < (t654.length : Int) := of_decide_eq_true as_
          obtain ⟨ad674, A674_2, c674_2, e674, hx674_0, hx674_1, hx674_2, hl674_2, hi674_2⟩ := at_T28 (Kd.R_reads' HO_11.out).2.2 x21_2 p674 q674
          cases e674
          obtain ⟨ce674, hce674, hMe674, hcc674⟩ := Kd.R_get HO_11.out z28 x21_2 p674 (by first | exact q674 | exact of_decide_eq_true as_ | (have e_ := (Kd.R_reads' HO_11.out).1; omega))
          obtain ⟨ve674_2, rfl, ge674_2⟩ := k28_openM hMe674
          have hv674_2 := hcc674 2 _ rfl
          rw [add_field _ _ 2 (by omega)] at hv674_2
          replace hv674_2 := Option.some.inj (hv674_2.symm.trans hx674_2)
          rw [hv674_2] at ge674_2
          have HL674_2 := Aside0.mk (show Kd.R k31 31 _ _ _ _ ((rd_T28 t654 x21_2).f2) from ge674_2)
          clear hv674_2 ge674_2
          clear hcc674 hce674
          have HR674_2 := Aside0.mk hi674_2
          have HC674_2 := Aside0.mk hl674_2
          clear hi674_2 hl674_2
          replace p674 := eq_true p674
          replace q674 := eq_true q674
          have p675 : 0 ≤ (x21_2 : Int) := of_decide_eq_true as_
          have q675 : x21_2 < (t666.length : Int) := of_decide_eq_true as_
          obtain ⟨ad675, A675_2, c675_2, e675, hx675_0, hx675_1, hx675_2, hl675_2, hi675_2⟩ := at_T28 (Kd.R_reads' HO_17.out).2.2 x21_2 p675 q675
          cases e675
          obtain ⟨ce675, hce675, hMe675, hcc675⟩ := Kd.R_get HO_17.out z28 x21_2 p675 (by first | exact q675 | exact of_decide_eq_true as_ | (have e_ := (Kd.R_reads' HO_17.out).1; omega))
          obtain ⟨ve675_2, rfl, ge675_2⟩ := k28_openM hMe675
          have hv675_2 := hcc675 2 _ rfl
          rw [add_field _ _ 2 (by omega)] at hv675_2
          replace hv675_2 := Option.some.inj (hv675_2.symm.trans hx675_2)
          rw [hv675_2] at ge675_2
          have HL675_2 := Aside0.mk (show Kd.R k31 31 _ _ _ _ ((rd_T28 t666 x21_2).f2) from ge675_2)
          clear hv675_2 ge675_2
          clear hcc675 hce675
          have HR675_2 := Aside0.mk hi675_2
          have HC675_2 := Aside0.mk hl675_2
          clear hi675_2 hl675_2
          replace p675 := eq_true p675
          replace q675 := eq_true q675
          go_wp2
          repeat (go_quiet (fail); try go_wp2)
          go_ret
          exact ⟨by first | rfl | (simp [errW_none, errW_some] <;> rfl) | (simp [*, errW_none, errW_some] <;> rfl), by repeat (first | (with_reducible first | exact HB.out | apply below_alloc | apply pw_below_drewN | apply below_drew1) | exact HB.out)⟩
        ·rw [if_neg c38] at H
         exact absurd H (by simp)
       ·rw [if_neg c37] at H
        exact absurd H (by simp)
      ·rw [if_neg c36] at H
       have c36b0 : decide (x21_2 < (t654.length : Int)) = false := decide_eq_false c36
       clear c36
       by_cases c41 : t643 = true
       ·subst c41
        have H1 : ((collatorref01_Texts.f k2 t658 t647).bind fun t678 => (if t678 = true then ((collatorref01_Texts.f k2 t670 t644).bind fun t679 => (some t679)) else (some false))) = some r := by rw [if_pos rfl] at H; exact H
        clear H
        have H := H1
        clear H1
        replace H := Option.bind_eq_some_iff.mp H
        obtain ⟨t678, A420, H⟩ := H
        replace H : (if t678 = true then ((collatorref01_Texts.f k2 t670 t644).bind fun t679 => (some t679)) else (some false)) = some r := H
        have A42 := Aside0.mk A420
        clear A420
        by_cases c43 : t678 = true
        ·subst c43
         have H1 : ((collatorref01_Texts.f k2 t670 t644).bind fun t679 => (some t679)) = some r := by rw [if_pos rfl] at H; exact H
         clear H
         have H := H1
         clear H1
         replace H := Option.bind_eq_some_iff.mp H
         obtain ⟨t679, A440, H⟩ := H
         replace H : (some t679) = some r := H
         have A44 := Aside0.mk A440
         clear A440
         obtain rfl := Option.some.inj H
         obtain ⟨Ao45, co45, eo45⟩ := Kd.R_slice HO_13.out
         subst eo45
         go_wp2_with (first | (go_at_call 24; (with_reducible refine (collatorref01_Texts.calls k2 _ _ t658 _ _ t647 true _ ?side1 ?side2 ?side3 ?side4 A42.out).mono ?_); (case side1 => repeat (first | exact (Kd.R_reads' HO_13.out).2.2 | (with_reducible refine Kd.C_alloc ?_ _) | (with_reducible refine Kd.C_drewN ?_ _) | (with_reducible refine Kd.C_drew ?_))); (case side2 => exact (Kd.R_reads' HO_13.out).2.1); (case side3 => repeat (first | exact (Kd.R_reads' HO_9.out).2.2 | (with_reducible refine Kd.C_alloc ?_ _) | (with_reducible refine Kd.C_drewN ?_ _) | (with_reducible refine Kd.C_drew ?_))); (case side4 => exact (Kd.R_reads' HO_9.out).2.1); rintro e w' ⟨rfl, ⟨nd, rfl⟩⟩; (try first | exact ⟨rfl, _, World.drewN_drewN _ _ _⟩ | exact ⟨rfl, _, Eq.trans (World.drewN_drewN _ _ _) (congrArg (World.drewN _) (Nat.add_assoc _ _ _))⟩); all_goals ((try (obtain ⟨Ao46, co46, eo46⟩ := Kd.R_slice HO_19.out; subst eo46)))) | (go_at_call 24; (with_reducible refine (collatorref01_Texts.calls k2 _ _ t670 _ _ t644 t679 _ ?side1 ?side2 ?side3 ?side4 A44.out).mono ?_); (case side1 => repeat (first | exact (Kd.R_reads' HO_19.out).2.2 | (with_reducible refine Kd.C_alloc ?_ _) | (with_reducible refine Kd.C_drewN ?_ _) | (with_reducible refine Kd.C_drew ?_))); (case side2 => exact (Kd.R_reads' HO_19.out).2.1); (case side3 => repeat (first | exact (Kd.R_reads' HO_8.out).2.2 | (with_reducible refine Kd.C_alloc ?_ _) | (with_reducible refine Kd.C_drewN ?_ _) | (with_reducible refine Kd.C_drew ?_))); (case side4 => exact (Kd.R_reads' HO_8.out).2.1); rintro e w' ⟨rfl, ⟨nd, rfl⟩⟩; (try first | exact ⟨rfl, _, World.drewN_drewN _ _ _⟩ | exact ⟨rfl, _, Eq.trans (World.drewN_drewN _ _ _) (congrArg (World.drewN _) (Nat.add_assoc _ _ _))⟩)))
         repeat (go_quiet (first | (go_at_call 24; (with_reducible refine (collatorref01_Texts.calls k2 _ _ t658 _ _ t647 true _ ?side1 ?side2 ?side3 ?side4 A42.out).mono ?_); (case side1 => repeat (first | exact (Kd.R_reads' HO_13.out).2.2 | (with_reducible refine Kd.C_alloc ?_ _) | (with_reducible refine Kd.C_drewN ?_ _) | (with_reducible refine Kd.C_drew ?_))); (case side2 => exact (Kd.R_reads' HO_13.out).2.1); (case side3 => repeat (first | exact (Kd.R_reads' HO_9.out).2.2 | (with_reducible refine Kd.C_alloc ?_ _) | (with_reducible refine Kd.C_drewN ?_ _) | (with_reducible refine Kd.C_drew ?_))); (case side4 => exact (Kd.R_reads' HO_9.out).2.1); rintro e w' ⟨rfl, ⟨nd, rfl⟩⟩; (try first | exact ⟨rfl, _, World.drewN_drewN _ _ _⟩ | exact ⟨rfl, _, Eq.trans (World.drewN_drewN _ _ _) (congrArg (World.drewN _) (Nat.add_assoc _ _ _))⟩); all_goals ((try (obtain ⟨Ao46, co46, eo46⟩ := Kd.R_slice HO_19.out; subst eo46)))) | (go_at_call 24; (with_reducible refine (collatorref01_Texts.calls k2 _ _ t670 _ _ t644 t679 _ ?side1 ?side2 ?side3 ?side4 A44.out).mono ?_); (case side1 => repeat (first | exact (Kd.R_reads' HO_19.out).2.2 | (with_reducible refine Kd.C_alloc ?_ _) | (with_reducible refine Kd.C_drewN ?_ _) | (with_reducible refine Kd.C_drew ?_))); (case side2 => exact (Kd.R_reads' HO_19.out).2.1); (case side3 => repeat (first | exact (Kd.R_reads' HO_8.out).2.2 | (with_reducible refine Kd.C_alloc ?_ _) | (with_reducible refine Kd.C_drewN ?_ _) | (with_reducible refine Kd.C_drew ?_))); (case side4 => exact (Kd.R_reads' HO_8.out).2.1); rintro e w' ⟨rfl, ⟨nd, rfl⟩⟩; (try first | exact ⟨rfl, _, World.drewN_drewN _ _ _⟩ | exact ⟨rfl, _, Eq.trans (World.drewN_drewN _ _ _) (congrArg (World.drewN _) (Nat.add_assoc _ _ _))⟩))); try go_wp2_with (first | (go_at_call 24; (with_reducible refine (collatorref01_Texts.calls k2 _ _ t658 _ _ t647 true _ ?side1 ?side2 ?side3 ?side4 A42.out).mono ?_); (case side1 => repeat (first | exact (Kd.R_reads' HO_13.out).2.2 | (with_reducible refine Kd.C_alloc ?_ _) | (with_reducible refine Kd.C_drewN ?_ _) | (with_reducible refine Kd.C_drew ?_))); (case side2 => exact (Kd.R_reads' HO_13.out).2.1); (case side3 => repeat (first | exact (Kd.R_reads' HO_9.out).2.2 | (with_reducible refine Kd.C_alloc ?_ _) | (with_reducible refine Kd.C_drewN ?_ _) | (with_reducible refine Kd.C_drew ?_))); (case side4 => exact (Kd.R_reads' HO_9.out).2.1); rintro e w' ⟨rfl, ⟨nd, rfl⟩⟩; (try first | exact ⟨rfl, _, World.drewN_drewN _ _ _⟩ | exact ⟨rfl, _, Eq.trans (World.drewN_drewN _ _ _) (congrArg (World.drewN _) (Nat.add_assoc _ _ _))⟩); all_goals ((try (obtain ⟨Ao46, co46, eo46⟩ := Kd.R_slice HO_19.out; subst eo46)))) | (go_at_call 24; (with_reducible refine (collatorref01_Texts.calls k2 _ _ t670 _ _ t644 t679 _ ?side1 ?side2 ?side3 ?side4 A44.out).mono ?_); (case side1 => repeat (first | exact (Kd.R_reads' HO_19.out).2.2 | (with_reducible refine Kd.C_alloc ?_ _) | (with_reducible refine Kd.C_drewN ?_ _) | (with_reducible refine Kd.C_drew ?_))); (case side2 => exact (Kd.R_reads' HO_19.out).2.1); (case side3 => repeat (first | exact (Kd.R_reads' HO_8.out).2.2 | (with_reducible refine Kd.C_alloc ?_ _) | (with_reducible refine Kd.C_drewN ?_ _) | (with_reducible refine Kd.C_drew ?_))); (case side4 => exact (Kd.R_reads' HO_8.out).2.1); rintro e w' ⟨rfl, ⟨nd, rfl⟩⟩; (try first | exact ⟨rfl, _, World.drewN_drewN _ _ _⟩ | exact ⟨rfl, _, Eq.trans (World.drewN_drewN _ _ _) (congrArg (World.drewN _) (Nat.add_assoc _ _ _))⟩))))
         go_ret
         exact ⟨by first | rfl | (simp [errW_none, errW_some] <;> rfl) | (simp [*, errW_none, errW_some] <;> rfl), by repeat (first | (with_reducible first | exact HB.out | apply below_alloc | apply pw_below_drewN | apply below_drew1) | exact HB.out)⟩
        ·replace c43 := Bool.eq_false_iff.mpr c43
         subst c43
         have H1 : (some false) = some r := by rw [if_neg (show ¬ (false = true) by decide)] at H; exact H
         clear H
         have H := H1
         clear H1
         obtain rfl := Option.some.inj H
         obtain ⟨Ao47, co47, eo47⟩ := Kd.R_slice HO_13.out
         subst eo47
         go_wp2_with (first | (go_at_call 24; (with_reducible refine (collatorref01_Texts.calls k2 _ _ t658 _ _ t647 false _ ?side1 ?side2 ?side3 ?side4 A42.out).mono ?_); (case side1 => repeat (first | exact (Kd.R_reads' HO_13.out).2.2 | (with_reducible refine Kd.C_alloc ?_ _) | (with_reducible refine Kd.C_drewN ?_ _) | (with_reducible refine Kd.C_drew ?_))); (case side2 => exact (Kd.R_reads' HO_13.out).2.1); (case side3 => repeat (first | exact (Kd.R_reads' HO_9.out).2.2 | (with_reducible refine Kd.C_alloc ?_ _) | (with_reducible refine Kd.C_drewN ?_ _) | (with_reducible refine Kd.C_drew ?_))); (case side4 => exact (Kd.R_reads' HO_9.out).2.1); rintro e w' ⟨rfl, ⟨nd, rfl⟩⟩; (try first | exact ⟨rfl, _, World.drewN_drewN _ _ _⟩ | exact ⟨rfl, _, Eq.trans (World.drewN_drewN _ _ _) (congrArg (World.drewN _) (Nat.add_assoc _ _ _))⟩)))
         repeat (go_quiet (first | (go_at_call 24; (with_reducible refine (collatorref01_Texts.calls k2 _ _ t658 _ _ t647 false _ ?side1 ?side2 ?side3 ?side4 A42.out).mono ?_); (case side1 => repeat (first | exact (Kd.R_reads' HO_13.out).2.2 | (with_reducible refine Kd.C_alloc ?_ _) | (with_reducible refine Kd.C_drewN ?_ _) | (with_reducible refine Kd.C_drew ?_))); (case side2 => exact (Kd.R_reads' HO_13.out).2.1); (case side3 => repeat (first | exact (Kd.R_reads' HO_9.out).2.2 | (with_reducible refine Kd.C_alloc ?_ _) | (with_reducible refine Kd.C_drewN ?_ _) | (with_reducible refine Kd.C_drew ?_))); (case side4 => exact (Kd.R_reads' HO_9.out).2.1); rintro e w' ⟨rfl, ⟨nd, rfl⟩⟩; (try first | exact ⟨rfl, _, World.drewN_drewN _ _ _⟩ | exact ⟨rfl, _, Eq.trans (World.drewN_drewN _ _ _) (congrArg (World.drewN _) (Nat.add_assoc _ _ _))⟩))); try go_wp2_with (first | (go_at_call 24; (with_reducible refine (collatorref01_Texts.calls k2 _ _ t658 _ _ t647 false _ ?side1 ?side2 ?side3 ?side4 A42.out).mono ?_); (case side1 => repeat (first | exact (Kd.R_reads' HO_13.out).2.2 | (with_reducible refine Kd.C_alloc ?_ _) | (with_reducible refine Kd.C_drewN ?_ _) | (with_reducible refine Kd.C_drew ?_))); (case side2 => exact (Kd.R_reads' HO_13.out).2.1); (case side3 => repeat (first | exact (Kd.R_reads' HO_9.out).2.2 | (with_reducible refine Kd.C_alloc ?_ _) | (with_reducible refine Kd.C_drewN ?_ _) | (with_reducible refine Kd.C_drew ?_))); (case side4 => exact (Kd.R_reads' HO_9.out).2.1); rintro e w' ⟨rfl, ⟨nd, rfl⟩⟩; (try first | exact ⟨rfl, _, World.drewN_drewN _ _ _⟩ | exact ⟨rfl, _, Eq.trans (World.drewN_drewN _ _ _) (congrArg (World.drewN _) (Nat.add_assoc _ _ _))⟩))))
         go_ret
         exact ⟨by first | rfl | (simp [errW_none, errW_some] <;> rfl) | (simp [*, errW_none, errW_some] <;> rfl), by repeat (first | (with_reducible first | exact HB.out | apply below_alloc | apply pw_below_drewN | apply below_drew1) | exact HB.out)⟩
       ·replace c41 := Bool.eq_false_iff.mpr c41
        subst c41
        have H1 : (some false) = some r := by rw [if_neg (show ¬ (false = true) by decide)] at H; exact H
        clear H
        have H := H1
        clear H1
        obtain rfl := Option.some.inj H
        go_wp2
        repeat (go_quiet (fail); try go_wp2)
        go_ret
        exact ⟨by first | rfl | (simp [errW_none, errW_some] <;> rfl) | (simp [*, errW_none, errW_some] <;> rfl), by repeat (first | (with_reducible first | exact HB.out | apply below_alloc | apply pw_below_drewN | apply below_drew1) | exact HB.out)⟩

/-- THE ONE PURE STATEMENT of collatorlaw06_HunksMakes: yours. -/
def collatorlaw06_HunksMakes.Pure : Prop := ∀ (l0 : List Int) (l1 : List Int) (a2 : Int), l0.length ≤ maxLen → l0.length * 8 ≤ 140737488351232 → (∀ x ∈ l0, (Lit.int .i64 x).wf = true) → l1.length ≤ maxLen → l1.length * 8 ≤ 140737488351232 → (∀ x ∈ l1, (Lit.int .i64 x).wf = true) → (Lit.int .i64 a2).wf = true → ∃ k, collatorlaw06_HunksMakes.f k l0 l1 a2 = some true
theorem collatorlaw06_HunksMakes.walk (P : collatorlaw06_HunksMakes.Pure) (a0 : Option Addr) (len0 cap0 : Nat) (z0 : List Int) (a1 : Option Addr) (len1 cap1 : Nat) (z1 : List Int) (a2 : Int) (w : World) (w0 : (a0 = none ∧ len0 = 0 ∧ cap0 = 0 ∧ z0 = []) ∨ ∃ x, a0 = some x ∧ len0 ≤ cap0 ∧ cap0 ≤ maxLen ∧ z0.length = cap0 ∧ (∀ i, i < z0.length → w.cell? (x.add i) = some (.int .i64 (z0.getD i 0))) ∧ ∀ n ∈ z0, (Lit.int .i64 n).wf = true) (y0 : len0 * 8 ≤ 140737488351232) (w1 : (a1 = none ∧ len1 = 0 ∧ cap1 = 0 ∧ z1 = []) ∨ ∃ x, a1 = some x ∧ len1 ≤ cap1 ∧ cap1 ≤ maxLen ∧ z1.length = cap1 ∧ (∀ i, i < z1.length → w.cell? (x.add i) = some (.int .i64 (z1.getD i 0))) ∧ ∀ n ∈ z1, (Lit.int .i64 n).wf = true) (y1 : len1 * 8 ≤ 140737488351232) (w2 : (Lit.int .i64 a2).wf = true) :
  Calls Try.prog 8 #[.slice a0 len0 cap0, .slice a1 len1 cap1, .int .i64 a2] w fun e w' => e = .returned (.bool true) ∧ Below w.heap.size w w' := by
 obtain ⟨l0, rfl, hr0, hm0, hw0, hc0⟩ := ReadsInt.ofRowC w0
 obtain ⟨l1, rfl, hr1, hm1, hw1, hc1⟩ := ReadsInt.ofRowC w1
 obtain ⟨k, h⟩ := P l0 l1 a2 hm0 y0 hw0 hm1 y1 hw1 w2
 refine (collatorlaw06_HunksMakes.calls k _ _ l0 _ _ l1 a2 true w (Kd.C_of_reads (d := (0 : Int)) (h1 := fun _ => rfl) hr0) hc0 (Kd.C_of_reads (d := (0 : Int)) (h1 := fun _ => rfl) hr1) hc1 h).mono ?_
 rintro e w' ⟨rfl, hd⟩
 exact ⟨rfl, hd⟩

end Go.Proofs.Ytgobidmfbjmpkaa.P
