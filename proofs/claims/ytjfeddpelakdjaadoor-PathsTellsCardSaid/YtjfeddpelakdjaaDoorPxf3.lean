/- Laid for this claim by hp.py, this session's program round the kit's print: functions of the program as plain Lean functions, the proofs that the code comes to their answers, and the rows of the laws. Not trusted: Lean checks it. -/
import Derived.Test.YtjfeddpelakdjaaDoorHMin
import Derived.Test.YtjfeddpelakdjaaDoorPx0
import Derived.Test.YtjfeddpelakdjaaDoorPxf19
import Derived.Test.YtjfeddpelakdjaaDoorPxf21
import Derived.Test.YtjfeddpelakdjaaDoorPxf23
import Derived.Test.YtjfeddpelakdjaaDoorPxf25
import Derived.Test.YtjfeddpelakdjaaDoorPxf10
import Derived.Test.YtjfeddpelakdjaaDoorPxf26
import Derived.Test.YtjfeddpelakdjaaDoorPxf11
import Derived.Test.YtjfeddpelakdjaaDoorPxf13
import Derived.Test.YtjfeddpelakdjaaDoorPxf16
import Derived.Test.YtjfeddpelakdjaaDoorPxf18
import Derived.Test.YtjfeddpelakdjaaDoorPxf20
import Derived.Test.YtjfeddpelakdjaaDoorPxf22
import Derived.Test.YtjfeddpelakdjaaDoorPxf24
import Derived.Test.YtjfeddpelakdjaaDoorPxf12
import Derived.Test.YtjfeddpelakdjaaDoorPxf14
import Derived.Test.YtjfeddpelakdjaaDoorPxf15
import Derived.Test.YtjfeddpelakdjaaDoorPxf17
namespace Go.Proofs.YtjfeddpelakdjaaDoor.P
open Go.RowKit Go.Proofs.YtjfeddpelakdjaaDoorW.PrintWords Go.Proofs.YtjfeddpelakdjaaDoorW.PrintLast Go.Proofs.YtjfeddpelakdjaaDoorW.PrintMore
attribute [local go_sem] Go.Proofs.YtjfeddpelakdjaaDoor.HMin.max2_mx Go.Proofs.YtjfeddpelakdjaaDoor.HMin.min2_mn max_two min_two max_three min_three max_four min_four   -- for this text's walks alone
set_option linter.unusedVariables false
set_option linter.unusedSimpArgs false

/-! ### collatorlaw01_PathsTells: function 3 -/
mutual
def collatorlaw01_PathsTells.l0 : Nat → Bool → List ByteArray → List ByteArray → Int → Int → Option (Bool)
 | 0, _, _, _, _, _ => none
 | k + 1, x9, x12, x44, x45, x46 => if x46 < x45 then (if 0 ≤ x46 then (if x46 < (x44.length : Int) then ((paths_Check.f k (rdOf ByteArray.empty x44 x46)).bind fun t200 => ((collatorref01_Check.f k (rdOf ByteArray.empty x44 x46)).bind fun t201 => (if t200 = t201 then ((paths_Parts.f k (rdOf ByteArray.empty x44 x46)).bind fun t202 => ((collatorref01_Parts.f k (rdOf ByteArray.empty x44 x46)).bind fun t205 => ((collatorref01_Texts.f k t202 t205).bind fun t208 => (if t208 = true then ((paths_Dir.f k (rdOf ByteArray.empty x44 x46)).bind fun t209 => ((collatorref01_Dir.f k (rdOf ByteArray.empty x44 x46)).bind fun t210 => (if t209.toList = t210.toList then ((paths_Base.f k (rdOf ByteArray.empty x44 x46)).bind fun t211 => ((collatorref01_Base.f k (rdOf ByteArray.empty x44 x46)).bind fun t212 => (collatorlaw01_PathsTells.j1 k x9 x12 (rdOf ByteArray.empty x44 x46) x44 x45 x46 (t211.toList != t212.toList)))) else (collatorlaw01_PathsTells.j1 k x9 x12 (rdOf ByteArray.empty x44 x46) x44 x45 x46 true)))) else (collatorlaw01_PathsTells.j1 k x9 x12 (rdOf ByteArray.empty x44 x46) x44 x45 x46 true))))) else (collatorlaw01_PathsTells.j1 k x9 x12 (rdOf ByteArray.empty x44 x46) x44 x45 x46 true)))) else (none)) else (none)) else (some x9)
def collatorlaw01_PathsTells.j1 : Nat → Bool → List ByteArray → ByteArray → List ByteArray → Int → Int → Bool → Option (Bool)
 | 0, _, _, _, _, _, _, _ => none
 | k + 1, x9, x12, x14, x44, x45, x46, x76 => if x76 = true then (some false) else (collatorlaw01_PathsTells.l1 k x9 x12 x14 x44 x45 x46 x12 (x12.length : Int) 0)
def collatorlaw01_PathsTells.l1 : Nat → Bool → List ByteArray → ByteArray → List ByteArray → Int → Int → List ByteArray → Int → Int → Option (Bool)
 | 0, _, _, _, _, _, _, _, _, _ => none
 | k + 1, x9, x12, x14, x44, x45, x46, x77, x78, x79 => if x79 < x78 then (if 0 ≤ x79 then (if x79 < (x77.length : Int) then ((paths_Compare.f k x14 (rdOf ByteArray.empty x77 x79)).bind fun t214 => ((collatorref01_Compare.f k x14 (rdOf ByteArray.empty x77 x79)).bind fun t215 => (if t214 = t215 then ((paths_Within.f x14 (rdOf ByteArray.empty x77 x79)).bind fun t216 => ((collatorref01_Within.f k x14 (rdOf ByteArray.empty x77 x79)).bind fun t217 => (if (t216 != t217) = true then (some false) else ((paths_Join.f x14 (rdOf ByteArray.empty x77 x79)).bind fun t218 => ((collatorref01_Join.f x14 (rdOf ByteArray.empty x77 x79)).bind fun t219 => (if t218.toList = t219.toList then (collatorlaw01_PathsTells.l1 k x9 x12 x14 x44 x45 x46 x77 x78 (wrap64 (x79 + 1))) else (some false))))))) else (some false)))) else (none)) else (none)) else (collatorlaw01_PathsTells.l0 k x9 x12 x44 x45 (wrap64 (x46 + 1)))
end
def collatorlaw01_PathsTells.f (k : Nat) (a0 : ByteArray) (a1 : ByteArray) (l2 : List Int) (l3 : List Int) : Option (Bool) := (collatorlaw01_awake.f k).bind fun t193 => (if 0 ≤ (mn (a0.size : Int) 200) then (if (mn (a0.size : Int) 200) ≤ (a0.size : Int) then (if 0 ≤ (mn (a1.size : Int) 200) then (if (mn (a1.size : Int) 200) ≤ (a1.size : Int) then ((collatorlaw01_Path.f k l2).bind fun t194 => ((collatorlaw01_Path.f k l3).bind fun t195 => (if (a0.extract 0 ((mn (a0.size : Int) 200) : Int).toNat).size + 1 ≤ 9223372036854775807 then (if ((a0.extract 0 ((mn (a0.size : Int) 200) : Int).toNat) ++ (⟨#[47]⟩ : ByteArray)).size + (a1.extract 0 ((mn (a1.size : Int) 200) : Int).toNat).size ≤ 9223372036854775807 then (if t194.size + 1 ≤ 9223372036854775807 then (if (t194 ++ (⟨#[47]⟩ : ByteArray)).size + (a0.extract 0 ((mn (a0.size : Int) 200) : Int).toNat).size ≤ 9223372036854775807 then ((some (([a0.extract 0 ((mn (a0.size : Int) 200) : Int).toNat, a1.extract 0 ((mn (a1.size : Int) 200) : Int).toNat, t194, t195, ((a0.extract 0 ((mn (a0.size : Int) 200) : Int).toNat) ++ (⟨#[47]⟩ : ByteArray)) ++ (a1.extract 0 ((mn (a1.size : Int) 200) : Int).toNat), (t194 ++ (⟨#[47]⟩ : ByteArray)) ++ (a0.extract 0 ((mn (a0.size : Int) 200) : Int).toNat)] : List ByteArray) : List ByteArray)).bind fun y196 => (collatorlaw01_PathsTells.l0 k t193 y196 y196 (y196.length : Int) 0)) else (none)) else (none)) else (none)) else (none)))) else (none)) else (none)) else (none)) else (none))
theorem collatorlaw01_PathsTells.mono_l : ∀ k, (∀ y0 y1 y2 y3 y4, LeO (collatorlaw01_PathsTells.l0 k y0 y1 y2 y3 y4) (collatorlaw01_PathsTells.l0 (k + 1) y0 y1 y2 y3 y4)) ∧ (∀ y0 y1 y2 y3 y4 y5 y6, LeO (collatorlaw01_PathsTells.j1 k y0 y1 y2 y3 y4 y5 y6) (collatorlaw01_PathsTells.j1 (k + 1) y0 y1 y2 y3 y4 y5 y6)) ∧ (∀ y0 y1 y2 y3 y4 y5 y6 y7 y8, LeO (collatorlaw01_PathsTells.l1 k y0 y1 y2 y3 y4 y5 y6 y7 y8) (collatorlaw01_PathsTells.l1 (k + 1) y0 y1 y2 y3 y4 y5 y6 y7 y8))
 | 0 => ⟨fun _ _ _ _ _ r h => by simp [collatorlaw01_PathsTells.l0] at h, fun _ _ _ _ _ _ _ r h => by simp [collatorlaw01_PathsTells.j1] at h, fun _ _ _ _ _ _ _ _ _ r h => by simp [collatorlaw01_PathsTells.l1] at h⟩
 | k + 1 => by
  obtain ⟨ih0, ih1, ih2⟩ := collatorlaw01_PathsTells.mono_l k
  refine ⟨?_, ?_, ?_⟩
  ·intro y0 y1 y2 y3 y4
   unfold collatorlaw01_PathsTells.l0
   repeat' first
   | (with_reducible exact ih0 _ _ _ _ _)
   | (with_reducible exact ih1 _ _ _ _ _ _ _)
   | (with_reducible exact ih2 _ _ _ _ _ _ _ _ _)
   | (with_reducible exact collatorlaw01_Path.mono _ _)
   | (with_reducible exact collatorlaw01_awake.mono _)
   | (with_reducible exact collatorref01_Base.mono _ _)
   | (with_reducible exact collatorref01_Check.mono _ _)
   | (with_reducible exact collatorref01_Compare.mono _ _ _)
   | (with_reducible exact collatorref01_Dir.mono _ _)
   | (with_reducible exact collatorref01_Parts.mono _ _)
   | (with_reducible exact collatorref01_Texts.mono _ _ _)
   | (with_reducible exact collatorref01_Within.mono _ _ _)
   | (with_reducible exact paths_Base.mono _ _)
   | (with_reducible exact paths_Check.mono _ _)
   | (with_reducible exact paths_Compare.mono _ _ _)
   | (with_reducible exact paths_Dir.mono _ _)
   | (with_reducible exact paths_Parts.mono _ _)
   | (with_reducible exact LeO.refl _)
   | (with_reducible exact LeO.none _)
   | (with_reducible refine LeO.ite ?_ ?_)
   | (with_reducible refine LeO.bind ?_ (fun _ => ?_))
   | exact ih0 _ _ _ _ _
   | exact ih1 _ _ _ _ _ _ _
   | exact ih2 _ _ _ _ _ _ _ _ _
   | exact collatorlaw01_Path.mono _ _
   | exact collatorlaw01_awake.mono _
   | exact collatorref01_Base.mono _ _
   | exact collatorref01_Check.mono _ _
   | exact collatorref01_Compare.mono _ _ _
   | exact collatorref01_Dir.mono _ _
   | exact collatorref01_Parts.mono _ _
   | exact collatorref01_Texts.mono _ _ _
   | exact collatorref01_Within.mono _ _ _
   | exact paths_Base.mono _ _
   | exact paths_Check.mono _ _
   | exact paths_Compare.mono _ _ _
   | exact paths_Dir.mono _ _
   | exact paths_Parts.mono _ _
   | exact LeO.none _
   | refine LeO.ite ?_ ?_
   | refine LeO.bind ?_ (fun _ => ?_)
  ·intro y0 y1 y2 y3 y4 y5 y6
   unfold collatorlaw01_PathsTells.j1
   repeat' first
   | (with_reducible exact ih0 _ _ _ _ _)
   | (with_reducible exact ih1 _ _ _ _ _ _ _)
   | (with_reducible exact ih2 _ _ _ _ _ _ _ _ _)
   | (with_reducible exact collatorlaw01_Path.mono _ _)
   | (with_reducible exact collatorlaw01_awake.mono _)
   | (with_reducible exact collatorref01_Base.mono _ _)
   | (with_reducible exact collatorref01_Check.mono _ _)
   | (with_reducible exact collatorref01_Compare.mono _ _ _)
   | (with_reducible exact collatorref01_Dir.mono _ _)
   | (with_reducible exact collatorref01_Parts.mono _ _)
   | (with_reducible exact collatorref01_Texts.mono _ _ _)
   | (with_reducible exact collatorref01_Within.mono _ _ _)
   | (with_reducible exact paths_Base.mono _ _)
   | (with_reducible exact paths_Check.mono _ _)
   | (with_reducible exact paths_Compare.mono _ _ _)
   | (with_reducible exact paths_Dir.mono _ _)
   | (with_reducible exact paths_Parts.mono _ _)
   | (with_reducible exact LeO.refl _)
   | (with_reducible exact LeO.none _)
   | (with_reducible refine LeO.ite ?_ ?_)
   | (with_reducible refine LeO.bind ?_ (fun _ => ?_))
   | exact ih0 _ _ _ _ _
   | exact ih1 _ _ _ _ _ _ _
   | exact ih2 _ _ _ _ _ _ _ _ _
   | exact collatorlaw01_Path.mono _ _
   | exact collatorlaw01_awake.mono _
   | exact collatorref01_Base.mono _ _
   | exact collatorref01_Check.mono _ _
   | exact collatorref01_Compare.mono _ _ _
   | exact collatorref01_Dir.mono _ _
   | exact collatorref01_Parts.mono _ _
   | exact collatorref01_Texts.mono _ _ _
   | exact collatorref01_Within.mono _ _ _
   | exact paths_Base.mono _ _
   | exact paths_Check.mono _ _
   | exact paths_Compare.mono _ _ _
   | exact paths_Dir.mono _ _
   | exact paths_Parts.mono _ _
   | exact LeO.none _
   | refine LeO.ite ?_ ?_
   | refine LeO.bind ?_ (fun _ => ?_)
  ·intro y0 y1 y2 y3 y4 y5 y6 y7 y8
   unfold collatorlaw01_PathsTells.l1
   repeat' first
   | (with_reducible exact ih0 _ _ _ _ _)
   | (with_reducible exact ih1 _ _ _ _ _ _ _)
   | (with_reducible exact ih2 _ _ _ _ _ _ _ _ _)
   | (with_reducible exact collatorlaw01_Path.mono _ _)
   | (with_reducible exact collatorlaw01_awake.mono _)
   | (with_reducible exact collatorref01_Base.mono _ _)
   | (with_reducible exact collatorref01_Check.mono _ _)
   | (with_reducible exact collatorref01_Compare.mono _ _ _)
   | (with_reducible exact collatorref01_Dir.mono _ _)
   | (with_reducible exact collatorref01_Parts.mono _ _)
   | (with_reducible exact collatorref01_Texts.mono _ _ _)
   | (with_reducible exact collatorref01_Within.mono _ _ _)
   | (with_reducible exact paths_Base.mono _ _)
   | (with_reducible exact paths_Check.mono _ _)
   | (with_reducible exact paths_Compare.mono _ _ _)
   | (with_reducible exact paths_Dir.mono _ _)
   | (with_reducible exact paths_Parts.mono _ _)
   | (with_reducible exact LeO.refl _)
   | (with_reducible exact LeO.none _)
   | (with_reducible refine LeO.ite ?_ ?_)
   | (with_reducible refine LeO.bind ?_ (fun _ => ?_))
   | exact ih0 _ _ _ _ _
   | exact ih1 _ _ _ _ _ _ _
   | exact ih2 _ _ _ _ _ _ _ _ _
   | exact collatorlaw01_Path.mono _ _
   | exact collatorlaw01_awake.mono _
   | exact collatorref01_Base.mono _ _
   | exact collatorref01_Check.mono _ _
   | exact collatorref01_Compare.mono _ _ _
   | exact collatorref01_Dir.mono _ _
   | exact collatorref01_Parts.mono _ _
   | exact collatorref01_Texts.mono _ _ _
   | exact collatorref01_Within.mono _ _ _
   | exact paths_Base.mono _ _
   | exact paths_Check.mono _ _
   | exact paths_Compare.mono _ _ _
   | exact paths_Dir.mono _ _
   | exact paths_Parts.mono _ _
   | exact LeO.none _
   | refine LeO.ite ?_ ?_
   | refine LeO.bind ?_ (fun _ => ?_)
theorem collatorlaw01_PathsTells.mono : ∀ a0 a1 a2 a3 k, LeO (collatorlaw01_PathsTells.f k a0 a1 a2 a3) (collatorlaw01_PathsTells.f (k + 1) a0 a1 a2 a3) := by
 intro a0 a1 a2 a3 k
 obtain ⟨ih0, ih1, ih2⟩ := collatorlaw01_PathsTells.mono_l k
 unfold collatorlaw01_PathsTells.f
 repeat' first
   | (with_reducible exact ih0 _ _ _ _ _)
   | (with_reducible exact ih1 _ _ _ _ _ _ _)
   | (with_reducible exact ih2 _ _ _ _ _ _ _ _ _)
   | (with_reducible exact collatorlaw01_Path.mono _ _)
   | (with_reducible exact collatorlaw01_awake.mono _)
   | (with_reducible exact collatorref01_Base.mono _ _)
   | (with_reducible exact collatorref01_Check.mono _ _)
   | (with_reducible exact collatorref01_Compare.mono _ _ _)
   | (with_reducible exact collatorref01_Dir.mono _ _)
   | (with_reducible exact collatorref01_Parts.mono _ _)
   | (with_reducible exact collatorref01_Texts.mono _ _ _)
   | (with_reducible exact collatorref01_Within.mono _ _ _)
   | (with_reducible exact paths_Base.mono _ _)
   | (with_reducible exact paths_Check.mono _ _)
   | (with_reducible exact paths_Compare.mono _ _ _)
   | (with_reducible exact paths_Dir.mono _ _)
   | (with_reducible exact paths_Parts.mono _ _)
   | (with_reducible exact LeO.refl _)
   | (with_reducible exact LeO.none _)
   | (with_reducible refine LeO.ite ?_ ?_)
   | (with_reducible refine LeO.bind ?_ (fun _ => ?_))
   | exact ih0 _ _ _ _ _
   | exact ih1 _ _ _ _ _ _ _
   | exact ih2 _ _ _ _ _ _ _ _ _
   | exact collatorlaw01_Path.mono _ _
   | exact collatorlaw01_awake.mono _
   | exact collatorref01_Base.mono _ _
   | exact collatorref01_Check.mono _ _
   | exact collatorref01_Compare.mono _ _ _
   | exact collatorref01_Dir.mono _ _
   | exact collatorref01_Parts.mono _ _
   | exact collatorref01_Texts.mono _ _ _
   | exact collatorref01_Within.mono _ _ _
   | exact paths_Base.mono _ _
   | exact paths_Check.mono _ _
   | exact paths_Compare.mono _ _ _
   | exact paths_Dir.mono _ _
   | exact paths_Parts.mono _ _
   | exact LeO.none _
   | refine LeO.ite ?_ ?_
   | refine LeO.bind ?_ (fun _ => ?_)
set_option maxHeartbeats 8000000 in
set_option maxRecDepth 100000 in
theorem collatorlaw01_PathsTells.calls (k : Nat) (a0 : ByteArray) (a1 : ByteArray) (A2 : Option Addr) (c2 : Nat) (l2 : List Int) (A3 : Option Addr) (c3 : Nat) (l3 : List Int) (r : Bool) (w : World) (hr2 : Kd.C (Kd.int .i64) w A2 l2.length l2) (hc2 : l2.length ≤ c2) (hr3 : Kd.C (Kd.int .i64) w A3 l3.length l3) (hc3 : l3.length ≤ c3) (h : collatorlaw01_PathsTells.f k a0 a1 l2 l3 = some r) :
  Calls Tryd.prog 3 #[.string a0, .string a1, .slice A2 l2.length c2, .slice A3 l3.length c3] w fun e w' => e = .returned (.bool r) ∧ Below w.heap.size w w' := by
 have HR2 := Aside0.mk hr2
 have HC2 := Aside0.mk hc2
 clear hr2 hc2
 have HR3 := Aside0.mk hr3
 have HC3 := Aside0.mk hc3
 clear hr3 hc3
 have HB := Aside0.mk (Below.refl w.heap.size w)
 have H : ((collatorlaw01_awake.f k).bind fun t193 => (if 0 ≤ (mn (a0.size : Int) 200) then (if (mn (a0.size : Int) 200) ≤ (a0.size : Int) then (if 0 ≤ (mn (a1.size : Int) 200) then (if (mn (a1.size : Int) 200) ≤ (a1.size : Int) then ((collatorlaw01_Path.f k l2).bind fun t194 => ((collatorlaw01_Path.f k l3).bind fun t195 => (if (a0.extract 0 ((mn (a0.size : Int) 200) : Int).toNat).size + 1 ≤ 9223372036854775807 then (if ((a0.extract 0 ((mn (a0.size : Int) 200) : Int).toNat) ++ (⟨#[47]⟩ : ByteArray)).size + (a1.extract 0 ((mn (a1.size : Int) 200) : Int).toNat).size ≤ 9223372036854775807 then (if t194.size + 1 ≤ 9223372036854775807 then (if (t194 ++ (⟨#[47]⟩ : ByteArray)).size + (a0.extract 0 ((mn (a0.size : Int) 200) : Int).toNat).size ≤ 9223372036854775807 then ((some (([a0.extract 0 ((mn (a0.size : Int) 200) : Int).toNat, a1.extract 0 ((mn (a1.size : Int) 200) : Int).toNat, t194, t195, ((a0.extract 0 ((mn (a0.size : Int) 200) : Int).toNat) ++ (⟨#[47]⟩ : ByteArray)) ++ (a1.extract 0 ((mn (a1.size : Int) 200) : Int).toNat), (t194 ++ (⟨#[47]⟩ : ByteArray)) ++ (a0.extract 0 ((mn (a0.size : Int) 200) : Int).toNat)] : List ByteArray) : List ByteArray)).bind fun y196 => (collatorlaw01_PathsTells.l0 k t193 y196 y196 (y196.length : Int) 0)) else (none)) else (none)) else (none)) else (none)))) else (none)) else (none)) else (none)) else (none))) = some r := h
 clear h
 replace H := Option.bind_eq_some_iff.mp H
 obtain ⟨t193, A50, H⟩ := H
 replace H : (if 0 ≤ (mn (a0.size : Int) 200) then (if (mn (a0.size : Int) 200) ≤ (a0.size : Int) then (if 0 ≤ (mn (a1.size : Int) 200) then (if (mn (a1.size : Int) 200) ≤ (a1.size : Int) then ((collatorlaw01_Path.f k l2).bind fun t194 => ((collatorlaw01_Path.f k l3).bind fun t195 => (if (a0.extract 0 ((mn (a0.size : Int) 200) : Int).toNat).size + 1 ≤ 9223372036854775807 then (if ((a0.extract 0 ((mn (a0.size : Int) 200) : Int).toNat) ++ (⟨#[47]⟩ : ByteArray)).size + (a1.extract 0 ((mn (a1.size : Int) 200) : Int).toNat).size ≤ 9223372036854775807 then (if t194.size + 1 ≤ 9223372036854775807 then (if (t194 ++ (⟨#[47]⟩ : ByteArray)).size + (a0.extract 0 ((mn (a0.size : Int) 200) : Int).toNat).size ≤ 9223372036854775807 then ((some (([a0.extract 0 ((mn (a0.size : Int) 200) : Int).toNat, a1.extract 0 ((mn (a1.size : Int) 200) : Int).toNat, t194, t195, ((a0.extract 0 ((mn (a0.size : Int) 200) : Int).toNat) ++ (⟨#[47]⟩ : ByteArray)) ++ (a1.extract 0 ((mn (a1.size : Int) 200) : Int).toNat), (t194 ++ (⟨#[47]⟩ : ByteArray)) ++ (a0.extract 0 ((mn (a0.size : Int) 200) : Int).toNat)] : List ByteArray) : List ByteArray)).bind fun y196 => (collatorlaw01_PathsTells.l0 k t193 y196 y196 (y196.length : Int) 0)) else (none)) else (none)) else (none)) else (none)))) else (none)) else (none)) else (none)) else (none)) = some r := H
 have A5 := Aside0.mk A50
 clear A50
 obtain ⟨ji6, hji6⟩ : ∃ j_ : Int, (mn (a0.size : Int) 200) = j_ := ⟨_, rfl⟩
 replace H : (if 0 ≤ (ji6) then (if (ji6) ≤ (a0.size : Int) then (if 0 ≤ (mn (a1.size : Int) 200) then (if (mn (a1.size : Int) 200) ≤ (a1.size : Int) then ((collatorlaw01_Path.f k l2).bind fun t194 => ((collatorlaw01_Path.f k l3).bind fun t195 => (if (a0.extract 0 ((ji6) : Int).toNat).size + 1 ≤ 9223372036854775807 then (if ((a0.extract 0 ((ji6) : Int).toNat) ++ (⟨#[47]⟩ : ByteArray)).size + (a1.extract 0 ((mn (a1.size : Int) 200) : Int).toNat).size ≤ 9223372036854775807 then (if t194.size + 1 ≤ 9223372036854775807 then (if (t194 ++ (⟨#[47]⟩ : ByteArray)).size + (a0.extract 0 ((ji6) : Int).toNat).size ≤ 9223372036854775807 then ((some (([a0.extract 0 ((ji6) : Int).toNat, a1.extract 0 ((mn (a1.size : Int) 200) : Int).toNat, t194, t195, ((a0.extract 0 ((ji6) : Int).toNat) ++ (⟨#[47]⟩ : ByteArray)) ++ (a1.extract 0 ((mn (a1.size : Int) 200) : Int).toNat), (t194 ++ (⟨#[47]⟩ : ByteArray)) ++ (a0.extract 0 ((ji6) : Int).toNat)] : List ByteArray) : List ByteArray)).bind fun y196 => (collatorlaw01_PathsTells.l0 k t193 y196 y196 (y196.length : Int) 0)) else (none)) else (none)) else (none)) else (none)))) else (none)) else (none)) else (none)) else (none)) = some r := by first | (rw [hji6] at H; exact H) | (simp only [hji6] at H ⊢; exact H)
 (try rw [hji6] at A5)
 (try (have hji6h : ji6 ≤ 200 := by (rw [← hji6]; unfold mn; (repeat' split) <;> omega)))
 (try (have hji6g : ji6 ≤ 64 := by omega))
 (try (have hji6l : 0 ≤ ji6 := by (rw [← hji6]; unfold mn; (repeat' split) <;> omega)))
 (try (have hji6m : 0 ≤ ji6 := by omega))
 have hji6_ : (if 200 < (a0.size : Int) then 200 else (a0.size : Int)) = ji6 := hji6
 by_cases c7 : 0 ≤ (ji6)
 ·rw [if_pos c7] at H
  have c7b0 := eq_true c7
  have c7b1 : decide (0 ≤ (ji6)) = true := decide_eq_true c7
  clear c7
  by_cases c8 : (ji6) ≤ (a0.size : Int)
  ·rw [if_pos c8] at H
   have c8b0 := eq_true c8
   have c8b1 : decide ((ji6) ≤ (a0.size : Int)) = true := decide_eq_true c8
   clear c8
   obtain ⟨ji9, hji9⟩ : ∃ j_ : Int, (mn (a1.size : Int) 200) = j_ := ⟨_, rfl⟩
   replace H : (if 0 ≤ (ji9) then (if (ji9) ≤ (a1.size : Int) then ((collatorlaw01_Path.f k l2).bind fun t194 => ((collatorlaw01_Path.f k l3).bind fun t195 => (if (a0.extract 0 ((ji6) : Int).toNat).size + 1 ≤ 9223372036854775807 then (if ((a0.extract 0 ((ji6) : Int).toNat) ++ (⟨#[47]⟩ : ByteArray)).size + (a1.extract 0 ((ji9) : Int).toNat).size ≤ 9223372036854775807 then (if t194.size + 1 ≤ 9223372036854775807 then (if (t194 ++ (⟨#[47]⟩ : ByteArray)).size + (a0.extract 0 ((ji6) : Int).toNat).size ≤ 9223372036854775807 then ((some (([a0.extract 0 ((ji6) : Int).toNat, a1.extract 0 ((ji9) : Int).toNat, t194, t195, ((a0.extract 0 ((ji6) : Int).toNat) ++ (⟨#[47]⟩ : ByteArray)) ++ (a1.extract 0 ((ji9) : Int).toNat), (t194 ++ (⟨#[47]⟩ : ByteArray)) ++ (a0.extract 0 ((ji6) : Int).toNat)] : List ByteArray) : List ByteArray)).bind fun y196 => (collatorlaw01_PathsTells.l0 k t193 y196 y196 (y196.length : Int) 0)) else (none)) else (none)) else (none)) else (none)))) else (none)) else (none)) = some r := by first | (rw [hji9] at H; exact H) | (simp only [hji9] at H ⊢; exact H)
   (try rw [hji9] at A5)
   (try (have hji9h : ji9 ≤ 200 := by (rw [← hji9]; unfold mn; (repeat' split) <;> omega)))
   (try (have hji9g : ji9 ≤ 64 := by omega))
   (try (have hji9l : 0 ≤ ji9 := by (rw [← hji9]; unfold mn; (repeat' split) <;> omega)))
   (try (have hji9m : 0 ≤ ji9 := by omega))
   have hji9_ : (if 200 < (a1.size : Int) then 200 else (a1.size : Int)) = ji9 := hji9
   by_cases c10 : 0 ≤ (ji9)
   ·rw [if_pos c10] at H
    have c10b0 := eq_true c10
    have c10b1 : decide (0 ≤ (ji9)) = true := decide_eq_true c10
    clear c10
    by_cases c11 : (ji9) ≤ (a1.size : Int)
    ·rw [if_pos c11] at H
     have c11b0 := eq_true c11
     have c11b1 : decide ((ji9) ≤ (a1.size : Int)) = true := decide_eq_true c11
     clear c11
     replace H := Option.bind_eq_some_iff.mp H
     obtain ⟨t194, A120, H⟩ := H
     replace H : ((collatorlaw01_Path.f k l3).bind fun t195 => (if (a0.extract 0 ((ji6) : Int).toNat).size + 1 ≤ 9223372036854775807 then (if ((a0.extract 0 ((ji6) : Int).toNat) ++ (⟨#[47]⟩ : ByteArray)).size + (a1.extract 0 ((ji9) : Int).toNat).size ≤ 9223372036854775807 then (if t194.size + 1 ≤ 9223372036854775807 then (if (t194 ++ (⟨#[47]⟩ : ByteArray)).size + (a0.extract 0 ((ji6) : Int).toNat).size ≤ 9223372036854775807 then ((some (([a0.extract 0 ((ji6) : Int).toNat, a1.extract 0 ((ji9) : Int).toNat, t194, t195, ((a0.extract 0 ((ji6) : Int).toNat) ++ (⟨#[47]⟩ : ByteArray)) ++ (a1.extract 0 ((ji9) : Int).toNat), (t194 ++ (⟨#[47]⟩ : ByteArray)) ++ (a0.extract 0 ((ji6) : Int).toNat)] : List ByteArray) : List ByteArray)).bind fun y196 => (collatorlaw01_PathsTells.l0 k t193 y196 y196 (y196.length : Int) 0)) else (none)) else (none)) else (none)) else (none))) = some r := H
     have A12 := Aside0.mk A120
     clear A120
     replace H := Option.bind_eq_some_iff.mp H
     obtain ⟨t195, A130, H⟩ := H
     replace H : (if (a0.extract 0 ((ji6) : Int).toNat).size + 1 ≤ 9223372036854775807 then (if ((a0.extract 0 ((ji6) : Int).toNat) ++ (⟨#[47]⟩ : ByteArray)).size + (a1.extract 0 ((ji9) : Int).toNat).size ≤ 9223372036854775807 then (if t194.size + 1 ≤ 9223372036854775807 then (if (t194 ++ (⟨#[47]⟩ : ByteArray)).size + (a0.extract 0 ((ji6) : Int).toNat).size ≤ 9223372036854775807 then ((some (([a0.extract 0 ((ji6) : Int).toNat, a1.extract 0 ((ji9) : Int).toNat, t194, t195, ((a0.extract 0 ((ji6) : Int).toNat) ++ (⟨#[47]⟩ : ByteArray)) ++ (a1.extract 0 ((ji9) : Int).toNat), (t194 ++ (⟨#[47]⟩ : ByteArray)) ++ (a0.extract 0 ((ji6) : Int).toNat)] : List ByteArray) : List ByteArray)).bind fun y196 => (collatorlaw01_PathsTells.l0 k t193 y196 y196 (y196.length : Int) 0)) else (none)) else (none)) else (none)) else (none)) = some r := H
     have A13 := Aside0.mk A130
     clear A130
     by_cases c14 : (a0.extract 0 ((ji6) : Int).toNat).size + 1 ≤ 9223372036854775807
     ·rw [if_pos c14] at H
      have c14b0 := eq_true c14
      have c14b1 : decide ((a0.extract 0 ((ji6) : Int).toNat).size + 1 ≤ 9223372036854775807) = true := decide_eq_true c14
      try have c14b2 : (9223372036854775807 < (a0.extract 0 ((ji6) : Int).toNat).size + 1) = False := eq_false (Nat.not_lt.2 c14)
      (try (have c14b3 := c14b2; simp only [ByteArray.size_append, ByteArray.size_extract, Nat.sub_zero] at c14b3))
      by_cases c15 : ((a0.extract 0 ((ji6) : Int).toNat) ++ (⟨#[47]⟩ : ByteArray)).size + (a1.extract 0 ((ji9) : Int).toNat).size ≤ 9223372036854775807
      ·rw [if_pos c15] at H
       have c15b0 := eq_true c15
       have c15b1 : decide (((a0.extract 0 ((ji6) : Int).toNat) ++ (⟨#[47]⟩ : ByteArray)).size + (a1.extract 0 ((ji9) : Int).toNat).size ≤ 9223372036854775807) = true := decide_eq_true c15
       try have c15b2 : (9223372036854775807 < ((a0.extract 0 ((ji6) : Int).toNat) ++ (⟨#[47]⟩ : ByteArray)).size + (a1.extract 0 ((ji9) : Int).toNat).size) = False := eq_false (Nat.not_lt.2 c15)
       (try (have c15b3 := c15b2; simp only [ByteArray.size_append, ByteArray.size_extract, Nat.sub_zero, show (⟨#[47]⟩ : ByteArray).size = 1 from rfl] at c15b3))
       by_cases c16 : t194.size + 1 ≤ 9223372036854775807
       ·rw [if_pos c16] at H
        have c16b0 := eq_true c16
        have c16b1 : decide (t194.size + 1 ≤ 9223372036854775807) = true := decide_eq_true c16
        try have c16b2 : (9223372036854775807 < t194.size + 1) = False := eq_false (Nat.not_lt.2 c16)
        by_cases c17 : (t194 ++ (⟨#[47]⟩ : ByteArray)).size + (a0.extract 0 ((ji6) : Int).toNat).size ≤ 9223372036854775807
        ·rw [if_pos c17] at H
         have c17b0 := eq_true c17
         have c17b1 : decide ((t194 ++ (⟨#[47]⟩ : ByteArray)).size + (a0.extract 0 ((ji6) : Int).toNat).size ≤ 9223372036854775807) = true := decide_eq_true c17
         try have c17b2 : (9223372036854775807 < (t194 ++ (⟨#[47]⟩ : ByteArray)).size + (a0.extract 0 ((ji6) : Int).toNat).size) = False := eq_false (Nat.not_lt.2 c17)
         (try (have c17b3 := c17b2; simp only [ByteArray.size_append, ByteArray.size_extract, Nat.sub_zero, show (⟨#[47]⟩ : ByteArray).size = 1 from rfl] at c17b3))
         obtain ⟨y196, hy196⟩ : ∃ y_ : List ByteArray, y_ = (([a0.extract 0 ((ji6) : Int).toNat, a1.extract 0 ((ji9) : Int).toNat, t194, t195, ((a0.extract 0 ((ji6) : Int).toNat) ++ (⟨#[47]⟩ : ByteArray)) ++ (a1.extract 0 ((ji9) : Int).toNat), (t194 ++ (⟨#[47]⟩ : ByteArray)) ++ (a0.extract 0 ((ji6) : Int).toNat)] : List ByteArray)) := ⟨_, rfl⟩
         replace H : (collatorlaw01_PathsTells.l0 k t193 y196 y196 (y196.length : Int) 0) = some r := by first | (rw [hy196]; with_reducible exact H) | (have H2_ := (Option.bind_some _ _).symm.trans H; rw [hy196]; with_reducible exact H2_) | (have H2_ := (Option.bind_some _ _).symm.trans H; with_reducible exact H2_) | with_reducible exact H | (rw [hy196]; exact H) | exact H
         have Ny196 := Aside0.mk hy196
         clear hy196
         have H' := Aside0.mk H
         clear H
         go_enter Tryd.func3, Tryd.ntmps3
         go_wp2_with (first | ((with_reducible refine gate_callee (f := 10) rfl ?_); refine goesL_ _ rfl rfl Tryd.func10 (by kernel_rfl) rfl #[] rfl (by (try simp only [List.map_toArray, List.map_cons, List.map_nil]); first | done | rfl | (simp only [List.length_drop, List.length_take]; rfl)) ?_; (with_reducible refine (collatorlaw01_awake.calls k  t193 _ A5.out).mono ?_); rintro e w18 ⟨rfl, hb⟩; refine ⟨_, rfl, ?_⟩; have n0_ := Aside0.mk (below_step (by repeat (first | (with_reducible first | exact HB.out | apply below_alloc | apply pw_below_drewN | apply below_drew1) | exact HB.out)) hb); clear HB; have HB := n0_; clear n0_; (try clear hb); (try clear hb2); (try clear hk); (try clear hi)) | ((with_reducible refine gate_callee (f := 11) rfl ?_); refine goesL_ _ rfl rfl Tryd.func11 (by kernel_rfl) rfl #[.slice A2 l2.length c2] rfl (by (try simp only [List.map_toArray, List.map_cons, List.map_nil]); first | done | rfl | (simp only [List.length_drop, List.length_take]; rfl)) ?_; (with_reducible refine (collatorlaw01_Path.calls k _ _ l2 t194 _ ?side1 ?side2 A12.out).mono ?_); (case side1 => repeat (first | exact (Kd.C_below HR2.out HB.out) | (with_reducible refine Kd.C_alloc ?_ _) | (with_reducible refine Kd.C_drewN ?_ _) | (with_reducible refine Kd.C_drew ?_))); (case side2 => exact HC2.out); rintro e w19 ⟨rfl, hb⟩; refine ⟨_, rfl, ?_⟩; have n0_ := Aside0.mk (below_step (by repeat (first | (with_reducible first | exact HB.out | apply below_alloc | apply pw_below_drewN | apply below_drew1) | exact HB.out)) hb); clear HB; have HB := n0_; clear n0_; (try clear hb); (try clear hb2); (try clear hk); (try clear hi)) | ((with_reducible refine gate_callee (f := 11) rfl ?_); refine goesL_ _ rfl rfl Tryd.func11 (by kernel_rfl) rfl #[.slice A3 l3.length c3] rfl (by (try simp only [List.map_toArray, List.map_cons, List.map_nil]); first | done | rfl | (simp only [List.length_drop, List.length_take]; rfl)) ?_; (with_reducible refine (collatorlaw01_Path.calls k _ _ l3 t195 _ ?side1 ?side2 A13.out).mono ?_); (case side1 => repeat (first | exact (Kd.C_below HR3.out HB.out) | (with_reducible refine Kd.C_alloc ?_ _) | (with_reducible refine Kd.C_drewN ?_ _) | (with_reducible refine Kd.C_drew ?_))); (case side2 => exact HC3.out); rintro e w20 ⟨rfl, hb⟩; refine ⟨_, rfl, ?_⟩; have n0_ := Aside0.mk (below_step (by repeat (first | (with_reducible first | exact HB.out | apply below_alloc | apply pw_below_drewN | apply below_drew1) | exact HB.out)) hb); clear HB; have HB := n0_; clear n0_; (try clear hb); (try clear hb2); (try clear hk); (try clear hi)) | ((with_reducible refine gate_dst (N := 43) rfl ?_); refine Kd.R_lit Kd.string _ 9 ?hg (N := 43) ?hd (xs := ([a0.extract 0 ((ji6) : Int).toNat, a1.extract 0 ((ji9) : Int).toNat, t194, t195, ((a0.extract 0 ((ji6) : Int).toNat) ++ (⟨#[47]⟩ : ByteArray)) ++ (a1.extract 0 ((ji9) : Int).toNat), (t194 ++ (⟨#[47]⟩ : ByteArray)) ++ (a0.extract 0 ((ji6) : Int).toNat)] : List ByteArray)) (inner := [.string (a0.extract 0 ((ji6) : Int).toNat), .string (a1.extract 0 ((ji9) : Int).toNat), .string t194, .string t195, .string (((a0.extract 0 ((ji6) : Int).toNat) ++ (⟨#[47]⟩ : ByteArray)) ++ (a1.extract 0 ((ji9) : Int).toNat)), .string ((t194 ++ (⟨#[47]⟩ : ByteArray)) ++ (a0.extract 0 ((ji6) : Int).toNat))]) (ok := fun _ => True) (okp := fun _ => True) ?hr ?hp (fun _ hk => hk) trivial (Below.refl _ _) (Nat.le_refl _) (by simp) ?_; (case hd => rfl); (case hg => rfl); (case hr => first | (go_simp; done) | (go_simp; rfl)); (case hp => exact (Reps.one (show Kd.M Kd.string _ _ _ (a0.extract 0 ((ji6) : Int).toNat) [.string (a0.extract 0 ((ji6) : Int).toNat)] from rfl) (Reps.one (show Kd.M Kd.string _ _ _ (a1.extract 0 ((ji9) : Int).toNat) [.string (a1.extract 0 ((ji9) : Int).toNat)] from rfl) (Reps.one (show Kd.M Kd.string _ _ _ t194 [.string t194] from rfl) (Reps.one (show Kd.M Kd.string _ _ _ t195 [.string t195] from rfl) (Reps.one (show Kd.M Kd.string _ _ _ (((a0.extract 0 ((ji6) : Int).toNat) ++ (⟨#[47]⟩ : ByteArray)) ++ (a1.extract 0 ((ji9) : Int).toNat)) [.string (((a0.extract 0 ((ji6) : Int).toNat) ++ (⟨#[47]⟩ : ByteArray)) ++ (a1.extract 0 ((ji9) : Int).toNat))] from rfl) (Reps.one (show Kd.M Kd.string _ _ _ ((t194 ++ (⟨#[47]⟩ : ByteArray)) ++ (a0.extract 0 ((ji6) : Int).toNat)) [.string ((t194 ++ (⟨#[47]⟩ : ByteArray)) ++ (a0.extract 0 ((ji6) : Int).toNat))] from rfl) (Reps.none _ _)))))))); intro v197 w21 ho22 hb hg_ hnew_; clear hg_ hnew_; (first | rw [← Ny196.out] at ho22 | (simp only [Int.reduceToNat] at ho22; rw [← Ny196.out] at ho22)); have n0_ := Aside0.mk (Kd.R_lower ho22 (below_size (by repeat (first | (with_reducible first | exact HB.out | apply below_alloc | apply pw_below_drewN | apply below_drew1) | exact HB.out)))); have n1_ := Aside0.mk (below_step (by repeat (first | (with_reducible first | exact HB.out | apply below_alloc | apply pw_below_drewN | apply below_drew1) | exact HB.out)) hb); clear HB; have HO198 := n0_; have HB := n1_; clear n0_ n1_; clear hb ho22; (try (obtain ⟨Ao23, co23, eo23⟩ := Kd.R_slice HO198.out; subst eo23))))
         go_loopg [46] k (fun kq v46 w' => ∃ (x46_1 : Int), v46 = .int .i64 x46_1 ∧ Aside0 (collatorlaw01_PathsTells.l0 kq t193 y196 y196 (y196.length : Int) x46_1 = some r) ∧ Aside0 (kq ≤ k) ∧ Aside0 (Kd.R Kd.string 9 w' w.heap.size (fun _ => True) (.slice Ao23 y196.length co23) y196) ∧ Aside0 (Kd.R Kd.string 9 w' w.heap.size (fun _ => True) (.slice Ao23 y196.length co23) y196) ∧ Aside0 (Below w.heap.size w w'))
         case atStart => exact ⟨(0), (by first | rfl | (simp; done) | (simp [*]; done)), H', ⟨Nat.le_refl _⟩, ⟨by (with_reducible repeat (first | apply Kd.R_alloc | apply Kd.R_drewN | apply Kd.R_drew)); exact HO198.out⟩, ⟨by (with_reducible repeat (first | apply Kd.R_alloc | apply Kd.R_drewN | apply Kd.R_drew)); exact HO198.out⟩, ⟨by repeat (first | (with_reducible first | exact HB.out | apply below_alloc | apply pw_below_drewN | apply below_drew1) | exact HB.out)⟩⟩
         case round =>
          clear H'
          (try clear c1);(try clear c2);(try clear p2);(try clear c3);(try clear c7);(try clear c7b0);(try clear c7b1);(try clear c8);(try clear c8b0);(try clear c8b1);(try clear c10);(try clear c10b0);(try clear c10b1);(try clear c11);(try clear c11b0);(try clear c11b1);(try clear c14);(try clear c14b0);(try clear c14b1);(try clear c14b2);(try clear c15);(try clear c15b0);(try clear c15b1);(try clear c15b2);(try clear c16);(try clear c16b0);(try clear c16b1);(try clear c16b2);(try clear c17);(try clear c17b0);(try clear c17b1);(try clear c17b2)
          obtain ⟨x46_1, rfl, HA, HK1, HO_12, HO_44, HB⟩ := hrel
          cases gk with
          | zero => exact absurd HA.out (by simp [collatorlaw01_PathsTells.l0])
          | succ k1 =>
           have H := HA.out
           clear HA
           simp only [collatorlaw01_PathsTells.l0] at H
           by_cases c24 : x46_1 < (y196.length : Int)
           ·rw [if_pos c24] at H
            have c24b0 : decide (x46_1 < (y196.length : Int)) = true := decide_eq_true c24
            clear c24
            by_cases c25 : 0 ≤ x46_1
            ·rw [if_pos c25] at H
             have c25b0 : decide (0 ≤ x46_1) = true := decide_eq_true c25
             clear c25
             by_cases c26 : x46_1 < (y196.length : Int)
             ·rw [if_pos c26] at H
              have c26b0 : decide (x46_1 < (y196.length : Int)) = true := decide_eq_true c26
              clear c26
              have HC27 := Aside0.mk H
              clear H
              have p199 : 0 ≤ (x46_1 : Int) := of_decide_eq_true (by first | (with_reducible assumption) | assumption)
              have q199 : x46_1 < (y196.length : Int) := of_decide_eq_true (by first | (with_reducible assumption) | assumption)
              obtain ⟨ad199, e199, hx199_0⟩ := Kd.at_string (Kd.R_reads' HO_44.out).2.2 x46_1 p199 q199
              cases e199
              replace p199 := eq_true p199
              replace q199 := eq_true q199
              go_upto_region 8 with (fail)
              go_cut [76] (fun v76 wc => ∃ (kq : Nat) (x76_26 : Bool), v76 = .bool x76_26 ∧ Aside0 (collatorlaw01_PathsTells.j1 kq t193 y196 (rdOf ByteArray.empty y196 x46_1) y196 (y196.length : Int) x46_1 x76_26 = some r) ∧ Aside0 (kq ≤ k1) ∧ Aside0 (Kd.R Kd.string 9 wc w.heap.size (fun _ => True) (.slice (some ad199) y196.length co23) y196) ∧ Aside0 (Kd.R Kd.string 9 wc w.heap.size (fun _ => True) (.slice (some ad199) y196.length co23) y196) ∧ Aside0 (Below w.heap.size w wc))
              case first =>
               have H := HC27.out
               clear HC27
               replace H := Option.bind_eq_some_iff.mp H
               obtain ⟨t200, A280, H⟩ := H
               replace H : ((collatorref01_Check.f k1 (rdOf ByteArray.empty y196 x46_1)).bind fun t201 => (if t200 = t201 then ((paths_Parts.f k1 (rdOf ByteArray.empty y196 x46_1)).bind fun t202 => ((collatorref01_Parts.f k1 (rdOf ByteArray.empty y196 x46_1)).bind fun t205 => ((collatorref01_Texts.f k1 t202 t205).bind fun t208 => (if t208 = true then ((paths_Dir.f k1 (rdOf ByteArray.empty y196 x46_1)).bind fun t209 => ((collatorref01_Dir.f k1 (rdOf ByteArray.empty y196 x46_1)).bind fun t210 => (if t209.toList = t210.toList then ((paths_Base.f k1 (rdOf ByteArray.empty y196 x46_1)).bind fun t211 => ((collatorref01_Base.f k1 (rdOf ByteArray.empty y196 x46_1)).bind fun t212 => (collatorlaw01_PathsTells.j1 k1 t193 y196 (rdOf ByteArray.empty y196 x46_1) y196 (y196.length : Int) x46_1 (t211.toList != t212.toList)))) else (collatorlaw01_PathsTells.j1 k1 t193 y196 (rdOf ByteArray.empty y196 x46_1) y196 (y196.length : Int) x46_1 true)))) else (collatorlaw01_PathsTells.j1 k1 t193 y196 (rdOf ByteArray.empty y196 x46_1) y196 (y196.length : Int) x46_1 true))))) else (collatorlaw01_PathsTells.j1 k1 t193 y196 (rdOf ByteArray.empty y196 x46_1) y196 (y196.length : Int) x46_1 true))) = some r := H
               have A28 := Aside0.mk A280
               clear A280
               replace H := Option.bind_eq_some_iff.mp H
               obtain ⟨t201, A290, H⟩ := H
               replace H : (if t200 = t201 then ((paths_Parts.f k1 (rdOf ByteArray.empty y196 x46_1)).bind fun t202 => ((collatorref01_Parts.f k1 (rdOf ByteArray.empty y196 x46_1)).bind fun t205 => ((collatorref01_Texts.f k1 t202 t205).bind fun t208 => (if t208 = true then ((paths_Dir.f k1 (rdOf ByteArray.empty y196 x46_1)).bind fun t209 => ((collatorref01_Dir.f k1 (rdOf ByteArray.empty y196 x46_1)).bind fun t210 => (if t209.toList = t210.toList then ((paths_Base.f k1 (rdOf ByteArray.empty y196 x46_1)).bind fun t211 => ((collatorref01_Base.f k1 (rdOf ByteArray.empty y196 x46_1)).bind fun t212 => (collatorlaw01_PathsTells.j1 k1 t193 y196 (rdOf ByteArray.empty y196 x46_1) y196 (y196.length : Int) x46_1 (t211.toList != t212.toList)))) else (collatorlaw01_PathsTells.j1 k1 t193 y196 (rdOf ByteArray.empty y196 x46_1) y196 (y196.length : Int) x46_1 true)))) else (collatorlaw01_PathsTells.j1 k1 t193 y196 (rdOf ByteArray.empty y196 x46_1) y196 (y196.length : Int) x46_1 true))))) else (collatorlaw01_PathsTells.j1 k1 t193 y196 (rdOf ByteArray.empty y196 x46_1) y196 (y196.length : Int) x46_1 true)) = some r := H
               have A29 := Aside0.mk A290
               clear A290
               by_cases c30 : t200 = t201
               ·rw [if_pos c30] at H
                have c30b0 : (t200 == t201) = true := beq_iff_eq.mpr c30
                have c30b1 : (t200 != t201) = false := bne_eq_false_iff_eq.mpr c30
                clear c30
                (first | rw [c30b0] | rw [c30b1] | (simp only [i64_w, i32_w]; rw [c30b0]) | skip)
                replace H := Option.bind_eq_some_iff.mp H
                obtain ⟨t202, A310, H⟩ := H
                replace H : ((collatorref01_Parts.f k1 (rdOf ByteArray.empty y196 x46_1)).bind fun t205 => ((collatorref01_Texts.f k1 t202 t205).bind fun t208 => (if t208 = true then ((paths_Dir.f k1 (rdOf ByteArray.empty y196 x46_1)).bind fun t209 => ((collatorref01_Dir.f k1 (rdOf ByteArray.empty y196 x46_1)).bind fun t210 => (if t209.toList = t210.toList then ((paths_Base.f k1 (rdOf ByteArray.empty y196 x46_1)).bind fun t211 => ((collatorref01_Base.f k1 (rdOf ByteArray.empty y196 x46_1)).bind fun t212 => (collatorlaw01_PathsTells.j1 k1 t193 y196 (rdOf ByteArray.empty y196 x46_1) y196 (y196.length : Int) x46_1 (t211.toList != t212.toList)))) else (collatorlaw01_PathsTells.j1 k1 t193 y196 (rdOf ByteArray.empty y196 x46_1) y196 (y196.length : Int) x46_1 true)))) else (collatorlaw01_PathsTells.j1 k1 t193 y196 (rdOf ByteArray.empty y196 x46_1) y196 (y196.length : Int) x46_1 true)))) = some r := H
                have A31 := Aside0.mk A310
                clear A310
                replace H := Option.bind_eq_some_iff.mp H
                obtain ⟨t205, A320, H⟩ := H
                replace H : ((collatorref01_Texts.f k1 t202 t205).bind fun t208 => (if t208 = true then ((paths_Dir.f k1 (rdOf ByteArray.empty y196 x46_1)).bind fun t209 => ((collatorref01_Dir.f k1 (rdOf ByteArray.empty y196 x46_1)).bind fun t210 => (if t209.toList = t210.toList then ((paths_Base.f k1 (rdOf ByteArray.empty y196 x46_1)).bind fun t211 => ((collatorref01_Base.f k1 (rdOf ByteArray.empty y196 x46_1)).bind fun t212 => (collatorlaw01_PathsTells.j1 k1 t193 y196 (rdOf ByteArray.empty y196 x46_1) y196 (y196.length : Int) x46_1 (t211.toList != t212.toList)))) else (collatorlaw01_PathsTells.j1 k1 t193 y196 (rdOf ByteArray.empty y196 x46_1) y196 (y196.length : Int) x46_1 true)))) else (collatorlaw01_PathsTells.j1 k1 t193 y196 (rdOf ByteArray.empty y196 x46_1) y196 (y196.length : Int) x46_1 true))) = some r := H
                have A32 := Aside0.mk A320
                clear A320
                replace H := Option.bind_eq_some_iff.mp H
                obtain ⟨t208, A330, H⟩ := H
                replace H : (if t208 = true then ((paths_Dir.f k1 (rdOf ByteArray.empty y196 x46_1)).bind fun t209 => ((collatorref01_Dir.f k1 (rdOf ByteArray.empty y196 x46_1)).bind fun t210 => (if t209.toList = t210.toList then ((paths_Base.f k1 (rdOf ByteArray.empty y196 x46_1)).bind fun t211 => ((collatorref01_Base.f k1 (rdOf ByteArray.empty y196 x46_1)).bind fun t212 => (collatorlaw01_PathsTells.j1 k1 t193 y196 (rdOf ByteArray.empty y196 x46_1) y196 (y196.length : Int) x46_1 (t211.toList != t212.toList)))) else (collatorlaw01_PathsTells.j1 k1 t193 y196 (rdOf ByteArray.empty y196 x46_1) y196 (y196.length : Int) x46_1 true)))) else (collatorlaw01_PathsTells.j1 k1 t193 y196 (rdOf ByteArray.empty y196 x46_1) y196 (y196.length : Int) x46_1 true)) = some r := H
                have A33 := Aside0.mk A330
                clear A330
                by_cases c34 : t208 = true
                ·subst c34
                 have H1 : ((paths_Dir.f k1 (rdOf ByteArray.empty y196 x46_1)).bind fun t209 => ((collatorref01_Dir.f k1 (rdOf ByteArray.empty y196 x46_1)).bind fun t210 => (if t209.toList = t210.toList then ((paths_Base.f k1 (rdOf ByteArray.empty y196 x46_1)).bind fun t211 => ((collatorref01_Base.f k1 (rdOf ByteArray.empty y196 x46_1)).bind fun t212 => (collatorlaw01_PathsTells.j1 k1 t193 y196 (rdOf ByteArray.empty y196 x46_1) y196 (y196.length : Int) x46_1 (t211.toList != t212.toList)))) else (collatorlaw01_PathsTells.j1 k1 t193 y196 (rdOf ByteArray.empty y196 x46_1) y196 (y196.length : Int) x46_1 true)))) = some r := by rw [if_pos rfl] at H; exact H
                 clear H
                 have H := H1
                 clear H1
                 replace H := Option.bind_eq_some_iff.mp H
                 obtain ⟨t209, A350, H⟩ := H
                 replace H : ((collatorref01_Dir.f k1 (rdOf ByteArray.empty y196 x46_1)).bind fun t210 => (if t209.toList = t210.toList then ((paths_Base.f k1 (rdOf ByteArray.empty y196 x46_1)).bind fun t211 => ((collatorref01_Base.f k1 (rdOf ByteArray.empty y196 x46_1)).bind fun t212 => (collatorlaw01_PathsTells.j1 k1 t193 y196 (rdOf ByteArray.empty y196 x46_1) y196 (y196.length : Int) x46_1 (t211.toList != t212.toList)))) else (collatorlaw01_PathsTells.j1 k1 t193 y196 (rdOf ByteArray.empty y196 x46_1) y196 (y196.length : Int) x46_1 true))) = some r := H
                 have A35 := Aside0.mk A350
                 clear A350
                 replace H := Option.bind_eq_some_iff.mp H
                 obtain ⟨t210, A360, H⟩ := H
                 replace H : (if t209.toList = t210.toList then ((paths_Base.f k1 (rdOf ByteArray.empty y196 x46_1)).bind fun t211 => ((collatorref01_Base.f k1 (rdOf ByteArray.empty y196 x46_1)).bind fun t212 => (collatorlaw01_PathsTells.j1 k1 t193 y196 (rdOf ByteArray.empty y196 x46_1) y196 (y196.length : Int) x46_1 (t211.toList != t212.toList)))) else (collatorlaw01_PathsTells.j1 k1 t193 y196 (rdOf ByteArray.empty y196 x46_1) y196 (y196.length : Int) x46_1 true)) = some r := H
                 have A36 := Aside0.mk A360
                 clear A360
                 by_cases c37 : t209.toList = t210.toList
                 ·rw [if_pos c37] at H
                  have c37b0 : (t209.toList == t210.toList) = true := beq_iff_eq.mpr c37
                  have c37b1 : (t209.toList != t210.toList) = false := bne_eq_false_iff_eq.mpr c37
                  clear c37
                  replace H := Option.bind_eq_some_iff.mp H
                  obtain ⟨t211, A380, H⟩ := H
                  replace H : ((collatorref01_Base.f k1 (rdOf ByteArray.empty y196 x46_1)).bind fun t212 => (collatorlaw01_PathsTells.j1 k1 t193 y196 (rdOf ByteArray.empty y196 x46_1) y196 (y196.length : Int) x46_1 (t211.toList != t212.toList))) = some r := H
                  have A38 := Aside0.mk A380
                  clear A380
                  replace H := Option.bind_eq_some_iff.mp H
                  obtain ⟨t212, A390, H⟩ := H
                  replace H : (collatorlaw01_PathsTells.j1 k1 t193 y196 (rdOf ByteArray.empty y196 x46_1) y196 (y196.length : Int) x46_1 (t211.toList != t212.toList)) = some r := H
                  have A39 := Aside0.mk A390
                  clear A390
                  have H' := Aside0.mk H
                  clear H
                  go_wp2_with (first | ((with_reducible refine gate_callee (f := 12) rfl ?_); refine goesL_ _ rfl rfl Tryd.func12 (by kernel_rfl) rfl #[.string (rdOf ByteArray.empty y196 x46_1)] rfl (by (try simp only [List.map_toArray, List.map_cons, List.map_nil]); first | done | rfl | (simp only [List.length_drop, List.length_take]; rfl)) ?_; (with_reducible refine (paths_Check.calls k1 (rdOf ByteArray.empty y196 x46_1) t200 _ A28.out).mono ?_); rintro e w40 ⟨rfl, hb⟩; refine ⟨_, rfl, ?_⟩; have n0_ := Aside0.mk (Kd.R_below (by (with_reducible repeat (first | apply Kd.R_alloc | apply Kd.R_drewN | apply Kd.R_drew)); exact HO_12.out) hb); have n1_ := Aside0.mk (Kd.R_below (by (with_reducible repeat (first | apply Kd.R_alloc | apply Kd.R_drewN | apply Kd.R_drew)); exact HO_44.out) hb); have n2_ := Aside0.mk (below_step (by repeat (first | (with_reducible first | exact HB.out | apply below_alloc | apply pw_below_drewN | apply below_drew1) | exact HB.out)) hb); clear HO_12; clear HO_44; clear HB; have HO_12 := n0_; have HO_44 := n1_; have HB := n2_; clear n0_ n1_ n2_; (try clear hb); (try clear hb2); (try clear hk); (try clear hi)) | ((with_reducible refine gate_callee (f := 13) rfl ?_); refine goesL_ _ rfl rfl Tryd.func13 (by kernel_rfl) rfl #[.string (rdOf ByteArray.empty y196 x46_1)] rfl (by (try simp only [List.map_toArray, List.map_cons, List.map_nil]); first | done | rfl | (simp only [List.length_drop, List.length_take]; rfl)) ?_; (with_reducible refine (collatorref01_Check.calls k1 (rdOf ByteArray.empty y196 x46_1) t201 _ A29.out).mono ?_); rintro e w41 ⟨rfl, hb⟩; refine ⟨_, rfl, ?_⟩; have n0_ := Aside0.mk (Kd.R_below (by (with_reducible repeat (first | apply Kd.R_alloc | apply Kd.R_drewN | apply Kd.R_drew)); exact HO_12.out) hb); have n1_ := Aside0.mk (Kd.R_below (by (with_reducible repeat (first | apply Kd.R_alloc | apply Kd.R_drewN | apply Kd.R_drew)); exact HO_44.out) hb); have n2_ := Aside0.mk (below_step (by repeat (first | (with_reducible first | exact HB.out | apply below_alloc | apply pw_below_drewN | apply below_drew1) | exact HB.out)) hb); clear HO_12; clear HO_44; clear HB; have HO_12 := n0_; have HO_44 := n1_; have HB := n2_; clear n0_ n1_ n2_; (try clear hb); (try clear hb2); (try clear hk); (try clear hi)) | (go_at_call 15; (with_reducible refine (paths_Parts.calls k1 (rdOf ByteArray.empty y196 x46_1) t202 _ A31.out).mono ?_); rintro e w42 ⟨v203, rfl, ho0, hb⟩; have n0_ := Aside0.mk (Kd.R_elder' (by (with_reducible repeat (first | apply Kd.R_alloc | apply Kd.R_drewN | apply Kd.R_drew)); exact HO_12.out) (Kd.R_base ho0) hb); have n1_ := Aside0.mk (Kd.R_elder' (by (with_reducible repeat (first | apply Kd.R_alloc | apply Kd.R_drewN | apply Kd.R_drew)); exact HO_44.out) (Kd.R_base ho0) hb); have n2_ := Aside0.mk (Kd.R_lower (Kd.R_new' (Kd.R_new' ho0 (Kd.R_lt (by (with_reducible repeat (first | apply Kd.R_alloc | apply Kd.R_drewN | apply Kd.R_drew)); exact HO_12.out))) (Kd.R_lt (by (with_reducible repeat (first | apply Kd.R_alloc | apply Kd.R_drewN | apply Kd.R_drew)); exact HO_44.out))) (below_size (by repeat (first | (with_reducible first | exact HB.out | apply below_alloc | apply pw_below_drewN | apply below_drew1) | exact HB.out)))); have n3_ := Aside0.mk (below_step (by repeat (first | (with_reducible first | exact HB.out | apply below_alloc | apply pw_below_drewN | apply below_drew1) | exact HB.out)) hb); clear HO_12; clear HO_44; clear HB; have HO_12 := n0_; have HO_44 := n1_; have HO204 := n2_; have HB := n3_; clear n0_ n1_ n2_ n3_; (try clear hb); (try clear hb2); (try clear hk); (try clear hi); (try clear ho0)) | (go_at_call 16; (with_reducible refine (collatorref01_Parts.calls k1 (rdOf ByteArray.empty y196 x46_1) t205 _ A32.out).mono ?_); rintro e w43 ⟨v206, rfl, ho0, hb⟩; have n0_ := Aside0.mk (Kd.R_elder' (by (with_reducible repeat (first | apply Kd.R_alloc | apply Kd.R_drewN | apply Kd.R_drew)); exact HO_12.out) (Kd.R_base ho0) hb); have n1_ := Aside0.mk (Kd.R_elder' (by (with_reducible repeat (first | apply Kd.R_alloc | apply Kd.R_drewN | apply Kd.R_drew)); exact HO_44.out) (Kd.R_base ho0) hb); have n2_ := Aside0.mk (Kd.R_elder' (by (with_reducible repeat (first | apply Kd.R_alloc | apply Kd.R_drewN | apply Kd.R_drew)); exact HO204.out) (Kd.R_base ho0) hb); have n3_ := Aside0.mk (Kd.R_lower (Kd.R_new' (Kd.R_new' (Kd.R_new' ho0 (Kd.R_lt (by (with_reducible repeat (first | apply Kd.R_alloc | apply Kd.R_drewN | apply Kd.R_drew)); exact HO_12.out))) (Kd.R_lt (by (with_reducible repeat (first | apply Kd.R_alloc | apply Kd.R_drewN | apply Kd.R_drew)); exact HO_44.out))) (Kd.R_lt (by (with_reducible repeat (first | apply Kd.R_alloc | apply Kd.R_drewN | apply Kd.R_drew)); exact HO204.out))) (below_size (by repeat (first | (with_reducible first | exact HB.out | apply below_alloc | apply pw_below_drewN | apply below_drew1) | exact HB.out)))); have n4_ := Aside0.mk (below_step (by repeat (first | (with_reducible first | exact HB.out | apply below_alloc | apply pw_below_drewN | apply below_drew1) | exact HB.out)) hb); clear HO_12; clear HO_44; clear HO204; clear HB; have HO_12 := n0_; have HO_44 := n1_; have HO204 := n2_; have HO207 := n3_; have HB := n4_; clear n0_ n1_ n2_ n3_ n4_; (try clear hb); (try clear hb2); (try clear hk); (try clear hi); (try clear ho0); (try (obtain ⟨Ao44, co44, eo44⟩ := Kd.R_slice HO204.out; subst eo44)); (try (obtain ⟨Ao45, co45, eo45⟩ := Kd.R_slice HO207.out; subst eo45))) | (go_at_call 14; (with_reducible refine (collatorref01_Texts.calls k1 _ _ t202 _ _ t205 true _ ?side1 ?side2 ?side3 ?side4 A33.out).mono ?_); (case side1 => repeat (first | exact (Kd.R_reads' HO204.out).2.2 | (with_reducible refine Kd.C_alloc ?_ _) | (with_reducible refine Kd.C_drewN ?_ _) | (with_reducible refine Kd.C_drew ?_))); (case side2 => exact (Kd.R_reads' HO204.out).2.1); (case side3 => repeat (first | exact (Kd.R_reads' HO207.out).2.2 | (with_reducible refine Kd.C_alloc ?_ _) | (with_reducible refine Kd.C_drewN ?_ _) | (with_reducible refine Kd.C_drew ?_))); (case side4 => exact (Kd.R_reads' HO207.out).2.1); rintro e w' ⟨rfl, ⟨nd, rfl⟩⟩) | (go_at_call 17; (with_reducible refine (paths_Dir.calls k1 (rdOf ByteArray.empty y196 x46_1) t209 _ A35.out).mono ?_); rintro e w46 ⟨rfl, hb⟩; have n0_ := Aside0.mk (Kd.R_below (by (with_reducible repeat (first | apply Kd.R_alloc | apply Kd.R_drewN | apply Kd.R_drew)); exact HO_12.out) hb); have n1_ := Aside0.mk (Kd.R_below (by (with_reducible repeat (first | apply Kd.R_alloc | apply Kd.R_drewN | apply Kd.R_drew)); exact HO_44.out) hb); have n2_ := Aside0.mk (Kd.R_below (by (with_reducible repeat (first | apply Kd.R_alloc | apply Kd.R_drewN | apply Kd.R_drew)); exact HO204.out) hb); have n3_ := Aside0.mk (Kd.R_below (by (with_reducible repeat (first | apply Kd.R_alloc | apply Kd.R_drewN | apply Kd.R_drew)); exact HO207.out) hb); have n4_ := Aside0.mk (below_step (by repeat (first | (with_reducible first | exact HB.out | apply below_alloc | apply pw_below_drewN | apply below_drew1) | exact HB.out)) hb); clear HO_12; clear HO_44; clear HO204; clear HO207; clear HB; have HO_12 := n0_; have HO_44 := n1_; have HO204 := n2_; have HO207 := n3_; have HB := n4_; clear n0_ n1_ n2_ n3_ n4_; (try clear hb); (try clear hb2); (try clear hk); (try clear hi)) | (go_at_call 18; (with_reducible refine (collatorref01_Dir.calls k1 (rdOf ByteArray.empty y196 x46_1) t210 _ A36.out).mono ?_); rintro e w47 ⟨rfl, hb⟩; have n0_ := Aside0.mk (Kd.R_below (by (with_reducible repeat (first | apply Kd.R_alloc | apply Kd.R_drewN | apply Kd.R_drew)); exact HO_12.out) hb); have n1_ := Aside0.mk (Kd.R_below (by (with_reducible repeat (first | apply Kd.R_alloc | apply Kd.R_drewN | apply Kd.R_drew)); exact HO_44.out) hb); have n2_ := Aside0.mk (Kd.R_below (by (with_reducible repeat (first | apply Kd.R_alloc | apply Kd.R_drewN | apply Kd.R_drew)); exact HO204.out) hb); have n3_ := Aside0.mk (Kd.R_below (by (with_reducible repeat (first | apply Kd.R_alloc | apply Kd.R_drewN | apply Kd.R_drew)); exact HO207.out) hb); have n4_ := Aside0.mk (below_step (by repeat (first | (with_reducible first | exact HB.out | apply below_alloc | apply pw_below_drewN | apply below_drew1) | exact HB.out)) hb); clear HO_12; clear HO_44; clear HO204; clear HO207; clear HB; have HO_12 := n0_; have HO_44 := n1_; have HO204 := n2_; have HO207 := n3_; have HB := n4_; clear n0_ n1_ n2_ n3_ n4_; (try clear hb); (try clear hb2); (try clear hk); (try clear hi)) | (go_at_call 19; (with_reducible refine (paths_Base.calls k1 (rdOf ByteArray.empty y196 x46_1) t211 _ A38.out).mono ?_); rintro e w48 ⟨rfl, hb⟩; have n0_ := Aside0.mk (Kd.R_below (by (with_reducible repeat (first | apply Kd.R_alloc | apply Kd.R_drewN | apply Kd.R_drew)); exact HO_12.out) hb); have n1_ := Aside0.mk (Kd.R_below (by (with_reducible repeat (first | apply Kd.R_alloc | apply Kd.R_drewN | apply Kd.R_drew)); exact HO_44.out) hb); have n2_ := Aside0.mk (Kd.R_below (by (with_reducible repeat (first | apply Kd.R_alloc | apply Kd.R_drewN | apply Kd.R_drew)); exact HO204.out) hb); have n3_ := Aside0.mk (Kd.R_below (by (with_reducible repeat (first | apply Kd.R_alloc | apply Kd.R_drewN | apply Kd.R_drew)); exact HO207.out) hb); have n4_ := Aside0.mk (below_step (by repeat (first | (with_reducible first | exact HB.out | apply below_alloc | apply pw_below_drewN | apply below_drew1) | exact HB.out)) hb); clear HO_12; clear HO_44; clear HO204; clear HO207; clear HB; have HO_12 := n0_; have HO_44 := n1_; have HO204 := n2_; have HO207 := n3_; have HB := n4_; clear n0_ n1_ n2_ n3_ n4_; (try clear hb); (try clear hb2); (try clear hk); (try clear hi)) | (go_at_call 20; (with_reducible refine (collatorref01_Base.calls k1 (rdOf ByteArray.empty y196 x46_1) t212 _ A39.out).mono ?_); rintro e w49 ⟨rfl, hb⟩; have n0_ := Aside0.mk (Kd.R_below (by (with_reducible repeat (first | apply Kd.R_alloc | apply Kd.R_drewN | apply Kd.R_drew)); exact HO_12.out) hb); have n1_ := Aside0.mk (Kd.R_below (by (with_reducible repeat (first | apply Kd.R_alloc | apply Kd.R_drewN | apply Kd.R_drew)); exact HO_44.out) hb); have n2_ := Aside0.mk (Kd.R_below (by (with_reducible repeat (first | apply Kd.R_alloc | apply Kd.R_drewN | apply Kd.R_drew)); exact HO204.out) hb); have n3_ := Aside0.mk (Kd.R_below (by (with_reducible repeat (first | apply Kd.R_alloc | apply Kd.R_drewN | apply Kd.R_drew)); exact HO207.out) hb); have n4_ := Aside0.mk (below_step (by repeat (first | (with_reducible first | exact HB.out | apply below_alloc | apply pw_below_drewN | apply below_drew1) | exact HB.out)) hb); clear HO_12; clear HO_44; clear HO204; clear HO207; clear HB; have HO_12 := n0_; have HO_44 := n1_; have HO204 := n2_; have HO207 := n3_; have HB := n4_; clear n0_ n1_ n2_ n3_ n4_; (try clear hb); (try clear hb2); (try clear hk); (try clear hi)))
                  go_meet
                  case rel => exact ⟨_, ((t211.toList != t212.toList)), (by first | rfl | (simp; done) | (simp [*]; done)), H', ⟨by have := HK1.out; first | omega | exact Nat.le_refl _⟩, ⟨by (with_reducible repeat (first | apply Kd.R_alloc | apply Kd.R_drewN | apply Kd.R_drew)); exact Kd.R_mono HO_12.out (fun _ hk => trivial)⟩, ⟨by (with_reducible repeat (first | apply Kd.R_alloc | apply Kd.R_drewN | apply Kd.R_drew)); exact Kd.R_mono HO_44.out (fun _ hk => trivial)⟩, ⟨by repeat (first | (with_reducible first | exact HB.out | apply below_alloc | apply pw_below_drewN | apply below_drew1) | exact HB.out)⟩⟩
                 ·rw [if_neg c37] at H
                  have c37b0 : (t209.toList == t210.toList) = false := beq_eq_false_iff_ne.mpr c37
                  have c37b1 : (t209.toList != t210.toList) = true := bne_iff_ne.mpr c37
                  have H' := Aside0.mk H
                  clear H
                  go_wp2_with (first | ((with_reducible refine gate_callee (f := 12) rfl ?_); refine goesL_ _ rfl rfl Tryd.func12 (by kernel_rfl) rfl #[.string (rdOf ByteArray.empty y196 x46_1)] rfl (by (try simp only [List.map_toArray, List.map_cons, List.map_nil]); first | done | rfl | (simp only [List.length_drop, List.length_take]; rfl)) ?_; (with_reducible refine (paths_Check.calls k1 (rdOf ByteArray.empty y196 x46_1) t200 _ A28.out).mono ?_); rintro e w50 ⟨rfl, hb⟩; refine ⟨_, rfl, ?_⟩; have n0_ := Aside0.mk (Kd.R_below (by (with_reducible repeat (first | apply Kd.R_alloc | apply Kd.R_drewN | apply Kd.R_drew)); exact HO_12.out) hb); have n1_ := Aside0.mk (Kd.R_below (by (with_reducible repeat (first | apply Kd.R_alloc | apply Kd.R_drewN | apply Kd.R_drew)); exact HO_44.out) hb); have n2_ := Aside0.mk (below_step (by repeat (first | (with_reducible first | exact HB.out | apply below_alloc | apply pw_below_drewN | apply below_drew1) | exact HB.out)) hb); clear HO_12; clear HO_44; clear HB; have HO_12 := n0_; have HO_44 := n1_; have HB := n2_; clear n0_ n1_ n2_; (try clear hb); (try clear hb2); (try clear hk); (try clear hi)) | ((with_reducible refine gate_callee (f := 13) rfl ?_); refine goesL_ _ rfl rfl Tryd.func13 (by kernel_rfl) rfl #[.string (rdOf ByteArray.empty y196 x46_1)] rfl (by (try simp only [List.map_toArray, List.map_cons, List.map_nil]); first | done | rfl | (simp only [List.length_drop, List.length_take]; rfl)) ?_; (with_reducible refine (collatorref01_Check.calls k1 (rdOf ByteArray.empty y196 x46_1) t201 _ A29.out).mono ?_); rintro e w51 ⟨rfl, hb⟩; refine ⟨_, rfl, ?_⟩; have n0_ := Aside0.mk (Kd.R_below (by (with_reducible repeat (first | apply Kd.R_alloc | apply Kd.R_drewN | apply Kd.R_drew)); exact HO_12.out) hb); have n1_ := Aside0.mk (Kd.R_below (by (with_reducible repeat (first | apply Kd.R_alloc | apply Kd.R_drewN | apply Kd.R_drew)); exact HO_44.out) hb); have n2_ := Aside0.mk (below_step (by repeat (first | (with_reducible first | exact HB.out | apply below_alloc | apply pw_below_drewN | apply below_drew1) | exact HB.out)) hb); clear HO_12; clear HO_44; clear HB; have HO_12 := n0_; have HO_44 := n1_; have HB := n2_; clear n0_ n1_ n2_; (try clear hb); (try clear hb2); (try clear hk); (try clear hi)) | (go_at_call 15; (with_reducible refine (paths_Parts.calls k1 (rdOf ByteArray.empty y196 x46_1) t202 _ A31.out).mono ?_); rintro e w52 ⟨v203, rfl, ho0, hb⟩; have n0_ := Aside0.mk (Kd.R_elder' (by (with_reducible repeat (first | apply Kd.R_alloc | apply Kd.R_drewN | apply Kd.R_drew)); exact HO_12.out) (Kd.R_base ho0) hb); have n1_ := Aside0.mk (Kd.R_elder' (by (with_reducible repeat (first | apply Kd.R_alloc | apply Kd.R_drewN | apply Kd.R_drew)); exact HO_44.out) (Kd.R_base ho0) hb); have n2_ := Aside0.mk (Kd.R_lower (Kd.R_new' (Kd.R_new' ho0 (Kd.R_lt (by (with_reducible repeat (first | apply Kd.R_alloc | apply Kd.R_drewN | apply Kd.R_drew)); exact HO_12.out))) (Kd.R_lt (by (with_reducible repeat (first | apply Kd.R_alloc | apply Kd.R_drewN | apply Kd.R_drew)); exact HO_44.out))) (below_size (by repeat (first | (with_reducible first | exact HB.out | apply below_alloc | apply pw_below_drewN | apply below_drew1) | exact HB.out)))); have n3_ := Aside0.mk (below_step (by repeat (first | (with_reducible first | exact HB.out | apply below_alloc | apply pw_below_drewN | apply below_drew1) | exact HB.out)) hb); clear HO_12; clear HO_44; clear HB; have HO_12 := n0_; have HO_44 := n1_; have HO204 := n2_; have HB := n3_; clear n0_ n1_ n2_ n3_; (try clear hb); (try clear hb2); (try clear hk); (try clear hi); (try clear ho0)) | (go_at_call 16; (with_reducible refine (collatorref01_Parts.calls k1 (rdOf ByteArray.empty y196 x46_1) t205 _ A32.out).mono ?_); rintro e w53 ⟨v206, rfl, ho0, hb⟩; have n0_ := Aside0.mk (Kd.R_elder' (by (with_reducible repeat (first | apply Kd.R_alloc | apply Kd.R_drewN | apply Kd.R_drew)); exact HO_12.out) (Kd.R_base ho0) hb); have n1_ := Aside0.mk (Kd.R_elder' (by (with_reducible repeat (first | apply Kd.R_alloc | apply Kd.R_drewN | apply Kd.R_drew)); exact HO_44.out) (Kd.R_base ho0) hb); have n2_ := Aside0.mk (Kd.R_elder' (by (with_reducible repeat (first | apply Kd.R_alloc | apply Kd.R_drewN | apply Kd.R_drew)); exact HO204.out) (Kd.R_base ho0) hb); have n3_ := Aside0.mk (Kd.R_lower (Kd.R_new' (Kd.R_new' (Kd.R_new' ho0 (Kd.R_lt (by (with_reducible repeat (first | apply Kd.R_alloc | apply Kd.R_drewN | apply Kd.R_drew)); exact HO_12.out))) (Kd.R_lt (by (with_reducible repeat (first | apply Kd.R_alloc | apply Kd.R_drewN | apply Kd.R_drew)); exact HO_44.out))) (Kd.R_lt (by (with_reducible repeat (first | apply Kd.R_alloc | apply Kd.R_drewN | apply Kd.R_drew)); exact HO204.out))) (below_size (by repeat (first | (with_reducible first | exact HB.out | apply below_alloc | apply pw_below_drewN | apply below_drew1) | exact HB.out)))); have n4_ := Aside0.mk (below_step (by repeat (first | (with_reducible first | exact HB.out | apply below_alloc | apply pw_below_drewN | apply below_drew1) | exact HB.out)) hb); clear HO_12; clear HO_44; clear HO204; clear HB; have HO_12 := n0_; have HO_44 := n1_; have HO204 := n2_; have HO207 := n3_; have HB := n4_; clear n0_ n1_ n2_ n3_ n4_; (try clear hb); (try clear hb2); (try clear hk); (try clear hi); (try clear ho0); (try (obtain ⟨Ao54, co54, eo54⟩ := Kd.R_slice HO204.out; subst eo54)); (try (obtain ⟨Ao55, co55, eo55⟩ := Kd.R_slice HO207.out; subst eo55))) | (go_at_call 14; (with_reducible refine (collatorref01_Texts.calls k1 _ _ t202 _ _ t205 true _ ?side1 ?side2 ?side3 ?side4 A33.out).mono ?_); (case side1 => repeat (first | exact (Kd.R_reads' HO204.out).2.2 | (with_reducible refine Kd.C_alloc ?_ _) | (with_reducible refine Kd.C_drewN ?_ _) | (with_reducible refine Kd.C_drew ?_))); (case side2 => exact (Kd.R_reads' HO204.out).2.1); (case side3 => repeat (first | exact (Kd.R_reads' HO207.out).2.2 | (with_reducible refine Kd.C_alloc ?_ _) | (with_reducible refine Kd.C_drewN ?_ _) | (with_reducible refine Kd.C_drew ?_))); (case side4 => exact (Kd.R_reads' HO207.out).2.1); rintro e w' ⟨rfl, ⟨nd, rfl⟩⟩) | (go_at_call 17; (with_reducible refine (paths_Dir.calls k1 (rdOf ByteArray.empty y196 x46_1) t209 _ A35.out).mono ?_); rintro e w56 ⟨rfl, hb⟩; have n0_ := Aside0.mk (Kd.R_below (by (with_reducible repeat (first | apply Kd.R_alloc | apply Kd.R_drewN | apply Kd.R_drew)); exact HO_12.out) hb); have n1_ := Aside0.mk (Kd.R_below (by (with_reducible repeat (first | apply Kd.R_alloc | apply Kd.R_drewN | apply Kd.R_drew)); exact HO_44.out) hb); have n2_ := Aside0.mk (Kd.R_below (by (with_reducible repeat (first | apply Kd.R_alloc | apply Kd.R_drewN | apply Kd.R_drew)); exact HO204.out) hb); have n3_ := Aside0.mk (Kd.R_below (by (with_reducible repeat (first | apply Kd.R_alloc | apply Kd.R_drewN | apply Kd.R_drew)); exact HO207.out) hb); have n4_ := Aside0.mk (below_step (by repeat (first | (with_reducible first | exact HB.out | apply below_alloc | apply pw_below_drewN | apply below_drew1) | exact HB.out)) hb); clear HO_12; clear HO_44; clear HO204; clear HO207; clear HB; have HO_12 := n0_; have HO_44 := n1_; have HO204 := n2_; have HO207 := n3_; have HB := n4_; clear n0_ n1_ n2_ n3_ n4_; (try clear hb); (try clear hb2); (try clear hk); (try clear hi)) | (go_at_call 18; (with_reducible refine (collatorref01_Dir.calls k1 (rdOf ByteArray.empty y196 x46_1) t210 _ A36.out).mono ?_); rintro e w57 ⟨rfl, hb⟩; have n0_ := Aside0.mk (Kd.R_below (by (with_reducible repeat (first | apply Kd.R_alloc | apply Kd.R_drewN | apply Kd.R_drew)); exact HO_12.out) hb); have n1_ := Aside0.mk (Kd.R_below (by (with_reducible repeat (first | apply Kd.R_alloc | apply Kd.R_drewN | apply Kd.R_drew)); exact HO_44.out) hb); have n2_ := Aside0.mk (Kd.R_below (by (with_reducible repeat (first | apply Kd.R_alloc | apply Kd.R_drewN | apply Kd.R_drew)); exact HO204.out) hb); have n3_ := Aside0.mk (Kd.R_below (by (with_reducible repeat (first | apply Kd.R_alloc | apply Kd.R_drewN | apply Kd.R_drew)); exact HO207.out) hb); have n4_ := Aside0.mk (below_step (by repeat (first | (with_reducible first | exact HB.out | apply below_alloc | apply pw_below_drewN | apply below_drew1) | exact HB.out)) hb); clear HO_12; clear HO_44; clear HO204; clear HO207; clear HB; have HO_12 := n0_; have HO_44 := n1_; have HO204 := n2_; have HO207 := n3_; have HB := n4_; clear n0_ n1_ n2_ n3_ n4_; (try clear hb); (try clear hb2); (try clear hk); (try clear hi)))
                  go_meet
                  case rel => exact ⟨_, (true), (by first | rfl | (simp; done) | (simp [*]; done)), H', ⟨by have := HK1.out; first | omega | exact Nat.le_refl _⟩, ⟨by (with_reducible repeat (first | apply Kd.R_alloc | apply Kd.R_drewN | apply Kd.R_drew)); exact Kd.R_mono HO_12.out (fun _ hk => trivial)⟩, ⟨by (with_reducible repeat (first | apply Kd.R_alloc | apply Kd.R_drewN | apply Kd.R_drew)); exact Kd.R_mono HO_44.out (fun _ hk => trivial)⟩, ⟨by repeat (first | (with_reducible first | exact HB.out | apply below_alloc | apply pw_below_drewN | apply below_drew1) | exact HB.out)⟩⟩
                ·replace c34 := Bool.eq_false_iff.mpr c34
                 subst c34
                 have H1 : (collatorlaw01_PathsTells.j1 k1 t193 y196 (rdOf ByteArray.empty y196 x46_1) y196 (y196.length : Int) x46_1 true) = some r := by rw [if_neg (show ¬ (false = true) by decide)] at H; exact H
                 clear H
                 have H := H1
                 clear H1
                 have H' := Aside0.mk H
                 clear H
                 go_wp2_with (first | ((with_reducible refine gate_callee (f := 12) rfl ?_); refine goesL_ _ rfl rfl Tryd.func12 (by kernel_rfl) rfl #[.string (rdOf ByteArray.empty y196 x46_1)] rfl (by (try simp only [List.map_toArray, List.map_cons, List.map_nil]); first | done | rfl | (simp only [List.length_drop, List.length_take]; rfl)) ?_; (with_reducible refine (paths_Check.calls k1 (rdOf ByteArray.empty y196 x46_1) t200 _ A28.out).mono ?_); rintro e w58 ⟨rfl, hb⟩; refine ⟨_, rfl, ?_⟩; have n0_ := Aside0.mk (Kd.R_below (by (with_reducible repeat (first | apply Kd.R_alloc | apply Kd.R_drewN | apply Kd.R_drew)); exact HO_12.out) hb); have n1_ := Aside0.mk (Kd.R_below (by (with_reducible repeat (first | apply Kd.R_alloc | apply Kd.R_drewN | apply Kd.R_drew)); exact HO_44.out) hb); have n2_ := Aside0.mk (below_step (by repeat (first | (with_reducible first | exact HB.out | apply below_alloc | apply pw_below_drewN | apply below_drew1) | exact HB.out)) hb); clear HO_12; clear HO_44; clear HB; have HO_12 := n0_; have HO_44 := n1_; have HB := n2_; clear n0_ n1_ n2_; (try clear hb); (try clear hb2); (try clear hk); (try clear hi)) | ((with_reducible refine gate_callee (f := 13) rfl ?_); refine goesL_ _ rfl rfl Tryd.func13 (by kernel_rfl) rfl #[.string (rdOf ByteArray.empty y196 x46_1)] rfl (by (try simp only [List.map_toArray, List.map_cons, List.map_nil]); first | done | rfl | (simp only [List.length_drop, List.length_take]; rfl)) ?_; (with_reducible refine (collatorref01_Check.calls k1 (rdOf ByteArray.empty y196 x46_1) t201 _ A29.out).mono ?_); rintro e w59 ⟨rfl, hb⟩; refine ⟨_, rfl, ?_⟩; have n0_ := Aside0.mk (Kd.R_below (by (with_reducible repeat (first | apply Kd.R_alloc | apply Kd.R_drewN | apply Kd.R_drew)); exact HO_12.out) hb); have n1_ := Aside0.mk (Kd.R_below (by (with_reducible repeat (first | apply Kd.R_alloc | apply Kd.R_drewN | apply Kd.R_drew)); exact HO_44.out) hb); have n2_ := Aside0.mk (below_step (by repeat (first | (with_reducible first | exact HB.out | apply below_alloc | apply pw_below_drewN | apply below_drew1) | exact HB.out)) hb); clear HO_12; clear HO_44; clear HB; have HO_12 := n0_; have HO_44 := n1_; have HB := n2_; clear n0_ n1_ n2_; (try clear hb); (try clear hb2); (try clear hk); (try clear hi)) | (go_at_call 15; (with_reducible refine (paths_Parts.calls k1 (rdOf ByteArray.empty y196 x46_1) t202 _ A31.out).mono ?_); rintro e w60 ⟨v203, rfl, ho0, hb⟩; have n0_ := Aside0.mk (Kd.R_elder' (by (with_reducible repeat (first | apply Kd.R_alloc | apply Kd.R_drewN | apply Kd.R_drew)); exact HO_12.out) (Kd.R_base ho0) hb); have n1_ := Aside0.mk (Kd.R_elder' (by (with_reducible repeat (first | apply Kd.R_alloc | apply Kd.R_drewN | apply Kd.R_drew)); exact HO_44.out) (Kd.R_base ho0) hb); have n2_ := Aside0.mk (Kd.R_lower (Kd.R_new' (Kd.R_new' ho0 (Kd.R_lt (by (with_reducible repeat (first | apply Kd.R_alloc | apply Kd.R_drewN | apply Kd.R_drew)); exact HO_12.out))) (Kd.R_lt (by (with_reducible repeat (first | apply Kd.R_alloc | apply Kd.R_drewN | apply Kd.R_drew)); exact HO_44.out))) (below_size (by repeat (first | (with_reducible first | exact HB.out | apply below_alloc | apply pw_below_drewN | apply below_drew1) | exact HB.out)))); have n3_ := Aside0.mk (below_step (by repeat (first | (with_reducible first | exact HB.out | apply below_alloc | apply pw_below_drewN | apply below_drew1) | exact HB.out)) hb); clear HO_12; clear HO_44; clear HB; have HO_12 := n0_; have HO_44 := n1_; have HO204 := n2_; have HB := n3_; clear n0_ n1_ n2_ n3_; (try clear hb); (try clear hb2); (try clear hk); (try clear hi); (try clear ho0)) | (go_at_call 16; (with_reducible refine (collatorref01_Parts.calls k1 (rdOf ByteArray.empty y196 x46_1) t205 _ A32.out).mono ?_); rintro e w61 ⟨v206, rfl, ho0, hb⟩; have n0_ := Aside0.mk (Kd.R_elder' (by (with_reducible repeat (first | apply Kd.R_alloc | apply Kd.R_drewN | apply Kd.R_drew)); exact HO_12.out) (Kd.R_base ho0) hb); have n1_ := Aside0.mk (Kd.R_elder' (by (with_reducible repeat (first | apply Kd.R_alloc | apply Kd.R_drewN | apply Kd.R_drew)); exact HO_44.out) (Kd.R_base ho0) hb); have n2_ := Aside0.mk (Kd.R_elder' (by (with_reducible repeat (first | apply Kd.R_alloc | apply Kd.R_drewN | apply Kd.R_drew)); exact HO204.out) (Kd.R_base ho0) hb); have n3_ := Aside0.mk (Kd.R_lower (Kd.R_new' (Kd.R_new' (Kd.R_new' ho0 (Kd.R_lt (by (with_reducible repeat (first | apply Kd.R_alloc | apply Kd.R_drewN | apply Kd.R_drew)); exact HO_12.out))) (Kd.R_lt (by (with_reducible repeat (first | apply Kd.R_alloc | apply Kd.R_drewN | apply Kd.R_drew)); exact HO_44.out))) (Kd.R_lt (by (with_reducible repeat (first | apply Kd.R_alloc | apply Kd.R_drewN | apply Kd.R_drew)); exact HO204.out))) (below_size (by repeat (first | (with_reducible first | exact HB.out | apply below_alloc | apply pw_below_drewN | apply below_drew1) | exact HB.out)))); have n4_ := Aside0.mk (below_step (by repeat (first | (with_reducible first | exact HB.out | apply below_alloc | apply pw_below_drewN | apply below_drew1) | exact HB.out)) hb); clear HO_12; clear HO_44; clear HO204; clear HB; have HO_12 := n0_; have HO_44 := n1_; have HO204 := n2_; have HO207 := n3_; have HB := n4_; clear n0_ n1_ n2_ n3_ n4_; (try clear hb); (try clear hb2); (try clear hk); (try clear hi); (try clear ho0); (try (obtain ⟨Ao62, co62, eo62⟩ := Kd.R_slice HO204.out; subst eo62)); (try (obtain ⟨Ao63, co63, eo63⟩ := Kd.R_slice HO207.out; subst eo63))) | (go_at_call 14; (with_reducible refine (collatorref01_Texts.calls k1 _ _ t202 _ _ t205 false _ ?side1 ?side2 ?side3 ?side4 A33.out).mono ?_); (case side1 => repeat (first | exact (Kd.R_reads' HO204.out).2.2 | (with_reducible refine Kd.C_alloc ?_ _) | (with_reducible refine Kd.C_drewN ?_ _) | (with_reducible refine Kd.C_drew ?_))); (case side2 => exact (Kd.R_reads' HO204.out).2.1); (case side3 => repeat (first | exact (Kd.R_reads' HO207.out).2.2 | (with_reducible refine Kd.C_alloc ?_ _) | (with_reducible refine Kd.C_drewN ?_ _) | (with_reducible refine Kd.C_drew ?_))); (case side4 => exact (Kd.R_reads' HO207.out).2.1); rintro e w' ⟨rfl, ⟨nd, rfl⟩⟩))
                 go_meet
                 case rel => exact ⟨_, (true), (by first | rfl | (simp; done) | (simp [*]; done)), H', ⟨by have := HK1.out; first | omega | exact Nat.le_refl _⟩, ⟨by (with_reducible repeat (first | apply Kd.R_alloc | apply Kd.R_drewN | apply Kd.R_drew)); exact Kd.R_mono HO_12.out (fun _ hk => trivial)⟩, ⟨by (with_reducible repeat (first | apply Kd.R_alloc | apply Kd.R_drewN | apply Kd.R_drew)); exact Kd.R_mono HO_44.out (fun _ hk => trivial)⟩, ⟨by repeat (first | (with_reducible first | exact HB.out | apply below_alloc | apply pw_below_drewN | apply below_drew1) | exact HB.out)⟩⟩
               ·rw [if_neg c30] at H
                have c30b0 : (t200 == t201) = false := beq_eq_false_iff_ne.mpr c30
                have c30b1 : (t200 != t201) = true := bne_iff_ne.mpr c30
                (first | rw [c30b0] | rw [c30b1] | (simp only [i64_w, i32_w]; rw [c30b0]) | skip)
                have H' := Aside0.mk H
                clear H
                go_wp2_with (first | ((with_reducible refine gate_callee (f := 12) rfl ?_); refine goesL_ _ rfl rfl Tryd.func12 (by kernel_rfl) rfl #[.string (rdOf ByteArray.empty y196 x46_1)] rfl (by (try simp only [List.map_toArray, List.map_cons, List.map_nil]); first | done | rfl | (simp only [List.length_drop, List.length_take]; rfl)) ?_; (with_reducible refine (paths_Check.calls k1 (rdOf ByteArray.empty y196 x46_1) t200 _ A28.out).mono ?_); rintro e w64 ⟨rfl, hb⟩; refine ⟨_, rfl, ?_⟩; have n0_ := Aside0.mk (Kd.R_below (by (with_reducible repeat (first | apply Kd.R_alloc | apply Kd.R_drewN | apply Kd.R_drew)); exact HO_12.out) hb); have n1_ := Aside0.mk (Kd.R_below (by (with_reducible repeat (first | apply Kd.R_alloc | apply Kd.R_drewN | apply Kd.R_drew)); exact HO_44.out) hb); have n2_ := Aside0.mk (below_step (by repeat (first | (with_reducible first | exact HB.out | apply below_alloc | apply pw_below_drewN | apply below_drew1) | exact HB.out)) hb); clear HO_12; clear HO_44; clear HB; have HO_12 := n0_; have HO_44 := n1_; have HB := n2_; clear n0_ n1_ n2_; (try clear hb); (try clear hb2); (try clear hk); (try clear hi)) | ((with_reducible refine gate_callee (f := 13) rfl ?_); refine goesL_ _ rfl rfl Tryd.func13 (by kernel_rfl) rfl #[.string (rdOf ByteArray.empty y196 x46_1)] rfl (by (try simp only [List.map_toArray, List.map_cons, List.map_nil]); first | done | rfl | (simp only [List.length_drop, List.length_take]; rfl)) ?_; (with_reducible refine (collatorref01_Check.calls k1 (rdOf ByteArray.empty y196 x46_1) t201 _ A29.out).mono ?_); rintro e w65 ⟨rfl, hb⟩; refine ⟨_, rfl, ?_⟩; have n0_ := Aside0.mk (Kd.R_below (by (with_reducible repeat (first | apply Kd.R_alloc | apply Kd.R_drewN | apply Kd.R_drew)); exact HO_12.out) hb); have n1_ := Aside0.mk (Kd.R_below (by (with_reducible repeat (first | apply Kd.R_alloc | apply Kd.R_drewN | apply Kd.R_drew)); exact HO_44.out) hb); have n2_ := Aside0.mk (below_step (by repeat (first | (with_reducible first | exact HB.out | apply below_alloc | apply pw_below_drewN | apply below_drew1) | exact HB.out)) hb); clear HO_12; clear HO_44; clear HB; have HO_12 := n0_; have HO_44 := n1_; have HB := n2_; clear n0_ n1_ n2_; (try clear hb); (try clear hb2); (try clear hk); (try clear hi)))
                go_meet
                case rel => exact ⟨_, (true), (by first | rfl | (simp; done) | (simp [*]; done)), H', ⟨by have := HK1.out; first | omega | exact Nat.le_refl _⟩, ⟨by (with_reducible repeat (first | apply Kd.R_alloc | apply Kd.R_drewN | apply Kd.R_drew)); exact HO_12.out⟩, ⟨by (with_reducible repeat (first | apply Kd.R_alloc | apply Kd.R_drewN | apply Kd.R_drew)); exact HO_44.out⟩, ⟨by repeat (first | (with_reducible first | exact HB.out | apply below_alloc | apply pw_below_drewN | apply below_drew1) | exact HB.out)⟩⟩
              case rest =>
               clear HC27
               (try clear c1);(try clear p1);(try clear q1);(try clear hx1);(try clear c2);(try clear p2);(try clear c3);(try clear c7);(try clear c7b0);(try clear c7b1);(try clear c8);(try clear c8b0);(try clear c8b1);(try clear c10);(try clear c10b0);(try clear c10b1);(try clear c11);(try clear c11b0);(try clear c11b1);(try clear c12);(try clear c13);(try clear c14);(try clear c14b0);(try clear c14b1);(try clear c14b2);(try clear c15);(try clear c15b0);(try clear c15b1);(try clear c15b2);(try clear c16);(try clear c16b0);(try clear c16b1);(try clear c16b2);(try clear c17);(try clear c17b0);(try clear c17b1);(try clear c17b2);(try clear p19);(try clear q19);(try clear hx19);(try clear c24);(try clear c24b0);(try clear c25);(try clear c25b0);(try clear c26);(try clear c26b0);(try clear c30);(try clear c30b0);(try clear c30b1);(try clear c34);(try clear c37);(try clear c37b0);(try clear c37b1);(try clear hx199_0);(try clear p199);(try clear p2);(try clear q199)
               obtain ⟨kq, x76_26, rfl, HA, HJ26, HO_12, HO_44, HB⟩ := hcut
               cases kq with
               | zero => exact absurd HA.out (by simp [collatorlaw01_PathsTells.j1])
               | succ kj26 =>
                have H := HA.out
                clear HA
                simp only [collatorlaw01_PathsTells.j1] at H
                by_cases c66 : x76_26 = true
                ·subst c66
                 have H1 : (some false) = some r := by rw [if_pos rfl] at H; exact H
                 clear H
                 have H := H1
                 clear H1
                 obtain rfl := Option.some.inj H
                 go_wp2
                 go_ret
                 exact ⟨by first | rfl | (simp [errW_none, errW_some] <;> rfl) | (simp only [← hji6, ← hji9]; first | rfl | (simp [errW_none, errW_some] <;> rfl)) | (simp [*, errW_none, errW_some] <;> rfl), by repeat (first | (with_reducible first | exact HB.out | apply below_alloc | apply pw_below_drewN | apply below_drew1) | exact HB.out)⟩
                ·replace c66 := Bool.eq_false_iff.mpr c66
                 subst c66
                 have H1 : (collatorlaw01_PathsTells.l1 kj26 t193 y196 (rdOf ByteArray.empty y196 x46_1) y196 (y196.length : Int) x46_1 y196 (y196.length : Int) 0) = some r := by rw [if_neg (show ¬ (false = true) by decide)] at H; exact H
                 clear H
                 have H := H1
                 clear H1
                 have H' := Aside0.mk H
                 clear H
                 go_wp2
                 go_loopg [79] kj26 (fun kq v79 w' => ∃ (x79_3 : Int), v79 = .int .i64 x79_3 ∧ Aside0 (collatorlaw01_PathsTells.l1 kq t193 y196 (rdOf ByteArray.empty y196 x46_1) y196 (y196.length : Int) x46_1 y196 (y196.length : Int) x79_3 = some r) ∧ Aside0 (kq ≤ kj26) ∧ Aside0 (Kd.R Kd.string 9 w' w.heap.size (fun _ => True) (.slice (some ad199) y196.length co23) y196) ∧ Aside0 (Kd.R Kd.string 9 w' w.heap.size (fun _ => True) (.slice (some ad199) y196.length co23) y196) ∧ Aside0 (Kd.R Kd.string 9 w' w.heap.size (fun _ => True) (.slice (some ad199) y196.length co23) y196) ∧ Aside0 (Below w.heap.size w w'))
                 case atStart => exact ⟨(0), (by first | rfl | (simp; done) | (simp [*]; done)), H', ⟨Nat.le_refl _⟩, ⟨by (with_reducible repeat (first | apply Kd.R_alloc | apply Kd.R_drewN | apply Kd.R_drew)); exact HO_12.out⟩, ⟨by (with_reducible repeat (first | apply Kd.R_alloc | apply Kd.R_drewN | apply Kd.R_drew)); exact HO_44.out⟩, ⟨by (with_reducible repeat (first | apply Kd.R_alloc | apply Kd.R_drewN | apply Kd.R_drew)); exact HO_12.out⟩, ⟨by repeat (first | (with_reducible first | exact HB.out | apply below_alloc | apply pw_below_drewN | apply below_drew1) | exact HB.out)⟩⟩
                 case round =>
                  clear H'
                  (try clear c1);(try clear p1);(try clear q1);(try clear hx1);(try clear c2);(try clear p2);(try clear c3);(try clear c6);(try clear c7);(try clear c7b0);(try clear c7b1);(try clear c8);(try clear c8b0);(try clear c8b1);(try clear c10);(try clear c10b0);(try clear c10b1);(try clear c11);(try clear c11b0);(try clear c11b1);(try clear c12);(try clear c13);(try clear c14);(try clear c14b0);(try clear c14b1);(try clear c14b2);(try clear c15);(try clear c15b0);(try clear c15b1);(try clear c15b2);(try clear c16);(try clear c16b0);(try clear c16b1);(try clear c16b2);(try clear c17);(try clear c17b0);(try clear c17b1);(try clear c17b2);(try clear p19);(try clear q19);(try clear hx19);(try clear c24);(try clear c24b0);(try clear c25);(try clear c25b0);(try clear c26);(try clear c26b0);(try clear c30);(try clear c30b0);(try clear c30b1);(try clear c34);(try clear c37);(try clear c37b0);(try clear c37b1);(try clear c66);(try clear hx199_0);(try clear p1);(try clear p19);(try clear p199);(try clear p2);(try clear q1);(try clear q19);(try clear q199)
                  obtain ⟨x79_3, rfl, HA, HK3, HO_12, HO_44, HO_77, HB⟩ := hrel
                  cases gk with
                  | zero => exact absurd HA.out (by simp [collatorlaw01_PathsTells.l1])
                  | succ k3 =>
                   have H := HA.out
                   clear HA
                   simp only [collatorlaw01_PathsTells.l1] at H
                   by_cases c67 : x79_3 < (y196.length : Int)
                   ·rw [if_pos c67] at H
                    have c67b0 : decide (x79_3 < (y196.length : Int)) = true := decide_eq_true c67
                    clear c67
                    by_cases c68 : 0 ≤ x79_3
                    ·rw [if_pos c68] at H
                     have c68b0 : decide (0 ≤ x79_3) = true := decide_eq_true c68
                     clear c68
                     by_cases c69 : x79_3 < (y196.length : Int)
                     ·rw [if_pos c69] at H
                      have c69b0 : decide (x79_3 < (y196.length : Int)) = true := decide_eq_true c69
                      clear c69
                      replace H := Option.bind_eq_some_iff.mp H
                      obtain ⟨t214, A700, H⟩ := H
                      replace H : ((collatorref01_Compare.f k3 (rdOf ByteArray.empty y196 x46_1) (rdOf ByteArray.empty y196 x79_3)).bind fun t215 => (if t214 = t215 then ((paths_Within.f (rdOf ByteArray.empty y196 x46_1) (rdOf ByteArray.empty y196 x79_3)).bind fun t216 => ((collatorref01_Within.f k3 (rdOf ByteArray.empty y196 x46_1) (rdOf ByteArray.empty y196 x79_3)).bind fun t217 => (if (t216 != t217) = true then (some false) else ((paths_Join.f (rdOf ByteArray.empty y196 x46_1) (rdOf ByteArray.empty y196 x79_3)).bind fun t218 => ((collatorref01_Join.f (rdOf ByteArray.empty y196 x46_1) (rdOf ByteArray.empty y196 x79_3)).bind fun t219 => (if t218.toList = t219.toList then (collatorlaw01_PathsTells.l1 k3 t193 y196 (rdOf ByteArray.empty y196 x46_1) y196 (y196.length : Int) x46_1 y196 (y196.length : Int) (wrap64 (x79_3 + 1))) else (some false))))))) else (some false))) = some r := H
                      have A70 := Aside0.mk A700
                      clear A700
                      replace H := Option.bind_eq_some_iff.mp H
                      obtain ⟨t215, A710, H⟩ := H
                      replace H : (if t214 = t215 then ((paths_Within.f (rdOf ByteArray.empty y196 x46_1) (rdOf ByteArray.empty y196 x79_3)).bind fun t216 => ((collatorref01_Within.f k3 (rdOf ByteArray.empty y196 x46_1) (rdOf ByteArray.empty y196 x79_3)).bind fun t217 => (if (t216 != t217) = true then (some false) else ((paths_Join.f (rdOf ByteArray.empty y196 x46_1) (rdOf ByteArray.empty y196 x79_3)).bind fun t218 => ((collatorref01_Join.f (rdOf ByteArray.empty y196 x46_1) (rdOf ByteArray.empty y196 x79_3)).bind fun t219 => (if t218.toList = t219.toList then (collatorlaw01_PathsTells.l1 k3 t193 y196 (rdOf ByteArray.empty y196 x46_1) y196 (y196.length : Int) x46_1 y196 (y196.length : Int) (wrap64 (x79_3 + 1))) else (some false))))))) else (some false)) = some r := H
                      have A71 := Aside0.mk A710
                      clear A710
                      by_cases c72 : t214 = t215
                      ·rw [if_pos c72] at H
                       have c72b0 : (t214 == t215) = true := beq_iff_eq.mpr c72
                       have c72b1 : (t214 != t215) = false := bne_eq_false_iff_eq.mpr c72
                       clear c72
                       replace H := Option.bind_eq_some_iff.mp H
                       obtain ⟨t216, A730, H⟩ := H
                       replace H : ((collatorref01_Within.f k3 (rdOf ByteArray.empty y196 x46_1) (rdOf ByteArray.empty y196 x79_3)).bind fun t217 => (if (t216 != t217) = true then (some false) else ((paths_Join.f (rdOf ByteArray.empty y196 x46_1) (rdOf ByteArray.empty y196 x79_3)).bind fun t218 => ((collatorref01_Join.f (rdOf ByteArray.empty y196 x46_1) (rdOf ByteArray.empty y196 x79_3)).bind fun t219 => (if t218.toList = t219.toList then (collatorlaw01_PathsTells.l1 k3 t193 y196 (rdOf ByteArray.empty y196 x46_1) y196 (y196.length : Int) x46_1 y196 (y196.length : Int) (wrap64 (x79_3 + 1))) else (some false)))))) = some r := H
                       have A73 := Aside0.mk A730
                       clear A730
                       replace H := Option.bind_eq_some_iff.mp H
                       obtain ⟨t217, A740, H⟩ := H
                       replace H : (if (t216 != t217) = true then (some false) else ((paths_Join.f (rdOf ByteArray.empty y196 x46_1) (rdOf ByteArray.empty y196 x79_3)).bind fun t218 => ((collatorref01_Join.f (rdOf ByteArray.empty y196 x46_1) (rdOf ByteArray.empty y196 x79_3)).bind fun t219 => (if t218.toList = t219.toList then (collatorlaw01_PathsTells.l1 k3 t193 y196 (rdOf ByteArray.empty y196 x46_1) y196 (y196.length : Int) x46_1 y196 (y196.length : Int) (wrap64 (x79_3 + 1))) else (some false))))) = some r := H
                       have A74 := Aside0.mk A740
                       clear A740
                       by_cases c75 : (t216 != t217) = true
                       ·rw [if_pos c75] at H
                        have c75b0 : (t216 != t217) = true := c75
                        (try (have c75b1 : decide (t216 = t217) = false := by simpa using c75))
                        (try (have c75b2 : (t216 == t217) = false := by simpa using c75))
                        (try (have c75b3 : ¬ (t216 = t217) := by simpa using c75))
                        clear c75
                        obtain rfl := Option.some.inj H
                        have p213 : 0 ≤ (x79_3 : Int) := of_decide_eq_true (by first | (with_reducible assumption) | assumption)
                        have q213 : x79_3 < (y196.length : Int) := of_decide_eq_true (by first | (with_reducible assumption) | assumption)
                        obtain ⟨ad213, e213, hx213_0⟩ := Kd.at_string (Kd.R_reads' HO_77.out).2.2 x79_3 p213 q213
                        obtain rfl : ad199 = ad213 := (by injection e213)
                        replace p213 := eq_true p213
                        replace q213 := eq_true q213
                        go_wp2_with (first | ((with_reducible refine gate_callee (f := 21) rfl ?_); refine goesL_ _ rfl rfl Tryd.func21 (by kernel_rfl) rfl #[.string (rdOf ByteArray.empty y196 x46_1), .string (rdOf ByteArray.empty y196 x79_3)] rfl (by (try simp only [List.map_toArray, List.map_cons, List.map_nil]); first | done | rfl | (simp only [List.length_drop, List.length_take]; rfl)) ?_; (with_reducible refine (paths_Compare.calls k3 (rdOf ByteArray.empty y196 x46_1) (rdOf ByteArray.empty y196 x79_3) t214 _ A70.out).mono ?_); rintro e w76 ⟨rfl, hb⟩; refine ⟨_, rfl, ?_⟩; have n0_ := Aside0.mk (Kd.R_below (by (with_reducible repeat (first | apply Kd.R_alloc | apply Kd.R_drewN | apply Kd.R_drew)); exact HO_12.out) hb); have n1_ := Aside0.mk (Kd.R_below (by (with_reducible repeat (first | apply Kd.R_alloc | apply Kd.R_drewN | apply Kd.R_drew)); exact HO_44.out) hb); have n2_ := Aside0.mk (Kd.R_below (by (with_reducible repeat (first | apply Kd.R_alloc | apply Kd.R_drewN | apply Kd.R_drew)); exact HO_77.out) hb); have n3_ := Aside0.mk (below_step (by repeat (first | (with_reducible first | exact HB.out | apply below_alloc | apply pw_below_drewN | apply below_drew1) | exact HB.out)) hb); clear HO_12; clear HO_44; clear HO_77; clear HB; have HO_12 := n0_; have HO_44 := n1_; have HO_77 := n2_; have HB := n3_; clear n0_ n1_ n2_ n3_; (try clear hb); (try clear hb2); (try clear hk); (try clear hi)) | ((with_reducible refine gate_callee (f := 22) rfl ?_); refine goesL_ _ rfl rfl Tryd.func22 (by kernel_rfl) rfl #[.string (rdOf ByteArray.empty y196 x46_1), .string (rdOf ByteArray.empty y196 x79_3)] rfl (by (try simp only [List.map_toArray, List.map_cons, List.map_nil]); first | done | rfl | (simp only [List.length_drop, List.length_take]; rfl)) ?_; (with_reducible refine (collatorref01_Compare.calls k3 (rdOf ByteArray.empty y196 x46_1) (rdOf ByteArray.empty y196 x79_3) t215 _ A71.out).mono ?_); rintro e w77 ⟨rfl, hb⟩; refine ⟨_, rfl, ?_⟩; have n0_ := Aside0.mk (Kd.R_below (by (with_reducible repeat (first | apply Kd.R_alloc | apply Kd.R_drewN | apply Kd.R_drew)); exact HO_12.out) hb); have n1_ := Aside0.mk (Kd.R_below (by (with_reducible repeat (first | apply Kd.R_alloc | apply Kd.R_drewN | apply Kd.R_drew)); exact HO_44.out) hb); have n2_ := Aside0.mk (Kd.R_below (by (with_reducible repeat (first | apply Kd.R_alloc | apply Kd.R_drewN | apply Kd.R_drew)); exact HO_77.out) hb); have n3_ := Aside0.mk (below_step (by repeat (first | (with_reducible first | exact HB.out | apply below_alloc | apply pw_below_drewN | apply below_drew1) | exact HB.out)) hb); clear HO_12; clear HO_44; clear HO_77; clear HB; have HO_12 := n0_; have HO_44 := n1_; have HO_77 := n2_; have HB := n3_; clear n0_ n1_ n2_ n3_; (try clear hb); (try clear hb2); (try clear hk); (try clear hi)) | (go_at_call 23; (with_reducible refine (paths_Within.calls (rdOf ByteArray.empty y196 x46_1) (rdOf ByteArray.empty y196 x79_3) t216 _ A73.out).mono ?_); rintro e w' ⟨rfl, ⟨nd, rfl⟩⟩) | (go_at_call 24; (with_reducible refine (collatorref01_Within.calls k3 (rdOf ByteArray.empty y196 x46_1) (rdOf ByteArray.empty y196 x79_3) t217 _ A74.out).mono ?_); rintro e w78 ⟨rfl, hb⟩; have n0_ := Aside0.mk (Kd.R_below (by (with_reducible repeat (first | apply Kd.R_alloc | apply Kd.R_drewN | apply Kd.R_drew)); exact HO_12.out) hb); have n1_ := Aside0.mk (Kd.R_below (by (with_reducible repeat (first | apply Kd.R_alloc | apply Kd.R_drewN | apply Kd.R_drew)); exact HO_44.out) hb); have n2_ := Aside0.mk (Kd.R_below (by (with_reducible repeat (first | apply Kd.R_alloc | apply Kd.R_drewN | apply Kd.R_drew)); exact HO_77.out) hb); have n3_ := Aside0.mk (below_step (by repeat (first | (with_reducible first | exact HB.out | apply below_alloc | apply pw_below_drewN | apply below_drew1) | exact HB.out)) hb); clear HO_12; clear HO_44; clear HO_77; clear HB; have HO_12 := n0_; have HO_44 := n1_; have HO_77 := n2_; have HB := n3_; clear n0_ n1_ n2_ n3_; (try clear hb); (try clear hb2); (try clear hk); (try clear hi)))
                        go_ret
                        exact ⟨by first | rfl | (simp [errW_none, errW_some] <;> rfl) | (simp only [← hji6, ← hji9]; first | rfl | (simp [errW_none, errW_some] <;> rfl)) | (simp [*, errW_none, errW_some] <;> rfl), by repeat (first | (with_reducible first | exact HB.out | apply below_alloc | apply pw_below_drewN | apply below_drew1) | exact HB.out)⟩
                       ·rw [if_neg c75] at H
                        have c75b0 : (t216 != t217) = false := by simpa using c75
                        (try (have c75b1 : decide (t216 = t217) = true := by simpa using c75))
                        (try (have c75b2 : (t216 == t217) = true := by simpa using c75))
                        clear c75
                        replace H := Option.bind_eq_some_iff.mp H
                        obtain ⟨t218, A790, H⟩ := H
                        replace H : ((collatorref01_Join.f (rdOf ByteArray.empty y196 x46_1) (rdOf ByteArray.empty y196 x79_3)).bind fun t219 => (if t218.toList = t219.toList then (collatorlaw01_PathsTells.l1 k3 t193 y196 (rdOf ByteArray.empty y196 x46_1) y196 (y196.length : Int) x46_1 y196 (y196.length : Int) (wrap64 (x79_3 + 1))) else (some false))) = some r := H
                        have A79 := Aside0.mk A790
                        clear A790
                        replace H := Option.bind_eq_some_iff.mp H
                        obtain ⟨t219, A800, H⟩ := H
                        replace H : (if t218.toList = t219.toList then (collatorlaw01_PathsTells.l1 k3 t193 y196 (rdOf ByteArray.empty y196 x46_1) y196 (y196.length : Int) x46_1 y196 (y196.length : Int) (wrap64 (x79_3 + 1))) else (some false)) = some r := H
                        have A80 := Aside0.mk A800
                        clear A800
                        by_cases c81 : t218.toList = t219.toList
                        ·rw [if_pos c81] at H
                         have c81b0 : (t218.toList == t219.toList) = true := beq_iff_eq.mpr c81
                         have c81b1 : (t218.toList != t219.toList) = false := bne_eq_false_iff_eq.mpr c81
                         clear c81
                         have H' := Aside0.mk H
                         clear H
                         have p213 : 0 ≤ (x79_3 : Int) := of_decide_eq_true (by first | (with_reducible assumption) | assumption)
                         have q213 : x79_3 < (y196.length : Int) := of_decide_eq_true (by first | (with_reducible assumption) | assumption)
                         obtain ⟨ad213, e213, hx213_0⟩ := Kd.at_string (Kd.R_reads' HO_77.out).2.2 x79_3 p213 q213
                         obtain rfl : ad199 = ad213 := (by injection e213)
                         replace p213 := eq_true p213
                         replace q213 := eq_true q213
                         go_wp2_with (first | ((with_reducible refine gate_callee (f := 21) rfl ?_); refine goesL_ _ rfl rfl Tryd.func21 (by kernel_rfl) rfl #[.string (rdOf ByteArray.empty y196 x46_1), .string (rdOf ByteArray.empty y196 x79_3)] rfl (by (try simp only [List.map_toArray, List.map_cons, List.map_nil]); first | done | rfl | (simp only [List.length_drop, List.length_take]; rfl)) ?_; (with_reducible refine (paths_Compare.calls k3 (rdOf ByteArray.empty y196 x46_1) (rdOf ByteArray.empty y196 x79_3) t214 _ A70.out).mono ?_); rintro e w82 ⟨rfl, hb⟩; refine ⟨_, rfl, ?_⟩; have n0_ := Aside0.mk (Kd.R_below (by (with_reducible repeat (first | apply Kd.R_alloc | apply Kd.R_drewN | apply Kd.R_drew)); exact HO_12.out) hb); have n1_ := Aside0.mk (Kd.R_below (by (with_reducible repeat (first | apply Kd.R_alloc | apply Kd.R_drewN | apply Kd.R_drew)); exact HO_44.out) hb); have n2_ := Aside0.mk (Kd.R_below (by (with_reducible repeat (first | apply Kd.R_alloc | apply Kd.R_drewN | apply Kd.R_drew)); exact HO_77.out) hb); have n3_ := Aside0.mk (below_step (by repeat (first | (with_reducible first | exact HB.out | apply below_alloc | apply pw_below_drewN | apply below_drew1) | exact HB.out)) hb); clear HO_12; clear HO_44; clear HO_77; clear HB; have HO_12 := n0_; have HO_44 := n1_; have HO_77 := n2_; have HB := n3_; clear n0_ n1_ n2_ n3_; (try clear hb); (try clear hb2); (try clear hk); (try clear hi)) | ((with_reducible refine gate_callee (f := 22) rfl ?_); refine goesL_ _ rfl rfl Tryd.func22 (by kernel_rfl) rfl #[.string (rdOf ByteArray.empty y196 x46_1), .string (rdOf ByteArray.empty y196 x79_3)] rfl (by (try simp only [List.map_toArray, List.map_cons, List.map_nil]); first | done | rfl | (simp only [List.length_drop, List.length_take]; rfl)) ?_; (with_reducible refine (collatorref01_Compare.calls k3 (rdOf ByteArray.empty y196 x46_1) (rdOf ByteArray.empty y196 x79_3) t215 _ A71.out).mono ?_); rintro e w83 ⟨rfl, hb⟩; refine ⟨_, rfl, ?_⟩; have n0_ := Aside0.mk (Kd.R_below (by (with_reducible repeat (first | apply Kd.R_alloc | apply Kd.R_drewN | apply Kd.R_drew)); exact HO_12.out) hb); have n1_ := Aside0.mk (Kd.R_below (by (with_reducible repeat (first | apply Kd.R_alloc | apply Kd.R_drewN | apply Kd.R_drew)); exact HO_44.out) hb); have n2_ := Aside0.mk (Kd.R_below (by (with_reducible repeat (first | apply Kd.R_alloc | apply Kd.R_drewN | apply Kd.R_drew)); exact HO_77.out) hb); have n3_ := Aside0.mk (below_step (by repeat (first | (with_reducible first | exact HB.out | apply below_alloc | apply pw_below_drewN | apply below_drew1) | exact HB.out)) hb); clear HO_12; clear HO_44; clear HO_77; clear HB; have HO_12 := n0_; have HO_44 := n1_; have HO_77 := n2_; have HB := n3_; clear n0_ n1_ n2_ n3_; (try clear hb); (try clear hb2); (try clear hk); (try clear hi)) | (go_at_call 23; (with_reducible refine (paths_Within.calls (rdOf ByteArray.empty y196 x46_1) (rdOf ByteArray.empty y196 x79_3) t216 _ A73.out).mono ?_); rintro e w' ⟨rfl, ⟨nd, rfl⟩⟩) | (go_at_call 24; (with_reducible refine (collatorref01_Within.calls k3 (rdOf ByteArray.empty y196 x46_1) (rdOf ByteArray.empty y196 x79_3) t217 _ A74.out).mono ?_); rintro e w84 ⟨rfl, hb⟩; have n0_ := Aside0.mk (Kd.R_below (by (with_reducible repeat (first | apply Kd.R_alloc | apply Kd.R_drewN | apply Kd.R_drew)); exact HO_12.out) hb); have n1_ := Aside0.mk (Kd.R_below (by (with_reducible repeat (first | apply Kd.R_alloc | apply Kd.R_drewN | apply Kd.R_drew)); exact HO_44.out) hb); have n2_ := Aside0.mk (Kd.R_below (by (with_reducible repeat (first | apply Kd.R_alloc | apply Kd.R_drewN | apply Kd.R_drew)); exact HO_77.out) hb); have n3_ := Aside0.mk (below_step (by repeat (first | (with_reducible first | exact HB.out | apply below_alloc | apply pw_below_drewN | apply below_drew1) | exact HB.out)) hb); clear HO_12; clear HO_44; clear HO_77; clear HB; have HO_12 := n0_; have HO_44 := n1_; have HO_77 := n2_; have HB := n3_; clear n0_ n1_ n2_ n3_; (try clear hb); (try clear hb2); (try clear hk); (try clear hi)) | (go_at_call 25; (with_reducible refine (paths_Join.calls (rdOf ByteArray.empty y196 x46_1) (rdOf ByteArray.empty y196 x79_3) t218 _ A79.out).mono ?_); rintro e w' ⟨rfl, ⟨nd, rfl⟩⟩) | (go_at_call 26; (with_reducible refine (collatorref01_Join.calls (rdOf ByteArray.empty y196 x46_1) (rdOf ByteArray.empty y196 x79_3) t219 _ A80.out).mono ?_); rintro e w' ⟨rfl, ⟨nd, rfl⟩⟩))
                         go_roundg k3
                         case measure => have := HK1.out; have := HJ26.out; have := HK3.out; omega
                         case rel => exact ⟨(wrap64 (x79_3 + 1)), (by first | rfl | (simp; done) | (simp [*]; done)), H', ⟨by have := HK1.out; have := HJ26.out; have := HK3.out; omega⟩, ⟨by (with_reducible repeat (first | apply Kd.R_alloc | apply Kd.R_drewN | apply Kd.R_drew)); exact HO_12.out⟩, ⟨by (with_reducible repeat (first | apply Kd.R_alloc | apply Kd.R_drewN | apply Kd.R_drew)); exact HO_44.out⟩, ⟨by (with_reducible repeat (first | apply Kd.R_alloc | apply Kd.R_drewN | apply Kd.R_drew)); exact HO_77.out⟩, ⟨by repeat (first | (with_reducible first | exact HB.out | apply below_alloc | apply pw_below_drewN | apply below_drew1) | exact HB.out)⟩⟩
                        ·rw [if_neg c81] at H
                         have c81b0 : (t218.toList == t219.toList) = false := beq_eq_false_iff_ne.mpr c81
                         have c81b1 : (t218.toList != t219.toList) = true := bne_iff_ne.mpr c81
                         obtain rfl := Option.some.inj H
                         have p213 : 0 ≤ (x79_3 : Int) := of_decide_eq_true (by first | (with_reducible assumption) | assumption)
                         have q213 : x79_3 < (y196.length : Int) := of_decide_eq_true (by first | (with_reducible assumption) | assumption)
                         obtain ⟨ad213, e213, hx213_0⟩ := Kd.at_string (Kd.R_reads' HO_77.out).2.2 x79_3 p213 q213
                         obtain rfl : ad199 = ad213 := (by injection e213)
                         replace p213 := eq_true p213
                         replace q213 := eq_true q213
                         go_wp2_with (first | ((with_reducible refine gate_callee (f := 21) rfl ?_); refine goesL_ _ rfl rfl Tryd.func21 (by kernel_rfl) rfl #[.string (rdOf ByteArray.empty y196 x46_1), .string (rdOf ByteArray.empty y196 x79_3)] rfl (by (try simp only [List.map_toArray, List.map_cons, List.map_nil]); first | done | rfl | (simp only [List.length_drop, List.length_take]; rfl)) ?_; (with_reducible refine (paths_Compare.calls k3 (rdOf ByteArray.empty y196 x46_1) (rdOf ByteArray.empty y196 x79_3) t214 _ A70.out).mono ?_); rintro e w85 ⟨rfl, hb⟩; refine ⟨_, rfl, ?_⟩; have n0_ := Aside0.mk (Kd.R_below (by (with_reducible repeat (first | apply Kd.R_alloc | apply Kd.R_drewN | apply Kd.R_drew)); exact HO_12.out) hb); have n1_ := Aside0.mk (Kd.R_below (by (with_reducible repeat (first | apply Kd.R_alloc | apply Kd.R_drewN | apply Kd.R_drew)); exact HO_44.out) hb); have n2_ := Aside0.mk (Kd.R_below (by (with_reducible repeat (first | apply Kd.R_alloc | apply Kd.R_drewN | apply Kd.R_drew)); exact HO_77.out) hb); have n3_ := Aside0.mk (below_step (by repeat (first | (with_reducible first | exact HB.out | apply below_alloc | apply pw_below_drewN | apply below_drew1) | exact HB.out)) hb); clear HO_12; clear HO_44; clear HO_77; clear HB; have HO_12 := n0_; have HO_44 := n1_; have HO_77 := n2_; have HB := n3_; clear n0_ n1_ n2_ n3_; (try clear hb); (try clear hb2); (try clear hk); (try clear hi)) | ((with_reducible refine gate_callee (f := 22) rfl ?_); refine goesL_ _ rfl rfl Tryd.func22 (by kernel_rfl) rfl #[.string (rdOf ByteArray.empty y196 x46_1), .string (rdOf ByteArray.empty y196 x79_3)] rfl (by (try simp only [List.map_toArray, List.map_cons, List.map_nil]); first | done | rfl | (simp only [List.length_drop, List.length_take]; rfl)) ?_; (with_reducible refine (collatorref01_Compare.calls k3 (rdOf ByteArray.empty y196 x46_1) (rdOf ByteArray.empty y196 x79_3) t215 _ A71.out).mono ?_); rintro e w86 ⟨rfl, hb⟩; refine ⟨_, rfl, ?_⟩; have n0_ := Aside0.mk (Kd.R_below (by (with_reducible repeat (first | apply Kd.R_alloc | apply Kd.R_drewN | apply Kd.R_drew)); exact HO_12.out) hb); have n1_ := Aside0.mk (Kd.R_below (by (with_reducible repeat (first | apply Kd.R_alloc | apply Kd.R_drewN | apply Kd.R_drew)); exact HO_44.out) hb); have n2_ := Aside0.mk (Kd.R_below (by (with_reducible repeat (first | apply Kd.R_alloc | apply Kd.R_drewN | apply Kd.R_drew)); exact HO_77.out) hb); have n3_ := Aside0.mk (below_step (by repeat (first | (with_reducible first | exact HB.out | apply below_alloc | apply pw_below_drewN | apply below_drew1) | exact HB.out)) hb); clear HO_12; clear HO_44; clear HO_77; clear HB; have HO_12 := n0_; have HO_44 := n1_; have HO_77 := n2_; have HB := n3_; clear n0_ n1_ n2_ n3_; (try clear hb); (try clear hb2); (try clear hk); (try clear hi)) | (go_at_call 23; (with_reducible refine (paths_Within.calls (rdOf ByteArray.empty y196 x46_1) (rdOf ByteArray.empty y196 x79_3) t216 _ A73.out).mono ?_); rintro e w' ⟨rfl, ⟨nd, rfl⟩⟩) | (go_at_call 24; (with_reducible refine (collatorref01_Within.calls k3 (rdOf ByteArray.empty y196 x46_1) (rdOf ByteArray.empty y196 x79_3) t217 _ A74.out).mono ?_); rintro e w87 ⟨rfl, hb⟩; have n0_ := Aside0.mk (Kd.R_below (by (with_reducible repeat (first | apply Kd.R_alloc | apply Kd.R_drewN | apply Kd.R_drew)); exact HO_12.out) hb); have n1_ := Aside0.mk (Kd.R_below (by (with_reducible repeat (first | apply Kd.R_alloc | apply Kd.R_drewN | apply Kd.R_drew)); exact HO_44.out) hb); have n2_ := Aside0.mk (Kd.R_below (by (with_reducible repeat (first | apply Kd.R_alloc | apply Kd.R_drewN | apply Kd.R_drew)); exact HO_77.out) hb); have n3_ := Aside0.mk (below_step (by repeat (first | (with_reducible first | exact HB.out | apply below_alloc | apply pw_below_drewN | apply below_drew1) | exact HB.out)) hb); clear HO_12; clear HO_44; clear HO_77; clear HB; have HO_12 := n0_; have HO_44 := n1_; have HO_77 := n2_; have HB := n3_; clear n0_ n1_ n2_ n3_; (try clear hb); (try clear hb2); (try clear hk); (try clear hi)) | (go_at_call 25; (with_reducible refine (paths_Join.calls (rdOf ByteArray.empty y196 x46_1) (rdOf ByteArray.empty y196 x79_3) t218 _ A79.out).mono ?_); rintro e w' ⟨rfl, ⟨nd, rfl⟩⟩) | (go_at_call 26; (with_reducible refine (collatorref01_Join.calls (rdOf ByteArray.empty y196 x46_1) (rdOf ByteArray.empty y196 x79_3) t219 _ A80.out).mono ?_); rintro e w' ⟨rfl, ⟨nd, rfl⟩⟩))
                         go_ret
                         exact ⟨by first | rfl | (simp [errW_none, errW_some] <;> rfl) | (simp only [← hji6, ← hji9]; first | rfl | (simp [errW_none, errW_some] <;> rfl)) | (simp [*, errW_none, errW_some] <;> rfl), by repeat (first | (with_reducible first | exact HB.out | apply below_alloc | apply pw_below_drewN | apply below_drew1) | exact HB.out)⟩
                      ·rw [if_neg c72] at H
                       have c72b0 : (t214 == t215) = false := beq_eq_false_iff_ne.mpr c72
                       have c72b1 : (t214 != t215) = true := bne_iff_ne.mpr c72
                       obtain rfl := Option.some.inj H
                       have p213 : 0 ≤ (x79_3 : Int) := of_decide_eq_true (by first | (with_reducible assumption) | assumption)
                       have q213 : x79_3 < (y196.length : Int) := of_decide_eq_true (by first | (with_reducible assumption) | assumption)
                       obtain ⟨ad213, e213, hx213_0⟩ := Kd.at_string (Kd.R_reads' HO_77.out).2.2 x79_3 p213 q213
                       obtain rfl : ad199 = ad213 := (by injection e213)
                       replace p213 := eq_true p213
                       replace q213 := eq_true q213
                       go_wp2_with (first | ((with_reducible refine gate_callee (f := 21) rfl ?_); refine goesL_ _ rfl rfl Tryd.func21 (by kernel_rfl) rfl #[.string (rdOf ByteArray.empty y196 x46_1), .string (rdOf ByteArray.empty y196 x79_3)] rfl (by (try simp only [List.map_toArray, List.map_cons, List.map_nil]); first | done | rfl | (simp only [List.length_drop, List.length_take]; rfl)) ?_; (with_reducible refine (paths_Compare.calls k3 (rdOf ByteArray.empty y196 x46_1) (rdOf ByteArray.empty y196 x79_3) t214 _ A70.out).mono ?_); rintro e w88 ⟨rfl, hb⟩; refine ⟨_, rfl, ?_⟩; have n0_ := Aside0.mk (Kd.R_below (by (with_reducible repeat (first | apply Kd.R_alloc | apply Kd.R_drewN | apply Kd.R_drew)); exact HO_12.out) hb); have n1_ := Aside0.mk (Kd.R_below (by (with_reducible repeat (first | apply Kd.R_alloc | apply Kd.R_drewN | apply Kd.R_drew)); exact HO_44.out) hb); have n2_ := Aside0.mk (Kd.R_below (by (with_reducible repeat (first | apply Kd.R_alloc | apply Kd.R_drewN | apply Kd.R_drew)); exact HO_77.out) hb); have n3_ := Aside0.mk (below_step (by repeat (first | (with_reducible first | exact HB.out | apply below_alloc | apply pw_below_drewN | apply below_drew1) | exact HB.out)) hb); clear HO_12; clear HO_44; clear HO_77; clear HB; have HO_12 := n0_; have HO_44 := n1_; have HO_77 := n2_; have HB := n3_; clear n0_ n1_ n2_ n3_; (try clear hb); (try clear hb2); (try clear hk); (try clear hi)) | ((with_reducible refine gate_callee (f := 22) rfl ?_); refine goesL_ _ rfl rfl Tryd.func22 (by kernel_rfl) rfl #[.string (rdOf ByteArray.empty y196 x46_1), .string (rdOf ByteArray.empty y196 x79_3)] rfl (by (try simp only [List.map_toArray, List.map_cons, List.map_nil]); first | done | rfl | (simp only [List.length_drop, List.length_take]; rfl)) ?_; (with_reducible refine (collatorref01_Compare.calls k3 (rdOf ByteArray.empty y196 x46_1) (rdOf ByteArray.empty y196 x79_3) t215 _ A71.out).mono ?_); rintro e w89 ⟨rfl, hb⟩; refine ⟨_, rfl, ?_⟩; have n0_ := Aside0.mk (Kd.R_below (by (with_reducible repeat (first | apply Kd.R_alloc | apply Kd.R_drewN | apply Kd.R_drew)); exact HO_12.out) hb); have n1_ := Aside0.mk (Kd.R_below (by (with_reducible repeat (first | apply Kd.R_alloc | apply Kd.R_drewN | apply Kd.R_drew)); exact HO_44.out) hb); have n2_ := Aside0.mk (Kd.R_below (by (with_reducible repeat (first | apply Kd.R_alloc | apply Kd.R_drewN | apply Kd.R_drew)); exact HO_77.out) hb); have n3_ := Aside0.mk (below_step (by repeat (first | (with_reducible first | exact HB.out | apply below_alloc | apply pw_below_drewN | apply below_drew1) | exact HB.out)) hb); clear HO_12; clear HO_44; clear HO_77; clear HB; have HO_12 := n0_; have HO_44 := n1_; have HO_77 := n2_; have HB := n3_; clear n0_ n1_ n2_ n3_; (try clear hb); (try clear hb2); (try clear hk); (try clear hi)))
                       go_ret
                       exact ⟨by first | rfl | (simp [errW_none, errW_some] <;> rfl) | (simp only [← hji6, ← hji9]; first | rfl | (simp [errW_none, errW_some] <;> rfl)) | (simp [*, errW_none, errW_some] <;> rfl), by repeat (first | (with_reducible first | exact HB.out | apply below_alloc | apply pw_below_drewN | apply below_drew1) | exact HB.out)⟩
                     ·rw [if_neg c69] at H
                      exact absurd H (by simp)
                    ·rw [if_neg c68] at H
                     exact absurd H (by simp)
                   ·rw [if_neg c67] at H
                    have c67b0 : decide (x79_3 < (y196.length : Int)) = false := decide_eq_false c67
                    clear c67
                    have H' := Aside0.mk H
                    clear H
                    go_wp2
                    go_roundg k3
                    case measure => have := HK1.out; have := HJ26.out; have := HK3.out; omega
                    case rel => exact ⟨(wrap64 (x46_1 + 1)), (by first | rfl | (simp; done) | (simp [*]; done)), H', ⟨by have := HK1.out; have := HJ26.out; have := HK3.out; omega⟩, ⟨by (with_reducible repeat (first | apply Kd.R_alloc | apply Kd.R_drewN | apply Kd.R_drew)); exact HO_12.out⟩, ⟨by (with_reducible repeat (first | apply Kd.R_alloc | apply Kd.R_drewN | apply Kd.R_drew)); exact HO_44.out⟩, ⟨by repeat (first | (with_reducible first | exact HB.out | apply below_alloc | apply pw_below_drewN | apply below_drew1) | exact HB.out)⟩⟩
             ·rw [if_neg c26] at H
              exact absurd H (by simp)
            ·rw [if_neg c25] at H
             exact absurd H (by simp)
           ·rw [if_neg c24] at H
            have c24b0 : decide (x46_1 < (y196.length : Int)) = false := decide_eq_false c24
            clear c24
            obtain rfl := Option.some.inj H
            go_wp2
            go_ret
            exact ⟨by first | rfl | (simp [errW_none, errW_some] <;> rfl) | (simp only [← hji6, ← hji9]; first | rfl | (simp [errW_none, errW_some] <;> rfl)) | (simp [*, errW_none, errW_some] <;> rfl), by repeat (first | (with_reducible first | exact HB.out | apply below_alloc | apply pw_below_drewN | apply below_drew1) | exact HB.out)⟩
        ·rw [if_neg c17] at H
         exact absurd H (by simp)
       ·rw [if_neg c16] at H
        exact absurd H (by simp)
      ·rw [if_neg c15] at H
       exact absurd H (by simp)
     ·rw [if_neg c14] at H
      exact absurd H (by simp)
    ·rw [if_neg c11] at H
     exact absurd H (by simp)
   ·rw [if_neg c10] at H
    exact absurd H (by simp)
  ·rw [if_neg c8] at H
   exact absurd H (by simp)
 ·rw [if_neg c7] at H
  exact absurd H (by simp)

/-- THE ONE PURE STATEMENT of collatorlaw01_PathsTells: yours. -/
def collatorlaw01_PathsTells.Pure : Prop := ∀ (a0 : ByteArray) (a1 : ByteArray) (l2 : List Int) (l3 : List Int), a0.size ≤ 140737488351232 → a1.size ≤ 140737488351232 → l2.length ≤ maxLen → l2.length * 8 ≤ 140737488351232 → (∀ x ∈ l2, (Lit.int .i64 x).wf = true) → l3.length ≤ maxLen → l3.length * 8 ≤ 140737488351232 → (∀ x ∈ l3, (Lit.int .i64 x).wf = true) → ∃ k, collatorlaw01_PathsTells.f k a0 a1 l2 l3 = some true
theorem collatorlaw01_PathsTells.walk (P : collatorlaw01_PathsTells.Pure) (a0 : ByteArray) (a1 : ByteArray) (a2 : Option Addr) (len2 cap2 : Nat) (z2 : List Int) (a3 : Option Addr) (len3 cap3 : Nat) (z3 : List Int) (w : World) (w0 : a0.size ≤ 140737488351232) (w1 : a1.size ≤ 140737488351232) (w2 : (a2 = none ∧ len2 = 0 ∧ cap2 = 0 ∧ z2 = []) ∨ ∃ x, a2 = some x ∧ len2 ≤ cap2 ∧ cap2 ≤ maxLen ∧ z2.length = cap2 ∧ (∀ i, i < z2.length → w.cell? (x.add i) = some (.int .i64 (z2.getD i 0))) ∧ ∀ n ∈ z2, (Lit.int .i64 n).wf = true) (y2 : len2 * 8 ≤ 140737488351232) (w3 : (a3 = none ∧ len3 = 0 ∧ cap3 = 0 ∧ z3 = []) ∨ ∃ x, a3 = some x ∧ len3 ≤ cap3 ∧ cap3 ≤ maxLen ∧ z3.length = cap3 ∧ (∀ i, i < z3.length → w.cell? (x.add i) = some (.int .i64 (z3.getD i 0))) ∧ ∀ n ∈ z3, (Lit.int .i64 n).wf = true) (y3 : len3 * 8 ≤ 140737488351232) :
  Calls Tryd.prog 3 #[.string a0, .string a1, .slice a2 len2 cap2, .slice a3 len3 cap3] w fun e w' => e = .returned (.bool true) ∧ Below w.heap.size w w' := by
 obtain ⟨l2, rfl, hr2, hm2, hw2, hc2⟩ := ReadsInt.ofRowC w2
 obtain ⟨l3, rfl, hr3, hm3, hw3, hc3⟩ := ReadsInt.ofRowC w3
 obtain ⟨k, h⟩ := P a0 a1 l2 l3 w0 w1 hm2 y2 hw2 hm3 y3 hw3
 refine (collatorlaw01_PathsTells.calls k a0 a1 _ _ l2 _ _ l3 true w (Kd.C_of_reads (d := (0 : Int)) (h1 := fun _ => rfl) hr2) hc2 (Kd.C_of_reads (d := (0 : Int)) (h1 := fun _ => rfl) hr3) hc3 h).mono ?_
 rintro e w' ⟨rfl, hd⟩
 exact ⟨rfl, hd⟩

end Go.Proofs.YtjfeddpelakdjaaDoor.P
