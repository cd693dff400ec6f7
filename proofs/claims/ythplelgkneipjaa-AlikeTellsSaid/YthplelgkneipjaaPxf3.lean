/- Laid for this claim by hp.py,this session's program round the kit's print: functions of the program as plain Lean functions,the proofs that the code comes to their answers,and the rows of the laws. Not trusted: Lean checks it. -/
import Derived.Test.YthplelgkneipjaaHStrs
import Derived.Test.YthplelgkneipjaaHShort
import Derived.Test.YthplelgkneipjaaPx0
import Derived.Test.YthplelgkneipjaaPxf24
import Derived.Test.YthplelgkneipjaaPxf21
import Derived.Test.YthplelgkneipjaaPxf23
import Derived.Test.YthplelgkneipjaaPxf17
import Derived.Test.YthplelgkneipjaaPxf18
import Derived.Test.YthplelgkneipjaaPxf20
import Derived.Test.YthplelgkneipjaaPxf22
import Derived.Test.YthplelgkneipjaaECommon
namespace Go.Proofs.Ythplelgkneipjaa.P
open Go.RowKit Go.Proofs.YthplelgkneipjaaW.PrintWords Go.Proofs.YthplelgkneipjaaW.PrintLast Go.Proofs.YthplelgkneipjaaW.PrintMore
attribute [local go_sem] max2_int min2_int max_two min_two max_three min_three max_four min_four   -- for this text's walks alone
set_option linter.unusedVariables false
set_option linter.unusedSimpArgs false

/-! ### collatorlaw07_AlikeTells: function 3 -/
mutual
def collatorlaw07_AlikeTells.l0 : Nat → Bool → List (List ByteArray) → Int → Option (Bool)
 | 0,_,_,_ => none
 | k + 1,x11,x12,x13 => if x13 < (x12.length : Int) then (collatorlaw07_AlikeTells.l1 k x11 x12 x13 0) else (some x11)
def collatorlaw07_AlikeTells.l1 : Nat → Bool → List (List ByteArray) → Int → Int → Option (Bool)
 | 0,_,_,_,_ => none
 | k + 1,x11,x12,x13,x14 => if x14 < (x12.length : Int) then (if 0 ≤ x13 then (if x13 < (x12.length : Int) then (if 0 ≤ x14 then ((alike_Common.f (rd_L1 x12 x13) (rd_L1 x12 x14)).bind fun t175 => ((collatorref07_Common.f k (rd_L1 x12 x13) (rd_L1 x12 x14)).bind fun t178 => (if t175 = t178 then ((alike_Score.f (rd_L1 x12 x13) (rd_L1 x12 x14)).bind fun t181 => ((collatorref07_Score.f k (rd_L1 x12 x13) (rd_L1 x12 x14)).bind fun t184 => (if t181 = t184 then (collatorlaw07_AlikeTells.l1 k x11 x12 x13 (wrap64 (x14 + 1))) else (some false)))) else (some false)))) else (none)) else (none)) else (none)) else (if 0 ≤ x13 then (if x13 < (x12.length : Int) then (if x13 ≤ (x12.length : Int) then ((alike_Best.f k (rd_L1 x12 x13) (x12.take (x13 : Int).toNat)).bind fun bt191 => ((collatorref07_Best.f k (rd_L1 x12 x13) (x12.take (x13 : Int).toNat)).bind fun bt199 => (if bt191.1 = bt199.1 then (if bt191.2 = bt199.2 then (collatorlaw07_AlikeTells.l0 k x11 x12 (wrap64 (x13 + 1))) else (some false)) else (some false)))) else (none)) else (none)) else (none))
end
def collatorlaw07_AlikeTells.f (k : Nat) (l0 : List ByteArray) (l1 : List ByteArray) (l2 : List Int) (l3 : List Int) (l4 : List Int) : Option (Bool) := (collatorlaw07_awake.f k).bind fun t150 => (if 0 ≤ (mn (l0.length : Int) 20) then (if (mn (l0.length : Int) 20) ≤ (l0.length : Int) then (if 0 ≤ (mn (l1.length : Int) 20) then (if (mn (l1.length : Int) 20) ≤ (l1.length : Int) then ((collatorlaw03_Lines.f k l2 30).bind fun t161 => ((collatorlaw03_Lines.f k l3 30).bind fun t164 => ((collatorlaw03_Lines.f k l4 30).bind fun t167 => (collatorlaw07_AlikeTells.l0 k t150 (([(l0.take ((mn (l0.length : Int) 20) : Int).toNat),(l1.take ((mn (l1.length : Int) 20) : Int).toNat),t161,t164,t167] : List (List ByteArray))) 0)))) else (none)) else (none)) else (none)) else (none))
theorem collatorlaw07_AlikeTells.mono_l : ∀ k,(∀ y0 y1 y2,LeO (collatorlaw07_AlikeTells.l0 k y0 y1 y2) (collatorlaw07_AlikeTells.l0 (k + 1) y0 y1 y2)) ∧ (∀ y0 y1 y2 y3,LeO (collatorlaw07_AlikeTells.l1 k y0 y1 y2 y3) (collatorlaw07_AlikeTells.l1 (k + 1) y0 y1 y2 y3))
 | 0 => ⟨fun _ _ _ r h => by simp [collatorlaw07_AlikeTells.l0] at h,fun _ _ _ _ r h => by simp [collatorlaw07_AlikeTells.l1] at h⟩
 | k + 1 => by
  obtain ⟨ih0,ih1⟩ := collatorlaw07_AlikeTells.mono_l k
  refine ⟨?_,?_⟩
  ·intro y0 y1 y2
   unfold collatorlaw07_AlikeTells.l0
   repeat' first
   | (with_reducible exact ih0 _ _ _)
   | (with_reducible exact ih1 _ _ _ _)
   | (with_reducible exact alike_Best.mono _ _ _)
   | (with_reducible exact collatorlaw03_Lines.mono _ _ _)
   | (with_reducible exact collatorlaw07_awake.mono _)
   | (with_reducible exact collatorref07_Best.mono _ _ _)
   | (with_reducible exact collatorref07_Common.mono _ _ _)
   | (with_reducible exact collatorref07_Score.mono _ _ _)
   | (with_reducible exact LeO.refl _)
   | (with_reducible exact LeO.none _)
   | (with_reducible refine LeO.ite ?_ ?_)
   | (with_reducible refine LeO.bind ?_ (fun _ => ?_))
   | exact ih0 _ _ _
   | exact ih1 _ _ _ _
   | exact alike_Best.mono _ _ _
   | exact collatorlaw03_Lines.mono _ _ _
   | exact collatorlaw07_awake.mono _
   | exact collatorref07_Best.mono _ _ _
   | exact collatorref07_Common.mono _ _ _
   | exact collatorref07_Score.mono _ _ _
   | exact LeO.none _
   | refine LeO.ite ?_ ?_
   | refine LeO.bind ?_ (fun _ => ?_)
  ·intro y0 y1 y2 y3
   unfold collatorlaw07_AlikeTells.l1
   repeat' first
   | (with_reducible exact ih0 _ _ _)
   | (with_reducible exact ih1 _ _ _ _)
   | (with_reducible exact alike_Best.mono _ _ _)
   | (with_reducible exact collatorlaw03_Lines.mono _ _ _)
   | (with_reducible exact collatorlaw07_awake.mono _)
   | (with_reducible exact collatorref07_Best.mono _ _ _)
   | (with_reducible exact collatorref07_Common.mono _ _ _)
   | (with_reducible exact collatorref07_Score.mono _ _ _)
   | (with_reducible exact LeO.refl _)
   | (with_reducible exact LeO.none _)
   | (with_reducible refine LeO.ite ?_ ?_)
   | (with_reducible refine LeO.bind ?_ (fun _ => ?_))
   | exact ih0 _ _ _
   | exact ih1 _ _ _ _
   | exact alike_Best.mono _ _ _
   | exact collatorlaw03_Lines.mono _ _ _
   | exact collatorlaw07_awake.mono _
   | exact collatorref07_Best.mono _ _ _
   | exact collatorref07_Common.mono _ _ _
   | exact collatorref07_Score.mono _ _ _
   | exact LeO.none _
   | refine LeO.ite ?_ ?_
   | refine LeO.bind ?_ (fun _ => ?_)
theorem collatorlaw07_AlikeTells.mono : ∀ a0 a1 a2 a3 a4 k,LeO (collatorlaw07_AlikeTells.f k a0 a1 a2 a3 a4) (collatorlaw07_AlikeTells.f (k + 1) a0 a1 a2 a3 a4) := by
 intro a0 a1 a2 a3 a4 k
 obtain ⟨ih0,ih1⟩ := collatorlaw07_AlikeTells.mono_l k
 unfold collatorlaw07_AlikeTells.f
 repeat' first
   | (with_reducible exact ih0 _ _ _)
   | (with_reducible exact ih1 _ _ _ _)
   | (with_reducible exact alike_Best.mono _ _ _)
   | (with_reducible exact collatorlaw03_Lines.mono _ _ _)
   | (with_reducible exact collatorlaw07_awake.mono _)
   | (with_reducible exact collatorref07_Best.mono _ _ _)
   | (with_reducible exact collatorref07_Common.mono _ _ _)
   | (with_reducible exact collatorref07_Score.mono _ _ _)
   | (with_reducible exact LeO.refl _)
   | (with_reducible exact LeO.none _)
   | (with_reducible refine LeO.ite ?_ ?_)
   | (with_reducible refine LeO.bind ?_ (fun _ => ?_))
   | exact ih0 _ _ _
   | exact ih1 _ _ _ _
   | exact alike_Best.mono _ _ _
   | exact collatorlaw03_Lines.mono _ _ _
   | exact collatorlaw07_awake.mono _
   | exact collatorref07_Best.mono _ _ _
   | exact collatorref07_Common.mono _ _ _
   | exact collatorref07_Score.mono _ _ _
   | exact LeO.none _
   | refine LeO.ite ?_ ?_
   | refine LeO.bind ?_ (fun _ => ?_)
def collatorlaw07_AlikeTells.T2 : Bool × List (List Nat × List Nat) := (true,[([],[]),([],[]),([1],[1]),([2],[2]),([0,3],[0,3]),([],[]),([],[]),([6],[6]),([7],[7]),([5,8],[5,8]),([],[]),([10],[10]),([],[]),([12,11],[12]),([],[]),([14,13],[14]),([4,9,11,13,15],[4,9,11,13,15]),([16,15,0,1,2,3,4,5,6,7,8,9,10,11,12,13,14,15,16],[16])])
def collatorlaw07_AlikeTells.B2 : List Nat := [0,0,2,6,15,0,0,64,192,480,0,1024,0,7168,0,31744,65535,131071]
theorem collatorlaw07_AlikeTells.tab2 : rtab .any (opsOf Try.f3 2) = collatorlaw07_AlikeTells.T2 := by kernel_rfl
theorem collatorlaw07_AlikeTells.bits2 : waitsOk collatorlaw07_AlikeTells.T2.2 collatorlaw07_AlikeTells.B2 = true := by kernel_rfl
def collatorlaw07_AlikeTells.T9 : Bool × List (List Nat × List Nat) := (true,[([],[]),([],[]),([0,1],[0,1]),([2],[2]),([],[]),([],[]),([4,5],[4,5]),([6],[6]),([3,7],[3,7]),([],[]),([],[]),([9,10],[9,10]),([11],[11]),([],[]),([],[]),([13,14],[13,14]),([15],[15]),([12,16,8],[12,16]),([8,17],[8,17]),([18,17],[18]),([19],[19]),([19],[19]),([20,21,19],[19,20,21]),([22,19],[19,22]),([19],[19]),([19],[19]),([24,25,19],[19,24,25]),([26,19],[19,26]),([23,27,19,19],[19,23,27]),([19],[19]),([19],[19]),([29,30,19],[19,29,30]),([31,19],[19,31]),([19],[19]),([19],[19]),([33,34,19],[19,33,34]),([35,19],[19,35]),([32,36,28,19],[19,32,36]),([28,37,19],[19,28,37]),([19,38],[19,38])])
def collatorlaw07_AlikeTells.B9 : List Nat := [0,0,3,7,0,0,48,112,255,0,0,1536,3584,0,0,24576,57344,131071,262143,524287,1048575,1048575,4194303,8388607,1048575,1048575,51380223,118489087,268435455,1048575,1048575,1611661311,3759144959,1048575,1048575,25770852351,60130590719,137438953471,274877906943,549755813887]
theorem collatorlaw07_AlikeTells.tab9 : rtab .any (opsOf Try.f3 9) = collatorlaw07_AlikeTells.T9 := by kernel_rfl
theorem collatorlaw07_AlikeTells.bits9 : waitsOk collatorlaw07_AlikeTells.T9.2 collatorlaw07_AlikeTells.B9 = true := by kernel_rfl
def collatorlaw07_AlikeTells.T11 : Bool × List (List Nat × List Nat) := (true,[([],[]),([],[]),([0,1],[0,1]),([2],[2]),([],[]),([],[]),([4,5],[4,5]),([3,6],[3,6]),([7],[7]),([8],[8]),([8],[8]),([9,7,0,1,2,3,4,5,6,7,8,9],[9]),([10,11,0,1,2,3,4,5,6,7,8,9,10,11],[10])])
def collatorlaw07_AlikeTells.B11 : List Nat := [0,0,3,7,0,0,48,127,255,511,511,1023,4095]
theorem collatorlaw07_AlikeTells.tab11 : rtab .any (opsOf Try.f3 11) = collatorlaw07_AlikeTells.T11 := by kernel_rfl
theorem collatorlaw07_AlikeTells.bits11 : waitsOk collatorlaw07_AlikeTells.T11.2 collatorlaw07_AlikeTells.B11 = true := by kernel_rfl
def collatorlaw07_AlikeTells.T12 : Bool × List (List Nat × List Nat) := (true,[([],[]),([],[]),([0,1],[0,1]),([2],[2]),([],[]),([],[]),([4,5],[4,5]),([3,6],[3,6]),([7],[7]),([8],[8]),([8],[8]),([9,7,0,1,2,3,4,5,6,7,8,9],[9]),([10,11,0,1,2,3,4,5,6,7,8,9,10,11],[10])])
def collatorlaw07_AlikeTells.B12 : List Nat := [0,0,3,7,0,0,48,127,255,511,511,1023,4095]
theorem collatorlaw07_AlikeTells.tab12 : rtab .any (opsOf Try.f3 12) = collatorlaw07_AlikeTells.T12 := by kernel_rfl
theorem collatorlaw07_AlikeTells.bits12 : waitsOk collatorlaw07_AlikeTells.T12.2 collatorlaw07_AlikeTells.B12 = true := by kernel_rfl
set_option maxHeartbeats 8000000 in
set_option maxRecDepth 100000 in
theorem collatorlaw07_AlikeTells.calls (k : Nat) (P0_ : Nat → Prop) (A0 : Option Addr) (c0 : Nat) (l0 : List ByteArray) (P1_ : Nat → Prop) (A1 : Option Addr) (c1 : Nat) (l1 : List ByteArray) (A2 : Option Addr) (c2 : Nat) (l2 : List Int) (A3 : Option Addr) (c3 : Nat) (l3 : List Int) (A4 : Option Addr) (c4 : Nat) (l4 : List Int) (r : Bool) (w : World) (hs0 : Kd.V Kd.string 9 w w.heap.size (fun k_ => P0_ k_) (.slice A0 l0.length c0) l0) (hs1 : Kd.V Kd.string 9 w w.heap.size (fun k_ => P1_ k_) (.slice A1 l1.length c1) l1) (hr2 : Kd.C (Kd.int .i64) w A2 l2.length l2) (hc2 : l2.length ≤ c2) (hr3 : Kd.C (Kd.int .i64) w A3 l3.length l3) (hc3 : l3.length ≤ c3) (hr4 : Kd.C (Kd.int .i64) w A4 l4.length l4) (hc4 : l4.length ≤ c4) (h : collatorlaw07_AlikeTells.f k l0 l1 l2 l3 l4 = some r) :
  Calls Try.prog 3 #[.slice A0 l0.length c0,.slice A1 l1.length c1,.slice A2 l2.length c2,.slice A3 l3.length c3,.slice A4 l4.length c4] w fun e w' => e = .returned (.bool r) ∧ Below w.heap.size w w' := by
 have HO0 := Aside0.mk (show Kd.V Kd.string 9 w w.heap.size (fun k_ => ((P0_ k_ ∨ P1_ k_) ∨ w.heap.size ≤ k_)) (.slice A0 l0.length c0) l0 from Kd.V_mono hs0 (fun k_ hk => .inl (.inl hk)))
 have HO1 := Aside0.mk (show Kd.V Kd.string 9 w w.heap.size (fun k_ => ((P0_ k_ ∨ P1_ k_) ∨ w.heap.size ≤ k_)) (.slice A1 l1.length c1) l1 from Kd.V_mono hs1 (fun k_ hk => .inl (.inr hk)))
 have HR2 := Aside0.mk hr2
 have HC2 := Aside0.mk hc2
 clear hr2 hc2
 have HR3 := Aside0.mk hr3
 have HC3 := Aside0.mk hc3
 clear hr3 hc3
 have HR4 := Aside0.mk hr4
 have HC4 := Aside0.mk hc4
 clear hr4 hc4
 have HB := Aside0.mk (Below.refl w.heap.size w)
 have H : ((collatorlaw07_awake.f k).bind fun t150 => (if 0 ≤ (mn (l0.length : Int) 20) then (if (mn (l0.length : Int) 20) ≤ (l0.length : Int) then (if 0 ≤ (mn (l1.length : Int) 20) then (if (mn (l1.length : Int) 20) ≤ (l1.length : Int) then ((collatorlaw03_Lines.f k l2 30).bind fun t161 => ((collatorlaw03_Lines.f k l3 30).bind fun t164 => ((collatorlaw03_Lines.f k l4 30).bind fun t167 => (collatorlaw07_AlikeTells.l0 k t150 (([(l0.take ((mn (l0.length : Int) 20) : Int).toNat),(l1.take ((mn (l1.length : Int) 20) : Int).toNat),t161,t164,t167] : List (List ByteArray))) 0)))) else (none)) else (none)) else (none)) else (none))) = some r := h
 clear h
 replace H := Option.bind_eq_some_iff.mp H
 obtain ⟨t150,A60,H⟩ := H
 replace H : (if 0 ≤ (mn (l0.length : Int) 20) then (if (mn (l0.length : Int) 20) ≤ (l0.length : Int) then (if 0 ≤ (mn (l1.length : Int) 20) then (if (mn (l1.length : Int) 20) ≤ (l1.length : Int) then ((collatorlaw03_Lines.f k l2 30).bind fun t161 => ((collatorlaw03_Lines.f k l3 30).bind fun t164 => ((collatorlaw03_Lines.f k l4 30).bind fun t167 => (collatorlaw07_AlikeTells.l0 k t150 (([(l0.take ((mn (l0.length : Int) 20) : Int).toNat),(l1.take ((mn (l1.length : Int) 20) : Int).toNat),t161,t164,t167] : List (List ByteArray))) 0)))) else (none)) else (none)) else (none)) else (none)) = some r := H
 have A6 := Aside0.mk A60
 clear A60
 obtain ⟨ji7,hji7⟩ : ∃ j_ : Int,(mn (l0.length : Int) 20) = j_ := ⟨_,rfl⟩
 replace H : (if 0 ≤ (ji7) then (if (ji7) ≤ (l0.length : Int) then (if 0 ≤ (mn (l1.length : Int) 20) then (if (mn (l1.length : Int) 20) ≤ (l1.length : Int) then ((collatorlaw03_Lines.f k l2 30).bind fun t161 => ((collatorlaw03_Lines.f k l3 30).bind fun t164 => ((collatorlaw03_Lines.f k l4 30).bind fun t167 => (collatorlaw07_AlikeTells.l0 k t150 (([(l0.take ((ji7) : Int).toNat),(l1.take ((mn (l1.length : Int) 20) : Int).toNat),t161,t164,t167] : List (List ByteArray))) 0)))) else (none)) else (none)) else (none)) else (none)) = some r := by first | (rw [hji7] at H; exact H) | (simp only [hji7] at H ⊢; exact H)
 (try rw [hji7] at A6)
 (try (have hji7h : ji7 ≤ 20 := by (rw [← hji7]; unfold mn; (repeat' split) <;> omega)))
 (try (have hji7g : ji7 ≤ 64 := by omega))
 (try (have hji7l : 0 ≤ ji7 := by (rw [← hji7]; unfold mn; (repeat' split) <;> omega)))
 (try (have hji7m : 0 ≤ ji7 := by omega))
 have hji7_ : (if 20 < (l0.length : Int) then 20 else (l0.length : Int)) = ji7 := hji7
 by_cases c8 : 0 ≤ (ji7)
 ·rw [if_pos c8] at H
  have c8b0 := eq_true c8
  have c8b1 : decide (0 ≤ (ji7)) = true := decide_eq_true c8
  clear c8
  by_cases c9 : (ji7) ≤ (l0.length : Int)
  ·rw [if_pos c9] at H
   have c9b0 := eq_true c9
   have c9b1 : decide ((ji7) ≤ (l0.length : Int)) = true := decide_eq_true c9
   clear c9
   obtain ⟨y151,hy151⟩ : ∃ y_ : List ByteArray,y_ = (l0.take ((ji7) : Int).toNat) := ⟨_,rfl⟩
   replace H : (if 0 ≤ (mn (l1.length : Int) 20) then (if (mn (l1.length : Int) 20) ≤ (l1.length : Int) then ((collatorlaw03_Lines.f k l2 30).bind fun t161 => ((collatorlaw03_Lines.f k l3 30).bind fun t164 => ((collatorlaw03_Lines.f k l4 30).bind fun t167 => (collatorlaw07_AlikeTells.l0 k t150 (([y151,(l1.take ((mn (l1.length : Int) 20) : Int).toNat),t161,t164,t167] : List (List ByteArray))) 0)))) else (none)) else (none)) = some r := by first | (rw [hy151]; with_reducible exact H) | (have H2_ := (Option.bind_some _ _).symm.trans H; rw [hy151]; with_reducible exact H2_) | (have H2_ := (Option.bind_some _ _).symm.trans H; with_reducible exact H2_) | with_reducible exact H | (rw [hy151]; exact H) | exact H
   have Ny151 := Aside0.mk hy151
   clear hy151
   obtain ⟨ji10,hji10⟩ : ∃ j_ : Int,(mn (l1.length : Int) 20) = j_ := ⟨_,rfl⟩
   replace H : (if 0 ≤ (ji10) then (if (ji10) ≤ (l1.length : Int) then ((collatorlaw03_Lines.f k l2 30).bind fun t161 => ((collatorlaw03_Lines.f k l3 30).bind fun t164 => ((collatorlaw03_Lines.f k l4 30).bind fun t167 => (collatorlaw07_AlikeTells.l0 k t150 (([y151,(l1.take ((ji10) : Int).toNat),t161,t164,t167] : List (List ByteArray))) 0)))) else (none)) else (none)) = some r := by first | (rw [hji10] at H; exact H) | (simp only [hji10] at H ⊢; exact H)
   (try rw [hji10] at A6)
   (try (have hji10h : ji10 ≤ 20 := by (rw [← hji10]; unfold mn; (repeat' split) <;> omega)))
   (try (have hji10g : ji10 ≤ 64 := by omega))
   (try (have hji10l : 0 ≤ ji10 := by (rw [← hji10]; unfold mn; (repeat' split) <;> omega)))
   (try (have hji10m : 0 ≤ ji10 := by omega))
   have hji10_ : (if 20 < (l1.length : Int) then 20 else (l1.length : Int)) = ji10 := hji10
   by_cases c11 : 0 ≤ (ji10)
   ·rw [if_pos c11] at H
    have c11b0 := eq_true c11
    have c11b1 : decide (0 ≤ (ji10)) = true := decide_eq_true c11
    clear c11
    by_cases c12 : (ji10) ≤ (l1.length : Int)
    ·rw [if_pos c12] at H
     have c12b0 := eq_true c12
     have c12b1 : decide ((ji10) ≤ (l1.length : Int)) = true := decide_eq_true c12
     clear c12
     obtain ⟨y156,hy156⟩ : ∃ y_ : List ByteArray,y_ = (l1.take ((ji10) : Int).toNat) := ⟨_,rfl⟩
     replace H : ((collatorlaw03_Lines.f k l2 30).bind fun t161 => ((collatorlaw03_Lines.f k l3 30).bind fun t164 => ((collatorlaw03_Lines.f k l4 30).bind fun t167 => (collatorlaw07_AlikeTells.l0 k t150 (([y151,y156,t161,t164,t167] : List (List ByteArray))) 0)))) = some r := by first | (rw [hy156]; with_reducible exact H) | (have H2_ := (Option.bind_some _ _).symm.trans H; rw [hy156]; with_reducible exact H2_) | (have H2_ := (Option.bind_some _ _).symm.trans H; with_reducible exact H2_) | with_reducible exact H | (rw [hy156]; exact H) | exact H
     have Ny156 := Aside0.mk hy156
     clear hy156
     replace H := Option.bind_eq_some_iff.mp H
     obtain ⟨t161,A130,H⟩ := H
     replace H : ((collatorlaw03_Lines.f k l3 30).bind fun t164 => ((collatorlaw03_Lines.f k l4 30).bind fun t167 => (collatorlaw07_AlikeTells.l0 k t150 (([y151,y156,t161,t164,t167] : List (List ByteArray))) 0))) = some r := H
     have A13 := Aside0.mk A130
     clear A130
     replace H := Option.bind_eq_some_iff.mp H
     obtain ⟨t164,A140,H⟩ := H
     replace H : ((collatorlaw03_Lines.f k l4 30).bind fun t167 => (collatorlaw07_AlikeTells.l0 k t150 (([y151,y156,t161,t164,t167] : List (List ByteArray))) 0)) = some r := H
     have A14 := Aside0.mk A140
     clear A140
     replace H := Option.bind_eq_some_iff.mp H
     obtain ⟨t167,A150,H⟩ := H
     replace H : (collatorlaw07_AlikeTells.l0 k t150 (([y151,y156,t161,t164,t167] : List (List ByteArray))) 0) = some r := H
     have A15 := Aside0.mk A150
     clear A150
     obtain ⟨y170,hy170⟩ : ∃ y_ : List (List ByteArray),y_ = (([y151,y156,t161,t164,t167] : List (List ByteArray))) := ⟨_,rfl⟩
     replace H : (collatorlaw07_AlikeTells.l0 k t150 y170 0) = some r := by first | (rw [hy170]; with_reducible exact H) | (have H2_ := (Option.bind_some _ _).symm.trans H; rw [hy170]; with_reducible exact H2_) | (have H2_ := (Option.bind_some _ _).symm.trans H; with_reducible exact H2_) | with_reducible exact H | (rw [hy170]; exact H) | exact H
     have Ny170 := Aside0.mk hy170
     clear hy170
     have H' := Aside0.mk H
     clear H
     go_enter Try.func3,Try.ntmps3
     try go_wp2_with (first | ((with_reducible refine gate_callee (f := 17) rfl ?_); refine goesL_ (some 19) rfl rfl Try.func17 (by kernel_rfl) rfl #[] rfl (by (try simp only [List.map_toArray,List.map_cons,List.map_nil]); first | done | rfl | (simp only [List.length_drop,List.length_take]; rfl)) ?_; (with_reducible refine (collatorlaw07_awake.calls k  t150 _ A6.out).mono ?_); rintro e w16 ⟨rfl,hb⟩; refine ⟨_,rfl,?_⟩; have n0_ := Aside0.mk (Kd.V_below (by (with_reducible repeat (first | apply Kd.V_alloc | apply Kd.V_drewN | apply Kd.V_drew)); exact HO0.out) hb); have n1_ := Aside0.mk (Kd.V_below (by (with_reducible repeat (first | apply Kd.V_alloc | apply Kd.V_drewN | apply Kd.V_drew)); exact HO1.out) hb); have n2_ := Aside0.mk (below_step (by repeat (first | (with_reducible first | exact HB.out | apply below_alloc | apply pw_below_drewN | apply below_drew1) | exact HB.out)) hb); clear HO0; clear HO1; clear HB; have HO0 := n0_; have HO1 := n1_; have HB := n2_; clear n0_ n1_ n2_; (try clear hb); (try clear hb2); (try clear hk); (try clear hi)))
     have n0_ := Aside0.mk (Kd.V_drew HO0.out)
     have n1_ := Aside0.mk (Kd.V_drew HO1.out)
     have n2_ := Aside0.mk (below_drew1 HB.out)
     clear HO0
     clear HO1
     clear HB
     have HO0 := n0_
     have HO1 := n1_
     have HB := n2_
     clear n0_ n1_ n2_
     have q18 : ((ji7) : Int) ≤ ((l0.length : Int) : Int) := of_decide_eq_true (by first | (with_reducible assumption) | assumption)
     obtain ⟨i018,hi018,_,hsz18,_⟩ := info_parts info9
     have hroom18 : l0.length ≤ c0 := (Kd.V_reads' HO0.out).2.1
     have hC18 : Kd.F Kd.string _ _ A0 l0.length l0 := (Kd.V_at (base := w.heap.size) HO0.out).2.2
     have hcut18 := cut_to (P := Try.prog) 22 9 .i64 Try.underlying22 hi018 A0 l0.length c0 (ji7) (of_decide_eq_true (by first | (with_reducible assumption) | assumption)) q18 hroom18
     have hr18 := Kd.F_take (m := ((ji7) : Int).toNat) hC18 (by omega)
     have hy18 : y151.length = ((ji7) : Int).toNat := (by rw [Ny151.out,List.length_take]; omega)
     rw [← Ny151.out] at hr18
     rw [← hy18] at hcut18
     have HO155 := Aside0.mk (show Kd.V Kd.string 9 _ w.heap.size _ (.slice A0 y151.length c0) y151 from Kd.V_mk (by omega) hr18)
     have HC155 := Aside0.mk (show y151.length ≤ c0 from by omega)
     clear hr18 hC18 hroom18 hi018 hsz18
     have KY18 := Aside0.mk hy18
     clear hy18
     replace q18 := eq_true q18
     have q19 : ((ji10) : Int) ≤ ((l1.length : Int) : Int) := of_decide_eq_true (by first | (with_reducible assumption) | assumption)
     obtain ⟨i019,hi019,_,hsz19,_⟩ := info_parts info9
     have hroom19 : l1.length ≤ c1 := (Kd.V_reads' HO1.out).2.1
     have hC19 : Kd.F Kd.string _ _ A1 l1.length l1 := (Kd.V_at (base := w.heap.size) HO1.out).2.2
     have hcut19 := cut_to (P := Try.prog) 22 9 .i64 Try.underlying22 hi019 A1 l1.length c1 (ji10) (of_decide_eq_true (by first | (with_reducible assumption) | assumption)) q19 hroom19
     have hr19 := Kd.F_take (m := ((ji10) : Int).toNat) hC19 (by omega)
     have hy19 : y156.length = ((ji10) : Int).toNat := (by rw [Ny156.out,List.length_take]; omega)
     rw [← Ny156.out] at hr19
     rw [← hy19] at hcut19
     have HO160 := Aside0.mk (show Kd.V Kd.string 9 _ w.heap.size _ (.slice A1 y156.length c1) y156 from Kd.V_mk (by omega) hr19)
     have HC160 := Aside0.mk (show y156.length ≤ c1 from by omega)
     clear hr19 hC19 hroom19 hi019 hsz19
     have KY19 := Aside0.mk hy19
     clear hy19
     replace q19 := eq_true q19
     refine start_ (n := 18) (S := fun w' => True) (ds := []) #[false,false,false,false,false,false,false,false,false,false,false,false,false,false,false,false,false,false] (by kernel_rfl) rfl rfl trivial (fun hHeld => ?_); refine with_tabW collatorlaw07_AlikeTells.tab2 collatorlaw07_AlikeTells.bits2 (fun HT_ HW_ => ?_)
     generalize w16.drew = w17 at HO0 HO1 HB HO155 HO160 hHeld ⊢
     refine pure_ (i := 0) (N := some 20) (v:=?_) (a':=?_) #[true,false,false,false,false,false,false,false,false,false,false,false,false,false,false,false,false,false] rfl rfl (any_of HT_.out (by kernel_rfl)) (fun _ _ _ h=>h) (Or.inl ⟨by rfl,?_⟩) ?_ ?_
     rotate_left
     ·intro w'
      go_simp
      with_reducible rfl
     rotate_left
     ·simp only [Act.put,sA,sB,sC,i64_w,i32_w]
      rfl
     refine pure_ (i := 1) (N := some 21) (v:=?_) (a':=?_) #[true,true,false,false,false,false,false,false,false,false,false,false,false,false,false,false,false,false] rfl rfl (any_of HT_.out (by kernel_rfl)) (fun _ _ _ h=>h) (Or.inl ⟨by rfl,?_⟩) ?_ ?_
     rotate_left
     ·intro w'
      go_simp
      with_reducible rfl
     rotate_left
     ·simp only [Act.put,sA,sB,sC,i64_w,i32_w]
      rfl
     refine pure_ (i := 2) (N := some 22) (v:=?_) (a':=?_) #[true,true,true,false,false,false,false,false,false,false,false,false,false,false,false,false,false,false] rfl rfl (any_of HT_.out (by kernel_rfl)) (fun _ _ _ h=>h) (Or.inl ⟨by rfl,?_⟩) ?_ ?_
     rotate_left
     ·intro w'
      go_simp
      with_reducible rfl
     rotate_left
     ·simp only [Act.put,sA,sB,sC,i64_w,i32_w]
      rfl
     refine pure_ (i := 3) (N := some 23) (v:=?_) (a':=?_) #[true,true,true,true,false,false,false,false,false,false,false,false,false,false,false,false,false,false] rfl rfl (any_of HT_.out (by kernel_rfl)) (fun _ _ _ h=>h) (Or.inl ⟨by rfl,?_⟩) ?_ ?_
     rotate_left
     ·intro w'
      go_simp
      with_reducible rfl
     rotate_left
     ·simp only [Act.put,sA,sB,sC,i64_w,i32_w]
      rfl
     refine pure_ (i := 4) (N := some 24) (v:=?_) (a':=?_) #[true,true,true,true,true,false,false,false,false,false,false,false,false,false,false,false,false,false] rfl rfl (any_of HT_.out (by kernel_rfl)) (fun _ _ _ h=>h) (Or.inl ⟨by rfl,?_⟩) ?_ ?_
     rotate_left
     ·intro w'
      go_simp
      with_reducible rfl
     rotate_left
     ·simp only [Act.put,sA,sB,sC,i64_w,i32_w]
      rfl
     refine pure_ (i := 5) (N := some 25) (v:=?_) (a':=?_) #[true,true,true,true,true,true,false,false,false,false,false,false,false,false,false,false,false,false] rfl rfl (any_of HT_.out (by kernel_rfl)) (fun _ _ _ h=>h) (Or.inl ⟨by rfl,?_⟩) ?_ ?_
     rotate_left
     ·intro w'
      go_simp
      with_reducible rfl
     rotate_left
     ·simp only [Act.put,sA,sB,sC,i64_w,i32_w]
      rfl
     refine pure_ (i := 6) (N := some 26) (v:=?_) (a':=?_) #[true,true,true,true,true,true,true,false,false,false,false,false,false,false,false,false,false,false] rfl rfl (any_of HT_.out (by kernel_rfl)) (fun _ _ _ h=>h) (Or.inl ⟨by rfl,?_⟩) ?_ ?_
     rotate_left
     ·intro w'
      go_simp
      with_reducible rfl
     rotate_left
     ·simp only [Act.put,sA,sB,sC,i64_w,i32_w]
      rfl
     refine pure_ (i := 7) (N := some 27) (v:=?_) (a':=?_) #[true,true,true,true,true,true,true,true,false,false,false,false,false,false,false,false,false,false] rfl rfl (any_of HT_.out (by kernel_rfl)) (fun _ _ _ h=>h) (Or.inl ⟨by rfl,?_⟩) ?_ ?_
     rotate_left
     ·intro w'
      go_simp
      with_reducible rfl
     rotate_left
     ·simp only [Act.put,sA,sB,sC,i64_w,i32_w]
      rfl
     refine pure_ (i := 8) (N := some 28) (v:=?_) (a':=?_) #[true,true,true,true,true,true,true,true,true,false,false,false,false,false,false,false,false,false] rfl rfl (any_of HT_.out (by kernel_rfl)) (fun _ _ _ h=>h) (Or.inl ⟨by rfl,?_⟩) ?_ ?_
     rotate_left
     ·intro w'
      go_simp
      with_reducible rfl
     rotate_left
     ·simp only [Act.put,sA,sB,sC,i64_w,i32_w]
      rfl
     refine pure_ (i := 9) (N := some 29) (v:=?_) (a':=?_) #[true,true,true,true,true,true,true,true,true,true,false,false,false,false,false,false,false,false] rfl rfl (any_of HT_.out (by kernel_rfl)) (fun _ _ _ h=>h) (Or.inl ⟨by rfl,?_⟩) ?_ ?_
     rotate_left
     ·intro w'
      go_simp
      with_reducible rfl
     rotate_left
     ·simp only [Act.put,sA,sB,sC,i64_w,i32_w]
      rfl
     refine pure_ (i := 10) (N := some 30) (v:=?_) (a':=?_) #[true,true,true,true,true,true,true,true,true,true,true,false,false,false,false,false,false,false] rfl rfl (any_of HT_.out (by kernel_rfl)) (fun _ _ _ h=>h) (Or.inl ⟨by rfl,?_⟩) ?_ ?_
     rotate_left
     ·intro w'
      go_simp
      with_reducible rfl
     rotate_left
     ·simp only [Act.put,sA,sB,sC,i64_w,i32_w]
      rfl
     refine pure_ (i := 12) (N := some 32) (v:=?_) (a':=?_) #[true,true,true,true,true,true,true,true,true,true,true,false,true,false,false,false,false,false] rfl rfl (any_of HT_.out (by kernel_rfl)) (fun _ _ _ h=>h) (Or.inl ⟨by rfl,?_⟩) ?_ ?_
     rotate_left
     ·intro w'
      go_simp
      with_reducible rfl
     rotate_left
     ·simp only [Act.put,sA,sB,sC,i64_w,i32_w]
      rfl
     refine pure_ (i := 14) (N := some 34) (v:=?_) (a':=?_) #[true,true,true,true,true,true,true,true,true,true,true,false,true,false,true,false,false,false] rfl rfl (any_of HT_.out (by kernel_rfl)) (fun _ _ _ h=>h) (Or.inl ⟨by rfl,?_⟩) ?_ ?_
     rotate_left
     ·intro w'
      go_simp
      with_reducible rfl
     rotate_left
     ·simp only [Act.put,sA,sB,sC,i64_w,i32_w]
      rfl
     refine one_ (i := 11) (N := some 31) #[true,true,true,true,true,true,true,true,true,true,true,true,true,false,true,false,false,false] rfl rfl (one_of HT_.out (by kernel_rfl)) (by decide) (fun K hK => ?_)
     refine goes_ Try.func18 (by kernel_rfl) rfl #[.slice A2 l2.length c2,.int .i64 30] (by rfl) rfl rfl (by (try simp only [List.map_toArray,List.map_cons,List.map_nil]); first | done | rfl | (simp only [List.length_drop,List.length_take]; rfl)) ?_
     with_reducible refine (collatorlaw03_Lines.calls k _ _ l2 30 t161 _ ?side1 ?side2 A13.out).mono ?_
     (case side1 => repeat (first | exact (Kd.C_below HR2.out HB.out) | (with_reducible refine Kd.C_alloc ?_ _) | (with_reducible refine Kd.C_drewN ?_ _) | (with_reducible refine Kd.C_drew ?_)))
     (case side2 => exact HC2.out)
     rintro e w20 ⟨v162,rfl,ho0,hb⟩
     refine ⟨_,rfl,?_⟩
     have n0_ := Aside0.mk (Kd.V_elder' (by (with_reducible repeat (first | apply Kd.V_alloc | apply Kd.V_drewN | apply Kd.V_drew)); exact HO0.out) (Kd.R_base ho0) hb)
     have n1_ := Aside0.mk (Kd.V_elder' (by (with_reducible repeat (first | apply Kd.V_alloc | apply Kd.V_drewN | apply Kd.V_drew)); exact HO1.out) (Kd.R_base ho0) hb)
     have n2_ := Aside0.mk (Kd.V_elder' (by (with_reducible repeat (first | apply Kd.V_alloc | apply Kd.V_drewN | apply Kd.V_drew)); exact HO155.out) (Kd.R_base ho0) hb)
     have n3_ := Aside0.mk (Kd.V_elder' (by (with_reducible repeat (first | apply Kd.V_alloc | apply Kd.V_drewN | apply Kd.V_drew)); exact HO160.out) (Kd.R_base ho0) hb)
     have n4_ := Aside0.mk (Kd.R_lower (Kd.R_newM (M := fun k_ => (w.heap.size ≤ k_)) ho0 (below_size (by repeat (first | (with_reducible first | exact HB.out | apply below_alloc | apply pw_below_drewN | apply below_drew1) | exact HB.out))) (fun k_ h_ => h_)) (below_size (by repeat (first | (with_reducible first | exact HB.out | apply below_alloc | apply pw_below_drewN | apply below_drew1) | exact HB.out))))
     have n5_ := Aside0.mk (below_step (by repeat (first | (with_reducible first | exact HB.out | apply below_alloc | apply pw_below_drewN | apply below_drew1) | exact HB.out)) hb)
     clear HO0
     clear HO1
     clear HO155
     clear HO160
     clear HB
     have HO0 := n0_
     have HO1 := n1_
     have HO155 := n2_
     have HO160 := n3_
     have HO163 := n4_
     have HB := n5_
     clear n0_ n1_ n2_ n3_ n4_ n5_
     (try clear hb)
     (try clear hb2)
     (try clear hk)
     (try clear hi)
     (try clear ho0)
     refine hK.out _ _ trivial (fun hHeld => ?_)
     clear hK K
     refine norm_ (a' := ?_) ?_ ?_
     rotate_left
     ·show Act.put _ (some 31) _ = _
      simp only [Act.put,sA,sB,sC,i64_w,i32_w]
      rfl
     refine one_ (i := 13) (N := some 33) #[true,true,true,true,true,true,true,true,true,true,true,true,true,true,true,false,false,false] rfl rfl (one_of HT_.out (by kernel_rfl)) (by decide) (fun K hK => ?_)
     refine goes_ Try.func18 (by kernel_rfl) rfl #[.slice A3 l3.length c3,.int .i64 30] (by rfl) rfl rfl (by (try simp only [List.map_toArray,List.map_cons,List.map_nil]); first | done | rfl | (simp only [List.length_drop,List.length_take]; rfl)) ?_
     with_reducible refine (collatorlaw03_Lines.calls k _ _ l3 30 t164 _ ?side1 ?side2 A14.out).mono ?_
     (case side1 => repeat (first | exact (Kd.C_below HR3.out HB.out) | (with_reducible refine Kd.C_alloc ?_ _) | (with_reducible refine Kd.C_drewN ?_ _) | (with_reducible refine Kd.C_drew ?_)))
     (case side2 => exact HC3.out)
     rintro e w21 ⟨v165,rfl,ho0,hb⟩
     refine ⟨_,rfl,?_⟩
     have n0_ := Aside0.mk (Kd.V_elder' (by (with_reducible repeat (first | apply Kd.V_alloc | apply Kd.V_drewN | apply Kd.V_drew)); exact HO0.out) (Kd.R_base ho0) hb)
     have n1_ := Aside0.mk (Kd.V_elder' (by (with_reducible repeat (first | apply Kd.V_alloc | apply Kd.V_drewN | apply Kd.V_drew)); exact HO1.out) (Kd.R_base ho0) hb)
     have n2_ := Aside0.mk (Kd.V_elder' (by (with_reducible repeat (first | apply Kd.V_alloc | apply Kd.V_drewN | apply Kd.V_drew)); exact HO155.out) (Kd.R_base ho0) hb)
     have n3_ := Aside0.mk (Kd.V_elder' (by (with_reducible repeat (first | apply Kd.V_alloc | apply Kd.V_drewN | apply Kd.V_drew)); exact HO160.out) (Kd.R_base ho0) hb)
     have n4_ := Aside0.mk (Kd.R_elder' (by (with_reducible repeat (first | apply Kd.R_alloc | apply Kd.R_drewN | apply Kd.R_drew)); exact HO163.out) (Kd.R_base ho0) hb)
     have n5_ := Aside0.mk (Kd.R_lower (Kd.R_new' (Kd.R_newM (M := fun k_ => (w.heap.size ≤ k_)) ho0 (below_size (by repeat (first | (with_reducible first | exact HB.out | apply below_alloc | apply pw_below_drewN | apply below_drew1) | exact HB.out))) (fun k_ h_ => h_)) (Kd.R_lt (by (with_reducible repeat (first | apply Kd.R_alloc | apply Kd.R_drewN | apply Kd.R_drew)); exact HO163.out))) (below_size (by repeat (first | (with_reducible first | exact HB.out | apply below_alloc | apply pw_below_drewN | apply below_drew1) | exact HB.out))))
     have n6_ := Aside0.mk (below_step (by repeat (first | (with_reducible first | exact HB.out | apply below_alloc | apply pw_below_drewN | apply below_drew1) | exact HB.out)) hb)
     clear HO0
     clear HO1
     clear HO155
     clear HO160
     clear HO163
     clear HB
     have HO0 := n0_
     have HO1 := n1_
     have HO155 := n2_
     have HO160 := n3_
     have HO163 := n4_
     have HO166 := n5_
     have HB := n6_
     clear n0_ n1_ n2_ n3_ n4_ n5_ n6_
     (try clear hb)
     (try clear hb2)
     (try clear hk)
     (try clear hi)
     (try clear ho0)
     refine hK.out _ _ trivial (fun hHeld => ?_)
     clear hK K
     refine norm_ (a' := ?_) ?_ ?_
     rotate_left
     ·show Act.put _ (some 33) _ = _
      simp only [Act.put,sA,sB,sC,i64_w,i32_w]
      rfl
     refine one_ (i := 15) (N := some 35) #[true,true,true,true,true,true,true,true,true,true,true,true,true,true,true,true,false,false] rfl rfl (one_of HT_.out (by kernel_rfl)) (by decide) (fun K hK => ?_)
     refine goes_ Try.func18 (by kernel_rfl) rfl #[.slice A4 l4.length c4,.int .i64 30] (by rfl) rfl rfl (by (try simp only [List.map_toArray,List.map_cons,List.map_nil]); first | done | rfl | (simp only [List.length_drop,List.length_take]; rfl)) ?_
     with_reducible refine (collatorlaw03_Lines.calls k _ _ l4 30 t167 _ ?side1 ?side2 A15.out).mono ?_
     (case side1 => repeat (first | exact (Kd.C_below HR4.out HB.out) | (with_reducible refine Kd.C_alloc ?_ _) | (with_reducible refine Kd.C_drewN ?_ _) | (with_reducible refine Kd.C_drew ?_)))
     (case side2 => exact HC4.out)
     rintro e w22 ⟨v168,rfl,ho0,hb⟩
     refine ⟨_,rfl,?_⟩
     have n0_ := Aside0.mk (Kd.V_elder' (by (with_reducible repeat (first | apply Kd.V_alloc | apply Kd.V_drewN | apply Kd.V_drew)); exact HO0.out) (Kd.R_base ho0) hb)
     have n1_ := Aside0.mk (Kd.V_elder' (by (with_reducible repeat (first | apply Kd.V_alloc | apply Kd.V_drewN | apply Kd.V_drew)); exact HO1.out) (Kd.R_base ho0) hb)
     have n2_ := Aside0.mk (Kd.V_elder' (by (with_reducible repeat (first | apply Kd.V_alloc | apply Kd.V_drewN | apply Kd.V_drew)); exact HO155.out) (Kd.R_base ho0) hb)
     have n3_ := Aside0.mk (Kd.V_elder' (by (with_reducible repeat (first | apply Kd.V_alloc | apply Kd.V_drewN | apply Kd.V_drew)); exact HO160.out) (Kd.R_base ho0) hb)
     have n4_ := Aside0.mk (Kd.R_elder' (by (with_reducible repeat (first | apply Kd.R_alloc | apply Kd.R_drewN | apply Kd.R_drew)); exact HO163.out) (Kd.R_base ho0) hb)
     have n5_ := Aside0.mk (Kd.R_elder' (by (with_reducible repeat (first | apply Kd.R_alloc | apply Kd.R_drewN | apply Kd.R_drew)); exact HO166.out) (Kd.R_base ho0) hb)
     have n6_ := Aside0.mk (Kd.R_lower (Kd.R_new' (Kd.R_new' (Kd.R_newM (M := fun k_ => (w.heap.size ≤ k_)) ho0 (below_size (by repeat (first | (with_reducible first | exact HB.out | apply below_alloc | apply pw_below_drewN | apply below_drew1) | exact HB.out))) (fun k_ h_ => h_)) (Kd.R_lt (by (with_reducible repeat (first | apply Kd.R_alloc | apply Kd.R_drewN | apply Kd.R_drew)); exact HO163.out))) (Kd.R_lt (by (with_reducible repeat (first | apply Kd.R_alloc | apply Kd.R_drewN | apply Kd.R_drew)); exact HO166.out))) (below_size (by repeat (first | (with_reducible first | exact HB.out | apply below_alloc | apply pw_below_drewN | apply below_drew1) | exact HB.out))))
     have n7_ := Aside0.mk (below_step (by repeat (first | (with_reducible first | exact HB.out | apply below_alloc | apply pw_below_drewN | apply below_drew1) | exact HB.out)) hb)
     clear HO0
     clear HO1
     clear HO155
     clear HO160
     clear HO163
     clear HO166
     clear HB
     have HO0 := n0_
     have HO1 := n1_
     have HO155 := n2_
     have HO160 := n3_
     have HO163 := n4_
     have HO166 := n5_
     have HO169 := n6_
     have HB := n7_
     clear n0_ n1_ n2_ n3_ n4_ n5_ n6_ n7_
     (try clear hb)
     (try clear hb2)
     (try clear hk)
     (try clear hi)
     (try clear ho0)
     obtain ⟨Ao23,co23,eo23⟩ := Kd.R_slice HO163.out
     (first | subst eo23 | (injection eo23 with f1_ f2_ f3_; have f4_ := f1_.symm; have f5_ := f3_.symm; clear f1_ f2_ f3_; subst f4_; subst f5_))
     obtain ⟨Ao24,co24,eo24⟩ := Kd.R_slice HO166.out
     (first | subst eo24 | (injection eo24 with f1_ f2_ f3_; have f4_ := f1_.symm; have f5_ := f3_.symm; clear f1_ f2_ f3_; subst f4_; subst f5_))
     obtain ⟨Ao25,co25,eo25⟩ := Kd.R_slice HO169.out
     (first | subst eo25 | (injection eo25 with f1_ f2_ f3_; have f4_ := f1_.symm; have f5_ := f3_.symm; clear f1_ f2_ f3_; subst f4_; subst f5_))
     refine hK.out _ _ trivial (fun hHeld => ?_)
     clear hK K
     refine norm_ (a' := ?_) ?_ ?_
     rotate_left
     ·show Act.put _ (some 35) _ = _
      simp only [Act.put,sA,sB,sC,i64_w,i32_w]
      rfl
     refine one_ (i := 16) (N := some 36) #[true,true,true,true,true,true,true,true,true,true,true,true,true,true,true,true,true,false] rfl rfl (one_of HT_.out (by kernel_rfl)) (by decide) (fun K hK => ?_)
     refine Kd.N_lit_step (Kd.slice 9 Kd.string) _ 22 ?hg (N' := 36) ?hd (xs := ([y151,y156,t161,t164,t167] : List (List ByteArray))) (inner := [.slice A0 y151.length c0,.slice A1 y156.length c1,.slice Ao23 t161.length co23,.slice Ao24 t164.length co24,.slice Ao25 t167.length co25]) (ok := (fun k_ => ((P0_ k_ ∨ P1_ k_) ∨ w.heap.size ≤ k_))) (okp := (fun k_ => ((P0_ k_ ∨ P1_ k_) ∨ w.heap.size ≤ k_))) ?hr ?hp (fun _ hk => hk) ((show ∀ k_,w22.heap.size ≤ k_ → (fun k_ => ((P0_ k_ ∨ P1_ k_) ∨ w.heap.size ≤ k_)) k_ from fun k_ hk => (.inr (Nat.le_trans (below_size (by repeat (first | (with_reducible first | exact HB.out | apply below_alloc | apply pw_below_drewN | apply below_drew1) | exact HB.out))) hk))) _ (Nat.le_refl _)) (Below.refl _ _) (Nat.le_refl _) (by simp) ?_; (case hd => rfl); (case hg => rfl); (case hr => first | (go_simp; done) | (go_simp; rfl)); (case hp => exact (Reps.one (show Kd.FK (Kd.slice 9 Kd.string) _ _ y151 [.slice A0 y151.length c0] from (Kd.FK_slice_mk (Kd.V_reads' (Kd.V_mono (ok' := (fun k_ => ((P0_ k_ ∨ P1_ k_) ∨ w.heap.size ≤ k_))) (HO155.out) (fun k_ hk => hk.1.1.1))).2.1 (Kd.V_F (Kd.V_mono (ok' := (fun k_ => ((P0_ k_ ∨ P1_ k_) ∨ w.heap.size ≤ k_))) (HO155.out) (fun k_ hk => hk.1.1.1))))) (Reps.one (show Kd.FK (Kd.slice 9 Kd.string) _ _ y156 [.slice A1 y156.length c1] from (Kd.FK_slice_mk (Kd.V_reads' (Kd.V_mono (ok' := (fun k_ => ((P0_ k_ ∨ P1_ k_) ∨ w.heap.size ≤ k_))) (HO160.out) (fun k_ hk => hk.1.1.1))).2.1 (Kd.V_F (Kd.V_mono (ok' := (fun k_ => ((P0_ k_ ∨ P1_ k_) ∨ w.heap.size ≤ k_))) (HO160.out) (fun k_ hk => hk.1.1.1))))) (Reps.one (show Kd.FK (Kd.slice 9 Kd.string) _ _ t161 [.slice Ao23 t161.length co23] from (Kd.FK_slice_mk (Kd.R_reads' (Kd.R_mono (ok' := (fun k_ => ((P0_ k_ ∨ P1_ k_) ∨ w.heap.size ≤ k_))) (HO163.out) (fun k_ hk => (.inr (hk.1.1.1))))).2.1 (Kd.R_F (Kd.R_mono (ok' := (fun k_ => ((P0_ k_ ∨ P1_ k_) ∨ w.heap.size ≤ k_))) (HO163.out) (fun k_ hk => (.inr (hk.1.1.1))))))) (Reps.one (show Kd.FK (Kd.slice 9 Kd.string) _ _ t164 [.slice Ao24 t164.length co24] from (Kd.FK_slice_mk (Kd.R_reads' (Kd.R_mono (ok' := (fun k_ => ((P0_ k_ ∨ P1_ k_) ∨ w.heap.size ≤ k_))) (HO166.out) (fun k_ hk => (.inr (hk.1.1.1))))).2.1 (Kd.R_F (Kd.R_mono (ok' := (fun k_ => ((P0_ k_ ∨ P1_ k_) ∨ w.heap.size ≤ k_))) (HO166.out) (fun k_ hk => (.inr (hk.1.1.1))))))) (Reps.one (show Kd.FK (Kd.slice 9 Kd.string) _ _ t167 [.slice Ao25 t167.length co25] from (Kd.FK_slice_mk (Kd.R_reads' (Kd.R_mono (ok' := (fun k_ => ((P0_ k_ ∨ P1_ k_) ∨ w.heap.size ≤ k_))) (HO169.out) (fun k_ hk => (.inr (hk.1.1.1))))).2.1 (Kd.R_F (Kd.R_mono (ok' := (fun k_ => ((P0_ k_ ∨ P1_ k_) ∨ w.heap.size ≤ k_))) (HO169.out) (fun k_ hk => (.inr (hk.1.1.1))))))) (Reps.none _ _)))))))
     intro v171 w26 ho27 hb hg_ hnew_
     clear hg_ hnew_
     (first | rw [← Ny170.out] at ho27 | (simp only [Int.reduceToNat] at ho27; rw [← Ny170.out] at ho27))
     have n0_ := Aside0.mk (Kd.V_elder' (by (with_reducible repeat (first | apply Kd.V_alloc | apply Kd.V_drewN | apply Kd.V_drew)); exact HO0.out) (by first | exact Kd.N_base ho27 | exact Kd.S_base ho27) hb)
     have n1_ := Aside0.mk (Kd.V_elder' (by (with_reducible repeat (first | apply Kd.V_alloc | apply Kd.V_drewN | apply Kd.V_drew)); exact HO1.out) (by first | exact Kd.N_base ho27 | exact Kd.S_base ho27) hb)
     have n2_ := Aside0.mk (Kd.V_elder' (by (with_reducible repeat (first | apply Kd.V_alloc | apply Kd.V_drewN | apply Kd.V_drew)); exact HO155.out) (by first | exact Kd.N_base ho27 | exact Kd.S_base ho27) hb)
     have n3_ := Aside0.mk (Kd.V_elder' (by (with_reducible repeat (first | apply Kd.V_alloc | apply Kd.V_drewN | apply Kd.V_drew)); exact HO160.out) (by first | exact Kd.N_base ho27 | exact Kd.S_base ho27) hb)
     have n4_ := Aside0.mk (Kd.R_below (by (with_reducible repeat (first | apply Kd.R_alloc | apply Kd.R_drewN | apply Kd.R_drew)); exact HO163.out) hb)
     have n5_ := Aside0.mk (Kd.R_below (by (with_reducible repeat (first | apply Kd.R_alloc | apply Kd.R_drewN | apply Kd.R_drew)); exact HO166.out) hb)
     have n6_ := Aside0.mk (Kd.R_below (by (with_reducible repeat (first | apply Kd.R_alloc | apply Kd.R_drewN | apply Kd.R_drew)); exact HO169.out) hb)
     have n7_ := Aside0.mk (Kd.N_lower ho27 (below_size (by repeat (first | (with_reducible first | exact HB.out | apply below_alloc | apply pw_below_drewN | apply below_drew1) | exact HB.out))))
     have n8_ := Aside0.mk (below_step (by repeat (first | (with_reducible first | exact HB.out | apply below_alloc | apply pw_below_drewN | apply below_drew1) | exact HB.out)) hb)
     clear HO0
     clear HO1
     clear HO155
     clear HO160
     clear HO163
     clear HO166
     clear HO169
     clear HB
     have HO0 := n0_
     have HO1 := n1_
     have HO155 := n2_
     have HO160 := n3_
     have HO163 := n4_
     have HO166 := n5_
     have HO169 := n6_
     have HO172 := n7_
     have HB := n8_
     clear n0_ n1_ n2_ n3_ n4_ n5_ n6_ n7_ n8_
     clear hb ho27
     refine hK.out _ _ trivial (fun hHeld => ?_)
     clear hK K
     refine norm_ (a' := ?_) ?_ ?_
     rotate_left
     ·show Act.put _ (some 36) _ = _
      simp only [Act.put,sA,sB,sC,i64_w,i32_w]
      rfl
     refine pure_ (i := 17) (N := some 12) (v:=?_) (a':=?_) #[true,true,true,true,true,true,true,true,true,true,true,true,true,true,true,true,true,true] rfl rfl (any_of HT_.out (by kernel_rfl)) (fun _ _ _ h=>h) (Or.inl ⟨by rfl,?_⟩) ?_ ?_
     rotate_left
     ·intro w'
      go_simp
      with_reducible rfl
     rotate_left
     ·simp only [Act.put,sA,sB,sC,i64_w,i32_w]
      rfl
     refine done_ (done_of HT_.out (by kernel_rfl)) ?_
     try go_wp2
     go_loopg [13] k (fun kq v13 w' => ∃ (x13_1 : Int),v13 = .int .i64 x13_1 ∧ Aside0 (collatorlaw07_AlikeTells.l0 kq t150 y170 x13_1 = some r) ∧ Aside0 (kq ≤ k) ∧ Aside0 (Kd.N (Kd.slice 9 Kd.string) 22 w' w.heap.size (fun k_ => ((P0_ k_ ∨ P1_ k_) ∨ w.heap.size ≤ k_)) v171 y170) ∧ Aside0 (Below w.heap.size w w'))
     case atStart => exact ⟨(0),(by first | rfl | (simp; done) | (simp [*]; done)),H',⟨Nat.le_refl _⟩,⟨by (with_reducible repeat (first | apply Kd.N_alloc | apply Kd.N_drewN | apply Kd.N_drew)); exact HO172.out⟩,⟨by repeat (first | (with_reducible first | exact HB.out | apply below_alloc | apply pw_below_drewN | apply below_drew1) | exact HB.out)⟩⟩
     case round =>
      clear H'
      (try clear c1);(try clear q1);(try clear c2);(try clear p2);(try clear c3);(try clear c4);(try clear c8);(try clear c8b0);(try clear c8b1);(try clear c9);(try clear c9b0);(try clear c9b1);(try clear c11);(try clear c11b0);(try clear c11b1);(try clear c12);(try clear c12b0);(try clear c12b1);(try clear c17);(try clear c18);(try clear q18);(try clear q19);(try clear q18);(try clear q19)
      obtain ⟨x13_1,rfl,HA,HK1,HO_12,HB⟩ := hrel
      cases gk with
      | zero => exact absurd HA.out (by simp [collatorlaw07_AlikeTells.l0])
      | succ k1 =>
       have H := HA.out
       clear HA
       simp only [collatorlaw07_AlikeTells.l0] at H
       by_cases c28 : x13_1 < (y170.length : Int)
       ·rw [if_pos c28] at H
        have c28b0 : decide (x13_1 < (y170.length : Int)) = true := decide_eq_true c28
        clear c28
        have H' := Aside0.mk H
        clear H
        obtain ⟨Ao29,co29,eo29⟩ := Kd.N_slice HO_12.out
        subst eo29
        go_wp2
        go_loopg [14] k1 (fun kq v14 w' => ∃ (x14_2 : Int),v14 = .int .i64 x14_2 ∧ Aside0 (collatorlaw07_AlikeTells.l1 kq t150 y170 x13_1 x14_2 = some r) ∧ Aside0 (kq ≤ k1) ∧ Aside0 (Kd.N (Kd.slice 9 Kd.string) 22 w' w.heap.size (fun k_ => ((P0_ k_ ∨ P1_ k_) ∨ w.heap.size ≤ k_)) (.slice Ao29 y170.length co29) y170) ∧ Aside0 (Below w.heap.size w w'))
        case atStart => exact ⟨(0),(by first | rfl | (simp; done) | (simp [*]; done)),H',⟨Nat.le_refl _⟩,⟨by (with_reducible repeat (first | apply Kd.N_alloc | apply Kd.N_drewN | apply Kd.N_drew)); exact HO_12.out⟩,⟨by repeat (first | (with_reducible first | exact HB.out | apply below_alloc | apply pw_below_drewN | apply below_drew1) | exact HB.out)⟩⟩
        case round =>
         clear H'
         (try clear c1);(try clear q1);(try clear c2);(try clear p2);(try clear c3);(try clear c4);(try clear c8);(try clear c8b0);(try clear c8b1);(try clear c9);(try clear c9b0);(try clear c9b1);(try clear c11);(try clear c11b0);(try clear c11b1);(try clear c12);(try clear c12b0);(try clear c12b1);(try clear c17);(try clear c18);(try clear q18);(try clear q19);(try clear c28);(try clear c28b0);(try clear p2);(try clear q1);(try clear q18);(try clear q19)
         obtain ⟨x14_2,rfl,HA,HK2,HO_12,HB⟩ := hrel
         cases gk with
         | zero => exact absurd HA.out (by simp [collatorlaw07_AlikeTells.l1])
         | succ k2 =>
          have H := HA.out
          clear HA
          simp only [collatorlaw07_AlikeTells.l1] at H
          by_cases c30 : x14_2 < (y170.length : Int)
          ·rw [if_pos c30] at H
           have c30b0 : decide (x14_2 < (y170.length : Int)) = true := decide_eq_true c30
           clear c30
           by_cases c31 : 0 ≤ x13_1
           ·rw [if_pos c31] at H
            have c31b0 : decide (0 ≤ x13_1) = true := decide_eq_true c31
            clear c31
            by_cases c32 : x13_1 < (y170.length : Int)
            ·rw [if_pos c32] at H
             have c32b0 : decide (x13_1 < (y170.length : Int)) = true := decide_eq_true c32
             clear c32
             by_cases c33 : 0 ≤ x14_2
             ·rw [if_pos c33] at H
              have c33b0 : decide (0 ≤ x14_2) = true := decide_eq_true c33
              clear c33
              replace H := Option.bind_eq_some_iff.mp H
              obtain ⟨t175,A340,H⟩ := H
              replace H : ((collatorref07_Common.f k2 (rd_L1 y170 x13_1) (rd_L1 y170 x14_2)).bind fun t178 => (if t175 = t178 then ((alike_Score.f (rd_L1 y170 x13_1) (rd_L1 y170 x14_2)).bind fun t181 => ((collatorref07_Score.f k2 (rd_L1 y170 x13_1) (rd_L1 y170 x14_2)).bind fun t184 => (if t181 = t184 then (collatorlaw07_AlikeTells.l1 k2 t150 y170 x13_1 (wrap64 (x14_2 + 1))) else (some false)))) else (some false))) = some r := H
              have A34 := Aside0.mk A340
              clear A340
              replace H := Option.bind_eq_some_iff.mp H
              obtain ⟨t178,A350,H⟩ := H
              replace H : (if t175 = t178 then ((alike_Score.f (rd_L1 y170 x13_1) (rd_L1 y170 x14_2)).bind fun t181 => ((collatorref07_Score.f k2 (rd_L1 y170 x13_1) (rd_L1 y170 x14_2)).bind fun t184 => (if t181 = t184 then (collatorlaw07_AlikeTells.l1 k2 t150 y170 x13_1 (wrap64 (x14_2 + 1))) else (some false)))) else (some false)) = some r := H
              have A35 := Aside0.mk A350
              clear A350
              by_cases c36 : t175 = t178
              ·rw [if_pos c36] at H
               have c36b0 : (t175 == t178) = true := beq_iff_eq.mpr c36
               have c36b1 : (t175 != t178) = false := bne_eq_false_iff_eq.mpr c36
               clear c36
               replace H := Option.bind_eq_some_iff.mp H
               obtain ⟨t181,A370,H⟩ := H
               replace H : ((collatorref07_Score.f k2 (rd_L1 y170 x13_1) (rd_L1 y170 x14_2)).bind fun t184 => (if t181 = t184 then (collatorlaw07_AlikeTells.l1 k2 t150 y170 x13_1 (wrap64 (x14_2 + 1))) else (some false))) = some r := H
               have A37 := Aside0.mk A370
               clear A370
               replace H := Option.bind_eq_some_iff.mp H
               obtain ⟨t184,A380,H⟩ := H
               replace H : (if t181 = t184 then (collatorlaw07_AlikeTells.l1 k2 t150 y170 x13_1 (wrap64 (x14_2 + 1))) else (some false)) = some r := H
               have A38 := Aside0.mk A380
               clear A380
               by_cases c39 : t181 = t184
               ·rw [if_pos c39] at H
                have c39b0 : (t181 == t184) = true := beq_iff_eq.mpr c39
                have c39b1 : (t181 != t184) = false := bne_eq_false_iff_eq.mpr c39
                clear c39
                have H' := Aside0.mk H
                clear H
                try go_wp2
                have n0_ := Aside0.mk (Kd.N_drew HO_12.out)
                have n1_ := Aside0.mk (below_drew1 HB.out)
                clear HO_12
                clear HB
                have HO_12 := n0_
                have HB := n1_
                clear n0_ n1_
                have p173 : 0 ≤ (x13_1 : Int) := of_decide_eq_true (by first | (with_reducible assumption) | assumption)
                have q173 : x13_1 < (y170.length : Int) := of_decide_eq_true (by first | (with_reducible assumption) | assumption)
                obtain ⟨ad173,A173_0,c173_0,e173,hx173_0,hl173_0,hi173_0⟩ := at_L1 (Kd.N_reads' HO_12.out).2.2 x13_1 p173 q173
                cases e173
                obtain ⟨ce173,hce173,hMe173,hcc173⟩ := Kd.N_get HO_12.out [] x13_1 p173 (by first | exact q173 | exact of_decide_eq_true (by first | (with_reducible assumption) | assumption) | (have e_ := (Kd.N_reads' HO_12.out).1; omega))
                obtain ⟨ua173_0,uc173_0,rfl,ul173_0,ge173_0⟩ := Kd.FK_slice_open hMe173
                have hv173_0 := hcc173 0 _ rfl
                rw [Nat.add_zero,show ((Kd.slice 9 Kd.string)).sz = 1 from rfl,Nat.mul_one] at hv173_0
                replace hv173_0 := Option.some.inj (hv173_0.symm.trans hx173_0)
                injection hv173_0 with hva_ hvn_ hvc_
                rw [hva_] at ge173_0
                rw [hvc_] at ul173_0
                have HL173_0 := Aside0.mk (show Kd.V Kd.string 9 _ w.heap.size _ _ (rd_L1 y170 x13_1) from Kd.V_mk ul173_0 ge173_0)
                clear hva_ hvn_ hvc_ ge173_0 ul173_0
                clear hcc173 hce173
                have HR173_0 := Aside0.mk hi173_0
                have HC173_0 := Aside0.mk hl173_0
                clear hi173_0 hl173_0
                replace p173 := eq_true p173
                replace q173 := eq_true q173
                have p174 : 0 ≤ (x14_2 : Int) := of_decide_eq_true (by first | (with_reducible assumption) | assumption)
                have q174 : x14_2 < (y170.length : Int) := of_decide_eq_true (by first | (with_reducible assumption) | assumption)
                obtain ⟨ad174,A174_0,c174_0,e174,hx174_0,hl174_0,hi174_0⟩ := at_L1 (Kd.N_reads' HO_12.out).2.2 x14_2 p174 q174
                obtain rfl : ad173 = ad174 := (by injection e174)
                obtain ⟨ce174,hce174,hMe174,hcc174⟩ := Kd.N_get HO_12.out [] x14_2 p174 (by first | exact q174 | exact of_decide_eq_true (by first | (with_reducible assumption) | assumption) | (have e_ := (Kd.N_reads' HO_12.out).1; omega))
                obtain ⟨ua174_0,uc174_0,rfl,ul174_0,ge174_0⟩ := Kd.FK_slice_open hMe174
                have hv174_0 := hcc174 0 _ rfl
                rw [Nat.add_zero,show ((Kd.slice 9 Kd.string)).sz = 1 from rfl,Nat.mul_one] at hv174_0
                replace hv174_0 := Option.some.inj (hv174_0.symm.trans hx174_0)
                injection hv174_0 with hva_ hvn_ hvc_
                rw [hva_] at ge174_0
                rw [hvc_] at ul174_0
                have HL174_0 := Aside0.mk (show Kd.V Kd.string 9 _ w.heap.size _ _ (rd_L1 y170 x14_2) from Kd.V_mk ul174_0 ge174_0)
                clear hva_ hvn_ hvc_ ge174_0 ul174_0
                clear hcc174 hce174
                have HR174_0 := Aside0.mk hi174_0
                have HC174_0 := Aside0.mk hl174_0
                clear hi174_0 hl174_0
                replace p174 := eq_true p174
                replace q174 := eq_true q174
                have p176 : 0 ≤ (x13_1 : Int) := of_decide_eq_true (by first | (with_reducible assumption) | assumption)
                have q176 : x13_1 < (y170.length : Int) := of_decide_eq_true (by first | (with_reducible assumption) | assumption)
                obtain ⟨ad176,A176_0,c176_0,e176,hx176_0,hl176_0,hi176_0⟩ := at_L1 (Kd.N_reads' HO_12.out).2.2 x13_1 p176 q176
                obtain rfl : ad173 = ad176 := (by injection e176)
                obtain ⟨ce176,hce176,hMe176,hcc176⟩ := Kd.N_get HO_12.out [] x13_1 p176 (by first | exact q176 | exact of_decide_eq_true (by first | (with_reducible assumption) | assumption) | (have e_ := (Kd.N_reads' HO_12.out).1; omega))
                obtain ⟨ua176_0,uc176_0,rfl,ul176_0,ge176_0⟩ := Kd.FK_slice_open hMe176
                have hv176_0 := hcc176 0 _ rfl
                rw [Nat.add_zero,show ((Kd.slice 9 Kd.string)).sz = 1 from rfl,Nat.mul_one] at hv176_0
                replace hv176_0 := Option.some.inj (hv176_0.symm.trans hx176_0)
                injection hv176_0 with hva_ hvn_ hvc_
                rw [hva_] at ge176_0
                rw [hvc_] at ul176_0
                have HL176_0 := Aside0.mk (show Kd.V Kd.string 9 _ w.heap.size _ _ (rd_L1 y170 x13_1) from Kd.V_mk ul176_0 ge176_0)
                clear hva_ hvn_ hvc_ ge176_0 ul176_0
                clear hcc176 hce176
                have HR176_0 := Aside0.mk hi176_0
                have HC176_0 := Aside0.mk hl176_0
                clear hi176_0 hl176_0
                replace p176 := eq_true p176
                replace q176 := eq_true q176
                have ea_ := Option.some.inj (hx173_0.symm.trans hx176_0)
                injection ea_ with ea_ en_ ec_
                subst ea_
                subst ec_
                clear en_
                have p177 : 0 ≤ (x14_2 : Int) := of_decide_eq_true (by first | (with_reducible assumption) | assumption)
                have q177 : x14_2 < (y170.length : Int) := of_decide_eq_true (by first | (with_reducible assumption) | assumption)
                obtain ⟨ad177,A177_0,c177_0,e177,hx177_0,hl177_0,hi177_0⟩ := at_L1 (Kd.N_reads' HO_12.out).2.2 x14_2 p177 q177
                obtain rfl : ad173 = ad177 := (by injection e177)
                obtain ⟨ce177,hce177,hMe177,hcc177⟩ := Kd.N_get HO_12.out [] x14_2 p177 (by first | exact q177 | exact of_decide_eq_true (by first | (with_reducible assumption) | assumption) | (have e_ := (Kd.N_reads' HO_12.out).1; omega))
                obtain ⟨ua177_0,uc177_0,rfl,ul177_0,ge177_0⟩ := Kd.FK_slice_open hMe177
                have hv177_0 := hcc177 0 _ rfl
                rw [Nat.add_zero,show ((Kd.slice 9 Kd.string)).sz = 1 from rfl,Nat.mul_one] at hv177_0
                replace hv177_0 := Option.some.inj (hv177_0.symm.trans hx177_0)
                injection hv177_0 with hva_ hvn_ hvc_
                rw [hva_] at ge177_0
                rw [hvc_] at ul177_0
                have HL177_0 := Aside0.mk (show Kd.V Kd.string 9 _ w.heap.size _ _ (rd_L1 y170 x14_2) from Kd.V_mk ul177_0 ge177_0)
                clear hva_ hvn_ hvc_ ge177_0 ul177_0
                clear hcc177 hce177
                have HR177_0 := Aside0.mk hi177_0
                have HC177_0 := Aside0.mk hl177_0
                clear hi177_0 hl177_0
                replace p177 := eq_true p177
                replace q177 := eq_true q177
                have ea_ := Option.some.inj (hx174_0.symm.trans hx177_0)
                injection ea_ with ea_ en_ ec_
                subst ea_
                subst ec_
                clear en_
                have p179 : 0 ≤ (x13_1 : Int) := of_decide_eq_true (by first | (with_reducible assumption) | assumption)
                have q179 : x13_1 < (y170.length : Int) := of_decide_eq_true (by first | (with_reducible assumption) | assumption)
                obtain ⟨ad179,A179_0,c179_0,e179,hx179_0,hl179_0,hi179_0⟩ := at_L1 (Kd.N_reads' HO_12.out).2.2 x13_1 p179 q179
                obtain rfl : ad173 = ad179 := (by injection e179)
                obtain ⟨ce179,hce179,hMe179,hcc179⟩ := Kd.N_get HO_12.out [] x13_1 p179 (by first | exact q179 | exact of_decide_eq_true (by first | (with_reducible assumption) | assumption) | (have e_ := (Kd.N_reads' HO_12.out).1; omega))
                obtain ⟨ua179_0,uc179_0,rfl,ul179_0,ge179_0⟩ := Kd.FK_slice_open hMe179
                have hv179_0 := hcc179 0 _ rfl
                rw [Nat.add_zero,show ((Kd.slice 9 Kd.string)).sz = 1 from rfl,Nat.mul_one] at hv179_0
                replace hv179_0 := Option.some.inj (hv179_0.symm.trans hx179_0)
                injection hv179_0 with hva_ hvn_ hvc_
                rw [hva_] at ge179_0
                rw [hvc_] at ul179_0
                have HL179_0 := Aside0.mk (show Kd.V Kd.string 9 _ w.heap.size _ _ (rd_L1 y170 x13_1) from Kd.V_mk ul179_0 ge179_0)
                clear hva_ hvn_ hvc_ ge179_0 ul179_0
                clear hcc179 hce179
                have HR179_0 := Aside0.mk hi179_0
                have HC179_0 := Aside0.mk hl179_0
                clear hi179_0 hl179_0
                replace p179 := eq_true p179
                replace q179 := eq_true q179
                have ea_ := Option.some.inj (hx173_0.symm.trans hx179_0)
                injection ea_ with ea_ en_ ec_
                subst ea_
                subst ec_
                clear en_
                have p180 : 0 ≤ (x14_2 : Int) := of_decide_eq_true (by first | (with_reducible assumption) | assumption)
                have q180 : x14_2 < (y170.length : Int) := of_decide_eq_true (by first | (with_reducible assumption) | assumption)
                obtain ⟨ad180,A180_0,c180_0,e180,hx180_0,hl180_0,hi180_0⟩ := at_L1 (Kd.N_reads' HO_12.out).2.2 x14_2 p180 q180
                obtain rfl : ad173 = ad180 := (by injection e180)
                obtain ⟨ce180,hce180,hMe180,hcc180⟩ := Kd.N_get HO_12.out [] x14_2 p180 (by first | exact q180 | exact of_decide_eq_true (by first | (with_reducible assumption) | assumption) | (have e_ := (Kd.N_reads' HO_12.out).1; omega))
                obtain ⟨ua180_0,uc180_0,rfl,ul180_0,ge180_0⟩ := Kd.FK_slice_open hMe180
                have hv180_0 := hcc180 0 _ rfl
                rw [Nat.add_zero,show ((Kd.slice 9 Kd.string)).sz = 1 from rfl,Nat.mul_one] at hv180_0
                replace hv180_0 := Option.some.inj (hv180_0.symm.trans hx180_0)
                injection hv180_0 with hva_ hvn_ hvc_
                rw [hva_] at ge180_0
                rw [hvc_] at ul180_0
                have HL180_0 := Aside0.mk (show Kd.V Kd.string 9 _ w.heap.size _ _ (rd_L1 y170 x14_2) from Kd.V_mk ul180_0 ge180_0)
                clear hva_ hvn_ hvc_ ge180_0 ul180_0
                clear hcc180 hce180
                have HR180_0 := Aside0.mk hi180_0
                have HC180_0 := Aside0.mk hl180_0
                clear hi180_0 hl180_0
                replace p180 := eq_true p180
                replace q180 := eq_true q180
                have ea_ := Option.some.inj (hx174_0.symm.trans hx180_0)
                injection ea_ with ea_ en_ ec_
                subst ea_
                subst ec_
                clear en_
                have p182 : 0 ≤ (x13_1 : Int) := of_decide_eq_true (by first | (with_reducible assumption) | assumption)
                have q182 : x13_1 < (y170.length : Int) := of_decide_eq_true (by first | (with_reducible assumption) | assumption)
                obtain ⟨ad182,A182_0,c182_0,e182,hx182_0,hl182_0,hi182_0⟩ := at_L1 (Kd.N_reads' HO_12.out).2.2 x13_1 p182 q182
                obtain rfl : ad173 = ad182 := (by injection e182)
                obtain ⟨ce182,hce182,hMe182,hcc182⟩ := Kd.N_get HO_12.out [] x13_1 p182 (by first | exact q182 | exact of_decide_eq_true (by first | (with_reducible assumption) | assumption) | (have e_ := (Kd.N_reads' HO_12.out).1; omega))
                obtain ⟨ua182_0,uc182_0,rfl,ul182_0,ge182_0⟩ := Kd.FK_slice_open hMe182
                have hv182_0 := hcc182 0 _ rfl
                rw [Nat.add_zero,show ((Kd.slice 9 Kd.string)).sz = 1 from rfl,Nat.mul_one] at hv182_0
                replace hv182_0 := Option.some.inj (hv182_0.symm.trans hx182_0)
                injection hv182_0 with hva_ hvn_ hvc_
                rw [hva_] at ge182_0
                rw [hvc_] at ul182_0
                have HL182_0 := Aside0.mk (show Kd.V Kd.string 9 _ w.heap.size _ _ (rd_L1 y170 x13_1) from Kd.V_mk ul182_0 ge182_0)
                clear hva_ hvn_ hvc_ ge182_0 ul182_0
                clear hcc182 hce182
                have HR182_0 := Aside0.mk hi182_0
                have HC182_0 := Aside0.mk hl182_0
                clear hi182_0 hl182_0
                replace p182 := eq_true p182
                replace q182 := eq_true q182
                have ea_ := Option.some.inj (hx173_0.symm.trans hx182_0)
                injection ea_ with ea_ en_ ec_
                subst ea_
                subst ec_
                clear en_
                have p183 : 0 ≤ (x14_2 : Int) := of_decide_eq_true (by first | (with_reducible assumption) | assumption)
                have q183 : x14_2 < (y170.length : Int) := of_decide_eq_true (by first | (with_reducible assumption) | assumption)
                obtain ⟨ad183,A183_0,c183_0,e183,hx183_0,hl183_0,hi183_0⟩ := at_L1 (Kd.N_reads' HO_12.out).2.2 x14_2 p183 q183
                obtain rfl : ad173 = ad183 := (by injection e183)
                obtain ⟨ce183,hce183,hMe183,hcc183⟩ := Kd.N_get HO_12.out [] x14_2 p183 (by first | exact q183 | exact of_decide_eq_true (by first | (with_reducible assumption) | assumption) | (have e_ := (Kd.N_reads' HO_12.out).1; omega))
                obtain ⟨ua183_0,uc183_0,rfl,ul183_0,ge183_0⟩ := Kd.FK_slice_open hMe183
                have hv183_0 := hcc183 0 _ rfl
                rw [Nat.add_zero,show ((Kd.slice 9 Kd.string)).sz = 1 from rfl,Nat.mul_one] at hv183_0
                replace hv183_0 := Option.some.inj (hv183_0.symm.trans hx183_0)
                injection hv183_0 with hva_ hvn_ hvc_
                rw [hva_] at ge183_0
                rw [hvc_] at ul183_0
                have HL183_0 := Aside0.mk (show Kd.V Kd.string 9 _ w.heap.size _ _ (rd_L1 y170 x14_2) from Kd.V_mk ul183_0 ge183_0)
                clear hva_ hvn_ hvc_ ge183_0 ul183_0
                clear hcc183 hce183
                have HR183_0 := Aside0.mk hi183_0
                have HC183_0 := Aside0.mk hl183_0
                clear hi183_0 hl183_0
                replace p183 := eq_true p183
                replace q183 := eq_true q183
                have ea_ := Option.some.inj (hx174_0.symm.trans hx183_0)
                injection ea_ with ea_ en_ ec_
                subst ea_
                subst ec_
                clear en_
                refine start_ (n := 40) (S := fun w' => w'.cell? (ad173.add (x13_1).toNat) = some (.slice A173_0 (rd_L1 y170 x13_1).length c173_0) ∧ w'.cell? (ad173.add (x14_2).toNat) = some (.slice A174_0 (rd_L1 y170 x14_2).length c174_0) ∧ w'.cell? (ad173.add (x13_1).toNat) = some (.slice A173_0 (rd_L1 y170 x13_1).length c173_0) ∧ w'.cell? (ad173.add (x14_2).toNat) = some (.slice A174_0 (rd_L1 y170 x14_2).length c174_0) ∧ w'.cell? (ad173.add (x13_1).toNat) = some (.slice A173_0 (rd_L1 y170 x13_1).length c173_0) ∧ w'.cell? (ad173.add (x14_2).toNat) = some (.slice A174_0 (rd_L1 y170 x14_2).length c174_0) ∧ w'.cell? (ad173.add (x13_1).toNat) = some (.slice A173_0 (rd_L1 y170 x13_1).length c173_0) ∧ w'.cell? (ad173.add (x14_2).toNat) = some (.slice A174_0 (rd_L1 y170 x14_2).length c174_0)) (ds := []) #[false,false,false,false,false,false,false,false,false,false,false,false,false,false,false,false,false,false,false,false,false,false,false,false,false,false,false,false,false,false,false,false,false,false,false,false,false,false,false,false] (by kernel_rfl) rfl rfl ⟨hx173_0,hx174_0,hx176_0,hx177_0,hx179_0,hx180_0,hx182_0,hx183_0⟩ (fun hHeld => ?_); refine with_tabW collatorlaw07_AlikeTells.tab9 collatorlaw07_AlikeTells.bits9 (fun HT_ HW_ => ?_)
                generalize wr.drew = w40 at HO_12 HB HL173_0 HL174_0 HL176_0 HL177_0 HL179_0 HL180_0 HL182_0 HL183_0 HR173_0 HR174_0 HR176_0 HR177_0 HR179_0 HR180_0 HR182_0 HR183_0 hx173_0 hx174_0 hx176_0 hx177_0 hx179_0 hx180_0 hx182_0 hx183_0 hHeld ⊢
                refine pure_ (i := 0) (N := some 49) (v:=?_) (a':=?_) #[true,false,false,false,false,false,false,false,false,false,false,false,false,false,false,false,false,false,false,false,false,false,false,false,false,false,false,false,false,false,false,false,false,false,false,false,false,false,false,false] rfl rfl (any_of HT_.out (by kernel_rfl)) (fun _ _ _ h=>h) (Or.inl ⟨by rfl,?_⟩) ?_ ?_
                rotate_left
                ·intro w'
                 go_simp
                 with_reducible rfl
                rotate_left
                ·simp only [Act.put,sA,sB,sC,i64_w,i32_w]
                 rfl
                refine pure_ (i := 1) (N := some 50) (v:=?_) (a':=?_) #[true,true,false,false,false,false,false,false,false,false,false,false,false,false,false,false,false,false,false,false,false,false,false,false,false,false,false,false,false,false,false,false,false,false,false,false,false,false,false,false] rfl rfl (any_of HT_.out (by kernel_rfl)) (fun _ _ _ h=>h) (Or.inl ⟨by rfl,?_⟩) ?_ ?_
                rotate_left
                ·intro w'
                 go_simp
                 with_reducible rfl
                rotate_left
                ·simp only [Act.put,sA,sB,sC,i64_w,i32_w]
                 rfl
                refine pure_ (i := 2) (N := some 51) (v:=?_) (a':=?_) #[true,true,true,false,false,false,false,false,false,false,false,false,false,false,false,false,false,false,false,false,false,false,false,false,false,false,false,false,false,false,false,false,false,false,false,false,false,false,false,false] rfl rfl (any_of HT_.out (by kernel_rfl)) (fun _ _ _ h=>h) (Or.inl ⟨by rfl,?_⟩) ?_ ?_
                rotate_left
                ·intro w'
                 go_simp
                 with_reducible rfl
                rotate_left
                ·simp only [Act.put,sA,sB,sC,i64_w,i32_w]
                 rfl
                refine pure_ (i := 4) (N := some 53) (v:=?_) (a':=?_) #[true,true,true,false,true,false,false,false,false,false,false,false,false,false,false,false,false,false,false,false,false,false,false,false,false,false,false,false,false,false,false,false,false,false,false,false,false,false,false,false] rfl rfl (any_of HT_.out (by kernel_rfl)) (fun _ _ _ h=>h) (Or.inl ⟨by rfl,?_⟩) ?_ ?_
                rotate_left
                ·intro w'
                 go_simp
                 with_reducible rfl
                rotate_left
                ·simp only [Act.put,sA,sB,sC,i64_w,i32_w]
                 rfl
                refine pure_ (i := 5) (N := some 54) (v:=?_) (a':=?_) #[true,true,true,false,true,true,false,false,false,false,false,false,false,false,false,false,false,false,false,false,false,false,false,false,false,false,false,false,false,false,false,false,false,false,false,false,false,false,false,false] rfl rfl (any_of HT_.out (by kernel_rfl)) (fun _ _ _ h=>h) (Or.inl ⟨by rfl,?_⟩) ?_ ?_
                rotate_left
                ·intro w'
                 go_simp
                 with_reducible rfl
                rotate_left
                ·simp only [Act.put,sA,sB,sC,i64_w,i32_w]
                 rfl
                refine pure_ (i := 6) (N := some 55) (v:=?_) (a':=?_) #[true,true,true,false,true,true,true,false,false,false,false,false,false,false,false,false,false,false,false,false,false,false,false,false,false,false,false,false,false,false,false,false,false,false,false,false,false,false,false,false] rfl rfl (any_of HT_.out (by kernel_rfl)) (fun _ _ _ h=>h) (Or.inl ⟨by rfl,?_⟩) ?_ ?_
                rotate_left
                ·intro w'
                 go_simp
                 with_reducible rfl
                rotate_left
                ·simp only [Act.put,sA,sB,sC,i64_w,i32_w]
                 rfl
                refine pure_ (i := 9) (N := some 58) (v:=?_) (a':=?_) #[true,true,true,false,true,true,true,false,false,true,false,false,false,false,false,false,false,false,false,false,false,false,false,false,false,false,false,false,false,false,false,false,false,false,false,false,false,false,false,false] rfl rfl (any_of HT_.out (by kernel_rfl)) (fun _ _ _ h=>h) (Or.inl ⟨by rfl,?_⟩) ?_ ?_
                rotate_left
                ·intro w'
                 go_simp
                 with_reducible rfl
                rotate_left
                ·simp only [Act.put,sA,sB,sC,i64_w,i32_w]
                 rfl
                refine pure_ (i := 10) (N := some 59) (v:=?_) (a':=?_) #[true,true,true,false,true,true,true,false,false,true,true,false,false,false,false,false,false,false,false,false,false,false,false,false,false,false,false,false,false,false,false,false,false,false,false,false,false,false,false,false] rfl rfl (any_of HT_.out (by kernel_rfl)) (fun _ _ _ h=>h) (Or.inl ⟨by rfl,?_⟩) ?_ ?_
                rotate_left
                ·intro w'
                 go_simp
                 with_reducible rfl
                rotate_left
                ·simp only [Act.put,sA,sB,sC,i64_w,i32_w]
                 rfl
                refine pure_ (i := 11) (N := some 60) (v:=?_) (a':=?_) #[true,true,true,false,true,true,true,false,false,true,true,true,false,false,false,false,false,false,false,false,false,false,false,false,false,false,false,false,false,false,false,false,false,false,false,false,false,false,false,false] rfl rfl (any_of HT_.out (by kernel_rfl)) (fun _ _ _ h=>h) (Or.inl ⟨by rfl,?_⟩) ?_ ?_
                rotate_left
                ·intro w'
                 go_simp
                 with_reducible rfl
                rotate_left
                ·simp only [Act.put,sA,sB,sC,i64_w,i32_w]
                 rfl
                refine pure_ (i := 13) (N := some 62) (v:=?_) (a':=?_) #[true,true,true,false,true,true,true,false,false,true,true,true,false,true,false,false,false,false,false,false,false,false,false,false,false,false,false,false,false,false,false,false,false,false,false,false,false,false,false,false] rfl rfl (any_of HT_.out (by kernel_rfl)) (fun _ _ _ h=>h) (Or.inl ⟨by rfl,?_⟩) ?_ ?_
                rotate_left
                ·intro w'
                 go_simp
                 with_reducible rfl
                rotate_left
                ·simp only [Act.put,sA,sB,sC,i64_w,i32_w]
                 rfl
                refine pure_ (i := 14) (N := some 63) (v:=?_) (a':=?_) #[true,true,true,false,true,true,true,false,false,true,true,true,false,true,true,false,false,false,false,false,false,false,false,false,false,false,false,false,false,false,false,false,false,false,false,false,false,false,false,false] rfl rfl (any_of HT_.out (by kernel_rfl)) (fun _ _ _ h=>h) (Or.inl ⟨by rfl,?_⟩) ?_ ?_
                rotate_left
                ·intro w'
                 go_simp
                 with_reducible rfl
                rotate_left
                ·simp only [Act.put,sA,sB,sC,i64_w,i32_w]
                 rfl
                refine pure_ (i := 15) (N := some 64) (v:=?_) (a':=?_) #[true,true,true,false,true,true,true,false,false,true,true,true,false,true,true,true,false,false,false,false,false,false,false,false,false,false,false,false,false,false,false,false,false,false,false,false,false,false,false,false] rfl rfl (any_of HT_.out (by kernel_rfl)) (fun _ _ _ h=>h) (Or.inl ⟨by rfl,?_⟩) ?_ ?_
                rotate_left
                ·intro w'
                 go_simp
                 with_reducible rfl
                rotate_left
                ·simp only [Act.put,sA,sB,sC,i64_w,i32_w]
                 rfl
                refine take_ (i := 3) (N := some 52) (v:=?_) (a':=?_) #[true,true,true,true,true,true,true,false,false,true,true,true,false,true,true,true,false,false,false,false,false,false,false,false,false,false,false,false,false,false,false,false,false,false,false,false,false,false,false,false] rfl rfl (take_ofW HT_.out HW_.out (by kernel_rfl)) (fun _ _ _ h=>h) (Or.inl ⟨by rfl,?_⟩) hHeld ?_ ?_
                rotate_left
                ·rintro w' ⟨s0,s1,s2,s3,s4,s5,s6,s7⟩
                 go_simp
                 with_reducible rfl
                rotate_left
                ·simp only [Act.put,sA,sB,sC,i64_w,i32_w]
                 rfl
                refine take_ (i := 7) (N := some 56) (v:=?_) (a':=?_) #[true,true,true,true,true,true,true,true,false,true,true,true,false,true,true,true,false,false,false,false,false,false,false,false,false,false,false,false,false,false,false,false,false,false,false,false,false,false,false,false] rfl rfl (take_ofW HT_.out HW_.out (by kernel_rfl)) (fun _ _ _ h=>h) (Or.inl ⟨by rfl,?_⟩) hHeld ?_ ?_
                rotate_left
                ·rintro w' ⟨s0,s1,s2,s3,s4,s5,s6,s7⟩
                 go_simp
                 with_reducible rfl
                rotate_left
                ·simp only [Act.put,sA,sB,sC,i64_w,i32_w]
                 rfl
                refine take_ (i := 12) (N := some 61) (v:=?_) (a':=?_) #[true,true,true,true,true,true,true,true,false,true,true,true,true,true,true,true,false,false,false,false,false,false,false,false,false,false,false,false,false,false,false,false,false,false,false,false,false,false,false,false] rfl rfl (take_ofW HT_.out HW_.out (by kernel_rfl)) (fun _ _ _ h=>h) (Or.inl ⟨by rfl,?_⟩) hHeld ?_ ?_
                rotate_left
                ·rintro w' ⟨s0,s1,s2,s3,s4,s5,s6,s7⟩
                 go_simp
                 with_reducible rfl
                rotate_left
                ·simp only [Act.put,sA,sB,sC,i64_w,i32_w]
                 rfl
                refine take_ (i := 16) (N := some 65) (v:=?_) (a':=?_) #[true,true,true,true,true,true,true,true,false,true,true,true,true,true,true,true,true,false,false,false,false,false,false,false,false,false,false,false,false,false,false,false,false,false,false,false,false,false,false,false] rfl rfl (take_ofW HT_.out HW_.out (by kernel_rfl)) (fun _ _ _ h=>h) (Or.inl ⟨by rfl,?_⟩) hHeld ?_ ?_
                rotate_left
                ·rintro w' ⟨s0,s1,s2,s3,s4,s5,s6,s7⟩
                 go_simp
                 with_reducible rfl
                rotate_left
                ·simp only [Act.put,sA,sB,sC,i64_w,i32_w]
                 rfl
                refine one_ (i := 8) (N := some 57) #[true,true,true,true,true,true,true,true,true,true,true,true,true,true,true,true,true,false,false,false,false,false,false,false,false,false,false,false,false,false,false,false,false,false,false,false,false,false,false,false] rfl rfl (one_of HT_.out (by kernel_rfl)) (by decide) (fun K hK => ?_)
                refine goes_ Try.func19 (by kernel_rfl) rfl #[.slice A173_0 (rd_L1 y170 x13_1).length c173_0,.slice A174_0 (rd_L1 y170 x14_2).length c174_0] (by rfl) rfl rfl (by (try simp only [List.map_toArray,List.map_cons,List.map_nil]); first | done | rfl | (simp only [List.length_drop,List.length_take]; rfl)) ?_
                with_reducible refine (alike_Common.calls _ _ (rd_L1 y170 x13_1) _ _ (rd_L1 y170 x14_2) t175 _ ?side1 ?side2 ?side3 ?side4 A34.out).mono ?_
                (case side1 => repeat (first | exact (by repeat (first | (with_reducible exact HR173_0.out) | (with_reducible refine Kd.C_alloc ?_ _) | (with_reducible refine Kd.C_drewN ?_ _) | (with_reducible refine Kd.C_drew ?_) | exact HR173_0.out)) | (with_reducible refine Kd.C_alloc ?_ _) | (with_reducible refine Kd.C_drewN ?_ _) | (with_reducible refine Kd.C_drew ?_)))
                (case side2 => exact HC173_0.out)
                (case side3 => repeat (first | exact (by repeat (first | (with_reducible exact HR174_0.out) | (with_reducible refine Kd.C_alloc ?_ _) | (with_reducible refine Kd.C_drewN ?_ _) | (with_reducible refine Kd.C_drew ?_) | exact HR174_0.out)) | (with_reducible refine Kd.C_alloc ?_ _) | (with_reducible refine Kd.C_drewN ?_ _) | (with_reducible refine Kd.C_drew ?_)))
                (case side4 => exact HC174_0.out)
                rintro e w41 ⟨rfl,hb⟩
                have HS0_ := (hb.cell (World.block_lt_of_cell? _ _ (hHeld.1))).trans (hHeld.1)
                have HS1_ := (hb.cell (World.block_lt_of_cell? _ _ (hHeld.2.1))).trans (hHeld.2.1)
                have HS2_ := (hb.cell (World.block_lt_of_cell? _ _ (hHeld.2.2.1))).trans (hHeld.2.2.1)
                have HS3_ := (hb.cell (World.block_lt_of_cell? _ _ (hHeld.2.2.2.1))).trans (hHeld.2.2.2.1)
                have HS4_ := (hb.cell (World.block_lt_of_cell? _ _ (hHeld.2.2.2.2.1))).trans (hHeld.2.2.2.2.1)
                have HS5_ := (hb.cell (World.block_lt_of_cell? _ _ (hHeld.2.2.2.2.2.1))).trans (hHeld.2.2.2.2.2.1)
                have HS6_ := (hb.cell (World.block_lt_of_cell? _ _ (hHeld.2.2.2.2.2.2.1))).trans (hHeld.2.2.2.2.2.2.1)
                have HS7_ := (hb.cell (World.block_lt_of_cell? _ _ (hHeld.2.2.2.2.2.2.2))).trans (hHeld.2.2.2.2.2.2.2)
                refine ⟨_,rfl,?_⟩
                have n0_ := Aside0.mk (Kd.N_below (by (with_reducible repeat (first | apply Kd.N_alloc | apply Kd.N_drewN | apply Kd.N_drew)); exact HO_12.out) hb)
                have n1_ := Aside0.mk (Kd.V_below (by (with_reducible repeat (first | apply Kd.V_alloc | apply Kd.V_drewN | apply Kd.V_drew)); exact HL173_0.out) hb)
                have n2_ := Aside0.mk (Kd.V_below (by (with_reducible repeat (first | apply Kd.V_alloc | apply Kd.V_drewN | apply Kd.V_drew)); exact HL174_0.out) hb)
                have n3_ := Aside0.mk (Kd.V_below (by (with_reducible repeat (first | apply Kd.V_alloc | apply Kd.V_drewN | apply Kd.V_drew)); exact HL176_0.out) hb)
                have n4_ := Aside0.mk (Kd.V_below (by (with_reducible repeat (first | apply Kd.V_alloc | apply Kd.V_drewN | apply Kd.V_drew)); exact HL177_0.out) hb)
                have n5_ := Aside0.mk (Kd.C_below (by repeat (first | (with_reducible exact HR173_0.out) | (with_reducible refine Kd.C_alloc ?_ _) | (with_reducible refine Kd.C_drewN ?_ _) | (with_reducible refine Kd.C_drew ?_) | exact HR173_0.out)) hb)
                have n6_ := Aside0.mk (Kd.C_below (by repeat (first | (with_reducible exact HR174_0.out) | (with_reducible refine Kd.C_alloc ?_ _) | (with_reducible refine Kd.C_drewN ?_ _) | (with_reducible refine Kd.C_drew ?_) | exact HR174_0.out)) hb)
                have n7_ := Aside0.mk (Kd.C_below (by repeat (first | (with_reducible exact HR176_0.out) | (with_reducible refine Kd.C_alloc ?_ _) | (with_reducible refine Kd.C_drewN ?_ _) | (with_reducible refine Kd.C_drew ?_) | exact HR176_0.out)) hb)
                have n8_ := Aside0.mk (Kd.C_below (by repeat (first | (with_reducible exact HR177_0.out) | (with_reducible refine Kd.C_alloc ?_ _) | (with_reducible refine Kd.C_drewN ?_ _) | (with_reducible refine Kd.C_drew ?_) | exact HR177_0.out)) hb)
                have n9_ := Aside0.mk (below_step (by repeat (first | (with_reducible first | exact HB.out | apply below_alloc | apply pw_below_drewN | apply below_drew1) | exact HB.out)) hb)
                clear HO_12
                clear HL173_0
                clear HL174_0
                clear HL176_0
                clear HL177_0
                clear HR173_0
                clear HR174_0
                clear HR176_0
                clear HR177_0
                clear HB
                have HO_12 := n0_
                have HL173_0 := n1_
                have HL174_0 := n2_
                have HL176_0 := n3_
                have HL177_0 := n4_
                have HR173_0 := n5_
                have HR174_0 := n6_
                have HR176_0 := n7_
                have HR177_0 := n8_
                have HB := n9_
                clear n0_ n1_ n2_ n3_ n4_ n5_ n6_ n7_ n8_ n9_
                have HR179_0 := HR173_0
                have HL179_0 := HL173_0
                have HR180_0 := HR174_0
                have HL180_0 := HL174_0
                have HR182_0 := HR173_0
                have HL182_0 := HL173_0
                have HR183_0 := HR174_0
                have HL183_0 := HL174_0
                (try clear hb)
                (try clear hb2)
                (try clear hk)
                (try clear hi)
                refine hK.out _ _ ⟨HS0_,HS1_,HS2_,HS3_,HS4_,HS5_,HS6_,HS7_⟩ (fun hHeld => ?_)
                clear hK K
                refine norm_ (a' := ?_) ?_ ?_
                rotate_left
                ·show Act.put _ (some 57) _ = _
                 simp only [Act.put,sA,sB,sC,i64_w,i32_w]
                 rfl
                refine one_ (i := 17) (N := some 66) #[true,true,true,true,true,true,true,true,true,true,true,true,true,true,true,true,true,true,false,false,false,false,false,false,false,false,false,false,false,false,false,false,false,false,false,false,false,false,false,false] rfl rfl (one_of HT_.out (by kernel_rfl)) (by decide) (fun K hK => ?_)
                refine goes_ Try.func20 (by kernel_rfl) rfl #[.slice A173_0 (rd_L1 y170 x13_1).length c173_0,.slice A174_0 (rd_L1 y170 x14_2).length c174_0] (by rfl) rfl rfl (by (try simp only [List.map_toArray,List.map_cons,List.map_nil]); first | done | rfl | (simp only [List.length_drop,List.length_take]; rfl)) ?_
                with_reducible refine (collatorref07_Common.calls k2 _ _ (rd_L1 y170 x13_1) _ _ (rd_L1 y170 x14_2) t178 _ ?side1 ?side2 ?side3 ?side4 A35.out).mono ?_
                (case side1 => repeat (first | exact (by repeat (first | (with_reducible exact HR176_0.out) | (with_reducible refine Kd.C_alloc ?_ _) | (with_reducible refine Kd.C_drewN ?_ _) | (with_reducible refine Kd.C_drew ?_) | exact HR176_0.out)) | (with_reducible refine Kd.C_alloc ?_ _) | (with_reducible refine Kd.C_drewN ?_ _) | (with_reducible refine Kd.C_drew ?_)))
                (case side2 => exact HC176_0.out)
                (case side3 => repeat (first | exact (by repeat (first | (with_reducible exact HR177_0.out) | (with_reducible refine Kd.C_alloc ?_ _) | (with_reducible refine Kd.C_drewN ?_ _) | (with_reducible refine Kd.C_drew ?_) | exact HR177_0.out)) | (with_reducible refine Kd.C_alloc ?_ _) | (with_reducible refine Kd.C_drewN ?_ _) | (with_reducible refine Kd.C_drew ?_)))
                (case side4 => exact HC177_0.out)
                rintro e w' ⟨rfl,⟨nd,rfl⟩⟩
                refine ⟨_,rfl,?_⟩
                refine hK.out _ _ ⟨hHeld.1,hHeld.2.1,hHeld.2.2.1,hHeld.2.2.2.1,hHeld.2.2.2.2.1,hHeld.2.2.2.2.2.1,hHeld.2.2.2.2.2.2.1,hHeld.2.2.2.2.2.2.2⟩ (fun hHeld => ?_)
                clear hK K
                refine norm_ (a' := ?_) ?_ ?_
                rotate_left
                ·show Act.put _ (some 66) _ = _
                 simp only [Act.put,sA,sB,sC,i64_w,i32_w]
                 rfl
                refine pure_ (i := 18) (N := some 67) (v:=?_) (a':=?_) #[true,true,true,true,true,true,true,true,true,true,true,true,true,true,true,true,true,true,true,false,false,false,false,false,false,false,false,false,false,false,false,false,false,false,false,false,false,false,false,false] rfl rfl (any_of HT_.out (by kernel_rfl)) (fun _ _ _ h=>h) (Or.inl ⟨by rfl,?_⟩) ?_ ?_
                rotate_left
                ·intro w'
                 go_simp
                 with_reducible rfl
                rotate_left
                ·simp only [Act.put,sA,sB,sC,i64_w,i32_w]
                 rfl
                refine pure_ (i := 19) (N := some 68) (v:=?_) (a':=?_) #[true,true,true,true,true,true,true,true,true,true,true,true,true,true,true,true,true,true,true,true,false,false,false,false,false,false,false,false,false,false,false,false,false,false,false,false,false,false,false,false] rfl rfl (any_of HT_.out (by kernel_rfl)) (fun _ _ _ h=>h) (Or.inl ⟨by rfl,?_⟩) ?_ ?_
                rotate_left
                ·intro w'
                 go_simp
                 with_reducible rfl
                rotate_left
                ·simp only [Act.put,sA,sB,sC,i64_w,i32_w]
                 rfl
                refine pure_ (i := 20) (N := some 69) (v:=?_) (a':=?_) #[true,true,true,true,true,true,true,true,true,true,true,true,true,true,true,true,true,true,true,true,true,false,false,false,false,false,false,false,false,false,false,false,false,false,false,false,false,false,false,false] rfl rfl (any_of HT_.out (by kernel_rfl)) (fun _ _ _ h=>h) (Or.inl ⟨by rfl,?_⟩) ?_ ?_
                rotate_left
                ·intro w'
                 go_simp
                 with_reducible rfl
                rotate_left
                ·simp only [Act.put,sA,sB,sC,i64_w,i32_w]
                 rfl
                refine pure_ (i := 21) (N := some 70) (v:=?_) (a':=?_) #[true,true,true,true,true,true,true,true,true,true,true,true,true,true,true,true,true,true,true,true,true,true,false,false,false,false,false,false,false,false,false,false,false,false,false,false,false,false,false,false] rfl rfl (any_of HT_.out (by kernel_rfl)) (fun _ _ _ h=>h) (Or.inl ⟨by rfl,?_⟩) ?_ ?_
                rotate_left
                ·intro w'
                 go_simp
                 with_reducible rfl
                rotate_left
                ·simp only [Act.put,sA,sB,sC,i64_w,i32_w]
                 rfl
                refine pure_ (i := 22) (N := some 71) (v:=?_) (a':=?_) #[true,true,true,true,true,true,true,true,true,true,true,true,true,true,true,true,true,true,true,true,true,true,true,false,false,false,false,false,false,false,false,false,false,false,false,false,false,false,false,false] rfl rfl (any_of HT_.out (by kernel_rfl)) (fun _ _ _ h=>h) (Or.inl ⟨by rfl,?_⟩) ?_ ?_
                rotate_left
                ·intro w'
                 go_simp
                 with_reducible rfl
                rotate_left
                ·simp only [Act.put,sA,sB,sC,i64_w,i32_w]
                 rfl
                refine pure_ (i := 24) (N := some 73) (v:=?_) (a':=?_) #[true,true,true,true,true,true,true,true,true,true,true,true,true,true,true,true,true,true,true,true,true,true,true,false,true,false,false,false,false,false,false,false,false,false,false,false,false,false,false,false] rfl rfl (any_of HT_.out (by kernel_rfl)) (fun _ _ _ h=>h) (Or.inl ⟨by rfl,?_⟩) ?_ ?_
                rotate_left
                ·intro w'
                 go_simp
                 with_reducible rfl
                rotate_left
                ·simp only [Act.put,sA,sB,sC,i64_w,i32_w]
                 rfl
                refine pure_ (i := 25) (N := some 74) (v:=?_) (a':=?_) #[true,true,true,true,true,true,true,true,true,true,true,true,true,true,true,true,true,true,true,true,true,true,true,false,true,true,false,false,false,false,false,false,false,false,false,false,false,false,false,false] rfl rfl (any_of HT_.out (by kernel_rfl)) (fun _ _ _ h=>h) (Or.inl ⟨by rfl,?_⟩) ?_ ?_
                rotate_left
                ·intro w'
                 go_simp
                 with_reducible rfl
                rotate_left
                ·simp only [Act.put,sA,sB,sC,i64_w,i32_w]
                 rfl
                refine pure_ (i := 26) (N := some 75) (v:=?_) (a':=?_) #[true,true,true,true,true,true,true,true,true,true,true,true,true,true,true,true,true,true,true,true,true,true,true,false,true,true,true,false,false,false,false,false,false,false,false,false,false,false,false,false] rfl rfl (any_of HT_.out (by kernel_rfl)) (fun _ _ _ h=>h) (Or.inl ⟨by rfl,?_⟩) ?_ ?_
                rotate_left
                ·intro w'
                 go_simp
                 with_reducible rfl
                rotate_left
                ·simp only [Act.put,sA,sB,sC,i64_w,i32_w]
                 rfl
                refine pure_ (i := 29) (N := some 78) (v:=?_) (a':=?_) #[true,true,true,true,true,true,true,true,true,true,true,true,true,true,true,true,true,true,true,true,true,true,true,false,true,true,true,false,false,true,false,false,false,false,false,false,false,false,false,false] rfl rfl (any_of HT_.out (by kernel_rfl)) (fun _ _ _ h=>h) (Or.inl ⟨by rfl,?_⟩) ?_ ?_
                rotate_left
                ·intro w'
                 go_simp
                 with_reducible rfl
                rotate_left
                ·simp only [Act.put,sA,sB,sC,i64_w,i32_w]
                 rfl
                refine pure_ (i := 30) (N := some 79) (v:=?_) (a':=?_) #[true,true,true,true,true,true,true,true,true,true,true,true,true,true,true,true,true,true,true,true,true,true,true,false,true,true,true,false,false,true,true,false,false,false,false,false,false,false,false,false] rfl rfl (any_of HT_.out (by kernel_rfl)) (fun _ _ _ h=>h) (Or.inl ⟨by rfl,?_⟩) ?_ ?_
                rotate_left
                ·intro w'
                 go_simp
                 with_reducible rfl
                rotate_left
                ·simp only [Act.put,sA,sB,sC,i64_w,i32_w]
                 rfl
                refine pure_ (i := 31) (N := some 80) (v:=?_) (a':=?_) #[true,true,true,true,true,true,true,true,true,true,true,true,true,true,true,true,true,true,true,true,true,true,true,false,true,true,true,false,false,true,true,true,false,false,false,false,false,false,false,false] rfl rfl (any_of HT_.out (by kernel_rfl)) (fun _ _ _ h=>h) (Or.inl ⟨by rfl,?_⟩) ?_ ?_
                rotate_left
                ·intro w'
                 go_simp
                 with_reducible rfl
                rotate_left
                ·simp only [Act.put,sA,sB,sC,i64_w,i32_w]
                 rfl
                refine pure_ (i := 33) (N := some 82) (v:=?_) (a':=?_) #[true,true,true,true,true,true,true,true,true,true,true,true,true,true,true,true,true,true,true,true,true,true,true,false,true,true,true,false,false,true,true,true,false,true,false,false,false,false,false,false] rfl rfl (any_of HT_.out (by kernel_rfl)) (fun _ _ _ h=>h) (Or.inl ⟨by rfl,?_⟩) ?_ ?_
                rotate_left
                ·intro w'
                 go_simp
                 with_reducible rfl
                rotate_left
                ·simp only [Act.put,sA,sB,sC,i64_w,i32_w]
                 rfl
                refine pure_ (i := 34) (N := some 83) (v:=?_) (a':=?_) #[true,true,true,true,true,true,true,true,true,true,true,true,true,true,true,true,true,true,true,true,true,true,true,false,true,true,true,false,false,true,true,true,false,true,true,false,false,false,false,false] rfl rfl (any_of HT_.out (by kernel_rfl)) (fun _ _ _ h=>h) (Or.inl ⟨by rfl,?_⟩) ?_ ?_
                rotate_left
                ·intro w'
                 go_simp
                 with_reducible rfl
                rotate_left
                ·simp only [Act.put,sA,sB,sC,i64_w,i32_w]
                 rfl
                refine pure_ (i := 35) (N := some 84) (v:=?_) (a':=?_) #[true,true,true,true,true,true,true,true,true,true,true,true,true,true,true,true,true,true,true,true,true,true,true,false,true,true,true,false,false,true,true,true,false,true,true,true,false,false,false,false] rfl rfl (any_of HT_.out (by kernel_rfl)) (fun _ _ _ h=>h) (Or.inl ⟨by rfl,?_⟩) ?_ ?_
                rotate_left
                ·intro w'
                 go_simp
                 with_reducible rfl
                rotate_left
                ·simp only [Act.put,sA,sB,sC,i64_w,i32_w]
                 rfl
                refine take_ (i := 23) (N := some 72) (v:=?_) (a':=?_) #[true,true,true,true,true,true,true,true,true,true,true,true,true,true,true,true,true,true,true,true,true,true,true,true,true,true,true,false,false,true,true,true,false,true,true,true,false,false,false,false] rfl rfl (take_ofW HT_.out HW_.out (by kernel_rfl)) (fun _ _ _ h=>h) (Or.inl ⟨by rfl,?_⟩) hHeld ?_ ?_
                rotate_left
                ·rintro w' ⟨s0,s1,s2,s3,s4,s5,s6,s7⟩
                 go_simp
                 with_reducible rfl
                rotate_left
                ·simp only [Act.put,sA,sB,sC,i64_w,i32_w]
                 rfl
                refine take_ (i := 27) (N := some 76) (v:=?_) (a':=?_) #[true,true,true,true,true,true,true,true,true,true,true,true,true,true,true,true,true,true,true,true,true,true,true,true,true,true,true,true,false,true,true,true,false,true,true,true,false,false,false,false] rfl rfl (take_ofW HT_.out HW_.out (by kernel_rfl)) (fun _ _ _ h=>h) (Or.inl ⟨by rfl,?_⟩) hHeld ?_ ?_
                rotate_left
                ·rintro w' ⟨s0,s1,s2,s3,s4,s5,s6,s7⟩
                 go_simp
                 with_reducible rfl
                rotate_left
                ·simp only [Act.put,sA,sB,sC,i64_w,i32_w]
                 rfl
                refine take_ (i := 32) (N := some 81) (v:=?_) (a':=?_) #[true,true,true,true,true,true,true,true,true,true,true,true,true,true,true,true,true,true,true,true,true,true,true,true,true,true,true,true,false,true,true,true,true,true,true,true,false,false,false,false] rfl rfl (take_ofW HT_.out HW_.out (by kernel_rfl)) (fun _ _ _ h=>h) (Or.inl ⟨by rfl,?_⟩) hHeld ?_ ?_
                rotate_left
                ·rintro w' ⟨s0,s1,s2,s3,s4,s5,s6,s7⟩
                 go_simp
                 with_reducible rfl
                rotate_left
                ·simp only [Act.put,sA,sB,sC,i64_w,i32_w]
                 rfl
                refine take_ (i := 36) (N := some 85) (v:=?_) (a':=?_) #[true,true,true,true,true,true,true,true,true,true,true,true,true,true,true,true,true,true,true,true,true,true,true,true,true,true,true,true,false,true,true,true,true,true,true,true,true,false,false,false] rfl rfl (take_ofW HT_.out HW_.out (by kernel_rfl)) (fun _ _ _ h=>h) (Or.inl ⟨by rfl,?_⟩) hHeld ?_ ?_
                rotate_left
                ·rintro w' ⟨s0,s1,s2,s3,s4,s5,s6,s7⟩
                 go_simp
                 with_reducible rfl
                rotate_left
                ·simp only [Act.put,sA,sB,sC,i64_w,i32_w]
                 rfl
                refine one_ (i := 28) (N := some 77) #[true,true,true,true,true,true,true,true,true,true,true,true,true,true,true,true,true,true,true,true,true,true,true,true,true,true,true,true,true,true,true,true,true,true,true,true,true,false,false,false] rfl rfl (one_of HT_.out (by kernel_rfl)) (by decide) (fun K hK => ?_)
                refine goes_ Try.func21 (by kernel_rfl) rfl #[.slice A173_0 (rd_L1 y170 x13_1).length c173_0,.slice A174_0 (rd_L1 y170 x14_2).length c174_0] (by rfl) rfl rfl (by (try simp only [List.map_toArray,List.map_cons,List.map_nil]); first | done | rfl | (simp only [List.length_drop,List.length_take]; rfl)) ?_
                with_reducible refine (alike_Score.calls _ _ (rd_L1 y170 x13_1) _ _ (rd_L1 y170 x14_2) t181 _ ?side1 ?side2 ?side3 ?side4 A37.out).mono ?_
                (case side1 => repeat (first | exact (by repeat (first | (with_reducible exact HR179_0.out) | (with_reducible refine Kd.C_alloc ?_ _) | (with_reducible refine Kd.C_drewN ?_ _) | (with_reducible refine Kd.C_drew ?_) | exact HR179_0.out)) | (with_reducible refine Kd.C_alloc ?_ _) | (with_reducible refine Kd.C_drewN ?_ _) | (with_reducible refine Kd.C_drew ?_)))
                (case side2 => exact HC179_0.out)
                (case side3 => repeat (first | exact (by repeat (first | (with_reducible exact HR180_0.out) | (with_reducible refine Kd.C_alloc ?_ _) | (with_reducible refine Kd.C_drewN ?_ _) | (with_reducible refine Kd.C_drew ?_) | exact HR180_0.out)) | (with_reducible refine Kd.C_alloc ?_ _) | (with_reducible refine Kd.C_drewN ?_ _) | (with_reducible refine Kd.C_drew ?_)))
                (case side4 => exact HC180_0.out)
                rintro e w42 ⟨rfl,hb⟩
                have HS0_ := (hb.cell (World.block_lt_of_cell? _ _ (hHeld.1))).trans (hHeld.1)
                have HS1_ := (hb.cell (World.block_lt_of_cell? _ _ (hHeld.2.1))).trans (hHeld.2.1)
                have HS2_ := (hb.cell (World.block_lt_of_cell? _ _ (hHeld.2.2.1))).trans (hHeld.2.2.1)
                have HS3_ := (hb.cell (World.block_lt_of_cell? _ _ (hHeld.2.2.2.1))).trans (hHeld.2.2.2.1)
                have HS4_ := (hb.cell (World.block_lt_of_cell? _ _ (hHeld.2.2.2.2.1))).trans (hHeld.2.2.2.2.1)
                have HS5_ := (hb.cell (World.block_lt_of_cell? _ _ (hHeld.2.2.2.2.2.1))).trans (hHeld.2.2.2.2.2.1)
                have HS6_ := (hb.cell (World.block_lt_of_cell? _ _ (hHeld.2.2.2.2.2.2.1))).trans (hHeld.2.2.2.2.2.2.1)
                have HS7_ := (hb.cell (World.block_lt_of_cell? _ _ (hHeld.2.2.2.2.2.2.2))).trans (hHeld.2.2.2.2.2.2.2)
                refine ⟨_,rfl,?_⟩
                have n0_ := Aside0.mk (Kd.N_below (by (with_reducible repeat (first | apply Kd.N_alloc | apply Kd.N_drewN | apply Kd.N_drew)); exact HO_12.out) hb)
                have n1_ := Aside0.mk (Kd.V_below (by (with_reducible repeat (first | apply Kd.V_alloc | apply Kd.V_drewN | apply Kd.V_drew)); exact HL173_0.out) hb)
                have n2_ := Aside0.mk (Kd.V_below (by (with_reducible repeat (first | apply Kd.V_alloc | apply Kd.V_drewN | apply Kd.V_drew)); exact HL174_0.out) hb)
                have n3_ := Aside0.mk (Kd.V_below (by (with_reducible repeat (first | apply Kd.V_alloc | apply Kd.V_drewN | apply Kd.V_drew)); exact HL176_0.out) hb)
                have n4_ := Aside0.mk (Kd.V_below (by (with_reducible repeat (first | apply Kd.V_alloc | apply Kd.V_drewN | apply Kd.V_drew)); exact HL177_0.out) hb)
                have n5_ := Aside0.mk (Kd.V_below (by (with_reducible repeat (first | apply Kd.V_alloc | apply Kd.V_drewN | apply Kd.V_drew)); exact HL179_0.out) hb)
                have n6_ := Aside0.mk (Kd.V_below (by (with_reducible repeat (first | apply Kd.V_alloc | apply Kd.V_drewN | apply Kd.V_drew)); exact HL180_0.out) hb)
                have n7_ := Aside0.mk (Kd.C_below (Kd.C_drewN HR173_0.out _) hb)
                have n8_ := Aside0.mk (Kd.C_below (Kd.C_drewN HR174_0.out _) hb)
                have n9_ := Aside0.mk (Kd.C_below (Kd.C_drewN HR176_0.out _) hb)
                have n10_ := Aside0.mk (Kd.C_below (Kd.C_drewN HR177_0.out _) hb)
                have n11_ := Aside0.mk (Kd.C_below (Kd.C_drewN HR179_0.out _) hb)
                have n12_ := Aside0.mk (Kd.C_below (Kd.C_drewN HR180_0.out _) hb)
                have n13_ := Aside0.mk (below_step (by repeat (first | (with_reducible first | exact HB.out | apply below_alloc | apply pw_below_drewN | apply below_drew1) | exact HB.out)) hb)
                clear HO_12
                clear HL173_0
                clear HL174_0
                clear HL176_0
                clear HL177_0
                clear HL179_0
                clear HL180_0
                clear HR173_0
                clear HR174_0
                clear HR176_0
                clear HR177_0
                clear HR179_0
                clear HR180_0
                clear HB
                have HO_12 := n0_
                have HL173_0 := n1_
                have HL174_0 := n2_
                have HL176_0 := n3_
                have HL177_0 := n4_
                have HL179_0 := n5_
                have HL180_0 := n6_
                have HR173_0 := n7_
                have HR174_0 := n8_
                have HR176_0 := n9_
                have HR177_0 := n10_
                have HR179_0 := n11_
                have HR180_0 := n12_
                have HB := n13_
                clear n0_ n1_ n2_ n3_ n4_ n5_ n6_ n7_ n8_ n9_ n10_ n11_ n12_ n13_
                have HR182_0 := HR173_0
                have HL182_0 := HL173_0
                have HR183_0 := HR174_0
                have HL183_0 := HL174_0
                (try clear hb)
                (try clear hb2)
                (try clear hk)
                (try clear hi)
                refine hK.out _ _ ⟨HS0_,HS1_,HS2_,HS3_,HS4_,HS5_,HS6_,HS7_⟩ (fun hHeld => ?_)
                clear hK K
                refine norm_ (a' := ?_) ?_ ?_
                rotate_left
                ·show Act.put _ (some 77) _ = _
                 simp only [Act.put,sA,sB,sC,i64_w,i32_w]
                 rfl
                refine one_ (i := 37) (N := some 86) #[true,true,true,true,true,true,true,true,true,true,true,true,true,true,true,true,true,true,true,true,true,true,true,true,true,true,true,true,true,true,true,true,true,true,true,true,true,true,false,false] rfl rfl (one_of HT_.out (by kernel_rfl)) (by decide) (fun K hK => ?_)
                refine goes_ Try.func22 (by kernel_rfl) rfl #[.slice A173_0 (rd_L1 y170 x13_1).length c173_0,.slice A174_0 (rd_L1 y170 x14_2).length c174_0] (by rfl) rfl rfl (by (try simp only [List.map_toArray,List.map_cons,List.map_nil]); first | done | rfl | (simp only [List.length_drop,List.length_take]; rfl)) ?_
                with_reducible refine (collatorref07_Score.calls k2 _ _ (rd_L1 y170 x13_1) _ _ (rd_L1 y170 x14_2) t184 _ ?side1 ?side2 ?side3 ?side4 A38.out).mono ?_
                (case side1 => repeat (first | exact (by repeat (first | (with_reducible exact HR182_0.out) | (with_reducible refine Kd.C_alloc ?_ _) | (with_reducible refine Kd.C_drewN ?_ _) | (with_reducible refine Kd.C_drew ?_) | exact HR182_0.out)) | (with_reducible refine Kd.C_alloc ?_ _) | (with_reducible refine Kd.C_drewN ?_ _) | (with_reducible refine Kd.C_drew ?_)))
                (case side2 => exact HC182_0.out)
                (case side3 => repeat (first | exact (by repeat (first | (with_reducible exact HR183_0.out) | (with_reducible refine Kd.C_alloc ?_ _) | (with_reducible refine Kd.C_drewN ?_ _) | (with_reducible refine Kd.C_drew ?_) | exact HR183_0.out)) | (with_reducible refine Kd.C_alloc ?_ _) | (with_reducible refine Kd.C_drewN ?_ _) | (with_reducible refine Kd.C_drew ?_)))
                (case side4 => exact HC183_0.out)
                rintro e w' ⟨rfl,⟨nd,rfl⟩⟩
                refine ⟨_,rfl,?_⟩
                refine hK.out _ _ ⟨hHeld.1,hHeld.2.1,hHeld.2.2.1,hHeld.2.2.2.1,hHeld.2.2.2.2.1,hHeld.2.2.2.2.2.1,hHeld.2.2.2.2.2.2.1,hHeld.2.2.2.2.2.2.2⟩ (fun hHeld => ?_)
                clear hK K
                refine norm_ (a' := ?_) ?_ ?_
                rotate_left
                ·show Act.put _ (some 86) _ = _
                 simp only [Act.put,sA,sB,sC,i64_w,i32_w]
                 rfl
                refine pure_ (i := 38) (N := some 87) (v:=?_) (a':=?_) #[true,true,true,true,true,true,true,true,true,true,true,true,true,true,true,true,true,true,true,true,true,true,true,true,true,true,true,true,true,true,true,true,true,true,true,true,true,true,true,false] rfl rfl (any_of HT_.out (by kernel_rfl)) (fun _ _ _ h=>h) (Or.inl ⟨by rfl,?_⟩) ?_ ?_
                rotate_left
                ·intro w'
                 go_simp
                 with_reducible rfl
                rotate_left
                ·simp only [Act.put,sA,sB,sC,i64_w,i32_w]
                 rfl
                refine pure_ (i := 39) (N := some 88) (v:=?_) (a':=?_) #[true,true,true,true,true,true,true,true,true,true,true,true,true,true,true,true,true,true,true,true,true,true,true,true,true,true,true,true,true,true,true,true,true,true,true,true,true,true,true,true] rfl rfl (any_of HT_.out (by kernel_rfl)) (fun _ _ _ h=>h) (Or.inl ⟨by rfl,?_⟩) ?_ ?_
                rotate_left
                ·intro w'
                 go_simp
                 with_reducible rfl
                rotate_left
                ·simp only [Act.put,sA,sB,sC,i64_w,i32_w]
                 rfl
                refine done_ (done_of HT_.out (by kernel_rfl)) ?_
                try go_wp2
                go_roundg k2
                case measure => have := HK1.out; have := HK2.out; omega
                case rel => exact ⟨(wrap64 (x14_2 + 1)),(by first | rfl | (simp; done) | (simp [*]; done)),H',⟨by have := HK1.out; have := HK2.out; omega⟩,⟨by (with_reducible repeat (first | apply Kd.N_alloc | apply Kd.N_drewN | apply Kd.N_drew)); exact HO_12.out⟩,⟨by repeat (first | (with_reducible first | exact HB.out | apply below_alloc | apply pw_below_drewN | apply below_drew1) | exact HB.out)⟩⟩
               ·rw [if_neg c39] at H
                have c39b0 : (t181 == t184) = false := beq_eq_false_iff_ne.mpr c39
                have c39b1 : (t181 != t184) = true := bne_iff_ne.mpr c39
                obtain rfl := Option.some.inj H
                try go_wp2
                have n0_ := Aside0.mk (Kd.N_drew HO_12.out)
                have n1_ := Aside0.mk (below_drew1 HB.out)
                clear HO_12
                clear HB
                have HO_12 := n0_
                have HB := n1_
                clear n0_ n1_
                have p173 : 0 ≤ (x13_1 : Int) := of_decide_eq_true (by first | (with_reducible assumption) | assumption)
                have q173 : x13_1 < (y170.length : Int) := of_decide_eq_true (by first | (with_reducible assumption) | assumption)
                obtain ⟨ad173,A173_0,c173_0,e173,hx173_0,hl173_0,hi173_0⟩ := at_L1 (Kd.N_reads' HO_12.out).2.2 x13_1 p173 q173
                cases e173
                obtain ⟨ce173,hce173,hMe173,hcc173⟩ := Kd.N_get HO_12.out [] x13_1 p173 (by first | exact q173 | exact of_decide_eq_true (by first | (with_reducible assumption) | assumption) | (have e_ := (Kd.N_reads' HO_12.out).1; omega))
                obtain ⟨ua173_0,uc173_0,rfl,ul173_0,ge173_0⟩ := Kd.FK_slice_open hMe173
                have hv173_0 := hcc173 0 _ rfl
                rw [Nat.add_zero,show ((Kd.slice 9 Kd.string)).sz = 1 from rfl,Nat.mul_one] at hv173_0
                replace hv173_0 := Option.some.inj (hv173_0.symm.trans hx173_0)
                injection hv173_0 with hva_ hvn_ hvc_
                rw [hva_] at ge173_0
                rw [hvc_] at ul173_0
                have HL173_0 := Aside0.mk (show Kd.V Kd.string 9 _ w.heap.size _ _ (rd_L1 y170 x13_1) from Kd.V_mk ul173_0 ge173_0)
                clear hva_ hvn_ hvc_ ge173_0 ul173_0
                clear hcc173 hce173
                have HR173_0 := Aside0.mk hi173_0
                have HC173_0 := Aside0.mk hl173_0
                clear hi173_0 hl173_0
                replace p173 := eq_true p173
                replace q173 := eq_true q173
                have p174 : 0 ≤ (x14_2 : Int) := of_decide_eq_true (by first | (with_reducible assumption) | assumption)
                have q174 : x14_2 < (y170.length : Int) := of_decide_eq_true (by first | (with_reducible assumption) | assumption)
                obtain ⟨ad174,A174_0,c174_0,e174,hx174_0,hl174_0,hi174_0⟩ := at_L1 (Kd.N_reads' HO_12.out).2.2 x14_2 p174 q174
                obtain rfl : ad173 = ad174 := (by injection e174)
                obtain ⟨ce174,hce174,hMe174,hcc174⟩ := Kd.N_get HO_12.out [] x14_2 p174 (by first | exact q174 | exact of_decide_eq_true (by first | (with_reducible assumption) | assumption) | (have e_ := (Kd.N_reads' HO_12.out).1; omega))
                obtain ⟨ua174_0,uc174_0,rfl,ul174_0,ge174_0⟩ := Kd.FK_slice_open hMe174
                have hv174_0 := hcc174 0 _ rfl
                rw [Nat.add_zero,show ((Kd.slice 9 Kd.string)).sz = 1 from rfl,Nat.mul_one] at hv174_0
                replace hv174_0 := Option.some.inj (hv174_0.symm.trans hx174_0)
                injection hv174_0 with hva_ hvn_ hvc_
                rw [hva_] at ge174_0
                rw [hvc_] at ul174_0
                have HL174_0 := Aside0.mk (show Kd.V Kd.string 9 _ w.heap.size _ _ (rd_L1 y170 x14_2) from Kd.V_mk ul174_0 ge174_0)
                clear hva_ hvn_ hvc_ ge174_0 ul174_0
                clear hcc174 hce174
                have HR174_0 := Aside0.mk hi174_0
                have HC174_0 := Aside0.mk hl174_0
                clear hi174_0 hl174_0
                replace p174 := eq_true p174
                replace q174 := eq_true q174
                have p176 : 0 ≤ (x13_1 : Int) := of_decide_eq_true (by first | (with_reducible assumption) | assumption)
                have q176 : x13_1 < (y170.length : Int) := of_decide_eq_true (by first | (with_reducible assumption) | assumption)
                obtain ⟨ad176,A176_0,c176_0,e176,hx176_0,hl176_0,hi176_0⟩ := at_L1 (Kd.N_reads' HO_12.out).2.2 x13_1 p176 q176
                obtain rfl : ad173 = ad176 := (by injection e176)
                obtain ⟨ce176,hce176,hMe176,hcc176⟩ := Kd.N_get HO_12.out [] x13_1 p176 (by first | exact q176 | exact of_decide_eq_true (by first | (with_reducible assumption) | assumption) | (have e_ := (Kd.N_reads' HO_12.out).1; omega))
                obtain ⟨ua176_0,uc176_0,rfl,ul176_0,ge176_0⟩ := Kd.FK_slice_open hMe176
                have hv176_0 := hcc176 0 _ rfl
                rw [Nat.add_zero,show ((Kd.slice 9 Kd.string)).sz = 1 from rfl,Nat.mul_one] at hv176_0
                replace hv176_0 := Option.some.inj (hv176_0.symm.trans hx176_0)
                injection hv176_0 with hva_ hvn_ hvc_
                rw [hva_] at ge176_0
                rw [hvc_] at ul176_0
                have HL176_0 := Aside0.mk (show Kd.V Kd.string 9 _ w.heap.size _ _ (rd_L1 y170 x13_1) from Kd.V_mk ul176_0 ge176_0)
                clear hva_ hvn_ hvc_ ge176_0 ul176_0
                clear hcc176 hce176
                have HR176_0 := Aside0.mk hi176_0
                have HC176_0 := Aside0.mk hl176_0
                clear hi176_0 hl176_0
                replace p176 := eq_true p176
                replace q176 := eq_true q176
                have ea_ := Option.some.inj (hx173_0.symm.trans hx176_0)
                injection ea_ with ea_ en_ ec_
                subst ea_
                subst ec_
                clear en_
                have p177 : 0 ≤ (x14_2 : Int) := of_decide_eq_true (by first | (with_reducible assumption) | assumption)
                have q177 : x14_2 < (y170.length : Int) := of_decide_eq_true (by first | (with_reducible assumption) | assumption)
                obtain ⟨ad177,A177_0,c177_0,e177,hx177_0,hl177_0,hi177_0⟩ := at_L1 (Kd.N_reads' HO_12.out).2.2 x14_2 p177 q177
                obtain rfl : ad173 = ad177 := (by injection e177)
                obtain ⟨ce177,hce177,hMe177,hcc177⟩ := Kd.N_get HO_12.out [] x14_2 p177 (by first | exact q177 | exact of_decide_eq_true (by first | (with_reducible assumption) | assumption) | (have e_ := (Kd.N_reads' HO_12.out).1; omega))
                obtain ⟨ua177_0,uc177_0,rfl,ul177_0,ge177_0⟩ := Kd.FK_slice_open hMe177
                have hv177_0 := hcc177 0 _ rfl
                rw [Nat.add_zero,show ((Kd.slice 9 Kd.string)).sz = 1 from rfl,Nat.mul_one] at hv177_0
                replace hv177_0 := Option.some.inj (hv177_0.symm.trans hx177_0)
                injection hv177_0 with hva_ hvn_ hvc_
                rw [hva_] at ge177_0
                rw [hvc_] at ul177_0
                have HL177_0 := Aside0.mk (show Kd.V Kd.string 9 _ w.heap.size _ _ (rd_L1 y170 x14_2) from Kd.V_mk ul177_0 ge177_0)
                clear hva_ hvn_ hvc_ ge177_0 ul177_0
                clear hcc177 hce177
                have HR177_0 := Aside0.mk hi177_0
                have HC177_0 := Aside0.mk hl177_0
                clear hi177_0 hl177_0
                replace p177 := eq_true p177
                replace q177 := eq_true q177
                have ea_ := Option.some.inj (hx174_0.symm.trans hx177_0)
                injection ea_ with ea_ en_ ec_
                subst ea_
                subst ec_
                clear en_
                have p179 : 0 ≤ (x13_1 : Int) := of_decide_eq_true (by first | (with_reducible assumption) | assumption)
                have q179 : x13_1 < (y170.length : Int) := of_decide_eq_true (by first | (with_reducible assumption) | assumption)
                obtain ⟨ad179,A179_0,c179_0,e179,hx179_0,hl179_0,hi179_0⟩ := at_L1 (Kd.N_reads' HO_12.out).2.2 x13_1 p179 q179
                obtain rfl : ad173 = ad179 := (by injection e179)
                obtain ⟨ce179,hce179,hMe179,hcc179⟩ := Kd.N_get HO_12.out [] x13_1 p179 (by first | exact q179 | exact of_decide_eq_true (by first | (with_reducible assumption) | assumption) | (have e_ := (Kd.N_reads' HO_12.out).1; omega))
                obtain ⟨ua179_0,uc179_0,rfl,ul179_0,ge179_0⟩ := Kd.FK_slice_open hMe179
                have hv179_0 := hcc179 0 _ rfl
                rw [Nat.add_zero,show ((Kd.slice 9 Kd.string)).sz = 1 from rfl,Nat.mul_one] at hv179_0
                replace hv179_0 := Option.some.inj (hv179_0.symm.trans hx179_0)
                injection hv179_0 with hva_ hvn_ hvc_
                rw [hva_] at ge179_0
                rw [hvc_] at ul179_0
                have HL179_0 := Aside0.mk (show Kd.V Kd.string 9 _ w.heap.size _ _ (rd_L1 y170 x13_1) from Kd.V_mk ul179_0 ge179_0)
                clear hva_ hvn_ hvc_ ge179_0 ul179_0
                clear hcc179 hce179
                have HR179_0 := Aside0.mk hi179_0
                have HC179_0 := Aside0.mk hl179_0
                clear hi179_0 hl179_0
                replace p179 := eq_true p179
                replace q179 := eq_true q179
                have ea_ := Option.some.inj (hx173_0.symm.trans hx179_0)
                injection ea_ with ea_ en_ ec_
                subst ea_
                subst ec_
                clear en_
                have p180 : 0 ≤ (x14_2 : Int) := of_decide_eq_true (by first | (with_reducible assumption) | assumption)
                have q180 : x14_2 < (y170.length : Int) := of_decide_eq_true (by first | (with_reducible assumption) | assumption)
                obtain ⟨ad180,A180_0,c180_0,e180,hx180_0,hl180_0,hi180_0⟩ := at_L1 (Kd.N_reads' HO_12.out).2.2 x14_2 p180 q180
                obtain rfl : ad173 = ad180 := (by injection e180)
                obtain ⟨ce180,hce180,hMe180,hcc180⟩ := Kd.N_get HO_12.out [] x14_2 p180 (by first | exact q180 | exact of_decide_eq_true (by first | (with_reducible assumption) | assumption) | (have e_ := (Kd.N_reads' HO_12.out).1; omega))
                obtain ⟨ua180_0,uc180_0,rfl,ul180_0,ge180_0⟩ := Kd.FK_slice_open hMe180
                have hv180_0 := hcc180 0 _ rfl
                rw [Nat.add_zero,show ((Kd.slice 9 Kd.string)).sz = 1 from rfl,Nat.mul_one] at hv180_0
                replace hv180_0 := Option.some.inj (hv180_0.symm.trans hx180_0)
                injection hv180_0 with hva_ hvn_ hvc_
                rw [hva_] at ge180_0
                rw [hvc_] at ul180_0
                have HL180_0 := Aside0.mk (show Kd.V Kd.string 9 _ w.heap.size _ _ (rd_L1 y170 x14_2) from Kd.V_mk ul180_0 ge180_0)
                clear hva_ hvn_ hvc_ ge180_0 ul180_0
                clear hcc180 hce180
                have HR180_0 := Aside0.mk hi180_0
                have HC180_0 := Aside0.mk hl180_0
                clear hi180_0 hl180_0
                replace p180 := eq_true p180
                replace q180 := eq_true q180
                have ea_ := Option.some.inj (hx174_0.symm.trans hx180_0)
                injection ea_ with ea_ en_ ec_
                subst ea_
                subst ec_
                clear en_
                have p182 : 0 ≤ (x13_1 : Int) := of_decide_eq_true (by first | (with_reducible assumption) | assumption)
                have q182 : x13_1 < (y170.length : Int) := of_decide_eq_true (by first | (with_reducible assumption) | assumption)
                obtain ⟨ad182,A182_0,c182_0,e182,hx182_0,hl182_0,hi182_0⟩ := at_L1 (Kd.N_reads' HO_12.out).2.2 x13_1 p182 q182
                obtain rfl : ad173 = ad182 := (by injection e182)
                obtain ⟨ce182,hce182,hMe182,hcc182⟩ := Kd.N_get HO_12.out [] x13_1 p182 (by first | exact q182 | exact of_decide_eq_true (by first | (with_reducible assumption) | assumption) | (have e_ := (Kd.N_reads' HO_12.out).1; omega))
                obtain ⟨ua182_0,uc182_0,rfl,ul182_0,ge182_0⟩ := Kd.FK_slice_open hMe182
                have hv182_0 := hcc182 0 _ rfl
                rw [Nat.add_zero,show ((Kd.slice 9 Kd.string)).sz = 1 from rfl,Nat.mul_one] at hv182_0
                replace hv182_0 := Option.some.inj (hv182_0.symm.trans hx182_0)
                injection hv182_0 with hva_ hvn_ hvc_
                rw [hva_] at ge182_0
                rw [hvc_] at ul182_0
                have HL182_0 := Aside0.mk (show Kd.V Kd.string 9 _ w.heap.size _ _ (rd_L1 y170 x13_1) from Kd.V_mk ul182_0 ge182_0)
                clear hva_ hvn_ hvc_ ge182_0 ul182_0
                clear hcc182 hce182
                have HR182_0 := Aside0.mk hi182_0
                have HC182_0 := Aside0.mk hl182_0
                clear hi182_0 hl182_0
                replace p182 := eq_true p182
                replace q182 := eq_true q182
                have ea_ := Option.some.inj (hx173_0.symm.trans hx182_0)
                injection ea_ with ea_ en_ ec_
                subst ea_
                subst ec_
                clear en_
                have p183 : 0 ≤ (x14_2 : Int) := of_decide_eq_true (by first | (with_reducible assumption) | assumption)
                have q183 : x14_2 < (y170.length : Int) := of_decide_eq_true (by first | (with_reducible assumption) | assumption)
                obtain ⟨ad183,A183_0,c183_0,e183,hx183_0,hl183_0,hi183_0⟩ := at_L1 (Kd.N_reads' HO_12.out).2.2 x14_2 p183 q183
                obtain rfl : ad173 = ad183 := (by injection e183)
                obtain ⟨ce183,hce183,hMe183,hcc183⟩ := Kd.N_get HO_12.out [] x14_2 p183 (by first | exact q183 | exact of_decide_eq_true (by first | (with_reducible assumption) | assumption) | (have e_ := (Kd.N_reads' HO_12.out).1; omega))
                obtain ⟨ua183_0,uc183_0,rfl,ul183_0,ge183_0⟩ := Kd.FK_slice_open hMe183
                have hv183_0 := hcc183 0 _ rfl
                rw [Nat.add_zero,show ((Kd.slice 9 Kd.string)).sz = 1 from rfl,Nat.mul_one] at hv183_0
                replace hv183_0 := Option.some.inj (hv183_0.symm.trans hx183_0)
                injection hv183_0 with hva_ hvn_ hvc_
                rw [hva_] at ge183_0
                rw [hvc_] at ul183_0
                have HL183_0 := Aside0.mk (show Kd.V Kd.string 9 _ w.heap.size _ _ (rd_L1 y170 x14_2) from Kd.V_mk ul183_0 ge183_0)
                clear hva_ hvn_ hvc_ ge183_0 ul183_0
                clear hcc183 hce183
                have HR183_0 := Aside0.mk hi183_0
                have HC183_0 := Aside0.mk hl183_0
                clear hi183_0 hl183_0
                replace p183 := eq_true p183
                replace q183 := eq_true q183
                have ea_ := Option.some.inj (hx174_0.symm.trans hx183_0)
                injection ea_ with ea_ en_ ec_
                subst ea_
                subst ec_
                clear en_
                refine start_ (n := 40) (S := fun w' => w'.cell? (ad173.add (x13_1).toNat) = some (.slice A173_0 (rd_L1 y170 x13_1).length c173_0) ∧ w'.cell? (ad173.add (x14_2).toNat) = some (.slice A174_0 (rd_L1 y170 x14_2).length c174_0) ∧ w'.cell? (ad173.add (x13_1).toNat) = some (.slice A173_0 (rd_L1 y170 x13_1).length c173_0) ∧ w'.cell? (ad173.add (x14_2).toNat) = some (.slice A174_0 (rd_L1 y170 x14_2).length c174_0) ∧ w'.cell? (ad173.add (x13_1).toNat) = some (.slice A173_0 (rd_L1 y170 x13_1).length c173_0) ∧ w'.cell? (ad173.add (x14_2).toNat) = some (.slice A174_0 (rd_L1 y170 x14_2).length c174_0) ∧ w'.cell? (ad173.add (x13_1).toNat) = some (.slice A173_0 (rd_L1 y170 x13_1).length c173_0) ∧ w'.cell? (ad173.add (x14_2).toNat) = some (.slice A174_0 (rd_L1 y170 x14_2).length c174_0)) (ds := []) #[false,false,false,false,false,false,false,false,false,false,false,false,false,false,false,false,false,false,false,false,false,false,false,false,false,false,false,false,false,false,false,false,false,false,false,false,false,false,false,false] (by kernel_rfl) rfl rfl ⟨hx173_0,hx174_0,hx176_0,hx177_0,hx179_0,hx180_0,hx182_0,hx183_0⟩ (fun hHeld => ?_); refine with_tabW collatorlaw07_AlikeTells.tab9 collatorlaw07_AlikeTells.bits9 (fun HT_ HW_ => ?_)
                generalize wr.drew = w43 at HO_12 HB HL173_0 HL174_0 HL176_0 HL177_0 HL179_0 HL180_0 HL182_0 HL183_0 HR173_0 HR174_0 HR176_0 HR177_0 HR179_0 HR180_0 HR182_0 HR183_0 hx173_0 hx174_0 hx176_0 hx177_0 hx179_0 hx180_0 hx182_0 hx183_0 hHeld ⊢
                refine pure_ (i := 0) (N := some 49) (v:=?_) (a':=?_) #[true,false,false,false,false,false,false,false,false,false,false,false,false,false,false,false,false,false,false,false,false,false,false,false,false,false,false,false,false,false,false,false,false,false,false,false,false,false,false,false] rfl rfl (any_of HT_.out (by kernel_rfl)) (fun _ _ _ h=>h) (Or.inl ⟨by rfl,?_⟩) ?_ ?_
                rotate_left
                ·intro w'
                 go_simp
                 with_reducible rfl
                rotate_left
                ·simp only [Act.put,sA,sB,sC,i64_w,i32_w]
                 rfl
                refine pure_ (i := 1) (N := some 50) (v:=?_) (a':=?_) #[true,true,false,false,false,false,false,false,false,false,false,false,false,false,false,false,false,false,false,false,false,false,false,false,false,false,false,false,false,false,false,false,false,false,false,false,false,false,false,false] rfl rfl (any_of HT_.out (by kernel_rfl)) (fun _ _ _ h=>h) (Or.inl ⟨by rfl,?_⟩) ?_ ?_
                rotate_left
                ·intro w'
                 go_simp
                 with_reducible rfl
                rotate_left
                ·simp only [Act.put,sA,sB,sC,i64_w,i32_w]
                 rfl
                refine pure_ (i := 2) (N := some 51) (v:=?_) (a':=?_) #[true,true,true,false,false,false,false,false,false,false,false,false,false,false,false,false,false,false,false,false,false,false,false,false,false,false,false,false,false,false,false,false,false,false,false,false,false,false,false,false] rfl rfl (any_of HT_.out (by kernel_rfl)) (fun _ _ _ h=>h) (Or.inl ⟨by rfl,?_⟩) ?_ ?_
                rotate_left
                ·intro w'
                 go_simp
                 with_reducible rfl
                rotate_left
                ·simp only [Act.put,sA,sB,sC,i64_w,i32_w]
                 rfl
                refine pure_ (i := 4) (N := some 53) (v:=?_) (a':=?_) #[true,true,true,false,true,false,false,false,false,false,false,false,false,false,false,false,false,false,false,false,false,false,false,false,false,false,false,false,false,false,false,false,false,false,false,false,false,false,false,false] rfl rfl (any_of HT_.out (by kernel_rfl)) (fun _ _ _ h=>h) (Or.inl ⟨by rfl,?_⟩) ?_ ?_
                rotate_left
                ·intro w'
                 go_simp
                 with_reducible rfl
                rotate_left
                ·simp only [Act.put,sA,sB,sC,i64_w,i32_w]
                 rfl
                refine pure_ (i := 5) (N := some 54) (v:=?_) (a':=?_) #[true,true,true,false,true,true,false,false,false,false,false,false,false,false,false,false,false,false,false,false,false,false,false,false,false,false,false,false,false,false,false,false,false,false,false,false,false,false,false,false] rfl rfl (any_of HT_.out (by kernel_rfl)) (fun _ _ _ h=>h) (Or.inl ⟨by rfl,?_⟩) ?_ ?_
                rotate_left
                ·intro w'
                 go_simp
                 with_reducible rfl
                rotate_left
                ·simp only [Act.put,sA,sB,sC,i64_w,i32_w]
                 rfl
                refine pure_ (i := 6) (N := some 55) (v:=?_) (a':=?_) #[true,true,true,false,true,true,true,false,false,false,false,false,false,false,false,false,false,false,false,false,false,false,false,false,false,false,false,false,false,false,false,false,false,false,false,false,false,false,false,false] rfl rfl (any_of HT_.out (by kernel_rfl)) (fun _ _ _ h=>h) (Or.inl ⟨by rfl,?_⟩) ?_ ?_
                rotate_left
                ·intro w'
                 go_simp
                 with_reducible rfl
                rotate_left
                ·simp only [Act.put,sA,sB,sC,i64_w,i32_w]
                 rfl
                refine pure_ (i := 9) (N := some 58) (v:=?_) (a':=?_) #[true,true,true,false,true,true,true,false,false,true,false,false,false,false,false,false,false,false,false,false,false,false,false,false,false,false,false,false,false,false,false,false,false,false,false,false,false,false,false,false] rfl rfl (any_of HT_.out (by kernel_rfl)) (fun _ _ _ h=>h) (Or.inl ⟨by rfl,?_⟩) ?_ ?_
                rotate_left
                ·intro w'
                 go_simp
                 with_reducible rfl
                rotate_left
                ·simp only [Act.put,sA,sB,sC,i64_w,i32_w]
                 rfl
                refine pure_ (i := 10) (N := some 59) (v:=?_) (a':=?_) #[true,true,true,false,true,true,true,false,false,true,true,false,false,false,false,false,false,false,false,false,false,false,false,false,false,false,false,false,false,false,false,false,false,false,false,false,false,false,false,false] rfl rfl (any_of HT_.out (by kernel_rfl)) (fun _ _ _ h=>h) (Or.inl ⟨by rfl,?_⟩) ?_ ?_
                rotate_left
                ·intro w'
                 go_simp
                 with_reducible rfl
                rotate_left
                ·simp only [Act.put,sA,sB,sC,i64_w,i32_w]
                 rfl
                refine pure_ (i := 11) (N := some 60) (v:=?_) (a':=?_) #[true,true,true,false,true,true,true,false,false,true,true,true,false,false,false,false,false,false,false,false,false,false,false,false,false,false,false,false,false,false,false,false,false,false,false,false,false,false,false,false] rfl rfl (any_of HT_.out (by kernel_rfl)) (fun _ _ _ h=>h) (Or.inl ⟨by rfl,?_⟩) ?_ ?_
                rotate_left
                ·intro w'
                 go_simp
                 with_reducible rfl
                rotate_left
                ·simp only [Act.put,sA,sB,sC,i64_w,i32_w]
                 rfl
                refine pure_ (i := 13) (N := some 62) (v:=?_) (a':=?_) #[true,true,true,false,true,true,true,false,false,true,true,true,false,true,false,false,false,false,false,false,false,false,false,false,false,false,false,false,false,false,false,false,false,false,false,false,false,false,false,false] rfl rfl (any_of HT_.out (by kernel_rfl)) (fun _ _ _ h=>h) (Or.inl ⟨by rfl,?_⟩) ?_ ?_
                rotate_left
                ·intro w'
                 go_simp
                 with_reducible rfl
                rotate_left
                ·simp only [Act.put,sA,sB,sC,i64_w,i32_w]
                 rfl
                refine pure_ (i := 14) (N := some 63) (v:=?_) (a':=?_) #[true,true,true,false,true,true,true,false,false,true,true,true,false,true,true,false,false,false,false,false,false,false,false,false,false,false,false,false,false,false,false,false,false,false,false,false,false,false,false,false] rfl rfl (any_of HT_.out (by kernel_rfl)) (fun _ _ _ h=>h) (Or.inl ⟨by rfl,?_⟩) ?_ ?_
                rotate_left
                ·intro w'
                 go_simp
                 with_reducible rfl
                rotate_left
                ·simp only [Act.put,sA,sB,sC,i64_w,i32_w]
                 rfl
                refine pure_ (i := 15) (N := some 64) (v:=?_) (a':=?_) #[true,true,true,false,true,true,true,false,false,true,true,true,false,true,true,true,false,false,false,false,false,false,false,false,false,false,false,false,false,false,false,false,false,false,false,false,false,false,false,false] rfl rfl (any_of HT_.out (by kernel_rfl)) (fun _ _ _ h=>h) (Or.inl ⟨by rfl,?_⟩) ?_ ?_
                rotate_left
                ·intro w'
                 go_simp
                 with_reducible rfl
                rotate_left
                ·simp only [Act.put,sA,sB,sC,i64_w,i32_w]
                 rfl
                refine take_ (i := 3) (N := some 52) (v:=?_) (a':=?_) #[true,true,true,true,true,true,true,false,false,true,true,true,false,true,true,true,false,false,false,false,false,false,false,false,false,false,false,false,false,false,false,false,false,false,false,false,false,false,false,false] rfl rfl (take_ofW HT_.out HW_.out (by kernel_rfl)) (fun _ _ _ h=>h) (Or.inl ⟨by rfl,?_⟩) hHeld ?_ ?_
                rotate_left
                ·rintro w' ⟨s0,s1,s2,s3,s4,s5,s6,s7⟩
                 go_simp
                 with_reducible rfl
                rotate_left
                ·simp only [Act.put,sA,sB,sC,i64_w,i32_w]
                 rfl
                refine take_ (i := 7) (N := some 56) (v:=?_) (a':=?_) #[true,true,true,true,true,true,true,true,false,true,true,true,false,true,true,true,false,false,false,false,false,false,false,false,false,false,false,false,false,false,false,false,false,false,false,false,false,false,false,false] rfl rfl (take_ofW HT_.out HW_.out (by kernel_rfl)) (fun _ _ _ h=>h) (Or.inl ⟨by rfl,?_⟩) hHeld ?_ ?_
                rotate_left
                ·rintro w' ⟨s0,s1,s2,s3,s4,s5,s6,s7⟩
                 go_simp
                 with_reducible rfl
                rotate_left
                ·simp only [Act.put,sA,sB,sC,i64_w,i32_w]
                 rfl
                refine take_ (i := 12) (N := some 61) (v:=?_) (a':=?_) #[true,true,true,true,true,true,true,true,false,true,true,true,true,true,true,true,false,false,false,false,false,false,false,false,false,false,false,false,false,false,false,false,false,false,false,false,false,false,false,false] rfl rfl (take_ofW HT_.out HW_.out (by kernel_rfl)) (fun _ _ _ h=>h) (Or.inl ⟨by rfl,?_⟩) hHeld ?_ ?_
                rotate_left
                ·rintro w' ⟨s0,s1,s2,s3,s4,s5,s6,s7⟩
                 go_simp
                 with_reducible rfl
                rotate_left
                ·simp only [Act.put,sA,sB,sC,i64_w,i32_w]
                 rfl
                refine take_ (i := 16) (N := some 65) (v:=?_) (a':=?_) #[true,true,true,true,true,true,true,true,false,true,true,true,true,true,true,true,true,false,false,false,false,false,false,false,false,false,false,false,false,false,false,false,false,false,false,false,false,false,false,false] rfl rfl (take_ofW HT_.out HW_.out (by kernel_rfl)) (fun _ _ _ h=>h) (Or.inl ⟨by rfl,?_⟩) hHeld ?_ ?_
                rotate_left
                ·rintro w' ⟨s0,s1,s2,s3,s4,s5,s6,s7⟩
                 go_simp
                 with_reducible rfl
                rotate_left
                ·simp only [Act.put,sA,sB,sC,i64_w,i32_w]
                 rfl
                refine one_ (i := 8) (N := some 57) #[true,true,true,true,true,true,true,true,true,true,true,true,true,true,true,true,true,false,false,false,false,false,false,false,false,false,false,false,false,false,false,false,false,false,false,false,false,false,false,false] rfl rfl (one_of HT_.out (by kernel_rfl)) (by decide) (fun K hK => ?_)
                refine goes_ Try.func19 (by kernel_rfl) rfl #[.slice A173_0 (rd_L1 y170 x13_1).length c173_0,.slice A174_0 (rd_L1 y170 x14_2).length c174_0] (by rfl) rfl rfl (by (try simp only [List.map_toArray,List.map_cons,List.map_nil]); first | done | rfl | (simp only [List.length_drop,List.length_take]; rfl)) ?_
                with_reducible refine (alike_Common.calls _ _ (rd_L1 y170 x13_1) _ _ (rd_L1 y170 x14_2) t175 _ ?side1 ?side2 ?side3 ?side4 A34.out).mono ?_
                (case side1 => repeat (first | exact (by repeat (first | (with_reducible exact HR173_0.out) | (with_reducible refine Kd.C_alloc ?_ _) | (with_reducible refine Kd.C_drewN ?_ _) | (with_reducible refine Kd.C_drew ?_) | exact HR173_0.out)) | (with_reducible refine Kd.C_alloc ?_ _) | (with_reducible refine Kd.C_drewN ?_ _) | (with_reducible refine Kd.C_drew ?_)))
                (case side2 => exact HC173_0.out)
                (case side3 => repeat (first | exact (by repeat (first | (with_reducible exact HR174_0.out) | (with_reducible refine Kd.C_alloc ?_ _) | (with_reducible refine Kd.C_drewN ?_ _) | (with_reducible refine Kd.C_drew ?_) | exact HR174_0.out)) | (with_reducible refine Kd.C_alloc ?_ _) | (with_reducible refine Kd.C_drewN ?_ _) | (with_reducible refine Kd.C_drew ?_)))
                (case side4 => exact HC174_0.out)
                rintro e w44 ⟨rfl,hb⟩
                have HS0_ := (hb.cell (World.block_lt_of_cell? _ _ (hHeld.1))).trans (hHeld.1)
                have HS1_ := (hb.cell (World.block_lt_of_cell? _ _ (hHeld.2.1))).trans (hHeld.2.1)
                have HS2_ := (hb.cell (World.block_lt_of_cell? _ _ (hHeld.2.2.1))).trans (hHeld.2.2.1)
                have HS3_ := (hb.cell (World.block_lt_of_cell? _ _ (hHeld.2.2.2.1))).trans (hHeld.2.2.2.1)
                have HS4_ := (hb.cell (World.block_lt_of_cell? _ _ (hHeld.2.2.2.2.1))).trans (hHeld.2.2.2.2.1)
                have HS5_ := (hb.cell (World.block_lt_of_cell? _ _ (hHeld.2.2.2.2.2.1))).trans (hHeld.2.2.2.2.2.1)
                have HS6_ := (hb.cell (World.block_lt_of_cell? _ _ (hHeld.2.2.2.2.2.2.1))).trans (hHeld.2.2.2.2.2.2.1)
                have HS7_ := (hb.cell (World.block_lt_of_cell? _ _ (hHeld.2.2.2.2.2.2.2))).trans (hHeld.2.2.2.2.2.2.2)
                refine ⟨_,rfl,?_⟩
                have n0_ := Aside0.mk (Kd.N_below (by (with_reducible repeat (first | apply Kd.N_alloc | apply Kd.N_drewN | apply Kd.N_drew)); exact HO_12.out) hb)
                have n1_ := Aside0.mk (Kd.V_below (by (with_reducible repeat (first | apply Kd.V_alloc | apply Kd.V_drewN | apply Kd.V_drew)); exact HL173_0.out) hb)
                have n2_ := Aside0.mk (Kd.V_below (by (with_reducible repeat (first | apply Kd.V_alloc | apply Kd.V_drewN | apply Kd.V_drew)); exact HL174_0.out) hb)
                have n3_ := Aside0.mk (Kd.V_below (by (with_reducible repeat (first | apply Kd.V_alloc | apply Kd.V_drewN | apply Kd.V_drew)); exact HL176_0.out) hb)
                have n4_ := Aside0.mk (Kd.V_below (by (with_reducible repeat (first | apply Kd.V_alloc | apply Kd.V_drewN | apply Kd.V_drew)); exact HL177_0.out) hb)
                have n5_ := Aside0.mk (Kd.C_below (by repeat (first | (with_reducible exact HR173_0.out) | (with_reducible refine Kd.C_alloc ?_ _) | (with_reducible refine Kd.C_drewN ?_ _) | (with_reducible refine Kd.C_drew ?_) | exact HR173_0.out)) hb)
                have n6_ := Aside0.mk (Kd.C_below (by repeat (first | (with_reducible exact HR174_0.out) | (with_reducible refine Kd.C_alloc ?_ _) | (with_reducible refine Kd.C_drewN ?_ _) | (with_reducible refine Kd.C_drew ?_) | exact HR174_0.out)) hb)
                have n7_ := Aside0.mk (Kd.C_below (by repeat (first | (with_reducible exact HR176_0.out) | (with_reducible refine Kd.C_alloc ?_ _) | (with_reducible refine Kd.C_drewN ?_ _) | (with_reducible refine Kd.C_drew ?_) | exact HR176_0.out)) hb)
                have n8_ := Aside0.mk (Kd.C_below (by repeat (first | (with_reducible exact HR177_0.out) | (with_reducible refine Kd.C_alloc ?_ _) | (with_reducible refine Kd.C_drewN ?_ _) | (with_reducible refine Kd.C_drew ?_) | exact HR177_0.out)) hb)
                have n9_ := Aside0.mk (below_step (by repeat (first | (with_reducible first | exact HB.out | apply below_alloc | apply pw_below_drewN | apply below_drew1) | exact HB.out)) hb)
                clear HO_12
                clear HL173_0
                clear HL174_0
                clear HL176_0
                clear HL177_0
                clear HR173_0
                clear HR174_0
                clear HR176_0
                clear HR177_0
                clear HB
                have HO_12 := n0_
                have HL173_0 := n1_
                have HL174_0 := n2_
                have HL176_0 := n3_
                have HL177_0 := n4_
                have HR173_0 := n5_
                have HR174_0 := n6_
                have HR176_0 := n7_
                have HR177_0 := n8_
                have HB := n9_
                clear n0_ n1_ n2_ n3_ n4_ n5_ n6_ n7_ n8_ n9_
                have HR179_0 := HR173_0
                have HL179_0 := HL173_0
                have HR180_0 := HR174_0
                have HL180_0 := HL174_0
                have HR182_0 := HR173_0
                have HL182_0 := HL173_0
                have HR183_0 := HR174_0
                have HL183_0 := HL174_0
                (try clear hb)
                (try clear hb2)
                (try clear hk)
                (try clear hi)
                refine hK.out _ _ ⟨HS0_,HS1_,HS2_,HS3_,HS4_,HS5_,HS6_,HS7_⟩ (fun hHeld => ?_)
                clear hK K
                refine norm_ (a' := ?_) ?_ ?_
                rotate_left
                ·show Act.put _ (some 57) _ = _
                 simp only [Act.put,sA,sB,sC,i64_w,i32_w]
                 rfl
                refine one_ (i := 17) (N := some 66) #[true,true,true,true,true,true,true,true,true,true,true,true,true,true,true,true,true,true,false,false,false,false,false,false,false,false,false,false,false,false,false,false,false,false,false,false,false,false,false,false] rfl rfl (one_of HT_.out (by kernel_rfl)) (by decide) (fun K hK => ?_)
                refine goes_ Try.func20 (by kernel_rfl) rfl #[.slice A173_0 (rd_L1 y170 x13_1).length c173_0,.slice A174_0 (rd_L1 y170 x14_2).length c174_0] (by rfl) rfl rfl (by (try simp only [List.map_toArray,List.map_cons,List.map_nil]); first | done | rfl | (simp only [List.length_drop,List.length_take]; rfl)) ?_
                with_reducible refine (collatorref07_Common.calls k2 _ _ (rd_L1 y170 x13_1) _ _ (rd_L1 y170 x14_2) t178 _ ?side1 ?side2 ?side3 ?side4 A35.out).mono ?_
                (case side1 => repeat (first | exact (by repeat (first | (with_reducible exact HR176_0.out) | (with_reducible refine Kd.C_alloc ?_ _) | (with_reducible refine Kd.C_drewN ?_ _) | (with_reducible refine Kd.C_drew ?_) | exact HR176_0.out)) | (with_reducible refine Kd.C_alloc ?_ _) | (with_reducible refine Kd.C_drewN ?_ _) | (with_reducible refine Kd.C_drew ?_)))
                (case side2 => exact HC176_0.out)
                (case side3 => repeat (first | exact (by repeat (first | (with_reducible exact HR177_0.out) | (with_reducible refine Kd.C_alloc ?_ _) | (with_reducible refine Kd.C_drewN ?_ _) | (with_reducible refine Kd.C_drew ?_) | exact HR177_0.out)) | (with_reducible refine Kd.C_alloc ?_ _) | (with_reducible refine Kd.C_drewN ?_ _) | (with_reducible refine Kd.C_drew ?_)))
                (case side4 => exact HC177_0.out)
                rintro e w' ⟨rfl,⟨nd,rfl⟩⟩
                refine ⟨_,rfl,?_⟩
                refine hK.out _ _ ⟨hHeld.1,hHeld.2.1,hHeld.2.2.1,hHeld.2.2.2.1,hHeld.2.2.2.2.1,hHeld.2.2.2.2.2.1,hHeld.2.2.2.2.2.2.1,hHeld.2.2.2.2.2.2.2⟩ (fun hHeld => ?_)
                clear hK K
                refine norm_ (a' := ?_) ?_ ?_
                rotate_left
                ·show Act.put _ (some 66) _ = _
                 simp only [Act.put,sA,sB,sC,i64_w,i32_w]
                 rfl
                refine pure_ (i := 18) (N := some 67) (v:=?_) (a':=?_) #[true,true,true,true,true,true,true,true,true,true,true,true,true,true,true,true,true,true,true,false,false,false,false,false,false,false,false,false,false,false,false,false,false,false,false,false,false,false,false,false] rfl rfl (any_of HT_.out (by kernel_rfl)) (fun _ _ _ h=>h) (Or.inl ⟨by rfl,?_⟩) ?_ ?_
                rotate_left
                ·intro w'
                 go_simp
                 with_reducible rfl
                rotate_left
                ·simp only [Act.put,sA,sB,sC,i64_w,i32_w]
                 rfl
                refine pure_ (i := 19) (N := some 68) (v:=?_) (a':=?_) #[true,true,true,true,true,true,true,true,true,true,true,true,true,true,true,true,true,true,true,true,false,false,false,false,false,false,false,false,false,false,false,false,false,false,false,false,false,false,false,false] rfl rfl (any_of HT_.out (by kernel_rfl)) (fun _ _ _ h=>h) (Or.inl ⟨by rfl,?_⟩) ?_ ?_
                rotate_left
                ·intro w'
                 go_simp
                 with_reducible rfl
                rotate_left
                ·simp only [Act.put,sA,sB,sC,i64_w,i32_w]
                 rfl
                refine pure_ (i := 20) (N := some 69) (v:=?_) (a':=?_) #[true,true,true,true,true,true,true,true,true,true,true,true,true,true,true,true,true,true,true,true,true,false,false,false,false,false,false,false,false,false,false,false,false,false,false,false,false,false,false,false] rfl rfl (any_of HT_.out (by kernel_rfl)) (fun _ _ _ h=>h) (Or.inl ⟨by rfl,?_⟩) ?_ ?_
                rotate_left
                ·intro w'
                 go_simp
                 with_reducible rfl
                rotate_left
                ·simp only [Act.put,sA,sB,sC,i64_w,i32_w]
                 rfl
                refine pure_ (i := 21) (N := some 70) (v:=?_) (a':=?_) #[true,true,true,true,true,true,true,true,true,true,true,true,true,true,true,true,true,true,true,true,true,true,false,false,false,false,false,false,false,false,false,false,false,false,false,false,false,false,false,false] rfl rfl (any_of HT_.out (by kernel_rfl)) (fun _ _ _ h=>h) (Or.inl ⟨by rfl,?_⟩) ?_ ?_
                rotate_left
                ·intro w'
                 go_simp
                 with_reducible rfl
                rotate_left
                ·simp only [Act.put,sA,sB,sC,i64_w,i32_w]
                 rfl
                refine pure_ (i := 22) (N := some 71) (v:=?_) (a':=?_) #[true,true,true,true,true,true,true,true,true,true,true,true,true,true,true,true,true,true,true,true,true,true,true,false,false,false,false,false,false,false,false,false,false,false,false,false,false,false,false,false] rfl rfl (any_of HT_.out (by kernel_rfl)) (fun _ _ _ h=>h) (Or.inl ⟨by rfl,?_⟩) ?_ ?_
                rotate_left
                ·intro w'
                 go_simp
                 with_reducible rfl
                rotate_left
                ·simp only [Act.put,sA,sB,sC,i64_w,i32_w]
                 rfl
                refine pure_ (i := 24) (N := some 73) (v:=?_) (a':=?_) #[true,true,true,true,true,true,true,true,true,true,true,true,true,true,true,true,true,true,true,true,true,true,true,false,true,false,false,false,false,false,false,false,false,false,false,false,false,false,false,false] rfl rfl (any_of HT_.out (by kernel_rfl)) (fun _ _ _ h=>h) (Or.inl ⟨by rfl,?_⟩) ?_ ?_
                rotate_left
                ·intro w'
                 go_simp
                 with_reducible rfl
                rotate_left
                ·simp only [Act.put,sA,sB,sC,i64_w,i32_w]
                 rfl
                refine pure_ (i := 25) (N := some 74) (v:=?_) (a':=?_) #[true,true,true,true,true,true,true,true,true,true,true,true,true,true,true,true,true,true,true,true,true,true,true,false,true,true,false,false,false,false,false,false,false,false,false,false,false,false,false,false] rfl rfl (any_of HT_.out (by kernel_rfl)) (fun _ _ _ h=>h) (Or.inl ⟨by rfl,?_⟩) ?_ ?_
                rotate_left
                ·intro w'
                 go_simp
                 with_reducible rfl
                rotate_left
                ·simp only [Act.put,sA,sB,sC,i64_w,i32_w]
                 rfl
                refine pure_ (i := 26) (N := some 75) (v:=?_) (a':=?_) #[true,true,true,true,true,true,true,true,true,true,true,true,true,true,true,true,true,true,true,true,true,true,true,false,true,true,true,false,false,false,false,false,false,false,false,false,false,false,false,false] rfl rfl (any_of HT_.out (by kernel_rfl)) (fun _ _ _ h=>h) (Or.inl ⟨by rfl,?_⟩) ?_ ?_
                rotate_left
                ·intro w'
                 go_simp
                 with_reducible rfl
                rotate_left
                ·simp only [Act.put,sA,sB,sC,i64_w,i32_w]
                 rfl
                refine pure_ (i := 29) (N := some 78) (v:=?_) (a':=?_) #[true,true,true,true,true,true,true,true,true,true,true,true,true,true,true,true,true,true,true,true,true,true,true,false,true,true,true,false,false,true,false,false,false,false,false,false,false,false,false,false] rfl rfl (any_of HT_.out (by kernel_rfl)) (fun _ _ _ h=>h) (Or.inl ⟨by rfl,?_⟩) ?_ ?_
                rotate_left
                ·intro w'
                 go_simp
                 with_reducible rfl
                rotate_left
                ·simp only [Act.put,sA,sB,sC,i64_w,i32_w]
                 rfl
                refine pure_ (i := 30) (N := some 79) (v:=?_) (a':=?_) #[true,true,true,true,true,true,true,true,true,true,true,true,true,true,true,true,true,true,true,true,true,true,true,false,true,true,true,false,false,true,true,false,false,false,false,false,false,false,false,false] rfl rfl (any_of HT_.out (by kernel_rfl)) (fun _ _ _ h=>h) (Or.inl ⟨by rfl,?_⟩) ?_ ?_
                rotate_left
                ·intro w'
                 go_simp
                 with_reducible rfl
                rotate_left
                ·simp only [Act.put,sA,sB,sC,i64_w,i32_w]
                 rfl
                refine pure_ (i := 31) (N := some 80) (v:=?_) (a':=?_) #[true,true,true,true,true,true,true,true,true,true,true,true,true,true,true,true,true,true,true,true,true,true,true,false,true,true,true,false,false,true,true,true,false,false,false,false,false,false,false,false] rfl rfl (any_of HT_.out (by kernel_rfl)) (fun _ _ _ h=>h) (Or.inl ⟨by rfl,?_⟩) ?_ ?_
                rotate_left
                ·intro w'
                 go_simp
                 with_reducible rfl
                rotate_left
                ·simp only [Act.put,sA,sB,sC,i64_w,i32_w]
                 rfl
                refine pure_ (i := 33) (N := some 82) (v:=?_) (a':=?_) #[true,true,true,true,true,true,true,true,true,true,true,true,true,true,true,true,true,true,true,true,true,true,true,false,true,true,true,false,false,true,true,true,false,true,false,false,false,false,false,false] rfl rfl (any_of HT_.out (by kernel_rfl)) (fun _ _ _ h=>h) (Or.inl ⟨by rfl,?_⟩) ?_ ?_
                rotate_left
                ·intro w'
                 go_simp
                 with_reducible rfl
                rotate_left
                ·simp only [Act.put,sA,sB,sC,i64_w,i32_w]
                 rfl
                refine pure_ (i := 34) (N := some 83) (v:=?_) (a':=?_) #[true,true,true,true,true,true,true,true,true,true,true,true,true,true,true,true,true,true,true,true,true,true,true,false,true,true,true,false,false,true,true,true,false,true,true,false,false,false,false,false] rfl rfl (any_of HT_.out (by kernel_rfl)) (fun _ _ _ h=>h) (Or.inl ⟨by rfl,?_⟩) ?_ ?_
                rotate_left
                ·intro w'
                 go_simp
                 with_reducible rfl
                rotate_left
                ·simp only [Act.put,sA,sB,sC,i64_w,i32_w]
                 rfl
                refine pure_ (i := 35) (N := some 84) (v:=?_) (a':=?_) #[true,true,true,true,true,true,true,true,true,true,true,true,true,true,true,true,true,true,true,true,true,true,true,false,true,true,true,false,false,true,true,true,false,true,true,true,false,false,false,false] rfl rfl (any_of HT_.out (by kernel_rfl)) (fun _ _ _ h=>h) (Or.inl ⟨by rfl,?_⟩) ?_ ?_
                rotate_left
                ·intro w'
                 go_simp
                 with_reducible rfl
                rotate_left
                ·simp only [Act.put,sA,sB,sC,i64_w,i32_w]
                 rfl
                refine take_ (i := 23) (N := some 72) (v:=?_) (a':=?_) #[true,true,true,true,true,true,true,true,true,true,true,true,true,true,true,true,true,true,true,true,true,true,true,true,true,true,true,false,false,true,true,true,false,true,true,true,false,false,false,false] rfl rfl (take_ofW HT_.out HW_.out (by kernel_rfl)) (fun _ _ _ h=>h) (Or.inl ⟨by rfl,?_⟩) hHeld ?_ ?_
                rotate_left
                ·rintro w' ⟨s0,s1,s2,s3,s4,s5,s6,s7⟩
                 go_simp
                 with_reducible rfl
                rotate_left
                ·simp only [Act.put,sA,sB,sC,i64_w,i32_w]
                 rfl
                refine take_ (i := 27) (N := some 76) (v:=?_) (a':=?_) #[true,true,true,true,true,true,true,true,true,true,true,true,true,true,true,true,true,true,true,true,true,true,true,true,true,true,true,true,false,true,true,true,false,true,true,true,false,false,false,false] rfl rfl (take_ofW HT_.out HW_.out (by kernel_rfl)) (fun _ _ _ h=>h) (Or.inl ⟨by rfl,?_⟩) hHeld ?_ ?_
                rotate_left
                ·rintro w' ⟨s0,s1,s2,s3,s4,s5,s6,s7⟩
                 go_simp
                 with_reducible rfl
                rotate_left
                ·simp only [Act.put,sA,sB,sC,i64_w,i32_w]
                 rfl
                refine take_ (i := 32) (N := some 81) (v:=?_) (a':=?_) #[true,true,true,true,true,true,true,true,true,true,true,true,true,true,true,true,true,true,true,true,true,true,true,true,true,true,true,true,false,true,true,true,true,true,true,true,false,false,false,false] rfl rfl (take_ofW HT_.out HW_.out (by kernel_rfl)) (fun _ _ _ h=>h) (Or.inl ⟨by rfl,?_⟩) hHeld ?_ ?_
                rotate_left
                ·rintro w' ⟨s0,s1,s2,s3,s4,s5,s6,s7⟩
                 go_simp
                 with_reducible rfl
                rotate_left
                ·simp only [Act.put,sA,sB,sC,i64_w,i32_w]
                 rfl
                refine take_ (i := 36) (N := some 85) (v:=?_) (a':=?_) #[true,true,true,true,true,true,true,true,true,true,true,true,true,true,true,true,true,true,true,true,true,true,true,true,true,true,true,true,false,true,true,true,true,true,true,true,true,false,false,false] rfl rfl (take_ofW HT_.out HW_.out (by kernel_rfl)) (fun _ _ _ h=>h) (Or.inl ⟨by rfl,?_⟩) hHeld ?_ ?_
                rotate_left
                ·rintro w' ⟨s0,s1,s2,s3,s4,s5,s6,s7⟩
                 go_simp
                 with_reducible rfl
                rotate_left
                ·simp only [Act.put,sA,sB,sC,i64_w,i32_w]
                 rfl
                refine one_ (i := 28) (N := some 77) #[true,true,true,true,true,true,true,true,true,true,true,true,true,true,true,true,true,true,true,true,true,true,true,true,true,true,true,true,true,true,true,true,true,true,true,true,true,false,false,false] rfl rfl (one_of HT_.out (by kernel_rfl)) (by decide) (fun K hK => ?_)
                refine goes_ Try.func21 (by kernel_rfl) rfl #[.slice A173_0 (rd_L1 y170 x13_1).length c173_0,.slice A174_0 (rd_L1 y170 x14_2).length c174_0] (by rfl) rfl rfl (by (try simp only [List.map_toArray,List.map_cons,List.map_nil]); first | done | rfl | (simp only [List.length_drop,List.length_take]; rfl)) ?_
                with_reducible refine (alike_Score.calls _ _ (rd_L1 y170 x13_1) _ _ (rd_L1 y170 x14_2) t181 _ ?side1 ?side2 ?side3 ?side4 A37.out).mono ?_
                (case side1 => repeat (first | exact (by repeat (first | (with_reducible exact HR179_0.out) | (with_reducible refine Kd.C_alloc ?_ _) | (with_reducible refine Kd.C_drewN ?_ _) | (with_reducible refine Kd.C_drew ?_) | exact HR179_0.out)) | (with_reducible refine Kd.C_alloc ?_ _) | (with_reducible refine Kd.C_drewN ?_ _) | (with_reducible refine Kd.C_drew ?_)))
                (case side2 => exact HC179_0.out)
                (case side3 => repeat (first | exact (by repeat (first | (with_reducible exact HR180_0.out) | (with_reducible refine Kd.C_alloc ?_ _) | (with_reducible refine Kd.C_drewN ?_ _) | (with_reducible refine Kd.C_drew ?_) | exact HR180_0.out)) | (with_reducible refine Kd.C_alloc ?_ _) | (with_reducible refine Kd.C_drewN ?_ _) | (with_reducible refine Kd.C_drew ?_)))
                (case side4 => exact HC180_0.out)
                rintro e w45 ⟨rfl,hb⟩
                have HS0_ := (hb.cell (World.block_lt_of_cell? _ _ (hHeld.1))).trans (hHeld.1)
                have HS1_ := (hb.cell (World.block_lt_of_cell? _ _ (hHeld.2.1))).trans (hHeld.2.1)
                have HS2_ := (hb.cell (World.block_lt_of_cell? _ _ (hHeld.2.2.1))).trans (hHeld.2.2.1)
                have HS3_ := (hb.cell (World.block_lt_of_cell? _ _ (hHeld.2.2.2.1))).trans (hHeld.2.2.2.1)
                have HS4_ := (hb.cell (World.block_lt_of_cell? _ _ (hHeld.2.2.2.2.1))).trans (hHeld.2.2.2.2.1)
                have HS5_ := (hb.cell (World.block_lt_of_cell? _ _ (hHeld.2.2.2.2.2.1))).trans (hHeld.2.2.2.2.2.1)
                have HS6_ := (hb.cell (World.block_lt_of_cell? _ _ (hHeld.2.2.2.2.2.2.1))).trans (hHeld.2.2.2.2.2.2.1)
                have HS7_ := (hb.cell (World.block_lt_of_cell? _ _ (hHeld.2.2.2.2.2.2.2))).trans (hHeld.2.2.2.2.2.2.2)
                refine ⟨_,rfl,?_⟩
                have n0_ := Aside0.mk (Kd.N_below (by (with_reducible repeat (first | apply Kd.N_alloc | apply Kd.N_drewN | apply Kd.N_drew)); exact HO_12.out) hb)
                have n1_ := Aside0.mk (Kd.V_below (by (with_reducible repeat (first | apply Kd.V_alloc | apply Kd.V_drewN | apply Kd.V_drew)); exact HL173_0.out) hb)
                have n2_ := Aside0.mk (Kd.V_below (by (with_reducible repeat (first | apply Kd.V_alloc | apply Kd.V_drewN | apply Kd.V_drew)); exact HL174_0.out) hb)
                have n3_ := Aside0.mk (Kd.V_below (by (with_reducible repeat (first | apply Kd.V_alloc | apply Kd.V_drewN | apply Kd.V_drew)); exact HL176_0.out) hb)
                have n4_ := Aside0.mk (Kd.V_below (by (with_reducible repeat (first | apply Kd.V_alloc | apply Kd.V_drewN | apply Kd.V_drew)); exact HL177_0.out) hb)
                have n5_ := Aside0.mk (Kd.V_below (by (with_reducible repeat (first | apply Kd.V_alloc | apply Kd.V_drewN | apply Kd.V_drew)); exact HL179_0.out) hb)
                have n6_ := Aside0.mk (Kd.V_below (by (with_reducible repeat (first | apply Kd.V_alloc | apply Kd.V_drewN | apply Kd.V_drew)); exact HL180_0.out) hb)
                have n7_ := Aside0.mk (Kd.C_below (Kd.C_drewN HR173_0.out _) hb)
                have n8_ := Aside0.mk (Kd.C_below (Kd.C_drewN HR174_0.out _) hb)
                have n9_ := Aside0.mk (Kd.C_below (Kd.C_drewN HR176_0.out _) hb)
                have n10_ := Aside0.mk (Kd.C_below (Kd.C_drewN HR177_0.out _) hb)
                have n11_ := Aside0.mk (Kd.C_below (Kd.C_drewN HR179_0.out _) hb)
                have n12_ := Aside0.mk (Kd.C_below (Kd.C_drewN HR180_0.out _) hb)
                have n13_ := Aside0.mk (below_step (by repeat (first | (with_reducible first | exact HB.out | apply below_alloc | apply pw_below_drewN | apply below_drew1) | exact HB.out)) hb)
                clear HO_12
                clear HL173_0
                clear HL174_0
                clear HL176_0
                clear HL177_0
                clear HL179_0
                clear HL180_0
                clear HR173_0
                clear HR174_0
                clear HR176_0
                clear HR177_0
                clear HR179_0
                clear HR180_0
                clear HB
                have HO_12 := n0_
                have HL173_0 := n1_
                have HL174_0 := n2_
                have HL176_0 := n3_
                have HL177_0 := n4_
                have HL179_0 := n5_
                have HL180_0 := n6_
                have HR173_0 := n7_
                have HR174_0 := n8_
                have HR176_0 := n9_
                have HR177_0 := n10_
                have HR179_0 := n11_
                have HR180_0 := n12_
                have HB := n13_
                clear n0_ n1_ n2_ n3_ n4_ n5_ n6_ n7_ n8_ n9_ n10_ n11_ n12_ n13_
                have HR182_0 := HR173_0
                have HL182_0 := HL173_0
                have HR183_0 := HR174_0
                have HL183_0 := HL174_0
                (try clear hb)
                (try clear hb2)
                (try clear hk)
                (try clear hi)
                refine hK.out _ _ ⟨HS0_,HS1_,HS2_,HS3_,HS4_,HS5_,HS6_,HS7_⟩ (fun hHeld => ?_)
                clear hK K
                refine norm_ (a' := ?_) ?_ ?_
                rotate_left
                ·show Act.put _ (some 77) _ = _
                 simp only [Act.put,sA,sB,sC,i64_w,i32_w]
                 rfl
                refine one_ (i := 37) (N := some 86) #[true,true,true,true,true,true,true,true,true,true,true,true,true,true,true,true,true,true,true,true,true,true,true,true,true,true,true,true,true,true,true,true,true,true,true,true,true,true,false,false] rfl rfl (one_of HT_.out (by kernel_rfl)) (by decide) (fun K hK => ?_)
                refine goes_ Try.func22 (by kernel_rfl) rfl #[.slice A173_0 (rd_L1 y170 x13_1).length c173_0,.slice A174_0 (rd_L1 y170 x14_2).length c174_0] (by rfl) rfl rfl (by (try simp only [List.map_toArray,List.map_cons,List.map_nil]); first | done | rfl | (simp only [List.length_drop,List.length_take]; rfl)) ?_
                with_reducible refine (collatorref07_Score.calls k2 _ _ (rd_L1 y170 x13_1) _ _ (rd_L1 y170 x14_2) t184 _ ?side1 ?side2 ?side3 ?side4 A38.out).mono ?_
                (case side1 => repeat (first | exact (by repeat (first | (with_reducible exact HR182_0.out) | (with_reducible refine Kd.C_alloc ?_ _) | (with_reducible refine Kd.C_drewN ?_ _) | (with_reducible refine Kd.C_drew ?_) | exact HR182_0.out)) | (with_reducible refine Kd.C_alloc ?_ _) | (with_reducible refine Kd.C_drewN ?_ _) | (with_reducible refine Kd.C_drew ?_)))
                (case side2 => exact HC182_0.out)
                (case side3 => repeat (first | exact (by repeat (first | (with_reducible exact HR183_0.out) | (with_reducible refine Kd.C_alloc ?_ _) | (with_reducible refine Kd.C_drewN ?_ _) | (with_reducible refine Kd.C_drew ?_) | exact HR183_0.out)) | (with_reducible refine Kd.C_alloc ?_ _) | (with_reducible refine Kd.C_drewN ?_ _) | (with_reducible refine Kd.C_drew ?_)))
                (case side4 => exact HC183_0.out)
                rintro e w' ⟨rfl,⟨nd,rfl⟩⟩
                refine ⟨_,rfl,?_⟩
                refine hK.out _ _ ⟨hHeld.1,hHeld.2.1,hHeld.2.2.1,hHeld.2.2.2.1,hHeld.2.2.2.2.1,hHeld.2.2.2.2.2.1,hHeld.2.2.2.2.2.2.1,hHeld.2.2.2.2.2.2.2⟩ (fun hHeld => ?_)
                clear hK K
                refine norm_ (a' := ?_) ?_ ?_
                rotate_left
                ·show Act.put _ (some 86) _ = _
                 simp only [Act.put,sA,sB,sC,i64_w,i32_w]
                 rfl
                refine pure_ (i := 38) (N := some 87) (v:=?_) (a':=?_) #[true,true,true,true,true,true,true,true,true,true,true,true,true,true,true,true,true,true,true,true,true,true,true,true,true,true,true,true,true,true,true,true,true,true,true,true,true,true,true,false] rfl rfl (any_of HT_.out (by kernel_rfl)) (fun _ _ _ h=>h) (Or.inl ⟨by rfl,?_⟩) ?_ ?_
                rotate_left
                ·intro w'
                 go_simp
                 with_reducible rfl
                rotate_left
                ·simp only [Act.put,sA,sB,sC,i64_w,i32_w]
                 rfl
                refine pure_ (i := 39) (N := some 88) (v:=?_) (a':=?_) #[true,true,true,true,true,true,true,true,true,true,true,true,true,true,true,true,true,true,true,true,true,true,true,true,true,true,true,true,true,true,true,true,true,true,true,true,true,true,true,true] rfl rfl (any_of HT_.out (by kernel_rfl)) (fun _ _ _ h=>h) (Or.inl ⟨by rfl,?_⟩) ?_ ?_
                rotate_left
                ·intro w'
                 go_simp
                 with_reducible rfl
                rotate_left
                ·simp only [Act.put,sA,sB,sC,i64_w,i32_w]
                 rfl
                refine done_ (done_of HT_.out (by kernel_rfl)) ?_
                try go_wp2
                go_ret
                exact ⟨by first | rfl | (simp [errW_none,errW_some] <;> rfl) | (simp only [← hji7,← hji10]; first | rfl | (simp [errW_none,errW_some] <;> rfl)) | (simp [*,errW_none,errW_some] <;> rfl),by repeat (first | (with_reducible first | exact HB.out | apply below_alloc | apply pw_below_drewN | apply below_drew1) | exact HB.out)⟩
              ·rw [if_neg c36] at H
               have c36b0 : (t175 == t178) = false := beq_eq_false_iff_ne.mpr c36
               have c36b1 : (t175 != t178) = true := bne_iff_ne.mpr c36
               obtain rfl := Option.some.inj H
               try go_wp2
               have n0_ := Aside0.mk (Kd.N_drew HO_12.out)
               have n1_ := Aside0.mk (below_drew1 HB.out)
               clear HO_12
               clear HB
               have HO_12 := n0_
               have HB := n1_
               clear n0_ n1_
               have p173 : 0 ≤ (x13_1 : Int) := of_decide_eq_true (by first | (with_reducible assumption) | assumption)
               have q173 : x13_1 < (y170.length : Int) := of_decide_eq_true (by first | (with_reducible assumption) | assumption)
               obtain ⟨ad173,A173_0,c173_0,e173,hx173_0,hl173_0,hi173_0⟩ := at_L1 (Kd.N_reads' HO_12.out).2.2 x13_1 p173 q173
               cases e173
               obtain ⟨ce173,hce173,hMe173,hcc173⟩ := Kd.N_get HO_12.out [] x13_1 p173 (by first | exact q173 | exact of_decide_eq_true (by first | (with_reducible assumption) | assumption) | (have e_ := (Kd.N_reads' HO_12.out).1; omega))
               obtain ⟨ua173_0,uc173_0,rfl,ul173_0,ge173_0⟩ := Kd.FK_slice_open hMe173
               have hv173_0 := hcc173 0 _ rfl
               rw [Nat.add_zero,show ((Kd.slice 9 Kd.string)).sz = 1 from rfl,Nat.mul_one] at hv173_0
               replace hv173_0 := Option.some.inj (hv173_0.symm.trans hx173_0)
               injection hv173_0 with hva_ hvn_ hvc_
               rw [hva_] at ge173_0
               rw [hvc_] at ul173_0
               have HL173_0 := Aside0.mk (show Kd.V Kd.string 9 _ w.heap.size _ _ (rd_L1 y170 x13_1) from Kd.V_mk ul173_0 ge173_0)
               clear hva_ hvn_ hvc_ ge173_0 ul173_0
               clear hcc173 hce173
               have HR173_0 := Aside0.mk hi173_0
               have HC173_0 := Aside0.mk hl173_0
               clear hi173_0 hl173_0
               replace p173 := eq_true p173
               replace q173 := eq_true q173
               have p174 : 0 ≤ (x14_2 : Int) := of_decide_eq_true (by first | (with_reducible assumption) | assumption)
               have q174 : x14_2 < (y170.length : Int) := of_decide_eq_true (by first | (with_reducible assumption) | assumption)
               obtain ⟨ad174,A174_0,c174_0,e174,hx174_0,hl174_0,hi174_0⟩ := at_L1 (Kd.N_reads' HO_12.out).2.2 x14_2 p174 q174
               obtain rfl : ad173 = ad174 := (by injection e174)
               obtain ⟨ce174,hce174,hMe174,hcc174⟩ := Kd.N_get HO_12.out [] x14_2 p174 (by first | exact q174 | exact of_decide_eq_true (by first | (with_reducible assumption) | assumption) | (have e_ := (Kd.N_reads' HO_12.out).1; omega))
               obtain ⟨ua174_0,uc174_0,rfl,ul174_0,ge174_0⟩ := Kd.FK_slice_open hMe174
               have hv174_0 := hcc174 0 _ rfl
               rw [Nat.add_zero,show ((Kd.slice 9 Kd.string)).sz = 1 from rfl,Nat.mul_one] at hv174_0
               replace hv174_0 := Option.some.inj (hv174_0.symm.trans hx174_0)
               injection hv174_0 with hva_ hvn_ hvc_
               rw [hva_] at ge174_0
               rw [hvc_] at ul174_0
               have HL174_0 := Aside0.mk (show Kd.V Kd.string 9 _ w.heap.size _ _ (rd_L1 y170 x14_2) from Kd.V_mk ul174_0 ge174_0)
               clear hva_ hvn_ hvc_ ge174_0 ul174_0
               clear hcc174 hce174
               have HR174_0 := Aside0.mk hi174_0
               have HC174_0 := Aside0.mk hl174_0
               clear hi174_0 hl174_0
               replace p174 := eq_true p174
               replace q174 := eq_true q174
               have p176 : 0 ≤ (x13_1 : Int) := of_decide_eq_true (by first | (with_reducible assumption) | assumption)
               have q176 : x13_1 < (y170.length : Int) := of_decide_eq_true (by first | (with_reducible assumption) | assumption)
               obtain ⟨ad176,A176_0,c176_0,e176,hx176_0,hl176_0,hi176_0⟩ := at_L1 (Kd.N_reads' HO_12.out).2.2 x13_1 p176 q176
               obtain rfl : ad173 = ad176 := (by injection e176)
               obtain ⟨ce176,hce176,hMe176,hcc176⟩ := Kd.N_get HO_12.out [] x13_1 p176 (by first | exact q176 | exact of_decide_eq_true (by first | (with_reducible assumption) | assumption) | (have e_ := (Kd.N_reads' HO_12.out).1; omega))
               obtain ⟨ua176_0,uc176_0,rfl,ul176_0,ge176_0⟩ := Kd.FK_slice_open hMe176
               have hv176_0 := hcc176 0 _ rfl
               rw [Nat.add_zero,show ((Kd.slice 9 Kd.string)).sz = 1 from rfl,Nat.mul_one] at hv176_0
               replace hv176_0 := Option.some.inj (hv176_0.symm.trans hx176_0)
               injection hv176_0 with hva_ hvn_ hvc_
               rw [hva_] at ge176_0
               rw [hvc_] at ul176_0
               have HL176_0 := Aside0.mk (show Kd.V Kd.string 9 _ w.heap.size _ _ (rd_L1 y170 x13_1) from Kd.V_mk ul176_0 ge176_0)
               clear hva_ hvn_ hvc_ ge176_0 ul176_0
               clear hcc176 hce176
               have HR176_0 := Aside0.mk hi176_0
               have HC176_0 := Aside0.mk hl176_0
               clear hi176_0 hl176_0
               replace p176 := eq_true p176
               replace q176 := eq_true q176
               have ea_ := Option.some.inj (hx173_0.symm.trans hx176_0)
               injection ea_ with ea_ en_ ec_
               subst ea_
               subst ec_
               clear en_
               have p177 : 0 ≤ (x14_2 : Int) := of_decide_eq_true (by first | (with_reducible assumption) | assumption)
               have q177 : x14_2 < (y170.length : Int) := of_decide_eq_true (by first | (with_reducible assumption) | assumption)
               obtain ⟨ad177,A177_0,c177_0,e177,hx177_0,hl177_0,hi177_0⟩ := at_L1 (Kd.N_reads' HO_12.out).2.2 x14_2 p177 q177
               obtain rfl : ad173 = ad177 := (by injection e177)
               obtain ⟨ce177,hce177,hMe177,hcc177⟩ := Kd.N_get HO_12.out [] x14_2 p177 (by first | exact q177 | exact of_decide_eq_true (by first | (with_reducible assumption) | assumption) | (have e_ := (Kd.N_reads' HO_12.out).1; omega))
               obtain ⟨ua177_0,uc177_0,rfl,ul177_0,ge177_0⟩ := Kd.FK_slice_open hMe177
               have hv177_0 := hcc177 0 _ rfl
               rw [Nat.add_zero,show ((Kd.slice 9 Kd.string)).sz = 1 from rfl,Nat.mul_one] at hv177_0
               replace hv177_0 := Option.some.inj (hv177_0.symm.trans hx177_0)
               injection hv177_0 with hva_ hvn_ hvc_
               rw [hva_] at ge177_0
               rw [hvc_] at ul177_0
               have HL177_0 := Aside0.mk (show Kd.V Kd.string 9 _ w.heap.size _ _ (rd_L1 y170 x14_2) from Kd.V_mk ul177_0 ge177_0)
               clear hva_ hvn_ hvc_ ge177_0 ul177_0
               clear hcc177 hce177
               have HR177_0 := Aside0.mk hi177_0
               have HC177_0 := Aside0.mk hl177_0
               clear hi177_0 hl177_0
               replace p177 := eq_true p177
               replace q177 := eq_true q177
               have ea_ := Option.some.inj (hx174_0.symm.trans hx177_0)
               injection ea_ with ea_ en_ ec_
               subst ea_
               subst ec_
               clear en_
               refine start_ (n := 40) (S := fun w' => w'.cell? (ad173.add (x13_1).toNat) = some (.slice A173_0 (rd_L1 y170 x13_1).length c173_0) ∧ w'.cell? (ad173.add (x14_2).toNat) = some (.slice A174_0 (rd_L1 y170 x14_2).length c174_0) ∧ w'.cell? (ad173.add (x13_1).toNat) = some (.slice A173_0 (rd_L1 y170 x13_1).length c173_0) ∧ w'.cell? (ad173.add (x14_2).toNat) = some (.slice A174_0 (rd_L1 y170 x14_2).length c174_0)) (ds := []) #[false,false,false,false,false,false,false,false,false,false,false,false,false,false,false,false,false,false,false,false,false,false,false,false,false,false,false,false,false,false,false,false,false,false,false,false,false,false,false,false] (by kernel_rfl) rfl rfl ⟨hx173_0,hx174_0,hx176_0,hx177_0⟩ (fun hHeld => ?_); refine with_tabW collatorlaw07_AlikeTells.tab9 collatorlaw07_AlikeTells.bits9 (fun HT_ HW_ => ?_)
               generalize wr.drew = w46 at HO_12 HB HL173_0 HL174_0 HL176_0 HL177_0 HR173_0 HR174_0 HR176_0 HR177_0 hx173_0 hx174_0 hx176_0 hx177_0 hHeld ⊢
               refine pure_ (i := 0) (N := some 49) (v:=?_) (a':=?_) #[true,false,false,false,false,false,false,false,false,false,false,false,false,false,false,false,false,false,false,false,false,false,false,false,false,false,false,false,false,false,false,false,false,false,false,false,false,false,false,false] rfl rfl (any_of HT_.out (by kernel_rfl)) (fun _ _ _ h=>h) (Or.inl ⟨by rfl,?_⟩) ?_ ?_
               rotate_left
               ·intro w'
                go_simp
                with_reducible rfl
               rotate_left
               ·simp only [Act.put,sA,sB,sC,i64_w,i32_w]
                rfl
               refine pure_ (i := 1) (N := some 50) (v:=?_) (a':=?_) #[true,true,false,false,false,false,false,false,false,false,false,false,false,false,false,false,false,false,false,false,false,false,false,false,false,false,false,false,false,false,false,false,false,false,false,false,false,false,false,false] rfl rfl (any_of HT_.out (by kernel_rfl)) (fun _ _ _ h=>h) (Or.inl ⟨by rfl,?_⟩) ?_ ?_
               rotate_left
               ·intro w'
                go_simp
                with_reducible rfl
               rotate_left
               ·simp only [Act.put,sA,sB,sC,i64_w,i32_w]
                rfl
               refine pure_ (i := 2) (N := some 51) (v:=?_) (a':=?_) #[true,true,true,false,false,false,false,false,false,false,false,false,false,false,false,false,false,false,false,false,false,false,false,false,false,false,false,false,false,false,false,false,false,false,false,false,false,false,false,false] rfl rfl (any_of HT_.out (by kernel_rfl)) (fun _ _ _ h=>h) (Or.inl ⟨by rfl,?_⟩) ?_ ?_
               rotate_left
               ·intro w'
                go_simp
                with_reducible rfl
               rotate_left
               ·simp only [Act.put,sA,sB,sC,i64_w,i32_w]
                rfl
               refine pure_ (i := 4) (N := some 53) (v:=?_) (a':=?_) #[true,true,true,false,true,false,false,false,false,false,false,false,false,false,false,false,false,false,false,false,false,false,false,false,false,false,false,false,false,false,false,false,false,false,false,false,false,false,false,false] rfl rfl (any_of HT_.out (by kernel_rfl)) (fun _ _ _ h=>h) (Or.inl ⟨by rfl,?_⟩) ?_ ?_
               rotate_left
               ·intro w'
                go_simp
                with_reducible rfl
               rotate_left
               ·simp only [Act.put,sA,sB,sC,i64_w,i32_w]
                rfl
               refine pure_ (i := 5) (N := some 54) (v:=?_) (a':=?_) #[true,true,true,false,true,true,false,false,false,false,false,false,false,false,false,false,false,false,false,false,false,false,false,false,false,false,false,false,false,false,false,false,false,false,false,false,false,false,false,false] rfl rfl (any_of HT_.out (by kernel_rfl)) (fun _ _ _ h=>h) (Or.inl ⟨by rfl,?_⟩) ?_ ?_
               rotate_left
               ·intro w'
                go_simp
                with_reducible rfl
               rotate_left
               ·simp only [Act.put,sA,sB,sC,i64_w,i32_w]
                rfl
               refine pure_ (i := 6) (N := some 55) (v:=?_) (a':=?_) #[true,true,true,false,true,true,true,false,false,false,false,false,false,false,false,false,false,false,false,false,false,false,false,false,false,false,false,false,false,false,false,false,false,false,false,false,false,false,false,false] rfl rfl (any_of HT_.out (by kernel_rfl)) (fun _ _ _ h=>h) (Or.inl ⟨by rfl,?_⟩) ?_ ?_
               rotate_left
               ·intro w'
                go_simp
                with_reducible rfl
               rotate_left
               ·simp only [Act.put,sA,sB,sC,i64_w,i32_w]
                rfl
               refine pure_ (i := 9) (N := some 58) (v:=?_) (a':=?_) #[true,true,true,false,true,true,true,false,false,true,false,false,false,false,false,false,false,false,false,false,false,false,false,false,false,false,false,false,false,false,false,false,false,false,false,false,false,false,false,false] rfl rfl (any_of HT_.out (by kernel_rfl)) (fun _ _ _ h=>h) (Or.inl ⟨by rfl,?_⟩) ?_ ?_
               rotate_left
               ·intro w'
                go_simp
                with_reducible rfl
               rotate_left
               ·simp only [Act.put,sA,sB,sC,i64_w,i32_w]
                rfl
               refine pure_ (i := 10) (N := some 59) (v:=?_) (a':=?_) #[true,true,true,false,true,true,true,false,false,true,true,false,false,false,false,false,false,false,false,false,false,false,false,false,false,false,false,false,false,false,false,false,false,false,false,false,false,false,false,false] rfl rfl (any_of HT_.out (by kernel_rfl)) (fun _ _ _ h=>h) (Or.inl ⟨by rfl,?_⟩) ?_ ?_
               rotate_left
               ·intro w'
                go_simp
                with_reducible rfl
               rotate_left
               ·simp only [Act.put,sA,sB,sC,i64_w,i32_w]
                rfl
               refine pure_ (i := 11) (N := some 60) (v:=?_) (a':=?_) #[true,true,true,false,true,true,true,false,false,true,true,true,false,false,false,false,false,false,false,false,false,false,false,false,false,false,false,false,false,false,false,false,false,false,false,false,false,false,false,false] rfl rfl (any_of HT_.out (by kernel_rfl)) (fun _ _ _ h=>h) (Or.inl ⟨by rfl,?_⟩) ?_ ?_
               rotate_left
               ·intro w'
                go_simp
                with_reducible rfl
               rotate_left
               ·simp only [Act.put,sA,sB,sC,i64_w,i32_w]
                rfl
               refine pure_ (i := 13) (N := some 62) (v:=?_) (a':=?_) #[true,true,true,false,true,true,true,false,false,true,true,true,false,true,false,false,false,false,false,false,false,false,false,false,false,false,false,false,false,false,false,false,false,false,false,false,false,false,false,false] rfl rfl (any_of HT_.out (by kernel_rfl)) (fun _ _ _ h=>h) (Or.inl ⟨by rfl,?_⟩) ?_ ?_
               rotate_left
               ·intro w'
                go_simp
                with_reducible rfl
               rotate_left
               ·simp only [Act.put,sA,sB,sC,i64_w,i32_w]
                rfl
               refine pure_ (i := 14) (N := some 63) (v:=?_) (a':=?_) #[true,true,true,false,true,true,true,false,false,true,true,true,false,true,true,false,false,false,false,false,false,false,false,false,false,false,false,false,false,false,false,false,false,false,false,false,false,false,false,false] rfl rfl (any_of HT_.out (by kernel_rfl)) (fun _ _ _ h=>h) (Or.inl ⟨by rfl,?_⟩) ?_ ?_
               rotate_left
               ·intro w'
                go_simp
                with_reducible rfl
               rotate_left
               ·simp only [Act.put,sA,sB,sC,i64_w,i32_w]
                rfl
               refine pure_ (i := 15) (N := some 64) (v:=?_) (a':=?_) #[true,true,true,false,true,true,true,false,false,true,true,true,false,true,true,true,false,false,false,false,false,false,false,false,false,false,false,false,false,false,false,false,false,false,false,false,false,false,false,false] rfl rfl (any_of HT_.out (by kernel_rfl)) (fun _ _ _ h=>h) (Or.inl ⟨by rfl,?_⟩) ?_ ?_
               rotate_left
               ·intro w'
                go_simp
                with_reducible rfl
               rotate_left
               ·simp only [Act.put,sA,sB,sC,i64_w,i32_w]
                rfl
               refine take_ (i := 3) (N := some 52) (v:=?_) (a':=?_) #[true,true,true,true,true,true,true,false,false,true,true,true,false,true,true,true,false,false,false,false,false,false,false,false,false,false,false,false,false,false,false,false,false,false,false,false,false,false,false,false] rfl rfl (take_ofW HT_.out HW_.out (by kernel_rfl)) (fun _ _ _ h=>h) (Or.inl ⟨by rfl,?_⟩) hHeld ?_ ?_
               rotate_left
               ·rintro w' ⟨s0,s1,s2,s3⟩
                go_simp
                with_reducible rfl
               rotate_left
               ·simp only [Act.put,sA,sB,sC,i64_w,i32_w]
                rfl
               refine take_ (i := 7) (N := some 56) (v:=?_) (a':=?_) #[true,true,true,true,true,true,true,true,false,true,true,true,false,true,true,true,false,false,false,false,false,false,false,false,false,false,false,false,false,false,false,false,false,false,false,false,false,false,false,false] rfl rfl (take_ofW HT_.out HW_.out (by kernel_rfl)) (fun _ _ _ h=>h) (Or.inl ⟨by rfl,?_⟩) hHeld ?_ ?_
               rotate_left
               ·rintro w' ⟨s0,s1,s2,s3⟩
                go_simp
                with_reducible rfl
               rotate_left
               ·simp only [Act.put,sA,sB,sC,i64_w,i32_w]
                rfl
               refine take_ (i := 12) (N := some 61) (v:=?_) (a':=?_) #[true,true,true,true,true,true,true,true,false,true,true,true,true,true,true,true,false,false,false,false,false,false,false,false,false,false,false,false,false,false,false,false,false,false,false,false,false,false,false,false] rfl rfl (take_ofW HT_.out HW_.out (by kernel_rfl)) (fun _ _ _ h=>h) (Or.inl ⟨by rfl,?_⟩) hHeld ?_ ?_
               rotate_left
               ·rintro w' ⟨s0,s1,s2,s3⟩
                go_simp
                with_reducible rfl
               rotate_left
               ·simp only [Act.put,sA,sB,sC,i64_w,i32_w]
                rfl
               refine take_ (i := 16) (N := some 65) (v:=?_) (a':=?_) #[true,true,true,true,true,true,true,true,false,true,true,true,true,true,true,true,true,false,false,false,false,false,false,false,false,false,false,false,false,false,false,false,false,false,false,false,false,false,false,false] rfl rfl (take_ofW HT_.out HW_.out (by kernel_rfl)) (fun _ _ _ h=>h) (Or.inl ⟨by rfl,?_⟩) hHeld ?_ ?_
               rotate_left
               ·rintro w' ⟨s0,s1,s2,s3⟩
                go_simp
                with_reducible rfl
               rotate_left
               ·simp only [Act.put,sA,sB,sC,i64_w,i32_w]
                rfl
               refine one_ (i := 8) (N := some 57) #[true,true,true,true,true,true,true,true,true,true,true,true,true,true,true,true,true,false,false,false,false,false,false,false,false,false,false,false,false,false,false,false,false,false,false,false,false,false,false,false] rfl rfl (one_of HT_.out (by kernel_rfl)) (by decide) (fun K hK => ?_)
               refine goes_ Try.func19 (by kernel_rfl) rfl #[.slice A173_0 (rd_L1 y170 x13_1).length c173_0,.slice A174_0 (rd_L1 y170 x14_2).length c174_0] (by rfl) rfl rfl (by (try simp only [List.map_toArray,List.map_cons,List.map_nil]); first | done | rfl | (simp only [List.length_drop,List.length_take]; rfl)) ?_
               with_reducible refine (alike_Common.calls _ _ (rd_L1 y170 x13_1) _ _ (rd_L1 y170 x14_2) t175 _ ?side1 ?side2 ?side3 ?side4 A34.out).mono ?_
               (case side1 => repeat (first | exact (by repeat (first | (with_reducible exact HR173_0.out) | (with_reducible refine Kd.C_alloc ?_ _) | (with_reducible refine Kd.C_drewN ?_ _) | (with_reducible refine Kd.C_drew ?_) | exact HR173_0.out)) | (with_reducible refine Kd.C_alloc ?_ _) | (with_reducible refine Kd.C_drewN ?_ _) | (with_reducible refine Kd.C_drew ?_)))
               (case side2 => exact HC173_0.out)
               (case side3 => repeat (first | exact (by repeat (first | (with_reducible exact HR174_0.out) | (with_reducible refine Kd.C_alloc ?_ _) | (with_reducible refine Kd.C_drewN ?_ _) | (with_reducible refine Kd.C_drew ?_) | exact HR174_0.out)) | (with_reducible refine Kd.C_alloc ?_ _) | (with_reducible refine Kd.C_drewN ?_ _) | (with_reducible refine Kd.C_drew ?_)))
               (case side4 => exact HC174_0.out)
               rintro e w47 ⟨rfl,hb⟩
               have HS0_ := (hb.cell (World.block_lt_of_cell? _ _ (hHeld.1))).trans (hHeld.1)
               have HS1_ := (hb.cell (World.block_lt_of_cell? _ _ (hHeld.2.1))).trans (hHeld.2.1)
               have HS2_ := (hb.cell (World.block_lt_of_cell? _ _ (hHeld.2.2.1))).trans (hHeld.2.2.1)
               have HS3_ := (hb.cell (World.block_lt_of_cell? _ _ (hHeld.2.2.2))).trans (hHeld.2.2.2)
               refine ⟨_,rfl,?_⟩
               have n0_ := Aside0.mk (Kd.N_below (by (with_reducible repeat (first | apply Kd.N_alloc | apply Kd.N_drewN | apply Kd.N_drew)); exact HO_12.out) hb)
               have n1_ := Aside0.mk (Kd.V_below (by (with_reducible repeat (first | apply Kd.V_alloc | apply Kd.V_drewN | apply Kd.V_drew)); exact HL173_0.out) hb)
               have n2_ := Aside0.mk (Kd.V_below (by (with_reducible repeat (first | apply Kd.V_alloc | apply Kd.V_drewN | apply Kd.V_drew)); exact HL174_0.out) hb)
               have n3_ := Aside0.mk (Kd.V_below (by (with_reducible repeat (first | apply Kd.V_alloc | apply Kd.V_drewN | apply Kd.V_drew)); exact HL176_0.out) hb)
               have n4_ := Aside0.mk (Kd.V_below (by (with_reducible repeat (first | apply Kd.V_alloc | apply Kd.V_drewN | apply Kd.V_drew)); exact HL177_0.out) hb)
               have n5_ := Aside0.mk (Kd.C_below (by repeat (first | (with_reducible exact HR173_0.out) | (with_reducible refine Kd.C_alloc ?_ _) | (with_reducible refine Kd.C_drewN ?_ _) | (with_reducible refine Kd.C_drew ?_) | exact HR173_0.out)) hb)
               have n6_ := Aside0.mk (Kd.C_below (by repeat (first | (with_reducible exact HR174_0.out) | (with_reducible refine Kd.C_alloc ?_ _) | (with_reducible refine Kd.C_drewN ?_ _) | (with_reducible refine Kd.C_drew ?_) | exact HR174_0.out)) hb)
               have n7_ := Aside0.mk (Kd.C_below (by repeat (first | (with_reducible exact HR176_0.out) | (with_reducible refine Kd.C_alloc ?_ _) | (with_reducible refine Kd.C_drewN ?_ _) | (with_reducible refine Kd.C_drew ?_) | exact HR176_0.out)) hb)
               have n8_ := Aside0.mk (Kd.C_below (by repeat (first | (with_reducible exact HR177_0.out) | (with_reducible refine Kd.C_alloc ?_ _) | (with_reducible refine Kd.C_drewN ?_ _) | (with_reducible refine Kd.C_drew ?_) | exact HR177_0.out)) hb)
               have n9_ := Aside0.mk (below_step (by repeat (first | (with_reducible first | exact HB.out | apply below_alloc | apply pw_below_drewN | apply below_drew1) | exact HB.out)) hb)
               clear HO_12
               clear HL173_0
               clear HL174_0
               clear HL176_0
               clear HL177_0
               clear HR173_0
               clear HR174_0
               clear HR176_0
               clear HR177_0
               clear HB
               have HO_12 := n0_
               have HL173_0 := n1_
               have HL174_0 := n2_
               have HL176_0 := n3_
               have HL177_0 := n4_
               have HR173_0 := n5_
               have HR174_0 := n6_
               have HR176_0 := n7_
               have HR177_0 := n8_
               have HB := n9_
               clear n0_ n1_ n2_ n3_ n4_ n5_ n6_ n7_ n8_ n9_
               have HR179_0 := HR173_0
               have HL179_0 := HL173_0
               have HR180_0 := HR174_0
               have HL180_0 := HL174_0
               have HR182_0 := HR173_0
               have HL182_0 := HL173_0
               have HR183_0 := HR174_0
               have HL183_0 := HL174_0
               (try clear hb)
               (try clear hb2)
               (try clear hk)
               (try clear hi)
               refine hK.out _ _ ⟨HS0_,HS1_,HS2_,HS3_⟩ (fun hHeld => ?_)
               clear hK K
               refine norm_ (a' := ?_) ?_ ?_
               rotate_left
               ·show Act.put _ (some 57) _ = _
                simp only [Act.put,sA,sB,sC,i64_w,i32_w]
                rfl
               refine one_ (i := 17) (N := some 66) #[true,true,true,true,true,true,true,true,true,true,true,true,true,true,true,true,true,true,false,false,false,false,false,false,false,false,false,false,false,false,false,false,false,false,false,false,false,false,false,false] rfl rfl (one_of HT_.out (by kernel_rfl)) (by decide) (fun K hK => ?_)
               refine goes_ Try.func20 (by kernel_rfl) rfl #[.slice A173_0 (rd_L1 y170 x13_1).length c173_0,.slice A174_0 (rd_L1 y170 x14_2).length c174_0] (by rfl) rfl rfl (by (try simp only [List.map_toArray,List.map_cons,List.map_nil]); first | done | rfl | (simp only [List.length_drop,List.length_take]; rfl)) ?_
               with_reducible refine (collatorref07_Common.calls k2 _ _ (rd_L1 y170 x13_1) _ _ (rd_L1 y170 x14_2) t178 _ ?side1 ?side2 ?side3 ?side4 A35.out).mono ?_
               (case side1 => repeat (first | exact (by repeat (first | (with_reducible exact HR176_0.out) | (with_reducible refine Kd.C_alloc ?_ _) | (with_reducible refine Kd.C_drewN ?_ _) | (with_reducible refine Kd.C_drew ?_) | exact HR176_0.out)) | (with_reducible refine Kd.C_alloc ?_ _) | (with_reducible refine Kd.C_drewN ?_ _) | (with_reducible refine Kd.C_drew ?_)))
               (case side2 => exact HC176_0.out)
               (case side3 => repeat (first | exact (by repeat (first | (with_reducible exact HR177_0.out) | (with_reducible refine Kd.C_alloc ?_ _) | (with_reducible refine Kd.C_drewN ?_ _) | (with_reducible refine Kd.C_drew ?_) | exact HR177_0.out)) | (with_reducible refine Kd.C_alloc ?_ _) | (with_reducible refine Kd.C_drewN ?_ _) | (with_reducible refine Kd.C_drew ?_)))
               (case side4 => exact HC177_0.out)
               rintro e w' ⟨rfl,⟨nd,rfl⟩⟩
               refine ⟨_,rfl,?_⟩
               refine hK.out _ _ ⟨hHeld.1,hHeld.2.1,hHeld.2.2.1,hHeld.2.2.2⟩ (fun hHeld => ?_)
               clear hK K
               refine norm_ (a' := ?_) ?_ ?_
               rotate_left
               ·show Act.put _ (some 66) _ = _
                simp only [Act.put,sA,sB,sC,i64_w,i32_w]
                rfl
               refine pure_ (i := 18) (N := some 67) (v:=?_) (a':=?_) #[true,true,true,true,true,true,true,true,true,true,true,true,true,true,true,true,true,true,true,false,false,false,false,false,false,false,false,false,false,false,false,false,false,false,false,false,false,false,false,false] rfl rfl (any_of HT_.out (by kernel_rfl)) (fun _ _ _ h=>h) (Or.inl ⟨by rfl,?_⟩) ?_ ?_
               rotate_left
               ·intro w'
                go_simp
                with_reducible rfl
               rotate_left
               ·simp only [Act.put,sA,sB,sC,i64_w,i32_w]
                rfl
               refine pure_ (i := 19) (N := some 68) (v:=?_) (a':=?_) #[true,true,true,true,true,true,true,true,true,true,true,true,true,true,true,true,true,true,true,true,false,false,false,false,false,false,false,false,false,false,false,false,false,false,false,false,false,false,false,false] rfl rfl (any_of HT_.out (by kernel_rfl)) (fun _ _ _ h=>h) (Or.inl ⟨by rfl,?_⟩) ?_ ?_
               rotate_left
               ·intro w'
                go_simp
                with_reducible rfl
               rotate_left
               ·simp only [Act.put,sA,sB,sC,i64_w,i32_w]
                rfl
               refine pure_ (i := 20) (N := some 69) (v := undef) (a' := ?_) #[true,true,true,true,true,true,true,true,true,true,true,true,true,true,true,true,true,true,true,true,true,false,false,false,false,false,false,false,false,false,false,false,false,false,false,false,false,false,false,false] rfl rfl (any_of HT_.out (by kernel_rfl)) (fun _ _ _ h=>h) (Or.inr ⟨by rfl,rfl⟩) ?_ ?_
               rotate_left
               ·simp only [Act.put,sA,sB,sC,i64_w,i32_w]
                rfl
               refine pure_ (i := 21) (N := some 70) (v := undef) (a' := ?_) #[true,true,true,true,true,true,true,true,true,true,true,true,true,true,true,true,true,true,true,true,true,true,false,false,false,false,false,false,false,false,false,false,false,false,false,false,false,false,false,false] rfl rfl (any_of HT_.out (by kernel_rfl)) (fun _ _ _ h=>h) (Or.inr ⟨by rfl,rfl⟩) ?_ ?_
               rotate_left
               ·simp only [Act.put,sA,sB,sC,i64_w,i32_w]
                rfl
               refine pure_ (i := 22) (N := some 71) (v := undef) (a' := ?_) #[true,true,true,true,true,true,true,true,true,true,true,true,true,true,true,true,true,true,true,true,true,true,true,false,false,false,false,false,false,false,false,false,false,false,false,false,false,false,false,false] rfl rfl (any_of HT_.out (by kernel_rfl)) (fun _ _ _ h=>h) (Or.inr ⟨by rfl,rfl⟩) ?_ ?_
               rotate_left
               ·simp only [Act.put,sA,sB,sC,i64_w,i32_w]
                rfl
               refine pure_ (i := 23) (N := some 72) (v := undef) (a' := ?_) #[true,true,true,true,true,true,true,true,true,true,true,true,true,true,true,true,true,true,true,true,true,true,true,true,false,false,false,false,false,false,false,false,false,false,false,false,false,false,false,false] rfl rfl (any_of HT_.out (by kernel_rfl)) (fun _ _ _ h=>h) (Or.inr ⟨by rfl,rfl⟩) ?_ ?_
               rotate_left
               ·simp only [Act.put,sA,sB,sC,i64_w,i32_w]
                rfl
               refine pure_ (i := 24) (N := some 73) (v := undef) (a' := ?_) #[true,true,true,true,true,true,true,true,true,true,true,true,true,true,true,true,true,true,true,true,true,true,true,true,true,false,false,false,false,false,false,false,false,false,false,false,false,false,false,false] rfl rfl (any_of HT_.out (by kernel_rfl)) (fun _ _ _ h=>h) (Or.inr ⟨by rfl,rfl⟩) ?_ ?_
               rotate_left
               ·simp only [Act.put,sA,sB,sC,i64_w,i32_w]
                rfl
               refine pure_ (i := 25) (N := some 74) (v := undef) (a' := ?_) #[true,true,true,true,true,true,true,true,true,true,true,true,true,true,true,true,true,true,true,true,true,true,true,true,true,true,false,false,false,false,false,false,false,false,false,false,false,false,false,false] rfl rfl (any_of HT_.out (by kernel_rfl)) (fun _ _ _ h=>h) (Or.inr ⟨by rfl,rfl⟩) ?_ ?_
               rotate_left
               ·simp only [Act.put,sA,sB,sC,i64_w,i32_w]
                rfl
               refine pure_ (i := 26) (N := some 75) (v := undef) (a' := ?_) #[true,true,true,true,true,true,true,true,true,true,true,true,true,true,true,true,true,true,true,true,true,true,true,true,true,true,true,false,false,false,false,false,false,false,false,false,false,false,false,false] rfl rfl (any_of HT_.out (by kernel_rfl)) (fun _ _ _ h=>h) (Or.inr ⟨by rfl,rfl⟩) ?_ ?_
               rotate_left
               ·simp only [Act.put,sA,sB,sC,i64_w,i32_w]
                rfl
               refine pure_ (i := 27) (N := some 76) (v := undef) (a' := ?_) #[true,true,true,true,true,true,true,true,true,true,true,true,true,true,true,true,true,true,true,true,true,true,true,true,true,true,true,true,false,false,false,false,false,false,false,false,false,false,false,false] rfl rfl (any_of HT_.out (by kernel_rfl)) (fun _ _ _ h=>h) (Or.inr ⟨by rfl,rfl⟩) ?_ ?_
               rotate_left
               ·simp only [Act.put,sA,sB,sC,i64_w,i32_w]
                rfl
               refine pure_ (i := 28) (N := some 77) (v := undef) (a' := ?_) #[true,true,true,true,true,true,true,true,true,true,true,true,true,true,true,true,true,true,true,true,true,true,true,true,true,true,true,true,true,false,false,false,false,false,false,false,false,false,false,false] rfl rfl (any_of HT_.out (by kernel_rfl)) (fun _ _ _ h=>h) (Or.inr ⟨by rfl,rfl⟩) ?_ ?_
               rotate_left
               ·simp only [Act.put,sA,sB,sC,i64_w,i32_w]
                rfl
               refine pure_ (i := 29) (N := some 78) (v := undef) (a' := ?_) #[true,true,true,true,true,true,true,true,true,true,true,true,true,true,true,true,true,true,true,true,true,true,true,true,true,true,true,true,true,true,false,false,false,false,false,false,false,false,false,false] rfl rfl (any_of HT_.out (by kernel_rfl)) (fun _ _ _ h=>h) (Or.inr ⟨by rfl,rfl⟩) ?_ ?_
               rotate_left
               ·simp only [Act.put,sA,sB,sC,i64_w,i32_w]
                rfl
               refine pure_ (i := 30) (N := some 79) (v := undef) (a' := ?_) #[true,true,true,true,true,true,true,true,true,true,true,true,true,true,true,true,true,true,true,true,true,true,true,true,true,true,true,true,true,true,true,false,false,false,false,false,false,false,false,false] rfl rfl (any_of HT_.out (by kernel_rfl)) (fun _ _ _ h=>h) (Or.inr ⟨by rfl,rfl⟩) ?_ ?_
               rotate_left
               ·simp only [Act.put,sA,sB,sC,i64_w,i32_w]
                rfl
               refine pure_ (i := 31) (N := some 80) (v := undef) (a' := ?_) #[true,true,true,true,true,true,true,true,true,true,true,true,true,true,true,true,true,true,true,true,true,true,true,true,true,true,true,true,true,true,true,true,false,false,false,false,false,false,false,false] rfl rfl (any_of HT_.out (by kernel_rfl)) (fun _ _ _ h=>h) (Or.inr ⟨by rfl,rfl⟩) ?_ ?_
               rotate_left
               ·simp only [Act.put,sA,sB,sC,i64_w,i32_w]
                rfl
               refine pure_ (i := 32) (N := some 81) (v := undef) (a' := ?_) #[true,true,true,true,true,true,true,true,true,true,true,true,true,true,true,true,true,true,true,true,true,true,true,true,true,true,true,true,true,true,true,true,true,false,false,false,false,false,false,false] rfl rfl (any_of HT_.out (by kernel_rfl)) (fun _ _ _ h=>h) (Or.inr ⟨by rfl,rfl⟩) ?_ ?_
               rotate_left
               ·simp only [Act.put,sA,sB,sC,i64_w,i32_w]
                rfl
               refine pure_ (i := 33) (N := some 82) (v := undef) (a' := ?_) #[true,true,true,true,true,true,true,true,true,true,true,true,true,true,true,true,true,true,true,true,true,true,true,true,true,true,true,true,true,true,true,true,true,true,false,false,false,false,false,false] rfl rfl (any_of HT_.out (by kernel_rfl)) (fun _ _ _ h=>h) (Or.inr ⟨by rfl,rfl⟩) ?_ ?_
               rotate_left
               ·simp only [Act.put,sA,sB,sC,i64_w,i32_w]
                rfl
               refine pure_ (i := 34) (N := some 83) (v := undef) (a' := ?_) #[true,true,true,true,true,true,true,true,true,true,true,true,true,true,true,true,true,true,true,true,true,true,true,true,true,true,true,true,true,true,true,true,true,true,true,false,false,false,false,false] rfl rfl (any_of HT_.out (by kernel_rfl)) (fun _ _ _ h=>h) (Or.inr ⟨by rfl,rfl⟩) ?_ ?_
               rotate_left
               ·simp only [Act.put,sA,sB,sC,i64_w,i32_w]
                rfl
               refine pure_ (i := 35) (N := some 84) (v := undef) (a' := ?_) #[true,true,true,true,true,true,true,true,true,true,true,true,true,true,true,true,true,true,true,true,true,true,true,true,true,true,true,true,true,true,true,true,true,true,true,true,false,false,false,false] rfl rfl (any_of HT_.out (by kernel_rfl)) (fun _ _ _ h=>h) (Or.inr ⟨by rfl,rfl⟩) ?_ ?_
               rotate_left
               ·simp only [Act.put,sA,sB,sC,i64_w,i32_w]
                rfl
               refine pure_ (i := 36) (N := some 85) (v := undef) (a' := ?_) #[true,true,true,true,true,true,true,true,true,true,true,true,true,true,true,true,true,true,true,true,true,true,true,true,true,true,true,true,true,true,true,true,true,true,true,true,true,false,false,false] rfl rfl (any_of HT_.out (by kernel_rfl)) (fun _ _ _ h=>h) (Or.inr ⟨by rfl,rfl⟩) ?_ ?_
               rotate_left
               ·simp only [Act.put,sA,sB,sC,i64_w,i32_w]
                rfl
               refine pure_ (i := 37) (N := some 86) (v := undef) (a' := ?_) #[true,true,true,true,true,true,true,true,true,true,true,true,true,true,true,true,true,true,true,true,true,true,true,true,true,true,true,true,true,true,true,true,true,true,true,true,true,true,false,false] rfl rfl (any_of HT_.out (by kernel_rfl)) (fun _ _ _ h=>h) (Or.inr ⟨by rfl,rfl⟩) ?_ ?_
               rotate_left
               ·simp only [Act.put,sA,sB,sC,i64_w,i32_w]
                rfl
               refine pure_ (i := 38) (N := some 87) (v := undef) (a' := ?_) #[true,true,true,true,true,true,true,true,true,true,true,true,true,true,true,true,true,true,true,true,true,true,true,true,true,true,true,true,true,true,true,true,true,true,true,true,true,true,true,false] rfl rfl (any_of HT_.out (by kernel_rfl)) (fun _ _ _ h=>h) (Or.inr ⟨by rfl,rfl⟩) ?_ ?_
               rotate_left
               ·simp only [Act.put,sA,sB,sC,i64_w,i32_w]
                rfl
               refine pure_ (i := 39) (N := some 88) (v:=?_) (a':=?_) #[true,true,true,true,true,true,true,true,true,true,true,true,true,true,true,true,true,true,true,true,true,true,true,true,true,true,true,true,true,true,true,true,true,true,true,true,true,true,true,true] rfl rfl (any_of HT_.out (by kernel_rfl)) (fun _ _ _ h=>h) (Or.inl ⟨by rfl,?_⟩) ?_ ?_
               rotate_left
               ·intro w'
                go_simp
                with_reducible rfl
               rotate_left
               ·simp only [Act.put,sA,sB,sC,i64_w,i32_w]
                rfl
               refine done_ (done_of HT_.out (by kernel_rfl)) ?_
               try go_wp2
               go_ret
               exact ⟨by first | rfl | (simp [errW_none,errW_some] <;> rfl) | (simp only [← hji7,← hji10]; first | rfl | (simp [errW_none,errW_some] <;> rfl)) | (simp [*,errW_none,errW_some] <;> rfl),by repeat (first | (with_reducible first | exact HB.out | apply below_alloc | apply pw_below_drewN | apply below_drew1) | exact HB.out)⟩
             ·rw [if_neg c33] at H
              exact absurd H (by simp)
            ·rw [if_neg c32] at H
             exact absurd H (by simp)
           ·rw [if_neg c31] at H
            exact absurd H (by simp)
          ·rw [if_neg c30] at H
           have c30b0 : decide (x14_2 < (y170.length : Int)) = false := decide_eq_false c30
           clear c30
           by_cases c48 : 0 ≤ x13_1
           ·rw [if_pos c48] at H
            have c48b0 : decide (0 ≤ x13_1) = true := decide_eq_true c48
            clear c48
            by_cases c49 : x13_1 < (y170.length : Int)
            ·rw [if_pos c49] at H
             have c49b0 : decide (x13_1 < (y170.length : Int)) = true := decide_eq_true c49
             clear c49
             have c50b0 := eq_true (of_decide_eq_true (by first | (with_reducible assumption) | assumption) : 0 ≤ x13_1)
             by_cases c51 : x13_1 ≤ (y170.length : Int)
             ·rw [if_pos c51] at H
              have c51b0 := eq_true c51
              have c51b1 : decide (x13_1 ≤ (y170.length : Int)) = true := decide_eq_true c51
              clear c51
              obtain ⟨y186,hy186⟩ : ∃ y_ : List (List ByteArray),y_ = (y170.take (x13_1 : Int).toNat) := ⟨_,rfl⟩
              replace H : ((alike_Best.f k2 (rd_L1 y170 x13_1) y186).bind fun bt191 => ((collatorref07_Best.f k2 (rd_L1 y170 x13_1) (y170.take (x13_1 : Int).toNat)).bind fun bt199 => (if bt191.1 = bt199.1 then (if bt191.2 = bt199.2 then (collatorlaw07_AlikeTells.l0 k2 t150 y170 (wrap64 (x13_1 + 1))) else (some false)) else (some false)))) = some r := by first | (rw [hy186]; with_reducible exact H) | (have H2_ := (Option.bind_some _ _).symm.trans H; rw [hy186]; with_reducible exact H2_) | (have H2_ := (Option.bind_some _ _).symm.trans H; with_reducible exact H2_) | with_reducible exact H | (rw [hy186]; exact H) | exact H
              have Ny186 := Aside0.mk hy186
              clear hy186
              replace H := Option.bind_eq_some_iff.mp H
              obtain ⟨⟨t191,t192⟩,A520,H⟩ := H
              replace H : ((collatorref07_Best.f k2 (rd_L1 y170 x13_1) (y170.take (x13_1 : Int).toNat)).bind fun bt199 => (if t191 = bt199.1 then (if t192 = bt199.2 then (collatorlaw07_AlikeTells.l0 k2 t150 y170 (wrap64 (x13_1 + 1))) else (some false)) else (some false))) = some r := H
              have A52 := Aside0.mk A520
              clear A520
              have c53b0 := eq_true (of_decide_eq_true (by first | (with_reducible assumption) | assumption) : 0 ≤ x13_1)
              have c54b0 := eq_true (of_decide_eq_true (by first | (with_reducible assumption) | assumption) : x13_1 ≤ (y170.length : Int))
              obtain ⟨y194,hy194⟩ : ∃ y_ : List (List ByteArray),y_ = (y170.take (x13_1 : Int).toNat) := ⟨_,rfl⟩
              replace H : ((collatorref07_Best.f k2 (rd_L1 y170 x13_1) y194).bind fun bt199 => (if t191 = bt199.1 then (if t192 = bt199.2 then (collatorlaw07_AlikeTells.l0 k2 t150 y170 (wrap64 (x13_1 + 1))) else (some false)) else (some false))) = some r := by first | (rw [hy194]; with_reducible exact H) | (have H2_ := (Option.bind_some _ _).symm.trans H; rw [hy194]; with_reducible exact H2_) | (have H2_ := (Option.bind_some _ _).symm.trans H; with_reducible exact H2_) | with_reducible exact H | (rw [hy194]; exact H) | exact H
              have Ny194 := Aside0.mk hy194
              clear hy194
              replace H := Option.bind_eq_some_iff.mp H
              obtain ⟨⟨t199,t200⟩,A550,H⟩ := H
              replace H : (if t191 = t199 then (if t192 = t200 then (collatorlaw07_AlikeTells.l0 k2 t150 y170 (wrap64 (x13_1 + 1))) else (some false)) else (some false)) = some r := H
              have A55 := Aside0.mk A550
              clear A550
              by_cases c56 : t191 = t199
              ·rw [if_pos c56] at H
               have c56b0 : (t191 == t199) = true := beq_iff_eq.mpr c56
               have c56b1 : (t191 != t199) = false := bne_eq_false_iff_eq.mpr c56
               clear c56
               by_cases c57 : t192 = t200
               ·rw [if_pos c57] at H
                have c57b0 : (t192 == t200) = true := beq_iff_eq.mpr c57
                have c57b1 : (t192 != t200) = false := bne_eq_false_iff_eq.mpr c57
                clear c57
                have H' := Aside0.mk H
                clear H
                try go_wp2
                have n0_ := Aside0.mk (Kd.N_drew HO_12.out)
                have n1_ := Aside0.mk (below_drew1 HB.out)
                clear HO_12
                clear HB
                have HO_12 := n0_
                have HB := n1_
                clear n0_ n1_
                have p185 : 0 ≤ (x13_1 : Int) := of_decide_eq_true (by first | (with_reducible assumption) | assumption)
                have q185 : x13_1 < (y170.length : Int) := of_decide_eq_true (by first | (with_reducible assumption) | assumption)
                obtain ⟨ad185,A185_0,c185_0,e185,hx185_0,hl185_0,hi185_0⟩ := at_L1 (Kd.N_reads' HO_12.out).2.2 x13_1 p185 q185
                cases e185
                obtain ⟨ce185,hce185,hMe185,hcc185⟩ := Kd.N_get HO_12.out [] x13_1 p185 (by first | exact q185 | exact of_decide_eq_true (by first | (with_reducible assumption) | assumption) | (have e_ := (Kd.N_reads' HO_12.out).1; omega))
                obtain ⟨ua185_0,uc185_0,rfl,ul185_0,ge185_0⟩ := Kd.FK_slice_open hMe185
                have hv185_0 := hcc185 0 _ rfl
                rw [Nat.add_zero,show ((Kd.slice 9 Kd.string)).sz = 1 from rfl,Nat.mul_one] at hv185_0
                replace hv185_0 := Option.some.inj (hv185_0.symm.trans hx185_0)
                injection hv185_0 with hva_ hvn_ hvc_
                rw [hva_] at ge185_0
                rw [hvc_] at ul185_0
                have HL185_0 := Aside0.mk (show Kd.V Kd.string 9 _ w.heap.size _ _ (rd_L1 y170 x13_1) from Kd.V_mk ul185_0 ge185_0)
                clear hva_ hvn_ hvc_ ge185_0 ul185_0
                clear hcc185 hce185
                have HR185_0 := Aside0.mk hi185_0
                have HC185_0 := Aside0.mk hl185_0
                clear hi185_0 hl185_0
                replace p185 := eq_true p185
                replace q185 := eq_true q185
                have q59 : (x13_1 : Int) ≤ ((y170.length : Int) : Int) := of_decide_eq_true (by first | (with_reducible assumption) | assumption)
                obtain ⟨i059,hi059,_,hsz59,_⟩ := info_parts info22
                have hroom59 : y170.length ≤ co29 := (Kd.N_reads' HO_12.out).2.1
                have hC59 : Kd.F (Kd.slice 9 Kd.string) _ _ (some ad185) y170.length y170 := (Kd.V_at (base := w.heap.size) (Kd.N_V HO_12.out)).2.2
                have hcut59 := cut_to (P := Try.prog) 26 22 .i64 Try.underlying26 hi059 (some ad185) y170.length co29 x13_1 (of_decide_eq_true (by first | (with_reducible assumption) | assumption)) q59 hroom59
                have hr59 := Kd.F_take (m := (x13_1 : Int).toNat) hC59 (by omega)
                have hy59 : y186.length = (x13_1 : Int).toNat := (by rw [Ny186.out,List.length_take]; omega)
                rw [← Ny186.out] at hr59
                rw [← hy59] at hcut59
                have HO190 := Aside0.mk (show Kd.V (Kd.slice 9 Kd.string) 22 _ w.heap.size _ (.slice (some ad185) y186.length co29) y186 from Kd.V_mk (by omega) hr59)
                have HC190 := Aside0.mk (show y186.length ≤ co29 from by omega)
                clear hr59 hC59 hroom59 hi059 hsz59
                have KY59 := Aside0.mk hy59
                clear hy59
                replace q59 := eq_true q59
                refine start_ (n := 13) (S := fun w' => w'.cell? (ad185.add (x13_1).toNat) = some (.slice A185_0 (rd_L1 y170 x13_1).length c185_0)) (ds := []) #[false,false,false,false,false,false,false,false,false,false,false,false,false] (by kernel_rfl) rfl rfl (hx185_0) (fun hHeld => ?_); refine with_tabW collatorlaw07_AlikeTells.tab11 collatorlaw07_AlikeTells.bits11 (fun HT_ HW_ => ?_)
                generalize wr.drew = w58 at HO_12 HB HL185_0 HO190 HR185_0 hx185_0 hHeld ⊢
                refine pure_ (i := 0) (N := some 90) (v:=?_) (a':=?_) #[true,false,false,false,false,false,false,false,false,false,false,false,false] rfl rfl (any_of HT_.out (by kernel_rfl)) (fun _ _ _ h=>h) (Or.inl ⟨by rfl,?_⟩) ?_ ?_
                rotate_left
                ·intro w'
                 go_simp
                 with_reducible rfl
                rotate_left
                ·simp only [Act.put,sA,sB,sC,i64_w,i32_w]
                 rfl
                refine pure_ (i := 1) (N := some 91) (v:=?_) (a':=?_) #[true,true,false,false,false,false,false,false,false,false,false,false,false] rfl rfl (any_of HT_.out (by kernel_rfl)) (fun _ _ _ h=>h) (Or.inl ⟨by rfl,?_⟩) ?_ ?_
                rotate_left
                ·intro w'
                 go_simp
                 with_reducible rfl
                rotate_left
                ·simp only [Act.put,sA,sB,sC,i64_w,i32_w]
                 rfl
                refine pure_ (i := 2) (N := some 92) (v:=?_) (a':=?_) #[true,true,true,false,false,false,false,false,false,false,false,false,false] rfl rfl (any_of HT_.out (by kernel_rfl)) (fun _ _ _ h=>h) (Or.inl ⟨by rfl,?_⟩) ?_ ?_
                rotate_left
                ·intro w'
                 go_simp
                 with_reducible rfl
                rotate_left
                ·simp only [Act.put,sA,sB,sC,i64_w,i32_w]
                 rfl
                refine pure_ (i := 4) (N := some 94) (v:=?_) (a':=?_) #[true,true,true,false,true,false,false,false,false,false,false,false,false] rfl rfl (any_of HT_.out (by kernel_rfl)) (fun _ _ _ h=>h) (Or.inl ⟨by rfl,?_⟩) ?_ ?_
                rotate_left
                ·intro w'
                 go_simp
                 with_reducible rfl
                rotate_left
                ·simp only [Act.put,sA,sB,sC,i64_w,i32_w]
                 rfl
                refine pure_ (i := 5) (N := some 95) (v:=?_) (a':=?_) #[true,true,true,false,true,true,false,false,false,false,false,false,false] rfl rfl (any_of HT_.out (by kernel_rfl)) (fun _ _ _ h=>h) (Or.inl ⟨by rfl,?_⟩) ?_ ?_
                rotate_left
                ·intro w'
                 go_simp
                 with_reducible rfl
                rotate_left
                ·simp only [Act.put,sA,sB,sC,i64_w,i32_w]
                 rfl
                refine pure_ (i := 6) (N := some 96) (v:=?_) (a':=?_) #[true,true,true,false,true,true,true,false,false,false,false,false,false] rfl rfl (any_of HT_.out (by kernel_rfl)) (fun _ _ _ h=>h) (Or.inl ⟨by rfl,?_⟩) ?_ ?_
                rotate_left
                ·intro w'
                 go_simp
                 with_reducible rfl
                rotate_left
                ·simp only [Act.put,sA,sB,sC,i64_w,i32_w]
                 rfl
                refine take_ (i := 3) (N := some 93) (v:=?_) (a':=?_) #[true,true,true,true,true,true,true,false,false,false,false,false,false] rfl rfl (take_ofW HT_.out HW_.out (by kernel_rfl)) (fun _ _ _ h=>h) (Or.inl ⟨by rfl,?_⟩) hHeld ?_ ?_
                rotate_left
                ·intro w' s0
                 go_simp
                 with_reducible rfl
                rotate_left
                ·simp only [Act.put,sA,sB,sC,i64_w,i32_w]
                 rfl
                refine one_ (i := 7) (N := some 97) #[true,true,true,true,true,true,true,true,false,false,false,false,false] rfl rfl (one_of HT_.out (by kernel_rfl)) (by decide) (fun K hK => ?_)
                refine goes_ Try.func23 (by kernel_rfl) rfl #[.slice A185_0 (rd_L1 y170 x13_1).length c185_0,.slice (some ad185) y186.length co29] (by rfl) rfl rfl (by (try simp only [List.map_toArray,List.map_cons,List.map_nil]); first | done | rfl | (simp only [List.length_drop,List.length_take]; rfl)) ?_
                with_reducible refine (alike_Best.calls k2 _ _ (rd_L1 y170 x13_1) _ _ y186 t191 t192 _ ?side1 ?side2 ?side3 ?side4 A52.out).mono ?_
                (case side1 => repeat (first | exact (by repeat (first | (with_reducible exact HR185_0.out) | (with_reducible refine Kd.C_alloc ?_ _) | (with_reducible refine Kd.C_drewN ?_ _) | (with_reducible refine Kd.C_drew ?_) | exact HR185_0.out)) | (with_reducible refine Kd.C_alloc ?_ _) | (with_reducible refine Kd.C_drewN ?_ _) | (with_reducible refine Kd.C_drew ?_)))
                (case side2 => exact HC185_0.out)
                (case side3 => repeat (first | exact (Kd.V_reads' HO190.out).2.2 | (with_reducible refine Kd.C_alloc ?_ _) | (with_reducible refine Kd.C_drewN ?_ _) | (with_reducible refine Kd.C_drew ?_)))
                (case side4 => exact (Kd.V_reads' HO190.out).2.1)
                rintro e w60 ⟨rfl,hb⟩
                have HS0_ := (hb.cell (World.block_lt_of_cell? _ _ (hHeld))).trans (hHeld)
                refine ⟨_,rfl,?_⟩
                have n0_ := Aside0.mk (Kd.N_below (by (with_reducible repeat (first | apply Kd.N_alloc | apply Kd.N_drewN | apply Kd.N_drew)); exact HO_12.out) hb)
                have n1_ := Aside0.mk (Kd.V_below (by (with_reducible repeat (first | apply Kd.V_alloc | apply Kd.V_drewN | apply Kd.V_drew)); exact HL185_0.out) hb)
                have n2_ := Aside0.mk (Kd.V_below (by (with_reducible repeat (first | apply Kd.V_alloc | apply Kd.V_drewN | apply Kd.V_drew)); exact HO190.out) hb)
                have n3_ := Aside0.mk (Kd.C_below (by repeat (first | (with_reducible exact HR185_0.out) | (with_reducible refine Kd.C_alloc ?_ _) | (with_reducible refine Kd.C_drewN ?_ _) | (with_reducible refine Kd.C_drew ?_) | exact HR185_0.out)) hb)
                have n4_ := Aside0.mk (below_step (by repeat (first | (with_reducible first | exact HB.out | apply below_alloc | apply pw_below_drewN | apply below_drew1) | exact HB.out)) hb)
                clear HO_12
                clear HL185_0
                clear HO190
                clear HR185_0
                clear HB
                have HO_12 := n0_
                have HL185_0 := n1_
                have HO190 := n2_
                have HR185_0 := n3_
                have HB := n4_
                clear n0_ n1_ n2_ n3_ n4_
                (try clear hb)
                (try clear hb2)
                (try clear hk)
                (try clear hi)
                refine hK.out _ _ (HS0_) (fun hHeld => ?_)
                clear hK K
                refine norm_ (a' := ?_) ?_ ?_
                rotate_left
                ·show Act.put _ (some 97) _ = _
                 simp only [Act.put,sA,sB,sC,i64_w,i32_w]
                 rfl
                refine pure_ (i := 8) (N := some 89) (v:=?_) (a':=?_) #[true,true,true,true,true,true,true,true,true,false,false,false,false] rfl rfl (any_of HT_.out (by kernel_rfl)) (fun _ _ _ h=>h) (Or.inl ⟨by rfl,?_⟩) ?_ ?_
                rotate_left
                ·intro w'
                 go_simp
                 with_reducible rfl
                rotate_left
                ·simp only [Act.put,sA,sB,sC,i64_w,i32_w]
                 rfl
                refine pure_ (i := 9) (N := some 98) (v:=?_) (a':=?_) #[true,true,true,true,true,true,true,true,true,true,false,false,false] rfl rfl (any_of HT_.out (by kernel_rfl)) (fun _ _ _ h=>h) (Or.inl ⟨by rfl,?_⟩) ?_ ?_
                rotate_left
                ·intro w'
                 go_simp
                 with_reducible rfl
                rotate_left
                ·simp only [Act.put,sA,sB,sC,i64_w,i32_w]
                 rfl
                refine pure_ (i := 10) (N := some 99) (v:=?_) (a':=?_) #[true,true,true,true,true,true,true,true,true,true,true,false,false] rfl rfl (any_of HT_.out (by kernel_rfl)) (fun _ _ _ h=>h) (Or.inl ⟨by rfl,?_⟩) ?_ ?_
                rotate_left
                ·intro w'
                 go_simp
                 with_reducible rfl
                rotate_left
                ·simp only [Act.put,sA,sB,sC,i64_w,i32_w]
                 rfl
                refine pure_ (i := 11) (N := some 15) (v:=?_) (a':=?_) #[true,true,true,true,true,true,true,true,true,true,true,true,false] rfl rfl (any_of HT_.out (by kernel_rfl)) (fun _ _ _ h=>h) (Or.inl ⟨by rfl,?_⟩) ?_ ?_
                rotate_left
                ·intro w'
                 go_simp
                 with_reducible rfl
                rotate_left
                ·simp only [Act.put,sA,sB,sC,i64_w,i32_w]
                 rfl
                refine pure_ (i := 12) (N := some 16) (v:=?_) (a':=?_) #[true,true,true,true,true,true,true,true,true,true,true,true,true] rfl rfl (any_of HT_.out (by kernel_rfl)) (fun _ _ _ h=>h) (Or.inl ⟨by rfl,?_⟩) ?_ ?_
                rotate_left
                ·intro w'
                 go_simp
                 with_reducible rfl
                rotate_left
                ·simp only [Act.put,sA,sB,sC,i64_w,i32_w]
                 rfl
                refine done_ (done_of HT_.out (by kernel_rfl)) ?_
                try go_wp2
                have n0_ := Aside0.mk (Kd.N_drew HO_12.out)
                have n1_ := Aside0.mk (Kd.V_drew HL185_0.out)
                have n2_ := Aside0.mk (Kd.V_drew HO190.out)
                have n3_ := Aside0.mk (Kd.C_drew HR185_0.out)
                have n4_ := Aside0.mk (below_drew1 HB.out)
                clear HO_12
                clear HL185_0
                clear HO190
                clear HR185_0
                clear HB
                have HO_12 := n0_
                have HL185_0 := n1_
                have HO190 := n2_
                have HR185_0 := n3_
                have HB := n4_
                clear n0_ n1_ n2_ n3_ n4_
                have p193 : 0 ≤ (x13_1 : Int) := of_decide_eq_true (by first | (with_reducible assumption) | assumption)
                have q193 : x13_1 < (y170.length : Int) := of_decide_eq_true (by first | (with_reducible assumption) | assumption)
                obtain ⟨ad193,A193_0,c193_0,e193,hx193_0,hl193_0,hi193_0⟩ := at_L1 (Kd.N_reads' HO_12.out).2.2 x13_1 p193 q193
                obtain rfl : ad185 = ad193 := (by injection e193)
                obtain ⟨ce193,hce193,hMe193,hcc193⟩ := Kd.N_get HO_12.out [] x13_1 p193 (by first | exact q193 | exact of_decide_eq_true (by first | (with_reducible assumption) | assumption) | (have e_ := (Kd.N_reads' HO_12.out).1; omega))
                obtain ⟨ua193_0,uc193_0,rfl,ul193_0,ge193_0⟩ := Kd.FK_slice_open hMe193
                have hv193_0 := hcc193 0 _ rfl
                rw [Nat.add_zero,show ((Kd.slice 9 Kd.string)).sz = 1 from rfl,Nat.mul_one] at hv193_0
                replace hv193_0 := Option.some.inj (hv193_0.symm.trans hx193_0)
                injection hv193_0 with hva_ hvn_ hvc_
                rw [hva_] at ge193_0
                rw [hvc_] at ul193_0
                have HL193_0 := Aside0.mk (show Kd.V Kd.string 9 _ w.heap.size _ _ (rd_L1 y170 x13_1) from Kd.V_mk ul193_0 ge193_0)
                clear hva_ hvn_ hvc_ ge193_0 ul193_0
                clear hcc193 hce193
                have HR193_0 := Aside0.mk hi193_0
                have HC193_0 := Aside0.mk hl193_0
                clear hi193_0 hl193_0
                replace p193 := eq_true p193
                replace q193 := eq_true q193
                have q62 : (x13_1 : Int) ≤ ((y170.length : Int) : Int) := of_decide_eq_true (by first | (with_reducible assumption) | assumption)
                obtain ⟨i062,hi062,_,hsz62,_⟩ := info_parts info22
                have hroom62 : y170.length ≤ co29 := (Kd.N_reads' HO_12.out).2.1
                have hC62 : Kd.F (Kd.slice 9 Kd.string) _ _ (some ad185) y170.length y170 := (Kd.V_at (base := w.heap.size) (Kd.N_V HO_12.out)).2.2
                have hcut62 := cut_to (P := Try.prog) 26 22 .i64 Try.underlying26 hi062 (some ad185) y170.length co29 x13_1 (of_decide_eq_true (by first | (with_reducible assumption) | assumption)) q62 hroom62
                have hr62 := Kd.F_take (m := (x13_1 : Int).toNat) hC62 (by omega)
                have hy62 : y194.length = (x13_1 : Int).toNat := (by rw [Ny194.out,List.length_take]; omega)
                rw [← Ny194.out] at hr62
                rw [← hy62] at hcut62
                have HO198 := Aside0.mk (show Kd.V (Kd.slice 9 Kd.string) 22 _ w.heap.size _ (.slice (some ad185) y194.length co29) y194 from Kd.V_mk (by omega) hr62)
                have HC198 := Aside0.mk (show y194.length ≤ co29 from by omega)
                clear hr62 hC62 hroom62 hi062 hsz62
                have KY62 := Aside0.mk hy62
                clear hy62
                replace q62 := eq_true q62
                refine start_ (n := 13) (S := fun w' => w'.cell? (ad185.add (x13_1).toNat) = some (.slice A193_0 (rd_L1 y170 x13_1).length c193_0)) (ds := []) #[false,false,false,false,false,false,false,false,false,false,false,false,false] (by kernel_rfl) rfl rfl (hx193_0) (fun hHeld => ?_); refine with_tabW collatorlaw07_AlikeTells.tab12 collatorlaw07_AlikeTells.bits12 (fun HT_ HW_ => ?_)
                generalize w60.drew = w61 at HO_12 HL185_0 HO190 HR185_0 HB HL193_0 HO198 HR193_0 hx193_0 hHeld ⊢
                refine pure_ (i := 0) (N := some 101) (v:=?_) (a':=?_) #[true,false,false,false,false,false,false,false,false,false,false,false,false] rfl rfl (any_of HT_.out (by kernel_rfl)) (fun _ _ _ h=>h) (Or.inl ⟨by rfl,?_⟩) ?_ ?_
                rotate_left
                ·intro w'
                 go_simp
                 with_reducible rfl
                rotate_left
                ·simp only [Act.put,sA,sB,sC,i64_w,i32_w]
                 rfl
                refine pure_ (i := 1) (N := some 102) (v:=?_) (a':=?_) #[true,true,false,false,false,false,false,false,false,false,false,false,false] rfl rfl (any_of HT_.out (by kernel_rfl)) (fun _ _ _ h=>h) (Or.inl ⟨by rfl,?_⟩) ?_ ?_
                rotate_left
                ·intro w'
                 go_simp
                 with_reducible rfl
                rotate_left
                ·simp only [Act.put,sA,sB,sC,i64_w,i32_w]
                 rfl
                refine pure_ (i := 2) (N := some 103) (v:=?_) (a':=?_) #[true,true,true,false,false,false,false,false,false,false,false,false,false] rfl rfl (any_of HT_.out (by kernel_rfl)) (fun _ _ _ h=>h) (Or.inl ⟨by rfl,?_⟩) ?_ ?_
                rotate_left
                ·intro w'
                 go_simp
                 with_reducible rfl
                rotate_left
                ·simp only [Act.put,sA,sB,sC,i64_w,i32_w]
                 rfl
                refine pure_ (i := 4) (N := some 105) (v:=?_) (a':=?_) #[true,true,true,false,true,false,false,false,false,false,false,false,false] rfl rfl (any_of HT_.out (by kernel_rfl)) (fun _ _ _ h=>h) (Or.inl ⟨by rfl,?_⟩) ?_ ?_
                rotate_left
                ·intro w'
                 go_simp
                 with_reducible rfl
                rotate_left
                ·simp only [Act.put,sA,sB,sC,i64_w,i32_w]
                 rfl
                refine pure_ (i := 5) (N := some 106) (v:=?_) (a':=?_) #[true,true,true,false,true,true,false,false,false,false,false,false,false] rfl rfl (any_of HT_.out (by kernel_rfl)) (fun _ _ _ h=>h) (Or.inl ⟨by rfl,?_⟩) ?_ ?_
                rotate_left
                ·intro w'
                 go_simp
                 with_reducible rfl
                rotate_left
                ·simp only [Act.put,sA,sB,sC,i64_w,i32_w]
                 rfl
                refine pure_ (i := 6) (N := some 107) (v:=?_) (a':=?_) #[true,true,true,false,true,true,true,false,false,false,false,false,false] rfl rfl (any_of HT_.out (by kernel_rfl)) (fun _ _ _ h=>h) (Or.inl ⟨by rfl,?_⟩) ?_ ?_
                rotate_left
                ·intro w'
                 go_simp
                 with_reducible rfl
                rotate_left
                ·simp only [Act.put,sA,sB,sC,i64_w,i32_w]
                 rfl
                refine take_ (i := 3) (N := some 104) (v:=?_) (a':=?_) #[true,true,true,true,true,true,true,false,false,false,false,false,false] rfl rfl (take_ofW HT_.out HW_.out (by kernel_rfl)) (fun _ _ _ h=>h) (Or.inl ⟨by rfl,?_⟩) hHeld ?_ ?_
                rotate_left
                ·intro w' s0
                 go_simp
                 with_reducible rfl
                rotate_left
                ·simp only [Act.put,sA,sB,sC,i64_w,i32_w]
                 rfl
                refine one_ (i := 7) (N := some 108) #[true,true,true,true,true,true,true,true,false,false,false,false,false] rfl rfl (one_of HT_.out (by kernel_rfl)) (by decide) (fun K hK => ?_)
                refine goes_ Try.func24 (by kernel_rfl) rfl #[.slice A193_0 (rd_L1 y170 x13_1).length c193_0,.slice (some ad185) y194.length co29] (by rfl) rfl rfl (by (try simp only [List.map_toArray,List.map_cons,List.map_nil]); first | done | (rw [show y194.length = y186.length from KY62.out.trans KY59.out.symm]; rfl) | (rw [show y194.length = y186.length from KY62.out.trans KY59.out.symm]; done) | rfl | (simp only [List.length_drop,List.length_take]; rfl)) ?_
                with_reducible refine (collatorref07_Best.calls k2 _ _ (rd_L1 y170 x13_1) _ _ y194 t199 t200 _ ?side1 ?side2 ?side3 ?side4 A55.out).mono ?_
                (case side1 => repeat (first | exact (by repeat (first | (with_reducible exact HR193_0.out) | (with_reducible refine Kd.C_alloc ?_ _) | (with_reducible refine Kd.C_drewN ?_ _) | (with_reducible refine Kd.C_drew ?_) | exact HR193_0.out)) | (with_reducible refine Kd.C_alloc ?_ _) | (with_reducible refine Kd.C_drewN ?_ _) | (with_reducible refine Kd.C_drew ?_)))
                (case side2 => exact HC193_0.out)
                (case side3 => repeat (first | exact (Kd.V_reads' HO198.out).2.2 | (with_reducible refine Kd.C_alloc ?_ _) | (with_reducible refine Kd.C_drewN ?_ _) | (with_reducible refine Kd.C_drew ?_)))
                (case side4 => exact (Kd.V_reads' HO198.out).2.1)
                rintro e w' ⟨rfl,⟨nd,rfl⟩⟩
                refine ⟨_,rfl,?_⟩
                refine hK.out _ _ (hHeld) (fun hHeld => ?_)
                clear hK K
                refine norm_ (a' := ?_) ?_ ?_
                rotate_left
                ·show Act.put _ (some 108) _ = _
                 simp only [Act.put,sA,sB,sC,i64_w,i32_w]
                 rfl
                refine pure_ (i := 8) (N := some 100) (v:=?_) (a':=?_) #[true,true,true,true,true,true,true,true,true,false,false,false,false] rfl rfl (any_of HT_.out (by kernel_rfl)) (fun _ _ _ h=>h) (Or.inl ⟨by rfl,?_⟩) ?_ ?_
                rotate_left
                ·intro w'
                 go_simp
                 with_reducible rfl
                rotate_left
                ·simp only [Act.put,sA,sB,sC,i64_w,i32_w]
                 rfl
                refine pure_ (i := 9) (N := some 109) (v:=?_) (a':=?_) #[true,true,true,true,true,true,true,true,true,true,false,false,false] rfl rfl (any_of HT_.out (by kernel_rfl)) (fun _ _ _ h=>h) (Or.inl ⟨by rfl,?_⟩) ?_ ?_
                rotate_left
                ·intro w'
                 go_simp
                 with_reducible rfl
                rotate_left
                ·simp only [Act.put,sA,sB,sC,i64_w,i32_w]
                 rfl
                refine pure_ (i := 10) (N := some 110) (v:=?_) (a':=?_) #[true,true,true,true,true,true,true,true,true,true,true,false,false] rfl rfl (any_of HT_.out (by kernel_rfl)) (fun _ _ _ h=>h) (Or.inl ⟨by rfl,?_⟩) ?_ ?_
                rotate_left
                ·intro w'
                 go_simp
                 with_reducible rfl
                rotate_left
                ·simp only [Act.put,sA,sB,sC,i64_w,i32_w]
                 rfl
                refine pure_ (i := 11) (N := some 17) (v:=?_) (a':=?_) #[true,true,true,true,true,true,true,true,true,true,true,true,false] rfl rfl (any_of HT_.out (by kernel_rfl)) (fun _ _ _ h=>h) (Or.inl ⟨by rfl,?_⟩) ?_ ?_
                rotate_left
                ·intro w'
                 go_simp
                 with_reducible rfl
                rotate_left
                ·simp only [Act.put,sA,sB,sC,i64_w,i32_w]
                 rfl
                refine pure_ (i := 12) (N := some 18) (v:=?_) (a':=?_) #[true,true,true,true,true,true,true,true,true,true,true,true,true] rfl rfl (any_of HT_.out (by kernel_rfl)) (fun _ _ _ h=>h) (Or.inl ⟨by rfl,?_⟩) ?_ ?_
                rotate_left
                ·intro w'
                 go_simp
                 with_reducible rfl
                rotate_left
                ·simp only [Act.put,sA,sB,sC,i64_w,i32_w]
                 rfl
                refine done_ (done_of HT_.out (by kernel_rfl)) ?_
                try go_wp2
                go_roundg k2
                case measure => have := HK1.out; have := HK2.out; omega
                case rel => exact ⟨(wrap64 (x13_1 + 1)),(by first | rfl | (simp; done) | (simp [*]; done)),H',⟨by have := HK1.out; have := HK2.out; omega⟩,⟨by (with_reducible repeat (first | apply Kd.N_alloc | apply Kd.N_drewN | apply Kd.N_drew)); exact HO_12.out⟩,⟨by repeat (first | (with_reducible first | exact HB.out | apply below_alloc | apply pw_below_drewN | apply below_drew1) | exact HB.out)⟩⟩
               ·rw [if_neg c57] at H
                have c57b0 : (t192 == t200) = false := beq_eq_false_iff_ne.mpr c57
                have c57b1 : (t192 != t200) = true := bne_iff_ne.mpr c57
                obtain rfl := Option.some.inj H
                try go_wp2
                have n0_ := Aside0.mk (Kd.N_drew HO_12.out)
                have n1_ := Aside0.mk (below_drew1 HB.out)
                clear HO_12
                clear HB
                have HO_12 := n0_
                have HB := n1_
                clear n0_ n1_
                have p185 : 0 ≤ (x13_1 : Int) := of_decide_eq_true (by first | (with_reducible assumption) | assumption)
                have q185 : x13_1 < (y170.length : Int) := of_decide_eq_true (by first | (with_reducible assumption) | assumption)
                obtain ⟨ad185,A185_0,c185_0,e185,hx185_0,hl185_0,hi185_0⟩ := at_L1 (Kd.N_reads' HO_12.out).2.2 x13_1 p185 q185
                cases e185
                obtain ⟨ce185,hce185,hMe185,hcc185⟩ := Kd.N_get HO_12.out [] x13_1 p185 (by first | exact q185 | exact of_decide_eq_true (by first | (with_reducible assumption) | assumption) | (have e_ := (Kd.N_reads' HO_12.out).1; omega))
                obtain ⟨ua185_0,uc185_0,rfl,ul185_0,ge185_0⟩ := Kd.FK_slice_open hMe185
                have hv185_0 := hcc185 0 _ rfl
                rw [Nat.add_zero,show ((Kd.slice 9 Kd.string)).sz = 1 from rfl,Nat.mul_one] at hv185_0
                replace hv185_0 := Option.some.inj (hv185_0.symm.trans hx185_0)
                injection hv185_0 with hva_ hvn_ hvc_
                rw [hva_] at ge185_0
                rw [hvc_] at ul185_0
                have HL185_0 := Aside0.mk (show Kd.V Kd.string 9 _ w.heap.size _ _ (rd_L1 y170 x13_1) from Kd.V_mk ul185_0 ge185_0)
                clear hva_ hvn_ hvc_ ge185_0 ul185_0
                clear hcc185 hce185
                have HR185_0 := Aside0.mk hi185_0
                have HC185_0 := Aside0.mk hl185_0
                clear hi185_0 hl185_0
                replace p185 := eq_true p185
                replace q185 := eq_true q185
                have q64 : (x13_1 : Int) ≤ ((y170.length : Int) : Int) := of_decide_eq_true (by first | (with_reducible assumption) | assumption)
                obtain ⟨i064,hi064,_,hsz64,_⟩ := info_parts info22
                have hroom64 : y170.length ≤ co29 := (Kd.N_reads' HO_12.out).2.1
                have hC64 : Kd.F (Kd.slice 9 Kd.string) _ _ (some ad185) y170.length y170 := (Kd.V_at (base := w.heap.size) (Kd.N_V HO_12.out)).2.2
                have hcut64 := cut_to (P := Try.prog) 26 22 .i64 Try.underlying26 hi064 (some ad185) y170.length co29 x13_1 (of_decide_eq_true (by first | (with_reducible assumption) | assumption)) q64 hroom64
                have hr64 := Kd.F_take (m := (x13_1 : Int).toNat) hC64 (by omega)
                have hy64 : y186.length = (x13_1 : Int).toNat := (by rw [Ny186.out,List.length_take]; omega)
                rw [← Ny186.out] at hr64
                rw [← hy64] at hcut64
                have HO190 := Aside0.mk (show Kd.V (Kd.slice 9 Kd.string) 22 _ w.heap.size _ (.slice (some ad185) y186.length co29) y186 from Kd.V_mk (by omega) hr64)
                have HC190 := Aside0.mk (show y186.length ≤ co29 from by omega)
                clear hr64 hC64 hroom64 hi064 hsz64
                have KY64 := Aside0.mk hy64
                clear hy64
                replace q64 := eq_true q64
                refine start_ (n := 13) (S := fun w' => w'.cell? (ad185.add (x13_1).toNat) = some (.slice A185_0 (rd_L1 y170 x13_1).length c185_0)) (ds := []) #[false,false,false,false,false,false,false,false,false,false,false,false,false] (by kernel_rfl) rfl rfl (hx185_0) (fun hHeld => ?_); refine with_tabW collatorlaw07_AlikeTells.tab11 collatorlaw07_AlikeTells.bits11 (fun HT_ HW_ => ?_)
                generalize wr.drew = w63 at HO_12 HB HL185_0 HO190 HR185_0 hx185_0 hHeld ⊢
                refine pure_ (i := 0) (N := some 90) (v:=?_) (a':=?_) #[true,false,false,false,false,false,false,false,false,false,false,false,false] rfl rfl (any_of HT_.out (by kernel_rfl)) (fun _ _ _ h=>h) (Or.inl ⟨by rfl,?_⟩) ?_ ?_
                rotate_left
                ·intro w'
                 go_simp
                 with_reducible rfl
                rotate_left
                ·simp only [Act.put,sA,sB,sC,i64_w,i32_w]
                 rfl
                refine pure_ (i := 1) (N := some 91) (v:=?_) (a':=?_) #[true,true,false,false,false,false,false,false,false,false,false,false,false] rfl rfl (any_of HT_.out (by kernel_rfl)) (fun _ _ _ h=>h) (Or.inl ⟨by rfl,?_⟩) ?_ ?_
                rotate_left
                ·intro w'
                 go_simp
                 with_reducible rfl
                rotate_left
                ·simp only [Act.put,sA,sB,sC,i64_w,i32_w]
                 rfl
                refine pure_ (i := 2) (N := some 92) (v:=?_) (a':=?_) #[true,true,true,false,false,false,false,false,false,false,false,false,false] rfl rfl (any_of HT_.out (by kernel_rfl)) (fun _ _ _ h=>h) (Or.inl ⟨by rfl,?_⟩) ?_ ?_
                rotate_left
                ·intro w'
                 go_simp
                 with_reducible rfl
                rotate_left
                ·simp only [Act.put,sA,sB,sC,i64_w,i32_w]
                 rfl
                refine pure_ (i := 4) (N := some 94) (v:=?_) (a':=?_) #[true,true,true,false,true,false,false,false,false,false,false,false,false] rfl rfl (any_of HT_.out (by kernel_rfl)) (fun _ _ _ h=>h) (Or.inl ⟨by rfl,?_⟩) ?_ ?_
                rotate_left
                ·intro w'
                 go_simp
                 with_reducible rfl
                rotate_left
                ·simp only [Act.put,sA,sB,sC,i64_w,i32_w]
                 rfl
                refine pure_ (i := 5) (N := some 95) (v:=?_) (a':=?_) #[true,true,true,false,true,true,false,false,false,false,false,false,false] rfl rfl (any_of HT_.out (by kernel_rfl)) (fun _ _ _ h=>h) (Or.inl ⟨by rfl,?_⟩) ?_ ?_
                rotate_left
                ·intro w'
                 go_simp
                 with_reducible rfl
                rotate_left
                ·simp only [Act.put,sA,sB,sC,i64_w,i32_w]
                 rfl
                refine pure_ (i := 6) (N := some 96) (v:=?_) (a':=?_) #[true,true,true,false,true,true,true,false,false,false,false,false,false] rfl rfl (any_of HT_.out (by kernel_rfl)) (fun _ _ _ h=>h) (Or.inl ⟨by rfl,?_⟩) ?_ ?_
                rotate_left
                ·intro w'
                 go_simp
                 with_reducible rfl
                rotate_left
                ·simp only [Act.put,sA,sB,sC,i64_w,i32_w]
                 rfl
                refine take_ (i := 3) (N := some 93) (v:=?_) (a':=?_) #[true,true,true,true,true,true,true,false,false,false,false,false,false] rfl rfl (take_ofW HT_.out HW_.out (by kernel_rfl)) (fun _ _ _ h=>h) (Or.inl ⟨by rfl,?_⟩) hHeld ?_ ?_
                rotate_left
                ·intro w' s0
                 go_simp
                 with_reducible rfl
                rotate_left
                ·simp only [Act.put,sA,sB,sC,i64_w,i32_w]
                 rfl
                refine one_ (i := 7) (N := some 97) #[true,true,true,true,true,true,true,true,false,false,false,false,false] rfl rfl (one_of HT_.out (by kernel_rfl)) (by decide) (fun K hK => ?_)
                refine goes_ Try.func23 (by kernel_rfl) rfl #[.slice A185_0 (rd_L1 y170 x13_1).length c185_0,.slice (some ad185) y186.length co29] (by rfl) rfl rfl (by (try simp only [List.map_toArray,List.map_cons,List.map_nil]); first | done | rfl | (simp only [List.length_drop,List.length_take]; rfl)) ?_
                with_reducible refine (alike_Best.calls k2 _ _ (rd_L1 y170 x13_1) _ _ y186 t191 t192 _ ?side1 ?side2 ?side3 ?side4 A52.out).mono ?_
                (case side1 => repeat (first | exact (by repeat (first | (with_reducible exact HR185_0.out) | (with_reducible refine Kd.C_alloc ?_ _) | (with_reducible refine Kd.C_drewN ?_ _) | (with_reducible refine Kd.C_drew ?_) | exact HR185_0.out)) | (with_reducible refine Kd.C_alloc ?_ _) | (with_reducible refine Kd.C_drewN ?_ _) | (with_reducible refine Kd.C_drew ?_)))
                (case side2 => exact HC185_0.out)
                (case side3 => repeat (first | exact (Kd.V_reads' HO190.out).2.2 | (with_reducible refine Kd.C_alloc ?_ _) | (with_reducible refine Kd.C_drewN ?_ _) | (with_reducible refine Kd.C_drew ?_)))
                (case side4 => exact (Kd.V_reads' HO190.out).2.1)
                rintro e w65 ⟨rfl,hb⟩
                have HS0_ := (hb.cell (World.block_lt_of_cell? _ _ (hHeld))).trans (hHeld)
                refine ⟨_,rfl,?_⟩
                have n0_ := Aside0.mk (Kd.N_below (by (with_reducible repeat (first | apply Kd.N_alloc | apply Kd.N_drewN | apply Kd.N_drew)); exact HO_12.out) hb)
                have n1_ := Aside0.mk (Kd.V_below (by (with_reducible repeat (first | apply Kd.V_alloc | apply Kd.V_drewN | apply Kd.V_drew)); exact HL185_0.out) hb)
                have n2_ := Aside0.mk (Kd.V_below (by (with_reducible repeat (first | apply Kd.V_alloc | apply Kd.V_drewN | apply Kd.V_drew)); exact HO190.out) hb)
                have n3_ := Aside0.mk (Kd.C_below (by repeat (first | (with_reducible exact HR185_0.out) | (with_reducible refine Kd.C_alloc ?_ _) | (with_reducible refine Kd.C_drewN ?_ _) | (with_reducible refine Kd.C_drew ?_) | exact HR185_0.out)) hb)
                have n4_ := Aside0.mk (below_step (by repeat (first | (with_reducible first | exact HB.out | apply below_alloc | apply pw_below_drewN | apply below_drew1) | exact HB.out)) hb)
                clear HO_12
                clear HL185_0
                clear HO190
                clear HR185_0
                clear HB
                have HO_12 := n0_
                have HL185_0 := n1_
                have HO190 := n2_
                have HR185_0 := n3_
                have HB := n4_
                clear n0_ n1_ n2_ n3_ n4_
                (try clear hb)
                (try clear hb2)
                (try clear hk)
                (try clear hi)
                refine hK.out _ _ (HS0_) (fun hHeld => ?_)
                clear hK K
                refine norm_ (a' := ?_) ?_ ?_
                rotate_left
                ·show Act.put _ (some 97) _ = _
                 simp only [Act.put,sA,sB,sC,i64_w,i32_w]
                 rfl
                refine pure_ (i := 8) (N := some 89) (v:=?_) (a':=?_) #[true,true,true,true,true,true,true,true,true,false,false,false,false] rfl rfl (any_of HT_.out (by kernel_rfl)) (fun _ _ _ h=>h) (Or.inl ⟨by rfl,?_⟩) ?_ ?_
                rotate_left
                ·intro w'
                 go_simp
                 with_reducible rfl
                rotate_left
                ·simp only [Act.put,sA,sB,sC,i64_w,i32_w]
                 rfl
                refine pure_ (i := 9) (N := some 98) (v:=?_) (a':=?_) #[true,true,true,true,true,true,true,true,true,true,false,false,false] rfl rfl (any_of HT_.out (by kernel_rfl)) (fun _ _ _ h=>h) (Or.inl ⟨by rfl,?_⟩) ?_ ?_
                rotate_left
                ·intro w'
                 go_simp
                 with_reducible rfl
                rotate_left
                ·simp only [Act.put,sA,sB,sC,i64_w,i32_w]
                 rfl
                refine pure_ (i := 10) (N := some 99) (v:=?_) (a':=?_) #[true,true,true,true,true,true,true,true,true,true,true,false,false] rfl rfl (any_of HT_.out (by kernel_rfl)) (fun _ _ _ h=>h) (Or.inl ⟨by rfl,?_⟩) ?_ ?_
                rotate_left
                ·intro w'
                 go_simp
                 with_reducible rfl
                rotate_left
                ·simp only [Act.put,sA,sB,sC,i64_w,i32_w]
                 rfl
                refine pure_ (i := 11) (N := some 15) (v:=?_) (a':=?_) #[true,true,true,true,true,true,true,true,true,true,true,true,false] rfl rfl (any_of HT_.out (by kernel_rfl)) (fun _ _ _ h=>h) (Or.inl ⟨by rfl,?_⟩) ?_ ?_
                rotate_left
                ·intro w'
                 go_simp
                 with_reducible rfl
                rotate_left
                ·simp only [Act.put,sA,sB,sC,i64_w,i32_w]
                 rfl
                refine pure_ (i := 12) (N := some 16) (v:=?_) (a':=?_) #[true,true,true,true,true,true,true,true,true,true,true,true,true] rfl rfl (any_of HT_.out (by kernel_rfl)) (fun _ _ _ h=>h) (Or.inl ⟨by rfl,?_⟩) ?_ ?_
                rotate_left
                ·intro w'
                 go_simp
                 with_reducible rfl
                rotate_left
                ·simp only [Act.put,sA,sB,sC,i64_w,i32_w]
                 rfl
                refine done_ (done_of HT_.out (by kernel_rfl)) ?_
                try go_wp2
                have n0_ := Aside0.mk (Kd.N_drew HO_12.out)
                have n1_ := Aside0.mk (Kd.V_drew HL185_0.out)
                have n2_ := Aside0.mk (Kd.V_drew HO190.out)
                have n3_ := Aside0.mk (Kd.C_drew HR185_0.out)
                have n4_ := Aside0.mk (below_drew1 HB.out)
                clear HO_12
                clear HL185_0
                clear HO190
                clear HR185_0
                clear HB
                have HO_12 := n0_
                have HL185_0 := n1_
                have HO190 := n2_
                have HR185_0 := n3_
                have HB := n4_
                clear n0_ n1_ n2_ n3_ n4_
                have p193 : 0 ≤ (x13_1 : Int) := of_decide_eq_true (by first | (with_reducible assumption) | assumption)
                have q193 : x13_1 < (y170.length : Int) := of_decide_eq_true (by first | (with_reducible assumption) | assumption)
                obtain ⟨ad193,A193_0,c193_0,e193,hx193_0,hl193_0,hi193_0⟩ := at_L1 (Kd.N_reads' HO_12.out).2.2 x13_1 p193 q193
                obtain rfl : ad185 = ad193 := (by injection e193)
                obtain ⟨ce193,hce193,hMe193,hcc193⟩ := Kd.N_get HO_12.out [] x13_1 p193 (by first | exact q193 | exact of_decide_eq_true (by first | (with_reducible assumption) | assumption) | (have e_ := (Kd.N_reads' HO_12.out).1; omega))
                obtain ⟨ua193_0,uc193_0,rfl,ul193_0,ge193_0⟩ := Kd.FK_slice_open hMe193
                have hv193_0 := hcc193 0 _ rfl
                rw [Nat.add_zero,show ((Kd.slice 9 Kd.string)).sz = 1 from rfl,Nat.mul_one] at hv193_0
                replace hv193_0 := Option.some.inj (hv193_0.symm.trans hx193_0)
                injection hv193_0 with hva_ hvn_ hvc_
                rw [hva_] at ge193_0
                rw [hvc_] at ul193_0
                have HL193_0 := Aside0.mk (show Kd.V Kd.string 9 _ w.heap.size _ _ (rd_L1 y170 x13_1) from Kd.V_mk ul193_0 ge193_0)
                clear hva_ hvn_ hvc_ ge193_0 ul193_0
                clear hcc193 hce193
                have HR193_0 := Aside0.mk hi193_0
                have HC193_0 := Aside0.mk hl193_0
                clear hi193_0 hl193_0
                replace p193 := eq_true p193
                replace q193 := eq_true q193
                have q67 : (x13_1 : Int) ≤ ((y170.length : Int) : Int) := of_decide_eq_true (by first | (with_reducible assumption) | assumption)
                obtain ⟨i067,hi067,_,hsz67,_⟩ := info_parts info22
                have hroom67 : y170.length ≤ co29 := (Kd.N_reads' HO_12.out).2.1
                have hC67 : Kd.F (Kd.slice 9 Kd.string) _ _ (some ad185) y170.length y170 := (Kd.V_at (base := w.heap.size) (Kd.N_V HO_12.out)).2.2
                have hcut67 := cut_to (P := Try.prog) 26 22 .i64 Try.underlying26 hi067 (some ad185) y170.length co29 x13_1 (of_decide_eq_true (by first | (with_reducible assumption) | assumption)) q67 hroom67
                have hr67 := Kd.F_take (m := (x13_1 : Int).toNat) hC67 (by omega)
                have hy67 : y194.length = (x13_1 : Int).toNat := (by rw [Ny194.out,List.length_take]; omega)
                rw [← Ny194.out] at hr67
                rw [← hy67] at hcut67
                have HO198 := Aside0.mk (show Kd.V (Kd.slice 9 Kd.string) 22 _ w.heap.size _ (.slice (some ad185) y194.length co29) y194 from Kd.V_mk (by omega) hr67)
                have HC198 := Aside0.mk (show y194.length ≤ co29 from by omega)
                clear hr67 hC67 hroom67 hi067 hsz67
                have KY67 := Aside0.mk hy67
                clear hy67
                replace q67 := eq_true q67
                refine start_ (n := 13) (S := fun w' => w'.cell? (ad185.add (x13_1).toNat) = some (.slice A193_0 (rd_L1 y170 x13_1).length c193_0)) (ds := []) #[false,false,false,false,false,false,false,false,false,false,false,false,false] (by kernel_rfl) rfl rfl (hx193_0) (fun hHeld => ?_); refine with_tabW collatorlaw07_AlikeTells.tab12 collatorlaw07_AlikeTells.bits12 (fun HT_ HW_ => ?_)
                generalize w65.drew = w66 at HO_12 HL185_0 HO190 HR185_0 HB HL193_0 HO198 HR193_0 hx193_0 hHeld ⊢
                refine pure_ (i := 0) (N := some 101) (v:=?_) (a':=?_) #[true,false,false,false,false,false,false,false,false,false,false,false,false] rfl rfl (any_of HT_.out (by kernel_rfl)) (fun _ _ _ h=>h) (Or.inl ⟨by rfl,?_⟩) ?_ ?_
                rotate_left
                ·intro w'
                 go_simp
                 with_reducible rfl
                rotate_left
                ·simp only [Act.put,sA,sB,sC,i64_w,i32_w]
                 rfl
                refine pure_ (i := 1) (N := some 102) (v:=?_) (a':=?_) #[true,true,false,false,false,false,false,false,false,false,false,false,false] rfl rfl (any_of HT_.out (by kernel_rfl)) (fun _ _ _ h=>h) (Or.inl ⟨by rfl,?_⟩) ?_ ?_
                rotate_left
                ·intro w'
                 go_simp
                 with_reducible rfl
                rotate_left
                ·simp only [Act.put,sA,sB,sC,i64_w,i32_w]
                 rfl
                refine pure_ (i := 2) (N := some 103) (v:=?_) (a':=?_) #[true,true,true,false,false,false,false,false,false,false,false,false,false] rfl rfl (any_of HT_.out (by kernel_rfl)) (fun _ _ _ h=>h) (Or.inl ⟨by rfl,?_⟩) ?_ ?_
                rotate_left
                ·intro w'
                 go_simp
                 with_reducible rfl
                rotate_left
                ·simp only [Act.put,sA,sB,sC,i64_w,i32_w]
                 rfl
                refine pure_ (i := 4) (N := some 105) (v:=?_) (a':=?_) #[true,true,true,false,true,false,false,false,false,false,false,false,false] rfl rfl (any_of HT_.out (by kernel_rfl)) (fun _ _ _ h=>h) (Or.inl ⟨by rfl,?_⟩) ?_ ?_
                rotate_left
                ·intro w'
                 go_simp
                 with_reducible rfl
                rotate_left
                ·simp only [Act.put,sA,sB,sC,i64_w,i32_w]
                 rfl
                refine pure_ (i := 5) (N := some 106) (v:=?_) (a':=?_) #[true,true,true,false,true,true,false,false,false,false,false,false,false] rfl rfl (any_of HT_.out (by kernel_rfl)) (fun _ _ _ h=>h) (Or.inl ⟨by rfl,?_⟩) ?_ ?_
                rotate_left
                ·intro w'
                 go_simp
                 with_reducible rfl
                rotate_left
                ·simp only [Act.put,sA,sB,sC,i64_w,i32_w]
                 rfl
                refine pure_ (i := 6) (N := some 107) (v:=?_) (a':=?_) #[true,true,true,false,true,true,true,false,false,false,false,false,false] rfl rfl (any_of HT_.out (by kernel_rfl)) (fun _ _ _ h=>h) (Or.inl ⟨by rfl,?_⟩) ?_ ?_
                rotate_left
                ·intro w'
                 go_simp
                 with_reducible rfl
                rotate_left
                ·simp only [Act.put,sA,sB,sC,i64_w,i32_w]
                 rfl
                refine take_ (i := 3) (N := some 104) (v:=?_) (a':=?_) #[true,true,true,true,true,true,true,false,false,false,false,false,false] rfl rfl (take_ofW HT_.out HW_.out (by kernel_rfl)) (fun _ _ _ h=>h) (Or.inl ⟨by rfl,?_⟩) hHeld ?_ ?_
                rotate_left
                ·intro w' s0
                 go_simp
                 with_reducible rfl
                rotate_left
                ·simp only [Act.put,sA,sB,sC,i64_w,i32_w]
                 rfl
                refine one_ (i := 7) (N := some 108) #[true,true,true,true,true,true,true,true,false,false,false,false,false] rfl rfl (one_of HT_.out (by kernel_rfl)) (by decide) (fun K hK => ?_)
                refine goes_ Try.func24 (by kernel_rfl) rfl #[.slice A193_0 (rd_L1 y170 x13_1).length c193_0,.slice (some ad185) y194.length co29] (by rfl) rfl rfl (by (try simp only [List.map_toArray,List.map_cons,List.map_nil]); first | done | (rw [show y194.length = y186.length from KY67.out.trans KY64.out.symm]; rfl) | (rw [show y194.length = y186.length from KY67.out.trans KY64.out.symm]; done) | rfl | (simp only [List.length_drop,List.length_take]; rfl)) ?_
                with_reducible refine (collatorref07_Best.calls k2 _ _ (rd_L1 y170 x13_1) _ _ y194 t199 t200 _ ?side1 ?side2 ?side3 ?side4 A55.out).mono ?_
                (case side1 => repeat (first | exact (by repeat (first | (with_reducible exact HR193_0.out) | (with_reducible refine Kd.C_alloc ?_ _) | (with_reducible refine Kd.C_drewN ?_ _) | (with_reducible refine Kd.C_drew ?_) | exact HR193_0.out)) | (with_reducible refine Kd.C_alloc ?_ _) | (with_reducible refine Kd.C_drewN ?_ _) | (with_reducible refine Kd.C_drew ?_)))
                (case side2 => exact HC193_0.out)
                (case side3 => repeat (first | exact (Kd.V_reads' HO198.out).2.2 | (with_reducible refine Kd.C_alloc ?_ _) | (with_reducible refine Kd.C_drewN ?_ _) | (with_reducible refine Kd.C_drew ?_)))
                (case side4 => exact (Kd.V_reads' HO198.out).2.1)
                rintro e w' ⟨rfl,⟨nd,rfl⟩⟩
                refine ⟨_,rfl,?_⟩
                refine hK.out _ _ (hHeld) (fun hHeld => ?_)
                clear hK K
                refine norm_ (a' := ?_) ?_ ?_
                rotate_left
                ·show Act.put _ (some 108) _ = _
                 simp only [Act.put,sA,sB,sC,i64_w,i32_w]
                 rfl
                refine pure_ (i := 8) (N := some 100) (v:=?_) (a':=?_) #[true,true,true,true,true,true,true,true,true,false,false,false,false] rfl rfl (any_of HT_.out (by kernel_rfl)) (fun _ _ _ h=>h) (Or.inl ⟨by rfl,?_⟩) ?_ ?_
                rotate_left
                ·intro w'
                 go_simp
                 with_reducible rfl
                rotate_left
                ·simp only [Act.put,sA,sB,sC,i64_w,i32_w]
                 rfl
                refine pure_ (i := 9) (N := some 109) (v:=?_) (a':=?_) #[true,true,true,true,true,true,true,true,true,true,false,false,false] rfl rfl (any_of HT_.out (by kernel_rfl)) (fun _ _ _ h=>h) (Or.inl ⟨by rfl,?_⟩) ?_ ?_
                rotate_left
                ·intro w'
                 go_simp
                 with_reducible rfl
                rotate_left
                ·simp only [Act.put,sA,sB,sC,i64_w,i32_w]
                 rfl
                refine pure_ (i := 10) (N := some 110) (v:=?_) (a':=?_) #[true,true,true,true,true,true,true,true,true,true,true,false,false] rfl rfl (any_of HT_.out (by kernel_rfl)) (fun _ _ _ h=>h) (Or.inl ⟨by rfl,?_⟩) ?_ ?_
                rotate_left
                ·intro w'
                 go_simp
                 with_reducible rfl
                rotate_left
                ·simp only [Act.put,sA,sB,sC,i64_w,i32_w]
                 rfl
                refine pure_ (i := 11) (N := some 17) (v:=?_) (a':=?_) #[true,true,true,true,true,true,true,true,true,true,true,true,false] rfl rfl (any_of HT_.out (by kernel_rfl)) (fun _ _ _ h=>h) (Or.inl ⟨by rfl,?_⟩) ?_ ?_
                rotate_left
                ·intro w'
                 go_simp
                 with_reducible rfl
                rotate_left
                ·simp only [Act.put,sA,sB,sC,i64_w,i32_w]
                 rfl
                refine pure_ (i := 12) (N := some 18) (v:=?_) (a':=?_) #[true,true,true,true,true,true,true,true,true,true,true,true,true] rfl rfl (any_of HT_.out (by kernel_rfl)) (fun _ _ _ h=>h) (Or.inl ⟨by rfl,?_⟩) ?_ ?_
                rotate_left
                ·intro w'
                 go_simp
                 with_reducible rfl
                rotate_left
                ·simp only [Act.put,sA,sB,sC,i64_w,i32_w]
                 rfl
                refine done_ (done_of HT_.out (by kernel_rfl)) ?_
                try go_wp2
                go_ret
                exact ⟨by first | rfl | (simp [errW_none,errW_some] <;> rfl) | (simp only [← hji7,← hji10]; first | rfl | (simp [errW_none,errW_some] <;> rfl)) | (simp [*,errW_none,errW_some] <;> rfl),by repeat (first | (with_reducible first | exact HB.out | apply below_alloc | apply pw_below_drewN | apply below_drew1) | exact HB.out)⟩
              ·rw [if_neg c56] at H
               have c56b0 : (t191 == t199) = false := beq_eq_false_iff_ne.mpr c56
               have c56b1 : (t191 != t199) = true := bne_iff_ne.mpr c56
               obtain rfl := Option.some.inj H
               try go_wp2
               have n0_ := Aside0.mk (Kd.N_drew HO_12.out)
               have n1_ := Aside0.mk (below_drew1 HB.out)
               clear HO_12
               clear HB
               have HO_12 := n0_
               have HB := n1_
               clear n0_ n1_
               have p185 : 0 ≤ (x13_1 : Int) := of_decide_eq_true (by first | (with_reducible assumption) | assumption)
               have q185 : x13_1 < (y170.length : Int) := of_decide_eq_true (by first | (with_reducible assumption) | assumption)
               obtain ⟨ad185,A185_0,c185_0,e185,hx185_0,hl185_0,hi185_0⟩ := at_L1 (Kd.N_reads' HO_12.out).2.2 x13_1 p185 q185
               cases e185
               obtain ⟨ce185,hce185,hMe185,hcc185⟩ := Kd.N_get HO_12.out [] x13_1 p185 (by first | exact q185 | exact of_decide_eq_true (by first | (with_reducible assumption) | assumption) | (have e_ := (Kd.N_reads' HO_12.out).1; omega))
               obtain ⟨ua185_0,uc185_0,rfl,ul185_0,ge185_0⟩ := Kd.FK_slice_open hMe185
               have hv185_0 := hcc185 0 _ rfl
               rw [Nat.add_zero,show ((Kd.slice 9 Kd.string)).sz = 1 from rfl,Nat.mul_one] at hv185_0
               replace hv185_0 := Option.some.inj (hv185_0.symm.trans hx185_0)
               injection hv185_0 with hva_ hvn_ hvc_
               rw [hva_] at ge185_0
               rw [hvc_] at ul185_0
               have HL185_0 := Aside0.mk (show Kd.V Kd.string 9 _ w.heap.size _ _ (rd_L1 y170 x13_1) from Kd.V_mk ul185_0 ge185_0)
               clear hva_ hvn_ hvc_ ge185_0 ul185_0
               clear hcc185 hce185
               have HR185_0 := Aside0.mk hi185_0
               have HC185_0 := Aside0.mk hl185_0
               clear hi185_0 hl185_0
               replace p185 := eq_true p185
               replace q185 := eq_true q185
               have q69 : (x13_1 : Int) ≤ ((y170.length : Int) : Int) := of_decide_eq_true (by first | (with_reducible assumption) | assumption)
               obtain ⟨i069,hi069,_,hsz69,_⟩ := info_parts info22
               have hroom69 : y170.length ≤ co29 := (Kd.N_reads' HO_12.out).2.1
               have hC69 : Kd.F (Kd.slice 9 Kd.string) _ _ (some ad185) y170.length y170 := (Kd.V_at (base := w.heap.size) (Kd.N_V HO_12.out)).2.2
               have hcut69 := cut_to (P := Try.prog) 26 22 .i64 Try.underlying26 hi069 (some ad185) y170.length co29 x13_1 (of_decide_eq_true (by first | (with_reducible assumption) | assumption)) q69 hroom69
               have hr69 := Kd.F_take (m := (x13_1 : Int).toNat) hC69 (by omega)
               have hy69 : y186.length = (x13_1 : Int).toNat := (by rw [Ny186.out,List.length_take]; omega)
               rw [← Ny186.out] at hr69
               rw [← hy69] at hcut69
               have HO190 := Aside0.mk (show Kd.V (Kd.slice 9 Kd.string) 22 _ w.heap.size _ (.slice (some ad185) y186.length co29) y186 from Kd.V_mk (by omega) hr69)
               have HC190 := Aside0.mk (show y186.length ≤ co29 from by omega)
               clear hr69 hC69 hroom69 hi069 hsz69
               have KY69 := Aside0.mk hy69
               clear hy69
               replace q69 := eq_true q69
               refine start_ (n := 13) (S := fun w' => w'.cell? (ad185.add (x13_1).toNat) = some (.slice A185_0 (rd_L1 y170 x13_1).length c185_0)) (ds := []) #[false,false,false,false,false,false,false,false,false,false,false,false,false] (by kernel_rfl) rfl rfl (hx185_0) (fun hHeld => ?_); refine with_tabW collatorlaw07_AlikeTells.tab11 collatorlaw07_AlikeTells.bits11 (fun HT_ HW_ => ?_)
               generalize wr.drew = w68 at HO_12 HB HL185_0 HO190 HR185_0 hx185_0 hHeld ⊢
               refine pure_ (i := 0) (N := some 90) (v:=?_) (a':=?_) #[true,false,false,false,false,false,false,false,false,false,false,false,false] rfl rfl (any_of HT_.out (by kernel_rfl)) (fun _ _ _ h=>h) (Or.inl ⟨by rfl,?_⟩) ?_ ?_
               rotate_left
               ·intro w'
                go_simp
                with_reducible rfl
               rotate_left
               ·simp only [Act.put,sA,sB,sC,i64_w,i32_w]
                rfl
               refine pure_ (i := 1) (N := some 91) (v:=?_) (a':=?_) #[true,true,false,false,false,false,false,false,false,false,false,false,false] rfl rfl (any_of HT_.out (by kernel_rfl)) (fun _ _ _ h=>h) (Or.inl ⟨by rfl,?_⟩) ?_ ?_
               rotate_left
               ·intro w'
                go_simp
                with_reducible rfl
               rotate_left
               ·simp only [Act.put,sA,sB,sC,i64_w,i32_w]
                rfl
               refine pure_ (i := 2) (N := some 92) (v:=?_) (a':=?_) #[true,true,true,false,false,false,false,false,false,false,false,false,false] rfl rfl (any_of HT_.out (by kernel_rfl)) (fun _ _ _ h=>h) (Or.inl ⟨by rfl,?_⟩) ?_ ?_
               rotate_left
               ·intro w'
                go_simp
                with_reducible rfl
               rotate_left
               ·simp only [Act.put,sA,sB,sC,i64_w,i32_w]
                rfl
               refine pure_ (i := 4) (N := some 94) (v:=?_) (a':=?_) #[true,true,true,false,true,false,false,false,false,false,false,false,false] rfl rfl (any_of HT_.out (by kernel_rfl)) (fun _ _ _ h=>h) (Or.inl ⟨by rfl,?_⟩) ?_ ?_
               rotate_left
               ·intro w'
                go_simp
                with_reducible rfl
               rotate_left
               ·simp only [Act.put,sA,sB,sC,i64_w,i32_w]
                rfl
               refine pure_ (i := 5) (N := some 95) (v:=?_) (a':=?_) #[true,true,true,false,true,true,false,false,false,false,false,false,false] rfl rfl (any_of HT_.out (by kernel_rfl)) (fun _ _ _ h=>h) (Or.inl ⟨by rfl,?_⟩) ?_ ?_
               rotate_left
               ·intro w'
                go_simp
                with_reducible rfl
               rotate_left
               ·simp only [Act.put,sA,sB,sC,i64_w,i32_w]
                rfl
               refine pure_ (i := 6) (N := some 96) (v:=?_) (a':=?_) #[true,true,true,false,true,true,true,false,false,false,false,false,false] rfl rfl (any_of HT_.out (by kernel_rfl)) (fun _ _ _ h=>h) (Or.inl ⟨by rfl,?_⟩) ?_ ?_
               rotate_left
               ·intro w'
                go_simp
                with_reducible rfl
               rotate_left
               ·simp only [Act.put,sA,sB,sC,i64_w,i32_w]
                rfl
               refine take_ (i := 3) (N := some 93) (v:=?_) (a':=?_) #[true,true,true,true,true,true,true,false,false,false,false,false,false] rfl rfl (take_ofW HT_.out HW_.out (by kernel_rfl)) (fun _ _ _ h=>h) (Or.inl ⟨by rfl,?_⟩) hHeld ?_ ?_
               rotate_left
               ·intro w' s0
                go_simp
                with_reducible rfl
               rotate_left
               ·simp only [Act.put,sA,sB,sC,i64_w,i32_w]
                rfl
               refine one_ (i := 7) (N := some 97) #[true,true,true,true,true,true,true,true,false,false,false,false,false] rfl rfl (one_of HT_.out (by kernel_rfl)) (by decide) (fun K hK => ?_)
               refine goes_ Try.func23 (by kernel_rfl) rfl #[.slice A185_0 (rd_L1 y170 x13_1).length c185_0,.slice (some ad185) y186.length co29] (by rfl) rfl rfl (by (try simp only [List.map_toArray,List.map_cons,List.map_nil]); first | done | rfl | (simp only [List.length_drop,List.length_take]; rfl)) ?_
               with_reducible refine (alike_Best.calls k2 _ _ (rd_L1 y170 x13_1) _ _ y186 t191 t192 _ ?side1 ?side2 ?side3 ?side4 A52.out).mono ?_
               (case side1 => repeat (first | exact (by repeat (first | (with_reducible exact HR185_0.out) | (with_reducible refine Kd.C_alloc ?_ _) | (with_reducible refine Kd.C_drewN ?_ _) | (with_reducible refine Kd.C_drew ?_) | exact HR185_0.out)) | (with_reducible refine Kd.C_alloc ?_ _) | (with_reducible refine Kd.C_drewN ?_ _) | (with_reducible refine Kd.C_drew ?_)))
               (case side2 => exact HC185_0.out)
               (case side3 => repeat (first | exact (Kd.V_reads' HO190.out).2.2 | (with_reducible refine Kd.C_alloc ?_ _) | (with_reducible refine Kd.C_drewN ?_ _) | (with_reducible refine Kd.C_drew ?_)))
               (case side4 => exact (Kd.V_reads' HO190.out).2.1)
               rintro e w70 ⟨rfl,hb⟩
               have HS0_ := (hb.cell (World.block_lt_of_cell? _ _ (hHeld))).trans (hHeld)
               refine ⟨_,rfl,?_⟩
               have n0_ := Aside0.mk (Kd.N_below (by (with_reducible repeat (first | apply Kd.N_alloc | apply Kd.N_drewN | apply Kd.N_drew)); exact HO_12.out) hb)
               have n1_ := Aside0.mk (Kd.V_below (by (with_reducible repeat (first | apply Kd.V_alloc | apply Kd.V_drewN | apply Kd.V_drew)); exact HL185_0.out) hb)
               have n2_ := Aside0.mk (Kd.V_below (by (with_reducible repeat (first | apply Kd.V_alloc | apply Kd.V_drewN | apply Kd.V_drew)); exact HO190.out) hb)
               have n3_ := Aside0.mk (Kd.C_below (by repeat (first | (with_reducible exact HR185_0.out) | (with_reducible refine Kd.C_alloc ?_ _) | (with_reducible refine Kd.C_drewN ?_ _) | (with_reducible refine Kd.C_drew ?_) | exact HR185_0.out)) hb)
               have n4_ := Aside0.mk (below_step (by repeat (first | (with_reducible first | exact HB.out | apply below_alloc | apply pw_below_drewN | apply below_drew1) | exact HB.out)) hb)
               clear HO_12
               clear HL185_0
               clear HO190
               clear HR185_0
               clear HB
               have HO_12 := n0_
               have HL185_0 := n1_
               have HO190 := n2_
               have HR185_0 := n3_
               have HB := n4_
               clear n0_ n1_ n2_ n3_ n4_
               (try clear hb)
               (try clear hb2)
               (try clear hk)
               (try clear hi)
               refine hK.out _ _ (HS0_) (fun hHeld => ?_)
               clear hK K
               refine norm_ (a' := ?_) ?_ ?_
               rotate_left
               ·show Act.put _ (some 97) _ = _
                simp only [Act.put,sA,sB,sC,i64_w,i32_w]
                rfl
               refine pure_ (i := 8) (N := some 89) (v:=?_) (a':=?_) #[true,true,true,true,true,true,true,true,true,false,false,false,false] rfl rfl (any_of HT_.out (by kernel_rfl)) (fun _ _ _ h=>h) (Or.inl ⟨by rfl,?_⟩) ?_ ?_
               rotate_left
               ·intro w'
                go_simp
                with_reducible rfl
               rotate_left
               ·simp only [Act.put,sA,sB,sC,i64_w,i32_w]
                rfl
               refine pure_ (i := 9) (N := some 98) (v:=?_) (a':=?_) #[true,true,true,true,true,true,true,true,true,true,false,false,false] rfl rfl (any_of HT_.out (by kernel_rfl)) (fun _ _ _ h=>h) (Or.inl ⟨by rfl,?_⟩) ?_ ?_
               rotate_left
               ·intro w'
                go_simp
                with_reducible rfl
               rotate_left
               ·simp only [Act.put,sA,sB,sC,i64_w,i32_w]
                rfl
               refine pure_ (i := 10) (N := some 99) (v:=?_) (a':=?_) #[true,true,true,true,true,true,true,true,true,true,true,false,false] rfl rfl (any_of HT_.out (by kernel_rfl)) (fun _ _ _ h=>h) (Or.inl ⟨by rfl,?_⟩) ?_ ?_
               rotate_left
               ·intro w'
                go_simp
                with_reducible rfl
               rotate_left
               ·simp only [Act.put,sA,sB,sC,i64_w,i32_w]
                rfl
               refine pure_ (i := 11) (N := some 15) (v:=?_) (a':=?_) #[true,true,true,true,true,true,true,true,true,true,true,true,false] rfl rfl (any_of HT_.out (by kernel_rfl)) (fun _ _ _ h=>h) (Or.inl ⟨by rfl,?_⟩) ?_ ?_
               rotate_left
               ·intro w'
                go_simp
                with_reducible rfl
               rotate_left
               ·simp only [Act.put,sA,sB,sC,i64_w,i32_w]
                rfl
               refine pure_ (i := 12) (N := some 16) (v:=?_) (a':=?_) #[true,true,true,true,true,true,true,true,true,true,true,true,true] rfl rfl (any_of HT_.out (by kernel_rfl)) (fun _ _ _ h=>h) (Or.inl ⟨by rfl,?_⟩) ?_ ?_
               rotate_left
               ·intro w'
                go_simp
                with_reducible rfl
               rotate_left
               ·simp only [Act.put,sA,sB,sC,i64_w,i32_w]
                rfl
               refine done_ (done_of HT_.out (by kernel_rfl)) ?_
               try go_wp2
               have n0_ := Aside0.mk (Kd.N_drew HO_12.out)
               have n1_ := Aside0.mk (Kd.V_drew HL185_0.out)
               have n2_ := Aside0.mk (Kd.V_drew HO190.out)
               have n3_ := Aside0.mk (Kd.C_drew HR185_0.out)
               have n4_ := Aside0.mk (below_drew1 HB.out)
               clear HO_12
               clear HL185_0
               clear HO190
               clear HR185_0
               clear HB
               have HO_12 := n0_
               have HL185_0 := n1_
               have HO190 := n2_
               have HR185_0 := n3_
               have HB := n4_
               clear n0_ n1_ n2_ n3_ n4_
               have p193 : 0 ≤ (x13_1 : Int) := of_decide_eq_true (by first | (with_reducible assumption) | assumption)
               have q193 : x13_1 < (y170.length : Int) := of_decide_eq_true (by first | (with_reducible assumption) | assumption)
               obtain ⟨ad193,A193_0,c193_0,e193,hx193_0,hl193_0,hi193_0⟩ := at_L1 (Kd.N_reads' HO_12.out).2.2 x13_1 p193 q193
               obtain rfl : ad185 = ad193 := (by injection e193)
               obtain ⟨ce193,hce193,hMe193,hcc193⟩ := Kd.N_get HO_12.out [] x13_1 p193 (by first | exact q193 | exact of_decide_eq_true (by first | (with_reducible assumption) | assumption) | (have e_ := (Kd.N_reads' HO_12.out).1; omega))
               obtain ⟨ua193_0,uc193_0,rfl,ul193_0,ge193_0⟩ := Kd.FK_slice_open hMe193
               have hv193_0 := hcc193 0 _ rfl
               rw [Nat.add_zero,show ((Kd.slice 9 Kd.string)).sz = 1 from rfl,Nat.mul_one] at hv193_0
               replace hv193_0 := Option.some.inj (hv193_0.symm.trans hx193_0)
               injection hv193_0 with hva_ hvn_ hvc_
               rw [hva_] at ge193_0
               rw [hvc_] at ul193_0
               have HL193_0 := Aside0.mk (show Kd.V Kd.string 9 _ w.heap.size _ _ (rd_L1 y170 x13_1) from Kd.V_mk ul193_0 ge193_0)
               clear hva_ hvn_ hvc_ ge193_0 ul193_0
               clear hcc193 hce193
               have HR193_0 := Aside0.mk hi193_0
               have HC193_0 := Aside0.mk hl193_0
               clear hi193_0 hl193_0
               replace p193 := eq_true p193
               replace q193 := eq_true q193
               have q72 : (x13_1 : Int) ≤ ((y170.length : Int) : Int) := of_decide_eq_true (by first | (with_reducible assumption) | assumption)
               obtain ⟨i072,hi072,_,hsz72,_⟩ := info_parts info22
               have hroom72 : y170.length ≤ co29 := (Kd.N_reads' HO_12.out).2.1
               have hC72 : Kd.F (Kd.slice 9 Kd.string) _ _ (some ad185) y170.length y170 := (Kd.V_at (base := w.heap.size) (Kd.N_V HO_12.out)).2.2
               have hcut72 := cut_to (P := Try.prog) 26 22 .i64 Try.underlying26 hi072 (some ad185) y170.length co29 x13_1 (of_decide_eq_true (by first | (with_reducible assumption) | assumption)) q72 hroom72
               have hr72 := Kd.F_take (m := (x13_1 : Int).toNat) hC72 (by omega)
               have hy72 : y194.length = (x13_1 : Int).toNat := (by rw [Ny194.out,List.length_take]; omega)
               rw [← Ny194.out] at hr72
               rw [← hy72] at hcut72
               have HO198 := Aside0.mk (show Kd.V (Kd.slice 9 Kd.string) 22 _ w.heap.size _ (.slice (some ad185) y194.length co29) y194 from Kd.V_mk (by omega) hr72)
               have HC198 := Aside0.mk (show y194.length ≤ co29 from by omega)
               clear hr72 hC72 hroom72 hi072 hsz72
               have KY72 := Aside0.mk hy72
               clear hy72
               replace q72 := eq_true q72
               refine start_ (n := 13) (S := fun w' => w'.cell? (ad185.add (x13_1).toNat) = some (.slice A193_0 (rd_L1 y170 x13_1).length c193_0)) (ds := []) #[false,false,false,false,false,false,false,false,false,false,false,false,false] (by kernel_rfl) rfl rfl (hx193_0) (fun hHeld => ?_); refine with_tabW collatorlaw07_AlikeTells.tab12 collatorlaw07_AlikeTells.bits12 (fun HT_ HW_ => ?_)
               generalize w70.drew = w71 at HO_12 HL185_0 HO190 HR185_0 HB HL193_0 HO198 HR193_0 hx193_0 hHeld ⊢
               refine pure_ (i := 0) (N := some 101) (v:=?_) (a':=?_) #[true,false,false,false,false,false,false,false,false,false,false,false,false] rfl rfl (any_of HT_.out (by kernel_rfl)) (fun _ _ _ h=>h) (Or.inl ⟨by rfl,?_⟩) ?_ ?_
               rotate_left
               ·intro w'
                go_simp
                with_reducible rfl
               rotate_left
               ·simp only [Act.put,sA,sB,sC,i64_w,i32_w]
                rfl
               refine pure_ (i := 1) (N := some 102) (v:=?_) (a':=?_) #[true,true,false,false,false,false,false,false,false,false,false,false,false] rfl rfl (any_of HT_.out (by kernel_rfl)) (fun _ _ _ h=>h) (Or.inl ⟨by rfl,?_⟩) ?_ ?_
               rotate_left
               ·intro w'
                go_simp
                with_reducible rfl
               rotate_left
               ·simp only [Act.put,sA,sB,sC,i64_w,i32_w]
                rfl
               refine pure_ (i := 2) (N := some 103) (v:=?_) (a':=?_) #[true,true,true,false,false,false,false,false,false,false,false,false,false] rfl rfl (any_of HT_.out (by kernel_rfl)) (fun _ _ _ h=>h) (Or.inl ⟨by rfl,?_⟩) ?_ ?_
               rotate_left
               ·intro w'
                go_simp
                with_reducible rfl
               rotate_left
               ·simp only [Act.put,sA,sB,sC,i64_w,i32_w]
                rfl
               refine pure_ (i := 4) (N := some 105) (v:=?_) (a':=?_) #[true,true,true,false,true,false,false,false,false,false,false,false,false] rfl rfl (any_of HT_.out (by kernel_rfl)) (fun _ _ _ h=>h) (Or.inl ⟨by rfl,?_⟩) ?_ ?_
               rotate_left
               ·intro w'
                go_simp
                with_reducible rfl
               rotate_left
               ·simp only [Act.put,sA,sB,sC,i64_w,i32_w]
                rfl
               refine pure_ (i := 5) (N := some 106) (v:=?_) (a':=?_) #[true,true,true,false,true,true,false,false,false,false,false,false,false] rfl rfl (any_of HT_.out (by kernel_rfl)) (fun _ _ _ h=>h) (Or.inl ⟨by rfl,?_⟩) ?_ ?_
               rotate_left
               ·intro w'
                go_simp
                with_reducible rfl
               rotate_left
               ·simp only [Act.put,sA,sB,sC,i64_w,i32_w]
                rfl
               refine pure_ (i := 6) (N := some 107) (v:=?_) (a':=?_) #[true,true,true,false,true,true,true,false,false,false,false,false,false] rfl rfl (any_of HT_.out (by kernel_rfl)) (fun _ _ _ h=>h) (Or.inl ⟨by rfl,?_⟩) ?_ ?_
               rotate_left
               ·intro w'
                go_simp
                with_reducible rfl
               rotate_left
               ·simp only [Act.put,sA,sB,sC,i64_w,i32_w]
                rfl
               refine take_ (i := 3) (N := some 104) (v:=?_) (a':=?_) #[true,true,true,true,true,true,true,false,false,false,false,false,false] rfl rfl (take_ofW HT_.out HW_.out (by kernel_rfl)) (fun _ _ _ h=>h) (Or.inl ⟨by rfl,?_⟩) hHeld ?_ ?_
               rotate_left
               ·intro w' s0
                go_simp
                with_reducible rfl
               rotate_left
               ·simp only [Act.put,sA,sB,sC,i64_w,i32_w]
                rfl
               refine one_ (i := 7) (N := some 108) #[true,true,true,true,true,true,true,true,false,false,false,false,false] rfl rfl (one_of HT_.out (by kernel_rfl)) (by decide) (fun K hK => ?_)
               refine goes_ Try.func24 (by kernel_rfl) rfl #[.slice A193_0 (rd_L1 y170 x13_1).length c193_0,.slice (some ad185) y194.length co29] (by rfl) rfl rfl (by (try simp only [List.map_toArray,List.map_cons,List.map_nil]); first | done | (rw [show y194.length = y186.length from KY72.out.trans KY69.out.symm]; rfl) | (rw [show y194.length = y186.length from KY72.out.trans KY69.out.symm]; done) | rfl | (simp only [List.length_drop,List.length_take]; rfl)) ?_
               with_reducible refine (collatorref07_Best.calls k2 _ _ (rd_L1 y170 x13_1) _ _ y194 t199 t200 _ ?side1 ?side2 ?side3 ?side4 A55.out).mono ?_
               (case side1 => repeat (first | exact (by repeat (first | (with_reducible exact HR193_0.out) | (with_reducible refine Kd.C_alloc ?_ _) | (with_reducible refine Kd.C_drewN ?_ _) | (with_reducible refine Kd.C_drew ?_) | exact HR193_0.out)) | (with_reducible refine Kd.C_alloc ?_ _) | (with_reducible refine Kd.C_drewN ?_ _) | (with_reducible refine Kd.C_drew ?_)))
               (case side2 => exact HC193_0.out)
               (case side3 => repeat (first | exact (Kd.V_reads' HO198.out).2.2 | (with_reducible refine Kd.C_alloc ?_ _) | (with_reducible refine Kd.C_drewN ?_ _) | (with_reducible refine Kd.C_drew ?_)))
               (case side4 => exact (Kd.V_reads' HO198.out).2.1)
               rintro e w' ⟨rfl,⟨nd,rfl⟩⟩
               refine ⟨_,rfl,?_⟩
               refine hK.out _ _ (hHeld) (fun hHeld => ?_)
               clear hK K
               refine norm_ (a' := ?_) ?_ ?_
               rotate_left
               ·show Act.put _ (some 108) _ = _
                simp only [Act.put,sA,sB,sC,i64_w,i32_w]
                rfl
               refine pure_ (i := 8) (N := some 100) (v:=?_) (a':=?_) #[true,true,true,true,true,true,true,true,true,false,false,false,false] rfl rfl (any_of HT_.out (by kernel_rfl)) (fun _ _ _ h=>h) (Or.inl ⟨by rfl,?_⟩) ?_ ?_
               rotate_left
               ·intro w'
                go_simp
                with_reducible rfl
               rotate_left
               ·simp only [Act.put,sA,sB,sC,i64_w,i32_w]
                rfl
               refine pure_ (i := 9) (N := some 109) (v:=?_) (a':=?_) #[true,true,true,true,true,true,true,true,true,true,false,false,false] rfl rfl (any_of HT_.out (by kernel_rfl)) (fun _ _ _ h=>h) (Or.inl ⟨by rfl,?_⟩) ?_ ?_
               rotate_left
               ·intro w'
                go_simp
                with_reducible rfl
               rotate_left
               ·simp only [Act.put,sA,sB,sC,i64_w,i32_w]
                rfl
               refine pure_ (i := 10) (N := some 110) (v:=?_) (a':=?_) #[true,true,true,true,true,true,true,true,true,true,true,false,false] rfl rfl (any_of HT_.out (by kernel_rfl)) (fun _ _ _ h=>h) (Or.inl ⟨by rfl,?_⟩) ?_ ?_
               rotate_left
               ·intro w'
                go_simp
                with_reducible rfl
               rotate_left
               ·simp only [Act.put,sA,sB,sC,i64_w,i32_w]
                rfl
               refine pure_ (i := 11) (N := some 17) (v:=?_) (a':=?_) #[true,true,true,true,true,true,true,true,true,true,true,true,false] rfl rfl (any_of HT_.out (by kernel_rfl)) (fun _ _ _ h=>h) (Or.inl ⟨by rfl,?_⟩) ?_ ?_
               rotate_left
               ·intro w'
                go_simp
                with_reducible rfl
               rotate_left
               ·simp only [Act.put,sA,sB,sC,i64_w,i32_w]
                rfl
               refine pure_ (i := 12) (N := some 18) (v:=?_) (a':=?_) #[true,true,true,true,true,true,true,true,true,true,true,true,true] rfl rfl (any_of HT_.out (by kernel_rfl)) (fun _ _ _ h=>h) (Or.inl ⟨by rfl,?_⟩) ?_ ?_
               rotate_left
               ·intro w'
                go_simp
                with_reducible rfl
               rotate_left
               ·simp only [Act.put,sA,sB,sC,i64_w,i32_w]
                rfl
               refine done_ (done_of HT_.out (by kernel_rfl)) ?_
               try go_wp2
               go_ret
               exact ⟨by first | rfl | (simp [errW_none,errW_some] <;> rfl) | (simp only [← hji7,← hji10]; first | rfl | (simp [errW_none,errW_some] <;> rfl)) | (simp [*,errW_none,errW_some] <;> rfl),by repeat (first | (with_reducible first | exact HB.out | apply below_alloc | apply pw_below_drewN | apply below_drew1) | exact HB.out)⟩
             ·rw [if_neg c51] at H
              exact absurd H (by simp)
            ·rw [if_neg c49] at H
             exact absurd H (by simp)
           ·rw [if_neg c48] at H
            exact absurd H (by simp)
       ·rw [if_neg c28] at H
        have c28b0 : decide (x13_1 < (y170.length : Int)) = false := decide_eq_false c28
        clear c28
        obtain rfl := Option.some.inj H
        obtain ⟨Ao73,co73,eo73⟩ := Kd.N_slice HO_12.out
        subst eo73
        go_wp2
        go_ret
        exact ⟨by first | rfl | (simp [errW_none,errW_some] <;> rfl) | (simp only [← hji7,← hji10]; first | rfl | (simp [errW_none,errW_some] <;> rfl)) | (simp [*,errW_none,errW_some] <;> rfl),by repeat (first | (with_reducible first | exact HB.out | apply below_alloc | apply pw_below_drewN | apply below_drew1) | exact HB.out)⟩
    ·rw [if_neg c12] at H
     exact absurd H (by simp)
   ·rw [if_neg c11] at H
    exact absurd H (by simp)
  ·rw [if_neg c9] at H
   exact absurd H (by simp)
 ·rw [if_neg c8] at H
  exact absurd H (by simp)

/-- THE ONE PURE STATEMENT of collatorlaw07_AlikeTells: yours. -/
def collatorlaw07_AlikeTells.Pure : Prop := ∀ (l0 : List ByteArray) (l1 : List ByteArray) (l2 : List Int) (l3 : List Int) (l4 : List Int),l0.length ≤ maxLen → l0.length * 16 ≤ 140737488351232 → (∀ x ∈ l0,x.size ≤ maxLen) → l1.length ≤ maxLen → l1.length * 16 ≤ 140737488351232 → (∀ x ∈ l1,x.size ≤ maxLen) → l2.length ≤ maxLen → l2.length * 8 ≤ 140737488351232 → (∀ x ∈ l2,(Lit.int .i64 x).wf = true) → l3.length ≤ maxLen → l3.length * 8 ≤ 140737488351232 → (∀ x ∈ l3,(Lit.int .i64 x).wf = true) → l4.length ≤ maxLen → l4.length * 8 ≤ 140737488351232 → (∀ x ∈ l4,(Lit.int .i64 x).wf = true) → ∃ k,collatorlaw07_AlikeTells.f k l0 l1 l2 l3 l4 = some true
theorem collatorlaw07_AlikeTells.walk (P : collatorlaw07_AlikeTells.Pure) (a0 : Option Addr) (len0 cap0 : Nat) (z0 : List ByteArray) (a1 : Option Addr) (len1 cap1 : Nat) (z1 : List ByteArray) (a2 : Option Addr) (len2 cap2 : Nat) (z2 : List Int) (a3 : Option Addr) (len3 cap3 : Nat) (z3 : List Int) (a4 : Option Addr) (len4 cap4 : Nat) (z4 : List Int) (w : World) (w0 : Go.Proofs.Ythplelgkneipjaa.HStrs.IsRowS w a0 len0 cap0 z0) (y0 : len0 * 16 ≤ 140737488351232) (w1 : Go.Proofs.Ythplelgkneipjaa.HStrs.IsRowS w a1 len1 cap1 z1) (y1 : len1 * 16 ≤ 140737488351232) (w2 : (a2 = none ∧ len2 = 0 ∧ cap2 = 0 ∧ z2 = []) ∨ ∃ x,a2 = some x ∧ len2 ≤ cap2 ∧ cap2 ≤ maxLen ∧ z2.length = cap2 ∧ (∀ i,i < z2.length → w.cell? (x.add i) = some (.int .i64 (z2.getD i 0))) ∧ ∀ n ∈ z2,(Lit.int .i64 n).wf = true) (y2 : len2 * 8 ≤ 140737488351232) (w3 : (a3 = none ∧ len3 = 0 ∧ cap3 = 0 ∧ z3 = []) ∨ ∃ x,a3 = some x ∧ len3 ≤ cap3 ∧ cap3 ≤ maxLen ∧ z3.length = cap3 ∧ (∀ i,i < z3.length → w.cell? (x.add i) = some (.int .i64 (z3.getD i 0))) ∧ ∀ n ∈ z3,(Lit.int .i64 n).wf = true) (y3 : len3 * 8 ≤ 140737488351232) (w4 : (a4 = none ∧ len4 = 0 ∧ cap4 = 0 ∧ z4 = []) ∨ ∃ x,a4 = some x ∧ len4 ≤ cap4 ∧ cap4 ≤ maxLen ∧ z4.length = cap4 ∧ (∀ i,i < z4.length → w.cell? (x.add i) = some (.int .i64 (z4.getD i 0))) ∧ ∀ n ∈ z4,(Lit.int .i64 n).wf = true) (y4 : len4 * 8 ≤ 140737488351232) :
  Calls Try.prog 3 #[.slice a0 len0 cap0,.slice a1 len1 cap1,.slice a2 len2 cap2,.slice a3 len3 cap3,.slice a4 len4 cap4] w fun e w' => e = .returned (.bool true) ∧ Below w.heap.size w w' := by
 obtain ⟨l0,rfl,hr0,hm0,hw0,hc0⟩ := Go.Proofs.Ythplelgkneipjaa.HStrs.ofRowS w0
 obtain ⟨l1,rfl,hr1,hm1,hw1,hc1⟩ := Go.Proofs.Ythplelgkneipjaa.HStrs.ofRowS w1
 obtain ⟨l2,rfl,hr2,hm2,hw2,hc2⟩ := ReadsInt.ofRowC w2
 obtain ⟨l3,rfl,hr3,hm3,hw3,hc3⟩ := ReadsInt.ofRowC w3
 obtain ⟨l4,rfl,hr4,hm4,hw4,hc4⟩ := ReadsInt.ofRowC w4
 obtain ⟨k,h⟩ := P l0 l1 l2 l3 l4 hm0 y0 hw0 hm1 y1 hw1 hm2 y2 hw2 hm3 y3 hw3 hm4 y4 hw4
 refine (collatorlaw07_AlikeTells.calls k (fun _ => True) _ _ l0 (fun _ => True) _ _ l1 _ _ l2 _ _ l3 _ _ l4 true w (Go.Proofs.Ythplelgkneipjaa.HStrs.v_of hr0 hc0) (Go.Proofs.Ythplelgkneipjaa.HStrs.v_of hr1 hc1) (Kd.C_of_reads (d := (0 : Int)) (h1 := fun _ => rfl) hr2) hc2 (Kd.C_of_reads (d := (0 : Int)) (h1 := fun _ => rfl) hr3) hc3 (Kd.C_of_reads (d := (0 : Int)) (h1 := fun _ => rfl) hr4) hc4 h).mono ?_
 rintro e w' ⟨rfl,hd⟩
 exact ⟨rfl,hd⟩

end Go.Proofs.Ythplelgkneipjaa.P
