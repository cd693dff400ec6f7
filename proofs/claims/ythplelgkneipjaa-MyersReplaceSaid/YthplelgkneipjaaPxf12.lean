/- Laid for this claim by hp.py, this session's program round the kit's print: functions of the program as plain Lean functions, the proofs that the code comes to their answers, and the rows of the laws. Not trusted: Lean checks it. -/
import Derived.Test.YthplelgkneipjaaPx0
import Derived.Test.YthplelgkneipjaaPxf28
import Derived.Test.YthplelgkneipjaaPxf31
import Derived.Test.YthplelgkneipjaaPxf33
import Derived.Test.YthplelgkneipjaaPxf38
import Derived.Test.YthplelgkneipjaaPxf18
import Derived.Test.YthplelgkneipjaaEAwake5
import Derived.Test.YthplelgkneipjaaEDiff
namespace Go.Proofs.Ythplelgkneipjaa.P
open Go.RowKit Go.Proofs.YthplelgkneipjaaW.PrintWords Go.Proofs.YthplelgkneipjaaW.PrintLast Go.Proofs.YthplelgkneipjaaW.PrintMore
attribute [local go_sem] max2_int min2_int max_two min_two max_three min_three max_four min_four   -- for this text's walks alone
set_option linter.unusedVariables false
set_option linter.unusedSimpArgs false

/-! ### collatorlaw05_MyersReplace: function 12 -/
mutual
def collatorlaw05_MyersReplace.j0 : Nat → Bool → List ByteArray → Int → List ByteArray → List (S49) → Option (Bool)
 | 0, _, _, _, _, _ => none
 | k + 1, x5, x6, x7, x8, x9 => if 0 ≤ x7 then (if x7 ≤ (wrap64 (x7 + 1)) then (if (wrap64 (x7 + 1)) ≤ (x8.length : Int) then ((some (([(⟨2, 1, ([] : List ByteArray)⟩ : S49), (⟨3, 1, ((x8.take ((wrap64 (x7 + 1)) : Int).toNat).drop (x7 : Int).toNat)⟩ : S49)] : List (S49)) : List (S49))).bind fun y561 => (if x9.length + y561.length < 3518437208883 then ((some (x9 ++ y561 : List (S49))).bind fun y564 => (if (wrap64 (x7 + 1)) < (x6.length : Int) then (if y564.length < 3518437208883 then (collatorlaw05_MyersReplace.j1 k x5 x6 x8 (y564 ++ [(⟨1, wrap64 ((wrap64 ((x6.length : Int) - x7)) - 1), ([] : List ByteArray)⟩ : S49)])) else (none)) else (collatorlaw05_MyersReplace.j1 k x5 x6 x8 y564))) else (none))) else (none)) else (none)) else (none)
def collatorlaw05_MyersReplace.j1 : Nat → Bool → List ByteArray → List ByteArray → List (S49) → Option (Bool)
 | 0, _, _, _, _ => none
 | k + 1, x5, x6, x8, x9 => if x5 = true then ((myers_Diff.f x6 x8).bind fun t570 => ((collatorref04_Same.f k t570 x9).bind fun t573 => (if t573 = true then ((myers_Cost.f x6 x8).bind fun t574 => (if t574 = 2 then ((myers_Common.f x6 x8).bind fun t575 => (some (t575 == (wrap64 ((x6.length : Int) - 1))))) else (some false))) else (some false)))) else (some false)
end
def collatorlaw05_MyersReplace.f (k : Nat) (l0 : List Int) (a1 : Int) : Option (Bool) := (collatorlaw05_awake.f).bind fun t544 => ((collatorlaw03_Lines.f k l0 30).bind fun t545 => (if (t545.length : Int) = 0 then (some t544) else ((collatorlaw05_pick.f a1 (t545.length : Int)).bind fun t548 => (if ([] : List ByteArray).length + t545.length < 8796093022208 then ((some (([] : List ByteArray) ++ t545 : List ByteArray)).bind fun y549 => (if 0 ≤ t548 then (if t548 < (y549.length : Int) then ((some (y549.set (t548 : Int).toNat (⟨#[110, 111, 119, 104, 101, 114, 101, 32, 101, 108, 115, 101, 10]⟩ : ByteArray) : List ByteArray)).bind fun y552 => (if t548 > 0 then (if ([] : List (S49)).length < 3518437208883 then (collatorlaw05_MyersReplace.j0 k t544 t545 t548 y552 (([] : List (S49)) ++ [(⟨1, t548, ([] : List ByteArray)⟩ : S49)])) else (none)) else (collatorlaw05_MyersReplace.j0 k t544 t545 t548 y552 ([] : List (S49))))) else (none)) else (none))) else (none)))))
theorem collatorlaw05_MyersReplace.mono_l : ∀ k, (∀ y0 y1 y2 y3 y4, LeO (collatorlaw05_MyersReplace.j0 k y0 y1 y2 y3 y4) (collatorlaw05_MyersReplace.j0 (k + 1) y0 y1 y2 y3 y4)) ∧ (∀ y0 y1 y2 y3, LeO (collatorlaw05_MyersReplace.j1 k y0 y1 y2 y3) (collatorlaw05_MyersReplace.j1 (k + 1) y0 y1 y2 y3))
 | 0 => ⟨fun _ _ _ _ _ r h => by simp [collatorlaw05_MyersReplace.j0] at h, fun _ _ _ _ r h => by simp [collatorlaw05_MyersReplace.j1] at h⟩
 | k + 1 => by
  obtain ⟨ih0, ih1⟩ := collatorlaw05_MyersReplace.mono_l k
  refine ⟨?_, ?_⟩
  ·intro y0 y1 y2 y3 y4
   unfold collatorlaw05_MyersReplace.j0
   repeat' first
   | (with_reducible exact ih0 _ _ _ _ _)
   | (with_reducible exact ih1 _ _ _ _)
   | (with_reducible exact collatorlaw03_Lines.mono _ _ _)
   | (with_reducible exact collatorref04_Same.mono _ _ _)
   | (with_reducible exact LeO.refl _)
   | (with_reducible exact LeO.none _)
   | (with_reducible refine LeO.ite ?_ ?_)
   | (with_reducible refine LeO.bind ?_ (fun _ => ?_))
   | exact ih0 _ _ _ _ _
   | exact ih1 _ _ _ _
   | exact collatorlaw03_Lines.mono _ _ _
   | exact collatorref04_Same.mono _ _ _
   | exact LeO.none _
   | refine LeO.ite ?_ ?_
   | refine LeO.bind ?_ (fun _ => ?_)
  ·intro y0 y1 y2 y3
   unfold collatorlaw05_MyersReplace.j1
   repeat' first
   | (with_reducible exact ih0 _ _ _ _ _)
   | (with_reducible exact ih1 _ _ _ _)
   | (with_reducible exact collatorlaw03_Lines.mono _ _ _)
   | (with_reducible exact collatorref04_Same.mono _ _ _)
   | (with_reducible exact LeO.refl _)
   | (with_reducible exact LeO.none _)
   | (with_reducible refine LeO.ite ?_ ?_)
   | (with_reducible refine LeO.bind ?_ (fun _ => ?_))
   | exact ih0 _ _ _ _ _
   | exact ih1 _ _ _ _
   | exact collatorlaw03_Lines.mono _ _ _
   | exact collatorref04_Same.mono _ _ _
   | exact LeO.none _
   | refine LeO.ite ?_ ?_
   | refine LeO.bind ?_ (fun _ => ?_)
theorem collatorlaw05_MyersReplace.mono : ∀ a0 a1 k, LeO (collatorlaw05_MyersReplace.f k a0 a1) (collatorlaw05_MyersReplace.f (k + 1) a0 a1) := by
 intro a0 a1 k
 obtain ⟨ih0, ih1⟩ := collatorlaw05_MyersReplace.mono_l k
 unfold collatorlaw05_MyersReplace.f
 repeat' first
   | (with_reducible exact ih0 _ _ _ _ _)
   | (with_reducible exact ih1 _ _ _ _)
   | (with_reducible exact collatorlaw03_Lines.mono _ _ _)
   | (with_reducible exact collatorref04_Same.mono _ _ _)
   | (with_reducible exact LeO.refl _)
   | (with_reducible exact LeO.none _)
   | (with_reducible refine LeO.ite ?_ ?_)
   | (with_reducible refine LeO.bind ?_ (fun _ => ?_))
   | exact ih0 _ _ _ _ _
   | exact ih1 _ _ _ _
   | exact collatorlaw03_Lines.mono _ _ _
   | exact collatorref04_Same.mono _ _ _
   | exact LeO.none _
   | refine LeO.ite ?_ ?_
   | refine LeO.bind ?_ (fun _ => ?_)
set_option maxHeartbeats 8000000 in
set_option maxRecDepth 100000 in
theorem collatorlaw05_MyersReplace.calls (k : Nat) (A0 : Option Addr) (c0 : Nat) (l0 : List Int) (a1 : Int) (r : Bool) (w : World) (hr0 : Kd.C (Kd.int .i64) w A0 l0.length l0) (hc0 : l0.length ≤ c0) (h : collatorlaw05_MyersReplace.f k l0 a1 = some r) :
  Calls Try.prog 12 #[.slice A0 l0.length c0, .int .i64 a1] w fun e w' => e = .returned (.bool r) ∧ Below w.heap.size w w' := by
 have hu49 := Try.underlying49
 have HR0 := Aside0.mk hr0
 have HC0 := Aside0.mk hc0
 clear hr0 hc0
 have HB := Aside0.mk (Below.refl w.heap.size w)
 have H : ((collatorlaw05_awake.f).bind fun t544 => ((collatorlaw03_Lines.f k l0 30).bind fun t545 => (if (t545.length : Int) = 0 then (some t544) else ((collatorlaw05_pick.f a1 (t545.length : Int)).bind fun t548 => (if ([] : List ByteArray).length + t545.length < 8796093022208 then ((some (([] : List ByteArray) ++ t545 : List ByteArray)).bind fun y549 => (if 0 ≤ t548 then (if t548 < (y549.length : Int) then ((some (y549.set (t548 : Int).toNat (⟨#[110, 111, 119, 104, 101, 114, 101, 32, 101, 108, 115, 101, 10]⟩ : ByteArray) : List ByteArray)).bind fun y552 => (if t548 > 0 then (if ([] : List (S49)).length < 3518437208883 then (collatorlaw05_MyersReplace.j0 k t544 t545 t548 y552 (([] : List (S49)) ++ [(⟨1, t548, ([] : List ByteArray)⟩ : S49)])) else (none)) else (collatorlaw05_MyersReplace.j0 k t544 t545 t548 y552 ([] : List (S49))))) else (none)) else (none))) else (none)))))) = some r := h
 clear h
 replace H := Option.bind_eq_some_iff.mp H
 obtain ⟨t544, A30, H⟩ := H
 replace H : ((collatorlaw03_Lines.f k l0 30).bind fun t545 => (if (t545.length : Int) = 0 then (some t544) else ((collatorlaw05_pick.f a1 (t545.length : Int)).bind fun t548 => (if ([] : List ByteArray).length + t545.length < 8796093022208 then ((some (([] : List ByteArray) ++ t545 : List ByteArray)).bind fun y549 => (if 0 ≤ t548 then (if t548 < (y549.length : Int) then ((some (y549.set (t548 : Int).toNat (⟨#[110, 111, 119, 104, 101, 114, 101, 32, 101, 108, 115, 101, 10]⟩ : ByteArray) : List ByteArray)).bind fun y552 => (if t548 > 0 then (if ([] : List (S49)).length < 3518437208883 then (collatorlaw05_MyersReplace.j0 k t544 t545 t548 y552 (([] : List (S49)) ++ [(⟨1, t548, ([] : List ByteArray)⟩ : S49)])) else (none)) else (collatorlaw05_MyersReplace.j0 k t544 t545 t548 y552 ([] : List (S49))))) else (none)) else (none))) else (none))))) = some r := H
 have A3 := Aside0.mk A30
 clear A30
 replace H := Option.bind_eq_some_iff.mp H
 obtain ⟨t545, A40, H⟩ := H
 replace H : (if (t545.length : Int) = 0 then (some t544) else ((collatorlaw05_pick.f a1 (t545.length : Int)).bind fun t548 => (if ([] : List ByteArray).length + t545.length < 8796093022208 then ((some (([] : List ByteArray) ++ t545 : List ByteArray)).bind fun y549 => (if 0 ≤ t548 then (if t548 < (y549.length : Int) then ((some (y549.set (t548 : Int).toNat (⟨#[110, 111, 119, 104, 101, 114, 101, 32, 101, 108, 115, 101, 10]⟩ : ByteArray) : List ByteArray)).bind fun y552 => (if t548 > 0 then (if ([] : List (S49)).length < 3518437208883 then (collatorlaw05_MyersReplace.j0 k t544 t545 t548 y552 (([] : List (S49)) ++ [(⟨1, t548, ([] : List ByteArray)⟩ : S49)])) else (none)) else (collatorlaw05_MyersReplace.j0 k t544 t545 t548 y552 ([] : List (S49))))) else (none)) else (none))) else (none)))) = some r := H
 have A4 := Aside0.mk A40
 clear A40
 by_cases c5 : (t545.length : Int) = 0
 ·rw [if_pos c5] at H
  have c5b0 : ((t545.length : Int) == 0) = true := beq_iff_eq.mpr c5
  have c5b1 : ((t545.length : Int) != 0) = false := bne_eq_false_iff_eq.mpr c5
  clear c5
  obtain rfl := Option.some.inj H
  go_enter Try.func12, Try.ntmps12
  go_wp2_with (first | ((with_reducible refine gate_callee (f := 27) rfl ?_); refine goesL_ (some 10) rfl rfl Try.func27 (by kernel_rfl) rfl #[] rfl (by (try simp only [List.map_toArray, List.map_cons, List.map_nil]); first | done | rfl | (simp only [List.length_drop, List.length_take]; rfl)) ?_; (with_reducible refine (collatorlaw05_awake.calls  t544 _ A3.out).mono ?_); rintro e w6 ⟨rfl, hb⟩; refine ⟨_, rfl, ?_⟩; have n0_ := Aside0.mk (below_step (by repeat (first | (with_reducible first | exact HB.out | apply below_alloc | apply pw_below_drewN | apply below_drew1) | exact HB.out)) hb); clear HB; have HB := n0_; clear n0_; (try clear hb); (try clear hb2); (try clear hk); (try clear hi)) | ((with_reducible refine gate_callee (f := 18) rfl ?_); refine goesL_ (some 12) rfl rfl Try.func18 (by kernel_rfl) rfl #[.slice A0 l0.length c0, .int .i64 30] rfl (by (try simp only [List.map_toArray, List.map_cons, List.map_nil]); first | done | rfl | (simp only [List.length_drop, List.length_take]; rfl)) ?_; (with_reducible refine (collatorlaw03_Lines.calls k _ _ l0 30 t545 _ ?side1 ?side2 A4.out).mono ?_); (case side1 => repeat (first | exact (Kd.C_below HR0.out HB.out) | (with_reducible refine Kd.C_alloc ?_ _) | (with_reducible refine Kd.C_drewN ?_ _) | (with_reducible refine Kd.C_drew ?_))); (case side2 => exact HC0.out); rintro e w7 ⟨v546, rfl, ho0, hb⟩; refine ⟨_, rfl, ?_⟩; have n0_ := Aside0.mk (Kd.R_lower ho0 (below_size (by repeat (first | (with_reducible first | exact HB.out | apply below_alloc | apply pw_below_drewN | apply below_drew1) | exact HB.out)))); have n1_ := Aside0.mk (below_step (by repeat (first | (with_reducible first | exact HB.out | apply below_alloc | apply pw_below_drewN | apply below_drew1) | exact HB.out)) hb); clear HB; have HO547 := n0_; have HB := n1_; clear n0_ n1_; (try clear hb); (try clear hb2); (try clear hk); (try clear hi); (try clear ho0); (try (obtain ⟨Ao8, co8, eo8⟩ := Kd.R_slice HO547.out; subst eo8))))
  go_ret
  exact ⟨by first | rfl | (simp [errW_none, errW_some] <;> rfl) | (simp [*, errW_none, errW_some] <;> rfl), by repeat (first | (with_reducible first | exact HB.out | apply below_alloc | apply pw_below_drewN | apply below_drew1) | exact HB.out)⟩
 ·rw [if_neg c5] at H
  have c5b0 : ((t545.length : Int) == 0) = false := beq_eq_false_iff_ne.mpr c5
  have c5b1 : ((t545.length : Int) != 0) = true := bne_iff_ne.mpr c5
  have c5b2 : ¬ (t545 = []) := fun h_ => c5 (by rw [h_]; rfl)
  replace H := Option.bind_eq_some_iff.mp H
  obtain ⟨t548, A90, H⟩ := H
  replace H : (if ([] : List ByteArray).length + t545.length < 8796093022208 then ((some (([] : List ByteArray) ++ t545 : List ByteArray)).bind fun y549 => (if 0 ≤ t548 then (if t548 < (y549.length : Int) then ((some (y549.set (t548 : Int).toNat (⟨#[110, 111, 119, 104, 101, 114, 101, 32, 101, 108, 115, 101, 10]⟩ : ByteArray) : List ByteArray)).bind fun y552 => (if t548 > 0 then (if ([] : List (S49)).length < 3518437208883 then (collatorlaw05_MyersReplace.j0 k t544 t545 t548 y552 (([] : List (S49)) ++ [(⟨1, t548, ([] : List ByteArray)⟩ : S49)])) else (none)) else (collatorlaw05_MyersReplace.j0 k t544 t545 t548 y552 ([] : List (S49))))) else (none)) else (none))) else (none)) = some r := H
  have A9 := Aside0.mk A90
  clear A90
  by_cases c10 : ([] : List ByteArray).length + t545.length < 8796093022208
  ·rw [if_pos c10] at H
   have LMc10 := Aside0.mk c10
   clear c10
   obtain ⟨y549, hy549⟩ : ∃ y_ : List ByteArray, y_ = (([] : List ByteArray) ++ t545) := ⟨_, rfl⟩
   replace H : (if 0 ≤ t548 then (if t548 < (y549.length : Int) then ((some (y549.set (t548 : Int).toNat (⟨#[110, 111, 119, 104, 101, 114, 101, 32, 101, 108, 115, 101, 10]⟩ : ByteArray) : List ByteArray)).bind fun y552 => (if t548 > 0 then (if ([] : List (S49)).length < 3518437208883 then (collatorlaw05_MyersReplace.j0 k t544 t545 t548 y552 (([] : List (S49)) ++ [(⟨1, t548, ([] : List ByteArray)⟩ : S49)])) else (none)) else (collatorlaw05_MyersReplace.j0 k t544 t545 t548 y552 ([] : List (S49))))) else (none)) else (none)) = some r := by first | (rw [hy549]; with_reducible exact H) | (have H2_ := (Option.bind_some _ _).symm.trans H; rw [hy549]; with_reducible exact H2_) | (have H2_ := (Option.bind_some _ _).symm.trans H; with_reducible exact H2_) | with_reducible exact H | (rw [hy549]; exact H) | exact H
   have Ny549 := Aside0.mk hy549
   clear hy549
   by_cases c11 : 0 ≤ t548
   ·rw [if_pos c11] at H
    have c11b0 : decide (0 ≤ t548) = true := decide_eq_true c11
    clear c11
    by_cases c12 : t548 < (y549.length : Int)
    ·rw [if_pos c12] at H
     have c12b0 : decide (t548 < (y549.length : Int)) = true := decide_eq_true c12
     clear c12
     obtain ⟨y552, hy552⟩ : ∃ y_ : List ByteArray, y_ = (y549.set (t548 : Int).toNat (⟨#[110, 111, 119, 104, 101, 114, 101, 32, 101, 108, 115, 101, 10]⟩ : ByteArray)) := ⟨_, rfl⟩
     replace H : (if t548 > 0 then (if ([] : List (S49)).length < 3518437208883 then (collatorlaw05_MyersReplace.j0 k t544 t545 t548 y552 (([] : List (S49)) ++ [(⟨1, t548, ([] : List ByteArray)⟩ : S49)])) else (none)) else (collatorlaw05_MyersReplace.j0 k t544 t545 t548 y552 ([] : List (S49)))) = some r := by first | (rw [hy552]; with_reducible exact H) | (have H2_ := (Option.bind_some _ _).symm.trans H; rw [hy552]; with_reducible exact H2_) | (have H2_ := (Option.bind_some _ _).symm.trans H; with_reducible exact H2_) | with_reducible exact H | (rw [hy552]; exact H) | exact H
     have Ny552 := Aside0.mk hy552
     clear hy552
     have HC14 := Aside0.mk H
     clear H
     go_enter Try.func12, Try.ntmps12
     go_upto_if 27 with (first | ((with_reducible refine gate_callee (f := 27) rfl ?_); refine goesL_ (some 10) rfl rfl Try.func27 (by kernel_rfl) rfl #[] rfl (by (try simp only [List.map_toArray, List.map_cons, List.map_nil]); first | done | rfl | (simp only [List.length_drop, List.length_take]; rfl)) ?_; (with_reducible refine (collatorlaw05_awake.calls  t544 _ A3.out).mono ?_); rintro e w15 ⟨rfl, hb⟩; refine ⟨_, rfl, ?_⟩; have n0_ := Aside0.mk (below_step (by repeat (first | (with_reducible first | exact HB.out | apply below_alloc | apply pw_below_drewN | apply below_drew1) | exact HB.out)) hb); clear HB; have HB := n0_; clear n0_; (try clear hb); (try clear hb2); (try clear hk); (try clear hi)) | ((with_reducible refine gate_callee (f := 18) rfl ?_); refine goesL_ (some 12) rfl rfl Try.func18 (by kernel_rfl) rfl #[.slice A0 l0.length c0, .int .i64 30] rfl (by (try simp only [List.map_toArray, List.map_cons, List.map_nil]); first | done | rfl | (simp only [List.length_drop, List.length_take]; rfl)) ?_; (with_reducible refine (collatorlaw03_Lines.calls k _ _ l0 30 t545 _ ?side1 ?side2 A4.out).mono ?_); (case side1 => repeat (first | exact (Kd.C_below HR0.out HB.out) | (with_reducible refine Kd.C_alloc ?_ _) | (with_reducible refine Kd.C_drewN ?_ _) | (with_reducible refine Kd.C_drew ?_))); (case side2 => exact HC0.out); rintro e w16 ⟨v546, rfl, ho0, hb⟩; refine ⟨_, rfl, ?_⟩; have n0_ := Aside0.mk (Kd.R_lower ho0 (below_size (by repeat (first | (with_reducible first | exact HB.out | apply below_alloc | apply pw_below_drewN | apply below_drew1) | exact HB.out)))); have n1_ := Aside0.mk (below_step (by repeat (first | (with_reducible first | exact HB.out | apply below_alloc | apply pw_below_drewN | apply below_drew1) | exact HB.out)) hb); clear HB; have HO547 := n0_; have HB := n1_; clear n0_ n1_; (try clear hb); (try clear hb2); (try clear hk); (try clear hi); (try clear ho0); (try (obtain ⟨Ao17, co17, eo17⟩ := Kd.R_slice HO547.out; subst eo17))) | ((with_reducible refine gate_callee (f := 38) rfl ?_); refine goesL_ (some 20) rfl rfl Try.func38 (by kernel_rfl) rfl #[.int .i64 a1, .int .i64 (t545.length : Int)] rfl (by (try simp only [List.map_toArray, List.map_cons, List.map_nil]); first | done | rfl | (simp only [List.length_drop, List.length_take]; rfl)) ?_; (with_reducible refine (collatorlaw05_pick.calls a1 (t545.length : Int) t548 _ A9.out).mono ?_); rintro e w' ⟨rfl, ⟨nd, rfl⟩⟩; refine ⟨_, rfl, ?_⟩; (try (rw [drewN_self w16]; generalize hq_ : World.drewN w16 _ = w16; have n0_ : Aside0 (Kd.R Kd.string 9 w16 w.heap.size (fun _ => True) (.slice Ao17 t545.length co17) t545) := ⟨by rw [← hq_]; exact (by (with_reducible repeat (first | apply Kd.R_alloc | apply Kd.R_drewN | apply Kd.R_drew)); exact HO547.out)⟩; have n1_ : Aside0 (Below w.heap.size w w16) := ⟨by rw [← hq_]; exact (by repeat (first | (with_reducible first | exact HB.out | apply below_alloc | apply pw_below_drewN | apply below_drew1) | exact HB.out))⟩; clear HO547 HB hq_; have HO547 := n0_; have HB := n1_; clear n0_ n1_))) | ((with_reducible refine gate_builtin (b := .append) (xs := #[.const (.slice none 0 0), .tmp 21]) rfl ?_); (try (refine gate_guard (by rfl) ?_; dsimp only)); at_builtin; refine Kd.R_append_rows Kd.string (w0 := w) w.heap.size rfl (.const (.slice none 0 0)) (.tmp 21) 22 9 (.string ⟨#[]⟩) 16 rfl Try.underlying22 info9 rfl (by decide) (by omega) (.slice none 0 0) ([] : List ByteArray) t545 _ _ _ (fun k_ => some k_ ≠ (.slice Ao17 t545.length co17 : Value).ownBlock) (fun _ => False) rfl rfl ?aO ?aR (fun _ _ h => h) (fun _ h => h.elim) ?aF ?aB ?aS ?aL ?_; (case aR => repeat (first | exact (Kd.R_reads' HO547.out).2.2 | (with_reducible refine Kd.C_alloc ?_ _) | (with_reducible refine Kd.C_drewN ?_ _) | (with_reducible refine Kd.C_drew ?_))); (case aB => exact (by repeat (first | (with_reducible first | exact HB.out | apply below_alloc | apply pw_below_drewN | apply below_drew1) | exact HB.out))); (case aF => exact (fun k_ hk => Kd.fresh' (Kd.R_lt (by (with_reducible repeat (first | apply Kd.R_alloc | apply Kd.R_drewN | apply Kd.R_drew)); exact HO547.out)) k_ hk)); (case aO => exact ((Kd.R_nil _ _ _ _ (fun k_ => some k_ ≠ (.slice Ao17 t545.length co17 : Value).ownBlock)))); (case aS => exact (below_size (by repeat (first | (with_reducible first | exact HB.out | apply below_alloc | apply pw_below_drewN | apply below_drew1) | exact HB.out)))); (case aL => have := LMc10.out; omega); intro v550 w18 ho hb hg hat; rw [← Ny549.out] at ho; have n0_ := Aside0.mk (Kd.R_after (Kd.R_apart_nil (by (with_reducible repeat (first | apply Kd.R_alloc | apply Kd.R_drewN | apply Kd.R_drew)); exact HO547.out)) hg hat); have n1_ := Aside0.mk (hb); have n2_ := Aside0.mk (ho); clear HO547; clear HB; have HO547 := n0_; have HB := n1_; have HO551 := n2_; clear n0_ n1_ n2_; clear ho hb hg hat; have p13 : 0 ≤ (t548 : Int) := of_decide_eq_true (by first | (with_reducible assumption) | assumption); have q13 : (t548 : Int) < ((y549.length : Int) : Int) := of_decide_eq_true (by first | (with_reducible assumption) | assumption); obtain ⟨go13, co13, eo13, gb13, gl13, cl13, HG13⟩ := Kd.R_form HO551.out (by omega); (first | cases eo13 | (injection eo13 with ea_ en_ ec_; (first | subst ea_ | (injection ea_ with ea_; subst ea_)); subst ec_; clear en_)); have GB13 := Aside0.mk gb13; have GG13 := Aside0.mk HG13; clear gb13 gl13 HG13; obtain ⟨hx13_0, hf13_0⟩ := Kd.R_celln (⟨#[]⟩ : ByteArray) HO551.out (t548 : Int) p13 q13; replace p13 := eq_true p13; replace q13 := eq_true q13; obtain ⟨hy19_, hz19_⟩ := Kd.R_celln (⟨#[]⟩ : ByteArray) HO551.out (t548 : Int) (of_decide_eq_true (by first | (with_reducible assumption) | assumption)) (of_decide_eq_true (by first | (with_reducible assumption) | assumption)); have HP19 := Kd.R_putg HO551.out (t548 : Int) (⟨#[110, 111, 119, 104, 101, 114, 101, 32, 101, 108, 115, 101, 10]⟩ : ByteArray)) | ((with_reducible refine gate_store (t := 9) (p := 25) rfl ?_); refine store_event (t := 9) (p := 25) (v := ?vo_w20) (w1 := (w18.setCell ⟨go13, (t548 : Int).toNat, none⟩ (.string (⟨#[110, 111, 119, 104, 101, 114, 101, 32, 101, 108, 115, 101, 10]⟩ : ByteArray)))) ?hg ?ho ?hn ?hr ?_; (case ho => rfl); (case hg => rfl); (case hn => rfl); (case hr => first | (go_simp; done) | (go_simp; rfl)); intro w20 hw; have hg : w18.grownBy w20 (some go13) := (by rw [hw]; exact HP19.2); have hp_ : Kd.R Kd.string 9 w20 w.heap.size (fun k_ => some k_ ≠ (.slice Ao17 t545.length co17 : Value).ownBlock) (.slice (some ⟨go13, 0, none⟩) y549.length co13) y552 := (by rw [hw, Ny552.out]; exact HP19.1); clear HP19; have n0_ := Aside0.mk (Kd.R_after (v := (.slice (some ⟨go13, 0, none⟩) y549.length co13)) (v1 := (.slice (some ⟨go13, 0, none⟩) y549.length co13)) (ok := (fun _ => True)) (by (with_reducible repeat (first | apply Kd.R_alloc | apply Kd.R_drewN | apply Kd.R_drew)); exact HO547.out) hg (.inl rfl)); have n1_ := Aside0.mk (hp_); have n2_ := Aside0.mk ((by rw [hw]; exact below_set (HB.out) GB13.out : Below w.heap.size w w20)); clear HO547; clear HO551; clear HB; have HO547 := n0_; have HO551 := n1_; have HB := n2_; clear n0_ n1_ n2_; clear hg hw hp_))
     (try simp only [Act.put, List.setIfInBounds_toArray, List.set_cons_zero, List.set_cons_succ])
     go_cut [9] (fun v9 wc => ∃ (kq : Nat) (x9_13 : List (S49)), Aside0 (collatorlaw05_MyersReplace.j0 kq t544 t545 t548 y552 x9_13 = some r) ∧ Aside0 (kq ≤ k) ∧ Aside0 (Kd.R Kd.string 9 wc w.heap.size (fun k_ => some k_ ≠ ((.slice (some ⟨go13, 0, none⟩) y549.length co13) : Value).ownBlock) (.slice Ao17 t545.length co17) t545) ∧ Aside0 (Kd.R Kd.string 9 wc w.heap.size (fun k_ => some k_ ≠ ((.slice Ao17 t545.length co17) : Value).ownBlock) (.slice (some ⟨go13, 0, none⟩) y549.length co13) y552) ∧ Aside0 (Kd.N k49 49 wc w.heap.size (fun k_ => some k_ ≠ ((.slice Ao17 t545.length co17) : Value).ownBlock) v9 x9_13) ∧ Aside0 (Below w.heap.size w wc))
     case first =>
      have H := HC14.out
      clear HC14
      by_cases c21 : t548 > 0
      ·rw [if_pos c21] at H
       have c21b0 : decide (0 < t548) = true := decide_eq_true c21
       clear c21
       (first | rw [c21b0] | (simp only [i64_w, i32_w]; rw [c21b0]) | skip)
       by_cases c22 : ([] : List (S49)).length < 3518437208883
       ·rw [if_pos c22] at H
        have LMc22 := Aside0.mk c22
        clear c22
        obtain ⟨y553, hy553⟩ : ∃ y_ : List (S49), y_ = (([] : List (S49)) ++ [(⟨1, t548, ([] : List ByteArray)⟩ : S49)]) := ⟨_, rfl⟩
        replace H : (collatorlaw05_MyersReplace.j0 k t544 t545 t548 y552 y553) = some r := by first | (rw [hy553]; with_reducible exact H) | (have H2_ := (Option.bind_some _ _).symm.trans H; rw [hy553]; with_reducible exact H2_) | (have H2_ := (Option.bind_some _ _).symm.trans H; with_reducible exact H2_) | with_reducible exact H | (rw [hy553]; exact H) | exact H
        have Ny553 := Aside0.mk hy553
        clear hy553
        have H' := Aside0.mk H
        clear H
        go_wp2_with (first | ((with_reducible refine gate_builtin (b := .append) (xs := #[.tmp 28, .tmp 31]) rfl ?_); (try (refine gate_guard (by rfl) ?_; dsimp only)); at_builtin; refine Kd.N_append k49 (w0 := w) w.heap.size rfl (.tmp 28) (.tmp 31) 40 49 (.agg #[(.int .i64 0), (.int .i64 0), (.slice none 0 0)]) 40 rfl Try.underlying40 info49 rfl (by decide) (by omega) (.slice none 0 0) ([] : List (S49)) (⟨1, t548, ([] : List ByteArray)⟩ : S49) [.int .i64 1, .int .i64 t548, .slice none 0 0] (fun k_ => some k_ ≠ (.slice Ao17 t545.length co17 : Value).ownBlock ∧ some k_ ≠ (.slice (some ⟨go13, 0, none⟩) y549.length co13 : Value).ownBlock) (fun k_ => ((fun k_ => some k_ ≠ (.slice Ao17 t545.length co17 : Value).ownBlock ∧ some k_ ≠ (.slice (some ⟨go13, 0, none⟩) y549.length co13 : Value).ownBlock)) k_ ∧ some k_ ≠ (.slice none 0 0 : Value).ownBlock) rfl rfl ?aP (fun _ hk => hk) ?aF ?aO ?aB ?aS ?aL ?_; (case aP => exact (k49_mkF _ _ (⟨1, t548, ([] : List ByteArray)⟩ : S49) (Nat.le_refl _) (Kd.F_nil _ _ _))); (case aB => exact (by repeat (first | (with_reducible first | exact HB.out | apply below_alloc | apply pw_below_drewN | apply below_drew1) | exact HB.out))); (case aF => exact (fun k_ hk => ⟨Kd.fresh' (Kd.R_lt (by (with_reducible repeat (first | apply Kd.R_alloc | apply Kd.R_drewN | apply Kd.R_drew)); exact HO547.out)) k_ hk, Kd.fresh' (Kd.R_lt (by (with_reducible repeat (first | apply Kd.R_alloc | apply Kd.R_drewN | apply Kd.R_drew)); exact HO551.out)) k_ hk⟩)); (case aO => exact ((Kd.N_nil _ _ _ _ (fun k_ => some k_ ≠ (.slice Ao17 t545.length co17 : Value).ownBlock ∧ some k_ ≠ (.slice (some ⟨go13, 0, none⟩) y549.length co13 : Value).ownBlock)))); (case aS => exact (below_size (by repeat (first | (with_reducible first | exact HB.out | apply below_alloc | apply pw_below_drewN | apply below_drew1) | exact HB.out)))); (case aL => have := LMc22.out; omega); intro v554 w23 ho hb hg hat; rw [← Ny553.out] at ho; have n0_ := Aside0.mk (Kd.R_grown (by (with_reducible repeat (first | apply Kd.R_alloc | apply Kd.R_drewN | apply Kd.R_drew)); exact HO547.out) hg (fun _ _ => by simp [Value.ownBlock])); have n1_ := Aside0.mk (Kd.R_grown (by (with_reducible repeat (first | apply Kd.R_alloc | apply Kd.R_drewN | apply Kd.R_drew)); exact HO551.out) hg (fun _ _ => by simp [Value.ownBlock])); have n2_ := Aside0.mk (hb); have n3_ := Aside0.mk (ho); clear HO547; clear HO551; clear HB; have HO547 := n0_; have HO551 := n1_; have HB := n2_; have HO555 := n3_; clear n0_ n1_ n2_ n3_; clear ho hb hg hat))
        go_meet
        case rel => exact ⟨_, (y553), H', ⟨by first | omega | exact Nat.le_refl _⟩, ⟨by (with_reducible repeat (first | apply Kd.R_alloc | apply Kd.R_drewN | apply Kd.R_drew)); exact Kd.R_mono HO547.out (fun _ hk => hk.2)⟩, ⟨by (with_reducible repeat (first | apply Kd.R_alloc | apply Kd.R_drewN | apply Kd.R_drew)); exact HO551.out⟩, ⟨by (with_reducible repeat (first | apply Kd.N_alloc | apply Kd.N_drewN | apply Kd.N_drew)); exact Kd.N_mono HO555.out (fun _ hk => hk.1)⟩, ⟨by repeat (first | (with_reducible first | exact HB.out | apply below_alloc | apply pw_below_drewN | apply below_drew1) | exact HB.out)⟩⟩
       ·rw [if_neg c22] at H
        exact absurd H (by simp)
      ·rw [if_neg c21] at H
       have c21b0 : decide (0 < t548) = false := decide_eq_false c21
       clear c21
       (first | rw [c21b0] | (simp only [i64_w, i32_w]; rw [c21b0]) | skip)
       have H' := Aside0.mk H
       clear H
       go_wp2
       go_meet
       case rel => exact ⟨_, (([] : List (S49))), H', ⟨by first | omega | exact Nat.le_refl _⟩, ⟨by (with_reducible repeat (first | apply Kd.R_alloc | apply Kd.R_drewN | apply Kd.R_drew)); exact Kd.R_mono HO547.out (fun _ hk => hk.2)⟩, ⟨by (with_reducible repeat (first | apply Kd.R_alloc | apply Kd.R_drewN | apply Kd.R_drew)); exact HO551.out⟩, ⟨by first | exact Kd.S_nil _ _ _ _ _ | exact Kd.N_nil _ _ _ _ _ | exact Kd.V_nil _ _ _ _ _ | exact Kd.Q_nil _ _ _ _ _ | exact Kd.R_nil _ _ _ _ _⟩, ⟨by repeat (first | (with_reducible first | exact HB.out | apply below_alloc | apply pw_below_drewN | apply below_drew1) | exact HB.out)⟩⟩
     case rest =>
      clear HC14
      try clear c1
      try clear p1
      try clear q1
      try clear hx1
      try clear c2
      try clear p2
      try clear c3
      try clear c5
      try clear c5b0
      try clear c5b1
      try clear c5b2
      try clear c10
      try clear c11
      try clear c11b0
      try clear c12
      try clear c12b0
      try clear p13
      try clear q13
      try clear hx13
      try clear hf13
      try clear c18
      try clear c21
      try clear c21b0
      try clear c22
      try clear hx13_0
      try clear p13
      try clear q13
      obtain ⟨kq, x9_13, HA, HJ13, HO_6, HO_8, HO_9, HB⟩ := hcut
      have hl8_13 := (Kd.R_reads' HO_8.out).1
      rw [hl8_13] at HO_8
      (try simp only [hl8_13])
      (try simp only [hl8_13] at HO_6)
      (try simp only [hl8_13] at HO_9)
      cases kq with
      | zero => exact absurd HA.out (by simp [collatorlaw05_MyersReplace.j0])
      | succ kj13 =>
       have H := HA.out
       clear HA
       simp only [collatorlaw05_MyersReplace.j0] at H
       by_cases c24 : 0 ≤ t548
       ·rw [if_pos c24] at H
        have c24b0 := eq_true c24
        have c24b1 : decide (0 ≤ t548) = true := decide_eq_true c24
        clear c24
        by_cases c25 : t548 ≤ (wrap64 (t548 + 1))
        ·rw [if_pos c25] at H
         have c25b0 := eq_true c25
         have c25b1 : decide (t548 ≤ (wrap64 (t548 + 1))) = true := decide_eq_true c25
         by_cases c26 : (wrap64 (t548 + 1)) ≤ (y552.length : Int)
         ·rw [if_pos c26] at H
          have c26b0 := eq_true c26
          have c26b1 : decide ((wrap64 (t548 + 1)) ≤ (y552.length : Int)) = true := decide_eq_true c26
          obtain ⟨y556, hy556⟩ : ∃ y_ : List ByteArray, y_ = ((y552.take ((wrap64 (t548 + 1)) : Int).toNat).drop (t548 : Int).toNat) := ⟨_, rfl⟩
          replace H : ((some (([(⟨2, 1, ([] : List ByteArray)⟩ : S49), (⟨3, 1, y556⟩ : S49)] : List (S49)) : List (S49))).bind fun y561 => (if x9_13.length + y561.length < 3518437208883 then ((some (x9_13 ++ y561 : List (S49))).bind fun y564 => (if (wrap64 (t548 + 1)) < (t545.length : Int) then (if y564.length < 3518437208883 then (collatorlaw05_MyersReplace.j1 kj13 t544 t545 y552 (y564 ++ [(⟨1, wrap64 ((wrap64 ((t545.length : Int) - t548)) - 1), ([] : List ByteArray)⟩ : S49)])) else (none)) else (collatorlaw05_MyersReplace.j1 kj13 t544 t545 y552 y564))) else (none))) = some r := by first | (rw [hy556]; with_reducible exact H) | (have H2_ := (Option.bind_some _ _).symm.trans H; rw [hy556]; with_reducible exact H2_) | (have H2_ := (Option.bind_some _ _).symm.trans H; with_reducible exact H2_) | with_reducible exact H | (rw [hy556]; exact H) | exact H
          have Ny556 := Aside0.mk hy556
          clear hy556
          obtain ⟨y561, hy561⟩ : ∃ y_ : List (S49), y_ = (([(⟨2, 1, ([] : List ByteArray)⟩ : S49), (⟨3, 1, y556⟩ : S49)] : List (S49))) := ⟨_, rfl⟩
          replace H : (if x9_13.length + y561.length < 3518437208883 then ((some (x9_13 ++ y561 : List (S49))).bind fun y564 => (if (wrap64 (t548 + 1)) < (t545.length : Int) then (if y564.length < 3518437208883 then (collatorlaw05_MyersReplace.j1 kj13 t544 t545 y552 (y564 ++ [(⟨1, wrap64 ((wrap64 ((t545.length : Int) - t548)) - 1), ([] : List ByteArray)⟩ : S49)])) else (none)) else (collatorlaw05_MyersReplace.j1 kj13 t544 t545 y552 y564))) else (none)) = some r := by first | (rw [hy561]; with_reducible exact H) | (have H2_ := (Option.bind_some _ _).symm.trans H; rw [hy561]; with_reducible exact H2_) | (have H2_ := (Option.bind_some _ _).symm.trans H; with_reducible exact H2_) | with_reducible exact H | (rw [hy561]; exact H) | exact H
          have Ny561 := Aside0.mk hy561
          clear hy561
          by_cases c27 : x9_13.length + y561.length < 3518437208883
          ·rw [if_pos c27] at H
           have LMc27 := Aside0.mk c27
           clear c27
           obtain ⟨y564, hy564⟩ : ∃ y_ : List (S49), y_ = (x9_13 ++ y561) := ⟨_, rfl⟩
           replace H : (if (wrap64 (t548 + 1)) < (t545.length : Int) then (if y564.length < 3518437208883 then (collatorlaw05_MyersReplace.j1 kj13 t544 t545 y552 (y564 ++ [(⟨1, wrap64 ((wrap64 ((t545.length : Int) - t548)) - 1), ([] : List ByteArray)⟩ : S49)])) else (none)) else (collatorlaw05_MyersReplace.j1 kj13 t544 t545 y552 y564)) = some r := by first | (rw [hy564]; with_reducible exact H) | (have H2_ := (Option.bind_some _ _).symm.trans H; rw [hy564]; with_reducible exact H2_) | (have H2_ := (Option.bind_some _ _).symm.trans H; with_reducible exact H2_) | with_reducible exact H | (rw [hy564]; exact H) | exact H
           have Ny564 := Aside0.mk hy564
           clear hy564
           have HC28 := Aside0.mk H
           clear H
           have q29 : ((wrap64 (t548 + 1)) : Int) ≤ ((y552.length : Int) : Int) := of_decide_eq_true (by first | (with_reducible assumption) | assumption)
           obtain ⟨i029, hi029, _, hsz29, _⟩ := info_parts info9
           have hroom29 : y552.length ≤ co13 := (Kd.R_reads' HO_8.out).2.1
           have hC29 : Kd.F Kd.string _ _ (some ⟨go13, 0, none⟩) y552.length y552 := (Kd.V_at (base := w.heap.size) (Kd.R_V (Kd.R_apart' (HO_8.out) (Kd.N_typed HO_9.out) (by decide)))).2.2
           have ql29 : (t548 : Int) ≤ ((wrap64 (t548 + 1)) : Int) := of_decide_eq_true (by first | (with_reducible assumption) | assumption)
           have q029 : (0 : Int) ≤ (t548 : Int) := of_decide_eq_true (by first | (with_reducible assumption) | assumption)
           have hcut29 := cut_mid (P := Try.prog) 22 9 .i64 .i64 Try.underlying22 hi029 1 hsz29 (some ⟨go13, 0, none⟩) y552.length co13 t548 (wrap64 (t548 + 1)) q029 ql29 q29 hroom29
           have hr29 := Kd.F_mid (lo := (t548 : Int).toNat) (hi := ((wrap64 (t548 + 1)) : Int).toNat) (c := co13) hC29 (by omega) (by omega) hroom29
           obtain ⟨A29, hA29⟩ : ∃ A1, A1 = (if co13 = (t548 : Int).toNat then (some ⟨go13, 0, none⟩) else ((some ⟨go13, 0, none⟩) : Option Addr).map (·.add ((t548 : Int).toNat * 1))) := ⟨_, rfl⟩
           obtain ⟨c29, hc29⟩ : ∃ c1, c1 = co13 - (t548 : Int).toNat := ⟨_, rfl⟩
           have hy29 : y556.length = ((wrap64 (t548 + 1)) : Int).toNat - (t548 : Int).toNat := (by rw [Ny556.out, List.length_drop, List.length_take] <;> omega)
           rw [show ((y552).take ((wrap64 (t548 + 1)) : Int).toNat).drop (t548 : Int).toNat = y556 from Ny556.out.symm] at hr29
           replace hr29 : Kd.F Kd.string _ _ A29 y556.length y556 := (by rw [hA29]; exact hr29)
           rw [← hy29, ← hA29, ← hc29] at hcut29
           have HO560 := Aside0.mk (show Kd.V Kd.string 9 _ w.heap.size _ (.slice A29 y556.length c29) y556 from Kd.V_mk (by rw [hy29, hc29]; exact Nat.sub_le_sub_right (Nat.le_trans (by omega) hroom29) _) hr29)
           have HC560 := Aside0.mk (show y556.length ≤ c29 from by rw [hy29, hc29]; exact Nat.sub_le_sub_right (Nat.le_trans (by omega) hroom29) _)
           clear hr29 hC29 hroom29 hi029 hsz29 hc29
           have KY29 := Aside0.mk hy29
           have KA29 := Aside0.mk hA29
           clear hy29 hA29
           replace q29 := eq_true q29
           go_upto_if 47 with (first | ((with_reducible refine gate_dst (N := 41) rfl ?_); (try (refine gate_guard (by rfl) ?_; dsimp only)); refine Kd.N_lit k49 _ 49 ?hg (N' := 41) ?hd (xs := ([(⟨2, 1, ([] : List ByteArray)⟩ : S49), (⟨3, 1, y556⟩ : S49)] : List (S49))) (inner := [.int .i64 2, .int .i64 1, .slice none 0 0, .int .i64 3, .int .i64 1, .slice A29 y556.length c29]) (ok := (fun k_ => some k_ ≠ (.slice Ao17 t545.length co17 : Value).ownBlock ∧ some k_ ≠ (u9 : Value).ownBlock)) (okp := (fun k_ => some k_ ≠ (.slice Ao17 t545.length co17 : Value).ownBlock ∧ some k_ ≠ (u9 : Value).ownBlock)) ?hr ?hp (fun _ hk => hk) ((show ∀ k_, wc.heap.size ≤ k_ → (fun k_ => some k_ ≠ (.slice Ao17 t545.length co17 : Value).ownBlock ∧ some k_ ≠ (u9 : Value).ownBlock) k_ from fun k_ hk => ⟨Kd.fresh' (Kd.R_lt (by (with_reducible repeat (first | apply Kd.R_alloc | apply Kd.R_drewN | apply Kd.R_drew)); exact HO_6.out)) k_ hk, Kd.fresh' (Kd.N_lt (by (with_reducible repeat (first | apply Kd.N_alloc | apply Kd.N_drewN | apply Kd.N_drew)); exact HO_9.out)) k_ hk⟩) _ (Nat.le_refl _)) (Below.refl _ _) (Nat.le_refl _) (by simp) ?_; (case hd => rfl); (case hg => rfl); (case hr => first | (go_simp; done) | (go_simp; rfl)); (case hp => exact (Reps.c3 (show Kd.FK k49 _ _ (⟨2, 1, ([] : List ByteArray)⟩ : S49) [.int .i64 2, .int .i64 1, .slice none 0 0] from (k49_mkF _ _ (⟨2, 1, ([] : List ByteArray)⟩ : S49) (Nat.le_refl _) (Kd.F_nil _ _ _))) (Reps.c3 (show Kd.FK k49 _ _ (⟨3, 1, y556⟩ : S49) [.int .i64 3, .int .i64 1, .slice A29 y556.length c29] from (k49_mkF _ _ (⟨3, 1, y556⟩ : S49) (Kd.V_reads' (Kd.V_mono (ok' := (fun k_ => some k_ ≠ (.slice Ao17 t545.length co17 : Value).ownBlock ∧ some k_ ≠ (u9 : Value).ownBlock)) (HO560.out) (fun k_ hk => by first | exact ⟨hk.1, hk.2⟩ | simp_all))).2.1 (Kd.V_F (Kd.V_mono (ok' := (fun k_ => some k_ ≠ (.slice Ao17 t545.length co17 : Value).ownBlock ∧ some k_ ≠ (u9 : Value).ownBlock)) (HO560.out) (fun k_ hk => by first | exact ⟨hk.1, hk.2⟩ | simp_all))))) (Reps.none _ _)))); intro v562 w30 ho31 hb hg_ hnew_; clear hg_ hnew_; (first | rw [← Ny561.out] at ho31 | (simp only [Int.reduceToNat] at ho31; rw [← Ny561.out] at ho31)); have n0_ := Aside0.mk (Kd.R_below (by (with_reducible repeat (first | apply Kd.R_alloc | apply Kd.R_drewN | apply Kd.R_drew)); exact HO_6.out) hb); have n1_ := Aside0.mk (Kd.R_below (by (with_reducible repeat (first | apply Kd.R_alloc | apply Kd.R_drewN | apply Kd.R_drew)); exact HO_8.out) hb); have n2_ := Aside0.mk (Kd.N_elder' (by (with_reducible repeat (first | apply Kd.N_alloc | apply Kd.N_drewN | apply Kd.N_drew)); exact HO_9.out) (by first | exact Kd.N_base ho31 | exact Kd.S_base ho31) hb); have n3_ := Aside0.mk (Kd.V_elder' (by (with_reducible repeat (first | apply Kd.V_alloc | apply Kd.V_drewN | apply Kd.V_drew)); exact HO560.out) (by first | exact Kd.N_base ho31 | exact Kd.S_base ho31) hb); have n4_ := Aside0.mk (Kd.N_lower ho31 (below_size (by repeat (first | (with_reducible first | exact HB.out | apply below_alloc | apply pw_below_drewN | apply below_drew1) | exact HB.out)))); have n5_ := Aside0.mk (below_step (by repeat (first | (with_reducible first | exact HB.out | apply below_alloc | apply pw_below_drewN | apply below_drew1) | exact HB.out)) hb); clear HO_6; clear HO_8; clear HO_9; clear HO560; clear HB; have HO_6 := n0_; have HO_8 := n1_; have HO_9 := n2_; have HO560 := n3_; have HO563 := n4_; have HB := n5_; clear n0_ n1_ n2_ n3_ n4_ n5_; clear hb ho31; (try (obtain ⟨Ao33, co33, eo33⟩ := Kd.N_slice HO563.out; subst eo33))) | ((with_reducible refine gate_builtin (b := .append) (xs := #[.tmp 33, .tmp 41]) rfl ?_); (try (refine gate_guard (by rfl) ?_; dsimp only)); at_builtin; refine Kd.N_append_rows k49 (w0 := w) w.heap.size rfl (.tmp 33) (.tmp 41) 40 49 (.agg #[(.int .i64 0), (.int .i64 0), (.slice none 0 0)]) 40 rfl Try.underlying40 info49 rfl (by decide) (by omega) u9 x9_13 y561 _ _ _ (fun k_ => some k_ ≠ (.slice Ao17 t545.length co17 : Value).ownBlock) (fun k_ => ((fun k_ => some k_ ≠ (.slice Ao17 t545.length co17 : Value).ownBlock)) k_ ∧ some k_ ≠ (u9 : Value).ownBlock) rfl rfl ?aO ?aR (fun _ hk => hk) ?aF ?aB ?aS ?aL ?_; (case aR => exact (by skip; exact Kd.N_F (Kd.N_mono (ok' := (fun k_ => ((fun k_ => some k_ ≠ (.slice Ao17 t545.length co17 : Value).ownBlock)) k_ ∧ some k_ ≠ (u9 : Value).ownBlock)) (HO563.out) (fun k_ hk => by first | exact ⟨hk.1, hk.2⟩ | simp_all)))); (case aB => exact (by repeat (first | (with_reducible first | exact HB.out | apply below_alloc | apply pw_below_drewN | apply below_drew1) | exact HB.out))); (case aF => exact (fun k_ hk => Kd.fresh' (Kd.R_lt (by (with_reducible repeat (first | apply Kd.R_alloc | apply Kd.R_drewN | apply Kd.R_drew)); exact HO_6.out)) k_ hk)); (case aO => exact (by (with_reducible repeat (first | apply Kd.N_alloc | apply Kd.N_drewN | apply Kd.N_drew)); exact Kd.N_mono HO_9.out (fun _ hk => hk.1))); (case aS => exact (below_size (by repeat (first | (with_reducible first | exact HB.out | apply below_alloc | apply pw_below_drewN | apply below_drew1) | exact HB.out)))); (case aL => have := LMc27.out; omega); intro v565 w32 ho hb hg hat; rw [← Ny564.out] at ho; have n0_ := Aside0.mk (Kd.R_over' (by (with_reducible repeat (first | apply Kd.R_alloc | apply Kd.R_drewN | apply Kd.R_drew)); exact HO_6.out) (Kd.N_typed (by (with_reducible repeat (first | apply Kd.N_alloc | apply Kd.N_drewN | apply Kd.N_drew)); exact HO_9.out)) (by decide) hg); have n1_ := Aside0.mk (Kd.R_over' (by (with_reducible repeat (first | apply Kd.R_alloc | apply Kd.R_drewN | apply Kd.R_drew)); exact HO_8.out) (Kd.N_typed (by (with_reducible repeat (first | apply Kd.N_alloc | apply Kd.N_drewN | apply Kd.N_drew)); exact HO_9.out)) (by decide) hg); have n2_ := Aside0.mk (Kd.V_afterv (ok := (fun k_ => some k_ ≠ (.slice Ao17 t545.length co17 : Value).ownBlock ∧ some k_ ≠ (.slice Ao33 y561.length co33 : Value).ownBlock)) (by (with_reducible repeat (first | apply Kd.V_alloc | apply Kd.V_drewN | apply Kd.V_drew)); exact Kd.V_mono HO560.out (fun _ hk => ⟨⟨hk.1.1, hk.2⟩, hk.1.2⟩)) hg hat); have n3_ := Aside0.mk (Kd.N_afterv (ok := (fun k_ => some k_ ≠ (.slice Ao17 t545.length co17 : Value).ownBlock)) (by (with_reducible repeat (first | apply Kd.N_alloc | apply Kd.N_drewN | apply Kd.N_drew)); exact HO563.out) hg hat); have n4_ := Aside0.mk (hb); have n5_ := Aside0.mk (ho); clear HO_6; clear HO_8; clear HO560; clear HO563; clear HB; clear HO_9; have HO_6 := n0_; have HO_8 := n1_; have HO560 := n2_; have HO563 := n3_; have HB := n4_; have HO566 := n5_; clear n0_ n1_ n2_ n3_ n4_ n5_; clear ho hb hg hat))
           (try simp only [Act.put, List.setIfInBounds_toArray, List.set_cons_zero, List.set_cons_succ])
           go_cut [9] (fun v9 wc => ∃ (kq : Nat) (x9_27 : List (S49)), Aside0 (collatorlaw05_MyersReplace.j1 kq t544 t545 y552 x9_27 = some r) ∧ Aside0 (kq ≤ kj13) ∧ Aside0 (Kd.R Kd.string 9 wc w.heap.size (fun k_ => some k_ ≠ ((.slice (some ⟨go13, 0, none⟩) y552.length co13) : Value).ownBlock) (.slice Ao17 t545.length co17) t545) ∧ Aside0 (Kd.R Kd.string 9 wc w.heap.size (fun k_ => some k_ ≠ ((.slice Ao17 t545.length co17) : Value).ownBlock) (.slice (some ⟨go13, 0, none⟩) y552.length co13) y552) ∧ Aside0 (Kd.N k49 49 wc w.heap.size (fun k_ => some k_ ≠ ((.slice Ao17 t545.length co17) : Value).ownBlock) v9 x9_27) ∧ Aside0 (Below w.heap.size w wc))
           case first =>
            have H := HC28.out
            clear HC28
            by_cases c34 : (wrap64 (t548 + 1)) < (t545.length : Int)
            ·rw [if_pos c34] at H
             have c34b0 : decide ((wrap64 (t548 + 1)) < (t545.length : Int)) = true := decide_eq_true c34
             clear c34
             (first | rw [c34b0] | (simp only [i64_w, i32_w]; rw [c34b0]) | skip)
             by_cases c35 : y564.length < 3518437208883
             ·rw [if_pos c35] at H
              have LMc35 := Aside0.mk c35
              clear c35
              obtain ⟨y567, hy567⟩ : ∃ y_ : List (S49), y_ = (y564 ++ [(⟨1, wrap64 ((wrap64 ((t545.length : Int) - t548)) - 1), ([] : List ByteArray)⟩ : S49)]) := ⟨_, rfl⟩
              replace H : (collatorlaw05_MyersReplace.j1 kj13 t544 t545 y552 y567) = some r := by first | (rw [hy567]; with_reducible exact H) | (have H2_ := (Option.bind_some _ _).symm.trans H; rw [hy567]; with_reducible exact H2_) | (have H2_ := (Option.bind_some _ _).symm.trans H; with_reducible exact H2_) | with_reducible exact H | (rw [hy567]; exact H) | exact H
              have Ny567 := Aside0.mk hy567
              clear hy567
              have H' := Aside0.mk H
              clear H
              go_wp2_with (first | ((with_reducible refine gate_builtin (b := .append) (xs := #[.tmp 48, .tmp 55]) rfl ?_); (try (refine gate_guard (by rfl) ?_; dsimp only)); at_builtin; refine Kd.N_append k49 (w0 := w) w.heap.size rfl (.tmp 48) (.tmp 55) 40 49 (.agg #[(.int .i64 0), (.int .i64 0), (.slice none 0 0)]) 40 rfl Try.underlying40 info49 rfl (by decide) (by omega) v565 y564 (⟨1, wrap64 ((wrap64 ((t545.length : Int) - t548)) - 1), ([] : List ByteArray)⟩ : S49) [.int .i64 1, .int .i64 (wrap64 ((wrap64 ((t545.length : Int) - t548)) - 1)), .slice none 0 0] (fun k_ => some k_ ≠ (.slice Ao17 t545.length co17 : Value).ownBlock) (fun k_ => ((fun k_ => some k_ ≠ (.slice Ao17 t545.length co17 : Value).ownBlock)) k_ ∧ some k_ ≠ (v565 : Value).ownBlock) rfl rfl ?aP (fun _ hk => hk) ?aF ?aO ?aB ?aS ?aL ?_; (case aP => exact (k49_mkF _ _ (⟨1, wrap64 ((wrap64 ((t545.length : Int) - t548)) - 1), ([] : List ByteArray)⟩ : S49) (Nat.le_refl _) (Kd.F_nil _ _ _))); (case aB => exact (by repeat (first | (with_reducible first | exact HB.out | apply below_alloc | apply pw_below_drewN | apply below_drew1) | exact HB.out))); (case aF => exact (fun k_ hk => Kd.fresh' (Kd.R_lt (by (with_reducible repeat (first | apply Kd.R_alloc | apply Kd.R_drewN | apply Kd.R_drew)); exact HO_6.out)) k_ hk)); (case aO => exact (by (with_reducible repeat (first | apply Kd.N_alloc | apply Kd.N_drewN | apply Kd.N_drew)); exact HO566.out)); (case aS => exact (below_size (by repeat (first | (with_reducible first | exact HB.out | apply below_alloc | apply pw_below_drewN | apply below_drew1) | exact HB.out)))); (case aL => have := LMc35.out; omega); intro v568 w36 ho hb hg hat; rw [← Ny567.out] at ho; have n0_ := Aside0.mk (Kd.R_over' (by (with_reducible repeat (first | apply Kd.R_alloc | apply Kd.R_drewN | apply Kd.R_drew)); exact HO_6.out) (Kd.N_typed (by (with_reducible repeat (first | apply Kd.N_alloc | apply Kd.N_drewN | apply Kd.N_drew)); exact HO566.out)) (by decide) hg); have n1_ := Aside0.mk (Kd.R_over' (by (with_reducible repeat (first | apply Kd.R_alloc | apply Kd.R_drewN | apply Kd.R_drew)); exact HO_8.out) (Kd.N_typed (by (with_reducible repeat (first | apply Kd.N_alloc | apply Kd.N_drewN | apply Kd.N_drew)); exact HO566.out)) (by decide) hg); have n2_ := Aside0.mk (Kd.V_afterv (ok := (fun k_ => some k_ ≠ (.slice Ao17 t545.length co17 : Value).ownBlock ∧ some k_ ≠ (.slice Ao33 y561.length co33 : Value).ownBlock)) (by (with_reducible repeat (first | apply Kd.V_alloc | apply Kd.V_drewN | apply Kd.V_drew)); exact HO560.out) hg hat); have n3_ := Aside0.mk (Kd.N_afterv (ok := (fun k_ => some k_ ≠ (.slice Ao17 t545.length co17 : Value).ownBlock)) (by (with_reducible repeat (first | apply Kd.N_alloc | apply Kd.N_drewN | apply Kd.N_drew)); exact HO563.out) hg hat); have n4_ := Aside0.mk (hb); have n5_ := Aside0.mk (ho); clear HO_6; clear HO_8; clear HO560; clear HO563; clear HB; clear HO566; have HO_6 := n0_; have HO_8 := n1_; have HO560 := n2_; have HO563 := n3_; have HB := n4_; have HO569 := n5_; clear n0_ n1_ n2_ n3_ n4_ n5_; clear ho hb hg hat))
              go_meet
              case rel => exact ⟨_, (y567), H', ⟨by have := HJ13.out; first | omega | exact Nat.le_refl _⟩, ⟨by (try simp only [hl8_13]); (with_reducible repeat (first | apply Kd.R_alloc | apply Kd.R_drewN | apply Kd.R_drew)); exact HO_6.out⟩, ⟨by (try simp only [hl8_13]); (with_reducible repeat (first | apply Kd.R_alloc | apply Kd.R_drewN | apply Kd.R_drew)); exact HO_8.out⟩, ⟨by (try simp only [hl8_13]); (with_reducible repeat (first | apply Kd.N_alloc | apply Kd.N_drewN | apply Kd.N_drew)); exact HO569.out⟩, ⟨by repeat (first | (with_reducible first | exact HB.out | apply below_alloc | apply pw_below_drewN | apply below_drew1) | exact HB.out)⟩⟩
             ·rw [if_neg c35] at H
              exact absurd H (by simp)
            ·rw [if_neg c34] at H
             have c34b0 : decide ((wrap64 (t548 + 1)) < (t545.length : Int)) = false := decide_eq_false c34
             clear c34
             (first | rw [c34b0] | (simp only [i64_w, i32_w]; rw [c34b0]) | skip)
             have H' := Aside0.mk H
             clear H
             go_wp2
             go_meet
             case rel => exact ⟨_, (y564), H', ⟨by have := HJ13.out; first | omega | exact Nat.le_refl _⟩, ⟨by (try simp only [hl8_13]); (with_reducible repeat (first | apply Kd.R_alloc | apply Kd.R_drewN | apply Kd.R_drew)); exact HO_6.out⟩, ⟨by (try simp only [hl8_13]); (with_reducible repeat (first | apply Kd.R_alloc | apply Kd.R_drewN | apply Kd.R_drew)); exact HO_8.out⟩, ⟨by (try simp only [hl8_13]); (with_reducible repeat (first | apply Kd.N_alloc | apply Kd.N_drewN | apply Kd.N_drew)); exact HO566.out⟩, ⟨by repeat (first | (with_reducible first | exact HB.out | apply below_alloc | apply pw_below_drewN | apply below_drew1) | exact HB.out)⟩⟩
           case rest =>
            clear HC28
            try clear c1
            try clear p1
            try clear q1
            try clear hx1
            try clear c2
            try clear p2
            try clear q2
            try clear c3
            try clear c5
            try clear c5b0
            try clear c5b1
            try clear c5b2
            try clear p6
            try clear c10
            try clear c11
            try clear c11b0
            try clear c12
            try clear c12b0
            try clear p13
            try clear q13
            try clear hx13
            try clear hf13
            try clear c18
            try clear c21
            try clear c21b0
            try clear c22
            try clear c24
            try clear c24b0
            try clear c24b1
            try clear c25
            try clear c25b0
            try clear c25b1
            try clear c26
            try clear c26b0
            try clear c26b1
            try clear c27
            try clear c29
            try clear q29
            try clear c34
            try clear c34b0
            try clear c35
            try clear hx13_0
            try clear p1
            try clear p13
            try clear p2
            try clear q029
            try clear q1
            try clear q13
            try clear q29
            obtain ⟨kq, x9_27, HA, HJ27, HO_6, HO_8, HO_9, HB⟩ := hcut
            cases kq with
            | zero => exact absurd HA.out (by simp [collatorlaw05_MyersReplace.j1])
            | succ kj27 =>
             have H := HA.out
             clear HA
             simp only [collatorlaw05_MyersReplace.j1] at H
             by_cases c37 : t544 = true
             ·subst c37
              have H1 : ((myers_Diff.f t545 y552).bind fun t570 => ((collatorref04_Same.f kj27 t570 x9_27).bind fun t573 => (if t573 = true then ((myers_Cost.f t545 y552).bind fun t574 => (if t574 = 2 then ((myers_Common.f t545 y552).bind fun t575 => (some (t575 == (wrap64 ((t545.length : Int) - 1))))) else (some false))) else (some false)))) = some r := by rw [if_pos rfl] at H; exact H
              clear H
              have H := H1
              clear H1
              replace H := Option.bind_eq_some_iff.mp H
              obtain ⟨t570, A380, H⟩ := H
              replace H : ((collatorref04_Same.f kj27 t570 x9_27).bind fun t573 => (if t573 = true then ((myers_Cost.f t545 y552).bind fun t574 => (if t574 = 2 then ((myers_Common.f t545 y552).bind fun t575 => (some (t575 == (wrap64 ((t545.length : Int) - 1))))) else (some false))) else (some false))) = some r := H
              have A38 := Aside0.mk A380
              clear A380
              replace H := Option.bind_eq_some_iff.mp H
              obtain ⟨t573, A390, H⟩ := H
              replace H : (if t573 = true then ((myers_Cost.f t545 y552).bind fun t574 => (if t574 = 2 then ((myers_Common.f t545 y552).bind fun t575 => (some (t575 == (wrap64 ((t545.length : Int) - 1))))) else (some false))) else (some false)) = some r := H
              have A39 := Aside0.mk A390
              clear A390
              by_cases c40 : t573 = true
              ·subst c40
               have H1 : ((myers_Cost.f t545 y552).bind fun t574 => (if t574 = 2 then ((myers_Common.f t545 y552).bind fun t575 => (some (t575 == (wrap64 ((t545.length : Int) - 1))))) else (some false))) = some r := by rw [if_pos rfl] at H; exact H
               clear H
               have H := H1
               clear H1
               replace H := Option.bind_eq_some_iff.mp H
               obtain ⟨t574, A410, H⟩ := H
               replace H : (if t574 = 2 then ((myers_Common.f t545 y552).bind fun t575 => (some (t575 == (wrap64 ((t545.length : Int) - 1))))) else (some false)) = some r := H
               have A41 := Aside0.mk A410
               clear A410
               by_cases c42 : t574 = 2
               ·rw [if_pos c42] at H
                have c42b0 : (t574 == 2) = true := beq_iff_eq.mpr c42
                have c42b1 : (t574 != 2) = false := bne_eq_false_iff_eq.mpr c42
                clear c42
                replace H := Option.bind_eq_some_iff.mp H
                obtain ⟨t575, A430, H⟩ := H
                replace H : (some (t575 == (wrap64 ((t545.length : Int) - 1)))) = some r := H
                have A43 := Aside0.mk A430
                clear A430
                obtain rfl := Option.some.inj H
                go_wp2_with (first | (go_at_call 29; (with_reducible refine (myers_Diff.calls _ _ t545 _ _ y552 t570 _ ?side1 ?side2 ?side3 ?side4 A38.out).mono ?_); (case side1 => repeat (first | exact (Kd.R_reads' HO_6.out).2.2 | (with_reducible refine Kd.C_alloc ?_ _) | (with_reducible refine Kd.C_drewN ?_ _) | (with_reducible refine Kd.C_drew ?_))); (case side2 => exact (Kd.R_reads' HO_6.out).2.1); (case side3 => repeat (first | exact (Kd.R_reads' HO_8.out).2.2 | (with_reducible refine Kd.C_alloc ?_ _) | (with_reducible refine Kd.C_drewN ?_ _) | (with_reducible refine Kd.C_drew ?_))); (case side4 => exact (Kd.R_reads' HO_8.out).2.1); rintro e w44 ⟨v571, rfl, ho0, hb⟩; have n0_ := Aside0.mk (Kd.R_below (by (with_reducible repeat (first | apply Kd.R_alloc | apply Kd.R_drewN | apply Kd.R_drew)); exact HO_6.out) hb); have n1_ := Aside0.mk (Kd.R_below (by (with_reducible repeat (first | apply Kd.R_alloc | apply Kd.R_drewN | apply Kd.R_drew)); exact HO_8.out) hb); have n2_ := Aside0.mk (Kd.N_elder' (by (with_reducible repeat (first | apply Kd.N_alloc | apply Kd.N_drewN | apply Kd.N_drew)); exact HO_9.out) (by first | exact Kd.N_base ho0 | exact Kd.S_base ho0) hb); have n3_ := Aside0.mk (Kd.N_lower (Kd.N_mono (ok' := fun k_ => some k_ ≠ (.slice Ao17 t545.length co17 : Value).ownBlock ∧ some k_ ≠ (.slice (some ⟨go13, 0, none⟩) y552.length co13 : Value).ownBlock ∧ some k_ ≠ (u9 : Value).ownBlock) (Kd.S_N (Kd.S_bound ho0)) (fun k_ hk_ => ⟨(Kd.fresh' (Kd.R_lt (by (with_reducible repeat (first | apply Kd.R_alloc | apply Kd.R_drewN | apply Kd.R_drew)); exact HO_6.out)) k_ hk_.2.1), (Kd.fresh' (Kd.R_lt (by (with_reducible repeat (first | apply Kd.R_alloc | apply Kd.R_drewN | apply Kd.R_drew)); exact HO_8.out)) k_ hk_.2.1), (Kd.fresh' (Kd.N_lt (by (with_reducible repeat (first | apply Kd.N_alloc | apply Kd.N_drewN | apply Kd.N_drew)); exact HO_9.out)) k_ hk_.2.1)⟩)) (below_size (by repeat (first | (with_reducible first | exact HB.out | apply below_alloc | apply pw_below_drewN | apply below_drew1) | exact HB.out)))); have n4_ := Aside0.mk (below_step (by repeat (first | (with_reducible first | exact HB.out | apply below_alloc | apply pw_below_drewN | apply below_drew1) | exact HB.out)) hb); clear HO_6; clear HO_8; clear HO_9; clear HB; have HO_6 := n0_; have HO_8 := n1_; have HO_9 := n2_; have HO572 := n3_; have HB := n4_; clear n0_ n1_ n2_ n3_ n4_; (try clear hb); (try clear hb2); (try clear hk); (try clear hi); (try clear ho0); (try (obtain ⟨Ao45, co45, eo45⟩ := Kd.N_slice HO572.out; subst eo45)); (try (obtain ⟨Ao46, co46, eo46⟩ := Kd.N_slice HO_9.out; subst eo46))) | (go_at_call 28; (with_reducible refine (collatorref04_Same.calls kj27 _ _ t570 _ _ x9_27 true _ ?side1 ?side2 ?side3 ?side4 A39.out).mono ?_); (case side1 => repeat (first | exact (Kd.N_reads' HO572.out).2.2 | (with_reducible refine Kd.C_alloc ?_ _) | (with_reducible refine Kd.C_drewN ?_ _) | (with_reducible refine Kd.C_drew ?_))); (case side2 => exact (Kd.N_reads' HO572.out).2.1); (case side3 => repeat (first | exact (Kd.N_reads' HO_9.out).2.2 | (with_reducible refine Kd.C_alloc ?_ _) | (with_reducible refine Kd.C_drewN ?_ _) | (with_reducible refine Kd.C_drew ?_))); (case side4 => exact (Kd.N_reads' HO_9.out).2.1); rintro e w' ⟨rfl, ⟨nd, rfl⟩⟩) | (go_at_call 31; (with_reducible refine (myers_Cost.calls _ _ t545 _ _ y552 t574 _ ?side1 ?side2 ?side3 ?side4 A41.out).mono ?_); (case side1 => repeat (first | exact (Kd.R_reads' HO_6.out).2.2 | (with_reducible refine Kd.C_alloc ?_ _) | (with_reducible refine Kd.C_drewN ?_ _) | (with_reducible refine Kd.C_drew ?_))); (case side2 => exact (Kd.R_reads' HO_6.out).2.1); (case side3 => repeat (first | exact (Kd.R_reads' HO_8.out).2.2 | (with_reducible refine Kd.C_alloc ?_ _) | (with_reducible refine Kd.C_drewN ?_ _) | (with_reducible refine Kd.C_drew ?_))); (case side4 => exact (Kd.R_reads' HO_8.out).2.1); rintro e w47 ⟨rfl, hb⟩; have n0_ := Aside0.mk (Kd.R_below (by (with_reducible repeat (first | apply Kd.R_alloc | apply Kd.R_drewN | apply Kd.R_drew)); exact HO_6.out) hb); have n1_ := Aside0.mk (Kd.R_below (by (with_reducible repeat (first | apply Kd.R_alloc | apply Kd.R_drewN | apply Kd.R_drew)); exact HO_8.out) hb); have n2_ := Aside0.mk (Kd.N_below (by (with_reducible repeat (first | apply Kd.N_alloc | apply Kd.N_drewN | apply Kd.N_drew)); exact HO_9.out) hb); have n3_ := Aside0.mk (Kd.N_below (by (with_reducible repeat (first | apply Kd.N_alloc | apply Kd.N_drewN | apply Kd.N_drew)); exact HO572.out) hb); have n4_ := Aside0.mk (below_step (by repeat (first | (with_reducible first | exact HB.out | apply below_alloc | apply pw_below_drewN | apply below_drew1) | exact HB.out)) hb); clear HO_6; clear HO_8; clear HO_9; clear HO572; clear HB; have HO_6 := n0_; have HO_8 := n1_; have HO_9 := n2_; have HO572 := n3_; have HB := n4_; clear n0_ n1_ n2_ n3_ n4_; (try clear hb); (try clear hb2); (try clear hk); (try clear hi)) | (go_at_call 33; (with_reducible refine (myers_Common.calls _ _ t545 _ _ y552 t575 _ ?side1 ?side2 ?side3 ?side4 A43.out).mono ?_); (case side1 => repeat (first | exact (Kd.R_reads' HO_6.out).2.2 | (with_reducible refine Kd.C_alloc ?_ _) | (with_reducible refine Kd.C_drewN ?_ _) | (with_reducible refine Kd.C_drew ?_))); (case side2 => exact (Kd.R_reads' HO_6.out).2.1); (case side3 => repeat (first | exact (Kd.R_reads' HO_8.out).2.2 | (with_reducible refine Kd.C_alloc ?_ _) | (with_reducible refine Kd.C_drewN ?_ _) | (with_reducible refine Kd.C_drew ?_))); (case side4 => exact (Kd.R_reads' HO_8.out).2.1); rintro e w48 ⟨rfl, hb⟩; have n0_ := Aside0.mk (Kd.R_below (by (with_reducible repeat (first | apply Kd.R_alloc | apply Kd.R_drewN | apply Kd.R_drew)); exact HO_6.out) hb); have n1_ := Aside0.mk (Kd.R_below (by (with_reducible repeat (first | apply Kd.R_alloc | apply Kd.R_drewN | apply Kd.R_drew)); exact HO_8.out) hb); have n2_ := Aside0.mk (Kd.N_below (by (with_reducible repeat (first | apply Kd.N_alloc | apply Kd.N_drewN | apply Kd.N_drew)); exact HO_9.out) hb); have n3_ := Aside0.mk (Kd.N_below (by (with_reducible repeat (first | apply Kd.N_alloc | apply Kd.N_drewN | apply Kd.N_drew)); exact HO572.out) hb); have n4_ := Aside0.mk (below_step (by repeat (first | (with_reducible first | exact HB.out | apply below_alloc | apply pw_below_drewN | apply below_drew1) | exact HB.out)) hb); clear HO_6; clear HO_8; clear HO_9; clear HO572; clear HB; have HO_6 := n0_; have HO_8 := n1_; have HO_9 := n2_; have HO572 := n3_; have HB := n4_; clear n0_ n1_ n2_ n3_ n4_; (try clear hb); (try clear hb2); (try clear hk); (try clear hi)))
                go_ret
                exact ⟨by first | rfl | (simp [errW_none, errW_some] <;> rfl) | (simp [*, errW_none, errW_some] <;> rfl), by repeat (first | (with_reducible first | exact HB.out | apply below_alloc | apply pw_below_drewN | apply below_drew1) | exact HB.out)⟩
               ·rw [if_neg c42] at H
                have c42b0 : (t574 == 2) = false := beq_eq_false_iff_ne.mpr c42
                have c42b1 : (t574 != 2) = true := bne_iff_ne.mpr c42
                obtain rfl := Option.some.inj H
                go_wp2_with (first | (go_at_call 29; (with_reducible refine (myers_Diff.calls _ _ t545 _ _ y552 t570 _ ?side1 ?side2 ?side3 ?side4 A38.out).mono ?_); (case side1 => repeat (first | exact (Kd.R_reads' HO_6.out).2.2 | (with_reducible refine Kd.C_alloc ?_ _) | (with_reducible refine Kd.C_drewN ?_ _) | (with_reducible refine Kd.C_drew ?_))); (case side2 => exact (Kd.R_reads' HO_6.out).2.1); (case side3 => repeat (first | exact (Kd.R_reads' HO_8.out).2.2 | (with_reducible refine Kd.C_alloc ?_ _) | (with_reducible refine Kd.C_drewN ?_ _) | (with_reducible refine Kd.C_drew ?_))); (case side4 => exact (Kd.R_reads' HO_8.out).2.1); rintro e w49 ⟨v571, rfl, ho0, hb⟩; have n0_ := Aside0.mk (Kd.R_below (by (with_reducible repeat (first | apply Kd.R_alloc | apply Kd.R_drewN | apply Kd.R_drew)); exact HO_6.out) hb); have n1_ := Aside0.mk (Kd.R_below (by (with_reducible repeat (first | apply Kd.R_alloc | apply Kd.R_drewN | apply Kd.R_drew)); exact HO_8.out) hb); have n2_ := Aside0.mk (Kd.N_elder' (by (with_reducible repeat (first | apply Kd.N_alloc | apply Kd.N_drewN | apply Kd.N_drew)); exact HO_9.out) (by first | exact Kd.N_base ho0 | exact Kd.S_base ho0) hb); have n3_ := Aside0.mk (Kd.N_lower (Kd.N_mono (ok' := fun k_ => some k_ ≠ (.slice Ao17 t545.length co17 : Value).ownBlock ∧ some k_ ≠ (.slice (some ⟨go13, 0, none⟩) y552.length co13 : Value).ownBlock ∧ some k_ ≠ (u9 : Value).ownBlock) (Kd.S_N (Kd.S_bound ho0)) (fun k_ hk_ => ⟨(Kd.fresh' (Kd.R_lt (by (with_reducible repeat (first | apply Kd.R_alloc | apply Kd.R_drewN | apply Kd.R_drew)); exact HO_6.out)) k_ hk_.2.1), (Kd.fresh' (Kd.R_lt (by (with_reducible repeat (first | apply Kd.R_alloc | apply Kd.R_drewN | apply Kd.R_drew)); exact HO_8.out)) k_ hk_.2.1), (Kd.fresh' (Kd.N_lt (by (with_reducible repeat (first | apply Kd.N_alloc | apply Kd.N_drewN | apply Kd.N_drew)); exact HO_9.out)) k_ hk_.2.1)⟩)) (below_size (by repeat (first | (with_reducible first | exact HB.out | apply below_alloc | apply pw_below_drewN | apply below_drew1) | exact HB.out)))); have n4_ := Aside0.mk (below_step (by repeat (first | (with_reducible first | exact HB.out | apply below_alloc | apply pw_below_drewN | apply below_drew1) | exact HB.out)) hb); clear HO_6; clear HO_8; clear HO_9; clear HB; have HO_6 := n0_; have HO_8 := n1_; have HO_9 := n2_; have HO572 := n3_; have HB := n4_; clear n0_ n1_ n2_ n3_ n4_; (try clear hb); (try clear hb2); (try clear hk); (try clear hi); (try clear ho0); (try (obtain ⟨Ao50, co50, eo50⟩ := Kd.N_slice HO572.out; subst eo50)); (try (obtain ⟨Ao51, co51, eo51⟩ := Kd.N_slice HO_9.out; subst eo51))) | (go_at_call 28; (with_reducible refine (collatorref04_Same.calls kj27 _ _ t570 _ _ x9_27 true _ ?side1 ?side2 ?side3 ?side4 A39.out).mono ?_); (case side1 => repeat (first | exact (Kd.N_reads' HO572.out).2.2 | (with_reducible refine Kd.C_alloc ?_ _) | (with_reducible refine Kd.C_drewN ?_ _) | (with_reducible refine Kd.C_drew ?_))); (case side2 => exact (Kd.N_reads' HO572.out).2.1); (case side3 => repeat (first | exact (Kd.N_reads' HO_9.out).2.2 | (with_reducible refine Kd.C_alloc ?_ _) | (with_reducible refine Kd.C_drewN ?_ _) | (with_reducible refine Kd.C_drew ?_))); (case side4 => exact (Kd.N_reads' HO_9.out).2.1); rintro e w' ⟨rfl, ⟨nd, rfl⟩⟩) | (go_at_call 31; (with_reducible refine (myers_Cost.calls _ _ t545 _ _ y552 t574 _ ?side1 ?side2 ?side3 ?side4 A41.out).mono ?_); (case side1 => repeat (first | exact (Kd.R_reads' HO_6.out).2.2 | (with_reducible refine Kd.C_alloc ?_ _) | (with_reducible refine Kd.C_drewN ?_ _) | (with_reducible refine Kd.C_drew ?_))); (case side2 => exact (Kd.R_reads' HO_6.out).2.1); (case side3 => repeat (first | exact (Kd.R_reads' HO_8.out).2.2 | (with_reducible refine Kd.C_alloc ?_ _) | (with_reducible refine Kd.C_drewN ?_ _) | (with_reducible refine Kd.C_drew ?_))); (case side4 => exact (Kd.R_reads' HO_8.out).2.1); rintro e w52 ⟨rfl, hb⟩; have n0_ := Aside0.mk (Kd.R_below (by (with_reducible repeat (first | apply Kd.R_alloc | apply Kd.R_drewN | apply Kd.R_drew)); exact HO_6.out) hb); have n1_ := Aside0.mk (Kd.R_below (by (with_reducible repeat (first | apply Kd.R_alloc | apply Kd.R_drewN | apply Kd.R_drew)); exact HO_8.out) hb); have n2_ := Aside0.mk (Kd.N_below (by (with_reducible repeat (first | apply Kd.N_alloc | apply Kd.N_drewN | apply Kd.N_drew)); exact HO_9.out) hb); have n3_ := Aside0.mk (Kd.N_below (by (with_reducible repeat (first | apply Kd.N_alloc | apply Kd.N_drewN | apply Kd.N_drew)); exact HO572.out) hb); have n4_ := Aside0.mk (below_step (by repeat (first | (with_reducible first | exact HB.out | apply below_alloc | apply pw_below_drewN | apply below_drew1) | exact HB.out)) hb); clear HO_6; clear HO_8; clear HO_9; clear HO572; clear HB; have HO_6 := n0_; have HO_8 := n1_; have HO_9 := n2_; have HO572 := n3_; have HB := n4_; clear n0_ n1_ n2_ n3_ n4_; (try clear hb); (try clear hb2); (try clear hk); (try clear hi)))
                go_ret
                exact ⟨by first | rfl | (simp [errW_none, errW_some] <;> rfl) | (simp [*, errW_none, errW_some] <;> rfl), by repeat (first | (with_reducible first | exact HB.out | apply below_alloc | apply pw_below_drewN | apply below_drew1) | exact HB.out)⟩
              ·replace c40 := Bool.eq_false_iff.mpr c40
               subst c40
               have H1 : (some false) = some r := by rw [if_neg (show ¬ (false = true) by decide)] at H; exact H
               clear H
               have H := H1
               clear H1
               obtain rfl := Option.some.inj H
               go_wp2_with (first | (go_at_call 29; (with_reducible refine (myers_Diff.calls _ _ t545 _ _ y552 t570 _ ?side1 ?side2 ?side3 ?side4 A38.out).mono ?_); (case side1 => repeat (first | exact (Kd.R_reads' HO_6.out).2.2 | (with_reducible refine Kd.C_alloc ?_ _) | (with_reducible refine Kd.C_drewN ?_ _) | (with_reducible refine Kd.C_drew ?_))); (case side2 => exact (Kd.R_reads' HO_6.out).2.1); (case side3 => repeat (first | exact (Kd.R_reads' HO_8.out).2.2 | (with_reducible refine Kd.C_alloc ?_ _) | (with_reducible refine Kd.C_drewN ?_ _) | (with_reducible refine Kd.C_drew ?_))); (case side4 => exact (Kd.R_reads' HO_8.out).2.1); rintro e w53 ⟨v571, rfl, ho0, hb⟩; have n0_ := Aside0.mk (Kd.R_below (by (with_reducible repeat (first | apply Kd.R_alloc | apply Kd.R_drewN | apply Kd.R_drew)); exact HO_6.out) hb); have n1_ := Aside0.mk (Kd.R_below (by (with_reducible repeat (first | apply Kd.R_alloc | apply Kd.R_drewN | apply Kd.R_drew)); exact HO_8.out) hb); have n2_ := Aside0.mk (Kd.N_elder' (by (with_reducible repeat (first | apply Kd.N_alloc | apply Kd.N_drewN | apply Kd.N_drew)); exact HO_9.out) (by first | exact Kd.N_base ho0 | exact Kd.S_base ho0) hb); have n3_ := Aside0.mk (Kd.N_lower (Kd.N_mono (ok' := fun k_ => some k_ ≠ (.slice Ao17 t545.length co17 : Value).ownBlock ∧ some k_ ≠ (.slice (some ⟨go13, 0, none⟩) y552.length co13 : Value).ownBlock ∧ some k_ ≠ (u9 : Value).ownBlock) (Kd.S_N (Kd.S_bound ho0)) (fun k_ hk_ => ⟨(Kd.fresh' (Kd.R_lt (by (with_reducible repeat (first | apply Kd.R_alloc | apply Kd.R_drewN | apply Kd.R_drew)); exact HO_6.out)) k_ hk_.2.1), (Kd.fresh' (Kd.R_lt (by (with_reducible repeat (first | apply Kd.R_alloc | apply Kd.R_drewN | apply Kd.R_drew)); exact HO_8.out)) k_ hk_.2.1), (Kd.fresh' (Kd.N_lt (by (with_reducible repeat (first | apply Kd.N_alloc | apply Kd.N_drewN | apply Kd.N_drew)); exact HO_9.out)) k_ hk_.2.1)⟩)) (below_size (by repeat (first | (with_reducible first | exact HB.out | apply below_alloc | apply pw_below_drewN | apply below_drew1) | exact HB.out)))); have n4_ := Aside0.mk (below_step (by repeat (first | (with_reducible first | exact HB.out | apply below_alloc | apply pw_below_drewN | apply below_drew1) | exact HB.out)) hb); clear HO_6; clear HO_8; clear HO_9; clear HB; have HO_6 := n0_; have HO_8 := n1_; have HO_9 := n2_; have HO572 := n3_; have HB := n4_; clear n0_ n1_ n2_ n3_ n4_; (try clear hb); (try clear hb2); (try clear hk); (try clear hi); (try clear ho0); (try (obtain ⟨Ao54, co54, eo54⟩ := Kd.N_slice HO572.out; subst eo54)); (try (obtain ⟨Ao55, co55, eo55⟩ := Kd.N_slice HO_9.out; subst eo55))) | (go_at_call 28; (with_reducible refine (collatorref04_Same.calls kj27 _ _ t570 _ _ x9_27 false _ ?side1 ?side2 ?side3 ?side4 A39.out).mono ?_); (case side1 => repeat (first | exact (Kd.N_reads' HO572.out).2.2 | (with_reducible refine Kd.C_alloc ?_ _) | (with_reducible refine Kd.C_drewN ?_ _) | (with_reducible refine Kd.C_drew ?_))); (case side2 => exact (Kd.N_reads' HO572.out).2.1); (case side3 => repeat (first | exact (Kd.N_reads' HO_9.out).2.2 | (with_reducible refine Kd.C_alloc ?_ _) | (with_reducible refine Kd.C_drewN ?_ _) | (with_reducible refine Kd.C_drew ?_))); (case side4 => exact (Kd.N_reads' HO_9.out).2.1); rintro e w' ⟨rfl, ⟨nd, rfl⟩⟩))
               go_ret
               exact ⟨by first | rfl | (simp [errW_none, errW_some] <;> rfl) | (simp [*, errW_none, errW_some] <;> rfl), by repeat (first | (with_reducible first | exact HB.out | apply below_alloc | apply pw_below_drewN | apply below_drew1) | exact HB.out)⟩
             ·replace c37 := Bool.eq_false_iff.mpr c37
              subst c37
              have H1 : (some false) = some r := by rw [if_neg (show ¬ (false = true) by decide)] at H; exact H
              clear H
              have H := H1
              clear H1
              obtain rfl := Option.some.inj H
              go_wp2
              go_ret
              exact ⟨by first | rfl | (simp [errW_none, errW_some] <;> rfl) | (simp [*, errW_none, errW_some] <;> rfl), by repeat (first | (with_reducible first | exact HB.out | apply below_alloc | apply pw_below_drewN | apply below_drew1) | exact HB.out)⟩
          ·rw [if_neg c27] at H
           exact absurd H (by simp)
         ·rw [if_neg c26] at H
          exact absurd H (by simp)
        ·rw [if_neg c25] at H
         exact absurd H (by simp)
       ·rw [if_neg c24] at H
        exact absurd H (by simp)
    ·rw [if_neg c12] at H
     exact absurd H (by simp)
   ·rw [if_neg c11] at H
    exact absurd H (by simp)
  ·rw [if_neg c10] at H
   exact absurd H (by simp)

/-- THE ONE PURE STATEMENT of collatorlaw05_MyersReplace: yours. -/
def collatorlaw05_MyersReplace.Pure : Prop := ∀ (l0 : List Int) (a1 : Int), l0.length ≤ maxLen → l0.length * 8 ≤ 140737488351232 → (∀ x ∈ l0, (Lit.int .i64 x).wf = true) → (Lit.int .i64 a1).wf = true → ∃ k, collatorlaw05_MyersReplace.f k l0 a1 = some true
theorem collatorlaw05_MyersReplace.walk (P : collatorlaw05_MyersReplace.Pure) (a0 : Option Addr) (len0 cap0 : Nat) (z0 : List Int) (a1 : Int) (w : World) (w0 : (a0 = none ∧ len0 = 0 ∧ cap0 = 0 ∧ z0 = []) ∨ ∃ x, a0 = some x ∧ len0 ≤ cap0 ∧ cap0 ≤ maxLen ∧ z0.length = cap0 ∧ (∀ i, i < z0.length → w.cell? (x.add i) = some (.int .i64 (z0.getD i 0))) ∧ ∀ n ∈ z0, (Lit.int .i64 n).wf = true) (y0 : len0 * 8 ≤ 140737488351232) (w1 : (Lit.int .i64 a1).wf = true) :
  Calls Try.prog 12 #[.slice a0 len0 cap0, .int .i64 a1] w fun e w' => e = .returned (.bool true) ∧ Below w.heap.size w w' := by
 obtain ⟨l0, rfl, hr0, hm0, hw0, hc0⟩ := ReadsInt.ofRowC w0
 obtain ⟨k, h⟩ := P l0 a1 hm0 y0 hw0 w1
 refine (collatorlaw05_MyersReplace.calls k _ _ l0 a1 true w (Kd.C_of_reads (d := (0 : Int)) (h1 := fun _ => rfl) hr0) hc0 h).mono ?_
 rintro e w' ⟨rfl, hd⟩
 exact ⟨rfl, hd⟩

end Go.Proofs.Ythplelgkneipjaa.P
