/- Laid for this claim by hp.py, this session's program round the kit's print: functions of the program as plain Lean functions, the proofs that the code comes to their answers, and the rows of the laws. Not trusted: Lean checks it. -/
import Derived.Test.YtgobidmfbjmpkaaPx0
import Derived.Test.YtgobidmfbjmpkaaHShr
import Derived.Test.YtgobidmfbjmpkaaPxf26
import Derived.Test.YtgobidmfbjmpkaaPxf16
import Derived.Test.YtgobidmfbjmpkaaPxf10
import Derived.Test.YtgobidmfbjmpkaaPxf25
import Derived.Test.YtgobidmfbjmpkaaPxf11
import Derived.Test.YtgobidmfbjmpkaaEAwake6
import Derived.Test.YtgobidmfbjmpkaaGMake
import Derived.Test.YtgobidmfbjmpkaaGScr
namespace Go.Proofs.Ytgobidmfbjmpkaa.P
open Go.RowKit Go.Proofs.YtgobidmfbjmpkaaW.PrintWords Go.Proofs.YtgobidmfbjmpkaaW.PrintLast Go.Proofs.YtgobidmfbjmpkaaW.PrintMore
attribute [local go_sem] max2_int min2_int max_two min_two max_three min_three max_four min_four   -- for this text's walks alone
set_option linter.unusedVariables false
set_option linter.unusedSimpArgs false

/-! ### collatorlaw06_HunksFewer: function 7 -/
def collatorlaw06_HunksFewer.l0 : Nat → Bool → List (S31) → List ByteArray → List (S28) → Int → Int → Int → List (S28) → Int → Option (Bool)
 | 0, _, _, _, _, _, _, _, _, _ => none
 | k + 1, x7, x8, x9, x10, x12, x13, x14, x15, x16 => if x16 < (x10.length : Int) then (if 0 ≤ x16 then (if x15.length < 3518437208883 then (collatorlaw06_HunksFewer.l0 k x7 x8 x9 x10 x12 x13 x14 (x15 ++ [(⟨(rd_T28 x10 x16).f0, wrap64 ((wrap64 (((rd_T28 x10 x16).f1) - x14)) + x13), (rd_T28 x10 x16).f2⟩ : S28)]) (wrap64 (x16 + 1))) else (none)) else (none)) else ((hunks_Script.f k x15 (x9.length : Int)).bind fun bt632 => ((script_Spans.f k bt632.1).bind fun bt636 => (if x7 = true then (if bt632.2 = 0 then ((hunks_Right.f k x15).bind fun t638 => (if t638 = true then (if bt636.1 = (x9.length : Int) then ((script_Cost.f k bt632.1).bind fun t639 => ((script_Cost.f k x8).bind fun t640 => (if 0 ≤ x12 then (if x12 < (x10.length : Int) then ((script_Cost.f k ((rd_T28 x10 x12).f2)).bind fun t642 => (some (t639 == (wrap64 (t640 - t642))))) else (none)) else (none)))) else (some false)) else (some false))) else (some false)) else (some false))))
def collatorlaw06_HunksFewer.f (k : Nat) (l0 : List Int) (a1 : Int) (a2 : Int) : Option (Bool) := (collatorlaw06_awake.f).bind fun t601 => ((collatorlaw04_Script.f k l0 ([] : List Int)).bind fun bt602 => ((collatorlaw06_pick.f a1 4).bind fun t608 => ((hunks_Make.f k bt602.1 t608).bind fun bt609 => (if bt609.2 = 0 then (if (bt609.1.length : Int) = 0 then (if t601 = true then ((script_Cost.f k bt602.1).bind fun t613 => (some (t613 == 0))) else (some false)) else ((collatorlaw06_pick.f a2 (bt609.1.length : Int)).bind fun t614 => (if 0 ≤ t614 then (if t614 < (bt609.1.length : Int) then ((script_Spans.f k ((rd_T28 bt609.1 t614).f2)).bind fun bt616 => (if t614 ≤ (bt609.1.length : Int) then ((some (bt609.1.take (t614 : Int).toNat : List (S28))).bind fun y618 => (if ([] : List (S28)).length + y618.length < 3518437208883 then (collatorlaw06_HunksFewer.l0 k t601 bt602.1 bt602.2 bt609.1 t614 bt616.1 bt616.2 (([] : List (S28)) ++ y618) (wrap64 (t614 + 1))) else (none))) else (none))) else (none)) else (none)))) else (some false)))))
theorem collatorlaw06_HunksFewer.mono_l : ∀ k, (∀ y0 y1 y2 y3 y4 y5 y6 y7 y8, LeO (collatorlaw06_HunksFewer.l0 k y0 y1 y2 y3 y4 y5 y6 y7 y8) (collatorlaw06_HunksFewer.l0 (k + 1) y0 y1 y2 y3 y4 y5 y6 y7 y8))
 | 0 => fun _ _ _ _ _ _ _ _ _ r h => by simp [collatorlaw06_HunksFewer.l0] at h
 | k + 1 => by
  have ih0 := collatorlaw06_HunksFewer.mono_l k
  ·intro y0 y1 y2 y3 y4 y5 y6 y7 y8
   unfold collatorlaw06_HunksFewer.l0
   repeat' first
   | (with_reducible exact ih0 _ _ _ _ _ _ _ _ _)
   | (with_reducible exact collatorlaw04_Script.mono _ _ _)
   | (with_reducible exact hunks_Make.mono _ _ _)
   | (with_reducible exact hunks_Right.mono _ _)
   | (with_reducible exact hunks_Script.mono _ _ _)
   | (with_reducible exact script_Cost.mono _ _)
   | (with_reducible exact script_Spans.mono _ _)
   | (with_reducible exact LeO.refl _)
   | (with_reducible exact LeO.none _)
   | (with_reducible refine LeO.ite ?_ ?_)
   | (with_reducible refine LeO.bind ?_ (fun _ => ?_))
   | exact ih0 _ _ _ _ _ _ _ _ _
   | exact collatorlaw04_Script.mono _ _ _
   | exact hunks_Make.mono _ _ _
   | exact hunks_Right.mono _ _
   | exact hunks_Script.mono _ _ _
   | exact script_Cost.mono _ _
   | exact script_Spans.mono _ _
   | exact LeO.none _
   | refine LeO.ite ?_ ?_
   | refine LeO.bind ?_ (fun _ => ?_)
theorem collatorlaw06_HunksFewer.mono : ∀ a0 a1 a2 k, LeO (collatorlaw06_HunksFewer.f k a0 a1 a2) (collatorlaw06_HunksFewer.f (k + 1) a0 a1 a2) := by
 intro a0 a1 a2 k
 have ih0 := collatorlaw06_HunksFewer.mono_l k
 unfold collatorlaw06_HunksFewer.f
 repeat' first
   | (with_reducible exact ih0 _ _ _ _ _ _ _ _ _)
   | (with_reducible exact collatorlaw04_Script.mono _ _ _)
   | (with_reducible exact hunks_Make.mono _ _ _)
   | (with_reducible exact hunks_Right.mono _ _)
   | (with_reducible exact hunks_Script.mono _ _ _)
   | (with_reducible exact script_Cost.mono _ _)
   | (with_reducible exact script_Spans.mono _ _)
   | (with_reducible exact LeO.refl _)
   | (with_reducible exact LeO.none _)
   | (with_reducible refine LeO.ite ?_ ?_)
   | (with_reducible refine LeO.bind ?_ (fun _ => ?_))
   | exact ih0 _ _ _ _ _ _ _ _ _
   | exact collatorlaw04_Script.mono _ _ _
   | exact hunks_Make.mono _ _ _
   | exact hunks_Right.mono _ _
   | exact hunks_Script.mono _ _ _
   | exact script_Cost.mono _ _
   | exact script_Spans.mono _ _
   | exact LeO.none _
   | refine LeO.ite ?_ ?_
   | refine LeO.bind ?_ (fun _ => ?_)
def collatorlaw06_HunksFewer.T14 : Bool × List (List Nat × List Nat) := (true, [([], []), ([], []), ([], []), ([1, 2], [1, 2]), ([3], [3]), ([4], [4]), ([], []), ([], []), ([6, 7], [6, 7]), ([8], [8]), ([9], [9]), ([], []), ([10, 11], [10, 11]), ([], []), ([12, 13], [12, 13]), ([], []), ([], []), ([15, 16], [15, 16]), ([17], [17]), ([18], [18]), ([5, 14, 19], [5, 14, 19]), ([20], [20]), ([0, 21], [0, 21]), ([22, 22, 0, 1, 2, 3, 4, 5, 6, 7, 8, 9, 10, 11, 12, 13, 14, 15, 16, 17, 18, 19, 20, 21, 22], [0, 22])])
def collatorlaw06_HunksFewer.B14 : List Nat := [0, 0, 0, 6, 14, 30, 0, 0, 192, 448, 960, 0, 4032, 0, 16320, 0, 0, 98304, 229376, 491520, 1048574, 2097150, 4194303, 8388607]
theorem collatorlaw06_HunksFewer.tab14 : rtab .any (opsOf Try.f7 14) = collatorlaw06_HunksFewer.T14 := by kernel_rfl
theorem collatorlaw06_HunksFewer.bits14 : waitsOk collatorlaw06_HunksFewer.T14.2 collatorlaw06_HunksFewer.B14 = true := by kernel_rfl
def collatorlaw06_HunksFewer.T17 : Bool × List (List Nat × List Nat) := (true, [([], []), ([0], [0]), ([1], [1]), ([2, 1], [1, 2]), ([1, 3], [1, 3]), ([4, 1], [4]), ([5], [5]), ([6, 5, 5], [5, 6]), ([5, 7], [5, 7]), ([8, 7], [8]), ([9], [9]), ([9], [9]), ([11, 9], [9, 11]), ([10, 12, 9], [9, 10, 12]), ([9, 13], [9, 13]), ([14, 9], [14]), ([15], [15]), ([16, 15, 15], [15, 16]), ([15], [15]), ([18, 17, 15], [15, 18]), ([15], [15]), ([15], [15]), ([20, 21, 15], [15, 20, 21]), ([22, 15], [15, 22]), ([23, 15], [15, 23]), ([24, 19, 15], [15, 24]), ([19, 25, 15], [15, 19, 25]), ([17, 26, 15], [15, 17, 26]), ([15, 27], [15, 27]), ([28, 25, 0, 1, 2, 3, 4, 5, 6, 7, 8, 9, 10, 11, 12, 13, 14, 15, 16, 17, 18, 19, 20, 21, 22, 23, 24, 25, 26, 27, 28], [28])])
def collatorlaw06_HunksFewer.B17 : List Nat := [0, 1, 3, 7, 15, 31, 63, 127, 255, 511, 1023, 1023, 3071, 8191, 16383, 32767, 65535, 131071, 65535, 524287, 65535, 65535, 3211263, 7405567, 15794175, 33554431, 67108863, 134217727, 268435455, 536870911]
theorem collatorlaw06_HunksFewer.tab17 : rtab .any (opsOf Try.f7 17) = collatorlaw06_HunksFewer.T17 := by kernel_rfl
theorem collatorlaw06_HunksFewer.bits17 : waitsOk collatorlaw06_HunksFewer.T17.2 collatorlaw06_HunksFewer.B17 = true := by kernel_rfl
set_option maxHeartbeats 8000000 in
set_option maxRecDepth 100000 in
theorem collatorlaw06_HunksFewer.calls (k : Nat) (A0 : Option Addr) (c0 : Nat) (l0 : List Int) (a1 : Int) (a2 : Int) (r : Bool) (w : World) (hr0 : Kd.C (Kd.int .i64) w A0 l0.length l0) (hc0 : l0.length ≤ c0) (h : collatorlaw06_HunksFewer.f k l0 a1 a2 = some r) :
  Calls Try.prog 7 #[.slice A0 l0.length c0, .int .i64 a1, .int .i64 a2] w fun e w' => e = .returned (.bool r) ∧ Below w.heap.size w w' := by
 have hu28 := Try.underlying28
 have HR0 := Aside0.mk hr0
 have HC0 := Aside0.mk hc0
 clear hr0 hc0
 have HB := Aside0.mk (Below.refl w.heap.size w)
 have H : ((collatorlaw06_awake.f).bind fun t601 => ((collatorlaw04_Script.f k l0 ([] : List Int)).bind fun bt602 => ((collatorlaw06_pick.f a1 4).bind fun t608 => ((hunks_Make.f k bt602.1 t608).bind fun bt609 => (if bt609.2 = 0 then (if (bt609.1.length : Int) = 0 then (if t601 = true then ((script_Cost.f k bt602.1).bind fun t613 => (some (t613 == 0))) else (some false)) else ((collatorlaw06_pick.f a2 (bt609.1.length : Int)).bind fun t614 => (if 0 ≤ t614 then (if t614 < (bt609.1.length : Int) then ((script_Spans.f k ((rd_T28 bt609.1 t614).f2)).bind fun bt616 => (if t614 ≤ (bt609.1.length : Int) then ((some (bt609.1.take (t614 : Int).toNat : List (S28))).bind fun y618 => (if ([] : List (S28)).length + y618.length < 3518437208883 then (collatorlaw06_HunksFewer.l0 k t601 bt602.1 bt602.2 bt609.1 t614 bt616.1 bt616.2 (([] : List (S28)) ++ y618) (wrap64 (t614 + 1))) else (none))) else (none))) else (none)) else (none)))) else (some false)))))) = some r := h
 clear h
 replace H := Option.bind_eq_some_iff.mp H
 obtain ⟨t601, A40, H⟩ := H
 replace H : ((collatorlaw04_Script.f k l0 ([] : List Int)).bind fun bt602 => ((collatorlaw06_pick.f a1 4).bind fun t608 => ((hunks_Make.f k bt602.1 t608).bind fun bt609 => (if bt609.2 = 0 then (if (bt609.1.length : Int) = 0 then (if t601 = true then ((script_Cost.f k bt602.1).bind fun t613 => (some (t613 == 0))) else (some false)) else ((collatorlaw06_pick.f a2 (bt609.1.length : Int)).bind fun t614 => (if 0 ≤ t614 then (if t614 < (bt609.1.length : Int) then ((script_Spans.f k ((rd_T28 bt609.1 t614).f2)).bind fun bt616 => (if t614 ≤ (bt609.1.length : Int) then ((some (bt609.1.take (t614 : Int).toNat : List (S28))).bind fun y618 => (if ([] : List (S28)).length + y618.length < 3518437208883 then (collatorlaw06_HunksFewer.l0 k t601 bt602.1 bt602.2 bt609.1 t614 bt616.1 bt616.2 (([] : List (S28)) ++ y618) (wrap64 (t614 + 1))) else (none))) else (none))) else (none)) else (none)))) else (some false))))) = some r := H
 have A4 := Aside0.mk A40
 clear A40
 replace H := Option.bind_eq_some_iff.mp H
 obtain ⟨⟨t602, t603⟩, A50, H⟩ := H
 replace H : ((collatorlaw06_pick.f a1 4).bind fun t608 => ((hunks_Make.f k t602 t608).bind fun bt609 => (if bt609.2 = 0 then (if (bt609.1.length : Int) = 0 then (if t601 = true then ((script_Cost.f k t602).bind fun t613 => (some (t613 == 0))) else (some false)) else ((collatorlaw06_pick.f a2 (bt609.1.length : Int)).bind fun t614 => (if 0 ≤ t614 then (if t614 < (bt609.1.length : Int) then ((script_Spans.f k ((rd_T28 bt609.1 t614).f2)).bind fun bt616 => (if t614 ≤ (bt609.1.length : Int) then ((some (bt609.1.take (t614 : Int).toNat : List (S28))).bind fun y618 => (if ([] : List (S28)).length + y618.length < 3518437208883 then (collatorlaw06_HunksFewer.l0 k t601 t602 t603 bt609.1 t614 bt616.1 bt616.2 (([] : List (S28)) ++ y618) (wrap64 (t614 + 1))) else (none))) else (none))) else (none)) else (none)))) else (some false)))) = some r := H
 have A5 := Aside0.mk A50
 clear A50
 replace H := Option.bind_eq_some_iff.mp H
 obtain ⟨t608, A60, H⟩ := H
 replace H : ((hunks_Make.f k t602 t608).bind fun bt609 => (if bt609.2 = 0 then (if (bt609.1.length : Int) = 0 then (if t601 = true then ((script_Cost.f k t602).bind fun t613 => (some (t613 == 0))) else (some false)) else ((collatorlaw06_pick.f a2 (bt609.1.length : Int)).bind fun t614 => (if 0 ≤ t614 then (if t614 < (bt609.1.length : Int) then ((script_Spans.f k ((rd_T28 bt609.1 t614).f2)).bind fun bt616 => (if t614 ≤ (bt609.1.length : Int) then ((some (bt609.1.take (t614 : Int).toNat : List (S28))).bind fun y618 => (if ([] : List (S28)).length + y618.length < 3518437208883 then (collatorlaw06_HunksFewer.l0 k t601 t602 t603 bt609.1 t614 bt616.1 bt616.2 (([] : List (S28)) ++ y618) (wrap64 (t614 + 1))) else (none))) else (none))) else (none)) else (none)))) else (some false))) = some r := H
 have A6 := Aside0.mk A60
 clear A60
 replace H := Option.bind_eq_some_iff.mp H
 obtain ⟨⟨t609, t610⟩, A70, H⟩ := H
 replace H : (if t610 = 0 then (if (t609.length : Int) = 0 then (if t601 = true then ((script_Cost.f k t602).bind fun t613 => (some (t613 == 0))) else (some false)) else ((collatorlaw06_pick.f a2 (t609.length : Int)).bind fun t614 => (if 0 ≤ t614 then (if t614 < (t609.length : Int) then ((script_Spans.f k ((rd_T28 t609 t614).f2)).bind fun bt616 => (if t614 ≤ (t609.length : Int) then ((some (t609.take (t614 : Int).toNat : List (S28))).bind fun y618 => (if ([] : List (S28)).length + y618.length < 3518437208883 then (collatorlaw06_HunksFewer.l0 k t601 t602 t603 t609 t614 bt616.1 bt616.2 (([] : List (S28)) ++ y618) (wrap64 (t614 + 1))) else (none))) else (none))) else (none)) else (none)))) else (some false)) = some r := H
 have A7 := Aside0.mk A70
 clear A70
 by_cases c8 : t610 = 0
 ·rw [if_pos c8] at H
  have c8b0 : (t610 == 0) = true := beq_iff_eq.mpr c8
  have c8b1 : (t610 != 0) = false := bne_eq_false_iff_eq.mpr c8
  clear c8
  by_cases c9 : (t609.length : Int) = 0
  ·rw [if_pos c9] at H
   have c9b0 : ((t609.length : Int) == 0) = true := beq_iff_eq.mpr c9
   have c9b1 : ((t609.length : Int) != 0) = false := bne_eq_false_iff_eq.mpr c9
   clear c9
   by_cases c10 : t601 = true
   ·subst c10
    have H1 : ((script_Cost.f k t602).bind fun t613 => (some (t613 == 0))) = some r := by rw [if_pos rfl] at H; exact H
    clear H
    have H := H1
    clear H1
    replace H := Option.bind_eq_some_iff.mp H
    obtain ⟨t613, A110, H⟩ := H
    replace H : (some (t613 == 0)) = some r := H
    have A11 := Aside0.mk A110
    clear A110
    obtain rfl := Option.some.inj H
    go_enter Try.func7, Try.ntmps7
    go_wp2_with (first | ((with_reducible refine gate_callee (f := 9) rfl ?_); refine goesL_ (some 21) rfl rfl Try.func9 (by kernel_rfl) rfl #[] rfl mp_ ?_; (with_reducible refine (collatorlaw06_awake.calls  true _ A4.out).mono ?_); rintro e w12 ⟨rfl, hb⟩; refine ⟨_, rfl, ?_⟩; have n0_ := Aside0.mk (below_step hb_ hb); clear HB; have HB := n0_; clear n0_; (try clear hb); (try clear hb2); (try clear hk); (try clear hi)) | ((with_reducible refine gate_callee (f := 10) rfl ?_); refine goesL_ (some 24) rfl rfl Try.func10 (by kernel_rfl) rfl #[.slice A0 l0.length c0, .slice none 0 0] rfl mp_ ?_; (refine (collatorlaw04_Script.calls k _ _ l0 _ _ ([] : List Int) t602 t603 _ ?side1 ?side2 ?side3 ?side4 A5.out).mono ?_); (case side1 => repeat (first | exact (Kd.C_below HR0.out HB.out) | (with_reducible refine Kd.C_alloc ?_ _) | (with_reducible refine Kd.C_drewN ?_ _) | (with_reducible refine Kd.C_drew ?_))); (case side2 => exact HC0.out); (case side3 => exact Kd.C_nil _ _); (case side4 => exact Nat.le_refl _); rintro e w13 ⟨v604, v606, rfl, ho0, ho1, hb⟩; refine ⟨_, rfl, ?_⟩; have n0_ := Aside0.mk (Kd.N_lower (Kd.N_mono (ok' := fun k_ => some k_ ≠ (v606 : Value).ownBlock) (Kd.S_N (Kd.S_bound ho0)) (fun k_ hk_ => hk_.1)) (below_size hb_)); have n1_ := Aside0.mk (Kd.R_lower ho1 (below_size hb_)); have n2_ := Aside0.mk (below_step hb_ hb); clear HB; have HO605 := n0_; have HO607 := n1_; have HB := n2_; clear n0_ n1_ n2_; (try clear hb); (try clear hb2); (try clear hk); (try clear hi); (try clear ho0); (try clear ho1)) | ((with_reducible refine gate_callee (f := 11) rfl ?_); refine goesL_ (some 30) rfl rfl Try.func11 (by kernel_rfl) rfl #[.int .i64 a1, .int .i64 4] rfl mp_ ?_; (with_reducible refine (collatorlaw06_pick.calls a1 4 t608 _ A6.out).mono ?_); rintro e w' ⟨rfl, ⟨nd, rfl⟩⟩; refine ⟨_, rfl, ?_⟩; (try (obtain ⟨Ao14, co14, eo14⟩ := Kd.N_slice HO605.out; subst eo14))) | ((with_reducible refine gate_callee (f := 12) rfl ?_); refine goesL_ (some 31) rfl rfl Try.func12 (by kernel_rfl) rfl #[.slice Ao14 t602.length co14, .int .i64 t608] rfl mp_ ?_; (with_reducible refine (hunks_Make.calls k _ _ t602 t608 t609 t610 _ ?side1 ?side2 A7.out).mono ?_); (case side1 => repeat (first | exact (Kd.N_reads' HO605.out).2.2 | (with_reducible refine Kd.C_alloc ?_ _) | (with_reducible refine Kd.C_drewN ?_ _) | (with_reducible refine Kd.C_drew ?_))); (case side2 => exact (Kd.N_reads' HO605.out).2.1); rintro e w15 ⟨v611, rfl, ho0, hb⟩; refine ⟨_, rfl, ?_⟩; have n0_ := Aside0.mk (Kd.N_elder' (by (with_reducible repeat (first | apply Kd.N_alloc | apply Kd.N_drewN | apply Kd.N_drew)); exact HO605.out) (by first | exact Kd.N_base ho0 | exact Kd.S_base ho0 | exact Kd.N_base (Kd.R_N ho0)) hb); have n1_ := Aside0.mk (Kd.R_below (by (with_reducible repeat (first | apply Kd.R_alloc | apply Kd.R_drewN | apply Kd.R_drew)); exact HO607.out) hb); have n2_ := Aside0.mk (Kd.N_lower (Kd.N_mono (ok' := fun k_ => some k_ ≠ (.slice Ao14 t602.length co14 : Value).ownBlock ∧ some k_ ≠ (v606 : Value).ownBlock) (Kd.R_N (Kd.R_bound ho0)) (fun k_ hk_ => ⟨(Kd.fresh' (Kd.N_lt (by (with_reducible repeat (first | apply Kd.N_alloc | apply Kd.N_drewN | apply Kd.N_drew)); exact HO605.out)) k_ hk_.2.1), (Kd.fresh' (Kd.R_lt (by (with_reducible repeat (first | apply Kd.R_alloc | apply Kd.R_drewN | apply Kd.R_drew)); exact HO607.out)) k_ hk_.2.1)⟩)) (below_size hb_)); have n3_ := Aside0.mk (below_step hb_ hb); clear HO605; clear HO607; clear HB; have HO605 := n0_; have HO607 := n1_; have HO612 := n2_; have HB := n3_; clear n0_ n1_ n2_ n3_; (try clear hb); (try clear hb2); (try clear hk); (try clear hi); (try clear ho0); (try (obtain ⟨Ao16, co16, eo16⟩ := Kd.N_slice HO612.out; subst eo16))) | (go_at_call 25; (with_reducible refine (script_Cost.calls k _ _ t602 t613 _ ?side1 ?side2 A11.out).mono ?_); (case side1 => repeat (first | exact (Kd.N_reads' HO605.out).2.2 | (with_reducible refine Kd.C_alloc ?_ _) | (with_reducible refine Kd.C_drewN ?_ _) | (with_reducible refine Kd.C_drew ?_))); (case side2 => exact (Kd.N_reads' HO605.out).2.1); rintro e w17 ⟨rfl, hb⟩; have n0_ := Aside0.mk (Kd.N_below (by (with_reducible repeat (first | apply Kd.N_alloc | apply Kd.N_drewN | apply Kd.N_drew)); exact HO605.out) hb); have n1_ := Aside0.mk (Kd.R_below (by (with_reducible repeat (first | apply Kd.R_alloc | apply Kd.R_drewN | apply Kd.R_drew)); exact HO607.out) hb); have n2_ := Aside0.mk (Kd.N_below (by (with_reducible repeat (first | apply Kd.N_alloc | apply Kd.N_drewN | apply Kd.N_drew)); exact HO612.out) hb); have n3_ := Aside0.mk (below_step hb_ hb); clear HO605; clear HO607; clear HO612; clear HB; have HO605 := n0_; have HO607 := n1_; have HO612 := n2_; have HB := n3_; clear n0_ n1_ n2_ n3_; (try clear hb); (try clear hb2); (try clear hk); (try clear hi)))
    go_ret
    exact ⟨by first | rfl | (simp [errW_none, errW_some] <;> rfl) | (simp [*, errW_none, errW_some] <;> rfl), by repeat (first | (with_reducible first | exact HB.out | apply below_alloc | apply pw_below_drewN | apply below_drew1) | exact HB.out)⟩
   ·replace c10 := Bool.eq_false_iff.mpr c10
    subst c10
    have H1 : (some false) = some r := by rw [if_neg (show ¬ (false = true) by decide)] at H; exact H
    clear H
    have H := H1
    clear H1
    obtain rfl := Option.some.inj H
    go_enter Try.func7, Try.ntmps7
    go_wp2_with (first | ((with_reducible refine gate_callee (f := 9) rfl ?_); refine goesL_ (some 21) rfl rfl Try.func9 (by kernel_rfl) rfl #[] rfl mp_ ?_; (with_reducible refine (collatorlaw06_awake.calls  false _ A4.out).mono ?_); rintro e w18 ⟨rfl, hb⟩; refine ⟨_, rfl, ?_⟩; have n0_ := Aside0.mk (below_step hb_ hb); clear HB; have HB := n0_; clear n0_; (try clear hb); (try clear hb2); (try clear hk); (try clear hi)) | ((with_reducible refine gate_callee (f := 10) rfl ?_); refine goesL_ (some 24) rfl rfl Try.func10 (by kernel_rfl) rfl #[.slice A0 l0.length c0, .slice none 0 0] rfl mp_ ?_; (refine (collatorlaw04_Script.calls k _ _ l0 _ _ ([] : List Int) t602 t603 _ ?side1 ?side2 ?side3 ?side4 A5.out).mono ?_); (case side1 => repeat (first | exact (Kd.C_below HR0.out HB.out) | (with_reducible refine Kd.C_alloc ?_ _) | (with_reducible refine Kd.C_drewN ?_ _) | (with_reducible refine Kd.C_drew ?_))); (case side2 => exact HC0.out); (case side3 => exact Kd.C_nil _ _); (case side4 => exact Nat.le_refl _); rintro e w19 ⟨v604, v606, rfl, ho0, ho1, hb⟩; refine ⟨_, rfl, ?_⟩; have n0_ := Aside0.mk (Kd.N_lower (Kd.N_mono (ok' := fun k_ => some k_ ≠ (v606 : Value).ownBlock) (Kd.S_N (Kd.S_bound ho0)) (fun k_ hk_ => hk_.1)) (below_size hb_)); have n1_ := Aside0.mk (Kd.R_lower ho1 (below_size hb_)); have n2_ := Aside0.mk (below_step hb_ hb); clear HB; have HO605 := n0_; have HO607 := n1_; have HB := n2_; clear n0_ n1_ n2_; (try clear hb); (try clear hb2); (try clear hk); (try clear hi); (try clear ho0); (try clear ho1)) | ((with_reducible refine gate_callee (f := 11) rfl ?_); refine goesL_ (some 30) rfl rfl Try.func11 (by kernel_rfl) rfl #[.int .i64 a1, .int .i64 4] rfl mp_ ?_; (with_reducible refine (collatorlaw06_pick.calls a1 4 t608 _ A6.out).mono ?_); rintro e w' ⟨rfl, ⟨nd, rfl⟩⟩; refine ⟨_, rfl, ?_⟩; (try (obtain ⟨Ao20, co20, eo20⟩ := Kd.N_slice HO605.out; subst eo20))) | ((with_reducible refine gate_callee (f := 12) rfl ?_); refine goesL_ (some 31) rfl rfl Try.func12 (by kernel_rfl) rfl #[.slice Ao20 t602.length co20, .int .i64 t608] rfl mp_ ?_; (with_reducible refine (hunks_Make.calls k _ _ t602 t608 t609 t610 _ ?side1 ?side2 A7.out).mono ?_); (case side1 => repeat (first | exact (Kd.N_reads' HO605.out).2.2 | (with_reducible refine Kd.C_alloc ?_ _) | (with_reducible refine Kd.C_drewN ?_ _) | (with_reducible refine Kd.C_drew ?_))); (case side2 => exact (Kd.N_reads' HO605.out).2.1); rintro e w21 ⟨v611, rfl, ho0, hb⟩; refine ⟨_, rfl, ?_⟩; have n0_ := Aside0.mk (Kd.N_elder' (by (with_reducible repeat (first | apply Kd.N_alloc | apply Kd.N_drewN | apply Kd.N_drew)); exact HO605.out) (by first | exact Kd.N_base ho0 | exact Kd.S_base ho0 | exact Kd.N_base (Kd.R_N ho0)) hb); have n1_ := Aside0.mk (Kd.R_below (by (with_reducible repeat (first | apply Kd.R_alloc | apply Kd.R_drewN | apply Kd.R_drew)); exact HO607.out) hb); have n2_ := Aside0.mk (Kd.N_lower (Kd.N_mono (ok' := fun k_ => some k_ ≠ (.slice Ao20 t602.length co20 : Value).ownBlock ∧ some k_ ≠ (v606 : Value).ownBlock) (Kd.R_N (Kd.R_bound ho0)) (fun k_ hk_ => ⟨(Kd.fresh' (Kd.N_lt (by (with_reducible repeat (first | apply Kd.N_alloc | apply Kd.N_drewN | apply Kd.N_drew)); exact HO605.out)) k_ hk_.2.1), (Kd.fresh' (Kd.R_lt (by (with_reducible repeat (first | apply Kd.R_alloc | apply Kd.R_drewN | apply Kd.R_drew)); exact HO607.out)) k_ hk_.2.1)⟩)) (below_size hb_)); have n3_ := Aside0.mk (below_step hb_ hb); clear HO605; clear HO607; clear HB; have HO605 := n0_; have HO607 := n1_; have HO612 := n2_; have HB := n3_; clear n0_ n1_ n2_ n3_; (try clear hb); (try clear hb2); (try clear hk); (try clear hi); (try clear ho0); (try (obtain ⟨Ao22, co22, eo22⟩ := Kd.N_slice HO612.out; subst eo22))))
    go_ret
    exact ⟨by first | rfl | (simp [errW_none, errW_some] <;> rfl) | (simp [*, errW_none, errW_some] <;> rfl), by repeat (first | (with_reducible first | exact HB.out | apply below_alloc | apply pw_below_drewN | apply below_drew1) | exact HB.out)⟩
  ·rw [if_neg c9] at H
   have c9b0 : ((t609.length : Int) == 0) = false := beq_eq_false_iff_ne.mpr c9
   have c9b1 : ((t609.length : Int) != 0) = true := bne_iff_ne.mpr c9
   have c9b2 : ¬ (t609 = []) := fun h_ => c9 (by rw [h_]; rfl)
   replace H := Option.bind_eq_some_iff.mp H
   obtain ⟨t614, A230, H⟩ := H
   replace H : (if 0 ≤ t614 then (if t614 < (t609.length : Int) then ((script_Spans.f k ((rd_T28 t609 t614).f2)).bind fun bt616 => (if t614 ≤ (t609.length : Int) then ((some (t609.take (t614 : Int).toNat : List (S28))).bind fun y618 => (if ([] : List (S28)).length + y618.length < 3518437208883 then (collatorlaw06_HunksFewer.l0 k t601 t602 t603 t609 t614 bt616.1 bt616.2 (([] : List (S28)) ++ y618) (wrap64 (t614 + 1))) else (none))) else (none))) else (none)) else (none)) = some r := H
   have A23 := Aside0.mk A230
   clear A230
   by_cases c24 : 0 ≤ t614
   ·rw [if_pos c24] at H
    have c24b0 : decide (0 ≤ t614) = true := decide_eq_true c24
    clear c24
    by_cases c25 : t614 < (t609.length : Int)
    ·rw [if_pos c25] at H
     have c25b0 : decide (t614 < (t609.length : Int)) = true := decide_eq_true c25
     clear c25
     replace H := Option.bind_eq_some_iff.mp H
     obtain ⟨⟨t616, t617⟩, A260, H⟩ := H
     replace H : (if t614 ≤ (t609.length : Int) then ((some (t609.take (t614 : Int).toNat : List (S28))).bind fun y618 => (if ([] : List (S28)).length + y618.length < 3518437208883 then (collatorlaw06_HunksFewer.l0 k t601 t602 t603 t609 t614 t616 t617 (([] : List (S28)) ++ y618) (wrap64 (t614 + 1))) else (none))) else (none)) = some r := H
     have A26 := Aside0.mk A260
     clear A260
     have c27b0 := eq_true (of_decide_eq_true as_ : 0 ≤ t614)
     by_cases c28 : t614 ≤ (t609.length : Int)
     ·rw [if_pos c28] at H
      have c28b0 := eq_true c28
      have c28b1 : decide (t614 ≤ (t609.length : Int)) = true := decide_eq_true c28
      clear c28
      obtain ⟨y618, hy618⟩ : ∃ y_ : List (S28), y_ = (t609.take (t614 : Int).toNat) := ⟨_, rfl⟩
      replace H : (if ([] : List (S28)).length + y618.length < 3518437208883 then (collatorlaw06_HunksFewer.l0 k t601 t602 t603 t609 t614 t616 t617 (([] : List (S28)) ++ y618) (wrap64 (t614 + 1))) else (none)) = some r := by first | (rw [hy618]; with_reducible exact H) | (have H2_ := (Option.bind_some _ _).symm.trans H; rw [hy618]; with_reducible exact H2_) | (have H2_ := (Option.bind_some _ _).symm.trans H; with_reducible exact H2_) | with_reducible exact H | (rw [hy618]; exact H) | exact H
      have Ny618 := Aside0.mk hy618
      clear hy618
      by_cases c29 : ([] : List (S28)).length + y618.length < 3518437208883
      ·rw [if_pos c29] at H
       have LMc29 := Aside0.mk c29
       clear c29
       obtain ⟨y623, hy623⟩ : ∃ y_ : List (S28), y_ = (([] : List (S28)) ++ y618) := ⟨_, rfl⟩
       replace H : (collatorlaw06_HunksFewer.l0 k t601 t602 t603 t609 t614 t616 t617 y623 (wrap64 (t614 + 1))) = some r := by first | (rw [hy623]; with_reducible exact H) | (have H2_ := (Option.bind_some _ _).symm.trans H; rw [hy623]; with_reducible exact H2_) | (have H2_ := (Option.bind_some _ _).symm.trans H; with_reducible exact H2_) | with_reducible exact H | (rw [hy623]; exact H) | exact H
       have Ny623 := Aside0.mk hy623
       clear hy623
       have H' := Aside0.mk H
       clear H
       go_enter Try.func7, Try.ntmps7
       go_wp2_with (first | ((with_reducible refine gate_callee (f := 9) rfl ?_); refine goesL_ (some 21) rfl rfl Try.func9 (by kernel_rfl) rfl #[] rfl mp_ ?_; (with_reducible refine (collatorlaw06_awake.calls  t601 _ A4.out).mono ?_); rintro e w30 ⟨rfl, hb⟩; refine ⟨_, rfl, ?_⟩; have n0_ := Aside0.mk (below_step hb_ hb); clear HB; have HB := n0_; clear n0_; (try clear hb); (try clear hb2); (try clear hk); (try clear hi)) | ((with_reducible refine gate_callee (f := 10) rfl ?_); refine goesL_ (some 24) rfl rfl Try.func10 (by kernel_rfl) rfl #[.slice A0 l0.length c0, .slice none 0 0] rfl mp_ ?_; (refine (collatorlaw04_Script.calls k _ _ l0 _ _ ([] : List Int) t602 t603 _ ?side1 ?side2 ?side3 ?side4 A5.out).mono ?_); (case side1 => repeat (first | exact (Kd.C_below HR0.out HB.out) | (with_reducible refine Kd.C_alloc ?_ _) | (with_reducible refine Kd.C_drewN ?_ _) | (with_reducible refine Kd.C_drew ?_))); (case side2 => exact HC0.out); (case side3 => exact Kd.C_nil _ _); (case side4 => exact Nat.le_refl _); rintro e w31 ⟨v604, v606, rfl, ho0, ho1, hb⟩; refine ⟨_, rfl, ?_⟩; have n0_ := Aside0.mk (Kd.N_lower (Kd.N_mono (ok' := fun k_ => some k_ ≠ (v606 : Value).ownBlock) (Kd.S_N (Kd.S_bound ho0)) (fun k_ hk_ => hk_.1)) (below_size hb_)); have n1_ := Aside0.mk (Kd.R_lower ho1 (below_size hb_)); have n2_ := Aside0.mk (below_step hb_ hb); clear HB; have HO605 := n0_; have HO607 := n1_; have HB := n2_; clear n0_ n1_ n2_; (try clear hb); (try clear hb2); (try clear hk); (try clear hi); (try clear ho0); (try clear ho1)) | ((with_reducible refine gate_callee (f := 11) rfl ?_); refine goesL_ (some 30) rfl rfl Try.func11 (by kernel_rfl) rfl #[.int .i64 a1, .int .i64 4] rfl mp_ ?_; (with_reducible refine (collatorlaw06_pick.calls a1 4 t608 _ A6.out).mono ?_); rintro e w' ⟨rfl, ⟨nd, rfl⟩⟩; refine ⟨_, rfl, ?_⟩; (try (obtain ⟨Ao32, co32, eo32⟩ := Kd.N_slice HO605.out; subst eo32))) | ((with_reducible refine gate_callee (f := 12) rfl ?_); refine goesL_ (some 31) rfl rfl Try.func12 (by kernel_rfl) rfl #[.slice Ao32 t602.length co32, .int .i64 t608] rfl mp_ ?_; (with_reducible refine (hunks_Make.calls k _ _ t602 t608 t609 t610 _ ?side1 ?side2 A7.out).mono ?_); (case side1 => repeat (first | exact (Kd.N_reads' HO605.out).2.2 | (with_reducible refine Kd.C_alloc ?_ _) | (with_reducible refine Kd.C_drewN ?_ _) | (with_reducible refine Kd.C_drew ?_))); (case side2 => exact (Kd.N_reads' HO605.out).2.1); rintro e w33 ⟨v611, rfl, ho0, hb⟩; refine ⟨_, rfl, ?_⟩; have n0_ := Aside0.mk (Kd.N_elder' (by (with_reducible repeat (first | apply Kd.N_alloc | apply Kd.N_drewN | apply Kd.N_drew)); exact HO605.out) (by first | exact Kd.N_base ho0 | exact Kd.S_base ho0 | exact Kd.N_base (Kd.R_N ho0)) hb); have n1_ := Aside0.mk (Kd.R_below (by (with_reducible repeat (first | apply Kd.R_alloc | apply Kd.R_drewN | apply Kd.R_drew)); exact HO607.out) hb); have n2_ := Aside0.mk (Kd.N_lower (Kd.N_mono (ok' := fun k_ => some k_ ≠ (.slice Ao32 t602.length co32 : Value).ownBlock ∧ some k_ ≠ (v606 : Value).ownBlock) (Kd.R_N (Kd.R_bound ho0)) (fun k_ hk_ => ⟨(Kd.fresh' (Kd.N_lt (by (with_reducible repeat (first | apply Kd.N_alloc | apply Kd.N_drewN | apply Kd.N_drew)); exact HO605.out)) k_ hk_.2.1), (Kd.fresh' (Kd.R_lt (by (with_reducible repeat (first | apply Kd.R_alloc | apply Kd.R_drewN | apply Kd.R_drew)); exact HO607.out)) k_ hk_.2.1)⟩)) (below_size hb_)); have n3_ := Aside0.mk (below_step hb_ hb); clear HO605; clear HO607; clear HB; have HO605 := n0_; have HO607 := n1_; have HO612 := n2_; have HB := n3_; clear n0_ n1_ n2_ n3_; (try clear hb); (try clear hb2); (try clear hk); (try clear hi); (try clear ho0); (try (obtain ⟨Ao34, co34, eo34⟩ := Kd.N_slice HO612.out; subst eo34))) | ((with_reducible refine gate_callee (f := 11) rfl ?_); refine goesL_ (some 48) rfl rfl Try.func11 (by kernel_rfl) rfl #[.int .i64 a2, .int .i64 (t609.length : Int)] rfl mp_ ?_; (with_reducible refine (collatorlaw06_pick.calls a2 (t609.length : Int) t614 _ A23.out).mono ?_); rintro e w' ⟨rfl, ⟨nd, rfl⟩⟩; refine ⟨_, rfl, ?_⟩; have p615 : 0 ≤ (t614 : Int) := of_decide_eq_true as_; have q615 : t614 < (t609.length : Int) := of_decide_eq_true as_; obtain ⟨ad615, A615_2, c615_2, e615, hx615_0, hx615_1, hx615_2, hl615_2, hi615_2⟩ := at_T28 (Kd.N_reads' HO612.out).2.2 t614 p615 q615; cases e615; obtain ⟨ce615, hce615, hMe615, hcc615⟩ := Kd.N_get HO612.out z28 t614 p615 (by first | exact q615 | exact of_decide_eq_true as_ | (have e_ := (Kd.N_reads' HO612.out).1; omega)); obtain ⟨ua615_2, uc615_2, rfl, ul615_2, ge615_2⟩ := k28_openF hMe615; have hv615_2 := hcc615 2 _ rfl; rw [add_field _ _ 2 (by omega)] at hv615_2; replace hv615_2 := Option.some.inj (hv615_2.symm.trans hx615_2); injection hv615_2 with hva_ hvn_ hvc_; rw [hva_] at ge615_2; rw [hvc_] at ul615_2; have HL615_2 := Aside0.mk (show Kd.V k31 31 _ w.heap.size _ _ ((rd_T28 t609 t614).f2) from Kd.V_mk ul615_2 ge615_2); clear hva_ hvn_ hvc_ ge615_2 ul615_2; clear hcc615 hce615; have HR615_2 := Aside0.mk hi615_2; have HC615_2 := Aside0.mk hl615_2; clear hi615_2 hl615_2; replace p615 := eq_true p615; replace q615 := eq_true q615) | ((with_reducible refine gate_callee (f := 26) rfl ?_); refine goesL_ (some 55) rfl rfl Try.func26 (by kernel_rfl) rfl #[.slice A615_2 ((rd_T28 t609 t614).f2).length c615_2] rfl mp_ ?_; (with_reducible refine (script_Spans.calls k _ _ ((rd_T28 t609 t614).f2) t616 t617 _ ?side1 ?side2 A26.out).mono ?_); (case side1 => repeat (first | exact (by repeat (first | (with_reducible exact HR615_2.out) | (with_reducible refine Kd.C_alloc ?_ _) | (with_reducible refine Kd.C_drewN ?_ _) | (with_reducible refine Kd.C_drew ?_) | exact HR615_2.out)) | (with_reducible refine Kd.C_alloc ?_ _) | (with_reducible refine Kd.C_drewN ?_ _) | (with_reducible refine Kd.C_drew ?_))); (case side2 => exact HC615_2.out); rintro e w35 ⟨rfl, hb⟩; refine ⟨_, rfl, ?_⟩; have n0_ := Aside0.mk (Kd.N_below (by (with_reducible repeat (first | apply Kd.N_alloc | apply Kd.N_drewN | apply Kd.N_drew)); exact HO605.out) hb); have n1_ := Aside0.mk (Kd.R_below (by (with_reducible repeat (first | apply Kd.R_alloc | apply Kd.R_drewN | apply Kd.R_drew)); exact HO607.out) hb); have n2_ := Aside0.mk (Kd.N_below (by (with_reducible repeat (first | apply Kd.N_alloc | apply Kd.N_drewN | apply Kd.N_drew)); exact HO612.out) hb); have n3_ := Aside0.mk (Kd.V_below (by (with_reducible repeat (first | apply Kd.V_alloc | apply Kd.V_drewN | apply Kd.V_drew)); exact HL615_2.out) hb); have n4_ := Aside0.mk (Kd.C_below (by repeat (first | (with_reducible exact HR615_2.out) | (with_reducible refine Kd.C_alloc ?_ _) | (with_reducible refine Kd.C_drewN ?_ _) | (with_reducible refine Kd.C_drew ?_) | exact HR615_2.out)) hb); have n5_ := Aside0.mk (below_step hb_ hb); clear HO605; clear HO607; clear HO612; clear HL615_2; clear HR615_2; clear HB; have HO605 := n0_; have HO607 := n1_; have HO612 := n2_; have HL615_2 := n3_; have HR615_2 := n4_; have HB := n5_; clear n0_ n1_ n2_ n3_ n4_ n5_; (try clear hb); (try clear hb2); (try clear hk); (try clear hi); have q36 : (t614 : Int) ≤ ((t609.length : Int) : Int) := of_decide_eq_true as_; obtain ⟨i036, hi036, _, hsz36, _⟩ := info_parts info28; have hroom36 : t609.length ≤ co34 := (Kd.N_reads' HO612.out).2.1; have hC36 : Kd.F k28 _ _ (some ad615) t609.length t609 := (Kd.V_at (base := w.heap.size) (Kd.N_V HO612.out)).2.2; have hcut36 := cut_to (P := Try.prog) 22 28 .i64 Try.underlying22 hi036 (some ad615) t609.length co34 t614 (of_decide_eq_true as_) q36 hroom36; have hr36 := Kd.F_take (m := (t614 : Int).toNat) hC36 (by omega); have hy36 : y618.length = (t614 : Int).toNat := (by rw [Ny618.out, List.length_take]; omega); rw [← Ny618.out] at hr36; rw [← hy36] at hcut36; have HO622 := Aside0.mk (show Kd.V k28 28 _ w.heap.size _ (.slice (some ad615) y618.length co34) y618 from Kd.V_mk (by omega) hr36); have HC622 := Aside0.mk (show y618.length ≤ co34 from by omega); clear hr36 hC36 hroom36 hi036 hsz36; have KY36 := Aside0.mk hy36; clear hy36; replace q36 := eq_true q36) | ((with_reducible refine gate_builtin (b := .append) (xs := #[.const (.slice none 0 0), .tmp 60]) rfl ?_); (try (refine gate_guard (by rfl) ?_; dsimp only)); at_builtin; refine Kd.N_append_rows k28 (w0 := w) w.heap.size rfl (.const (.slice none 0 0)) (.tmp 60) 22 28 (.agg #[(.int .i64 0), (.int .i64 0), (.slice none 0 0)]) 40 rfl Try.underlying22 info28 rfl (by decide) (by omega) (.slice none 0 0) ([] : List (S28)) y618 _ _ _ (fun k_ => some k_ ≠ (.slice Ao32 t602.length co32 : Value).ownBlock ∧ some k_ ≠ (v606 : Value).ownBlock) (fun k_ => ((fun k_ => some k_ ≠ (.slice Ao32 t602.length co32 : Value).ownBlock ∧ some k_ ≠ (v606 : Value).ownBlock)) k_ ∧ some k_ ≠ (.slice none 0 0 : Value).ownBlock) rfl rfl ?aO ?aR (fun _ hk => hk) ?aF ?aB ?aS ?aL ?_; (case aR => exact (by skip; exact Kd.V_F (Kd.V_mono (ok' := (fun k_ => ((fun k_ => some k_ ≠ (.slice Ao32 t602.length co32 : Value).ownBlock ∧ some k_ ≠ (v606 : Value).ownBlock)) k_ ∧ some k_ ≠ (.slice none 0 0 : Value).ownBlock)) (HO622.out) (fun k_ hk => ⟨⟨hk.1, hk.2⟩, (by simp [Value.ownBlock])⟩)))); (case aB => exact hb_); (case aF => exact (fun k_ hk => ⟨Kd.fresh' (Kd.N_lt (by (with_reducible repeat (first | apply Kd.N_alloc | apply Kd.N_drewN | apply Kd.N_drew)); exact HO605.out)) k_ hk, Kd.fresh' (Kd.R_lt (by (with_reducible repeat (first | apply Kd.R_alloc | apply Kd.R_drewN | apply Kd.R_drew)); exact HO607.out)) k_ hk⟩)); (case aO => exact ((Kd.N_nil _ _ _ _ (fun k_ => some k_ ≠ (.slice Ao32 t602.length co32 : Value).ownBlock ∧ some k_ ≠ (v606 : Value).ownBlock)))); (case aS => exact (below_size hb_)); (case aL => have := LMc29.out; omega); intro v624 w37 ho hb hg hat; rw [← Ny623.out] at ho; have n0_ := Aside0.mk (Kd.N_afterv (Kd.N_apart_nil (by (with_reducible repeat (first | apply Kd.N_alloc | apply Kd.N_drewN | apply Kd.N_drew)); exact HO605.out)) hg hat); have n1_ := Aside0.mk (Kd.R_grown (by (with_reducible repeat (first | apply Kd.R_alloc | apply Kd.R_drewN | apply Kd.R_drew)); exact HO607.out) hg (fun _ _ => by simp [Value.ownBlock])); have n2_ := Aside0.mk (Kd.N_afterv (Kd.N_apart_nil (by (with_reducible repeat (first | apply Kd.N_alloc | apply Kd.N_drewN | apply Kd.N_drew)); exact HO612.out)) hg hat); have n3_ := Aside0.mk (Kd.V_afterv (Kd.V_apart_nil (by (with_reducible repeat (first | apply Kd.V_alloc | apply Kd.V_drewN | apply Kd.V_drew)); exact HL615_2.out)) hg hat); have n4_ := Aside0.mk (Kd.V_afterv (Kd.V_apart_nil (by (with_reducible repeat (first | apply Kd.V_alloc | apply Kd.V_drewN | apply Kd.V_drew)); exact HO622.out)) hg hat); have n5_ := Aside0.mk (hb); have n6_ := Aside0.mk (ho); clear HO605; clear HO607; clear HO612; clear HL615_2; clear HO622; clear HB; have HO605 := n0_; have HO607 := n1_; have HO612 := n2_; have HL615_2 := n3_; have HO622 := n4_; have HB := n5_; have HO625 := n6_; clear n0_ n1_ n2_ n3_ n4_ n5_ n6_; clear ho hb hg hat))
       go_loopg [15, 16] k (fun kq v15 v16 w' => ∃ (x15_1 : List (S28)) (x16_1 : Int), v16 = .int .i64 x16_1 ∧ Aside0 (collatorlaw06_HunksFewer.l0 kq t601 t602 t603 t609 t614 t616 t617 x15_1 x16_1 = some r) ∧ Aside0 (kq ≤ k) ∧ Aside0 (Kd.N k31 31 w' w.heap.size (fun k_ => some k_ ≠ (v606 : Value).ownBlock ∧ some k_ ≠ ((.slice (some ad615) t609.length co34) : Value).ownBlock ∧ some k_ ≠ (v15 : Value).ownBlock) (.slice Ao32 t602.length co32) t602) ∧ Aside0 (Kd.R Kd.string 9 w' w.heap.size (fun _ => True) v606 t603) ∧ Aside0 (Kd.N k28 28 w' w.heap.size (fun k_ => some k_ ≠ ((.slice Ao32 t602.length co32) : Value).ownBlock ∧ some k_ ≠ (v606 : Value).ownBlock ∧ some k_ ≠ (v15 : Value).ownBlock) (.slice (some ad615) t609.length co34) t609) ∧ Aside0 (Kd.N k28 28 w' w.heap.size (fun k_ => some k_ ≠ ((.slice Ao32 t602.length co32) : Value).ownBlock ∧ some k_ ≠ (v606 : Value).ownBlock) v15 x15_1) ∧ Aside0 (Below w.heap.size w w'))
       case atStart => exact ⟨(y623), (wrap64 (t614 + 1)), rf_, H', ⟨Nat.le_refl _⟩, ⟨by (with_reducible repeat (first | apply Kd.N_alloc | apply Kd.N_drewN | apply Kd.N_drew)); exact Kd.N_mono HO605.out (fun _ hk => ⟨hk.1.1, ⟨hk.1.2, hk.2⟩⟩)⟩, ⟨by (with_reducible repeat (first | apply Kd.R_alloc | apply Kd.R_drewN | apply Kd.R_drew)); exact HO607.out⟩, ⟨by (with_reducible repeat (first | apply Kd.N_alloc | apply Kd.N_drewN | apply Kd.N_drew)); exact Kd.N_mono HO612.out (fun _ hk => ⟨hk.1.1, ⟨hk.1.2, hk.2⟩⟩)⟩, ⟨by (with_reducible repeat (first | apply Kd.N_alloc | apply Kd.N_drewN | apply Kd.N_drew)); exact HO625.out⟩, ⟨by repeat (first | (with_reducible first | exact HB.out | apply below_alloc | apply pw_below_drewN | apply below_drew1) | exact HB.out)⟩⟩
       case round =>
        clear H'
        (try clear c1);(try clear c2);(try clear p2);(try clear q3);(try clear c6);(try clear p6);(try clear q6);(try clear hx6);(try clear c7);(try clear c8);(try clear c8b0);(try clear c8b1);(try clear c9);(try clear c9b0);(try clear c9b1);(try clear c9b2);(try clear c10);(try clear c11);(try clear c12);(try clear c24);(try clear c24b0);(try clear c25);(try clear c25b0);(try clear c26);(try clear c27);(try clear c27b0);(try clear c28);(try clear c28b0);(try clear c28b1);(try clear c29);(try clear q36);(try clear hx615_0);(try clear hx615_1);(try clear hx615_2);(try clear p615);(try clear q36);(try clear q615)
        obtain ⟨x15_1, x16_1, rfl, HA, HK1, HO_8, HO_9, HO_10, HO_15, HB⟩ := hrel
        cases gk with
        | zero => exact absurd HA.out (by simp [collatorlaw06_HunksFewer.l0])
        | succ k1 =>
         have H := HA.out
         clear HA
         simp only [collatorlaw06_HunksFewer.l0] at H
         by_cases c38 : x16_1 < (t609.length : Int)
         ·rw [if_pos c38] at H
          have c38b0 : decide (x16_1 < (t609.length : Int)) = true := decide_eq_true c38
          clear c38
          by_cases c39 : 0 ≤ x16_1
          ·rw [if_pos c39] at H
           have c39b0 : decide (0 ≤ x16_1) = true := decide_eq_true c39
           clear c39
           by_cases c40 : x15_1.length < 3518437208883
           ·rw [if_pos c40] at H
            have LMc40 := Aside0.mk c40
            clear c40
            obtain ⟨y629, hy629⟩ : ∃ y_ : List (S28), y_ = (x15_1 ++ [(⟨(rd_T28 t609 x16_1).f0, wrap64 ((wrap64 (((rd_T28 t609 x16_1).f1) - t617)) + t616), (rd_T28 t609 x16_1).f2⟩ : S28)]) := ⟨_, rfl⟩
            replace H : (collatorlaw06_HunksFewer.l0 k1 t601 t602 t603 t609 t614 t616 t617 y629 (wrap64 (x16_1 + 1))) = some r := by first | (rw [hy629]; with_reducible exact H) | (have H2_ := (Option.bind_some _ _).symm.trans H; rw [hy629]; with_reducible exact H2_) | (have H2_ := (Option.bind_some _ _).symm.trans H; with_reducible exact H2_) | with_reducible exact H | (rw [hy629]; exact H) | exact H
            have Ny629 := Aside0.mk hy629
            clear hy629
            have H' := Aside0.mk H
            clear H
            try go_wp2
            have n0_ := Aside0.mk (Kd.N_drew HO_8.out)
            have n1_ := Aside0.mk (Kd.R_drew HO_9.out)
            have n2_ := Aside0.mk (Kd.N_drew HO_10.out)
            have n3_ := Aside0.mk (Kd.N_drew HO_15.out)
            have n4_ := Aside0.mk (below_drew1 HB.out)
            clear HO_8
            clear HO_9
            clear HO_10
            clear HO_15
            clear HB
            have HO_8 := n0_
            have HO_9 := n1_
            have HO_10 := n2_
            have HO_15 := n3_
            have HB := n4_
            clear n0_ n1_ n2_ n3_ n4_
            have p626 : 0 ≤ (x16_1 : Int) := of_decide_eq_true as_
            have q626 : x16_1 < (t609.length : Int) := of_decide_eq_true as_
            obtain ⟨ad626, A626_2, c626_2, e626, hx626_0, hx626_1, hx626_2, hl626_2, hi626_2⟩ := at_T28 (Kd.N_reads' HO_10.out).2.2 x16_1 p626 q626
            obtain rfl : ad615 = ad626 := (by injection e626)
            obtain ⟨ce626, hce626, hMe626, hcc626⟩ := Kd.N_get HO_10.out z28 x16_1 p626 (by first | exact q626 | exact of_decide_eq_true as_ | (have e_ := (Kd.N_reads' HO_10.out).1; omega))
            obtain ⟨ua626_2, uc626_2, rfl, ul626_2, ge626_2⟩ := k28_openF hMe626
            have hv626_2 := hcc626 2 _ rfl
            rw [add_field _ _ 2 (by omega)] at hv626_2
            replace hv626_2 := Option.some.inj (hv626_2.symm.trans hx626_2)
            injection hv626_2 with hva_ hvn_ hvc_
            rw [hva_] at ge626_2
            rw [hvc_] at ul626_2
            have HL626_2 := Aside0.mk (show Kd.V k31 31 _ w.heap.size _ _ ((rd_T28 t609 x16_1).f2) from Kd.V_mk ul626_2 ge626_2)
            clear hva_ hvn_ hvc_ ge626_2 ul626_2
            clear hcc626 hce626
            have HR626_2 := Aside0.mk hi626_2
            have HC626_2 := Aside0.mk hl626_2
            clear hi626_2 hl626_2
            replace p626 := eq_true p626
            replace q626 := eq_true q626
            have p627 : 0 ≤ (x16_1 : Int) := of_decide_eq_true as_
            have q627 : x16_1 < (t609.length : Int) := of_decide_eq_true as_
            obtain ⟨ad627, A627_2, c627_2, e627, hx627_0, hx627_1, hx627_2, hl627_2, hi627_2⟩ := at_T28 (Kd.N_reads' HO_10.out).2.2 x16_1 p627 q627
            obtain rfl : ad615 = ad627 := (by injection e627)
            obtain ⟨ce627, hce627, hMe627, hcc627⟩ := Kd.N_get HO_10.out z28 x16_1 p627 (by first | exact q627 | exact of_decide_eq_true as_ | (have e_ := (Kd.N_reads' HO_10.out).1; omega))
            obtain ⟨ua627_2, uc627_2, rfl, ul627_2, ge627_2⟩ := k28_openF hMe627
            have hv627_2 := hcc627 2 _ rfl
            rw [add_field _ _ 2 (by omega)] at hv627_2
            replace hv627_2 := Option.some.inj (hv627_2.symm.trans hx627_2)
            injection hv627_2 with hva_ hvn_ hvc_
            rw [hva_] at ge627_2
            rw [hvc_] at ul627_2
            have HL627_2 := Aside0.mk (show Kd.V k31 31 _ w.heap.size _ _ ((rd_T28 t609 x16_1).f2) from Kd.V_mk ul627_2 ge627_2)
            clear hva_ hvn_ hvc_ ge627_2 ul627_2
            clear hcc627 hce627
            have HR627_2 := Aside0.mk hi627_2
            have HC627_2 := Aside0.mk hl627_2
            clear hi627_2 hl627_2
            replace p627 := eq_true p627
            replace q627 := eq_true q627
            have ea_ := Option.some.inj (hx626_2.symm.trans hx627_2)
            injection ea_ with ea_ en_ ec_
            subst ea_
            subst ec_
            clear en_
            have p628 : 0 ≤ (x16_1 : Int) := of_decide_eq_true as_
            have q628 : x16_1 < (t609.length : Int) := of_decide_eq_true as_
            obtain ⟨ad628, A628_2, c628_2, e628, hx628_0, hx628_1, hx628_2, hl628_2, hi628_2⟩ := at_T28 (Kd.N_reads' HO_10.out).2.2 x16_1 p628 q628
            obtain rfl : ad615 = ad628 := (by injection e628)
            obtain ⟨ce628, hce628, hMe628, hcc628⟩ := Kd.N_get HO_10.out z28 x16_1 p628 (by first | exact q628 | exact of_decide_eq_true as_ | (have e_ := (Kd.N_reads' HO_10.out).1; omega))
            obtain ⟨ua628_2, uc628_2, rfl, ul628_2, ge628_2⟩ := k28_openF hMe628
            have hv628_2 := hcc628 2 _ rfl
            rw [add_field _ _ 2 (by omega)] at hv628_2
            replace hv628_2 := Option.some.inj (hv628_2.symm.trans hx628_2)
            injection hv628_2 with hva_ hvn_ hvc_
            rw [hva_] at ge628_2
            rw [hvc_] at ul628_2
            have HL628_2 := Aside0.mk (show Kd.V k31 31 _ w.heap.size _ _ ((rd_T28 t609 x16_1).f2) from Kd.V_mk ul628_2 ge628_2)
            clear hva_ hvn_ hvc_ ge628_2 ul628_2
            clear hcc628 hce628
            have HR628_2 := Aside0.mk hi628_2
            have HC628_2 := Aside0.mk hl628_2
            clear hi628_2 hl628_2
            replace p628 := eq_true p628
            replace q628 := eq_true q628
            have ea_ := Option.some.inj (hx626_2.symm.trans hx628_2)
            injection ea_ with ea_ en_ ec_
            subst ea_
            subst ec_
            clear en_
            refine start_ (n := 24) (S := fun w' => w'.cell? (ad615.add ((x16_1).toNat * 3)) = some (.int .i64 ((rd_T28 t609 x16_1).f0)) ∧ w'.cell? ⟨(ad615.add ((x16_1).toNat * 3)).block, (ad615.add ((x16_1).toNat * 3)).off + 1, none⟩ = some (.int .i64 ((rd_T28 t609 x16_1).f1)) ∧ w'.cell? ⟨(ad615.add ((x16_1).toNat * 3)).block, (ad615.add ((x16_1).toNat * 3)).off + 2, none⟩ = some (.slice A626_2 ((rd_T28 t609 x16_1).f2).length c626_2) ∧ w'.cell? (ad615.add ((x16_1).toNat * 3)) = some (.int .i64 ((rd_T28 t609 x16_1).f0)) ∧ w'.cell? ⟨(ad615.add ((x16_1).toNat * 3)).block, (ad615.add ((x16_1).toNat * 3)).off + 1, none⟩ = some (.int .i64 ((rd_T28 t609 x16_1).f1)) ∧ w'.cell? ⟨(ad615.add ((x16_1).toNat * 3)).block, (ad615.add ((x16_1).toNat * 3)).off + 2, none⟩ = some (.slice A626_2 ((rd_T28 t609 x16_1).f2).length c626_2) ∧ w'.cell? (ad615.add ((x16_1).toNat * 3)) = some (.int .i64 ((rd_T28 t609 x16_1).f0)) ∧ w'.cell? ⟨(ad615.add ((x16_1).toNat * 3)).block, (ad615.add ((x16_1).toNat * 3)).off + 1, none⟩ = some (.int .i64 ((rd_T28 t609 x16_1).f1)) ∧ w'.cell? ⟨(ad615.add ((x16_1).toNat * 3)).block, (ad615.add ((x16_1).toNat * 3)).off + 2, none⟩ = some (.slice A626_2 ((rd_T28 t609 x16_1).f2).length c626_2)) (ds := [21, 22]) #[false, false, false, false, false, false, false, false, false, false, false, false, false, false, false, false, false, false, false, false, false, false, false, false] (by kernel_rfl) rfl rfl ⟨hx626_0, hx626_1, hx626_2, hx627_0, hx627_1, hx627_2, hx628_0, hx628_1, hx628_2⟩ (fun hHeld => ?_); refine with_tabW collatorlaw06_HunksFewer.tab14 collatorlaw06_HunksFewer.bits14 (fun HT_ HW_ => ?_)
            generalize wr.drew = w41 at HO_8 HO_9 HO_10 HO_15 HB HL626_2 HL627_2 HL628_2 HR626_2 HR627_2 HR628_2 hx626_0 hx626_1 hx626_2 hx627_0 hx627_1 hx627_2 hx628_0 hx628_1 hx628_2 hHeld ⊢
            refine pu_ (i := 0) (N := some 70) (any_of HT_.out (by kernel_rfl)) ?_
            refine pu_ (i := 1) (N := some 71) (any_of HT_.out (by kernel_rfl)) ?_
            refine pu_ (i := 2) (N := some 72) (any_of HT_.out (by kernel_rfl)) ?_
            refine pu_ (i := 3) (N := some 73) (any_of HT_.out (by kernel_rfl)) ?_
            refine pu_ (i := 4) (N := some 74) (any_of HT_.out (by kernel_rfl)) ?_
            refine pu_ (i := 6) (N := some 76) (any_of HT_.out (by kernel_rfl)) ?_
            refine pu_ (i := 7) (N := some 77) (any_of HT_.out (by kernel_rfl)) ?_
            refine pu_ (i := 8) (N := some 78) (any_of HT_.out (by kernel_rfl)) ?_
            refine pu_ (i := 9) (N := some 79) (any_of HT_.out (by kernel_rfl)) ?_
            refine pu_ (i := 11) (N := some 81) (any_of HT_.out (by kernel_rfl)) ?_
            refine pu_ (i := 13) (N := some 83) (any_of HT_.out (by kernel_rfl)) ?_
            refine pu_ (i := 15) (N := some 85) (any_of HT_.out (by kernel_rfl)) ?_
            refine pu_ (i := 16) (N := some 86) (any_of HT_.out (by kernel_rfl)) ?_
            refine pu_ (i := 17) (N := some 87) (any_of HT_.out (by kernel_rfl)) ?_
            refine pu_ (i := 18) (N := some 88) (any_of HT_.out (by kernel_rfl)) ?_
            refine ta_ (i := 5) (N := some 75) (take_ofW HT_.out HW_.out (by kernel_rfl)) hHeld ?_
            refine ta_ (i := 10) (N := some 80) (take_ofW HT_.out HW_.out (by kernel_rfl)) hHeld ?_
            refine pu_ (i := 12) (N := some 82) (any_of HT_.out (by kernel_rfl)) ?_
            refine pu_ (i := 14) (N := some 84) (any_of HT_.out (by kernel_rfl)) ?_
            refine ta_ (i := 19) (N := some 89) (take_ofW HT_.out HW_.out (by kernel_rfl)) hHeld ?_
            refine pu_ (i := 20) (N := some 90) (any_of HT_.out (by kernel_rfl)) ?_
            refine last_ (i := 21) (N := some 91) #[true, true, true, true, true, true, true, true, true, true, true, true, true, true, true, true, true, true, true, true, true, true, false, false] rfl rfl (one_of HT_.out (by kernel_rfl)) (by decide) (fun K hK => ?_)
            refine value_ (w1 := ?_) (v := ?_) (by rfl) rfl ?_ ?_
            rotate_left 2
            ·go_simp
             constructor
             ·rfl
             ·rfl
            refine hK.out _ _ ?_
            clear hK K
            refine norm_ (a' := ?_) ?_ ?_
            rotate_left
            ·show Act.put _ (some 91) _ = _
             simp only [Act.put, List.setIfInBounds_toArray, List.set_cons_zero, List.set_cons_succ, i64_w, i32_w]
             rfl
            refine last_ (i := 22) (N := some 92) #[true, true, true, true, true, true, true, true, true, true, true, true, true, true, true, true, true, true, true, true, true, true, true, false] rfl rfl (one_of HT_.out (by kernel_rfl)) (by decide) (fun K hK => ?_)
            refine Kd.N_append_step k28 (w0 := w) w.heap.size (by rfl) (.tmp 70) (.tmp 91) 22 28 (.agg #[(.int .i64 0), (.int .i64 0), (.slice none 0 0)]) 40 rfl Try.underlying22 info28 rfl (by decide) (by omega) u15 x15_1 (⟨(rd_T28 t609 x16_1).f0, wrap64 ((wrap64 (((rd_T28 t609 x16_1).f1) - t617)) + t616), (rd_T28 t609 x16_1).f2⟩ : S28) [.int .i64 ((rd_T28 t609 x16_1).f0), .int .i64 (wrap64 ((wrap64 (((rd_T28 t609 x16_1).f1) - t617)) + t616)), .slice A626_2 ((rd_T28 t609 x16_1).f2).length c626_2] (fun k_ => some k_ ≠ (.slice Ao32 t602.length co32 : Value).ownBlock ∧ some k_ ≠ (v606 : Value).ownBlock) (fun k_ => ((fun k_ => some k_ ≠ (.slice Ao32 t602.length co32 : Value).ownBlock ∧ some k_ ≠ (v606 : Value).ownBlock)) k_ ∧ some k_ ≠ (u15 : Value).ownBlock) rfl rfl ?aP (fun _ hk => hk) ?aF ?aO ?aB ?aS ?aL ?_
            (case aP => exact (k28_mkF _ _ (⟨(rd_T28 t609 x16_1).f0, wrap64 ((wrap64 (((rd_T28 t609 x16_1).f1) - t617)) + t616), (rd_T28 t609 x16_1).f2⟩ : S28) (Kd.V_reads' (Kd.V_mono (ok' := (fun k_ => ((fun k_ => some k_ ≠ (.slice Ao32 t602.length co32 : Value).ownBlock ∧ some k_ ≠ (v606 : Value).ownBlock)) k_ ∧ some k_ ≠ (u15 : Value).ownBlock)) (HL628_2.out) (fun k_ hk => ⟨⟨hk.1.1, hk.1.2.1⟩, hk.1.2.2⟩))).2.1 (Kd.V_F (Kd.V_mono (ok' := (fun k_ => ((fun k_ => some k_ ≠ (.slice Ao32 t602.length co32 : Value).ownBlock ∧ some k_ ≠ (v606 : Value).ownBlock)) k_ ∧ some k_ ≠ (u15 : Value).ownBlock)) (HL628_2.out) (fun k_ hk => ⟨⟨hk.1.1, hk.1.2.1⟩, hk.1.2.2⟩)))))
            (case aB => exact hb_)
            (case aF => exact (fun k_ hk => ⟨Kd.fresh' (Kd.N_lt (by (with_reducible repeat (first | apply Kd.N_alloc | apply Kd.N_drewN | apply Kd.N_drew)); exact HO_8.out)) k_ hk, Kd.fresh' (Kd.R_lt (by (with_reducible repeat (first | apply Kd.R_alloc | apply Kd.R_drewN | apply Kd.R_drew)); exact HO_9.out)) k_ hk⟩))
            (case aO => exact (by (with_reducible repeat (first | apply Kd.N_alloc | apply Kd.N_drewN | apply Kd.N_drew)); exact HO_15.out))
            (case aS => exact (below_size hb_))
            (case aL => have := LMc40.out; omega)
            intro v630 w42 ho hb hg hat
            rw [← Ny629.out] at ho
            have n0_ := Aside0.mk (Kd.N_afterv (ok := (fun k_ => some k_ ≠ (v606 : Value).ownBlock ∧ some k_ ≠ (.slice (some ad615) t609.length co34 : Value).ownBlock)) (by (with_reducible repeat (first | apply Kd.N_alloc | apply Kd.N_drewN | apply Kd.N_drew)); exact Kd.N_mono HO_8.out (fun _ hk => ⟨⟨hk.1, hk.2.1⟩, hk.2.2⟩)) hg hat)
            have n1_ := Aside0.mk (Kd.R_over' (by (with_reducible repeat (first | apply Kd.R_alloc | apply Kd.R_drewN | apply Kd.R_drew)); exact HO_9.out) (Kd.N_typed (by (with_reducible repeat (first | apply Kd.N_alloc | apply Kd.N_drewN | apply Kd.N_drew)); exact HO_15.out)) (by decide) hg)
            have n2_ := Aside0.mk (Kd.N_afterv (ok := (fun k_ => some k_ ≠ (.slice Ao32 t602.length co32 : Value).ownBlock ∧ some k_ ≠ (v606 : Value).ownBlock)) (by (with_reducible repeat (first | apply Kd.N_alloc | apply Kd.N_drewN | apply Kd.N_drew)); exact Kd.N_mono HO_10.out (fun _ hk => ⟨⟨hk.1, hk.2.1⟩, hk.2.2⟩)) hg hat)
            have n3_ := Aside0.mk (Kd.V_afterv (ok := (fun k_ => some k_ ≠ (.slice Ao32 t602.length co32 : Value).ownBlock ∧ some k_ ≠ (v606 : Value).ownBlock ∧ some k_ ≠ (.slice (some ad615) t609.length co34 : Value).ownBlock)) (by (with_reducible repeat (first | apply Kd.V_alloc | apply Kd.V_drewN | apply Kd.V_drew)); exact Kd.V_mono HL626_2.out (fun _ hk => ⟨⟨hk.1.1, ⟨hk.1.2.1, hk.2⟩⟩, hk.1.2.2⟩)) hg hat)
            have n4_ := Aside0.mk (Kd.V_afterv (ok := (fun k_ => some k_ ≠ (.slice Ao32 t602.length co32 : Value).ownBlock ∧ some k_ ≠ (v606 : Value).ownBlock ∧ some k_ ≠ (.slice (some ad615) t609.length co34 : Value).ownBlock)) (by (with_reducible repeat (first | apply Kd.V_alloc | apply Kd.V_drewN | apply Kd.V_drew)); exact Kd.V_mono HL627_2.out (fun _ hk => ⟨⟨hk.1.1, ⟨hk.1.2.1, hk.2⟩⟩, hk.1.2.2⟩)) hg hat)
            have n5_ := Aside0.mk (Kd.V_afterv (ok := (fun k_ => some k_ ≠ (.slice Ao32 t602.length co32 : Value).ownBlock ∧ some k_ ≠ (v606 : Value).ownBlock ∧ some k_ ≠ (.slice (some ad615) t609.length co34 : Value).ownBlock)) (by (with_reducible repeat (first | apply Kd.V_alloc | apply Kd.V_drewN | apply Kd.V_drew)); exact Kd.V_mono HL628_2.out (fun _ hk => ⟨⟨hk.1.1, ⟨hk.1.2.1, hk.2⟩⟩, hk.1.2.2⟩)) hg hat)
            have n6_ := Aside0.mk (hb)
            have n7_ := Aside0.mk (ho)
            clear HO_8
            clear HO_9
            clear HO_10
            clear HL626_2
            clear HL627_2
            clear HL628_2
            clear HB
            clear HO_15
            have HO_8 := n0_
            have HO_9 := n1_
            have HO_10 := n2_
            have HL626_2 := n3_
            have HL627_2 := n4_
            have HL628_2 := n5_
            have HB := n6_
            have HO631 := n7_
            clear n0_ n1_ n2_ n3_ n4_ n5_ n6_ n7_
            clear ho hb hg hat
            refine hK.out _ _ ?_
            clear hK K
            refine norm_ (a' := ?_) ?_ ?_
            rotate_left
            ·show Act.put _ (some 92) _ = _
             simp only [Act.put, List.setIfInBounds_toArray, List.set_cons_zero, List.set_cons_succ, i64_w, i32_w]
             rfl
            refine pu_ (i := 23) (N := some 15) (any_of HT_.out (by kernel_rfl)) ?_
            refine done_ (done_of HT_.out (by kernel_rfl)) ?_
            try go_wp2
            go_roundg k1
            case measure => have := HK1.out; omega
            case rel => exact ⟨(y629), (wrap64 (x16_1 + 1)), rf_, H', ⟨by have := HK1.out; omega⟩, ⟨by (with_reducible repeat (first | apply Kd.N_alloc | apply Kd.N_drewN | apply Kd.N_drew)); exact Kd.N_mono HO_8.out (fun _ hk => ⟨hk.1.1, ⟨hk.1.2, hk.2⟩⟩)⟩, ⟨by (with_reducible repeat (first | apply Kd.R_alloc | apply Kd.R_drewN | apply Kd.R_drew)); exact HO_9.out⟩, ⟨by (with_reducible repeat (first | apply Kd.N_alloc | apply Kd.N_drewN | apply Kd.N_drew)); exact Kd.N_mono HO_10.out (fun _ hk => ⟨hk.1.1, ⟨hk.1.2, hk.2⟩⟩)⟩, ⟨by (with_reducible repeat (first | apply Kd.N_alloc | apply Kd.N_drewN | apply Kd.N_drew)); exact HO631.out⟩, ⟨by repeat (first | (with_reducible first | exact HB.out | apply below_alloc | apply pw_below_drewN | apply below_drew1) | exact HB.out)⟩⟩
           ·rw [if_neg c40] at H
            exact absurd H (by simp)
          ·rw [if_neg c39] at H
           exact absurd H (by simp)
         ·rw [if_neg c38] at H
          have c38b0 : decide (x16_1 < (t609.length : Int)) = false := decide_eq_false c38
          clear c38
          replace H := Option.bind_eq_some_iff.mp H
          obtain ⟨⟨t632, t633⟩, A430, H⟩ := H
          replace H : ((script_Spans.f k1 t632).bind fun bt636 => (if t601 = true then (if t633 = 0 then ((hunks_Right.f k1 x15_1).bind fun t638 => (if t638 = true then (if bt636.1 = (t603.length : Int) then ((script_Cost.f k1 t632).bind fun t639 => ((script_Cost.f k1 t602).bind fun t640 => (if 0 ≤ t614 then (if t614 < (t609.length : Int) then ((script_Cost.f k1 ((rd_T28 t609 t614).f2)).bind fun t642 => (some (t639 == (wrap64 (t640 - t642))))) else (none)) else (none)))) else (some false)) else (some false))) else (some false)) else (some false))) = some r := H
          have A43 := Aside0.mk A430
          clear A430
          replace H := Option.bind_eq_some_iff.mp H
          obtain ⟨⟨t636, t637⟩, A440, H⟩ := H
          replace H : (if t601 = true then (if t633 = 0 then ((hunks_Right.f k1 x15_1).bind fun t638 => (if t638 = true then (if t636 = (t603.length : Int) then ((script_Cost.f k1 t632).bind fun t639 => ((script_Cost.f k1 t602).bind fun t640 => (if 0 ≤ t614 then (if t614 < (t609.length : Int) then ((script_Cost.f k1 ((rd_T28 t609 t614).f2)).bind fun t642 => (some (t639 == (wrap64 (t640 - t642))))) else (none)) else (none)))) else (some false)) else (some false))) else (some false)) else (some false)) = some r := H
          have A44 := Aside0.mk A440
          clear A440
          by_cases c45 : t601 = true
          ·subst c45
           have H1 : (if t633 = 0 then ((hunks_Right.f k1 x15_1).bind fun t638 => (if t638 = true then (if t636 = (t603.length : Int) then ((script_Cost.f k1 t632).bind fun t639 => ((script_Cost.f k1 t602).bind fun t640 => (if 0 ≤ t614 then (if t614 < (t609.length : Int) then ((script_Cost.f k1 ((rd_T28 t609 t614).f2)).bind fun t642 => (some (t639 == (wrap64 (t640 - t642))))) else (none)) else (none)))) else (some false)) else (some false))) else (some false)) = some r := by rw [if_pos rfl] at H; exact H
           clear H
           have H := H1
           clear H1
           by_cases c46 : t633 = 0
           ·rw [if_pos c46] at H
            have c46b0 : (t633 == 0) = true := beq_iff_eq.mpr c46
            have c46b1 : (t633 != 0) = false := bne_eq_false_iff_eq.mpr c46
            clear c46
            replace H := Option.bind_eq_some_iff.mp H
            obtain ⟨t638, A470, H⟩ := H
            replace H : (if t638 = true then (if t636 = (t603.length : Int) then ((script_Cost.f k1 t632).bind fun t639 => ((script_Cost.f k1 t602).bind fun t640 => (if 0 ≤ t614 then (if t614 < (t609.length : Int) then ((script_Cost.f k1 ((rd_T28 t609 t614).f2)).bind fun t642 => (some (t639 == (wrap64 (t640 - t642))))) else (none)) else (none)))) else (some false)) else (some false)) = some r := H
            have A47 := Aside0.mk A470
            clear A470
            by_cases c48 : t638 = true
            ·subst c48
             have H1 : (if t636 = (t603.length : Int) then ((script_Cost.f k1 t632).bind fun t639 => ((script_Cost.f k1 t602).bind fun t640 => (if 0 ≤ t614 then (if t614 < (t609.length : Int) then ((script_Cost.f k1 ((rd_T28 t609 t614).f2)).bind fun t642 => (some (t639 == (wrap64 (t640 - t642))))) else (none)) else (none)))) else (some false)) = some r := by rw [if_pos rfl] at H; exact H
             clear H
             have H := H1
             clear H1
             by_cases c49 : t636 = (t603.length : Int)
             ·rw [if_pos c49] at H
              have c49b0 : (t636 == (t603.length : Int)) = true := beq_iff_eq.mpr c49
              have c49b1 : (t636 != (t603.length : Int)) = false := bne_eq_false_iff_eq.mpr c49
              clear c49
              replace H := Option.bind_eq_some_iff.mp H
              obtain ⟨t639, A500, H⟩ := H
              replace H : ((script_Cost.f k1 t602).bind fun t640 => (if 0 ≤ t614 then (if t614 < (t609.length : Int) then ((script_Cost.f k1 ((rd_T28 t609 t614).f2)).bind fun t642 => (some (t639 == (wrap64 (t640 - t642))))) else (none)) else (none))) = some r := H
              have A50 := Aside0.mk A500
              clear A500
              replace H := Option.bind_eq_some_iff.mp H
              obtain ⟨t640, A510, H⟩ := H
              replace H : (if 0 ≤ t614 then (if t614 < (t609.length : Int) then ((script_Cost.f k1 ((rd_T28 t609 t614).f2)).bind fun t642 => (some (t639 == (wrap64 (t640 - t642))))) else (none)) else (none)) = some r := H
              have A51 := Aside0.mk A510
              clear A510
              by_cases c52 : 0 ≤ t614
              ·rw [if_pos c52] at H
               have c52b0 : decide (0 ≤ t614) = true := decide_eq_true c52
               clear c52
               by_cases c53 : t614 < (t609.length : Int)
               ·rw [if_pos c53] at H
                have c53b0 : decide (t614 < (t609.length : Int)) = true := decide_eq_true c53
                clear c53
                replace H := Option.bind_eq_some_iff.mp H
                obtain ⟨t642, A540, H⟩ := H
                replace H : (some (t639 == (wrap64 (t640 - t642)))) = some r := H
                have A54 := Aside0.mk A540
                clear A540
                obtain rfl := Option.some.inj H
                obtain ⟨Ao55, co55, eo55⟩ := Kd.R_slice HO_9.out
                subst eo55
                obtain ⟨Ao56, co56, eo56⟩ := Kd.N_slice HO_15.out
                subst eo56
                try go_wp2_with (first | ((with_reducible refine gate_callee (f := 18) rfl ?_); refine goesL_ (some 97) rfl rfl Try.func18 (by kernel_rfl) rfl #[.slice Ao56 x15_1.length co56, .int .i64 (t603.length : Int)] rfl mp_ ?_; (with_reducible refine (hunks_Script.calls k1 _ _ x15_1 (t603.length : Int) t632 t633 _ ?side1 ?side2 A43.out).mono ?_); (case side1 => repeat (first | exact (Kd.N_reads' HO_15.out).2.2 | (with_reducible refine Kd.C_alloc ?_ _) | (with_reducible refine Kd.C_drewN ?_ _) | (with_reducible refine Kd.C_drew ?_))); (case side2 => exact (Kd.N_reads' HO_15.out).2.1); rintro e w57 ⟨v634, rfl, ho0, hb⟩; refine ⟨_, rfl, ?_⟩; have n0_ := Aside0.mk (Kd.N_elder' (by (with_reducible repeat (first | apply Kd.N_alloc | apply Kd.N_drewN | apply Kd.N_drew)); exact HO_8.out) (by first | exact Kd.N_base ho0 | exact Kd.S_base ho0 | exact Kd.N_base (Kd.R_N ho0)) hb); have n1_ := Aside0.mk (Kd.R_below (by (with_reducible repeat (first | apply Kd.R_alloc | apply Kd.R_drewN | apply Kd.R_drew)); exact HO_9.out) hb); have n2_ := Aside0.mk (Kd.N_elder' (by (with_reducible repeat (first | apply Kd.N_alloc | apply Kd.N_drewN | apply Kd.N_drew)); exact HO_10.out) (by first | exact Kd.N_base ho0 | exact Kd.S_base ho0 | exact Kd.N_base (Kd.R_N ho0)) hb); have n3_ := Aside0.mk (Kd.N_elder' (by (with_reducible repeat (first | apply Kd.N_alloc | apply Kd.N_drewN | apply Kd.N_drew)); exact HO_15.out) (by first | exact Kd.N_base ho0 | exact Kd.S_base ho0 | exact Kd.N_base (Kd.R_N ho0)) hb); have n4_ := Aside0.mk (Kd.N_lower (Kd.N_mono (ok' := fun k_ => some k_ ≠ (.slice Ao32 t602.length co32 : Value).ownBlock ∧ some k_ ≠ (.slice Ao55 t603.length co55 : Value).ownBlock ∧ some k_ ≠ (.slice (some ad615) t609.length co34 : Value).ownBlock ∧ some k_ ≠ (.slice Ao56 x15_1.length co56 : Value).ownBlock) (Kd.S_N (Kd.S_bound ho0)) (fun k_ hk_ => ⟨(Kd.fresh' (Kd.N_lt (by (with_reducible repeat (first | apply Kd.N_alloc | apply Kd.N_drewN | apply Kd.N_drew)); exact HO_8.out)) k_ hk_.2.1), (Kd.fresh' (Kd.R_lt (by (with_reducible repeat (first | apply Kd.R_alloc | apply Kd.R_drewN | apply Kd.R_drew)); exact HO_9.out)) k_ hk_.2.1), (Kd.fresh' (Kd.N_lt (by (with_reducible repeat (first | apply Kd.N_alloc | apply Kd.N_drewN | apply Kd.N_drew)); exact HO_10.out)) k_ hk_.2.1), (Kd.fresh' (Kd.N_lt (by (with_reducible repeat (first | apply Kd.N_alloc | apply Kd.N_drewN | apply Kd.N_drew)); exact HO_15.out)) k_ hk_.2.1)⟩)) (below_size hb_)); have n5_ := Aside0.mk (below_step hb_ hb); clear HO_8; clear HO_9; clear HO_10; clear HO_15; clear HB; have HO_8 := n0_; have HO_9 := n1_; have HO_10 := n2_; have HO_15 := n3_; have HO635 := n4_; have HB := n5_; clear n0_ n1_ n2_ n3_ n4_ n5_; (try clear hb); (try clear hb2); (try clear hk); (try clear hi); (try clear ho0); (try (obtain ⟨Ao58, co58, eo58⟩ := Kd.N_slice HO635.out; subst eo58))) | ((with_reducible refine gate_callee (f := 26) rfl ?_); refine goesL_ (some 102) rfl rfl Try.func26 (by kernel_rfl) rfl #[.slice Ao58 t632.length co58] rfl mp_ ?_; (with_reducible refine (script_Spans.calls k1 _ _ t632 t636 t637 _ ?side1 ?side2 A44.out).mono ?_); (case side1 => repeat (first | exact (Kd.N_reads' HO635.out).2.2 | (with_reducible refine Kd.C_alloc ?_ _) | (with_reducible refine Kd.C_drewN ?_ _) | (with_reducible refine Kd.C_drew ?_))); (case side2 => exact (Kd.N_reads' HO635.out).2.1); rintro e w59 ⟨rfl, hb⟩; refine ⟨_, rfl, ?_⟩; have n0_ := Aside0.mk (Kd.N_below (by (with_reducible repeat (first | apply Kd.N_alloc | apply Kd.N_drewN | apply Kd.N_drew)); exact HO_8.out) hb); have n1_ := Aside0.mk (Kd.R_below (by (with_reducible repeat (first | apply Kd.R_alloc | apply Kd.R_drewN | apply Kd.R_drew)); exact HO_9.out) hb); have n2_ := Aside0.mk (Kd.N_below (by (with_reducible repeat (first | apply Kd.N_alloc | apply Kd.N_drewN | apply Kd.N_drew)); exact HO_10.out) hb); have n3_ := Aside0.mk (Kd.N_below (by (with_reducible repeat (first | apply Kd.N_alloc | apply Kd.N_drewN | apply Kd.N_drew)); exact HO_15.out) hb); have n4_ := Aside0.mk (Kd.N_below (by (with_reducible repeat (first | apply Kd.N_alloc | apply Kd.N_drewN | apply Kd.N_drew)); exact HO635.out) hb); have n5_ := Aside0.mk (below_step hb_ hb); clear HO_8; clear HO_9; clear HO_10; clear HO_15; clear HO635; clear HB; have HO_8 := n0_; have HO_9 := n1_; have HO_10 := n2_; have HO_15 := n3_; have HO635 := n4_; have HB := n5_; clear n0_ n1_ n2_ n3_ n4_ n5_; (try clear hb); (try clear hb2); (try clear hk); (try clear hi)))
                have n0_ := Aside0.mk (Kd.N_drew HO_8.out)
                have n1_ := Aside0.mk (Kd.R_drew HO_9.out)
                have n2_ := Aside0.mk (Kd.N_drew HO_10.out)
                have n3_ := Aside0.mk (Kd.N_drew HO_15.out)
                have n4_ := Aside0.mk (Kd.N_drew HO635.out)
                have n5_ := Aside0.mk (below_drew1 HB.out)
                clear HO_8
                clear HO_9
                clear HO_10
                clear HO_15
                clear HO635
                clear HB
                have HO_8 := n0_
                have HO_9 := n1_
                have HO_10 := n2_
                have HO_15 := n3_
                have HO635 := n4_
                have HB := n5_
                clear n0_ n1_ n2_ n3_ n4_ n5_
                have p641 : 0 ≤ (t614 : Int) := of_decide_eq_true as_
                have q641 : t614 < (t609.length : Int) := of_decide_eq_true as_
                obtain ⟨ad641, A641_2, c641_2, e641, hx641_0, hx641_1, hx641_2, hl641_2, hi641_2⟩ := at_T28 (Kd.N_reads' HO_10.out).2.2 t614 p641 q641
                obtain rfl : ad615 = ad641 := (by injection e641)
                obtain ⟨ce641, hce641, hMe641, hcc641⟩ := Kd.N_get HO_10.out z28 t614 p641 (by first | exact q641 | exact of_decide_eq_true as_ | (have e_ := (Kd.N_reads' HO_10.out).1; omega))
                obtain ⟨ua641_2, uc641_2, rfl, ul641_2, ge641_2⟩ := k28_openF hMe641
                have hv641_2 := hcc641 2 _ rfl
                rw [add_field _ _ 2 (by omega)] at hv641_2
                replace hv641_2 := Option.some.inj (hv641_2.symm.trans hx641_2)
                injection hv641_2 with hva_ hvn_ hvc_
                rw [hva_] at ge641_2
                rw [hvc_] at ul641_2
                have HL641_2 := Aside0.mk (show Kd.V k31 31 _ w.heap.size _ _ ((rd_T28 t609 t614).f2) from Kd.V_mk ul641_2 ge641_2)
                clear hva_ hvn_ hvc_ ge641_2 ul641_2
                clear hcc641 hce641
                have HR641_2 := Aside0.mk hi641_2
                have HC641_2 := Aside0.mk hl641_2
                clear hi641_2 hl641_2
                replace p641 := eq_true p641
                replace q641 := eq_true q641
                refine start_ (n := 30) (S := fun w' => w'.cell? (ad615.add ((t614).toNat * 3)) = some (.int .i64 ((rd_T28 t609 t614).f0)) ∧ w'.cell? ⟨(ad615.add ((t614).toNat * 3)).block, (ad615.add ((t614).toNat * 3)).off + 1, none⟩ = some (.int .i64 ((rd_T28 t609 t614).f1)) ∧ w'.cell? ⟨(ad615.add ((t614).toNat * 3)).block, (ad615.add ((t614).toNat * 3)).off + 2, none⟩ = some (.slice A641_2 ((rd_T28 t609 t614).f2).length c641_2)) (ds := []) #[false, false, false, false, false, false, false, false, false, false, false, false, false, false, false, false, false, false, false, false, false, false, false, false, false, false, false, false, false, false] (by kernel_rfl) rfl rfl ⟨hx641_0, hx641_1, hx641_2⟩ (fun hHeld => ?_); refine with_tabW collatorlaw06_HunksFewer.tab17 collatorlaw06_HunksFewer.bits17 (fun HT_ HW_ => ?_)
                generalize w59.drew = w60 at HO_8 HO_9 HO_10 HO_15 HO635 HB HL641_2 HR641_2 hx641_0 hx641_1 hx641_2 hHeld ⊢
                refine pu_ (i := 0) (N := some 105) (any_of HT_.out (by kernel_rfl)) ?_
                refine pu_ (i := 1) (N := some 106) (any_of HT_.out (by kernel_rfl)) ?_
                refine pu_ (i := 2) (N := some 107) (any_of HT_.out (by kernel_rfl)) ?_
                refine pu_ (i := 3) (N := some 108) (any_of HT_.out (by kernel_rfl)) ?_
                refine pu_ (i := 4) (N := some 109) (any_of HT_.out (by kernel_rfl)) ?_
                refine pu_ (i := 5) (N := some 110) (any_of HT_.out (by kernel_rfl)) ?_
                refine pu_ (i := 6) (N := some 111) (any_of HT_.out (by kernel_rfl)) ?_
                refine one_ (i := 7) (N := some 112) #[true, true, true, true, true, true, true, true, false, false, false, false, false, false, false, false, false, false, false, false, false, false, false, false, false, false, false, false, false, false] rfl rfl (one_of HT_.out (by kernel_rfl)) (by decide) (fun K hK => ?_)
                refine goes_ Try.func16 (by kernel_rfl) rfl #[.slice Ao56 x15_1.length co56] (by rfl) rfl rfl mp_ ?_
                with_reducible refine (hunks_Right.calls k1 _ _ x15_1 true _ ?side1 ?side2 A47.out).mono ?_
                (case side1 => repeat (first | exact (Kd.N_reads' HO_15.out).2.2 | (with_reducible refine Kd.C_alloc ?_ _) | (with_reducible refine Kd.C_drewN ?_ _) | (with_reducible refine Kd.C_drew ?_)))
                (case side2 => exact (Kd.N_reads' HO_15.out).2.1)
                rintro e w61 ⟨rfl, hb⟩
                have HS0_ := (hb.cell (World.block_lt_of_cell? _ _ (hHeld.1))).trans (hHeld.1)
                have HS1_ := (hb.cell (World.block_lt_of_cell? _ _ (hHeld.2.1))).trans (hHeld.2.1)
                have HS2_ := (hb.cell (World.block_lt_of_cell? _ _ (hHeld.2.2))).trans (hHeld.2.2)
                refine ⟨_, rfl, ?_⟩
                have n0_ := Aside0.mk (Kd.N_below (by (with_reducible repeat (first | apply Kd.N_alloc | apply Kd.N_drewN | apply Kd.N_drew)); exact HO_8.out) hb)
                have n1_ := Aside0.mk (Kd.R_below (by (with_reducible repeat (first | apply Kd.R_alloc | apply Kd.R_drewN | apply Kd.R_drew)); exact HO_9.out) hb)
                have n2_ := Aside0.mk (Kd.N_below (by (with_reducible repeat (first | apply Kd.N_alloc | apply Kd.N_drewN | apply Kd.N_drew)); exact HO_10.out) hb)
                have n3_ := Aside0.mk (Kd.N_below (by (with_reducible repeat (first | apply Kd.N_alloc | apply Kd.N_drewN | apply Kd.N_drew)); exact HO_15.out) hb)
                have n4_ := Aside0.mk (Kd.N_below (by (with_reducible repeat (first | apply Kd.N_alloc | apply Kd.N_drewN | apply Kd.N_drew)); exact HO635.out) hb)
                have m0_ := Aside0.mk (Kd.V_below (by (with_reducible repeat (first | apply Kd.V_alloc | apply Kd.V_drewN | apply Kd.V_drew)); exact HL641_2.out) hb)
                have m1_ := Aside0.mk (Kd.C_below (by repeat (first | (with_reducible exact HR641_2.out) | (with_reducible refine Kd.C_alloc ?_ _) | (with_reducible refine Kd.C_drewN ?_ _) | (with_reducible refine Kd.C_drew ?_) | exact HR641_2.out)) hb)
                clear HL641_2 HR641_2
                have HL641_2 := m0_
                have HR641_2 := m1_
                clear m0_ m1_
                have n5_ := Aside0.mk (below_step hb_ hb)
                clear HO_8
                clear HO_9
                clear HO_10
                clear HO_15
                clear HO635
                clear HB
                have HO_8 := n0_
                have HO_9 := n1_
                have HO_10 := n2_
                have HO_15 := n3_
                have HO635 := n4_
                have HB := n5_
                clear n0_ n1_ n2_ n3_ n4_ n5_
                (try clear hb)
                (try clear hb2)
                (try clear hk)
                (try clear hi)
                refine hK.out _ _ ⟨HS0_, HS1_, HS2_⟩ (fun hHeld => ?_)
                clear hK K
                refine norm_ (a' := ?_) ?_ ?_
                rotate_left
                ·show Act.put _ (some 112) _ = _
                 simp only [Act.put, List.setIfInBounds_toArray, List.set_cons_zero, List.set_cons_succ, i64_w, i32_w]
                 rfl
                refine pu_ (i := 8) (N := some 113) (any_of HT_.out (by kernel_rfl)) ?_
                refine pu_ (i := 9) (N := some 114) (any_of HT_.out (by kernel_rfl)) ?_
                refine pu_ (i := 10) (N := some 115) (any_of HT_.out (by kernel_rfl)) ?_
                refine pu_ (i := 11) (N := some 116) (any_of HT_.out (by kernel_rfl)) ?_
                refine pu_ (i := 12) (N := some 117) (any_of HT_.out (by kernel_rfl)) ?_
                refine pu_ (i := 13) (N := some 118) (any_of HT_.out (by kernel_rfl)) ?_
                refine pu_ (i := 14) (N := some 119) (any_of HT_.out (by kernel_rfl)) ?_
                refine pu_ (i := 15) (N := some 120) (any_of HT_.out (by kernel_rfl)) ?_
                refine pu_ (i := 16) (N := some 121) (any_of HT_.out (by kernel_rfl)) ?_
                refine pu_ (i := 18) (N := some 123) (any_of HT_.out (by kernel_rfl)) ?_
                refine pu_ (i := 20) (N := some 125) (any_of HT_.out (by kernel_rfl)) ?_
                refine pu_ (i := 21) (N := some 126) (any_of HT_.out (by kernel_rfl)) ?_
                refine pu_ (i := 22) (N := some 127) (any_of HT_.out (by kernel_rfl)) ?_
                refine pu_ (i := 23) (N := some 128) (any_of HT_.out (by kernel_rfl)) ?_
                refine ta_ (i := 24) (N := some 129) (take_ofW HT_.out HW_.out (by kernel_rfl)) hHeld ?_
                refine one_ (i := 17) (N := some 122) #[true, true, true, true, true, true, true, true, true, true, true, true, true, true, true, true, true, true, true, false, true, true, true, true, true, false, false, false, false, false] rfl rfl (one_of HT_.out (by kernel_rfl)) (by decide) (fun K hK => ?_)
                refine goes_ Try.func25 (by kernel_rfl) rfl #[.slice Ao58 t632.length co58] (by rfl) rfl rfl mp_ ?_
                with_reducible refine (script_Cost.calls k1 _ _ t632 t639 _ ?side1 ?side2 A50.out).mono ?_
                (case side1 => repeat (first | exact (Kd.N_reads' HO635.out).2.2 | (with_reducible refine Kd.C_alloc ?_ _) | (with_reducible refine Kd.C_drewN ?_ _) | (with_reducible refine Kd.C_drew ?_)))
                (case side2 => exact (Kd.N_reads' HO635.out).2.1)
                rintro e w62 ⟨rfl, hb⟩
                have HS0_ := (hb.cell (World.block_lt_of_cell? _ _ (hHeld.1))).trans (hHeld.1)
                have HS1_ := (hb.cell (World.block_lt_of_cell? _ _ (hHeld.2.1))).trans (hHeld.2.1)
                have HS2_ := (hb.cell (World.block_lt_of_cell? _ _ (hHeld.2.2))).trans (hHeld.2.2)
                refine ⟨_, rfl, ?_⟩
                have n0_ := Aside0.mk (Kd.N_below (by (with_reducible repeat (first | apply Kd.N_alloc | apply Kd.N_drewN | apply Kd.N_drew)); exact HO_8.out) hb)
                have n1_ := Aside0.mk (Kd.R_below (by (with_reducible repeat (first | apply Kd.R_alloc | apply Kd.R_drewN | apply Kd.R_drew)); exact HO_9.out) hb)
                have n2_ := Aside0.mk (Kd.N_below (by (with_reducible repeat (first | apply Kd.N_alloc | apply Kd.N_drewN | apply Kd.N_drew)); exact HO_10.out) hb)
                have n3_ := Aside0.mk (Kd.N_below (by (with_reducible repeat (first | apply Kd.N_alloc | apply Kd.N_drewN | apply Kd.N_drew)); exact HO_15.out) hb)
                have n4_ := Aside0.mk (Kd.N_below (by (with_reducible repeat (first | apply Kd.N_alloc | apply Kd.N_drewN | apply Kd.N_drew)); exact HO635.out) hb)
                have m0_ := Aside0.mk (Kd.V_below (by (with_reducible repeat (first | apply Kd.V_alloc | apply Kd.V_drewN | apply Kd.V_drew)); exact HL641_2.out) hb)
                have m1_ := Aside0.mk (Kd.C_below (by repeat (first | (with_reducible exact HR641_2.out) | (with_reducible refine Kd.C_alloc ?_ _) | (with_reducible refine Kd.C_drewN ?_ _) | (with_reducible refine Kd.C_drew ?_) | exact HR641_2.out)) hb)
                clear HL641_2 HR641_2
                have HL641_2 := m0_
                have HR641_2 := m1_
                clear m0_ m1_
                have n5_ := Aside0.mk (below_step hb_ hb)
                clear HO_8
                clear HO_9
                clear HO_10
                clear HO_15
                clear HO635
                clear HB
                have HO_8 := n0_
                have HO_9 := n1_
                have HO_10 := n2_
                have HO_15 := n3_
                have HO635 := n4_
                have HB := n5_
                clear n0_ n1_ n2_ n3_ n4_ n5_
                (try clear hb)
                (try clear hb2)
                (try clear hk)
                (try clear hi)
                refine hK.out _ _ ⟨HS0_, HS1_, HS2_⟩ (fun hHeld => ?_)
                clear hK K
                refine norm_ (a' := ?_) ?_ ?_
                rotate_left
                ·show Act.put _ (some 122) _ = _
                 simp only [Act.put, List.setIfInBounds_toArray, List.set_cons_zero, List.set_cons_succ, i64_w, i32_w]
                 rfl
                refine one_ (i := 19) (N := some 124) #[true, true, true, true, true, true, true, true, true, true, true, true, true, true, true, true, true, true, true, true, true, true, true, true, true, false, false, false, false, false] rfl rfl (one_of HT_.out (by kernel_rfl)) (by decide) (fun K hK => ?_)
                refine goes_ Try.func25 (by kernel_rfl) rfl #[.slice Ao32 t602.length co32] (by rfl) rfl rfl mp_ ?_
                with_reducible refine (script_Cost.calls k1 _ _ t602 t640 _ ?side1 ?side2 A51.out).mono ?_
                (case side1 => repeat (first | exact (Kd.N_reads' HO_8.out).2.2 | (with_reducible refine Kd.C_alloc ?_ _) | (with_reducible refine Kd.C_drewN ?_ _) | (with_reducible refine Kd.C_drew ?_)))
                (case side2 => exact (Kd.N_reads' HO_8.out).2.1)
                rintro e w63 ⟨rfl, hb⟩
                have HS0_ := (hb.cell (World.block_lt_of_cell? _ _ (hHeld.1))).trans (hHeld.1)
                have HS1_ := (hb.cell (World.block_lt_of_cell? _ _ (hHeld.2.1))).trans (hHeld.2.1)
                have HS2_ := (hb.cell (World.block_lt_of_cell? _ _ (hHeld.2.2))).trans (hHeld.2.2)
                refine ⟨_, rfl, ?_⟩
                have n0_ := Aside0.mk (Kd.N_below (by (with_reducible repeat (first | apply Kd.N_alloc | apply Kd.N_drewN | apply Kd.N_drew)); exact HO_8.out) hb)
                have n1_ := Aside0.mk (Kd.R_below (by (with_reducible repeat (first | apply Kd.R_alloc | apply Kd.R_drewN | apply Kd.R_drew)); exact HO_9.out) hb)
                have n2_ := Aside0.mk (Kd.N_below (by (with_reducible repeat (first | apply Kd.N_alloc | apply Kd.N_drewN | apply Kd.N_drew)); exact HO_10.out) hb)
                have n3_ := Aside0.mk (Kd.N_below (by (with_reducible repeat (first | apply Kd.N_alloc | apply Kd.N_drewN | apply Kd.N_drew)); exact HO_15.out) hb)
                have n4_ := Aside0.mk (Kd.N_below (by (with_reducible repeat (first | apply Kd.N_alloc | apply Kd.N_drewN | apply Kd.N_drew)); exact HO635.out) hb)
                have m0_ := Aside0.mk (Kd.V_below (by (with_reducible repeat (first | apply Kd.V_alloc | apply Kd.V_drewN | apply Kd.V_drew)); exact HL641_2.out) hb)
                have m1_ := Aside0.mk (Kd.C_below (by repeat (first | (with_reducible exact HR641_2.out) | (with_reducible refine Kd.C_alloc ?_ _) | (with_reducible refine Kd.C_drewN ?_ _) | (with_reducible refine Kd.C_drew ?_) | exact HR641_2.out)) hb)
                clear HL641_2 HR641_2
                have HL641_2 := m0_
                have HR641_2 := m1_
                clear m0_ m1_
                have n5_ := Aside0.mk (below_step hb_ hb)
                clear HO_8
                clear HO_9
                clear HO_10
                clear HO_15
                clear HO635
                clear HB
                have HO_8 := n0_
                have HO_9 := n1_
                have HO_10 := n2_
                have HO_15 := n3_
                have HO635 := n4_
                have HB := n5_
                clear n0_ n1_ n2_ n3_ n4_ n5_
                (try clear hb)
                (try clear hb2)
                (try clear hk)
                (try clear hi)
                refine hK.out _ _ ⟨HS0_, HS1_, HS2_⟩ (fun hHeld => ?_)
                clear hK K
                refine norm_ (a' := ?_) ?_ ?_
                rotate_left
                ·show Act.put _ (some 124) _ = _
                 simp only [Act.put, List.setIfInBounds_toArray, List.set_cons_zero, List.set_cons_succ, i64_w, i32_w]
                 rfl
                refine one_ (i := 25) (N := some 130) #[true, true, true, true, true, true, true, true, true, true, true, true, true, true, true, true, true, true, true, true, true, true, true, true, true, true, false, false, false, false] rfl rfl (one_of HT_.out (by kernel_rfl)) (by decide) (fun K hK => ?_)
                refine goes_ Try.func25 (by kernel_rfl) rfl #[.slice A641_2 ((rd_T28 t609 t614).f2).length c641_2] (by rfl) rfl rfl mp_ ?_
                with_reducible refine (script_Cost.calls k1 _ _ ((rd_T28 t609 t614).f2) t642 _ ?side1 ?side2 A54.out).mono ?_
                (case side1 => repeat (first | exact (by repeat (first | (with_reducible exact HR641_2.out) | (with_reducible refine Kd.C_alloc ?_ _) | (with_reducible refine Kd.C_drewN ?_ _) | (with_reducible refine Kd.C_drew ?_) | exact HR641_2.out)) | (with_reducible refine Kd.C_alloc ?_ _) | (with_reducible refine Kd.C_drewN ?_ _) | (with_reducible refine Kd.C_drew ?_)))
                (case side2 => exact HC641_2.out)
                rintro e w64 ⟨rfl, hb⟩
                have HS0_ := (hb.cell (World.block_lt_of_cell? _ _ (hHeld.1))).trans (hHeld.1)
                have HS1_ := (hb.cell (World.block_lt_of_cell? _ _ (hHeld.2.1))).trans (hHeld.2.1)
                have HS2_ := (hb.cell (World.block_lt_of_cell? _ _ (hHeld.2.2))).trans (hHeld.2.2)
                refine ⟨_, rfl, ?_⟩
                have n0_ := Aside0.mk (Kd.N_below (by (with_reducible repeat (first | apply Kd.N_alloc | apply Kd.N_drewN | apply Kd.N_drew)); exact HO_8.out) hb)
                have n1_ := Aside0.mk (Kd.R_below (by (with_reducible repeat (first | apply Kd.R_alloc | apply Kd.R_drewN | apply Kd.R_drew)); exact HO_9.out) hb)
                have n2_ := Aside0.mk (Kd.N_below (by (with_reducible repeat (first | apply Kd.N_alloc | apply Kd.N_drewN | apply Kd.N_drew)); exact HO_10.out) hb)
                have n3_ := Aside0.mk (Kd.N_below (by (with_reducible repeat (first | apply Kd.N_alloc | apply Kd.N_drewN | apply Kd.N_drew)); exact HO_15.out) hb)
                have n4_ := Aside0.mk (Kd.N_below (by (with_reducible repeat (first | apply Kd.N_alloc | apply Kd.N_drewN | apply Kd.N_drew)); exact HO635.out) hb)
                have n5_ := Aside0.mk (Kd.V_below (by (with_reducible repeat (first | apply Kd.V_alloc | apply Kd.V_drewN | apply Kd.V_drew)); exact HL641_2.out) hb)
                have n6_ := Aside0.mk (Kd.C_below (by repeat (first | (with_reducible exact HR641_2.out) | (with_reducible refine Kd.C_alloc ?_ _) | (with_reducible refine Kd.C_drewN ?_ _) | (with_reducible refine Kd.C_drew ?_) | exact HR641_2.out)) hb)
                have n7_ := Aside0.mk (below_step hb_ hb)
                clear HO_8
                clear HO_9
                clear HO_10
                clear HO_15
                clear HO635
                clear HL641_2
                clear HR641_2
                clear HB
                have HO_8 := n0_
                have HO_9 := n1_
                have HO_10 := n2_
                have HO_15 := n3_
                have HO635 := n4_
                have HL641_2 := n5_
                have HR641_2 := n6_
                have HB := n7_
                clear n0_ n1_ n2_ n3_ n4_ n5_ n6_ n7_
                (try clear hb)
                (try clear hb2)
                (try clear hk)
                (try clear hi)
                refine hK.out _ _ ⟨HS0_, HS1_, HS2_⟩ (fun hHeld => ?_)
                clear hK K
                refine norm_ (a' := ?_) ?_ ?_
                rotate_left
                ·show Act.put _ (some 130) _ = _
                 simp only [Act.put, List.setIfInBounds_toArray, List.set_cons_zero, List.set_cons_succ, i64_w, i32_w]
                 rfl
                refine pu_ (i := 26) (N := some 131) (any_of HT_.out (by kernel_rfl)) ?_
                refine pu_ (i := 27) (N := some 132) (any_of HT_.out (by kernel_rfl)) ?_
                refine pu_ (i := 28) (N := some 133) (any_of HT_.out (by kernel_rfl)) ?_
                refine pu_ (i := 29) (N := some 6) (any_of HT_.out (by kernel_rfl)) ?_
                refine done_ (done_of HT_.out (by kernel_rfl)) ?_
                try go_wp2
                go_ret
                exact ⟨by first | rfl | (simp [errW_none, errW_some] <;> rfl) | (simp [*, errW_none, errW_some] <;> rfl), by repeat (first | (with_reducible first | exact HB.out | apply below_alloc | apply pw_below_drewN | apply below_drew1) | exact HB.out)⟩
               ·rw [if_neg c53] at H
                exact absurd H (by simp)
              ·rw [if_neg c52] at H
               exact absurd H (by simp)
             ·rw [if_neg c49] at H
              have c49b0 : (t636 == (t603.length : Int)) = false := beq_eq_false_iff_ne.mpr c49
              have c49b1 : (t636 != (t603.length : Int)) = true := bne_iff_ne.mpr c49
              obtain rfl := Option.some.inj H
              obtain ⟨Ao65, co65, eo65⟩ := Kd.R_slice HO_9.out
              subst eo65
              obtain ⟨Ao66, co66, eo66⟩ := Kd.N_slice HO_15.out
              subst eo66
              try go_wp2_with (first | ((with_reducible refine gate_callee (f := 18) rfl ?_); refine goesL_ (some 97) rfl rfl Try.func18 (by kernel_rfl) rfl #[.slice Ao66 x15_1.length co66, .int .i64 (t603.length : Int)] rfl mp_ ?_; (with_reducible refine (hunks_Script.calls k1 _ _ x15_1 (t603.length : Int) t632 t633 _ ?side1 ?side2 A43.out).mono ?_); (case side1 => repeat (first | exact (Kd.N_reads' HO_15.out).2.2 | (with_reducible refine Kd.C_alloc ?_ _) | (with_reducible refine Kd.C_drewN ?_ _) | (with_reducible refine Kd.C_drew ?_))); (case side2 => exact (Kd.N_reads' HO_15.out).2.1); rintro e w67 ⟨v634, rfl, ho0, hb⟩; refine ⟨_, rfl, ?_⟩; have n0_ := Aside0.mk (Kd.N_elder' (by (with_reducible repeat (first | apply Kd.N_alloc | apply Kd.N_drewN | apply Kd.N_drew)); exact HO_8.out) (by first | exact Kd.N_base ho0 | exact Kd.S_base ho0 | exact Kd.N_base (Kd.R_N ho0)) hb); have n1_ := Aside0.mk (Kd.R_below (by (with_reducible repeat (first | apply Kd.R_alloc | apply Kd.R_drewN | apply Kd.R_drew)); exact HO_9.out) hb); have n2_ := Aside0.mk (Kd.N_elder' (by (with_reducible repeat (first | apply Kd.N_alloc | apply Kd.N_drewN | apply Kd.N_drew)); exact HO_10.out) (by first | exact Kd.N_base ho0 | exact Kd.S_base ho0 | exact Kd.N_base (Kd.R_N ho0)) hb); have n3_ := Aside0.mk (Kd.N_elder' (by (with_reducible repeat (first | apply Kd.N_alloc | apply Kd.N_drewN | apply Kd.N_drew)); exact HO_15.out) (by first | exact Kd.N_base ho0 | exact Kd.S_base ho0 | exact Kd.N_base (Kd.R_N ho0)) hb); have n4_ := Aside0.mk (Kd.N_lower (Kd.N_mono (ok' := fun k_ => some k_ ≠ (.slice Ao32 t602.length co32 : Value).ownBlock ∧ some k_ ≠ (.slice Ao65 t603.length co65 : Value).ownBlock ∧ some k_ ≠ (.slice (some ad615) t609.length co34 : Value).ownBlock ∧ some k_ ≠ (.slice Ao66 x15_1.length co66 : Value).ownBlock) (Kd.S_N (Kd.S_bound ho0)) (fun k_ hk_ => ⟨(Kd.fresh' (Kd.N_lt (by (with_reducible repeat (first | apply Kd.N_alloc | apply Kd.N_drewN | apply Kd.N_drew)); exact HO_8.out)) k_ hk_.2.1), (Kd.fresh' (Kd.R_lt (by (with_reducible repeat (first | apply Kd.R_alloc | apply Kd.R_drewN | apply Kd.R_drew)); exact HO_9.out)) k_ hk_.2.1), (Kd.fresh' (Kd.N_lt (by (with_reducible repeat (first | apply Kd.N_alloc | apply Kd.N_drewN | apply Kd.N_drew)); exact HO_10.out)) k_ hk_.2.1), (Kd.fresh' (Kd.N_lt (by (with_reducible repeat (first | apply Kd.N_alloc | apply Kd.N_drewN | apply Kd.N_drew)); exact HO_15.out)) k_ hk_.2.1)⟩)) (below_size hb_)); have n5_ := Aside0.mk (below_step hb_ hb); clear HO_8; clear HO_9; clear HO_10; clear HO_15; clear HB; have HO_8 := n0_; have HO_9 := n1_; have HO_10 := n2_; have HO_15 := n3_; have HO635 := n4_; have HB := n5_; clear n0_ n1_ n2_ n3_ n4_ n5_; (try clear hb); (try clear hb2); (try clear hk); (try clear hi); (try clear ho0); (try (obtain ⟨Ao68, co68, eo68⟩ := Kd.N_slice HO635.out; subst eo68))) | ((with_reducible refine gate_callee (f := 26) rfl ?_); refine goesL_ (some 102) rfl rfl Try.func26 (by kernel_rfl) rfl #[.slice Ao68 t632.length co68] rfl mp_ ?_; (with_reducible refine (script_Spans.calls k1 _ _ t632 t636 t637 _ ?side1 ?side2 A44.out).mono ?_); (case side1 => repeat (first | exact (Kd.N_reads' HO635.out).2.2 | (with_reducible refine Kd.C_alloc ?_ _) | (with_reducible refine Kd.C_drewN ?_ _) | (with_reducible refine Kd.C_drew ?_))); (case side2 => exact (Kd.N_reads' HO635.out).2.1); rintro e w69 ⟨rfl, hb⟩; refine ⟨_, rfl, ?_⟩; have n0_ := Aside0.mk (Kd.N_below (by (with_reducible repeat (first | apply Kd.N_alloc | apply Kd.N_drewN | apply Kd.N_drew)); exact HO_8.out) hb); have n1_ := Aside0.mk (Kd.R_below (by (with_reducible repeat (first | apply Kd.R_alloc | apply Kd.R_drewN | apply Kd.R_drew)); exact HO_9.out) hb); have n2_ := Aside0.mk (Kd.N_below (by (with_reducible repeat (first | apply Kd.N_alloc | apply Kd.N_drewN | apply Kd.N_drew)); exact HO_10.out) hb); have n3_ := Aside0.mk (Kd.N_below (by (with_reducible repeat (first | apply Kd.N_alloc | apply Kd.N_drewN | apply Kd.N_drew)); exact HO_15.out) hb); have n4_ := Aside0.mk (Kd.N_below (by (with_reducible repeat (first | apply Kd.N_alloc | apply Kd.N_drewN | apply Kd.N_drew)); exact HO635.out) hb); have n5_ := Aside0.mk (below_step hb_ hb); clear HO_8; clear HO_9; clear HO_10; clear HO_15; clear HO635; clear HB; have HO_8 := n0_; have HO_9 := n1_; have HO_10 := n2_; have HO_15 := n3_; have HO635 := n4_; have HB := n5_; clear n0_ n1_ n2_ n3_ n4_ n5_; (try clear hb); (try clear hb2); (try clear hk); (try clear hi)))
              have n0_ := Aside0.mk (Kd.N_drew HO_8.out)
              have n1_ := Aside0.mk (Kd.R_drew HO_9.out)
              have n2_ := Aside0.mk (Kd.N_drew HO_10.out)
              have n3_ := Aside0.mk (Kd.N_drew HO_15.out)
              have n4_ := Aside0.mk (Kd.N_drew HO635.out)
              have n5_ := Aside0.mk (below_drew1 HB.out)
              clear HO_8
              clear HO_9
              clear HO_10
              clear HO_15
              clear HO635
              clear HB
              have HO_8 := n0_
              have HO_9 := n1_
              have HO_10 := n2_
              have HO_15 := n3_
              have HO635 := n4_
              have HB := n5_
              clear n0_ n1_ n2_ n3_ n4_ n5_
              refine start_ (n := 30) (S := fun w' => True) (ds := []) #[false, false, false, false, false, false, false, false, false, false, false, false, false, false, false, false, false, false, false, false, false, false, false, false, false, false, false, false, false, false] (by kernel_rfl) rfl rfl trivial (fun hHeld => ?_); refine with_tabW collatorlaw06_HunksFewer.tab17 collatorlaw06_HunksFewer.bits17 (fun HT_ HW_ => ?_)
              generalize w69.drew = w70 at HO_8 HO_9 HO_10 HO_15 HO635 HB hHeld ⊢
              refine pu_ (i := 0) (N := some 105) (any_of HT_.out (by kernel_rfl)) ?_
              refine pu_ (i := 1) (N := some 106) (any_of HT_.out (by kernel_rfl)) ?_
              refine pu_ (i := 2) (N := some 107) (any_of HT_.out (by kernel_rfl)) ?_
              refine pu_ (i := 3) (N := some 108) (any_of HT_.out (by kernel_rfl)) ?_
              refine pu_ (i := 4) (N := some 109) (any_of HT_.out (by kernel_rfl)) ?_
              refine pu_ (i := 5) (N := some 110) (any_of HT_.out (by kernel_rfl)) ?_
              refine pu_ (i := 6) (N := some 111) (any_of HT_.out (by kernel_rfl)) ?_
              refine one_ (i := 7) (N := some 112) #[true, true, true, true, true, true, true, true, false, false, false, false, false, false, false, false, false, false, false, false, false, false, false, false, false, false, false, false, false, false] rfl rfl (one_of HT_.out (by kernel_rfl)) (by decide) (fun K hK => ?_)
              refine goes_ Try.func16 (by kernel_rfl) rfl #[.slice Ao66 x15_1.length co66] (by rfl) rfl rfl mp_ ?_
              with_reducible refine (hunks_Right.calls k1 _ _ x15_1 true _ ?side1 ?side2 A47.out).mono ?_
              (case side1 => repeat (first | exact (Kd.N_reads' HO_15.out).2.2 | (with_reducible refine Kd.C_alloc ?_ _) | (with_reducible refine Kd.C_drewN ?_ _) | (with_reducible refine Kd.C_drew ?_)))
              (case side2 => exact (Kd.N_reads' HO_15.out).2.1)
              rintro e w71 ⟨rfl, hb⟩
              refine ⟨_, rfl, ?_⟩
              have n0_ := Aside0.mk (Kd.N_below (by (with_reducible repeat (first | apply Kd.N_alloc | apply Kd.N_drewN | apply Kd.N_drew)); exact HO_8.out) hb)
              have n1_ := Aside0.mk (Kd.R_below (by (with_reducible repeat (first | apply Kd.R_alloc | apply Kd.R_drewN | apply Kd.R_drew)); exact HO_9.out) hb)
              have n2_ := Aside0.mk (Kd.N_below (by (with_reducible repeat (first | apply Kd.N_alloc | apply Kd.N_drewN | apply Kd.N_drew)); exact HO_10.out) hb)
              have n3_ := Aside0.mk (Kd.N_below (by (with_reducible repeat (first | apply Kd.N_alloc | apply Kd.N_drewN | apply Kd.N_drew)); exact HO_15.out) hb)
              have n4_ := Aside0.mk (Kd.N_below (by (with_reducible repeat (first | apply Kd.N_alloc | apply Kd.N_drewN | apply Kd.N_drew)); exact HO635.out) hb)
              have n5_ := Aside0.mk (below_step hb_ hb)
              clear HO_8
              clear HO_9
              clear HO_10
              clear HO_15
              clear HO635
              clear HB
              have HO_8 := n0_
              have HO_9 := n1_
              have HO_10 := n2_
              have HO_15 := n3_
              have HO635 := n4_
              have HB := n5_
              clear n0_ n1_ n2_ n3_ n4_ n5_
              (try clear hb)
              (try clear hb2)
              (try clear hk)
              (try clear hi)
              refine hK.out _ _ trivial (fun hHeld => ?_)
              clear hK K
              refine norm_ (a' := ?_) ?_ ?_
              rotate_left
              ·show Act.put _ (some 112) _ = _
               simp only [Act.put, List.setIfInBounds_toArray, List.set_cons_zero, List.set_cons_succ, i64_w, i32_w]
               rfl
              refine pu_ (i := 8) (N := some 113) (any_of HT_.out (by kernel_rfl)) ?_
              refine pu_ (i := 9) (N := some 114) (any_of HT_.out (by kernel_rfl)) ?_
              refine pu_ (i := 10) (N := some 115) (any_of HT_.out (by kernel_rfl)) ?_
              refine pu_ (i := 11) (N := some 116) (any_of HT_.out (by kernel_rfl)) ?_
              refine pu_ (i := 12) (N := some 117) (any_of HT_.out (by kernel_rfl)) ?_
              refine pu_ (i := 13) (N := some 118) (any_of HT_.out (by kernel_rfl)) ?_
              refine pu_ (i := 14) (N := some 119) (any_of HT_.out (by kernel_rfl)) ?_
              refine pu_ (i := 15) (N := some 120) (any_of HT_.out (by kernel_rfl)) ?_
              refine ps_ (i := 16) (N := some 121) (any_of HT_.out (by kernel_rfl)) ?_
              refine ps_ (i := 17) (N := some 122) (any_of HT_.out (by kernel_rfl)) ?_
              refine ps_ (i := 18) (N := some 123) (any_of HT_.out (by kernel_rfl)) ?_
              refine ps_ (i := 19) (N := some 124) (any_of HT_.out (by kernel_rfl)) ?_
              refine ps_ (i := 20) (N := some 125) (any_of HT_.out (by kernel_rfl)) ?_
              refine ps_ (i := 21) (N := some 126) (any_of HT_.out (by kernel_rfl)) ?_
              refine ps_ (i := 22) (N := some 127) (any_of HT_.out (by kernel_rfl)) ?_
              refine ps_ (i := 23) (N := some 128) (any_of HT_.out (by kernel_rfl)) ?_
              refine ps_ (i := 24) (N := some 129) (any_of HT_.out (by kernel_rfl)) ?_
              refine ps_ (i := 25) (N := some 130) (any_of HT_.out (by kernel_rfl)) ?_
              refine ps_ (i := 26) (N := some 131) (any_of HT_.out (by kernel_rfl)) ?_
              refine ps_ (i := 27) (N := some 132) (any_of HT_.out (by kernel_rfl)) ?_
              refine pu_ (i := 28) (N := some 133) (any_of HT_.out (by kernel_rfl)) ?_
              refine pu_ (i := 29) (N := some 6) (any_of HT_.out (by kernel_rfl)) ?_
              refine done_ (done_of HT_.out (by kernel_rfl)) ?_
              try go_wp2
              go_ret
              exact ⟨by first | rfl | (simp [errW_none, errW_some] <;> rfl) | (simp [*, errW_none, errW_some] <;> rfl), by repeat (first | (with_reducible first | exact HB.out | apply below_alloc | apply pw_below_drewN | apply below_drew1) | exact HB.out)⟩
            ·replace c48 := Bool.eq_false_iff.mpr c48
             subst c48
             have H1 : (some false) = some r := by rw [if_neg (show ¬ (false = true) by decide)] at H; exact H
             clear H
             have H := H1
             clear H1
             obtain rfl := Option.some.inj H
             obtain ⟨Ao72, co72, eo72⟩ := Kd.R_slice HO_9.out
             subst eo72
             obtain ⟨Ao73, co73, eo73⟩ := Kd.N_slice HO_15.out
             subst eo73
             try go_wp2_with (first | ((with_reducible refine gate_callee (f := 18) rfl ?_); refine goesL_ (some 97) rfl rfl Try.func18 (by kernel_rfl) rfl #[.slice Ao73 x15_1.length co73, .int .i64 (t603.length : Int)] rfl mp_ ?_; (with_reducible refine (hunks_Script.calls k1 _ _ x15_1 (t603.length : Int) t632 t633 _ ?side1 ?side2 A43.out).mono ?_); (case side1 => repeat (first | exact (Kd.N_reads' HO_15.out).2.2 | (with_reducible refine Kd.C_alloc ?_ _) | (with_reducible refine Kd.C_drewN ?_ _) | (with_reducible refine Kd.C_drew ?_))); (case side2 => exact (Kd.N_reads' HO_15.out).2.1); rintro e w74 ⟨v634, rfl, ho0, hb⟩; refine ⟨_, rfl, ?_⟩; have n0_ := Aside0.mk (Kd.N_elder' (by (with_reducible repeat (first | apply Kd.N_alloc | apply Kd.N_drewN | apply Kd.N_drew)); exact HO_8.out) (by first | exact Kd.N_base ho0 | exact Kd.S_base ho0 | exact Kd.N_base (Kd.R_N ho0)) hb); have n1_ := Aside0.mk (Kd.R_below (by (with_reducible repeat (first | apply Kd.R_alloc | apply Kd.R_drewN | apply Kd.R_drew)); exact HO_9.out) hb); have n2_ := Aside0.mk (Kd.N_elder' (by (with_reducible repeat (first | apply Kd.N_alloc | apply Kd.N_drewN | apply Kd.N_drew)); exact HO_10.out) (by first | exact Kd.N_base ho0 | exact Kd.S_base ho0 | exact Kd.N_base (Kd.R_N ho0)) hb); have n3_ := Aside0.mk (Kd.N_elder' (by (with_reducible repeat (first | apply Kd.N_alloc | apply Kd.N_drewN | apply Kd.N_drew)); exact HO_15.out) (by first | exact Kd.N_base ho0 | exact Kd.S_base ho0 | exact Kd.N_base (Kd.R_N ho0)) hb); have n4_ := Aside0.mk (Kd.N_lower (Kd.N_mono (ok' := fun k_ => some k_ ≠ (.slice Ao32 t602.length co32 : Value).ownBlock ∧ some k_ ≠ (.slice Ao72 t603.length co72 : Value).ownBlock ∧ some k_ ≠ (.slice (some ad615) t609.length co34 : Value).ownBlock ∧ some k_ ≠ (.slice Ao73 x15_1.length co73 : Value).ownBlock) (Kd.S_N (Kd.S_bound ho0)) (fun k_ hk_ => ⟨(Kd.fresh' (Kd.N_lt (by (with_reducible repeat (first | apply Kd.N_alloc | apply Kd.N_drewN | apply Kd.N_drew)); exact HO_8.out)) k_ hk_.2.1), (Kd.fresh' (Kd.R_lt (by (with_reducible repeat (first | apply Kd.R_alloc | apply Kd.R_drewN | apply Kd.R_drew)); exact HO_9.out)) k_ hk_.2.1), (Kd.fresh' (Kd.N_lt (by (with_reducible repeat (first | apply Kd.N_alloc | apply Kd.N_drewN | apply Kd.N_drew)); exact HO_10.out)) k_ hk_.2.1), (Kd.fresh' (Kd.N_lt (by (with_reducible repeat (first | apply Kd.N_alloc | apply Kd.N_drewN | apply Kd.N_drew)); exact HO_15.out)) k_ hk_.2.1)⟩)) (below_size hb_)); have n5_ := Aside0.mk (below_step hb_ hb); clear HO_8; clear HO_9; clear HO_10; clear HO_15; clear HB; have HO_8 := n0_; have HO_9 := n1_; have HO_10 := n2_; have HO_15 := n3_; have HO635 := n4_; have HB := n5_; clear n0_ n1_ n2_ n3_ n4_ n5_; (try clear hb); (try clear hb2); (try clear hk); (try clear hi); (try clear ho0); (try (obtain ⟨Ao75, co75, eo75⟩ := Kd.N_slice HO635.out; subst eo75))) | ((with_reducible refine gate_callee (f := 26) rfl ?_); refine goesL_ (some 102) rfl rfl Try.func26 (by kernel_rfl) rfl #[.slice Ao75 t632.length co75] rfl mp_ ?_; (with_reducible refine (script_Spans.calls k1 _ _ t632 t636 t637 _ ?side1 ?side2 A44.out).mono ?_); (case side1 => repeat (first | exact (Kd.N_reads' HO635.out).2.2 | (with_reducible refine Kd.C_alloc ?_ _) | (with_reducible refine Kd.C_drewN ?_ _) | (with_reducible refine Kd.C_drew ?_))); (case side2 => exact (Kd.N_reads' HO635.out).2.1); rintro e w76 ⟨rfl, hb⟩; refine ⟨_, rfl, ?_⟩; have n0_ := Aside0.mk (Kd.N_below (by (with_reducible repeat (first | apply Kd.N_alloc | apply Kd.N_drewN | apply Kd.N_drew)); exact HO_8.out) hb); have n1_ := Aside0.mk (Kd.R_below (by (with_reducible repeat (first | apply Kd.R_alloc | apply Kd.R_drewN | apply Kd.R_drew)); exact HO_9.out) hb); have n2_ := Aside0.mk (Kd.N_below (by (with_reducible repeat (first | apply Kd.N_alloc | apply Kd.N_drewN | apply Kd.N_drew)); exact HO_10.out) hb); have n3_ := Aside0.mk (Kd.N_below (by (with_reducible repeat (first | apply Kd.N_alloc | apply Kd.N_drewN | apply Kd.N_drew)); exact HO_15.out) hb); have n4_ := Aside0.mk (Kd.N_below (by (with_reducible repeat (first | apply Kd.N_alloc | apply Kd.N_drewN | apply Kd.N_drew)); exact HO635.out) hb); have n5_ := Aside0.mk (below_step hb_ hb); clear HO_8; clear HO_9; clear HO_10; clear HO_15; clear HO635; clear HB; have HO_8 := n0_; have HO_9 := n1_; have HO_10 := n2_; have HO_15 := n3_; have HO635 := n4_; have HB := n5_; clear n0_ n1_ n2_ n3_ n4_ n5_; (try clear hb); (try clear hb2); (try clear hk); (try clear hi)))
             have n0_ := Aside0.mk (Kd.N_drew HO_8.out)
             have n1_ := Aside0.mk (Kd.R_drew HO_9.out)
             have n2_ := Aside0.mk (Kd.N_drew HO_10.out)
             have n3_ := Aside0.mk (Kd.N_drew HO_15.out)
             have n4_ := Aside0.mk (Kd.N_drew HO635.out)
             have n5_ := Aside0.mk (below_drew1 HB.out)
             clear HO_8
             clear HO_9
             clear HO_10
             clear HO_15
             clear HO635
             clear HB
             have HO_8 := n0_
             have HO_9 := n1_
             have HO_10 := n2_
             have HO_15 := n3_
             have HO635 := n4_
             have HB := n5_
             clear n0_ n1_ n2_ n3_ n4_ n5_
             refine start_ (n := 30) (S := fun w' => True) (ds := []) #[false, false, false, false, false, false, false, false, false, false, false, false, false, false, false, false, false, false, false, false, false, false, false, false, false, false, false, false, false, false] (by kernel_rfl) rfl rfl trivial (fun hHeld => ?_); refine with_tabW collatorlaw06_HunksFewer.tab17 collatorlaw06_HunksFewer.bits17 (fun HT_ HW_ => ?_)
             generalize w76.drew = w77 at HO_8 HO_9 HO_10 HO_15 HO635 HB hHeld ⊢
             refine pu_ (i := 0) (N := some 105) (any_of HT_.out (by kernel_rfl)) ?_
             refine pu_ (i := 1) (N := some 106) (any_of HT_.out (by kernel_rfl)) ?_
             refine pu_ (i := 2) (N := some 107) (any_of HT_.out (by kernel_rfl)) ?_
             refine pu_ (i := 3) (N := some 108) (any_of HT_.out (by kernel_rfl)) ?_
             refine pu_ (i := 4) (N := some 109) (any_of HT_.out (by kernel_rfl)) ?_
             refine pu_ (i := 5) (N := some 110) (any_of HT_.out (by kernel_rfl)) ?_
             refine pu_ (i := 6) (N := some 111) (any_of HT_.out (by kernel_rfl)) ?_
             refine one_ (i := 7) (N := some 112) #[true, true, true, true, true, true, true, true, false, false, false, false, false, false, false, false, false, false, false, false, false, false, false, false, false, false, false, false, false, false] rfl rfl (one_of HT_.out (by kernel_rfl)) (by decide) (fun K hK => ?_)
             refine goes_ Try.func16 (by kernel_rfl) rfl #[.slice Ao73 x15_1.length co73] (by rfl) rfl rfl mp_ ?_
             with_reducible refine (hunks_Right.calls k1 _ _ x15_1 false _ ?side1 ?side2 A47.out).mono ?_
             (case side1 => repeat (first | exact (Kd.N_reads' HO_15.out).2.2 | (with_reducible refine Kd.C_alloc ?_ _) | (with_reducible refine Kd.C_drewN ?_ _) | (with_reducible refine Kd.C_drew ?_)))
             (case side2 => exact (Kd.N_reads' HO_15.out).2.1)
             rintro e w78 ⟨rfl, hb⟩
             refine ⟨_, rfl, ?_⟩
             have n0_ := Aside0.mk (Kd.N_below (by (with_reducible repeat (first | apply Kd.N_alloc | apply Kd.N_drewN | apply Kd.N_drew)); exact HO_8.out) hb)
             have n1_ := Aside0.mk (Kd.R_below (by (with_reducible repeat (first | apply Kd.R_alloc | apply Kd.R_drewN | apply Kd.R_drew)); exact HO_9.out) hb)
             have n2_ := Aside0.mk (Kd.N_below (by (with_reducible repeat (first | apply Kd.N_alloc | apply Kd.N_drewN | apply Kd.N_drew)); exact HO_10.out) hb)
             have n3_ := Aside0.mk (Kd.N_below (by (with_reducible repeat (first | apply Kd.N_alloc | apply Kd.N_drewN | apply Kd.N_drew)); exact HO_15.out) hb)
             have n4_ := Aside0.mk (Kd.N_below (by (with_reducible repeat (first | apply Kd.N_alloc | apply Kd.N_drewN | apply Kd.N_drew)); exact HO635.out) hb)
             have n5_ := Aside0.mk (below_step hb_ hb)
             clear HO_8
             clear HO_9
             clear HO_10
             clear HO_15
             clear HO635
             clear HB
             have HO_8 := n0_
             have HO_9 := n1_
             have HO_10 := n2_
             have HO_15 := n3_
             have HO635 := n4_
             have HB := n5_
             clear n0_ n1_ n2_ n3_ n4_ n5_
             (try clear hb)
             (try clear hb2)
             (try clear hk)
             (try clear hi)
             refine hK.out _ _ trivial (fun hHeld => ?_)
             clear hK K
             refine norm_ (a' := ?_) ?_ ?_
             rotate_left
             ·show Act.put _ (some 112) _ = _
              simp only [Act.put, List.setIfInBounds_toArray, List.set_cons_zero, List.set_cons_succ, i64_w, i32_w]
              rfl
             refine pu_ (i := 8) (N := some 113) (any_of HT_.out (by kernel_rfl)) ?_
             refine pu_ (i := 9) (N := some 114) (any_of HT_.out (by kernel_rfl)) ?_
             refine ps_ (i := 10) (N := some 115) (any_of HT_.out (by kernel_rfl)) ?_
             refine ps_ (i := 11) (N := some 116) (any_of HT_.out (by kernel_rfl)) ?_
             refine ps_ (i := 12) (N := some 117) (any_of HT_.out (by kernel_rfl)) ?_
             refine ps_ (i := 13) (N := some 118) (any_of HT_.out (by kernel_rfl)) ?_
             refine pu_ (i := 14) (N := some 119) (any_of HT_.out (by kernel_rfl)) ?_
             refine pu_ (i := 15) (N := some 120) (any_of HT_.out (by kernel_rfl)) ?_
             refine ps_ (i := 16) (N := some 121) (any_of HT_.out (by kernel_rfl)) ?_
             refine ps_ (i := 17) (N := some 122) (any_of HT_.out (by kernel_rfl)) ?_
             refine ps_ (i := 18) (N := some 123) (any_of HT_.out (by kernel_rfl)) ?_
             refine ps_ (i := 19) (N := some 124) (any_of HT_.out (by kernel_rfl)) ?_
             refine ps_ (i := 20) (N := some 125) (any_of HT_.out (by kernel_rfl)) ?_
             refine ps_ (i := 21) (N := some 126) (any_of HT_.out (by kernel_rfl)) ?_
             refine ps_ (i := 22) (N := some 127) (any_of HT_.out (by kernel_rfl)) ?_
             refine ps_ (i := 23) (N := some 128) (any_of HT_.out (by kernel_rfl)) ?_
             refine ps_ (i := 24) (N := some 129) (any_of HT_.out (by kernel_rfl)) ?_
             refine ps_ (i := 25) (N := some 130) (any_of HT_.out (by kernel_rfl)) ?_
             refine ps_ (i := 26) (N := some 131) (any_of HT_.out (by kernel_rfl)) ?_
             refine ps_ (i := 27) (N := some 132) (any_of HT_.out (by kernel_rfl)) ?_
             refine pu_ (i := 28) (N := some 133) (any_of HT_.out (by kernel_rfl)) ?_
             refine pu_ (i := 29) (N := some 6) (any_of HT_.out (by kernel_rfl)) ?_
             refine done_ (done_of HT_.out (by kernel_rfl)) ?_
             try go_wp2
             go_ret
             exact ⟨by first | rfl | (simp [errW_none, errW_some] <;> rfl) | (simp [*, errW_none, errW_some] <;> rfl), by repeat (first | (with_reducible first | exact HB.out | apply below_alloc | apply pw_below_drewN | apply below_drew1) | exact HB.out)⟩
           ·rw [if_neg c46] at H
            have c46b0 : (t633 == 0) = false := beq_eq_false_iff_ne.mpr c46
            have c46b1 : (t633 != 0) = true := bne_iff_ne.mpr c46
            obtain rfl := Option.some.inj H
            obtain ⟨Ao79, co79, eo79⟩ := Kd.R_slice HO_9.out
            subst eo79
            obtain ⟨Ao80, co80, eo80⟩ := Kd.N_slice HO_15.out
            subst eo80
            try go_wp2_with (first | ((with_reducible refine gate_callee (f := 18) rfl ?_); refine goesL_ (some 97) rfl rfl Try.func18 (by kernel_rfl) rfl #[.slice Ao80 x15_1.length co80, .int .i64 (t603.length : Int)] rfl mp_ ?_; (with_reducible refine (hunks_Script.calls k1 _ _ x15_1 (t603.length : Int) t632 t633 _ ?side1 ?side2 A43.out).mono ?_); (case side1 => repeat (first | exact (Kd.N_reads' HO_15.out).2.2 | (with_reducible refine Kd.C_alloc ?_ _) | (with_reducible refine Kd.C_drewN ?_ _) | (with_reducible refine Kd.C_drew ?_))); (case side2 => exact (Kd.N_reads' HO_15.out).2.1); rintro e w81 ⟨v634, rfl, ho0, hb⟩; refine ⟨_, rfl, ?_⟩; have n0_ := Aside0.mk (Kd.N_elder' (by (with_reducible repeat (first | apply Kd.N_alloc | apply Kd.N_drewN | apply Kd.N_drew)); exact HO_8.out) (by first | exact Kd.N_base ho0 | exact Kd.S_base ho0 | exact Kd.N_base (Kd.R_N ho0)) hb); have n1_ := Aside0.mk (Kd.R_below (by (with_reducible repeat (first | apply Kd.R_alloc | apply Kd.R_drewN | apply Kd.R_drew)); exact HO_9.out) hb); have n2_ := Aside0.mk (Kd.N_elder' (by (with_reducible repeat (first | apply Kd.N_alloc | apply Kd.N_drewN | apply Kd.N_drew)); exact HO_10.out) (by first | exact Kd.N_base ho0 | exact Kd.S_base ho0 | exact Kd.N_base (Kd.R_N ho0)) hb); have n3_ := Aside0.mk (Kd.N_elder' (by (with_reducible repeat (first | apply Kd.N_alloc | apply Kd.N_drewN | apply Kd.N_drew)); exact HO_15.out) (by first | exact Kd.N_base ho0 | exact Kd.S_base ho0 | exact Kd.N_base (Kd.R_N ho0)) hb); have n4_ := Aside0.mk (Kd.N_lower (Kd.N_mono (ok' := fun k_ => some k_ ≠ (.slice Ao32 t602.length co32 : Value).ownBlock ∧ some k_ ≠ (.slice Ao79 t603.length co79 : Value).ownBlock ∧ some k_ ≠ (.slice (some ad615) t609.length co34 : Value).ownBlock ∧ some k_ ≠ (.slice Ao80 x15_1.length co80 : Value).ownBlock) (Kd.S_N (Kd.S_bound ho0)) (fun k_ hk_ => ⟨(Kd.fresh' (Kd.N_lt (by (with_reducible repeat (first | apply Kd.N_alloc | apply Kd.N_drewN | apply Kd.N_drew)); exact HO_8.out)) k_ hk_.2.1), (Kd.fresh' (Kd.R_lt (by (with_reducible repeat (first | apply Kd.R_alloc | apply Kd.R_drewN | apply Kd.R_drew)); exact HO_9.out)) k_ hk_.2.1), (Kd.fresh' (Kd.N_lt (by (with_reducible repeat (first | apply Kd.N_alloc | apply Kd.N_drewN | apply Kd.N_drew)); exact HO_10.out)) k_ hk_.2.1), (Kd.fresh' (Kd.N_lt (by (with_reducible repeat (first | apply Kd.N_alloc | apply Kd.N_drewN | apply Kd.N_drew)); exact HO_15.out)) k_ hk_.2.1)⟩)) (below_size hb_)); have n5_ := Aside0.mk (below_step hb_ hb); clear HO_8; clear HO_9; clear HO_10; clear HO_15; clear HB; have HO_8 := n0_; have HO_9 := n1_; have HO_10 := n2_; have HO_15 := n3_; have HO635 := n4_; have HB := n5_; clear n0_ n1_ n2_ n3_ n4_ n5_; (try clear hb); (try clear hb2); (try clear hk); (try clear hi); (try clear ho0); (try (obtain ⟨Ao82, co82, eo82⟩ := Kd.N_slice HO635.out; subst eo82))) | ((with_reducible refine gate_callee (f := 26) rfl ?_); refine goesL_ (some 102) rfl rfl Try.func26 (by kernel_rfl) rfl #[.slice Ao82 t632.length co82] rfl mp_ ?_; (with_reducible refine (script_Spans.calls k1 _ _ t632 t636 t637 _ ?side1 ?side2 A44.out).mono ?_); (case side1 => repeat (first | exact (Kd.N_reads' HO635.out).2.2 | (with_reducible refine Kd.C_alloc ?_ _) | (with_reducible refine Kd.C_drewN ?_ _) | (with_reducible refine Kd.C_drew ?_))); (case side2 => exact (Kd.N_reads' HO635.out).2.1); rintro e w83 ⟨rfl, hb⟩; refine ⟨_, rfl, ?_⟩; have n0_ := Aside0.mk (Kd.N_below (by (with_reducible repeat (first | apply Kd.N_alloc | apply Kd.N_drewN | apply Kd.N_drew)); exact HO_8.out) hb); have n1_ := Aside0.mk (Kd.R_below (by (with_reducible repeat (first | apply Kd.R_alloc | apply Kd.R_drewN | apply Kd.R_drew)); exact HO_9.out) hb); have n2_ := Aside0.mk (Kd.N_below (by (with_reducible repeat (first | apply Kd.N_alloc | apply Kd.N_drewN | apply Kd.N_drew)); exact HO_10.out) hb); have n3_ := Aside0.mk (Kd.N_below (by (with_reducible repeat (first | apply Kd.N_alloc | apply Kd.N_drewN | apply Kd.N_drew)); exact HO_15.out) hb); have n4_ := Aside0.mk (Kd.N_below (by (with_reducible repeat (first | apply Kd.N_alloc | apply Kd.N_drewN | apply Kd.N_drew)); exact HO635.out) hb); have n5_ := Aside0.mk (below_step hb_ hb); clear HO_8; clear HO_9; clear HO_10; clear HO_15; clear HO635; clear HB; have HO_8 := n0_; have HO_9 := n1_; have HO_10 := n2_; have HO_15 := n3_; have HO635 := n4_; have HB := n5_; clear n0_ n1_ n2_ n3_ n4_ n5_; (try clear hb); (try clear hb2); (try clear hk); (try clear hi)))
            have n0_ := Aside0.mk (Kd.N_drew HO_8.out)
            have n1_ := Aside0.mk (Kd.R_drew HO_9.out)
            have n2_ := Aside0.mk (Kd.N_drew HO_10.out)
            have n3_ := Aside0.mk (Kd.N_drew HO_15.out)
            have n4_ := Aside0.mk (Kd.N_drew HO635.out)
            have n5_ := Aside0.mk (below_drew1 HB.out)
            clear HO_8
            clear HO_9
            clear HO_10
            clear HO_15
            clear HO635
            clear HB
            have HO_8 := n0_
            have HO_9 := n1_
            have HO_10 := n2_
            have HO_15 := n3_
            have HO635 := n4_
            have HB := n5_
            clear n0_ n1_ n2_ n3_ n4_ n5_
            refine start_ (n := 30) (S := fun w' => True) (ds := []) #[false, false, false, false, false, false, false, false, false, false, false, false, false, false, false, false, false, false, false, false, false, false, false, false, false, false, false, false, false, false] (by kernel_rfl) rfl rfl trivial (fun hHeld => ?_); refine with_tabW collatorlaw06_HunksFewer.tab17 collatorlaw06_HunksFewer.bits17 (fun HT_ HW_ => ?_)
            generalize w83.drew = w84 at HO_8 HO_9 HO_10 HO_15 HO635 HB hHeld ⊢
            refine pu_ (i := 0) (N := some 105) (any_of HT_.out (by kernel_rfl)) ?_
            refine pu_ (i := 1) (N := some 106) (any_of HT_.out (by kernel_rfl)) ?_
            refine pu_ (i := 2) (N := some 107) (any_of HT_.out (by kernel_rfl)) ?_
            refine pu_ (i := 3) (N := some 108) (any_of HT_.out (by kernel_rfl)) ?_
            refine pu_ (i := 4) (N := some 109) (any_of HT_.out (by kernel_rfl)) ?_
            refine pu_ (i := 5) (N := some 110) (any_of HT_.out (by kernel_rfl)) ?_
            refine ps_ (i := 6) (N := some 111) (any_of HT_.out (by kernel_rfl)) ?_
            refine ps_ (i := 7) (N := some 112) (any_of HT_.out (by kernel_rfl)) ?_
            refine pu_ (i := 8) (N := some 113) (any_of HT_.out (by kernel_rfl)) ?_
            refine pu_ (i := 9) (N := some 114) (any_of HT_.out (by kernel_rfl)) ?_
            refine ps_ (i := 10) (N := some 115) (any_of HT_.out (by kernel_rfl)) ?_
            refine ps_ (i := 11) (N := some 116) (any_of HT_.out (by kernel_rfl)) ?_
            refine ps_ (i := 12) (N := some 117) (any_of HT_.out (by kernel_rfl)) ?_
            refine ps_ (i := 13) (N := some 118) (any_of HT_.out (by kernel_rfl)) ?_
            refine pu_ (i := 14) (N := some 119) (any_of HT_.out (by kernel_rfl)) ?_
            refine pu_ (i := 15) (N := some 120) (any_of HT_.out (by kernel_rfl)) ?_
            refine ps_ (i := 16) (N := some 121) (any_of HT_.out (by kernel_rfl)) ?_
            refine ps_ (i := 17) (N := some 122) (any_of HT_.out (by kernel_rfl)) ?_
            refine ps_ (i := 18) (N := some 123) (any_of HT_.out (by kernel_rfl)) ?_
            refine ps_ (i := 19) (N := some 124) (any_of HT_.out (by kernel_rfl)) ?_
            refine ps_ (i := 20) (N := some 125) (any_of HT_.out (by kernel_rfl)) ?_
            refine ps_ (i := 21) (N := some 126) (any_of HT_.out (by kernel_rfl)) ?_
            refine ps_ (i := 22) (N := some 127) (any_of HT_.out (by kernel_rfl)) ?_
            refine ps_ (i := 23) (N := some 128) (any_of HT_.out (by kernel_rfl)) ?_
            refine ps_ (i := 24) (N := some 129) (any_of HT_.out (by kernel_rfl)) ?_
            refine ps_ (i := 25) (N := some 130) (any_of HT_.out (by kernel_rfl)) ?_
            refine ps_ (i := 26) (N := some 131) (any_of HT_.out (by kernel_rfl)) ?_
            refine ps_ (i := 27) (N := some 132) (any_of HT_.out (by kernel_rfl)) ?_
            refine pu_ (i := 28) (N := some 133) (any_of HT_.out (by kernel_rfl)) ?_
            refine pu_ (i := 29) (N := some 6) (any_of HT_.out (by kernel_rfl)) ?_
            refine done_ (done_of HT_.out (by kernel_rfl)) ?_
            try go_wp2
            go_ret
            exact ⟨by first | rfl | (simp [errW_none, errW_some] <;> rfl) | (simp [*, errW_none, errW_some] <;> rfl), by repeat (first | (with_reducible first | exact HB.out | apply below_alloc | apply pw_below_drewN | apply below_drew1) | exact HB.out)⟩
          ·replace c45 := Bool.eq_false_iff.mpr c45
           subst c45
           have H1 : (some false) = some r := by rw [if_neg (show ¬ (false = true) by decide)] at H; exact H
           clear H
           have H := H1
           clear H1
           obtain rfl := Option.some.inj H
           obtain ⟨Ao85, co85, eo85⟩ := Kd.R_slice HO_9.out
           subst eo85
           obtain ⟨Ao86, co86, eo86⟩ := Kd.N_slice HO_15.out
           subst eo86
           try go_wp2_with (first | ((with_reducible refine gate_callee (f := 18) rfl ?_); refine goesL_ (some 97) rfl rfl Try.func18 (by kernel_rfl) rfl #[.slice Ao86 x15_1.length co86, .int .i64 (t603.length : Int)] rfl mp_ ?_; (with_reducible refine (hunks_Script.calls k1 _ _ x15_1 (t603.length : Int) t632 t633 _ ?side1 ?side2 A43.out).mono ?_); (case side1 => repeat (first | exact (Kd.N_reads' HO_15.out).2.2 | (with_reducible refine Kd.C_alloc ?_ _) | (with_reducible refine Kd.C_drewN ?_ _) | (with_reducible refine Kd.C_drew ?_))); (case side2 => exact (Kd.N_reads' HO_15.out).2.1); rintro e w87 ⟨v634, rfl, ho0, hb⟩; refine ⟨_, rfl, ?_⟩; have n0_ := Aside0.mk (Kd.N_elder' (by (with_reducible repeat (first | apply Kd.N_alloc | apply Kd.N_drewN | apply Kd.N_drew)); exact HO_8.out) (by first | exact Kd.N_base ho0 | exact Kd.S_base ho0 | exact Kd.N_base (Kd.R_N ho0)) hb); have n1_ := Aside0.mk (Kd.R_below (by (with_reducible repeat (first | apply Kd.R_alloc | apply Kd.R_drewN | apply Kd.R_drew)); exact HO_9.out) hb); have n2_ := Aside0.mk (Kd.N_elder' (by (with_reducible repeat (first | apply Kd.N_alloc | apply Kd.N_drewN | apply Kd.N_drew)); exact HO_10.out) (by first | exact Kd.N_base ho0 | exact Kd.S_base ho0 | exact Kd.N_base (Kd.R_N ho0)) hb); have n3_ := Aside0.mk (Kd.N_elder' (by (with_reducible repeat (first | apply Kd.N_alloc | apply Kd.N_drewN | apply Kd.N_drew)); exact HO_15.out) (by first | exact Kd.N_base ho0 | exact Kd.S_base ho0 | exact Kd.N_base (Kd.R_N ho0)) hb); have n4_ := Aside0.mk (Kd.N_lower (Kd.N_mono (ok' := fun k_ => some k_ ≠ (.slice Ao32 t602.length co32 : Value).ownBlock ∧ some k_ ≠ (.slice Ao85 t603.length co85 : Value).ownBlock ∧ some k_ ≠ (.slice (some ad615) t609.length co34 : Value).ownBlock ∧ some k_ ≠ (.slice Ao86 x15_1.length co86 : Value).ownBlock) (Kd.S_N (Kd.S_bound ho0)) (fun k_ hk_ => ⟨(Kd.fresh' (Kd.N_lt (by (with_reducible repeat (first | apply Kd.N_alloc | apply Kd.N_drewN | apply Kd.N_drew)); exact HO_8.out)) k_ hk_.2.1), (Kd.fresh' (Kd.R_lt (by (with_reducible repeat (first | apply Kd.R_alloc | apply Kd.R_drewN | apply Kd.R_drew)); exact HO_9.out)) k_ hk_.2.1), (Kd.fresh' (Kd.N_lt (by (with_reducible repeat (first | apply Kd.N_alloc | apply Kd.N_drewN | apply Kd.N_drew)); exact HO_10.out)) k_ hk_.2.1), (Kd.fresh' (Kd.N_lt (by (with_reducible repeat (first | apply Kd.N_alloc | apply Kd.N_drewN | apply Kd.N_drew)); exact HO_15.out)) k_ hk_.2.1)⟩)) (below_size hb_)); have n5_ := Aside0.mk (below_step hb_ hb); clear HO_8; clear HO_9; clear HO_10; clear HO_15; clear HB; have HO_8 := n0_; have HO_9 := n1_; have HO_10 := n2_; have HO_15 := n3_; have HO635 := n4_; have HB := n5_; clear n0_ n1_ n2_ n3_ n4_ n5_; (try clear hb); (try clear hb2); (try clear hk); (try clear hi); (try clear ho0); (try (obtain ⟨Ao88, co88, eo88⟩ := Kd.N_slice HO635.out; subst eo88))) | ((with_reducible refine gate_callee (f := 26) rfl ?_); refine goesL_ (some 102) rfl rfl Try.func26 (by kernel_rfl) rfl #[.slice Ao88 t632.length co88] rfl mp_ ?_; (with_reducible refine (script_Spans.calls k1 _ _ t632 t636 t637 _ ?side1 ?side2 A44.out).mono ?_); (case side1 => repeat (first | exact (Kd.N_reads' HO635.out).2.2 | (with_reducible refine Kd.C_alloc ?_ _) | (with_reducible refine Kd.C_drewN ?_ _) | (with_reducible refine Kd.C_drew ?_))); (case side2 => exact (Kd.N_reads' HO635.out).2.1); rintro e w89 ⟨rfl, hb⟩; refine ⟨_, rfl, ?_⟩; have n0_ := Aside0.mk (Kd.N_below (by (with_reducible repeat (first | apply Kd.N_alloc | apply Kd.N_drewN | apply Kd.N_drew)); exact HO_8.out) hb); have n1_ := Aside0.mk (Kd.R_below (by (with_reducible repeat (first | apply Kd.R_alloc | apply Kd.R_drewN | apply Kd.R_drew)); exact HO_9.out) hb); have n2_ := Aside0.mk (Kd.N_below (by (with_reducible repeat (first | apply Kd.N_alloc | apply Kd.N_drewN | apply Kd.N_drew)); exact HO_10.out) hb); have n3_ := Aside0.mk (Kd.N_below (by (with_reducible repeat (first | apply Kd.N_alloc | apply Kd.N_drewN | apply Kd.N_drew)); exact HO_15.out) hb); have n4_ := Aside0.mk (Kd.N_below (by (with_reducible repeat (first | apply Kd.N_alloc | apply Kd.N_drewN | apply Kd.N_drew)); exact HO635.out) hb); have n5_ := Aside0.mk (below_step hb_ hb); clear HO_8; clear HO_9; clear HO_10; clear HO_15; clear HO635; clear HB; have HO_8 := n0_; have HO_9 := n1_; have HO_10 := n2_; have HO_15 := n3_; have HO635 := n4_; have HB := n5_; clear n0_ n1_ n2_ n3_ n4_ n5_; (try clear hb); (try clear hb2); (try clear hk); (try clear hi)))
           have n0_ := Aside0.mk (Kd.N_drew HO_8.out)
           have n1_ := Aside0.mk (Kd.R_drew HO_9.out)
           have n2_ := Aside0.mk (Kd.N_drew HO_10.out)
           have n3_ := Aside0.mk (Kd.N_drew HO_15.out)
           have n4_ := Aside0.mk (Kd.N_drew HO635.out)
           have n5_ := Aside0.mk (below_drew1 HB.out)
           clear HO_8
           clear HO_9
           clear HO_10
           clear HO_15
           clear HO635
           clear HB
           have HO_8 := n0_
           have HO_9 := n1_
           have HO_10 := n2_
           have HO_15 := n3_
           have HO635 := n4_
           have HB := n5_
           clear n0_ n1_ n2_ n3_ n4_ n5_
           refine start_ (n := 30) (S := fun w' => True) (ds := []) #[false, false, false, false, false, false, false, false, false, false, false, false, false, false, false, false, false, false, false, false, false, false, false, false, false, false, false, false, false, false] (by kernel_rfl) rfl rfl trivial (fun hHeld => ?_); refine with_tabW collatorlaw06_HunksFewer.tab17 collatorlaw06_HunksFewer.bits17 (fun HT_ HW_ => ?_)
           generalize w89.drew = w90 at HO_8 HO_9 HO_10 HO_15 HO635 HB hHeld ⊢
           refine pu_ (i := 0) (N := some 105) (any_of HT_.out (by kernel_rfl)) ?_
           refine pu_ (i := 1) (N := some 106) (any_of HT_.out (by kernel_rfl)) ?_
           refine ps_ (i := 2) (N := some 107) (any_of HT_.out (by kernel_rfl)) ?_
           refine ps_ (i := 3) (N := some 108) (any_of HT_.out (by kernel_rfl)) ?_
           refine pu_ (i := 4) (N := some 109) (any_of HT_.out (by kernel_rfl)) ?_
           refine pu_ (i := 5) (N := some 110) (any_of HT_.out (by kernel_rfl)) ?_
           refine ps_ (i := 6) (N := some 111) (any_of HT_.out (by kernel_rfl)) ?_
           refine ps_ (i := 7) (N := some 112) (any_of HT_.out (by kernel_rfl)) ?_
           refine pu_ (i := 8) (N := some 113) (any_of HT_.out (by kernel_rfl)) ?_
           refine pu_ (i := 9) (N := some 114) (any_of HT_.out (by kernel_rfl)) ?_
           refine ps_ (i := 10) (N := some 115) (any_of HT_.out (by kernel_rfl)) ?_
           refine ps_ (i := 11) (N := some 116) (any_of HT_.out (by kernel_rfl)) ?_
           refine ps_ (i := 12) (N := some 117) (any_of HT_.out (by kernel_rfl)) ?_
           refine ps_ (i := 13) (N := some 118) (any_of HT_.out (by kernel_rfl)) ?_
           refine pu_ (i := 14) (N := some 119) (any_of HT_.out (by kernel_rfl)) ?_
           refine pu_ (i := 15) (N := some 120) (any_of HT_.out (by kernel_rfl)) ?_
           refine ps_ (i := 16) (N := some 121) (any_of HT_.out (by kernel_rfl)) ?_
           refine ps_ (i := 17) (N := some 122) (any_of HT_.out (by kernel_rfl)) ?_
           refine ps_ (i := 18) (N := some 123) (any_of HT_.out (by kernel_rfl)) ?_
           refine ps_ (i := 19) (N := some 124) (any_of HT_.out (by kernel_rfl)) ?_
           refine ps_ (i := 20) (N := some 125) (any_of HT_.out (by kernel_rfl)) ?_
           refine ps_ (i := 21) (N := some 126) (any_of HT_.out (by kernel_rfl)) ?_
           refine ps_ (i := 22) (N := some 127) (any_of HT_.out (by kernel_rfl)) ?_
           refine ps_ (i := 23) (N := some 128) (any_of HT_.out (by kernel_rfl)) ?_
           refine ps_ (i := 24) (N := some 129) (any_of HT_.out (by kernel_rfl)) ?_
           refine ps_ (i := 25) (N := some 130) (any_of HT_.out (by kernel_rfl)) ?_
           refine ps_ (i := 26) (N := some 131) (any_of HT_.out (by kernel_rfl)) ?_
           refine ps_ (i := 27) (N := some 132) (any_of HT_.out (by kernel_rfl)) ?_
           refine pu_ (i := 28) (N := some 133) (any_of HT_.out (by kernel_rfl)) ?_
           refine pu_ (i := 29) (N := some 6) (any_of HT_.out (by kernel_rfl)) ?_
           refine done_ (done_of HT_.out (by kernel_rfl)) ?_
           try go_wp2
           go_ret
           exact ⟨by first | rfl | (simp [errW_none, errW_some] <;> rfl) | (simp [*, errW_none, errW_some] <;> rfl), by repeat (first | (with_reducible first | exact HB.out | apply below_alloc | apply pw_below_drewN | apply below_drew1) | exact HB.out)⟩
      ·rw [if_neg c29] at H
       exact absurd H (by simp)
     ·rw [if_neg c28] at H
      exact absurd H (by simp)
    ·rw [if_neg c25] at H
     exact absurd H (by simp)
   ·rw [if_neg c24] at H
    exact absurd H (by simp)
 ·rw [if_neg c8] at H
  have c8b0 : (t610 == 0) = false := beq_eq_false_iff_ne.mpr c8
  have c8b1 : (t610 != 0) = true := bne_iff_ne.mpr c8
  obtain rfl := Option.some.inj H
  go_enter Try.func7, Try.ntmps7
  go_wp2_with (first | ((with_reducible refine gate_callee (f := 9) rfl ?_); refine goesL_ (some 21) rfl rfl Try.func9 (by kernel_rfl) rfl #[] rfl mp_ ?_; (with_reducible refine (collatorlaw06_awake.calls  t601 _ A4.out).mono ?_); rintro e w91 ⟨rfl, hb⟩; refine ⟨_, rfl, ?_⟩; have n0_ := Aside0.mk (below_step hb_ hb); clear HB; have HB := n0_; clear n0_; (try clear hb); (try clear hb2); (try clear hk); (try clear hi)) | ((with_reducible refine gate_callee (f := 10) rfl ?_); refine goesL_ (some 24) rfl rfl Try.func10 (by kernel_rfl) rfl #[.slice A0 l0.length c0, .slice none 0 0] rfl mp_ ?_; (refine (collatorlaw04_Script.calls k _ _ l0 _ _ ([] : List Int) t602 t603 _ ?side1 ?side2 ?side3 ?side4 A5.out).mono ?_); (case side1 => repeat (first | exact (Kd.C_below HR0.out HB.out) | (with_reducible refine Kd.C_alloc ?_ _) | (with_reducible refine Kd.C_drewN ?_ _) | (with_reducible refine Kd.C_drew ?_))); (case side2 => exact HC0.out); (case side3 => exact Kd.C_nil _ _); (case side4 => exact Nat.le_refl _); rintro e w92 ⟨v604, v606, rfl, ho0, ho1, hb⟩; refine ⟨_, rfl, ?_⟩; have n0_ := Aside0.mk (Kd.N_lower (Kd.N_mono (ok' := fun k_ => some k_ ≠ (v606 : Value).ownBlock) (Kd.S_N (Kd.S_bound ho0)) (fun k_ hk_ => hk_.1)) (below_size hb_)); have n1_ := Aside0.mk (Kd.R_lower ho1 (below_size hb_)); have n2_ := Aside0.mk (below_step hb_ hb); clear HB; have HO605 := n0_; have HO607 := n1_; have HB := n2_; clear n0_ n1_ n2_; (try clear hb); (try clear hb2); (try clear hk); (try clear hi); (try clear ho0); (try clear ho1)) | ((with_reducible refine gate_callee (f := 11) rfl ?_); refine goesL_ (some 30) rfl rfl Try.func11 (by kernel_rfl) rfl #[.int .i64 a1, .int .i64 4] rfl mp_ ?_; (with_reducible refine (collatorlaw06_pick.calls a1 4 t608 _ A6.out).mono ?_); rintro e w' ⟨rfl, ⟨nd, rfl⟩⟩; refine ⟨_, rfl, ?_⟩; (try (obtain ⟨Ao93, co93, eo93⟩ := Kd.N_slice HO605.out; subst eo93))) | ((with_reducible refine gate_callee (f := 12) rfl ?_); refine goesL_ (some 31) rfl rfl Try.func12 (by kernel_rfl) rfl #[.slice Ao93 t602.length co93, .int .i64 t608] rfl mp_ ?_; (with_reducible refine (hunks_Make.calls k _ _ t602 t608 t609 t610 _ ?side1 ?side2 A7.out).mono ?_); (case side1 => repeat (first | exact (Kd.N_reads' HO605.out).2.2 | (with_reducible refine Kd.C_alloc ?_ _) | (with_reducible refine Kd.C_drewN ?_ _) | (with_reducible refine Kd.C_drew ?_))); (case side2 => exact (Kd.N_reads' HO605.out).2.1); rintro e w94 ⟨v611, rfl, ho0, hb⟩; refine ⟨_, rfl, ?_⟩; have n0_ := Aside0.mk (Kd.N_elder' (by (with_reducible repeat (first | apply Kd.N_alloc | apply Kd.N_drewN | apply Kd.N_drew)); exact HO605.out) (by first | exact Kd.N_base ho0 | exact Kd.S_base ho0 | exact Kd.N_base (Kd.R_N ho0)) hb); have n1_ := Aside0.mk (Kd.R_below (by (with_reducible repeat (first | apply Kd.R_alloc | apply Kd.R_drewN | apply Kd.R_drew)); exact HO607.out) hb); have n2_ := Aside0.mk (Kd.N_lower (Kd.N_mono (ok' := fun k_ => some k_ ≠ (.slice Ao93 t602.length co93 : Value).ownBlock ∧ some k_ ≠ (v606 : Value).ownBlock) (Kd.R_N (Kd.R_bound ho0)) (fun k_ hk_ => ⟨(Kd.fresh' (Kd.N_lt (by (with_reducible repeat (first | apply Kd.N_alloc | apply Kd.N_drewN | apply Kd.N_drew)); exact HO605.out)) k_ hk_.2.1), (Kd.fresh' (Kd.R_lt (by (with_reducible repeat (first | apply Kd.R_alloc | apply Kd.R_drewN | apply Kd.R_drew)); exact HO607.out)) k_ hk_.2.1)⟩)) (below_size hb_)); have n3_ := Aside0.mk (below_step hb_ hb); clear HO605; clear HO607; clear HB; have HO605 := n0_; have HO607 := n1_; have HO612 := n2_; have HB := n3_; clear n0_ n1_ n2_ n3_; (try clear hb); (try clear hb2); (try clear hk); (try clear hi); (try clear ho0)))
  go_ret
  exact ⟨by first | rfl | (simp [errW_none, errW_some] <;> rfl) | (simp [*, errW_none, errW_some] <;> rfl), by repeat (first | (with_reducible first | exact HB.out | apply below_alloc | apply pw_below_drewN | apply below_drew1) | exact HB.out)⟩

/-- THE ONE PURE STATEMENT of collatorlaw06_HunksFewer: yours. -/
def collatorlaw06_HunksFewer.Pure : Prop := ∀ (l0 : List Int) (a1 : Int) (a2 : Int), l0.length ≤ maxLen → l0.length * 8 ≤ 140737488351232 → (∀ x ∈ l0, (Lit.int .i64 x).wf = true) → (Lit.int .i64 a1).wf = true → (Lit.int .i64 a2).wf = true → ∃ k, collatorlaw06_HunksFewer.f k l0 a1 a2 = some true
theorem collatorlaw06_HunksFewer.walk (P : collatorlaw06_HunksFewer.Pure) (a0 : Option Addr) (len0 cap0 : Nat) (z0 : List Int) (a1 : Int) (a2 : Int) (w : World) (w0 : (a0 = none ∧ len0 = 0 ∧ cap0 = 0 ∧ z0 = []) ∨ ∃ x, a0 = some x ∧ len0 ≤ cap0 ∧ cap0 ≤ maxLen ∧ z0.length = cap0 ∧ (∀ i, i < z0.length → w.cell? (x.add i) = some (.int .i64 (z0.getD i 0))) ∧ ∀ n ∈ z0, (Lit.int .i64 n).wf = true) (y0 : len0 * 8 ≤ 140737488351232) (w1 : (Lit.int .i64 a1).wf = true) (w2 : (Lit.int .i64 a2).wf = true) :
  Calls Try.prog 7 #[.slice a0 len0 cap0, .int .i64 a1, .int .i64 a2] w fun e w' => e = .returned (.bool true) ∧ Below w.heap.size w w' := by
 obtain ⟨l0, rfl, hr0, hm0, hw0, hc0⟩ := ReadsInt.ofRowC w0
 obtain ⟨k, h⟩ := P l0 a1 a2 hm0 y0 hw0 w1 w2
 refine (collatorlaw06_HunksFewer.calls k _ _ l0 a1 a2 true w (Kd.C_of_reads (d := (0 : Int)) (h1 := fun _ => rfl) hr0) hc0 h).mono ?_
 rintro e w' ⟨rfl, hd⟩
 exact ⟨rfl, hd⟩

end Go.Proofs.Ytgobidmfbjmpkaa.P
