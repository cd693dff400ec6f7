/- Laid for this claim by hp.py, this session's program round the kit's print: functions of the program as plain Lean functions, the proofs that the code comes to their answers, and the rows of the laws. Not trusted: Lean checks it. -/
import Derived.Test.YthjihdfgamdhmaaHStrs
import Derived.Test.YthjihdfgamdhmaaHMin
import Derived.Test.YthjihdfgamdhmaaPx0
import Derived.Test.YthjihdfgamdhmaaPxf8
import Derived.Test.YthjihdfgamdhmaaPxf10
import Derived.Test.YthjihdfgamdhmaaEAwake3
import Derived.Test.YthjihdfgamdhmaaEJoin
import Derived.Test.YthjihdfgamdhmaaERight
namespace Go.Proofs.Ythjihdfgamdhmaa.P
open Go.RowKit Go.Proofs.YthjihdfgamdhmaaW.PrintWords Go.Proofs.YthjihdfgamdhmaaW.PrintLast Go.Proofs.YthjihdfgamdhmaaW.PrintMore
attribute [local go_sem] Go.Proofs.Ythjihdfgamdhmaa.HMin.max2_mx Go.Proofs.Ythjihdfgamdhmaa.HMin.min2_mn max_two min_two max_three min_three max_four min_four   -- for this text's walks alone
set_option linter.unusedVariables false
set_option linter.unusedSimpArgs false

/-! ### collatorlaw03_RowsRight: function 3 -/
mutual
def collatorlaw03_RowsRight.j0 : Nat → List ByteArray → List Int → Int → ByteArray → Bool → List ByteArray → Bool → Option (Bool)
 | 0, _, _, _, _, _, _, _ => none
 | k + 1, x0, x1, x2, x3, x9, x10, x22 => if x22 = true then (if (x10.length : Int) = 0 then (none) else (if 0 ≤ (Int.tmod x2 (x10.length : Int)) then (if (Int.tmod x2 (x10.length : Int)) < (x10.length : Int) then (collatorlaw03_RowsRight.j1 k x0 x1 x9 (x10.set ((Int.tmod x2 (x10.length : Int)) : Int).toNat x3)) else (none)) else (none))) else (collatorlaw03_RowsRight.j1 k x0 x1 x9 x10)
def collatorlaw03_RowsRight.j1 : Nat → List ByteArray → List Int → Bool → List ByteArray → Option (Bool)
 | 0, _, _, _, _ => none
 | k + 1, x0, x1, x9, x10 => if 0 ≤ (mn (x0.length : Int) 20) then (if (mn (x0.length : Int) 20) ≤ (x0.length : Int) then ((collatorlaw03_Lines.f k x1 20).bind fun t128 => ((some (([(x0.take ((mn (x0.length : Int) 20) : Int).toNat), x10, t128] : List (List ByteArray)) : List (List ByteArray))).bind fun y131 => (collatorlaw03_RowsRight.l0 k x1 x9 y131 (y131.length : Int) 0))) else (none)) else (none)
def collatorlaw03_RowsRight.l0 : Nat → List Int → Bool → List (List ByteArray) → Int → Int → Option (Bool)
 | 0, _, _, _, _, _ => none
 | k + 1, x1, x9, x38, x39, x40 => if x40 < x39 then (if 0 ≤ x40 then (if x40 < (x38.length : Int) then ((rows_Right.f (rd_L3 x38 x40)).bind fun t139 => ((rows_Join.f (rd_L3 x38 x40)).bind fun t140 => ((rows_Split.f t140).bind fun t141 => ((collatorref01_Texts.f k t141 (rd_L3 x38 x40)).bind fun t144 => (if (t139 != t144) = true then (some false) else (collatorlaw03_RowsRight.l0 k x1 x9 x38 x39 (wrap64 (x40 + 1)))))))) else (none)) else (none)) else (if x9 = true then ((collatorlaw03_Lines.f k x1 20).bind fun t134 => ((rows_Right.f t134).bind fun t137 => (some t137))) else (some false))
end
def collatorlaw03_RowsRight.f (k : Nat) (l0 : List ByteArray) (l1 : List Int) (a2 : Int) (a3 : ByteArray) : Option (Bool) := (collatorlaw03_awake.f).bind fun t118 => ((collatorlaw03_Lines.f k l1 20).bind fun t119 => (if (t119.length : Int) > 0 then (collatorlaw03_RowsRight.j0 k l0 l1 a2 a3 t118 t119 (decide (a2 ≥ 0))) else (collatorlaw03_RowsRight.j0 k l0 l1 a2 a3 t118 t119 false)))
theorem collatorlaw03_RowsRight.mono_l : ∀ k, (∀ y0 y1 y2 y3 y4 y5 y6, LeO (collatorlaw03_RowsRight.j0 k y0 y1 y2 y3 y4 y5 y6) (collatorlaw03_RowsRight.j0 (k + 1) y0 y1 y2 y3 y4 y5 y6)) ∧ (∀ y0 y1 y2 y3, LeO (collatorlaw03_RowsRight.j1 k y0 y1 y2 y3) (collatorlaw03_RowsRight.j1 (k + 1) y0 y1 y2 y3)) ∧ (∀ y0 y1 y2 y3 y4, LeO (collatorlaw03_RowsRight.l0 k y0 y1 y2 y3 y4) (collatorlaw03_RowsRight.l0 (k + 1) y0 y1 y2 y3 y4))
 | 0 => ⟨fun _ _ _ _ _ _ _ r h => by simp [collatorlaw03_RowsRight.j0] at h, fun _ _ _ _ r h => by simp [collatorlaw03_RowsRight.j1] at h, fun _ _ _ _ _ r h => by simp [collatorlaw03_RowsRight.l0] at h⟩
 | k + 1 => by
  obtain ⟨ih0, ih1, ih2⟩ := collatorlaw03_RowsRight.mono_l k
  refine ⟨?_, ?_, ?_⟩
  ·intro y0 y1 y2 y3 y4 y5 y6
   unfold collatorlaw03_RowsRight.j0
   repeat' first
   | (with_reducible exact ih0 _ _ _ _ _ _ _)
   | (with_reducible exact ih1 _ _ _ _)
   | (with_reducible exact ih2 _ _ _ _ _)
   | (with_reducible exact collatorlaw03_Lines.mono _ _ _)
   | (with_reducible exact collatorref01_Texts.mono _ _ _)
   | (with_reducible exact LeO.refl _)
   | (with_reducible exact LeO.none _)
   | (with_reducible refine LeO.ite ?_ ?_)
   | (with_reducible refine LeO.bind ?_ (fun _ => ?_))
   | exact ih0 _ _ _ _ _ _ _
   | exact ih1 _ _ _ _
   | exact ih2 _ _ _ _ _
   | exact collatorlaw03_Lines.mono _ _ _
   | exact collatorref01_Texts.mono _ _ _
   | exact LeO.none _
   | refine LeO.ite ?_ ?_
   | refine LeO.bind ?_ (fun _ => ?_)
  ·intro y0 y1 y2 y3
   unfold collatorlaw03_RowsRight.j1
   repeat' first
   | (with_reducible exact ih0 _ _ _ _ _ _ _)
   | (with_reducible exact ih1 _ _ _ _)
   | (with_reducible exact ih2 _ _ _ _ _)
   | (with_reducible exact collatorlaw03_Lines.mono _ _ _)
   | (with_reducible exact collatorref01_Texts.mono _ _ _)
   | (with_reducible exact LeO.refl _)
   | (with_reducible exact LeO.none _)
   | (with_reducible refine LeO.ite ?_ ?_)
   | (with_reducible refine LeO.bind ?_ (fun _ => ?_))
   | exact ih0 _ _ _ _ _ _ _
   | exact ih1 _ _ _ _
   | exact ih2 _ _ _ _ _
   | exact collatorlaw03_Lines.mono _ _ _
   | exact collatorref01_Texts.mono _ _ _
   | exact LeO.none _
   | refine LeO.ite ?_ ?_
   | refine LeO.bind ?_ (fun _ => ?_)
  ·intro y0 y1 y2 y3 y4
   unfold collatorlaw03_RowsRight.l0
   repeat' first
   | (with_reducible exact ih0 _ _ _ _ _ _ _)
   | (with_reducible exact ih1 _ _ _ _)
   | (with_reducible exact ih2 _ _ _ _ _)
   | (with_reducible exact collatorlaw03_Lines.mono _ _ _)
   | (with_reducible exact collatorref01_Texts.mono _ _ _)
   | (with_reducible exact LeO.refl _)
   | (with_reducible exact LeO.none _)
   | (with_reducible refine LeO.ite ?_ ?_)
   | (with_reducible refine LeO.bind ?_ (fun _ => ?_))
   | exact ih0 _ _ _ _ _ _ _
   | exact ih1 _ _ _ _
   | exact ih2 _ _ _ _ _
   | exact collatorlaw03_Lines.mono _ _ _
   | exact collatorref01_Texts.mono _ _ _
   | exact LeO.none _
   | refine LeO.ite ?_ ?_
   | refine LeO.bind ?_ (fun _ => ?_)
theorem collatorlaw03_RowsRight.mono : ∀ a0 a1 a2 a3 k, LeO (collatorlaw03_RowsRight.f k a0 a1 a2 a3) (collatorlaw03_RowsRight.f (k + 1) a0 a1 a2 a3) := by
 intro a0 a1 a2 a3 k
 obtain ⟨ih0, ih1, ih2⟩ := collatorlaw03_RowsRight.mono_l k
 unfold collatorlaw03_RowsRight.f
 repeat' first
   | (with_reducible exact ih0 _ _ _ _ _ _ _)
   | (with_reducible exact ih1 _ _ _ _)
   | (with_reducible exact ih2 _ _ _ _ _)
   | (with_reducible exact collatorlaw03_Lines.mono _ _ _)
   | (with_reducible exact collatorref01_Texts.mono _ _ _)
   | (with_reducible exact LeO.refl _)
   | (with_reducible exact LeO.none _)
   | (with_reducible refine LeO.ite ?_ ?_)
   | (with_reducible refine LeO.bind ?_ (fun _ => ?_))
   | exact ih0 _ _ _ _ _ _ _
   | exact ih1 _ _ _ _
   | exact ih2 _ _ _ _ _
   | exact collatorlaw03_Lines.mono _ _ _
   | exact collatorref01_Texts.mono _ _ _
   | exact LeO.none _
   | refine LeO.ite ?_ ?_
   | refine LeO.bind ?_ (fun _ => ?_)
def collatorlaw03_RowsRight.T5 : Bool × List (List Nat × List Nat) := (true, [([], []), ([], []), ([1], [1]), ([2], [2]), ([0, 3], [0, 3]), ([], []), ([], []), ([6], [6]), ([4, 5, 7], [4, 5, 7]), ([8], [8]), ([], [])])
def collatorlaw03_RowsRight.B5 : List Nat := [0, 0, 2, 6, 15, 0, 0, 64, 255, 511, 0]
theorem collatorlaw03_RowsRight.tab5 : rtab .any (opsOf Try.f3 5) = collatorlaw03_RowsRight.T5 := by kernel_rfl
theorem collatorlaw03_RowsRight.bits5 : waitsOk collatorlaw03_RowsRight.T5.2 collatorlaw03_RowsRight.B5 = true := by kernel_rfl
set_option maxHeartbeats 8000000 in
set_option maxRecDepth 100000 in
theorem collatorlaw03_RowsRight.calls (k : Nat) (P0_ : Nat → Prop) (A0 : Option Addr) (c0 : Nat) (l0 : List ByteArray) (A1 : Option Addr) (c1 : Nat) (l1 : List Int) (a2 : Int) (a3 : ByteArray) (r : Bool) (w : World) (hs0 : Kd.V Kd.string 9 w w.heap.size (fun k_ => P0_ k_) (.slice A0 l0.length c0) l0) (hr1 : Kd.C (Kd.int .i64) w A1 l1.length l1) (hc1 : l1.length ≤ c1) (h : collatorlaw03_RowsRight.f k l0 l1 a2 a3 = some r) :
  Calls Try.prog 3 #[.slice A0 l0.length c0, .slice A1 l1.length c1, .int .i64 a2, .string a3] w fun e w' => e = .returned (.bool r) ∧ Below w.heap.size w w' := by
 have HO0 := Aside0.mk (show Kd.V Kd.string 9 w w.heap.size (fun k_ => (P0_ k_ ∨ w.heap.size ≤ k_)) (.slice A0 l0.length c0) l0 from Kd.V_mono hs0 (fun k_ hk => .inl hk))
 have HR1 := Aside0.mk hr1
 have HC1 := Aside0.mk hc1
 clear hr1 hc1
 have HB := Aside0.mk (Below.refl w.heap.size w)
 have H : ((collatorlaw03_awake.f).bind fun t118 => ((collatorlaw03_Lines.f k l1 20).bind fun t119 => (if (t119.length : Int) > 0 then (collatorlaw03_RowsRight.j0 k l0 l1 a2 a3 t118 t119 (decide (a2 ≥ 0))) else (collatorlaw03_RowsRight.j0 k l0 l1 a2 a3 t118 t119 false)))) = some r := h
 clear h
 replace H := Option.bind_eq_some_iff.mp H
 obtain ⟨t118, A50, H⟩ := H
 replace H : ((collatorlaw03_Lines.f k l1 20).bind fun t119 => (if (t119.length : Int) > 0 then (collatorlaw03_RowsRight.j0 k l0 l1 a2 a3 t118 t119 (decide (a2 ≥ 0))) else (collatorlaw03_RowsRight.j0 k l0 l1 a2 a3 t118 t119 false))) = some r := H
 have A5 := Aside0.mk A50
 clear A50
 replace H := Option.bind_eq_some_iff.mp H
 obtain ⟨t119, A60, H⟩ := H
 replace H : (if (t119.length : Int) > 0 then (collatorlaw03_RowsRight.j0 k l0 l1 a2 a3 t118 t119 (decide (a2 ≥ 0))) else (collatorlaw03_RowsRight.j0 k l0 l1 a2 a3 t118 t119 false)) = some r := H
 have A6 := Aside0.mk A60
 clear A60
 have HC7 := Aside0.mk H
 clear H
 go_enter Try.func3, Try.ntmps3
 go_upto_region 3 with (first | ((with_reducible refine gate_callee (f := 7) rfl ?_); refine goesL_ _ rfl rfl Try.func7 (by kernel_rfl) rfl #[] rfl (by (try simp only [List.map_toArray, List.map_cons, List.map_nil]); first | done | rfl | (simp only [List.length_drop, List.length_take]; rfl)) ?_; (with_reducible refine (collatorlaw03_awake.calls  t118 _ A5.out).mono ?_); rintro e w8 ⟨rfl, hb⟩; refine ⟨_, rfl, ?_⟩; have n0_ := Aside0.mk (Kd.V_below (by (with_reducible repeat (first | apply Kd.V_alloc | apply Kd.V_drewN | apply Kd.V_drew)); exact HO0.out) hb); have n1_ := Aside0.mk (below_step (by repeat (first | (with_reducible first | exact HB.out | apply below_alloc | apply pw_below_drewN | apply below_drew1) | exact HB.out)) hb); clear HO0; clear HB; have HO0 := n0_; have HB := n1_; clear n0_ n1_; (try clear hb); (try clear hb2); (try clear hk); (try clear hi)) | ((with_reducible refine gate_callee (f := 8) rfl ?_); refine goesL_ _ rfl rfl Try.func8 (by kernel_rfl) rfl #[.slice A1 l1.length c1, .int .i64 20] rfl (by (try simp only [List.map_toArray, List.map_cons, List.map_nil]); first | done | rfl | (simp only [List.length_drop, List.length_take]; rfl)) ?_; (with_reducible refine (collatorlaw03_Lines.calls k _ _ l1 20 t119 _ ?side1 ?side2 A6.out).mono ?_); (case side1 => repeat (first | exact (Kd.C_below HR1.out HB.out) | (with_reducible refine Kd.C_alloc ?_ _) | (with_reducible refine Kd.C_drewN ?_ _) | (with_reducible refine Kd.C_drew ?_))); (case side2 => exact HC1.out); rintro e w9 ⟨v120, rfl, ho0, hb⟩; refine ⟨_, rfl, ?_⟩; have n0_ := Aside0.mk (Kd.V_elder' (by (with_reducible repeat (first | apply Kd.V_alloc | apply Kd.V_drewN | apply Kd.V_drew)); exact HO0.out) (Kd.R_base ho0) hb); have n1_ := Aside0.mk (Kd.R_lower (Kd.R_newM (M := fun k_ => (w.heap.size ≤ k_)) ho0 (below_size (by repeat (first | (with_reducible first | exact HB.out | apply below_alloc | apply pw_below_drewN | apply below_drew1) | exact HB.out))) (fun k_ h_ => h_)) (below_size (by repeat (first | (with_reducible first | exact HB.out | apply below_alloc | apply pw_below_drewN | apply below_drew1) | exact HB.out)))); have n2_ := Aside0.mk (below_step (by repeat (first | (with_reducible first | exact HB.out | apply below_alloc | apply pw_below_drewN | apply below_drew1) | exact HB.out)) hb); clear HO0; clear HB; have HO0 := n0_; have HO121 := n1_; have HB := n2_; clear n0_ n1_ n2_; (try clear hb); (try clear hb2); (try clear hk); (try clear hi); (try clear ho0)))
 (try simp only [Act.put, List.setIfInBounds_toArray, List.set_cons_zero, List.set_cons_succ])
 go_cut [22] (fun v22 wc => ∃ (kq : Nat) (x22_6 : Bool), v22 = .bool x22_6 ∧ Aside0 (collatorlaw03_RowsRight.j0 kq l0 l1 a2 a3 t118 t119 x22_6 = some r) ∧ Aside0 (kq ≤ k) ∧ Aside0 (Kd.V Kd.string 9 wc w.heap.size (fun k_ => (P0_ k_ ∨ w.heap.size ≤ k_) ∧ some k_ ≠ (v120 : Value).ownBlock) (.slice A0 l0.length c0) l0) ∧ Aside0 (Kd.R Kd.string 9 wc w.heap.size (fun k_ => (w.heap.size ≤ k_)) v120 t119) ∧ Aside0 (Below w.heap.size w wc))
 case first =>
  have H := HC7.out
  clear HC7
  by_cases c10 : (t119.length : Int) > 0
  ·rw [if_pos c10] at H
   have c10b0 : decide (0 < (t119.length : Int)) = true := decide_eq_true c10
   have c10b1 : decide (0 < t119.length) = true := decide_eq_true (by omega)
   clear c10
   (first | rw [c10b0] | rw [c10b1] | (simp only [i64_w, i32_w]; rw [c10b0]) | skip)
   have H' := Aside0.mk H
   clear H
   obtain ⟨Ao11, co11, eo11⟩ := Kd.R_slice HO121.out
   subst eo11
   go_wp2
   go_meet
   case rel => exact ⟨_, (decide (a2 ≥ 0)), (by first | rfl | (simp; done) | (simp [*]; done)), H', ⟨by first | omega | exact Nat.le_refl _⟩, ⟨by (with_reducible repeat (first | apply Kd.V_alloc | apply Kd.V_drewN | apply Kd.V_drew)); exact HO0.out⟩, ⟨by (with_reducible repeat (first | apply Kd.R_alloc | apply Kd.R_drewN | apply Kd.R_drew)); exact Kd.R_mono HO121.out (fun _ hk => hk.1)⟩, ⟨by repeat (first | (with_reducible first | exact HB.out | apply below_alloc | apply pw_below_drewN | apply below_drew1) | exact HB.out)⟩⟩
  ·rw [if_neg c10] at H
   have c10b0 : decide (0 < (t119.length : Int)) = false := decide_eq_false c10
   have c10b1 : decide (0 < t119.length) = false := decide_eq_false (by omega)
   clear c10
   (first | rw [c10b0] | rw [c10b1] | (simp only [i64_w, i32_w]; rw [c10b0]) | skip)
   have H' := Aside0.mk H
   clear H
   obtain ⟨Ao12, co12, eo12⟩ := Kd.R_slice HO121.out
   subst eo12
   go_wp2
   go_meet
   case rel => exact ⟨_, (false), (by first | rfl | (simp; done) | (simp [*]; done)), H', ⟨by first | omega | exact Nat.le_refl _⟩, ⟨by (with_reducible repeat (first | apply Kd.V_alloc | apply Kd.V_drewN | apply Kd.V_drew)); exact HO0.out⟩, ⟨by (with_reducible repeat (first | apply Kd.R_alloc | apply Kd.R_drewN | apply Kd.R_drew)); exact Kd.R_mono HO121.out (fun _ hk => hk.1)⟩, ⟨by repeat (first | (with_reducible first | exact HB.out | apply below_alloc | apply pw_below_drewN | apply below_drew1) | exact HB.out)⟩⟩
 case rest =>
  clear HC7
  (try clear c1);(try clear p2);(try clear c3);(try clear c7);(try clear c8);(try clear c10);(try clear c10b0);(try clear c10b1)
  obtain ⟨kq, x22_6, rfl, HA, HJ6, HO_0, HO_10, HB⟩ := hcut
  cases kq with
  | zero => exact absurd HA.out (by simp [collatorlaw03_RowsRight.j0])
  | succ kj6 =>
   have H := HA.out
   clear HA
   simp only [collatorlaw03_RowsRight.j0] at H
   have HC13 := Aside0.mk H
   clear H
   go_upto_if 22 with (fail)
   go_cut [] (fun wc => ∃ (kq : Nat) (x10_12 : List ByteArray), Aside0 (collatorlaw03_RowsRight.j1 kq l0 l1 t118 x10_12 = some r) ∧ Aside0 (kq ≤ kj6) ∧ Aside0 (Kd.V Kd.string 9 wc w.heap.size (fun k_ => (P0_ k_ ∨ w.heap.size ≤ k_) ∧ some k_ ≠ (v120 : Value).ownBlock) (.slice A0 l0.length c0) l0) ∧ Aside0 (Kd.R Kd.string 9 wc w.heap.size (fun k_ => (w.heap.size ≤ k_)) v120 x10_12) ∧ Aside0 (Below w.heap.size w wc))
   case first =>
    have H := HC13.out
    clear HC13
    by_cases c14 : x22_6 = true
    ·subst c14
     have H1 : (if (t119.length : Int) = 0 then (none) else (if 0 ≤ (Int.tmod a2 (t119.length : Int)) then (if (Int.tmod a2 (t119.length : Int)) < (t119.length : Int) then (collatorlaw03_RowsRight.j1 kj6 l0 l1 t118 (t119.set ((Int.tmod a2 (t119.length : Int)) : Int).toNat a3)) else (none)) else (none))) = some r := by rw [if_pos rfl] at H; exact H
     clear H
     have H := H1
     clear H1
     by_cases c15 : (t119.length : Int) = 0
     ·rw [if_pos c15] at H
      exact absurd H (by simp)
     ·rw [if_neg c15] at H
      have c15b0 : ((t119.length : Int) == 0) = false := beq_eq_false_iff_ne.mpr c15
      have c15b1 : ((t119.length : Int) != 0) = true := bne_iff_ne.mpr c15
      have c15b2 : ¬ (t119 = []) := fun h_ => c15 (by rw [h_]; rfl)
      (first | rw [c15b0] | rw [c15b1] | (simp only [i64_w, i32_w]; rw [c15b0]) | skip)
      obtain ⟨ji16, hji16⟩ : ∃ j_ : Int, (Int.tmod a2 (t119.length : Int)) = j_ := ⟨_, rfl⟩
      replace H : (if 0 ≤ (ji16) then (if (ji16) < (t119.length : Int) then (collatorlaw03_RowsRight.j1 kj6 l0 l1 t118 (t119.set ((ji16) : Int).toNat a3)) else (none)) else (none)) = some r := by first | (rw [hji16] at H; exact H) | (simp only [hji16] at H ⊢; exact H)
      by_cases c17 : 0 ≤ (ji16)
      ·rw [if_pos c17] at H
       have c17b0 : decide (0 ≤ (ji16)) = true := decide_eq_true c17
       clear c17
       by_cases c18 : (ji16) < (t119.length : Int)
       ·rw [if_pos c18] at H
        have c18b0 : decide ((ji16) < (t119.length : Int)) = true := decide_eq_true c18
        clear c18
        obtain ⟨y122, hy122⟩ : ∃ y_ : List ByteArray, y_ = (t119.set ((ji16) : Int).toNat a3) := ⟨_, rfl⟩
        replace H : (collatorlaw03_RowsRight.j1 kj6 l0 l1 t118 y122) = some r := by first | (rw [hy122]; with_reducible exact H) | (have H2_ := (Option.bind_some _ _).symm.trans H; rw [hy122]; with_reducible exact H2_) | (have H2_ := (Option.bind_some _ _).symm.trans H; with_reducible exact H2_) | with_reducible exact H | (rw [hy122]; exact H) | exact H
        have Ny122 := Aside0.mk hy122
        clear hy122
        have H' := Aside0.mk H
        clear H
        obtain ⟨Ao20, co20, eo20⟩ := Kd.R_slice HO_10.out
        subst eo20
        have p19 : 0 ≤ ((ji16) : Int) := of_decide_eq_true (by first | (with_reducible assumption) | assumption)
        have q19 : ((ji16) : Int) < ((t119.length : Int) : Int) := of_decide_eq_true (by first | (with_reducible assumption) | assumption)
        obtain ⟨go19, co19, eo19, gb19, gl19, cl19, HG19⟩ := Kd.R_form HO_10.out (by omega)
        (first | cases eo19 | (injection eo19 with ea_ en_ ec_; (first | subst ea_ | (injection ea_ with ea_; subst ea_)); subst ec_; clear en_))
        have GB19 := Aside0.mk gb19
        have GG19 := Aside0.mk HG19
        clear gb19 gl19 HG19
        obtain ⟨hx19_0, hf19_0⟩ := Kd.R_celln (⟨#[]⟩ : ByteArray) HO_10.out ((ji16) : Int) p19 q19
        replace p19 := eq_true p19
        replace q19 := eq_true q19
        have HP21 := Kd.R_putg HO_10.out ((ji16) : Int) a3
        go_wp2_with (first | ((with_reducible refine gate_store (t := 9) (p := 29) rfl ?_); refine store_event (t := 9) (p := 29) (v := ?vo_w22) (w1 := (wc.setCell ⟨go19, ((ji16) : Int).toNat, none⟩ (.string a3))) ?hg ?ho ?hn ?hr ?_; (case ho => rfl); (case hg => rfl); (case hn => rfl); (case hr => first | (go_simp; done) | (go_simp; rfl)); intro w22 hw; have hg : wc.grownBy w22 (some go19) := (by rw [hw]; exact HP21.2); have hp_ : Kd.R Kd.string 9 w22 w.heap.size (fun k_ => (w.heap.size ≤ k_)) (.slice (some ⟨go19, 0, none⟩) t119.length co20) y122 := (by rw [hw, Ny122.out]; exact HP21.1); clear HP21; have n0_ := Aside0.mk (Kd.V_afterv (v := (.slice (some ⟨go19, 0, none⟩) t119.length co20)) (v1 := (.slice (some ⟨go19, 0, none⟩) t119.length co20)) (ok := (fun k_ => (P0_ k_ ∨ w.heap.size ≤ k_))) (by (with_reducible repeat (first | apply Kd.V_alloc | apply Kd.V_drewN | apply Kd.V_drew)); exact HO_0.out) hg (.inl rfl)); have n1_ := Aside0.mk (hp_); have n2_ := Aside0.mk ((by rw [hw]; exact below_set (HB.out) GB19.out : Below w.heap.size w w22)); clear HO_0; clear HO_10; clear HB; have HO_0 := n0_; have HO_10 := n1_; have HB := n2_; clear n0_ n1_ n2_; clear hg hw hp_))
        go_meet
        case rel => exact ⟨_, (y122), H', ⟨by have := HJ6.out; first | omega | exact Nat.le_refl _⟩, ⟨by (with_reducible repeat (first | apply Kd.V_alloc | apply Kd.V_drewN | apply Kd.V_drew)); exact HO_0.out⟩, ⟨by (with_reducible repeat (first | apply Kd.R_alloc | apply Kd.R_drewN | apply Kd.R_drew)); exact HO_10.out⟩, ⟨by repeat (first | (with_reducible first | exact HB.out | apply below_alloc | apply pw_below_drewN | apply below_drew1) | exact HB.out)⟩⟩
       ·rw [if_neg c18] at H
        exact absurd H (by simp)
      ·rw [if_neg c17] at H
       exact absurd H (by simp)
    ·replace c14 := Bool.eq_false_iff.mpr c14
     subst c14
     have H1 : (collatorlaw03_RowsRight.j1 kj6 l0 l1 t118 t119) = some r := by rw [if_neg (show ¬ (false = true) by decide)] at H; exact H
     clear H
     have H := H1
     clear H1
     have H' := Aside0.mk H
     clear H
     go_wp2
     go_meet
     case rel => exact ⟨_, (t119), H', ⟨by have := HJ6.out; first | omega | exact Nat.le_refl _⟩, ⟨by (with_reducible repeat (first | apply Kd.V_alloc | apply Kd.V_drewN | apply Kd.V_drew)); exact HO_0.out⟩, ⟨by (with_reducible repeat (first | apply Kd.R_alloc | apply Kd.R_drewN | apply Kd.R_drew)); exact HO_10.out⟩, ⟨by repeat (first | (with_reducible first | exact HB.out | apply below_alloc | apply pw_below_drewN | apply below_drew1) | exact HB.out)⟩⟩
   case rest =>
    clear HC13
    (try clear c1);(try clear p1);(try clear q1);(try clear hx1);(try clear p2);(try clear c3);(try clear c7);(try clear c8);(try clear c10);(try clear c10b0);(try clear c10b1);(try clear c14);(try clear c15);(try clear c15b0);(try clear c15b1);(try clear c15b2);(try clear c17);(try clear c17b0);(try clear c18);(try clear c18b0);(try clear p19);(try clear q19);(try clear hx19);(try clear hf19);(try clear hx19_0);(try clear p19);(try clear p2);(try clear q19)
    obtain ⟨kq, x10_12, HA, HJ12, HO_0, HO_10, HB⟩ := hcut
    cases kq with
    | zero => exact absurd HA.out (by simp [collatorlaw03_RowsRight.j1])
    | succ kj12 =>
     have H := HA.out
     clear HA
     simp only [collatorlaw03_RowsRight.j1] at H
     obtain ⟨ji23, hji23⟩ : ∃ j_ : Int, (mn (l0.length : Int) 20) = j_ := ⟨_, rfl⟩
     replace H : (if 0 ≤ (ji23) then (if (ji23) ≤ (l0.length : Int) then ((collatorlaw03_Lines.f kj12 l1 20).bind fun t128 => ((some (([(l0.take ((ji23) : Int).toNat), x10_12, t128] : List (List ByteArray)) : List (List ByteArray))).bind fun y131 => (collatorlaw03_RowsRight.l0 kj12 l1 t118 y131 (y131.length : Int) 0))) else (none)) else (none)) = some r := by first | (rw [hji23] at H; exact H) | (simp only [hji23] at H ⊢; exact H)
     have hji23_ : (if 20 < (l0.length : Int) then 20 else (l0.length : Int)) = ji23 := hji23
     by_cases c24 : 0 ≤ (ji23)
     ·rw [if_pos c24] at H
      have c24b0 := eq_true c24
      have c24b1 : decide (0 ≤ (ji23)) = true := decide_eq_true c24
      clear c24
      by_cases c25 : (ji23) ≤ (l0.length : Int)
      ·rw [if_pos c25] at H
       have c25b0 := eq_true c25
       have c25b1 : decide ((ji23) ≤ (l0.length : Int)) = true := decide_eq_true c25
       clear c25
       obtain ⟨y123, hy123⟩ : ∃ y_ : List ByteArray, y_ = (l0.take ((ji23) : Int).toNat) := ⟨_, rfl⟩
       replace H : ((collatorlaw03_Lines.f kj12 l1 20).bind fun t128 => ((some (([y123, x10_12, t128] : List (List ByteArray)) : List (List ByteArray))).bind fun y131 => (collatorlaw03_RowsRight.l0 kj12 l1 t118 y131 (y131.length : Int) 0))) = some r := by first | (rw [hy123]; with_reducible exact H) | (have H2_ := (Option.bind_some _ _).symm.trans H; rw [hy123]; with_reducible exact H2_) | (have H2_ := (Option.bind_some _ _).symm.trans H; with_reducible exact H2_) | with_reducible exact H | (rw [hy123]; exact H) | exact H
       have Ny123 := Aside0.mk hy123
       clear hy123
       replace H := Option.bind_eq_some_iff.mp H
       obtain ⟨t128, A260, H⟩ := H
       replace H : ((some (([y123, x10_12, t128] : List (List ByteArray)) : List (List ByteArray))).bind fun y131 => (collatorlaw03_RowsRight.l0 kj12 l1 t118 y131 (y131.length : Int) 0)) = some r := H
       have A26 := Aside0.mk A260
       clear A260
       obtain ⟨y131, hy131⟩ : ∃ y_ : List (List ByteArray), y_ = (([y123, x10_12, t128] : List (List ByteArray))) := ⟨_, rfl⟩
       replace H : (collatorlaw03_RowsRight.l0 kj12 l1 t118 y131 (y131.length : Int) 0) = some r := by first | (rw [hy131]; with_reducible exact H) | (have H2_ := (Option.bind_some _ _).symm.trans H; rw [hy131]; with_reducible exact H2_) | (have H2_ := (Option.bind_some _ _).symm.trans H; with_reducible exact H2_) | with_reducible exact H | (rw [hy131]; exact H) | exact H
       have Ny131 := Aside0.mk hy131
       clear hy131
       have H' := Aside0.mk H
       clear H
       try go_wp2
       have n0_ := Aside0.mk (Kd.V_drew HO_0.out)
       have n1_ := Aside0.mk (Kd.R_drew HO_10.out)
       have n2_ := Aside0.mk (below_drew1 HB.out)
       clear HO_0
       clear HO_10
       clear HB
       have HO_0 := n0_
       have HO_10 := n1_
       have HB := n2_
       clear n0_ n1_ n2_
       have q28 : ((ji23) : Int) ≤ ((l0.length : Int) : Int) := of_decide_eq_true (by first | (with_reducible assumption) | assumption)
       obtain ⟨i028, hi028, _, hsz28, _⟩ := info_parts info9
       have hroom28 : l0.length ≤ c0 := (Kd.V_reads' HO_0.out).2.1
       have hC28 : Kd.F Kd.string _ _ A0 l0.length l0 := (Kd.V_at (base := w.heap.size) HO_0.out).2.2
       have hcut28 := cut_to (P := Try.prog) 22 9 .i64 Try.underlying22 hi028 A0 l0.length c0 (ji23) (of_decide_eq_true (by first | (with_reducible assumption) | assumption)) q28 hroom28
       have hr28 := Kd.F_take (m := ((ji23) : Int).toNat) hC28 (by omega)
       have hy28 : y123.length = ((ji23) : Int).toNat := (by rw [Ny123.out, List.length_take]; omega)
       rw [← Ny123.out] at hr28
       rw [← hy28] at hcut28
       have HO127 := Aside0.mk (show Kd.V Kd.string 9 _ w.heap.size _ (.slice A0 y123.length c0) y123 from Kd.V_mk (by omega) hr28)
       have HC127 := Aside0.mk (show y123.length ≤ c0 from by omega)
       clear hr28 hC28 hroom28 hi028 hsz28
       have KY28 := Aside0.mk hy28
       clear hy28
       replace q28 := eq_true q28
       refine start_ (n := 11) (S := fun w' => True) (ds := []) #[false, false, false, false, false, false, false, false, false, false, false] (by kernel_rfl) rfl rfl trivial (fun hHeld => ?_); refine with_tabW collatorlaw03_RowsRight.tab5 collatorlaw03_RowsRight.bits5 (fun HT_ HW_ => ?_)
       generalize wc.drew = w27 at HO_0 HO_10 HB HO127 hHeld ⊢
       refine pure_ (i := 0) (N := some 30) (v := ?_) (a' := ?_) #[true, false, false, false, false, false, false, false, false, false, false] rfl rfl (any_of HT_.out (by kernel_rfl)) (fun _ _ _ h => h) (Or.inl ⟨by rfl, ?_⟩) ?_ ?_
       rotate_left
       ·intro w'
        go_simp
        with_reducible rfl
       rotate_left
       ·simp only [Act.put, List.setIfInBounds_toArray, List.set_cons_zero, List.set_cons_succ, i64_w, i32_w]
        rfl
       refine pure_ (i := 1) (N := some 31) (v := ?_) (a' := ?_) #[true, true, false, false, false, false, false, false, false, false, false] rfl rfl (any_of HT_.out (by kernel_rfl)) (fun _ _ _ h => h) (Or.inl ⟨by rfl, ?_⟩) ?_ ?_
       rotate_left
       ·intro w'
        go_simp
        with_reducible rfl
       rotate_left
       ·simp only [Act.put, List.setIfInBounds_toArray, List.set_cons_zero, List.set_cons_succ, i64_w, i32_w]
        rfl
       refine pure_ (i := 2) (N := some 32) (v := ?_) (a' := ?_) #[true, true, true, false, false, false, false, false, false, false, false] rfl rfl (any_of HT_.out (by kernel_rfl)) (fun _ _ _ h => h) (Or.inl ⟨by rfl, ?_⟩) ?_ ?_
       rotate_left
       ·intro w'
        go_simp
        with_reducible rfl
       rotate_left
       ·simp only [Act.put, List.setIfInBounds_toArray, List.set_cons_zero, List.set_cons_succ, i64_w, i32_w]
        rfl
       refine pure_ (i := 3) (N := some 33) (v := ?_) (a' := ?_) #[true, true, true, true, false, false, false, false, false, false, false] rfl rfl (any_of HT_.out (by kernel_rfl)) (fun _ _ _ h => h) (Or.inl ⟨by rfl, ?_⟩) ?_ ?_
       rotate_left
       ·intro w'
        go_simp
        with_reducible rfl
       rotate_left
       ·simp only [Act.put, List.setIfInBounds_toArray, List.set_cons_zero, List.set_cons_succ, i64_w, i32_w]
        rfl
       refine pure_ (i := 4) (N := some 34) (v := ?_) (a' := ?_) #[true, true, true, true, true, false, false, false, false, false, false] rfl rfl (any_of HT_.out (by kernel_rfl)) (fun _ _ _ h => h) (Or.inl ⟨by rfl, ?_⟩) ?_ ?_
       rotate_left
       ·intro w'
        go_simp
        with_reducible rfl
       rotate_left
       ·simp only [Act.put, List.setIfInBounds_toArray, List.set_cons_zero, List.set_cons_succ, i64_w, i32_w]
        rfl
       refine pure_ (i := 5) (N := some 35) (v := ?_) (a' := ?_) #[true, true, true, true, true, true, false, false, false, false, false] rfl rfl (any_of HT_.out (by kernel_rfl)) (fun _ _ _ h => h) (Or.inl ⟨by rfl, ?_⟩) ?_ ?_
       rotate_left
       ·intro w'
        go_simp
        with_reducible rfl
       rotate_left
       ·simp only [Act.put, List.setIfInBounds_toArray, List.set_cons_zero, List.set_cons_succ, i64_w, i32_w]
        rfl
       refine pure_ (i := 6) (N := some 36) (v := ?_) (a' := ?_) #[true, true, true, true, true, true, true, false, false, false, false] rfl rfl (any_of HT_.out (by kernel_rfl)) (fun _ _ _ h => h) (Or.inl ⟨by rfl, ?_⟩) ?_ ?_
       rotate_left
       ·intro w'
        go_simp
        with_reducible rfl
       rotate_left
       ·simp only [Act.put, List.setIfInBounds_toArray, List.set_cons_zero, List.set_cons_succ, i64_w, i32_w]
        rfl
       refine pure_ (i := 10) (N := some 40) (v := ?_) (a' := ?_) #[true, true, true, true, true, true, true, false, false, false, true] rfl rfl (any_of HT_.out (by kernel_rfl)) (fun _ _ _ h => h) (Or.inl ⟨by rfl, ?_⟩) ?_ ?_
       rotate_left
       ·intro w'
        go_simp
        with_reducible rfl
       rotate_left
       ·simp only [Act.put, List.setIfInBounds_toArray, List.set_cons_zero, List.set_cons_succ, i64_w, i32_w]
        rfl
       refine one_ (i := 7) (N := some 37) #[true, true, true, true, true, true, true, true, false, false, true] rfl rfl (one_of HT_.out (by kernel_rfl)) (by decide) (fun K hK => ?_)
       refine goes_ Try.func8 (by kernel_rfl) rfl #[.slice A1 l1.length c1, .int .i64 20] (by rfl) rfl rfl (by (try simp only [List.map_toArray, List.map_cons, List.map_nil]); first | done | rfl | (simp only [List.length_drop, List.length_take]; rfl)) ?_
       with_reducible refine (collatorlaw03_Lines.calls kj12 _ _ l1 20 t128 _ ?side1 ?side2 A26.out).mono ?_
       (case side1 => repeat (first | exact (Kd.C_below HR1.out HB.out) | (with_reducible refine Kd.C_alloc ?_ _) | (with_reducible refine Kd.C_drewN ?_ _) | (with_reducible refine Kd.C_drew ?_)))
       (case side2 => exact HC1.out)
       rintro e w29 ⟨v129, rfl, ho0, hb⟩
       refine ⟨_, rfl, ?_⟩
       have n0_ := Aside0.mk (Kd.V_elder' (by (with_reducible repeat (first | apply Kd.V_alloc | apply Kd.V_drewN | apply Kd.V_drew)); exact HO_0.out) (Kd.R_base ho0) hb)
       have n1_ := Aside0.mk (Kd.R_elder' (by (with_reducible repeat (first | apply Kd.R_alloc | apply Kd.R_drewN | apply Kd.R_drew)); exact HO_10.out) (Kd.R_base ho0) hb)
       have n2_ := Aside0.mk (Kd.V_elder' (by (with_reducible repeat (first | apply Kd.V_alloc | apply Kd.V_drewN | apply Kd.V_drew)); exact HO127.out) (Kd.R_base ho0) hb)
       have n3_ := Aside0.mk (Kd.R_lower (Kd.R_new' (Kd.R_newM (M := fun k_ => (w.heap.size ≤ k_)) ho0 (below_size (by repeat (first | (with_reducible first | exact HB.out | apply below_alloc | apply pw_below_drewN | apply below_drew1) | exact HB.out))) (fun k_ h_ => h_)) (Kd.R_lt (by (with_reducible repeat (first | apply Kd.R_alloc | apply Kd.R_drewN | apply Kd.R_drew)); exact HO_10.out))) (below_size (by repeat (first | (with_reducible first | exact HB.out | apply below_alloc | apply pw_below_drewN | apply below_drew1) | exact HB.out))))
       have n4_ := Aside0.mk (below_step (by repeat (first | (with_reducible first | exact HB.out | apply below_alloc | apply pw_below_drewN | apply below_drew1) | exact HB.out)) hb)
       clear HO_0
       clear HO_10
       clear HO127
       clear HB
       have HO_0 := n0_
       have HO_10 := n1_
       have HO127 := n2_
       have HO130 := n3_
       have HB := n4_
       clear n0_ n1_ n2_ n3_ n4_
       (try clear hb)
       (try clear hb2)
       (try clear hk)
       (try clear hi)
       (try clear ho0)
       obtain ⟨Ao30, co30, eo30⟩ := Kd.R_slice HO_10.out
       (first | subst eo30 | (injection eo30 with f1_ f2_ f3_; have f4_ := f1_.symm; have f5_ := f3_.symm; clear f1_ f2_ f3_; subst f4_; subst f5_))
       obtain ⟨Ao31, co31, eo31⟩ := Kd.R_slice HO130.out
       (first | subst eo31 | (injection eo31 with f1_ f2_ f3_; have f4_ := f1_.symm; have f5_ := f3_.symm; clear f1_ f2_ f3_; subst f4_; subst f5_))
       refine hK.out _ _ trivial (fun hHeld => ?_)
       clear hK K
       refine norm_ (a' := ?_) ?_ ?_
       rotate_left
       ·show Act.put _ (some 37) _ = _
        simp only [Act.put, List.setIfInBounds_toArray, List.set_cons_zero, List.set_cons_succ, i64_w, i32_w]
        rfl
       refine one_ (i := 8) (N := some 38) #[true, true, true, true, true, true, true, true, true, false, true] rfl rfl (one_of HT_.out (by kernel_rfl)) (by decide) (fun K hK => ?_)
       refine Kd.N_lit_step (Kd.slice 9 Kd.string) _ 22 ?hg (N' := 38) ?hd (xs := ([y123, x10_12, t128] : List (List ByteArray))) (inner := [.slice A0 y123.length c0, .slice Ao30 x10_12.length co30, .slice Ao31 t128.length co31]) (ok := (fun k_ => (P0_ k_ ∨ w.heap.size ≤ k_))) (okp := (fun k_ => (P0_ k_ ∨ w.heap.size ≤ k_))) ?hr ?hp (fun _ hk => hk) ((show ∀ k_, w29.heap.size ≤ k_ → (fun k_ => (P0_ k_ ∨ w.heap.size ≤ k_)) k_ from fun k_ hk => (.inr (Nat.le_trans (below_size (by repeat (first | (with_reducible first | exact HB.out | apply below_alloc | apply pw_below_drewN | apply below_drew1) | exact HB.out))) hk))) _ (Nat.le_refl _)) (Below.refl _ _) (Nat.le_refl _) (by simp) ?_; (case hd => rfl); (case hg => rfl); (case hr => first | (go_simp; done) | (go_simp; rfl)); (case hp => exact (Reps.one (show Kd.FK (Kd.slice 9 Kd.string) _ _ y123 [.slice A0 y123.length c0] from (Kd.FK_slice_mk (Kd.V_reads' (Kd.V_mono (ok' := (fun k_ => (P0_ k_ ∨ w.heap.size ≤ k_))) (HO127.out) (fun k_ hk => hk.1.1))).2.1 (Kd.V_F (Kd.V_mono (ok' := (fun k_ => (P0_ k_ ∨ w.heap.size ≤ k_))) (HO127.out) (fun k_ hk => hk.1.1))))) (Reps.one (show Kd.FK (Kd.slice 9 Kd.string) _ _ x10_12 [.slice Ao30 x10_12.length co30] from (Kd.FK_slice_mk (Kd.R_reads' (Kd.R_mono (ok' := (fun k_ => (P0_ k_ ∨ w.heap.size ≤ k_))) (HO_10.out) (fun k_ hk => (.inr (hk.1))))).2.1 (Kd.R_F (Kd.R_mono (ok' := (fun k_ => (P0_ k_ ∨ w.heap.size ≤ k_))) (HO_10.out) (fun k_ hk => (.inr (hk.1))))))) (Reps.one (show Kd.FK (Kd.slice 9 Kd.string) _ _ t128 [.slice Ao31 t128.length co31] from (Kd.FK_slice_mk (Kd.R_reads' (Kd.R_mono (ok' := (fun k_ => (P0_ k_ ∨ w.heap.size ≤ k_))) (HO130.out) (fun k_ hk => (.inr (hk.1.1))))).2.1 (Kd.R_F (Kd.R_mono (ok' := (fun k_ => (P0_ k_ ∨ w.heap.size ≤ k_))) (HO130.out) (fun k_ hk => (.inr (hk.1.1))))))) (Reps.none _ _)))))
       intro v132 w32 ho33 hb hg_ hnew_
       clear hg_ hnew_
       (first | rw [← Ny131.out] at ho33 | (simp only [Int.reduceToNat] at ho33; rw [← Ny131.out] at ho33))
       have n0_ := Aside0.mk (Kd.V_elder' (by (with_reducible repeat (first | apply Kd.V_alloc | apply Kd.V_drewN | apply Kd.V_drew)); exact HO_0.out) (by first | exact Kd.N_base ho33 | exact Kd.S_base ho33) hb)
       have n1_ := Aside0.mk (Kd.R_below (by (with_reducible repeat (first | apply Kd.R_alloc | apply Kd.R_drewN | apply Kd.R_drew)); exact HO_10.out) hb)
       have n2_ := Aside0.mk (Kd.V_elder' (by (with_reducible repeat (first | apply Kd.V_alloc | apply Kd.V_drewN | apply Kd.V_drew)); exact HO127.out) (by first | exact Kd.N_base ho33 | exact Kd.S_base ho33) hb)
       have n3_ := Aside0.mk (Kd.R_below (by (with_reducible repeat (first | apply Kd.R_alloc | apply Kd.R_drewN | apply Kd.R_drew)); exact HO130.out) hb)
       have n4_ := Aside0.mk (Kd.N_lower ho33 (below_size (by repeat (first | (with_reducible first | exact HB.out | apply below_alloc | apply pw_below_drewN | apply below_drew1) | exact HB.out))))
       have n5_ := Aside0.mk (below_step (by repeat (first | (with_reducible first | exact HB.out | apply below_alloc | apply pw_below_drewN | apply below_drew1) | exact HB.out)) hb)
       clear HO_0
       clear HO_10
       clear HO127
       clear HO130
       clear HB
       have HO_0 := n0_
       have HO_10 := n1_
       have HO127 := n2_
       have HO130 := n3_
       have HO133 := n4_
       have HB := n5_
       clear n0_ n1_ n2_ n3_ n4_ n5_
       clear hb ho33
       obtain ⟨Ao34, co34, eo34⟩ := Kd.N_slice HO133.out
       (first | subst eo34 | (injection eo34 with f1_ f2_ f3_; have f4_ := f1_.symm; have f5_ := f3_.symm; clear f1_ f2_ f3_; subst f4_; subst f5_))
       refine hK.out _ _ trivial (fun hHeld => ?_)
       clear hK K
       refine norm_ (a' := ?_) ?_ ?_
       rotate_left
       ·show Act.put _ (some 38) _ = _
        simp only [Act.put, List.setIfInBounds_toArray, List.set_cons_zero, List.set_cons_succ, i64_w, i32_w]
        rfl
       refine pure_ (i := 9) (N := some 39) (v := ?_) (a' := ?_) #[true, true, true, true, true, true, true, true, true, true, true] rfl rfl (any_of HT_.out (by kernel_rfl)) (fun _ _ _ h => h) (Or.inl ⟨by rfl, ?_⟩) ?_ ?_
       rotate_left
       ·intro w'
        go_simp
        with_reducible rfl
       rotate_left
       ·simp only [Act.put, List.setIfInBounds_toArray, List.set_cons_zero, List.set_cons_succ, i64_w, i32_w]
        rfl
       refine done_ (done_of HT_.out (by kernel_rfl)) ?_
       try go_wp2
       go_loopg [40] kj12 (fun kq v40 w' => ∃ (x40_3 : Int), v40 = .int .i64 x40_3 ∧ Aside0 (collatorlaw03_RowsRight.l0 kq l1 t118 y131 (y131.length : Int) x40_3 = some r) ∧ Aside0 (kq ≤ kj12) ∧ Aside0 (Kd.N (Kd.slice 9 Kd.string) 22 w' w.heap.size (fun k_ => (P0_ k_ ∨ w.heap.size ≤ k_)) (.slice Ao34 y131.length co34) y131) ∧ Aside0 (Below w.heap.size w w'))
       case atStart => exact ⟨(0), (by first | rfl | (simp; done) | (simp [*]; done)), H', ⟨Nat.le_refl _⟩, ⟨by (with_reducible repeat (first | apply Kd.N_alloc | apply Kd.N_drewN | apply Kd.N_drew)); exact HO133.out⟩, ⟨by repeat (first | (with_reducible first | exact HB.out | apply below_alloc | apply pw_below_drewN | apply below_drew1) | exact HB.out)⟩⟩
       case round =>
        clear H'
        (try clear c1);(try clear p1);(try clear q1);(try clear hx1);(try clear c2);(try clear p2);(try clear q2);(try clear c3);(try clear c7);(try clear c8);(try clear c10);(try clear c10b0);(try clear c10b1);(try clear c14);(try clear c15);(try clear c15b0);(try clear c15b1);(try clear c15b2);(try clear c17);(try clear c17b0);(try clear c18);(try clear c18b0);(try clear p19);(try clear q19);(try clear hx19);(try clear hf19);(try clear c24);(try clear c24b0);(try clear c24b1);(try clear c25);(try clear c25b0);(try clear c25b1);(try clear q28);(try clear hx19_0);(try clear p1);(try clear p19);(try clear p2);(try clear q1);(try clear q19);(try clear q28)
        obtain ⟨x40_3, rfl, HA, HK3, HO_38, HB⟩ := hrel
        cases gk with
        | zero => exact absurd HA.out (by simp [collatorlaw03_RowsRight.l0])
        | succ k3 =>
         have H := HA.out
         clear HA
         simp only [collatorlaw03_RowsRight.l0] at H
         by_cases c35 : x40_3 < (y131.length : Int)
         ·rw [if_pos c35] at H
          have c35b0 : decide (x40_3 < (y131.length : Int)) = true := decide_eq_true c35
          clear c35
          by_cases c36 : 0 ≤ x40_3
          ·rw [if_pos c36] at H
           have c36b0 : decide (0 ≤ x40_3) = true := decide_eq_true c36
           clear c36
           by_cases c37 : x40_3 < (y131.length : Int)
           ·rw [if_pos c37] at H
            have c37b0 : decide (x40_3 < (y131.length : Int)) = true := decide_eq_true c37
            clear c37
            replace H := Option.bind_eq_some_iff.mp H
            obtain ⟨t139, A380, H⟩ := H
            replace H : ((rows_Join.f (rd_L3 y131 x40_3)).bind fun t140 => ((rows_Split.f t140).bind fun t141 => ((collatorref01_Texts.f k3 t141 (rd_L3 y131 x40_3)).bind fun t144 => (if (t139 != t144) = true then (some false) else (collatorlaw03_RowsRight.l0 k3 l1 t118 y131 (y131.length : Int) (wrap64 (x40_3 + 1))))))) = some r := H
            have A38 := Aside0.mk A380
            clear A380
            replace H := Option.bind_eq_some_iff.mp H
            obtain ⟨t140, A390, H⟩ := H
            replace H : ((rows_Split.f t140).bind fun t141 => ((collatorref01_Texts.f k3 t141 (rd_L3 y131 x40_3)).bind fun t144 => (if (t139 != t144) = true then (some false) else (collatorlaw03_RowsRight.l0 k3 l1 t118 y131 (y131.length : Int) (wrap64 (x40_3 + 1)))))) = some r := H
            have A39 := Aside0.mk A390
            clear A390
            replace H := Option.bind_eq_some_iff.mp H
            obtain ⟨t141, A400, H⟩ := H
            replace H : ((collatorref01_Texts.f k3 t141 (rd_L3 y131 x40_3)).bind fun t144 => (if (t139 != t144) = true then (some false) else (collatorlaw03_RowsRight.l0 k3 l1 t118 y131 (y131.length : Int) (wrap64 (x40_3 + 1))))) = some r := H
            have A40 := Aside0.mk A400
            clear A400
            replace H := Option.bind_eq_some_iff.mp H
            obtain ⟨t144, A410, H⟩ := H
            replace H : (if (t139 != t144) = true then (some false) else (collatorlaw03_RowsRight.l0 k3 l1 t118 y131 (y131.length : Int) (wrap64 (x40_3 + 1)))) = some r := H
            have A41 := Aside0.mk A410
            clear A410
            by_cases c42 : (t139 != t144) = true
            ·rw [if_pos c42] at H
             have c42b0 : (t139 != t144) = true := c42
             (try (have c42b1 : decide (t139 = t144) = false := by simpa using c42))
             (try (have c42b2 : (t139 == t144) = false := by simpa using c42))
             (try (have c42b3 : ¬ (t139 = t144) := by simpa using c42))
             clear c42
             obtain rfl := Option.some.inj H
             have p138 : 0 ≤ (x40_3 : Int) := of_decide_eq_true (by first | (with_reducible assumption) | assumption)
             have q138 : x40_3 < (y131.length : Int) := of_decide_eq_true (by first | (with_reducible assumption) | assumption)
             obtain ⟨ad138, A138_0, c138_0, e138, hx138_0, hl138_0, hi138_0⟩ := at_L3 (Kd.N_reads' HO_38.out).2.2 x40_3 p138 q138
             cases e138
             obtain ⟨ce138, hce138, hMe138, hcc138⟩ := Kd.N_get HO_38.out [] x40_3 p138 (by first | exact q138 | exact of_decide_eq_true (by first | (with_reducible assumption) | assumption) | (have e_ := (Kd.N_reads' HO_38.out).1; omega))
             obtain ⟨ua138_0, uc138_0, rfl, ul138_0, ge138_0⟩ := Kd.FK_slice_open hMe138
             have hv138_0 := hcc138 0 _ rfl
             rw [Nat.add_zero, show ((Kd.slice 9 Kd.string)).sz = 1 from rfl, Nat.mul_one] at hv138_0
             replace hv138_0 := Option.some.inj (hv138_0.symm.trans hx138_0)
             injection hv138_0 with hva_ hvn_ hvc_
             rw [hva_] at ge138_0
             rw [hvc_] at ul138_0
             have HL138_0 := Aside0.mk (show Kd.V Kd.string 9 _ w.heap.size _ _ (rd_L3 y131 x40_3) from Kd.V_mk ul138_0 ge138_0)
             clear hva_ hvn_ hvc_ ge138_0 ul138_0
             clear hcc138 hce138
             have HR138_0 := Aside0.mk hi138_0
             have HC138_0 := Aside0.mk hl138_0
             clear hi138_0 hl138_0
             replace p138 := eq_true p138
             replace q138 := eq_true q138
             go_wp2_with (first | ((with_reducible refine gate_callee (f := 9) rfl ?_); refine goesL_ _ rfl rfl Try.func9 (by kernel_rfl) rfl #[.slice A138_0 (rd_L3 y131 x40_3).length c138_0] rfl (by (try simp only [List.map_toArray, List.map_cons, List.map_nil]); first | done | rfl | (simp only [List.length_drop, List.length_take]; rfl)) ?_; (with_reducible refine (rows_Right.calls _ _ (rd_L3 y131 x40_3) t139 _ ?side1 ?side2 A38.out).mono ?_); (case side1 => repeat (first | exact (by repeat (first | (with_reducible exact HR138_0.out) | (with_reducible refine Kd.C_alloc ?_ _) | (with_reducible refine Kd.C_drewN ?_ _) | (with_reducible refine Kd.C_drew ?_) | exact HR138_0.out)) | (with_reducible refine Kd.C_alloc ?_ _) | (with_reducible refine Kd.C_drewN ?_ _) | (with_reducible refine Kd.C_drew ?_))); (case side2 => exact HC138_0.out); rintro e w43 ⟨rfl, hb⟩; refine ⟨_, rfl, ?_⟩; have n0_ := Aside0.mk (Kd.N_below (by (with_reducible repeat (first | apply Kd.N_alloc | apply Kd.N_drewN | apply Kd.N_drew)); exact HO_38.out) hb); have n1_ := Aside0.mk (Kd.V_below (by (with_reducible repeat (first | apply Kd.V_alloc | apply Kd.V_drewN | apply Kd.V_drew)); exact HL138_0.out) hb); have n2_ := Aside0.mk (Kd.C_below (by repeat (first | (with_reducible exact HR138_0.out) | (with_reducible refine Kd.C_alloc ?_ _) | (with_reducible refine Kd.C_drewN ?_ _) | (with_reducible refine Kd.C_drew ?_) | exact HR138_0.out)) hb); have n3_ := Aside0.mk (below_step (by repeat (first | (with_reducible first | exact HB.out | apply below_alloc | apply pw_below_drewN | apply below_drew1) | exact HB.out)) hb); clear HO_38; clear HL138_0; clear HR138_0; clear HB; have HO_38 := n0_; have HL138_0 := n1_; have HR138_0 := n2_; have HB := n3_; clear n0_ n1_ n2_ n3_; (try clear hb); (try clear hb2); (try clear hk); (try clear hi)) | ((with_reducible refine gate_callee (f := 12) rfl ?_); refine goesL_ _ rfl rfl Try.func12 (by kernel_rfl) rfl #[.slice A138_0 (rd_L3 y131 x40_3).length c138_0] rfl (by (try simp only [List.map_toArray, List.map_cons, List.map_nil]); first | done | rfl | (simp only [List.length_drop, List.length_take]; rfl)) ?_; (with_reducible refine (rows_Join.calls _ _ (rd_L3 y131 x40_3) t140 _ ?side1 ?side2 A39.out).mono ?_); (case side1 => repeat (first | exact (by repeat (first | (with_reducible exact HR138_0.out) | (with_reducible refine Kd.C_alloc ?_ _) | (with_reducible refine Kd.C_drewN ?_ _) | (with_reducible refine Kd.C_drew ?_) | exact HR138_0.out)) | (with_reducible refine Kd.C_alloc ?_ _) | (with_reducible refine Kd.C_drewN ?_ _) | (with_reducible refine Kd.C_drew ?_))); (case side2 => exact HC138_0.out); rintro e w44 ⟨rfl, hb⟩; refine ⟨_, rfl, ?_⟩; have n0_ := Aside0.mk (Kd.N_below (by (with_reducible repeat (first | apply Kd.N_alloc | apply Kd.N_drewN | apply Kd.N_drew)); exact HO_38.out) hb); have n1_ := Aside0.mk (Kd.V_below (by (with_reducible repeat (first | apply Kd.V_alloc | apply Kd.V_drewN | apply Kd.V_drew)); exact HL138_0.out) hb); have n2_ := Aside0.mk (Kd.C_below (by repeat (first | (with_reducible exact HR138_0.out) | (with_reducible refine Kd.C_alloc ?_ _) | (with_reducible refine Kd.C_drewN ?_ _) | (with_reducible refine Kd.C_drew ?_) | exact HR138_0.out)) hb); have n3_ := Aside0.mk (below_step (by repeat (first | (with_reducible first | exact HB.out | apply below_alloc | apply pw_below_drewN | apply below_drew1) | exact HB.out)) hb); clear HO_38; clear HL138_0; clear HR138_0; clear HB; have HO_38 := n0_; have HL138_0 := n1_; have HR138_0 := n2_; have HB := n3_; clear n0_ n1_ n2_ n3_; (try clear hb); (try clear hb2); (try clear hk); (try clear hi)) | ((with_reducible refine gate_callee (f := 11) rfl ?_); refine goesL_ _ rfl rfl Try.func11 (by kernel_rfl) rfl #[.string t140] rfl (by (try simp only [List.map_toArray, List.map_cons, List.map_nil]); first | done | rfl | (simp only [List.length_drop, List.length_take]; rfl)) ?_; (with_reducible refine (rows_Split.calls t140 t141 _ A40.out).mono ?_); rintro e w45 ⟨v142, rfl, ho0, hb⟩; refine ⟨_, rfl, ?_⟩; have n0_ := Aside0.mk (Kd.N_elder' (by (with_reducible repeat (first | apply Kd.N_alloc | apply Kd.N_drewN | apply Kd.N_drew)); exact HO_38.out) (Kd.R_base ho0) hb); have n1_ := Aside0.mk (Kd.V_elder' (by (with_reducible repeat (first | apply Kd.V_alloc | apply Kd.V_drewN | apply Kd.V_drew)); exact HL138_0.out) (Kd.R_base ho0) hb); have n2_ := Aside0.mk (Kd.R_lower (Kd.R_newM (M := fun k_ => (w.heap.size ≤ k_)) ho0 (below_size (by repeat (first | (with_reducible first | exact HB.out | apply below_alloc | apply pw_below_drewN | apply below_drew1) | exact HB.out))) (fun k_ h_ => h_)) (below_size (by repeat (first | (with_reducible first | exact HB.out | apply below_alloc | apply pw_below_drewN | apply below_drew1) | exact HB.out)))); have n3_ := Aside0.mk (Kd.C_below (by repeat (first | (with_reducible exact HR138_0.out) | (with_reducible refine Kd.C_alloc ?_ _) | (with_reducible refine Kd.C_drewN ?_ _) | (with_reducible refine Kd.C_drew ?_) | exact HR138_0.out)) hb); have n4_ := Aside0.mk (below_step (by repeat (first | (with_reducible first | exact HB.out | apply below_alloc | apply pw_below_drewN | apply below_drew1) | exact HB.out)) hb); clear HO_38; clear HL138_0; clear HR138_0; clear HB; have HO_38 := n0_; have HL138_0 := n1_; have HO143 := n2_; have HR138_0 := n3_; have HB := n4_; clear n0_ n1_ n2_ n3_ n4_; (try clear hb); (try clear hb2); (try clear hk); (try clear hi); (try clear ho0); (try (obtain ⟨Ao46, co46, eo46⟩ := Kd.R_slice HO143.out; subst eo46))) | ((with_reducible refine gate_callee (f := 10) rfl ?_); refine goesL_ _ rfl rfl Try.func10 (by kernel_rfl) rfl #[.slice Ao46 t141.length co46, .slice A138_0 (rd_L3 y131 x40_3).length c138_0] rfl (by (try simp only [List.map_toArray, List.map_cons, List.map_nil]); first | done | rfl | (simp only [List.length_drop, List.length_take]; rfl)) ?_; (with_reducible refine (collatorref01_Texts.calls k3 _ _ t141 _ _ (rd_L3 y131 x40_3) t144 _ ?side1 ?side2 ?side3 ?side4 A41.out).mono ?_); (case side1 => repeat (first | exact (Kd.R_reads' HO143.out).2.2 | (with_reducible refine Kd.C_alloc ?_ _) | (with_reducible refine Kd.C_drewN ?_ _) | (with_reducible refine Kd.C_drew ?_))); (case side2 => exact (Kd.R_reads' HO143.out).2.1); (case side3 => repeat (first | exact (by repeat (first | (with_reducible exact HR138_0.out) | (with_reducible refine Kd.C_alloc ?_ _) | (with_reducible refine Kd.C_drewN ?_ _) | (with_reducible refine Kd.C_drew ?_) | exact HR138_0.out)) | (with_reducible refine Kd.C_alloc ?_ _) | (with_reducible refine Kd.C_drewN ?_ _) | (with_reducible refine Kd.C_drew ?_))); (case side4 => exact HC138_0.out); rintro e w' ⟨rfl, ⟨nd, rfl⟩⟩; refine ⟨_, rfl, ?_⟩))
             go_ret
             exact ⟨by first | rfl | (simp [errW_none, errW_some] <;> rfl) | (simp only [← hji23]; first | rfl | (simp [errW_none, errW_some] <;> rfl)) | (simp [*, errW_none, errW_some] <;> rfl), by repeat (first | (with_reducible first | exact HB.out | apply below_alloc | apply pw_below_drewN | apply below_drew1) | exact HB.out)⟩
            ·rw [if_neg c42] at H
             have c42b0 : (t139 != t144) = false := by simpa using c42
             (try (have c42b1 : decide (t139 = t144) = true := by simpa using c42))
             (try (have c42b2 : (t139 == t144) = true := by simpa using c42))
             clear c42
             have H' := Aside0.mk H
             clear H
             have p138 : 0 ≤ (x40_3 : Int) := of_decide_eq_true (by first | (with_reducible assumption) | assumption)
             have q138 : x40_3 < (y131.length : Int) := of_decide_eq_true (by first | (with_reducible assumption) | assumption)
             obtain ⟨ad138, A138_0, c138_0, e138, hx138_0, hl138_0, hi138_0⟩ := at_L3 (Kd.N_reads' HO_38.out).2.2 x40_3 p138 q138
             cases e138
             obtain ⟨ce138, hce138, hMe138, hcc138⟩ := Kd.N_get HO_38.out [] x40_3 p138 (by first | exact q138 | exact of_decide_eq_true (by first | (with_reducible assumption) | assumption) | (have e_ := (Kd.N_reads' HO_38.out).1; omega))
             obtain ⟨ua138_0, uc138_0, rfl, ul138_0, ge138_0⟩ := Kd.FK_slice_open hMe138
             have hv138_0 := hcc138 0 _ rfl
             rw [Nat.add_zero, show ((Kd.slice 9 Kd.string)).sz = 1 from rfl, Nat.mul_one] at hv138_0
             replace hv138_0 := Option.some.inj (hv138_0.symm.trans hx138_0)
             injection hv138_0 with hva_ hvn_ hvc_
             rw [hva_] at ge138_0
             rw [hvc_] at ul138_0
             have HL138_0 := Aside0.mk (show Kd.V Kd.string 9 _ w.heap.size _ _ (rd_L3 y131 x40_3) from Kd.V_mk ul138_0 ge138_0)
             clear hva_ hvn_ hvc_ ge138_0 ul138_0
             clear hcc138 hce138
             have HR138_0 := Aside0.mk hi138_0
             have HC138_0 := Aside0.mk hl138_0
             clear hi138_0 hl138_0
             replace p138 := eq_true p138
             replace q138 := eq_true q138
             go_wp2_with (first | ((with_reducible refine gate_callee (f := 9) rfl ?_); refine goesL_ _ rfl rfl Try.func9 (by kernel_rfl) rfl #[.slice A138_0 (rd_L3 y131 x40_3).length c138_0] rfl (by (try simp only [List.map_toArray, List.map_cons, List.map_nil]); first | done | rfl | (simp only [List.length_drop, List.length_take]; rfl)) ?_; (with_reducible refine (rows_Right.calls _ _ (rd_L3 y131 x40_3) t139 _ ?side1 ?side2 A38.out).mono ?_); (case side1 => repeat (first | exact (by repeat (first | (with_reducible exact HR138_0.out) | (with_reducible refine Kd.C_alloc ?_ _) | (with_reducible refine Kd.C_drewN ?_ _) | (with_reducible refine Kd.C_drew ?_) | exact HR138_0.out)) | (with_reducible refine Kd.C_alloc ?_ _) | (with_reducible refine Kd.C_drewN ?_ _) | (with_reducible refine Kd.C_drew ?_))); (case side2 => exact HC138_0.out); rintro e w47 ⟨rfl, hb⟩; refine ⟨_, rfl, ?_⟩; have n0_ := Aside0.mk (Kd.N_below (by (with_reducible repeat (first | apply Kd.N_alloc | apply Kd.N_drewN | apply Kd.N_drew)); exact HO_38.out) hb); have n1_ := Aside0.mk (Kd.V_below (by (with_reducible repeat (first | apply Kd.V_alloc | apply Kd.V_drewN | apply Kd.V_drew)); exact HL138_0.out) hb); have n2_ := Aside0.mk (Kd.C_below (by repeat (first | (with_reducible exact HR138_0.out) | (with_reducible refine Kd.C_alloc ?_ _) | (with_reducible refine Kd.C_drewN ?_ _) | (with_reducible refine Kd.C_drew ?_) | exact HR138_0.out)) hb); have n3_ := Aside0.mk (below_step (by repeat (first | (with_reducible first | exact HB.out | apply below_alloc | apply pw_below_drewN | apply below_drew1) | exact HB.out)) hb); clear HO_38; clear HL138_0; clear HR138_0; clear HB; have HO_38 := n0_; have HL138_0 := n1_; have HR138_0 := n2_; have HB := n3_; clear n0_ n1_ n2_ n3_; (try clear hb); (try clear hb2); (try clear hk); (try clear hi)) | ((with_reducible refine gate_callee (f := 12) rfl ?_); refine goesL_ _ rfl rfl Try.func12 (by kernel_rfl) rfl #[.slice A138_0 (rd_L3 y131 x40_3).length c138_0] rfl (by (try simp only [List.map_toArray, List.map_cons, List.map_nil]); first | done | rfl | (simp only [List.length_drop, List.length_take]; rfl)) ?_; (with_reducible refine (rows_Join.calls _ _ (rd_L3 y131 x40_3) t140 _ ?side1 ?side2 A39.out).mono ?_); (case side1 => repeat (first | exact (by repeat (first | (with_reducible exact HR138_0.out) | (with_reducible refine Kd.C_alloc ?_ _) | (with_reducible refine Kd.C_drewN ?_ _) | (with_reducible refine Kd.C_drew ?_) | exact HR138_0.out)) | (with_reducible refine Kd.C_alloc ?_ _) | (with_reducible refine Kd.C_drewN ?_ _) | (with_reducible refine Kd.C_drew ?_))); (case side2 => exact HC138_0.out); rintro e w48 ⟨rfl, hb⟩; refine ⟨_, rfl, ?_⟩; have n0_ := Aside0.mk (Kd.N_below (by (with_reducible repeat (first | apply Kd.N_alloc | apply Kd.N_drewN | apply Kd.N_drew)); exact HO_38.out) hb); have n1_ := Aside0.mk (Kd.V_below (by (with_reducible repeat (first | apply Kd.V_alloc | apply Kd.V_drewN | apply Kd.V_drew)); exact HL138_0.out) hb); have n2_ := Aside0.mk (Kd.C_below (by repeat (first | (with_reducible exact HR138_0.out) | (with_reducible refine Kd.C_alloc ?_ _) | (with_reducible refine Kd.C_drewN ?_ _) | (with_reducible refine Kd.C_drew ?_) | exact HR138_0.out)) hb); have n3_ := Aside0.mk (below_step (by repeat (first | (with_reducible first | exact HB.out | apply below_alloc | apply pw_below_drewN | apply below_drew1) | exact HB.out)) hb); clear HO_38; clear HL138_0; clear HR138_0; clear HB; have HO_38 := n0_; have HL138_0 := n1_; have HR138_0 := n2_; have HB := n3_; clear n0_ n1_ n2_ n3_; (try clear hb); (try clear hb2); (try clear hk); (try clear hi)) | ((with_reducible refine gate_callee (f := 11) rfl ?_); refine goesL_ _ rfl rfl Try.func11 (by kernel_rfl) rfl #[.string t140] rfl (by (try simp only [List.map_toArray, List.map_cons, List.map_nil]); first | done | rfl | (simp only [List.length_drop, List.length_take]; rfl)) ?_; (with_reducible refine (rows_Split.calls t140 t141 _ A40.out).mono ?_); rintro e w49 ⟨v142, rfl, ho0, hb⟩; refine ⟨_, rfl, ?_⟩; have n0_ := Aside0.mk (Kd.N_elder' (by (with_reducible repeat (first | apply Kd.N_alloc | apply Kd.N_drewN | apply Kd.N_drew)); exact HO_38.out) (Kd.R_base ho0) hb); have n1_ := Aside0.mk (Kd.V_elder' (by (with_reducible repeat (first | apply Kd.V_alloc | apply Kd.V_drewN | apply Kd.V_drew)); exact HL138_0.out) (Kd.R_base ho0) hb); have n2_ := Aside0.mk (Kd.R_lower (Kd.R_newM (M := fun k_ => (w.heap.size ≤ k_)) ho0 (below_size (by repeat (first | (with_reducible first | exact HB.out | apply below_alloc | apply pw_below_drewN | apply below_drew1) | exact HB.out))) (fun k_ h_ => h_)) (below_size (by repeat (first | (with_reducible first | exact HB.out | apply below_alloc | apply pw_below_drewN | apply below_drew1) | exact HB.out)))); have n3_ := Aside0.mk (Kd.C_below (by repeat (first | (with_reducible exact HR138_0.out) | (with_reducible refine Kd.C_alloc ?_ _) | (with_reducible refine Kd.C_drewN ?_ _) | (with_reducible refine Kd.C_drew ?_) | exact HR138_0.out)) hb); have n4_ := Aside0.mk (below_step (by repeat (first | (with_reducible first | exact HB.out | apply below_alloc | apply pw_below_drewN | apply below_drew1) | exact HB.out)) hb); clear HO_38; clear HL138_0; clear HR138_0; clear HB; have HO_38 := n0_; have HL138_0 := n1_; have HO143 := n2_; have HR138_0 := n3_; have HB := n4_; clear n0_ n1_ n2_ n3_ n4_; (try clear hb); (try clear hb2); (try clear hk); (try clear hi); (try clear ho0); (try (obtain ⟨Ao50, co50, eo50⟩ := Kd.R_slice HO143.out; subst eo50))) | ((with_reducible refine gate_callee (f := 10) rfl ?_); refine goesL_ _ rfl rfl Try.func10 (by kernel_rfl) rfl #[.slice Ao50 t141.length co50, .slice A138_0 (rd_L3 y131 x40_3).length c138_0] rfl (by (try simp only [List.map_toArray, List.map_cons, List.map_nil]); first | done | rfl | (simp only [List.length_drop, List.length_take]; rfl)) ?_; (with_reducible refine (collatorref01_Texts.calls k3 _ _ t141 _ _ (rd_L3 y131 x40_3) t144 _ ?side1 ?side2 ?side3 ?side4 A41.out).mono ?_); (case side1 => repeat (first | exact (Kd.R_reads' HO143.out).2.2 | (with_reducible refine Kd.C_alloc ?_ _) | (with_reducible refine Kd.C_drewN ?_ _) | (with_reducible refine Kd.C_drew ?_))); (case side2 => exact (Kd.R_reads' HO143.out).2.1); (case side3 => repeat (first | exact (by repeat (first | (with_reducible exact HR138_0.out) | (with_reducible refine Kd.C_alloc ?_ _) | (with_reducible refine Kd.C_drewN ?_ _) | (with_reducible refine Kd.C_drew ?_) | exact HR138_0.out)) | (with_reducible refine Kd.C_alloc ?_ _) | (with_reducible refine Kd.C_drewN ?_ _) | (with_reducible refine Kd.C_drew ?_))); (case side4 => exact HC138_0.out); rintro e w' ⟨rfl, ⟨nd, rfl⟩⟩; refine ⟨_, rfl, ?_⟩))
             go_roundg k3
             case measure => have := HJ6.out; have := HJ12.out; have := HK3.out; omega
             case rel => exact ⟨(wrap64 (x40_3 + 1)), (by first | rfl | (simp; done) | (simp [*]; done)), H', ⟨by have := HJ6.out; have := HJ12.out; have := HK3.out; omega⟩, ⟨by (with_reducible repeat (first | apply Kd.N_alloc | apply Kd.N_drewN | apply Kd.N_drew)); exact Kd.N_mono HO_38.out (fun _ hk => hk.1)⟩, ⟨by repeat (first | (with_reducible first | exact HB.out | apply below_alloc | apply pw_below_drewN | apply below_drew1) | exact HB.out)⟩⟩
           ·rw [if_neg c37] at H
            exact absurd H (by simp)
          ·rw [if_neg c36] at H
           exact absurd H (by simp)
         ·rw [if_neg c35] at H
          have c35b0 : decide (x40_3 < (y131.length : Int)) = false := decide_eq_false c35
          clear c35
          by_cases c51 : t118 = true
          ·subst c51
           have H1 : ((collatorlaw03_Lines.f k3 l1 20).bind fun t134 => ((rows_Right.f t134).bind fun t137 => (some t137))) = some r := by rw [if_pos rfl] at H; exact H
           clear H
           have H := H1
           clear H1
           replace H := Option.bind_eq_some_iff.mp H
           obtain ⟨t134, A520, H⟩ := H
           replace H : ((rows_Right.f t134).bind fun t137 => (some t137)) = some r := H
           have A52 := Aside0.mk A520
           clear A520
           replace H := Option.bind_eq_some_iff.mp H
           obtain ⟨t137, A530, H⟩ := H
           replace H : (some t137) = some r := H
           have A53 := Aside0.mk A530
           clear A530
           obtain rfl := Option.some.inj H
           go_wp2_with (first | (go_at_call 8; (with_reducible refine (collatorlaw03_Lines.calls k3 _ _ l1 20 t134 _ ?side1 ?side2 A52.out).mono ?_); (case side1 => repeat (first | exact (Kd.C_below HR1.out HB.out) | (with_reducible refine Kd.C_alloc ?_ _) | (with_reducible refine Kd.C_drewN ?_ _) | (with_reducible refine Kd.C_drew ?_))); (case side2 => exact HC1.out); rintro e w54 ⟨v135, rfl, ho0, hb⟩; have n0_ := Aside0.mk (Kd.N_elder' (by (with_reducible repeat (first | apply Kd.N_alloc | apply Kd.N_drewN | apply Kd.N_drew)); exact HO_38.out) (Kd.R_base ho0) hb); have n1_ := Aside0.mk (Kd.R_lower (Kd.R_newM (M := fun k_ => (w.heap.size ≤ k_)) ho0 (below_size (by repeat (first | (with_reducible first | exact HB.out | apply below_alloc | apply pw_below_drewN | apply below_drew1) | exact HB.out))) (fun k_ h_ => h_)) (below_size (by repeat (first | (with_reducible first | exact HB.out | apply below_alloc | apply pw_below_drewN | apply below_drew1) | exact HB.out)))); have n2_ := Aside0.mk (below_step (by repeat (first | (with_reducible first | exact HB.out | apply below_alloc | apply pw_below_drewN | apply below_drew1) | exact HB.out)) hb); clear HO_38; clear HB; have HO_38 := n0_; have HO136 := n1_; have HB := n2_; clear n0_ n1_ n2_; (try clear hb); (try clear hb2); (try clear hk); (try clear hi); (try clear ho0); (try (obtain ⟨Ao55, co55, eo55⟩ := Kd.R_slice HO136.out; subst eo55))) | (go_at_call 9; (with_reducible refine (rows_Right.calls _ _ t134 t137 _ ?side1 ?side2 A53.out).mono ?_); (case side1 => repeat (first | exact (Kd.R_reads' HO136.out).2.2 | (with_reducible refine Kd.C_alloc ?_ _) | (with_reducible refine Kd.C_drewN ?_ _) | (with_reducible refine Kd.C_drew ?_))); (case side2 => exact (Kd.R_reads' HO136.out).2.1); rintro e w56 ⟨rfl, hb⟩; have n0_ := Aside0.mk (Kd.N_below (by (with_reducible repeat (first | apply Kd.N_alloc | apply Kd.N_drewN | apply Kd.N_drew)); exact HO_38.out) hb); have n1_ := Aside0.mk (Kd.R_below (by (with_reducible repeat (first | apply Kd.R_alloc | apply Kd.R_drewN | apply Kd.R_drew)); exact HO136.out) hb); have n2_ := Aside0.mk (below_step (by repeat (first | (with_reducible first | exact HB.out | apply below_alloc | apply pw_below_drewN | apply below_drew1) | exact HB.out)) hb); clear HO_38; clear HO136; clear HB; have HO_38 := n0_; have HO136 := n1_; have HB := n2_; clear n0_ n1_ n2_; (try clear hb); (try clear hb2); (try clear hk); (try clear hi)))
           go_ret
           exact ⟨by first | rfl | (simp [errW_none, errW_some] <;> rfl) | (simp only [← hji23]; first | rfl | (simp [errW_none, errW_some] <;> rfl)) | (simp [*, errW_none, errW_some] <;> rfl), by repeat (first | (with_reducible first | exact HB.out | apply below_alloc | apply pw_below_drewN | apply below_drew1) | exact HB.out)⟩
          ·replace c51 := Bool.eq_false_iff.mpr c51
           subst c51
           have H1 : (some false) = some r := by rw [if_neg (show ¬ (false = true) by decide)] at H; exact H
           clear H
           have H := H1
           clear H1
           obtain rfl := Option.some.inj H
           go_wp2
           go_ret
           exact ⟨by first | rfl | (simp [errW_none, errW_some] <;> rfl) | (simp only [← hji23]; first | rfl | (simp [errW_none, errW_some] <;> rfl)) | (simp [*, errW_none, errW_some] <;> rfl), by repeat (first | (with_reducible first | exact HB.out | apply below_alloc | apply pw_below_drewN | apply below_drew1) | exact HB.out)⟩
      ·rw [if_neg c25] at H
       exact absurd H (by simp)
     ·rw [if_neg c24] at H
      exact absurd H (by simp)

/-- THE ONE PURE STATEMENT of collatorlaw03_RowsRight: yours. -/
def collatorlaw03_RowsRight.Pure : Prop := ∀ (l0 : List ByteArray) (l1 : List Int) (a2 : Int) (a3 : ByteArray), l0.length ≤ maxLen → l0.length * 16 ≤ 140737488351232 → (∀ x ∈ l0, x.size ≤ maxLen) → l1.length ≤ maxLen → l1.length * 8 ≤ 140737488351232 → (∀ x ∈ l1, (Lit.int .i64 x).wf = true) → (Lit.int .i64 a2).wf = true → a3.size ≤ 140737488351232 → ∃ k, collatorlaw03_RowsRight.f k l0 l1 a2 a3 = some true
theorem collatorlaw03_RowsRight.walk (P : collatorlaw03_RowsRight.Pure) (a0 : Option Addr) (len0 cap0 : Nat) (z0 : List ByteArray) (a1 : Option Addr) (len1 cap1 : Nat) (z1 : List Int) (a2 : Int) (a3 : ByteArray) (w : World) (w0 : Go.Proofs.Ythjihdfgamdhmaa.HStrs.IsRowS w a0 len0 cap0 z0) (y0 : len0 * 16 ≤ 140737488351232) (w1 : (a1 = none ∧ len1 = 0 ∧ cap1 = 0 ∧ z1 = []) ∨ ∃ x, a1 = some x ∧ len1 ≤ cap1 ∧ cap1 ≤ maxLen ∧ z1.length = cap1 ∧ (∀ i, i < z1.length → w.cell? (x.add i) = some (.int .i64 (z1.getD i 0))) ∧ ∀ n ∈ z1, (Lit.int .i64 n).wf = true) (y1 : len1 * 8 ≤ 140737488351232) (w2 : (Lit.int .i64 a2).wf = true) (w3 : a3.size ≤ 140737488351232) :
  Calls Try.prog 3 #[.slice a0 len0 cap0, .slice a1 len1 cap1, .int .i64 a2, .string a3] w fun e w' => e = .returned (.bool true) ∧ Below w.heap.size w w' := by
 obtain ⟨l0, rfl, hr0, hm0, hw0, hc0⟩ := Go.Proofs.Ythjihdfgamdhmaa.HStrs.ofRowS w0
 obtain ⟨l1, rfl, hr1, hm1, hw1, hc1⟩ := ReadsInt.ofRowC w1
 obtain ⟨k, h⟩ := P l0 l1 a2 a3 hm0 y0 hw0 hm1 y1 hw1 w2 w3
 refine (collatorlaw03_RowsRight.calls k (fun _ => True) _ _ l0 _ _ l1 a2 a3 true w (Go.Proofs.Ythjihdfgamdhmaa.HStrs.v_of hr0 hc0) (Kd.C_of_reads (d := (0 : Int)) (h1 := fun _ => rfl) hr1) hc1 h).mono ?_
 rintro e w' ⟨rfl, hd⟩
 exact ⟨rfl, hd⟩

end Go.Proofs.Ythjihdfgamdhmaa.P
