/- Texts of this claim, joined: Pxf13, Pxf57, Pxf39. -/
import Derived.Test.YtgobidmfbjmpkaaMHunksTells1
import Derived.Test.YtgobidmfbjmpkaaMHunksTells2
import Derived.Test.YtgobidmfbjmpkaaMHunksTells7
section
/- Laid for this claim by hp.py, this session's program round the kit's print: functions of the program as plain Lean functions, the proofs that the code comes to their answers, and the rows of the laws. Not trusted: Lean checks it. -/
namespace Go.Proofs.Ytgobidmfbjmpkaa.P
open Go.RowKit Go.Proofs.YtgobidmfbjmpkaaW.PrintWords Go.Proofs.YtgobidmfbjmpkaaW.PrintLast Go.Proofs.YtgobidmfbjmpkaaW.PrintMore
attribute [local go_sem] max2_int min2_int max_two min_two max_three min_three max_four min_four   -- for this text's walks alone
set_option linter.unusedVariables false
set_option linter.unusedSimpArgs false

/-! ### collatorref06_Make: function 13 -/
mutual
def collatorref06_Make.j0 : Nat → List (S31) → Int → Bool → Option ((List (S28)) × Int)
 | 0, _, _, _ => none
 | k + 1, x0, x1, x24 => if x24 = true then (some (([] : List (S28)), 1)) else ((collatorref06_steps.f k x0).bind fun t139 => (collatorref06_Make.l0 k x1 t139 ([] : List (S28)) false 0))
def collatorref06_Make.l0 : Nat → Int → List (S71) → List (S28) → Bool → Int → Option ((List (S28)) × Int)
 | 0, _, _, _, _, _ => none
 | k + 1, x1, x7, x8, x9, x10 => if x10 < (x7.length : Int) then ((collatorref06_near.f k x7 x10 x1).bind fun t142 => (if t142 = true then (collatorref06_Make.j2 k x1 x7 x8 x10 t142 (!x9)) else (collatorref06_Make.j2 k x1 x7 x8 x10 t142 false))) else (some (x8, 0))
def collatorref06_Make.j2 : Nat → Int → List (S71) → List (S28) → Int → Bool → Bool → Option ((List (S28)) × Int)
 | 0, _, _, _, _, _, _ => none
 | k + 1, x1, x7, x8, x10, x11, x41 => if x41 = true then (if 0 ≤ x10 then (if x10 < (x7.length : Int) then (if x8.length < 3518437208883 then ((some (x8 ++ [(⟨(rd_T71 x7 x10).f2, (rd_T71 x7 x10).f3, ([] : List (S31))⟩ : S28)] : List (S28))).bind fun y145 => (if x11 = true then (if 0 ≤ (wrap64 ((y145.length : Int) - 1)) then (if (wrap64 ((y145.length : Int) - 1)) < (y145.length : Int) then ((collatorref06_with.f ((rd_T28 y145 (wrap64 ((y145.length : Int) - 1))).f2) ((rd_T71 x7 x10).f0) ((rd_T71 x7 x10).f1) ((rd_T71 x7 x10).f2) ((rd_T71 x7 x10).f3)).bind fun t151 => (collatorref06_Make.l0 k x1 x7 (y145.set ((wrap64 ((y145.length : Int) - 1)) : Int).toNat (⟨(rd_T28 y145 (wrap64 ((y145.length : Int) - 1))).f0, (rd_T28 y145 (wrap64 ((y145.length : Int) - 1))).f1, t151⟩ : S28)) x11 (wrap64 (x10 + 1)))) else (none)) else (none)) else (collatorref06_Make.l0 k x1 x7 y145 x11 (wrap64 (x10 + 1))))) else (none)) else (none)) else (none)) else (if x11 = true then (if 0 ≤ (wrap64 ((x8.length : Int) - 1)) then (if (wrap64 ((x8.length : Int) - 1)) < (x8.length : Int) then (if 0 ≤ x10 then (if x10 < (x7.length : Int) then ((collatorref06_with.f ((rd_T28 x8 (wrap64 ((x8.length : Int) - 1))).f2) ((rd_T71 x7 x10).f0) ((rd_T71 x7 x10).f1) ((rd_T71 x7 x10).f2) ((rd_T71 x7 x10).f3)).bind fun t158 => (collatorref06_Make.l0 k x1 x7 (x8.set ((wrap64 ((x8.length : Int) - 1)) : Int).toNat (⟨(rd_T28 x8 (wrap64 ((x8.length : Int) - 1))).f0, (rd_T28 x8 (wrap64 ((x8.length : Int) - 1))).f1, t158⟩ : S28)) x11 (wrap64 (x10 + 1)))) else (none)) else (none)) else (none)) else (none)) else (collatorref06_Make.l0 k x1 x7 x8 x11 (wrap64 (x10 + 1))))
end
def collatorref06_Make.f (k : Nat) (l0 : List (S31)) (a1 : Int) : Option ((List (S28)) × Int) := (collatorref04_Right.f k l0).bind fun t138 => (if t138 = true then (if a1 < 0 then (collatorref06_Make.j0 k l0 a1 true) else (collatorref06_Make.j0 k l0 a1 (decide (a1 > 100)))) else (collatorref06_Make.j0 k l0 a1 true))
def collatorref06_Make.T12 : Bool × List (List Nat × List Nat) := (true, [([], []), ([], []), ([], []), ([1, 2], [1, 2]), ([3], [3]), ([4], [4]), ([], []), ([], []), ([6, 7], [6, 7]), ([8], [8]), ([9], [9]), ([5, 10], [5, 10]), ([11], [11]), ([0, 12], [0, 12]), ([13, 13, 0, 1, 2, 3, 4, 5, 6, 7, 8, 9, 10, 11, 12, 13], [0, 13])])
def collatorref06_Make.B12 : List Nat := [0, 0, 0, 6, 14, 30, 0, 0, 192, 448, 960, 2046, 4094, 8191, 16383]
theorem collatorref06_Make.tab12 : rtab .any (opsOf Try.f13 12) = collatorref06_Make.T12 := by kernel_rfl
theorem collatorref06_Make.bits12 : waitsOk collatorref06_Make.T12.2 collatorref06_Make.B12 = true := by kernel_rfl
def collatorref06_Make.T15 : Bool × List (List Nat × List Nat) := (true, [([], []), ([], []), ([1], [1]), ([2], [2]), ([], []), ([4], [4]), ([], []), ([6], [6]), ([], []), ([8], [8]), ([], []), ([], []), ([10, 11], [10, 11]), ([12], [12]), ([9, 13], [9, 13]), ([5, 7, 14], [5, 7, 14]), ([0, 3, 0, 1, 2, 3, 4, 5, 6, 7, 8, 9, 10, 11, 12, 13, 14, 15], [0, 3]), ([16, 15, 14, 0, 1, 2, 3, 4, 5, 6, 7, 8, 9, 10, 11, 12, 13, 14, 15], [15, 16])])
def collatorref06_Make.B15 : List Nat := [0, 0, 2, 6, 0, 16, 0, 64, 0, 256, 0, 0, 3072, 7168, 16128, 32752, 65535, 131071]
theorem collatorref06_Make.tab15 : rtab .any (opsOf Try.f13 15) = collatorref06_Make.T15 := by kernel_rfl
theorem collatorref06_Make.bits15 : waitsOk collatorref06_Make.T15.2 collatorref06_Make.B15 = true := by kernel_rfl
set_option maxHeartbeats 8000000 in
set_option maxRecDepth 100000 in
theorem collatorref06_Make.calls (k : Nat) (A0 : Option Addr) (c0 : Nat) (l0 : List (S31)) (a1 : Int) (r1 : List (S28)) (r2 : Int) (w : World) (hr0 : Kd.C k31 w A0 l0.length l0) (hc0 : l0.length ≤ c0) (h : collatorref06_Make.f k l0 a1 = some (r1, r2)) :
  Calls Try.prog 13 #[.slice A0 l0.length c0, .int .i64 a1] w fun e w' => ∃ v0_ : Value, e = .returned (.tuple #[v0_, .int .i64 r2]) ∧ Kd.N k28 28 w' w.heap.size (fun k_ => (w.heap.size ≤ k_)) v0_ r1 ∧ Below w.heap.size w w' := by
 have hu28 := Try.underlying28
 have hu71 := Try.underlying71
 have HR0 := Aside0.mk hr0
 have HC0 := Aside0.mk hc0
 clear hr0 hc0
 have HB := Aside0.mk (Below.refl w.heap.size w)
 have H : ((collatorref04_Right.f k l0).bind fun t138 => (if t138 = true then (if a1 < 0 then (collatorref06_Make.j0 k l0 a1 true) else (collatorref06_Make.j0 k l0 a1 (decide (a1 > 100)))) else (collatorref06_Make.j0 k l0 a1 true))) = some (r1, r2) := h
 clear h
 replace H := Option.bind_eq_some_iff.mp H
 obtain ⟨t138, A30, H⟩ := H
 replace H : (if t138 = true then (if a1 < 0 then (collatorref06_Make.j0 k l0 a1 true) else (collatorref06_Make.j0 k l0 a1 (decide (a1 > 100)))) else (collatorref06_Make.j0 k l0 a1 true)) = some (r1, r2) := H
 have A3 := Aside0.mk A30
 clear A30
 have HC4 := Aside0.mk H
 clear H
 go_enter Try.func13, Try.ntmps13
 go_upto_region 2 with (first | ((with_reducible refine gate_callee (f := 35) rfl ?_); refine goesL_ (some 14) rfl rfl Try.func35 (by kernel_rfl) rfl #[.slice A0 l0.length c0] rfl mp_ ?_; (with_reducible refine (collatorref04_Right.calls k _ _ l0 t138 _ ?side1 ?side2 A3.out).mono ?_); (case side1 => repeat (first | exact HR0.out | (with_reducible refine Kd.C_alloc ?_ _) | (with_reducible refine Kd.C_drewN ?_ _) | (with_reducible refine Kd.C_drew ?_))); (case side2 => exact HC0.out); rintro e w5 ⟨rfl, hb⟩; refine ⟨_, rfl, ?_⟩; have n0_ := Aside0.mk (below_step hb_ hb); clear HB; have HB := n0_; clear n0_; (try clear hb); (try clear hb2); (try clear hk); (try clear hi)))
 (try simp only [Act.put, List.setIfInBounds_toArray, List.set_cons_zero, List.set_cons_succ])
 go_cut [24] (fun v24 wc => ∃ (kq : Nat) (x24_3 : Bool), v24 = .bool x24_3 ∧ Aside0 (collatorref06_Make.j0 kq l0 a1 x24_3 = some (r1, r2)) ∧ Aside0 (kq ≤ k) ∧ Aside0 (Below w.heap.size w wc))
 case first =>
  have H := HC4.out
  clear HC4
  by_cases c6 : t138 = true
  ·subst c6
   have H1 : (if a1 < 0 then (collatorref06_Make.j0 k l0 a1 true) else (collatorref06_Make.j0 k l0 a1 (decide (a1 > 100)))) = some (r1, r2) := by rw [if_pos rfl] at H; exact H
   clear H
   have H := H1
   clear H1
   by_cases c7 : a1 < 0
   ·rw [if_pos c7] at H
    have c7b0 : decide (a1 < 0) = true := decide_eq_true c7
    clear c7
    (first | rw [c7b0] | rw [c7b1] | (simp only [i64_w, i32_w]; rw [c7b0]) | skip)
    have H' := Aside0.mk H
    clear H
    go_wp2
    go_meet
    case rel => exact ⟨_, (true), rf_, H', ⟨by first | omega | exact Nat.le_refl _⟩, ⟨by repeat (first | (with_reducible first | exact HB.out | apply below_alloc | apply pw_below_drewN | apply below_drew1) | exact HB.out)⟩⟩
   ·rw [if_neg c7] at H
    have c7b0 : decide (a1 < 0) = false := decide_eq_false c7
    clear c7
    (first | rw [c7b0] | rw [c7b1] | (simp only [i64_w, i32_w]; rw [c7b0]) | skip)
    have H' := Aside0.mk H
    clear H
    go_wp2
    go_meet
    case rel => exact ⟨_, (decide (a1 > 100)), rf_, H', ⟨by first | omega | exact Nat.le_refl _⟩, ⟨by repeat (first | (with_reducible first | exact HB.out | apply below_alloc | apply pw_below_drewN | apply below_drew1) | exact HB.out)⟩⟩
  ·replace c6 := Bool.eq_false_iff.mpr c6
   subst c6
   have H1 : (collatorref06_Make.j0 k l0 a1 true) = some (r1, r2) := by rw [if_neg (show ¬ (false = true) by decide)] at H; exact H
   clear H
   have H := H1
   clear H1
   have H' := Aside0.mk H
   clear H
   go_wp2
   go_meet
   case rel => exact ⟨_, (true), rf_, H', ⟨by first | omega | exact Nat.le_refl _⟩, ⟨by repeat (first | (with_reducible first | exact HB.out | apply below_alloc | apply pw_below_drewN | apply below_drew1) | exact HB.out)⟩⟩
 case rest =>
  clear HC4
  (try clear c1);(try clear p2);(try clear c3);(try clear c6);(try clear c7);(try clear c7b0)
  obtain ⟨kq, x24_3, rfl, HA, HJ3, HB⟩ := hcut
  cases kq with
  | zero => exact absurd HA.out (by simp [collatorref06_Make.j0])
  | succ kj3 =>
   have H := HA.out
   clear HA
   simp only [collatorref06_Make.j0] at H
   by_cases c8 : x24_3 = true
   ·subst c8
    have H1 : (some (([] : List (S28)), 1)) = some (r1, r2) := by rw [if_pos rfl] at H; exact H
    clear H
    have H := H1
    clear H1
    simp only [Option.some.injEq, Prod.mk.injEq] at H
    obtain ⟨rfl, rfl⟩ := H
    go_wp2
    go_ret2
    exact ⟨_, by first | rfl | (simp [errW_none, errW_some] <;> rfl) | (simp [*, errW_none, errW_some] <;> rfl), by first | exact Kd.R_nil _ _ _ _ _ | exact Kd.N_nil _ _ _ _ _ | exact Kd.V_nil _ _ _ _ _ | exact Kd.Q_nil _ _ _ _ _ | exact Kd.S_nil _ _ _ _ _, by repeat (first | (with_reducible first | exact HB.out | apply below_alloc | apply pw_below_drewN | apply below_drew1) | exact HB.out)⟩
   ·replace c8 := Bool.eq_false_iff.mpr c8
    subst c8
    have H1 : ((collatorref06_steps.f kj3 l0).bind fun t139 => (collatorref06_Make.l0 kj3 a1 t139 ([] : List (S28)) false 0)) = some (r1, r2) := by rw [if_neg (show ¬ (false = true) by decide)] at H; exact H
    clear H
    have H := H1
    clear H1
    replace H := Option.bind_eq_some_iff.mp H
    obtain ⟨t139, A90, H⟩ := H
    replace H : (collatorref06_Make.l0 kj3 a1 t139 ([] : List (S28)) false 0) = some (r1, r2) := H
    have A9 := Aside0.mk A90
    clear A90
    have H' := Aside0.mk H
    clear H
    go_wp2_with (first | ((with_reducible refine gate_callee (f := 36) rfl ?_); refine goesL_ (some 26) rfl rfl Try.func36 (by kernel_rfl) rfl #[.slice A0 l0.length c0] rfl mp_ ?_; (with_reducible refine (collatorref06_steps.calls kj3 _ _ l0 t139 _ ?side1 ?side2 A9.out).mono ?_); (case side1 => repeat (first | exact (Kd.C_below HR0.out HB.out) | (with_reducible refine Kd.C_alloc ?_ _) | (with_reducible refine Kd.C_drewN ?_ _) | (with_reducible refine Kd.C_drew ?_))); (case side2 => exact HC0.out); rintro e w10 ⟨v140, rfl, ho0, hb⟩; refine ⟨_, rfl, ?_⟩; have n0_ := Aside0.mk (Kd.R_lower (Kd.R_newM (M := fun k_ => (w.heap.size ≤ k_)) ho0 (below_size hb_) (fun k_ h_ => h_)) (below_size hb_)); have n1_ := Aside0.mk (below_step hb_ hb); clear HB; have HO141 := n0_; have HB := n1_; clear n0_ n1_; (try clear hb); (try clear hb2); (try clear hk); (try clear hi); (try clear ho0)))
    go_loopg [8, 9, 10] kj3 (fun kq v8 v9 v10 w' => ∃ (x8_2 : List (S28)) (x9_2 : Bool) (x10_2 : Int), v9 = .bool x9_2 ∧ v10 = .int .i64 x10_2 ∧ Aside0 (collatorref06_Make.l0 kq a1 t139 x8_2 x9_2 x10_2 = some (r1, r2)) ∧ Aside0 (kq ≤ kj3) ∧ Aside0 (Kd.R k71 71 w' w.heap.size (fun k_ => (w.heap.size ≤ k_)) v140 t139) ∧ Aside0 (Kd.N k28 28 w' w.heap.size (fun k_ => (w.heap.size ≤ k_) ∧ some k_ ≠ (v140 : Value).ownBlock) v8 x8_2) ∧ Aside0 (Below w.heap.size w w'))
    case atStart => exact ⟨(([] : List (S28))), (false), (0), rf_, rf_, H', ⟨Nat.le_refl _⟩, ⟨by (with_reducible repeat (first | apply Kd.R_alloc | apply Kd.R_drewN | apply Kd.R_drew)); exact Kd.R_mono HO141.out (fun _ hk => hk.1)⟩, ⟨by first | exact Kd.R_nil _ _ _ _ _ | exact Kd.N_nil _ _ _ _ _ | exact Kd.V_nil _ _ _ _ _ | exact Kd.Q_nil _ _ _ _ _ | exact Kd.S_nil _ _ _ _ _⟩, ⟨by repeat (first | (with_reducible first | exact HB.out | apply below_alloc | apply pw_below_drewN | apply below_drew1) | exact HB.out)⟩⟩
    case round =>
     clear H'
     (try clear c1);(try clear p2);(try clear c3);(try clear c6);(try clear c7);(try clear c7b0);(try clear c8);(try clear p2)
     obtain ⟨x8_2, x9_2, x10_2, rfl, rfl, HA, HK2, HO_7, HO_8, HB⟩ := hrel
     cases gk with
     | zero => exact absurd HA.out (by simp [collatorref06_Make.l0])
     | succ k2 =>
      have H := HA.out
      clear HA
      simp only [collatorref06_Make.l0] at H
      by_cases c11 : x10_2 < (t139.length : Int)
      ·rw [if_pos c11] at H
       have c11b0 : decide (x10_2 < (t139.length : Int)) = true := decide_eq_true c11
       clear c11
       replace H := Option.bind_eq_some_iff.mp H
       obtain ⟨t142, A120, H⟩ := H
       replace H : (if t142 = true then (collatorref06_Make.j2 k2 a1 t139 x8_2 x10_2 t142 (!x9_2)) else (collatorref06_Make.j2 k2 a1 t139 x8_2 x10_2 t142 false)) = some (r1, r2) := H
       have A12 := Aside0.mk A120
       clear A120
       have HC13 := Aside0.mk H
       clear H
       obtain ⟨Ao14, co14, eo14⟩ := Kd.R_slice HO_7.out
       subst eo14
       go_upto_region 11 with (first | ((with_reducible refine gate_callee (f := 37) rfl ?_); refine goesL_ (some 36) rfl rfl Try.func37 (by kernel_rfl) rfl #[.slice Ao14 t139.length co14, .int .i64 x10_2, .int .i64 a1] rfl mp_ ?_; (with_reducible refine (collatorref06_near.calls k2 _ _ t139 x10_2 a1 t142 _ ?side1 ?side2 A12.out).mono ?_); (case side1 => repeat (first | exact (Kd.R_reads' HO_7.out).2.2 | (with_reducible refine Kd.C_alloc ?_ _) | (with_reducible refine Kd.C_drewN ?_ _) | (with_reducible refine Kd.C_drew ?_))); (case side2 => exact (Kd.R_reads' HO_7.out).2.1); rintro e w' ⟨rfl, ⟨nd, rfl⟩⟩; refine ⟨_, rfl, ?_⟩))
       (try simp only [Act.put, List.setIfInBounds_toArray, List.set_cons_zero, List.set_cons_succ])
       go_cut [41] (fun v41 wc => ∃ (kq : Nat) (x41_12 : Bool), v41 = .bool x41_12 ∧ Aside0 (collatorref06_Make.j2 kq a1 t139 x8_2 x10_2 t142 x41_12 = some (r1, r2)) ∧ Aside0 (kq ≤ k2) ∧ Aside0 (Kd.R k71 71 wc w.heap.size (fun k_ => (w.heap.size ≤ k_)) (.slice Ao14 t139.length co14) t139) ∧ Aside0 (Kd.N k28 28 wc w.heap.size (fun k_ => (w.heap.size ≤ k_) ∧ some k_ ≠ ((.slice Ao14 t139.length co14) : Value).ownBlock) u8 x8_2) ∧ Aside0 (Below w.heap.size w wc))
       case first =>
        have H := HC13.out
        clear HC13
        by_cases c15 : t142 = true
        ·subst c15
         have H1 : (collatorref06_Make.j2 k2 a1 t139 x8_2 x10_2 true (!x9_2)) = some (r1, r2) := by rw [if_pos rfl] at H; exact H
         clear H
         have H := H1
         clear H1
         have H' := Aside0.mk H
         clear H
         go_wp2
         go_meet
         case rel => exact ⟨_, (!x9_2), rf_, H', ⟨by have := HJ3.out; have := HK2.out; first | omega | exact Nat.le_refl _⟩, ⟨by (with_reducible repeat (first | apply Kd.R_alloc | apply Kd.R_drewN | apply Kd.R_drew)); exact HO_7.out⟩, ⟨by (with_reducible repeat (first | apply Kd.N_alloc | apply Kd.N_drewN | apply Kd.N_drew)); exact HO_8.out⟩, ⟨by repeat (first | (with_reducible first | exact HB.out | apply below_alloc | apply pw_below_drewN | apply below_drew1) | exact HB.out)⟩⟩
        ·replace c15 := Bool.eq_false_iff.mpr c15
         subst c15
         have H1 : (collatorref06_Make.j2 k2 a1 t139 x8_2 x10_2 false false) = some (r1, r2) := by rw [if_neg (show ¬ (false = true) by decide)] at H; exact H
         clear H
         have H := H1
         clear H1
         have H' := Aside0.mk H
         clear H
         go_wp2
         go_meet
         case rel => exact ⟨_, (false), rf_, H', ⟨by have := HJ3.out; have := HK2.out; first | omega | exact Nat.le_refl _⟩, ⟨by (with_reducible repeat (first | apply Kd.R_alloc | apply Kd.R_drewN | apply Kd.R_drew)); exact HO_7.out⟩, ⟨by (with_reducible repeat (first | apply Kd.N_alloc | apply Kd.N_drewN | apply Kd.N_drew)); exact HO_8.out⟩, ⟨by repeat (first | (with_reducible first | exact HB.out | apply below_alloc | apply pw_below_drewN | apply below_drew1) | exact HB.out)⟩⟩
       case rest =>
        clear HC13
        (try clear c1);(try clear p2);(try clear c3);(try clear c6);(try clear c7);(try clear c7b0);(try clear c8);(try clear c11);(try clear c11b0);(try clear c13);(try clear c15);(try clear p2)
        obtain ⟨kq, x41_12, rfl, HA, HJ12, HO_7, HO_8, HB⟩ := hcut
        cases kq with
        | zero => exact absurd HA.out (by simp [collatorref06_Make.j2])
        | succ kj12 =>
         have H := HA.out
         clear HA
         simp only [collatorref06_Make.j2] at H
         by_cases c16 : x41_12 = true
         ·subst c16
          have H1 : (if 0 ≤ x10_2 then (if x10_2 < (t139.length : Int) then (if x8_2.length < 3518437208883 then ((some (x8_2 ++ [(⟨(rd_T71 t139 x10_2).f2, (rd_T71 t139 x10_2).f3, ([] : List (S31))⟩ : S28)] : List (S28))).bind fun y145 => (if t142 = true then (if 0 ≤ (wrap64 ((y145.length : Int) - 1)) then (if (wrap64 ((y145.length : Int) - 1)) < (y145.length : Int) then ((collatorref06_with.f ((rd_T28 y145 (wrap64 ((y145.length : Int) - 1))).f2) ((rd_T71 t139 x10_2).f0) ((rd_T71 t139 x10_2).f1) ((rd_T71 t139 x10_2).f2) ((rd_T71 t139 x10_2).f3)).bind fun t151 => (collatorref06_Make.l0 kj12 a1 t139 (y145.set ((wrap64 ((y145.length : Int) - 1)) : Int).toNat (⟨(rd_T28 y145 (wrap64 ((y145.length : Int) - 1))).f0, (rd_T28 y145 (wrap64 ((y145.length : Int) - 1))).f1, t151⟩ : S28)) t142 (wrap64 (x10_2 + 1)))) else (none)) else (none)) else (collatorref06_Make.l0 kj12 a1 t139 y145 t142 (wrap64 (x10_2 + 1))))) else (none)) else (none)) else (none)) = some (r1, r2) := by rw [if_pos rfl] at H; exact H
          clear H
          have H := H1
          clear H1
          by_cases c17 : 0 ≤ x10_2
          ·rw [if_pos c17] at H
           have c17b0 : decide (0 ≤ x10_2) = true := decide_eq_true c17
           clear c17
           by_cases c18 : x10_2 < (t139.length : Int)
           ·rw [if_pos c18] at H
            have c18b0 : decide (x10_2 < (t139.length : Int)) = true := decide_eq_true c18
            clear c18
            by_cases c19 : x8_2.length < 3518437208883
            ·rw [if_pos c19] at H
             have LMc19 := Aside0.mk c19
             clear c19
             obtain ⟨y145, hy145⟩ : ∃ y_ : List (S28), y_ = (x8_2 ++ [(⟨(rd_T71 t139 x10_2).f2, (rd_T71 t139 x10_2).f3, ([] : List (S31))⟩ : S28)]) := ⟨_, rfl⟩
             replace H : (if t142 = true then (if 0 ≤ (wrap64 ((y145.length : Int) - 1)) then (if (wrap64 ((y145.length : Int) - 1)) < (y145.length : Int) then ((collatorref06_with.f ((rd_T28 y145 (wrap64 ((y145.length : Int) - 1))).f2) ((rd_T71 t139 x10_2).f0) ((rd_T71 t139 x10_2).f1) ((rd_T71 t139 x10_2).f2) ((rd_T71 t139 x10_2).f3)).bind fun t151 => (collatorref06_Make.l0 kj12 a1 t139 (y145.set ((wrap64 ((y145.length : Int) - 1)) : Int).toNat (⟨(rd_T28 y145 (wrap64 ((y145.length : Int) - 1))).f0, (rd_T28 y145 (wrap64 ((y145.length : Int) - 1))).f1, t151⟩ : S28)) t142 (wrap64 (x10_2 + 1)))) else (none)) else (none)) else (collatorref06_Make.l0 kj12 a1 t139 y145 t142 (wrap64 (x10_2 + 1)))) = some (r1, r2) := by first | (rw [hy145]; with_reducible exact H) | (have H2_ := (Option.bind_some _ _).symm.trans H; rw [hy145]; with_reducible exact H2_) | (have H2_ := (Option.bind_some _ _).symm.trans H; with_reducible exact H2_) | with_reducible exact H | (rw [hy145]; exact H) | exact H
             have Ny145 := Aside0.mk hy145
             clear hy145
             by_cases c20 : t142 = true
             ·subst c20
              have H1 : (if 0 ≤ (wrap64 ((y145.length : Int) - 1)) then (if (wrap64 ((y145.length : Int) - 1)) < (y145.length : Int) then ((collatorref06_with.f ((rd_T28 y145 (wrap64 ((y145.length : Int) - 1))).f2) ((rd_T71 t139 x10_2).f0) ((rd_T71 t139 x10_2).f1) ((rd_T71 t139 x10_2).f2) ((rd_T71 t139 x10_2).f3)).bind fun t151 => (collatorref06_Make.l0 kj12 a1 t139 (y145.set ((wrap64 ((y145.length : Int) - 1)) : Int).toNat (⟨(rd_T28 y145 (wrap64 ((y145.length : Int) - 1))).f0, (rd_T28 y145 (wrap64 ((y145.length : Int) - 1))).f1, t151⟩ : S28)) true (wrap64 (x10_2 + 1)))) else (none)) else (none)) = some (r1, r2) := by rw [if_pos rfl] at H; exact H
              clear H
              have H := H1
              clear H1
              obtain ⟨ji21, hji21⟩ : ∃ j_ : Int, (wrap64 ((y145.length : Int) - 1)) = j_ := ⟨_, rfl⟩
              replace H : (if 0 ≤ (ji21) then (if (ji21) < (y145.length : Int) then ((collatorref06_with.f ((rd_T28 y145 (ji21)).f2) ((rd_T71 t139 x10_2).f0) ((rd_T71 t139 x10_2).f1) ((rd_T71 t139 x10_2).f2) ((rd_T71 t139 x10_2).f3)).bind fun t151 => (collatorref06_Make.l0 kj12 a1 t139 (y145.set ((ji21) : Int).toNat (⟨(rd_T28 y145 (ji21)).f0, (rd_T28 y145 (ji21)).f1, t151⟩ : S28)) true (wrap64 (x10_2 + 1)))) else (none)) else (none)) = some (r1, r2) := by first | (rw [hji21] at H; exact H) | (simp only [hji21] at H ⊢; exact H)
              have hji21w : (IntKind.i64.wrap ((y145.length : Int) - 1)) = ji21 := (i64_w _).trans hji21
              by_cases c22 : 0 ≤ (ji21)
              ·rw [if_pos c22] at H
               have c22b0 : decide (0 ≤ (ji21)) = true := decide_eq_true c22
               clear c22
               by_cases c23 : (ji21) < (y145.length : Int)
               ·rw [if_pos c23] at H
                have c23b0 : decide ((ji21) < (y145.length : Int)) = true := decide_eq_true c23
                clear c23
                replace H := Option.bind_eq_some_iff.mp H
                obtain ⟨t151, A240, H⟩ := H
                replace H : (collatorref06_Make.l0 kj12 a1 t139 (y145.set ((ji21) : Int).toNat (⟨(rd_T28 y145 (ji21)).f0, (rd_T28 y145 (ji21)).f1, t151⟩ : S28)) true (wrap64 (x10_2 + 1))) = some (r1, r2) := H
                have A24 := Aside0.mk A240
                clear A240
                obtain ⟨y154, hy154⟩ : ∃ y_ : List (S28), y_ = (y145.set ((ji21) : Int).toNat (⟨(rd_T28 y145 (ji21)).f0, (rd_T28 y145 (ji21)).f1, t151⟩ : S28)) := ⟨_, rfl⟩
                replace H : (collatorref06_Make.l0 kj12 a1 t139 y154 true (wrap64 (x10_2 + 1))) = some (r1, r2) := by first | (rw [hy154]; with_reducible exact H) | (have H2_ := (Option.bind_some _ _).symm.trans H; rw [hy154]; with_reducible exact H2_) | (have H2_ := (Option.bind_some _ _).symm.trans H; with_reducible exact H2_) | with_reducible exact H | (rw [hy154]; exact H) | exact H
                have Ny154 := Aside0.mk hy154
                clear hy154
                have H' := Aside0.mk H
                clear H
                try go_wp2
                have n0_ := Aside0.mk (Kd.R_drew HO_7.out)
                have n1_ := Aside0.mk (Kd.N_drew HO_8.out)
                have n2_ := Aside0.mk (below_drew1 HB.out)
                clear HO_7
                clear HO_8
                clear HB
                have HO_7 := n0_
                have HO_8 := n1_
                have HB := n2_
                clear n0_ n1_ n2_
                have p143 : 0 ≤ (x10_2 : Int) := of_decide_eq_true as_
                have q143 : x10_2 < (t139.length : Int) := of_decide_eq_true as_
                obtain ⟨ad143, e143, hx143_0, hx143_1, hx143_2, hx143_3⟩ := at_T71 (Kd.R_reads' HO_7.out).2.2 x10_2 p143 q143
                cases e143
                replace p143 := eq_true p143
                replace q143 := eq_true q143
                have p144 : 0 ≤ (x10_2 : Int) := of_decide_eq_true as_
                have q144 : x10_2 < (t139.length : Int) := of_decide_eq_true as_
                obtain ⟨ad144, e144, hx144_0, hx144_1, hx144_2, hx144_3⟩ := at_T71 (Kd.R_reads' HO_7.out).2.2 x10_2 p144 q144
                obtain rfl : ad143 = ad144 := (by injection e144)
                replace p144 := eq_true p144
                replace q144 := eq_true q144
                refine start_ (n := 15) (S := fun w' => w'.cell? (ad143.add ((x10_2).toNat * 4)) = some (.int .i64 ((rd_T71 t139 x10_2).f0)) ∧ w'.cell? ⟨(ad143.add ((x10_2).toNat * 4)).block, (ad143.add ((x10_2).toNat * 4)).off + 1, none⟩ = some (.string ((rd_T71 t139 x10_2).f1)) ∧ w'.cell? ⟨(ad143.add ((x10_2).toNat * 4)).block, (ad143.add ((x10_2).toNat * 4)).off + 2, none⟩ = some (.int .i64 ((rd_T71 t139 x10_2).f2)) ∧ w'.cell? ⟨(ad143.add ((x10_2).toNat * 4)).block, (ad143.add ((x10_2).toNat * 4)).off + 3, none⟩ = some (.int .i64 ((rd_T71 t139 x10_2).f3)) ∧ w'.cell? (ad143.add ((x10_2).toNat * 4)) = some (.int .i64 ((rd_T71 t139 x10_2).f0)) ∧ w'.cell? ⟨(ad143.add ((x10_2).toNat * 4)).block, (ad143.add ((x10_2).toNat * 4)).off + 1, none⟩ = some (.string ((rd_T71 t139 x10_2).f1)) ∧ w'.cell? ⟨(ad143.add ((x10_2).toNat * 4)).block, (ad143.add ((x10_2).toNat * 4)).off + 2, none⟩ = some (.int .i64 ((rd_T71 t139 x10_2).f2)) ∧ w'.cell? ⟨(ad143.add ((x10_2).toNat * 4)).block, (ad143.add ((x10_2).toNat * 4)).off + 3, none⟩ = some (.int .i64 ((rd_T71 t139 x10_2).f3))) (ds := [12, 13]) #[false, false, false, false, false, false, false, false, false, false, false, false, false, false, false] (by kernel_rfl) rfl rfl ⟨hx143_0, hx143_1, hx143_2, hx143_3, hx144_0, hx144_1, hx144_2, hx144_3⟩ (fun hHeld => ?_); refine with_tabW collatorref06_Make.tab12 collatorref06_Make.bits12 (fun HT_ HW_ => ?_)
                generalize wc.drew = w26 at HO_7 HO_8 HB hx143_0 hx143_1 hx143_2 hx143_3 hx144_0 hx144_1 hx144_2 hx144_3 hHeld ⊢
                refine pu_ (i := 0) (N := some 42) (any_of HT_.out (by kernel_rfl)) ?_
                refine pu_ (i := 1) (N := some 43) (any_of HT_.out (by kernel_rfl)) ?_
                refine pu_ (i := 2) (N := some 44) (any_of HT_.out (by kernel_rfl)) ?_
                refine pu_ (i := 3) (N := some 45) (any_of HT_.out (by kernel_rfl)) ?_
                refine pu_ (i := 4) (N := some 46) (any_of HT_.out (by kernel_rfl)) ?_
                refine pu_ (i := 6) (N := some 48) (any_of HT_.out (by kernel_rfl)) ?_
                refine pu_ (i := 7) (N := some 49) (any_of HT_.out (by kernel_rfl)) ?_
                refine pu_ (i := 8) (N := some 50) (any_of HT_.out (by kernel_rfl)) ?_
                refine pu_ (i := 9) (N := some 51) (any_of HT_.out (by kernel_rfl)) ?_
                refine ta_ (i := 5) (N := some 47) (take_ofW HT_.out HW_.out (by kernel_rfl)) hHeld ?_
                refine ta_ (i := 10) (N := some 52) (take_ofW HT_.out HW_.out (by kernel_rfl)) hHeld ?_
                refine pu_ (i := 11) (N := some 53) (any_of HT_.out (by kernel_rfl)) ?_
                refine last_ (i := 12) (N := some 54) #[true, true, true, true, true, true, true, true, true, true, true, true, true, false, false] rfl rfl (one_of HT_.out (by kernel_rfl)) (by decide) (fun K hK => ?_)
                refine value_ (w1 := ?_) (v := ?_) (by rfl) rfl ?_ ?_
                rotate_left 2
                ·go_simp
                 constructor
                 ·rfl
                 ·rfl
                refine hK.out _ _ ?_
                clear hK K
                refine norm_ (a' := ?_) ?_ ?_
                rotate_left
                ·show Act.put _ (some 54) _ = _
                 simp only [Act.put, List.setIfInBounds_toArray, List.set_cons_zero, List.set_cons_succ, i64_w, i32_w]
                 rfl
                refine last_ (i := 13) (N := some 55) #[true, true, true, true, true, true, true, true, true, true, true, true, true, true, false] rfl rfl (one_of HT_.out (by kernel_rfl)) (by decide) (fun K hK => ?_)
                refine Kd.N_append_step k28 (w0 := w) w.heap.size (by rfl) (.tmp 42) (.tmp 54) 22 28 (.agg #[(.int .i64 0), (.int .i64 0), (.slice none 0 0)]) 40 rfl Try.underlying22 info28 rfl (by decide) (by omega) u8 x8_2 (⟨(rd_T71 t139 x10_2).f2, (rd_T71 t139 x10_2).f3, ([] : List (S31))⟩ : S28) [.int .i64 ((rd_T71 t139 x10_2).f2), .int .i64 ((rd_T71 t139 x10_2).f3), .slice none 0 0] (fun k_ => (w.heap.size ≤ k_) ∧ some k_ ≠ (.slice (some ad143) t139.length co14 : Value).ownBlock) (fun k_ => ((fun k_ => (w.heap.size ≤ k_) ∧ some k_ ≠ (.slice (some ad143) t139.length co14 : Value).ownBlock)) k_ ∧ some k_ ≠ (u8 : Value).ownBlock) rfl rfl ?aP (fun _ hk => hk) ?aF ?aO ?aB ?aS ?aL ?_
                (case aP => exact (k28_mkF _ _ (⟨(rd_T71 t139 x10_2).f2, (rd_T71 t139 x10_2).f3, ([] : List (S31))⟩ : S28) (Nat.le_refl _) (Kd.F_nil _ _ _)))
                (case aB => exact hb_)
                (case aF => exact (fun k_ hk => ⟨(Nat.le_trans (below_size hb_) hk), Kd.fresh' (Kd.R_lt (by (with_reducible repeat (first | apply Kd.R_alloc | apply Kd.R_drewN | apply Kd.R_drew)); exact HO_7.out)) k_ hk⟩))
                (case aO => exact (by (with_reducible repeat (first | apply Kd.N_alloc | apply Kd.N_drewN | apply Kd.N_drew)); exact HO_8.out))
                (case aS => exact (below_size hb_))
                (case aL => have := LMc19.out; omega)
                intro v146 w27 ho hb hg hat
                rw [← Ny145.out] at ho
                have n0_ := Aside0.mk (Kd.R_over' (by (with_reducible repeat (first | apply Kd.R_alloc | apply Kd.R_drewN | apply Kd.R_drew)); exact HO_7.out) (Kd.N_typed (by (with_reducible repeat (first | apply Kd.N_alloc | apply Kd.N_drewN | apply Kd.N_drew)); exact HO_8.out)) (by decide) hg)
                have n1_ := Aside0.mk (hb)
                have n2_ := Aside0.mk (ho)
                clear HO_7
                clear HB
                clear HO_8
                have HO_7 := n0_
                have HB := n1_
                have HO147 := n2_
                clear n0_ n1_ n2_
                clear ho hb hg hat
                refine hK.out _ _ ?_
                clear hK K
                refine norm_ (a' := ?_) ?_ ?_
                rotate_left
                ·show Act.put _ (some 55) _ = _
                 simp only [Act.put, List.setIfInBounds_toArray, List.set_cons_zero, List.set_cons_succ, i64_w, i32_w]
                 rfl
                refine pu_ (i := 14) (N := some 8) (any_of HT_.out (by kernel_rfl)) ?_
                refine done_ (done_of HT_.out (by kernel_rfl)) ?_
                obtain ⟨Ao28, co28, eo28⟩ := Kd.N_slice HO147.out
                subst eo28
                have p148 : 0 ≤ ((ji21) : Int) := of_decide_eq_true as_
                have q148 : (ji21) < (y145.length : Int) := of_decide_eq_true as_
                obtain ⟨ad148, A148_2, c148_2, e148, hx148_0, hx148_1, hx148_2, hl148_2, hi148_2⟩ := at_T28 (Kd.N_reads' HO147.out).2.2 (ji21) p148 q148
                cases e148
                obtain ⟨ce148, hce148, hMe148, hcc148⟩ := Kd.N_get HO147.out z28 (ji21) p148 (by first | exact q148 | exact of_decide_eq_true as_ | (have e_ := (Kd.N_reads' HO147.out).1; omega))
                obtain ⟨ua148_2, uc148_2, rfl, ul148_2, ge148_2⟩ := k28_openF hMe148
                have hv148_2 := hcc148 2 _ rfl
                rw [add_field _ _ 2 (by omega)] at hv148_2
                replace hv148_2 := Option.some.inj (hv148_2.symm.trans hx148_2)
                injection hv148_2 with hva_ hvn_ hvc_
                rw [hva_] at ge148_2
                rw [hvc_] at ul148_2
                have HL148_2 := Aside0.mk (show Kd.V k31 31 _ w.heap.size _ _ ((rd_T28 y145 (ji21)).f2) from Kd.V_mk ul148_2 ge148_2)
                clear hva_ hvn_ hvc_ ge148_2 ul148_2
                clear hcc148 hce148
                have HR148_2 := Aside0.mk hi148_2
                have HC148_2 := Aside0.mk hl148_2
                clear hi148_2 hl148_2
                replace p148 := eq_true p148
                replace q148 := eq_true q148
                try go_wp2_with (first | ((with_reducible refine gate_dst (N := 12) rfl ?_); refine box_event ?hg (N := 12) ?hd (cs := #[.int .i64 0, .int .i64 0, .slice none 0 0]) (t := 28) ?hr ?_; (case hd => rfl); (case hg => rfl); (case hr => first | (go_simp; done) | (go_simp; rfl)); intro gb149 hg w29 hbox hb; have n0_ := Aside0.mk (Kd.R_below (by (with_reducible repeat (first | apply Kd.R_alloc | apply Kd.R_drewN | apply Kd.R_drew)); exact HO_7.out) hb); have n1_ := Aside0.mk (Kd.N_below (Kd.N_elderB (by (with_reducible repeat (first | apply Kd.N_alloc | apply Kd.N_drewN | apply Kd.N_drew)); exact HO147.out) gb149 (Nat.le_of_eq hg.symm)) hb); have n2_ := Aside0.mk (Kd.V_below (Kd.V_elderB (by (with_reducible repeat (first | apply Kd.V_alloc | apply Kd.V_drewN | apply Kd.V_drew)); exact HL148_2.out) gb149 (Nat.le_of_eq hg.symm)) hb); have n3_ := Aside0.mk (Kd.C_below (by repeat (first | (with_reducible exact HR148_2.out) | (with_reducible refine Kd.C_alloc ?_ _) | (with_reducible refine Kd.C_drewN ?_ _) | (with_reducible refine Kd.C_drew ?_) | exact HR148_2.out)) hb); have n4_ := Aside0.mk (below_step hb_ hb); have n5_ := Aside0.mk (hbox); have n6_ := Aside0.mk ((by rw [hg]; exact (below_size hb_) : w.heap.size ≤ gb149)); have n7_ := Aside0.mk ((by rw [hg]; exact (below_size hb_) : w.heap.size ≤ gb149)); clear HO_7; clear HO147; clear HL148_2; clear HR148_2; clear HB; have HO_7 := n0_; have HO147 := n1_; have HL148_2 := n2_; have HR148_2 := n3_; have HB := n4_; have BK149 := n5_; have GW149 := n6_; have GE149 := n7_; clear n0_ n1_ n2_ n3_ n4_ n5_ n6_ n7_; clear hb hbox hg; have hcz30_0 : w29.cell? ⟨gb149, 0, none⟩ = some (.int .i64 0) := (blk_cell BK149.out 0).trans rfl; have hcz30_1 : w29.cell? ⟨gb149, 1, none⟩ = some (.int .i64 0) := (blk_cell BK149.out 1).trans rfl; have hcz30_2 : w29.cell? ⟨gb149, 2, none⟩ = some (.slice none 0 0) := (blk_cell BK149.out 2).trans rfl; have hfz30_0 := blk_frozen BK149.out 0; have hfz30_1 := blk_frozen BK149.out 1; have hfz30_2 := blk_frozen BK149.out 2))
                have n0_ : Aside0 (Kd.R k71 71 (((w29.setCell ⟨gb149, 0, none⟩ (.int .i64 ((rd_T28 y145 (ji21)).f0))).setCell ⟨gb149, 1, none⟩ (.int .i64 ((rd_T28 y145 (ji21)).f1))).setCell ⟨gb149, 2, none⟩ (.slice A148_2 ((rd_T28 y145 (ji21)).f2).length c148_2)) w.heap.size (fun k_ => (w.heap.size ≤ k_)) (.slice (some ad143) t139.length co14) t139) := ⟨by (with_reducible repeat (first | apply Kd.R_alloc | apply Kd.R_drewN | apply Kd.R_drew)); exact Kd.R_mono (Kd.R_far (p := ⟨gb149, 2, none⟩) (Kd.R_far (p := ⟨gb149, 1, none⟩) (Kd.R_far (p := ⟨gb149, 0, none⟩) (Kd.R_types HO_7.out BK149.out (by decide)) (fun _ hk => hk.2) (.int .i64 ((rd_T28 y145 (ji21)).f0))) (fun _ hk => hk.2) (.int .i64 ((rd_T28 y145 (ji21)).f1))) (fun _ hk => hk.2) (.slice A148_2 ((rd_T28 y145 (ji21)).f2).length c148_2)) (fun _ hk => hk.1)⟩
                have n1_ : Aside0 (Kd.N k28 28 (((w29.setCell ⟨gb149, 0, none⟩ (.int .i64 ((rd_T28 y145 (ji21)).f0))).setCell ⟨gb149, 1, none⟩ (.int .i64 ((rd_T28 y145 (ji21)).f1))).setCell ⟨gb149, 2, none⟩ (.slice A148_2 ((rd_T28 y145 (ji21)).f2).length c148_2)) w.heap.size (fun k_ => (w.heap.size ≤ k_) ∧ some k_ ≠ (.slice (some ad143) t139.length co14 : Value).ownBlock ∧ k_ ≠ gb149) (.slice (some ad148) y145.length co28) y145) := ⟨by (with_reducible repeat (first | apply Kd.N_alloc | apply Kd.N_drewN | apply Kd.N_drew)); exact Kd.N_mono (Kd.N_far (p := ⟨gb149, 2, none⟩) (Kd.N_far (p := ⟨gb149, 1, none⟩) (Kd.N_far (p := ⟨gb149, 0, none⟩) (Kd.N_mono HO147.out (fun k_ hk => (⟨hk, hk.2⟩ : _ ∧ k_ ≠ gb149))) (fun _ hk => hk.2) (.int .i64 ((rd_T28 y145 (ji21)).f0))) (fun _ hk => hk.2) (.int .i64 ((rd_T28 y145 (ji21)).f1))) (fun _ hk => hk.2) (.slice A148_2 ((rd_T28 y145 (ji21)).f2).length c148_2)) (fun _ hk => ⟨hk.1.1.1, ⟨hk.1.1.2, hk.1.2⟩⟩)⟩
                have n2_ : Aside0 (Kd.V k31 31 (((w29.setCell ⟨gb149, 0, none⟩ (.int .i64 ((rd_T28 y145 (ji21)).f0))).setCell ⟨gb149, 1, none⟩ (.int .i64 ((rd_T28 y145 (ji21)).f1))).setCell ⟨gb149, 2, none⟩ (.slice A148_2 ((rd_T28 y145 (ji21)).f2).length c148_2)) w.heap.size (fun k_ => (w.heap.size ≤ k_) ∧ some k_ ≠ (.slice (some ad143) t139.length co14 : Value).ownBlock ∧ some k_ ≠ (.slice (some ad148) y145.length co28 : Value).ownBlock ∧ k_ ≠ gb149) (.slice A148_2 ((rd_T28 y145 (ji21)).f2).length c148_2) ((rd_T28 y145 (ji21)).f2)) := ⟨by (with_reducible repeat (first | apply Kd.V_alloc | apply Kd.V_drewN | apply Kd.V_drew)); exact Kd.V_mono (Kd.V_far (p := ⟨gb149, 2, none⟩) (Kd.V_far (p := ⟨gb149, 1, none⟩) (Kd.V_far (p := ⟨gb149, 0, none⟩) (Kd.V_mono HL148_2.out (fun k_ hk => (⟨hk, hk.2⟩ : _ ∧ k_ ≠ gb149))) (fun _ hk => hk.2) (.int .i64 ((rd_T28 y145 (ji21)).f0))) (fun _ hk => hk.2) (.int .i64 ((rd_T28 y145 (ji21)).f1))) (fun _ hk => hk.2) (.slice A148_2 ((rd_T28 y145 (ji21)).f2).length c148_2)) (fun _ hk => ⟨hk.1.1.1.1, ⟨hk.1.1.1.2, ⟨hk.1.1.2, hk.1.2⟩⟩⟩)⟩
                have n3_ : Aside0 ((((w29.setCell ⟨gb149, 0, none⟩ (.int .i64 ((rd_T28 y145 (ji21)).f0))).setCell ⟨gb149, 1, none⟩ (.int .i64 ((rd_T28 y145 (ji21)).f1))).setCell ⟨gb149, 2, none⟩ (.slice A148_2 ((rd_T28 y145 (ji21)).f2).length c148_2)).heap[gb149]? = some (.cells #[.int .i64 ((rd_T28 y145 (ji21)).f0), .int .i64 ((rd_T28 y145 (ji21)).f1), .slice A148_2 ((rd_T28 y145 (ji21)).f2).length c148_2] 28 (0, 0))) := ⟨by (with_reducible repeat (first | refine blk_drewN ?_ _ | refine blk_drew ?_ | refine blk_alloc ?_ _)); refine blk_put (cs := #[.int .i64 ((rd_T28 y145 (ji21)).f0), .int .i64 ((rd_T28 y145 (ji21)).f1), .slice none 0 0]) ?_ 2 _ rfl; (with_reducible repeat (first | refine blk_drewN ?_ _ | refine blk_drew ?_ | refine blk_alloc ?_ _)); refine blk_put (cs := #[.int .i64 ((rd_T28 y145 (ji21)).f0), .int .i64 0, .slice none 0 0]) ?_ 1 _ rfl; (with_reducible repeat (first | refine blk_drewN ?_ _ | refine blk_drew ?_ | refine blk_alloc ?_ _)); refine blk_put (cs := #[.int .i64 0, .int .i64 0, .slice none 0 0]) ?_ 0 _ rfl; (with_reducible repeat (first | refine blk_drewN ?_ _ | refine blk_drew ?_ | refine blk_alloc ?_ _)); exact BK149.out⟩
                have n4_ : Aside0 (Below w.heap.size w (((w29.setCell ⟨gb149, 0, none⟩ (.int .i64 ((rd_T28 y145 (ji21)).f0))).setCell ⟨gb149, 1, none⟩ (.int .i64 ((rd_T28 y145 (ji21)).f1))).setCell ⟨gb149, 2, none⟩ (.slice A148_2 ((rd_T28 y145 (ji21)).f2).length c148_2))) := ⟨by repeat (first | (with_reducible first | exact HB.out | apply below_alloc | apply pw_below_drewN | apply below_drew1 | refine below_set ?_ GE149.out) | exact HB.out)⟩
                (try clear HO_7)
                (try clear HO147)
                (try clear HL148_2)
                (try clear BK149)
                (try clear HB)
                generalize (((w29.setCell ⟨gb149, 0, none⟩ (.int .i64 ((rd_T28 y145 (ji21)).f0))).setCell ⟨gb149, 1, none⟩ (.int .i64 ((rd_T28 y145 (ji21)).f1))).setCell ⟨gb149, 2, none⟩ (.slice A148_2 ((rd_T28 y145 (ji21)).f2).length c148_2)) = w31 at n0_ n1_ n2_ n3_ n4_ ⊢
                have HO_7 := n0_
                have HO147 := n1_
                have HL148_2 := n2_
                have BK149 := n3_
                have HB := n4_
                clear n0_ n1_ n2_ n3_ n4_
                have n0_ := Aside0.mk (Kd.R_drew HO_7.out)
                have n1_ := Aside0.mk (Kd.N_drew HO147.out)
                have n2_ := Aside0.mk (Kd.V_drew HL148_2.out)
                have n3_ := Aside0.mk (blk_drew BK149.out)
                have n4_ := Aside0.mk (below_drew1 HB.out)
                clear HO_7
                clear HO147
                clear HL148_2
                clear BK149
                clear HB
                have HO_7 := n0_
                have HO147 := n1_
                have HL148_2 := n2_
                have BK149 := n3_
                have HB := n4_
                clear n0_ n1_ n2_ n3_ n4_
                have p150 : 0 ≤ (x10_2 : Int) := of_decide_eq_true as_
                have q150 : x10_2 < (t139.length : Int) := of_decide_eq_true as_
                obtain ⟨ad150, e150, hx150_0, hx150_1, hx150_2, hx150_3⟩ := at_T71 (Kd.R_reads' HO_7.out).2.2 x10_2 p150 q150
                obtain rfl : ad143 = ad150 := (by injection e150)
                replace p150 := eq_true p150
                replace q150 := eq_true q150
                refine start_ (n := 18) (S := fun w' => w'.cell? ⟨gb149, 0, none⟩ = some (.int .i64 ((rd_T28 y145 (ji21)).f0)) ∧ w'.cell? ⟨gb149, 1, none⟩ = some (.int .i64 ((rd_T28 y145 (ji21)).f1)) ∧ w'.cell? ⟨gb149, 2, none⟩ = some (.slice A148_2 ((rd_T28 y145 (ji21)).f2).length c148_2) ∧ w'.cell? (ad143.add ((x10_2).toNat * 4)) = some (.int .i64 ((rd_T71 t139 x10_2).f0)) ∧ w'.cell? ⟨(ad143.add ((x10_2).toNat * 4)).block, (ad143.add ((x10_2).toNat * 4)).off + 1, none⟩ = some (.string ((rd_T71 t139 x10_2).f1)) ∧ w'.cell? ⟨(ad143.add ((x10_2).toNat * 4)).block, (ad143.add ((x10_2).toNat * 4)).off + 2, none⟩ = some (.int .i64 ((rd_T71 t139 x10_2).f2)) ∧ w'.cell? ⟨(ad143.add ((x10_2).toNat * 4)).block, (ad143.add ((x10_2).toNat * 4)).off + 3, none⟩ = some (.int .i64 ((rd_T71 t139 x10_2).f3))) (ds := [17]) #[false, false, false, false, false, false, false, false, false, false, false, false, false, false, false, false, false, false] (by kernel_rfl) rfl rfl ⟨(blk_cell BK149.out 0).trans rfl, (blk_cell BK149.out 1).trans rfl, (blk_cell BK149.out 2).trans rfl, hx150_0, hx150_1, hx150_2, hx150_3⟩ (fun hHeld => ?_); refine with_tabW collatorref06_Make.tab15 collatorref06_Make.bits15 (fun HT_ HW_ => ?_)
                generalize w31.drew = w32 at HO_7 HO147 HL148_2 BK149 HB hx150_0 hx150_1 hx150_2 hx150_3 hHeld ⊢
                refine pu_ (i := 0) (N := some 63) (any_of HT_.out (by kernel_rfl)) ?_
                refine pu_ (i := 1) (N := some 64) (any_of HT_.out (by kernel_rfl)) ?_
                refine pu_ (i := 2) (N := some 65) (any_of HT_.out (by kernel_rfl)) ?_
                refine pu_ (i := 3) (N := some 66) (any_of HT_.out (by kernel_rfl)) ?_
                refine pu_ (i := 4) (N := some 67) (any_of HT_.out (by kernel_rfl)) ?_
                refine pu_ (i := 6) (N := some 69) (any_of HT_.out (by kernel_rfl)) ?_
                refine pu_ (i := 8) (N := some 71) (any_of HT_.out (by kernel_rfl)) ?_
                refine pu_ (i := 10) (N := some 73) (any_of HT_.out (by kernel_rfl)) ?_
                refine pu_ (i := 11) (N := some 74) (any_of HT_.out (by kernel_rfl)) ?_
                refine pu_ (i := 12) (N := some 75) (any_of HT_.out (by kernel_rfl)) ?_
                refine ta_ (i := 5) (N := some 68) (take_ofW HT_.out HW_.out (by kernel_rfl)) hHeld ?_
                refine ta_ (i := 7) (N := some 70) (take_ofW HT_.out HW_.out (by kernel_rfl)) hHeld ?_
                refine ta_ (i := 9) (N := some 72) (take_ofW HT_.out HW_.out (by kernel_rfl)) hHeld ?_
                refine ta_ (i := 13) (N := some 76) (take_ofW HT_.out HW_.out (by kernel_rfl)) hHeld ?_
                refine one_ (i := 14) (N := some 77) #[true, true, true, true, true, true, true, true, true, true, true, true, true, true, true, false, false, false] rfl rfl (one_of HT_.out (by kernel_rfl)) (by decide) (fun K hK => ?_)
                refine goes_ Try.func38 (by kernel_rfl) rfl #[.slice A148_2 ((rd_T28 y145 (ji21)).f2).length c148_2, .agg #[.int .i64 ((rd_T71 t139 x10_2).f0), .string ((rd_T71 t139 x10_2).f1), .int .i64 ((rd_T71 t139 x10_2).f2), .int .i64 ((rd_T71 t139 x10_2).f3)]] (by rfl) rfl rfl (by (try simp only [List.map_toArray, List.map_cons, List.map_nil]); first | done | (simp only [hji21]; rfl) | rfl | (simp only [List.length_drop, List.length_take]; rfl)) ?_
                with_reducible refine (collatorref06_with.calls (fun k_ => ((w.heap.size ≤ k_) ∧ (some k_ ≠ (.slice (some ad143) t139.length co14 : Value).ownBlock ∧ (some k_ ≠ (.slice (some ad148) y145.length co28 : Value).ownBlock ∧ k_ ≠ gb149)))) _ _ ((rd_T28 y145 (ji21)).f2) ((rd_T71 t139 x10_2).f0) ((rd_T71 t139 x10_2).f1) ((rd_T71 t139 x10_2).f2) ((rd_T71 t139 x10_2).f3) t151 _ ?side1 A24.out).mono ?_
                (case side1 => exact HL148_2.out)
                rintro e w33 ⟨v152, rfl, ho0, hb⟩
                have HS3_ := (hb.cell (World.block_lt_of_cell? _ _ (hHeld.2.2.2.1))).trans (hHeld.2.2.2.1)
                have HS4_ := (hb.cell (World.block_lt_of_cell? _ _ (hHeld.2.2.2.2.1))).trans (hHeld.2.2.2.2.1)
                have HS5_ := (hb.cell (World.block_lt_of_cell? _ _ (hHeld.2.2.2.2.2.1))).trans (hHeld.2.2.2.2.2.1)
                have HS6_ := (hb.cell (World.block_lt_of_cell? _ _ (hHeld.2.2.2.2.2.2))).trans (hHeld.2.2.2.2.2.2)
                refine ⟨_, rfl, ?_⟩
                have n0_ := Aside0.mk (Kd.R_below (by (with_reducible repeat (first | apply Kd.R_alloc | apply Kd.R_drewN | apply Kd.R_drew)); exact HO_7.out) hb)
                have n1_ := Aside0.mk (Kd.N_elder' (by (with_reducible repeat (first | apply Kd.N_alloc | apply Kd.N_drewN | apply Kd.N_drew)); exact HO147.out) (by first | exact Kd.N_base ho0 | exact Kd.S_base ho0 | exact Kd.N_base (Kd.R_N ho0)) hb)
                have n2_ := Aside0.mk (Kd.V_elder' (by (with_reducible repeat (first | apply Kd.V_alloc | apply Kd.V_drewN | apply Kd.V_drew)); exact HL148_2.out) (by first | exact Kd.N_base ho0 | exact Kd.S_base ho0 | exact Kd.N_base (Kd.R_N ho0)) hb)
                have n3_ := Aside0.mk (Kd.N_lower (Kd.N_mono (ok' := fun k_ => (w.heap.size ≤ k_) ∧ some k_ ≠ (.slice (some ad143) t139.length co14 : Value).ownBlock ∧ some k_ ≠ (.slice (some ad148) y145.length co28 : Value).ownBlock ∧ k_ ≠ gb149) ho0 (fun k_ hk_ => ⟨Or.elim hk_ (fun hs_ => hs_.1) (fun hn_ => (Nat.le_trans (below_size (by repeat (first | (with_reducible first | exact HB.out | apply below_alloc | apply pw_below_drewN | apply below_drew1 | refine below_set ?_ GE149.out) | exact HB.out))) hn_)), Or.elim hk_ (fun hs_ => hs_.2.1) (fun hn_ => (Kd.fresh' (Kd.R_lt (by (with_reducible repeat (first | apply Kd.R_alloc | apply Kd.R_drewN | apply Kd.R_drew)); exact HO_7.out)) k_ hn_)), Or.elim hk_ (fun hs_ => hs_.2.2.1) (fun hn_ => (Kd.fresh' (Kd.N_lt (by (with_reducible repeat (first | apply Kd.N_alloc | apply Kd.N_drewN | apply Kd.N_drew)); exact HO147.out)) k_ hn_)), Or.elim hk_ (fun hs_ => hs_.2.2.2) (fun hn_ => (Kd.freshB (g := gb149) (o := .cells #[.int .i64 ((rd_T28 y145 (ji21)).f0), .int .i64 ((rd_T28 y145 (ji21)).f1), .slice A148_2 ((rd_T28 y145 (ji21)).f2).length c148_2] 28 (0, 0)) (by (with_reducible repeat (first | refine blk_drewN ?_ _ | refine blk_drew ?_ | refine blk_alloc ?_ _)); exact BK149.out) k_ hn_))⟩)) (below_size (by repeat (first | (with_reducible first | exact HB.out | apply below_alloc | apply pw_below_drewN | apply below_drew1 | refine below_set ?_ GE149.out) | exact HB.out))))
                have n4_ := Aside0.mk (blk_below (g := gb149) (o := .cells #[.int .i64 ((rd_T28 y145 (ji21)).f0), .int .i64 ((rd_T28 y145 (ji21)).f1), .slice A148_2 ((rd_T28 y145 (ji21)).f2).length c148_2] 28 (0, 0)) (by (with_reducible repeat (first | refine blk_drewN ?_ _ | refine blk_drew ?_ | refine blk_alloc ?_ _)); exact BK149.out) hb)
                have n5_ := Aside0.mk (below_step (by repeat (first | (with_reducible first | exact HB.out | apply below_alloc | apply pw_below_drewN | apply below_drew1 | refine below_set ?_ GE149.out) | exact HB.out)) hb)
                clear HO_7
                clear HO147
                clear HL148_2
                clear BK149
                clear HB
                have HO_7 := n0_
                have HO147 := n1_
                have HL148_2 := n2_
                have HO153 := n3_
                have BK149 := n4_
                have HB := n5_
                clear n0_ n1_ n2_ n3_ n4_ n5_
                (try clear hb)
                (try clear hb2)
                (try clear hk)
                (try clear hi)
                (try clear ho0)
                obtain ⟨Ao34, co34, eo34⟩ := Kd.N_slice HO153.out
                (first | subst eo34 | (injection eo34 with f1_ f2_ f3_; have f4_ := f1_.symm; have f5_ := f3_.symm; clear f1_ f2_ f3_; subst f4_; subst f5_))
                have p25 : 0 ≤ ((ji21) : Int) := of_decide_eq_true as_
                have q25 : ((ji21) : Int) < ((y145.length : Int) : Int) := of_decide_eq_true as_
                obtain ⟨go25, co25, eo25, gb25, gl25, cl25, HG25⟩ := Kd.N_form HO147.out (by omega)
                (first | cases eo25 | (injection eo25 with ea_ en_ ec_; (first | subst ea_ | (injection ea_ with ea_; subst ea_)); subst ec_; clear en_))
                have GB25 := Aside0.mk gb25
                have GG25 := Aside0.mk HG25
                clear gb25 gl25 HG25
                (first | simp only [add_plain] at hx148_0 | skip)
                (first | simp only [add_plain] at hx148_1 | skip)
                (first | simp only [add_plain] at hx148_2 | skip)
                obtain ⟨ce25, hcl25, hM25, hcc25, hfr25⟩ := Kd.N_elem HO147.out z28 ((ji21) : Int) p25 q25
                obtain ⟨ua25_2, uc25_2, rfl, ul25_2, ge25_2⟩ := k28_openF hM25
                have hx25_0 : World.cell? _ ⟨go25, ((ji21) : Int).toNat * 3, none⟩ = some (.int .i64 ((rd_T28 y145 (ji21)).f0)) := hcc25 0 _ rfl
                have hx25_1 : World.cell? _ ⟨go25, ((ji21) : Int).toNat * 3 + 1, none⟩ = some (.int .i64 ((rd_T28 y145 (ji21)).f1)) := hcc25 1 _ rfl
                have hx25_2 : World.cell? _ ⟨go25, ((ji21) : Int).toNat * 3 + 2, none⟩ = some (.slice ua25_2 ((rd_T28 y145 (ji21)).f2).length uc25_2) := hcc25 2 _ rfl
                have hf25_0 : World.frozen? _ ⟨go25, ((ji21) : Int).toNat * 3, none⟩ = false := hfr25 0
                have hf25_1 : World.frozen? _ ⟨go25, ((ji21) : Int).toNat * 3 + 1, none⟩ = false := hfr25 1
                have hf25_2 : World.frozen? _ ⟨go25, ((ji21) : Int).toNat * 3 + 2, none⟩ = false := hfr25 2
                clear hcl25 hcc25 hfr25 hM25
                replace p25 := eq_true p25
                replace q25 := eq_true q25
                have HX35 := Aside0.mk (show Kd.N k28 28 _ w.heap.size (fun k_ => (w.heap.size ≤ k_) ∧ some k_ ≠ (.slice (some ad143) t139.length co14 : Value).ownBlock ∧ some k_ ≠ (.slice Ao34 t151.length co34 : Value).ownBlock ∧ k_ ≠ gb149) (.slice (some ⟨go25, 0, none⟩) y145.length co28) y145 from (Kd.N_mono (HO147.out) (fun k_ hk => ⟨hk.1.1, ⟨hk.1.2.1, ⟨hk.2, hk.1.2.2⟩⟩⟩)))
                replace HX35 := Aside0.mk (show Kd.N k28 28 _ w.heap.size (fun k_ => (w.heap.size ≤ k_) ∧ some k_ ≠ (.slice (some ad143) t139.length co14 : Value).ownBlock ∧ k_ ≠ gb149) (.slice (some ⟨go25, 0, none⟩) y145.length co28) y145 from Kd.N_mono HX35.out (fun k_ hk => ⟨hk.1, ⟨hk.2.1, hk.2.2.2⟩⟩))
                obtain ⟨ce35, hcl35, hM35, hcc35, hfr35⟩ := Kd.N_elem HX35.out z28 ((ji21) : Int) (of_decide_eq_true as_) (by have h_ : ((ji21) : Int) < ((y145.length : Int) : Int) := of_decide_eq_true as_; first | exact h_ | (have e_ := (Kd.N_reads' HO147.out).1; omega) | simpa using h_)
                obtain ⟨ua35_2, uc35_2, rfl, ul35_2, ge35_2⟩ := k28_openF hM35
                have HP35 := (Kd.N_seg HX35.out ((ji21) : Int) (of_decide_eq_true as_) (by have h_ : ((ji21) : Int) < ((y145.length : Int) : Int) := of_decide_eq_true as_; first | exact h_ | (have e_ := (Kd.N_reads' HO147.out).1; omega) | simpa using h_) (seg := [.int .i64 ((rd_T28 y145 (ji21)).f0), .int .i64 ((rd_T28 y145 (ji21)).f1), .slice Ao34 t151.length co34]) (j := 0) hcl35 hcc35 (show 3 ≤ 3 from by decide) (x' := (⟨(rd_T28 y145 (ji21)).f0, (rd_T28 y145 (ji21)).f1, t151⟩ : S28)) (k28_mkF _ _ (⟨(rd_T28 y145 (ji21)).f0, (rd_T28 y145 (ji21)).f1, t151⟩ : S28) (Kd.N_reads' (Kd.N_mono (ok' := (fun k_ => ((fun k_ => (w.heap.size ≤ k_) ∧ some k_ ≠ (.slice (some ad143) t139.length co14 : Value).ownBlock ∧ k_ ≠ gb149)) k_ ∧ k_ ≠ go25)) (HO153.out) (fun k_ hk => ⟨⟨hk.1, ⟨hk.2.1, hk.2.2.2⟩⟩, fun e_ => (hk.2.2.1) (by rw [e_]; rfl)⟩))).2.1 (Kd.N_F (Kd.N_mono (ok' := (fun k_ => ((fun k_ => (w.heap.size ≤ k_) ∧ some k_ ≠ (.slice (some ad143) t139.length co14 : Value).ownBlock ∧ k_ ≠ gb149)) k_ ∧ k_ ≠ go25)) (HO153.out) (fun k_ hk => ⟨⟨hk.1, ⟨hk.2.1, hk.2.2.2⟩⟩, fun e_ => (hk.2.2.1) (by rw [e_]; rfl)⟩)))) (fun _ hk => hk)).1
                rw [← Ny154.out] at HP35
                have HQ35 := Aside0.mk HP35
                clear hcl35 hcc35 hfr35 hM35 HP35
                refine hK.out _ _ ⟨(blk_cell BK149.out 0).trans rfl, (blk_cell BK149.out 1).trans rfl, (blk_cell BK149.out 2).trans rfl, HS3_, HS4_, HS5_, HS6_⟩ (fun hHeld => ?_)
                clear hK K
                refine norm_ (a' := ?_) ?_ ?_
                rotate_left
                ·show Act.put _ (some 77) _ = _
                 simp only [Act.put, List.setIfInBounds_toArray, List.set_cons_zero, List.set_cons_succ, i64_w, i32_w]
                 rfl
                refine pu_ (i := 15) (N := some 78) (any_of HT_.out (by kernel_rfl)) ?_
                refine pu_ (i := 16) (N := some 79) (any_of HT_.out (by kernel_rfl)) ?_
                refine last_ (i := 17) (N := none) #[true, true, true, true, true, true, true, true, true, true, true, true, true, true, true, true, true, true] rfl rfl (one_of HT_.out (by kernel_rfl)) (by decide) (fun K hK => ?_)
                refine skip_ (w1 := ?_) (by rfl) rfl ?_ ?_
                rotate_left
                ·go_simp
                 rfl
                refine hK.out _ _ ?_
                clear hK K
                refine done_ (done_of HT_.out (by kernel_rfl)) ?_
                try go_wp2
                go_roundg kj12
                case measure => have := HJ3.out; have := HK2.out; have := HJ12.out; omega
                case rel => exact ⟨(y154), (true), (wrap64 (x10_2 + 1)), rf_, rf_, H', ⟨by have := HJ3.out; have := HK2.out; have := HJ12.out; omega⟩, ⟨by (with_reducible repeat (first | apply Kd.R_alloc | apply Kd.R_drewN | apply Kd.R_drew)); exact Kd.R_mono (Kd.R_far (p := ⟨go25, ((ji21) : Int).toNat * 3 + 2, none⟩) (Kd.R_far (p := ⟨go25, ((ji21) : Int).toNat * 3 + 1, none⟩) (Kd.R_far (p := ⟨go25, ((ji21) : Int).toNat * 3, none⟩) (Kd.R_types HO_7.out GG25.out (by decide)) (fun _ hk => hk.2) (.int .i64 ((rd_T28 y145 (ji21)).f0))) (fun _ hk => hk.2) (.int .i64 ((rd_T28 y145 (ji21)).f1))) (fun _ hk => hk.2) (.slice Ao34 t151.length co34)) (fun _ hk => hk.1)⟩, ⟨by (with_reducible repeat (first | apply Kd.N_alloc | apply Kd.N_drewN | apply Kd.N_drew)); exact Kd.N_mono HQ35.out (fun _ hk => by first | exact ⟨hk.1, hk.2.1⟩ | simp_all)⟩, ⟨by repeat (first | (with_reducible first | exact HB.out | apply below_alloc | apply pw_below_drewN | apply below_drew1 | refine below_set ?_ GB25.out | refine below_set ?_ GB25.out | refine below_set ?_ GB25.out | refine below_set ?_ GE149.out) | exact HB.out)⟩⟩
               ·rw [if_neg c23] at H
                exact absurd H (by simp)
              ·rw [if_neg c22] at H
               exact absurd H (by simp)
             ·replace c20 := Bool.eq_false_iff.mpr c20
              subst c20
              have H1 : (collatorref06_Make.l0 kj12 a1 t139 y145 false (wrap64 (x10_2 + 1))) = some (r1, r2) := by rw [if_neg (show ¬ (false = true) by decide)] at H; exact H
              clear H
              have H := H1
              clear H1
              have H' := Aside0.mk H
              clear H
              try go_wp2
              have n0_ := Aside0.mk (Kd.R_drew HO_7.out)
              have n1_ := Aside0.mk (Kd.N_drew HO_8.out)
              have n2_ := Aside0.mk (below_drew1 HB.out)
              clear HO_7
              clear HO_8
              clear HB
              have HO_7 := n0_
              have HO_8 := n1_
              have HB := n2_
              clear n0_ n1_ n2_
              have p143 : 0 ≤ (x10_2 : Int) := of_decide_eq_true as_
              have q143 : x10_2 < (t139.length : Int) := of_decide_eq_true as_
              obtain ⟨ad143, e143, hx143_0, hx143_1, hx143_2, hx143_3⟩ := at_T71 (Kd.R_reads' HO_7.out).2.2 x10_2 p143 q143
              cases e143
              replace p143 := eq_true p143
              replace q143 := eq_true q143
              have p144 : 0 ≤ (x10_2 : Int) := of_decide_eq_true as_
              have q144 : x10_2 < (t139.length : Int) := of_decide_eq_true as_
              obtain ⟨ad144, e144, hx144_0, hx144_1, hx144_2, hx144_3⟩ := at_T71 (Kd.R_reads' HO_7.out).2.2 x10_2 p144 q144
              obtain rfl : ad143 = ad144 := (by injection e144)
              replace p144 := eq_true p144
              replace q144 := eq_true q144
              refine start_ (n := 15) (S := fun w' => w'.cell? (ad143.add ((x10_2).toNat * 4)) = some (.int .i64 ((rd_T71 t139 x10_2).f0)) ∧ w'.cell? ⟨(ad143.add ((x10_2).toNat * 4)).block, (ad143.add ((x10_2).toNat * 4)).off + 1, none⟩ = some (.string ((rd_T71 t139 x10_2).f1)) ∧ w'.cell? ⟨(ad143.add ((x10_2).toNat * 4)).block, (ad143.add ((x10_2).toNat * 4)).off + 2, none⟩ = some (.int .i64 ((rd_T71 t139 x10_2).f2)) ∧ w'.cell? ⟨(ad143.add ((x10_2).toNat * 4)).block, (ad143.add ((x10_2).toNat * 4)).off + 3, none⟩ = some (.int .i64 ((rd_T71 t139 x10_2).f3)) ∧ w'.cell? (ad143.add ((x10_2).toNat * 4)) = some (.int .i64 ((rd_T71 t139 x10_2).f0)) ∧ w'.cell? ⟨(ad143.add ((x10_2).toNat * 4)).block, (ad143.add ((x10_2).toNat * 4)).off + 1, none⟩ = some (.string ((rd_T71 t139 x10_2).f1)) ∧ w'.cell? ⟨(ad143.add ((x10_2).toNat * 4)).block, (ad143.add ((x10_2).toNat * 4)).off + 2, none⟩ = some (.int .i64 ((rd_T71 t139 x10_2).f2)) ∧ w'.cell? ⟨(ad143.add ((x10_2).toNat * 4)).block, (ad143.add ((x10_2).toNat * 4)).off + 3, none⟩ = some (.int .i64 ((rd_T71 t139 x10_2).f3))) (ds := [12, 13]) #[false, false, false, false, false, false, false, false, false, false, false, false, false, false, false] (by kernel_rfl) rfl rfl ⟨hx143_0, hx143_1, hx143_2, hx143_3, hx144_0, hx144_1, hx144_2, hx144_3⟩ (fun hHeld => ?_); refine with_tabW collatorref06_Make.tab12 collatorref06_Make.bits12 (fun HT_ HW_ => ?_)
              generalize wc.drew = w36 at HO_7 HO_8 HB hx143_0 hx143_1 hx143_2 hx143_3 hx144_0 hx144_1 hx144_2 hx144_3 hHeld ⊢
              refine pu_ (i := 0) (N := some 42) (any_of HT_.out (by kernel_rfl)) ?_
              refine pu_ (i := 1) (N := some 43) (any_of HT_.out (by kernel_rfl)) ?_
              refine pu_ (i := 2) (N := some 44) (any_of HT_.out (by kernel_rfl)) ?_
              refine pu_ (i := 3) (N := some 45) (any_of HT_.out (by kernel_rfl)) ?_
              refine pu_ (i := 4) (N := some 46) (any_of HT_.out (by kernel_rfl)) ?_
              refine pu_ (i := 6) (N := some 48) (any_of HT_.out (by kernel_rfl)) ?_
              refine pu_ (i := 7) (N := some 49) (any_of HT_.out (by kernel_rfl)) ?_
              refine pu_ (i := 8) (N := some 50) (any_of HT_.out (by kernel_rfl)) ?_
              refine pu_ (i := 9) (N := some 51) (any_of HT_.out (by kernel_rfl)) ?_
              refine ta_ (i := 5) (N := some 47) (take_ofW HT_.out HW_.out (by kernel_rfl)) hHeld ?_
              refine ta_ (i := 10) (N := some 52) (take_ofW HT_.out HW_.out (by kernel_rfl)) hHeld ?_
              refine pu_ (i := 11) (N := some 53) (any_of HT_.out (by kernel_rfl)) ?_
              refine last_ (i := 12) (N := some 54) #[true, true, true, true, true, true, true, true, true, true, true, true, true, false, false] rfl rfl (one_of HT_.out (by kernel_rfl)) (by decide) (fun K hK => ?_)
              refine value_ (w1 := ?_) (v := ?_) (by rfl) rfl ?_ ?_
              rotate_left 2
              ·go_simp
               constructor
               ·rfl
               ·rfl
              refine hK.out _ _ ?_
              clear hK K
              refine norm_ (a' := ?_) ?_ ?_
              rotate_left
              ·show Act.put _ (some 54) _ = _
               simp only [Act.put, List.setIfInBounds_toArray, List.set_cons_zero, List.set_cons_succ, i64_w, i32_w]
               rfl
              refine last_ (i := 13) (N := some 55) #[true, true, true, true, true, true, true, true, true, true, true, true, true, true, false] rfl rfl (one_of HT_.out (by kernel_rfl)) (by decide) (fun K hK => ?_)
              refine Kd.N_append_step k28 (w0 := w) w.heap.size (by rfl) (.tmp 42) (.tmp 54) 22 28 (.agg #[(.int .i64 0), (.int .i64 0), (.slice none 0 0)]) 40 rfl Try.underlying22 info28 rfl (by decide) (by omega) u8 x8_2 (⟨(rd_T71 t139 x10_2).f2, (rd_T71 t139 x10_2).f3, ([] : List (S31))⟩ : S28) [.int .i64 ((rd_T71 t139 x10_2).f2), .int .i64 ((rd_T71 t139 x10_2).f3), .slice none 0 0] (fun k_ => (w.heap.size ≤ k_) ∧ some k_ ≠ (.slice (some ad143) t139.length co14 : Value).ownBlock) (fun k_ => ((fun k_ => (w.heap.size ≤ k_) ∧ some k_ ≠ (.slice (some ad143) t139.length co14 : Value).ownBlock)) k_ ∧ some k_ ≠ (u8 : Value).ownBlock) rfl rfl ?aP (fun _ hk => hk) ?aF ?aO ?aB ?aS ?aL ?_
              (case aP => exact (k28_mkF _ _ (⟨(rd_T71 t139 x10_2).f2, (rd_T71 t139 x10_2).f3, ([] : List (S31))⟩ : S28) (Nat.le_refl _) (Kd.F_nil _ _ _)))
              (case aB => exact hb_)
              (case aF => exact (fun k_ hk => ⟨(Nat.le_trans (below_size hb_) hk), Kd.fresh' (Kd.R_lt (by (with_reducible repeat (first | apply Kd.R_alloc | apply Kd.R_drewN | apply Kd.R_drew)); exact HO_7.out)) k_ hk⟩))
              (case aO => exact (by (with_reducible repeat (first | apply Kd.N_alloc | apply Kd.N_drewN | apply Kd.N_drew)); exact HO_8.out))
              (case aS => exact (below_size hb_))
              (case aL => have := LMc19.out; omega)
              intro v146 w37 ho hb hg hat
              rw [← Ny145.out] at ho
              have n0_ := Aside0.mk (Kd.R_over' (by (with_reducible repeat (first | apply Kd.R_alloc | apply Kd.R_drewN | apply Kd.R_drew)); exact HO_7.out) (Kd.N_typed (by (with_reducible repeat (first | apply Kd.N_alloc | apply Kd.N_drewN | apply Kd.N_drew)); exact HO_8.out)) (by decide) hg)
              have n1_ := Aside0.mk (hb)
              have n2_ := Aside0.mk (ho)
              clear HO_7
              clear HB
              clear HO_8
              have HO_7 := n0_
              have HB := n1_
              have HO147 := n2_
              clear n0_ n1_ n2_
              clear ho hb hg hat
              refine hK.out _ _ ?_
              clear hK K
              refine norm_ (a' := ?_) ?_ ?_
              rotate_left
              ·show Act.put _ (some 55) _ = _
               simp only [Act.put, List.setIfInBounds_toArray, List.set_cons_zero, List.set_cons_succ, i64_w, i32_w]
               rfl
              refine pu_ (i := 14) (N := some 8) (any_of HT_.out (by kernel_rfl)) ?_
              refine done_ (done_of HT_.out (by kernel_rfl)) ?_
              try go_wp2
              go_roundg kj12
              case measure => have := HJ3.out; have := HK2.out; have := HJ12.out; omega
              case rel => exact ⟨(y145), (false), (wrap64 (x10_2 + 1)), rf_, rf_, H', ⟨by have := HJ3.out; have := HK2.out; have := HJ12.out; omega⟩, ⟨by (with_reducible repeat (first | apply Kd.R_alloc | apply Kd.R_drewN | apply Kd.R_drew)); exact HO_7.out⟩, ⟨by (with_reducible repeat (first | apply Kd.N_alloc | apply Kd.N_drewN | apply Kd.N_drew)); exact HO147.out⟩, ⟨by repeat (first | (with_reducible first | exact HB.out | apply below_alloc | apply pw_below_drewN | apply below_drew1) | exact HB.out)⟩⟩
            ·rw [if_neg c19] at H
             exact absurd H (by simp)
           ·rw [if_neg c18] at H
            exact absurd H (by simp)
          ·rw [if_neg c17] at H
           exact absurd H (by simp)
         ·replace c16 := Bool.eq_false_iff.mpr c16
          subst c16
          have H1 : (if t142 = true then (if 0 ≤ (wrap64 ((x8_2.length : Int) - 1)) then (if (wrap64 ((x8_2.length : Int) - 1)) < (x8_2.length : Int) then (if 0 ≤ x10_2 then (if x10_2 < (t139.length : Int) then ((collatorref06_with.f ((rd_T28 x8_2 (wrap64 ((x8_2.length : Int) - 1))).f2) ((rd_T71 t139 x10_2).f0) ((rd_T71 t139 x10_2).f1) ((rd_T71 t139 x10_2).f2) ((rd_T71 t139 x10_2).f3)).bind fun t158 => (collatorref06_Make.l0 kj12 a1 t139 (x8_2.set ((wrap64 ((x8_2.length : Int) - 1)) : Int).toNat (⟨(rd_T28 x8_2 (wrap64 ((x8_2.length : Int) - 1))).f0, (rd_T28 x8_2 (wrap64 ((x8_2.length : Int) - 1))).f1, t158⟩ : S28)) t142 (wrap64 (x10_2 + 1)))) else (none)) else (none)) else (none)) else (none)) else (collatorref06_Make.l0 kj12 a1 t139 x8_2 t142 (wrap64 (x10_2 + 1)))) = some (r1, r2) := by rw [if_neg (show ¬ (false = true) by decide)] at H; exact H
          clear H
          have H := H1
          clear H1
          by_cases c38 : t142 = true
          ·subst c38
           have H1 : (if 0 ≤ (wrap64 ((x8_2.length : Int) - 1)) then (if (wrap64 ((x8_2.length : Int) - 1)) < (x8_2.length : Int) then (if 0 ≤ x10_2 then (if x10_2 < (t139.length : Int) then ((collatorref06_with.f ((rd_T28 x8_2 (wrap64 ((x8_2.length : Int) - 1))).f2) ((rd_T71 t139 x10_2).f0) ((rd_T71 t139 x10_2).f1) ((rd_T71 t139 x10_2).f2) ((rd_T71 t139 x10_2).f3)).bind fun t158 => (collatorref06_Make.l0 kj12 a1 t139 (x8_2.set ((wrap64 ((x8_2.length : Int) - 1)) : Int).toNat (⟨(rd_T28 x8_2 (wrap64 ((x8_2.length : Int) - 1))).f0, (rd_T28 x8_2 (wrap64 ((x8_2.length : Int) - 1))).f1, t158⟩ : S28)) true (wrap64 (x10_2 + 1)))) else (none)) else (none)) else (none)) else (none)) = some (r1, r2) := by rw [if_pos rfl] at H; exact H
           clear H
           have H := H1
           clear H1
           obtain ⟨ji39, hji39⟩ : ∃ j_ : Int, (wrap64 ((x8_2.length : Int) - 1)) = j_ := ⟨_, rfl⟩
           replace H : (if 0 ≤ (ji39) then (if (ji39) < (x8_2.length : Int) then (if 0 ≤ x10_2 then (if x10_2 < (t139.length : Int) then ((collatorref06_with.f ((rd_T28 x8_2 (ji39)).f2) ((rd_T71 t139 x10_2).f0) ((rd_T71 t139 x10_2).f1) ((rd_T71 t139 x10_2).f2) ((rd_T71 t139 x10_2).f3)).bind fun t158 => (collatorref06_Make.l0 kj12 a1 t139 (x8_2.set ((ji39) : Int).toNat (⟨(rd_T28 x8_2 (ji39)).f0, (rd_T28 x8_2 (ji39)).f1, t158⟩ : S28)) true (wrap64 (x10_2 + 1)))) else (none)) else (none)) else (none)) else (none)) = some (r1, r2) := by first | (rw [hji39] at H; exact H) | (simp only [hji39] at H ⊢; exact H)
           have hji39w : (IntKind.i64.wrap ((x8_2.length : Int) - 1)) = ji39 := (i64_w _).trans hji39
           by_cases c40 : 0 ≤ (ji39)
           ·rw [if_pos c40] at H
            have c40b0 : decide (0 ≤ (ji39)) = true := decide_eq_true c40
            clear c40
            by_cases c41 : (ji39) < (x8_2.length : Int)
            ·rw [if_pos c41] at H
             have c41b0 : decide ((ji39) < (x8_2.length : Int)) = true := decide_eq_true c41
             clear c41
             by_cases c42 : 0 ≤ x10_2
             ·rw [if_pos c42] at H
              have c42b0 : decide (0 ≤ x10_2) = true := decide_eq_true c42
              clear c42
              by_cases c43 : x10_2 < (t139.length : Int)
              ·rw [if_pos c43] at H
               have c43b0 : decide (x10_2 < (t139.length : Int)) = true := decide_eq_true c43
               clear c43
               replace H := Option.bind_eq_some_iff.mp H
               obtain ⟨t158, A440, H⟩ := H
               replace H : (collatorref06_Make.l0 kj12 a1 t139 (x8_2.set ((ji39) : Int).toNat (⟨(rd_T28 x8_2 (ji39)).f0, (rd_T28 x8_2 (ji39)).f1, t158⟩ : S28)) true (wrap64 (x10_2 + 1))) = some (r1, r2) := H
               have A44 := Aside0.mk A440
               clear A440
               obtain ⟨y161, hy161⟩ : ∃ y_ : List (S28), y_ = (x8_2.set ((ji39) : Int).toNat (⟨(rd_T28 x8_2 (ji39)).f0, (rd_T28 x8_2 (ji39)).f1, t158⟩ : S28)) := ⟨_, rfl⟩
               replace H : (collatorref06_Make.l0 kj12 a1 t139 y161 true (wrap64 (x10_2 + 1))) = some (r1, r2) := by first | (rw [hy161]; with_reducible exact H) | (have H2_ := (Option.bind_some _ _).symm.trans H; rw [hy161]; with_reducible exact H2_) | (have H2_ := (Option.bind_some _ _).symm.trans H; with_reducible exact H2_) | with_reducible exact H | (rw [hy161]; exact H) | exact H
               have Ny161 := Aside0.mk hy161
               clear hy161
               have H' := Aside0.mk H
               clear H
               obtain ⟨Ao46, co46, eo46⟩ := Kd.N_slice HO_8.out
               subst eo46
               have p155 : 0 ≤ ((ji39) : Int) := of_decide_eq_true as_
               have q155 : (ji39) < (x8_2.length : Int) := of_decide_eq_true as_
               obtain ⟨ad155, A155_2, c155_2, e155, hx155_0, hx155_1, hx155_2, hl155_2, hi155_2⟩ := at_T28 (Kd.N_reads' HO_8.out).2.2 (ji39) p155 q155
               cases e155
               obtain ⟨ce155, hce155, hMe155, hcc155⟩ := Kd.N_get HO_8.out z28 (ji39) p155 (by first | exact q155 | exact of_decide_eq_true as_ | (have e_ := (Kd.N_reads' HO_8.out).1; omega))
               obtain ⟨ua155_2, uc155_2, rfl, ul155_2, ge155_2⟩ := k28_openF hMe155
               have hv155_2 := hcc155 2 _ rfl
               rw [add_field _ _ 2 (by omega)] at hv155_2
               replace hv155_2 := Option.some.inj (hv155_2.symm.trans hx155_2)
               injection hv155_2 with hva_ hvn_ hvc_
               rw [hva_] at ge155_2
               rw [hvc_] at ul155_2
               have HL155_2 := Aside0.mk (show Kd.V k31 31 _ w.heap.size _ _ ((rd_T28 x8_2 (ji39)).f2) from Kd.V_mk ul155_2 ge155_2)
               clear hva_ hvn_ hvc_ ge155_2 ul155_2
               clear hcc155 hce155
               have HR155_2 := Aside0.mk hi155_2
               have HC155_2 := Aside0.mk hl155_2
               clear hi155_2 hl155_2
               replace p155 := eq_true p155
               replace q155 := eq_true q155
               try go_wp2_with (first | ((with_reducible refine gate_dst (N := 12) rfl ?_); refine box_event ?hg (N := 12) ?hd (cs := #[.int .i64 0, .int .i64 0, .slice none 0 0]) (t := 28) ?hr ?_; (case hd => rfl); (case hg => rfl); (case hr => first | (go_simp; done) | (go_simp; rfl)); intro gb156 hg w47 hbox hb; have n0_ := Aside0.mk (Kd.R_below (by (with_reducible repeat (first | apply Kd.R_alloc | apply Kd.R_drewN | apply Kd.R_drew)); exact HO_7.out) hb); have n1_ := Aside0.mk (Kd.N_below (Kd.N_elderB (by (with_reducible repeat (first | apply Kd.N_alloc | apply Kd.N_drewN | apply Kd.N_drew)); exact HO_8.out) gb156 (Nat.le_of_eq hg.symm)) hb); have n2_ := Aside0.mk (Kd.V_below (Kd.V_elderB (by (with_reducible repeat (first | apply Kd.V_alloc | apply Kd.V_drewN | apply Kd.V_drew)); exact HL155_2.out) gb156 (Nat.le_of_eq hg.symm)) hb); have n3_ := Aside0.mk (Kd.C_below (by repeat (first | (with_reducible exact HR155_2.out) | (with_reducible refine Kd.C_alloc ?_ _) | (with_reducible refine Kd.C_drewN ?_ _) | (with_reducible refine Kd.C_drew ?_) | exact HR155_2.out)) hb); have n4_ := Aside0.mk (below_step hb_ hb); have n5_ := Aside0.mk (hbox); have n6_ := Aside0.mk ((by rw [hg]; exact (below_size hb_) : w.heap.size ≤ gb156)); have n7_ := Aside0.mk ((by rw [hg]; exact (below_size hb_) : w.heap.size ≤ gb156)); clear HO_7; clear HO_8; clear HL155_2; clear HR155_2; clear HB; have HO_7 := n0_; have HO_8 := n1_; have HL155_2 := n2_; have HR155_2 := n3_; have HB := n4_; have BK156 := n5_; have GW156 := n6_; have GE156 := n7_; clear n0_ n1_ n2_ n3_ n4_ n5_ n6_ n7_; clear hb hbox hg; have hcz48_0 : w47.cell? ⟨gb156, 0, none⟩ = some (.int .i64 0) := (blk_cell BK156.out 0).trans rfl; have hcz48_1 : w47.cell? ⟨gb156, 1, none⟩ = some (.int .i64 0) := (blk_cell BK156.out 1).trans rfl; have hcz48_2 : w47.cell? ⟨gb156, 2, none⟩ = some (.slice none 0 0) := (blk_cell BK156.out 2).trans rfl; have hfz48_0 := blk_frozen BK156.out 0; have hfz48_1 := blk_frozen BK156.out 1; have hfz48_2 := blk_frozen BK156.out 2))
               have n0_ : Aside0 (Kd.R k71 71 (((w47.setCell ⟨gb156, 0, none⟩ (.int .i64 ((rd_T28 x8_2 (ji39)).f0))).setCell ⟨gb156, 1, none⟩ (.int .i64 ((rd_T28 x8_2 (ji39)).f1))).setCell ⟨gb156, 2, none⟩ (.slice A155_2 ((rd_T28 x8_2 (ji39)).f2).length c155_2)) w.heap.size (fun k_ => (w.heap.size ≤ k_)) (.slice Ao14 t139.length co14) t139) := ⟨by (with_reducible repeat (first | apply Kd.R_alloc | apply Kd.R_drewN | apply Kd.R_drew)); exact Kd.R_mono (Kd.R_far (p := ⟨gb156, 2, none⟩) (Kd.R_far (p := ⟨gb156, 1, none⟩) (Kd.R_far (p := ⟨gb156, 0, none⟩) (Kd.R_types HO_7.out BK156.out (by decide)) (fun _ hk => hk.2) (.int .i64 ((rd_T28 x8_2 (ji39)).f0))) (fun _ hk => hk.2) (.int .i64 ((rd_T28 x8_2 (ji39)).f1))) (fun _ hk => hk.2) (.slice A155_2 ((rd_T28 x8_2 (ji39)).f2).length c155_2)) (fun _ hk => hk.1)⟩
               have n1_ : Aside0 (Kd.N k28 28 (((w47.setCell ⟨gb156, 0, none⟩ (.int .i64 ((rd_T28 x8_2 (ji39)).f0))).setCell ⟨gb156, 1, none⟩ (.int .i64 ((rd_T28 x8_2 (ji39)).f1))).setCell ⟨gb156, 2, none⟩ (.slice A155_2 ((rd_T28 x8_2 (ji39)).f2).length c155_2)) w.heap.size (fun k_ => (w.heap.size ≤ k_) ∧ some k_ ≠ (.slice Ao14 t139.length co14 : Value).ownBlock ∧ k_ ≠ gb156) (.slice (some ad155) x8_2.length co46) x8_2) := ⟨by (with_reducible repeat (first | apply Kd.N_alloc | apply Kd.N_drewN | apply Kd.N_drew)); exact Kd.N_mono (Kd.N_far (p := ⟨gb156, 2, none⟩) (Kd.N_far (p := ⟨gb156, 1, none⟩) (Kd.N_far (p := ⟨gb156, 0, none⟩) (Kd.N_mono HO_8.out (fun k_ hk => (⟨hk, hk.2⟩ : _ ∧ k_ ≠ gb156))) (fun _ hk => hk.2) (.int .i64 ((rd_T28 x8_2 (ji39)).f0))) (fun _ hk => hk.2) (.int .i64 ((rd_T28 x8_2 (ji39)).f1))) (fun _ hk => hk.2) (.slice A155_2 ((rd_T28 x8_2 (ji39)).f2).length c155_2)) (fun _ hk => ⟨hk.1.1.1, ⟨hk.1.1.2, hk.1.2⟩⟩)⟩
               have n2_ : Aside0 (Kd.V k31 31 (((w47.setCell ⟨gb156, 0, none⟩ (.int .i64 ((rd_T28 x8_2 (ji39)).f0))).setCell ⟨gb156, 1, none⟩ (.int .i64 ((rd_T28 x8_2 (ji39)).f1))).setCell ⟨gb156, 2, none⟩ (.slice A155_2 ((rd_T28 x8_2 (ji39)).f2).length c155_2)) w.heap.size (fun k_ => (w.heap.size ≤ k_) ∧ some k_ ≠ (.slice Ao14 t139.length co14 : Value).ownBlock ∧ some k_ ≠ (.slice (some ad155) x8_2.length co46 : Value).ownBlock ∧ k_ ≠ gb156) (.slice A155_2 ((rd_T28 x8_2 (ji39)).f2).length c155_2) ((rd_T28 x8_2 (ji39)).f2)) := ⟨by (with_reducible repeat (first | apply Kd.V_alloc | apply Kd.V_drewN | apply Kd.V_drew)); exact Kd.V_mono (Kd.V_far (p := ⟨gb156, 2, none⟩) (Kd.V_far (p := ⟨gb156, 1, none⟩) (Kd.V_far (p := ⟨gb156, 0, none⟩) (Kd.V_mono HL155_2.out (fun k_ hk => (⟨hk, hk.2⟩ : _ ∧ k_ ≠ gb156))) (fun _ hk => hk.2) (.int .i64 ((rd_T28 x8_2 (ji39)).f0))) (fun _ hk => hk.2) (.int .i64 ((rd_T28 x8_2 (ji39)).f1))) (fun _ hk => hk.2) (.slice A155_2 ((rd_T28 x8_2 (ji39)).f2).length c155_2)) (fun _ hk => ⟨hk.1.1.1.1, ⟨hk.1.1.1.2, ⟨hk.1.1.2, hk.1.2⟩⟩⟩)⟩
               have n3_ : Aside0 ((((w47.setCell ⟨gb156, 0, none⟩ (.int .i64 ((rd_T28 x8_2 (ji39)).f0))).setCell ⟨gb156, 1, none⟩ (.int .i64 ((rd_T28 x8_2 (ji39)).f1))).setCell ⟨gb156, 2, none⟩ (.slice A155_2 ((rd_T28 x8_2 (ji39)).f2).length c155_2)).heap[gb156]? = some (.cells #[.int .i64 ((rd_T28 x8_2 (ji39)).f0), .int .i64 ((rd_T28 x8_2 (ji39)).f1), .slice A155_2 ((rd_T28 x8_2 (ji39)).f2).length c155_2] 28 (0, 0))) := ⟨by (with_reducible repeat (first | refine blk_drewN ?_ _ | refine blk_drew ?_ | refine blk_alloc ?_ _)); refine blk_put (cs := #[.int .i64 ((rd_T28 x8_2 (ji39)).f0), .int .i64 ((rd_T28 x8_2 (ji39)).f1), .slice none 0 0]) ?_ 2 _ rfl; (with_reducible repeat (first | refine blk_drewN ?_ _ | refine blk_drew ?_ | refine blk_alloc ?_ _)); refine blk_put (cs := #[.int .i64 ((rd_T28 x8_2 (ji39)).f0), .int .i64 0, .slice none 0 0]) ?_ 1 _ rfl; (with_reducible repeat (first | refine blk_drewN ?_ _ | refine blk_drew ?_ | refine blk_alloc ?_ _)); refine blk_put (cs := #[.int .i64 0, .int .i64 0, .slice none 0 0]) ?_ 0 _ rfl; (with_reducible repeat (first | refine blk_drewN ?_ _ | refine blk_drew ?_ | refine blk_alloc ?_ _)); exact BK156.out⟩
               have n4_ : Aside0 (Below w.heap.size w (((w47.setCell ⟨gb156, 0, none⟩ (.int .i64 ((rd_T28 x8_2 (ji39)).f0))).setCell ⟨gb156, 1, none⟩ (.int .i64 ((rd_T28 x8_2 (ji39)).f1))).setCell ⟨gb156, 2, none⟩ (.slice A155_2 ((rd_T28 x8_2 (ji39)).f2).length c155_2))) := ⟨by repeat (first | (with_reducible first | exact HB.out | apply below_alloc | apply pw_below_drewN | apply below_drew1 | refine below_set ?_ GE156.out) | exact HB.out)⟩
               (try clear HO_7)
               (try clear HO_8)
               (try clear HL155_2)
               (try clear BK156)
               (try clear HB)
               generalize (((w47.setCell ⟨gb156, 0, none⟩ (.int .i64 ((rd_T28 x8_2 (ji39)).f0))).setCell ⟨gb156, 1, none⟩ (.int .i64 ((rd_T28 x8_2 (ji39)).f1))).setCell ⟨gb156, 2, none⟩ (.slice A155_2 ((rd_T28 x8_2 (ji39)).f2).length c155_2)) = w49 at n0_ n1_ n2_ n3_ n4_ ⊢
               have HO_7 := n0_
               have HO_8 := n1_
               have HL155_2 := n2_
               have BK156 := n3_
               have HB := n4_
               clear n0_ n1_ n2_ n3_ n4_
               have n0_ := Aside0.mk (Kd.R_drew HO_7.out)
               have n1_ := Aside0.mk (Kd.N_drew HO_8.out)
               have n2_ := Aside0.mk (Kd.V_drew HL155_2.out)
               have n3_ := Aside0.mk (blk_drew BK156.out)
               have n4_ := Aside0.mk (below_drew1 HB.out)
               clear HO_7
               clear HO_8
               clear HL155_2
               clear BK156
               clear HB
               have HO_7 := n0_
               have HO_8 := n1_
               have HL155_2 := n2_
               have BK156 := n3_
               have HB := n4_
               clear n0_ n1_ n2_ n3_ n4_
               have p157 : 0 ≤ (x10_2 : Int) := of_decide_eq_true as_
               have q157 : x10_2 < (t139.length : Int) := of_decide_eq_true as_
               obtain ⟨ad157, e157, hx157_0, hx157_1, hx157_2, hx157_3⟩ := at_T71 (Kd.R_reads' HO_7.out).2.2 x10_2 p157 q157
               cases e157
               replace p157 := eq_true p157
               replace q157 := eq_true q157
               refine start_ (n := 18) (S := fun w' => w'.cell? ⟨gb156, 0, none⟩ = some (.int .i64 ((rd_T28 x8_2 (ji39)).f0)) ∧ w'.cell? ⟨gb156, 1, none⟩ = some (.int .i64 ((rd_T28 x8_2 (ji39)).f1)) ∧ w'.cell? ⟨gb156, 2, none⟩ = some (.slice A155_2 ((rd_T28 x8_2 (ji39)).f2).length c155_2) ∧ w'.cell? (ad157.add ((x10_2).toNat * 4)) = some (.int .i64 ((rd_T71 t139 x10_2).f0)) ∧ w'.cell? ⟨(ad157.add ((x10_2).toNat * 4)).block, (ad157.add ((x10_2).toNat * 4)).off + 1, none⟩ = some (.string ((rd_T71 t139 x10_2).f1)) ∧ w'.cell? ⟨(ad157.add ((x10_2).toNat * 4)).block, (ad157.add ((x10_2).toNat * 4)).off + 2, none⟩ = some (.int .i64 ((rd_T71 t139 x10_2).f2)) ∧ w'.cell? ⟨(ad157.add ((x10_2).toNat * 4)).block, (ad157.add ((x10_2).toNat * 4)).off + 3, none⟩ = some (.int .i64 ((rd_T71 t139 x10_2).f3))) (ds := [17]) #[false, false, false, false, false, false, false, false, false, false, false, false, false, false, false, false, false, false] (by kernel_rfl) rfl rfl ⟨(blk_cell BK156.out 0).trans rfl, (blk_cell BK156.out 1).trans rfl, (blk_cell BK156.out 2).trans rfl, hx157_0, hx157_1, hx157_2, hx157_3⟩ (fun hHeld => ?_); refine with_tabW collatorref06_Make.tab15 collatorref06_Make.bits15 (fun HT_ HW_ => ?_)
               generalize w49.drew = w50 at HO_7 HO_8 HL155_2 BK156 HB hx157_0 hx157_1 hx157_2 hx157_3 hHeld ⊢
               refine pu_ (i := 0) (N := some 63) (any_of HT_.out (by kernel_rfl)) ?_
               refine pu_ (i := 1) (N := some 64) (any_of HT_.out (by kernel_rfl)) ?_
               refine pu_ (i := 2) (N := some 65) (any_of HT_.out (by kernel_rfl)) ?_
               refine pu_ (i := 3) (N := some 66) (any_of HT_.out (by kernel_rfl)) ?_
               refine pu_ (i := 4) (N := some 67) (any_of HT_.out (by kernel_rfl)) ?_
               refine pu_ (i := 6) (N := some 69) (any_of HT_.out (by kernel_rfl)) ?_
               refine pu_ (i := 8) (N := some 71) (any_of HT_.out (by kernel_rfl)) ?_
               refine pu_ (i := 10) (N := some 73) (any_of HT_.out (by kernel_rfl)) ?_
               refine pu_ (i := 11) (N := some 74) (any_of HT_.out (by kernel_rfl)) ?_
               refine pu_ (i := 12) (N := some 75) (any_of HT_.out (by kernel_rfl)) ?_
               refine ta_ (i := 5) (N := some 68) (take_ofW HT_.out HW_.out (by kernel_rfl)) hHeld ?_
               refine ta_ (i := 7) (N := some 70) (take_ofW HT_.out HW_.out (by kernel_rfl)) hHeld ?_
               refine ta_ (i := 9) (N := some 72) (take_ofW HT_.out HW_.out (by kernel_rfl)) hHeld ?_
               refine ta_ (i := 13) (N := some 76) (take_ofW HT_.out HW_.out (by kernel_rfl)) hHeld ?_
               refine one_ (i := 14) (N := some 77) #[true, true, true, true, true, true, true, true, true, true, true, true, true, true, true, false, false, false] rfl rfl (one_of HT_.out (by kernel_rfl)) (by decide) (fun K hK => ?_)
               refine goes_ Try.func38 (by kernel_rfl) rfl #[.slice A155_2 ((rd_T28 x8_2 (ji39)).f2).length c155_2, .agg #[.int .i64 ((rd_T71 t139 x10_2).f0), .string ((rd_T71 t139 x10_2).f1), .int .i64 ((rd_T71 t139 x10_2).f2), .int .i64 ((rd_T71 t139 x10_2).f3)]] (by rfl) rfl rfl (by (try simp only [List.map_toArray, List.map_cons, List.map_nil]); first | done | (simp only [hji39]; rfl) | rfl | (simp only [List.length_drop, List.length_take]; rfl)) ?_
               with_reducible refine (collatorref06_with.calls (fun k_ => ((w.heap.size ≤ k_) ∧ (some k_ ≠ (.slice (some ad157) t139.length co14 : Value).ownBlock ∧ (some k_ ≠ (.slice (some ad155) x8_2.length co46 : Value).ownBlock ∧ k_ ≠ gb156)))) _ _ ((rd_T28 x8_2 (ji39)).f2) ((rd_T71 t139 x10_2).f0) ((rd_T71 t139 x10_2).f1) ((rd_T71 t139 x10_2).f2) ((rd_T71 t139 x10_2).f3) t158 _ ?side1 A44.out).mono ?_
               (case side1 => exact HL155_2.out)
               rintro e w51 ⟨v159, rfl, ho0, hb⟩
               have HS3_ := (hb.cell (World.block_lt_of_cell? _ _ (hHeld.2.2.2.1))).trans (hHeld.2.2.2.1)
               have HS4_ := (hb.cell (World.block_lt_of_cell? _ _ (hHeld.2.2.2.2.1))).trans (hHeld.2.2.2.2.1)
               have HS5_ := (hb.cell (World.block_lt_of_cell? _ _ (hHeld.2.2.2.2.2.1))).trans (hHeld.2.2.2.2.2.1)
               have HS6_ := (hb.cell (World.block_lt_of_cell? _ _ (hHeld.2.2.2.2.2.2))).trans (hHeld.2.2.2.2.2.2)
               refine ⟨_, rfl, ?_⟩
               have n0_ := Aside0.mk (Kd.R_below (by (with_reducible repeat (first | apply Kd.R_alloc | apply Kd.R_drewN | apply Kd.R_drew)); exact HO_7.out) hb)
               have n1_ := Aside0.mk (Kd.N_elder' (by (with_reducible repeat (first | apply Kd.N_alloc | apply Kd.N_drewN | apply Kd.N_drew)); exact HO_8.out) (by first | exact Kd.N_base ho0 | exact Kd.S_base ho0 | exact Kd.N_base (Kd.R_N ho0)) hb)
               have n2_ := Aside0.mk (Kd.V_elder' (by (with_reducible repeat (first | apply Kd.V_alloc | apply Kd.V_drewN | apply Kd.V_drew)); exact HL155_2.out) (by first | exact Kd.N_base ho0 | exact Kd.S_base ho0 | exact Kd.N_base (Kd.R_N ho0)) hb)
               have n3_ := Aside0.mk (Kd.N_lower (Kd.N_mono (ok' := fun k_ => (w.heap.size ≤ k_) ∧ some k_ ≠ (.slice (some ad157) t139.length co14 : Value).ownBlock ∧ some k_ ≠ (.slice (some ad155) x8_2.length co46 : Value).ownBlock ∧ k_ ≠ gb156) ho0 (fun k_ hk_ => ⟨Or.elim hk_ (fun hs_ => hs_.1) (fun hn_ => (Nat.le_trans (below_size (by repeat (first | (with_reducible first | exact HB.out | apply below_alloc | apply pw_below_drewN | apply below_drew1 | refine below_set ?_ GE156.out) | exact HB.out))) hn_)), Or.elim hk_ (fun hs_ => hs_.2.1) (fun hn_ => (Kd.fresh' (Kd.R_lt (by (with_reducible repeat (first | apply Kd.R_alloc | apply Kd.R_drewN | apply Kd.R_drew)); exact HO_7.out)) k_ hn_)), Or.elim hk_ (fun hs_ => hs_.2.2.1) (fun hn_ => (Kd.fresh' (Kd.N_lt (by (with_reducible repeat (first | apply Kd.N_alloc | apply Kd.N_drewN | apply Kd.N_drew)); exact HO_8.out)) k_ hn_)), Or.elim hk_ (fun hs_ => hs_.2.2.2) (fun hn_ => (Kd.freshB (g := gb156) (o := .cells #[.int .i64 ((rd_T28 x8_2 (ji39)).f0), .int .i64 ((rd_T28 x8_2 (ji39)).f1), .slice A155_2 ((rd_T28 x8_2 (ji39)).f2).length c155_2] 28 (0, 0)) (by (with_reducible repeat (first | refine blk_drewN ?_ _ | refine blk_drew ?_ | refine blk_alloc ?_ _)); exact BK156.out) k_ hn_))⟩)) (below_size (by repeat (first | (with_reducible first | exact HB.out | apply below_alloc | apply pw_below_drewN | apply below_drew1 | refine below_set ?_ GE156.out) | exact HB.out))))
               have n4_ := Aside0.mk (blk_below (g := gb156) (o := .cells #[.int .i64 ((rd_T28 x8_2 (ji39)).f0), .int .i64 ((rd_T28 x8_2 (ji39)).f1), .slice A155_2 ((rd_T28 x8_2 (ji39)).f2).length c155_2] 28 (0, 0)) (by (with_reducible repeat (first | refine blk_drewN ?_ _ | refine blk_drew ?_ | refine blk_alloc ?_ _)); exact BK156.out) hb)
               have n5_ := Aside0.mk (below_step (by repeat (first | (with_reducible first | exact HB.out | apply below_alloc | apply pw_below_drewN | apply below_drew1 | refine below_set ?_ GE156.out) | exact HB.out)) hb)
               clear HO_7
               clear HO_8
               clear HL155_2
               clear BK156
               clear HB
               have HO_7 := n0_
               have HO_8 := n1_
               have HL155_2 := n2_
               have HO160 := n3_
               have BK156 := n4_
               have HB := n5_
               clear n0_ n1_ n2_ n3_ n4_ n5_
               (try clear hb)
               (try clear hb2)
               (try clear hk)
               (try clear hi)
               (try clear ho0)
               obtain ⟨Ao52, co52, eo52⟩ := Kd.N_slice HO160.out
               (first | subst eo52 | (injection eo52 with f1_ f2_ f3_; have f4_ := f1_.symm; have f5_ := f3_.symm; clear f1_ f2_ f3_; subst f4_; subst f5_))
               have p45 : 0 ≤ ((ji39) : Int) := of_decide_eq_true as_
               have q45 : ((ji39) : Int) < ((x8_2.length : Int) : Int) := of_decide_eq_true as_
               obtain ⟨go45, co45, eo45, gb45, gl45, cl45, HG45⟩ := Kd.N_form HO_8.out (by omega)
               (first | cases eo45 | (injection eo45 with ea_ en_ ec_; (first | subst ea_ | (injection ea_ with ea_; subst ea_)); subst ec_; clear en_))
               have GB45 := Aside0.mk gb45
               have GG45 := Aside0.mk HG45
               clear gb45 gl45 HG45
               (first | simp only [add_plain] at hx155_0 | skip)
               (first | simp only [add_plain] at hx155_1 | skip)
               (first | simp only [add_plain] at hx155_2 | skip)
               obtain ⟨ce45, hcl45, hM45, hcc45, hfr45⟩ := Kd.N_elem HO_8.out z28 ((ji39) : Int) p45 q45
               obtain ⟨ua45_2, uc45_2, rfl, ul45_2, ge45_2⟩ := k28_openF hM45
               have hx45_0 : World.cell? _ ⟨go45, ((ji39) : Int).toNat * 3, none⟩ = some (.int .i64 ((rd_T28 x8_2 (ji39)).f0)) := hcc45 0 _ rfl
               have hx45_1 : World.cell? _ ⟨go45, ((ji39) : Int).toNat * 3 + 1, none⟩ = some (.int .i64 ((rd_T28 x8_2 (ji39)).f1)) := hcc45 1 _ rfl
               have hx45_2 : World.cell? _ ⟨go45, ((ji39) : Int).toNat * 3 + 2, none⟩ = some (.slice ua45_2 ((rd_T28 x8_2 (ji39)).f2).length uc45_2) := hcc45 2 _ rfl
               have hf45_0 : World.frozen? _ ⟨go45, ((ji39) : Int).toNat * 3, none⟩ = false := hfr45 0
               have hf45_1 : World.frozen? _ ⟨go45, ((ji39) : Int).toNat * 3 + 1, none⟩ = false := hfr45 1
               have hf45_2 : World.frozen? _ ⟨go45, ((ji39) : Int).toNat * 3 + 2, none⟩ = false := hfr45 2
               clear hcl45 hcc45 hfr45 hM45
               replace p45 := eq_true p45
               replace q45 := eq_true q45
               have HX53 := Aside0.mk (show Kd.N k28 28 _ w.heap.size (fun k_ => (w.heap.size ≤ k_) ∧ some k_ ≠ (.slice (some ad157) t139.length co14 : Value).ownBlock ∧ some k_ ≠ (.slice Ao52 t158.length co52 : Value).ownBlock ∧ k_ ≠ gb156) (.slice (some ⟨go45, 0, none⟩) x8_2.length co46) x8_2 from (Kd.N_mono (HO_8.out) (fun k_ hk => ⟨hk.1.1, ⟨hk.1.2.1, ⟨hk.2, hk.1.2.2⟩⟩⟩)))
               replace HX53 := Aside0.mk (show Kd.N k28 28 _ w.heap.size (fun k_ => (w.heap.size ≤ k_) ∧ some k_ ≠ (.slice (some ad157) t139.length co14 : Value).ownBlock ∧ k_ ≠ gb156) (.slice (some ⟨go45, 0, none⟩) x8_2.length co46) x8_2 from Kd.N_mono HX53.out (fun k_ hk => ⟨hk.1, ⟨hk.2.1, hk.2.2.2⟩⟩))
               obtain ⟨ce53, hcl53, hM53, hcc53, hfr53⟩ := Kd.N_elem HX53.out z28 ((ji39) : Int) (of_decide_eq_true as_) (by have h_ : ((ji39) : Int) < ((x8_2.length : Int) : Int) := of_decide_eq_true as_; first | exact h_ | (have e_ := (Kd.N_reads' HO_8.out).1; omega) | simpa using h_)
               obtain ⟨ua53_2, uc53_2, rfl, ul53_2, ge53_2⟩ := k28_openF hM53
               have HP53 := (Kd.N_seg HX53.out ((ji39) : Int) (of_decide_eq_true as_) (by have h_ : ((ji39) : Int) < ((x8_2.length : Int) : Int) := of_decide_eq_true as_; first | exact h_ | (have e_ := (Kd.N_reads' HO_8.out).1; omega) | simpa using h_) (seg := [.int .i64 ((rd_T28 x8_2 (ji39)).f0), .int .i64 ((rd_T28 x8_2 (ji39)).f1), .slice Ao52 t158.length co52]) (j := 0) hcl53 hcc53 (show 3 ≤ 3 from by decide) (x' := (⟨(rd_T28 x8_2 (ji39)).f0, (rd_T28 x8_2 (ji39)).f1, t158⟩ : S28)) (k28_mkF _ _ (⟨(rd_T28 x8_2 (ji39)).f0, (rd_T28 x8_2 (ji39)).f1, t158⟩ : S28) (Kd.N_reads' (Kd.N_mono (ok' := (fun k_ => ((fun k_ => (w.heap.size ≤ k_) ∧ some k_ ≠ (.slice (some ad157) t139.length co14 : Value).ownBlock ∧ k_ ≠ gb156)) k_ ∧ k_ ≠ go45)) (HO160.out) (fun k_ hk => ⟨⟨hk.1, ⟨hk.2.1, hk.2.2.2⟩⟩, fun e_ => (hk.2.2.1) (by rw [e_]; rfl)⟩))).2.1 (Kd.N_F (Kd.N_mono (ok' := (fun k_ => ((fun k_ => (w.heap.size ≤ k_) ∧ some k_ ≠ (.slice (some ad157) t139.length co14 : Value).ownBlock ∧ k_ ≠ gb156)) k_ ∧ k_ ≠ go45)) (HO160.out) (fun k_ hk => ⟨⟨hk.1, ⟨hk.2.1, hk.2.2.2⟩⟩, fun e_ => (hk.2.2.1) (by rw [e_]; rfl)⟩)))) (fun _ hk => hk)).1
               rw [← Ny161.out] at HP53
               have HQ53 := Aside0.mk HP53
               clear hcl53 hcc53 hfr53 hM53 HP53
               refine hK.out _ _ ⟨(blk_cell BK156.out 0).trans rfl, (blk_cell BK156.out 1).trans rfl, (blk_cell BK156.out 2).trans rfl, HS3_, HS4_, HS5_, HS6_⟩ (fun hHeld => ?_)
               clear hK K
               refine norm_ (a' := ?_) ?_ ?_
               rotate_left
               ·show Act.put _ (some 77) _ = _
                simp only [Act.put, List.setIfInBounds_toArray, List.set_cons_zero, List.set_cons_succ, i64_w, i32_w]
                rfl
               refine pu_ (i := 15) (N := some 78) (any_of HT_.out (by kernel_rfl)) ?_
               refine pu_ (i := 16) (N := some 79) (any_of HT_.out (by kernel_rfl)) ?_
               refine last_ (i := 17) (N := none) #[true, true, true, true, true, true, true, true, true, true, true, true, true, true, true, true, true, true] rfl rfl (one_of HT_.out (by kernel_rfl)) (by decide) (fun K hK => ?_)
               refine skip_ (w1 := ?_) (by rfl) rfl ?_ ?_
               rotate_left
               ·go_simp
                rfl
               refine hK.out _ _ ?_
               clear hK K
               refine done_ (done_of HT_.out (by kernel_rfl)) ?_
               try go_wp2
               go_roundg kj12
               case measure => have := HJ3.out; have := HK2.out; have := HJ12.out; omega
               case rel => exact ⟨(y161), (true), (wrap64 (x10_2 + 1)), rf_, rf_, H', ⟨by have := HJ3.out; have := HK2.out; have := HJ12.out; omega⟩, ⟨by (with_reducible repeat (first | apply Kd.R_alloc | apply Kd.R_drewN | apply Kd.R_drew)); exact Kd.R_mono (Kd.R_far (p := ⟨go45, ((ji39) : Int).toNat * 3 + 2, none⟩) (Kd.R_far (p := ⟨go45, ((ji39) : Int).toNat * 3 + 1, none⟩) (Kd.R_far (p := ⟨go45, ((ji39) : Int).toNat * 3, none⟩) (Kd.R_types HO_7.out GG45.out (by decide)) (fun _ hk => hk.2) (.int .i64 ((rd_T28 x8_2 (ji39)).f0))) (fun _ hk => hk.2) (.int .i64 ((rd_T28 x8_2 (ji39)).f1))) (fun _ hk => hk.2) (.slice Ao52 t158.length co52)) (fun _ hk => hk.1)⟩, ⟨by (with_reducible repeat (first | apply Kd.N_alloc | apply Kd.N_drewN | apply Kd.N_drew)); exact Kd.N_mono HQ53.out (fun _ hk => by first | exact ⟨hk.1, hk.2.1⟩ | simp_all)⟩, ⟨by repeat (first | (with_reducible first | exact HB.out | apply below_alloc | apply pw_below_drewN | apply below_drew1 | refine below_set ?_ GB45.out | refine below_set ?_ GB45.out | refine below_set ?_ GB45.out | refine below_set ?_ GE156.out) | exact HB.out)⟩⟩
              ·rw [if_neg c43] at H
               exact absurd H (by simp)
             ·rw [if_neg c42] at H
              exact absurd H (by simp)
            ·rw [if_neg c41] at H
             exact absurd H (by simp)
           ·rw [if_neg c40] at H
            exact absurd H (by simp)
          ·replace c38 := Bool.eq_false_iff.mpr c38
           subst c38
           have H1 : (collatorref06_Make.l0 kj12 a1 t139 x8_2 false (wrap64 (x10_2 + 1))) = some (r1, r2) := by rw [if_neg (show ¬ (false = true) by decide)] at H; exact H
           clear H
           have H := H1
           clear H1
           have H' := Aside0.mk H
           clear H
           go_wp2
           go_roundg kj12
           case measure => have := HJ3.out; have := HK2.out; have := HJ12.out; omega
           case rel => exact ⟨(x8_2), (false), (wrap64 (x10_2 + 1)), rf_, rf_, H', ⟨by have := HJ3.out; have := HK2.out; have := HJ12.out; omega⟩, ⟨by (with_reducible repeat (first | apply Kd.R_alloc | apply Kd.R_drewN | apply Kd.R_drew)); exact HO_7.out⟩, ⟨by (with_reducible repeat (first | apply Kd.N_alloc | apply Kd.N_drewN | apply Kd.N_drew)); exact HO_8.out⟩, ⟨by repeat (first | (with_reducible first | exact HB.out | apply below_alloc | apply pw_below_drewN | apply below_drew1) | exact HB.out)⟩⟩
      ·rw [if_neg c11] at H
       have c11b0 : decide (x10_2 < (t139.length : Int)) = false := decide_eq_false c11
       clear c11
       simp only [Option.some.injEq, Prod.mk.injEq] at H
       obtain ⟨rfl, rfl⟩ := H
       obtain ⟨Ao54, co54, eo54⟩ := Kd.R_slice HO_7.out
       subst eo54
       go_wp2
       go_ret2
       exact ⟨_, by first | rfl | (simp [errW_none, errW_some] <;> rfl) | (simp [*, errW_none, errW_some] <;> rfl), by (with_reducible repeat (first | apply Kd.N_alloc | apply Kd.N_drewN | apply Kd.N_drew)); exact Kd.N_mono HO_8.out (fun _ hk => hk.1), by repeat (first | (with_reducible first | exact HB.out | apply below_alloc | apply pw_below_drewN | apply below_drew1) | exact HB.out)⟩

end Go.Proofs.Ytgobidmfbjmpkaa.P
end
section
/- Laid for this claim by hp.py, this session's program round the kit's print: functions of the program as plain Lean functions, the proofs that the code comes to their answers, and the rows of the laws. Not trusted: Lean checks it. -/
namespace Go.Proofs.Ytgobidmfbjmpkaa.P
open Go.RowKit Go.Proofs.YtgobidmfbjmpkaaW.PrintWords Go.Proofs.YtgobidmfbjmpkaaW.PrintLast Go.Proofs.YtgobidmfbjmpkaaW.PrintMore
attribute [local go_sem] max2_int min2_int max_two min_two max_three min_three max_four min_four   -- for this text's walks alone
set_option linter.unusedVariables false
set_option linter.unusedSimpArgs false

/-! ### collatorref04_many: function 57 -/
def collatorref04_many.l0 : Nat → List (S31) → Int → Int → Int → Int → Option (Int)
 | 0, _, _, _, _, _ => none
 | k + 1, x0, x1, x2, x7, x8 => if x8 < (x0.length : Int) then (if 0 ≤ x8 then (if ((rd_T31 x0 x8).f0) = x1 then (collatorref04_many.l0 k x0 x1 x2 (wrap64 (x7 + ((rd_T31 x0 x8).f1))) (wrap64 (x8 + 1))) else (if ((rd_T31 x0 x8).f0) = x2 then (collatorref04_many.l0 k x0 x1 x2 (wrap64 (x7 + ((rd_T31 x0 x8).f1))) (wrap64 (x8 + 1))) else (collatorref04_many.l0 k x0 x1 x2 x7 (wrap64 (x8 + 1))))) else (none)) else (some x7)
def collatorref04_many.f (k : Nat) (l0 : List (S31)) (a1 : Int) (a2 : Int) : Option (Int) := collatorref04_many.l0 k l0 a1 a2 0 0
set_option maxHeartbeats 8000000 in
set_option maxRecDepth 100000 in
theorem collatorref04_many.calls (k : Nat) (A0 : Option Addr) (c0 : Nat) (l0 : List (S31)) (a1 : Int) (a2 : Int) (r : Int) (w : World) (hr0 : Kd.C k31 w A0 l0.length l0) (hc0 : l0.length ≤ c0) (h : collatorref04_many.f k l0 a1 a2 = some r) :
  Calls Try.prog 57 #[.slice A0 l0.length c0, .int .i64 a1, .int .i64 a2] w fun e w' => e = .returned (.int .i64 r) ∧ Drawn0 w w' := by
 have HR0 := Aside0.mk hr0
 have HC0 := Aside0.mk hc0
 clear hr0 hc0
 have H : (collatorref04_many.l0 k l0 a1 a2 0 0) = some r := h
 clear h
 have H' := Aside0.mk H
 clear H
 go_enter Try.func57, Try.ntmps57
 go_wp2
 go_loopg [7, 8] k (fun kq v7 v8 w' => ∃ (x7_1 : Int) (x8_1 : Int), v7 = .int .i64 x7_1 ∧ v8 = .int .i64 x8_1 ∧ Aside0 (collatorref04_many.l0 kq l0 a1 a2 x7_1 x8_1 = some r) ∧ Aside0 (kq ≤ k) ∧ Drawn0 w w')
 case atStart => exact ⟨(0), (0), rf_, rf_, H', ⟨Nat.le_refl _⟩, by repeat (first | exact Drawn0.refl _ | apply Drawn0.step)⟩
 case round =>
  clear H'
  (try clear p2)
  obtain ⟨x7_1, x8_1, rfl, rfl, HA, HK1, ⟨m1, rfl⟩⟩ := hrel
  cases gk with
  | zero => exact absurd HA.out (by simp [collatorref04_many.l0])
  | succ k1 =>
   have H := HA.out
   clear HA
   simp only [collatorref04_many.l0] at H
   by_cases c4 : x8_1 < (l0.length : Int)
   ·rw [if_pos c4] at H
    have c4b0 : decide (x8_1 < (l0.length : Int)) = true := decide_eq_true c4
    clear c4
    by_cases c5 : 0 ≤ x8_1
    ·rw [if_pos c5] at H
     have c5b0 : decide (0 ≤ x8_1) = true := decide_eq_true c5
     clear c5
     by_cases c6 : ((rd_T31 l0 x8_1).f0) = a1
     ·rw [if_pos c6] at H
      have c6b0 : (((rd_T31 l0 x8_1).f0) == a1) = true := beq_iff_eq.mpr c6
      have c6b1 : (((rd_T31 l0 x8_1).f0) != a1) = false := bne_eq_false_iff_eq.mpr c6
      clear c6
      have H' := Aside0.mk H
      clear H
      have p162 : 0 ≤ (x8_1 : Int) := of_decide_eq_true as_
      have q162 : x8_1 < (l0.length : Int) := of_decide_eq_true as_
      obtain ⟨ad162, A162_2, c162_2, e162, hx162_0, hx162_1, hx162_2, hl162_2, hi162_2⟩ := at_T31 HR0.out x8_1 p162 q162
      cases e162
      have HR162_2 := Aside0.mk hi162_2
      have HC162_2 := Aside0.mk hl162_2
      clear hi162_2 hl162_2
      replace p162 := eq_true p162
      replace q162 := eq_true q162
      have p163 : 0 ≤ (x8_1 : Int) := of_decide_eq_true as_
      have q163 : x8_1 < (l0.length : Int) := of_decide_eq_true as_
      obtain ⟨ad163, A163_2, c163_2, e163, hx163_0, hx163_1, hx163_2, hl163_2, hi163_2⟩ := at_T31 HR0.out x8_1 p163 q163
      obtain rfl : ad162 = ad163 := (by injection e163)
      have HR163_2 := Aside0.mk hi163_2
      have HC163_2 := Aside0.mk hl163_2
      clear hi163_2 hl163_2
      replace p163 := eq_true p163
      replace q163 := eq_true q163
      have ea_ := Option.some.inj (hx162_2.symm.trans hx163_2)
      injection ea_ with ea_ en_ ec_
      subst ea_
      subst ec_
      clear en_
      (try (have c6b0z : ((rd_T31 l0 x8_1).f0) = true := by simpa using c6b0))
      (try (have c6b0z : ((rd_T31 l0 x8_1).f0) = false := by simpa using c6b0))
      go_wp2
      go_roundg k1
      case measure => have := HK1.out; omega
      case rel => exact ⟨(wrap64 (x7_1 + ((rd_T31 l0 x8_1).f1))), (wrap64 (x8_1 + 1)), rf_, rf_, H', ⟨by have := HK1.out; omega⟩, by repeat (first | exact Drawn0.refl _ | apply Drawn0.step)⟩
     ·rw [if_neg c6] at H
      have c6b0 : (((rd_T31 l0 x8_1).f0) == a1) = false := beq_eq_false_iff_ne.mpr c6
      have c6b1 : (((rd_T31 l0 x8_1).f0) != a1) = true := bne_iff_ne.mpr c6
      by_cases c7 : ((rd_T31 l0 x8_1).f0) = a2
      ·rw [if_pos c7] at H
       have c7b0 : (((rd_T31 l0 x8_1).f0) == a2) = true := beq_iff_eq.mpr c7
       have c7b1 : (((rd_T31 l0 x8_1).f0) != a2) = false := bne_eq_false_iff_eq.mpr c7
       clear c7
       have H' := Aside0.mk H
       clear H
       have p162 : 0 ≤ (x8_1 : Int) := of_decide_eq_true as_
       have q162 : x8_1 < (l0.length : Int) := of_decide_eq_true as_
       obtain ⟨ad162, A162_2, c162_2, e162, hx162_0, hx162_1, hx162_2, hl162_2, hi162_2⟩ := at_T31 HR0.out x8_1 p162 q162
       cases e162
       have HR162_2 := Aside0.mk hi162_2
       have HC162_2 := Aside0.mk hl162_2
       clear hi162_2 hl162_2
       replace p162 := eq_true p162
       replace q162 := eq_true q162
       have p164 : 0 ≤ (x8_1 : Int) := of_decide_eq_true as_
       have q164 : x8_1 < (l0.length : Int) := of_decide_eq_true as_
       obtain ⟨ad164, A164_2, c164_2, e164, hx164_0, hx164_1, hx164_2, hl164_2, hi164_2⟩ := at_T31 HR0.out x8_1 p164 q164
       obtain rfl : ad162 = ad164 := (by injection e164)
       have HR164_2 := Aside0.mk hi164_2
       have HC164_2 := Aside0.mk hl164_2
       clear hi164_2 hl164_2
       replace p164 := eq_true p164
       replace q164 := eq_true q164
       have ea_ := Option.some.inj (hx162_2.symm.trans hx164_2)
       injection ea_ with ea_ en_ ec_
       subst ea_
       subst ec_
       clear en_
       have p165 : 0 ≤ (x8_1 : Int) := of_decide_eq_true as_
       have q165 : x8_1 < (l0.length : Int) := of_decide_eq_true as_
       obtain ⟨ad165, A165_2, c165_2, e165, hx165_0, hx165_1, hx165_2, hl165_2, hi165_2⟩ := at_T31 HR0.out x8_1 p165 q165
       obtain rfl : ad162 = ad165 := (by injection e165)
       have HR165_2 := Aside0.mk hi165_2
       have HC165_2 := Aside0.mk hl165_2
       clear hi165_2 hl165_2
       replace p165 := eq_true p165
       replace q165 := eq_true q165
       have ea_ := Option.some.inj (hx162_2.symm.trans hx165_2)
       injection ea_ with ea_ en_ ec_
       subst ea_
       subst ec_
       clear en_
       (try (have c6b0z : ((rd_T31 l0 x8_1).f0) = true := by simpa using c6b0))
       (try (have c6b0z : ((rd_T31 l0 x8_1).f0) = false := by simpa using c6b0))
       (try (have c7b0z : ((rd_T31 l0 x8_1).f0) = true := by simpa using c7b0))
       (try (have c7b0z : ((rd_T31 l0 x8_1).f0) = false := by simpa using c7b0))
       go_wp2
       go_roundg k1
       case measure => have := HK1.out; omega
       case rel => exact ⟨(wrap64 (x7_1 + ((rd_T31 l0 x8_1).f1))), (wrap64 (x8_1 + 1)), rf_, rf_, H', ⟨by have := HK1.out; omega⟩, by repeat (first | exact Drawn0.refl _ | apply Drawn0.step)⟩
      ·rw [if_neg c7] at H
       have c7b0 : (((rd_T31 l0 x8_1).f0) == a2) = false := beq_eq_false_iff_ne.mpr c7
       have c7b1 : (((rd_T31 l0 x8_1).f0) != a2) = true := bne_iff_ne.mpr c7
       have H' := Aside0.mk H
       clear H
       have p162 : 0 ≤ (x8_1 : Int) := of_decide_eq_true as_
       have q162 : x8_1 < (l0.length : Int) := of_decide_eq_true as_
       obtain ⟨ad162, A162_2, c162_2, e162, hx162_0, hx162_1, hx162_2, hl162_2, hi162_2⟩ := at_T31 HR0.out x8_1 p162 q162
       cases e162
       have HR162_2 := Aside0.mk hi162_2
       have HC162_2 := Aside0.mk hl162_2
       clear hi162_2 hl162_2
       replace p162 := eq_true p162
       replace q162 := eq_true q162
       have p164 : 0 ≤ (x8_1 : Int) := of_decide_eq_true as_
       have q164 : x8_1 < (l0.length : Int) := of_decide_eq_true as_
       obtain ⟨ad164, A164_2, c164_2, e164, hx164_0, hx164_1, hx164_2, hl164_2, hi164_2⟩ := at_T31 HR0.out x8_1 p164 q164
       obtain rfl : ad162 = ad164 := (by injection e164)
       have HR164_2 := Aside0.mk hi164_2
       have HC164_2 := Aside0.mk hl164_2
       clear hi164_2 hl164_2
       replace p164 := eq_true p164
       replace q164 := eq_true q164
       have ea_ := Option.some.inj (hx162_2.symm.trans hx164_2)
       injection ea_ with ea_ en_ ec_
       subst ea_
       subst ec_
       clear en_
       (try (have c6b0z : ((rd_T31 l0 x8_1).f0) = true := by simpa using c6b0))
       (try (have c6b0z : ((rd_T31 l0 x8_1).f0) = false := by simpa using c6b0))
       (try (have c7b0z : ((rd_T31 l0 x8_1).f0) = true := by simpa using c7b0))
       (try (have c7b0z : ((rd_T31 l0 x8_1).f0) = false := by simpa using c7b0))
       go_wp2
       go_roundg k1
       case measure => have := HK1.out; omega
       case rel => exact ⟨(x7_1), (wrap64 (x8_1 + 1)), rf_, rf_, H', ⟨by have := HK1.out; omega⟩, by repeat (first | exact Drawn0.refl _ | apply Drawn0.step)⟩
    ·rw [if_neg c5] at H
     exact absurd H (by simp)
   ·rw [if_neg c4] at H
    have c4b0 : decide (x8_1 < (l0.length : Int)) = false := decide_eq_false c4
    clear c4
    obtain rfl := Option.some.inj H
    go_wp2
    go_ret
    exact ⟨by first | rfl | (simp; done) | (simp [*]; done), by repeat (first | exact Drawn0.refl _ | apply Drawn0.step)⟩

end Go.Proofs.Ytgobidmfbjmpkaa.P
end
section
/- Laid for this claim by hp.py, this session's program round the kit's print: functions of the program as plain Lean functions, the proofs that the code comes to their answers, and the rows of the laws. Not trusted: Lean checks it. -/
namespace Go.Proofs.Ytgobidmfbjmpkaa.P
open Go.RowKit Go.Proofs.YtgobidmfbjmpkaaW.PrintWords Go.Proofs.YtgobidmfbjmpkaaW.PrintLast Go.Proofs.YtgobidmfbjmpkaaW.PrintMore
attribute [local go_sem] max2_int min2_int max_two min_two max_three min_three max_four min_four   -- for this text's walks alone
set_option linter.unusedVariables false
set_option linter.unusedSimpArgs false

/-! ### collatorref04_Spans: function 39 -/
def collatorref04_Spans.f (k : Nat) (l0 : List (S31)) : Option (Int × Int) := (collatorref04_Right.f k l0).bind fun t166 => (if t166 = true then ((collatorref04_many.f k l0 1 2).bind fun t167 => ((collatorref04_many.f k l0 1 3).bind fun t168 => (some (t167, t168)))) else (some (0, 0)))
set_option maxHeartbeats 8000000 in
set_option maxRecDepth 100000 in
theorem collatorref04_Spans.calls (k : Nat) (A0 : Option Addr) (c0 : Nat) (l0 : List (S31)) (r1 : Int) (r2 : Int) (w : World) (hr0 : Kd.C k31 w A0 l0.length l0) (hc0 : l0.length ≤ c0) (h : collatorref04_Spans.f k l0 = some (r1, r2)) :
  Calls Try.prog 39 #[.slice A0 l0.length c0] w fun e w' => e = .returned (.tuple #[.int .i64 r1, .int .i64 r2]) ∧ Below w.heap.size w w' := by
 have HR0 := Aside0.mk hr0
 have HC0 := Aside0.mk hc0
 clear hr0 hc0
 have HB := Aside0.mk (Below.refl w.heap.size w)
 have H : ((collatorref04_Right.f k l0).bind fun t166 => (if t166 = true then ((collatorref04_many.f k l0 1 2).bind fun t167 => ((collatorref04_many.f k l0 1 3).bind fun t168 => (some (t167, t168)))) else (some (0, 0)))) = some (r1, r2) := h
 clear h
 replace H := Option.bind_eq_some_iff.mp H
 obtain ⟨t166, A20, H⟩ := H
 replace H : (if t166 = true then ((collatorref04_many.f k l0 1 2).bind fun t167 => ((collatorref04_many.f k l0 1 3).bind fun t168 => (some (t167, t168)))) else (some (0, 0))) = some (r1, r2) := H
 have A2 := Aside0.mk A20
 clear A20
 by_cases c3 : t166 = true
 ·subst c3
  have H1 : ((collatorref04_many.f k l0 1 2).bind fun t167 => ((collatorref04_many.f k l0 1 3).bind fun t168 => (some (t167, t168)))) = some (r1, r2) := by rw [if_pos rfl] at H; exact H
  clear H
  have H := H1
  clear H1
  replace H := Option.bind_eq_some_iff.mp H
  obtain ⟨t167, A40, H⟩ := H
  replace H : ((collatorref04_many.f k l0 1 3).bind fun t168 => (some (t167, t168))) = some (r1, r2) := H
  have A4 := Aside0.mk A40
  clear A40
  replace H := Option.bind_eq_some_iff.mp H
  obtain ⟨t168, A50, H⟩ := H
  replace H : (some (t167, t168)) = some (r1, r2) := H
  have A5 := Aside0.mk A50
  clear A50
  simp only [Option.some.injEq, Prod.mk.injEq] at H
  obtain ⟨rfl, rfl⟩ := H
  go_enter Try.func39, Try.ntmps39
  go_wp2_with (first | ((with_reducible refine gate_callee (f := 35) rfl ?_); refine goesL_ (some 6) rfl rfl Try.func35 (by kernel_rfl) rfl #[.slice A0 l0.length c0] rfl mp_ ?_; (with_reducible refine (collatorref04_Right.calls k _ _ l0 true _ ?side1 ?side2 A2.out).mono ?_); (case side1 => repeat (first | exact HR0.out | (with_reducible refine Kd.C_alloc ?_ _) | (with_reducible refine Kd.C_drewN ?_ _) | (with_reducible refine Kd.C_drew ?_))); (case side2 => exact HC0.out); rintro e w6 ⟨rfl, hb⟩; refine ⟨_, rfl, ?_⟩; have n0_ := Aside0.mk (below_step hb_ hb); clear HB; have HB := n0_; clear n0_; (try clear hb); (try clear hb2); (try clear hk); (try clear hi)) | ((with_reducible refine gate_callee (f := 57) rfl ?_); refine goesL_ (some 10) rfl rfl Try.func57 (by kernel_rfl) rfl #[.slice A0 l0.length c0, .int .i64 1, .int .i64 2] rfl mp_ ?_; (with_reducible refine (collatorref04_many.calls k _ _ l0 1 2 t167 _ ?side1 ?side2 A4.out).mono ?_); (case side1 => repeat (first | exact (Kd.C_below HR0.out HB.out) | (with_reducible refine Kd.C_alloc ?_ _) | (with_reducible refine Kd.C_drewN ?_ _) | (with_reducible refine Kd.C_drew ?_))); (case side2 => exact HC0.out); rintro e w' ⟨rfl, ⟨nd, rfl⟩⟩; refine ⟨_, rfl, ?_⟩) | ((with_reducible refine gate_callee (f := 57) rfl ?_); refine goesL_ (some 12) rfl rfl Try.func57 (by kernel_rfl) rfl #[.slice A0 l0.length c0, .int .i64 1, .int .i64 3] rfl mp_ ?_; (with_reducible refine (collatorref04_many.calls k _ _ l0 1 3 t168 _ ?side1 ?side2 A5.out).mono ?_); (case side1 => repeat (first | exact (Kd.C_below HR0.out hb_) | (with_reducible refine Kd.C_alloc ?_ _) | (with_reducible refine Kd.C_drewN ?_ _) | (with_reducible refine Kd.C_drew ?_))); (case side2 => exact HC0.out); rintro e w' ⟨rfl, ⟨nd, rfl⟩⟩; refine ⟨_, rfl, ?_⟩))
  go_ret2
  exact ⟨by first | rfl | (simp [errW_none, errW_some] <;> rfl) | (simp [*, errW_none, errW_some] <;> rfl), by repeat (first | (with_reducible first | exact HB.out | apply below_alloc | apply pw_below_drewN | apply below_drew1) | exact HB.out)⟩
 ·replace c3 := Bool.eq_false_iff.mpr c3
  subst c3
  have H1 : (some (0, 0)) = some (r1, r2) := by rw [if_neg (show ¬ (false = true) by decide)] at H; exact H
  clear H
  have H := H1
  clear H1
  simp only [Option.some.injEq, Prod.mk.injEq] at H
  obtain ⟨rfl, rfl⟩ := H
  go_enter Try.func39, Try.ntmps39
  go_wp2_with (first | ((with_reducible refine gate_callee (f := 35) rfl ?_); refine goesL_ (some 6) rfl rfl Try.func35 (by kernel_rfl) rfl #[.slice A0 l0.length c0] rfl mp_ ?_; (with_reducible refine (collatorref04_Right.calls k _ _ l0 false _ ?side1 ?side2 A2.out).mono ?_); (case side1 => repeat (first | exact HR0.out | (with_reducible refine Kd.C_alloc ?_ _) | (with_reducible refine Kd.C_drewN ?_ _) | (with_reducible refine Kd.C_drew ?_))); (case side2 => exact HC0.out); rintro e w7 ⟨rfl, hb⟩; refine ⟨_, rfl, ?_⟩; have n0_ := Aside0.mk (below_step hb_ hb); clear HB; have HB := n0_; clear n0_; (try clear hb); (try clear hb2); (try clear hk); (try clear hi)))
  go_ret2
  exact ⟨by first | rfl | (simp [errW_none, errW_some] <;> rfl) | (simp [*, errW_none, errW_some] <;> rfl), by repeat (first | (with_reducible first | exact HB.out | apply below_alloc | apply pw_below_drewN | apply below_drew1) | exact HB.out)⟩

end Go.Proofs.Ytgobidmfbjmpkaa.P
end
