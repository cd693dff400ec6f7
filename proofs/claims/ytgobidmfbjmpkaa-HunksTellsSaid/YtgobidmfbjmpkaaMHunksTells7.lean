/- Texts of this claim, joined: Pxf37, ERight4, ESteps6. -/
import Derived.Test.YtgobidmfbjmpkaaMHunksTells1
import Derived.Test.YtgobidmfbjmpkaaMHunksTells2
import Derived.Lib.Hide
section
/- Laid for this claim by hp.py, this session's program round the kit's print: functions of the program as plain Lean functions, the proofs that the code comes to their answers, and the rows of the laws. Not trusted: Lean checks it. -/
namespace Go.Proofs.Ytgobidmfbjmpkaa.P
open Go.RowKit Go.Proofs.YtgobidmfbjmpkaaW.PrintWords Go.Proofs.YtgobidmfbjmpkaaW.PrintLast Go.Proofs.YtgobidmfbjmpkaaW.PrintMore
attribute [local go_sem] max2_int min2_int max_two min_two max_three min_three max_four min_four   -- for this text's walks alone
set_option linter.unusedVariables false
set_option linter.unusedSimpArgs false

/-! ### collatorref06_near: function 37 -/
mutual
def collatorref06_near.l0 : Nat → List (S71) → Int → Int → Int → Option (Bool)
 | 0, _, _, _, _ => none
 | k + 1, x0, x1, x2, x7 => if x7 < (x0.length : Int) then (collatorref06_near.j1 k x0 x1 x2 x7 (decide (x7 ≤ (wrap64 (x1 + x2))))) else (collatorref06_near.j1 k x0 x1 x2 x7 false)
def collatorref06_near.j1 : Nat → List (S71) → Int → Int → Int → Bool → Option (Bool)
 | 0, _, _, _, _, _ => none
 | k + 1, x0, x1, x2, x7, x27 => if x27 = true then (if 0 ≤ x7 then (if x7 < (x0.length : Int) then (if ((rd_T71 x0 x7).f0) = 1 then (collatorref06_near.l0 k x0 x1 x2 (wrap64 (x7 + 1))) else (some true)) else (none)) else (none)) else (collatorref06_near.l1 k x0 x1 x2 (wrap64 (x1 - 1)))
def collatorref06_near.l1 : Nat → List (S71) → Int → Int → Int → Option (Bool)
 | 0, _, _, _, _ => none
 | k + 1, x0, x1, x2, x8 => if x8 ≥ 0 then (collatorref06_near.j3 k x0 x1 x2 x8 (decide (x8 ≥ (wrap64 (x1 - x2))))) else (collatorref06_near.j3 k x0 x1 x2 x8 false)
def collatorref06_near.j3 : Nat → List (S71) → Int → Int → Int → Bool → Option (Bool)
 | 0, _, _, _, _, _ => none
 | k + 1, x0, x1, x2, x8, x46 => if x46 = true then (if 0 ≤ x8 then (if x8 < (x0.length : Int) then (if ((rd_T71 x0 x8).f0) = 1 then (collatorref06_near.l1 k x0 x1 x2 (wrap64 (x8 - 1))) else (some true)) else (none)) else (none)) else (some false)
end
def collatorref06_near.f (k : Nat) (l0 : List (S71)) (a1 : Int) (a2 : Int) : Option (Bool) := if 0 ≤ a1 then (if a1 < (l0.length : Int) then (if ((rd_T71 l0 a1).f0) = 1 then (collatorref06_near.l0 k l0 a1 a2 (wrap64 (a1 + 1))) else (some true)) else (none)) else (none)
set_option maxHeartbeats 8000000 in
set_option maxRecDepth 100000 in
theorem collatorref06_near.calls (k : Nat) (A0 : Option Addr) (c0 : Nat) (l0 : List (S71)) (a1 : Int) (a2 : Int) (r : Bool) (w : World) (hr0 : Kd.C k71 w A0 l0.length l0) (hc0 : l0.length ≤ c0) (h : collatorref06_near.f k l0 a1 a2 = some r) :
  Calls Try.prog 37 #[.slice A0 l0.length c0, .int .i64 a1, .int .i64 a2] w fun e w' => e = .returned (.bool r) ∧ Drawn0 w w' := by
 have HR0 := Aside0.mk hr0
 have HC0 := Aside0.mk hc0
 clear hr0 hc0
 have H : (if 0 ≤ a1 then (if a1 < (l0.length : Int) then (if ((rd_T71 l0 a1).f0) = 1 then (collatorref06_near.l0 k l0 a1 a2 (wrap64 (a1 + 1))) else (some true)) else (none)) else (none)) = some r := h
 clear h
 by_cases c4 : 0 ≤ a1
 ·rw [if_pos c4] at H
  have c4b0 : decide (0 ≤ a1) = true := decide_eq_true c4
  clear c4
  by_cases c5 : a1 < (l0.length : Int)
  ·rw [if_pos c5] at H
   have c5b0 : decide (a1 < (l0.length : Int)) = true := decide_eq_true c5
   clear c5
   by_cases c6 : ((rd_T71 l0 a1).f0) = 1
   ·rw [if_pos c6] at H
    have c6b0 : (((rd_T71 l0 a1).f0) == 1) = true := beq_iff_eq.mpr c6
    have c6b1 : (((rd_T71 l0 a1).f0) != 1) = false := bne_eq_false_iff_eq.mpr c6
    clear c6
    have H' := Aside0.mk H
    clear H
    have p135 : 0 ≤ (a1 : Int) := of_decide_eq_true as_
    have q135 : a1 < (l0.length : Int) := of_decide_eq_true as_
    obtain ⟨ad135, e135, hx135_0, hx135_1, hx135_2, hx135_3⟩ := at_T71 HR0.out a1 p135 q135
    cases e135
    replace p135 := eq_true p135
    replace q135 := eq_true q135
    go_enter Try.func37, Try.ntmps37
    go_wp2
    go_loopg [7] k (fun kq v7 w' => ∃ (x7_1 : Int), v7 = .int .i64 x7_1 ∧ Aside0 (collatorref06_near.l0 kq l0 a1 a2 x7_1 = some r) ∧ Aside0 (kq ≤ k) ∧ Drawn0 w w')
    case atStart => exact ⟨(wrap64 (a1 + 1)), rf_, H', ⟨Nat.le_refl _⟩, by repeat (first | exact Drawn0.refl _ | apply Drawn0.step)⟩
    case round =>
     clear H'
     (try clear p1);(try clear q1);(try clear hx1);(try clear p2);(try clear c3);(try clear c4);(try clear c4b0);(try clear c5);(try clear c5b0);(try clear c6);(try clear c6b0);(try clear c6b1);(try clear p6);(try clear hx135_0);(try clear hx135_1);(try clear hx135_2);(try clear hx135_3);(try clear p135);(try clear q135)
     obtain ⟨x7_1, rfl, HA, HK1, ⟨m1, rfl⟩⟩ := hrel
     cases gk with
     | zero => exact absurd HA.out (by simp [collatorref06_near.l0])
     | succ k1 =>
      have H := HA.out
      clear HA
      simp only [collatorref06_near.l0] at H
      have HC7 := Aside0.mk H
      clear H
      go_upto_region 4 with (fail)
      go_cut [27] (fun v27 wc => ∃ (kq : Nat) (x27_6 : Bool), v27 = .bool x27_6 ∧ Aside0 (collatorref06_near.j1 kq l0 a1 a2 x7_1 x27_6 = some r) ∧ Aside0 (kq ≤ k1) ∧ Drawn0 w wc)
      case first =>
       have H := HC7.out
       clear HC7
       by_cases c8 : x7_1 < (l0.length : Int)
       ·rw [if_pos c8] at H
        have c8b0 : decide (x7_1 < (l0.length : Int)) = true := decide_eq_true c8
        clear c8
        (first | rw [c8b0] | rw [c8b1] | (simp only [i64_w, i32_w]; rw [c8b0]) | skip)
        have H' := Aside0.mk H
        clear H
        go_wp2
        go_meet
        case rel => exact ⟨_, (decide (x7_1 ≤ (wrap64 (a1 + a2)))), rf_, H', ⟨by have := HK1.out; first | omega | exact Nat.le_refl _⟩, by repeat (first | exact Drawn0.refl _ | apply Drawn0.step)⟩
       ·rw [if_neg c8] at H
        have c8b0 : decide (x7_1 < (l0.length : Int)) = false := decide_eq_false c8
        clear c8
        (first | rw [c8b0] | rw [c8b1] | (simp only [i64_w, i32_w]; rw [c8b0]) | skip)
        have H' := Aside0.mk H
        clear H
        go_wp2
        go_meet
        case rel => exact ⟨_, (false), rf_, H', ⟨by have := HK1.out; first | omega | exact Nat.le_refl _⟩, by repeat (first | exact Drawn0.refl _ | apply Drawn0.step)⟩
      case rest =>
       clear HC7
       (try clear p1);(try clear q1);(try clear hx1);(try clear p2);(try clear c3);(try clear c4);(try clear c4b0);(try clear c5);(try clear c5b0);(try clear c6);(try clear c6b0);(try clear c6b1);(try clear p6);(try clear c8);(try clear c8b0);(try clear hx135_0);(try clear hx135_1);(try clear hx135_2);(try clear hx135_3);(try clear p1);(try clear p135);(try clear p2);(try clear p6);(try clear q1);(try clear q135)
       obtain ⟨kq, x27_6, rfl, HA, HJ6, ⟨mc6, rfl⟩⟩ := hcut
       cases kq with
       | zero => exact absurd HA.out (by simp [collatorref06_near.j1])
       | succ kj6 =>
        have H := HA.out
        clear HA
        simp only [collatorref06_near.j1] at H
        by_cases c9 : x27_6 = true
        ·subst c9
         have H1 : (if 0 ≤ x7_1 then (if x7_1 < (l0.length : Int) then (if ((rd_T71 l0 x7_1).f0) = 1 then (collatorref06_near.l0 kj6 l0 a1 a2 (wrap64 (x7_1 + 1))) else (some true)) else (none)) else (none)) = some r := by rw [if_pos rfl] at H; exact H
         clear H
         have H := H1
         clear H1
         by_cases c10 : 0 ≤ x7_1
         ·rw [if_pos c10] at H
          have c10b0 : decide (0 ≤ x7_1) = true := decide_eq_true c10
          clear c10
          by_cases c11 : x7_1 < (l0.length : Int)
          ·rw [if_pos c11] at H
           have c11b0 : decide (x7_1 < (l0.length : Int)) = true := decide_eq_true c11
           clear c11
           by_cases c12 : ((rd_T71 l0 x7_1).f0) = 1
           ·rw [if_pos c12] at H
            have c12b0 : (((rd_T71 l0 x7_1).f0) == 1) = true := beq_iff_eq.mpr c12
            have c12b1 : (((rd_T71 l0 x7_1).f0) != 1) = false := bne_eq_false_iff_eq.mpr c12
            clear c12
            have H' := Aside0.mk H
            clear H
            have p136 : 0 ≤ (x7_1 : Int) := of_decide_eq_true as_
            have q136 : x7_1 < (l0.length : Int) := of_decide_eq_true as_
            obtain ⟨ad136, e136, hx136_0, hx136_1, hx136_2, hx136_3⟩ := at_T71 HR0.out x7_1 p136 q136
            obtain rfl : ad135 = ad136 := (by injection e136)
            replace p136 := eq_true p136
            replace q136 := eq_true q136
            go_wp2
            go_roundg kj6
            case measure => have := HK1.out; have := HJ6.out; omega
            case rel => exact ⟨(wrap64 (x7_1 + 1)), rf_, H', ⟨by have := HK1.out; have := HJ6.out; omega⟩, by repeat (first | exact Drawn0.refl _ | apply Drawn0.step)⟩
           ·rw [if_neg c12] at H
            have c12b0 : (((rd_T71 l0 x7_1).f0) == 1) = false := beq_eq_false_iff_ne.mpr c12
            have c12b1 : (((rd_T71 l0 x7_1).f0) != 1) = true := bne_iff_ne.mpr c12
            obtain rfl := Option.some.inj H
            have p136 : 0 ≤ (x7_1 : Int) := of_decide_eq_true as_
            have q136 : x7_1 < (l0.length : Int) := of_decide_eq_true as_
            obtain ⟨ad136, e136, hx136_0, hx136_1, hx136_2, hx136_3⟩ := at_T71 HR0.out x7_1 p136 q136
            obtain rfl : ad135 = ad136 := (by injection e136)
            replace p136 := eq_true p136
            replace q136 := eq_true q136
            go_wp2
            go_ret
            exact ⟨by first | rfl | (simp; done) | (simp [*]; done), by repeat (first | exact Drawn0.refl _ | apply Drawn0.step)⟩
          ·rw [if_neg c11] at H
           exact absurd H (by simp)
         ·rw [if_neg c10] at H
          exact absurd H (by simp)
        ·replace c9 := Bool.eq_false_iff.mpr c9
         subst c9
         have H1 : (collatorref06_near.l1 kj6 l0 a1 a2 (wrap64 (a1 - 1))) = some r := by rw [if_neg (show ¬ (false = true) by decide)] at H; exact H
         clear H
         have H := H1
         clear H1
         have H' := Aside0.mk H
         clear H
         go_wp2
         go_loopg [8] kj6 (fun kq v8 w' => ∃ (x8_3 : Int), v8 = .int .i64 x8_3 ∧ Aside0 (collatorref06_near.l1 kq l0 a1 a2 x8_3 = some r) ∧ Aside0 (kq ≤ kj6) ∧ Drawn0 w w')
         case atStart => exact ⟨(wrap64 (a1 - 1)), rf_, H', ⟨Nat.le_refl _⟩, by repeat (first | exact Drawn0.refl _ | apply Drawn0.step)⟩
         case round =>
          clear H'
          (try clear c1);(try clear p1);(try clear q1);(try clear hx1);(try clear p2);(try clear c3);(try clear c4);(try clear c4b0);(try clear c5);(try clear c5b0);(try clear c6);(try clear c6b0);(try clear c6b1);(try clear p6);(try clear c8);(try clear c8b0);(try clear c9);(try clear c10);(try clear c10b0);(try clear c11);(try clear c11b0);(try clear c12);(try clear c12b0);(try clear c12b1);(try clear hx135_0);(try clear hx135_1);(try clear hx135_2);(try clear hx135_3);(try clear hx136_0);(try clear hx136_1);(try clear hx136_2);(try clear hx136_3);(try clear p1);(try clear p135);(try clear p136);(try clear p2);(try clear p6);(try clear q1);(try clear q135);(try clear q136)
          obtain ⟨x8_3, rfl, HA, HK3, ⟨m3, rfl⟩⟩ := hrel
          cases gk with
          | zero => exact absurd HA.out (by simp [collatorref06_near.l1])
          | succ k3 =>
           have H := HA.out
           clear HA
           simp only [collatorref06_near.l1] at H
           have HC13 := Aside0.mk H
           clear H
           go_upto_region 9 with (fail)
           go_cut [46] (fun v46 wc => ∃ (kq : Nat) (x46_12 : Bool), v46 = .bool x46_12 ∧ Aside0 (collatorref06_near.j3 kq l0 a1 a2 x8_3 x46_12 = some r) ∧ Aside0 (kq ≤ k3) ∧ Drawn0 w wc)
           case first =>
            have H := HC13.out
            clear HC13
            by_cases c14 : x8_3 ≥ 0
            ·rw [if_pos c14] at H
             have c14b0 : decide (0 ≤ x8_3) = true := decide_eq_true c14
             clear c14
             (first | rw [c14b0] | rw [c14b1] | (simp only [i64_w, i32_w]; rw [c14b0]) | skip)
             have H' := Aside0.mk H
             clear H
             go_wp2
             go_meet
             case rel => exact ⟨_, (decide (x8_3 ≥ (wrap64 (a1 - a2)))), rf_, H', ⟨by have := HK1.out; have := HJ6.out; have := HK3.out; first | omega | exact Nat.le_refl _⟩, by repeat (first | exact Drawn0.refl _ | apply Drawn0.step)⟩
            ·rw [if_neg c14] at H
             have c14b0 : decide (0 ≤ x8_3) = false := decide_eq_false c14
             clear c14
             (first | rw [c14b0] | rw [c14b1] | (simp only [i64_w, i32_w]; rw [c14b0]) | skip)
             have H' := Aside0.mk H
             clear H
             go_wp2
             go_meet
             case rel => exact ⟨_, (false), rf_, H', ⟨by have := HK1.out; have := HJ6.out; have := HK3.out; first | omega | exact Nat.le_refl _⟩, by repeat (first | exact Drawn0.refl _ | apply Drawn0.step)⟩
           case rest =>
            clear HC13
            (try clear c1);(try clear p1);(try clear q1);(try clear hx1);(try clear p2);(try clear c3);(try clear c4);(try clear c4b0);(try clear c5);(try clear c5b0);(try clear c6);(try clear c6b0);(try clear c6b1);(try clear p6);(try clear c8);(try clear c8b0);(try clear c9);(try clear c10);(try clear c10b0);(try clear c11);(try clear c11b0);(try clear c12);(try clear c12b0);(try clear c12b1);(try clear p13);(try clear q13);(try clear hx13);(try clear c14);(try clear c14b0);(try clear hx135_0);(try clear hx135_1);(try clear hx135_2);(try clear hx135_3);(try clear hx136_0);(try clear hx136_1);(try clear hx136_2);(try clear hx136_3);(try clear p1);(try clear p135);(try clear p136);(try clear p2);(try clear p6);(try clear q1);(try clear q135);(try clear q136)
            obtain ⟨kq, x46_12, rfl, HA, HJ12, ⟨mc12, rfl⟩⟩ := hcut
            cases kq with
            | zero => exact absurd HA.out (by simp [collatorref06_near.j3])
            | succ kj12 =>
             have H := HA.out
             clear HA
             simp only [collatorref06_near.j3] at H
             by_cases c15 : x46_12 = true
             ·subst c15
              have H1 : (if 0 ≤ x8_3 then (if x8_3 < (l0.length : Int) then (if ((rd_T71 l0 x8_3).f0) = 1 then (collatorref06_near.l1 kj12 l0 a1 a2 (wrap64 (x8_3 - 1))) else (some true)) else (none)) else (none)) = some r := by rw [if_pos rfl] at H; exact H
              clear H
              have H := H1
              clear H1
              by_cases c16 : 0 ≤ x8_3
              ·rw [if_pos c16] at H
               have c16b0 : decide (0 ≤ x8_3) = true := decide_eq_true c16
               clear c16
               by_cases c17 : x8_3 < (l0.length : Int)
               ·rw [if_pos c17] at H
                have c17b0 : decide (x8_3 < (l0.length : Int)) = true := decide_eq_true c17
                clear c17
                by_cases c18 : ((rd_T71 l0 x8_3).f0) = 1
                ·rw [if_pos c18] at H
                 have c18b0 : (((rd_T71 l0 x8_3).f0) == 1) = true := beq_iff_eq.mpr c18
                 have c18b1 : (((rd_T71 l0 x8_3).f0) != 1) = false := bne_eq_false_iff_eq.mpr c18
                 clear c18
                 have H' := Aside0.mk H
                 clear H
                 have p137 : 0 ≤ (x8_3 : Int) := of_decide_eq_true as_
                 have q137 : x8_3 < (l0.length : Int) := of_decide_eq_true as_
                 obtain ⟨ad137, e137, hx137_0, hx137_1, hx137_2, hx137_3⟩ := at_T71 HR0.out x8_3 p137 q137
                 obtain rfl : ad135 = ad137 := (by injection e137)
                 replace p137 := eq_true p137
                 replace q137 := eq_true q137
                 go_wp2
                 go_roundg kj12
                 case measure => have := HK1.out; have := HJ6.out; have := HK3.out; have := HJ12.out; omega
                 case rel => exact ⟨(wrap64 (x8_3 - 1)), rf_, H', ⟨by have := HK1.out; have := HJ6.out; have := HK3.out; have := HJ12.out; omega⟩, by repeat (first | exact Drawn0.refl _ | apply Drawn0.step)⟩
                ·rw [if_neg c18] at H
                 have c18b0 : (((rd_T71 l0 x8_3).f0) == 1) = false := beq_eq_false_iff_ne.mpr c18
                 have c18b1 : (((rd_T71 l0 x8_3).f0) != 1) = true := bne_iff_ne.mpr c18
                 obtain rfl := Option.some.inj H
                 have p137 : 0 ≤ (x8_3 : Int) := of_decide_eq_true as_
                 have q137 : x8_3 < (l0.length : Int) := of_decide_eq_true as_
                 obtain ⟨ad137, e137, hx137_0, hx137_1, hx137_2, hx137_3⟩ := at_T71 HR0.out x8_3 p137 q137
                 obtain rfl : ad135 = ad137 := (by injection e137)
                 replace p137 := eq_true p137
                 replace q137 := eq_true q137
                 go_wp2
                 go_ret
                 exact ⟨by first | rfl | (simp; done) | (simp [*]; done), by repeat (first | exact Drawn0.refl _ | apply Drawn0.step)⟩
               ·rw [if_neg c17] at H
                exact absurd H (by simp)
              ·rw [if_neg c16] at H
               exact absurd H (by simp)
             ·replace c15 := Bool.eq_false_iff.mpr c15
              subst c15
              have H1 : (some false) = some r := by rw [if_neg (show ¬ (false = true) by decide)] at H; exact H
              clear H
              have H := H1
              clear H1
              obtain rfl := Option.some.inj H
              go_wp2
              go_ret
              exact ⟨by first | rfl | (simp; done) | (simp [*]; done), by repeat (first | exact Drawn0.refl _ | apply Drawn0.step)⟩
   ·rw [if_neg c6] at H
    have c6b0 : (((rd_T71 l0 a1).f0) == 1) = false := beq_eq_false_iff_ne.mpr c6
    have c6b1 : (((rd_T71 l0 a1).f0) != 1) = true := bne_iff_ne.mpr c6
    obtain rfl := Option.some.inj H
    have p135 : 0 ≤ (a1 : Int) := of_decide_eq_true as_
    have q135 : a1 < (l0.length : Int) := of_decide_eq_true as_
    obtain ⟨ad135, e135, hx135_0, hx135_1, hx135_2, hx135_3⟩ := at_T71 HR0.out a1 p135 q135
    cases e135
    replace p135 := eq_true p135
    replace q135 := eq_true q135
    go_enter Try.func37, Try.ntmps37
    go_wp2
    go_ret
    exact ⟨by first | rfl | (simp; done) | (simp [*]; done), by repeat (first | exact Drawn0.refl _ | apply Drawn0.step)⟩
  ·rw [if_neg c5] at H
   exact absurd H (by simp)
 ·rw [if_neg c4] at H
  exact absurd H (by simp)

end Go.Proofs.Ytgobidmfbjmpkaa.P
end
section
/- collatorref04.may and Right: by a walk of their text. -/
set_option linter.unusedVariables false
set_option linter.unusedSimpArgs false
namespace Go.Proofs.Ytgobidmfbjmpkaa.P
open Go Go.RowKit Go.Proofs.YtgobidmfbjmpkaaW.PrintWords Go.Proofs.YtgobidmfbjmpkaaW.PrintLast Go.Proofs.YtgobidmfbjmpkaaW.PrintMore Go.Proofs.Ytgobidmfbjmpkaa.Q
set_option maxHeartbeats 2000000 in
theorem may_run (op n : Int) (A : Option Addr) (c : Nat) (ls : List ByteArray) (w : World) : Calls Try.prog 56 #[.agg #[.int .i64 op, .int .i64 n, .slice A ls.length c]] w fun e w' => e = .returned (.bool (mayB op n ls)) ∧ Below w.heap.size w w' := by
 go_enter Try.func56, Try.ntmps56
 obtain ⟨W, hW⟩ : ∃ W, W = w.alloc (.cells #[.int .i64 op, .int .i64 n, .slice A ls.length c] 31) := ⟨_, rfl⟩
 have hb : W.heap[w.heap.size]? = some (.cells #[.int .i64 op, .int .i64 n, .slice A ls.length c] 31 (0, 0)) := by rw [hW]; exact heap_alloc_new w _
 have HB := Lib.hid (show Below w.heap.size w W by rw [hW]; exact (Below.refl _ _).alloc (Nat.le_refl _) _)
 have g0 := (blk_cell hb 0).trans (rfl : _ = some (Value.int .i64 op))
 have g1 := (blk_cell hb 1).trans (rfl : _ = some (Value.int .i64 n))
 have g2 := (blk_cell hb 2).trans (rfl : _ = some (Value.slice A ls.length c))
 have HW := Lib.hid hW
 obtain ⟨r, hr⟩ : ∃ r, r = mayB op n ls := ⟨_, rfl⟩
 rw [← hr]
 have HR := Lib.hid hr
 clear hW hb hr
 go_wp2_with (first | rw [← HW.out])
 all_goals
  go_ret
  refine ⟨?_, HB.out⟩
  rw [HR.out]
  congr 2
  unfold mayB
  (repeat' split) <;> first | rfl | (exfalso; simp_all; omega) | (simp_all; done) | (simp_all; omega)
def lastOp (l : List S31) (i : Nat) : Int := if i = 0 then 0 else (rd_T31 l ((i : Int) - 1)).f0
set_option maxRecDepth 100000 in
set_option maxHeartbeats 4000000 in
theorem right4_run (A0 : Option Addr) (c0 : Nat) (l0 : List S31) (w : World) (hr0 : Kd.C k31 w A0 l0.length l0) (hc0 : l0.length ≤ c0) (hl : l0.length ≤ 1000000) : Calls Try.prog 35 #[.slice A0 l0.length c0] w fun e w' => e = .returned (.bool (rightB 0 l0)) ∧ Below w.heap.size w w' := by
 have HR0 := Lib.hid hr0
 have HL := Lib.hid hl
 obtain ⟨r, hr⟩ : ∃ r, r = rightB 0 l0 := ⟨_, rfl⟩
 rw [← hr]
 have HR := Lib.hid hr
 clear hr0 hl hr
 go_enter Try.func35, Try.ntmps35
 go_wp2
 go_loopw [3] (fun v_ wr => ∃ i : Nat, v_ = .int .i64 (i : Int) ∧ i ≤ l0.length ∧ Hid (r = rightB (lastOp l0 i) (l0.drop i)) ∧ Hid (Below w.heap.size w wr)) (fun v_ _ => l0.length - (intOf v_).toNat)
 case atStart => exact ⟨0, rfl, Nat.zero_le _, HR, Below.refl _ _⟩
 case round =>
  clear HR
  obtain ⟨i, rfl, hi, HI, HB⟩ := hrel
  by_cases ci : i < l0.length
  ·have b0 : decide ((i : Int) < (l0.length : Int)) = true := decide_eq_true (by omega)
   have h1 := HI.out
   rw [drop_rd ci] at h1
   obtain ⟨ad, A2, d2, e0, hx0, hx1, hx2, hxl, hxc⟩ := at_T31 HR0.out (i : Int) (by omega) (by omega)
   subst e0
   rw [Int.toNat_natCast] at hx0 hx1 hx2
   obtain ⟨x, hx⟩ : ∃ x, x = rd_T31 l0 (i : Int) := ⟨_, rfl⟩
   rw [← hx] at hx0 hx1 hx2 h1
   have HX := Lib.hid hx
   have H1 := Lib.hid h1
   have H0 := Lib.hid (And.intro hx0 (And.intro hx1 hx2))
   have p0 := eq_true (show 0 ≤ (i : Int) by omega)
   have p1 := eq_true (show (i : Int) < (l0.length : Int) by omega)
   have hin : wrap64 ((i : Int) + 1) = ((i + 1 : Nat) : Int) := by have := HL.out; unfold wrap64; omega
   have g0 := (HB.out.cell (World.block_lt_of_cell? _ _ hx0)).trans hx0
   have g1 := (HB.out.cell (World.block_lt_of_cell? _ _ hx1)).trans hx1
   have g2 := (HB.out.cell (World.block_lt_of_cell? _ _ hx2)).trans hx2
   clear hx h1 hx0 hx1 hx2 hxl hxc HI
   obtain ⟨b, hb⟩ : ∃ b, b = mayB x.f0 x.f1 x.f2 := ⟨_, rfl⟩
   have HM := Lib.hid hb
   clear hb
   go_wp2_with (first | (go_at_call 56; refine (may_run x.f0 x.f1 A2 d2 x.f2 _).mono ?_; rintro e W ⟨rfl, hb⟩; rw [← HM.out]; have n_ := Lib.hid (below_step HB.out hb); clear HB g0 g1 g2; have HB := n_; clear n_ hb))
   have g0 := (HB.out.cell (World.block_lt_of_cell? _ _ H0.out.1)).trans H0.out.1
   have h1 := H1.out
   unfold rightB at h1
   rw [← HM.out] at h1
   have key : (b = false ∧ r = false) ∨ (b = true ∧ ((i = 0 ∧ r = rightB x.f0 (l0.drop (i + 1))) ∨ ∃ j : Nat, i = j + 1 ∧ ∃ y, y = rd_T31 l0 (j : Int) ∧ ∃ c1 c2 c3, (y.f0 == x.f0) = c1 ∧ (y.f0 == 3) = c2 ∧ (x.f0 == 2) = c3 ∧ ((c1 = true ∧ r = false) ∨ (c1 = false ∧ c2 = true ∧ c3 = true ∧ r = false) ∨ (c1 = false ∧ c2 = true ∧ c3 = false ∧ r = rightB x.f0 (l0.drop (i + 1))) ∨ (c1 = false ∧ c2 = false ∧ r = rightB x.f0 (l0.drop (i + 1)))))) := by
    cases b with
    | false => exact .inl ⟨rfl, h1⟩
    | true =>
     refine .inr ⟨rfl, ?_⟩
     rw [if_pos rfl] at h1
     rcases i with _ | j
     ·have := may_op HM.out.symm
      rw [show lastOp l0 0 = 0 from rfl, if_neg (by omega), if_neg (by decide)] at h1
      exact .inl ⟨rfl, h1⟩
     ·refine .inr ⟨j, rfl, _, rfl, _, _, _, rfl, rfl, rfl, ?_⟩
      have e : lastOp l0 (j + 1) = (rd_T31 l0 (j : Int)).f0 := by unfold lastOp; rw [if_neg (by omega), show ((j + 1 : Nat) : Int) - 1 = (j : Int) by omega]
      rw [e] at h1
      generalize (rd_T31 l0 (j : Int)).f0 = y at h1 ⊢
      by_cases k1 : x.f0 = y
      ·rw [if_pos k1] at h1
       exact .inl ⟨by simp [k1], h1⟩
      ·rw [if_neg k1] at h1
       have k1' : (y == x.f0) = false := by simp; exact fun h => k1 h.symm
       by_cases k2 : y = 3
       ·rw [if_pos k2] at h1
        by_cases k3 : x.f0 = 2
        ·rw [if_pos k3] at h1
         exact .inr (.inl ⟨k1', by simp [k2], by simp [k3], h1⟩)
        ·rw [if_neg k3] at h1
         exact .inr (.inr (.inl ⟨k1', by simp [k2], by simp [k3], h1⟩))
       ·rw [if_neg k2] at h1
        exact .inr (.inr (.inr ⟨k1', by simp [k2], h1⟩))
   have hlast : lastOp l0 (i + 1) = x.f0 := by unfold lastOp; rw [if_neg (by omega), show ((i + 1 : Nat) : Int) - 1 = (i : Int) by omega, HX.out]
   have HN := Lib.hid (show r = rightB x.f0 (l0.drop (i + 1)) → r = rightB (lastOp l0 (i + 1)) (l0.drop (i + 1)) by rw [hlast]; exact id)
   clear h1 hlast
   rcases key with ⟨rfl, rfl⟩ | ⟨rfl, ⟨hi0, hr⟩ | ⟨j, hij, y, hy, c1, c2, c3, k1, k2, k3, hk⟩⟩
   case' inl => go_quiet (fail)
   case' inr.inl =>
    have q0 : decide (0 < (i : Int)) = false := decide_eq_false (by omega)
    have q1 : decide (0 < i) = false := decide_eq_false (by omega)
    have HR := Lib.hid hr
    clear hi0 hr
    go_quiet (fail)
   case' inr.inr =>
    have q0 : decide (0 < (i : Int)) = true := decide_eq_true (by omega)
    have q1 : decide (0 < i) = true := decide_eq_true (by omega)
    have s1 : IntKind.i64.wrap ((i : Int) - 1) = (j : Int) := by rw [i64_w]; have := HL.out; unfold wrap64; omega
    obtain ⟨ad', A3, d3, e0, hy0, _, _, _, _⟩ := at_T31 HR0.out (j : Int) (by omega) (by omega)
    injection e0 with e0
    subst e0
    rw [Int.toNat_natCast, ← hy] at hy0
    have g3 := (HB.out.cell (World.block_lt_of_cell? _ _ hy0)).trans hy0
    have p2 := eq_true (show 0 ≤ (j : Int) by omega)
    have p3 := eq_true (show (j : Int) < (l0.length : Int) by omega)
    have HIJ := Lib.hid hij
    clear hij hy0 hy
    rcases hk with ⟨rfl, rfl⟩ | ⟨rfl, rfl, rfl, rfl⟩ | ⟨rfl, rfl, rfl, hr⟩ | ⟨rfl, rfl, hr⟩
    all_goals ((try (have HR := Lib.hid hr; clear hr)); go_quiet (fail))
   all_goals
    have HB2 := Lib.hid (pw_below_drewN HB.out nq)
    clear HB
    go_wp2
    first | (go_ret; exact ⟨rfl, HB2.out⟩) | (rw [hin]; exact ⟨⟨i + 1, rfl, ci, HN.out HR.out, HB2.out⟩, by simp [intOf]; omega⟩)
  ·have b0 : decide ((i : Int) < (l0.length : Int)) = false := decide_eq_false (by omega)
   have hn : r = true := by have := HI.out; rw [List.drop_of_length_le (by omega)] at this; exact this
   go_wp2
   go_ret
   exact ⟨by rw [hn]; rfl, HB.out⟩
def collatorref04_may.f (k : Nat) (a0_0 : Int) (a0_1 : Int) (l0_2 : List ByteArray) : Option Bool := some (mayB a0_0 a0_1 l0_2)
def collatorref04_Right.f (k : Nat) (l0 : List S31) : Option Bool := if l0.length ≤ 1000000 then some (rightB 0 l0) else none
theorem collatorref04_Right.calls (k : Nat) (A0 : Option Addr) (c0 : Nat) (l0 : List S31) (r : Bool) (w : World) (hr0 : Kd.C k31 w A0 l0.length l0) (hc0 : l0.length ≤ c0) (h : collatorref04_Right.f k l0 = some r) :
  Calls Try.prog 35 #[.slice A0 l0.length c0] w fun e w' => e = .returned (.bool r) ∧ Below w.heap.size w w' := by
 unfold collatorref04_Right.f at h
 split at h
 ·obtain rfl := Option.some.inj h
  exact right4_run A0 c0 l0 w hr0 hc0 (by assumption)
 ·cases h
end Go.Proofs.Ytgobidmfbjmpkaa.P
end
section
/- ref06.steps: by a walk of its text. -/
set_option linter.unusedVariables false
set_option linter.unusedSimpArgs false
namespace Go.Proofs.Ytgobidmfbjmpkaa.P
open Go Go.RowKit Go.Proofs.YtgobidmfbjmpkaaW.PrintWords Go.Proofs.YtgobidmfbjmpkaaW.PrintLast Go.Proofs.YtgobidmfbjmpkaaW.PrintMore
mutual
def collatorref06_steps.l0 : Nat → List S31 → List S71 → Int → Int → Int → Option (List S71)
 | 0, _, _, _, _, _ => none
 | k + 1, x0, x3, x4, x5, x6 => if x6 < (x0.length : Int) then collatorref06_steps.l1 k x0 x3 x4 x5 x6 0 else some x3
def collatorref06_steps.l1 : Nat → List S31 → List S71 → Int → Int → Int → Int → Option (List S71)
 | 0, _, _, _, _, _, _ => none
 | k + 1, x0, x3, x4, x5, x6, x7 => if 0 ≤ x6 then (if x6 < (x0.length : Int) then (if x7 < ((rd_T31 x0 x6).f1) then (if ((rd_T31 x0 x6).f0) = 3 then (if 0 ≤ x7 then (if x7 < (((rd_T31 x0 x6).f2).length : Int) then (if ((rd_T31 x0 x6).f0) = 2 then (if x3.length < 3518437208883 then (collatorref06_steps.l1 k x0 (x3 ++ [(⟨(rd_T31 x0 x6).f0, rdOf ByteArray.empty ((rd_T31 x0 x6).f2) x7, x4, x5⟩ : S71)]) x4 x5 x6 (wrap64 (x7 + 1))) else (none)) else (if x3.length < 3518437208883 then (collatorref06_steps.l1 k x0 (x3 ++ [(⟨(rd_T31 x0 x6).f0, rdOf ByteArray.empty ((rd_T31 x0 x6).f2) x7, x4, x5⟩ : S71)]) x4 (wrap64 (x5 + 1)) x6 (wrap64 (x7 + 1))) else (none))) else (none)) else (none)) else (if ((rd_T31 x0 x6).f0) = 2 then (if x3.length < 3518437208883 then (collatorref06_steps.l1 k x0 (x3 ++ [(⟨(rd_T31 x0 x6).f0, (⟨#[]⟩ : ByteArray), x4, x5⟩ : S71)]) (wrap64 (x4 + 1)) x5 x6 (wrap64 (x7 + 1))) else (none)) else (if x3.length < 3518437208883 then (collatorref06_steps.l1 k x0 (x3 ++ [(⟨(rd_T31 x0 x6).f0, (⟨#[]⟩ : ByteArray), x4, x5⟩ : S71)]) (wrap64 (x4 + 1)) (wrap64 (x5 + 1)) x6 (wrap64 (x7 + 1))) else (none)))) else (collatorref06_steps.l0 k x0 x3 x4 x5 (wrap64 (x6 + 1)))) else (none)) else (none)
end
def collatorref06_steps.f (k : Nat) (l0 : List S31) : Option (List S71) := collatorref06_steps.l0 k l0 [] 0 0 0
set_option maxHeartbeats 8000000 in
set_option maxRecDepth 100000 in
theorem collatorref06_steps.calls (k : Nat) (A0 : Option Addr) (c0 : Nat) (l0 : List S31) (r : List S71) (w : World) (hr0 : Kd.C k31 w A0 l0.length l0) (hc0 : l0.length ≤ c0) (h : collatorref06_steps.f k l0 = some r) :
  Calls Try.prog 36 #[.slice A0 l0.length c0] w fun e w' => ∃ v0_ : Value, e = .returned (v0_) ∧ Kd.R k71 71 w' w.heap.size (fun _ => True) v0_ r ∧ Below w.heap.size w w' := by
 have HR0 := Lib.hid hr0
 have H' := Lib.hid (show collatorref06_steps.l0 k l0 [] 0 0 0 = some r from h)
 clear hr0 h
 go_enter Try.func36, Try.ntmps36
 go_wp2
 go_loopg [3, 4, 5, 6] k (fun kq v3 v4 v5 v6 w' => ∃ (x3 : List S71) (x4 x5 x6 : Int), v4 = .int .i64 x4 ∧ v5 = .int .i64 x5 ∧ v6 = .int .i64 x6 ∧ Hid (collatorref06_steps.l0 kq l0 x3 x4 x5 x6 = some r) ∧ Hid (kq ≤ k) ∧ Hid (Kd.R k71 71 w' w.heap.size (fun _ => True) v3 x3) ∧ Hid (Below w.heap.size w w'))
 case atStart => exact ⟨[], 0, 0, 0, rfl, rfl, rfl, H', Nat.le_refl _, Kd.R_nil _ _ _ _ _, Below.refl _ _⟩
 case round =>
  clear H'
  obtain ⟨y3, y4, y5, x6, rfl, rfl, rfl, HA, HK1, HO, HB⟩ := hrel
  cases gk with
  | zero => exact absurd HA.out (by simp [collatorref06_steps.l0])
  | succ k1 =>
   have H := HA.out
   clear HA
   simp only [collatorref06_steps.l0] at H
   by_cases c2 : x6 < (l0.length : Int)
   ·rw [if_pos c2] at H
    have H' := Lib.hid H
    have b2 : decide (x6 < (l0.length : Int)) = true := decide_eq_true c2
    clear H c2
    go_wp2
    go_loopg [3, 4, 5, 7] k1 (fun kq v3 v4 v5 v7 w' => ∃ (x3 : List S71) (x4 x5 x7 : Int), v4 = .int .i64 x4 ∧ v5 = .int .i64 x5 ∧ v7 = .int .i64 x7 ∧ Hid (collatorref06_steps.l1 kq l0 x3 x4 x5 x6 x7 = some r) ∧ Hid (kq ≤ k1) ∧ Hid (Kd.R k71 71 w' w.heap.size (fun _ => True) v3 x3) ∧ Hid (Below w.heap.size w w'))
    case atStart => exact ⟨y3, y4, y5, 0, rfl, rfl, rfl, H', Nat.le_refl _, HO, HB⟩
    case round =>
     clear H' HO HB
     obtain ⟨x3, x4, x5, x7, rfl, rfl, rfl, HA, HK2, HO, HB⟩ := hrel
     cases gk with
     | zero => exact absurd HA.out (by simp [collatorref06_steps.l1])
     | succ k2 =>
      have H := HA.out
      clear HA
      simp only [collatorref06_steps.l1] at H
      by_cases c3 : 0 ≤ x6
      case neg => rw [if_neg c3] at H; cases H
      have c2 := of_decide_eq_true b2
      rw [if_pos c3, if_pos c2] at H
      obtain ⟨ad, A2, d2, e0, hx0, hx1, hx2, -, hxc⟩ := at_T31 HR0.out x6 c3 c2
      subst e0
      obtain ⟨x, hx⟩ : ∃ x, x = rd_T31 l0 x6 := ⟨_, rfl⟩
      rw [← hx] at hx0 hx1 hx2 hxc H
      have HXC := Lib.hid hxc
      have p0 := eq_true c3
      have p1 := eq_true c2
      have g0 := (HB.out.cell (World.block_lt_of_cell? _ _ hx0)).trans hx0
      have g1 := (HB.out.cell (World.block_lt_of_cell? _ _ hx1)).trans hx1
      have g2 := (HB.out.cell (World.block_lt_of_cell? _ _ hx2)).trans hx2
      have hlt := World.block_lt_of_cell? _ _ g0
      clear hxc hx c2 c3
      by_cases c5 : x7 < x.f1
      ·have key : ∃ ln p q c1 c2, (x.f0 == 3) = c1 ∧ (x.f0 != 2) = c2 ∧ x3.length < 3518437208883 ∧ collatorref06_steps.l1 k2 l0 (x3 ++ [⟨x.f0, ln, x4, x5⟩]) p q x6 (wrap64 (x7 + 1)) = some r ∧ ((c1 = true ∧ c2 = true ∧ 0 ≤ x7 ∧ x7 < (x.f2.length : Int) ∧ ln = rdOf ByteArray.empty x.f2 x7 ∧ x4 = p ∧ q = wrap64 (x5 + 1)) ∨ (c1 = false ∧ ln = ⟨#[]⟩ ∧ p = wrap64 (x4 + 1) ∧ ((c2 = false ∧ x5 = q) ∨ (c2 = true ∧ q = wrap64 (x5 + 1))))) := by
        rw [if_pos c5] at H
        by_cases d1 : x.f0 = 3
        ·rw [if_pos d1] at H
         split at H
         ·split at H
          ·rw [if_neg (by omega)] at H
           split at H
           ·exact ⟨_, _, _, _, _, rfl, rfl, by assumption, H, .inl ⟨by simp [d1], by simp [d1], by assumption, by assumption, rfl, rfl, rfl⟩⟩
           ·cases H
          ·cases H
         ·cases H
        ·rw [if_neg d1] at H
         by_cases d2 : x.f0 = 2
         ·rw [if_pos d2] at H
          split at H
          ·exact ⟨_, _, _, _, _, rfl, rfl, by assumption, H, .inr ⟨by simp [d1], rfl, rfl, .inl ⟨by simp [d2], rfl⟩⟩⟩
          ·cases H
         ·rw [if_neg d2] at H
          split at H
          ·exact ⟨_, _, _, _, _, rfl, rfl, by assumption, H, .inr ⟨by simp [d1], rfl, rfl, .inr ⟨by simp [d2], rfl⟩⟩⟩
          ·cases H
       clear H
       obtain ⟨ln, p, q, c1, c2, k3, k4, hl, hH, hk⟩ := key
       have H' := Lib.hid hH
       have HL := Lib.hid hl
       clear hH hl
       have b5 : decide (x7 < x.f1) = true := decide_eq_true c5
       obtain ⟨X, hX⟩ : ∃ X, X = wr.alloc (.cells #[.int .i64 x.f0, .string ⟨#[]⟩, .int .i64 x4, .int .i64 x5] 71) := ⟨_, rfl⟩
       have hbx : X.heap[wr.heap.size]? = some (.cells #[.int .i64 x.f0, .string ⟨#[]⟩, .int .i64 x4, .int .i64 x5] 71 (0, 0)) := by rw [hX]; exact heap_alloc_new wr _
       have hbw : Below wr.heap.size wr X := by rw [hX]; exact (Below.refl _ _).alloc (Nat.le_refl _) _
       have HX := Lib.hid hX
       clear hX
       have hsz : wr.heap.size < X.heap.size := (Array.getElem?_eq_some_iff.1 hbx).1
       have hw0 : w.heap.size ≤ wr.heap.size := below_size HB.out
       have n1 := Lib.hid (Kd.R_below (Kd.R_elderB HO.out wr.heap.size (Nat.le_refl _)) hbw)
       have n2 := Lib.hid (below_step HB.out hbw)
       clear HO HB
       have HO := n1
       have HB := n2
       clear n1 n2
       have HBW := Lib.hid hbw
       clear hbw
       have q0 := (blk_cell hbx 0).trans rfl
       have q1 := (blk_cell hbx 1).trans rfl
       have q2 := (blk_cell hbx 2).trans rfl
       have q3 := (blk_cell hbx 3).trans rfl
       have z0 := blk_frozen hbx 0
       have z1 := blk_frozen hbx 1
       have HBX := Lib.hid hbx
       clear hbx hsz
       have f0 := (HB.out.cell (World.block_lt_of_cell? _ _ hx0)).trans hx0
       have f2 := (HB.out.cell (World.block_lt_of_cell? _ _ hx2)).trans hx2
       rcases hk with ⟨rfl, rfl, h0, h1, hln, rfl, rfl⟩ | ⟨rfl, rfl, rfl, hk⟩
       ·obtain ⟨ad2, e2, hs⟩ := Kd.at_string HXC.out x7 h0 h1
        subst e2
        rw [← hln] at hs
        have p2 := eq_true h0
        have p3 := eq_true h1
        have f3 := (HB.out.cell (World.block_lt_of_cell? _ _ hs)).trans hs
        obtain ⟨Y, hY⟩ : ∃ Y, Y = X.setCell ⟨wr.heap.size, 1, none⟩ (.string ln) := ⟨_, rfl⟩
        have n1 := Lib.hid (show Y.heap[wr.heap.size]? = some (.cells #[.int .i64 x.f0, .string ln, .int .i64 x4, .int .i64 x5] 71 (0, 0)) by rw [hY]; exact blk_put (cs := #[.int .i64 x.f0, .string ⟨#[]⟩, .int .i64 x4, .int .i64 x5]) HBX.out 1 _ rfl)
        have n2 := Lib.hid (show Kd.R k71 71 Y w.heap.size (fun k_ => True ∧ k_ ≠ wr.heap.size) u3 x3 by rw [hY]; exact Kd.R_far (p := ⟨wr.heap.size, 1, none⟩) HO.out (fun _ hk => hk.2) _)
        have n3 := Lib.hid (show Below w.heap.size w Y by rw [hY]; exact below_set HB.out hw0)
        have HY := Lib.hid hY
        clear HBX HO HB hY
        have HBX := n1
        have HO := n2
        have HB := n3
        clear n1 n2 n3 h0 h1 hln
        have y0 := (blk_cell HBX.out 0).trans rfl
        have y1 := (blk_cell HBX.out 1).trans rfl
        have y2 := (blk_cell HBX.out 2).trans rfl
        have y3 := (blk_cell HBX.out 3).trans rfl
        have yf := (HB.out.cell (World.block_lt_of_cell? _ _ hx0)).trans hx0
        clear hx0 hx1 hx2 hs hlt hw0 c5
        go_wp2_with (first | rw [← HY.out] | rw [← HX.out] | ((with_reducible refine gate_builtin (b := .append) (xs := #[.tmp 57, .tmp 59]) rfl ?_); at_builtin; refine Kd.R_append k71 (w0 := w) w.heap.size rfl (.tmp 57) (.tmp 59) 67 71 (.agg #[(.int .i64 0), (.string ⟨#[]⟩), (.int .i64 0), (.int .i64 0)]) 40 rfl Try.underlying67 (by kernel_rfl) rfl (by decide) (by omega) u3 x3 (⟨x.f0, ln, x4, x5⟩ : S71) [.int .i64 x.f0, .string ln, .int .i64 x4, .int .i64 x5] (fun k_ => k_ ≠ wr.heap.size) (fun _ => False) rfl (by first | (go_simp; done) | (go_simp; rfl)) (k71_mkM _ _ _ (⟨x.f0, ln, x4, x5⟩ : S71)) (fun _ hk => hk.elim) (fun k_ hk => Kd.freshB HBX.out k_ hk) (Kd.R_mono HO.out (fun _ hk => hk.2)) HB.out (below_size HB.out) (by have := HL.out; omega) ?_; intro v1 W1 ho hb hg hat; have n1_ := Lib.hid hb; have n2_ := Lib.hid ho; clear HB HO HBX; have HB := n1_; have HO := n2_; clear n1_ n2_ ho hb hg hat))
        go_roundg k2
        case measure => have := HK1.out; have := HK2.out; omega
        case rel => exact ⟨_, x4, _, _, rfl, rfl, rfl, H', Lib.hid (by have := HK2.out; omega), Lib.hid (Kd.R_mono HO.out (fun _ _ => trivial)), HB⟩
       ·clear hx0 hx1 hx2 hlt c5 z0 z1
        rcases hk with ⟨rfl, rfl⟩ | ⟨rfl, rfl⟩
        all_goals go_wp2_with (first | rw [← HX.out] | ((with_reducible refine gate_builtin (b := .append) (xs := #[.tmp 57, .tmp 59]) rfl ?_); at_builtin; refine Kd.R_append k71 (w0 := w) w.heap.size rfl (.tmp 57) (.tmp 59) 67 71 (.agg #[(.int .i64 0), (.string ⟨#[]⟩), (.int .i64 0), (.int .i64 0)]) 40 rfl Try.underlying67 (by kernel_rfl) rfl (by decide) (by omega) u3 x3 (⟨x.f0, ⟨#[]⟩, x4, x5⟩ : S71) [.int .i64 x.f0, .string ⟨#[]⟩, .int .i64 x4, .int .i64 x5] (fun k_ => k_ ≠ wr.heap.size) (fun _ => False) rfl (by first | (go_simp; done) | (go_simp; rfl)) (k71_mkM _ _ _ (⟨x.f0, ⟨#[]⟩, x4, x5⟩ : S71)) (fun _ hk => hk.elim) (fun k_ hk => Kd.freshB HBX.out k_ hk) (Kd.R_mono HO.out (fun _ hk => hk.2)) HB.out (below_size HB.out) (by have := HL.out; omega) ?_; intro v1 W1 ho hb hg hat; have n1_ := Lib.hid hb; have n2_ := Lib.hid ho; clear HB HO HBX; have HB := n1_; have HO := n2_; clear n1_ n2_ ho hb hg hat))
        all_goals
         go_roundg k2
         case measure => have := HK1.out; have := HK2.out; omega
         case rel => exact ⟨_, _, _, _, rfl, rfl, rfl, H', Lib.hid (by have := HK2.out; omega), Lib.hid (Kd.R_mono HO.out (fun _ _ => trivial)), HB⟩
      ·rw [if_neg c5] at H
       have b5 : decide (x7 < x.f1) = false := decide_eq_false c5
       have H' := Lib.hid H
       clear H c5 hlt
       go_wp2
       go_roundg k2
       case measure => have := HK1.out; have := HK2.out; omega
       case rel => exact ⟨x3, x4, x5, _, rfl, rfl, rfl, H', Lib.hid (by have := HK1.out; have := HK2.out; omega), HO, HB⟩
   ·rw [if_neg c2] at H
    have b2 : decide (x6 < (l0.length : Int)) = false := decide_eq_false c2
    obtain rfl := Option.some.inj H
    go_wp2
    go_ret
    exact ⟨_, rfl, HO.out, HB.out⟩
end Go.Proofs.Ytgobidmfbjmpkaa.P
end
