/- Laid for this claim by hp.py, this session's program round the kit's print: functions of the program as plain Lean functions, the proofs that the code comes to their answers, and the rows of the laws. Not trusted: Lean checks it. -/
import Derived.Test.YtgobidmfbjmpkaaPx0
import Derived.Test.YtgobidmfbjmpkaaHShr
namespace Go.Proofs.Ytgobidmfbjmpkaa.P
open Go.RowKit Go.Proofs.YtgobidmfbjmpkaaW.PrintWords Go.Proofs.YtgobidmfbjmpkaaW.PrintLast Go.Proofs.YtgobidmfbjmpkaaW.PrintMore
attribute [local go_sem] max2_int min2_int max_two min_two max_three min_three max_four min_four   -- for this text's walks alone
set_option linter.unusedVariables false
set_option linter.unusedSimpArgs false

/-! ### myers_from: function 61 -/
def myers_from.f (l0 : List Int) (a1 : Int) (a2 : Int) : Option (Int) := if a1 = 0 then (some 0) else (if a2 = (wrap64 (-a1)) then (if 0 ≤ (wrap64 (a1 + a2)) then (if (wrap64 (a1 + a2)) < (l0.length : Int) then (some (rd l0 (wrap64 (a1 + a2)))) else (none)) else (none)) else (if a2 = a1 then (if 0 ≤ (wrap64 ((wrap64 (a1 + a2)) - 2)) then (if (wrap64 ((wrap64 (a1 + a2)) - 2)) < (l0.length : Int) then (some (wrap64 ((rd l0 (wrap64 ((wrap64 (a1 + a2)) - 2))) + 1))) else (none)) else (none)) else (if 0 ≤ (wrap64 ((wrap64 ((wrap64 (a1 - 1)) + a2)) - 1)) then (if (wrap64 ((wrap64 ((wrap64 (a1 - 1)) + a2)) - 1)) < (l0.length : Int) then (if 0 ≤ (wrap64 ((wrap64 ((wrap64 (a1 - 1)) + a2)) + 1)) then (if (wrap64 ((wrap64 ((wrap64 (a1 - 1)) + a2)) + 1)) < (l0.length : Int) then (if (rd l0 (wrap64 ((wrap64 ((wrap64 (a1 - 1)) + a2)) - 1))) < (rd l0 (wrap64 ((wrap64 ((wrap64 (a1 - 1)) + a2)) + 1))) then (if 0 ≤ (wrap64 (a1 + a2)) then (if (wrap64 (a1 + a2)) < (l0.length : Int) then (some (rd l0 (wrap64 (a1 + a2)))) else (none)) else (none)) else (if 0 ≤ (wrap64 ((wrap64 (a1 + a2)) - 2)) then (if (wrap64 ((wrap64 (a1 + a2)) - 2)) < (l0.length : Int) then (some (wrap64 ((rd l0 (wrap64 ((wrap64 (a1 + a2)) - 2))) + 1))) else (none)) else (none))) else (none)) else (none)) else (none)) else (none))))
set_option maxHeartbeats 8000000 in
set_option maxRecDepth 100000 in
theorem myers_from.calls (A0 : Option Addr) (c0 : Nat) (l0 : List Int) (a1 : Int) (a2 : Int) (r : Int) (w : World) (hr0 : Kd.C (Kd.int .i64) w A0 l0.length l0) (hc0 : l0.length ≤ c0) (h : myers_from.f l0 a1 a2 = some r) :
  Calls Try.prog 61 #[.slice A0 l0.length c0, .int .i64 a1, .int .i64 a2] w fun e w' => e = .returned (.int .i64 r) ∧ Drawn0 w w' := by
 have HR0 := Aside0.mk hr0
 have HC0 := Aside0.mk hc0
 clear hr0 hc0
 have H : (if a1 = 0 then (some 0) else (if a2 = (wrap64 (-a1)) then (if 0 ≤ (wrap64 (a1 + a2)) then (if (wrap64 (a1 + a2)) < (l0.length : Int) then (some (rd l0 (wrap64 (a1 + a2)))) else (none)) else (none)) else (if a2 = a1 then (if 0 ≤ (wrap64 ((wrap64 (a1 + a2)) - 2)) then (if (wrap64 ((wrap64 (a1 + a2)) - 2)) < (l0.length : Int) then (some (wrap64 ((rd l0 (wrap64 ((wrap64 (a1 + a2)) - 2))) + 1))) else (none)) else (none)) else (if 0 ≤ (wrap64 ((wrap64 ((wrap64 (a1 - 1)) + a2)) - 1)) then (if (wrap64 ((wrap64 ((wrap64 (a1 - 1)) + a2)) - 1)) < (l0.length : Int) then (if 0 ≤ (wrap64 ((wrap64 ((wrap64 (a1 - 1)) + a2)) + 1)) then (if (wrap64 ((wrap64 ((wrap64 (a1 - 1)) + a2)) + 1)) < (l0.length : Int) then (if (rd l0 (wrap64 ((wrap64 ((wrap64 (a1 - 1)) + a2)) - 1))) < (rd l0 (wrap64 ((wrap64 ((wrap64 (a1 - 1)) + a2)) + 1))) then (if 0 ≤ (wrap64 (a1 + a2)) then (if (wrap64 (a1 + a2)) < (l0.length : Int) then (some (rd l0 (wrap64 (a1 + a2)))) else (none)) else (none)) else (if 0 ≤ (wrap64 ((wrap64 (a1 + a2)) - 2)) then (if (wrap64 ((wrap64 (a1 + a2)) - 2)) < (l0.length : Int) then (some (wrap64 ((rd l0 (wrap64 ((wrap64 (a1 + a2)) - 2))) + 1))) else (none)) else (none))) else (none)) else (none)) else (none)) else (none))))) = some r := h
 clear h
 by_cases c4 : a1 = 0
 ·rw [if_pos c4] at H
  have c4b0 : (a1 == 0) = true := beq_iff_eq.mpr c4
  have c4b1 : (a1 != 0) = false := bne_eq_false_iff_eq.mpr c4
  clear c4
  obtain rfl := Option.some.inj H
  go_enter Try.func61, Try.ntmps61
  go_wp2
  repeat (go_quiet (fail); try go_wp2)
  go_ret
  exact ⟨by first | rfl | (simp; done) | (simp [*]; done), by repeat (first | exact Drawn0.refl _ | apply Drawn0.step)⟩
 ·rw [if_neg c4] at H
  have c4b0 : (a1 == 0) = false := beq_eq_false_iff_ne.mpr c4
  have c4b1 : (a1 != 0) = true := bne_iff_ne.mpr c4
  by_cases c5 : a2 = (wrap64 (-a1))
  ·rw [if_pos c5] at H
   have c5b0 : (a2 == (wrap64 (-a1))) = true := beq_iff_eq.mpr c5
   have c5b1 : (a2 != (wrap64 (-a1))) = false := bne_eq_false_iff_eq.mpr c5
   clear c5
   obtain ⟨ji6, hji6⟩ : ∃ j_ : Int, (wrap64 (a1 + a2)) = j_ := ⟨_, rfl⟩
   replace H : (if 0 ≤ (ji6) then (if (ji6) < (l0.length : Int) then (some (rd l0 (ji6))) else (none)) else (none)) = some r := by first | (rw [hji6] at H; exact H) | (simp only [hji6] at H ⊢; exact H)
   have hji6w : (IntKind.i64.wrap (a1 + a2)) = ji6 := (i64_w _).trans hji6
   by_cases c7 : 0 ≤ (ji6)
   ·rw [if_pos c7] at H
    have c7b0 : decide (0 ≤ (ji6)) = true := decide_eq_true c7
    clear c7
    by_cases c8 : (ji6) < (l0.length : Int)
    ·rw [if_pos c8] at H
     have c8b0 : decide ((ji6) < (l0.length : Int)) = true := decide_eq_true c8
     clear c8
     obtain rfl := Option.some.inj H
     have p683 : 0 ≤ ((ji6) : Int) := of_decide_eq_true as_
     have q683 : (ji6) < (l0.length : Int) := of_decide_eq_true as_
     obtain ⟨ad683, e683, hx683_0⟩ := Kd.at_int HR0.out (ji6) p683 q683
     cases e683
     replace p683 := eq_true p683
     replace q683 := eq_true q683
     go_enter Try.func61, Try.ntmps61
     go_wp2
     repeat (go_quiet (fail); try go_wp2)
     go_ret
     exact ⟨by first | rfl | (simp; done) | (simp only [← hji6] <;> (first | rfl | simp)) | (simp [*]; done), by repeat (first | exact Drawn0.refl _ | apply Drawn0.step)⟩
    ·rw [if_neg c8] at H
     exact absurd H (by simp)
   ·rw [if_neg c7] at H
    exact absurd H (by simp)
  ·rw [if_neg c5] at H
   have c5b0 : (a2 == (wrap64 (-a1))) = false := beq_eq_false_iff_ne.mpr c5
   have c5b1 : (a2 != (wrap64 (-a1))) = true := bne_iff_ne.mpr c5
   by_cases c9 : a2 = a1
   ·rw [if_pos c9] at H
    have c9b0 : (a2 == a1) = true := beq_iff_eq.mpr c9
    have c9b1 : (a2 != a1) = false := bne_eq_false_iff_eq.mpr c9
    clear c9
    obtain ⟨ji10, hji10⟩ : ∃ j_ : Int, (wrap64 ((wrap64 (a1 + a2)) - 2)) = j_ := ⟨_, rfl⟩
    replace H : (if 0 ≤ (ji10) then (if (ji10) < (l0.length : Int) then (some (wrap64 ((rd l0 (ji10)) + 1))) else (none)) else (none)) = some r := by first | (rw [hji10] at H; exact H) | (simp only [hji10] at H ⊢; exact H)
    have hji10w : (IntKind.i64.wrap ((wrap64 (a1 + a2)) - 2)) = ji10 := (i64_w _).trans hji10
    by_cases c11 : 0 ≤ (ji10)
    ·rw [if_pos c11] at H
     have c11b0 : decide (0 ≤ (ji10)) = true := decide_eq_true c11
     clear c11
     by_cases c12 : (ji10) < (l0.length : Int)
     ·rw [if_pos c12] at H
      have c12b0 : decide ((ji10) < (l0.length : Int)) = true := decide_eq_true c12
      clear c12
      obtain rfl := Option.some.inj H
      have p684 : 0 ≤ ((ji10) : Int) := of_decide_eq_true as_
      have q684 : (ji10) < (l0.length : Int) := of_decide_eq_true as_
      obtain ⟨ad684, e684, hx684_0⟩ := Kd.at_int HR0.out (ji10) p684 q684
      cases e684
      replace p684 := eq_true p684
      replace q684 := eq_true q684
      go_enter Try.func61, Try.ntmps61
      go_wp2
      repeat (go_quiet (fail); try go_wp2)
      go_ret
      exact ⟨by first | rfl | (simp; done) | (simp only [← hji10] <;> (first | rfl | simp)) | (simp [*]; done), by repeat (first | exact Drawn0.refl _ | apply Drawn0.step)⟩
     ·rw [if_neg c12] at H
      exact absurd H (by simp)
    ·rw [if_neg c11] at H
     exact absurd H (by simp)
   ·rw [if_neg c9] at H
    have c9b0 : (a2 == a1) = false := beq_eq_false_iff_ne.mpr c9
    have c9b1 : (a2 != a1) = true := bne_iff_ne.mpr c9
    obtain ⟨ji13, hji13⟩ : ∃ j_ : Int, (wrap64 ((wrap64 ((wrap64 (a1 - 1)) + a2)) - 1)) = j_ := ⟨_, rfl⟩
    replace H : (if 0 ≤ (ji13) then (if (ji13) < (l0.length : Int) then (if 0 ≤ (wrap64 ((wrap64 ((wrap64 (a1 - 1)) + a2)) + 1)) then (if (wrap64 ((wrap64 ((wrap64 (a1 - 1)) + a2)) + 1)) < (l0.length : Int) then (if (rd l0 (ji13)) < (rd l0 (wrap64 ((wrap64 ((wrap64 (a1 - 1)) + a2)) + 1))) then (if 0 ≤ (wrap64 (a1 + a2)) then (if (wrap64 (a1 + a2)) < (l0.length : Int) then (some (rd l0 (wrap64 (a1 + a2)))) else (none)) else (none)) else (if 0 ≤ (wrap64 ((wrap64 (a1 + a2)) - 2)) then (if (wrap64 ((wrap64 (a1 + a2)) - 2)) < (l0.length : Int) then (some (wrap64 ((rd l0 (wrap64 ((wrap64 (a1 + a2)) - 2))) + 1))) else (none)) else (none))) else (none)) else (none)) else (none)) else (none)) = some r := by first | (rw [hji13] at H; exact H) | (simp only [hji13] at H ⊢; exact H)
    have hji13w : (IntKind.i64.wrap ((wrap64 ((wrap64 (a1 - 1)) + a2)) - 1)) = ji13 := (i64_w _).trans hji13
    by_cases c14 : 0 ≤ (ji13)
    ·rw [if_pos c14] at H
     have c14b0 : decide (0 ≤ (ji13)) = true := decide_eq_true c14
     clear c14
     by_cases c15 : (ji13) < (l0.length : Int)
     ·rw [if_pos c15] at H
      have c15b0 : decide ((ji13) < (l0.length : Int)) = true := decide_eq_true c15
      clear c15
      obtain ⟨ji16, hji16⟩ : ∃ j_ : Int, (wrap64 ((wrap64 ((wrap64 (a1 - 1)) + a2)) + 1)) = j_ := ⟨_, rfl⟩
      replace H : (if 0 ≤ (ji16) then (if (ji16) < (l0.length : Int) then (if (rd l0 (ji13)) < (rd l0 (ji16)) then (if 0 ≤ (wrap64 (a1 + a2)) then (if (wrap64 (a1 + a2)) < (l0.length : Int) then (some (rd l0 (wrap64 (a1 + a2)))) else (none)) else (none)) else (if 0 ≤ (wrap64 ((wrap64 (a1 + a2)) - 2)) then (if (wrap64 ((wrap64 (a1 + a2)) - 2)) < (l0.length : Int) then (some (wrap64 ((rd l0 (wrap64 ((wrap64 (a1 + a2)) - 2))) + 1))) else (none)) else (none))) else (none)) else (none)) = some r := by first | (rw [hji16] at H; exact H) | (simp only [hji16] at H ⊢; exact H)
      have hji16w : (IntKind.i64.wrap ((wrap64 ((wrap64 (a1 - 1)) + a2)) + 1)) = ji16 := (i64_w _).trans hji16
      by_cases c17 : 0 ≤ (ji16)
      ·rw [if_pos c17] at H
       have c17b0 : decide (0 ≤ (ji16)) = true := decide_eq_true c17
       clear c17
       by_cases c18 : (ji16) < (l0.length : Int)
       ·rw [if_pos c18] at H
        have c18b0 : decide ((ji16) < (l0.length : Int)) = true := decide_eq_true c18
        clear c18
        by_cases c19 : (rd l0 (ji13)) < (rd l0 (ji16))
        ·rw [if_pos c19] at H
         have c19b0 : decide ((rd l0 (ji13)) < (rd l0 (ji16))) = true := decide_eq_true c19
         clear c19
         obtain ⟨ji20, hji20⟩ : ∃ j_ : Int, (wrap64 (a1 + a2)) = j_ := ⟨_, rfl⟩
         replace H : (if 0 ≤ (ji20) then (if (ji20) < (l0.length : Int) then (some (rd l0 (ji20))) else (none)) else (none)) = some r := by first | (rw [hji20] at H; exact H) | (simp only [hji20] at H ⊢; exact H)
         have hji20w : (IntKind.i64.wrap (a1 + a2)) = ji20 := (i64_w _).trans hji20
         by_cases c21 : 0 ≤ (ji20)
         ·rw [if_pos c21] at H
          have c21b0 : decide (0 ≤ (ji20)) = true := decide_eq_true c21
          clear c21
          by_cases c22 : (ji20) < (l0.length : Int)
          ·rw [if_pos c22] at H
           have c22b0 : decide ((ji20) < (l0.length : Int)) = true := decide_eq_true c22
           clear c22
           obtain rfl := Option.some.inj H
           have p685 : 0 ≤ ((ji13) : Int) := of_decide_eq_true as_
           have q685 : (ji13) < (l0.length : Int) := of_decide_eq_true as_
           obtain ⟨ad685, e685, hx685_0⟩ := Kd.at_int HR0.out (ji13) p685 q685
           cases e685
           replace p685 := eq_true p685
           replace q685 := eq_true q685
           have p686 : 0 ≤ ((ji16) : Int) := of_decide_eq_true as_
           have q686 : (ji16) < (l0.length : Int) := of_decide_eq_true as_
           obtain ⟨ad686, e686, hx686_0⟩ := Kd.at_int HR0.out (ji16) p686 q686
           obtain rfl : ad685 = ad686 := (by injection e686)
           replace p686 := eq_true p686
           replace q686 := eq_true q686
           have p687 : 0 ≤ ((ji20) : Int) := of_decide_eq_true as_
           have q687 : (ji20) < (l0.length : Int) := of_decide_eq_true as_
           obtain ⟨ad687, e687, hx687_0⟩ := Kd.at_int HR0.out (ji20) p687 q687
           obtain rfl : ad685 = ad687 := (by injection e687)
           replace p687 := eq_true p687
           replace q687 := eq_true q687
           go_enter Try.func61, Try.ntmps61
           go_wp2
           repeat (go_quiet (fail); try go_wp2)
           go_ret
           exact ⟨by first | rfl | (simp; done) | (simp only [← hji13, ← hji16, ← hji20] <;> (first | rfl | simp)) | (simp [*]; done), by repeat (first | exact Drawn0.refl _ | apply Drawn0.step)⟩
          ·rw [if_neg c22] at H
           exact absurd H (by simp)
         ·rw [if_neg c21] at H
          exact absurd H (by simp)
        ·rw [if_neg c19] at H
         have c19b0 : decide ((rd l0 (ji13)) < (rd l0 (ji16))) = false := decide_eq_false c19
         clear c19
         obtain ⟨ji23, hji23⟩ : ∃ j_ : Int, (wrap64 ((wrap64 (a1 + a2)) - 2)) = j_ := ⟨_, rfl⟩
         replace H : (if 0 ≤ (ji23) then (if (ji23) < (l0.length : Int) then (some (wrap64 ((rd l0 (ji23)) + 1))) else (none)) else (none)) = some r := by first | (rw [hji23] at H; exact H) | (simp only [hji23] at H ⊢; exact H)
         have hji23w : (IntKind.i64.wrap ((wrap64 (a1 + a2)) - 2)) = ji23 := (i64_w _).trans hji23
         by_cases c24 : 0 ≤ (ji23)
         ·rw [if_pos c24] at H
          have c24b0 : decide (0 ≤ (ji23)) = true := decide_eq_true c24
          clear c24
          by_cases c25 : (ji23) < (l0.length : Int)
          ·rw [if_pos c25] at H
           have c25b0 : decide ((ji23) < (l0.length : Int)) = true := decide_eq_true c25
           clear c25
           obtain rfl := Option.some.inj H
           have p685 : 0 ≤ ((ji13) : Int) := of_decide_eq_true as_
           have q685 : (ji13) < (l0.length : Int) := of_decide_eq_true as_
           obtain ⟨ad685, e685, hx685_0⟩ := Kd.at_int HR0.out (ji13) p685 q685
           cases e685
           replace p685 := eq_true p685
           replace q685 := eq_true q685
           have p686 : 0 ≤ ((ji16) : Int) := of_decide_eq_true as_
           have q686 : (ji16) < (l0.length : Int) := of_decide_eq_true as_
           obtain ⟨ad686, e686, hx686_0⟩ := Kd.at_int HR0.out (ji16) p686 q686
           obtain rfl : ad685 = ad686 := (by injection e686)
           replace p686 := eq_true p686
           replace q686 := eq_true q686
           have p688 : 0 ≤ ((ji23) : Int) := of_decide_eq_true as_
           have q688 : (ji23) < (l0.length : Int) := of_decide_eq_true as_
           obtain ⟨ad688, e688, hx688_0⟩ := Kd.at_int HR0.out (ji23) p688 q688
           obtain rfl : ad685 = ad688 := (by injection e688)
           replace p688 := eq_true p688
           replace q688 := eq_true q688
           go_enter Try.func61, Try.ntmps61
           go_wp2
           repeat (go_quiet (fail); try go_wp2)
           go_ret
           exact ⟨by first | rfl | (simp; done) | (simp only [← hji13, ← hji16, ← hji23] <;> (first | rfl | simp)) | (simp [*]; done), by repeat (first | exact Drawn0.refl _ | apply Drawn0.step)⟩
          ·rw [if_neg c25] at H
           exact absurd H (by simp)
         ·rw [if_neg c24] at H
          exact absurd H (by simp)
       ·rw [if_neg c18] at H
        exact absurd H (by simp)
      ·rw [if_neg c17] at H
       exact absurd H (by simp)
     ·rw [if_neg c15] at H
      exact absurd H (by simp)
    ·rw [if_neg c14] at H
     exact absurd H (by simp)

end Go.Proofs.Ytgobidmfbjmpkaa.P
