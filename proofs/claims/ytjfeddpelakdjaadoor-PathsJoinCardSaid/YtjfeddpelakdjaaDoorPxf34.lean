/- Laid for this claim by hp.py, this session's program round the kit's print: functions of the program as plain Lean functions, the proofs that the code comes to their answers, and the rows of the laws. Not trusted: Lean checks it. -/
import Derived.Test.YtjfeddpelakdjaaDoorPx0
namespace Go.Proofs.YtjfeddpelakdjaaDoor.P
open Go.RowKit Go.Proofs.YtjfeddpelakdjaaDoorW.PrintWords Go.Proofs.YtjfeddpelakdjaaDoorW.PrintLast Go.Proofs.YtjfeddpelakdjaaDoorW.PrintMore
attribute [local go_sem] max2_int min2_int max_two min_two max_three min_three max_four min_four   -- for this text's walks alone
set_option linter.unusedVariables false
set_option linter.unusedSimpArgs false

/-! ### paths_rank: function 34 -/
def paths_rank.f (a0 : ByteArray) (a1 : Int) : Option (Int) := if a1 ≥ (a0.size : Int) then (some 0) else (if 0 ≤ a1 then (if a1 < (a0.size : Int) then (if 0 < 1 then (if (bt a0 a1) = (bt (⟨#[47]⟩ : ByteArray) 0) then (some 1) else (some (wrap64 (2 + (wrap64 (bt a0 a1)))))) else (none)) else (none)) else (none))
set_option maxHeartbeats 8000000 in
set_option maxRecDepth 100000 in
theorem paths_rank.calls (a0 : ByteArray) (a1 : Int) (r : Int) (w : World) (h : paths_rank.f a0 a1 = some r) :
  Calls Tryd.prog 34 #[.string a0, .int .i64 a1] w fun e w' => e = .returned (.int .i64 r) ∧ Drawn0 w w' := by
 have H : (if a1 ≥ (a0.size : Int) then (some 0) else (if 0 ≤ a1 then (if a1 < (a0.size : Int) then (if 0 < 1 then (if (bt a0 a1) = (bt (⟨#[47]⟩ : ByteArray) 0) then (some 1) else (some (wrap64 (2 + (wrap64 (bt a0 a1)))))) else (none)) else (none)) else (none))) = some r := h
 clear h
 by_cases c3 : a1 ≥ (a0.size : Int)
 ·rw [if_pos c3] at H
  have c3b0 : decide ((a0.size : Int) ≤ a1) = true := decide_eq_true c3
  clear c3
  obtain rfl := Option.some.inj H
  go_enter Tryd.func34, Tryd.ntmps34
  go_wp2
  repeat (go_quiet (fail); try go_wp2)
  go_ret
  exact ⟨by first | rfl | (simp; done) | (simp [*]; done), by repeat (first | exact Drawn0.refl _ | apply Drawn0.step)⟩
 ·rw [if_neg c3] at H
  have c3b0 : decide ((a0.size : Int) ≤ a1) = false := decide_eq_false c3
  clear c3
  by_cases c4 : 0 ≤ a1
  ·rw [if_pos c4] at H
   have c4b0 : decide (0 ≤ a1) = true := decide_eq_true c4
   clear c4
   by_cases c5 : a1 < (a0.size : Int)
   ·rw [if_pos c5] at H
    have c5b0 : decide (a1 < (a0.size : Int)) = true := decide_eq_true c5
    clear c5
    by_cases c7 : 0 < 1
    ·rw [if_pos c7] at H
     have c7b0 : decide (0 < 1) = true := decide_eq_true c7
     clear c7
     by_cases c9 : (bt a0 a1) = (bt (⟨#[47]⟩ : ByteArray) 0)
     ·rw [if_pos c9] at H
      have c9b0 : ((bt a0 a1) == (bt (⟨#[47]⟩ : ByteArray) 0)) = true := beq_iff_eq.mpr c9
      have c9b1 : ((bt a0 a1) != (bt (⟨#[47]⟩ : ByteArray) 0)) = false := bne_eq_false_iff_eq.mpr c9
      clear c9
      obtain rfl := Option.some.inj H
      have p6 : 0 ≤ (a1 : Int) := of_decide_eq_true (by first | (with_reducible assumption) | assumption)
      have q6 : a1 < (a0.size : Int) := of_decide_eq_true (by first | (with_reducible assumption) | assumption)
      have hx6 := bt_at a0 a1
      replace p6 := eq_true p6
      replace q6 := eq_true q6
      have p8 : 0 ≤ (0 : Int) := (by omega)
      have q8 : 0 < (1 : Int) := (by omega)
      have hx8 : ∀ h : 0 < (⟨#[47]⟩ : ByteArray).size, (((⟨#[47]⟩ : ByteArray)[0]'h).toNat : Int) = bt (⟨#[47]⟩ : ByteArray) 0 := bt_at (⟨#[47]⟩ : ByteArray) 0
      replace p8 := eq_true p8
      replace q8 := eq_true q8
      go_enter Tryd.func34, Tryd.ntmps34
      go_wp2
      repeat (go_quiet (fail); try go_wp2)
      go_ret
      exact ⟨by first | rfl | (simp; done) | (simp [*]; done), by repeat (first | exact Drawn0.refl _ | apply Drawn0.step)⟩
     ·rw [if_neg c9] at H
      have c9b0 : ((bt a0 a1) == (bt (⟨#[47]⟩ : ByteArray) 0)) = false := beq_eq_false_iff_ne.mpr c9
      have c9b1 : ((bt a0 a1) != (bt (⟨#[47]⟩ : ByteArray) 0)) = true := bne_iff_ne.mpr c9
      obtain rfl := Option.some.inj H
      have p6 : 0 ≤ (a1 : Int) := of_decide_eq_true (by first | (with_reducible assumption) | assumption)
      have q6 : a1 < (a0.size : Int) := of_decide_eq_true (by first | (with_reducible assumption) | assumption)
      have hx6 := bt_at a0 a1
      replace p6 := eq_true p6
      replace q6 := eq_true q6
      have p8 : 0 ≤ (0 : Int) := (by omega)
      have q8 : 0 < (1 : Int) := (by omega)
      have hx8 : ∀ h : 0 < (⟨#[47]⟩ : ByteArray).size, (((⟨#[47]⟩ : ByteArray)[0]'h).toNat : Int) = bt (⟨#[47]⟩ : ByteArray) 0 := bt_at (⟨#[47]⟩ : ByteArray) 0
      replace p8 := eq_true p8
      replace q8 := eq_true q8
      have p10 : 0 ≤ (a1 : Int) := of_decide_eq_true (by first | (with_reducible assumption) | assumption)
      have q10 : a1 < (a0.size : Int) := of_decide_eq_true (by first | (with_reducible assumption) | assumption)
      have hx10 := bt_at a0 a1
      replace p10 := eq_true p10
      replace q10 := eq_true q10
      go_enter Tryd.func34, Tryd.ntmps34
      go_wp2
      repeat (go_quiet (fail); try go_wp2)
      go_ret
      exact ⟨by first | rfl | (simp; done) | (simp [*]; done), by repeat (first | exact Drawn0.refl _ | apply Drawn0.step)⟩
    ·rw [if_neg c7] at H
     exact absurd H (by simp)
   ·rw [if_neg c5] at H
    exact absurd H (by simp)
  ·rw [if_neg c4] at H
   exact absurd H (by simp)

end Go.Proofs.YtjfeddpelakdjaaDoor.P
