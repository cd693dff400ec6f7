/- Laid for this claim by hp.py, this session's program round the kit's print: functions of the program as plain Lean functions, the proofs that the code comes to their answers, and the rows of the laws. Not trusted: Lean checks it. -/
import Derived.Test.YthplelgkneipjaaPx0
import Derived.Test.YthplelgkneipjaaPxf20
namespace Go.Proofs.Ythplelgkneipjaa.P
open Go.RowKit Go.Proofs.YthplelgkneipjaaW.PrintWords Go.Proofs.YthplelgkneipjaaW.PrintLast Go.Proofs.YthplelgkneipjaaW.PrintMore
attribute [local go_sem] max2_int min2_int max_two min_two max_three min_three max_four min_four   -- for this text's walks alone
set_option linter.unusedVariables false
set_option linter.unusedSimpArgs false

/-! ### collatorref07_Score: function 22 -/
def collatorref07_Score.f (k : Nat) (l0 : List ByteArray) (l1 : List ByteArray) : Option (Int) := if (l0.length : Int) = 0 then (if (l1.length : Int) = 0 then (some 100) else ((collatorref07_Common.f k l0 l1).bind fun t142 => (if (wrap64 ((l0.length : Int) + (l1.length : Int))) = 0 then (none) else (some (wrap64 (Int.tdiv (wrap64 (200 * t142)) (wrap64 ((l0.length : Int) + (l1.length : Int))))))))) else ((collatorref07_Common.f k l0 l1).bind fun t143 => (if (wrap64 ((l0.length : Int) + (l1.length : Int))) = 0 then (none) else (some (wrap64 (Int.tdiv (wrap64 (200 * t143)) (wrap64 ((l0.length : Int) + (l1.length : Int))))))))
theorem collatorref07_Score.mono : ∀ a0 a1 k, LeO (collatorref07_Score.f k a0 a1) (collatorref07_Score.f (k + 1) a0 a1) := by
 intro a0 a1 k
 unfold collatorref07_Score.f
 repeat' first
   | (with_reducible exact collatorref07_Common.mono _ _ _)
   | (with_reducible exact LeO.refl _)
   | (with_reducible exact LeO.none _)
   | (with_reducible refine LeO.ite ?_ ?_)
   | (with_reducible refine LeO.bind ?_ (fun _ => ?_))
   | exact collatorref07_Common.mono _ _ _
   | exact LeO.none _
   | refine LeO.ite ?_ ?_
   | refine LeO.bind ?_ (fun _ => ?_)
set_option maxHeartbeats 8000000 in
set_option maxRecDepth 100000 in
theorem collatorref07_Score.calls (k : Nat) (A0 : Option Addr) (c0 : Nat) (l0 : List ByteArray) (A1 : Option Addr) (c1 : Nat) (l1 : List ByteArray) (r : Int) (w : World) (hr0 : Kd.C Kd.string w A0 l0.length l0) (hc0 : l0.length ≤ c0) (hr1 : Kd.C Kd.string w A1 l1.length l1) (hc1 : l1.length ≤ c1) (h : collatorref07_Score.f k l0 l1 = some r) :
  Calls Try.prog 22 #[.slice A0 l0.length c0, .slice A1 l1.length c1] w fun e w' => e = .returned (.int .i64 r) ∧ Drawn0 w w' := by
 have HR0 := Aside0.mk hr0
 have HC0 := Aside0.mk hc0
 clear hr0 hc0
 have HR1 := Aside0.mk hr1
 have HC1 := Aside0.mk hc1
 clear hr1 hc1
 have H : (if (l0.length : Int) = 0 then (if (l1.length : Int) = 0 then (some 100) else ((collatorref07_Common.f k l0 l1).bind fun t142 => (if (wrap64 ((l0.length : Int) + (l1.length : Int))) = 0 then (none) else (some (wrap64 (Int.tdiv (wrap64 (200 * t142)) (wrap64 ((l0.length : Int) + (l1.length : Int))))))))) else ((collatorref07_Common.f k l0 l1).bind fun t143 => (if (wrap64 ((l0.length : Int) + (l1.length : Int))) = 0 then (none) else (some (wrap64 (Int.tdiv (wrap64 (200 * t143)) (wrap64 ((l0.length : Int) + (l1.length : Int))))))))) = some r := h
 clear h
 by_cases c3 : (l0.length : Int) = 0
 ·rw [if_pos c3] at H
  have c3b0 : ((l0.length : Int) == 0) = true := beq_iff_eq.mpr c3
  have c3b1 : ((l0.length : Int) != 0) = false := bne_eq_false_iff_eq.mpr c3
  clear c3
  by_cases c4 : (l1.length : Int) = 0
  ·rw [if_pos c4] at H
   have c4b0 : ((l1.length : Int) == 0) = true := beq_iff_eq.mpr c4
   have c4b1 : ((l1.length : Int) != 0) = false := bne_eq_false_iff_eq.mpr c4
   clear c4
   obtain rfl := Option.some.inj H
   go_enter Try.func22, Try.ntmps22
   go_wp2
   go_ret
   exact ⟨by first | rfl | (simp; done) | (simp [*]; done), by repeat (first | exact Drawn0.refl _ | apply Drawn0.step)⟩
  ·rw [if_neg c4] at H
   have c4b0 : ((l1.length : Int) == 0) = false := beq_eq_false_iff_ne.mpr c4
   have c4b1 : ((l1.length : Int) != 0) = true := bne_iff_ne.mpr c4
   have c4b2 : ¬ (l1 = []) := fun h_ => c4 (by rw [h_]; rfl)
   replace H := Option.bind_eq_some_iff.mp H
   obtain ⟨t142, A50, H⟩ := H
   replace H : (if (wrap64 ((l0.length : Int) + (l1.length : Int))) = 0 then (none) else (some (wrap64 (Int.tdiv (wrap64 (200 * t142)) (wrap64 ((l0.length : Int) + (l1.length : Int))))))) = some r := H
   have A5 := Aside0.mk A50
   clear A50
   by_cases c6 : (wrap64 ((l0.length : Int) + (l1.length : Int))) = 0
   ·rw [if_pos c6] at H
    exact absurd H (by simp)
   ·rw [if_neg c6] at H
    have c6b0 : ((wrap64 ((l0.length : Int) + (l1.length : Int))) == 0) = false := beq_eq_false_iff_ne.mpr c6
    have c6b1 : ((wrap64 ((l0.length : Int) + (l1.length : Int))) != 0) = true := bne_iff_ne.mpr c6
    obtain rfl := Option.some.inj H
    go_enter Try.func22, Try.ntmps22
    go_wp2_with (first | ((with_reducible refine gate_callee (f := 20) rfl ?_); refine goesL_ (some 15) rfl rfl Try.func20 (by kernel_rfl) rfl #[.slice A0 l0.length c0, .slice A1 l1.length c1] rfl (by (try simp only [List.map_toArray, List.map_cons, List.map_nil]); first | done | rfl | (simp only [List.length_drop, List.length_take]; rfl)) ?_; (with_reducible refine (collatorref07_Common.calls k _ _ l0 _ _ l1 t142 _ ?side1 ?side2 ?side3 ?side4 A5.out).mono ?_); (case side1 => repeat (first | exact HR0.out | (with_reducible refine Kd.C_alloc ?_ _) | (with_reducible refine Kd.C_drewN ?_ _) | (with_reducible refine Kd.C_drew ?_))); (case side2 => exact HC0.out); (case side3 => repeat (first | exact HR1.out | (with_reducible refine Kd.C_alloc ?_ _) | (with_reducible refine Kd.C_drewN ?_ _) | (with_reducible refine Kd.C_drew ?_))); (case side4 => exact HC1.out); rintro e w' ⟨rfl, ⟨nd, rfl⟩⟩; refine ⟨_, rfl, ?_⟩))
    go_ret
    exact ⟨by first | rfl | (simp; done) | (simp [*]; done), by repeat (first | exact Drawn0.refl _ | apply Drawn0.step)⟩
 ·rw [if_neg c3] at H
  have c3b0 : ((l0.length : Int) == 0) = false := beq_eq_false_iff_ne.mpr c3
  have c3b1 : ((l0.length : Int) != 0) = true := bne_iff_ne.mpr c3
  have c3b2 : ¬ (l0 = []) := fun h_ => c3 (by rw [h_]; rfl)
  replace H := Option.bind_eq_some_iff.mp H
  obtain ⟨t143, A70, H⟩ := H
  replace H : (if (wrap64 ((l0.length : Int) + (l1.length : Int))) = 0 then (none) else (some (wrap64 (Int.tdiv (wrap64 (200 * t143)) (wrap64 ((l0.length : Int) + (l1.length : Int))))))) = some r := H
  have A7 := Aside0.mk A70
  clear A70
  by_cases c8 : (wrap64 ((l0.length : Int) + (l1.length : Int))) = 0
  ·rw [if_pos c8] at H
   exact absurd H (by simp)
  ·rw [if_neg c8] at H
   have c8b0 : ((wrap64 ((l0.length : Int) + (l1.length : Int))) == 0) = false := beq_eq_false_iff_ne.mpr c8
   have c8b1 : ((wrap64 ((l0.length : Int) + (l1.length : Int))) != 0) = true := bne_iff_ne.mpr c8
   obtain rfl := Option.some.inj H
   go_enter Try.func22, Try.ntmps22
   go_wp2_with (first | ((with_reducible refine gate_callee (f := 20) rfl ?_); refine goesL_ (some 15) rfl rfl Try.func20 (by kernel_rfl) rfl #[.slice A0 l0.length c0, .slice A1 l1.length c1] rfl (by (try simp only [List.map_toArray, List.map_cons, List.map_nil]); first | done | rfl | (simp only [List.length_drop, List.length_take]; rfl)) ?_; (with_reducible refine (collatorref07_Common.calls k _ _ l0 _ _ l1 t143 _ ?side1 ?side2 ?side3 ?side4 A7.out).mono ?_); (case side1 => repeat (first | exact HR0.out | (with_reducible refine Kd.C_alloc ?_ _) | (with_reducible refine Kd.C_drewN ?_ _) | (with_reducible refine Kd.C_drew ?_))); (case side2 => exact HC0.out); (case side3 => repeat (first | exact HR1.out | (with_reducible refine Kd.C_alloc ?_ _) | (with_reducible refine Kd.C_drewN ?_ _) | (with_reducible refine Kd.C_drew ?_))); (case side4 => exact HC1.out); rintro e w' ⟨rfl, ⟨nd, rfl⟩⟩; refine ⟨_, rfl, ?_⟩))
   go_ret
   exact ⟨by first | rfl | (simp; done) | (simp [*]; done), by repeat (first | exact Drawn0.refl _ | apply Drawn0.step)⟩

end Go.Proofs.Ythplelgkneipjaa.P
