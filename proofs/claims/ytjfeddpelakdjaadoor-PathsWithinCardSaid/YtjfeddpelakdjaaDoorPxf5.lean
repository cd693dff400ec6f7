/- Laid for this claim by hp.py, this session's program round the kit's print: functions of the program as plain Lean functions, the proofs that the code comes to their answers, and the rows of the laws. Not trusted: Lean checks it. -/
import Derived.Test.YtjfeddpelakdjaaDoorHMin
import Derived.Test.YtjfeddpelakdjaaDoorPx0
import Derived.Test.YtjfeddpelakdjaaDoorPxf21
import Derived.Test.YtjfeddpelakdjaaDoorPxf23
import Derived.Test.YtjfeddpelakdjaaDoorPxf25
import Derived.Test.YtjfeddpelakdjaaDoorPxf10
import Derived.Test.YtjfeddpelakdjaaDoorPxf11
namespace Go.Proofs.YtjfeddpelakdjaaDoor.P
open Go.RowKit Go.Proofs.YtjfeddpelakdjaaDoorW.PrintWords Go.Proofs.YtjfeddpelakdjaaDoorW.PrintLast Go.Proofs.YtjfeddpelakdjaaDoorW.PrintMore
attribute [local go_sem] Go.Proofs.YtjfeddpelakdjaaDoor.HMin.max2_mx Go.Proofs.YtjfeddpelakdjaaDoor.HMin.min2_mn max_two min_two max_three min_three max_four min_four   -- for this text's walks alone
set_option linter.unusedVariables false
set_option linter.unusedSimpArgs false

/-! ### collatorlaw01_PathsWithin: function 5 -/
mutual
def collatorlaw01_PathsWithin.j0 : Nat → ByteArray → ByteArray → ByteArray → Bool → ByteArray → Option (Bool)
 | 0, _, _, _, _, _ => none
 | k + 1, x1, x2, x3, x11, x12 => if 0 ≤ (mn (x1.size : Int) 100) then (if (mn (x1.size : Int) 100) ≤ (x1.size : Int) then ((paths_Join.f x12 (x1.extract 0 ((mn (x1.size : Int) 100) : Int).toNat)).bind fun t227 => (if 0 ≤ (mn (x2.size : Int) 100) then (if (mn (x2.size : Int) 100) ≤ (x2.size : Int) then ((paths_Join.f x12 (x2.extract 0 ((mn (x2.size : Int) 100) : Int).toNat)).bind fun t228 => (if 0 ≤ (mn (x3.size : Int) 100) then (if (mn (x3.size : Int) 100) ≤ (x3.size : Int) then (if x12.toList = ([] : List UInt8) then (if x11 = true then ((paths_Within.f x12 (x3.extract 0 ((mn (x3.size : Int) 100) : Int).toNat)).bind fun t229 => (some (t229 == ((x3.extract 0 ((mn (x3.size : Int) 100) : Int).toNat).toList != ([] : List UInt8))))) else (some false)) else ((paths_Within.f x12 t227).bind fun t230 => (if t230 = true then ((paths_Within.f x12 t228).bind fun t231 => (if t231 = true then ((paths_Compare.f k x12 t227).bind fun t232 => (collatorlaw01_PathsWithin.j1 k x11 x12 t227 t228 (x3.extract 0 ((mn (x3.size : Int) 100) : Int).toNat) (t232 != (-1)))) else (collatorlaw01_PathsWithin.j1 k x11 x12 t227 t228 (x3.extract 0 ((mn (x3.size : Int) 100) : Int).toNat) true))) else (collatorlaw01_PathsWithin.j1 k x11 x12 t227 t228 (x3.extract 0 ((mn (x3.size : Int) 100) : Int).toNat) true)))) else (none)) else (none))) else (none)) else (none))) else (none)) else (none)
def collatorlaw01_PathsWithin.j1 : Nat → Bool → ByteArray → ByteArray → ByteArray → ByteArray → Bool → Option (Bool)
 | 0, _, _, _, _, _, _ => none
 | k + 1, x11, x12, x13, x14, x15, x72 => if x72 = true then (some false) else ((paths_Compare.f k x13 x15).bind fun t233 => (if t233 ≤ 0 then ((paths_Compare.f k x15 x14).bind fun t234 => (if t234 ≤ 0 then ((paths_Within.f x12 x15).bind fun t235 => (collatorlaw01_PathsWithin.j2 k x11 x12 x13 x15 (!t235))) else (collatorlaw01_PathsWithin.j2 k x11 x12 x13 x15 false))) else (collatorlaw01_PathsWithin.j2 k x11 x12 x13 x15 false)))
def collatorlaw01_PathsWithin.j2 : Nat → Bool → ByteArray → ByteArray → ByteArray → Bool → Option (Bool)
 | 0, _, _, _, _, _ => none
 | k + 1, x11, x12, x13, x15, x88 => if x88 = true then (some false) else (if x11 = true then ((paths_Within.f x12 x15).bind fun t236 => (if t236 = true then ((paths_Join.f x15 (⟨#[113]⟩ : ByteArray)).bind fun t237 => ((paths_Within.f x12 t237).bind fun t238 => (if t238 = true then ((paths_Within.f x13 x15).bind fun t239 => (if t239 = true then ((paths_Within.f x15 x15).bind fun t240 => (some (!t240))) else ((paths_Within.f x15 x15).bind fun t241 => (some (!t241))))) else (some false)))) else ((paths_Within.f x13 x15).bind fun t242 => (if t242 = true then (some false) else ((paths_Within.f x15 x15).bind fun t243 => (some (!t243))))))) else (some false))
end
def collatorlaw01_PathsWithin.f (k : Nat) (a0 : ByteArray) (a1 : ByteArray) (a2 : ByteArray) (a3 : ByteArray) (l4 : List Int) : Option (Bool) := (collatorlaw01_awake.f k).bind fun t225 => (if 0 ≤ (mn (a0.size : Int) 100) then (if (mn (a0.size : Int) 100) ≤ (a0.size : Int) then (if (l4.length : Int) > 0 then ((collatorlaw01_Path.f k l4).bind fun t226 => (collatorlaw01_PathsWithin.j0 k a1 a2 a3 t225 t226)) else (collatorlaw01_PathsWithin.j0 k a1 a2 a3 t225 (a0.extract 0 ((mn (a0.size : Int) 100) : Int).toNat))) else (none)) else (none))
theorem collatorlaw01_PathsWithin.mono_l : ∀ k, (∀ y0 y1 y2 y3 y4, LeO (collatorlaw01_PathsWithin.j0 k y0 y1 y2 y3 y4) (collatorlaw01_PathsWithin.j0 (k + 1) y0 y1 y2 y3 y4)) ∧ (∀ y0 y1 y2 y3 y4 y5, LeO (collatorlaw01_PathsWithin.j1 k y0 y1 y2 y3 y4 y5) (collatorlaw01_PathsWithin.j1 (k + 1) y0 y1 y2 y3 y4 y5)) ∧ (∀ y0 y1 y2 y3 y4, LeO (collatorlaw01_PathsWithin.j2 k y0 y1 y2 y3 y4) (collatorlaw01_PathsWithin.j2 (k + 1) y0 y1 y2 y3 y4))
 | 0 => ⟨fun _ _ _ _ _ r h => by simp [collatorlaw01_PathsWithin.j0] at h, fun _ _ _ _ _ _ r h => by simp [collatorlaw01_PathsWithin.j1] at h, fun _ _ _ _ _ r h => by simp [collatorlaw01_PathsWithin.j2] at h⟩
 | k + 1 => by
  obtain ⟨ih0, ih1, ih2⟩ := collatorlaw01_PathsWithin.mono_l k
  refine ⟨?_, ?_, ?_⟩
  ·intro y0 y1 y2 y3 y4
   unfold collatorlaw01_PathsWithin.j0
   repeat' first
   | (with_reducible exact ih0 _ _ _ _ _)
   | (with_reducible exact ih1 _ _ _ _ _ _)
   | (with_reducible exact ih2 _ _ _ _ _)
   | (with_reducible exact collatorlaw01_Path.mono _ _)
   | (with_reducible exact collatorlaw01_awake.mono _)
   | (with_reducible exact paths_Compare.mono _ _ _)
   | (with_reducible exact LeO.refl _)
   | (with_reducible exact LeO.none _)
   | (with_reducible refine LeO.ite ?_ ?_)
   | (with_reducible refine LeO.bind ?_ (fun _ => ?_))
   | exact ih0 _ _ _ _ _
   | exact ih1 _ _ _ _ _ _
   | exact ih2 _ _ _ _ _
   | exact collatorlaw01_Path.mono _ _
   | exact collatorlaw01_awake.mono _
   | exact paths_Compare.mono _ _ _
   | exact LeO.none _
   | refine LeO.ite ?_ ?_
   | refine LeO.bind ?_ (fun _ => ?_)
  ·intro y0 y1 y2 y3 y4 y5
   unfold collatorlaw01_PathsWithin.j1
   repeat' first
   | (with_reducible exact ih0 _ _ _ _ _)
   | (with_reducible exact ih1 _ _ _ _ _ _)
   | (with_reducible exact ih2 _ _ _ _ _)
   | (with_reducible exact collatorlaw01_Path.mono _ _)
   | (with_reducible exact collatorlaw01_awake.mono _)
   | (with_reducible exact paths_Compare.mono _ _ _)
   | (with_reducible exact LeO.refl _)
   | (with_reducible exact LeO.none _)
   | (with_reducible refine LeO.ite ?_ ?_)
   | (with_reducible refine LeO.bind ?_ (fun _ => ?_))
   | exact ih0 _ _ _ _ _
   | exact ih1 _ _ _ _ _ _
   | exact ih2 _ _ _ _ _
   | exact collatorlaw01_Path.mono _ _
   | exact collatorlaw01_awake.mono _
   | exact paths_Compare.mono _ _ _
   | exact LeO.none _
   | refine LeO.ite ?_ ?_
   | refine LeO.bind ?_ (fun _ => ?_)
  ·intro y0 y1 y2 y3 y4
   unfold collatorlaw01_PathsWithin.j2
   repeat' first
   | (with_reducible exact ih0 _ _ _ _ _)
   | (with_reducible exact ih1 _ _ _ _ _ _)
   | (with_reducible exact ih2 _ _ _ _ _)
   | (with_reducible exact collatorlaw01_Path.mono _ _)
   | (with_reducible exact collatorlaw01_awake.mono _)
   | (with_reducible exact paths_Compare.mono _ _ _)
   | (with_reducible exact LeO.refl _)
   | (with_reducible exact LeO.none _)
   | (with_reducible refine LeO.ite ?_ ?_)
   | (with_reducible refine LeO.bind ?_ (fun _ => ?_))
   | exact ih0 _ _ _ _ _
   | exact ih1 _ _ _ _ _ _
   | exact ih2 _ _ _ _ _
   | exact collatorlaw01_Path.mono _ _
   | exact collatorlaw01_awake.mono _
   | exact paths_Compare.mono _ _ _
   | exact LeO.none _
   | refine LeO.ite ?_ ?_
   | refine LeO.bind ?_ (fun _ => ?_)
theorem collatorlaw01_PathsWithin.mono : ∀ a0 a1 a2 a3 a4 k, LeO (collatorlaw01_PathsWithin.f k a0 a1 a2 a3 a4) (collatorlaw01_PathsWithin.f (k + 1) a0 a1 a2 a3 a4) := by
 intro a0 a1 a2 a3 a4 k
 obtain ⟨ih0, ih1, ih2⟩ := collatorlaw01_PathsWithin.mono_l k
 unfold collatorlaw01_PathsWithin.f
 repeat' first
   | (with_reducible exact ih0 _ _ _ _ _)
   | (with_reducible exact ih1 _ _ _ _ _ _)
   | (with_reducible exact ih2 _ _ _ _ _)
   | (with_reducible exact collatorlaw01_Path.mono _ _)
   | (with_reducible exact collatorlaw01_awake.mono _)
   | (with_reducible exact paths_Compare.mono _ _ _)
   | (with_reducible exact LeO.refl _)
   | (with_reducible exact LeO.none _)
   | (with_reducible refine LeO.ite ?_ ?_)
   | (with_reducible refine LeO.bind ?_ (fun _ => ?_))
   | exact ih0 _ _ _ _ _
   | exact ih1 _ _ _ _ _ _
   | exact ih2 _ _ _ _ _
   | exact collatorlaw01_Path.mono _ _
   | exact collatorlaw01_awake.mono _
   | exact paths_Compare.mono _ _ _
   | exact LeO.none _
   | refine LeO.ite ?_ ?_
   | refine LeO.bind ?_ (fun _ => ?_)
set_option maxHeartbeats 8000000 in
set_option maxRecDepth 100000 in
theorem collatorlaw01_PathsWithin.calls (k : Nat) (a0 : ByteArray) (a1 : ByteArray) (a2 : ByteArray) (a3 : ByteArray) (A4 : Option Addr) (c4 : Nat) (l4 : List Int) (r : Bool) (w : World) (hr4 : Kd.C (Kd.int .i64) w A4 l4.length l4) (hc4 : l4.length ≤ c4) (h : collatorlaw01_PathsWithin.f k a0 a1 a2 a3 l4 = some r) :
  Calls Tryd.prog 5 #[.string a0, .string a1, .string a2, .string a3, .slice A4 l4.length c4] w fun e w' => e = .returned (.bool r) ∧ Below w.heap.size w w' := by
 have HR4 := Aside0.mk hr4
 have HC4 := Aside0.mk hc4
 clear hr4 hc4
 have HB := Aside0.mk (Below.refl w.heap.size w)
 have H : ((collatorlaw01_awake.f k).bind fun t225 => (if 0 ≤ (mn (a0.size : Int) 100) then (if (mn (a0.size : Int) 100) ≤ (a0.size : Int) then (if (l4.length : Int) > 0 then ((collatorlaw01_Path.f k l4).bind fun t226 => (collatorlaw01_PathsWithin.j0 k a1 a2 a3 t225 t226)) else (collatorlaw01_PathsWithin.j0 k a1 a2 a3 t225 (a0.extract 0 ((mn (a0.size : Int) 100) : Int).toNat))) else (none)) else (none))) = some r := h
 clear h
 replace H := Option.bind_eq_some_iff.mp H
 obtain ⟨t225, A60, H⟩ := H
 replace H : (if 0 ≤ (mn (a0.size : Int) 100) then (if (mn (a0.size : Int) 100) ≤ (a0.size : Int) then (if (l4.length : Int) > 0 then ((collatorlaw01_Path.f k l4).bind fun t226 => (collatorlaw01_PathsWithin.j0 k a1 a2 a3 t225 t226)) else (collatorlaw01_PathsWithin.j0 k a1 a2 a3 t225 (a0.extract 0 ((mn (a0.size : Int) 100) : Int).toNat))) else (none)) else (none)) = some r := H
 have A6 := Aside0.mk A60
 clear A60
 obtain ⟨ji7, hji7⟩ : ∃ j_ : Int, (mn (a0.size : Int) 100) = j_ := ⟨_, rfl⟩
 replace H : (if 0 ≤ (ji7) then (if (ji7) ≤ (a0.size : Int) then (if (l4.length : Int) > 0 then ((collatorlaw01_Path.f k l4).bind fun t226 => (collatorlaw01_PathsWithin.j0 k a1 a2 a3 t225 t226)) else (collatorlaw01_PathsWithin.j0 k a1 a2 a3 t225 (a0.extract 0 ((ji7) : Int).toNat))) else (none)) else (none)) = some r := by first | (rw [hji7] at H; exact H) | (simp only [hji7] at H ⊢; exact H)
 (try rw [hji7] at A6)
 (try (have hji7h : ji7 ≤ 100 := by (rw [← hji7]; unfold mn; (repeat' split) <;> omega)))
 (try (have hji7g : ji7 ≤ 64 := by omega))
 (try (have hji7l : 0 ≤ ji7 := by (rw [← hji7]; unfold mn; (repeat' split) <;> omega)))
 (try (have hji7m : 0 ≤ ji7 := by omega))
 have hji7_ : (if 100 < (a0.size : Int) then 100 else (a0.size : Int)) = ji7 := hji7
 by_cases c8 : 0 ≤ (ji7)
 ·rw [if_pos c8] at H
  have c8b0 := eq_true c8
  have c8b1 : decide (0 ≤ (ji7)) = true := decide_eq_true c8
  clear c8
  by_cases c9 : (ji7) ≤ (a0.size : Int)
  ·rw [if_pos c9] at H
   have c9b0 := eq_true c9
   have c9b1 : decide ((ji7) ≤ (a0.size : Int)) = true := decide_eq_true c9
   clear c9
   have HC10 := Aside0.mk H
   clear H
   go_enter Tryd.func5, Tryd.ntmps5
   go_upto_if 24 with (first | ((with_reducible refine gate_callee (f := 10) rfl ?_); refine goesL_ _ rfl rfl Tryd.func10 (by kernel_rfl) rfl #[] rfl (by (try simp only [List.map_toArray, List.map_cons, List.map_nil]); first | done | rfl | (simp only [List.length_drop, List.length_take]; rfl)) ?_; (with_reducible refine (collatorlaw01_awake.calls k  t225 _ A6.out).mono ?_); rintro e w11 ⟨rfl, hb⟩; refine ⟨_, rfl, ?_⟩; have n0_ := Aside0.mk (below_step (by repeat (first | (with_reducible first | exact HB.out | apply below_alloc | apply pw_below_drewN | apply below_drew1) | exact HB.out)) hb); clear HB; have HB := n0_; clear n0_; (try clear hb); (try clear hb2); (try clear hk); (try clear hi)))
   (try simp only [Act.put, List.setIfInBounds_toArray, List.set_cons_zero, List.set_cons_succ])
   go_cut [12] (fun v12 wc => ∃ (kq : Nat) (x12_9 : ByteArray), v12 = .string x12_9 ∧ Aside0 (collatorlaw01_PathsWithin.j0 kq a1 a2 a3 t225 x12_9 = some r) ∧ Aside0 (kq ≤ k) ∧ Aside0 (Below w.heap.size w wc))
   case first =>
    have H := HC10.out
    clear HC10
    by_cases c12 : (l4.length : Int) > 0
    ·rw [if_pos c12] at H
     have c12b0 : decide (0 < (l4.length : Int)) = true := decide_eq_true c12
     have c12b1 : decide (0 < l4.length) = true := decide_eq_true (by omega)
     clear c12
     (first | rw [c12b0] | rw [c12b1] | (simp only [i64_w, i32_w]; rw [c12b0]) | skip)
     replace H := Option.bind_eq_some_iff.mp H
     obtain ⟨t226, A130, H⟩ := H
     replace H : (collatorlaw01_PathsWithin.j0 k a1 a2 a3 t225 t226) = some r := H
     have A13 := Aside0.mk A130
     clear A130
     have H' := Aside0.mk H
     clear H
     go_wp2_with (first | ((with_reducible refine gate_callee (f := 11) rfl ?_); refine goesL_ _ rfl rfl Tryd.func11 (by kernel_rfl) rfl #[.slice A4 l4.length c4] rfl (by (try simp only [List.map_toArray, List.map_cons, List.map_nil]); first | done | rfl | (simp only [List.length_drop, List.length_take]; rfl)) ?_; (with_reducible refine (collatorlaw01_Path.calls k _ _ l4 t226 _ ?side1 ?side2 A13.out).mono ?_); (case side1 => repeat (first | exact (Kd.C_below HR4.out HB.out) | (with_reducible refine Kd.C_alloc ?_ _) | (with_reducible refine Kd.C_drewN ?_ _) | (with_reducible refine Kd.C_drew ?_))); (case side2 => exact HC4.out); rintro e w14 ⟨rfl, hb⟩; refine ⟨_, rfl, ?_⟩; have n0_ := Aside0.mk (below_step (by repeat (first | (with_reducible first | exact HB.out | apply below_alloc | apply pw_below_drewN | apply below_drew1) | exact HB.out)) hb); clear HB; have HB := n0_; clear n0_; (try clear hb); (try clear hb2); (try clear hk); (try clear hi)))
     go_meet
     case rel => exact ⟨_, (t226), (by first | rfl | (simp; done) | (simp [bne]; done) | (simp [*]; done)), H', ⟨by first | omega | exact Nat.le_refl _⟩, ⟨by repeat (first | (with_reducible first | exact HB.out | apply below_alloc | apply pw_below_drewN | apply below_drew1) | exact HB.out)⟩⟩
    ·rw [if_neg c12] at H
     have c12b0 : decide (0 < (l4.length : Int)) = false := decide_eq_false c12
     have c12b1 : decide (0 < l4.length) = false := decide_eq_false (by omega)
     clear c12
     (first | rw [c12b0] | rw [c12b1] | (simp only [i64_w, i32_w]; rw [c12b0]) | skip)
     have H' := Aside0.mk H
     clear H
     go_wp2
     go_meet
     case rel => exact ⟨_, (a0.extract 0 ((ji7) : Int).toNat), (by first | rfl | (simp; done) | (simp only [← hji7] <;> (first | rfl | simp)) | (simp [*]; done)), H', ⟨by first | omega | exact Nat.le_refl _⟩, ⟨by repeat (first | (with_reducible first | exact HB.out | apply below_alloc | apply pw_below_drewN | apply below_drew1) | exact HB.out)⟩⟩
   case rest =>
    clear HC10
    (try clear c1);(try clear p2);(try clear c4);(try clear c5);(try clear c8);(try clear c8b0);(try clear c8b1);(try clear c9);(try clear c9b0);(try clear c9b1);(try clear c10);(try clear c11);(try clear c12);(try clear c12b0);(try clear c12b1)
    obtain ⟨kq, x12_9, rfl, HA, HJ9, HB⟩ := hcut
    cases kq with
    | zero => exact absurd HA.out (by simp [collatorlaw01_PathsWithin.j0])
    | succ kj9 =>
     have H := HA.out
     clear HA
     simp only [collatorlaw01_PathsWithin.j0] at H
     obtain ⟨ji15, hji15⟩ : ∃ j_ : Int, (mn (a1.size : Int) 100) = j_ := ⟨_, rfl⟩
     replace H : (if 0 ≤ (ji15) then (if (ji15) ≤ (a1.size : Int) then ((paths_Join.f x12_9 (a1.extract 0 ((ji15) : Int).toNat)).bind fun t227 => (if 0 ≤ (mn (a2.size : Int) 100) then (if (mn (a2.size : Int) 100) ≤ (a2.size : Int) then ((paths_Join.f x12_9 (a2.extract 0 ((mn (a2.size : Int) 100) : Int).toNat)).bind fun t228 => (if 0 ≤ (mn (a3.size : Int) 100) then (if (mn (a3.size : Int) 100) ≤ (a3.size : Int) then (if x12_9.toList = ([] : List UInt8) then (if t225 = true then ((paths_Within.f x12_9 (a3.extract 0 ((mn (a3.size : Int) 100) : Int).toNat)).bind fun t229 => (some (t229 == ((a3.extract 0 ((mn (a3.size : Int) 100) : Int).toNat).toList != ([] : List UInt8))))) else (some false)) else ((paths_Within.f x12_9 t227).bind fun t230 => (if t230 = true then ((paths_Within.f x12_9 t228).bind fun t231 => (if t231 = true then ((paths_Compare.f kj9 x12_9 t227).bind fun t232 => (collatorlaw01_PathsWithin.j1 kj9 t225 x12_9 t227 t228 (a3.extract 0 ((mn (a3.size : Int) 100) : Int).toNat) (t232 != (-1)))) else (collatorlaw01_PathsWithin.j1 kj9 t225 x12_9 t227 t228 (a3.extract 0 ((mn (a3.size : Int) 100) : Int).toNat) true))) else (collatorlaw01_PathsWithin.j1 kj9 t225 x12_9 t227 t228 (a3.extract 0 ((mn (a3.size : Int) 100) : Int).toNat) true)))) else (none)) else (none))) else (none)) else (none))) else (none)) else (none)) = some r := by first | (rw [hji15] at H; exact H) | (simp only [hji15] at H ⊢; exact H)
     (try (have hji15h : ji15 ≤ 100 := by (rw [← hji15]; unfold mn; (repeat' split) <;> omega)))
     (try (have hji15g : ji15 ≤ 64 := by omega))
     (try (have hji15l : 0 ≤ ji15 := by (rw [← hji15]; unfold mn; (repeat' split) <;> omega)))
     (try (have hji15m : 0 ≤ ji15 := by omega))
     have hji15_ : (if 100 < (a1.size : Int) then 100 else (a1.size : Int)) = ji15 := hji15
     by_cases c16 : 0 ≤ (ji15)
     ·rw [if_pos c16] at H
      have c16b0 := eq_true c16
      have c16b1 : decide (0 ≤ (ji15)) = true := decide_eq_true c16
      clear c16
      by_cases c17 : (ji15) ≤ (a1.size : Int)
      ·rw [if_pos c17] at H
       have c17b0 := eq_true c17
       have c17b1 : decide ((ji15) ≤ (a1.size : Int)) = true := decide_eq_true c17
       clear c17
       replace H := Option.bind_eq_some_iff.mp H
       obtain ⟨t227, A180, H⟩ := H
       replace H : (if 0 ≤ (mn (a2.size : Int) 100) then (if (mn (a2.size : Int) 100) ≤ (a2.size : Int) then ((paths_Join.f x12_9 (a2.extract 0 ((mn (a2.size : Int) 100) : Int).toNat)).bind fun t228 => (if 0 ≤ (mn (a3.size : Int) 100) then (if (mn (a3.size : Int) 100) ≤ (a3.size : Int) then (if x12_9.toList = ([] : List UInt8) then (if t225 = true then ((paths_Within.f x12_9 (a3.extract 0 ((mn (a3.size : Int) 100) : Int).toNat)).bind fun t229 => (some (t229 == ((a3.extract 0 ((mn (a3.size : Int) 100) : Int).toNat).toList != ([] : List UInt8))))) else (some false)) else ((paths_Within.f x12_9 t227).bind fun t230 => (if t230 = true then ((paths_Within.f x12_9 t228).bind fun t231 => (if t231 = true then ((paths_Compare.f kj9 x12_9 t227).bind fun t232 => (collatorlaw01_PathsWithin.j1 kj9 t225 x12_9 t227 t228 (a3.extract 0 ((mn (a3.size : Int) 100) : Int).toNat) (t232 != (-1)))) else (collatorlaw01_PathsWithin.j1 kj9 t225 x12_9 t227 t228 (a3.extract 0 ((mn (a3.size : Int) 100) : Int).toNat) true))) else (collatorlaw01_PathsWithin.j1 kj9 t225 x12_9 t227 t228 (a3.extract 0 ((mn (a3.size : Int) 100) : Int).toNat) true)))) else (none)) else (none))) else (none)) else (none)) = some r := H
       have A18 := Aside0.mk A180
       clear A180
       obtain ⟨ji19, hji19⟩ : ∃ j_ : Int, (mn (a2.size : Int) 100) = j_ := ⟨_, rfl⟩
       replace H : (if 0 ≤ (ji19) then (if (ji19) ≤ (a2.size : Int) then ((paths_Join.f x12_9 (a2.extract 0 ((ji19) : Int).toNat)).bind fun t228 => (if 0 ≤ (mn (a3.size : Int) 100) then (if (mn (a3.size : Int) 100) ≤ (a3.size : Int) then (if x12_9.toList = ([] : List UInt8) then (if t225 = true then ((paths_Within.f x12_9 (a3.extract 0 ((mn (a3.size : Int) 100) : Int).toNat)).bind fun t229 => (some (t229 == ((a3.extract 0 ((mn (a3.size : Int) 100) : Int).toNat).toList != ([] : List UInt8))))) else (some false)) else ((paths_Within.f x12_9 t227).bind fun t230 => (if t230 = true then ((paths_Within.f x12_9 t228).bind fun t231 => (if t231 = true then ((paths_Compare.f kj9 x12_9 t227).bind fun t232 => (collatorlaw01_PathsWithin.j1 kj9 t225 x12_9 t227 t228 (a3.extract 0 ((mn (a3.size : Int) 100) : Int).toNat) (t232 != (-1)))) else (collatorlaw01_PathsWithin.j1 kj9 t225 x12_9 t227 t228 (a3.extract 0 ((mn (a3.size : Int) 100) : Int).toNat) true))) else (collatorlaw01_PathsWithin.j1 kj9 t225 x12_9 t227 t228 (a3.extract 0 ((mn (a3.size : Int) 100) : Int).toNat) true)))) else (none)) else (none))) else (none)) else (none)) = some r := by first | (rw [hji19] at H; exact H) | (simp only [hji19] at H ⊢; exact H)
       (try rw [hji19] at A18)
       (try (have hji19h : ji19 ≤ 100 := by (rw [← hji19]; unfold mn; (repeat' split) <;> omega)))
       (try (have hji19g : ji19 ≤ 64 := by omega))
       (try (have hji19l : 0 ≤ ji19 := by (rw [← hji19]; unfold mn; (repeat' split) <;> omega)))
       (try (have hji19m : 0 ≤ ji19 := by omega))
       have hji19_ : (if 100 < (a2.size : Int) then 100 else (a2.size : Int)) = ji19 := hji19
       by_cases c20 : 0 ≤ (ji19)
       ·rw [if_pos c20] at H
        have c20b0 := eq_true c20
        have c20b1 : decide (0 ≤ (ji19)) = true := decide_eq_true c20
        clear c20
        by_cases c21 : (ji19) ≤ (a2.size : Int)
        ·rw [if_pos c21] at H
         have c21b0 := eq_true c21
         have c21b1 : decide ((ji19) ≤ (a2.size : Int)) = true := decide_eq_true c21
         clear c21
         replace H := Option.bind_eq_some_iff.mp H
         obtain ⟨t228, A220, H⟩ := H
         replace H : (if 0 ≤ (mn (a3.size : Int) 100) then (if (mn (a3.size : Int) 100) ≤ (a3.size : Int) then (if x12_9.toList = ([] : List UInt8) then (if t225 = true then ((paths_Within.f x12_9 (a3.extract 0 ((mn (a3.size : Int) 100) : Int).toNat)).bind fun t229 => (some (t229 == ((a3.extract 0 ((mn (a3.size : Int) 100) : Int).toNat).toList != ([] : List UInt8))))) else (some false)) else ((paths_Within.f x12_9 t227).bind fun t230 => (if t230 = true then ((paths_Within.f x12_9 t228).bind fun t231 => (if t231 = true then ((paths_Compare.f kj9 x12_9 t227).bind fun t232 => (collatorlaw01_PathsWithin.j1 kj9 t225 x12_9 t227 t228 (a3.extract 0 ((mn (a3.size : Int) 100) : Int).toNat) (t232 != (-1)))) else (collatorlaw01_PathsWithin.j1 kj9 t225 x12_9 t227 t228 (a3.extract 0 ((mn (a3.size : Int) 100) : Int).toNat) true))) else (collatorlaw01_PathsWithin.j1 kj9 t225 x12_9 t227 t228 (a3.extract 0 ((mn (a3.size : Int) 100) : Int).toNat) true)))) else (none)) else (none)) = some r := H
         have A22 := Aside0.mk A220
         clear A220
         obtain ⟨ji23, hji23⟩ : ∃ j_ : Int, (mn (a3.size : Int) 100) = j_ := ⟨_, rfl⟩
         replace H : (if 0 ≤ (ji23) then (if (ji23) ≤ (a3.size : Int) then (if x12_9.toList = ([] : List UInt8) then (if t225 = true then ((paths_Within.f x12_9 (a3.extract 0 ((ji23) : Int).toNat)).bind fun t229 => (some (t229 == ((a3.extract 0 ((ji23) : Int).toNat).toList != ([] : List UInt8))))) else (some false)) else ((paths_Within.f x12_9 t227).bind fun t230 => (if t230 = true then ((paths_Within.f x12_9 t228).bind fun t231 => (if t231 = true then ((paths_Compare.f kj9 x12_9 t227).bind fun t232 => (collatorlaw01_PathsWithin.j1 kj9 t225 x12_9 t227 t228 (a3.extract 0 ((ji23) : Int).toNat) (t232 != (-1)))) else (collatorlaw01_PathsWithin.j1 kj9 t225 x12_9 t227 t228 (a3.extract 0 ((ji23) : Int).toNat) true))) else (collatorlaw01_PathsWithin.j1 kj9 t225 x12_9 t227 t228 (a3.extract 0 ((ji23) : Int).toNat) true)))) else (none)) else (none)) = some r := by first | (rw [hji23] at H; exact H) | (simp only [hji23] at H ⊢; exact H)
         (try rw [hji23] at A18)
         (try rw [hji23] at A22)
         have hji23_ : (if 100 < (a3.size : Int) then 100 else (a3.size : Int)) = ji23 := hji23
         by_cases c24 : 0 ≤ (ji23)
         ·rw [if_pos c24] at H
          have c24b0 := eq_true c24
          have c24b1 : decide (0 ≤ (ji23)) = true := decide_eq_true c24
          clear c24
          by_cases c25 : (ji23) ≤ (a3.size : Int)
          ·rw [if_pos c25] at H
           have c25b0 := eq_true c25
           have c25b1 : decide ((ji23) ≤ (a3.size : Int)) = true := decide_eq_true c25
           clear c25
           by_cases c26 : x12_9.toList = ([] : List UInt8)
           ·rw [if_pos c26] at H
            have c26b0 : (x12_9.toList == ([] : List UInt8)) = true := beq_iff_eq.mpr c26
            have c26b1 : (x12_9.toList != ([] : List UInt8)) = false := bne_eq_false_iff_eq.mpr c26
            clear c26
            by_cases c27 : t225 = true
            ·subst c27
             have H1 : ((paths_Within.f x12_9 (a3.extract 0 ((ji23) : Int).toNat)).bind fun t229 => (some (t229 == ((a3.extract 0 ((ji23) : Int).toNat).toList != ([] : List UInt8))))) = some r := by rw [if_pos rfl] at H; exact H
             clear H
             have H := H1
             clear H1
             replace H := Option.bind_eq_some_iff.mp H
             obtain ⟨t229, A280, H⟩ := H
             replace H : (some (t229 == ((a3.extract 0 ((ji23) : Int).toNat).toList != ([] : List UInt8)))) = some r := H
             have A28 := Aside0.mk A280
             clear A280
             obtain rfl := Option.some.inj H
             go_wp2_with (first | ((with_reducible refine gate_callee (f := 25) rfl ?_); refine goesL_ _ rfl rfl Tryd.func25 (by kernel_rfl) rfl #[.string x12_9, .string (a1.extract 0 ((ji15) : Int).toNat)] rfl (by (try simp only [List.map_toArray, List.map_cons, List.map_nil]); first | done | (simp only [hji15]; rfl) | rfl | (simp only [List.length_drop, List.length_take]; rfl)) ?_; (with_reducible refine (paths_Join.calls x12_9 (a1.extract 0 ((ji15) : Int).toNat) t227 _ A18.out).mono ?_); rintro e w' ⟨rfl, ⟨nd, rfl⟩⟩; refine ⟨_, rfl, ?_⟩) | ((with_reducible refine gate_callee (f := 25) rfl ?_); refine goesL_ _ rfl rfl Tryd.func25 (by kernel_rfl) rfl #[.string x12_9, .string (a2.extract 0 ((ji19) : Int).toNat)] rfl (by (try simp only [List.map_toArray, List.map_cons, List.map_nil]); first | done | (simp only [hji19]; rfl) | rfl | (simp only [List.length_drop, List.length_take]; rfl)) ?_; (with_reducible refine (paths_Join.calls x12_9 (a2.extract 0 ((ji19) : Int).toNat) t228 _ A22.out).mono ?_); rintro e w' ⟨rfl, ⟨nd, rfl⟩⟩; refine ⟨_, rfl, ?_⟩) | (go_at_call 23; (with_reducible refine (paths_Within.calls x12_9 (a3.extract 0 ((ji23) : Int).toNat) t229 _ A28.out).mono ?_); rintro e w' ⟨rfl, ⟨nd, rfl⟩⟩))
             go_ret
             exact ⟨by first | rfl | (simp [errW_none, errW_some] <;> rfl) | (simp [bne]; done) | (simp only [← hji7, ← hji15, ← hji19, ← hji23]; first | rfl | (simp [errW_none, errW_some] <;> rfl) | (simp [bne]; done)) | (simp [*, errW_none, errW_some] <;> rfl), by repeat (first | (with_reducible first | exact HB.out | apply below_alloc | apply pw_below_drewN | apply below_drew1) | exact HB.out)⟩
            ·replace c27 := Bool.eq_false_iff.mpr c27
             subst c27
             have H1 : (some false) = some r := by rw [if_neg (show ¬ (false = true) by decide)] at H; exact H
             clear H
             have H := H1
             clear H1
             obtain rfl := Option.some.inj H
             go_wp2_with (first | ((with_reducible refine gate_callee (f := 25) rfl ?_); refine goesL_ _ rfl rfl Tryd.func25 (by kernel_rfl) rfl #[.string x12_9, .string (a1.extract 0 ((ji15) : Int).toNat)] rfl (by (try simp only [List.map_toArray, List.map_cons, List.map_nil]); first | done | (simp only [hji15]; rfl) | rfl | (simp only [List.length_drop, List.length_take]; rfl)) ?_; (with_reducible refine (paths_Join.calls x12_9 (a1.extract 0 ((ji15) : Int).toNat) t227 _ A18.out).mono ?_); rintro e w' ⟨rfl, ⟨nd, rfl⟩⟩; refine ⟨_, rfl, ?_⟩) | ((with_reducible refine gate_callee (f := 25) rfl ?_); refine goesL_ _ rfl rfl Tryd.func25 (by kernel_rfl) rfl #[.string x12_9, .string (a2.extract 0 ((ji19) : Int).toNat)] rfl (by (try simp only [List.map_toArray, List.map_cons, List.map_nil]); first | done | (simp only [hji19]; rfl) | rfl | (simp only [List.length_drop, List.length_take]; rfl)) ?_; (with_reducible refine (paths_Join.calls x12_9 (a2.extract 0 ((ji19) : Int).toNat) t228 _ A22.out).mono ?_); rintro e w' ⟨rfl, ⟨nd, rfl⟩⟩; refine ⟨_, rfl, ?_⟩))
             go_ret
             exact ⟨by first | rfl | (simp [errW_none, errW_some] <;> rfl) | (simp [bne]; done) | (simp only [← hji7, ← hji15, ← hji19, ← hji23]; first | rfl | (simp [errW_none, errW_some] <;> rfl) | (simp [bne]; done)) | (simp [*, errW_none, errW_some] <;> rfl), by repeat (first | (with_reducible first | exact HB.out | apply below_alloc | apply pw_below_drewN | apply below_drew1) | exact HB.out)⟩
           ·rw [if_neg c26] at H
            have c26b0 : (x12_9.toList == ([] : List UInt8)) = false := beq_eq_false_iff_ne.mpr c26
            have c26b1 : (x12_9.toList != ([] : List UInt8)) = true := bne_iff_ne.mpr c26
            have HC29 := Aside0.mk H
            clear H
            go_upto_region 10 with (first | ((with_reducible refine gate_callee (f := 25) rfl ?_); refine goesL_ _ rfl rfl Tryd.func25 (by kernel_rfl) rfl #[.string x12_9, .string (a1.extract 0 ((ji15) : Int).toNat)] rfl (by (try simp only [List.map_toArray, List.map_cons, List.map_nil]); first | done | (simp only [hji15]; rfl) | rfl | (simp only [List.length_drop, List.length_take]; rfl)) ?_; (with_reducible refine (paths_Join.calls x12_9 (a1.extract 0 ((ji15) : Int).toNat) t227 _ A18.out).mono ?_); rintro e w' ⟨rfl, ⟨nd, rfl⟩⟩; refine ⟨_, rfl, ?_⟩) | ((with_reducible refine gate_callee (f := 25) rfl ?_); refine goesL_ _ rfl rfl Tryd.func25 (by kernel_rfl) rfl #[.string x12_9, .string (a2.extract 0 ((ji19) : Int).toNat)] rfl (by (try simp only [List.map_toArray, List.map_cons, List.map_nil]); first | done | (simp only [hji19]; rfl) | rfl | (simp only [List.length_drop, List.length_take]; rfl)) ?_; (with_reducible refine (paths_Join.calls x12_9 (a2.extract 0 ((ji19) : Int).toNat) t228 _ A22.out).mono ?_); rintro e w' ⟨rfl, ⟨nd, rfl⟩⟩; refine ⟨_, rfl, ?_⟩))
            (try simp only [Act.put, List.setIfInBounds_toArray, List.set_cons_zero, List.set_cons_succ])
            go_cut [72] (fun v72 wc => ∃ (kq : Nat) (x72_28 : Bool), v72 = .bool x72_28 ∧ Aside0 (collatorlaw01_PathsWithin.j1 kq t225 x12_9 t227 t228 (a3.extract 0 ((ji23) : Int).toNat) x72_28 = some r) ∧ Aside0 (kq ≤ kj9) ∧ Aside0 (Below w.heap.size w wc))
            case first =>
             have H := HC29.out
             clear HC29
             replace H := Option.bind_eq_some_iff.mp H
             obtain ⟨t230, A300, H⟩ := H
             replace H : (if t230 = true then ((paths_Within.f x12_9 t228).bind fun t231 => (if t231 = true then ((paths_Compare.f kj9 x12_9 t227).bind fun t232 => (collatorlaw01_PathsWithin.j1 kj9 t225 x12_9 t227 t228 (a3.extract 0 ((ji23) : Int).toNat) (t232 != (-1)))) else (collatorlaw01_PathsWithin.j1 kj9 t225 x12_9 t227 t228 (a3.extract 0 ((ji23) : Int).toNat) true))) else (collatorlaw01_PathsWithin.j1 kj9 t225 x12_9 t227 t228 (a3.extract 0 ((ji23) : Int).toNat) true)) = some r := H
             have A30 := Aside0.mk A300
             clear A300
             by_cases c31 : t230 = true
             ·subst c31
              have H1 : ((paths_Within.f x12_9 t228).bind fun t231 => (if t231 = true then ((paths_Compare.f kj9 x12_9 t227).bind fun t232 => (collatorlaw01_PathsWithin.j1 kj9 t225 x12_9 t227 t228 (a3.extract 0 ((ji23) : Int).toNat) (t232 != (-1)))) else (collatorlaw01_PathsWithin.j1 kj9 t225 x12_9 t227 t228 (a3.extract 0 ((ji23) : Int).toNat) true))) = some r := by rw [if_pos rfl] at H; exact H
              clear H
              have H := H1
              clear H1
              replace H := Option.bind_eq_some_iff.mp H
              obtain ⟨t231, A320, H⟩ := H
              replace H : (if t231 = true then ((paths_Compare.f kj9 x12_9 t227).bind fun t232 => (collatorlaw01_PathsWithin.j1 kj9 t225 x12_9 t227 t228 (a3.extract 0 ((ji23) : Int).toNat) (t232 != (-1)))) else (collatorlaw01_PathsWithin.j1 kj9 t225 x12_9 t227 t228 (a3.extract 0 ((ji23) : Int).toNat) true)) = some r := H
              have A32 := Aside0.mk A320
              clear A320
              by_cases c33 : t231 = true
              ·subst c33
               have H1 : ((paths_Compare.f kj9 x12_9 t227).bind fun t232 => (collatorlaw01_PathsWithin.j1 kj9 t225 x12_9 t227 t228 (a3.extract 0 ((ji23) : Int).toNat) (t232 != (-1)))) = some r := by rw [if_pos rfl] at H; exact H
               clear H
               have H := H1
               clear H1
               replace H := Option.bind_eq_some_iff.mp H
               obtain ⟨t232, A340, H⟩ := H
               replace H : (collatorlaw01_PathsWithin.j1 kj9 t225 x12_9 t227 t228 (a3.extract 0 ((ji23) : Int).toNat) (t232 != (-1))) = some r := H
               have A34 := Aside0.mk A340
               clear A340
               have H' := Aside0.mk H
               clear H
               go_wp2_with (first | ((with_reducible refine gate_callee (f := 23) rfl ?_); refine goesL_ _ rfl rfl Tryd.func23 (by kernel_rfl) rfl #[.string x12_9, .string t227] rfl (by (try simp only [List.map_toArray, List.map_cons, List.map_nil]); first | done | rfl | (simp only [List.length_drop, List.length_take]; rfl)) ?_; (with_reducible refine (paths_Within.calls x12_9 t227 true _ A30.out).mono ?_); rintro e w' ⟨rfl, ⟨nd, rfl⟩⟩; refine ⟨_, rfl, ?_⟩) | (go_at_call 23; (with_reducible refine (paths_Within.calls x12_9 t228 true _ A32.out).mono ?_); rintro e w' ⟨rfl, ⟨nd, rfl⟩⟩) | (go_at_call 21; (with_reducible refine (paths_Compare.calls kj9 x12_9 t227 t232 _ A34.out).mono ?_); rintro e w35 ⟨rfl, hb⟩; have n0_ := Aside0.mk (below_step (by repeat (first | (with_reducible first | exact HB.out | apply below_alloc | apply pw_below_drewN | apply below_drew1) | exact HB.out)) hb); clear HB; have HB := n0_; clear n0_; (try clear hb); (try clear hb2); (try clear hk); (try clear hi)))
               go_meet
               case rel => exact ⟨_, ((t232 != (-1))), (by first | rfl | (simp; done) | (simp [bne]; done) | (simp [*]; done)), H', ⟨by have := HJ9.out; first | omega | exact Nat.le_refl _⟩, ⟨by repeat (first | (with_reducible first | exact HB.out | apply below_alloc | apply pw_below_drewN | apply below_drew1) | exact HB.out)⟩⟩
              ·replace c33 := Bool.eq_false_iff.mpr c33
               subst c33
               have H1 : (collatorlaw01_PathsWithin.j1 kj9 t225 x12_9 t227 t228 (a3.extract 0 ((ji23) : Int).toNat) true) = some r := by rw [if_neg (show ¬ (false = true) by decide)] at H; exact H
               clear H
               have H := H1
               clear H1
               have H' := Aside0.mk H
               clear H
               go_wp2_with (first | ((with_reducible refine gate_callee (f := 23) rfl ?_); refine goesL_ _ rfl rfl Tryd.func23 (by kernel_rfl) rfl #[.string x12_9, .string t227] rfl (by (try simp only [List.map_toArray, List.map_cons, List.map_nil]); first | done | rfl | (simp only [List.length_drop, List.length_take]; rfl)) ?_; (with_reducible refine (paths_Within.calls x12_9 t227 true _ A30.out).mono ?_); rintro e w' ⟨rfl, ⟨nd, rfl⟩⟩; refine ⟨_, rfl, ?_⟩) | (go_at_call 23; (with_reducible refine (paths_Within.calls x12_9 t228 false _ A32.out).mono ?_); rintro e w' ⟨rfl, ⟨nd, rfl⟩⟩))
               go_meet
               case rel => exact ⟨_, (true), (by first | rfl | (simp; done) | (simp [bne]; done) | (simp [*]; done)), H', ⟨by have := HJ9.out; first | omega | exact Nat.le_refl _⟩, ⟨by repeat (first | (with_reducible first | exact HB.out | apply below_alloc | apply pw_below_drewN | apply below_drew1) | exact HB.out)⟩⟩
             ·replace c31 := Bool.eq_false_iff.mpr c31
              subst c31
              have H1 : (collatorlaw01_PathsWithin.j1 kj9 t225 x12_9 t227 t228 (a3.extract 0 ((ji23) : Int).toNat) true) = some r := by rw [if_neg (show ¬ (false = true) by decide)] at H; exact H
              clear H
              have H := H1
              clear H1
              have H' := Aside0.mk H
              clear H
              go_wp2_with (first | ((with_reducible refine gate_callee (f := 23) rfl ?_); refine goesL_ _ rfl rfl Tryd.func23 (by kernel_rfl) rfl #[.string x12_9, .string t227] rfl (by (try simp only [List.map_toArray, List.map_cons, List.map_nil]); first | done | rfl | (simp only [List.length_drop, List.length_take]; rfl)) ?_; (with_reducible refine (paths_Within.calls x12_9 t227 false _ A30.out).mono ?_); rintro e w' ⟨rfl, ⟨nd, rfl⟩⟩; refine ⟨_, rfl, ?_⟩))
              go_meet
              case rel => exact ⟨_, (true), (by first | rfl | (simp; done) | (simp [bne]; done) | (simp [*]; done)), H', ⟨by have := HJ9.out; first | omega | exact Nat.le_refl _⟩, ⟨by repeat (first | (with_reducible first | exact HB.out | apply below_alloc | apply pw_below_drewN | apply below_drew1) | exact HB.out)⟩⟩
            case rest =>
             clear HC29
             (try clear c1);(try clear c2);(try clear p2);(try clear c3);(try clear c4);(try clear c5);(try clear c8);(try clear c8b0);(try clear c8b1);(try clear c9);(try clear c9b0);(try clear c9b1);(try clear c10);(try clear c11);(try clear c12);(try clear c12b0);(try clear c12b1);(try clear c16);(try clear c16b0);(try clear c16b1);(try clear c17);(try clear c17b0);(try clear c17b1);(try clear c20);(try clear c20b0);(try clear c20b1);(try clear c21);(try clear c21b0);(try clear c21b1);(try clear c23);(try clear c24);(try clear c24b0);(try clear c24b1);(try clear c25);(try clear c25b0);(try clear c25b1);(try clear c26);(try clear c26b0);(try clear c26b1);(try clear c27);(try clear c31);(try clear c33);(try clear p2)
             obtain ⟨kq, x72_28, rfl, HA, HJ28, HB⟩ := hcut
             cases kq with
             | zero => exact absurd HA.out (by simp [collatorlaw01_PathsWithin.j1])
             | succ kj28 =>
              have H := HA.out
              clear HA
              simp only [collatorlaw01_PathsWithin.j1] at H
              by_cases c36 : x72_28 = true
              ·subst c36
               have H1 : (some false) = some r := by rw [if_pos rfl] at H; exact H
               clear H
               have H := H1
               clear H1
               obtain rfl := Option.some.inj H
               go_wp2
               go_ret
               exact ⟨by first | rfl | (simp [errW_none, errW_some] <;> rfl) | (simp [bne]; done) | (simp only [← hji7, ← hji15, ← hji19, ← hji23]; first | rfl | (simp [errW_none, errW_some] <;> rfl) | (simp [bne]; done)) | (simp [*, errW_none, errW_some] <;> rfl), by repeat (first | (with_reducible first | exact HB.out | apply below_alloc | apply pw_below_drewN | apply below_drew1) | exact HB.out)⟩
              ·replace c36 := Bool.eq_false_iff.mpr c36
               subst c36
               have H1 : ((paths_Compare.f kj28 t227 (a3.extract 0 ((ji23) : Int).toNat)).bind fun t233 => (if t233 ≤ 0 then ((paths_Compare.f kj28 (a3.extract 0 ((ji23) : Int).toNat) t228).bind fun t234 => (if t234 ≤ 0 then ((paths_Within.f x12_9 (a3.extract 0 ((ji23) : Int).toNat)).bind fun t235 => (collatorlaw01_PathsWithin.j2 kj28 t225 x12_9 t227 (a3.extract 0 ((ji23) : Int).toNat) (!t235))) else (collatorlaw01_PathsWithin.j2 kj28 t225 x12_9 t227 (a3.extract 0 ((ji23) : Int).toNat) false))) else (collatorlaw01_PathsWithin.j2 kj28 t225 x12_9 t227 (a3.extract 0 ((ji23) : Int).toNat) false))) = some r := by rw [if_neg (show ¬ (false = true) by decide)] at H; exact H
               clear H
               have H := H1
               clear H1
               have HC37 := Aside0.mk H
               clear H
               go_upto_region 12 with (fail)
               go_cut [88] (fun v88 wc => ∃ (kq : Nat) (x88_36 : Bool), v88 = .bool x88_36 ∧ Aside0 (collatorlaw01_PathsWithin.j2 kq t225 x12_9 t227 (a3.extract 0 ((ji23) : Int).toNat) x88_36 = some r) ∧ Aside0 (kq ≤ kj28) ∧ Aside0 (Below w.heap.size w wc))
               case first =>
                have H := HC37.out
                clear HC37
                replace H := Option.bind_eq_some_iff.mp H
                obtain ⟨t233, A380, H⟩ := H
                replace H : (if t233 ≤ 0 then ((paths_Compare.f kj28 (a3.extract 0 ((ji23) : Int).toNat) t228).bind fun t234 => (if t234 ≤ 0 then ((paths_Within.f x12_9 (a3.extract 0 ((ji23) : Int).toNat)).bind fun t235 => (collatorlaw01_PathsWithin.j2 kj28 t225 x12_9 t227 (a3.extract 0 ((ji23) : Int).toNat) (!t235))) else (collatorlaw01_PathsWithin.j2 kj28 t225 x12_9 t227 (a3.extract 0 ((ji23) : Int).toNat) false))) else (collatorlaw01_PathsWithin.j2 kj28 t225 x12_9 t227 (a3.extract 0 ((ji23) : Int).toNat) false)) = some r := H
                have A38 := Aside0.mk A380
                clear A380
                by_cases c39 : t233 ≤ 0
                ·rw [if_pos c39] at H
                 have c39b0 : decide (t233 ≤ 0) = true := decide_eq_true c39
                 clear c39
                 (first | rw [c39b0] | rw [c39b1] | (simp only [i64_w, i32_w]; rw [c39b0]) | skip)
                 replace H := Option.bind_eq_some_iff.mp H
                 obtain ⟨t234, A400, H⟩ := H
                 replace H : (if t234 ≤ 0 then ((paths_Within.f x12_9 (a3.extract 0 ((ji23) : Int).toNat)).bind fun t235 => (collatorlaw01_PathsWithin.j2 kj28 t225 x12_9 t227 (a3.extract 0 ((ji23) : Int).toNat) (!t235))) else (collatorlaw01_PathsWithin.j2 kj28 t225 x12_9 t227 (a3.extract 0 ((ji23) : Int).toNat) false)) = some r := H
                 have A40 := Aside0.mk A400
                 clear A400
                 by_cases c41 : t234 ≤ 0
                 ·rw [if_pos c41] at H
                  have c41b0 : decide (t234 ≤ 0) = true := decide_eq_true c41
                  clear c41
                  replace H := Option.bind_eq_some_iff.mp H
                  obtain ⟨t235, A420, H⟩ := H
                  replace H : (collatorlaw01_PathsWithin.j2 kj28 t225 x12_9 t227 (a3.extract 0 ((ji23) : Int).toNat) (!t235)) = some r := H
                  have A42 := Aside0.mk A420
                  clear A420
                  have H' := Aside0.mk H
                  clear H
                  go_wp2_with (first | ((with_reducible refine gate_callee (f := 21) rfl ?_); refine goesL_ _ rfl rfl Tryd.func21 (by kernel_rfl) rfl #[.string t227, .string (a3.extract 0 ((ji23) : Int).toNat)] rfl (by (try simp only [List.map_toArray, List.map_cons, List.map_nil]); first | done | (simp only [hji23]; rfl) | rfl | (simp only [List.length_drop, List.length_take]; rfl)) ?_; (with_reducible refine (paths_Compare.calls kj28 t227 (a3.extract 0 ((ji23) : Int).toNat) t233 _ A38.out).mono ?_); rintro e w43 ⟨rfl, hb⟩; refine ⟨_, rfl, ?_⟩; have n0_ := Aside0.mk (below_step (by repeat (first | (with_reducible first | exact HB.out | apply below_alloc | apply pw_below_drewN | apply below_drew1) | exact HB.out)) hb); clear HB; have HB := n0_; clear n0_; (try clear hb); (try clear hb2); (try clear hk); (try clear hi)) | (go_at_call 21; (with_reducible refine (paths_Compare.calls kj28 (a3.extract 0 ((ji23) : Int).toNat) t228 t234 _ A40.out).mono ?_); rintro e w44 ⟨rfl, hb⟩; have n0_ := Aside0.mk (below_step (by repeat (first | (with_reducible first | exact HB.out | apply below_alloc | apply pw_below_drewN | apply below_drew1) | exact HB.out)) hb); clear HB; have HB := n0_; clear n0_; (try clear hb); (try clear hb2); (try clear hk); (try clear hi)) | (go_at_call 23; (with_reducible refine (paths_Within.calls x12_9 (a3.extract 0 ((ji23) : Int).toNat) t235 _ A42.out).mono ?_); rintro e w' ⟨rfl, ⟨nd, rfl⟩⟩))
                  go_meet
                  case rel => exact ⟨_, (!t235), (by first | rfl | (simp; done) | (simp [bne]; done) | (simp [*]; done)), H', ⟨by have := HJ9.out; have := HJ28.out; first | omega | exact Nat.le_refl _⟩, ⟨by repeat (first | (with_reducible first | exact HB.out | apply below_alloc | apply pw_below_drewN | apply below_drew1) | exact HB.out)⟩⟩
                 ·rw [if_neg c41] at H
                  have c41b0 : decide (t234 ≤ 0) = false := decide_eq_false c41
                  clear c41
                  have H' := Aside0.mk H
                  clear H
                  go_wp2_with (first | ((with_reducible refine gate_callee (f := 21) rfl ?_); refine goesL_ _ rfl rfl Tryd.func21 (by kernel_rfl) rfl #[.string t227, .string (a3.extract 0 ((ji23) : Int).toNat)] rfl (by (try simp only [List.map_toArray, List.map_cons, List.map_nil]); first | done | (simp only [hji23]; rfl) | rfl | (simp only [List.length_drop, List.length_take]; rfl)) ?_; (with_reducible refine (paths_Compare.calls kj28 t227 (a3.extract 0 ((ji23) : Int).toNat) t233 _ A38.out).mono ?_); rintro e w45 ⟨rfl, hb⟩; refine ⟨_, rfl, ?_⟩; have n0_ := Aside0.mk (below_step (by repeat (first | (with_reducible first | exact HB.out | apply below_alloc | apply pw_below_drewN | apply below_drew1) | exact HB.out)) hb); clear HB; have HB := n0_; clear n0_; (try clear hb); (try clear hb2); (try clear hk); (try clear hi)) | (go_at_call 21; (with_reducible refine (paths_Compare.calls kj28 (a3.extract 0 ((ji23) : Int).toNat) t228 t234 _ A40.out).mono ?_); rintro e w46 ⟨rfl, hb⟩; have n0_ := Aside0.mk (below_step (by repeat (first | (with_reducible first | exact HB.out | apply below_alloc | apply pw_below_drewN | apply below_drew1) | exact HB.out)) hb); clear HB; have HB := n0_; clear n0_; (try clear hb); (try clear hb2); (try clear hk); (try clear hi)))
                  go_meet
                  case rel => exact ⟨_, (false), (by first | rfl | (simp; done) | (simp [bne]; done) | (simp [*]; done)), H', ⟨by have := HJ9.out; have := HJ28.out; first | omega | exact Nat.le_refl _⟩, ⟨by repeat (first | (with_reducible first | exact HB.out | apply below_alloc | apply pw_below_drewN | apply below_drew1) | exact HB.out)⟩⟩
                ·rw [if_neg c39] at H
                 have c39b0 : decide (t233 ≤ 0) = false := decide_eq_false c39
                 clear c39
                 (first | rw [c39b0] | rw [c39b1] | (simp only [i64_w, i32_w]; rw [c39b0]) | skip)
                 have H' := Aside0.mk H
                 clear H
                 go_wp2_with (first | ((with_reducible refine gate_callee (f := 21) rfl ?_); refine goesL_ _ rfl rfl Tryd.func21 (by kernel_rfl) rfl #[.string t227, .string (a3.extract 0 ((ji23) : Int).toNat)] rfl (by (try simp only [List.map_toArray, List.map_cons, List.map_nil]); first | done | (simp only [hji23]; rfl) | rfl | (simp only [List.length_drop, List.length_take]; rfl)) ?_; (with_reducible refine (paths_Compare.calls kj28 t227 (a3.extract 0 ((ji23) : Int).toNat) t233 _ A38.out).mono ?_); rintro e w47 ⟨rfl, hb⟩; refine ⟨_, rfl, ?_⟩; have n0_ := Aside0.mk (below_step (by repeat (first | (with_reducible first | exact HB.out | apply below_alloc | apply pw_below_drewN | apply below_drew1) | exact HB.out)) hb); clear HB; have HB := n0_; clear n0_; (try clear hb); (try clear hb2); (try clear hk); (try clear hi)))
                 go_meet
                 case rel => exact ⟨_, (false), (by first | rfl | (simp; done) | (simp [bne]; done) | (simp [*]; done)), H', ⟨by have := HJ9.out; have := HJ28.out; first | omega | exact Nat.le_refl _⟩, ⟨by repeat (first | (with_reducible first | exact HB.out | apply below_alloc | apply pw_below_drewN | apply below_drew1) | exact HB.out)⟩⟩
               case rest =>
                clear HC37
                (try clear c1);(try clear c2);(try clear p2);(try clear c3);(try clear c4);(try clear c5);(try clear c8);(try clear c8b0);(try clear c8b1);(try clear c9);(try clear c9b0);(try clear c9b1);(try clear c10);(try clear c11);(try clear c12);(try clear c12b0);(try clear c12b1);(try clear c16);(try clear c16b0);(try clear c16b1);(try clear c17);(try clear c17b0);(try clear c17b1);(try clear c20);(try clear c20b0);(try clear c20b1);(try clear c21);(try clear c21b0);(try clear c21b1);(try clear c23);(try clear c24);(try clear c24b0);(try clear c24b1);(try clear c25);(try clear c25b0);(try clear c25b1);(try clear c26);(try clear c26b0);(try clear c26b1);(try clear c27);(try clear c31);(try clear c33);(try clear c36);(try clear c39);(try clear c39b0);(try clear c41);(try clear c41b0);(try clear p2)
                obtain ⟨kq, x88_36, rfl, HA, HJ36, HB⟩ := hcut
                cases kq with
                | zero => exact absurd HA.out (by simp [collatorlaw01_PathsWithin.j2])
                | succ kj36 =>
                 have H := HA.out
                 clear HA
                 simp only [collatorlaw01_PathsWithin.j2] at H
                 by_cases c48 : x88_36 = true
                 ·subst c48
                  have H1 : (some false) = some r := by rw [if_pos rfl] at H; exact H
                  clear H
                  have H := H1
                  clear H1
                  obtain rfl := Option.some.inj H
                  go_wp2
                  go_ret
                  exact ⟨by first | rfl | (simp [errW_none, errW_some] <;> rfl) | (simp [bne]; done) | (simp only [← hji7, ← hji15, ← hji19, ← hji23]; first | rfl | (simp [errW_none, errW_some] <;> rfl) | (simp [bne]; done)) | (simp [*, errW_none, errW_some] <;> rfl), by repeat (first | (with_reducible first | exact HB.out | apply below_alloc | apply pw_below_drewN | apply below_drew1) | exact HB.out)⟩
                 ·replace c48 := Bool.eq_false_iff.mpr c48
                  subst c48
                  have H1 : (if t225 = true then ((paths_Within.f x12_9 (a3.extract 0 ((ji23) : Int).toNat)).bind fun t236 => (if t236 = true then ((paths_Join.f (a3.extract 0 ((ji23) : Int).toNat) (⟨#[113]⟩ : ByteArray)).bind fun t237 => ((paths_Within.f x12_9 t237).bind fun t238 => (if t238 = true then ((paths_Within.f t227 (a3.extract 0 ((ji23) : Int).toNat)).bind fun t239 => (if t239 = true then ((paths_Within.f (a3.extract 0 ((ji23) : Int).toNat) (a3.extract 0 ((ji23) : Int).toNat)).bind fun t240 => (some (!t240))) else ((paths_Within.f (a3.extract 0 ((ji23) : Int).toNat) (a3.extract 0 ((ji23) : Int).toNat)).bind fun t241 => (some (!t241))))) else (some false)))) else ((paths_Within.f t227 (a3.extract 0 ((ji23) : Int).toNat)).bind fun t242 => (if t242 = true then (some false) else ((paths_Within.f (a3.extract 0 ((ji23) : Int).toNat) (a3.extract 0 ((ji23) : Int).toNat)).bind fun t243 => (some (!t243))))))) else (some false)) = some r := by rw [if_neg (show ¬ (false = true) by decide)] at H; exact H
                  clear H
                  have H := H1
                  clear H1
                  by_cases c49 : t225 = true
                  ·subst c49
                   have H1 : ((paths_Within.f x12_9 (a3.extract 0 ((ji23) : Int).toNat)).bind fun t236 => (if t236 = true then ((paths_Join.f (a3.extract 0 ((ji23) : Int).toNat) (⟨#[113]⟩ : ByteArray)).bind fun t237 => ((paths_Within.f x12_9 t237).bind fun t238 => (if t238 = true then ((paths_Within.f t227 (a3.extract 0 ((ji23) : Int).toNat)).bind fun t239 => (if t239 = true then ((paths_Within.f (a3.extract 0 ((ji23) : Int).toNat) (a3.extract 0 ((ji23) : Int).toNat)).bind fun t240 => (some (!t240))) else ((paths_Within.f (a3.extract 0 ((ji23) : Int).toNat) (a3.extract 0 ((ji23) : Int).toNat)).bind fun t241 => (some (!t241))))) else (some false)))) else ((paths_Within.f t227 (a3.extract 0 ((ji23) : Int).toNat)).bind fun t242 => (if t242 = true then (some false) else ((paths_Within.f (a3.extract 0 ((ji23) : Int).toNat) (a3.extract 0 ((ji23) : Int).toNat)).bind fun t243 => (some (!t243))))))) = some r := by rw [if_pos rfl] at H; exact H
                   clear H
                   have H := H1
                   clear H1
                   replace H := Option.bind_eq_some_iff.mp H
                   obtain ⟨t236, A500, H⟩ := H
                   replace H : (if t236 = true then ((paths_Join.f (a3.extract 0 ((ji23) : Int).toNat) (⟨#[113]⟩ : ByteArray)).bind fun t237 => ((paths_Within.f x12_9 t237).bind fun t238 => (if t238 = true then ((paths_Within.f t227 (a3.extract 0 ((ji23) : Int).toNat)).bind fun t239 => (if t239 = true then ((paths_Within.f (a3.extract 0 ((ji23) : Int).toNat) (a3.extract 0 ((ji23) : Int).toNat)).bind fun t240 => (some (!t240))) else ((paths_Within.f (a3.extract 0 ((ji23) : Int).toNat) (a3.extract 0 ((ji23) : Int).toNat)).bind fun t241 => (some (!t241))))) else (some false)))) else ((paths_Within.f t227 (a3.extract 0 ((ji23) : Int).toNat)).bind fun t242 => (if t242 = true then (some false) else ((paths_Within.f (a3.extract 0 ((ji23) : Int).toNat) (a3.extract 0 ((ji23) : Int).toNat)).bind fun t243 => (some (!t243)))))) = some r := H
                   have A50 := Aside0.mk A500
                   clear A500
                   by_cases c51 : t236 = true
                   ·subst c51
                    have H1 : ((paths_Join.f (a3.extract 0 ((ji23) : Int).toNat) (⟨#[113]⟩ : ByteArray)).bind fun t237 => ((paths_Within.f x12_9 t237).bind fun t238 => (if t238 = true then ((paths_Within.f t227 (a3.extract 0 ((ji23) : Int).toNat)).bind fun t239 => (if t239 = true then ((paths_Within.f (a3.extract 0 ((ji23) : Int).toNat) (a3.extract 0 ((ji23) : Int).toNat)).bind fun t240 => (some (!t240))) else ((paths_Within.f (a3.extract 0 ((ji23) : Int).toNat) (a3.extract 0 ((ji23) : Int).toNat)).bind fun t241 => (some (!t241))))) else (some false)))) = some r := by rw [if_pos rfl] at H; exact H
                    clear H
                    have H := H1
                    clear H1
                    replace H := Option.bind_eq_some_iff.mp H
                    obtain ⟨t237, A520, H⟩ := H
                    replace H : ((paths_Within.f x12_9 t237).bind fun t238 => (if t238 = true then ((paths_Within.f t227 (a3.extract 0 ((ji23) : Int).toNat)).bind fun t239 => (if t239 = true then ((paths_Within.f (a3.extract 0 ((ji23) : Int).toNat) (a3.extract 0 ((ji23) : Int).toNat)).bind fun t240 => (some (!t240))) else ((paths_Within.f (a3.extract 0 ((ji23) : Int).toNat) (a3.extract 0 ((ji23) : Int).toNat)).bind fun t241 => (some (!t241))))) else (some false))) = some r := H
                    have A52 := Aside0.mk A520
                    clear A520
                    replace H := Option.bind_eq_some_iff.mp H
                    obtain ⟨t238, A530, H⟩ := H
                    replace H : (if t238 = true then ((paths_Within.f t227 (a3.extract 0 ((ji23) : Int).toNat)).bind fun t239 => (if t239 = true then ((paths_Within.f (a3.extract 0 ((ji23) : Int).toNat) (a3.extract 0 ((ji23) : Int).toNat)).bind fun t240 => (some (!t240))) else ((paths_Within.f (a3.extract 0 ((ji23) : Int).toNat) (a3.extract 0 ((ji23) : Int).toNat)).bind fun t241 => (some (!t241))))) else (some false)) = some r := H
                    have A53 := Aside0.mk A530
                    clear A530
                    by_cases c54 : t238 = true
                    ·subst c54
                     have H1 : ((paths_Within.f t227 (a3.extract 0 ((ji23) : Int).toNat)).bind fun t239 => (if t239 = true then ((paths_Within.f (a3.extract 0 ((ji23) : Int).toNat) (a3.extract 0 ((ji23) : Int).toNat)).bind fun t240 => (some (!t240))) else ((paths_Within.f (a3.extract 0 ((ji23) : Int).toNat) (a3.extract 0 ((ji23) : Int).toNat)).bind fun t241 => (some (!t241))))) = some r := by rw [if_pos rfl] at H; exact H
                     clear H
                     have H := H1
                     clear H1
                     replace H := Option.bind_eq_some_iff.mp H
                     obtain ⟨t239, A550, H⟩ := H
                     replace H : (if t239 = true then ((paths_Within.f (a3.extract 0 ((ji23) : Int).toNat) (a3.extract 0 ((ji23) : Int).toNat)).bind fun t240 => (some (!t240))) else ((paths_Within.f (a3.extract 0 ((ji23) : Int).toNat) (a3.extract 0 ((ji23) : Int).toNat)).bind fun t241 => (some (!t241)))) = some r := H
                     have A55 := Aside0.mk A550
                     clear A550
                     by_cases c56 : t239 = true
                     ·subst c56
                      have H1 : ((paths_Within.f (a3.extract 0 ((ji23) : Int).toNat) (a3.extract 0 ((ji23) : Int).toNat)).bind fun t240 => (some (!t240))) = some r := by rw [if_pos rfl] at H; exact H
                      clear H
                      have H := H1
                      clear H1
                      replace H := Option.bind_eq_some_iff.mp H
                      obtain ⟨t240, A570, H⟩ := H
                      replace H : (some (!t240)) = some r := H
                      have A57 := Aside0.mk A570
                      clear A570
                      obtain rfl := Option.some.inj H
                      go_wp2_with (first | (go_at_call 23; (with_reducible refine (paths_Within.calls x12_9 (a3.extract 0 ((ji23) : Int).toNat) true _ A50.out).mono ?_); rintro e w' ⟨rfl, ⟨nd, rfl⟩⟩) | (go_at_call 25; (with_reducible refine (paths_Join.calls (a3.extract 0 ((ji23) : Int).toNat) (⟨#[113]⟩ : ByteArray) t237 _ A52.out).mono ?_); rintro e w' ⟨rfl, ⟨nd, rfl⟩⟩) | (go_at_call 23; (with_reducible refine (paths_Within.calls x12_9 t237 true _ A53.out).mono ?_); rintro e w' ⟨rfl, ⟨nd, rfl⟩⟩) | (go_at_call 23; (with_reducible refine (paths_Within.calls t227 (a3.extract 0 ((ji23) : Int).toNat) true _ A55.out).mono ?_); rintro e w' ⟨rfl, ⟨nd, rfl⟩⟩) | (go_at_call 23; (with_reducible refine (paths_Within.calls (a3.extract 0 ((ji23) : Int).toNat) (a3.extract 0 ((ji23) : Int).toNat) t240 _ A57.out).mono ?_); rintro e w' ⟨rfl, ⟨nd, rfl⟩⟩))
                      go_ret
                      exact ⟨by first | rfl | (simp [errW_none, errW_some] <;> rfl) | (simp [bne]; done) | (simp only [← hji7, ← hji15, ← hji19, ← hji23]; first | rfl | (simp [errW_none, errW_some] <;> rfl) | (simp [bne]; done)) | (simp [*, errW_none, errW_some] <;> rfl), by repeat (first | (with_reducible first | exact HB.out | apply below_alloc | apply pw_below_drewN | apply below_drew1) | exact HB.out)⟩
                     ·replace c56 := Bool.eq_false_iff.mpr c56
                      subst c56
                      have H1 : ((paths_Within.f (a3.extract 0 ((ji23) : Int).toNat) (a3.extract 0 ((ji23) : Int).toNat)).bind fun t241 => (some (!t241))) = some r := by rw [if_neg (show ¬ (false = true) by decide)] at H; exact H
                      clear H
                      have H := H1
                      clear H1
                      replace H := Option.bind_eq_some_iff.mp H
                      obtain ⟨t241, A580, H⟩ := H
                      replace H : (some (!t241)) = some r := H
                      have A58 := Aside0.mk A580
                      clear A580
                      obtain rfl := Option.some.inj H
                      go_wp2_with (first | (go_at_call 23; (with_reducible refine (paths_Within.calls x12_9 (a3.extract 0 ((ji23) : Int).toNat) true _ A50.out).mono ?_); rintro e w' ⟨rfl, ⟨nd, rfl⟩⟩) | (go_at_call 25; (with_reducible refine (paths_Join.calls (a3.extract 0 ((ji23) : Int).toNat) (⟨#[113]⟩ : ByteArray) t237 _ A52.out).mono ?_); rintro e w' ⟨rfl, ⟨nd, rfl⟩⟩) | (go_at_call 23; (with_reducible refine (paths_Within.calls x12_9 t237 true _ A53.out).mono ?_); rintro e w' ⟨rfl, ⟨nd, rfl⟩⟩) | (go_at_call 23; (with_reducible refine (paths_Within.calls t227 (a3.extract 0 ((ji23) : Int).toNat) false _ A55.out).mono ?_); rintro e w' ⟨rfl, ⟨nd, rfl⟩⟩) | (go_at_call 23; (with_reducible refine (paths_Within.calls (a3.extract 0 ((ji23) : Int).toNat) (a3.extract 0 ((ji23) : Int).toNat) t241 _ A58.out).mono ?_); rintro e w' ⟨rfl, ⟨nd, rfl⟩⟩))
                      go_ret
                      exact ⟨by first | rfl | (simp [errW_none, errW_some] <;> rfl) | (simp [bne]; done) | (simp only [← hji7, ← hji15, ← hji19, ← hji23]; first | rfl | (simp [errW_none, errW_some] <;> rfl) | (simp [bne]; done)) | (simp [*, errW_none, errW_some] <;> rfl), by repeat (first | (with_reducible first | exact HB.out | apply below_alloc | apply pw_below_drewN | apply below_drew1) | exact HB.out)⟩
                    ·replace c54 := Bool.eq_false_iff.mpr c54
                     subst c54
                     have H1 : (some false) = some r := by rw [if_neg (show ¬ (false = true) by decide)] at H; exact H
                     clear H
                     have H := H1
                     clear H1
                     obtain rfl := Option.some.inj H
                     go_wp2_with (first | (go_at_call 23; (with_reducible refine (paths_Within.calls x12_9 (a3.extract 0 ((ji23) : Int).toNat) true _ A50.out).mono ?_); rintro e w' ⟨rfl, ⟨nd, rfl⟩⟩) | (go_at_call 25; (with_reducible refine (paths_Join.calls (a3.extract 0 ((ji23) : Int).toNat) (⟨#[113]⟩ : ByteArray) t237 _ A52.out).mono ?_); rintro e w' ⟨rfl, ⟨nd, rfl⟩⟩) | (go_at_call 23; (with_reducible refine (paths_Within.calls x12_9 t237 false _ A53.out).mono ?_); rintro e w' ⟨rfl, ⟨nd, rfl⟩⟩))
                     go_ret
                     exact ⟨by first | rfl | (simp [errW_none, errW_some] <;> rfl) | (simp [bne]; done) | (simp only [← hji7, ← hji15, ← hji19, ← hji23]; first | rfl | (simp [errW_none, errW_some] <;> rfl) | (simp [bne]; done)) | (simp [*, errW_none, errW_some] <;> rfl), by repeat (first | (with_reducible first | exact HB.out | apply below_alloc | apply pw_below_drewN | apply below_drew1) | exact HB.out)⟩
                   ·replace c51 := Bool.eq_false_iff.mpr c51
                    subst c51
                    have H1 : ((paths_Within.f t227 (a3.extract 0 ((ji23) : Int).toNat)).bind fun t242 => (if t242 = true then (some false) else ((paths_Within.f (a3.extract 0 ((ji23) : Int).toNat) (a3.extract 0 ((ji23) : Int).toNat)).bind fun t243 => (some (!t243))))) = some r := by rw [if_neg (show ¬ (false = true) by decide)] at H; exact H
                    clear H
                    have H := H1
                    clear H1
                    replace H := Option.bind_eq_some_iff.mp H
                    obtain ⟨t242, A590, H⟩ := H
                    replace H : (if t242 = true then (some false) else ((paths_Within.f (a3.extract 0 ((ji23) : Int).toNat) (a3.extract 0 ((ji23) : Int).toNat)).bind fun t243 => (some (!t243)))) = some r := H
                    have A59 := Aside0.mk A590
                    clear A590
                    by_cases c60 : t242 = true
                    ·subst c60
                     have H1 : (some false) = some r := by rw [if_pos rfl] at H; exact H
                     clear H
                     have H := H1
                     clear H1
                     obtain rfl := Option.some.inj H
                     go_wp2_with (first | (go_at_call 23; (with_reducible refine (paths_Within.calls x12_9 (a3.extract 0 ((ji23) : Int).toNat) false _ A50.out).mono ?_); rintro e w' ⟨rfl, ⟨nd, rfl⟩⟩) | (go_at_call 23; (with_reducible refine (paths_Within.calls t227 (a3.extract 0 ((ji23) : Int).toNat) true _ A59.out).mono ?_); rintro e w' ⟨rfl, ⟨nd, rfl⟩⟩))
                     go_ret
                     exact ⟨by first | rfl | (simp [errW_none, errW_some] <;> rfl) | (simp [bne]; done) | (simp only [← hji7, ← hji15, ← hji19, ← hji23]; first | rfl | (simp [errW_none, errW_some] <;> rfl) | (simp [bne]; done)) | (simp [*, errW_none, errW_some] <;> rfl), by repeat (first | (with_reducible first | exact HB.out | apply below_alloc | apply pw_below_drewN | apply below_drew1) | exact HB.out)⟩
                    ·replace c60 := Bool.eq_false_iff.mpr c60
                     subst c60
                     have H1 : ((paths_Within.f (a3.extract 0 ((ji23) : Int).toNat) (a3.extract 0 ((ji23) : Int).toNat)).bind fun t243 => (some (!t243))) = some r := by rw [if_neg (show ¬ (false = true) by decide)] at H; exact H
                     clear H
                     have H := H1
                     clear H1
                     replace H := Option.bind_eq_some_iff.mp H
                     obtain ⟨t243, A610, H⟩ := H
                     replace H : (some (!t243)) = some r := H
                     have A61 := Aside0.mk A610
                     clear A610
                     obtain rfl := Option.some.inj H
                     go_wp2_with (first | (go_at_call 23; (with_reducible refine (paths_Within.calls x12_9 (a3.extract 0 ((ji23) : Int).toNat) false _ A50.out).mono ?_); rintro e w' ⟨rfl, ⟨nd, rfl⟩⟩) | (go_at_call 23; (with_reducible refine (paths_Within.calls t227 (a3.extract 0 ((ji23) : Int).toNat) false _ A59.out).mono ?_); rintro e w' ⟨rfl, ⟨nd, rfl⟩⟩) | (go_at_call 23; (with_reducible refine (paths_Within.calls (a3.extract 0 ((ji23) : Int).toNat) (a3.extract 0 ((ji23) : Int).toNat) t243 _ A61.out).mono ?_); rintro e w' ⟨rfl, ⟨nd, rfl⟩⟩))
                     go_ret
                     exact ⟨by first | rfl | (simp [errW_none, errW_some] <;> rfl) | (simp [bne]; done) | (simp only [← hji7, ← hji15, ← hji19, ← hji23]; first | rfl | (simp [errW_none, errW_some] <;> rfl) | (simp [bne]; done)) | (simp [*, errW_none, errW_some] <;> rfl), by repeat (first | (with_reducible first | exact HB.out | apply below_alloc | apply pw_below_drewN | apply below_drew1) | exact HB.out)⟩
                  ·replace c49 := Bool.eq_false_iff.mpr c49
                   subst c49
                   have H1 : (some false) = some r := by rw [if_neg (show ¬ (false = true) by decide)] at H; exact H
                   clear H
                   have H := H1
                   clear H1
                   obtain rfl := Option.some.inj H
                   go_wp2
                   go_ret
                   exact ⟨by first | rfl | (simp [errW_none, errW_some] <;> rfl) | (simp [bne]; done) | (simp only [← hji7, ← hji15, ← hji19, ← hji23]; first | rfl | (simp [errW_none, errW_some] <;> rfl) | (simp [bne]; done)) | (simp [*, errW_none, errW_some] <;> rfl), by repeat (first | (with_reducible first | exact HB.out | apply below_alloc | apply pw_below_drewN | apply below_drew1) | exact HB.out)⟩
          ·rw [if_neg c25] at H
           exact absurd H (by simp)
         ·rw [if_neg c24] at H
          exact absurd H (by simp)
        ·rw [if_neg c21] at H
         exact absurd H (by simp)
       ·rw [if_neg c20] at H
        exact absurd H (by simp)
      ·rw [if_neg c17] at H
       exact absurd H (by simp)
     ·rw [if_neg c16] at H
      exact absurd H (by simp)
  ·rw [if_neg c9] at H
   exact absurd H (by simp)
 ·rw [if_neg c8] at H
  exact absurd H (by simp)

/-- THE ONE PURE STATEMENT of collatorlaw01_PathsWithin: yours. -/
def collatorlaw01_PathsWithin.Pure : Prop := ∀ (a0 : ByteArray) (a1 : ByteArray) (a2 : ByteArray) (a3 : ByteArray) (l4 : List Int), a0.size ≤ 140737488351232 → a1.size ≤ 140737488351232 → a2.size ≤ 140737488351232 → a3.size ≤ 140737488351232 → l4.length ≤ maxLen → l4.length * 8 ≤ 140737488351232 → (∀ x ∈ l4, (Lit.int .i64 x).wf = true) → ∃ k, collatorlaw01_PathsWithin.f k a0 a1 a2 a3 l4 = some true
theorem collatorlaw01_PathsWithin.walk (P : collatorlaw01_PathsWithin.Pure) (a0 : ByteArray) (a1 : ByteArray) (a2 : ByteArray) (a3 : ByteArray) (a4 : Option Addr) (len4 cap4 : Nat) (z4 : List Int) (w : World) (w0 : a0.size ≤ 140737488351232) (w1 : a1.size ≤ 140737488351232) (w2 : a2.size ≤ 140737488351232) (w3 : a3.size ≤ 140737488351232) (w4 : (a4 = none ∧ len4 = 0 ∧ cap4 = 0 ∧ z4 = []) ∨ ∃ x, a4 = some x ∧ len4 ≤ cap4 ∧ cap4 ≤ maxLen ∧ z4.length = cap4 ∧ (∀ i, i < z4.length → w.cell? (x.add i) = some (.int .i64 (z4.getD i 0))) ∧ ∀ n ∈ z4, (Lit.int .i64 n).wf = true) (y4 : len4 * 8 ≤ 140737488351232) :
  Calls Tryd.prog 5 #[.string a0, .string a1, .string a2, .string a3, .slice a4 len4 cap4] w fun e w' => e = .returned (.bool true) ∧ Below w.heap.size w w' := by
 obtain ⟨l4, rfl, hr4, hm4, hw4, hc4⟩ := ReadsInt.ofRowC w4
 obtain ⟨k, h⟩ := P a0 a1 a2 a3 l4 w0 w1 w2 w3 hm4 y4 hw4
 refine (collatorlaw01_PathsWithin.calls k a0 a1 a2 a3 _ _ l4 true w (Kd.C_of_reads (d := (0 : Int)) (h1 := fun _ => rfl) hr4) hc4 h).mono ?_
 rintro e w' ⟨rfl, hd⟩
 exact ⟨rfl, hd⟩

end Go.Proofs.YtjfeddpelakdjaaDoor.P
