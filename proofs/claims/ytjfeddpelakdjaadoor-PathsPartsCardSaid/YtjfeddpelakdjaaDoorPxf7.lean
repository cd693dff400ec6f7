/- Laid for this claim by hp.py, this session's program round the kit's print: functions of the program as plain Lean functions, the proofs that the code comes to their answers, and the rows of the laws. Not trusted: Lean checks it. -/
import Derived.Test.YtjfeddpelakdjaaDoorPx0
import Derived.Test.YtjfeddpelakdjaaDoorPxf10
import Derived.Test.YtjfeddpelakdjaaDoorPxf27
import Derived.Test.YtjfeddpelakdjaaDoorPxf11
import Derived.Test.YtjfeddpelakdjaaDoorPxf12
namespace Go.Proofs.YtjfeddpelakdjaaDoor.P
open Go.RowKit Go.Proofs.YtjfeddpelakdjaaDoorW.PrintWords Go.Proofs.YtjfeddpelakdjaaDoorW.PrintLast Go.Proofs.YtjfeddpelakdjaaDoorW.PrintMore
attribute [local go_sem] max2_int min2_int max_two min_two max_three min_three max_four min_four   -- for this text's walks alone
set_option linter.unusedVariables false
set_option linter.unusedSimpArgs false

/-! ### collatorlaw01_PathsParts: function 7 -/
mutual
def collatorlaw01_PathsParts.l0 : Nat → Int → Bool → ByteArray → ByteArray → ByteArray → Int → Option (Bool)
 | 0, _, _, _, _, _, _ => none
 | k + 1, x2, x7, x8, x9, x10, x11 => (collatorlaw01_pick.f x2 9).bind fun t279 => (if x11 < (wrap64 (60 + t279)) then (if x10.size + 1 ≤ 9223372036854775807 then (collatorlaw01_PathsParts.l0 k x2 x7 x8 x9 (x10 ++ (⟨#[120]⟩ : ByteArray)) (wrap64 (x11 + 1))) else (none)) else ((some (([(⟨#[]⟩ : ByteArray), (⟨#[46]⟩ : ByteArray), (⟨#[46, 46]⟩ : ByteArray), (⟨#[97, 0, 98]⟩ : ByteArray), (⟨#[120, 47]⟩ : ByteArray), (⟨#[47, 120]⟩ : ByteArray)] : List ByteArray) : List ByteArray)).bind fun y280 => (collatorlaw01_PathsParts.l1 k x7 x8 x9 x10 y280 (y280.length : Int) 0)))
def collatorlaw01_PathsParts.l1 : Nat → Bool → ByteArray → ByteArray → ByteArray → List ByteArray → Int → Int → Option (Bool)
 | 0, _, _, _, _, _, _, _ => none
 | k + 1, x7, x8, x9, x10, x28, x29, x30 => if x30 < x29 then (if 0 ≤ x30 then (if x30 < (x28.length : Int) then (if x8.size + 1 ≤ 9223372036854775807 then (if (x8 ++ (⟨#[47]⟩ : ByteArray)).size + (rdOf ByteArray.empty x28 x30).size ≤ 9223372036854775807 then (if ((x8 ++ (⟨#[47]⟩ : ByteArray)) ++ (rdOf ByteArray.empty x28 x30)).size + 1 ≤ 9223372036854775807 then (if (((x8 ++ (⟨#[47]⟩ : ByteArray)) ++ (rdOf ByteArray.empty x28 x30)) ++ (⟨#[47]⟩ : ByteArray)).size + x9.size ≤ 9223372036854775807 then ((paths_Check.f k ((((x8 ++ (⟨#[47]⟩ : ByteArray)) ++ (rdOf ByteArray.empty x28 x30)) ++ (⟨#[47]⟩ : ByteArray)) ++ x9)).bind fun t287 => (if t287 = 2 then (if (rdOf ByteArray.empty x28 x30).size + 1 ≤ 9223372036854775807 then (if ((rdOf ByteArray.empty x28 x30) ++ (⟨#[47]⟩ : ByteArray)).size + x9.size ≤ 9223372036854775807 then ((paths_Check.f k (((rdOf ByteArray.empty x28 x30) ++ (⟨#[47]⟩ : ByteArray)) ++ x9)).bind fun t288 => (if t288 = 2 then ((paths_Check.f k ((x8 ++ (⟨#[47]⟩ : ByteArray)) ++ (rdOf ByteArray.empty x28 x30))).bind fun t289 => (if t289 = 2 then (collatorlaw01_PathsParts.l1 k x7 x8 x9 x10 x28 x29 (wrap64 (x30 + 1))) else (some false))) else (some false))) else (none)) else (none)) else (some false))) else (none)) else (none)) else (none)) else (none)) else (none)) else (none)) else (if x7 = true then (if x8.size + 1 ≤ 9223372036854775807 then (if (x8 ++ (⟨#[47]⟩ : ByteArray)).size + x10.size ≤ 9223372036854775807 then ((paths_Check.f k ((x8 ++ (⟨#[47]⟩ : ByteArray)) ++ x10)).bind fun t283 => (if ((t283 == 0) == (decide ((x10.size : Int) ≤ 64))) = true then ((paths_Check.f k x8).bind fun t284 => (if t284 = 0 then (if (x8 ++ (⟨#[47]⟩ : ByteArray)).size + x9.size ≤ 9223372036854775807 then ((paths_Check.f k ((x8 ++ (⟨#[47]⟩ : ByteArray)) ++ x9)).bind fun t285 => (some (t285 == 0))) else (none)) else (some false))) else (some false))) else (none)) else (none)) else (some false))
end
def collatorlaw01_PathsParts.f (k : Nat) (l0 : List Int) (l1 : List Int) (a2 : Int) : Option (Bool) := (collatorlaw01_awake.f k).bind fun t276 => ((collatorlaw01_Path.f k l0).bind fun t277 => ((collatorlaw01_Path.f k l1).bind fun t278 => (collatorlaw01_PathsParts.l0 k a2 t276 t277 t278 (⟨#[]⟩ : ByteArray) 0)))
theorem collatorlaw01_PathsParts.mono_l : ∀ k, (∀ y0 y1 y2 y3 y4 y5, LeO (collatorlaw01_PathsParts.l0 k y0 y1 y2 y3 y4 y5) (collatorlaw01_PathsParts.l0 (k + 1) y0 y1 y2 y3 y4 y5)) ∧ (∀ y0 y1 y2 y3 y4 y5 y6, LeO (collatorlaw01_PathsParts.l1 k y0 y1 y2 y3 y4 y5 y6) (collatorlaw01_PathsParts.l1 (k + 1) y0 y1 y2 y3 y4 y5 y6))
 | 0 => ⟨fun _ _ _ _ _ _ r h => by simp [collatorlaw01_PathsParts.l0] at h, fun _ _ _ _ _ _ _ r h => by simp [collatorlaw01_PathsParts.l1] at h⟩
 | k + 1 => by
  obtain ⟨ih0, ih1⟩ := collatorlaw01_PathsParts.mono_l k
  refine ⟨?_, ?_⟩
  ·intro y0 y1 y2 y3 y4 y5
   unfold collatorlaw01_PathsParts.l0
   repeat' first
   | (with_reducible exact ih0 _ _ _ _ _ _)
   | (with_reducible exact ih1 _ _ _ _ _ _ _)
   | (with_reducible exact collatorlaw01_Path.mono _ _)
   | (with_reducible exact collatorlaw01_awake.mono _)
   | (with_reducible exact paths_Check.mono _ _)
   | (with_reducible exact LeO.refl _)
   | (with_reducible exact LeO.none _)
   | (with_reducible refine LeO.ite ?_ ?_)
   | (with_reducible refine LeO.bind ?_ (fun _ => ?_))
   | exact ih0 _ _ _ _ _ _
   | exact ih1 _ _ _ _ _ _ _
   | exact collatorlaw01_Path.mono _ _
   | exact collatorlaw01_awake.mono _
   | exact paths_Check.mono _ _
   | exact LeO.none _
   | refine LeO.ite ?_ ?_
   | refine LeO.bind ?_ (fun _ => ?_)
  ·intro y0 y1 y2 y3 y4 y5 y6
   unfold collatorlaw01_PathsParts.l1
   repeat' first
   | (with_reducible exact ih0 _ _ _ _ _ _)
   | (with_reducible exact ih1 _ _ _ _ _ _ _)
   | (with_reducible exact collatorlaw01_Path.mono _ _)
   | (with_reducible exact collatorlaw01_awake.mono _)
   | (with_reducible exact paths_Check.mono _ _)
   | (with_reducible exact LeO.refl _)
   | (with_reducible exact LeO.none _)
   | (with_reducible refine LeO.ite ?_ ?_)
   | (with_reducible refine LeO.bind ?_ (fun _ => ?_))
   | exact ih0 _ _ _ _ _ _
   | exact ih1 _ _ _ _ _ _ _
   | exact collatorlaw01_Path.mono _ _
   | exact collatorlaw01_awake.mono _
   | exact paths_Check.mono _ _
   | exact LeO.none _
   | refine LeO.ite ?_ ?_
   | refine LeO.bind ?_ (fun _ => ?_)
theorem collatorlaw01_PathsParts.mono : ∀ a0 a1 a2 k, LeO (collatorlaw01_PathsParts.f k a0 a1 a2) (collatorlaw01_PathsParts.f (k + 1) a0 a1 a2) := by
 intro a0 a1 a2 k
 obtain ⟨ih0, ih1⟩ := collatorlaw01_PathsParts.mono_l k
 unfold collatorlaw01_PathsParts.f
 repeat' first
   | (with_reducible exact ih0 _ _ _ _ _ _)
   | (with_reducible exact ih1 _ _ _ _ _ _ _)
   | (with_reducible exact collatorlaw01_Path.mono _ _)
   | (with_reducible exact collatorlaw01_awake.mono _)
   | (with_reducible exact paths_Check.mono _ _)
   | (with_reducible exact LeO.refl _)
   | (with_reducible exact LeO.none _)
   | (with_reducible refine LeO.ite ?_ ?_)
   | (with_reducible refine LeO.bind ?_ (fun _ => ?_))
   | exact ih0 _ _ _ _ _ _
   | exact ih1 _ _ _ _ _ _ _
   | exact collatorlaw01_Path.mono _ _
   | exact collatorlaw01_awake.mono _
   | exact paths_Check.mono _ _
   | exact LeO.none _
   | refine LeO.ite ?_ ?_
   | refine LeO.bind ?_ (fun _ => ?_)
set_option maxHeartbeats 8000000 in
set_option maxRecDepth 100000 in
theorem collatorlaw01_PathsParts.calls (k : Nat) (A0 : Option Addr) (c0 : Nat) (l0 : List Int) (A1 : Option Addr) (c1 : Nat) (l1 : List Int) (a2 : Int) (r : Bool) (w : World) (hr0 : Kd.C (Kd.int .i64) w A0 l0.length l0) (hc0 : l0.length ≤ c0) (hr1 : Kd.C (Kd.int .i64) w A1 l1.length l1) (hc1 : l1.length ≤ c1) (h : collatorlaw01_PathsParts.f k l0 l1 a2 = some r) :
  Calls Tryd.prog 7 #[.slice A0 l0.length c0, .slice A1 l1.length c1, .int .i64 a2] w fun e w' => e = .returned (.bool r) ∧ Below w.heap.size w w' := by
 have HR0 := Aside0.mk hr0
 have HC0 := Aside0.mk hc0
 clear hr0 hc0
 have HR1 := Aside0.mk hr1
 have HC1 := Aside0.mk hc1
 clear hr1 hc1
 have HB := Aside0.mk (Below.refl w.heap.size w)
 have H : ((collatorlaw01_awake.f k).bind fun t276 => ((collatorlaw01_Path.f k l0).bind fun t277 => ((collatorlaw01_Path.f k l1).bind fun t278 => (collatorlaw01_PathsParts.l0 k a2 t276 t277 t278 (⟨#[]⟩ : ByteArray) 0)))) = some r := h
 clear h
 replace H := Option.bind_eq_some_iff.mp H
 obtain ⟨t276, A40, H⟩ := H
 replace H : ((collatorlaw01_Path.f k l0).bind fun t277 => ((collatorlaw01_Path.f k l1).bind fun t278 => (collatorlaw01_PathsParts.l0 k a2 t276 t277 t278 (⟨#[]⟩ : ByteArray) 0))) = some r := H
 have A4 := Aside0.mk A40
 clear A40
 replace H := Option.bind_eq_some_iff.mp H
 obtain ⟨t277, A50, H⟩ := H
 replace H : ((collatorlaw01_Path.f k l1).bind fun t278 => (collatorlaw01_PathsParts.l0 k a2 t276 t277 t278 (⟨#[]⟩ : ByteArray) 0)) = some r := H
 have A5 := Aside0.mk A50
 clear A50
 replace H := Option.bind_eq_some_iff.mp H
 obtain ⟨t278, A60, H⟩ := H
 replace H : (collatorlaw01_PathsParts.l0 k a2 t276 t277 t278 (⟨#[]⟩ : ByteArray) 0) = some r := H
 have A6 := Aside0.mk A60
 clear A60
 have H' := Aside0.mk H
 clear H
 go_enter Tryd.func7, Tryd.ntmps7
 go_wp2_with (first | ((with_reducible refine gate_callee (f := 10) rfl ?_); refine goesL_ _ rfl rfl Tryd.func10 (by kernel_rfl) rfl #[] rfl (by (try simp only [List.map_toArray, List.map_cons, List.map_nil]); first | done | rfl | (simp only [List.length_drop, List.length_take]; rfl)) ?_; (with_reducible refine (collatorlaw01_awake.calls k  t276 _ A4.out).mono ?_); rintro e w7 ⟨rfl, hb⟩; refine ⟨_, rfl, ?_⟩; have n0_ := Aside0.mk (below_step (by repeat (first | (with_reducible first | exact HB.out | apply below_alloc | apply pw_below_drewN | apply below_drew1) | exact HB.out)) hb); clear HB; have HB := n0_; clear n0_; (try clear hb); (try clear hb2); (try clear hk); (try clear hi)) | ((with_reducible refine gate_callee (f := 11) rfl ?_); refine goesL_ _ rfl rfl Tryd.func11 (by kernel_rfl) rfl #[.slice A0 l0.length c0] rfl (by (try simp only [List.map_toArray, List.map_cons, List.map_nil]); first | done | rfl | (simp only [List.length_drop, List.length_take]; rfl)) ?_; (with_reducible refine (collatorlaw01_Path.calls k _ _ l0 t277 _ ?side1 ?side2 A5.out).mono ?_); (case side1 => repeat (first | exact (Kd.C_below HR0.out HB.out) | (with_reducible refine Kd.C_alloc ?_ _) | (with_reducible refine Kd.C_drewN ?_ _) | (with_reducible refine Kd.C_drew ?_))); (case side2 => exact HC0.out); rintro e w8 ⟨rfl, hb⟩; refine ⟨_, rfl, ?_⟩; have n0_ := Aside0.mk (below_step (by repeat (first | (with_reducible first | exact HB.out | apply below_alloc | apply pw_below_drewN | apply below_drew1) | exact HB.out)) hb); clear HB; have HB := n0_; clear n0_; (try clear hb); (try clear hb2); (try clear hk); (try clear hi)) | ((with_reducible refine gate_callee (f := 11) rfl ?_); refine goesL_ _ rfl rfl Tryd.func11 (by kernel_rfl) rfl #[.slice A1 l1.length c1] rfl (by (try simp only [List.map_toArray, List.map_cons, List.map_nil]); first | done | rfl | (simp only [List.length_drop, List.length_take]; rfl)) ?_; (with_reducible refine (collatorlaw01_Path.calls k _ _ l1 t278 _ ?side1 ?side2 A6.out).mono ?_); (case side1 => repeat (first | exact (Kd.C_below HR1.out HB.out) | (with_reducible refine Kd.C_alloc ?_ _) | (with_reducible refine Kd.C_drewN ?_ _) | (with_reducible refine Kd.C_drew ?_))); (case side2 => exact HC1.out); rintro e w9 ⟨rfl, hb⟩; refine ⟨_, rfl, ?_⟩; have n0_ := Aside0.mk (below_step (by repeat (first | (with_reducible first | exact HB.out | apply below_alloc | apply pw_below_drewN | apply below_drew1) | exact HB.out)) hb); clear HB; have HB := n0_; clear n0_; (try clear hb); (try clear hb2); (try clear hk); (try clear hi)))
 go_loopg [10, 11] k (fun kq v10 v11 w' => ∃ (x10_1 : ByteArray) (x11_1 : Int), v10 = .string x10_1 ∧ v11 = .int .i64 x11_1 ∧ Aside0 (collatorlaw01_PathsParts.l0 kq a2 t276 t277 t278 x10_1 x11_1 = some r) ∧ Aside0 (kq ≤ k) ∧ Aside0 (Below w.heap.size w w'))
 case atStart => exact ⟨((⟨#[]⟩ : ByteArray)), (0), (by first | rfl | (simp; done) | (simp [*]; done)), (by first | rfl | (simp; done) | (simp [*]; done)), H', ⟨Nat.le_refl _⟩, ⟨by repeat (first | (with_reducible first | exact HB.out | apply below_alloc | apply pw_below_drewN | apply below_drew1) | exact HB.out)⟩⟩
 case round =>
  clear H'
  (try clear c1);(try clear p2);(try clear c7)
  obtain ⟨x10_1, x11_1, rfl, rfl, HA, HK1, HB⟩ := hrel
  cases gk with
  | zero => exact absurd HA.out (by simp [collatorlaw01_PathsParts.l0])
  | succ k1 =>
   have H := HA.out
   clear HA
   simp only [collatorlaw01_PathsParts.l0] at H
   replace H := Option.bind_eq_some_iff.mp H
   obtain ⟨t279, A100, H⟩ := H
   replace H : (if x11_1 < (wrap64 (60 + t279)) then (if x10_1.size + 1 ≤ 9223372036854775807 then (collatorlaw01_PathsParts.l0 k1 a2 t276 t277 t278 (x10_1 ++ (⟨#[120]⟩ : ByteArray)) (wrap64 (x11_1 + 1))) else (none)) else ((some (([(⟨#[]⟩ : ByteArray), (⟨#[46]⟩ : ByteArray), (⟨#[46, 46]⟩ : ByteArray), (⟨#[97, 0, 98]⟩ : ByteArray), (⟨#[120, 47]⟩ : ByteArray), (⟨#[47, 120]⟩ : ByteArray)] : List ByteArray) : List ByteArray)).bind fun y280 => (collatorlaw01_PathsParts.l1 k1 t276 t277 t278 x10_1 y280 (y280.length : Int) 0))) = some r := H
   have A10 := Aside0.mk A100
   clear A100
   by_cases c11 : x11_1 < (wrap64 (60 + t279))
   ·rw [if_pos c11] at H
    have c11b0 : decide (x11_1 < (wrap64 (60 + t279))) = true := decide_eq_true c11
    clear c11
    by_cases c12 : x10_1.size + 1 ≤ 9223372036854775807
    ·rw [if_pos c12] at H
     have c12b0 := eq_true c12
     have c12b1 : decide (x10_1.size + 1 ≤ 9223372036854775807) = true := decide_eq_true c12
     try have c12b2 : (9223372036854775807 < x10_1.size + 1) = False := eq_false (Nat.not_lt.2 c12)
     have H' := Aside0.mk H
     clear H
     go_wp2_with (first | ((with_reducible refine gate_callee (f := 27) rfl ?_); refine goesL_ _ rfl rfl Tryd.func27 (by kernel_rfl) rfl #[.int .i64 a2, .int .i64 9] rfl (by (try simp only [List.map_toArray, List.map_cons, List.map_nil]); first | done | rfl | (simp only [List.length_drop, List.length_take]; rfl)) ?_; (with_reducible refine (collatorlaw01_pick.calls a2 9 t279 _ A10.out).mono ?_); rintro e w' ⟨rfl, ⟨nd, rfl⟩⟩; refine ⟨_, rfl, ?_⟩))
     go_roundg k1
     case measure => have := HK1.out; omega
     case rel => exact ⟨(x10_1 ++ (⟨#[120]⟩ : ByteArray)), (wrap64 (x11_1 + 1)), (by first | rfl | (simp; done) | (simp [*]; done)), (by first | rfl | (simp; done) | (simp [*]; done)), H', ⟨by have := HK1.out; omega⟩, ⟨by repeat (first | (with_reducible first | exact HB.out | apply below_alloc | apply pw_below_drewN | apply below_drew1) | exact HB.out)⟩⟩
    ·rw [if_neg c12] at H
     exact absurd H (by simp)
   ·rw [if_neg c11] at H
    have c11b0 : decide (x11_1 < (wrap64 (60 + t279))) = false := decide_eq_false c11
    clear c11
    obtain ⟨y280, hy280⟩ : ∃ y_ : List ByteArray, y_ = (([(⟨#[]⟩ : ByteArray), (⟨#[46]⟩ : ByteArray), (⟨#[46, 46]⟩ : ByteArray), (⟨#[97, 0, 98]⟩ : ByteArray), (⟨#[120, 47]⟩ : ByteArray), (⟨#[47, 120]⟩ : ByteArray)] : List ByteArray)) := ⟨_, rfl⟩
    replace H : (collatorlaw01_PathsParts.l1 k1 t276 t277 t278 x10_1 y280 (y280.length : Int) 0) = some r := by first | (rw [hy280]; with_reducible exact H) | (have H2_ := (Option.bind_some _ _).symm.trans H; rw [hy280]; with_reducible exact H2_) | (have H2_ := (Option.bind_some _ _).symm.trans H; with_reducible exact H2_) | with_reducible exact H | (rw [hy280]; exact H) | exact H
    have Ny280 := Aside0.mk hy280
    clear hy280
    have H' := Aside0.mk H
    clear H
    go_wp2_with (first | ((with_reducible refine gate_callee (f := 27) rfl ?_); refine goesL_ _ rfl rfl Tryd.func27 (by kernel_rfl) rfl #[.int .i64 a2, .int .i64 9] rfl (by (try simp only [List.map_toArray, List.map_cons, List.map_nil]); first | done | rfl | (simp only [List.length_drop, List.length_take]; rfl)) ?_; (with_reducible refine (collatorlaw01_pick.calls a2 9 t279 _ A10.out).mono ?_); rintro e w' ⟨rfl, ⟨nd, rfl⟩⟩; refine ⟨_, rfl, ?_⟩) | ((with_reducible refine gate_dst (N := 28) rfl ?_); (try (refine gate_guard (by rfl) ?_; dsimp only)); refine Kd.R_lit Kd.string _ 9 ?hg (N := 28) ?hd (xs := ([(⟨#[]⟩ : ByteArray), (⟨#[46]⟩ : ByteArray), (⟨#[46, 46]⟩ : ByteArray), (⟨#[97, 0, 98]⟩ : ByteArray), (⟨#[120, 47]⟩ : ByteArray), (⟨#[47, 120]⟩ : ByteArray)] : List ByteArray)) (inner := [.string (⟨#[]⟩ : ByteArray), .string (⟨#[46]⟩ : ByteArray), .string (⟨#[46, 46]⟩ : ByteArray), .string (⟨#[97, 0, 98]⟩ : ByteArray), .string (⟨#[120, 47]⟩ : ByteArray), .string (⟨#[47, 120]⟩ : ByteArray)]) (ok := fun _ => True) (okp := fun _ => True) ?hr ?hp (fun _ hk => hk) trivial (Below.refl _ _) (Nat.le_refl _) (by simp) ?_; (case hd => rfl); (case hg => rfl); (case hr => first | (go_simp; done) | (go_simp; rfl)); (case hp => exact (Reps.one (show Kd.M Kd.string _ _ _ (⟨#[]⟩ : ByteArray) [.string (⟨#[]⟩ : ByteArray)] from rfl) (Reps.one (show Kd.M Kd.string _ _ _ (⟨#[46]⟩ : ByteArray) [.string (⟨#[46]⟩ : ByteArray)] from rfl) (Reps.one (show Kd.M Kd.string _ _ _ (⟨#[46, 46]⟩ : ByteArray) [.string (⟨#[46, 46]⟩ : ByteArray)] from rfl) (Reps.one (show Kd.M Kd.string _ _ _ (⟨#[97, 0, 98]⟩ : ByteArray) [.string (⟨#[97, 0, 98]⟩ : ByteArray)] from rfl) (Reps.one (show Kd.M Kd.string _ _ _ (⟨#[120, 47]⟩ : ByteArray) [.string (⟨#[120, 47]⟩ : ByteArray)] from rfl) (Reps.one (show Kd.M Kd.string _ _ _ (⟨#[47, 120]⟩ : ByteArray) [.string (⟨#[47, 120]⟩ : ByteArray)] from rfl) (Reps.none _ _)))))))); intro v281 w13 ho14 hb hg_ hnew_; clear hg_ hnew_; (first | rw [← Ny280.out] at ho14 | (simp only [Int.reduceToNat] at ho14; rw [← Ny280.out] at ho14)); have n0_ := Aside0.mk (Kd.R_lower ho14 (below_size (by repeat (first | (with_reducible first | exact HB.out | apply below_alloc | apply pw_below_drewN | apply below_drew1) | exact HB.out)))); have n1_ := Aside0.mk (below_step (by repeat (first | (with_reducible first | exact HB.out | apply below_alloc | apply pw_below_drewN | apply below_drew1) | exact HB.out)) hb); clear HB; have HO282 := n0_; have HB := n1_; clear n0_ n1_; clear hb ho14; (try (obtain ⟨Ao15, co15, eo15⟩ := Kd.R_slice HO282.out; subst eo15))))
    go_loopg [30] k1 (fun kq v30 w' => ∃ (x30_2 : Int), v30 = .int .i64 x30_2 ∧ Aside0 (collatorlaw01_PathsParts.l1 kq t276 t277 t278 x10_1 y280 (y280.length : Int) x30_2 = some r) ∧ Aside0 (kq ≤ k1) ∧ Aside0 (Kd.R Kd.string 9 w' w.heap.size (fun _ => True) (.slice Ao15 y280.length co15) y280) ∧ Aside0 (Below w.heap.size w w'))
    case atStart => exact ⟨(0), (by first | rfl | (simp; done) | (simp [*]; done)), H', ⟨Nat.le_refl _⟩, ⟨by (with_reducible repeat (first | apply Kd.R_alloc | apply Kd.R_drewN | apply Kd.R_drew)); exact HO282.out⟩, ⟨by repeat (first | (with_reducible first | exact HB.out | apply below_alloc | apply pw_below_drewN | apply below_drew1) | exact HB.out)⟩⟩
    case round =>
     clear H'
     (try clear c1);(try clear c2);(try clear p2);(try clear p6);(try clear c7);(try clear c10);(try clear c11);(try clear c11b0);(try clear c12);(try clear c12b0);(try clear c12b1);(try clear c12b2);(try clear p2)
     obtain ⟨x30_2, rfl, HA, HK2, HO_28, HB⟩ := hrel
     cases gk with
     | zero => exact absurd HA.out (by simp [collatorlaw01_PathsParts.l1])
     | succ k2 =>
      have H := HA.out
      clear HA
      simp only [collatorlaw01_PathsParts.l1] at H
      by_cases c16 : x30_2 < (y280.length : Int)
      ·rw [if_pos c16] at H
       have c16b0 : decide (x30_2 < (y280.length : Int)) = true := decide_eq_true c16
       clear c16
       by_cases c17 : 0 ≤ x30_2
       ·rw [if_pos c17] at H
        have c17b0 : decide (0 ≤ x30_2) = true := decide_eq_true c17
        clear c17
        by_cases c18 : x30_2 < (y280.length : Int)
        ·rw [if_pos c18] at H
         have c18b0 : decide (x30_2 < (y280.length : Int)) = true := decide_eq_true c18
         clear c18
         by_cases c19 : t277.size + 1 ≤ 9223372036854775807
         ·rw [if_pos c19] at H
          have c19b0 := eq_true c19
          have c19b1 : decide (t277.size + 1 ≤ 9223372036854775807) = true := decide_eq_true c19
          try have c19b2 : (9223372036854775807 < t277.size + 1) = False := eq_false (Nat.not_lt.2 c19)
          by_cases c20 : (t277 ++ (⟨#[47]⟩ : ByteArray)).size + (rdOf ByteArray.empty y280 x30_2).size ≤ 9223372036854775807
          ·rw [if_pos c20] at H
           have c20b0 := eq_true c20
           have c20b1 : decide ((t277 ++ (⟨#[47]⟩ : ByteArray)).size + (rdOf ByteArray.empty y280 x30_2).size ≤ 9223372036854775807) = true := decide_eq_true c20
           try have c20b2 : (9223372036854775807 < (t277 ++ (⟨#[47]⟩ : ByteArray)).size + (rdOf ByteArray.empty y280 x30_2).size) = False := eq_false (Nat.not_lt.2 c20)
           (try (have c20b3 := c20b2; simp only [ByteArray.size_append, ByteArray.size_extract, Nat.sub_zero, show (⟨#[47]⟩ : ByteArray).size = 1 from rfl] at c20b3))
           by_cases c21 : ((t277 ++ (⟨#[47]⟩ : ByteArray)) ++ (rdOf ByteArray.empty y280 x30_2)).size + 1 ≤ 9223372036854775807
           ·rw [if_pos c21] at H
            have c21b0 := eq_true c21
            have c21b1 : decide (((t277 ++ (⟨#[47]⟩ : ByteArray)) ++ (rdOf ByteArray.empty y280 x30_2)).size + 1 ≤ 9223372036854775807) = true := decide_eq_true c21
            try have c21b2 : (9223372036854775807 < ((t277 ++ (⟨#[47]⟩ : ByteArray)) ++ (rdOf ByteArray.empty y280 x30_2)).size + 1) = False := eq_false (Nat.not_lt.2 c21)
            (try (have c21b3 := c21b2; simp only [ByteArray.size_append, ByteArray.size_extract, Nat.sub_zero, show (⟨#[47]⟩ : ByteArray).size = 1 from rfl] at c21b3))
            by_cases c22 : (((t277 ++ (⟨#[47]⟩ : ByteArray)) ++ (rdOf ByteArray.empty y280 x30_2)) ++ (⟨#[47]⟩ : ByteArray)).size + t278.size ≤ 9223372036854775807
            ·rw [if_pos c22] at H
             have c22b0 := eq_true c22
             have c22b1 : decide ((((t277 ++ (⟨#[47]⟩ : ByteArray)) ++ (rdOf ByteArray.empty y280 x30_2)) ++ (⟨#[47]⟩ : ByteArray)).size + t278.size ≤ 9223372036854775807) = true := decide_eq_true c22
             try have c22b2 : (9223372036854775807 < (((t277 ++ (⟨#[47]⟩ : ByteArray)) ++ (rdOf ByteArray.empty y280 x30_2)) ++ (⟨#[47]⟩ : ByteArray)).size + t278.size) = False := eq_false (Nat.not_lt.2 c22)
             (try (have c22b3 := c22b2; simp only [ByteArray.size_append, ByteArray.size_extract, Nat.sub_zero, show (⟨#[47]⟩ : ByteArray).size = 1 from rfl] at c22b3))
             replace H := Option.bind_eq_some_iff.mp H
             obtain ⟨t287, A230, H⟩ := H
             replace H : (if t287 = 2 then (if (rdOf ByteArray.empty y280 x30_2).size + 1 ≤ 9223372036854775807 then (if ((rdOf ByteArray.empty y280 x30_2) ++ (⟨#[47]⟩ : ByteArray)).size + t278.size ≤ 9223372036854775807 then ((paths_Check.f k2 (((rdOf ByteArray.empty y280 x30_2) ++ (⟨#[47]⟩ : ByteArray)) ++ t278)).bind fun t288 => (if t288 = 2 then ((paths_Check.f k2 ((t277 ++ (⟨#[47]⟩ : ByteArray)) ++ (rdOf ByteArray.empty y280 x30_2))).bind fun t289 => (if t289 = 2 then (collatorlaw01_PathsParts.l1 k2 t276 t277 t278 x10_1 y280 (y280.length : Int) (wrap64 (x30_2 + 1))) else (some false))) else (some false))) else (none)) else (none)) else (some false)) = some r := H
             have A23 := Aside0.mk A230
             clear A230
             by_cases c24 : t287 = 2
             ·rw [if_pos c24] at H
              have c24b0 : (t287 == 2) = true := beq_iff_eq.mpr c24
              have c24b1 : (t287 != 2) = false := bne_eq_false_iff_eq.mpr c24
              clear c24
              by_cases c25 : (rdOf ByteArray.empty y280 x30_2).size + 1 ≤ 9223372036854775807
              ·rw [if_pos c25] at H
               have c25b0 := eq_true c25
               have c25b1 : decide ((rdOf ByteArray.empty y280 x30_2).size + 1 ≤ 9223372036854775807) = true := decide_eq_true c25
               try have c25b2 : (9223372036854775807 < (rdOf ByteArray.empty y280 x30_2).size + 1) = False := eq_false (Nat.not_lt.2 c25)
               by_cases c26 : ((rdOf ByteArray.empty y280 x30_2) ++ (⟨#[47]⟩ : ByteArray)).size + t278.size ≤ 9223372036854775807
               ·rw [if_pos c26] at H
                have c26b0 := eq_true c26
                have c26b1 : decide (((rdOf ByteArray.empty y280 x30_2) ++ (⟨#[47]⟩ : ByteArray)).size + t278.size ≤ 9223372036854775807) = true := decide_eq_true c26
                try have c26b2 : (9223372036854775807 < ((rdOf ByteArray.empty y280 x30_2) ++ (⟨#[47]⟩ : ByteArray)).size + t278.size) = False := eq_false (Nat.not_lt.2 c26)
                (try (have c26b3 := c26b2; simp only [ByteArray.size_append, ByteArray.size_extract, Nat.sub_zero, show (⟨#[47]⟩ : ByteArray).size = 1 from rfl] at c26b3))
                replace H := Option.bind_eq_some_iff.mp H
                obtain ⟨t288, A270, H⟩ := H
                replace H : (if t288 = 2 then ((paths_Check.f k2 ((t277 ++ (⟨#[47]⟩ : ByteArray)) ++ (rdOf ByteArray.empty y280 x30_2))).bind fun t289 => (if t289 = 2 then (collatorlaw01_PathsParts.l1 k2 t276 t277 t278 x10_1 y280 (y280.length : Int) (wrap64 (x30_2 + 1))) else (some false))) else (some false)) = some r := H
                have A27 := Aside0.mk A270
                clear A270
                by_cases c28 : t288 = 2
                ·rw [if_pos c28] at H
                 have c28b0 : (t288 == 2) = true := beq_iff_eq.mpr c28
                 have c28b1 : (t288 != 2) = false := bne_eq_false_iff_eq.mpr c28
                 clear c28
                 replace H := Option.bind_eq_some_iff.mp H
                 obtain ⟨t289, A290, H⟩ := H
                 replace H : (if t289 = 2 then (collatorlaw01_PathsParts.l1 k2 t276 t277 t278 x10_1 y280 (y280.length : Int) (wrap64 (x30_2 + 1))) else (some false)) = some r := H
                 have A29 := Aside0.mk A290
                 clear A290
                 by_cases c30 : t289 = 2
                 ·rw [if_pos c30] at H
                  have c30b0 : (t289 == 2) = true := beq_iff_eq.mpr c30
                  have c30b1 : (t289 != 2) = false := bne_eq_false_iff_eq.mpr c30
                  clear c30
                  have H' := Aside0.mk H
                  clear H
                  have p286 : 0 ≤ (x30_2 : Int) := of_decide_eq_true (by first | (with_reducible assumption) | assumption)
                  have q286 : x30_2 < (y280.length : Int) := of_decide_eq_true (by first | (with_reducible assumption) | assumption)
                  obtain ⟨ad286, e286, hx286_0⟩ := Kd.at_string (Kd.R_reads' HO_28.out).2.2 x30_2 p286 q286
                  cases e286
                  replace p286 := eq_true p286
                  replace q286 := eq_true q286
                  go_wp2_with (first | ((with_reducible refine gate_callee (f := 12) rfl ?_); refine goesL_ _ rfl rfl Tryd.func12 (by kernel_rfl) rfl #[.string ((((t277 ++ (⟨#[47]⟩ : ByteArray)) ++ (rdOf ByteArray.empty y280 x30_2)) ++ (⟨#[47]⟩ : ByteArray)) ++ t278)] rfl (by (try simp only [List.map_toArray, List.map_cons, List.map_nil]); first | done | rfl | (simp only [List.length_drop, List.length_take]; rfl)) ?_; (with_reducible refine (paths_Check.calls k2 ((((t277 ++ (⟨#[47]⟩ : ByteArray)) ++ (rdOf ByteArray.empty y280 x30_2)) ++ (⟨#[47]⟩ : ByteArray)) ++ t278) t287 _ A23.out).mono ?_); rintro e w31 ⟨rfl, hb⟩; refine ⟨_, rfl, ?_⟩; have n0_ := Aside0.mk (Kd.R_below (by (with_reducible repeat (first | apply Kd.R_alloc | apply Kd.R_drewN | apply Kd.R_drew)); exact HO_28.out) hb); have n1_ := Aside0.mk (below_step (by repeat (first | (with_reducible first | exact HB.out | apply below_alloc | apply pw_below_drewN | apply below_drew1) | exact HB.out)) hb); clear HO_28; clear HB; have HO_28 := n0_; have HB := n1_; clear n0_ n1_; (try clear hb); (try clear hb2); (try clear hk); (try clear hi)) | (go_at_call 12; (with_reducible refine (paths_Check.calls k2 (((rdOf ByteArray.empty y280 x30_2) ++ (⟨#[47]⟩ : ByteArray)) ++ t278) t288 _ A27.out).mono ?_); rintro e w32 ⟨rfl, hb⟩; have n0_ := Aside0.mk (Kd.R_below (by (with_reducible repeat (first | apply Kd.R_alloc | apply Kd.R_drewN | apply Kd.R_drew)); exact HO_28.out) hb); have n1_ := Aside0.mk (below_step (by repeat (first | (with_reducible first | exact HB.out | apply below_alloc | apply pw_below_drewN | apply below_drew1) | exact HB.out)) hb); clear HO_28; clear HB; have HO_28 := n0_; have HB := n1_; clear n0_ n1_; (try clear hb); (try clear hb2); (try clear hk); (try clear hi)) | (go_at_call 12; (with_reducible refine (paths_Check.calls k2 ((t277 ++ (⟨#[47]⟩ : ByteArray)) ++ (rdOf ByteArray.empty y280 x30_2)) t289 _ A29.out).mono ?_); rintro e w33 ⟨rfl, hb⟩; have n0_ := Aside0.mk (Kd.R_below (by (with_reducible repeat (first | apply Kd.R_alloc | apply Kd.R_drewN | apply Kd.R_drew)); exact HO_28.out) hb); have n1_ := Aside0.mk (below_step (by repeat (first | (with_reducible first | exact HB.out | apply below_alloc | apply pw_below_drewN | apply below_drew1) | exact HB.out)) hb); clear HO_28; clear HB; have HO_28 := n0_; have HB := n1_; clear n0_ n1_; (try clear hb); (try clear hb2); (try clear hk); (try clear hi)))
                  go_roundg k2
                  case measure => have := HK1.out; have := HK2.out; omega
                  case rel => exact ⟨(wrap64 (x30_2 + 1)), (by first | rfl | (simp; done) | (simp [*]; done)), H', ⟨by have := HK1.out; have := HK2.out; omega⟩, ⟨by (with_reducible repeat (first | apply Kd.R_alloc | apply Kd.R_drewN | apply Kd.R_drew)); exact HO_28.out⟩, ⟨by repeat (first | (with_reducible first | exact HB.out | apply below_alloc | apply pw_below_drewN | apply below_drew1) | exact HB.out)⟩⟩
                 ·rw [if_neg c30] at H
                  have c30b0 : (t289 == 2) = false := beq_eq_false_iff_ne.mpr c30
                  have c30b1 : (t289 != 2) = true := bne_iff_ne.mpr c30
                  obtain rfl := Option.some.inj H
                  have p286 : 0 ≤ (x30_2 : Int) := of_decide_eq_true (by first | (with_reducible assumption) | assumption)
                  have q286 : x30_2 < (y280.length : Int) := of_decide_eq_true (by first | (with_reducible assumption) | assumption)
                  obtain ⟨ad286, e286, hx286_0⟩ := Kd.at_string (Kd.R_reads' HO_28.out).2.2 x30_2 p286 q286
                  cases e286
                  replace p286 := eq_true p286
                  replace q286 := eq_true q286
                  go_wp2_with (first | ((with_reducible refine gate_callee (f := 12) rfl ?_); refine goesL_ _ rfl rfl Tryd.func12 (by kernel_rfl) rfl #[.string ((((t277 ++ (⟨#[47]⟩ : ByteArray)) ++ (rdOf ByteArray.empty y280 x30_2)) ++ (⟨#[47]⟩ : ByteArray)) ++ t278)] rfl (by (try simp only [List.map_toArray, List.map_cons, List.map_nil]); first | done | rfl | (simp only [List.length_drop, List.length_take]; rfl)) ?_; (with_reducible refine (paths_Check.calls k2 ((((t277 ++ (⟨#[47]⟩ : ByteArray)) ++ (rdOf ByteArray.empty y280 x30_2)) ++ (⟨#[47]⟩ : ByteArray)) ++ t278) t287 _ A23.out).mono ?_); rintro e w34 ⟨rfl, hb⟩; refine ⟨_, rfl, ?_⟩; have n0_ := Aside0.mk (Kd.R_below (by (with_reducible repeat (first | apply Kd.R_alloc | apply Kd.R_drewN | apply Kd.R_drew)); exact HO_28.out) hb); have n1_ := Aside0.mk (below_step (by repeat (first | (with_reducible first | exact HB.out | apply below_alloc | apply pw_below_drewN | apply below_drew1) | exact HB.out)) hb); clear HO_28; clear HB; have HO_28 := n0_; have HB := n1_; clear n0_ n1_; (try clear hb); (try clear hb2); (try clear hk); (try clear hi)) | (go_at_call 12; (with_reducible refine (paths_Check.calls k2 (((rdOf ByteArray.empty y280 x30_2) ++ (⟨#[47]⟩ : ByteArray)) ++ t278) t288 _ A27.out).mono ?_); rintro e w35 ⟨rfl, hb⟩; have n0_ := Aside0.mk (Kd.R_below (by (with_reducible repeat (first | apply Kd.R_alloc | apply Kd.R_drewN | apply Kd.R_drew)); exact HO_28.out) hb); have n1_ := Aside0.mk (below_step (by repeat (first | (with_reducible first | exact HB.out | apply below_alloc | apply pw_below_drewN | apply below_drew1) | exact HB.out)) hb); clear HO_28; clear HB; have HO_28 := n0_; have HB := n1_; clear n0_ n1_; (try clear hb); (try clear hb2); (try clear hk); (try clear hi)) | (go_at_call 12; (with_reducible refine (paths_Check.calls k2 ((t277 ++ (⟨#[47]⟩ : ByteArray)) ++ (rdOf ByteArray.empty y280 x30_2)) t289 _ A29.out).mono ?_); rintro e w36 ⟨rfl, hb⟩; have n0_ := Aside0.mk (Kd.R_below (by (with_reducible repeat (first | apply Kd.R_alloc | apply Kd.R_drewN | apply Kd.R_drew)); exact HO_28.out) hb); have n1_ := Aside0.mk (below_step (by repeat (first | (with_reducible first | exact HB.out | apply below_alloc | apply pw_below_drewN | apply below_drew1) | exact HB.out)) hb); clear HO_28; clear HB; have HO_28 := n0_; have HB := n1_; clear n0_ n1_; (try clear hb); (try clear hb2); (try clear hk); (try clear hi)))
                  go_ret
                  exact ⟨by first | rfl | (simp [errW_none, errW_some] <;> rfl) | (simp [*, errW_none, errW_some] <;> rfl), by repeat (first | (with_reducible first | exact HB.out | apply below_alloc | apply pw_below_drewN | apply below_drew1) | exact HB.out)⟩
                ·rw [if_neg c28] at H
                 have c28b0 : (t288 == 2) = false := beq_eq_false_iff_ne.mpr c28
                 have c28b1 : (t288 != 2) = true := bne_iff_ne.mpr c28
                 obtain rfl := Option.some.inj H
                 have p286 : 0 ≤ (x30_2 : Int) := of_decide_eq_true (by first | (with_reducible assumption) | assumption)
                 have q286 : x30_2 < (y280.length : Int) := of_decide_eq_true (by first | (with_reducible assumption) | assumption)
                 obtain ⟨ad286, e286, hx286_0⟩ := Kd.at_string (Kd.R_reads' HO_28.out).2.2 x30_2 p286 q286
                 cases e286
                 replace p286 := eq_true p286
                 replace q286 := eq_true q286
                 go_wp2_with (first | ((with_reducible refine gate_callee (f := 12) rfl ?_); refine goesL_ _ rfl rfl Tryd.func12 (by kernel_rfl) rfl #[.string ((((t277 ++ (⟨#[47]⟩ : ByteArray)) ++ (rdOf ByteArray.empty y280 x30_2)) ++ (⟨#[47]⟩ : ByteArray)) ++ t278)] rfl (by (try simp only [List.map_toArray, List.map_cons, List.map_nil]); first | done | rfl | (simp only [List.length_drop, List.length_take]; rfl)) ?_; (with_reducible refine (paths_Check.calls k2 ((((t277 ++ (⟨#[47]⟩ : ByteArray)) ++ (rdOf ByteArray.empty y280 x30_2)) ++ (⟨#[47]⟩ : ByteArray)) ++ t278) t287 _ A23.out).mono ?_); rintro e w37 ⟨rfl, hb⟩; refine ⟨_, rfl, ?_⟩; have n0_ := Aside0.mk (Kd.R_below (by (with_reducible repeat (first | apply Kd.R_alloc | apply Kd.R_drewN | apply Kd.R_drew)); exact HO_28.out) hb); have n1_ := Aside0.mk (below_step (by repeat (first | (with_reducible first | exact HB.out | apply below_alloc | apply pw_below_drewN | apply below_drew1) | exact HB.out)) hb); clear HO_28; clear HB; have HO_28 := n0_; have HB := n1_; clear n0_ n1_; (try clear hb); (try clear hb2); (try clear hk); (try clear hi)) | (go_at_call 12; (with_reducible refine (paths_Check.calls k2 (((rdOf ByteArray.empty y280 x30_2) ++ (⟨#[47]⟩ : ByteArray)) ++ t278) t288 _ A27.out).mono ?_); rintro e w38 ⟨rfl, hb⟩; have n0_ := Aside0.mk (Kd.R_below (by (with_reducible repeat (first | apply Kd.R_alloc | apply Kd.R_drewN | apply Kd.R_drew)); exact HO_28.out) hb); have n1_ := Aside0.mk (below_step (by repeat (first | (with_reducible first | exact HB.out | apply below_alloc | apply pw_below_drewN | apply below_drew1) | exact HB.out)) hb); clear HO_28; clear HB; have HO_28 := n0_; have HB := n1_; clear n0_ n1_; (try clear hb); (try clear hb2); (try clear hk); (try clear hi)))
                 go_ret
                 exact ⟨by first | rfl | (simp [errW_none, errW_some] <;> rfl) | (simp [*, errW_none, errW_some] <;> rfl), by repeat (first | (with_reducible first | exact HB.out | apply below_alloc | apply pw_below_drewN | apply below_drew1) | exact HB.out)⟩
               ·rw [if_neg c26] at H
                exact absurd H (by simp)
              ·rw [if_neg c25] at H
               exact absurd H (by simp)
             ·rw [if_neg c24] at H
              have c24b0 : (t287 == 2) = false := beq_eq_false_iff_ne.mpr c24
              have c24b1 : (t287 != 2) = true := bne_iff_ne.mpr c24
              obtain rfl := Option.some.inj H
              have p286 : 0 ≤ (x30_2 : Int) := of_decide_eq_true (by first | (with_reducible assumption) | assumption)
              have q286 : x30_2 < (y280.length : Int) := of_decide_eq_true (by first | (with_reducible assumption) | assumption)
              obtain ⟨ad286, e286, hx286_0⟩ := Kd.at_string (Kd.R_reads' HO_28.out).2.2 x30_2 p286 q286
              cases e286
              replace p286 := eq_true p286
              replace q286 := eq_true q286
              go_wp2_with (first | ((with_reducible refine gate_callee (f := 12) rfl ?_); refine goesL_ _ rfl rfl Tryd.func12 (by kernel_rfl) rfl #[.string ((((t277 ++ (⟨#[47]⟩ : ByteArray)) ++ (rdOf ByteArray.empty y280 x30_2)) ++ (⟨#[47]⟩ : ByteArray)) ++ t278)] rfl (by (try simp only [List.map_toArray, List.map_cons, List.map_nil]); first | done | rfl | (simp only [List.length_drop, List.length_take]; rfl)) ?_; (with_reducible refine (paths_Check.calls k2 ((((t277 ++ (⟨#[47]⟩ : ByteArray)) ++ (rdOf ByteArray.empty y280 x30_2)) ++ (⟨#[47]⟩ : ByteArray)) ++ t278) t287 _ A23.out).mono ?_); rintro e w39 ⟨rfl, hb⟩; refine ⟨_, rfl, ?_⟩; have n0_ := Aside0.mk (Kd.R_below (by (with_reducible repeat (first | apply Kd.R_alloc | apply Kd.R_drewN | apply Kd.R_drew)); exact HO_28.out) hb); have n1_ := Aside0.mk (below_step (by repeat (first | (with_reducible first | exact HB.out | apply below_alloc | apply pw_below_drewN | apply below_drew1) | exact HB.out)) hb); clear HO_28; clear HB; have HO_28 := n0_; have HB := n1_; clear n0_ n1_; (try clear hb); (try clear hb2); (try clear hk); (try clear hi)))
              go_ret
              exact ⟨by first | rfl | (simp [errW_none, errW_some] <;> rfl) | (simp [*, errW_none, errW_some] <;> rfl), by repeat (first | (with_reducible first | exact HB.out | apply below_alloc | apply pw_below_drewN | apply below_drew1) | exact HB.out)⟩
            ·rw [if_neg c22] at H
             exact absurd H (by simp)
           ·rw [if_neg c21] at H
            exact absurd H (by simp)
          ·rw [if_neg c20] at H
           exact absurd H (by simp)
         ·rw [if_neg c19] at H
          exact absurd H (by simp)
        ·rw [if_neg c18] at H
         exact absurd H (by simp)
       ·rw [if_neg c17] at H
        exact absurd H (by simp)
      ·rw [if_neg c16] at H
       have c16b0 : decide (x30_2 < (y280.length : Int)) = false := decide_eq_false c16
       clear c16
       by_cases c40 : t276 = true
       ·subst c40
        have H1 : (if t277.size + 1 ≤ 9223372036854775807 then (if (t277 ++ (⟨#[47]⟩ : ByteArray)).size + x10_1.size ≤ 9223372036854775807 then ((paths_Check.f k2 ((t277 ++ (⟨#[47]⟩ : ByteArray)) ++ x10_1)).bind fun t283 => (if ((t283 == 0) == (decide ((x10_1.size : Int) ≤ 64))) = true then ((paths_Check.f k2 t277).bind fun t284 => (if t284 = 0 then (if (t277 ++ (⟨#[47]⟩ : ByteArray)).size + t278.size ≤ 9223372036854775807 then ((paths_Check.f k2 ((t277 ++ (⟨#[47]⟩ : ByteArray)) ++ t278)).bind fun t285 => (some (t285 == 0))) else (none)) else (some false))) else (some false))) else (none)) else (none)) = some r := by rw [if_pos rfl] at H; exact H
        clear H
        have H := H1
        clear H1
        by_cases c41 : t277.size + 1 ≤ 9223372036854775807
        ·rw [if_pos c41] at H
         have c41b0 := eq_true c41
         have c41b1 : decide (t277.size + 1 ≤ 9223372036854775807) = true := decide_eq_true c41
         try have c41b2 : (9223372036854775807 < t277.size + 1) = False := eq_false (Nat.not_lt.2 c41)
         by_cases c42 : (t277 ++ (⟨#[47]⟩ : ByteArray)).size + x10_1.size ≤ 9223372036854775807
         ·rw [if_pos c42] at H
          have c42b0 := eq_true c42
          have c42b1 : decide ((t277 ++ (⟨#[47]⟩ : ByteArray)).size + x10_1.size ≤ 9223372036854775807) = true := decide_eq_true c42
          try have c42b2 : (9223372036854775807 < (t277 ++ (⟨#[47]⟩ : ByteArray)).size + x10_1.size) = False := eq_false (Nat.not_lt.2 c42)
          (try (have c42b3 := c42b2; simp only [ByteArray.size_append, ByteArray.size_extract, Nat.sub_zero, show (⟨#[47]⟩ : ByteArray).size = 1 from rfl] at c42b3))
          replace H := Option.bind_eq_some_iff.mp H
          obtain ⟨t283, A430, H⟩ := H
          replace H : (if ((t283 == 0) == (decide ((x10_1.size : Int) ≤ 64))) = true then ((paths_Check.f k2 t277).bind fun t284 => (if t284 = 0 then (if (t277 ++ (⟨#[47]⟩ : ByteArray)).size + t278.size ≤ 9223372036854775807 then ((paths_Check.f k2 ((t277 ++ (⟨#[47]⟩ : ByteArray)) ++ t278)).bind fun t285 => (some (t285 == 0))) else (none)) else (some false))) else (some false)) = some r := H
          have A43 := Aside0.mk A430
          clear A430
          by_cases c44 : ((t283 == 0) == (decide ((x10_1.size : Int) ≤ 64))) = true
          ·rw [if_pos c44] at H
           have c44b0 : ((t283 == 0) == (decide ((x10_1.size : Int) ≤ 64))) = true := c44
           (try (have c44b1 : decide ((t283 == 0) = (decide ((x10_1.size : Int) ≤ 64))) = true := by simpa using c44))
           (try (have c44b2 : ((t283 == 0) == (decide ((x10_1.size : Int) ≤ 64))) = true := by simpa using c44))
           clear c44
           replace H := Option.bind_eq_some_iff.mp H
           obtain ⟨t284, A450, H⟩ := H
           replace H : (if t284 = 0 then (if (t277 ++ (⟨#[47]⟩ : ByteArray)).size + t278.size ≤ 9223372036854775807 then ((paths_Check.f k2 ((t277 ++ (⟨#[47]⟩ : ByteArray)) ++ t278)).bind fun t285 => (some (t285 == 0))) else (none)) else (some false)) = some r := H
           have A45 := Aside0.mk A450
           clear A450
           by_cases c46 : t284 = 0
           ·rw [if_pos c46] at H
            have c46b0 : (t284 == 0) = true := beq_iff_eq.mpr c46
            have c46b1 : (t284 != 0) = false := bne_eq_false_iff_eq.mpr c46
            clear c46
            by_cases c47 : (t277 ++ (⟨#[47]⟩ : ByteArray)).size + t278.size ≤ 9223372036854775807
            ·rw [if_pos c47] at H
             have c47b0 := eq_true c47
             have c47b1 : decide ((t277 ++ (⟨#[47]⟩ : ByteArray)).size + t278.size ≤ 9223372036854775807) = true := decide_eq_true c47
             try have c47b2 : (9223372036854775807 < (t277 ++ (⟨#[47]⟩ : ByteArray)).size + t278.size) = False := eq_false (Nat.not_lt.2 c47)
             (try (have c47b3 := c47b2; simp only [ByteArray.size_append, ByteArray.size_extract, Nat.sub_zero, show (⟨#[47]⟩ : ByteArray).size = 1 from rfl] at c47b3))
             replace H := Option.bind_eq_some_iff.mp H
             obtain ⟨t285, A480, H⟩ := H
             replace H : (some (t285 == 0)) = some r := H
             have A48 := Aside0.mk A480
             clear A480
             obtain rfl := Option.some.inj H
             go_wp2_with (first | (go_at_call 12; (with_reducible refine (paths_Check.calls k2 ((t277 ++ (⟨#[47]⟩ : ByteArray)) ++ x10_1) t283 _ A43.out).mono ?_); rintro e w49 ⟨rfl, hb⟩; have n0_ := Aside0.mk (Kd.R_below (by (with_reducible repeat (first | apply Kd.R_alloc | apply Kd.R_drewN | apply Kd.R_drew)); exact HO_28.out) hb); have n1_ := Aside0.mk (below_step (by repeat (first | (with_reducible first | exact HB.out | apply below_alloc | apply pw_below_drewN | apply below_drew1) | exact HB.out)) hb); clear HO_28; clear HB; have HO_28 := n0_; have HB := n1_; clear n0_ n1_; (try clear hb); (try clear hb2); (try clear hk); (try clear hi)) | (go_at_call 12; (with_reducible refine (paths_Check.calls k2 t277 t284 _ A45.out).mono ?_); rintro e w50 ⟨rfl, hb⟩; have n0_ := Aside0.mk (Kd.R_below (by (with_reducible repeat (first | apply Kd.R_alloc | apply Kd.R_drewN | apply Kd.R_drew)); exact HO_28.out) hb); have n1_ := Aside0.mk (below_step (by repeat (first | (with_reducible first | exact HB.out | apply below_alloc | apply pw_below_drewN | apply below_drew1) | exact HB.out)) hb); clear HO_28; clear HB; have HO_28 := n0_; have HB := n1_; clear n0_ n1_; (try clear hb); (try clear hb2); (try clear hk); (try clear hi)) | (go_at_call 12; (with_reducible refine (paths_Check.calls k2 ((t277 ++ (⟨#[47]⟩ : ByteArray)) ++ t278) t285 _ A48.out).mono ?_); rintro e w51 ⟨rfl, hb⟩; have n0_ := Aside0.mk (Kd.R_below (by (with_reducible repeat (first | apply Kd.R_alloc | apply Kd.R_drewN | apply Kd.R_drew)); exact HO_28.out) hb); have n1_ := Aside0.mk (below_step (by repeat (first | (with_reducible first | exact HB.out | apply below_alloc | apply pw_below_drewN | apply below_drew1) | exact HB.out)) hb); clear HO_28; clear HB; have HO_28 := n0_; have HB := n1_; clear n0_ n1_; (try clear hb); (try clear hb2); (try clear hk); (try clear hi)))
             go_ret
             exact ⟨by first | rfl | (simp [errW_none, errW_some] <;> rfl) | (simp [*, errW_none, errW_some] <;> rfl), by repeat (first | (with_reducible first | exact HB.out | apply below_alloc | apply pw_below_drewN | apply below_drew1) | exact HB.out)⟩
            ·rw [if_neg c47] at H
             exact absurd H (by simp)
           ·rw [if_neg c46] at H
            have c46b0 : (t284 == 0) = false := beq_eq_false_iff_ne.mpr c46
            have c46b1 : (t284 != 0) = true := bne_iff_ne.mpr c46
            obtain rfl := Option.some.inj H
            go_wp2_with (first | (go_at_call 12; (with_reducible refine (paths_Check.calls k2 ((t277 ++ (⟨#[47]⟩ : ByteArray)) ++ x10_1) t283 _ A43.out).mono ?_); rintro e w52 ⟨rfl, hb⟩; have n0_ := Aside0.mk (Kd.R_below (by (with_reducible repeat (first | apply Kd.R_alloc | apply Kd.R_drewN | apply Kd.R_drew)); exact HO_28.out) hb); have n1_ := Aside0.mk (below_step (by repeat (first | (with_reducible first | exact HB.out | apply below_alloc | apply pw_below_drewN | apply below_drew1) | exact HB.out)) hb); clear HO_28; clear HB; have HO_28 := n0_; have HB := n1_; clear n0_ n1_; (try clear hb); (try clear hb2); (try clear hk); (try clear hi)) | (go_at_call 12; (with_reducible refine (paths_Check.calls k2 t277 t284 _ A45.out).mono ?_); rintro e w53 ⟨rfl, hb⟩; have n0_ := Aside0.mk (Kd.R_below (by (with_reducible repeat (first | apply Kd.R_alloc | apply Kd.R_drewN | apply Kd.R_drew)); exact HO_28.out) hb); have n1_ := Aside0.mk (below_step (by repeat (first | (with_reducible first | exact HB.out | apply below_alloc | apply pw_below_drewN | apply below_drew1) | exact HB.out)) hb); clear HO_28; clear HB; have HO_28 := n0_; have HB := n1_; clear n0_ n1_; (try clear hb); (try clear hb2); (try clear hk); (try clear hi)))
            go_ret
            exact ⟨by first | rfl | (simp [errW_none, errW_some] <;> rfl) | (simp [*, errW_none, errW_some] <;> rfl), by repeat (first | (with_reducible first | exact HB.out | apply below_alloc | apply pw_below_drewN | apply below_drew1) | exact HB.out)⟩
          ·rw [if_neg c44] at H
           have c44b0 : ((t283 == 0) == (decide ((x10_1.size : Int) ≤ 64))) = false := by simpa using c44
           (try (have c44b1 : decide ((t283 == 0) = (decide ((x10_1.size : Int) ≤ 64))) = false := by simpa using c44))
           (try (have c44b2 : ((t283 == 0) == (decide ((x10_1.size : Int) ≤ 64))) = false := by simpa using c44))
           (try (have c44b3 : ¬ ((t283 == 0) = (decide ((x10_1.size : Int) ≤ 64))) := by simpa using c44))
           clear c44
           obtain rfl := Option.some.inj H
           go_wp2_with (first | (go_at_call 12; (with_reducible refine (paths_Check.calls k2 ((t277 ++ (⟨#[47]⟩ : ByteArray)) ++ x10_1) t283 _ A43.out).mono ?_); rintro e w54 ⟨rfl, hb⟩; have n0_ := Aside0.mk (Kd.R_below (by (with_reducible repeat (first | apply Kd.R_alloc | apply Kd.R_drewN | apply Kd.R_drew)); exact HO_28.out) hb); have n1_ := Aside0.mk (below_step (by repeat (first | (with_reducible first | exact HB.out | apply below_alloc | apply pw_below_drewN | apply below_drew1) | exact HB.out)) hb); clear HO_28; clear HB; have HO_28 := n0_; have HB := n1_; clear n0_ n1_; (try clear hb); (try clear hb2); (try clear hk); (try clear hi)))
           go_ret
           exact ⟨by first | rfl | (simp [errW_none, errW_some] <;> rfl) | (simp [*, errW_none, errW_some] <;> rfl), by repeat (first | (with_reducible first | exact HB.out | apply below_alloc | apply pw_below_drewN | apply below_drew1) | exact HB.out)⟩
         ·rw [if_neg c42] at H
          exact absurd H (by simp)
        ·rw [if_neg c41] at H
         exact absurd H (by simp)
       ·replace c40 := Bool.eq_false_iff.mpr c40
        subst c40
        have H1 : (some false) = some r := by rw [if_neg (show ¬ (false = true) by decide)] at H; exact H
        clear H
        have H := H1
        clear H1
        obtain rfl := Option.some.inj H
        go_wp2
        go_ret
        exact ⟨by first | rfl | (simp [errW_none, errW_some] <;> rfl) | (simp [*, errW_none, errW_some] <;> rfl), by repeat (first | (with_reducible first | exact HB.out | apply below_alloc | apply pw_below_drewN | apply below_drew1) | exact HB.out)⟩

/-- THE ONE PURE STATEMENT of collatorlaw01_PathsParts: yours. -/
def collatorlaw01_PathsParts.Pure : Prop := ∀ (l0 : List Int) (l1 : List Int) (a2 : Int), l0.length ≤ maxLen → l0.length * 8 ≤ 140737488351232 → (∀ x ∈ l0, (Lit.int .i64 x).wf = true) → l1.length ≤ maxLen → l1.length * 8 ≤ 140737488351232 → (∀ x ∈ l1, (Lit.int .i64 x).wf = true) → (Lit.int .i64 a2).wf = true → ∃ k, collatorlaw01_PathsParts.f k l0 l1 a2 = some true
theorem collatorlaw01_PathsParts.walk (P : collatorlaw01_PathsParts.Pure) (a0 : Option Addr) (len0 cap0 : Nat) (z0 : List Int) (a1 : Option Addr) (len1 cap1 : Nat) (z1 : List Int) (a2 : Int) (w : World) (w0 : (a0 = none ∧ len0 = 0 ∧ cap0 = 0 ∧ z0 = []) ∨ ∃ x, a0 = some x ∧ len0 ≤ cap0 ∧ cap0 ≤ maxLen ∧ z0.length = cap0 ∧ (∀ i, i < z0.length → w.cell? (x.add i) = some (.int .i64 (z0.getD i 0))) ∧ ∀ n ∈ z0, (Lit.int .i64 n).wf = true) (y0 : len0 * 8 ≤ 140737488351232) (w1 : (a1 = none ∧ len1 = 0 ∧ cap1 = 0 ∧ z1 = []) ∨ ∃ x, a1 = some x ∧ len1 ≤ cap1 ∧ cap1 ≤ maxLen ∧ z1.length = cap1 ∧ (∀ i, i < z1.length → w.cell? (x.add i) = some (.int .i64 (z1.getD i 0))) ∧ ∀ n ∈ z1, (Lit.int .i64 n).wf = true) (y1 : len1 * 8 ≤ 140737488351232) (w2 : (Lit.int .i64 a2).wf = true) :
  Calls Tryd.prog 7 #[.slice a0 len0 cap0, .slice a1 len1 cap1, .int .i64 a2] w fun e w' => e = .returned (.bool true) ∧ Below w.heap.size w w' := by
 obtain ⟨l0, rfl, hr0, hm0, hw0, hc0⟩ := ReadsInt.ofRowC w0
 obtain ⟨l1, rfl, hr1, hm1, hw1, hc1⟩ := ReadsInt.ofRowC w1
 obtain ⟨k, h⟩ := P l0 l1 a2 hm0 y0 hw0 hm1 y1 hw1 w2
 refine (collatorlaw01_PathsParts.calls k _ _ l0 _ _ l1 a2 true w (Kd.C_of_reads (d := (0 : Int)) (h1 := fun _ => rfl) hr0) hc0 (Kd.C_of_reads (d := (0 : Int)) (h1 := fun _ => rfl) hr1) hc1 h).mono ?_
 rintro e w' ⟨rfl, hd⟩
 exact ⟨rfl, hd⟩

end Go.Proofs.YtjfeddpelakdjaaDoor.P
