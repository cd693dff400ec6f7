/- Laid for this claim by hp.py, this session's program round the kit's print: functions of the program as plain Lean functions, the proofs that the code comes to their answers, and the rows of the laws. Not trusted: Lean checks it. -/
import Derived.Test.YtgobidmfbjmpkaaPx0
import Derived.Test.YtgobidmfbjmpkaaHShr
import Derived.Test.YtgobidmfbjmpkaaPxf29
import Derived.Test.YtgobidmfbjmpkaaPxf30
namespace Go.Proofs.Ytgobidmfbjmpkaa.P
open Go.RowKit Go.Proofs.YtgobidmfbjmpkaaW.PrintWords Go.Proofs.YtgobidmfbjmpkaaW.PrintLast Go.Proofs.YtgobidmfbjmpkaaW.PrintMore
attribute [local go_sem] max2_int min2_int max_two min_two max_three min_three max_four min_four   -- for this text's walks alone
set_option linter.unusedVariables false
set_option linter.unusedSimpArgs false

/-! ### collatorlaw04_Script: function 10 -/
mutual
def collatorlaw04_Script.l0 : Nat → List Int → List Int → List (S31) → Int → Int → Option ((List (S31)) × List ByteArray)
 | 0, _, _, _, _, _ => none
 | k + 1, x0, x1, x6, x7, x8 => if x8 < (x0.length : Int) then (collatorlaw04_Script.j1 k x0 x1 x6 x7 x8 (decide (x8 < 10))) else (collatorlaw04_Script.j1 k x0 x1 x6 x7 x8 false)
def collatorlaw04_Script.j1 : Nat → List Int → List Int → List (S31) → Int → Int → Bool → Option ((List (S31)) × List ByteArray)
 | 0, _, _, _, _, _, _ => none
 | k + 1, x0, x1, x6, x7, x8, x17 => if x17 = true then (if 0 ≤ x8 then (if x8 < (x0.length : Int) then ((collatorlaw04_pick.f (rd x0 x8) 3).bind fun t122 => ((collatorlaw04_pick.f (wrap64 (Int.tdiv (rd x0 x8) 3)) 4).bind fun t124 => (if (wrap64 (1 + t122)) = 3 then (if x8 ≤ (x0.length : Int) then ((collatorlaw04_full.f k (x0.drop (x8 : Int).toNat) (wrap64 (1 + t124))).bind fun t127 => (collatorlaw04_Script.j2 k x0 x1 x6 x7 x8 (wrap64 (1 + t122)) (wrap64 (1 + t124)) t127)) else (none)) else (collatorlaw04_Script.j2 k x0 x1 x6 x7 x8 (wrap64 (1 + t122)) (wrap64 (1 + t124)) ([] : List ByteArray))))) else (none)) else (none)) else ((collatorlaw04_full.f k x1 x7).bind fun t118 => (some (x6, t118)))
def collatorlaw04_Script.j2 : Nat → List Int → List Int → List (S31) → Int → Int → Int → Int → List ByteArray → Option ((List (S31)) × List ByteArray)
 | 0, _, _, _, _, _, _, _, _ => none
 | k + 1, x0, x1, x6, x7, x8, x126000, x126001, x126002 => if (x6.length : Int) > 0 then (if 0 ≤ (wrap64 ((x6.length : Int) - 1)) then (if (wrap64 ((x6.length : Int) - 1)) < (x6.length : Int) then (if ((rd_T31 x6 (wrap64 ((x6.length : Int) - 1))).f0) = x126000 then (collatorlaw04_Script.j3 k x0 x1 x6 x7 x8 true x126000 x126001 x126002) else (if ((rd_T31 x6 (wrap64 ((x6.length : Int) - 1))).f0) = 3 then (collatorlaw04_Script.j3 k x0 x1 x6 x7 x8 (x126000 == 2) x126000 x126001 x126002) else (collatorlaw04_Script.j3 k x0 x1 x6 x7 x8 false x126000 x126001 x126002))) else (none)) else (none)) else (collatorlaw04_Script.j3 k x0 x1 x6 x7 x8 false x126000 x126001 x126002)
def collatorlaw04_Script.j3 : Nat → List Int → List Int → List (S31) → Int → Int → Bool → Int → Int → List ByteArray → Option ((List (S31)) × List ByteArray)
 | 0, _, _, _, _, _, _, _, _, _ => none
 | k + 1, x0, x1, x6, x7, x8, x73, x126000, x126001, x126002 => if x73 = true then (collatorlaw04_Script.l0 k x0 x1 x6 x7 (wrap64 (x8 + 1))) else (if x6.length < 3518437208883 then ((some (x6 ++ [(⟨x126000, x126001, x126002⟩ : S31)] : List (S31))).bind fun y132 => (if x126000 = 3 then (collatorlaw04_Script.l0 k x0 x1 y132 x7 (wrap64 (x8 + 1))) else (collatorlaw04_Script.l0 k x0 x1 y132 (wrap64 (x7 + x126001)) (wrap64 (x8 + 1))))) else (none))
end
def collatorlaw04_Script.f (k : Nat) (l0 : List Int) (l1 : List Int) : Option ((List (S31)) × List ByteArray) := collatorlaw04_Script.l0 k l0 l1 ([] : List (S31)) 0 0
theorem collatorlaw04_Script.mono_l : ∀ k, (∀ y0 y1 y2 y3 y4, LeO (collatorlaw04_Script.l0 k y0 y1 y2 y3 y4) (collatorlaw04_Script.l0 (k + 1) y0 y1 y2 y3 y4)) ∧ (∀ y0 y1 y2 y3 y4 y5, LeO (collatorlaw04_Script.j1 k y0 y1 y2 y3 y4 y5) (collatorlaw04_Script.j1 (k + 1) y0 y1 y2 y3 y4 y5)) ∧ (∀ y0 y1 y2 y3 y4 y5 y6 y7, LeO (collatorlaw04_Script.j2 k y0 y1 y2 y3 y4 y5 y6 y7) (collatorlaw04_Script.j2 (k + 1) y0 y1 y2 y3 y4 y5 y6 y7)) ∧ (∀ y0 y1 y2 y3 y4 y5 y6 y7 y8, LeO (collatorlaw04_Script.j3 k y0 y1 y2 y3 y4 y5 y6 y7 y8) (collatorlaw04_Script.j3 (k + 1) y0 y1 y2 y3 y4 y5 y6 y7 y8))
 | 0 => ⟨fun _ _ _ _ _ r h => by simp [collatorlaw04_Script.l0] at h, fun _ _ _ _ _ _ r h => by simp [collatorlaw04_Script.j1] at h, fun _ _ _ _ _ _ _ _ r h => by simp [collatorlaw04_Script.j2] at h, fun _ _ _ _ _ _ _ _ _ r h => by simp [collatorlaw04_Script.j3] at h⟩
 | k + 1 => by
  obtain ⟨ih0, ih1, ih2, ih3⟩ := collatorlaw04_Script.mono_l k
  refine ⟨?_, ?_, ?_, ?_⟩
  ·intro y0 y1 y2 y3 y4
   unfold collatorlaw04_Script.l0
   repeat' first
   | (with_reducible exact ih0 _ _ _ _ _)
   | (with_reducible exact ih1 _ _ _ _ _ _)
   | (with_reducible exact ih2 _ _ _ _ _ _ _ _)
   | (with_reducible exact ih3 _ _ _ _ _ _ _ _ _)
   | (with_reducible exact collatorlaw04_full.mono _ _ _)
   | (with_reducible exact LeO.refl _)
   | (with_reducible exact LeO.none _)
   | (with_reducible refine LeO.ite ?_ ?_)
   | (with_reducible refine LeO.bind ?_ (fun _ => ?_))
   | exact ih0 _ _ _ _ _
   | exact ih1 _ _ _ _ _ _
   | exact ih2 _ _ _ _ _ _ _ _
   | exact ih3 _ _ _ _ _ _ _ _ _
   | exact collatorlaw04_full.mono _ _ _
   | exact LeO.none _
   | refine LeO.ite ?_ ?_
   | refine LeO.bind ?_ (fun _ => ?_)
  ·intro y0 y1 y2 y3 y4 y5
   unfold collatorlaw04_Script.j1
   repeat' first
   | (with_reducible exact ih0 _ _ _ _ _)
   | (with_reducible exact ih1 _ _ _ _ _ _)
   | (with_reducible exact ih2 _ _ _ _ _ _ _ _)
   | (with_reducible exact ih3 _ _ _ _ _ _ _ _ _)
   | (with_reducible exact collatorlaw04_full.mono _ _ _)
   | (with_reducible exact LeO.refl _)
   | (with_reducible exact LeO.none _)
   | (with_reducible refine LeO.ite ?_ ?_)
   | (with_reducible refine LeO.bind ?_ (fun _ => ?_))
   | exact ih0 _ _ _ _ _
   | exact ih1 _ _ _ _ _ _
   | exact ih2 _ _ _ _ _ _ _ _
   | exact ih3 _ _ _ _ _ _ _ _ _
   | exact collatorlaw04_full.mono _ _ _
   | exact LeO.none _
   | refine LeO.ite ?_ ?_
   | refine LeO.bind ?_ (fun _ => ?_)
  ·intro y0 y1 y2 y3 y4 y5 y6 y7
   unfold collatorlaw04_Script.j2
   repeat' first
   | (with_reducible exact ih0 _ _ _ _ _)
   | (with_reducible exact ih1 _ _ _ _ _ _)
   | (with_reducible exact ih2 _ _ _ _ _ _ _ _)
   | (with_reducible exact ih3 _ _ _ _ _ _ _ _ _)
   | (with_reducible exact collatorlaw04_full.mono _ _ _)
   | (with_reducible exact LeO.refl _)
   | (with_reducible exact LeO.none _)
   | (with_reducible refine LeO.ite ?_ ?_)
   | (with_reducible refine LeO.bind ?_ (fun _ => ?_))
   | exact ih0 _ _ _ _ _
   | exact ih1 _ _ _ _ _ _
   | exact ih2 _ _ _ _ _ _ _ _
   | exact ih3 _ _ _ _ _ _ _ _ _
   | exact collatorlaw04_full.mono _ _ _
   | exact LeO.none _
   | refine LeO.ite ?_ ?_
   | refine LeO.bind ?_ (fun _ => ?_)
  ·intro y0 y1 y2 y3 y4 y5 y6 y7 y8
   unfold collatorlaw04_Script.j3
   repeat' first
   | (with_reducible exact ih0 _ _ _ _ _)
   | (with_reducible exact ih1 _ _ _ _ _ _)
   | (with_reducible exact ih2 _ _ _ _ _ _ _ _)
   | (with_reducible exact ih3 _ _ _ _ _ _ _ _ _)
   | (with_reducible exact collatorlaw04_full.mono _ _ _)
   | (with_reducible exact LeO.refl _)
   | (with_reducible exact LeO.none _)
   | (with_reducible refine LeO.ite ?_ ?_)
   | (with_reducible refine LeO.bind ?_ (fun _ => ?_))
   | exact ih0 _ _ _ _ _
   | exact ih1 _ _ _ _ _ _
   | exact ih2 _ _ _ _ _ _ _ _
   | exact ih3 _ _ _ _ _ _ _ _ _
   | exact collatorlaw04_full.mono _ _ _
   | exact LeO.none _
   | refine LeO.ite ?_ ?_
   | refine LeO.bind ?_ (fun _ => ?_)
theorem collatorlaw04_Script.mono : ∀ a0 a1 k, LeO (collatorlaw04_Script.f k a0 a1) (collatorlaw04_Script.f (k + 1) a0 a1) := by
 intro a0 a1 k
 obtain ⟨ih0, ih1, ih2, ih3⟩ := collatorlaw04_Script.mono_l k
 unfold collatorlaw04_Script.f
 repeat' first
   | (with_reducible exact ih0 _ _ _ _ _)
   | (with_reducible exact ih1 _ _ _ _ _ _)
   | (with_reducible exact ih2 _ _ _ _ _ _ _ _)
   | (with_reducible exact ih3 _ _ _ _ _ _ _ _ _)
   | (with_reducible exact collatorlaw04_full.mono _ _ _)
   | (with_reducible exact LeO.refl _)
   | (with_reducible exact LeO.none _)
   | (with_reducible refine LeO.ite ?_ ?_)
   | (with_reducible refine LeO.bind ?_ (fun _ => ?_))
   | exact ih0 _ _ _ _ _
   | exact ih1 _ _ _ _ _ _
   | exact ih2 _ _ _ _ _ _ _ _
   | exact ih3 _ _ _ _ _ _ _ _ _
   | exact collatorlaw04_full.mono _ _ _
   | exact LeO.none _
   | refine LeO.ite ?_ ?_
   | refine LeO.bind ?_ (fun _ => ?_)
def collatorlaw04_Script.T6 : Bool × List (List Nat × List Nat) := (true, [([], []), ([], []), ([0, 1], [0, 1]), ([2], [2]), ([3], [3]), ([4], [4]), ([], []), ([], []), ([6, 7], [6, 7]), ([8], [8]), ([9], [9]), ([10, 4], [10]), ([11], [11]), ([5, 12], [5, 12]), ([], []), ([14, 13, 11, 0, 1, 2, 3, 4, 5, 6, 7, 8, 9, 10, 11, 12, 13, 14], [13, 14])])
def collatorlaw04_Script.B6 : List Nat := [0, 0, 3, 7, 15, 31, 0, 0, 192, 448, 960, 2015, 4063, 8191, 0, 32767]
theorem collatorlaw04_Script.tab6 : rtab .any (opsOf Try.f10 6) = collatorlaw04_Script.T6 := by kernel_rfl
theorem collatorlaw04_Script.bits6 : waitsOk collatorlaw04_Script.T6.2 collatorlaw04_Script.B6 = true := by kernel_rfl
def collatorlaw04_Script.T8 : Bool × List (List Nat × List Nat) := (true, [([], []), ([], []), ([0, 1], [0, 1]), ([], []), ([3], [3]), ([2, 4], [2, 4]), ([0, 1, 2, 3, 4, 5], []), ([6, 5, 5, 0, 1, 2, 3, 4, 5], [5, 6])])
def collatorlaw04_Script.B8 : List Nat := [0, 0, 3, 0, 8, 31, 63, 127]
theorem collatorlaw04_Script.tab8 : rtab .any (opsOf Try.f10 8) = collatorlaw04_Script.T8 := by kernel_rfl
theorem collatorlaw04_Script.bits8 : waitsOk collatorlaw04_Script.T8.2 collatorlaw04_Script.B8 = true := by kernel_rfl
def collatorlaw04_Script.T9 : Bool × List (List Nat × List Nat) := (true, [([], []), ([0], [0]), ([1], [1]), ([2], [2]), ([3], [3]), ([3], [3]), ([5, 3], [3, 5]), ([6, 3], [3, 6]), ([4, 7, 3], [3, 4, 7]), ([8, 3], [3, 8]), ([9, 3], [3, 9]), ([3], [3]), ([11, 3], [3, 11]), ([10, 12, 3], [3, 10, 12]), ([13, 3, 3], [3, 13]), ([14], [14]), ([14], [14]), ([16, 14], [14, 16]), ([17, 14], [14, 17]), ([15, 18, 14], [14, 15, 18]), ([19, 14], [14, 19]), ([20, 14], [14, 20]), ([21, 14], [14, 21]), ([22, 14, 14], [14, 22]), ([23], [23]), ([24, 23], [23, 24]), ([25, 23], [23, 25]), ([23, 26, 14], [14, 23, 26]), ([14, 27, 3], [3, 14, 27]), ([3, 28], [3, 28])])
def collatorlaw04_Script.B9 : List Nat := [0, 1, 3, 7, 15, 15, 47, 111, 255, 511, 1023, 15, 2063, 8191, 16383, 32767, 32767, 98303, 229375, 524287, 1048575, 2097151, 4194303, 8388607, 16777215, 33554431, 67108863, 134217727, 268435455, 536870911]
theorem collatorlaw04_Script.tab9 : rtab .any (opsOf Try.f10 9) = collatorlaw04_Script.T9 := by kernel_rfl
theorem collatorlaw04_Script.bits9 : waitsOk collatorlaw04_Script.T9.2 collatorlaw04_Script.B9 = true := by kernel_rfl
set_option maxHeartbeats 8000000 in
set_option maxRecDepth 100000 in
theorem collatorlaw04_Script.calls (k : Nat) (A0 : Option Addr) (c0 : Nat) (l0 : List Int) (A1 : Option Addr) (c1 : Nat) (l1 : List Int) (r1 : List (S31)) (r2 : List ByteArray) (w : World) (hr0 : Kd.C (Kd.int .i64) w A0 l0.length l0) (hc0 : l0.length ≤ c0) (hr1 : Kd.C (Kd.int .i64) w A1 l1.length l1) (hc1 : l1.length ≤ c1) (h : collatorlaw04_Script.f k l0 l1 = some (r1, r2)) :
  Calls Try.prog 10 #[.slice A0 l0.length c0, .slice A1 l1.length c1] w fun e w' => ∃ v0_ v1_ : Value, e = .returned (.tuple #[v0_, v1_]) ∧ Kd.S k31 31 w' w.heap.size (fun k_ => some k_ ≠ (v1_ : Value).ownBlock) v0_ r1 ∧ Kd.R Kd.string 9 w' w.heap.size (fun _ => True) v1_ r2 ∧ Below w.heap.size w w' := by
 have hu31 := Try.underlying31
 have HR0 := Aside0.mk hr0
 have HC0 := Aside0.mk hc0
 clear hr0 hc0
 have HR1 := Aside0.mk hr1
 have HC1 := Aside0.mk hc1
 clear hr1 hc1
 have HB := Aside0.mk (Below.refl w.heap.size w)
 have H : (collatorlaw04_Script.l0 k l0 l1 ([] : List (S31)) 0 0) = some (r1, r2) := h
 clear h
 have H' := Aside0.mk H
 clear H
 go_enter Try.func10, Try.ntmps10
 go_wp2
 go_loopg [6, 7, 8] k (fun kq v6 v7 v8 w' => ∃ (x6_1 : List (S31)) (x7_1 : Int) (x8_1 : Int), v7 = .int .i64 x7_1 ∧ v8 = .int .i64 x8_1 ∧ Aside0 (collatorlaw04_Script.l0 kq l0 l1 x6_1 x7_1 x8_1 = some (r1, r2)) ∧ Aside0 (kq ≤ k) ∧ Aside0 (Kd.S k31 31 w' w.heap.size (fun _ => True) v6 x6_1) ∧ Aside0 (Below w.heap.size w w'))
 case atStart => exact ⟨(([] : List (S31))), (0), (0), rf_, rf_, H', ⟨Nat.le_refl _⟩, ⟨by first | exact Kd.S_nil _ _ _ _ _ | exact Kd.N_nil _ _ _ _ _ | exact Kd.V_nil _ _ _ _ _ | exact Kd.Q_nil _ _ _ _ _ | exact Kd.R_nil _ _ _ _ _⟩, ⟨by repeat (first | (with_reducible first | exact HB.out | apply below_alloc | apply pw_below_drewN | apply below_drew1) | exact HB.out)⟩⟩
 case round =>
  clear H'
  (try clear c1);(try clear p2)
  obtain ⟨x6_1, x7_1, x8_1, rfl, rfl, HA, HK1, HO_6, HB⟩ := hrel
  cases gk with
  | zero => exact absurd HA.out (by simp [collatorlaw04_Script.l0])
  | succ k1 =>
   have H := HA.out
   clear HA
   simp only [collatorlaw04_Script.l0] at H
   have HC3 := Aside0.mk H
   clear H
   go_upto_region 4 with (fail)
   go_cut [17] (fun v17 wc => ∃ (kq : Nat) (x17_2 : Bool), v17 = .bool x17_2 ∧ Aside0 (collatorlaw04_Script.j1 kq l0 l1 x6_1 x7_1 x8_1 x17_2 = some (r1, r2)) ∧ Aside0 (kq ≤ k1) ∧ Aside0 (Kd.S k31 31 wc w.heap.size (fun _ => True) u6 x6_1) ∧ Aside0 (Below w.heap.size w wc))
   case first =>
    have H := HC3.out
    clear HC3
    by_cases c4 : x8_1 < (l0.length : Int)
    ·rw [if_pos c4] at H
     have c4b0 : decide (x8_1 < (l0.length : Int)) = true := decide_eq_true c4
     clear c4
     (first | rw [c4b0] | rw [c4b1] | (simp only [i64_w, i32_w]; rw [c4b0]) | skip)
     have H' := Aside0.mk H
     clear H
     go_wp2
     go_meet
     case rel => exact ⟨_, (decide (x8_1 < 10)), rf_, H', ⟨by have := HK1.out; first | omega | exact Nat.le_refl _⟩, ⟨by (with_reducible repeat (first | apply Kd.S_alloc | apply Kd.S_drewN | apply Kd.S_drew)); exact HO_6.out⟩, ⟨by repeat (first | (with_reducible first | exact HB.out | apply below_alloc | apply pw_below_drewN | apply below_drew1) | exact HB.out)⟩⟩
    ·rw [if_neg c4] at H
     have c4b0 : decide (x8_1 < (l0.length : Int)) = false := decide_eq_false c4
     clear c4
     (first | rw [c4b0] | rw [c4b1] | (simp only [i64_w, i32_w]; rw [c4b0]) | skip)
     have H' := Aside0.mk H
     clear H
     go_wp2
     go_meet
     case rel => exact ⟨_, (false), rf_, H', ⟨by have := HK1.out; first | omega | exact Nat.le_refl _⟩, ⟨by (with_reducible repeat (first | apply Kd.S_alloc | apply Kd.S_drewN | apply Kd.S_drew)); exact HO_6.out⟩, ⟨by repeat (first | (with_reducible first | exact HB.out | apply below_alloc | apply pw_below_drewN | apply below_drew1) | exact HB.out)⟩⟩
   case rest =>
    clear HC3
    (try clear c1);(try clear p2);(try clear c4);(try clear c4b0);(try clear p2)
    obtain ⟨kq, x17_2, rfl, HA, HJ2, HO_6, HB⟩ := hcut
    cases kq with
    | zero => exact absurd HA.out (by simp [collatorlaw04_Script.j1])
    | succ kj2 =>
     have H := HA.out
     clear HA
     simp only [collatorlaw04_Script.j1] at H
     by_cases c5 : x17_2 = true
     ·subst c5
      have H1 : (if 0 ≤ x8_1 then (if x8_1 < (l0.length : Int) then ((collatorlaw04_pick.f (rd l0 x8_1) 3).bind fun t122 => ((collatorlaw04_pick.f (wrap64 (Int.tdiv (rd l0 x8_1) 3)) 4).bind fun t124 => (if (wrap64 (1 + t122)) = 3 then (if x8_1 ≤ (l0.length : Int) then ((collatorlaw04_full.f kj2 (l0.drop (x8_1 : Int).toNat) (wrap64 (1 + t124))).bind fun t127 => (collatorlaw04_Script.j2 kj2 l0 l1 x6_1 x7_1 x8_1 (wrap64 (1 + t122)) (wrap64 (1 + t124)) t127)) else (none)) else (collatorlaw04_Script.j2 kj2 l0 l1 x6_1 x7_1 x8_1 (wrap64 (1 + t122)) (wrap64 (1 + t124)) ([] : List ByteArray))))) else (none)) else (none)) = some (r1, r2) := by rw [if_pos rfl] at H; exact H
      clear H
      have H := H1
      clear H1
      by_cases c6 : 0 ≤ x8_1
      ·rw [if_pos c6] at H
       have c6b0 : decide (0 ≤ x8_1) = true := decide_eq_true c6
       clear c6
       by_cases c7 : x8_1 < (l0.length : Int)
       ·rw [if_pos c7] at H
        have c7b0 : decide (x8_1 < (l0.length : Int)) = true := decide_eq_true c7
        clear c7
        replace H := Option.bind_eq_some_iff.mp H
        obtain ⟨t122, A80, H⟩ := H
        replace H : ((collatorlaw04_pick.f (wrap64 (Int.tdiv (rd l0 x8_1) 3)) 4).bind fun t124 => (if (wrap64 (1 + t122)) = 3 then (if x8_1 ≤ (l0.length : Int) then ((collatorlaw04_full.f kj2 (l0.drop (x8_1 : Int).toNat) (wrap64 (1 + t124))).bind fun t127 => (collatorlaw04_Script.j2 kj2 l0 l1 x6_1 x7_1 x8_1 (wrap64 (1 + t122)) (wrap64 (1 + t124)) t127)) else (none)) else (collatorlaw04_Script.j2 kj2 l0 l1 x6_1 x7_1 x8_1 (wrap64 (1 + t122)) (wrap64 (1 + t124)) ([] : List ByteArray)))) = some (r1, r2) := H
        have A8 := Aside0.mk A80
        clear A80
        replace H := Option.bind_eq_some_iff.mp H
        obtain ⟨t124, A90, H⟩ := H
        replace H : (if (wrap64 (1 + t122)) = 3 then (if x8_1 ≤ (l0.length : Int) then ((collatorlaw04_full.f kj2 (l0.drop (x8_1 : Int).toNat) (wrap64 (1 + t124))).bind fun t127 => (collatorlaw04_Script.j2 kj2 l0 l1 x6_1 x7_1 x8_1 (wrap64 (1 + t122)) (wrap64 (1 + t124)) t127)) else (none)) else (collatorlaw04_Script.j2 kj2 l0 l1 x6_1 x7_1 x8_1 (wrap64 (1 + t122)) (wrap64 (1 + t124)) ([] : List ByteArray))) = some (r1, r2) := H
        have A9 := Aside0.mk A90
        clear A90
        have HC10 := Aside0.mk H
        clear H
        try go_wp2
        have n0_ := Aside0.mk (Kd.S_drew HO_6.out)
        have n1_ := Aside0.mk (below_drew1 HB.out)
        clear HO_6
        clear HB
        have HO_6 := n0_
        have HB := n1_
        clear n0_ n1_
        have p121 : 0 ≤ (x8_1 : Int) := of_decide_eq_true as_
        have q121 : x8_1 < (l0.length : Int) := of_decide_eq_true as_
        obtain ⟨ad121, e121, hx121_0⟩ := Kd.at_int HR0.out x8_1 p121 q121
        have hw121_0 := hx121_0
        cases e121
        replace hx121_0 := (HB.out.cell (World.block_lt_of_cell? w _ hx121_0)).trans hx121_0
        replace p121 := eq_true p121
        replace q121 := eq_true q121
        have p123 : 0 ≤ (x8_1 : Int) := of_decide_eq_true as_
        have q123 : x8_1 < (l0.length : Int) := of_decide_eq_true as_
        obtain ⟨ad123, e123, hx123_0⟩ := Kd.at_int HR0.out x8_1 p123 q123
        have hw123_0 := hx123_0
        obtain rfl : ad121 = ad123 := (by injection e123)
        replace hx123_0 := (HB.out.cell (World.block_lt_of_cell? w _ hx123_0)).trans hx123_0
        replace p123 := eq_true p123
        replace q123 := eq_true q123
        refine start_ (n := 16) (S := fun w' => w'.cell? (ad121.add (x8_1).toNat) = some (.int .i64 (rd l0 x8_1)) ∧ w'.cell? (ad121.add (x8_1).toNat) = some (.int .i64 (rd l0 x8_1))) (ds := []) #[false, false, false, false, false, false, false, false, false, false, false, false, false, false, false, false] (by kernel_rfl) rfl rfl ⟨((HB.out.cell (World.block_lt_of_cell? w _ hw121_0)).trans hw121_0), ((HB.out.cell (World.block_lt_of_cell? w _ hw123_0)).trans hw123_0)⟩ (fun hHeld => ?_); refine with_tabW collatorlaw04_Script.tab6 collatorlaw04_Script.bits6 (fun HT_ HW_ => ?_)
        generalize wc.drew = w11 at HO_6 HB hx121_0 hx123_0 hHeld ⊢
        refine pu_ (i := 0) (N := some 20) (any_of HT_.out (by kernel_rfl)) ?_
        refine pu_ (i := 1) (N := some 21) (any_of HT_.out (by kernel_rfl)) ?_
        refine pu_ (i := 2) (N := some 22) (any_of HT_.out (by kernel_rfl)) ?_
        refine pu_ (i := 6) (N := some 26) (any_of HT_.out (by kernel_rfl)) ?_
        refine pu_ (i := 7) (N := some 27) (any_of HT_.out (by kernel_rfl)) ?_
        refine pu_ (i := 8) (N := some 28) (any_of HT_.out (by kernel_rfl)) ?_
        refine ta_ (i := 3) (N := some 23) (take_ofW HT_.out HW_.out (by kernel_rfl)) hHeld ?_
        refine ta_ (i := 9) (N := some 29) (take_ofW HT_.out HW_.out (by kernel_rfl)) hHeld ?_
        refine pu_ (i := 10) (N := some 30) (any_of HT_.out (by kernel_rfl)) ?_
        refine join_ (σ := Nat) 1 #[true, true, true, true, true, true, true, true, true, true, true, true, true, true, true, false] (fun s_ => [(24, .int .i64 t122), (31, .int .i64 t124), (9, .pointer (some ⟨s_, 0, none⟩)), (25, .int .i64 (wrap64 (1 + t122))), (32, .int .i64 (wrap64 (1 + t124))), (33, .agg #[.int .i64 (wrap64 (1 + t122)), .int .i64 (wrap64 (1 + t124)), .slice none 0 0])]) (fun s_ w' => (w'.cell? (ad121.add (x8_1).toNat) = some (.int .i64 (rd l0 x8_1)) ∧ w'.cell? (ad121.add (x8_1).toNat) = some (.int .i64 (rd l0 x8_1))) ∧ (Kd.S k31 31 w' w.heap.size (fun k_ => k_ ≠ s_) u6 x6_1) ∧ (w'.heap[s_]? = some (.cells #[.int .i64 0, .int .i64 0, .slice none 0 0] 31 (0, 0))) ∧ (w.heap.size ≤ s_) ∧ (w.heap.size ≤ s_) ∧ (Below w.heap.size w w')) ?_ ?_
        rotate_left
        ·intro hCont
         refine two_ (i := 4) (j := 14) (Ni := some 24) (Nj := some 9) #[true, true, true, true, true, false, true, true, true, true, true, false, false, false, false, false] #[true, true, true, true, false, false, true, true, true, true, true, false, false, false, true, false] rfl rfl rfl rfl (two_of HT_.out (by kernel_rfl)) (by decide) (by decide) (fun K hK => ?_) (fun K hK => ?_)
         ·skip
          refine goes_ Try.func29 (by kernel_rfl) rfl #[.int .i64 (rd l0 x8_1), .int .i64 3] (by rfl) rfl rfl mp_ ?_
          with_reducible refine (collatorlaw04_pick.calls (rd l0 x8_1) 3 t122 _ A8.out).mono ?_
          rintro e w' ⟨rfl, ⟨nd, rfl⟩⟩
          refine ⟨_, rfl, ?_⟩
          refine hK.out _ _ ⟨((HB.out.cell (World.block_lt_of_cell? w _ hw121_0)).trans hw121_0), ((HB.out.cell (World.block_lt_of_cell? w _ hw123_0)).trans hw123_0)⟩ (fun hHeld => ?_)
          clear hK K
          refine norm_ (a' := ?_) ?_ ?_
          rotate_left
          ·show Act.put _ (some 24) _ = _
           simp only [Act.put, List.setIfInBounds_toArray, List.set_cons_zero, List.set_cons_succ, i64_w, i32_w]
           rfl
          refine pu_ (i := 5) (N := some 25) (any_of HT_.out (by kernel_rfl)) ?_
          refine two_ (i := 11) (j := 14) (Ni := some 31) (Nj := some 9) #[true, true, true, true, true, true, true, true, true, true, true, true, false, false, false, false] #[true, true, true, true, true, true, true, true, true, true, true, false, false, false, true, false] rfl rfl rfl rfl (two_of HT_.out (by kernel_rfl)) (by decide) (by decide) (fun K hK => ?_) (fun K hK => ?_)
          ·skip
           refine goes_ Try.func29 (by kernel_rfl) rfl #[.int .i64 (wrap64 (Int.tdiv (rd l0 x8_1) 3)), .int .i64 4] (by rfl) rfl rfl mp_ ?_
           with_reducible refine (collatorlaw04_pick.calls (wrap64 (Int.tdiv (rd l0 x8_1) 3)) 4 t124 _ A9.out).mono ?_
           rintro e w' ⟨rfl, ⟨nd, rfl⟩⟩
           refine ⟨_, rfl, ?_⟩
           refine hK.out _ _ ⟨((HB.out.cell (World.block_lt_of_cell? w _ hw121_0)).trans hw121_0), ((HB.out.cell (World.block_lt_of_cell? w _ hw123_0)).trans hw123_0)⟩ (fun hHeld => ?_)
           clear hK K
           refine norm_ (a' := ?_) ?_ ?_
           rotate_left
           ·show Act.put _ (some 31) _ = _
            simp only [Act.put, List.setIfInBounds_toArray, List.set_cons_zero, List.set_cons_succ, i64_w, i32_w]
            rfl
           refine pu_ (i := 12) (N := some 32) (any_of HT_.out (by kernel_rfl)) ?_
           refine pu_ (i := 13) (N := some 33) (any_of HT_.out (by kernel_rfl)) ?_
           refine one_ (i := 14) (N := some 9) #[true, true, true, true, true, true, true, true, true, true, true, true, true, true, true, false] rfl rfl (one_of HT_.out (by kernel_rfl)) (by decide) (fun K hK => ?_)
           refine box_step ?hg (N := 9) ?hd (cs := #[.int .i64 0, .int .i64 0, .slice none 0 0]) (t := 31) ?hr ?_; (case hd => rfl); (case hg => rfl); (case hr => first | (go_simp; done) | (go_simp; rfl))
           intro gb125 hg w12 hbox hb
           have n0_ := Aside0.mk (Kd.S_below (Kd.S_elderB (by (with_reducible repeat (first | apply Kd.S_alloc | apply Kd.S_drewN | apply Kd.S_drew)); exact HO_6.out) gb125 (Nat.le_of_eq hg.symm)) hb)
           have n1_ := Aside0.mk (below_step hb_ hb)
           have n2_ := Aside0.mk (hbox)
           have n3_ := Aside0.mk ((by rw [hg]; exact (below_size hb_) : w.heap.size ≤ gb125))
           have n4_ := Aside0.mk ((by rw [hg]; exact (below_size hb_) : w.heap.size ≤ gb125))
           clear HO_6
           clear HB
           have HO_6 := n0_
           have HB := n1_
           have BK125 := n2_
           have GW125 := n3_
           have GE125 := n4_
           clear n0_ n1_ n2_ n3_ n4_
           clear hb hbox hg
           refine hK.out _ _ ⟨((HB.out.cell (World.block_lt_of_cell? w _ hw121_0)).trans hw121_0), ((HB.out.cell (World.block_lt_of_cell? w _ hw123_0)).trans hw123_0)⟩ (fun hHeld => ?_)
           clear hK K
           refine norm_ (a' := ?_) ?_ ?_
           rotate_left
           ·show Act.put _ (some 9) _ = _
            simp only [Act.put, List.setIfInBounds_toArray, List.set_cons_zero, List.set_cons_succ, i64_w, i32_w]
            rfl
           exact norm_ (by simp only [putAll, Act.put, List.setIfInBounds_toArray, List.set_cons_zero, List.set_cons_succ]) (hCont (gb125) _ ⟨hHeld, (by (with_reducible repeat (first | apply Kd.S_alloc | apply Kd.S_drewN | apply Kd.S_drew)); exact Kd.S_mono HO_6.out (fun _ hk => hk.2)), (by (with_reducible repeat (first | refine blk_drewN ?_ _ | refine blk_drew ?_ | refine blk_alloc ?_ _)); exact BK125.out), GW125.out, GE125.out, (by repeat (first | (with_reducible first | exact HB.out | apply below_alloc | apply pw_below_drewN | apply below_drew1 | refine below_set ?_ GE125.out) | exact HB.out))⟩)
          ·skip
           refine box_step ?hg (N := 9) ?hd (cs := #[.int .i64 0, .int .i64 0, .slice none 0 0]) (t := 31) ?hr ?_; (case hd => rfl); (case hg => rfl); (case hr => first | (go_simp; done) | (go_simp; rfl))
           intro gb125 hg w12 hbox hb
           have n0_ := Aside0.mk (Kd.S_below (Kd.S_elderB (by (with_reducible repeat (first | apply Kd.S_alloc | apply Kd.S_drewN | apply Kd.S_drew)); exact HO_6.out) gb125 (Nat.le_of_eq hg.symm)) hb)
           have n1_ := Aside0.mk (below_step hb_ hb)
           have n2_ := Aside0.mk (hbox)
           have n3_ := Aside0.mk ((by rw [hg]; exact (below_size hb_) : w.heap.size ≤ gb125))
           have n4_ := Aside0.mk ((by rw [hg]; exact (below_size hb_) : w.heap.size ≤ gb125))
           clear HO_6
           clear HB
           have HO_6 := n0_
           have HB := n1_
           have BK125 := n2_
           have GW125 := n3_
           have GE125 := n4_
           clear n0_ n1_ n2_ n3_ n4_
           clear hb hbox hg
           refine hK.out _ _ ⟨((HB.out.cell (World.block_lt_of_cell? w _ hw121_0)).trans hw121_0), ((HB.out.cell (World.block_lt_of_cell? w _ hw123_0)).trans hw123_0)⟩ (fun hHeld => ?_)
           clear hK K
           refine norm_ (a' := ?_) ?_ ?_
           rotate_left
           ·show Act.put _ (some 9) _ = _
            simp only [Act.put, List.setIfInBounds_toArray, List.set_cons_zero, List.set_cons_succ, i64_w, i32_w]
            rfl
           refine one_ (i := 11) (N := some 31) #[true, true, true, true, true, true, true, true, true, true, true, true, false, false, true, false] rfl rfl (one_of HT_.out (by kernel_rfl)) (by decide) (fun K hK => ?_)
           refine goes_ Try.func29 (by kernel_rfl) rfl #[.int .i64 (wrap64 (Int.tdiv (rd l0 x8_1) 3)), .int .i64 4] (by rfl) rfl rfl mp_ ?_
           with_reducible refine (collatorlaw04_pick.calls (wrap64 (Int.tdiv (rd l0 x8_1) 3)) 4 t124 _ A9.out).mono ?_
           rintro e w' ⟨rfl, ⟨nd, rfl⟩⟩
           refine ⟨_, rfl, ?_⟩
           refine hK.out _ _ ⟨((HB.out.cell (World.block_lt_of_cell? w _ hw121_0)).trans hw121_0), ((HB.out.cell (World.block_lt_of_cell? w _ hw123_0)).trans hw123_0)⟩ (fun hHeld => ?_)
           clear hK K
           refine norm_ (a' := ?_) ?_ ?_
           rotate_left
           ·show Act.put _ (some 31) _ = _
            simp only [Act.put, List.setIfInBounds_toArray, List.set_cons_zero, List.set_cons_succ, i64_w, i32_w]
            rfl
           refine pu_ (i := 12) (N := some 32) (any_of HT_.out (by kernel_rfl)) ?_
           refine pu_ (i := 13) (N := some 33) (any_of HT_.out (by kernel_rfl)) ?_
           exact norm_ (by simp only [putAll, Act.put, List.setIfInBounds_toArray, List.set_cons_zero, List.set_cons_succ]) (hCont (gb125) _ ⟨hHeld, (by (with_reducible repeat (first | apply Kd.S_alloc | apply Kd.S_drewN | apply Kd.S_drew)); exact Kd.S_mono HO_6.out (fun _ hk => hk.2)), (by (with_reducible repeat (first | refine blk_drewN ?_ _ | refine blk_drew ?_ | refine blk_alloc ?_ _)); exact BK125.out), GW125.out, GE125.out, (by repeat (first | (with_reducible first | exact HB.out | apply below_alloc | apply pw_below_drewN | apply below_drew1 | refine below_set ?_ GE125.out) | exact HB.out))⟩)
         ·skip
          refine box_step ?hg (N := 9) ?hd (cs := #[.int .i64 0, .int .i64 0, .slice none 0 0]) (t := 31) ?hr ?_; (case hd => rfl); (case hg => rfl); (case hr => first | (go_simp; done) | (go_simp; rfl))
          intro gb125 hg w12 hbox hb
          have n0_ := Aside0.mk (Kd.S_below (Kd.S_elderB (by (with_reducible repeat (first | apply Kd.S_alloc | apply Kd.S_drewN | apply Kd.S_drew)); exact HO_6.out) gb125 (Nat.le_of_eq hg.symm)) hb)
          have n1_ := Aside0.mk (below_step hb_ hb)
          have n2_ := Aside0.mk (hbox)
          have n3_ := Aside0.mk ((by rw [hg]; exact (below_size hb_) : w.heap.size ≤ gb125))
          have n4_ := Aside0.mk ((by rw [hg]; exact (below_size hb_) : w.heap.size ≤ gb125))
          clear HO_6
          clear HB
          have HO_6 := n0_
          have HB := n1_
          have BK125 := n2_
          have GW125 := n3_
          have GE125 := n4_
          clear n0_ n1_ n2_ n3_ n4_
          clear hb hbox hg
          refine hK.out _ _ ⟨((HB.out.cell (World.block_lt_of_cell? w _ hw121_0)).trans hw121_0), ((HB.out.cell (World.block_lt_of_cell? w _ hw123_0)).trans hw123_0)⟩ (fun hHeld => ?_)
          clear hK K
          refine norm_ (a' := ?_) ?_ ?_
          rotate_left
          ·show Act.put _ (some 9) _ = _
           simp only [Act.put, List.setIfInBounds_toArray, List.set_cons_zero, List.set_cons_succ, i64_w, i32_w]
           rfl
          refine one_ (i := 4) (N := some 24) #[true, true, true, true, true, false, true, true, true, true, true, false, false, false, true, false] rfl rfl (one_of HT_.out (by kernel_rfl)) (by decide) (fun K hK => ?_)
          refine goes_ Try.func29 (by kernel_rfl) rfl #[.int .i64 (rd l0 x8_1), .int .i64 3] (by rfl) rfl rfl mp_ ?_
          with_reducible refine (collatorlaw04_pick.calls (rd l0 x8_1) 3 t122 _ A8.out).mono ?_
          rintro e w' ⟨rfl, ⟨nd, rfl⟩⟩
          refine ⟨_, rfl, ?_⟩
          refine hK.out _ _ ⟨((HB.out.cell (World.block_lt_of_cell? w _ hw121_0)).trans hw121_0), ((HB.out.cell (World.block_lt_of_cell? w _ hw123_0)).trans hw123_0)⟩ (fun hHeld => ?_)
          clear hK K
          refine norm_ (a' := ?_) ?_ ?_
          rotate_left
          ·show Act.put _ (some 24) _ = _
           simp only [Act.put, List.setIfInBounds_toArray, List.set_cons_zero, List.set_cons_succ, i64_w, i32_w]
           rfl
          refine pu_ (i := 5) (N := some 25) (any_of HT_.out (by kernel_rfl)) ?_
          refine one_ (i := 11) (N := some 31) #[true, true, true, true, true, true, true, true, true, true, true, true, false, false, true, false] rfl rfl (one_of HT_.out (by kernel_rfl)) (by decide) (fun K hK => ?_)
          refine goes_ Try.func29 (by kernel_rfl) rfl #[.int .i64 (wrap64 (Int.tdiv (rd l0 x8_1) 3)), .int .i64 4] (by rfl) rfl rfl mp_ ?_
          with_reducible refine (collatorlaw04_pick.calls (wrap64 (Int.tdiv (rd l0 x8_1) 3)) 4 t124 _ A9.out).mono ?_
          rintro e w' ⟨rfl, ⟨nd, rfl⟩⟩
          refine ⟨_, rfl, ?_⟩
          refine hK.out _ _ ⟨((HB.out.cell (World.block_lt_of_cell? w _ hw121_0)).trans hw121_0), ((HB.out.cell (World.block_lt_of_cell? w _ hw123_0)).trans hw123_0)⟩ (fun hHeld => ?_)
          clear hK K
          refine norm_ (a' := ?_) ?_ ?_
          rotate_left
          ·show Act.put _ (some 31) _ = _
           simp only [Act.put, List.setIfInBounds_toArray, List.set_cons_zero, List.set_cons_succ, i64_w, i32_w]
           rfl
          refine pu_ (i := 12) (N := some 32) (any_of HT_.out (by kernel_rfl)) ?_
          refine pu_ (i := 13) (N := some 33) (any_of HT_.out (by kernel_rfl)) ?_
          exact norm_ (by simp only [putAll, Act.put, List.setIfInBounds_toArray, List.set_cons_zero, List.set_cons_succ]) (hCont (gb125) _ ⟨hHeld, (by (with_reducible repeat (first | apply Kd.S_alloc | apply Kd.S_drewN | apply Kd.S_drew)); exact Kd.S_mono HO_6.out (fun _ hk => hk.2)), (by (with_reducible repeat (first | refine blk_drewN ?_ _ | refine blk_drew ?_ | refine blk_alloc ?_ _)); exact BK125.out), GW125.out, GE125.out, (by repeat (first | (with_reducible first | exact HB.out | apply below_alloc | apply pw_below_drewN | apply below_drew1 | refine below_set ?_ GE125.out) | exact HB.out))⟩)
        rintro gb125 w13 ⟨hS_, h0_, h1_, h2_, h3_, h4_⟩
        have n0_ : Aside0 (Kd.S k31 31 w13 w.heap.size (fun k_ => k_ ≠ gb125) u6 x6_1) := ⟨h0_⟩
        have n1_ : Aside0 (w13.heap[gb125]? = some (.cells #[.int .i64 0, .int .i64 0, .slice none 0 0] 31 (0, 0))) := ⟨h1_⟩
        have n2_ : Aside0 (w.heap.size ≤ gb125) := ⟨h2_⟩
        have n3_ : Aside0 (w.heap.size ≤ gb125) := ⟨h3_⟩
        have n4_ : Aside0 (Below w.heap.size w w13) := ⟨h4_⟩
        clear HO_6
        clear HB
        clear h0_ h1_ h2_ h3_ h4_
        have HO_6 := n0_
        have BK125 := n1_
        have GW125 := n2_
        have GE125 := n3_
        have HB := n4_
        clear n0_ n1_ n2_ n3_ n4_
        have hHeld : w13.cell? (ad121.add (x8_1).toNat) = some (.int .i64 (rd l0 x8_1)) ∧ w13.cell? (ad121.add (x8_1).toNat) = some (.int .i64 (rd l0 x8_1)) := hS_
        refine norm_ (a' := ?_) ?_ ?_
        rotate_left
        ·simp only [putAll, Act.put, List.setIfInBounds_toArray, List.set_cons_zero, List.set_cons_succ]
         rfl
        refine one_ (i := 15) (N := none) #[true, true, true, true, true, true, true, true, true, true, true, true, true, true, true, true] rfl rfl (one_of HT_.out (by kernel_rfl)) (by decide) (fun K hK => ?_)
        have hs14 : w13.cell? ⟨gb125, 0, none⟩ = some (.int .i64 0) := (blk_cell BK125.out 0).trans rfl
        have hfs14 := blk_frozen BK125.out 0
        have hs15 : w13.cell? ⟨gb125, 1, none⟩ = some (.int .i64 0) := (blk_cell BK125.out 1).trans rfl
        have hfs15 := blk_frozen BK125.out 1
        have hs16 : w13.cell? ⟨gb125, 2, none⟩ = some (.slice none 0 0) := (blk_cell BK125.out 2).trans rfl
        have hfs16 := blk_frozen BK125.out 2
        refine skip_ (w1 := ?_) (by rfl) rfl ?_ ?_
        rotate_left
        ·go_simp
         rfl
        refine hK.out _ _ ⟨((cell_far (p := ⟨gb125, _, none⟩) (by first | exact Nat.ne_of_lt (Nat.lt_of_lt_of_le (by have := World.block_lt_of_cell? _ _ hw121_0; first | rwa [add_block] at this | exact this) GW125.out) | (rw [add_block]; exact Nat.ne_of_lt (Nat.lt_of_lt_of_le (by have := World.block_lt_of_cell? _ _ hw121_0; first | rwa [add_block] at this | exact this) GW125.out)) | (show (Addr.add _ _).block ≠ _; rw [add_block]; exact Nat.ne_of_lt (Nat.lt_of_lt_of_le (by have := World.block_lt_of_cell? _ _ hw121_0; first | rwa [add_block] at this | exact this) GW125.out)) | (dsimp only; exact Nat.ne_of_lt (Nat.lt_of_lt_of_le (by have := World.block_lt_of_cell? _ _ hw121_0; first | rwa [add_block] at this | exact this) GW125.out))) _).trans (((cell_far (p := ⟨gb125, _, none⟩) (by first | exact Nat.ne_of_lt (Nat.lt_of_lt_of_le (by have := World.block_lt_of_cell? _ _ hw121_0; first | rwa [add_block] at this | exact this) GW125.out) | (rw [add_block]; exact Nat.ne_of_lt (Nat.lt_of_lt_of_le (by have := World.block_lt_of_cell? _ _ hw121_0; first | rwa [add_block] at this | exact this) GW125.out)) | (show (Addr.add _ _).block ≠ _; rw [add_block]; exact Nat.ne_of_lt (Nat.lt_of_lt_of_le (by have := World.block_lt_of_cell? _ _ hw121_0; first | rwa [add_block] at this | exact this) GW125.out)) | (dsimp only; exact Nat.ne_of_lt (Nat.lt_of_lt_of_le (by have := World.block_lt_of_cell? _ _ hw121_0; first | rwa [add_block] at this | exact this) GW125.out))) _).trans (((cell_far (p := ⟨gb125, _, none⟩) (by first | exact Nat.ne_of_lt (Nat.lt_of_lt_of_le (by have := World.block_lt_of_cell? _ _ hw121_0; first | rwa [add_block] at this | exact this) GW125.out) | (rw [add_block]; exact Nat.ne_of_lt (Nat.lt_of_lt_of_le (by have := World.block_lt_of_cell? _ _ hw121_0; first | rwa [add_block] at this | exact this) GW125.out)) | (show (Addr.add _ _).block ≠ _; rw [add_block]; exact Nat.ne_of_lt (Nat.lt_of_lt_of_le (by have := World.block_lt_of_cell? _ _ hw121_0; first | rwa [add_block] at this | exact this) GW125.out)) | (dsimp only; exact Nat.ne_of_lt (Nat.lt_of_lt_of_le (by have := World.block_lt_of_cell? _ _ hw121_0; first | rwa [add_block] at this | exact this) GW125.out))) _).trans (hHeld.1)))))), ((cell_far (p := ⟨gb125, _, none⟩) (by first | exact Nat.ne_of_lt (Nat.lt_of_lt_of_le (by have := World.block_lt_of_cell? _ _ hw123_0; first | rwa [add_block] at this | exact this) GW125.out) | (rw [add_block]; exact Nat.ne_of_lt (Nat.lt_of_lt_of_le (by have := World.block_lt_of_cell? _ _ hw123_0; first | rwa [add_block] at this | exact this) GW125.out)) | (show (Addr.add _ _).block ≠ _; rw [add_block]; exact Nat.ne_of_lt (Nat.lt_of_lt_of_le (by have := World.block_lt_of_cell? _ _ hw123_0; first | rwa [add_block] at this | exact this) GW125.out)) | (dsimp only; exact Nat.ne_of_lt (Nat.lt_of_lt_of_le (by have := World.block_lt_of_cell? _ _ hw123_0; first | rwa [add_block] at this | exact this) GW125.out))) _).trans (((cell_far (p := ⟨gb125, _, none⟩) (by first | exact Nat.ne_of_lt (Nat.lt_of_lt_of_le (by have := World.block_lt_of_cell? _ _ hw123_0; first | rwa [add_block] at this | exact this) GW125.out) | (rw [add_block]; exact Nat.ne_of_lt (Nat.lt_of_lt_of_le (by have := World.block_lt_of_cell? _ _ hw123_0; first | rwa [add_block] at this | exact this) GW125.out)) | (show (Addr.add _ _).block ≠ _; rw [add_block]; exact Nat.ne_of_lt (Nat.lt_of_lt_of_le (by have := World.block_lt_of_cell? _ _ hw123_0; first | rwa [add_block] at this | exact this) GW125.out)) | (dsimp only; exact Nat.ne_of_lt (Nat.lt_of_lt_of_le (by have := World.block_lt_of_cell? _ _ hw123_0; first | rwa [add_block] at this | exact this) GW125.out))) _).trans (((cell_far (p := ⟨gb125, _, none⟩) (by first | exact Nat.ne_of_lt (Nat.lt_of_lt_of_le (by have := World.block_lt_of_cell? _ _ hw123_0; first | rwa [add_block] at this | exact this) GW125.out) | (rw [add_block]; exact Nat.ne_of_lt (Nat.lt_of_lt_of_le (by have := World.block_lt_of_cell? _ _ hw123_0; first | rwa [add_block] at this | exact this) GW125.out)) | (show (Addr.add _ _).block ≠ _; rw [add_block]; exact Nat.ne_of_lt (Nat.lt_of_lt_of_le (by have := World.block_lt_of_cell? _ _ hw123_0; first | rwa [add_block] at this | exact this) GW125.out)) | (dsimp only; exact Nat.ne_of_lt (Nat.lt_of_lt_of_le (by have := World.block_lt_of_cell? _ _ hw123_0; first | rwa [add_block] at this | exact this) GW125.out))) _).trans (hHeld.2))))))⟩ (fun hHeld => ?_)
        clear hK K
        refine done_ (done_of HT_.out (by kernel_rfl)) ?_
        have hcz17_0 : w13.cell? ⟨gb125, 0, none⟩ = some (.int .i64 0) := (blk_cell BK125.out 0).trans rfl
        have hcz17_1 : w13.cell? ⟨gb125, 1, none⟩ = some (.int .i64 0) := (blk_cell BK125.out 1).trans rfl
        have hcz17_2 : w13.cell? ⟨gb125, 2, none⟩ = some (.slice none 0 0) := (blk_cell BK125.out 2).trans rfl
        have hfz17_0 := blk_frozen BK125.out 0
        have hfz17_1 := blk_frozen BK125.out 1
        have hfz17_2 := blk_frozen BK125.out 2
        go_upto_if 36 with (fail)
        go_cut [] (fun wc => ∃ (kq : Nat) (x126002_9 : List ByteArray) (u126002 : Value), Aside0 (collatorlaw04_Script.j2 kq l0 l1 x6_1 x7_1 x8_1 (wrap64 (1 + t122)) (wrap64 (1 + t124)) x126002_9 = some (r1, r2)) ∧ Aside0 (kq ≤ kj2) ∧ Aside0 (Kd.S k31 31 wc w.heap.size (fun k_ => some k_ ≠ (u126002 : Value).ownBlock ∧ k_ ≠ gb125) u6 x6_1) ∧ Aside0 (Kd.R Kd.string 9 wc w.heap.size (fun _ => True) u126002 x126002_9) ∧ Aside0 (wc.heap[gb125]? = some (.cells #[.int .i64 (wrap64 (1 + t122)), .int .i64 (wrap64 (1 + t124)), u126002] 31 (0, 0))) ∧ Aside0 (Below w.heap.size w wc))
        case first =>
         have H := HC10.out
         clear HC10
         by_cases c18 : (wrap64 (1 + t122)) = 3
         ·rw [if_pos c18] at H
          have c18b0 : ((wrap64 (1 + t122)) == 3) = true := beq_iff_eq.mpr c18
          have c18b1 : ((wrap64 (1 + t122)) != 3) = false := bne_eq_false_iff_eq.mpr c18
          clear c18
          (first | rw [c18b0] | rw [c18b1] | (simp only [i64_w, i32_w]; rw [c18b0]) | skip)
          have c19b0 := eq_true (of_decide_eq_true as_ : 0 ≤ x8_1)
          by_cases c20 : x8_1 ≤ (l0.length : Int)
          ·rw [if_pos c20] at H
           have c20b0 := eq_true c20
           have c20b1 : decide (x8_1 ≤ (l0.length : Int)) = true := decide_eq_true c20
           clear c20
           replace H := Option.bind_eq_some_iff.mp H
           obtain ⟨t127, A210, H⟩ := H
           replace H : (collatorlaw04_Script.j2 kj2 l0 l1 x6_1 x7_1 x8_1 (wrap64 (1 + t122)) (wrap64 (1 + t124)) t127) = some (r1, r2) := H
           have A21 := Aside0.mk A210
           clear A210
           have H' := Aside0.mk H
           clear H
           try go_wp2
           have n0_ : Aside0 (Kd.S k31 31 (((w13.setCell ⟨gb125, 0, none⟩ (.int .i64 (wrap64 (1 + t122)))).setCell ⟨gb125, 1, none⟩ (.int .i64 (wrap64 (1 + t124)))).setCell ⟨gb125, 2, none⟩ (.slice none 0 0)) w.heap.size (fun k_ => k_ ≠ gb125) u6 x6_1) := ⟨by (with_reducible repeat (first | apply Kd.S_alloc | apply Kd.S_drewN | apply Kd.S_drew)); exact Kd.S_mono (Kd.S_far (p := ⟨gb125, 2, none⟩) (Kd.S_far (p := ⟨gb125, 1, none⟩) (Kd.S_far (p := ⟨gb125, 0, none⟩) (Kd.S_mono HO_6.out (fun k_ hk => (⟨hk, hk⟩ : _ ∧ k_ ≠ gb125))) (fun _ hk => hk.2) (.int .i64 (wrap64 (1 + t122)))) (fun _ hk => hk.2) (.int .i64 (wrap64 (1 + t124)))) (fun _ hk => hk.2) (.slice none 0 0)) (fun _ hk => hk.1)⟩
           have n1_ : Aside0 ((((w13.setCell ⟨gb125, 0, none⟩ (.int .i64 (wrap64 (1 + t122)))).setCell ⟨gb125, 1, none⟩ (.int .i64 (wrap64 (1 + t124)))).setCell ⟨gb125, 2, none⟩ (.slice none 0 0)).heap[gb125]? = some (.cells #[.int .i64 (wrap64 (1 + t122)), .int .i64 (wrap64 (1 + t124)), .slice none 0 0] 31 (0, 0))) := ⟨by (with_reducible repeat (first | refine blk_drewN ?_ _ | refine blk_drew ?_ | refine blk_alloc ?_ _)); refine blk_put (cs := #[.int .i64 (wrap64 (1 + t122)), .int .i64 (wrap64 (1 + t124)), .slice none 0 0]) ?_ 2 _ rfl; (with_reducible repeat (first | refine blk_drewN ?_ _ | refine blk_drew ?_ | refine blk_alloc ?_ _)); refine blk_put (cs := #[.int .i64 (wrap64 (1 + t122)), .int .i64 0, .slice none 0 0]) ?_ 1 _ rfl; (with_reducible repeat (first | refine blk_drewN ?_ _ | refine blk_drew ?_ | refine blk_alloc ?_ _)); refine blk_put (cs := #[.int .i64 0, .int .i64 0, .slice none 0 0]) ?_ 0 _ rfl; (with_reducible repeat (first | refine blk_drewN ?_ _ | refine blk_drew ?_ | refine blk_alloc ?_ _)); exact BK125.out⟩
           have n2_ : Aside0 (Below w.heap.size w (((w13.setCell ⟨gb125, 0, none⟩ (.int .i64 (wrap64 (1 + t122)))).setCell ⟨gb125, 1, none⟩ (.int .i64 (wrap64 (1 + t124)))).setCell ⟨gb125, 2, none⟩ (.slice none 0 0))) := ⟨by repeat (first | (with_reducible first | exact HB.out | apply below_alloc | apply pw_below_drewN | apply below_drew1 | refine below_set ?_ GE125.out) | exact HB.out)⟩
           (try clear HO_6)
           (try clear BK125)
           (try clear HB)
           generalize (((w13.setCell ⟨gb125, 0, none⟩ (.int .i64 (wrap64 (1 + t122)))).setCell ⟨gb125, 1, none⟩ (.int .i64 (wrap64 (1 + t124)))).setCell ⟨gb125, 2, none⟩ (.slice none 0 0)) = w22 at n0_ n1_ n2_ ⊢
           have HO_6 := n0_
           have BK125 := n1_
           have HB := n2_
           clear n0_ n1_ n2_
           have n0_ := Aside0.mk (Kd.S_drew HO_6.out)
           have n1_ := Aside0.mk (blk_drew BK125.out)
           have n2_ := Aside0.mk (below_drew1 HB.out)
           clear HO_6
           clear BK125
           clear HB
           have HO_6 := n0_
           have BK125 := n1_
           have HB := n2_
           clear n0_ n1_ n2_
           obtain ⟨i024, hi024, _, hsz24, _⟩ := info_parts info3
           obtain ⟨A24, hcut24, hA24, hC24⟩ := print_drop_of (P := Try.prog) (Value.int .i64) 0 23 3 .i64 Try.underlying23 hi024 hsz24 (some ad121) c0 l0 x8_1 (of_decide_eq_true as_) (of_decide_eq_true as_) HC0.out
           have HR126 := Aside0.mk (Kd.C_of_reads (h1 := fun _ => rfl) (hA24 _ (Kd.reads_of_C HR0.out)))
           have HC126 := Aside0.mk hC24
           clear hA24 hC24 hi024 hsz24
           refine start_ (n := 8) (S := fun w' => w'.cell? ⟨gb125, 0, none⟩ = some (.int .i64 (wrap64 (1 + t122))) ∧ w'.cell? ⟨gb125, 1, none⟩ = some (.int .i64 (wrap64 (1 + t124))) ∧ w'.cell? ⟨gb125, 2, none⟩ = some (.slice none 0 0)) (ds := [7]) #[false, false, false, false, false, false, false, false] (by kernel_rfl) rfl rfl ⟨(blk_cell BK125.out 0).trans rfl, (blk_cell BK125.out 1).trans rfl, (blk_cell BK125.out 2).trans rfl⟩ (fun hHeld => ?_); refine with_tabW collatorlaw04_Script.tab8 collatorlaw04_Script.bits8 (fun HT_ HW_ => ?_)
           generalize w22.drew = w23 at HO_6 BK125 HB HR126 hHeld ⊢
           refine pu_ (i := 0) (N := some 37) (any_of HT_.out (by kernel_rfl)) ?_
           refine pu_ (i := 1) (N := some 38) (any_of HT_.out (by kernel_rfl)) ?_
           refine pu_ (i := 2) (N := some 39) (any_of HT_.out (by kernel_rfl)) ?_
           refine pu_ (i := 3) (N := some 40) (any_of HT_.out (by kernel_rfl)) ?_
           refine ta_ (i := 4) (N := some 41) (take_ofW HT_.out HW_.out (by kernel_rfl)) hHeld ?_
           refine one_ (i := 5) (N := some 42) #[true, true, true, true, true, true, false, false] rfl rfl (one_of HT_.out (by kernel_rfl)) (by decide) (fun K hK => ?_)
           refine goes_ Try.func30 (by kernel_rfl) rfl #[.slice A24 (l0.drop (x8_1 : Int).toNat).length (c0 - x8_1.toNat), .int .i64 (wrap64 (1 + t124))] (by rfl) rfl rfl (by (try simp only [List.map_toArray, List.map_cons, List.map_nil]); first | done | (rw [show (l0.drop (x8_1 : Int).toNat).length = (l0.length - x8_1.toNat) from List.length_drop] <;> rfl) | rfl | (simp only [List.length_drop, List.length_take]; rfl)) ?_
           with_reducible refine (collatorlaw04_full.calls kj2 _ _ (l0.drop (x8_1 : Int).toNat) (wrap64 (1 + t124)) t127 _ ?side1 ?side2 A21.out).mono ?_
           (case side1 => repeat (first | exact (Kd.C_below HR126.out HB.out) | (with_reducible refine Kd.C_alloc ?_ _) | (with_reducible refine Kd.C_drewN ?_ _) | (with_reducible refine Kd.C_drew ?_)))
           (case side2 => exact HC126.out)
           rintro e w25 ⟨v128, rfl, ho0, hb⟩
           refine ⟨_, rfl, ?_⟩
           have n0_ := Aside0.mk (Kd.S_elder' (by (with_reducible repeat (first | apply Kd.S_alloc | apply Kd.S_drewN | apply Kd.S_drew)); exact HO_6.out) (Kd.R_base ho0) hb)
           have n1_ := Aside0.mk (Kd.R_lower ho0 (below_size (by repeat (first | (with_reducible first | exact HB.out | apply below_alloc | apply pw_below_drewN | apply below_drew1 | refine below_set ?_ GE125.out) | exact HB.out))))
           have n2_ := Aside0.mk (blk_below (g := gb125) (o := .cells #[.int .i64 (wrap64 (1 + t122)), .int .i64 (wrap64 (1 + t124)), .slice none 0 0] 31 (0, 0)) (by (with_reducible repeat (first | refine blk_drewN ?_ _ | refine blk_drew ?_ | refine blk_alloc ?_ _)); exact BK125.out) hb)
           have n3_ := Aside0.mk (below_step (by repeat (first | (with_reducible first | exact HB.out | apply below_alloc | apply pw_below_drewN | apply below_drew1 | refine below_set ?_ GE125.out) | exact HB.out)) hb)
           clear HO_6
           clear BK125
           clear HB
           have HO_6 := n0_
           have HO129 := n1_
           have BK125 := n2_
           have HB := n3_
           clear n0_ n1_ n2_ n3_
           (try clear hb)
           (try clear hb2)
           (try clear hk)
           (try clear hi)
           (try clear ho0)
           obtain ⟨Ao26, co26, eo26⟩ := Kd.R_slice HO129.out
           (first | subst eo26 | (injection eo26 with f1_ f2_ f3_; have f4_ := f1_.symm; have f5_ := f3_.symm; clear f1_ f2_ f3_; subst f4_; subst f5_))
           refine hK.out _ _ ⟨(blk_cell BK125.out 0).trans rfl, (blk_cell BK125.out 1).trans rfl, (blk_cell BK125.out 2).trans rfl⟩ (fun hHeld => ?_)
           clear hK K
           refine norm_ (a' := ?_) ?_ ?_
           rotate_left
           ·show Act.put _ (some 42) _ = _
            simp only [Act.put, List.setIfInBounds_toArray, List.set_cons_zero, List.set_cons_succ, i64_w, i32_w]
            rfl
           refine pu_ (i := 6) (N := some 43) (any_of HT_.out (by kernel_rfl)) ?_
           refine last_ (i := 7) (N := none) #[true, true, true, true, true, true, true, true] rfl rfl (one_of HT_.out (by kernel_rfl)) (by decide) (fun K hK => ?_)
           have hs27 : w25.cell? ⟨gb125, 2, none⟩ = some (.slice none 0 0) := (blk_cell BK125.out 2).trans rfl
           have hfs27 := blk_frozen BK125.out 2
           refine skip_ (w1 := ?_) (by rfl) rfl ?_ ?_
           rotate_left
           ·go_simp
            rfl
           refine hK.out _ _ ?_
           clear hK K
           refine done_ (done_of HT_.out (by kernel_rfl)) ?_
           try go_wp2
           go_meet
           case rel => exact ⟨_, (t127), (.slice Ao26 t127.length co26), H', ⟨by have := HK1.out; have := HJ2.out; first | omega | exact Nat.le_refl _⟩, ⟨by (with_reducible repeat (first | apply Kd.S_alloc | apply Kd.S_drewN | apply Kd.S_drew)); exact Kd.S_mono (Kd.S_far (p := ⟨gb125, 2, none⟩) (Kd.S_mono HO_6.out (fun k_ hk => (⟨hk, hk.1⟩ : _ ∧ k_ ≠ gb125))) (fun _ hk => hk.2) (.slice Ao26 t127.length co26)) (fun _ hk => by first | exact ⟨hk.1.2, hk.1.1⟩ | simp_all)⟩, ⟨by (with_reducible repeat (first | apply Kd.R_alloc | apply Kd.R_drewN | apply Kd.R_drew)); exact Kd.R_mono (Kd.R_far (p := ⟨gb125, 2, none⟩) (Kd.R_types HO129.out BK125.out (by decide)) (fun _ hk => hk.2) (.slice Ao26 t127.length co26)) (fun _ hk => trivial)⟩, ⟨by (with_reducible repeat (first | refine blk_drewN ?_ _ | refine blk_drew ?_ | refine blk_alloc ?_ _)); refine blk_put (cs := #[.int .i64 (wrap64 (1 + t122)), .int .i64 (wrap64 (1 + t124)), .slice none 0 0]) ?_ 2 _ rfl; (with_reducible repeat (first | refine blk_drewN ?_ _ | refine blk_drew ?_ | refine blk_alloc ?_ _)); exact BK125.out⟩, ⟨by repeat (first | (with_reducible first | exact HB.out | apply below_alloc | apply pw_below_drewN | apply below_drew1 | refine below_set ?_ GE125.out) | exact HB.out)⟩⟩
          ·rw [if_neg c20] at H
           exact absurd H (by simp)
         ·rw [if_neg c18] at H
          have c18b0 : ((wrap64 (1 + t122)) == 3) = false := beq_eq_false_iff_ne.mpr c18
          have c18b1 : ((wrap64 (1 + t122)) != 3) = true := bne_iff_ne.mpr c18
          (first | rw [c18b0] | rw [c18b1] | (simp only [i64_w, i32_w]; rw [c18b0]) | skip)
          have H' := Aside0.mk H
          clear H
          go_wp2
          go_meet
          case rel => exact ⟨_, (([] : List ByteArray)), (.slice none 0 0), H', ⟨by have := HK1.out; have := HJ2.out; first | omega | exact Nat.le_refl _⟩, ⟨by (with_reducible repeat (first | apply Kd.S_alloc | apply Kd.S_drewN | apply Kd.S_drew)); exact Kd.S_mono (Kd.S_far (p := ⟨gb125, 2, none⟩) (Kd.S_far (p := ⟨gb125, 1, none⟩) (Kd.S_far (p := ⟨gb125, 0, none⟩) (Kd.S_mono HO_6.out (fun k_ hk => (⟨hk, hk⟩ : _ ∧ k_ ≠ gb125))) (fun _ hk => hk.2) (.int .i64 (wrap64 (1 + t122)))) (fun _ hk => hk.2) (.int .i64 (wrap64 (1 + t124)))) (fun _ hk => hk.2) (.slice none 0 0)) (fun _ hk => ⟨(by simp [Value.ownBlock]), hk.1⟩)⟩, ⟨by first | exact Kd.R_nil _ _ _ _ _ | exact Kd.N_nil _ _ _ _ _ | exact Kd.V_nil _ _ _ _ _ | exact Kd.Q_nil _ _ _ _ _ | exact Kd.S_nil _ _ _ _ _⟩, ⟨by (with_reducible repeat (first | refine blk_drewN ?_ _ | refine blk_drew ?_ | refine blk_alloc ?_ _)); refine blk_put (cs := #[.int .i64 (wrap64 (1 + t122)), .int .i64 (wrap64 (1 + t124)), .slice none 0 0]) ?_ 2 _ rfl; (with_reducible repeat (first | refine blk_drewN ?_ _ | refine blk_drew ?_ | refine blk_alloc ?_ _)); refine blk_put (cs := #[.int .i64 (wrap64 (1 + t122)), .int .i64 0, .slice none 0 0]) ?_ 1 _ rfl; (with_reducible repeat (first | refine blk_drewN ?_ _ | refine blk_drew ?_ | refine blk_alloc ?_ _)); refine blk_put (cs := #[.int .i64 0, .int .i64 0, .slice none 0 0]) ?_ 0 _ rfl; (with_reducible repeat (first | refine blk_drewN ?_ _ | refine blk_drew ?_ | refine blk_alloc ?_ _)); exact BK125.out⟩, ⟨by repeat (first | (with_reducible first | exact HB.out | apply below_alloc | apply pw_below_drewN | apply below_drew1 | refine below_set ?_ GE125.out) | exact HB.out)⟩⟩
        case rest =>
         clear HC10
         (try clear c1);(try clear p1);(try clear q1);(try clear hx1);(try clear c2);(try clear p2);(try clear c3);(try clear c4);(try clear c4b0);(try clear c5);(try clear c6);(try clear c6b0);(try clear p6);(try clear c7);(try clear c7b0);(try clear c10);(try clear p12);(try clear q12);(try clear hx12);(try clear c18);(try clear c18b0);(try clear c18b1);(try clear c19);(try clear c19b0);(try clear c20);(try clear c20b0);(try clear c20b1);(try clear hcz17_0);(try clear hcz17_1);(try clear hcz17_2);(try clear hfz17_0);(try clear hfz17_1);(try clear hfz17_2);(try clear hx121_0);(try clear hx123_0);(try clear p121);(try clear p123);(try clear p2);(try clear q121);(try clear q123)
         obtain ⟨kq, x126002_9, u126002, HA, HJ9, HO_6, HO_126002, BK125, HB⟩ := hcut
         cases kq with
         | zero => exact absurd HA.out (by simp [collatorlaw04_Script.j2])
         | succ kj9 =>
          have H := HA.out
          clear HA
          simp only [collatorlaw04_Script.j2] at H
          have HC28 := Aside0.mk H
          clear H
          go_upto_region 9 with (fail)
          go_cut [73] (fun v73 wc => ∃ (kq : Nat) (x73_27 : Bool), v73 = .bool x73_27 ∧ Aside0 (collatorlaw04_Script.j3 kq l0 l1 x6_1 x7_1 x8_1 x73_27 (wrap64 (1 + t122)) (wrap64 (1 + t124)) x126002_9 = some (r1, r2)) ∧ Aside0 (kq ≤ kj9) ∧ Aside0 (Kd.S k31 31 wc w.heap.size (fun k_ => some k_ ≠ (u126002 : Value).ownBlock ∧ k_ ≠ gb125) u6 x6_1) ∧ Aside0 (Kd.R Kd.string 9 wc w.heap.size (fun _ => True) u126002 x126002_9) ∧ Aside0 (wc.heap[gb125]? = some (.cells #[.int .i64 (wrap64 (1 + t122)), .int .i64 (wrap64 (1 + t124)), u126002] 31 (0, 0))) ∧ Aside0 (Below w.heap.size w wc))
          case first =>
           have H := HC28.out
           clear HC28
           by_cases c29 : (x6_1.length : Int) > 0
           ·rw [if_pos c29] at H
            have c29b0 : decide (0 < (x6_1.length : Int)) = true := decide_eq_true c29
            have c29b1 : decide (0 < x6_1.length) = true := decide_eq_true (by omega)
            clear c29
            (first | rw [c29b0] | rw [c29b1] | (simp only [i64_w, i32_w]; rw [c29b0]) | skip)
            obtain ⟨ji30, hji30⟩ : ∃ j_ : Int, (wrap64 ((x6_1.length : Int) - 1)) = j_ := ⟨_, rfl⟩
            replace H : (if 0 ≤ (ji30) then (if (ji30) < (x6_1.length : Int) then (if ((rd_T31 x6_1 (ji30)).f0) = (wrap64 (1 + t122)) then (collatorlaw04_Script.j3 kj9 l0 l1 x6_1 x7_1 x8_1 true (wrap64 (1 + t122)) (wrap64 (1 + t124)) x126002_9) else (if ((rd_T31 x6_1 (ji30)).f0) = 3 then (collatorlaw04_Script.j3 kj9 l0 l1 x6_1 x7_1 x8_1 ((wrap64 (1 + t122)) == 2) (wrap64 (1 + t122)) (wrap64 (1 + t124)) x126002_9) else (collatorlaw04_Script.j3 kj9 l0 l1 x6_1 x7_1 x8_1 false (wrap64 (1 + t122)) (wrap64 (1 + t124)) x126002_9))) else (none)) else (none)) = some (r1, r2) := by first | (rw [hji30] at H; exact H) | (simp only [hji30] at H ⊢; exact H)
            have hji30w : (IntKind.i64.wrap ((x6_1.length : Int) - 1)) = ji30 := (i64_w _).trans hji30
            by_cases c31 : 0 ≤ (ji30)
            ·rw [if_pos c31] at H
             have c31b0 : decide (0 ≤ (ji30)) = true := decide_eq_true c31
             clear c31
             by_cases c32 : (ji30) < (x6_1.length : Int)
             ·rw [if_pos c32] at H
              have c32b0 : decide ((ji30) < (x6_1.length : Int)) = true := decide_eq_true c32
              clear c32
              by_cases c33 : ((rd_T31 x6_1 (ji30)).f0) = (wrap64 (1 + t122))
              ·rw [if_pos c33] at H
               have c33b0 : (((rd_T31 x6_1 (ji30)).f0) == (wrap64 (1 + t122))) = true := beq_iff_eq.mpr c33
               have c33b1 : (((rd_T31 x6_1 (ji30)).f0) != (wrap64 (1 + t122))) = false := bne_eq_false_iff_eq.mpr c33
               clear c33
               have H' := Aside0.mk H
               clear H
               try go_wp2
               have n0_ := Aside0.mk (Kd.S_drew HO_6.out)
               have n1_ := Aside0.mk (Kd.R_drew HO_126002.out)
               have n2_ := Aside0.mk (blk_drew BK125.out)
               have n3_ := Aside0.mk (below_drew1 HB.out)
               clear HO_6
               clear HO_126002
               clear BK125
               clear HB
               have HO_6 := n0_
               have HO_126002 := n1_
               have BK125 := n2_
               have HB := n3_
               clear n0_ n1_ n2_ n3_
               obtain ⟨Ao35, co35, eo35⟩ := Kd.S_slice HO_6.out
               (first | subst eo35 | (injection eo35 with f1_ f2_ f3_; have f4_ := f1_.symm; have f5_ := f3_.symm; clear f1_ f2_ f3_; subst f4_; subst f5_))
               have p130 : 0 ≤ ((ji30) : Int) := of_decide_eq_true as_
               have q130 : (ji30) < (x6_1.length : Int) := of_decide_eq_true as_
               obtain ⟨ad130, A130_2, c130_2, e130, hx130_0, hx130_1, hx130_2, hl130_2, hi130_2⟩ := at_T31 (Kd.S_reads' HO_6.out).2.2 (ji30) p130 q130
               cases e130
               obtain ⟨ce130, hce130, hMe130, hcc130⟩ := Kd.S_get HO_6.out z31 (ji30) p130 (by first | exact q130 | exact of_decide_eq_true as_ | (have e_ := (Kd.S_reads' HO_6.out).1; omega))
               obtain ⟨ve130_2, rfl, ge130_2⟩ := k31_openM hMe130
               have hv130_2 := hcc130 2 _ rfl
               rw [add_field _ _ 2 (by omega)] at hv130_2
               replace hv130_2 := Option.some.inj (hv130_2.symm.trans hx130_2)
               rw [hv130_2] at ge130_2
               have HL130_2 := Aside0.mk (show Kd.R Kd.string 9 _ _ _ _ ((rd_T31 x6_1 (ji30)).f2) from ge130_2)
               clear hv130_2 ge130_2
               clear hcc130 hce130
               have HR130_2 := Aside0.mk hi130_2
               have HC130_2 := Aside0.mk hl130_2
               clear hi130_2 hl130_2
               replace p130 := eq_true p130
               replace q130 := eq_true q130
               refine start_ (n := 30) (S := fun w' => w'.cell? ⟨gb125, 0, none⟩ = some (.int .i64 (wrap64 (1 + t122))) ∧ w'.cell? ⟨gb125, 1, none⟩ = some (.int .i64 (wrap64 (1 + t124))) ∧ w'.cell? ⟨gb125, 2, none⟩ = some (u126002) ∧ w'.cell? (ad130.add (((ji30)).toNat * 3)) = some (.int .i64 ((rd_T31 x6_1 (ji30)).f0)) ∧ w'.cell? ⟨(ad130.add (((ji30)).toNat * 3)).block, (ad130.add (((ji30)).toNat * 3)).off + 1, none⟩ = some (.int .i64 ((rd_T31 x6_1 (ji30)).f1)) ∧ w'.cell? ⟨(ad130.add (((ji30)).toNat * 3)).block, (ad130.add (((ji30)).toNat * 3)).off + 2, none⟩ = some (.slice A130_2 ((rd_T31 x6_1 (ji30)).f2).length c130_2)) (ds := []) #[false, false, false, false, false, false, false, false, false, false, false, false, false, false, false, false, false, false, false, false, false, false, false, false, false, false, false, false, false, false] (by kernel_rfl) rfl rfl ⟨(blk_cell BK125.out 0).trans rfl, (blk_cell BK125.out 1).trans rfl, (blk_cell BK125.out 2).trans rfl, hx130_0, hx130_1, hx130_2⟩ (fun hHeld => ?_); refine with_tabW collatorlaw04_Script.tab9 collatorlaw04_Script.bits9 (fun HT_ HW_ => ?_)
               generalize wc.drew = w34 at HO_6 HO_126002 BK125 HB HL130_2 HR130_2 hx130_0 hx130_1 hx130_2 hHeld ⊢
               refine pu_ (i := 0) (N := some 44) (any_of HT_.out (by kernel_rfl)) ?_
               refine pu_ (i := 1) (N := some 45) (any_of HT_.out (by kernel_rfl)) ?_
               refine pu_ (i := 2) (N := some 46) (any_of HT_.out (by kernel_rfl)) ?_
               refine pu_ (i := 3) (N := some 47) (any_of HT_.out (by kernel_rfl)) ?_
               refine pu_ (i := 4) (N := some 48) (any_of HT_.out (by kernel_rfl)) ?_
               refine pu_ (i := 5) (N := some 49) (any_of HT_.out (by kernel_rfl)) ?_
               refine pu_ (i := 6) (N := some 50) (any_of HT_.out (by kernel_rfl)) ?_
               refine pu_ (i := 7) (N := some 51) (any_of HT_.out (by kernel_rfl)) ?_
               refine pu_ (i := 8) (N := some 52) (any_of HT_.out (by kernel_rfl)) ?_
               refine pu_ (i := 9) (N := some 53) (any_of HT_.out (by kernel_rfl)) ?_
               refine pu_ (i := 11) (N := some 55) (any_of HT_.out (by kernel_rfl)) ?_
               refine ta_ (i := 10) (N := some 54) (take_ofW HT_.out HW_.out (by kernel_rfl)) hHeld ?_
               refine ta_ (i := 12) (N := some 56) (take_ofW HT_.out HW_.out (by kernel_rfl)) hHeld ?_
               refine pu_ (i := 13) (N := some 57) (any_of HT_.out (by kernel_rfl)) ?_
               refine pu_ (i := 14) (N := some 58) (any_of HT_.out (by kernel_rfl)) ?_
               refine pure_ (i := 15) (N := some 59) (v := undef) (a' := ?_) #[true, true, true, true, true, true, true, true, true, true, true, true, true, true, true, true, false, false, false, false, false, false, false, false, false, false, false, false, false, false] rfl rfl (any_of HT_.out (by kernel_rfl)) (fun _ _ _ h => h) (Or.inr ⟨by rfl, rfl⟩) ?_ ?_
               rotate_left
               ·simp only [Act.put, List.setIfInBounds_toArray, List.set_cons_zero, List.set_cons_succ, i64_w, i32_w]
                rfl
               refine pure_ (i := 16) (N := some 60) (v := undef) (a' := ?_) #[true, true, true, true, true, true, true, true, true, true, true, true, true, true, true, true, true, false, false, false, false, false, false, false, false, false, false, false, false, false] rfl rfl (any_of HT_.out (by kernel_rfl)) (fun _ _ _ h => h) (Or.inr ⟨by rfl, rfl⟩) ?_ ?_
               rotate_left
               ·simp only [Act.put, List.setIfInBounds_toArray, List.set_cons_zero, List.set_cons_succ, i64_w, i32_w]
                rfl
               refine pure_ (i := 17) (N := some 61) (v := undef) (a' := ?_) #[true, true, true, true, true, true, true, true, true, true, true, true, true, true, true, true, true, true, false, false, false, false, false, false, false, false, false, false, false, false] rfl rfl (any_of HT_.out (by kernel_rfl)) (fun _ _ _ h => h) (Or.inr ⟨by rfl, rfl⟩) ?_ ?_
               rotate_left
               ·simp only [Act.put, List.setIfInBounds_toArray, List.set_cons_zero, List.set_cons_succ, i64_w, i32_w]
                rfl
               refine pure_ (i := 18) (N := some 62) (v := undef) (a' := ?_) #[true, true, true, true, true, true, true, true, true, true, true, true, true, true, true, true, true, true, true, false, false, false, false, false, false, false, false, false, false, false] rfl rfl (any_of HT_.out (by kernel_rfl)) (fun _ _ _ h => h) (Or.inr ⟨by rfl, rfl⟩) ?_ ?_
               rotate_left
               ·simp only [Act.put, List.setIfInBounds_toArray, List.set_cons_zero, List.set_cons_succ, i64_w, i32_w]
                rfl
               refine pure_ (i := 19) (N := some 63) (v := undef) (a' := ?_) #[true, true, true, true, true, true, true, true, true, true, true, true, true, true, true, true, true, true, true, true, false, false, false, false, false, false, false, false, false, false] rfl rfl (any_of HT_.out (by kernel_rfl)) (fun _ _ _ h => h) (Or.inr ⟨by rfl, rfl⟩) ?_ ?_
               rotate_left
               ·simp only [Act.put, List.setIfInBounds_toArray, List.set_cons_zero, List.set_cons_succ, i64_w, i32_w]
                rfl
               refine pure_ (i := 20) (N := some 64) (v := undef) (a' := ?_) #[true, true, true, true, true, true, true, true, true, true, true, true, true, true, true, true, true, true, true, true, true, false, false, false, false, false, false, false, false, false] rfl rfl (any_of HT_.out (by kernel_rfl)) (fun _ _ _ h => h) (Or.inr ⟨by rfl, rfl⟩) ?_ ?_
               rotate_left
               ·simp only [Act.put, List.setIfInBounds_toArray, List.set_cons_zero, List.set_cons_succ, i64_w, i32_w]
                rfl
               refine pure_ (i := 21) (N := some 65) (v := undef) (a' := ?_) #[true, true, true, true, true, true, true, true, true, true, true, true, true, true, true, true, true, true, true, true, true, true, false, false, false, false, false, false, false, false] rfl rfl (any_of HT_.out (by kernel_rfl)) (fun _ _ _ h => h) (Or.inr ⟨by rfl, rfl⟩) ?_ ?_
               rotate_left
               ·simp only [Act.put, List.setIfInBounds_toArray, List.set_cons_zero, List.set_cons_succ, i64_w, i32_w]
                rfl
               refine pure_ (i := 22) (N := some 66) (v := undef) (a' := ?_) #[true, true, true, true, true, true, true, true, true, true, true, true, true, true, true, true, true, true, true, true, true, true, true, false, false, false, false, false, false, false] rfl rfl (any_of HT_.out (by kernel_rfl)) (fun _ _ _ h => h) (Or.inr ⟨by rfl, rfl⟩) ?_ ?_
               rotate_left
               ·simp only [Act.put, List.setIfInBounds_toArray, List.set_cons_zero, List.set_cons_succ, i64_w, i32_w]
                rfl
               refine pure_ (i := 23) (N := some 67) (v := undef) (a' := ?_) #[true, true, true, true, true, true, true, true, true, true, true, true, true, true, true, true, true, true, true, true, true, true, true, true, false, false, false, false, false, false] rfl rfl (any_of HT_.out (by kernel_rfl)) (fun _ _ _ h => h) (Or.inr ⟨by rfl, rfl⟩) ?_ ?_
               rotate_left
               ·simp only [Act.put, List.setIfInBounds_toArray, List.set_cons_zero, List.set_cons_succ, i64_w, i32_w]
                rfl
               refine pure_ (i := 24) (N := some 68) (v := undef) (a' := ?_) #[true, true, true, true, true, true, true, true, true, true, true, true, true, true, true, true, true, true, true, true, true, true, true, true, true, false, false, false, false, false] rfl rfl (any_of HT_.out (by kernel_rfl)) (fun _ _ _ h => h) (Or.inr ⟨by rfl, rfl⟩) ?_ ?_
               rotate_left
               ·simp only [Act.put, List.setIfInBounds_toArray, List.set_cons_zero, List.set_cons_succ, i64_w, i32_w]
                rfl
               refine pure_ (i := 25) (N := some 69) (v := undef) (a' := ?_) #[true, true, true, true, true, true, true, true, true, true, true, true, true, true, true, true, true, true, true, true, true, true, true, true, true, true, false, false, false, false] rfl rfl (any_of HT_.out (by kernel_rfl)) (fun _ _ _ h => h) (Or.inr ⟨by rfl, rfl⟩) ?_ ?_
               rotate_left
               ·simp only [Act.put, List.setIfInBounds_toArray, List.set_cons_zero, List.set_cons_succ, i64_w, i32_w]
                rfl
               refine pure_ (i := 26) (N := some 70) (v := undef) (a' := ?_) #[true, true, true, true, true, true, true, true, true, true, true, true, true, true, true, true, true, true, true, true, true, true, true, true, true, true, true, false, false, false] rfl rfl (any_of HT_.out (by kernel_rfl)) (fun _ _ _ h => h) (Or.inr ⟨by rfl, rfl⟩) ?_ ?_
               rotate_left
               ·simp only [Act.put, List.setIfInBounds_toArray, List.set_cons_zero, List.set_cons_succ, i64_w, i32_w]
                rfl
               refine pure_ (i := 27) (N := some 71) (v := undef) (a' := ?_) #[true, true, true, true, true, true, true, true, true, true, true, true, true, true, true, true, true, true, true, true, true, true, true, true, true, true, true, true, false, false] rfl rfl (any_of HT_.out (by kernel_rfl)) (fun _ _ _ h => h) (Or.inr ⟨by rfl, rfl⟩) ?_ ?_
               rotate_left
               ·simp only [Act.put, List.setIfInBounds_toArray, List.set_cons_zero, List.set_cons_succ, i64_w, i32_w]
                rfl
               refine pu_ (i := 28) (N := some 72) (any_of HT_.out (by kernel_rfl)) ?_
               refine pu_ (i := 29) (N := some 73) (any_of HT_.out (by kernel_rfl)) ?_
               refine done_ (done_of HT_.out (by kernel_rfl)) ?_
               try go_wp2
               go_meet
               case rel => exact ⟨_, (true), rf_, H', ⟨by have := HK1.out; have := HJ2.out; have := HJ9.out; first | omega | exact Nat.le_refl _⟩, ⟨by (with_reducible repeat (first | apply Kd.S_alloc | apply Kd.S_drewN | apply Kd.S_drew)); exact HO_6.out⟩, ⟨by (with_reducible repeat (first | apply Kd.R_alloc | apply Kd.R_drewN | apply Kd.R_drew)); exact HO_126002.out⟩, ⟨by (with_reducible repeat (first | refine blk_drewN ?_ _ | refine blk_drew ?_ | refine blk_alloc ?_ _)); exact BK125.out⟩, ⟨by repeat (first | (with_reducible first | exact HB.out | apply below_alloc | apply pw_below_drewN | apply below_drew1 | refine below_set ?_ GE125.out) | exact HB.out)⟩⟩
              ·rw [if_neg c33] at H
               have c33b0 : (((rd_T31 x6_1 (ji30)).f0) == (wrap64 (1 + t122))) = false := beq_eq_false_iff_ne.mpr c33
               have c33b1 : (((rd_T31 x6_1 (ji30)).f0) != (wrap64 (1 + t122))) = true := bne_iff_ne.mpr c33
               by_cases c36 : ((rd_T31 x6_1 (ji30)).f0) = 3
               ·rw [if_pos c36] at H
                have c36b0 : (((rd_T31 x6_1 (ji30)).f0) == 3) = true := beq_iff_eq.mpr c36
                have c36b1 : (((rd_T31 x6_1 (ji30)).f0) != 3) = false := bne_eq_false_iff_eq.mpr c36
                clear c36
                have H' := Aside0.mk H
                clear H
                try go_wp2
                have n0_ := Aside0.mk (Kd.S_drew HO_6.out)
                have n1_ := Aside0.mk (Kd.R_drew HO_126002.out)
                have n2_ := Aside0.mk (blk_drew BK125.out)
                have n3_ := Aside0.mk (below_drew1 HB.out)
                clear HO_6
                clear HO_126002
                clear BK125
                clear HB
                have HO_6 := n0_
                have HO_126002 := n1_
                have BK125 := n2_
                have HB := n3_
                clear n0_ n1_ n2_ n3_
                obtain ⟨Ao38, co38, eo38⟩ := Kd.S_slice HO_6.out
                (first | subst eo38 | (injection eo38 with f1_ f2_ f3_; have f4_ := f1_.symm; have f5_ := f3_.symm; clear f1_ f2_ f3_; subst f4_; subst f5_))
                have p130 : 0 ≤ ((ji30) : Int) := of_decide_eq_true as_
                have q130 : (ji30) < (x6_1.length : Int) := of_decide_eq_true as_
                obtain ⟨ad130, A130_2, c130_2, e130, hx130_0, hx130_1, hx130_2, hl130_2, hi130_2⟩ := at_T31 (Kd.S_reads' HO_6.out).2.2 (ji30) p130 q130
                cases e130
                obtain ⟨ce130, hce130, hMe130, hcc130⟩ := Kd.S_get HO_6.out z31 (ji30) p130 (by first | exact q130 | exact of_decide_eq_true as_ | (have e_ := (Kd.S_reads' HO_6.out).1; omega))
                obtain ⟨ve130_2, rfl, ge130_2⟩ := k31_openM hMe130
                have hv130_2 := hcc130 2 _ rfl
                rw [add_field _ _ 2 (by omega)] at hv130_2
                replace hv130_2 := Option.some.inj (hv130_2.symm.trans hx130_2)
                rw [hv130_2] at ge130_2
                have HL130_2 := Aside0.mk (show Kd.R Kd.string 9 _ _ _ _ ((rd_T31 x6_1 (ji30)).f2) from ge130_2)
                clear hv130_2 ge130_2
                clear hcc130 hce130
                have HR130_2 := Aside0.mk hi130_2
                have HC130_2 := Aside0.mk hl130_2
                clear hi130_2 hl130_2
                replace p130 := eq_true p130
                replace q130 := eq_true q130
                have p131 : 0 ≤ ((ji30) : Int) := of_decide_eq_true as_
                have q131 : (ji30) < (x6_1.length : Int) := of_decide_eq_true as_
                obtain ⟨ad131, A131_2, c131_2, e131, hx131_0, hx131_1, hx131_2, hl131_2, hi131_2⟩ := at_T31 (Kd.S_reads' HO_6.out).2.2 (ji30) p131 q131
                obtain rfl : ad130 = ad131 := (by injection e131)
                obtain ⟨ce131, hce131, hMe131, hcc131⟩ := Kd.S_get HO_6.out z31 (ji30) p131 (by first | exact q131 | exact of_decide_eq_true as_ | (have e_ := (Kd.S_reads' HO_6.out).1; omega))
                obtain ⟨ve131_2, rfl, ge131_2⟩ := k31_openM hMe131
                have hv131_2 := hcc131 2 _ rfl
                rw [add_field _ _ 2 (by omega)] at hv131_2
                replace hv131_2 := Option.some.inj (hv131_2.symm.trans hx131_2)
                rw [hv131_2] at ge131_2
                have HL131_2 := Aside0.mk (show Kd.R Kd.string 9 _ _ _ _ ((rd_T31 x6_1 (ji30)).f2) from ge131_2)
                clear hv131_2 ge131_2
                clear hcc131 hce131
                have HR131_2 := Aside0.mk hi131_2
                have HC131_2 := Aside0.mk hl131_2
                clear hi131_2 hl131_2
                replace p131 := eq_true p131
                replace q131 := eq_true q131
                have ea_ := Option.some.inj (hx130_2.symm.trans hx131_2)
                injection ea_ with ea_ en_ ec_
                subst ea_
                subst ec_
                clear en_
                refine start_ (n := 30) (S := fun w' => w'.cell? ⟨gb125, 0, none⟩ = some (.int .i64 (wrap64 (1 + t122))) ∧ w'.cell? ⟨gb125, 1, none⟩ = some (.int .i64 (wrap64 (1 + t124))) ∧ w'.cell? ⟨gb125, 2, none⟩ = some (u126002) ∧ w'.cell? (ad130.add (((ji30)).toNat * 3)) = some (.int .i64 ((rd_T31 x6_1 (ji30)).f0)) ∧ w'.cell? ⟨(ad130.add (((ji30)).toNat * 3)).block, (ad130.add (((ji30)).toNat * 3)).off + 1, none⟩ = some (.int .i64 ((rd_T31 x6_1 (ji30)).f1)) ∧ w'.cell? ⟨(ad130.add (((ji30)).toNat * 3)).block, (ad130.add (((ji30)).toNat * 3)).off + 2, none⟩ = some (.slice A130_2 ((rd_T31 x6_1 (ji30)).f2).length c130_2) ∧ w'.cell? (ad130.add (((ji30)).toNat * 3)) = some (.int .i64 ((rd_T31 x6_1 (ji30)).f0)) ∧ w'.cell? ⟨(ad130.add (((ji30)).toNat * 3)).block, (ad130.add (((ji30)).toNat * 3)).off + 1, none⟩ = some (.int .i64 ((rd_T31 x6_1 (ji30)).f1)) ∧ w'.cell? ⟨(ad130.add (((ji30)).toNat * 3)).block, (ad130.add (((ji30)).toNat * 3)).off + 2, none⟩ = some (.slice A130_2 ((rd_T31 x6_1 (ji30)).f2).length c130_2)) (ds := []) #[false, false, false, false, false, false, false, false, false, false, false, false, false, false, false, false, false, false, false, false, false, false, false, false, false, false, false, false, false, false] (by kernel_rfl) rfl rfl ⟨(blk_cell BK125.out 0).trans rfl, (blk_cell BK125.out 1).trans rfl, (blk_cell BK125.out 2).trans rfl, hx130_0, hx130_1, hx130_2, hx131_0, hx131_1, hx131_2⟩ (fun hHeld => ?_); refine with_tabW collatorlaw04_Script.tab9 collatorlaw04_Script.bits9 (fun HT_ HW_ => ?_)
                generalize wc.drew = w37 at HO_6 HO_126002 BK125 HB HL130_2 HL131_2 HR130_2 HR131_2 hx130_0 hx130_1 hx130_2 hx131_0 hx131_1 hx131_2 hHeld ⊢
                refine pu_ (i := 0) (N := some 44) (any_of HT_.out (by kernel_rfl)) ?_
                refine pu_ (i := 1) (N := some 45) (any_of HT_.out (by kernel_rfl)) ?_
                refine pu_ (i := 2) (N := some 46) (any_of HT_.out (by kernel_rfl)) ?_
                refine pu_ (i := 3) (N := some 47) (any_of HT_.out (by kernel_rfl)) ?_
                refine pu_ (i := 4) (N := some 48) (any_of HT_.out (by kernel_rfl)) ?_
                refine pu_ (i := 5) (N := some 49) (any_of HT_.out (by kernel_rfl)) ?_
                refine pu_ (i := 6) (N := some 50) (any_of HT_.out (by kernel_rfl)) ?_
                refine pu_ (i := 7) (N := some 51) (any_of HT_.out (by kernel_rfl)) ?_
                refine pu_ (i := 8) (N := some 52) (any_of HT_.out (by kernel_rfl)) ?_
                refine pu_ (i := 9) (N := some 53) (any_of HT_.out (by kernel_rfl)) ?_
                refine pu_ (i := 11) (N := some 55) (any_of HT_.out (by kernel_rfl)) ?_
                refine ta_ (i := 10) (N := some 54) (take_ofW HT_.out HW_.out (by kernel_rfl)) hHeld ?_
                refine ta_ (i := 12) (N := some 56) (take_ofW HT_.out HW_.out (by kernel_rfl)) hHeld ?_
                refine pu_ (i := 13) (N := some 57) (any_of HT_.out (by kernel_rfl)) ?_
                refine pu_ (i := 14) (N := some 58) (any_of HT_.out (by kernel_rfl)) ?_
                refine pu_ (i := 15) (N := some 59) (any_of HT_.out (by kernel_rfl)) ?_
                refine pu_ (i := 16) (N := some 60) (any_of HT_.out (by kernel_rfl)) ?_
                refine pu_ (i := 17) (N := some 61) (any_of HT_.out (by kernel_rfl)) ?_
                refine pu_ (i := 18) (N := some 62) (any_of HT_.out (by kernel_rfl)) ?_
                refine pu_ (i := 19) (N := some 63) (any_of HT_.out (by kernel_rfl)) ?_
                refine pu_ (i := 20) (N := some 64) (any_of HT_.out (by kernel_rfl)) ?_
                refine ta_ (i := 21) (N := some 65) (take_ofW HT_.out HW_.out (by kernel_rfl)) hHeld ?_
                refine pu_ (i := 22) (N := some 66) (any_of HT_.out (by kernel_rfl)) ?_
                refine pu_ (i := 23) (N := some 67) (any_of HT_.out (by kernel_rfl)) ?_
                refine pu_ (i := 24) (N := some 68) (any_of HT_.out (by kernel_rfl)) ?_
                refine ta_ (i := 25) (N := some 69) (take_ofW HT_.out HW_.out (by kernel_rfl)) hHeld ?_
                refine pu_ (i := 26) (N := some 70) (any_of HT_.out (by kernel_rfl)) ?_
                refine pu_ (i := 27) (N := some 71) (any_of HT_.out (by kernel_rfl)) ?_
                refine pu_ (i := 28) (N := some 72) (any_of HT_.out (by kernel_rfl)) ?_
                refine pu_ (i := 29) (N := some 73) (any_of HT_.out (by kernel_rfl)) ?_
                refine done_ (done_of HT_.out (by kernel_rfl)) ?_
                try go_wp2
                go_meet
                case rel => exact ⟨_, (((wrap64 (1 + t122)) == 2)), rf_, H', ⟨by have := HK1.out; have := HJ2.out; have := HJ9.out; first | omega | exact Nat.le_refl _⟩, ⟨by (with_reducible repeat (first | apply Kd.S_alloc | apply Kd.S_drewN | apply Kd.S_drew)); exact HO_6.out⟩, ⟨by (with_reducible repeat (first | apply Kd.R_alloc | apply Kd.R_drewN | apply Kd.R_drew)); exact HO_126002.out⟩, ⟨by (with_reducible repeat (first | refine blk_drewN ?_ _ | refine blk_drew ?_ | refine blk_alloc ?_ _)); exact BK125.out⟩, ⟨by repeat (first | (with_reducible first | exact HB.out | apply below_alloc | apply pw_below_drewN | apply below_drew1 | refine below_set ?_ GE125.out) | exact HB.out)⟩⟩
               ·rw [if_neg c36] at H
                have c36b0 : (((rd_T31 x6_1 (ji30)).f0) == 3) = false := beq_eq_false_iff_ne.mpr c36
                have c36b1 : (((rd_T31 x6_1 (ji30)).f0) != 3) = true := bne_iff_ne.mpr c36
                have H' := Aside0.mk H
                clear H
                try go_wp2
                have n0_ := Aside0.mk (Kd.S_drew HO_6.out)
                have n1_ := Aside0.mk (Kd.R_drew HO_126002.out)
                have n2_ := Aside0.mk (blk_drew BK125.out)
                have n3_ := Aside0.mk (below_drew1 HB.out)
                clear HO_6
                clear HO_126002
                clear BK125
                clear HB
                have HO_6 := n0_
                have HO_126002 := n1_
                have BK125 := n2_
                have HB := n3_
                clear n0_ n1_ n2_ n3_
                obtain ⟨Ao40, co40, eo40⟩ := Kd.S_slice HO_6.out
                (first | subst eo40 | (injection eo40 with f1_ f2_ f3_; have f4_ := f1_.symm; have f5_ := f3_.symm; clear f1_ f2_ f3_; subst f4_; subst f5_))
                have p130 : 0 ≤ ((ji30) : Int) := of_decide_eq_true as_
                have q130 : (ji30) < (x6_1.length : Int) := of_decide_eq_true as_
                obtain ⟨ad130, A130_2, c130_2, e130, hx130_0, hx130_1, hx130_2, hl130_2, hi130_2⟩ := at_T31 (Kd.S_reads' HO_6.out).2.2 (ji30) p130 q130
                cases e130
                obtain ⟨ce130, hce130, hMe130, hcc130⟩ := Kd.S_get HO_6.out z31 (ji30) p130 (by first | exact q130 | exact of_decide_eq_true as_ | (have e_ := (Kd.S_reads' HO_6.out).1; omega))
                obtain ⟨ve130_2, rfl, ge130_2⟩ := k31_openM hMe130
                have hv130_2 := hcc130 2 _ rfl
                rw [add_field _ _ 2 (by omega)] at hv130_2
                replace hv130_2 := Option.some.inj (hv130_2.symm.trans hx130_2)
                rw [hv130_2] at ge130_2
                have HL130_2 := Aside0.mk (show Kd.R Kd.string 9 _ _ _ _ ((rd_T31 x6_1 (ji30)).f2) from ge130_2)
                clear hv130_2 ge130_2
                clear hcc130 hce130
                have HR130_2 := Aside0.mk hi130_2
                have HC130_2 := Aside0.mk hl130_2
                clear hi130_2 hl130_2
                replace p130 := eq_true p130
                replace q130 := eq_true q130
                have p131 : 0 ≤ ((ji30) : Int) := of_decide_eq_true as_
                have q131 : (ji30) < (x6_1.length : Int) := of_decide_eq_true as_
                obtain ⟨ad131, A131_2, c131_2, e131, hx131_0, hx131_1, hx131_2, hl131_2, hi131_2⟩ := at_T31 (Kd.S_reads' HO_6.out).2.2 (ji30) p131 q131
                obtain rfl : ad130 = ad131 := (by injection e131)
                obtain ⟨ce131, hce131, hMe131, hcc131⟩ := Kd.S_get HO_6.out z31 (ji30) p131 (by first | exact q131 | exact of_decide_eq_true as_ | (have e_ := (Kd.S_reads' HO_6.out).1; omega))
                obtain ⟨ve131_2, rfl, ge131_2⟩ := k31_openM hMe131
                have hv131_2 := hcc131 2 _ rfl
                rw [add_field _ _ 2 (by omega)] at hv131_2
                replace hv131_2 := Option.some.inj (hv131_2.symm.trans hx131_2)
                rw [hv131_2] at ge131_2
                have HL131_2 := Aside0.mk (show Kd.R Kd.string 9 _ _ _ _ ((rd_T31 x6_1 (ji30)).f2) from ge131_2)
                clear hv131_2 ge131_2
                clear hcc131 hce131
                have HR131_2 := Aside0.mk hi131_2
                have HC131_2 := Aside0.mk hl131_2
                clear hi131_2 hl131_2
                replace p131 := eq_true p131
                replace q131 := eq_true q131
                have ea_ := Option.some.inj (hx130_2.symm.trans hx131_2)
                injection ea_ with ea_ en_ ec_
                subst ea_
                subst ec_
                clear en_
                refine start_ (n := 30) (S := fun w' => w'.cell? ⟨gb125, 0, none⟩ = some (.int .i64 (wrap64 (1 + t122))) ∧ w'.cell? ⟨gb125, 1, none⟩ = some (.int .i64 (wrap64 (1 + t124))) ∧ w'.cell? ⟨gb125, 2, none⟩ = some (u126002) ∧ w'.cell? (ad130.add (((ji30)).toNat * 3)) = some (.int .i64 ((rd_T31 x6_1 (ji30)).f0)) ∧ w'.cell? ⟨(ad130.add (((ji30)).toNat * 3)).block, (ad130.add (((ji30)).toNat * 3)).off + 1, none⟩ = some (.int .i64 ((rd_T31 x6_1 (ji30)).f1)) ∧ w'.cell? ⟨(ad130.add (((ji30)).toNat * 3)).block, (ad130.add (((ji30)).toNat * 3)).off + 2, none⟩ = some (.slice A130_2 ((rd_T31 x6_1 (ji30)).f2).length c130_2) ∧ w'.cell? (ad130.add (((ji30)).toNat * 3)) = some (.int .i64 ((rd_T31 x6_1 (ji30)).f0)) ∧ w'.cell? ⟨(ad130.add (((ji30)).toNat * 3)).block, (ad130.add (((ji30)).toNat * 3)).off + 1, none⟩ = some (.int .i64 ((rd_T31 x6_1 (ji30)).f1)) ∧ w'.cell? ⟨(ad130.add (((ji30)).toNat * 3)).block, (ad130.add (((ji30)).toNat * 3)).off + 2, none⟩ = some (.slice A130_2 ((rd_T31 x6_1 (ji30)).f2).length c130_2)) (ds := []) #[false, false, false, false, false, false, false, false, false, false, false, false, false, false, false, false, false, false, false, false, false, false, false, false, false, false, false, false, false, false] (by kernel_rfl) rfl rfl ⟨(blk_cell BK125.out 0).trans rfl, (blk_cell BK125.out 1).trans rfl, (blk_cell BK125.out 2).trans rfl, hx130_0, hx130_1, hx130_2, hx131_0, hx131_1, hx131_2⟩ (fun hHeld => ?_); refine with_tabW collatorlaw04_Script.tab9 collatorlaw04_Script.bits9 (fun HT_ HW_ => ?_)
                generalize wc.drew = w39 at HO_6 HO_126002 BK125 HB HL130_2 HL131_2 HR130_2 HR131_2 hx130_0 hx130_1 hx130_2 hx131_0 hx131_1 hx131_2 hHeld ⊢
                refine pu_ (i := 0) (N := some 44) (any_of HT_.out (by kernel_rfl)) ?_
                refine pu_ (i := 1) (N := some 45) (any_of HT_.out (by kernel_rfl)) ?_
                refine pu_ (i := 2) (N := some 46) (any_of HT_.out (by kernel_rfl)) ?_
                refine pu_ (i := 3) (N := some 47) (any_of HT_.out (by kernel_rfl)) ?_
                refine pu_ (i := 4) (N := some 48) (any_of HT_.out (by kernel_rfl)) ?_
                refine pu_ (i := 5) (N := some 49) (any_of HT_.out (by kernel_rfl)) ?_
                refine pu_ (i := 6) (N := some 50) (any_of HT_.out (by kernel_rfl)) ?_
                refine pu_ (i := 7) (N := some 51) (any_of HT_.out (by kernel_rfl)) ?_
                refine pu_ (i := 8) (N := some 52) (any_of HT_.out (by kernel_rfl)) ?_
                refine pu_ (i := 9) (N := some 53) (any_of HT_.out (by kernel_rfl)) ?_
                refine pu_ (i := 11) (N := some 55) (any_of HT_.out (by kernel_rfl)) ?_
                refine ta_ (i := 10) (N := some 54) (take_ofW HT_.out HW_.out (by kernel_rfl)) hHeld ?_
                refine ta_ (i := 12) (N := some 56) (take_ofW HT_.out HW_.out (by kernel_rfl)) hHeld ?_
                refine pu_ (i := 13) (N := some 57) (any_of HT_.out (by kernel_rfl)) ?_
                refine pu_ (i := 14) (N := some 58) (any_of HT_.out (by kernel_rfl)) ?_
                refine pu_ (i := 15) (N := some 59) (any_of HT_.out (by kernel_rfl)) ?_
                refine pu_ (i := 16) (N := some 60) (any_of HT_.out (by kernel_rfl)) ?_
                refine pu_ (i := 17) (N := some 61) (any_of HT_.out (by kernel_rfl)) ?_
                refine pu_ (i := 18) (N := some 62) (any_of HT_.out (by kernel_rfl)) ?_
                refine pu_ (i := 19) (N := some 63) (any_of HT_.out (by kernel_rfl)) ?_
                refine pu_ (i := 20) (N := some 64) (any_of HT_.out (by kernel_rfl)) ?_
                refine ta_ (i := 21) (N := some 65) (take_ofW HT_.out HW_.out (by kernel_rfl)) hHeld ?_
                refine pu_ (i := 22) (N := some 66) (any_of HT_.out (by kernel_rfl)) ?_
                refine pu_ (i := 23) (N := some 67) (any_of HT_.out (by kernel_rfl)) ?_
                refine pure_ (i := 24) (N := some 68) (v := undef) (a' := ?_) #[true, true, true, true, true, true, true, true, true, true, true, true, true, true, true, true, true, true, true, true, true, true, true, true, true, false, false, false, false, false] rfl rfl (any_of HT_.out (by kernel_rfl)) (fun _ _ _ h => h) (Or.inr ⟨by rfl, rfl⟩) ?_ ?_
                rotate_left
                ·simp only [Act.put, List.setIfInBounds_toArray, List.set_cons_zero, List.set_cons_succ, i64_w, i32_w]
                 rfl
                refine pure_ (i := 25) (N := some 69) (v := undef) (a' := ?_) #[true, true, true, true, true, true, true, true, true, true, true, true, true, true, true, true, true, true, true, true, true, true, true, true, true, true, false, false, false, false] rfl rfl (any_of HT_.out (by kernel_rfl)) (fun _ _ _ h => h) (Or.inr ⟨by rfl, rfl⟩) ?_ ?_
                rotate_left
                ·simp only [Act.put, List.setIfInBounds_toArray, List.set_cons_zero, List.set_cons_succ, i64_w, i32_w]
                 rfl
                refine pure_ (i := 26) (N := some 70) (v := undef) (a' := ?_) #[true, true, true, true, true, true, true, true, true, true, true, true, true, true, true, true, true, true, true, true, true, true, true, true, true, true, true, false, false, false] rfl rfl (any_of HT_.out (by kernel_rfl)) (fun _ _ _ h => h) (Or.inr ⟨by rfl, rfl⟩) ?_ ?_
                rotate_left
                ·simp only [Act.put, List.setIfInBounds_toArray, List.set_cons_zero, List.set_cons_succ, i64_w, i32_w]
                 rfl
                refine pu_ (i := 27) (N := some 71) (any_of HT_.out (by kernel_rfl)) ?_
                refine pu_ (i := 28) (N := some 72) (any_of HT_.out (by kernel_rfl)) ?_
                refine pu_ (i := 29) (N := some 73) (any_of HT_.out (by kernel_rfl)) ?_
                refine done_ (done_of HT_.out (by kernel_rfl)) ?_
                try go_wp2
                go_meet
                case rel => exact ⟨_, (false), rf_, H', ⟨by have := HK1.out; have := HJ2.out; have := HJ9.out; first | omega | exact Nat.le_refl _⟩, ⟨by (with_reducible repeat (first | apply Kd.S_alloc | apply Kd.S_drewN | apply Kd.S_drew)); exact HO_6.out⟩, ⟨by (with_reducible repeat (first | apply Kd.R_alloc | apply Kd.R_drewN | apply Kd.R_drew)); exact HO_126002.out⟩, ⟨by (with_reducible repeat (first | refine blk_drewN ?_ _ | refine blk_drew ?_ | refine blk_alloc ?_ _)); exact BK125.out⟩, ⟨by repeat (first | (with_reducible first | exact HB.out | apply below_alloc | apply pw_below_drewN | apply below_drew1 | refine below_set ?_ GE125.out) | exact HB.out)⟩⟩
             ·rw [if_neg c32] at H
              exact absurd H (by simp)
            ·rw [if_neg c31] at H
             exact absurd H (by simp)
           ·rw [if_neg c29] at H
            have c29b0 : decide (0 < (x6_1.length : Int)) = false := decide_eq_false c29
            have c29b1 : decide (0 < x6_1.length) = false := decide_eq_false (by omega)
            clear c29
            (first | rw [c29b0] | rw [c29b1] | (simp only [i64_w, i32_w]; rw [c29b0]) | skip)
            have H' := Aside0.mk H
            clear H
            try go_wp2
            have n0_ := Aside0.mk (Kd.S_drew HO_6.out)
            have n1_ := Aside0.mk (Kd.R_drew HO_126002.out)
            have n2_ := Aside0.mk (blk_drew BK125.out)
            have n3_ := Aside0.mk (below_drew1 HB.out)
            clear HO_6
            clear HO_126002
            clear BK125
            clear HB
            have HO_6 := n0_
            have HO_126002 := n1_
            have BK125 := n2_
            have HB := n3_
            clear n0_ n1_ n2_ n3_
            obtain ⟨Ao42, co42, eo42⟩ := Kd.S_slice HO_6.out
            (first | subst eo42 | (injection eo42 with f1_ f2_ f3_; have f4_ := f1_.symm; have f5_ := f3_.symm; clear f1_ f2_ f3_; subst f4_; subst f5_))
            refine start_ (n := 30) (S := fun w' => True) (ds := []) #[false, false, false, false, false, false, false, false, false, false, false, false, false, false, false, false, false, false, false, false, false, false, false, false, false, false, false, false, false, false] (by kernel_rfl) rfl rfl trivial (fun hHeld => ?_); refine with_tabW collatorlaw04_Script.tab9 collatorlaw04_Script.bits9 (fun HT_ HW_ => ?_)
            generalize wc.drew = w41 at HO_6 HO_126002 BK125 HB hHeld ⊢
            refine pu_ (i := 0) (N := some 44) (any_of HT_.out (by kernel_rfl)) ?_
            refine pu_ (i := 1) (N := some 45) (any_of HT_.out (by kernel_rfl)) ?_
            refine pu_ (i := 2) (N := some 46) (any_of HT_.out (by kernel_rfl)) ?_
            refine pu_ (i := 3) (N := some 47) (any_of HT_.out (by kernel_rfl)) ?_
            refine pure_ (i := 4) (N := some 48) (v := undef) (a' := ?_) #[true, true, true, true, true, false, false, false, false, false, false, false, false, false, false, false, false, false, false, false, false, false, false, false, false, false, false, false, false, false] rfl rfl (any_of HT_.out (by kernel_rfl)) (fun _ _ _ h => h) (Or.inr ⟨by rfl, rfl⟩) ?_ ?_
            rotate_left
            ·simp only [Act.put, List.setIfInBounds_toArray, List.set_cons_zero, List.set_cons_succ, i64_w, i32_w]
             rfl
            refine pure_ (i := 5) (N := some 49) (v := undef) (a' := ?_) #[true, true, true, true, true, true, false, false, false, false, false, false, false, false, false, false, false, false, false, false, false, false, false, false, false, false, false, false, false, false] rfl rfl (any_of HT_.out (by kernel_rfl)) (fun _ _ _ h => h) (Or.inr ⟨by rfl, rfl⟩) ?_ ?_
            rotate_left
            ·simp only [Act.put, List.setIfInBounds_toArray, List.set_cons_zero, List.set_cons_succ, i64_w, i32_w]
             rfl
            refine pure_ (i := 6) (N := some 50) (v := undef) (a' := ?_) #[true, true, true, true, true, true, true, false, false, false, false, false, false, false, false, false, false, false, false, false, false, false, false, false, false, false, false, false, false, false] rfl rfl (any_of HT_.out (by kernel_rfl)) (fun _ _ _ h => h) (Or.inr ⟨by rfl, rfl⟩) ?_ ?_
            rotate_left
            ·simp only [Act.put, List.setIfInBounds_toArray, List.set_cons_zero, List.set_cons_succ, i64_w, i32_w]
             rfl
            refine pure_ (i := 7) (N := some 51) (v := undef) (a' := ?_) #[true, true, true, true, true, true, true, true, false, false, false, false, false, false, false, false, false, false, false, false, false, false, false, false, false, false, false, false, false, false] rfl rfl (any_of HT_.out (by kernel_rfl)) (fun _ _ _ h => h) (Or.inr ⟨by rfl, rfl⟩) ?_ ?_
            rotate_left
            ·simp only [Act.put, List.setIfInBounds_toArray, List.set_cons_zero, List.set_cons_succ, i64_w, i32_w]
             rfl
            refine pure_ (i := 8) (N := some 52) (v := undef) (a' := ?_) #[true, true, true, true, true, true, true, true, true, false, false, false, false, false, false, false, false, false, false, false, false, false, false, false, false, false, false, false, false, false] rfl rfl (any_of HT_.out (by kernel_rfl)) (fun _ _ _ h => h) (Or.inr ⟨by rfl, rfl⟩) ?_ ?_
            rotate_left
            ·simp only [Act.put, List.setIfInBounds_toArray, List.set_cons_zero, List.set_cons_succ, i64_w, i32_w]
             rfl
            refine pure_ (i := 9) (N := some 53) (v := undef) (a' := ?_) #[true, true, true, true, true, true, true, true, true, true, false, false, false, false, false, false, false, false, false, false, false, false, false, false, false, false, false, false, false, false] rfl rfl (any_of HT_.out (by kernel_rfl)) (fun _ _ _ h => h) (Or.inr ⟨by rfl, rfl⟩) ?_ ?_
            rotate_left
            ·simp only [Act.put, List.setIfInBounds_toArray, List.set_cons_zero, List.set_cons_succ, i64_w, i32_w]
             rfl
            refine pure_ (i := 10) (N := some 54) (v := undef) (a' := ?_) #[true, true, true, true, true, true, true, true, true, true, true, false, false, false, false, false, false, false, false, false, false, false, false, false, false, false, false, false, false, false] rfl rfl (any_of HT_.out (by kernel_rfl)) (fun _ _ _ h => h) (Or.inr ⟨by rfl, rfl⟩) ?_ ?_
            rotate_left
            ·simp only [Act.put, List.setIfInBounds_toArray, List.set_cons_zero, List.set_cons_succ, i64_w, i32_w]
             rfl
            refine pure_ (i := 11) (N := some 55) (v := undef) (a' := ?_) #[true, true, true, true, true, true, true, true, true, true, true, true, false, false, false, false, false, false, false, false, false, false, false, false, false, false, false, false, false, false] rfl rfl (any_of HT_.out (by kernel_rfl)) (fun _ _ _ h => h) (Or.inr ⟨by rfl, rfl⟩) ?_ ?_
            rotate_left
            ·simp only [Act.put, List.setIfInBounds_toArray, List.set_cons_zero, List.set_cons_succ, i64_w, i32_w]
             rfl
            refine pure_ (i := 12) (N := some 56) (v := undef) (a' := ?_) #[true, true, true, true, true, true, true, true, true, true, true, true, true, false, false, false, false, false, false, false, false, false, false, false, false, false, false, false, false, false] rfl rfl (any_of HT_.out (by kernel_rfl)) (fun _ _ _ h => h) (Or.inr ⟨by rfl, rfl⟩) ?_ ?_
            rotate_left
            ·simp only [Act.put, List.setIfInBounds_toArray, List.set_cons_zero, List.set_cons_succ, i64_w, i32_w]
             rfl
            refine pure_ (i := 13) (N := some 57) (v := undef) (a' := ?_) #[true, true, true, true, true, true, true, true, true, true, true, true, true, true, false, false, false, false, false, false, false, false, false, false, false, false, false, false, false, false] rfl rfl (any_of HT_.out (by kernel_rfl)) (fun _ _ _ h => h) (Or.inr ⟨by rfl, rfl⟩) ?_ ?_
            rotate_left
            ·simp only [Act.put, List.setIfInBounds_toArray, List.set_cons_zero, List.set_cons_succ, i64_w, i32_w]
             rfl
            refine pure_ (i := 14) (N := some 58) (v := undef) (a' := ?_) #[true, true, true, true, true, true, true, true, true, true, true, true, true, true, true, false, false, false, false, false, false, false, false, false, false, false, false, false, false, false] rfl rfl (any_of HT_.out (by kernel_rfl)) (fun _ _ _ h => h) (Or.inr ⟨by rfl, rfl⟩) ?_ ?_
            rotate_left
            ·simp only [Act.put, List.setIfInBounds_toArray, List.set_cons_zero, List.set_cons_succ, i64_w, i32_w]
             rfl
            refine pure_ (i := 15) (N := some 59) (v := undef) (a' := ?_) #[true, true, true, true, true, true, true, true, true, true, true, true, true, true, true, true, false, false, false, false, false, false, false, false, false, false, false, false, false, false] rfl rfl (any_of HT_.out (by kernel_rfl)) (fun _ _ _ h => h) (Or.inr ⟨by rfl, rfl⟩) ?_ ?_
            rotate_left
            ·simp only [Act.put, List.setIfInBounds_toArray, List.set_cons_zero, List.set_cons_succ, i64_w, i32_w]
             rfl
            refine pure_ (i := 16) (N := some 60) (v := undef) (a' := ?_) #[true, true, true, true, true, true, true, true, true, true, true, true, true, true, true, true, true, false, false, false, false, false, false, false, false, false, false, false, false, false] rfl rfl (any_of HT_.out (by kernel_rfl)) (fun _ _ _ h => h) (Or.inr ⟨by rfl, rfl⟩) ?_ ?_
            rotate_left
            ·simp only [Act.put, List.setIfInBounds_toArray, List.set_cons_zero, List.set_cons_succ, i64_w, i32_w]
             rfl
            refine pure_ (i := 17) (N := some 61) (v := undef) (a' := ?_) #[true, true, true, true, true, true, true, true, true, true, true, true, true, true, true, true, true, true, false, false, false, false, false, false, false, false, false, false, false, false] rfl rfl (any_of HT_.out (by kernel_rfl)) (fun _ _ _ h => h) (Or.inr ⟨by rfl, rfl⟩) ?_ ?_
            rotate_left
            ·simp only [Act.put, List.setIfInBounds_toArray, List.set_cons_zero, List.set_cons_succ, i64_w, i32_w]
             rfl
            refine pure_ (i := 18) (N := some 62) (v := undef) (a' := ?_) #[true, true, true, true, true, true, true, true, true, true, true, true, true, true, true, true, true, true, true, false, false, false, false, false, false, false, false, false, false, false] rfl rfl (any_of HT_.out (by kernel_rfl)) (fun _ _ _ h => h) (Or.inr ⟨by rfl, rfl⟩) ?_ ?_
            rotate_left
            ·simp only [Act.put, List.setIfInBounds_toArray, List.set_cons_zero, List.set_cons_succ, i64_w, i32_w]
             rfl
            refine pure_ (i := 19) (N := some 63) (v := undef) (a' := ?_) #[true, true, true, true, true, true, true, true, true, true, true, true, true, true, true, true, true, true, true, true, false, false, false, false, false, false, false, false, false, false] rfl rfl (any_of HT_.out (by kernel_rfl)) (fun _ _ _ h => h) (Or.inr ⟨by rfl, rfl⟩) ?_ ?_
            rotate_left
            ·simp only [Act.put, List.setIfInBounds_toArray, List.set_cons_zero, List.set_cons_succ, i64_w, i32_w]
             rfl
            refine pure_ (i := 20) (N := some 64) (v := undef) (a' := ?_) #[true, true, true, true, true, true, true, true, true, true, true, true, true, true, true, true, true, true, true, true, true, false, false, false, false, false, false, false, false, false] rfl rfl (any_of HT_.out (by kernel_rfl)) (fun _ _ _ h => h) (Or.inr ⟨by rfl, rfl⟩) ?_ ?_
            rotate_left
            ·simp only [Act.put, List.setIfInBounds_toArray, List.set_cons_zero, List.set_cons_succ, i64_w, i32_w]
             rfl
            refine pure_ (i := 21) (N := some 65) (v := undef) (a' := ?_) #[true, true, true, true, true, true, true, true, true, true, true, true, true, true, true, true, true, true, true, true, true, true, false, false, false, false, false, false, false, false] rfl rfl (any_of HT_.out (by kernel_rfl)) (fun _ _ _ h => h) (Or.inr ⟨by rfl, rfl⟩) ?_ ?_
            rotate_left
            ·simp only [Act.put, List.setIfInBounds_toArray, List.set_cons_zero, List.set_cons_succ, i64_w, i32_w]
             rfl
            refine pure_ (i := 22) (N := some 66) (v := undef) (a' := ?_) #[true, true, true, true, true, true, true, true, true, true, true, true, true, true, true, true, true, true, true, true, true, true, true, false, false, false, false, false, false, false] rfl rfl (any_of HT_.out (by kernel_rfl)) (fun _ _ _ h => h) (Or.inr ⟨by rfl, rfl⟩) ?_ ?_
            rotate_left
            ·simp only [Act.put, List.setIfInBounds_toArray, List.set_cons_zero, List.set_cons_succ, i64_w, i32_w]
             rfl
            refine pure_ (i := 23) (N := some 67) (v := undef) (a' := ?_) #[true, true, true, true, true, true, true, true, true, true, true, true, true, true, true, true, true, true, true, true, true, true, true, true, false, false, false, false, false, false] rfl rfl (any_of HT_.out (by kernel_rfl)) (fun _ _ _ h => h) (Or.inr ⟨by rfl, rfl⟩) ?_ ?_
            rotate_left
            ·simp only [Act.put, List.setIfInBounds_toArray, List.set_cons_zero, List.set_cons_succ, i64_w, i32_w]
             rfl
            refine pure_ (i := 24) (N := some 68) (v := undef) (a' := ?_) #[true, true, true, true, true, true, true, true, true, true, true, true, true, true, true, true, true, true, true, true, true, true, true, true, true, false, false, false, false, false] rfl rfl (any_of HT_.out (by kernel_rfl)) (fun _ _ _ h => h) (Or.inr ⟨by rfl, rfl⟩) ?_ ?_
            rotate_left
            ·simp only [Act.put, List.setIfInBounds_toArray, List.set_cons_zero, List.set_cons_succ, i64_w, i32_w]
             rfl
            refine pure_ (i := 25) (N := some 69) (v := undef) (a' := ?_) #[true, true, true, true, true, true, true, true, true, true, true, true, true, true, true, true, true, true, true, true, true, true, true, true, true, true, false, false, false, false] rfl rfl (any_of HT_.out (by kernel_rfl)) (fun _ _ _ h => h) (Or.inr ⟨by rfl, rfl⟩) ?_ ?_
            rotate_left
            ·simp only [Act.put, List.setIfInBounds_toArray, List.set_cons_zero, List.set_cons_succ, i64_w, i32_w]
             rfl
            refine pure_ (i := 26) (N := some 70) (v := undef) (a' := ?_) #[true, true, true, true, true, true, true, true, true, true, true, true, true, true, true, true, true, true, true, true, true, true, true, true, true, true, true, false, false, false] rfl rfl (any_of HT_.out (by kernel_rfl)) (fun _ _ _ h => h) (Or.inr ⟨by rfl, rfl⟩) ?_ ?_
            rotate_left
            ·simp only [Act.put, List.setIfInBounds_toArray, List.set_cons_zero, List.set_cons_succ, i64_w, i32_w]
             rfl
            refine pure_ (i := 27) (N := some 71) (v := undef) (a' := ?_) #[true, true, true, true, true, true, true, true, true, true, true, true, true, true, true, true, true, true, true, true, true, true, true, true, true, true, true, true, false, false] rfl rfl (any_of HT_.out (by kernel_rfl)) (fun _ _ _ h => h) (Or.inr ⟨by rfl, rfl⟩) ?_ ?_
            rotate_left
            ·simp only [Act.put, List.setIfInBounds_toArray, List.set_cons_zero, List.set_cons_succ, i64_w, i32_w]
             rfl
            refine pure_ (i := 28) (N := some 72) (v := undef) (a' := ?_) #[true, true, true, true, true, true, true, true, true, true, true, true, true, true, true, true, true, true, true, true, true, true, true, true, true, true, true, true, true, false] rfl rfl (any_of HT_.out (by kernel_rfl)) (fun _ _ _ h => h) (Or.inr ⟨by rfl, rfl⟩) ?_ ?_
            rotate_left
            ·simp only [Act.put, List.setIfInBounds_toArray, List.set_cons_zero, List.set_cons_succ, i64_w, i32_w]
             rfl
            refine pu_ (i := 29) (N := some 73) (any_of HT_.out (by kernel_rfl)) ?_
            refine done_ (done_of HT_.out (by kernel_rfl)) ?_
            try go_wp2
            go_meet
            case rel => exact ⟨_, (false), rf_, H', ⟨by have := HK1.out; have := HJ2.out; have := HJ9.out; first | omega | exact Nat.le_refl _⟩, ⟨by (with_reducible repeat (first | apply Kd.S_alloc | apply Kd.S_drewN | apply Kd.S_drew)); exact HO_6.out⟩, ⟨by (with_reducible repeat (first | apply Kd.R_alloc | apply Kd.R_drewN | apply Kd.R_drew)); exact HO_126002.out⟩, ⟨by (with_reducible repeat (first | refine blk_drewN ?_ _ | refine blk_drew ?_ | refine blk_alloc ?_ _)); exact BK125.out⟩, ⟨by repeat (first | (with_reducible first | exact HB.out | apply below_alloc | apply pw_below_drewN | apply below_drew1 | refine below_set ?_ GE125.out) | exact HB.out)⟩⟩
          case rest =>
           clear HC28
           (try clear c1);(try clear p1);(try clear q1);(try clear hx1);(try clear c2);(try clear p2);(try clear c3);(try clear p6);(try clear c13);(try clear p13);(try clear q13);(try clear hx13);(try clear c29);(try clear c29b0);(try clear c29b1);(try clear c31);(try clear c32);(try clear c36);(try clear c36b0);(try clear c36b1);(try clear hx130_0);(try clear hx130_1);(try clear hx130_2);(try clear hx131_0);(try clear hx131_1);(try clear hx131_2);(try clear p130);(try clear p131);(try clear q130);(try clear q131)
           obtain ⟨kq, x73_27, rfl, HA, HJ27, HO_6, HO_126002, BK125, HB⟩ := hcut
           cases kq with
           | zero => exact absurd HA.out (by simp [collatorlaw04_Script.j3])
           | succ kj27 =>
            have H := HA.out
            clear HA
            simp only [collatorlaw04_Script.j3] at H
            by_cases c43 : x73_27 = true
            ·subst c43
             have H1 : (collatorlaw04_Script.l0 kj27 l0 l1 x6_1 x7_1 (wrap64 (x8_1 + 1))) = some (r1, r2) := by rw [if_pos rfl] at H; exact H
             clear H
             have H := H1
             clear H1
             have H' := Aside0.mk H
             clear H
             go_wp2
             go_roundg kj27
             case measure => have := HK1.out; have := HJ2.out; have := HJ9.out; have := HJ27.out; omega
             case rel => exact ⟨(x6_1), (x7_1), (wrap64 (x8_1 + 1)), rf_, rf_, H', ⟨by have := HK1.out; have := HJ2.out; have := HJ9.out; have := HJ27.out; omega⟩, ⟨by (with_reducible repeat (first | apply Kd.S_alloc | apply Kd.S_drewN | apply Kd.S_drew)); exact Kd.S_mono HO_6.out (fun _ hk => trivial)⟩, ⟨by repeat (first | (with_reducible first | exact HB.out | apply below_alloc | apply pw_below_drewN | apply below_drew1 | refine below_set ?_ GE125.out) | exact HB.out)⟩⟩
            ·replace c43 := Bool.eq_false_iff.mpr c43
             subst c43
             have H1 : (if x6_1.length < 3518437208883 then ((some (x6_1 ++ [(⟨(wrap64 (1 + t122)), (wrap64 (1 + t124)), x126002_9⟩ : S31)] : List (S31))).bind fun y132 => (if (wrap64 (1 + t122)) = 3 then (collatorlaw04_Script.l0 kj27 l0 l1 y132 x7_1 (wrap64 (x8_1 + 1))) else (collatorlaw04_Script.l0 kj27 l0 l1 y132 (wrap64 (x7_1 + (wrap64 (1 + t124)))) (wrap64 (x8_1 + 1))))) else (none)) = some (r1, r2) := by rw [if_neg (show ¬ (false = true) by decide)] at H; exact H
             clear H
             have H := H1
             clear H1
             by_cases c44 : x6_1.length < 3518437208883
             ·rw [if_pos c44] at H
              have LMc44 := Aside0.mk c44
              clear c44
              obtain ⟨y132, hy132⟩ : ∃ y_ : List (S31), y_ = (x6_1 ++ [(⟨(wrap64 (1 + t122)), (wrap64 (1 + t124)), x126002_9⟩ : S31)]) := ⟨_, rfl⟩
              replace H : (if (wrap64 (1 + t122)) = 3 then (collatorlaw04_Script.l0 kj27 l0 l1 y132 x7_1 (wrap64 (x8_1 + 1))) else (collatorlaw04_Script.l0 kj27 l0 l1 y132 (wrap64 (x7_1 + (wrap64 (1 + t124)))) (wrap64 (x8_1 + 1)))) = some (r1, r2) := by first | (rw [hy132]; with_reducible exact H) | (have H2_ := (Option.bind_some _ _).symm.trans H; rw [hy132]; with_reducible exact H2_) | (have H2_ := (Option.bind_some _ _).symm.trans H; with_reducible exact H2_) | with_reducible exact H | (rw [hy132]; exact H) | exact H
              have Ny132 := Aside0.mk hy132
              clear hy132
              by_cases c45 : (wrap64 (1 + t122)) = 3
              ·rw [if_pos c45] at H
               have c45b0 : ((wrap64 (1 + t122)) == 3) = true := beq_iff_eq.mpr c45
               have c45b1 : ((wrap64 (1 + t122)) != 3) = false := bne_eq_false_iff_eq.mpr c45
               clear c45
               have H' := Aside0.mk H
               clear H
               have hcz46_0 : wc.cell? ⟨gb125, 0, none⟩ = some (.int .i64 (wrap64 (1 + t122))) := (blk_cell BK125.out 0).trans rfl
               have hcz46_1 : wc.cell? ⟨gb125, 1, none⟩ = some (.int .i64 (wrap64 (1 + t124))) := (blk_cell BK125.out 1).trans rfl
               have hcz46_2 : wc.cell? ⟨gb125, 2, none⟩ = some (u126002) := (blk_cell BK125.out 2).trans rfl
               have hfz46_0 := blk_frozen BK125.out 0
               have hfz46_1 := blk_frozen BK125.out 1
               have hfz46_2 := blk_frozen BK125.out 2
               obtain ⟨Ao48, co48, eo48⟩ := Kd.R_slice HO_126002.out
               subst eo48
               go_wp2_with (first | ((with_reducible refine gate_builtin (b := .append) (xs := #[.tmp 74, .tmp 76]) rfl ?_); (try (refine gate_guard (by rfl) ?_; dsimp only)); at_builtin; refine Kd.S_append k31 (w0 := w) w.heap.size rfl (.tmp 74) (.tmp 76) 26 31 (.agg #[(.int .i64 0), (.int .i64 0), (.slice none 0 0)]) 40 rfl Try.underlying26 info31 rfl (by decide) (by omega) u6 x6_1 (⟨(wrap64 (1 + t122)), (wrap64 (1 + t124)), x126002_9⟩ : S31) [.int .i64 (wrap64 (1 + t122)), .int .i64 (wrap64 (1 + t124)), .slice Ao48 x126002_9.length co48] (fun k_ => k_ ≠ gb125) (fun k_ => some k_ = (.slice Ao48 x126002_9.length co48 : Value).ownBlock) rfl rfl ?aP (fun k_ hk_ => ((Kd.R_mono (ok' := fun k_ => ((fun k_ => k_ ≠ gb125)) k_ ∧ some k_ ≠ (u6 : Value).ownBlock) (Kd.R_types (Kd.R_apart' (HO_126002.out) (Kd.S_typed HO_6.out) (by decide)) BK125.out (by decide)) (fun k_ hk => by first | exact ⟨hk.2, hk.1.2⟩ | simp_all))).1 k_ hk_.symm) ?aF ?aO ?aB ?aS ?aL ?_; (case aP => exact k31_mkM _ _ _ (⟨(wrap64 (1 + t122)), (wrap64 (1 + t124)), x126002_9⟩ : S31) (Kd.R_mono (Kd.R_tight rfl (Kd.R_mono (ok' := fun k_ => ((fun k_ => k_ ≠ gb125)) k_ ∧ some k_ ≠ (u6 : Value).ownBlock) (Kd.R_types (Kd.R_apart' (HO_126002.out) (Kd.S_typed HO_6.out) (by decide)) BK125.out (by decide)) (fun k_ hk => by first | exact ⟨hk.2, hk.1.2⟩ | simp_all))) (fun _ h_ => h_))); (case aB => exact (by repeat (first | (with_reducible first | exact HB.out | apply below_alloc | apply pw_below_drewN | apply below_drew1 | refine below_set ?_ GE125.out) | exact HB.out))); (case aF => exact (fun k_ hk => Kd.freshB (g := gb125) (o := .cells #[.int .i64 (wrap64 (1 + t122)), .int .i64 (wrap64 (1 + t124)), .slice Ao48 x126002_9.length co48] 31 (0, 0)) (by (with_reducible repeat (first | refine blk_drewN ?_ _ | refine blk_drew ?_ | refine blk_alloc ?_ _)); exact BK125.out) k_ hk)); (case aO => exact (by (with_reducible repeat (first | apply Kd.S_alloc | apply Kd.S_drewN | apply Kd.S_drew)); exact Kd.S_mono HO_6.out (fun k_ hk => ⟨hk.2, fun e_ => hk.1 e_⟩))); (case aS => exact (below_size (by repeat (first | (with_reducible first | exact HB.out | apply below_alloc | apply pw_below_drewN | apply below_drew1 | refine below_set ?_ GE125.out) | exact HB.out)))); (case aL => have := LMc44.out; omega); intro v133 w47 ho hb hg hat; rw [← Ny132.out] at ho; have n0_ := Aside0.mk (blk_grown (g := gb125) (o := .cells #[.int .i64 (wrap64 (1 + t122)), .int .i64 (wrap64 (1 + t124)), .slice Ao48 x126002_9.length co48] 31 (0, 0)) (by (with_reducible repeat (first | refine blk_drewN ?_ _ | refine blk_drew ?_ | refine blk_alloc ?_ _)); exact BK125.out) hg (Kd.S_away HO_6.out (fun _ hk => hk.2))); have n1_ := Aside0.mk (hb); have n2_ := Aside0.mk (ho); clear BK125; clear HB; clear HO_6; clear HO_126002; have BK125 := n0_; have HB := n1_; have HO134 := n2_; clear n0_ n1_ n2_; clear ho hb hg hat; have hcz49_0 : w47.cell? ⟨gb125, 0, none⟩ = some (.int .i64 (wrap64 (1 + t122))) := (blk_cell BK125.out 0).trans rfl; have hcz49_1 : w47.cell? ⟨gb125, 1, none⟩ = some (.int .i64 (wrap64 (1 + t124))) := (blk_cell BK125.out 1).trans rfl; have hcz49_2 : w47.cell? ⟨gb125, 2, none⟩ = some (.slice Ao48 x126002_9.length co48) := (blk_cell BK125.out 2).trans rfl; have hfz49_0 := blk_frozen BK125.out 0; have hfz49_1 := blk_frozen BK125.out 1; have hfz49_2 := blk_frozen BK125.out 2))
               go_roundg kj27
               case measure => have := HK1.out; have := HJ2.out; have := HJ9.out; have := HJ27.out; omega
               case rel => exact ⟨(y132), (x7_1), (wrap64 (x8_1 + 1)), rf_, rf_, H', ⟨by have := HK1.out; have := HJ2.out; have := HJ9.out; have := HJ27.out; omega⟩, ⟨by (with_reducible repeat (first | apply Kd.S_alloc | apply Kd.S_drewN | apply Kd.S_drew)); exact Kd.S_mono HO134.out (fun _ hk => trivial)⟩, ⟨by repeat (first | (with_reducible first | exact HB.out | apply below_alloc | apply pw_below_drewN | apply below_drew1 | refine below_set ?_ GE125.out) | exact HB.out)⟩⟩
              ·rw [if_neg c45] at H
               have c45b0 : ((wrap64 (1 + t122)) == 3) = false := beq_eq_false_iff_ne.mpr c45
               have c45b1 : ((wrap64 (1 + t122)) != 3) = true := bne_iff_ne.mpr c45
               have H' := Aside0.mk H
               clear H
               have hcz50_0 : wc.cell? ⟨gb125, 0, none⟩ = some (.int .i64 (wrap64 (1 + t122))) := (blk_cell BK125.out 0).trans rfl
               have hcz50_1 : wc.cell? ⟨gb125, 1, none⟩ = some (.int .i64 (wrap64 (1 + t124))) := (blk_cell BK125.out 1).trans rfl
               have hcz50_2 : wc.cell? ⟨gb125, 2, none⟩ = some (u126002) := (blk_cell BK125.out 2).trans rfl
               have hfz50_0 := blk_frozen BK125.out 0
               have hfz50_1 := blk_frozen BK125.out 1
               have hfz50_2 := blk_frozen BK125.out 2
               obtain ⟨Ao52, co52, eo52⟩ := Kd.R_slice HO_126002.out
               subst eo52
               go_wp2_with (first | ((with_reducible refine gate_builtin (b := .append) (xs := #[.tmp 74, .tmp 76]) rfl ?_); (try (refine gate_guard (by rfl) ?_; dsimp only)); at_builtin; refine Kd.S_append k31 (w0 := w) w.heap.size rfl (.tmp 74) (.tmp 76) 26 31 (.agg #[(.int .i64 0), (.int .i64 0), (.slice none 0 0)]) 40 rfl Try.underlying26 info31 rfl (by decide) (by omega) u6 x6_1 (⟨(wrap64 (1 + t122)), (wrap64 (1 + t124)), x126002_9⟩ : S31) [.int .i64 (wrap64 (1 + t122)), .int .i64 (wrap64 (1 + t124)), .slice Ao52 x126002_9.length co52] (fun k_ => k_ ≠ gb125) (fun k_ => some k_ = (.slice Ao52 x126002_9.length co52 : Value).ownBlock) rfl rfl ?aP (fun k_ hk_ => ((Kd.R_mono (ok' := fun k_ => ((fun k_ => k_ ≠ gb125)) k_ ∧ some k_ ≠ (u6 : Value).ownBlock) (Kd.R_types (Kd.R_apart' (HO_126002.out) (Kd.S_typed HO_6.out) (by decide)) BK125.out (by decide)) (fun k_ hk => by first | exact ⟨hk.2, hk.1.2⟩ | simp_all))).1 k_ hk_.symm) ?aF ?aO ?aB ?aS ?aL ?_; (case aP => exact k31_mkM _ _ _ (⟨(wrap64 (1 + t122)), (wrap64 (1 + t124)), x126002_9⟩ : S31) (Kd.R_mono (Kd.R_tight rfl (Kd.R_mono (ok' := fun k_ => ((fun k_ => k_ ≠ gb125)) k_ ∧ some k_ ≠ (u6 : Value).ownBlock) (Kd.R_types (Kd.R_apart' (HO_126002.out) (Kd.S_typed HO_6.out) (by decide)) BK125.out (by decide)) (fun k_ hk => by first | exact ⟨hk.2, hk.1.2⟩ | simp_all))) (fun _ h_ => h_))); (case aB => exact (by repeat (first | (with_reducible first | exact HB.out | apply below_alloc | apply pw_below_drewN | apply below_drew1 | refine below_set ?_ GE125.out) | exact HB.out))); (case aF => exact (fun k_ hk => Kd.freshB (g := gb125) (o := .cells #[.int .i64 (wrap64 (1 + t122)), .int .i64 (wrap64 (1 + t124)), .slice Ao52 x126002_9.length co52] 31 (0, 0)) (by (with_reducible repeat (first | refine blk_drewN ?_ _ | refine blk_drew ?_ | refine blk_alloc ?_ _)); exact BK125.out) k_ hk)); (case aO => exact (by (with_reducible repeat (first | apply Kd.S_alloc | apply Kd.S_drewN | apply Kd.S_drew)); exact Kd.S_mono HO_6.out (fun k_ hk => ⟨hk.2, fun e_ => hk.1 e_⟩))); (case aS => exact (below_size (by repeat (first | (with_reducible first | exact HB.out | apply below_alloc | apply pw_below_drewN | apply below_drew1 | refine below_set ?_ GE125.out) | exact HB.out)))); (case aL => have := LMc44.out; omega); intro v133 w51 ho hb hg hat; rw [← Ny132.out] at ho; have n0_ := Aside0.mk (blk_grown (g := gb125) (o := .cells #[.int .i64 (wrap64 (1 + t122)), .int .i64 (wrap64 (1 + t124)), .slice Ao52 x126002_9.length co52] 31 (0, 0)) (by (with_reducible repeat (first | refine blk_drewN ?_ _ | refine blk_drew ?_ | refine blk_alloc ?_ _)); exact BK125.out) hg (Kd.S_away HO_6.out (fun _ hk => hk.2))); have n1_ := Aside0.mk (hb); have n2_ := Aside0.mk (ho); clear BK125; clear HB; clear HO_6; clear HO_126002; have BK125 := n0_; have HB := n1_; have HO134 := n2_; clear n0_ n1_ n2_; clear ho hb hg hat; have hcz53_0 : w51.cell? ⟨gb125, 0, none⟩ = some (.int .i64 (wrap64 (1 + t122))) := (blk_cell BK125.out 0).trans rfl; have hcz53_1 : w51.cell? ⟨gb125, 1, none⟩ = some (.int .i64 (wrap64 (1 + t124))) := (blk_cell BK125.out 1).trans rfl; have hcz53_2 : w51.cell? ⟨gb125, 2, none⟩ = some (.slice Ao52 x126002_9.length co52) := (blk_cell BK125.out 2).trans rfl; have hfz53_0 := blk_frozen BK125.out 0; have hfz53_1 := blk_frozen BK125.out 1; have hfz53_2 := blk_frozen BK125.out 2))
               go_roundg kj27
               case measure => have := HK1.out; have := HJ2.out; have := HJ9.out; have := HJ27.out; omega
               case rel => exact ⟨(y132), (wrap64 (x7_1 + (wrap64 (1 + t124)))), (wrap64 (x8_1 + 1)), rf_, rf_, H', ⟨by have := HK1.out; have := HJ2.out; have := HJ9.out; have := HJ27.out; omega⟩, ⟨by (with_reducible repeat (first | apply Kd.S_alloc | apply Kd.S_drewN | apply Kd.S_drew)); exact Kd.S_mono HO134.out (fun _ hk => trivial)⟩, ⟨by repeat (first | (with_reducible first | exact HB.out | apply below_alloc | apply pw_below_drewN | apply below_drew1 | refine below_set ?_ GE125.out) | exact HB.out)⟩⟩
             ·rw [if_neg c44] at H
              exact absurd H (by simp)
       ·rw [if_neg c7] at H
        exact absurd H (by simp)
      ·rw [if_neg c6] at H
       exact absurd H (by simp)
     ·replace c5 := Bool.eq_false_iff.mpr c5
      subst c5
      have H1 : ((collatorlaw04_full.f kj2 l1 x7_1).bind fun t118 => (some (x6_1, t118))) = some (r1, r2) := by rw [if_neg (show ¬ (false = true) by decide)] at H; exact H
      clear H
      have H := H1
      clear H1
      replace H := Option.bind_eq_some_iff.mp H
      obtain ⟨t118, A540, H⟩ := H
      replace H : (some (x6_1, t118)) = some (r1, r2) := H
      have A54 := Aside0.mk A540
      clear A540
      simp only [Option.some.injEq, Prod.mk.injEq] at H
      obtain ⟨rfl, rfl⟩ := H
      go_wp2_with (first | ((with_reducible refine gate_callee (f := 30) rfl ?_); refine goesL_ (some 88) rfl rfl Try.func30 (by kernel_rfl) rfl #[.slice A1 l1.length c1, .int .i64 x7_1] rfl mp_ ?_; (with_reducible refine (collatorlaw04_full.calls kj2 _ _ l1 x7_1 t118 _ ?side1 ?side2 A54.out).mono ?_); (case side1 => repeat (first | exact (Kd.C_below HR1.out HB.out) | (with_reducible refine Kd.C_alloc ?_ _) | (with_reducible refine Kd.C_drewN ?_ _) | (with_reducible refine Kd.C_drew ?_))); (case side2 => exact HC1.out); rintro e w55 ⟨v119, rfl, ho0, hb⟩; refine ⟨_, rfl, ?_⟩; have n0_ := Aside0.mk (Kd.S_elder' (by (with_reducible repeat (first | apply Kd.S_alloc | apply Kd.S_drewN | apply Kd.S_drew)); exact HO_6.out) (Kd.R_base ho0) hb); have n1_ := Aside0.mk (Kd.R_lower ho0 (below_size hb_)); have n2_ := Aside0.mk (below_step hb_ hb); clear HO_6; clear HB; have HO_6 := n0_; have HO120 := n1_; have HB := n2_; clear n0_ n1_ n2_; (try clear hb); (try clear hb2); (try clear hk); (try clear hi); (try clear ho0)))
      go_ret2
      exact ⟨_, _, by first | rfl | (simp [errW_none, errW_some] <;> rfl) | (simp [*, errW_none, errW_some] <;> rfl), by (with_reducible repeat (first | apply Kd.S_alloc | apply Kd.S_drewN | apply Kd.S_drew)); exact Kd.S_mono HO_6.out (fun _ hk => hk.2), by (with_reducible repeat (first | apply Kd.R_alloc | apply Kd.R_drewN | apply Kd.R_drew)); exact HO120.out, by repeat (first | (with_reducible first | exact HB.out | apply below_alloc | apply pw_below_drewN | apply below_drew1) | exact HB.out)⟩

end Go.Proofs.Ytgobidmfbjmpkaa.P
