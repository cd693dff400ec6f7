/- Texts of this claim, joined: Pxf10, GQt. -/
import Derived.Test.YtgobidmfbjmpkaaMHunksTells1
import Derived.Test.YtgobidmfbjmpkaaMHunksTells2
import Derived.Test.YtgobidmfbjmpkaaMHunksTells4
import Derived.OpenShut
section
/- Laid for this claim by hp.py, this session's program round the kit's print: functions of the program as plain Lean functions, the proofs that the code comes to their answers, and the rows of the laws. Not trusted: Lean checks it. -/
namespace Go.Proofs.Ytgobidmfbjmpkaa.P
open Go.RowKit Go.Proofs.YtgobidmfbjmpkaaW.PrintWords Go.Proofs.YtgobidmfbjmpkaaW.PrintLast Go.Proofs.YtgobidmfbjmpkaaW.PrintMore
attribute [local go_sem] max2_int min2_int max_two min_two max_three min_three max_four min_four   -- for this text's walks alone
set_option linter.unusedVariables false
set_option linter.unusedSimpArgs false

/-! ### collatorlaw04_Script: function 10 -/
mutual
def collatorlaw04_Script.l0 : Nat → List Int → List Int → List (S31) → Int → Int → Option ((List (S31)) × List ByteArray)
 | 0, _, _, _, _, _ => none
 | k + 1, x0, x1, x6, x7, x8 => if x8 < (x0.length : Int) then (collatorlaw04_Script.j1 k x0 x1 x6 x7 x8 (decide (x8 < 10))) else (collatorlaw04_Script.j1 k x0 x1 x6 x7 x8 false)
def collatorlaw04_Script.j1 : Nat → List Int → List Int → List (S31) → Int → Int → Bool → Option ((List (S31)) × List ByteArray)
 | 0, _, _, _, _, _, _ => none
 | k + 1, x0, x1, x6, x7, x8, x17 => if x17 = true then (if 0 ≤ x8 then (if x8 < (x0.length : Int) then ((collatorlaw04_pick.f (rd x0 x8) 3).bind fun t122 => ((collatorlaw04_pick.f (wrap64 (Int.tdiv (rd x0 x8) 3)) 4).bind fun t124 => (if (wrap64 (1 + t122)) = 3 then (if x8 ≤ (x0.length : Int) then ((collatorlaw04_full.f k (x0.drop (x8 : Int).toNat) (wrap64 (1 + t124))).bind fun t127 => (collatorlaw04_Script.j2 k x0 x1 x6 x7 x8 (wrap64 (1 + t122)) (wrap64 (1 + t124)) t127)) else (none)) else (collatorlaw04_Script.j2 k x0 x1 x6 x7 x8 (wrap64 (1 + t122)) (wrap64 (1 + t124)) ([] : List ByteArray))))) else (none)) else (none)) else ((collatorlaw04_full.f k x1 x7).bind fun t118 => (some (x6, t118)))
def collatorlaw04_Script.j2 : Nat → List Int → List Int → List (S31) → Int → Int → Int → Int → List ByteArray → Option ((List (S31)) × List ByteArray)
 | 0, _, _, _, _, _, _, _, _ => none
 | k + 1, x0, x1, x6, x7, x8, x126000, x126001, x126002 => if (x6.length : Int) > 0 then (if 0 ≤ (wrap64 ((x6.length : Int) - 1)) then (if (wrap64 ((x6.length : Int) - 1)) < (x6.length : Int) then (if ((rd_T31 x6 (wrap64 ((x6.length : Int) - 1))).f0) = x126000 then (collatorlaw04_Script.j3 k x0 x1 x6 x7 x8 true x126000 x126001 x126002) else (if ((rd_T31 x6 (wrap64 ((x6.length : Int) - 1))).f0) = 3 then (collatorlaw04_Script.j3 k x0 x1 x6 x7 x8 (x126000 == 2) x126000 x126001 x126002) else (collatorlaw04_Script.j3 k x0 x1 x6 x7 x8 false x126000 x126001 x126002))) else (none)) else (none)) else (collatorlaw04_Script.j3 k x0 x1 x6 x7 x8 false x126000 x126001 x126002)
def collatorlaw04_Script.j3 : Nat → List Int → List Int → List (S31) → Int → Int → Bool → Int → Int → List ByteArray → Option ((List (S31)) × List ByteArray)
 | 0, _, _, _, _, _, _, _, _, _ => none
 | k + 1, x0, x1, x6, x7, x8, x73, x126000, x126001, x126002 => if x73 = true then (collatorlaw04_Script.l0 k x0 x1 x6 x7 (wrap64 (x8 + 1))) else (if x6.length < 3518437208883 then ((some (x6 ++ [(⟨x126000, x126001, x126002⟩ : S31)] : List (S31))).bind fun y132 => (if x126000 = 3 then (collatorlaw04_Script.l0 k x0 x1 y132 x7 (wrap64 (x8 + 1))) else (collatorlaw04_Script.l0 k x0 x1 y132 (wrap64 (x7 + x126001)) (wrap64 (x8 + 1))))) else (none))
end
def collatorlaw04_Script.f (k : Nat) (l0 : List Int) (l1 : List Int) : Option ((List (S31)) × List ByteArray) := collatorlaw04_Script.l0 k l0 l1 ([] : List (S31)) 0 0
def collatorlaw04_Script.T6 : Bool × List (List Nat × List Nat) := (true, [([], []), ([], []), ([0, 1], [0, 1]), ([2], [2]), ([3], [3]), ([4], [4]), ([], []), ([], []), ([6, 7], [6, 7]), ([8], [8]), ([9], [9]), ([10, 4], [10]), ([11], [11]), ([5, 12], [5, 12]), ([], []), ([14, 13, 11, 0, 1, 2, 3, 4, 5, 6, 7, 8, 9, 10, 11, 12, 13, 14], [13, 14])])
def collatorlaw04_Script.B6 : List Nat := [0, 0, 3, 7, 15, 31, 0, 0, 192, 448, 960, 2015, 4063, 8191, 0, 32767]
theorem collatorlaw04_Script.tab6 : rtab .any (opsOf Try.f10 6) = collatorlaw04_Script.T6 := by kernel_rfl
theorem collatorlaw04_Script.bits6 : waitsOk collatorlaw04_Script.T6.2 collatorlaw04_Script.B6 = true := by kernel_rfl
def collatorlaw04_Script.T8 : Bool × List (List Nat × List Nat) := (true, [([], []), ([], []), ([0, 1], [0, 1]), ([], []), ([3], [3]), ([2, 4], [2, 4]), ([0, 1, 2, 3, 4, 5], []), ([6, 5, 5, 0, 1, 2, 3, 4, 5], [5, 6])])
def collatorlaw04_Script.B8 : List Nat := [0, 0, 3, 0, 8, 31, 63, 127]
theorem collatorlaw04_Script.tab8 : rtab .any (opsOf Try.f10 8) = collatorlaw04_Script.T8 := by kernel_rfl
theorem collatorlaw04_Script.bits8 : waitsOk collatorlaw04_Script.T8.2 collatorlaw04_Script.B8 = true := by kernel_rfl
def collatorlaw04_Script.T9 : Bool × List (List Nat × List Nat) := (true, [([], []), ([0], [0]), ([1], [1]), ([2], [2]), ([3], [3]), ([3], [3]), ([5, 3], [3, 5]), ([6, 3], [3, 6]), ([4, 7, 3], [3, 4, 7]), ([8, 3], [3, 8]), ([9, 3], [3, 9]), ([3], [3]), ([11, 3], [3, 11]), ([10, 12, 3], [3, 10, 12]), ([13, 3, 3], [3, 13]), ([14], [14]), ([14], [14]), ([16, 14], [14, 16]), ([17, 14], [14, 17]), ([15, 18, 14], [14, 15, 18]), ([19, 14], [14, 19]), ([20, 14], [14, 20]), ([21, 14], [14, 21]), ([22, 14, 14], [14, 22]), ([23], [23]), ([24, 23], [23, 24]), ([25, 23], [23, 25]), ([23, 26, 14], [14, 23, 26]), ([14, 27, 3], [3, 14, 27]), ([3, 28], [3, 28])])
def collatorlaw04_Script.B9 : List Nat := [0, 1, 3, 7, 15, 15, 47, 111, 255, 511, 1023, 15, 2063, 8191, 16383, 32767, 32767, 98303, 229375, 524287, 1048575, 2097151, 4194303, 8388607, 16777215, 33554431, 67108863, 134217727, 268435455, 536870911]
theorem collatorlaw04_Script.tab9 : rtab .any (opsOf Try.f10 9) = collatorlaw04_Script.T9 := by kernel_rfl
theorem collatorlaw04_Script.bits9 : waitsOk collatorlaw04_Script.T9.2 collatorlaw04_Script.B9 = true := by kernel_rfl
set_option maxHeartbeats 8000000 in
set_option maxRecDepth 100000 in
theorem collatorlaw04_Script.calls (k : Nat) (A0 : Option Addr) (c0 : Nat) (l0 : List Int) (A1 : Option Addr) (c1 : Nat) (l1 : List Int) (r1 : List (S31)) (r2 : List ByteArray) (w : World) (hr0 : Kd.C (Kd.int .i64) w A0 l0.length l0) (hc0 : l0.length ≤ c0) (hr1 : Kd.C (Kd.int .i64) w A1 l1.length l1) (hc1 : l1.length ≤ c1) (h : collatorlaw04_Script.f k l0 l1 = some (r1, r2)) :
  Calls Try.prog 10 #[.slice A0 l0.length c0, .slice A1 l1.length c1] w fun e w' => ∃ v0_ v1_ : Value, e = .returned (.tuple #[v0_, v1_]) ∧ Kd.S k31 31 w' w.heap.size (fun k_ => some k_ ≠ (v1_ : Value).ownBlock) v0_ r1 ∧ Kd.R Kd.string 9 w' w.heap.size (fun _ => True) v1_ r2 ∧ Below w.heap.size w w' := by
 have hu31 := Try.underlying31
 have HR0 := Aside0.mk hr0
 have HC0 := Aside0.mk hc0
 clear hr0 hc0
 have HR1 := Aside0.mk hr1
 have HC1 := Aside0.mk hc1
 clear hr1 hc1
 have HB := Aside0.mk (Below.refl w.heap.size w)
 have H : (collatorlaw04_Script.l0 k l0 l1 ([] : List (S31)) 0 0) = some (r1, r2) := h
 clear h
 have H' := Aside0.mk H
 clear H
 go_enter Try.func10, Try.ntmps10
 go_wp2
 go_loopg [6, 7, 8] k (fun kq v6 v7 v8 w' => ∃ (x6_1 : List (S31)) (x7_1 : Int) (x8_1 : Int), v7 = .int .i64 x7_1 ∧ v8 = .int .i64 x8_1 ∧ Aside0 (collatorlaw04_Script.l0 kq l0 l1 x6_1 x7_1 x8_1 = some (r1, r2)) ∧ Aside0 (kq ≤ k) ∧ Aside0 (Kd.S k31 31 w' w.heap.size (fun _ => True) v6 x6_1) ∧ Aside0 (Below w.heap.size w w'))
 case atStart => exact ⟨(([] : List (S31))), (0), (0), rf_, rf_, H', ⟨Nat.le_refl _⟩, ⟨by first | exact Kd.S_nil _ _ _ _ _ | exact Kd.N_nil _ _ _ _ _ | exact Kd.V_nil _ _ _ _ _ | exact Kd.Q_nil _ _ _ _ _ | exact Kd.R_nil _ _ _ _ _⟩, ⟨by repeat (first | (with_reducible first | exact HB.out | apply below_alloc | apply pw_below_drewN | apply below_drew1) | exact HB.out)⟩⟩
 case round =>
  clear H'
  (try clear c1);(try clear p2)
  obtain ⟨x6_1, x7_1, x8_1, rfl, rfl, HA, HK1, HO_6, HB⟩ := hrel
  cases gk with
  | zero => exact absurd HA.out (by simp [collatorlaw04_Script.l0])
  | succ k1 =>
   have H := HA.out
   clear HA
   simp only [collatorlaw04_Script.l0] at H
   have HC3 := Aside0.mk H
   clear H
   go_upto_region 4 with (fail)
   go_cut [17] (fun v17 wc => ∃ (kq : Nat) (x17_2 : Bool), v17 = .bool x17_2 ∧ Aside0 (collatorlaw04_Script.j1 kq l0 l1 x6_1 x7_1 x8_1 x17_2 = some (r1, r2)) ∧ Aside0 (kq ≤ k1) ∧ Aside0 (Kd.S k31 31 wc w.heap.size (fun _ => True) u6 x6_1) ∧ Aside0 (Below w.heap.size w wc))
   case first =>
    have H := HC3.out
    clear HC3
    by_cases c4 : x8_1 < (l0.length : Int)
    ·rw [if_pos c4] at H
     have c4b0 : decide (x8_1 < (l0.length : Int)) = true := decide_eq_true c4
     clear c4
     (first | rw [c4b0] | rw [c4b1] | (simp only [i64_w, i32_w]; rw [c4b0]) | skip)
     have H' := Aside0.mk H
     clear H
     go_wp2
     go_meet
     case rel => exact ⟨_, (decide (x8_1 < 10)), rf_, H', ⟨by have := HK1.out; first | omega | exact Nat.le_refl _⟩, ⟨by (with_reducible repeat (first | apply Kd.S_alloc | apply Kd.S_drewN | apply Kd.S_drew)); exact HO_6.out⟩, ⟨by repeat (first | (with_reducible first | exact HB.out | apply below_alloc | apply pw_below_drewN | apply below_drew1) | exact HB.out)⟩⟩
    ·rw [if_neg c4] at H
     have c4b0 : decide (x8_1 < (l0.length : Int)) = false := decide_eq_false c4
     clear c4
     (first | rw [c4b0] | rw [c4b1] | (simp only [i64_w, i32_w]; rw [c4b0]) | skip)
     have H' := Aside0.mk H
     clear H
     go_wp2
     go_meet
     case rel => exact ⟨_, (false), rf_, H', ⟨by have := HK1.out; first | omega | exact Nat.le_refl _⟩, ⟨by (with_reducible repeat (first | apply Kd.S_alloc | apply Kd.S_drewN | apply Kd.S_drew)); exact HO_6.out⟩, ⟨by repeat (first | (with_reducible first | exact HB.out | apply below_alloc | apply pw_below_drewN | apply below_drew1) | exact HB.out)⟩⟩
   case rest =>
    clear HC3
    (try clear c1);(try clear p2);(try clear c4);(try clear c4b0);(try clear p2)
    obtain ⟨kq, x17_2, rfl, HA, HJ2, HO_6, HB⟩ := hcut
    cases kq with
    | zero => exact absurd HA.out (by simp [collatorlaw04_Script.j1])
    | succ kj2 =>
     have H := HA.out
     clear HA
     simp only [collatorlaw04_Script.j1] at H
     by_cases c5 : x17_2 = true
     ·subst c5
      have H1 : (if 0 ≤ x8_1 then (if x8_1 < (l0.length : Int) then ((collatorlaw04_pick.f (rd l0 x8_1) 3).bind fun t122 => ((collatorlaw04_pick.f (wrap64 (Int.tdiv (rd l0 x8_1) 3)) 4).bind fun t124 => (if (wrap64 (1 + t122)) = 3 then (if x8_1 ≤ (l0.length : Int) then ((collatorlaw04_full.f kj2 (l0.drop (x8_1 : Int).toNat) (wrap64 (1 + t124))).bind fun t127 => (collatorlaw04_Script.j2 kj2 l0 l1 x6_1 x7_1 x8_1 (wrap64 (1 + t122)) (wrap64 (1 + t124)) t127)) else (none)) else (collatorlaw04_Script.j2 kj2 l0 l1 x6_1 x7_1 x8_1 (wrap64 (1 + t122)) (wrap64 (1 + t124)) ([] : List ByteArray))))) else (none)) else (none)) = some (r1, r2) := by rw [if_pos rfl] at H; exact H
      clear H
      have H := H1
      clear H1
      by_cases c6 : 0 ≤ x8_1
      ·rw [if_pos c6] at H
       have c6b0 : decide (0 ≤ x8_1) = true := decide_eq_true c6
       clear c6
       by_cases c7 : x8_1 < (l0.length : Int)
       ·rw [if_pos c7] at H
        have c7b0 : decide (x8_1 < (l0.length : Int)) = true := decide_eq_true c7
        clear c7
        replace H := Option.bind_eq_some_iff.mp H
        obtain ⟨t122, A80, H⟩ := H
        replace H : ((collatorlaw04_pick.f (wrap64 (Int.tdiv (rd l0 x8_1) 3)) 4).bind fun t124 => (if (wrap64 (1 + t122)) = 3 then (if x8_1 ≤ (l0.length : Int) then ((collatorlaw04_full.f kj2 (l0.drop (x8_1 : Int).toNat) (wrap64 (1 + t124))).bind fun t127 => (collatorlaw04_Script.j2 kj2 l0 l1 x6_1 x7_1 x8_1 (wrap64 (1 + t122)) (wrap64 (1 + t124)) t127)) else (none)) else (collatorlaw04_Script.j2 kj2 l0 l1 x6_1 x7_1 x8_1 (wrap64 (1 + t122)) (wrap64 (1 + t124)) ([] : List ByteArray)))) = some (r1, r2) := H
        have A8 := Aside0.mk A80
        clear A80
        replace H := Option.bind_eq_some_iff.mp H
        obtain ⟨t124, A90, H⟩ := H
        replace H : (if (wrap64 (1 + t122)) = 3 then (if x8_1 ≤ (l0.length : Int) then ((collatorlaw04_full.f kj2 (l0.drop (x8_1 : Int).toNat) (wrap64 (1 + t124))).bind fun t127 => (collatorlaw04_Script.j2 kj2 l0 l1 x6_1 x7_1 x8_1 (wrap64 (1 + t122)) (wrap64 (1 + t124)) t127)) else (none)) else (collatorlaw04_Script.j2 kj2 l0 l1 x6_1 x7_1 x8_1 (wrap64 (1 + t122)) (wrap64 (1 + t124)) ([] : List ByteArray))) = some (r1, r2) := H
        have A9 := Aside0.mk A90
        clear A90
        have HC10 := Aside0.mk H
        clear H
        try go_wp2
        have n0_ := Aside0.mk (Kd.S_drew HO_6.out)
        have n1_ := Aside0.mk (below_drew1 HB.out)
        clear HO_6
        clear HB
        have HO_6 := n0_
        have HB := n1_
        clear n0_ n1_
        have p121 : 0 ≤ (x8_1 : Int) := of_decide_eq_true as_
        have q121 : x8_1 < (l0.length : Int) := of_decide_eq_true as_
        obtain ⟨ad121, e121, hx121_0⟩ := Kd.at_int HR0.out x8_1 p121 q121
        have hw121_0 := hx121_0
        cases e121
        replace hx121_0 := (HB.out.cell (World.block_lt_of_cell? w _ hx121_0)).trans hx121_0
        replace p121 := eq_true p121
        replace q121 := eq_true q121
        have p123 : 0 ≤ (x8_1 : Int) := of_decide_eq_true as_
        have q123 : x8_1 < (l0.length : Int) := of_decide_eq_true as_
        obtain ⟨ad123, e123, hx123_0⟩ := Kd.at_int HR0.out x8_1 p123 q123
        have hw123_0 := hx123_0
        obtain rfl : ad121 = ad123 := (by injection e123)
        replace hx123_0 := (HB.out.cell (World.block_lt_of_cell? w _ hx123_0)).trans hx123_0
        replace p123 := eq_true p123
        replace q123 := eq_true q123
        refine start_ (n := 16) (S := fun w' => w'.cell? (ad121.add (x8_1).toNat) = some (.int .i64 (rd l0 x8_1)) ∧ w'.cell? (ad121.add (x8_1).toNat) = some (.int .i64 (rd l0 x8_1))) (ds := []) #[false, false, false, false, false, false, false, false, false, false, false, false, false, false, false, false] (by kernel_rfl) rfl rfl ⟨((HB.out.cell (World.block_lt_of_cell? w _ hw121_0)).trans hw121_0), ((HB.out.cell (World.block_lt_of_cell? w _ hw123_0)).trans hw123_0)⟩ (fun hHeld => ?_); refine with_tabW collatorlaw04_Script.tab6 collatorlaw04_Script.bits6 (fun HT_ HW_ => ?_)
        generalize wc.drew = w11 at HO_6 HB hx121_0 hx123_0 hHeld ⊢
        refine pu_ (i := 0) (N := some 20) (any_of HT_.out (by kernel_rfl)) ?_
        refine pu_ (i := 1) (N := some 21) (any_of HT_.out (by kernel_rfl)) ?_
        refine pu_ (i := 2) (N := some 22) (any_of HT_.out (by kernel_rfl)) ?_
        refine pu_ (i := 6) (N := some 26) (any_of HT_.out (by kernel_rfl)) ?_
        refine pu_ (i := 7) (N := some 27) (any_of HT_.out (by kernel_rfl)) ?_
        refine pu_ (i := 8) (N := some 28) (any_of HT_.out (by kernel_rfl)) ?_
        refine ta_ (i := 3) (N := some 23) (take_ofW HT_.out HW_.out (by kernel_rfl)) hHeld ?_
        refine ta_ (i := 9) (N := some 29) (take_ofW HT_.out HW_.out (by kernel_rfl)) hHeld ?_
        refine pu_ (i := 10) (N := some 30) (any_of HT_.out (by kernel_rfl)) ?_
        refine join_ (σ := Nat) 1 #[true, true, true, true, true, true, true, true, true, true, true, true, true, true, true, false] (fun s_ => [(24, .int .i64 t122), (31, .int .i64 t124), (9, .pointer (some ⟨s_, 0, none⟩)), (25, .int .i64 (wrap64 (1 + t122))), (32, .int .i64 (wrap64 (1 + t124))), (33, .agg #[.int .i64 (wrap64 (1 + t122)), .int .i64 (wrap64 (1 + t124)), .slice none 0 0])]) (fun s_ w' => (w'.cell? (ad121.add (x8_1).toNat) = some (.int .i64 (rd l0 x8_1)) ∧ w'.cell? (ad121.add (x8_1).toNat) = some (.int .i64 (rd l0 x8_1))) ∧ (Kd.S k31 31 w' w.heap.size (fun k_ => k_ ≠ s_) u6 x6_1) ∧ (w'.heap[s_]? = some (.cells #[.int .i64 0, .int .i64 0, .slice none 0 0] 31 (0, 0))) ∧ (w.heap.size ≤ s_) ∧ (w.heap.size ≤ s_) ∧ (Below w.heap.size w w')) ?_ ?_
        rotate_left
        ·intro hCont
         refine two_ (i := 4) (j := 14) (Ni := some 24) (Nj := some 9) #[true, true, true, true, true, false, true, true, true, true, true, false, false, false, false, false] #[true, true, true, true, false, false, true, true, true, true, true, false, false, false, true, false] rfl rfl rfl rfl (two_of HT_.out (by kernel_rfl)) (by decide) (by decide) (fun K hK => ?_) (fun K hK => ?_)
         ·skip
          refine goes_ Try.func29 (by kernel_rfl) rfl #[.int .i64 (rd l0 x8_1), .int .i64 3] (by rfl) rfl rfl mp_ ?_
          with_reducible refine (collatorlaw04_pick.calls (rd l0 x8_1) 3 t122 _ A8.out).mono ?_
          rintro e w' ⟨rfl, ⟨nd, rfl⟩⟩
          refine ⟨_, rfl, ?_⟩
          refine hK.out _ _ ⟨((HB.out.cell (World.block_lt_of_cell? w _ hw121_0)).trans hw121_0), ((HB.out.cell (World.block_lt_of_cell? w _ hw123_0)).trans hw123_0)⟩ (fun hHeld => ?_)
          clear hK K
          refine norm_ (a' := ?_) ?_ ?_
          rotate_left
          ·show Act.put _ (some 24) _ = _
           simp only [Act.put, List.setIfInBounds_toArray, List.set_cons_zero, List.set_cons_succ, i64_w, i32_w]
           rfl
          refine pu_ (i := 5) (N := some 25) (any_of HT_.out (by kernel_rfl)) ?_
          refine two_ (i := 11) (j := 14) (Ni := some 31) (Nj := some 9) #[true, true, true, true, true, true, true, true, true, true, true, true, false, false, false, false] #[true, true, true, true, true, true, true, true, true, true, true, false, false, false, true, false] rfl rfl rfl rfl (two_of HT_.out (by kernel_rfl)) (by decide) (by decide) (fun K hK => ?_) (fun K hK => ?_)
          ·skip
           refine goes_ Try.func29 (by kernel_rfl) rfl #[.int .i64 (wrap64 (Int.tdiv (rd l0 x8_1) 3)), .int .i64 4] (by rfl) rfl rfl mp_ ?_
           with_reducible refine (collatorlaw04_pick.calls (wrap64 (Int.tdiv (rd l0 x8_1) 3)) 4 t124 _ A9.out).mono ?_
           rintro e w' ⟨rfl, ⟨nd, rfl⟩⟩
           refine ⟨_, rfl, ?_⟩
           refine hK.out _ _ ⟨((HB.out.cell (World.block_lt_of_cell? w _ hw121_0)).trans hw121_0), ((HB.out.cell (World.block_lt_of_cell? w _ hw123_0)).trans hw123_0)⟩ (fun hHeld => ?_)
           clear hK K
           refine norm_ (a' := ?_) ?_ ?_
           rotate_left
           ·show Act.put _ (some 31) _ = _
            simp only [Act.put, List.setIfInBounds_toArray, List.set_cons_zero, List.set_cons_succ, i64_w, i32_w]
            rfl
           refine pu_ (i := 12) (N := some 32) (any_of HT_.out (by kernel_rfl)) ?_
           refine pu_ (i := 13) (N := some 33) (any_of HT_.out (by kernel_rfl)) ?_
           refine one_ (i := 14) (N := some 9) #[true, true, true, true, true, true, true, true, true, true, true, true, true, true, true, false] rfl rfl (one_of HT_.out (by kernel_rfl)) (by decide) (fun K hK => ?_)
           refine box_step ?hg (N := 9) ?hd (cs := #[.int .i64 0, .int .i64 0, .slice none 0 0]) (t := 31) ?hr ?_; (case hd => rfl); (case hg => rfl); (case hr => first | (go_simp; done) | (go_simp; rfl))
           intro gb125 hg w12 hbox hb
           have n0_ := Aside0.mk (Kd.S_below (Kd.S_elderB (by (with_reducible repeat (first | apply Kd.S_alloc | apply Kd.S_drewN | apply Kd.S_drew)); exact HO_6.out) gb125 (Nat.le_of_eq hg.symm)) hb)
           have n1_ := Aside0.mk (below_step hb_ hb)
           have n2_ := Aside0.mk (hbox)
           have n3_ := Aside0.mk ((by rw [hg]; exact (below_size hb_) : w.heap.size ≤ gb125))
           have n4_ := Aside0.mk ((by rw [hg]; exact (below_size hb_) : w.heap.size ≤ gb125))
           clear HO_6
           clear HB
           have HO_6 := n0_
           have HB := n1_
           have BK125 := n2_
           have GW125 := n3_
           have GE125 := n4_
           clear n0_ n1_ n2_ n3_ n4_
           clear hb hbox hg
           refine hK.out _ _ ⟨((HB.out.cell (World.block_lt_of_cell? w _ hw121_0)).trans hw121_0), ((HB.out.cell (World.block_lt_of_cell? w _ hw123_0)).trans hw123_0)⟩ (fun hHeld => ?_)
           clear hK K
           refine norm_ (a' := ?_) ?_ ?_
           rotate_left
           ·show Act.put _ (some 9) _ = _
            simp only [Act.put, List.setIfInBounds_toArray, List.set_cons_zero, List.set_cons_succ, i64_w, i32_w]
            rfl
           exact norm_ (by simp only [putAll, Act.put, List.setIfInBounds_toArray, List.set_cons_zero, List.set_cons_succ]) (hCont (gb125) _ ⟨hHeld, (by (with_reducible repeat (first | apply Kd.S_alloc | apply Kd.S_drewN | apply Kd.S_drew)); exact Kd.S_mono HO_6.out (fun _ hk => hk.2)), (by (with_reducible repeat (first | refine blk_drewN ?_ _ | refine blk_drew ?_ | refine blk_alloc ?_ _)); exact BK125.out), GW125.out, GE125.out, (by repeat (first | (with_reducible first | exact HB.out | apply below_alloc | apply pw_below_drewN | apply below_drew1 | refine below_set ?_ GE125.out) | exact HB.out))⟩)
          ·skip
           refine box_step ?hg (N := 9) ?hd (cs := #[.int .i64 0, .int .i64 0, .slice none 0 0]) (t := 31) ?hr ?_; (case hd => rfl); (case hg => rfl); (case hr => first | (go_simp; done) | (go_simp; rfl))
           intro gb125 hg w12 hbox hb
           have n0_ := Aside0.mk (Kd.S_below (Kd.S_elderB (by (with_reducible repeat (first | apply Kd.S_alloc | apply Kd.S_drewN | apply Kd.S_drew)); exact HO_6.out) gb125 (Nat.le_of_eq hg.symm)) hb)
           have n1_ := Aside0.mk (below_step hb_ hb)
           have n2_ := Aside0.mk (hbox)
           have n3_ := Aside0.mk ((by rw [hg]; exact (below_size hb_) : w.heap.size ≤ gb125))
           have n4_ := Aside0.mk ((by rw [hg]; exact (below_size hb_) : w.heap.size ≤ gb125))
           clear HO_6
           clear HB
           have HO_6 := n0_
           have HB := n1_
           have BK125 := n2_
           have GW125 := n3_
           have GE125 := n4_
           clear n0_ n1_ n2_ n3_ n4_
           clear hb hbox hg
           refine hK.out _ _ ⟨((HB.out.cell (World.block_lt_of_cell? w _ hw121_0)).trans hw121_0), ((HB.out.cell (World.block_lt_of_cell? w _ hw123_0)).trans hw123_0)⟩ (fun hHeld => ?_)
           clear hK K
           refine norm_ (a' := ?_) ?_ ?_
           rotate_left
           ·show Act.put _ (some 9) _ = _
            simp only [Act.put, List.setIfInBounds_toArray, List.set_cons_zero, List.set_cons_succ, i64_w, i32_w]
            rfl
           refine one_ (i := 11) (N := some 31) #[true, true, true, true, true, true, true, true, true, true, true, true, false, false, true, false] rfl rfl (one_of HT_.out (by kernel_rfl)) (by decide) (fun K hK => ?_)
           refine goes_ Try.func29 (by kernel_rfl) rfl #[.int .i64 (wrap64 (Int.tdiv (rd l0 x8_1) 3)), .int .i64 4] (by rfl) rfl rfl mp_ ?_
           with_reducible refine (collatorlaw04_pick.calls (wrap64 (Int.tdiv (rd l0 x8_1) 3)) 4 t124 _ A9.out).mono ?_
           rintro e w' ⟨rfl, ⟨nd, rfl⟩⟩
           refine ⟨_, rfl, ?_⟩
           refine hK.out _ _ ⟨((HB.out.cell (World.block_lt_of_cell? w _ hw121_0)).trans hw121_0), ((HB.out.cell (World.block_lt_of_cell? w _ hw123_0)).trans hw123_0)⟩ (fun hHeld => ?_)
           clear hK K
           refine norm_ (a' := ?_) ?_ ?_
           rotate_left
           ·show Act.put _ (some 31) _ = _
            simp only [Act.put, List.setIfInBounds_toArray, List.set_cons_zero, List.set_cons_succ, i64_w, i32_w]
            rfl
           refine pu_ (i := 12) (N := some 32) (any_of HT_.out (by kernel_rfl)) ?_
           refine pu_ (i := 13) (N := some 33) (any_of HT_.out (by kernel_rfl)) ?_
           exact norm_ (by simp only [putAll, Act.put, List.setIfInBounds_toArray, List.set_cons_zero, List.set_cons_succ]) (hCont (gb125) _ ⟨hHeld, (by (with_reducible repeat (first | apply Kd.S_alloc | apply Kd.S_drewN | apply Kd.S_drew)); exact Kd.S_mono HO_6.out (fun _ hk => hk.2)), (by (with_reducible repeat (first | refine blk_drewN ?_ _ | refine blk_drew ?_ | refine blk_alloc ?_ _)); exact BK125.out), GW125.out, GE125.out, (by repeat (first | (with_reducible first | exact HB.out | apply below_alloc | apply pw_below_drewN | apply below_drew1 | refine below_set ?_ GE125.out) | exact HB.out))⟩)
         ·skip
          refine box_step ?hg (N := 9) ?hd (cs := #[.int .i64 0, .int .i64 0, .slice none 0 0]) (t := 31) ?hr ?_; (case hd => rfl); (case hg => rfl); (case hr => first | (go_simp; done) | (go_simp; rfl))
          intro gb125 hg w12 hbox hb
          have n0_ := Aside0.mk (Kd.S_below (Kd.S_elderB (by (with_reducible repeat (first | apply Kd.S_alloc | apply Kd.S_drewN | apply Kd.S_drew)); exact HO_6.out) gb125 (Nat.le_of_eq hg.symm)) hb)
          have n1_ := Aside0.mk (below_step hb_ hb)
          have n2_ := Aside0.mk (hbox)
          have n3_ := Aside0.mk ((by rw [hg]; exact (below_size hb_) : w.heap.size ≤ gb125))
          have n4_ := Aside0.mk ((by rw [hg]; exact (below_size hb_) : w.heap.size ≤ gb125))
          clear HO_6
          clear HB
          have HO_6 := n0_
          have HB := n1_
          have BK125 := n2_
          have GW125 := n3_
          have GE125 := n4_
          clear n0_ n1_ n2_ n3_ n4_
          clear hb hbox hg
          refine hK.out _ _ ⟨((HB.out.cell (World.block_lt_of_cell? w _ hw121_0)).trans hw121_0), ((HB.out.cell (World.block_lt_of_cell? w _ hw123_0)).trans hw123_0)⟩ (fun hHeld => ?_)
          clear hK K
          refine norm_ (a' := ?_) ?_ ?_
          rotate_left
          ·show Act.put _ (some 9) _ = _
           simp only [Act.put, List.setIfInBounds_toArray, List.set_cons_zero, List.set_cons_succ, i64_w, i32_w]
           rfl
          refine one_ (i := 4) (N := some 24) #[true, true, true, true, true, false, true, true, true, true, true, false, false, false, true, false] rfl rfl (one_of HT_.out (by kernel_rfl)) (by decide) (fun K hK => ?_)
          refine goes_ Try.func29 (by kernel_rfl) rfl #[.int .i64 (rd l0 x8_1), .int .i64 3] (by rfl) rfl rfl mp_ ?_
          with_reducible refine (collatorlaw04_pick.calls (rd l0 x8_1) 3 t122 _ A8.out).mono ?_
          rintro e w' ⟨rfl, ⟨nd, rfl⟩⟩
          refine ⟨_, rfl, ?_⟩
          refine hK.out _ _ ⟨((HB.out.cell (World.block_lt_of_cell? w _ hw121_0)).trans hw121_0), ((HB.out.cell (World.block_lt_of_cell? w _ hw123_0)).trans hw123_0)⟩ (fun hHeld => ?_)
          clear hK K
          refine norm_ (a' := ?_) ?_ ?_
          rotate_left
          ·show Act.put _ (some 24) _ = _
           simp only [Act.put, List.setIfInBounds_toArray, List.set_cons_zero, List.set_cons_succ, i64_w, i32_w]
           rfl
          refine pu_ (i := 5) (N := some 25) (any_of HT_.out (by kernel_rfl)) ?_
          refine one_ (i := 11) (N := some 31) #[true, true, true, true, true, true, true, true, true, true, true, true, false, false, true, false] rfl rfl (one_of HT_.out (by kernel_rfl)) (by decide) (fun K hK => ?_)
          refine goes_ Try.func29 (by kernel_rfl) rfl #[.int .i64 (wrap64 (Int.tdiv (rd l0 x8_1) 3)), .int .i64 4] (by rfl) rfl rfl mp_ ?_
          with_reducible refine (collatorlaw04_pick.calls (wrap64 (Int.tdiv (rd l0 x8_1) 3)) 4 t124 _ A9.out).mono ?_
          rintro e w' ⟨rfl, ⟨nd, rfl⟩⟩
          refine ⟨_, rfl, ?_⟩
          refine hK.out _ _ ⟨((HB.out.cell (World.block_lt_of_cell? w _ hw121_0)).trans hw121_0), ((HB.out.cell (World.block_lt_of_cell? w _ hw123_0)).trans hw123_0)⟩ (fun hHeld => ?_)
          clear hK K
          refine norm_ (a' := ?_) ?_ ?_
          rotate_left
          ·show Act.put _ (some 31) _ = _
           simp only [Act.put, List.setIfInBounds_toArray, List.set_cons_zero, List.set_cons_succ, i64_w, i32_w]
           rfl
          refine pu_ (i := 12) (N := some 32) (any_of HT_.out (by kernel_rfl)) ?_
          refine pu_ (i := 13) (N := some 33) (any_of HT_.out (by kernel_rfl)) ?_
          exact norm_ (by simp only [putAll, Act.put, List.setIfInBounds_toArray, List.set_cons_zero, List.set_cons_succ]) (hCont (gb125) _ ⟨hHeld, (by (with_reducible repeat (first | apply Kd.S_alloc | apply Kd.S_drewN | apply Kd.S_drew)); exact Kd.S_mono HO_6.out (fun _ hk => hk.2)), (by (with_reducible repeat (first | refine blk_drewN ?_ _ | refine blk_drew ?_ | refine blk_alloc ?_ _)); exact BK125.out), GW125.out, GE125.out, (by repeat (first | (with_reducible first | exact HB.out | apply below_alloc | apply pw_below_drewN | apply below_drew1 | refine below_set ?_ GE125.out) | exact HB.out))⟩)
        rintro gb125 w13 ⟨hS_, h0_, h1_, h2_, h3_, h4_⟩
        have n0_ : Aside0 (Kd.S k31 31 w13 w.heap.size (fun k_ => k_ ≠ gb125) u6 x6_1) := ⟨h0_⟩
        have n1_ : Aside0 (w13.heap[gb125]? = some (.cells #[.int .i64 0, .int .i64 0, .slice none 0 0] 31 (0, 0))) := ⟨h1_⟩
        have n2_ : Aside0 (w.heap.size ≤ gb125) := ⟨h2_⟩
        have n3_ : Aside0 (w.heap.size ≤ gb125) := ⟨h3_⟩
        have n4_ : Aside0 (Below w.heap.size w w13) := ⟨h4_⟩
        clear HO_6
        clear HB
        clear h0_ h1_ h2_ h3_ h4_
        have HO_6 := n0_
        have BK125 := n1_
        have GW125 := n2_
        have GE125 := n3_
        have HB := n4_
        clear n0_ n1_ n2_ n3_ n4_
        have hHeld : w13.cell? (ad121.add (x8_1).toNat) = some (.int .i64 (rd l0 x8_1)) ∧ w13.cell? (ad121.add (x8_1).toNat) = some (.int .i64 (rd l0 x8_1)) := hS_
        refine norm_ (a' := ?_) ?_ ?_
        rotate_left
        ·simp only [putAll, Act.put, List.setIfInBounds_toArray, List.set_cons_zero, List.set_cons_succ]
         rfl
        refine one_ (i := 15) (N := none) #[true, true, true, true, true, true, true, true, true, true, true, true, true, true, true, true] rfl rfl (one_of HT_.out (by kernel_rfl)) (by decide) (fun K hK => ?_)
        have hs14 : w13.cell? ⟨gb125, 0, none⟩ = some (.int .i64 0) := (blk_cell BK125.out 0).trans rfl
        have hfs14 := blk_frozen BK125.out 0
        have hs15 : w13.cell? ⟨gb125, 1, none⟩ = some (.int .i64 0) := (blk_cell BK125.out 1).trans rfl
        have hfs15 := blk_frozen BK125.out 1
        have hs16 : w13.cell? ⟨gb125, 2, none⟩ = some (.slice none 0 0) := (blk_cell BK125.out 2).trans rfl
        have hfs16 := blk_frozen BK125.out 2
        refine skip_ (w1 := ?_) (by rfl) rfl ?_ ?_
        rotate_left
        ·go_simp
         rfl
        refine hK.out _ _ ⟨((cell_far (p := ⟨gb125, _, none⟩) (by first | exact Nat.ne_of_lt (Nat.lt_of_lt_of_le (by have := World.block_lt_of_cell? _ _ hw121_0; first | rwa [add_block] at this | exact this) GW125.out) | (rw [add_block]; exact Nat.ne_of_lt (Nat.lt_of_lt_of_le (by have := World.block_lt_of_cell? _ _ hw121_0; first | rwa [add_block] at this | exact this) GW125.out)) | (show (Addr.add _ _).block ≠ _; rw [add_block]; exact Nat.ne_of_lt (Nat.lt_of_lt_of_le (by have := World.block_lt_of_cell? _ _ hw121_0; first | rwa [add_block] at this | exact this) GW125.out)) | (dsimp only; exact Nat.ne_of_lt (Nat.lt_of_lt_of_le (by have := World.block_lt_of_cell? _ _ hw121_0; first | rwa [add_block] at this | exact this) GW125.out))) _).trans (((cell_far (p := ⟨gb125, _, none⟩) (by first | exact Nat.ne_of_lt (Nat.lt_of_lt_of_le (by have := World.block_lt_of_cell? _ _ hw121_0; first | rwa [add_block] at this | exact this) GW125.out) | (rw [add_block]; exact Nat.ne_of_lt (Nat.lt_of_lt_of_le (by have := World.block_lt_of_cell? _ _ hw121_0; first | rwa [add_block] at this | exact this) GW125.out)) | (show (Addr.add _ _).block ≠ _; rw [add_block]; exact Nat.ne_of_lt (Nat.lt_of_lt_of_le (by have := World.block_lt_of_cell? _ _ hw121_0; first | rwa [add_block] at this | exact this) GW125.out)) | (dsimp only; exact Nat.ne_of_lt (Nat.lt_of_lt_of_le (by have := World.block_lt_of_cell? _ _ hw121_0; first | rwa [add_block] at this | exact this) GW125.out))) _).trans (((cell_far (p := ⟨gb125, _, none⟩) (by first | exact Nat.ne_of_lt (Nat.lt_of_lt_of_le (by have := World.block_lt_of_cell? _ _ hw121_0; first | rwa [add_block] at this | exact this) GW125.out) | (rw [add_block]; exact Nat.ne_of_lt (Nat.lt_of_lt_of_le (by have := World.block_lt_of_cell? _ _ hw121_0; first | rwa [add_block] at this | exact this) GW125.out)) | (show (Addr.add _ _).block ≠ _; rw [add_block]; exact Nat.ne_of_lt (Nat.lt_of_lt_of_le (by have := World.block_lt_of_cell? _ _ hw121_0; first | rwa [add_block] at this | exact this) GW125.out)) | (dsimp only; exact Nat.ne_of_lt (Nat.lt_of_lt_of_le (by have := World.block_lt_of_cell? _ _ hw121_0; first | rwa [add_block] at this | exact this) GW125.out))) _).trans (hHeld.1)))))), ((cell_far (p := ⟨gb125, _, none⟩) (by first | exact Nat.ne_of_lt (Nat.lt_of_lt_of_le (by have := World.block_lt_of_cell? _ _ hw123_0; first | rwa [add_block] at this | exact this) GW125.out) | (rw [add_block]; exact Nat.ne_of_lt (Nat.lt_of_lt_of_le (by have := World.block_lt_of_cell? _ _ hw123_0; first | rwa [add_block] at this | exact this) GW125.out)) | (show (Addr.add _ _).block ≠ _; rw [add_block]; exact Nat.ne_of_lt (Nat.lt_of_lt_of_le (by have := World.block_lt_of_cell? _ _ hw123_0; first | rwa [add_block] at this | exact this) GW125.out)) | (dsimp only; exact Nat.ne_of_lt (Nat.lt_of_lt_of_le (by have := World.block_lt_of_cell? _ _ hw123_0; first | rwa [add_block] at this | exact this) GW125.out))) _).trans (((cell_far (p := ⟨gb125, _, none⟩) (by first | exact Nat.ne_of_lt (Nat.lt_of_lt_of_le (by have := World.block_lt_of_cell? _ _ hw123_0; first | rwa [add_block] at this | exact this) GW125.out) | (rw [add_block]; exact Nat.ne_of_lt (Nat.lt_of_lt_of_le (by have := World.block_lt_of_cell? _ _ hw123_0; first | rwa [add_block] at this | exact this) GW125.out)) | (show (Addr.add _ _).block ≠ _; rw [add_block]; exact Nat.ne_of_lt (Nat.lt_of_lt_of_le (by have := World.block_lt_of_cell? _ _ hw123_0; first | rwa [add_block] at this | exact this) GW125.out)) | (dsimp only; exact Nat.ne_of_lt (Nat.lt_of_lt_of_le (by have := World.block_lt_of_cell? _ _ hw123_0; first | rwa [add_block] at this | exact this) GW125.out))) _).trans (((cell_far (p := ⟨gb125, _, none⟩) (by first | exact Nat.ne_of_lt (Nat.lt_of_lt_of_le (by have := World.block_lt_of_cell? _ _ hw123_0; first | rwa [add_block] at this | exact this) GW125.out) | (rw [add_block]; exact Nat.ne_of_lt (Nat.lt_of_lt_of_le (by have := World.block_lt_of_cell? _ _ hw123_0; first | rwa [add_block] at this | exact this) GW125.out)) | (show (Addr.add _ _).block ≠ _; rw [add_block]; exact Nat.ne_of_lt (Nat.lt_of_lt_of_le (by have := World.block_lt_of_cell? _ _ hw123_0; first | rwa [add_block] at this | exact this) GW125.out)) | (dsimp only; exact Nat.ne_of_lt (Nat.lt_of_lt_of_le (by have := World.block_lt_of_cell? _ _ hw123_0; first | rwa [add_block] at this | exact this) GW125.out))) _).trans (hHeld.2))))))⟩ (fun hHeld => ?_)
        clear hK K
        refine done_ (done_of HT_.out (by kernel_rfl)) ?_
        have hcz17_0 : w13.cell? ⟨gb125, 0, none⟩ = some (.int .i64 0) := (blk_cell BK125.out 0).trans rfl
        have hcz17_1 : w13.cell? ⟨gb125, 1, none⟩ = some (.int .i64 0) := (blk_cell BK125.out 1).trans rfl
        have hcz17_2 : w13.cell? ⟨gb125, 2, none⟩ = some (.slice none 0 0) := (blk_cell BK125.out 2).trans rfl
        have hfz17_0 := blk_frozen BK125.out 0
        have hfz17_1 := blk_frozen BK125.out 1
        have hfz17_2 := blk_frozen BK125.out 2
        go_upto_if 36 with (fail)
        go_cut [] (fun wc => ∃ (kq : Nat) (x126002_9 : List ByteArray) (u126002 : Value), Aside0 (collatorlaw04_Script.j2 kq l0 l1 x6_1 x7_1 x8_1 (wrap64 (1 + t122)) (wrap64 (1 + t124)) x126002_9 = some (r1, r2)) ∧ Aside0 (kq ≤ kj2) ∧ Aside0 (Kd.S k31 31 wc w.heap.size (fun k_ => some k_ ≠ (u126002 : Value).ownBlock ∧ k_ ≠ gb125) u6 x6_1) ∧ Aside0 (Kd.R Kd.string 9 wc w.heap.size (fun _ => True) u126002 x126002_9) ∧ Aside0 (wc.heap[gb125]? = some (.cells #[.int .i64 (wrap64 (1 + t122)), .int .i64 (wrap64 (1 + t124)), u126002] 31 (0, 0))) ∧ Aside0 (Below w.heap.size w wc))
        case first =>
         have H := HC10.out
         clear HC10
         by_cases c18 : (wrap64 (1 + t122)) = 3
         ·rw [if_pos c18] at H
          have c18b0 : ((wrap64 (1 + t122)) == 3) = true := beq_iff_eq.mpr c18
          have c18b1 : ((wrap64 (1 + t122)) != 3) = false := bne_eq_false_iff_eq.mpr c18
          clear c18
          (first | rw [c18b0] | rw [c18b1] | (simp only [i64_w, i32_w]; rw [c18b0]) | skip)
          have c19b0 := eq_true (of_decide_eq_true as_ : 0 ≤ x8_1)
          by_cases c20 : x8_1 ≤ (l0.length : Int)
          ·rw [if_pos c20] at H
           have c20b0 := eq_true c20
           have c20b1 : decide (x8_1 ≤ (l0.length : Int)) = true := decide_eq_true c20
           clear c20
           replace H := Option.bind_eq_some_iff.mp H
           obtain ⟨t127, A210, H⟩ := H
           replace H : (collatorlaw04_Script.j2 kj2 l0 l1 x6_1 x7_1 x8_1 (wrap64 (1 + t122)) (wrap64 (1 + t124)) t127) = some (r1, r2) := H
           have A21 := Aside0.mk A210
           clear A210
           have H' := Aside0.mk H
           clear H
           try go_wp2
           have n0_ : Aside0 (Kd.S k31 31 (((w13.setCell ⟨gb125, 0, none⟩ (.int .i64 (wrap64 (1 + t122)))).setCell ⟨gb125, 1, none⟩ (.int .i64 (wrap64 (1 + t124)))).setCell ⟨gb125, 2, none⟩ (.slice none 0 0)) w.heap.size (fun k_ => k_ ≠ gb125) u6 x6_1) := ⟨by (with_reducible repeat (first | apply Kd.S_alloc | apply Kd.S_drewN | apply Kd.S_drew)); exact Kd.S_mono (Kd.S_far (p := ⟨gb125, 2, none⟩) (Kd.S_far (p := ⟨gb125, 1, none⟩) (Kd.S_far (p := ⟨gb125, 0, none⟩) (Kd.S_mono HO_6.out (fun k_ hk => (⟨hk, hk⟩ : _ ∧ k_ ≠ gb125))) (fun _ hk => hk.2) (.int .i64 (wrap64 (1 + t122)))) (fun _ hk => hk.2) (.int .i64 (wrap64 (1 + t124)))) (fun _ hk => hk.2) (.slice none 0 0)) (fun _ hk => hk.1)⟩
           have n1_ : Aside0 ((((w13.setCell ⟨gb125, 0, none⟩ (.int .i64 (wrap64 (1 + t122)))).setCell ⟨gb125, 1, none⟩ (.int .i64 (wrap64 (1 + t124)))).setCell ⟨gb125, 2, none⟩ (.slice none 0 0)).heap[gb125]? = some (.cells #[.int .i64 (wrap64 (1 + t122)), .int .i64 (wrap64 (1 + t124)), .slice none 0 0] 31 (0, 0))) := ⟨by (with_reducible repeat (first | refine blk_drewN ?_ _ | refine blk_drew ?_ | refine blk_alloc ?_ _)); refine blk_put (cs := #[.int .i64 (wrap64 (1 + t122)), .int .i64 (wrap64 (1 + t124)), .slice none 0 0]) ?_ 2 _ rfl; (with_reducible repeat (first | refine blk_drewN ?_ _ | refine blk_drew ?_ | refine blk_alloc ?_ _)); refine blk_put (cs := #[.int .i64 (wrap64 (1 + t122)), .int .i64 0, .slice none 0 0]) ?_ 1 _ rfl; (with_reducible repeat (first | refine blk_drewN ?_ _ | refine blk_drew ?_ | refine blk_alloc ?_ _)); refine blk_put (cs := #[.int .i64 0, .int .i64 0, .slice none 0 0]) ?_ 0 _ rfl; (with_reducible repeat (first | refine blk_drewN ?_ _ | refine blk_drew ?_ | refine blk_alloc ?_ _)); exact BK125.out⟩
           have n2_ : Aside0 (Below w.heap.size w (((w13.setCell ⟨gb125, 0, none⟩ (.int .i64 (wrap64 (1 + t122)))).setCell ⟨gb125, 1, none⟩ (.int .i64 (wrap64 (1 + t124)))).setCell ⟨gb125, 2, none⟩ (.slice none 0 0))) := ⟨by repeat (first | (with_reducible first | exact HB.out | apply below_alloc | apply pw_below_drewN | apply below_drew1 | refine below_set ?_ GE125.out) | exact HB.out)⟩
           (try clear HO_6)
           (try clear BK125)
           (try clear HB)
           generalize (((w13.setCell ⟨gb125, 0, none⟩ (.int .i64 (wrap64 (1 + t122)))).setCell ⟨gb125, 1, none⟩ (.int .i64 (wrap64 (1 + t124)))).setCell ⟨gb125, 2, none⟩ (.slice none 0 0)) = w22 at n0_ n1_ n2_ ⊢
           have HO_6 := n0_
           have BK125 := n1_
           have HB := n2_
           clear n0_ n1_ n2_
           have n0_ := Aside0.mk (Kd.S_drew HO_6.out)
           have n1_ := Aside0.mk (blk_drew BK125.out)
           have n2_ := Aside0.mk (below_drew1 HB.out)
           clear HO_6
           clear BK125
           clear HB
           have HO_6 := n0_
           have BK125 := n1_
           have HB := n2_
           clear n0_ n1_ n2_
           obtain ⟨i024, hi024, _, hsz24, _⟩ := info_parts info3
           obtain ⟨A24, hcut24, hA24, hC24⟩ := print_drop_of (P := Try.prog) (Value.int .i64) 0 23 3 .i64 Try.underlying23 hi024 hsz24 (some ad121) c0 l0 x8_1 (of_decide_eq_true as_) (of_decide_eq_true as_) HC0.out
           have HR126 := Aside0.mk (Kd.C_of_reads (h1 := fun _ => rfl) (hA24 _ (Kd.reads_of_C HR0.out)))
           have HC126 := Aside0.mk hC24
           clear hA24 hC24 hi024 hsz24
           refine start_ (n := 8) (S := fun w' => w'.cell? ⟨gb125, 0, none⟩ = some (.int .i64 (wrap64 (1 + t122))) ∧ w'.cell? ⟨gb125, 1, none⟩ = some (.int .i64 (wrap64 (1 + t124))) ∧ w'.cell? ⟨gb125, 2, none⟩ = some (.slice none 0 0)) (ds := [7]) #[false, false, false, false, false, false, false, false] (by kernel_rfl) rfl rfl ⟨(blk_cell BK125.out 0).trans rfl, (blk_cell BK125.out 1).trans rfl, (blk_cell BK125.out 2).trans rfl⟩ (fun hHeld => ?_); refine with_tabW collatorlaw04_Script.tab8 collatorlaw04_Script.bits8 (fun HT_ HW_ => ?_)
           generalize w22.drew = w23 at HO_6 BK125 HB HR126 hHeld ⊢
           refine pu_ (i := 0) (N := some 37) (any_of HT_.out (by kernel_rfl)) ?_
           refine pu_ (i := 1) (N := some 38) (any_of HT_.out (by kernel_rfl)) ?_
           refine pu_ (i := 2) (N := some 39) (any_of HT_.out (by kernel_rfl)) ?_
           refine pu_ (i := 3) (N := some 40) (any_of HT_.out (by kernel_rfl)) ?_
           refine ta_ (i := 4) (N := some 41) (take_ofW HT_.out HW_.out (by kernel_rfl)) hHeld ?_
           refine one_ (i := 5) (N := some 42) #[true, true, true, true, true, true, false, false] rfl rfl (one_of HT_.out (by kernel_rfl)) (by decide) (fun K hK => ?_)
           refine goes_ Try.func30 (by kernel_rfl) rfl #[.slice A24 (l0.drop (x8_1 : Int).toNat).length (c0 - x8_1.toNat), .int .i64 (wrap64 (1 + t124))] (by rfl) rfl rfl (by (try simp only [List.map_toArray, List.map_cons, List.map_nil]); first | done | (rw [show (l0.drop (x8_1 : Int).toNat).length = (l0.length - x8_1.toNat) from List.length_drop] <;> rfl) | rfl | (simp only [List.length_drop, List.length_take]; rfl)) ?_
           with_reducible refine (collatorlaw04_full.calls kj2 _ _ (l0.drop (x8_1 : Int).toNat) (wrap64 (1 + t124)) t127 _ ?side1 ?side2 A21.out).mono ?_
           (case side1 => repeat (first | exact (Kd.C_below HR126.out HB.out) | (with_reducible refine Kd.C_alloc ?_ _) | (with_reducible refine Kd.C_drewN ?_ _) | (with_reducible refine Kd.C_drew ?_)))
           (case side2 => exact HC126.out)
           rintro e w25 ⟨v128, rfl, ho0, hb⟩
           refine ⟨_, rfl, ?_⟩
           have n0_ := Aside0.mk (Kd.S_elder' (by (with_reducible repeat (first | apply Kd.S_alloc | apply Kd.S_drewN | apply Kd.S_drew)); exact HO_6.out) (Kd.R_base ho0) hb)
           have n1_ := Aside0.mk (Kd.R_lower ho0 (below_size (by repeat (first | (with_reducible first | exact HB.out | apply below_alloc | apply pw_below_drewN | apply below_drew1 | refine below_set ?_ GE125.out) | exact HB.out))))
           have n2_ := Aside0.mk (blk_below (g := gb125) (o := .cells #[.int .i64 (wrap64 (1 + t122)), .int .i64 (wrap64 (1 + t124)), .slice none 0 0] 31 (0, 0)) (by (with_reducible repeat (first | refine blk_drewN ?_ _ | refine blk_drew ?_ | refine blk_alloc ?_ _)); exact BK125.out) hb)
           have n3_ := Aside0.mk (below_step (by repeat (first | (with_reducible first | exact HB.out | apply below_alloc | apply pw_below_drewN | apply below_drew1 | refine below_set ?_ GE125.out) | exact HB.out)) hb)
           clear HO_6
           clear BK125
           clear HB
           have HO_6 := n0_
           have HO129 := n1_
           have BK125 := n2_
           have HB := n3_
           clear n0_ n1_ n2_ n3_
           (try clear hb)
           (try clear hb2)
           (try clear hk)
           (try clear hi)
           (try clear ho0)
           obtain ⟨Ao26, co26, eo26⟩ := Kd.R_slice HO129.out
           (first | subst eo26 | (injection eo26 with f1_ f2_ f3_; have f4_ := f1_.symm; have f5_ := f3_.symm; clear f1_ f2_ f3_; subst f4_; subst f5_))
           refine hK.out _ _ ⟨(blk_cell BK125.out 0).trans rfl, (blk_cell BK125.out 1).trans rfl, (blk_cell BK125.out 2).trans rfl⟩ (fun hHeld => ?_)
           clear hK K
           refine norm_ (a' := ?_) ?_ ?_
           rotate_left
           ·show Act.put _ (some 42) _ = _
            simp only [Act.put, List.setIfInBounds_toArray, List.set_cons_zero, List.set_cons_succ, i64_w, i32_w]
            rfl
           refine pu_ (i := 6) (N := some 43) (any_of HT_.out (by kernel_rfl)) ?_
           refine last_ (i := 7) (N := none) #[true, true, true, true, true, true, true, true] rfl rfl (one_of HT_.out (by kernel_rfl)) (by decide) (fun K hK => ?_)
           have hs27 : w25.cell? ⟨gb125, 2, none⟩ = some (.slice none 0 0) := (blk_cell BK125.out 2).trans rfl
           have hfs27 := blk_frozen BK125.out 2
           refine skip_ (w1 := ?_) (by rfl) rfl ?_ ?_
           rotate_left
           ·go_simp
            rfl
           refine hK.out _ _ ?_
           clear hK K
           refine done_ (done_of HT_.out (by kernel_rfl)) ?_
           try go_wp2
           go_meet
           case rel => exact ⟨_, (t127), (.slice Ao26 t127.length co26), H', ⟨by have := HK1.out; have := HJ2.out; first | omega | exact Nat.le_refl _⟩, ⟨by (with_reducible repeat (first | apply Kd.S_alloc | apply Kd.S_drewN | apply Kd.S_drew)); exact Kd.S_mono (Kd.S_far (p := ⟨gb125, 2, none⟩) (Kd.S_mono HO_6.out (fun k_ hk => (⟨hk, hk.1⟩ : _ ∧ k_ ≠ gb125))) (fun _ hk => hk.2) (.slice Ao26 t127.length co26)) (fun _ hk => by first | exact ⟨hk.1.2, hk.1.1⟩ | simp_all)⟩, ⟨by (with_reducible repeat (first | apply Kd.R_alloc | apply Kd.R_drewN | apply Kd.R_drew)); exact Kd.R_mono (Kd.R_far (p := ⟨gb125, 2, none⟩) (Kd.R_types HO129.out BK125.out (by decide)) (fun _ hk => hk.2) (.slice Ao26 t127.length co26)) (fun _ hk => trivial)⟩, ⟨by (with_reducible repeat (first | refine blk_drewN ?_ _ | refine blk_drew ?_ | refine blk_alloc ?_ _)); refine blk_put (cs := #[.int .i64 (wrap64 (1 + t122)), .int .i64 (wrap64 (1 + t124)), .slice none 0 0]) ?_ 2 _ rfl; (with_reducible repeat (first | refine blk_drewN ?_ _ | refine blk_drew ?_ | refine blk_alloc ?_ _)); exact BK125.out⟩, ⟨by repeat (first | (with_reducible first | exact HB.out | apply below_alloc | apply pw_below_drewN | apply below_drew1 | refine below_set ?_ GE125.out) | exact HB.out)⟩⟩
          ·rw [if_neg c20] at H
           exact absurd H (by simp)
         ·rw [if_neg c18] at H
          have c18b0 : ((wrap64 (1 + t122)) == 3) = false := beq_eq_false_iff_ne.mpr c18
          have c18b1 : ((wrap64 (1 + t122)) != 3) = true := bne_iff_ne.mpr c18
          (first | rw [c18b0] | rw [c18b1] | (simp only [i64_w, i32_w]; rw [c18b0]) | skip)
          have H' := Aside0.mk H
          clear H
          go_wp2
          go_meet
          case rel => exact ⟨_, (([] : List ByteArray)), (.slice none 0 0), H', ⟨by have := HK1.out; have := HJ2.out; first | omega | exact Nat.le_refl _⟩, ⟨by (with_reducible repeat (first | apply Kd.S_alloc | apply Kd.S_drewN | apply Kd.S_drew)); exact Kd.S_mono (Kd.S_far (p := ⟨gb125, 2, none⟩) (Kd.S_far (p := ⟨gb125, 1, none⟩) (Kd.S_far (p := ⟨gb125, 0, none⟩) (Kd.S_mono HO_6.out (fun k_ hk => (⟨hk, hk⟩ : _ ∧ k_ ≠ gb125))) (fun _ hk => hk.2) (.int .i64 (wrap64 (1 + t122)))) (fun _ hk => hk.2) (.int .i64 (wrap64 (1 + t124)))) (fun _ hk => hk.2) (.slice none 0 0)) (fun _ hk => ⟨(by simp [Value.ownBlock]), hk.1⟩)⟩, ⟨by first | exact Kd.R_nil _ _ _ _ _ | exact Kd.N_nil _ _ _ _ _ | exact Kd.V_nil _ _ _ _ _ | exact Kd.Q_nil _ _ _ _ _ | exact Kd.S_nil _ _ _ _ _⟩, ⟨by (with_reducible repeat (first | refine blk_drewN ?_ _ | refine blk_drew ?_ | refine blk_alloc ?_ _)); refine blk_put (cs := #[.int .i64 (wrap64 (1 + t122)), .int .i64 (wrap64 (1 + t124)), .slice none 0 0]) ?_ 2 _ rfl; (with_reducible repeat (first | refine blk_drewN ?_ _ | refine blk_drew ?_ | refine blk_alloc ?_ _)); refine blk_put (cs := #[.int .i64 (wrap64 (1 + t122)), .int .i64 0, .slice none 0 0]) ?_ 1 _ rfl; (with_reducible repeat (first | refine blk_drewN ?_ _ | refine blk_drew ?_ | refine blk_alloc ?_ _)); refine blk_put (cs := #[.int .i64 0, .int .i64 0, .slice none 0 0]) ?_ 0 _ rfl; (with_reducible repeat (first | refine blk_drewN ?_ _ | refine blk_drew ?_ | refine blk_alloc ?_ _)); exact BK125.out⟩, ⟨by repeat (first | (with_reducible first | exact HB.out | apply below_alloc | apply pw_below_drewN | apply below_drew1 | refine below_set ?_ GE125.out) | exact HB.out)⟩⟩
        case rest =>
         clear HC10
         (try clear c1);(try clear p1);(try clear q1);(try clear hx1);(try clear c2);(try clear p2);(try clear c3);(try clear c4);(try clear c4b0);(try clear c5);(try clear c6);(try clear c6b0);(try clear p6);(try clear c7);(try clear c7b0);(try clear c10);(try clear p12);(try clear q12);(try clear hx12);(try clear c18);(try clear c18b0);(try clear c18b1);(try clear c19);(try clear c19b0);(try clear c20);(try clear c20b0);(try clear c20b1);(try clear hcz17_0);(try clear hcz17_1);(try clear hcz17_2);(try clear hfz17_0);(try clear hfz17_1);(try clear hfz17_2);(try clear hx121_0);(try clear hx123_0);(try clear p121);(try clear p123);(try clear p2);(try clear q121);(try clear q123)
         obtain ⟨kq, x126002_9, u126002, HA, HJ9, HO_6, HO_126002, BK125, HB⟩ := hcut
         cases kq with
         | zero => exact absurd HA.out (by simp [collatorlaw04_Script.j2])
         | succ kj9 =>
          have H := HA.out
          clear HA
          simp only [collatorlaw04_Script.j2] at H
          have HC28 := Aside0.mk H
          clear H
          go_upto_region 9 with (fail)
          go_cut [73] (fun v73 wc => ∃ (kq : Nat) (x73_27 : Bool), v73 = .bool x73_27 ∧ Aside0 (collatorlaw04_Script.j3 kq l0 l1 x6_1 x7_1 x8_1 x73_27 (wrap64 (1 + t122)) (wrap64 (1 + t124)) x126002_9 = some (r1, r2)) ∧ Aside0 (kq ≤ kj9) ∧ Aside0 (Kd.S k31 31 wc w.heap.size (fun k_ => some k_ ≠ (u126002 : Value).ownBlock ∧ k_ ≠ gb125) u6 x6_1) ∧ Aside0 (Kd.R Kd.string 9 wc w.heap.size (fun _ => True) u126002 x126002_9) ∧ Aside0 (wc.heap[gb125]? = some (.cells #[.int .i64 (wrap64 (1 + t122)), .int .i64 (wrap64 (1 + t124)), u126002] 31 (0, 0))) ∧ Aside0 (Below w.heap.size w wc))
          case first =>
           have H := HC28.out
           clear HC28
           by_cases c29 : (x6_1.length : Int) > 0
           ·rw [if_pos c29] at H
            have c29b0 : decide (0 < (x6_1.length : Int)) = true := decide_eq_true c29
            have c29b1 : decide (0 < x6_1.length) = true := decide_eq_true (by omega)
            clear c29
            (first | rw [c29b0] | rw [c29b1] | (simp only [i64_w, i32_w]; rw [c29b0]) | skip)
            obtain ⟨ji30, hji30⟩ : ∃ j_ : Int, (wrap64 ((x6_1.length : Int) - 1)) = j_ := ⟨_, rfl⟩
            replace H : (if 0 ≤ (ji30) then (if (ji30) < (x6_1.length : Int) then (if ((rd_T31 x6_1 (ji30)).f0) = (wrap64 (1 + t122)) then (collatorlaw04_Script.j3 kj9 l0 l1 x6_1 x7_1 x8_1 true (wrap64 (1 + t122)) (wrap64 (1 + t124)) x126002_9) else (if ((rd_T31 x6_1 (ji30)).f0) = 3 then (collatorlaw04_Script.j3 kj9 l0 l1 x6_1 x7_1 x8_1 ((wrap64 (1 + t122)) == 2) (wrap64 (1 + t122)) (wrap64 (1 + t124)) x126002_9) else (collatorlaw04_Script.j3 kj9 l0 l1 x6_1 x7_1 x8_1 false (wrap64 (1 + t122)) (wrap64 (1 + t124)) x126002_9))) else (none)) else (none)) = some (r1, r2) := by first | (rw [hji30] at H; exact H) | (simp only [hji30] at H ⊢; exact H)
            have hji30w : (IntKind.i64.wrap ((x6_1.length : Int) - 1)) = ji30 := (i64_w _).trans hji30
            by_cases c31 : 0 ≤ (ji30)
            ·rw [if_pos c31] at H
             have c31b0 : decide (0 ≤ (ji30)) = true := decide_eq_true c31
             clear c31
             by_cases c32 : (ji30) < (x6_1.length : Int)
             ·rw [if_pos c32] at H
              have c32b0 : decide ((ji30) < (x6_1.length : Int)) = true := decide_eq_true c32
              clear c32
              by_cases c33 : ((rd_T31 x6_1 (ji30)).f0) = (wrap64 (1 + t122))
              ·rw [if_pos c33] at H
               have c33b0 : (((rd_T31 x6_1 (ji30)).f0) == (wrap64 (1 + t122))) = true := beq_iff_eq.mpr c33
               have c33b1 : (((rd_T31 x6_1 (ji30)).f0) != (wrap64 (1 + t122))) = false := bne_eq_false_iff_eq.mpr c33
               clear c33
               have H' := Aside0.mk H
               clear H
               try go_wp2
               have n0_ := Aside0.mk (Kd.S_drew HO_6.out)
               have n1_ := Aside0.mk (Kd.R_drew HO_126002.out)
               have n2_ := Aside0.mk (blk_drew BK125.out)
               have n3_ := Aside0.mk (below_drew1 HB.out)
               clear HO_6
               clear HO_126002
               clear BK125
               clear HB
               have HO_6 := n0_
               have HO_126002 := n1_
               have BK125 := n2_
               have HB := n3_
               clear n0_ n1_ n2_ n3_
               obtain ⟨Ao35, co35, eo35⟩ := Kd.S_slice HO_6.out
               (first | subst eo35 | (injection eo35 with f1_ f2_ f3_; have f4_ := f1_.symm; have f5_ := f3_.symm; clear f1_ f2_ f3_; subst f4_; subst f5_))
               have p130 : 0 ≤ ((ji30) : Int) := of_decide_eq_true as_
               have q130 : (ji30) < (x6_1.length : Int) := of_decide_eq_true as_
               obtain ⟨ad130, A130_2, c130_2, e130, hx130_0, hx130_1, hx130_2, hl130_2, hi130_2⟩ := at_T31 (Kd.S_reads' HO_6.out).2.2 (ji30) p130 q130
               cases e130
               obtain ⟨ce130, hce130, hMe130, hcc130⟩ := Kd.S_get HO_6.out z31 (ji30) p130 (by first | exact q130 | exact of_decide_eq_true as_ | (have e_ := (Kd.S_reads' HO_6.out).1; omega))
               obtain ⟨ve130_2, rfl, ge130_2⟩ := k31_openM hMe130
               have hv130_2 := hcc130 2 _ rfl
               rw [add_field _ _ 2 (by omega)] at hv130_2
               replace hv130_2 := Option.some.inj (hv130_2.symm.trans hx130_2)
               rw [hv130_2] at ge130_2
               have HL130_2 := Aside0.mk (show Kd.R Kd.string 9 _ _ _ _ ((rd_T31 x6_1 (ji30)).f2) from ge130_2)
               clear hv130_2 ge130_2
               clear hcc130 hce130
               have HR130_2 := Aside0.mk hi130_2
               have HC130_2 := Aside0.mk hl130_2
               clear hi130_2 hl130_2
               replace p130 := eq_true p130
               replace q130 := eq_true q130
               refine start_ (n := 30) (S := fun w' => w'.cell? ⟨gb125, 0, none⟩ = some (.int .i64 (wrap64 (1 + t122))) ∧ w'.cell? ⟨gb125, 1, none⟩ = some (.int .i64 (wrap64 (1 + t124))) ∧ w'.cell? ⟨gb125, 2, none⟩ = some (u126002) ∧ w'.cell? (ad130.add (((ji30)).toNat * 3)) = some (.int .i64 ((rd_T31 x6_1 (ji30)).f0)) ∧ w'.cell? ⟨(ad130.add (((ji30)).toNat * 3)).block, (ad130.add (((ji30)).toNat * 3)).off + 1, none⟩ = some (.int .i64 ((rd_T31 x6_1 (ji30)).f1)) ∧ w'.cell? ⟨(ad130.add (((ji30)).toNat * 3)).block, (ad130.add (((ji30)).toNat * 3)).off + 2, none⟩ = some (.slice A130_2 ((rd_T31 x6_1 (ji30)).f2).length c130_2)) (ds := []) #[false, false, false, false, false, false, false, false, false, false, false, false, false, false, false, false, false, false, false, false, false, false, false, false, false, false, false, false, false, false] (by kernel_rfl) rfl rfl ⟨(blk_cell BK125.out 0).trans rfl, (blk_cell BK125.out 1).trans rfl, (blk_cell BK125.out 2).trans rfl, hx130_0, hx130_1, hx130_2⟩ (fun hHeld => ?_); refine with_tabW collatorlaw04_Script.tab9 collatorlaw04_Script.bits9 (fun HT_ HW_ => ?_)
               generalize wc.drew = w34 at HO_6 HO_126002 BK125 HB HL130_2 HR130_2 hx130_0 hx130_1 hx130_2 hHeld ⊢
               refine pu_ (i := 0) (N := some 44) (any_of HT_.out (by kernel_rfl)) ?_
               refine pu_ (i := 1) (N := some 45) (any_of HT_.out (by kernel_rfl)) ?_
               refine pu_ (i := 2) (N := some 46) (any_of HT_.out (by kernel_rfl)) ?_
               refine pu_ (i := 3) (N := some 47) (any_of HT_.out (by kernel_rfl)) ?_
               refine pu_ (i := 4) (N := some 48) (any_of HT_.out (by kernel_rfl)) ?_
               refine pu_ (i := 5) (N := some 49) (any_of HT_.out (by kernel_rfl)) ?_
               refine pu_ (i := 6) (N := some 50) (any_of HT_.out (by kernel_rfl)) ?_
               refine pu_ (i := 7) (N := some 51) (any_of HT_.out (by kernel_rfl)) ?_
               refine pu_ (i := 8) (N := some 52) (any_of HT_.out (by kernel_rfl)) ?_
               refine pu_ (i := 9) (N := some 53) (any_of HT_.out (by kernel_rfl)) ?_
               refine pu_ (i := 11) (N := some 55) (any_of HT_.out (by kernel_rfl)) ?_
               refine ta_ (i := 10) (N := some 54) (take_ofW HT_.out HW_.out (by kernel_rfl)) hHeld ?_
               refine ta_ (i := 12) (N := some 56) (take_ofW HT_.out HW_.out (by kernel_rfl)) hHeld ?_
               refine pu_ (i := 13) (N := some 57) (any_of HT_.out (by kernel_rfl)) ?_
               refine pu_ (i := 14) (N := some 58) (any_of HT_.out (by kernel_rfl)) ?_
               refine ps_ (i := 15) (N := some 59) (any_of HT_.out (by kernel_rfl)) ?_
               refine ps_ (i := 16) (N := some 60) (any_of HT_.out (by kernel_rfl)) ?_
               refine ps_ (i := 17) (N := some 61) (any_of HT_.out (by kernel_rfl)) ?_
               refine ps_ (i := 18) (N := some 62) (any_of HT_.out (by kernel_rfl)) ?_
               refine ps_ (i := 19) (N := some 63) (any_of HT_.out (by kernel_rfl)) ?_
               refine ps_ (i := 20) (N := some 64) (any_of HT_.out (by kernel_rfl)) ?_
               refine ps_ (i := 21) (N := some 65) (any_of HT_.out (by kernel_rfl)) ?_
               refine ps_ (i := 22) (N := some 66) (any_of HT_.out (by kernel_rfl)) ?_
               refine ps_ (i := 23) (N := some 67) (any_of HT_.out (by kernel_rfl)) ?_
               refine ps_ (i := 24) (N := some 68) (any_of HT_.out (by kernel_rfl)) ?_
               refine ps_ (i := 25) (N := some 69) (any_of HT_.out (by kernel_rfl)) ?_
               refine ps_ (i := 26) (N := some 70) (any_of HT_.out (by kernel_rfl)) ?_
               refine ps_ (i := 27) (N := some 71) (any_of HT_.out (by kernel_rfl)) ?_
               refine pu_ (i := 28) (N := some 72) (any_of HT_.out (by kernel_rfl)) ?_
               refine pu_ (i := 29) (N := some 73) (any_of HT_.out (by kernel_rfl)) ?_
               refine done_ (done_of HT_.out (by kernel_rfl)) ?_
               try go_wp2
               go_meet
               case rel => exact ⟨_, (true), rf_, H', ⟨by have := HK1.out; have := HJ2.out; have := HJ9.out; first | omega | exact Nat.le_refl _⟩, ⟨by (with_reducible repeat (first | apply Kd.S_alloc | apply Kd.S_drewN | apply Kd.S_drew)); exact HO_6.out⟩, ⟨by (with_reducible repeat (first | apply Kd.R_alloc | apply Kd.R_drewN | apply Kd.R_drew)); exact HO_126002.out⟩, ⟨by (with_reducible repeat (first | refine blk_drewN ?_ _ | refine blk_drew ?_ | refine blk_alloc ?_ _)); exact BK125.out⟩, ⟨by repeat (first | (with_reducible first | exact HB.out | apply below_alloc | apply pw_below_drewN | apply below_drew1 | refine below_set ?_ GE125.out) | exact HB.out)⟩⟩
              ·rw [if_neg c33] at H
               have c33b0 : (((rd_T31 x6_1 (ji30)).f0) == (wrap64 (1 + t122))) = false := beq_eq_false_iff_ne.mpr c33
               have c33b1 : (((rd_T31 x6_1 (ji30)).f0) != (wrap64 (1 + t122))) = true := bne_iff_ne.mpr c33
               by_cases c36 : ((rd_T31 x6_1 (ji30)).f0) = 3
               ·rw [if_pos c36] at H
                have c36b0 : (((rd_T31 x6_1 (ji30)).f0) == 3) = true := beq_iff_eq.mpr c36
                have c36b1 : (((rd_T31 x6_1 (ji30)).f0) != 3) = false := bne_eq_false_iff_eq.mpr c36
                clear c36
                have H' := Aside0.mk H
                clear H
                try go_wp2
                have n0_ := Aside0.mk (Kd.S_drew HO_6.out)
                have n1_ := Aside0.mk (Kd.R_drew HO_126002.out)
                have n2_ := Aside0.mk (blk_drew BK125.out)
                have n3_ := Aside0.mk (below_drew1 HB.out)
                clear HO_6
                clear HO_126002
                clear BK125
                clear HB
                have HO_6 := n0_
                have HO_126002 := n1_
                have BK125 := n2_
                have HB := n3_
                clear n0_ n1_ n2_ n3_
                obtain ⟨Ao38, co38, eo38⟩ := Kd.S_slice HO_6.out
                (first | subst eo38 | (injection eo38 with f1_ f2_ f3_; have f4_ := f1_.symm; have f5_ := f3_.symm; clear f1_ f2_ f3_; subst f4_; subst f5_))
                have p130 : 0 ≤ ((ji30) : Int) := of_decide_eq_true as_
                have q130 : (ji30) < (x6_1.length : Int) := of_decide_eq_true as_
                obtain ⟨ad130, A130_2, c130_2, e130, hx130_0, hx130_1, hx130_2, hl130_2, hi130_2⟩ := at_T31 (Kd.S_reads' HO_6.out).2.2 (ji30) p130 q130
                cases e130
                obtain ⟨ce130, hce130, hMe130, hcc130⟩ := Kd.S_get HO_6.out z31 (ji30) p130 (by first | exact q130 | exact of_decide_eq_true as_ | (have e_ := (Kd.S_reads' HO_6.out).1; omega))
                obtain ⟨ve130_2, rfl, ge130_2⟩ := k31_openM hMe130
                have hv130_2 := hcc130 2 _ rfl
                rw [add_field _ _ 2 (by omega)] at hv130_2
                replace hv130_2 := Option.some.inj (hv130_2.symm.trans hx130_2)
                rw [hv130_2] at ge130_2
                have HL130_2 := Aside0.mk (show Kd.R Kd.string 9 _ _ _ _ ((rd_T31 x6_1 (ji30)).f2) from ge130_2)
                clear hv130_2 ge130_2
                clear hcc130 hce130
                have HR130_2 := Aside0.mk hi130_2
                have HC130_2 := Aside0.mk hl130_2
                clear hi130_2 hl130_2
                replace p130 := eq_true p130
                replace q130 := eq_true q130
                have p131 : 0 ≤ ((ji30) : Int) := of_decide_eq_true as_
                have q131 : (ji30) < (x6_1.length : Int) := of_decide_eq_true as_
                obtain ⟨ad131, A131_2, c131_2, e131, hx131_0, hx131_1, hx131_2, hl131_2, hi131_2⟩ := at_T31 (Kd.S_reads' HO_6.out).2.2 (ji30) p131 q131
                obtain rfl : ad130 = ad131 := (by injection e131)
                obtain ⟨ce131, hce131, hMe131, hcc131⟩ := Kd.S_get HO_6.out z31 (ji30) p131 (by first | exact q131 | exact of_decide_eq_true as_ | (have e_ := (Kd.S_reads' HO_6.out).1; omega))
                obtain ⟨ve131_2, rfl, ge131_2⟩ := k31_openM hMe131
                have hv131_2 := hcc131 2 _ rfl
                rw [add_field _ _ 2 (by omega)] at hv131_2
                replace hv131_2 := Option.some.inj (hv131_2.symm.trans hx131_2)
                rw [hv131_2] at ge131_2
                have HL131_2 := Aside0.mk (show Kd.R Kd.string 9 _ _ _ _ ((rd_T31 x6_1 (ji30)).f2) from ge131_2)
                clear hv131_2 ge131_2
                clear hcc131 hce131
                have HR131_2 := Aside0.mk hi131_2
                have HC131_2 := Aside0.mk hl131_2
                clear hi131_2 hl131_2
                replace p131 := eq_true p131
                replace q131 := eq_true q131
                have ea_ := Option.some.inj (hx130_2.symm.trans hx131_2)
                injection ea_ with ea_ en_ ec_
                subst ea_
                subst ec_
                clear en_
                refine start_ (n := 30) (S := fun w' => w'.cell? ⟨gb125, 0, none⟩ = some (.int .i64 (wrap64 (1 + t122))) ∧ w'.cell? ⟨gb125, 1, none⟩ = some (.int .i64 (wrap64 (1 + t124))) ∧ w'.cell? ⟨gb125, 2, none⟩ = some (u126002) ∧ w'.cell? (ad130.add (((ji30)).toNat * 3)) = some (.int .i64 ((rd_T31 x6_1 (ji30)).f0)) ∧ w'.cell? ⟨(ad130.add (((ji30)).toNat * 3)).block, (ad130.add (((ji30)).toNat * 3)).off + 1, none⟩ = some (.int .i64 ((rd_T31 x6_1 (ji30)).f1)) ∧ w'.cell? ⟨(ad130.add (((ji30)).toNat * 3)).block, (ad130.add (((ji30)).toNat * 3)).off + 2, none⟩ = some (.slice A130_2 ((rd_T31 x6_1 (ji30)).f2).length c130_2) ∧ w'.cell? (ad130.add (((ji30)).toNat * 3)) = some (.int .i64 ((rd_T31 x6_1 (ji30)).f0)) ∧ w'.cell? ⟨(ad130.add (((ji30)).toNat * 3)).block, (ad130.add (((ji30)).toNat * 3)).off + 1, none⟩ = some (.int .i64 ((rd_T31 x6_1 (ji30)).f1)) ∧ w'.cell? ⟨(ad130.add (((ji30)).toNat * 3)).block, (ad130.add (((ji30)).toNat * 3)).off + 2, none⟩ = some (.slice A130_2 ((rd_T31 x6_1 (ji30)).f2).length c130_2)) (ds := []) #[false, false, false, false, false, false, false, false, false, false, false, false, false, false, false, false, false, false, false, false, false, false, false, false, false, false, false, false, false, false] (by kernel_rfl) rfl rfl ⟨(blk_cell BK125.out 0).trans rfl, (blk_cell BK125.out 1).trans rfl, (blk_cell BK125.out 2).trans rfl, hx130_0, hx130_1, hx130_2, hx131_0, hx131_1, hx131_2⟩ (fun hHeld => ?_); refine with_tabW collatorlaw04_Script.tab9 collatorlaw04_Script.bits9 (fun HT_ HW_ => ?_)
                generalize wc.drew = w37 at HO_6 HO_126002 BK125 HB HL130_2 HL131_2 HR130_2 HR131_2 hx130_0 hx130_1 hx130_2 hx131_0 hx131_1 hx131_2 hHeld ⊢
                refine pu_ (i := 0) (N := some 44) (any_of HT_.out (by kernel_rfl)) ?_
                refine pu_ (i := 1) (N := some 45) (any_of HT_.out (by kernel_rfl)) ?_
                refine pu_ (i := 2) (N := some 46) (any_of HT_.out (by kernel_rfl)) ?_
                refine pu_ (i := 3) (N := some 47) (any_of HT_.out (by kernel_rfl)) ?_
                refine pu_ (i := 4) (N := some 48) (any_of HT_.out (by kernel_rfl)) ?_
                refine pu_ (i := 5) (N := some 49) (any_of HT_.out (by kernel_rfl)) ?_
                refine pu_ (i := 6) (N := some 50) (any_of HT_.out (by kernel_rfl)) ?_
                refine pu_ (i := 7) (N := some 51) (any_of HT_.out (by kernel_rfl)) ?_
                refine pu_ (i := 8) (N := some 52) (any_of HT_.out (by kernel_rfl)) ?_
                refine pu_ (i := 9) (N := some 53) (any_of HT_.out (by kernel_rfl)) ?_
                refine pu_ (i := 11) (N := some 55) (any_of HT_.out (by kernel_rfl)) ?_
                refine ta_ (i := 10) (N := some 54) (take_ofW HT_.out HW_.out (by kernel_rfl)) hHeld ?_
                refine ta_ (i := 12) (N := some 56) (take_ofW HT_.out HW_.out (by kernel_rfl)) hHeld ?_
                refine pu_ (i := 13) (N := some 57) (any_of HT_.out (by kernel_rfl)) ?_
                refine pu_ (i := 14) (N := some 58) (any_of HT_.out (by kernel_rfl)) ?_
                refine pu_ (i := 15) (N := some 59) (any_of HT_.out (by kernel_rfl)) ?_
                refine pu_ (i := 16) (N := some 60) (any_of HT_.out (by kernel_rfl)) ?_
                refine pu_ (i := 17) (N := some 61) (any_of HT_.out (by kernel_rfl)) ?_
                refine pu_ (i := 18) (N := some 62) (any_of HT_.out (by kernel_rfl)) ?_
                refine pu_ (i := 19) (N := some 63) (any_of HT_.out (by kernel_rfl)) ?_
                refine pu_ (i := 20) (N := some 64) (any_of HT_.out (by kernel_rfl)) ?_
                refine ta_ (i := 21) (N := some 65) (take_ofW HT_.out HW_.out (by kernel_rfl)) hHeld ?_
                refine pu_ (i := 22) (N := some 66) (any_of HT_.out (by kernel_rfl)) ?_
                refine pu_ (i := 23) (N := some 67) (any_of HT_.out (by kernel_rfl)) ?_
                refine pu_ (i := 24) (N := some 68) (any_of HT_.out (by kernel_rfl)) ?_
                refine ta_ (i := 25) (N := some 69) (take_ofW HT_.out HW_.out (by kernel_rfl)) hHeld ?_
                refine pu_ (i := 26) (N := some 70) (any_of HT_.out (by kernel_rfl)) ?_
                refine pu_ (i := 27) (N := some 71) (any_of HT_.out (by kernel_rfl)) ?_
                refine pu_ (i := 28) (N := some 72) (any_of HT_.out (by kernel_rfl)) ?_
                refine pu_ (i := 29) (N := some 73) (any_of HT_.out (by kernel_rfl)) ?_
                refine done_ (done_of HT_.out (by kernel_rfl)) ?_
                try go_wp2
                go_meet
                case rel => exact ⟨_, (((wrap64 (1 + t122)) == 2)), rf_, H', ⟨by have := HK1.out; have := HJ2.out; have := HJ9.out; first | omega | exact Nat.le_refl _⟩, ⟨by (with_reducible repeat (first | apply Kd.S_alloc | apply Kd.S_drewN | apply Kd.S_drew)); exact HO_6.out⟩, ⟨by (with_reducible repeat (first | apply Kd.R_alloc | apply Kd.R_drewN | apply Kd.R_drew)); exact HO_126002.out⟩, ⟨by (with_reducible repeat (first | refine blk_drewN ?_ _ | refine blk_drew ?_ | refine blk_alloc ?_ _)); exact BK125.out⟩, ⟨by repeat (first | (with_reducible first | exact HB.out | apply below_alloc | apply pw_below_drewN | apply below_drew1 | refine below_set ?_ GE125.out) | exact HB.out)⟩⟩
               ·rw [if_neg c36] at H
                have c36b0 : (((rd_T31 x6_1 (ji30)).f0) == 3) = false := beq_eq_false_iff_ne.mpr c36
                have c36b1 : (((rd_T31 x6_1 (ji30)).f0) != 3) = true := bne_iff_ne.mpr c36
                have H' := Aside0.mk H
                clear H
                try go_wp2
                have n0_ := Aside0.mk (Kd.S_drew HO_6.out)
                have n1_ := Aside0.mk (Kd.R_drew HO_126002.out)
                have n2_ := Aside0.mk (blk_drew BK125.out)
                have n3_ := Aside0.mk (below_drew1 HB.out)
                clear HO_6
                clear HO_126002
                clear BK125
                clear HB
                have HO_6 := n0_
                have HO_126002 := n1_
                have BK125 := n2_
                have HB := n3_
                clear n0_ n1_ n2_ n3_
                obtain ⟨Ao40, co40, eo40⟩ := Kd.S_slice HO_6.out
                (first | subst eo40 | (injection eo40 with f1_ f2_ f3_; have f4_ := f1_.symm; have f5_ := f3_.symm; clear f1_ f2_ f3_; subst f4_; subst f5_))
                have p130 : 0 ≤ ((ji30) : Int) := of_decide_eq_true as_
                have q130 : (ji30) < (x6_1.length : Int) := of_decide_eq_true as_
                obtain ⟨ad130, A130_2, c130_2, e130, hx130_0, hx130_1, hx130_2, hl130_2, hi130_2⟩ := at_T31 (Kd.S_reads' HO_6.out).2.2 (ji30) p130 q130
                cases e130
                obtain ⟨ce130, hce130, hMe130, hcc130⟩ := Kd.S_get HO_6.out z31 (ji30) p130 (by first | exact q130 | exact of_decide_eq_true as_ | (have e_ := (Kd.S_reads' HO_6.out).1; omega))
                obtain ⟨ve130_2, rfl, ge130_2⟩ := k31_openM hMe130
                have hv130_2 := hcc130 2 _ rfl
                rw [add_field _ _ 2 (by omega)] at hv130_2
                replace hv130_2 := Option.some.inj (hv130_2.symm.trans hx130_2)
                rw [hv130_2] at ge130_2
                have HL130_2 := Aside0.mk (show Kd.R Kd.string 9 _ _ _ _ ((rd_T31 x6_1 (ji30)).f2) from ge130_2)
                clear hv130_2 ge130_2
                clear hcc130 hce130
                have HR130_2 := Aside0.mk hi130_2
                have HC130_2 := Aside0.mk hl130_2
                clear hi130_2 hl130_2
                replace p130 := eq_true p130
                replace q130 := eq_true q130
                have p131 : 0 ≤ ((ji30) : Int) := of_decide_eq_true as_
                have q131 : (ji30) < (x6_1.length : Int) := of_decide_eq_true as_
                obtain ⟨ad131, A131_2, c131_2, e131, hx131_0, hx131_1, hx131_2, hl131_2, hi131_2⟩ := at_T31 (Kd.S_reads' HO_6.out).2.2 (ji30) p131 q131
                obtain rfl : ad130 = ad131 := (by injection e131)
                obtain ⟨ce131, hce131, hMe131, hcc131⟩ := Kd.S_get HO_6.out z31 (ji30) p131 (by first | exact q131 | exact of_decide_eq_true as_ | (have e_ := (Kd.S_reads' HO_6.out).1; omega))
                obtain ⟨ve131_2, rfl, ge131_2⟩ := k31_openM hMe131
                have hv131_2 := hcc131 2 _ rfl
                rw [add_field _ _ 2 (by omega)] at hv131_2
                replace hv131_2 := Option.some.inj (hv131_2.symm.trans hx131_2)
                rw [hv131_2] at ge131_2
                have HL131_2 := Aside0.mk (show Kd.R Kd.string 9 _ _ _ _ ((rd_T31 x6_1 (ji30)).f2) from ge131_2)
                clear hv131_2 ge131_2
                clear hcc131 hce131
                have HR131_2 := Aside0.mk hi131_2
                have HC131_2 := Aside0.mk hl131_2
                clear hi131_2 hl131_2
                replace p131 := eq_true p131
                replace q131 := eq_true q131
                have ea_ := Option.some.inj (hx130_2.symm.trans hx131_2)
                injection ea_ with ea_ en_ ec_
                subst ea_
                subst ec_
                clear en_
                refine start_ (n := 30) (S := fun w' => w'.cell? ⟨gb125, 0, none⟩ = some (.int .i64 (wrap64 (1 + t122))) ∧ w'.cell? ⟨gb125, 1, none⟩ = some (.int .i64 (wrap64 (1 + t124))) ∧ w'.cell? ⟨gb125, 2, none⟩ = some (u126002) ∧ w'.cell? (ad130.add (((ji30)).toNat * 3)) = some (.int .i64 ((rd_T31 x6_1 (ji30)).f0)) ∧ w'.cell? ⟨(ad130.add (((ji30)).toNat * 3)).block, (ad130.add (((ji30)).toNat * 3)).off + 1, none⟩ = some (.int .i64 ((rd_T31 x6_1 (ji30)).f1)) ∧ w'.cell? ⟨(ad130.add (((ji30)).toNat * 3)).block, (ad130.add (((ji30)).toNat * 3)).off + 2, none⟩ = some (.slice A130_2 ((rd_T31 x6_1 (ji30)).f2).length c130_2) ∧ w'.cell? (ad130.add (((ji30)).toNat * 3)) = some (.int .i64 ((rd_T31 x6_1 (ji30)).f0)) ∧ w'.cell? ⟨(ad130.add (((ji30)).toNat * 3)).block, (ad130.add (((ji30)).toNat * 3)).off + 1, none⟩ = some (.int .i64 ((rd_T31 x6_1 (ji30)).f1)) ∧ w'.cell? ⟨(ad130.add (((ji30)).toNat * 3)).block, (ad130.add (((ji30)).toNat * 3)).off + 2, none⟩ = some (.slice A130_2 ((rd_T31 x6_1 (ji30)).f2).length c130_2)) (ds := []) #[false, false, false, false, false, false, false, false, false, false, false, false, false, false, false, false, false, false, false, false, false, false, false, false, false, false, false, false, false, false] (by kernel_rfl) rfl rfl ⟨(blk_cell BK125.out 0).trans rfl, (blk_cell BK125.out 1).trans rfl, (blk_cell BK125.out 2).trans rfl, hx130_0, hx130_1, hx130_2, hx131_0, hx131_1, hx131_2⟩ (fun hHeld => ?_); refine with_tabW collatorlaw04_Script.tab9 collatorlaw04_Script.bits9 (fun HT_ HW_ => ?_)
                generalize wc.drew = w39 at HO_6 HO_126002 BK125 HB HL130_2 HL131_2 HR130_2 HR131_2 hx130_0 hx130_1 hx130_2 hx131_0 hx131_1 hx131_2 hHeld ⊢
                refine pu_ (i := 0) (N := some 44) (any_of HT_.out (by kernel_rfl)) ?_
                refine pu_ (i := 1) (N := some 45) (any_of HT_.out (by kernel_rfl)) ?_
                refine pu_ (i := 2) (N := some 46) (any_of HT_.out (by kernel_rfl)) ?_
                refine pu_ (i := 3) (N := some 47) (any_of HT_.out (by kernel_rfl)) ?_
                refine pu_ (i := 4) (N := some 48) (any_of HT_.out (by kernel_rfl)) ?_
                refine pu_ (i := 5) (N := some 49) (any_of HT_.out (by kernel_rfl)) ?_
                refine pu_ (i := 6) (N := some 50) (any_of HT_.out (by kernel_rfl)) ?_
                refine pu_ (i := 7) (N := some 51) (any_of HT_.out (by kernel_rfl)) ?_
                refine pu_ (i := 8) (N := some 52) (any_of HT_.out (by kernel_rfl)) ?_
                refine pu_ (i := 9) (N := some 53) (any_of HT_.out (by kernel_rfl)) ?_
                refine pu_ (i := 11) (N := some 55) (any_of HT_.out (by kernel_rfl)) ?_
                refine ta_ (i := 10) (N := some 54) (take_ofW HT_.out HW_.out (by kernel_rfl)) hHeld ?_
                refine ta_ (i := 12) (N := some 56) (take_ofW HT_.out HW_.out (by kernel_rfl)) hHeld ?_
                refine pu_ (i := 13) (N := some 57) (any_of HT_.out (by kernel_rfl)) ?_
                refine pu_ (i := 14) (N := some 58) (any_of HT_.out (by kernel_rfl)) ?_
                refine pu_ (i := 15) (N := some 59) (any_of HT_.out (by kernel_rfl)) ?_
                refine pu_ (i := 16) (N := some 60) (any_of HT_.out (by kernel_rfl)) ?_
                refine pu_ (i := 17) (N := some 61) (any_of HT_.out (by kernel_rfl)) ?_
                refine pu_ (i := 18) (N := some 62) (any_of HT_.out (by kernel_rfl)) ?_
                refine pu_ (i := 19) (N := some 63) (any_of HT_.out (by kernel_rfl)) ?_
                refine pu_ (i := 20) (N := some 64) (any_of HT_.out (by kernel_rfl)) ?_
                refine ta_ (i := 21) (N := some 65) (take_ofW HT_.out HW_.out (by kernel_rfl)) hHeld ?_
                refine pu_ (i := 22) (N := some 66) (any_of HT_.out (by kernel_rfl)) ?_
                refine pu_ (i := 23) (N := some 67) (any_of HT_.out (by kernel_rfl)) ?_
                refine ps_ (i := 24) (N := some 68) (any_of HT_.out (by kernel_rfl)) ?_
                refine ps_ (i := 25) (N := some 69) (any_of HT_.out (by kernel_rfl)) ?_
                refine ps_ (i := 26) (N := some 70) (any_of HT_.out (by kernel_rfl)) ?_
                refine pu_ (i := 27) (N := some 71) (any_of HT_.out (by kernel_rfl)) ?_
                refine pu_ (i := 28) (N := some 72) (any_of HT_.out (by kernel_rfl)) ?_
                refine pu_ (i := 29) (N := some 73) (any_of HT_.out (by kernel_rfl)) ?_
                refine done_ (done_of HT_.out (by kernel_rfl)) ?_
                try go_wp2
                go_meet
                case rel => exact ⟨_, (false), rf_, H', ⟨by have := HK1.out; have := HJ2.out; have := HJ9.out; first | omega | exact Nat.le_refl _⟩, ⟨by (with_reducible repeat (first | apply Kd.S_alloc | apply Kd.S_drewN | apply Kd.S_drew)); exact HO_6.out⟩, ⟨by (with_reducible repeat (first | apply Kd.R_alloc | apply Kd.R_drewN | apply Kd.R_drew)); exact HO_126002.out⟩, ⟨by (with_reducible repeat (first | refine blk_drewN ?_ _ | refine blk_drew ?_ | refine blk_alloc ?_ _)); exact BK125.out⟩, ⟨by repeat (first | (with_reducible first | exact HB.out | apply below_alloc | apply pw_below_drewN | apply below_drew1 | refine below_set ?_ GE125.out) | exact HB.out)⟩⟩
             ·rw [if_neg c32] at H
              exact absurd H (by simp)
            ·rw [if_neg c31] at H
             exact absurd H (by simp)
           ·rw [if_neg c29] at H
            have c29b0 : decide (0 < (x6_1.length : Int)) = false := decide_eq_false c29
            have c29b1 : decide (0 < x6_1.length) = false := decide_eq_false (by omega)
            clear c29
            (first | rw [c29b0] | rw [c29b1] | (simp only [i64_w, i32_w]; rw [c29b0]) | skip)
            have H' := Aside0.mk H
            clear H
            try go_wp2
            have n0_ := Aside0.mk (Kd.S_drew HO_6.out)
            have n1_ := Aside0.mk (Kd.R_drew HO_126002.out)
            have n2_ := Aside0.mk (blk_drew BK125.out)
            have n3_ := Aside0.mk (below_drew1 HB.out)
            clear HO_6
            clear HO_126002
            clear BK125
            clear HB
            have HO_6 := n0_
            have HO_126002 := n1_
            have BK125 := n2_
            have HB := n3_
            clear n0_ n1_ n2_ n3_
            obtain ⟨Ao42, co42, eo42⟩ := Kd.S_slice HO_6.out
            (first | subst eo42 | (injection eo42 with f1_ f2_ f3_; have f4_ := f1_.symm; have f5_ := f3_.symm; clear f1_ f2_ f3_; subst f4_; subst f5_))
            refine start_ (n := 30) (S := fun w' => True) (ds := []) #[false, false, false, false, false, false, false, false, false, false, false, false, false, false, false, false, false, false, false, false, false, false, false, false, false, false, false, false, false, false] (by kernel_rfl) rfl rfl trivial (fun hHeld => ?_); refine with_tabW collatorlaw04_Script.tab9 collatorlaw04_Script.bits9 (fun HT_ HW_ => ?_)
            generalize wc.drew = w41 at HO_6 HO_126002 BK125 HB hHeld ⊢
            refine pu_ (i := 0) (N := some 44) (any_of HT_.out (by kernel_rfl)) ?_
            refine pu_ (i := 1) (N := some 45) (any_of HT_.out (by kernel_rfl)) ?_
            refine pu_ (i := 2) (N := some 46) (any_of HT_.out (by kernel_rfl)) ?_
            refine pu_ (i := 3) (N := some 47) (any_of HT_.out (by kernel_rfl)) ?_
            refine ps_ (i := 4) (N := some 48) (any_of HT_.out (by kernel_rfl)) ?_
            refine ps_ (i := 5) (N := some 49) (any_of HT_.out (by kernel_rfl)) ?_
            refine ps_ (i := 6) (N := some 50) (any_of HT_.out (by kernel_rfl)) ?_
            refine ps_ (i := 7) (N := some 51) (any_of HT_.out (by kernel_rfl)) ?_
            refine ps_ (i := 8) (N := some 52) (any_of HT_.out (by kernel_rfl)) ?_
            refine ps_ (i := 9) (N := some 53) (any_of HT_.out (by kernel_rfl)) ?_
            refine ps_ (i := 10) (N := some 54) (any_of HT_.out (by kernel_rfl)) ?_
            refine ps_ (i := 11) (N := some 55) (any_of HT_.out (by kernel_rfl)) ?_
            refine ps_ (i := 12) (N := some 56) (any_of HT_.out (by kernel_rfl)) ?_
            refine ps_ (i := 13) (N := some 57) (any_of HT_.out (by kernel_rfl)) ?_
            refine ps_ (i := 14) (N := some 58) (any_of HT_.out (by kernel_rfl)) ?_
            refine ps_ (i := 15) (N := some 59) (any_of HT_.out (by kernel_rfl)) ?_
            refine ps_ (i := 16) (N := some 60) (any_of HT_.out (by kernel_rfl)) ?_
            refine ps_ (i := 17) (N := some 61) (any_of HT_.out (by kernel_rfl)) ?_
            refine ps_ (i := 18) (N := some 62) (any_of HT_.out (by kernel_rfl)) ?_
            refine ps_ (i := 19) (N := some 63) (any_of HT_.out (by kernel_rfl)) ?_
            refine ps_ (i := 20) (N := some 64) (any_of HT_.out (by kernel_rfl)) ?_
            refine ps_ (i := 21) (N := some 65) (any_of HT_.out (by kernel_rfl)) ?_
            refine ps_ (i := 22) (N := some 66) (any_of HT_.out (by kernel_rfl)) ?_
            refine ps_ (i := 23) (N := some 67) (any_of HT_.out (by kernel_rfl)) ?_
            refine ps_ (i := 24) (N := some 68) (any_of HT_.out (by kernel_rfl)) ?_
            refine ps_ (i := 25) (N := some 69) (any_of HT_.out (by kernel_rfl)) ?_
            refine ps_ (i := 26) (N := some 70) (any_of HT_.out (by kernel_rfl)) ?_
            refine ps_ (i := 27) (N := some 71) (any_of HT_.out (by kernel_rfl)) ?_
            refine ps_ (i := 28) (N := some 72) (any_of HT_.out (by kernel_rfl)) ?_
            refine pu_ (i := 29) (N := some 73) (any_of HT_.out (by kernel_rfl)) ?_
            refine done_ (done_of HT_.out (by kernel_rfl)) ?_
            try go_wp2
            go_meet
            case rel => exact ⟨_, (false), rf_, H', ⟨by have := HK1.out; have := HJ2.out; have := HJ9.out; first | omega | exact Nat.le_refl _⟩, ⟨by (with_reducible repeat (first | apply Kd.S_alloc | apply Kd.S_drewN | apply Kd.S_drew)); exact HO_6.out⟩, ⟨by (with_reducible repeat (first | apply Kd.R_alloc | apply Kd.R_drewN | apply Kd.R_drew)); exact HO_126002.out⟩, ⟨by (with_reducible repeat (first | refine blk_drewN ?_ _ | refine blk_drew ?_ | refine blk_alloc ?_ _)); exact BK125.out⟩, ⟨by repeat (first | (with_reducible first | exact HB.out | apply below_alloc | apply pw_below_drewN | apply below_drew1 | refine below_set ?_ GE125.out) | exact HB.out)⟩⟩
          case rest =>
           clear HC28
           (try clear c1);(try clear p1);(try clear q1);(try clear hx1);(try clear c2);(try clear p2);(try clear c3);(try clear p6);(try clear c13);(try clear p13);(try clear q13);(try clear hx13);(try clear c29);(try clear c29b0);(try clear c29b1);(try clear c31);(try clear c32);(try clear c36);(try clear c36b0);(try clear c36b1);(try clear hx130_0);(try clear hx130_1);(try clear hx130_2);(try clear hx131_0);(try clear hx131_1);(try clear hx131_2);(try clear p130);(try clear p131);(try clear q130);(try clear q131)
           obtain ⟨kq, x73_27, rfl, HA, HJ27, HO_6, HO_126002, BK125, HB⟩ := hcut
           cases kq with
           | zero => exact absurd HA.out (by simp [collatorlaw04_Script.j3])
           | succ kj27 =>
            have H := HA.out
            clear HA
            simp only [collatorlaw04_Script.j3] at H
            by_cases c43 : x73_27 = true
            ·subst c43
             have H1 : (collatorlaw04_Script.l0 kj27 l0 l1 x6_1 x7_1 (wrap64 (x8_1 + 1))) = some (r1, r2) := by rw [if_pos rfl] at H; exact H
             clear H
             have H := H1
             clear H1
             have H' := Aside0.mk H
             clear H
             go_wp2
             go_roundg kj27
             case measure => have := HK1.out; have := HJ2.out; have := HJ9.out; have := HJ27.out; omega
             case rel => exact ⟨(x6_1), (x7_1), (wrap64 (x8_1 + 1)), rf_, rf_, H', ⟨by have := HK1.out; have := HJ2.out; have := HJ9.out; have := HJ27.out; omega⟩, ⟨by (with_reducible repeat (first | apply Kd.S_alloc | apply Kd.S_drewN | apply Kd.S_drew)); exact Kd.S_mono HO_6.out (fun _ hk => trivial)⟩, ⟨by repeat (first | (with_reducible first | exact HB.out | apply below_alloc | apply pw_below_drewN | apply below_drew1 | refine below_set ?_ GE125.out) | exact HB.out)⟩⟩
            ·replace c43 := Bool.eq_false_iff.mpr c43
             subst c43
             have H1 : (if x6_1.length < 3518437208883 then ((some (x6_1 ++ [(⟨(wrap64 (1 + t122)), (wrap64 (1 + t124)), x126002_9⟩ : S31)] : List (S31))).bind fun y132 => (if (wrap64 (1 + t122)) = 3 then (collatorlaw04_Script.l0 kj27 l0 l1 y132 x7_1 (wrap64 (x8_1 + 1))) else (collatorlaw04_Script.l0 kj27 l0 l1 y132 (wrap64 (x7_1 + (wrap64 (1 + t124)))) (wrap64 (x8_1 + 1))))) else (none)) = some (r1, r2) := by rw [if_neg (show ¬ (false = true) by decide)] at H; exact H
             clear H
             have H := H1
             clear H1
             by_cases c44 : x6_1.length < 3518437208883
             ·rw [if_pos c44] at H
              have LMc44 := Aside0.mk c44
              clear c44
              obtain ⟨y132, hy132⟩ : ∃ y_ : List (S31), y_ = (x6_1 ++ [(⟨(wrap64 (1 + t122)), (wrap64 (1 + t124)), x126002_9⟩ : S31)]) := ⟨_, rfl⟩
              replace H : (if (wrap64 (1 + t122)) = 3 then (collatorlaw04_Script.l0 kj27 l0 l1 y132 x7_1 (wrap64 (x8_1 + 1))) else (collatorlaw04_Script.l0 kj27 l0 l1 y132 (wrap64 (x7_1 + (wrap64 (1 + t124)))) (wrap64 (x8_1 + 1)))) = some (r1, r2) := by first | (rw [hy132]; with_reducible exact H) | (have H2_ := (Option.bind_some _ _).symm.trans H; rw [hy132]; with_reducible exact H2_) | (have H2_ := (Option.bind_some _ _).symm.trans H; with_reducible exact H2_) | with_reducible exact H | (rw [hy132]; exact H) | exact H
              have Ny132 := Aside0.mk hy132
              clear hy132
              by_cases c45 : (wrap64 (1 + t122)) = 3
              ·rw [if_pos c45] at H
               have c45b0 : ((wrap64 (1 + t122)) == 3) = true := beq_iff_eq.mpr c45
               have c45b1 : ((wrap64 (1 + t122)) != 3) = false := bne_eq_false_iff_eq.mpr c45
               clear c45
               have H' := Aside0.mk H
               clear H
               have hcz46_0 : wc.cell? ⟨gb125, 0, none⟩ = some (.int .i64 (wrap64 (1 + t122))) := (blk_cell BK125.out 0).trans rfl
               have hcz46_1 : wc.cell? ⟨gb125, 1, none⟩ = some (.int .i64 (wrap64 (1 + t124))) := (blk_cell BK125.out 1).trans rfl
               have hcz46_2 : wc.cell? ⟨gb125, 2, none⟩ = some (u126002) := (blk_cell BK125.out 2).trans rfl
               have hfz46_0 := blk_frozen BK125.out 0
               have hfz46_1 := blk_frozen BK125.out 1
               have hfz46_2 := blk_frozen BK125.out 2
               obtain ⟨Ao48, co48, eo48⟩ := Kd.R_slice HO_126002.out
               subst eo48
               go_wp2_with (first | ((with_reducible refine gate_builtin (b := .append) (xs := #[.tmp 74, .tmp 76]) rfl ?_); (try (refine gate_guard (by rfl) ?_; dsimp only)); at_builtin; refine Kd.S_append k31 (w0 := w) w.heap.size rfl (.tmp 74) (.tmp 76) 26 31 (.agg #[(.int .i64 0), (.int .i64 0), (.slice none 0 0)]) 40 rfl Try.underlying26 info31 rfl (by decide) (by omega) u6 x6_1 (⟨(wrap64 (1 + t122)), (wrap64 (1 + t124)), x126002_9⟩ : S31) [.int .i64 (wrap64 (1 + t122)), .int .i64 (wrap64 (1 + t124)), .slice Ao48 x126002_9.length co48] (fun k_ => k_ ≠ gb125) (fun k_ => some k_ = (.slice Ao48 x126002_9.length co48 : Value).ownBlock) rfl rfl ?aP (fun k_ hk_ => ((Kd.R_mono (ok' := fun k_ => ((fun k_ => k_ ≠ gb125)) k_ ∧ some k_ ≠ (u6 : Value).ownBlock) (Kd.R_types (Kd.R_apart' (HO_126002.out) (Kd.S_typed HO_6.out) (by decide)) BK125.out (by decide)) (fun k_ hk => by first | exact ⟨hk.2, hk.1.2⟩ | simp_all))).1 k_ hk_.symm) ?aF ?aO ?aB ?aS ?aL ?_; (case aP => exact k31_mkM _ _ _ (⟨(wrap64 (1 + t122)), (wrap64 (1 + t124)), x126002_9⟩ : S31) (Kd.R_mono (Kd.R_tight rfl (Kd.R_mono (ok' := fun k_ => ((fun k_ => k_ ≠ gb125)) k_ ∧ some k_ ≠ (u6 : Value).ownBlock) (Kd.R_types (Kd.R_apart' (HO_126002.out) (Kd.S_typed HO_6.out) (by decide)) BK125.out (by decide)) (fun k_ hk => by first | exact ⟨hk.2, hk.1.2⟩ | simp_all))) (fun _ h_ => h_))); (case aB => exact (by repeat (first | (with_reducible first | exact HB.out | apply below_alloc | apply pw_below_drewN | apply below_drew1 | refine below_set ?_ GE125.out) | exact HB.out))); (case aF => exact (fun k_ hk => Kd.freshB (g := gb125) (o := .cells #[.int .i64 (wrap64 (1 + t122)), .int .i64 (wrap64 (1 + t124)), .slice Ao48 x126002_9.length co48] 31 (0, 0)) (by (with_reducible repeat (first | refine blk_drewN ?_ _ | refine blk_drew ?_ | refine blk_alloc ?_ _)); exact BK125.out) k_ hk)); (case aO => exact (by (with_reducible repeat (first | apply Kd.S_alloc | apply Kd.S_drewN | apply Kd.S_drew)); exact Kd.S_mono HO_6.out (fun k_ hk => ⟨hk.2, fun e_ => hk.1 e_⟩))); (case aS => exact (below_size (by repeat (first | (with_reducible first | exact HB.out | apply below_alloc | apply pw_below_drewN | apply below_drew1 | refine below_set ?_ GE125.out) | exact HB.out)))); (case aL => have := LMc44.out; omega); intro v133 w47 ho hb hg hat; rw [← Ny132.out] at ho; have n0_ := Aside0.mk (blk_grown (g := gb125) (o := .cells #[.int .i64 (wrap64 (1 + t122)), .int .i64 (wrap64 (1 + t124)), .slice Ao48 x126002_9.length co48] 31 (0, 0)) (by (with_reducible repeat (first | refine blk_drewN ?_ _ | refine blk_drew ?_ | refine blk_alloc ?_ _)); exact BK125.out) hg (Kd.S_away HO_6.out (fun _ hk => hk.2))); have n1_ := Aside0.mk (hb); have n2_ := Aside0.mk (ho); clear BK125; clear HB; clear HO_6; clear HO_126002; have BK125 := n0_; have HB := n1_; have HO134 := n2_; clear n0_ n1_ n2_; clear ho hb hg hat; have hcz49_0 : w47.cell? ⟨gb125, 0, none⟩ = some (.int .i64 (wrap64 (1 + t122))) := (blk_cell BK125.out 0).trans rfl; have hcz49_1 : w47.cell? ⟨gb125, 1, none⟩ = some (.int .i64 (wrap64 (1 + t124))) := (blk_cell BK125.out 1).trans rfl; have hcz49_2 : w47.cell? ⟨gb125, 2, none⟩ = some (.slice Ao48 x126002_9.length co48) := (blk_cell BK125.out 2).trans rfl; have hfz49_0 := blk_frozen BK125.out 0; have hfz49_1 := blk_frozen BK125.out 1; have hfz49_2 := blk_frozen BK125.out 2))
               go_roundg kj27
               case measure => have := HK1.out; have := HJ2.out; have := HJ9.out; have := HJ27.out; omega
               case rel => exact ⟨(y132), (x7_1), (wrap64 (x8_1 + 1)), rf_, rf_, H', ⟨by have := HK1.out; have := HJ2.out; have := HJ9.out; have := HJ27.out; omega⟩, ⟨by (with_reducible repeat (first | apply Kd.S_alloc | apply Kd.S_drewN | apply Kd.S_drew)); exact Kd.S_mono HO134.out (fun _ hk => trivial)⟩, ⟨by repeat (first | (with_reducible first | exact HB.out | apply below_alloc | apply pw_below_drewN | apply below_drew1 | refine below_set ?_ GE125.out) | exact HB.out)⟩⟩
              ·rw [if_neg c45] at H
               have c45b0 : ((wrap64 (1 + t122)) == 3) = false := beq_eq_false_iff_ne.mpr c45
               have c45b1 : ((wrap64 (1 + t122)) != 3) = true := bne_iff_ne.mpr c45
               have H' := Aside0.mk H
               clear H
               have hcz50_0 : wc.cell? ⟨gb125, 0, none⟩ = some (.int .i64 (wrap64 (1 + t122))) := (blk_cell BK125.out 0).trans rfl
               have hcz50_1 : wc.cell? ⟨gb125, 1, none⟩ = some (.int .i64 (wrap64 (1 + t124))) := (blk_cell BK125.out 1).trans rfl
               have hcz50_2 : wc.cell? ⟨gb125, 2, none⟩ = some (u126002) := (blk_cell BK125.out 2).trans rfl
               have hfz50_0 := blk_frozen BK125.out 0
               have hfz50_1 := blk_frozen BK125.out 1
               have hfz50_2 := blk_frozen BK125.out 2
               obtain ⟨Ao52, co52, eo52⟩ := Kd.R_slice HO_126002.out
               subst eo52
               go_wp2_with (first | ((with_reducible refine gate_builtin (b := .append) (xs := #[.tmp 74, .tmp 76]) rfl ?_); (try (refine gate_guard (by rfl) ?_; dsimp only)); at_builtin; refine Kd.S_append k31 (w0 := w) w.heap.size rfl (.tmp 74) (.tmp 76) 26 31 (.agg #[(.int .i64 0), (.int .i64 0), (.slice none 0 0)]) 40 rfl Try.underlying26 info31 rfl (by decide) (by omega) u6 x6_1 (⟨(wrap64 (1 + t122)), (wrap64 (1 + t124)), x126002_9⟩ : S31) [.int .i64 (wrap64 (1 + t122)), .int .i64 (wrap64 (1 + t124)), .slice Ao52 x126002_9.length co52] (fun k_ => k_ ≠ gb125) (fun k_ => some k_ = (.slice Ao52 x126002_9.length co52 : Value).ownBlock) rfl rfl ?aP (fun k_ hk_ => ((Kd.R_mono (ok' := fun k_ => ((fun k_ => k_ ≠ gb125)) k_ ∧ some k_ ≠ (u6 : Value).ownBlock) (Kd.R_types (Kd.R_apart' (HO_126002.out) (Kd.S_typed HO_6.out) (by decide)) BK125.out (by decide)) (fun k_ hk => by first | exact ⟨hk.2, hk.1.2⟩ | simp_all))).1 k_ hk_.symm) ?aF ?aO ?aB ?aS ?aL ?_; (case aP => exact k31_mkM _ _ _ (⟨(wrap64 (1 + t122)), (wrap64 (1 + t124)), x126002_9⟩ : S31) (Kd.R_mono (Kd.R_tight rfl (Kd.R_mono (ok' := fun k_ => ((fun k_ => k_ ≠ gb125)) k_ ∧ some k_ ≠ (u6 : Value).ownBlock) (Kd.R_types (Kd.R_apart' (HO_126002.out) (Kd.S_typed HO_6.out) (by decide)) BK125.out (by decide)) (fun k_ hk => by first | exact ⟨hk.2, hk.1.2⟩ | simp_all))) (fun _ h_ => h_))); (case aB => exact (by repeat (first | (with_reducible first | exact HB.out | apply below_alloc | apply pw_below_drewN | apply below_drew1 | refine below_set ?_ GE125.out) | exact HB.out))); (case aF => exact (fun k_ hk => Kd.freshB (g := gb125) (o := .cells #[.int .i64 (wrap64 (1 + t122)), .int .i64 (wrap64 (1 + t124)), .slice Ao52 x126002_9.length co52] 31 (0, 0)) (by (with_reducible repeat (first | refine blk_drewN ?_ _ | refine blk_drew ?_ | refine blk_alloc ?_ _)); exact BK125.out) k_ hk)); (case aO => exact (by (with_reducible repeat (first | apply Kd.S_alloc | apply Kd.S_drewN | apply Kd.S_drew)); exact Kd.S_mono HO_6.out (fun k_ hk => ⟨hk.2, fun e_ => hk.1 e_⟩))); (case aS => exact (below_size (by repeat (first | (with_reducible first | exact HB.out | apply below_alloc | apply pw_below_drewN | apply below_drew1 | refine below_set ?_ GE125.out) | exact HB.out)))); (case aL => have := LMc44.out; omega); intro v133 w51 ho hb hg hat; rw [← Ny132.out] at ho; have n0_ := Aside0.mk (blk_grown (g := gb125) (o := .cells #[.int .i64 (wrap64 (1 + t122)), .int .i64 (wrap64 (1 + t124)), .slice Ao52 x126002_9.length co52] 31 (0, 0)) (by (with_reducible repeat (first | refine blk_drewN ?_ _ | refine blk_drew ?_ | refine blk_alloc ?_ _)); exact BK125.out) hg (Kd.S_away HO_6.out (fun _ hk => hk.2))); have n1_ := Aside0.mk (hb); have n2_ := Aside0.mk (ho); clear BK125; clear HB; clear HO_6; clear HO_126002; have BK125 := n0_; have HB := n1_; have HO134 := n2_; clear n0_ n1_ n2_; clear ho hb hg hat; have hcz53_0 : w51.cell? ⟨gb125, 0, none⟩ = some (.int .i64 (wrap64 (1 + t122))) := (blk_cell BK125.out 0).trans rfl; have hcz53_1 : w51.cell? ⟨gb125, 1, none⟩ = some (.int .i64 (wrap64 (1 + t124))) := (blk_cell BK125.out 1).trans rfl; have hcz53_2 : w51.cell? ⟨gb125, 2, none⟩ = some (.slice Ao52 x126002_9.length co52) := (blk_cell BK125.out 2).trans rfl; have hfz53_0 := blk_frozen BK125.out 0; have hfz53_1 := blk_frozen BK125.out 1; have hfz53_2 := blk_frozen BK125.out 2))
               go_roundg kj27
               case measure => have := HK1.out; have := HJ2.out; have := HJ9.out; have := HJ27.out; omega
               case rel => exact ⟨(y132), (wrap64 (x7_1 + (wrap64 (1 + t124)))), (wrap64 (x8_1 + 1)), rf_, rf_, H', ⟨by have := HK1.out; have := HJ2.out; have := HJ9.out; have := HJ27.out; omega⟩, ⟨by (with_reducible repeat (first | apply Kd.S_alloc | apply Kd.S_drewN | apply Kd.S_drew)); exact Kd.S_mono HO134.out (fun _ hk => trivial)⟩, ⟨by repeat (first | (with_reducible first | exact HB.out | apply below_alloc | apply pw_below_drewN | apply below_drew1 | refine below_set ?_ GE125.out) | exact HB.out)⟩⟩
             ·rw [if_neg c44] at H
              exact absurd H (by simp)
       ·rw [if_neg c7] at H
        exact absurd H (by simp)
      ·rw [if_neg c6] at H
       exact absurd H (by simp)
     ·replace c5 := Bool.eq_false_iff.mpr c5
      subst c5
      have H1 : ((collatorlaw04_full.f kj2 l1 x7_1).bind fun t118 => (some (x6_1, t118))) = some (r1, r2) := by rw [if_neg (show ¬ (false = true) by decide)] at H; exact H
      clear H
      have H := H1
      clear H1
      replace H := Option.bind_eq_some_iff.mp H
      obtain ⟨t118, A540, H⟩ := H
      replace H : (some (x6_1, t118)) = some (r1, r2) := H
      have A54 := Aside0.mk A540
      clear A540
      simp only [Option.some.injEq, Prod.mk.injEq] at H
      obtain ⟨rfl, rfl⟩ := H
      go_wp2_with (first | ((with_reducible refine gate_callee (f := 30) rfl ?_); refine goesL_ (some 88) rfl rfl Try.func30 (by kernel_rfl) rfl #[.slice A1 l1.length c1, .int .i64 x7_1] rfl mp_ ?_; (with_reducible refine (collatorlaw04_full.calls kj2 _ _ l1 x7_1 t118 _ ?side1 ?side2 A54.out).mono ?_); (case side1 => repeat (first | exact (Kd.C_below HR1.out HB.out) | (with_reducible refine Kd.C_alloc ?_ _) | (with_reducible refine Kd.C_drewN ?_ _) | (with_reducible refine Kd.C_drew ?_))); (case side2 => exact HC1.out); rintro e w55 ⟨v119, rfl, ho0, hb⟩; refine ⟨_, rfl, ?_⟩; have n0_ := Aside0.mk (Kd.S_elder' (by (with_reducible repeat (first | apply Kd.S_alloc | apply Kd.S_drewN | apply Kd.S_drew)); exact HO_6.out) (Kd.R_base ho0) hb); have n1_ := Aside0.mk (Kd.R_lower ho0 (below_size hb_)); have n2_ := Aside0.mk (below_step hb_ hb); clear HO_6; clear HB; have HO_6 := n0_; have HO120 := n1_; have HB := n2_; clear n0_ n1_ n2_; (try clear hb); (try clear hb2); (try clear hk); (try clear hi); (try clear ho0)))
      go_ret2
      exact ⟨_, _, by first | rfl | (simp [errW_none, errW_some] <;> rfl) | (simp [*, errW_none, errW_some] <;> rfl), by (with_reducible repeat (first | apply Kd.S_alloc | apply Kd.S_drewN | apply Kd.S_drew)); exact Kd.S_mono HO_6.out (fun _ hk => hk.2), by (with_reducible repeat (first | apply Kd.R_alloc | apply Kd.R_drewN | apply Kd.R_drew)); exact HO120.out, by repeat (first | (with_reducible first | exact HB.out | apply below_alloc | apply pw_below_drewN | apply below_drew1) | exact HB.out)⟩

end Go.Proofs.Ytgobidmfbjmpkaa.P
end
section
/- Plain words of evaluation; how a raw number picks. · What layer 4 of the program answers of scripts: plain lemmas over the printed functions (without myers). · What the given function Script of layer 4's laws makes of raw numbers: plain. -/
section
set_option linter.unusedVariables false
set_option linter.unusedSimpArgs false
namespace Go.Proofs.Ytgobidmfbjmpkaa.Q
open Go Go.RowKit Go.Proofs.Ytgobidmfbjmpkaa.P Go.Proofs.YtgobidmfbjmpkaaW.PrintWords Go.Proofs.YtgobidmfbjmpkaaW.PrintLast
theorem evpos {α : Type} {c : Prop} [Decidable c] {f g : Nat → Option α} {r : α} (hc : c) (h : Ev f r) : Ev (fun k => if c then f k else g k) r := by simp only [if_pos hc]; exact h
theorem evneg {α : Type} {c : Prop} [Decidable c] {f g : Nat → Option α} {r : α} (hc : ¬ c) (h : Ev g r) : Ev (fun k => if c then f k else g k) r := by simp only [if_neg hc]; exact h
theorem evval {α β : Type} {x : Option β} {a : β} {f : Nat → β → Option α} {r : α} (hx : x = some a) (h : Ev (fun k => f k a) r) : Ev (fun k => x.bind (f k)) r := by subst hx; exact h
theorem w64 {x : Int} (h0 : -9223372036854775808 ≤ x) (h1 : x ≤ 9223372036854775807) : wrap64 x = x := by unfold wrap64; omega
/-- Which of n things a raw number speaks of. -/
def pk (c : Int) (n : Nat) : Nat := (if c < 0 then -(c + 1) else c).toNat % n
theorem pk_lt (c : Int) {n : Nat} (h : 0 < n) : pk c n < n := Nat.mod_lt _ h
theorem wf_range {c : Int} (h : (Lit.int .i64 c).wf = true) : -9223372036854775808 ≤ c ∧ c ≤ 9223372036854775807 := by
 have h2 := (bounds_i64 h)
 omega
theorem pick_body {c : Int} (hc : -9223372036854775808 ≤ c ∧ c ≤ 9223372036854775807) {m : Int} {n : Nat} (hm : m = n) (hn : 0 < n) :
  (if c < 0 then (if m = 0 then (none : Option Int) else (some (Int.tmod (wrap64 (-(wrap64 (c + 1)))) m))) else (if m = 0 then (none) else (some (Int.tmod c m)))) = some (pk c n : Int) := by
 subst hm
 have h0 : ¬ ((n : Int) = 0) := by omega
 unfold pk
 by_cases h : c < 0
 ·rw [if_pos h, if_neg h0, if_pos h, w64 (x := c + 1) (by omega) (by omega), w64 (by omega) (by omega), Int.tmod_eq_emod_of_nonneg (by omega)]
  congr 1
  rw [Int.natCast_emod, Int.toNat_of_nonneg (by omega)]
 ·rw [if_neg h, if_neg h0, if_neg h, Int.tmod_eq_emod_of_nonneg (by omega)]
  congr 1
  rw [Int.natCast_emod, Int.toNat_of_nonneg (by omega)]
theorem rd_mem {l : List Int} (hw : ∀ x ∈ l, (Lit.int .i64 x).wf = true) {i : Int} (h0 : 0 ≤ i) (h1 : i < l.length) : -9223372036854775808 ≤ rd l i ∧ rd l i ≤ 9223372036854775807 := by
 refine wf_range (hw _ ?_)
 unfold rd
 rw [List.getD_eq_getElem?_getD, List.getElem?_eq_getElem (by omega)]
 exact List.getElem_mem _
end Go.Proofs.Ytgobidmfbjmpkaa.Q
end
section
set_option linter.unusedVariables false
set_option linter.unusedSimpArgs false
namespace Go.Proofs.Ytgobidmfbjmpkaa.Q
section
open Go.Proofs.Ytgobidmfbjmpkaa.P
/-- An edit that may be. -/
def May (x : EdS) : Prop := 1 ≤ x.f1 ∧ (((x.f0 = 1 ∨ x.f0 = 2) ∧ x.f2 = []) ∨ (x.f0 = 3 ∧ (x.f2.length : Int) = x.f1))
def After (x y : EdS) : Prop := x.f0 ≠ y.f0 ∧ ¬ (x.f0 = 3 ∧ y.f0 = 2)
/-- Each one behind the next one. -/
def Chn : List EdS → Prop
 | [] => True
 | [_] => True
 | x :: y :: s => After x y ∧ Chn (y :: s)
theorem chn_snoc (s : List EdS) : ∀ (x y : EdS), Chn (s ++ [x]) → After x y → Chn (s ++ [x] ++ [y]) := by
 induction s with
 | nil => intro x y _ h; exact ⟨h, trivial⟩
 | cons z s ih =>
  intro x y h1 h2
  cases s with
  | nil => exact ⟨h1.1, h2, trivial⟩
  | cons u s => exact ⟨h1.1, ih x y h1.2 h2⟩
theorem chn_last (s : List EdS) : ∀ (x y : EdS), Chn (s ++ [x]) → x.f0 = y.f0 → Chn (s ++ [y]) := by
 induction s with
 | nil => intro x y _ _; exact trivial
 | cons z s ih =>
  intro x y h1 h2
  cases s with
  | nil =>
   have h3 : After z x := h1.1
   refine ⟨?_, trivial⟩
   unfold After at h3 ⊢
   rw [← h2]
   exact h3
  | cons u s => exact ⟨h1.1, ih x y h1.2 h2⟩
end
section
open Go Go.RowKit Go.Proofs.Ytgobidmfbjmpkaa.P Go.Proofs.YtgobidmfbjmpkaaW.PrintWords Go.Proofs.YtgobidmfbjmpkaaW.PrintLast
theorem drop_cons {α : Type} {s : List α} {i : Nat} {x : α} {t : List α} (h : s.drop i = x :: t) : i < s.length ∧ s[i]? = some x ∧ s.drop (i + 1) = t := by
 have h1 : i < s.length := by
  rcases Nat.lt_or_ge i s.length with h1 | h1
  ·exact h1
  ·rw [List.drop_eq_nil_of_le h1] at h; cases h
 rw [List.drop_eq_getElem_cons h1] at h
 injection h with h2 h3
 exact ⟨h1, by rw [List.getElem?_eq_getElem h1, h2], h3⟩
theorem drop_nil {α : Type} {s : List α} {i : Nat} (h : s.drop i = []) : s.length ≤ i := List.drop_eq_nil_iff.1 h
theorem rdB {s : List ByteArray} {i : Nat} {x : ByteArray} (h : s[i]? = some x) : rdOf ByteArray.empty s (i : Int) = x := by
 unfold rdOf
 rw [Int.toNat_natCast, List.getD_eq_getElem?_getD, h]; rfl
theorem rdI {s : List Int} {i : Nat} {x : Int} (h : s[i]? = some x) : rd s (i : Int) = x := by
 unfold rd
 rw [Int.toNat_natCast, List.getD_eq_getElem?_getD, h]; rfl
theorem wi {i : Nat} (h : i ≤ 1000000000) : wrap64 ((i : Int) + 1) = ((i + 1 : Nat) : Int) := by rw [w64 (by omega) (by omega)]; omega
/-- Edits of a right script. -/
def Fit (s : List EdS) : Prop := ∀ x ∈ s, May x ∧ x.f1 ≤ 1048576
theorem mayB_iff (x : EdS) : mayB x.f0 x.f1 x.f2 = true ↔ May x ∧ x.f1 ≤ 1048576 := by
 unfold mayB May
 by_cases h1 : x.f1 < 1
 ·rw [if_pos h1]; constructor
  ·intro h; cases h
  ·rintro ⟨⟨h2, _⟩, _⟩; omega
 ·rw [if_neg h1]
  by_cases h2 : x.f1 > 1048576
  ·rw [if_pos h2]; constructor
   ·intro h; cases h
   ·rintro ⟨_, h⟩; omega
  ·rw [if_neg h2]
   have hl : ((x.f2.length : Int) == 0) = true ↔ x.f2 = [] := by rw [beq_iff_eq, ← List.length_eq_zero_iff]; omega
   by_cases h3 : x.f0 = 1
   ·rw [if_pos h3, hl]
    constructor
    ·intro h; exact ⟨⟨by omega, .inl ⟨.inl h3, h⟩⟩, by omega⟩
    ·rintro ⟨⟨_, h | h⟩, _⟩
     ·exact h.2
     ·omega
   ·rw [if_neg h3]
    by_cases h4 : x.f0 = 2
    ·rw [if_pos h4, hl]
     constructor
     ·intro h; exact ⟨⟨by omega, .inl ⟨.inr h4, h⟩⟩, by omega⟩
     ·rintro ⟨⟨_, h | h⟩, _⟩
      ·exact h.2
      ·omega
    ·rw [if_neg h4]
     by_cases h5 : x.f0 = 3
     ·rw [if_pos h5, beq_iff_eq]
      constructor
      ·intro h; exact ⟨⟨by omega, .inr ⟨h5, h⟩⟩, by omega⟩
      ·rintro ⟨⟨_, h | h⟩, _⟩
       ·omega
       ·exact h.2
     ·rw [if_neg h5]
      constructor
      ·intro h; cases h
      ·rintro ⟨⟨_, h | h⟩, _⟩ <;> omega
theorem rightB_iff (s : List EdS) : ∀ last : Int, rightB last s = true ↔ Fit s ∧ Chn s ∧ ∀ x t, s = x :: t → x.f0 ≠ last ∧ ¬ (last = 3 ∧ x.f0 = 2) := by
 induction s with
 | nil => intro last; exact ⟨fun _ => ⟨fun x hx => absurd hx (by simp), trivial, fun x t h => by cases h⟩, fun _ => rfl⟩
 | cons x s ih =>
  intro last
  have hi := ih x.f0
  have key : rightB last (x :: s) = true ↔ (May x ∧ x.f1 ≤ 1048576) ∧ x.f0 ≠ last ∧ ¬ (last = 3 ∧ x.f0 = 2) ∧ rightB x.f0 s = true := by
   rw [rightB, ← mayB_iff]
   by_cases c1 : mayB x.f0 x.f1 x.f2 = true
   ·rw [if_pos c1]
    by_cases c2 : x.f0 = last
    ·rw [if_pos c2]; simp [c2]
    ·rw [if_neg c2]
     by_cases c3 : last = 3
     ·rw [if_pos c3]
      by_cases c4 : x.f0 = 2
      ·rw [if_pos c4]; simp [c3, c4]
      ·rw [if_neg c4]; simp [c1, c2, c4]
     ·rw [if_neg c3]; simp [c1, c2, c3]
   ·rw [if_neg c1]; simp [c1]
  rw [key, hi]
  constructor
  ·rintro ⟨h1, h2, h3, h4, h5, h6⟩
   refine ⟨fun y hy => ?_, ?_, fun y t e => ?_⟩
   ·rcases List.mem_cons.1 hy with rfl | hy
    ·exact h1
    ·exact h4 y hy
   ·cases s with
    | nil => exact trivial
    | cons y t => exact ⟨⟨fun e => (h6 y t rfl).1 e.symm, (h6 y t rfl).2⟩, h5⟩
   ·injection e with e1 _
    rw [← e1]; exact ⟨h2, h3⟩
  ·rintro ⟨h1, h2, h3⟩
   refine ⟨h1 x List.mem_cons_self, (h3 x s rfl).1, (h3 x s rfl).2, fun y hy => h1 y (List.mem_cons_of_mem _ hy), ?_, fun y t e => ?_⟩
   ·cases s with
    | nil => exact trivial
    | cons y t => exact h2.2
   ·subst e
    exact ⟨fun e => h2.1.1 e.symm, h2.1.2⟩
theorem right_iff (s : List EdS) : rightB 0 s = true ↔ Fit s ∧ Chn s := by
 rw [rightB_iff]
 constructor
 ·rintro ⟨h1, h2, _⟩; exact ⟨h1, h2⟩
 ·rintro ⟨h1, h2⟩
  refine ⟨h1, h2, fun x t e => ?_⟩
  have := (h1 x (by rw [e]; exact List.mem_cons_self)).1.2
  omega
def chgs : List EdS → Int
 | [] => 0
 | x :: s => (if x.f0 = 1 then 0 else x.f1) + chgs s
theorem fit_tail {x : EdS} {s : List EdS} (h : Fit (x :: s)) : Fit s := fun y hy => h y (List.mem_cons_of_mem _ hy)
theorem fit_head {x : EdS} {s : List EdS} (h : Fit (x :: s)) : 1 ≤ x.f1 ∧ x.f1 ≤ 1048576 ∧ (x.f0 = 1 ∨ x.f0 = 2 ∨ x.f0 = 3) ∧ (x.f0 = 3 → (x.f2.length : Int) = x.f1) ∧ (x.f0 ≠ 3 → x.f2 = []) := by
 obtain ⟨⟨h1, h2⟩, h3⟩ := h x List.mem_cons_self
 refine ⟨h1, h3, ?_, fun h4 => ?_, fun h4 => ?_⟩
 ·rcases h2 with h2 | h2 <;> omega
 ·rcases h2 with h2 | h2
  ·omega
  ·exact h2.2
 ·rcases h2 with h2 | h2
  ·exact h2.2
  ·exact absurd h2.1 h4
theorem spans_bd {s : List EdS} (h : Fit s) : 0 ≤ takes s ∧ takes s ≤ 1048576 * s.length ∧ 0 ≤ makes s ∧ makes s ≤ 1048576 * s.length ∧ 0 ≤ chgs s ∧ chgs s ≤ 1048576 * s.length := by
 induction s with
 | nil => simp [takes, makes, chgs]
 | cons x s ih =>
  have h1 := ih (fit_tail h)
  have h2 := fit_head h
  simp only [takes, makes, chgs, List.length_cons]
  split <;> split <;> split <;> omega
theorem spans_loop (s : List EdS) (hs : s.length ≤ 1000000) (t : List EdS) : ∀ (i : Nat) (a b : Int), Fit t → s.drop i = t → 0 ≤ a → a ≤ 1048576 * i → 0 ≤ b → b ≤ 1048576 * i → Ev (fun k => script_Spans.l0 k a b s (s.length : Int) (i : Int)) (a + takes t, b + makes t) := by
 induction t with
 | nil =>
  intro i a b _ h _ _ _ _
  have hi := drop_nil h
  refine Ev.step (f := fun _ => some (a + 0, b + 0)) (fun k => ?_) (Ev.now _)
  simp only [script_Spans.l0]; rw [if_neg (by omega), Int.add_zero, Int.add_zero]
 | cons x t ih =>
  intro i a b hf h ha1 ha2 hb1 hb2
  obtain ⟨h1, h2, h3⟩ := drop_cons h
  obtain ⟨f1, f2, f3, f4⟩ := fit_head hf
  have hlen : i + 1 ≤ 1000000 := by omega
  have ea : wrap64 (a + x.f1) = a + x.f1 := w64 (by omega) (by omega)
  have eb : wrap64 (b + x.f1) = b + x.f1 := w64 (by omega) (by omega)
  simp only [takes, makes]
  by_cases c1 : x.f0 = 1
  ·rw [if_neg (by omega), if_neg (by omega), ← Int.add_assoc, ← Int.add_assoc]
   refine Ev.step (fun k => ?_) (ih (i + 1) (a + x.f1) (b + x.f1) (fit_tail hf) h3 (by omega) (by omega) (by omega) (by omega))
   simp only [script_Spans.l0]; rw [if_pos (by omega), if_pos (by omega), if_pos (by omega), rdT h2, if_pos c1, wi (by omega), ea, eb]
  ·by_cases c2 : x.f0 = 3
   ·rw [if_pos c2, if_neg (by omega), Int.zero_add, ← Int.add_assoc]
    refine Ev.step (fun k => ?_) (ih (i + 1) a (b + x.f1) (fit_tail hf) h3 (by omega) (by omega) (by omega) (by omega))
    simp only [script_Spans.l0]; rw [if_pos (by omega), if_pos (by omega), if_pos (by omega), rdT h2, if_neg c1, if_pos c2, wi (by omega), eb]
   ·rw [if_neg c2, if_pos (by omega), Int.zero_add, ← Int.add_assoc]
    refine Ev.step (fun k => ?_) (ih (i + 1) (a + x.f1) b (fit_tail hf) h3 (by omega) (by omega) (by omega) (by omega))
    simp only [script_Spans.l0]; rw [if_pos (by omega), if_pos (by omega), if_pos (by omega), rdT h2, if_neg c1, if_neg c2, wi (by omega), ea]
theorem spans_ev (s : List EdS) (hs : s.length ≤ 1000000) (hr : rightB 0 s = true) : Ev (fun k => script_Spans.f k s) (takes s, makes s) := by
 unfold script_Spans.f
 refine Ev.bind (right_ev s hs) ?_
 simp only [if_pos hr]
 have h := spans_loop s hs s 0 0 0 ((right_iff s).1 hr).1 (by simp) (by omega) (by omega) (by omega) (by omega)
 rw [Int.zero_add, Int.zero_add] at h
 exact h
theorem spans_no (s : List EdS) (hs : s.length ≤ 1000000) (hr : rightB 0 s = false) : Ev (fun k => script_Spans.f k s) (0, 0) := by
 unfold script_Spans.f
 refine Ev.bind (right_ev s hs) ?_
 simp only [hr]
 exact Ev.now _
theorem fits_ev (s : List EdS) (a : List ByteArray) (hs : s.length ≤ 1000000) (hr : rightB 0 s = true) : Ev (fun k => script_fits.f k s a) (if takes s = (a.length : Int) then 0 else 11) := by
 unfold script_fits.f
 refine Ev.bind (spans_ev s hs hr) ?_
 refine Ev.bind (right_ev s hs) ?_
 simp only [if_pos hr]
 by_cases c : takes s = (a.length : Int)
 ·simp only [if_pos c]; exact Ev.now _
 ·simp only [if_neg c]; exact Ev.now _
/-- What a script makes of lines. -/
def appl : List EdS → List ByteArray → List ByteArray
 | [], _ => []
 | x :: s, a => if x.f0 = 1 then a.take x.f1.toNat ++ appl s (a.drop x.f1.toNat) else if x.f0 = 2 then appl s (a.drop x.f1.toNat) else x.f2 ++ appl s a
theorem apply_loop (s : List EdS) (hs : s.length ≤ 1000000) (t : List EdS) : ∀ (i : Nat) (a out : List ByteArray), Fit t → s.drop i = t → takes t = (a.length : Int) → out.length ≤ 1048576 * i → Ev (fun k => script_Apply.l0 k a out s (s.length : Int) (i : Int)) (out ++ appl t a, 0) := by
 induction t with
 | nil =>
  intro i a out _ h _ _
  have hi := drop_nil h
  refine Ev.step (f := fun _ => some (out ++ [], 0)) (fun k => ?_) (Ev.now _)
  simp only [script_Apply.l0]; rw [if_neg (by omega), List.append_nil]
 | cons x t ih =>
  intro i a out hf h ht ho
  obtain ⟨h1, h2, h3⟩ := drop_cons h
  obtain ⟨f1, f2, f3, f4, f5⟩ := fit_head hf
  have hb := spans_bd (fit_tail hf)
  simp only [takes] at ht
  simp only [appl]
  have hlen : i + 1 ≤ 1000000 := by omega
  by_cases c1 : x.f0 = 1
  ·rw [if_neg (by omega)] at ht
   rw [if_pos c1, ← List.append_assoc]
   refine Ev.step (fun k => ?_) (ih (i + 1) (a.drop x.f1.toNat) (out ++ a.take x.f1.toNat) (fit_tail hf) h3 (by rw [List.length_drop]; omega) (by rw [List.length_append, List.length_take]; omega))
   simp only [script_Apply.l0]
   rw [if_pos (by omega), if_pos (by omega), if_pos (by omega), rdT h2, if_pos c1, if_pos (by omega), if_pos (by omega), Option.bind_some, if_pos (by rw [List.length_take]; omega), wi (by omega)]
  ·by_cases c2 : x.f0 = 2
   ·rw [if_neg (by omega)] at ht
    rw [if_neg c1, if_pos c2]
    refine Ev.step (fun k => ?_) (ih (i + 1) (a.drop x.f1.toNat) out (fit_tail hf) h3 (by rw [List.length_drop]; omega) (by omega))
    simp only [script_Apply.l0]
    rw [if_pos (by omega), if_pos (by omega), if_pos (by omega), rdT h2, if_neg c1, if_pos c2, if_pos (by omega), if_pos (by omega), wi (by omega)]
   ·have c3 : x.f0 = 3 := by omega
    rw [if_pos c3, Int.zero_add] at ht
    rw [if_neg c1, if_neg c2, ← List.append_assoc]
    have f6 := f4 c3
    refine Ev.step (fun k => ?_) (ih (i + 1) a (out ++ x.f2) (fit_tail hf) h3 ht (by rw [List.length_append]; omega))
    simp only [script_Apply.l0]
    rw [if_pos (by omega), if_pos (by omega), if_pos (by omega), rdT h2, if_neg c1, if_neg c2, if_pos (by omega), wi (by omega)]
theorem apply_ev (s : List EdS) (a : List ByteArray) (hs : s.length ≤ 1000000) (hr : rightB 0 s = true) (ht : takes s = (a.length : Int)) : Ev (fun k => script_Apply.f k s a) (appl s a, 0) := by
 unfold script_Apply.f
 have hf := fits_ev s a hs hr
 rw [if_pos ht] at hf
 refine Ev.bind hf ?_
 simp only [if_pos (rfl : (0 : Int) = 0)]
 exact apply_loop s hs s 0 a [] ((right_iff s).1 hr).1 (by simp) ht (by simp)
theorem same_lines (s t : List EdS) (hs : s.length ≤ 1000000) (i : Nat) (x : EdS) (hx : s[i]? = some x) (hl : x.f2.length ≤ 1000000) (u : List ByteArray) {b : Bool} (hn : Ev (fun k => collatorref04_Same.l0 k s s ((i + 1 : Nat) : Int)) b) : ∀ (j : Nat), x.f2.drop j = u → Ev (fun k => collatorref04_Same.l1 k s s (i : Int) (j : Int)) b := by
 have h1 : i < s.length := (List.getElem?_eq_some_iff.1 hx).1
 induction u with
 | nil =>
  intro j h
  have hj := drop_nil h
  refine Ev.step (fun k => ?_) hn
  simp only [collatorref04_Same.l1]
  rw [if_pos (by omega), if_pos (by omega), rdT hx, if_neg (by omega), wi (by omega)]
 | cons y u ih =>
  intro j h
  obtain ⟨g1, g2, g3⟩ := drop_cons h
  refine Ev.step (fun k => ?_) (ih (j + 1) g3)
  simp only [collatorref04_Same.l1]
  rw [if_pos (by omega), if_pos (by omega), rdT hx, if_pos (by omega), if_pos (by omega), if_pos (by omega), if_pos (by omega), if_true, wi (by omega)]
theorem same_loop (s : List EdS) (hs : s.length ≤ 1000000) (hl : ∀ x ∈ s, x.f2.length ≤ 1000000) (t : List EdS) : ∀ (i : Nat), s.drop i = t → Ev (fun k => collatorref04_Same.l0 k s s (i : Int)) true := by
 induction t with
 | nil =>
  intro i h
  have hi := drop_nil h
  refine Ev.step (f := fun _ => some true) (fun k => ?_) (Ev.now _)
  simp only [collatorref04_Same.l0]; rw [if_neg (by omega)]
 | cons x t ih =>
  intro i h
  obtain ⟨h1, h2, h3⟩ := drop_cons h
  refine Ev.step (f := fun k => collatorref04_Same.j1 k s s (i : Int) false) (fun k => ?_) (Ev.step (fun k => ?_) (same_lines s s hs i x h2 (hl x (List.mem_of_getElem? h2)) x.f2 (ih (i + 1) h3) 0 (by simp)))
  ·simp only [collatorref04_Same.l0]
   rw [if_pos (by omega), if_pos (by omega), if_pos (by omega), if_true, if_true, bne_self_eq_false]
  ·simp only [collatorref04_Same.j1]
   rw [if_neg (by decide)]
   rfl
theorem same_ev (s : List EdS) (hs : s.length ≤ 1000000) (hl : ∀ x ∈ s, x.f2.length ≤ 1000000) : Ev (fun k => collatorref04_Same.f k s s) true := by
 unfold collatorref04_Same.f
 simp only [if_pos (rfl : (s.length : Int) = (s.length : Int))]
 exact same_loop s hs hl s 0 (by simp)
end
end Go.Proofs.Ytgobidmfbjmpkaa.Q
end
section
set_option linter.unusedVariables false
set_option linter.unusedSimpArgs false
namespace Go.Proofs.Ytgobidmfbjmpkaa.Q
open Go Go.RowKit Go.Proofs.Ytgobidmfbjmpkaa.P Go.Proofs.YtgobidmfbjmpkaaW.PrintWords Go.Proofs.YtgobidmfbjmpkaaW.PrintLast
theorem pick4 {c : Int} (hc : -9223372036854775808 ≤ c ∧ c ≤ 9223372036854775807) {m : Int} {n : Nat} (hm : m = n) (hn : 0 < n) : collatorlaw04_pick.f c m = some (pk c n : Int) := pick_body hc hm hn
def few4 : List ByteArray := [(⟨#[97, 10]⟩ : ByteArray), (⟨#[98, 10]⟩ : ByteArray), (⟨#[99, 10]⟩ : ByteArray), (⟨#[]⟩ : ByteArray), (⟨#[120, 58, 121, 59]⟩ : ByteArray)]
theorem tdiv3 {c : Int} (h : -9223372036854775808 ≤ c ∧ c ≤ 9223372036854775807) : -9223372036854775808 ≤ Int.tdiv c 3 ∧ Int.tdiv c 3 ≤ 9223372036854775807 := by
 by_cases h0 : 0 ≤ c
 ·rw [Int.tdiv_eq_ediv_of_nonneg h0]; omega
 ·have e : c = -(-c) := by omega
  rw [e, Int.neg_tdiv, Int.tdiv_eq_ediv_of_nonneg (by omega)]
  omega
theorem full_loop (l : List Int) (hw : ∀ x ∈ l, (Lit.int .i64 x).wf = true) (hl : l.length ≤ 9223372036854775807) (n : Nat) (hn : n ≤ 1000000) (d : Nat) : ∀ (i : Nat) (out : List ByteArray), i + d = n → out.length = i → ∃ L, Ev (fun k => collatorlaw04_full.l0 k l (n : Int) out (i : Int)) L ∧ L.length = n := by
 induction d with
 | zero =>
  intro i out hi ho
  refine ⟨out, Ev.step (f := fun _ => some out) (fun k => ?_) (Ev.now _), by omega⟩
  simp only [collatorlaw04_full.l0]; rw [if_neg (by omega)]
 | succ d ih =>
  intro i out hi ho
  by_cases c : (i : Int) < (l.length : Int)
  ·obtain ⟨L, hL, hr⟩ := ih (i + 1) (out ++ [rdOf ByteArray.empty few4 (pk (rd l i) 5 : Int)]) (by omega) (by rw [List.length_append, List.length_singleton]; omega)
   refine ⟨L, Ev.step (fun k => ?_) hL, hr⟩
   have h5 := pk_lt (rd l i) (n := 5) (by omega)
   simp only [collatorlaw04_full.l0]
   rw [if_pos (by omega), if_pos c, if_pos (by omega), Option.bind_some, pick4 (m := 5) (n := 5) (rd_mem hw (by omega) (by omega)) rfl (by omega), Option.bind_some, if_pos (by omega), if_pos (by show _ < ((5 : Nat) : Int); omega), if_pos (by omega), wi (by omega)]
   rfl
  ·obtain ⟨L, hL, hr⟩ := ih (i + 1) (out ++ [rdOf ByteArray.empty few4 (pk (i : Int) 5 : Int)]) (by omega) (by rw [List.length_append, List.length_singleton]; omega)
   refine ⟨L, Ev.step (fun k => ?_) hL, hr⟩
   have h5 := pk_lt (i : Int) (n := 5) (by omega)
   simp only [collatorlaw04_full.l0]
   rw [if_pos (by omega), if_neg c, Option.bind_some, pick4 (m := 5) (n := 5) (by omega) rfl (by omega), Option.bind_some, if_pos (by omega), if_pos (by show _ < ((5 : Nat) : Int); omega), if_pos (by omega), wi (by omega)]
   rfl
theorem full_ev (l : List Int) (hw : ∀ x ∈ l, (Lit.int .i64 x).wf = true) (hl : l.length ≤ 9223372036854775807) (n : Nat) (hn : n ≤ 1000000) : ∃ L, Ev (fun k => collatorlaw04_full.f k l (n : Int)) L ∧ L.length = n :=
 full_loop l hw hl n hn n 0 [] (by omega) rfl
theorem takes_append (s t : List EdS) : takes (s ++ t) = takes s + takes t := by
 induction s with
 | nil => simp [takes]
 | cons x s ih => simp only [List.cons_append, takes, ih]; omega
/-- A script of raw numbers, so far. -/
structure Raw (s : List EdS) (take i : Nat) : Prop where
 fit : Fit s
 chn : Chn s
 takes_ : takes s = (take : Int)
 len : s.length ≤ i
 most : take ≤ 4 * i
 small : ∀ x ∈ s, x.f1 ≤ 4
theorem Raw.nil : Raw [] 0 0 := ⟨fun x hx => absurd hx (by simp), trivial, rfl, Nat.le_refl _, Nat.le_refl _, fun x hx => absurd hx (by simp)⟩
theorem Raw.more {s : List EdS} {take i : Nat} (h : Raw s take i) : Raw s take (i + 1) := ⟨h.fit, h.chn, h.takes_, by have := h.len; omega, by have := h.most; omega, h.small⟩
theorem Raw.snoc {s : List EdS} {take i : Nat} (h : Raw s take i) {x : EdS} (hx : May x) (h4 : x.f1 ≤ 4) (ha : ∀ s0 y, s = s0 ++ [y] → After y x) {take' : Nat} (ht : (take' : Int) = take + (if x.f0 = 3 then 0 else x.f1)) : Raw (s ++ [x]) take' (i + 1) := by
 refine ⟨fun y hy => ?_, ?_, ?_, ?_, ?_, fun y hy => ?_⟩
 ·rcases List.mem_append.1 hy with hy | hy
  ·exact h.fit y hy
  ·rw [List.mem_singleton.1 hy]; exact ⟨hx, by omega⟩
 ·rcases List.eq_nil_or_concat s with h0 | ⟨s0, y, h0⟩
  ·rw [h0]; exact trivial
  ·rw [List.concat_eq_append] at h0
   have hc := h.chn
   rw [h0] at hc ⊢
   exact chn_snoc s0 y x hc (ha s0 y h0)
 ·rw [takes_append, h.takes_, ht]
  simp [takes]
 ·have := h.len
  rw [List.length_append, List.length_singleton]; omega
 ·have := h.most
  have := hx.1
  split at ht <;> omega
 ·rcases List.mem_append.1 hy with hy | hy
  ·exact h.small y hy
  ·rw [List.mem_singleton.1 hy]; exact h4
theorem rdT_last {s0 : List EdS} {y : EdS} : rd_T31 (s0 ++ [y]) (((s0 ++ [y]).length : Int) - 1) = y := by
 have e : (((s0 ++ [y]).length : Int) - 1) = ((s0.length : Nat) : Int) := by rw [List.length_append, List.length_singleton]; omega
 rw [e]
 exact rdT (by rw [List.getElem?_append_right (Nat.le_refl _)]; simp)
section
variable (raw l : List Int) (hw : ∀ x ∈ raw, (Lit.int .i64 x).wf = true) (hl : raw.length ≤ 9223372036854775807) (hw2 : ∀ x ∈ l, (Lit.int .i64 x).wf = true) (hl2 : l.length ≤ 9223372036854775807)
include hw hl hw2 hl2
theorem script_raw (d : Nat) : ∀ (i : Nat) (s : List EdS) (take : Nat), i + d = 10 → Raw s take i → ∃ S L, Ev (fun k => collatorlaw04_Script.l0 k raw l s (take : Int) (i : Int)) (S, L) ∧ Raw S L.length 10 := by
 have stop : ∀ (i : Nat) (s : List EdS) (take : Nat), i ≤ 10 → Raw s take i → ∃ S L, Ev (fun k => collatorlaw04_Script.j1 k raw l s (take : Int) (i : Int) false) (S, L) ∧ Raw S L.length 10 := by
  intro i s take hi h
  obtain ⟨L, hL, hlen⟩ := full_ev l hw2 hl2 take (by have := h.most; omega)
  refine ⟨s, L, Ev.step (f := fun k => (collatorlaw04_full.f k l (take : Int)).bind fun t721 => some (s, t721)) (fun k => ?_) (Ev.bind hL (Ev.now _)), ?_⟩
  ·simp only [collatorlaw04_Script.j1]; rw [if_neg (by decide)]
  ·rw [hlen]
   exact ⟨h.fit, h.chn, h.takes_, by have := h.len; omega, by have := h.most; omega, h.small⟩
 induction d with
 | zero =>
  intro i s take hi h
  obtain ⟨S, L, hS, hR⟩ := stop i s take (by omega) h
  refine ⟨S, L, Ev.step (fun k => ?_) hS, hR⟩
  simp only [collatorlaw04_Script.l0]
  rw [decide_eq_false (by omega : ¬ (i : Int) < 10)]
  split <;> rfl
 | succ d ih =>
  intro i s take hi h
  by_cases c : (i : Int) < (raw.length : Int)
  ·have r1 := rd_mem hw (i := (i : Int)) (by omega) c
   have h3 := pk_lt (rd raw i) (n := 3) (by omega)
   have td := tdiv3 r1
   have e0 : wrap64 (Int.tdiv (rd raw i) 3) = Int.tdiv (rd raw i) 3 := w64 td.1 td.2
   have p3 := pick4 (c := rd raw i) r1 (m := 3) (n := 3) rfl (by omega)
   have p4 := pick4 (c := Int.tdiv (rd raw i) 3) td (m := 4) (n := 4) rfl (by omega)
   clear td r1
   have h4 := pk_lt (Int.tdiv (rd raw i) 3) (n := 4) (by omega)
   generalize pk (rd raw i) 3 = op at h3 p3
   generalize pk (Int.tdiv (rd raw i) 3) 4 = nn at h4 p4
   have e1 : wrap64 (1 + (op : Int)) = ((op + 1 : Nat) : Int) := by rw [w64 (by omega) (by omega)]; omega
   have e2 : wrap64 (1 + (nn : Int)) = ((nn + 1 : Nat) : Int) := by rw [w64 (by omega) (by omega)]; omega
   have hlen := h.len
   have hmost := h.most
   -- behind the new edit
   have j3 : ∀ (ls : List ByteArray) (b : Bool), (op + 1 ≠ 3 → ls = []) → (op + 1 = 3 → ls.length = nn + 1) → (b = false → ∀ s0 y, s = s0 ++ [y] → y.f0 ≠ ((op + 1 : Nat) : Int) ∧ ¬ (y.f0 = 3 ∧ ((op + 1 : Nat) : Int) = 2)) → ∃ S L, Ev (fun k => collatorlaw04_Script.j3 k raw l s (take : Int) (i : Int) b ((op + 1 : Nat) : Int) ((nn + 1 : Nat) : Int) ls) (S, L) ∧ Raw S L.length 10 := by
    intro ls b g1 g2 g3
    cases b with
    | true =>
     obtain ⟨S, L, hS, hR⟩ := ih (i + 1) s take (by omega) h.more
     refine ⟨S, L, Ev.step (fun k => ?_) hS, hR⟩
     simp only [collatorlaw04_Script.j3]
     rw [if_true, wi (by omega)]
    | false =>
     have hmay : May ⟨((op + 1 : Nat) : Int), ((nn + 1 : Nat) : Int), ls⟩ := by
      refine ⟨by show (1 : Int) ≤ ((nn + 1 : Nat) : Int); omega, ?_⟩
      by_cases c3 : op + 1 = 3
      ·exact .inr ⟨by show ((op + 1 : Nat) : Int) = 3; omega, by show (ls.length : Int) = ((nn + 1 : Nat) : Int); rw [g2 c3]⟩
      ·exact .inl ⟨by show ((op + 1 : Nat) : Int) = 1 ∨ ((op + 1 : Nat) : Int) = 2; omega, g1 c3⟩
     by_cases c3 : ((op + 1 : Nat) : Int) = 3
     ·obtain ⟨S, L, hS, hR⟩ := ih (i + 1) (s ++ [⟨((op + 1 : Nat) : Int), ((nn + 1 : Nat) : Int), ls⟩]) take (by omega) (h.snoc hmay (by show ((nn + 1 : Nat) : Int) ≤ 4; omega) (g3 rfl) (by show (take : Int) = take + (if ((op + 1 : Nat) : Int) = 3 then 0 else _); rw [if_pos c3]; omega))
      refine ⟨S, L, Ev.step (fun k => ?_) hS, hR⟩
      simp only [collatorlaw04_Script.j3]
      rw [if_neg (by decide), if_pos (by omega), Option.bind_some, if_pos c3, wi (by omega)]
     ·obtain ⟨S, L, hS, hR⟩ := ih (i + 1) (s ++ [⟨((op + 1 : Nat) : Int), ((nn + 1 : Nat) : Int), ls⟩]) (take + (nn + 1)) (by omega) (h.snoc hmay (by show ((nn + 1 : Nat) : Int) ≤ 4; omega) (g3 rfl) (by show ((take + (nn + 1) : Nat) : Int) = take + (if ((op + 1 : Nat) : Int) = 3 then 0 else ((nn + 1 : Nat) : Int)); rw [if_neg c3]; omega))
      refine ⟨S, L, Ev.step (fun k => ?_) hS, hR⟩
      have e3 : wrap64 ((take : Int) + ((nn + 1 : Nat) : Int)) = ((take + (nn + 1) : Nat) : Int) := by rw [w64 (by omega) (by omega)]; omega
      simp only [collatorlaw04_Script.j3]
      rw [if_neg (by decide), if_pos (by omega), Option.bind_some, if_neg c3, wi (by omega), e3]
   have j2 : ∀ (ls : List ByteArray), (op + 1 ≠ 3 → ls = []) → (op + 1 = 3 → ls.length = nn + 1) → ∃ S L, Ev (fun k => collatorlaw04_Script.j2 k raw l s (take : Int) (i : Int) ((op + 1 : Nat) : Int) ((nn + 1 : Nat) : Int) ls) (S, L) ∧ Raw S L.length 10 := by
    intro ls g1 g2
    rcases List.eq_nil_or_concat s with h0 | ⟨s0, y, h0⟩
    ·obtain ⟨S, L, hS, hR⟩ := j3 ls false g1 g2 (fun _ s0 y e => by rw [h0] at e; simp at e)
     refine ⟨S, L, Ev.step (fun k => ?_) hS, hR⟩
     simp only [collatorlaw04_Script.j2]
     rw [if_neg (by rw [h0]; simp)]
    ·rw [List.concat_eq_append] at h0
     have e5 : wrap64 ((s.length : Int) - 1) = (s.length : Int) - 1 := w64 (by omega) (by omega)
     have e6 : rd_T31 s ((s.length : Int) - 1) = y := by rw [h0]; exact rdT_last
     have e7 : 0 < s.length := by rw [h0, List.length_append, List.length_singleton]; omega
     have last : ∀ s0' y', s = s0' ++ [y'] → y' = y := fun s0' y' e => by
      rw [h0] at e
      have := List.append_inj_right' e rfl
      injection this with h1 _
      exact h1.symm
     by_cases c1 : y.f0 = ((op + 1 : Nat) : Int)
     ·obtain ⟨S, L, hS, hR⟩ := j3 ls true g1 g2 (fun e => by cases e)
      refine ⟨S, L, Ev.step (fun k => ?_) hS, hR⟩
      simp only [collatorlaw04_Script.j2]
      rw [if_pos (by omega), e5, if_pos (by omega), if_pos (by omega), e6, if_pos c1]
     ·by_cases c2 : y.f0 = 3
      ·obtain ⟨S, L, hS, hR⟩ := j3 ls (((op + 1 : Nat) : Int) == 2) g1 g2 (fun e s0' y' e' => by
        rw [last s0' y' e']
        exact ⟨c1, fun hh => by rw [beq_eq_false_iff_ne] at e; exact e hh.2⟩)
       refine ⟨S, L, Ev.step (fun k => ?_) hS, hR⟩
       simp only [collatorlaw04_Script.j2]
       rw [if_pos (by omega), e5, if_pos (by omega), if_pos (by omega), e6, if_neg c1, if_pos c2]
      ·obtain ⟨S, L, hS, hR⟩ := j3 ls false g1 g2 (fun _ s0' y' e' => by
        rw [last s0' y' e']
        exact ⟨c1, fun hh => c2 hh.1⟩)
       refine ⟨S, L, Ev.step (fun k => ?_) hS, hR⟩
       simp only [collatorlaw04_Script.j2]
       rw [if_pos (by omega), e5, if_pos (by omega), if_pos (by omega), e6, if_neg c1, if_neg c2]
   by_cases c3 : ((op + 1 : Nat) : Int) = 3
   ·obtain ⟨M, hM, hMl⟩ := full_ev (raw.drop i) (fun x hx => hw x (List.mem_of_mem_drop hx)) (by rw [List.length_drop]; omega) (nn + 1) (by omega)
    obtain ⟨S, L, hS, hR⟩ := j2 M (fun h => absurd c3 (by omega)) (fun _ => hMl)
    refine ⟨S, L, Ev.step (f := fun k => collatorlaw04_Script.j1 k raw l s (take : Int) (i : Int) true) (fun k => ?_) (Ev.step (f := fun k => (collatorlaw04_full.f k (raw.drop i) ((nn + 1 : Nat) : Int)).bind fun t730 => (collatorlaw04_Script.j2 k raw l s (take : Int) (i : Int) ((op + 1 : Nat) : Int) ((nn + 1 : Nat) : Int) t730)) (fun k => ?_) (Ev.bind hM hS)), hR⟩
    ·simp only [collatorlaw04_Script.l0]
     rw [if_pos c, decide_eq_true (by omega : (i : Int) < 10)]
    ·simp only [collatorlaw04_Script.j1]
     rw [if_true, if_pos (by omega), if_pos c, p3, Option.bind_some, e0, p4, Option.bind_some, e1, e2, if_pos c3, if_pos (by omega), Int.toNat_natCast]
   ·obtain ⟨S, L, hS, hR⟩ := j2 [] (fun _ => rfl) (fun h => absurd h (by omega))
    refine ⟨S, L, Ev.step (f := fun k => collatorlaw04_Script.j1 k raw l s (take : Int) (i : Int) true) (fun k => ?_) (Ev.step (fun k => ?_) hS), hR⟩
    ·simp only [collatorlaw04_Script.l0]
     rw [if_pos c, decide_eq_true (by omega : (i : Int) < 10)]
    ·simp only [collatorlaw04_Script.j1]
     rw [if_true, if_pos (by omega), if_pos c, p3, Option.bind_some, e0, p4, Option.bind_some, e1, e2, if_neg c3]
  ·obtain ⟨S, L, hS, hR⟩ := stop i s take (by omega) h
   refine ⟨S, L, Ev.step (fun k => ?_) hS, hR⟩
   simp only [collatorlaw04_Script.l0]
   rw [if_neg c]
theorem script_raw_ev : ∃ S L, Ev (fun k => collatorlaw04_Script.f k raw l) (S, L) ∧ Raw S L.length 10 := script_raw raw l hw hl hw2 hl2 10 0 [] 0 rfl Raw.nil
end
theorem Raw.right {s : List EdS} {t i : Nat} (h : Raw s t i) : rightB 0 s = true := (right_iff s).2 ⟨h.fit, h.chn⟩
end Go.Proofs.Ytgobidmfbjmpkaa.Q
end
end
