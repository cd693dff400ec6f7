/- Laid for this claim by hp.py, this session's program round the kit's print: functions of the program as plain Lean functions, the proofs that the code comes to their answers, and the rows of the laws. Not trusted: Lean checks it. -/
import Derived.Test.YtgobidmfbjmpkaaPx0
import Derived.Test.YtgobidmfbjmpkaaHShr
import Derived.Test.YtgobidmfbjmpkaaPxf22
import Derived.Test.YtgobidmfbjmpkaaPxf24
import Derived.Test.YtgobidmfbjmpkaaPxf10
import Derived.Test.YtgobidmfbjmpkaaPxf11
import Derived.Test.YtgobidmfbjmpkaaEAwake6
import Derived.Test.YtgobidmfbjmpkaaGMake
namespace Go.Proofs.Ytgobidmfbjmpkaa.P
open Go.RowKit Go.Proofs.YtgobidmfbjmpkaaW.PrintWords Go.Proofs.YtgobidmfbjmpkaaW.PrintLast Go.Proofs.YtgobidmfbjmpkaaW.PrintMore
attribute [local go_sem] max2_int min2_int max_two min_two max_three min_three max_four min_four   -- for this text's walks alone
set_option linter.unusedVariables false
set_option linter.unusedSimpArgs false

/-! ### collatorlaw06_HunksOne: function 4 -/
def collatorlaw06_HunksOne.l0 : Nat → Bool → List (S28) → Int → List ByteArray → Int → List ByteArray → Int → Option (Bool)
 | 0, _, _, _, _, _, _, _ => none
 | k + 1, x7, x10, x11, x12, x13, x14, x15 => if x15 ≥ 0 then (if 0 ≤ x15 then (if x15 < (x10.length : Int) then ((hunks_Apply.f k (([(⟨(rd_T28 x10 x15).f0, (rd_T28 x10 x15).f0, (rd_T28 x10 x15).f2⟩ : S28)] : List (S28))) x14).bind fun bt538 => (if bt538.2 = 0 then (collatorlaw06_HunksOne.l0 k x7 x10 x11 x12 x13 bt538.1 (wrap64 (x15 - 1))) else (some false))) else (none)) else (none)) else (if x7 = true then (if x11 = 0 then (if x13 = 0 then ((collatorref01_Texts.f k x14 x12).bind fun t542 => (some t542)) else (some false)) else (some false)) else (some false))
def collatorlaw06_HunksOne.f (k : Nat) (l0 : List Int) (l1 : List Int) (a2 : Int) : Option (Bool) := (collatorlaw06_awake.f).bind fun t516 => ((collatorlaw04_Script.f k l0 l1).bind fun bt517 => ((collatorlaw06_pick.f a2 6).bind fun t523 => ((hunks_Make.f k bt517.1 t523).bind fun bt524 => ((hunks_Apply.f k bt524.1 bt517.2).bind fun bt528 => (collatorlaw06_HunksOne.l0 k t516 bt524.1 bt524.2 bt528.1 bt528.2 bt517.2 (wrap64 ((bt524.1.length : Int) - 1)))))))
theorem collatorlaw06_HunksOne.mono_l : ∀ k, (∀ y0 y1 y2 y3 y4 y5 y6, LeO (collatorlaw06_HunksOne.l0 k y0 y1 y2 y3 y4 y5 y6) (collatorlaw06_HunksOne.l0 (k + 1) y0 y1 y2 y3 y4 y5 y6))
 | 0 => fun _ _ _ _ _ _ _ r h => by simp [collatorlaw06_HunksOne.l0] at h
 | k + 1 => by
  have ih0 := collatorlaw06_HunksOne.mono_l k
  ·intro y0 y1 y2 y3 y4 y5 y6
   unfold collatorlaw06_HunksOne.l0
   repeat' first
   | (with_reducible exact ih0 _ _ _ _ _ _ _)
   | (with_reducible exact collatorlaw04_Script.mono _ _ _)
   | (with_reducible exact collatorref01_Texts.mono _ _ _)
   | (with_reducible exact hunks_Apply.mono _ _ _)
   | (with_reducible exact hunks_Make.mono _ _ _)
   | (with_reducible exact LeO.refl _)
   | (with_reducible exact LeO.none _)
   | (with_reducible refine LeO.ite ?_ ?_)
   | (with_reducible refine LeO.bind ?_ (fun _ => ?_))
   | exact ih0 _ _ _ _ _ _ _
   | exact collatorlaw04_Script.mono _ _ _
   | exact collatorref01_Texts.mono _ _ _
   | exact hunks_Apply.mono _ _ _
   | exact hunks_Make.mono _ _ _
   | exact LeO.none _
   | refine LeO.ite ?_ ?_
   | refine LeO.bind ?_ (fun _ => ?_)
theorem collatorlaw06_HunksOne.mono : ∀ a0 a1 a2 k, LeO (collatorlaw06_HunksOne.f k a0 a1 a2) (collatorlaw06_HunksOne.f (k + 1) a0 a1 a2) := by
 intro a0 a1 a2 k
 have ih0 := collatorlaw06_HunksOne.mono_l k
 unfold collatorlaw06_HunksOne.f
 repeat' first
   | (with_reducible exact ih0 _ _ _ _ _ _ _)
   | (with_reducible exact collatorlaw04_Script.mono _ _ _)
   | (with_reducible exact collatorref01_Texts.mono _ _ _)
   | (with_reducible exact hunks_Apply.mono _ _ _)
   | (with_reducible exact hunks_Make.mono _ _ _)
   | (with_reducible exact LeO.refl _)
   | (with_reducible exact LeO.none _)
   | (with_reducible refine LeO.ite ?_ ?_)
   | (with_reducible refine LeO.bind ?_ (fun _ => ?_))
   | exact ih0 _ _ _ _ _ _ _
   | exact collatorlaw04_Script.mono _ _ _
   | exact collatorref01_Texts.mono _ _ _
   | exact hunks_Apply.mono _ _ _
   | exact hunks_Make.mono _ _ _
   | exact LeO.none _
   | refine LeO.ite ?_ ?_
   | refine LeO.bind ?_ (fun _ => ?_)
def collatorlaw06_HunksOne.T9 : Bool × List (List Nat × List Nat) := (true, [([], []), ([], []), ([0, 1], [0, 1]), ([2], [2]), ([3], [3]), ([], []), ([], []), ([5, 6], [5, 6]), ([7], [7]), ([8], [8]), ([], []), ([], []), ([10, 11], [10, 11]), ([12], [12]), ([13], [13]), ([4, 9, 14], [4, 9, 14]), ([15], [15]), ([], []), ([16, 17], [16, 17]), ([18], [18]), ([19], [19]), ([19], [19]), ([20, 18, 0, 1, 2, 3, 4, 5, 6, 7, 8, 9, 10, 11, 12, 13, 14, 15, 16, 17, 18, 19, 20], [20]), ([21, 22, 0, 1, 2, 3, 4, 5, 6, 7, 8, 9, 10, 11, 12, 13, 14, 15, 16, 17, 18, 19, 20, 21, 22], [21])])
def collatorlaw06_HunksOne.B9 : List Nat := [0, 0, 3, 7, 15, 0, 0, 96, 224, 480, 0, 0, 3072, 7168, 15360, 32767, 65535, 0, 262143, 524287, 1048575, 1048575, 2097151, 8388607]
theorem collatorlaw06_HunksOne.tab9 : rtab .any (opsOf Try.f4 9) = collatorlaw06_HunksOne.T9 := by kernel_rfl
theorem collatorlaw06_HunksOne.bits9 : waitsOk collatorlaw06_HunksOne.T9.2 collatorlaw06_HunksOne.B9 = true := by kernel_rfl
set_option maxHeartbeats 8000000 in
set_option maxRecDepth 100000 in
theorem collatorlaw06_HunksOne.calls (k : Nat) (A0 : Option Addr) (c0 : Nat) (l0 : List Int) (A1 : Option Addr) (c1 : Nat) (l1 : List Int) (a2 : Int) (r : Bool) (w : World) (hr0 : Kd.C (Kd.int .i64) w A0 l0.length l0) (hc0 : l0.length ≤ c0) (hr1 : Kd.C (Kd.int .i64) w A1 l1.length l1) (hc1 : l1.length ≤ c1) (h : collatorlaw06_HunksOne.f k l0 l1 a2 = some r) :
  Calls Try.prog 4 #[.slice A0 l0.length c0, .slice A1 l1.length c1, .int .i64 a2] w fun e w' => e = .returned (.bool r) ∧ Below w.heap.size w w' := by
 have hu28 := Try.underlying28
 have HR0 := Aside0.mk hr0
 have HC0 := Aside0.mk hc0
 clear hr0 hc0
 have HR1 := Aside0.mk hr1
 have HC1 := Aside0.mk hc1
 clear hr1 hc1
 have HB := Aside0.mk (Below.refl w.heap.size w)
 have H : ((collatorlaw06_awake.f).bind fun t516 => ((collatorlaw04_Script.f k l0 l1).bind fun bt517 => ((collatorlaw06_pick.f a2 6).bind fun t523 => ((hunks_Make.f k bt517.1 t523).bind fun bt524 => ((hunks_Apply.f k bt524.1 bt517.2).bind fun bt528 => (collatorlaw06_HunksOne.l0 k t516 bt524.1 bt524.2 bt528.1 bt528.2 bt517.2 (wrap64 ((bt524.1.length : Int) - 1)))))))) = some r := h
 clear h
 replace H := Option.bind_eq_some_iff.mp H
 obtain ⟨t516, A40, H⟩ := H
 replace H : ((collatorlaw04_Script.f k l0 l1).bind fun bt517 => ((collatorlaw06_pick.f a2 6).bind fun t523 => ((hunks_Make.f k bt517.1 t523).bind fun bt524 => ((hunks_Apply.f k bt524.1 bt517.2).bind fun bt528 => (collatorlaw06_HunksOne.l0 k t516 bt524.1 bt524.2 bt528.1 bt528.2 bt517.2 (wrap64 ((bt524.1.length : Int) - 1))))))) = some r := H
 have A4 := Aside0.mk A40
 clear A40
 replace H := Option.bind_eq_some_iff.mp H
 obtain ⟨⟨t517, t518⟩, A50, H⟩ := H
 replace H : ((collatorlaw06_pick.f a2 6).bind fun t523 => ((hunks_Make.f k t517 t523).bind fun bt524 => ((hunks_Apply.f k bt524.1 t518).bind fun bt528 => (collatorlaw06_HunksOne.l0 k t516 bt524.1 bt524.2 bt528.1 bt528.2 t518 (wrap64 ((bt524.1.length : Int) - 1)))))) = some r := H
 have A5 := Aside0.mk A50
 clear A50
 replace H := Option.bind_eq_some_iff.mp H
 obtain ⟨t523, A60, H⟩ := H
 replace H : ((hunks_Make.f k t517 t523).bind fun bt524 => ((hunks_Apply.f k bt524.1 t518).bind fun bt528 => (collatorlaw06_HunksOne.l0 k t516 bt524.1 bt524.2 bt528.1 bt528.2 t518 (wrap64 ((bt524.1.length : Int) - 1))))) = some r := H
 have A6 := Aside0.mk A60
 clear A60
 replace H := Option.bind_eq_some_iff.mp H
 obtain ⟨⟨t524, t525⟩, A70, H⟩ := H
 replace H : ((hunks_Apply.f k t524 t518).bind fun bt528 => (collatorlaw06_HunksOne.l0 k t516 t524 t525 bt528.1 bt528.2 t518 (wrap64 ((t524.length : Int) - 1)))) = some r := H
 have A7 := Aside0.mk A70
 clear A70
 replace H := Option.bind_eq_some_iff.mp H
 obtain ⟨⟨t528, t529⟩, A80, H⟩ := H
 replace H : (collatorlaw06_HunksOne.l0 k t516 t524 t525 t528 t529 t518 (wrap64 ((t524.length : Int) - 1))) = some r := H
 have A8 := Aside0.mk A80
 clear A80
 have H' := Aside0.mk H
 clear H
 go_enter Try.func4, Try.ntmps4
 go_wp2_with (first | ((with_reducible refine gate_callee (f := 9) rfl ?_); refine goesL_ (some 18) rfl rfl Try.func9 (by kernel_rfl) rfl #[] rfl mp_ ?_; (with_reducible refine (collatorlaw06_awake.calls  t516 _ A4.out).mono ?_); rintro e w9 ⟨rfl, hb⟩; refine ⟨_, rfl, ?_⟩; have n0_ := Aside0.mk (below_step hb_ hb); clear HB; have HB := n0_; clear n0_; (try clear hb); (try clear hb2); (try clear hk); (try clear hi)) | ((with_reducible refine gate_callee (f := 10) rfl ?_); refine goesL_ (some 22) rfl rfl Try.func10 (by kernel_rfl) rfl #[.slice A0 l0.length c0, .slice A1 l1.length c1] rfl mp_ ?_; (with_reducible refine (collatorlaw04_Script.calls k _ _ l0 _ _ l1 t517 t518 _ ?side1 ?side2 ?side3 ?side4 A5.out).mono ?_); (case side1 => repeat (first | exact (Kd.C_below HR0.out HB.out) | (with_reducible refine Kd.C_alloc ?_ _) | (with_reducible refine Kd.C_drewN ?_ _) | (with_reducible refine Kd.C_drew ?_))); (case side2 => exact HC0.out); (case side3 => repeat (first | exact (Kd.C_below HR1.out HB.out) | (with_reducible refine Kd.C_alloc ?_ _) | (with_reducible refine Kd.C_drewN ?_ _) | (with_reducible refine Kd.C_drew ?_))); (case side4 => exact HC1.out); rintro e w10 ⟨v519, v521, rfl, ho0, ho1, hb⟩; refine ⟨_, rfl, ?_⟩; have n0_ := Aside0.mk (Kd.N_lower (Kd.N_mono (ok' := fun k_ => some k_ ≠ (v521 : Value).ownBlock) (Kd.S_N (Kd.S_bound ho0)) (fun k_ hk_ => hk_.1)) (below_size hb_)); have n1_ := Aside0.mk (Kd.R_lower ho1 (below_size hb_)); have n2_ := Aside0.mk (below_step hb_ hb); clear HB; have HO520 := n0_; have HO522 := n1_; have HB := n2_; clear n0_ n1_ n2_; (try clear hb); (try clear hb2); (try clear hk); (try clear hi); (try clear ho0); (try clear ho1)) | ((with_reducible refine gate_callee (f := 11) rfl ?_); refine goesL_ (some 28) rfl rfl Try.func11 (by kernel_rfl) rfl #[.int .i64 a2, .int .i64 6] rfl mp_ ?_; (with_reducible refine (collatorlaw06_pick.calls a2 6 t523 _ A6.out).mono ?_); rintro e w' ⟨rfl, ⟨nd, rfl⟩⟩; refine ⟨_, rfl, ?_⟩; (try (obtain ⟨Ao11, co11, eo11⟩ := Kd.N_slice HO520.out; subst eo11))) | ((with_reducible refine gate_callee (f := 12) rfl ?_); refine goesL_ (some 29) rfl rfl Try.func12 (by kernel_rfl) rfl #[.slice Ao11 t517.length co11, .int .i64 t523] rfl mp_ ?_; (with_reducible refine (hunks_Make.calls k _ _ t517 t523 t524 t525 _ ?side1 ?side2 A7.out).mono ?_); (case side1 => repeat (first | exact (Kd.N_reads' HO520.out).2.2 | (with_reducible refine Kd.C_alloc ?_ _) | (with_reducible refine Kd.C_drewN ?_ _) | (with_reducible refine Kd.C_drew ?_))); (case side2 => exact (Kd.N_reads' HO520.out).2.1); rintro e w12 ⟨v526, rfl, ho0, hb⟩; refine ⟨_, rfl, ?_⟩; have n0_ := Aside0.mk (Kd.N_elder' (by (with_reducible repeat (first | apply Kd.N_alloc | apply Kd.N_drewN | apply Kd.N_drew)); exact HO520.out) (by first | exact Kd.N_base ho0 | exact Kd.S_base ho0 | exact Kd.N_base (Kd.R_N ho0)) hb); have n1_ := Aside0.mk (Kd.R_below (by (with_reducible repeat (first | apply Kd.R_alloc | apply Kd.R_drewN | apply Kd.R_drew)); exact HO522.out) hb); have n2_ := Aside0.mk (Kd.N_lower (Kd.N_mono (ok' := fun k_ => some k_ ≠ (.slice Ao11 t517.length co11 : Value).ownBlock ∧ some k_ ≠ (v521 : Value).ownBlock) (Kd.R_N (Kd.R_bound ho0)) (fun k_ hk_ => ⟨(Kd.fresh' (Kd.N_lt (by (with_reducible repeat (first | apply Kd.N_alloc | apply Kd.N_drewN | apply Kd.N_drew)); exact HO520.out)) k_ hk_.2.1), (Kd.fresh' (Kd.R_lt (by (with_reducible repeat (first | apply Kd.R_alloc | apply Kd.R_drewN | apply Kd.R_drew)); exact HO522.out)) k_ hk_.2.1)⟩)) (below_size hb_)); have n3_ := Aside0.mk (below_step hb_ hb); clear HO520; clear HO522; clear HB; have HO520 := n0_; have HO522 := n1_; have HO527 := n2_; have HB := n3_; clear n0_ n1_ n2_ n3_; (try clear hb); (try clear hb2); (try clear hk); (try clear hi); (try clear ho0); (try (obtain ⟨Ao13, co13, eo13⟩ := Kd.N_slice HO527.out; subst eo13)); (try (obtain ⟨Ao14, co14, eo14⟩ := Kd.R_slice HO522.out; subst eo14))) | ((with_reducible refine gate_callee (f := 22) rfl ?_); refine goesL_ (some 35) rfl rfl Try.func22 (by kernel_rfl) rfl #[.slice Ao13 t524.length co13, .slice Ao14 t518.length co14] rfl mp_ ?_; (with_reducible refine (hunks_Apply.calls k _ _ t524 _ _ t518 t528 t529 _ ?side1 ?side2 ?side3 ?side4 A8.out).mono ?_); (case side1 => repeat (first | exact (Kd.N_reads' HO527.out).2.2 | (with_reducible refine Kd.C_alloc ?_ _) | (with_reducible refine Kd.C_drewN ?_ _) | (with_reducible refine Kd.C_drew ?_))); (case side2 => exact (Kd.N_reads' HO527.out).2.1); (case side3 => repeat (first | exact (Kd.R_reads' HO522.out).2.2 | (with_reducible refine Kd.C_alloc ?_ _) | (with_reducible refine Kd.C_drewN ?_ _) | (with_reducible refine Kd.C_drew ?_))); (case side4 => exact (Kd.R_reads' HO522.out).2.1); rintro e w15 ⟨v530, rfl, ho0, hb⟩; refine ⟨_, rfl, ?_⟩; have n0_ := Aside0.mk (Kd.N_elder' (by (with_reducible repeat (first | apply Kd.N_alloc | apply Kd.N_drewN | apply Kd.N_drew)); exact HO520.out) (Kd.R_base ho0) hb); have n1_ := Aside0.mk (Kd.R_elder' (by (with_reducible repeat (first | apply Kd.R_alloc | apply Kd.R_drewN | apply Kd.R_drew)); exact HO522.out) (Kd.R_base ho0) hb); have n2_ := Aside0.mk (Kd.N_elder' (by (with_reducible repeat (first | apply Kd.N_alloc | apply Kd.N_drewN | apply Kd.N_drew)); exact HO527.out) (Kd.R_base ho0) hb); have n3_ := Aside0.mk (Kd.R_lower (Kd.R_new' ho0 (Kd.R_lt (by (with_reducible repeat (first | apply Kd.R_alloc | apply Kd.R_drewN | apply Kd.R_drew)); exact HO522.out))) (below_size hb_)); have n4_ := Aside0.mk (below_step hb_ hb); clear HO520; clear HO522; clear HO527; clear HB; have HO520 := n0_; have HO522 := n1_; have HO527 := n2_; have HO531 := n3_; have HB := n4_; clear n0_ n1_ n2_ n3_ n4_; (try clear hb); (try clear hb2); (try clear hk); (try clear hi); (try clear ho0)))
 go_loopg [14, 15] k (fun kq v14 v15 w' => ∃ (x14_1 : List ByteArray) (x15_1 : Int), v15 = .int .i64 x15_1 ∧ Aside0 (collatorlaw06_HunksOne.l0 kq t516 t524 t525 t528 t529 x14_1 x15_1 = some r) ∧ Aside0 (kq ≤ k) ∧ Aside0 (Kd.N k28 28 w' w.heap.size (fun k_ => some k_ ≠ (v530 : Value).ownBlock ∧ some k_ ≠ (v14 : Value).ownBlock) (.slice Ao13 t524.length co13) t524) ∧ Aside0 (Kd.R Kd.string 9 w' w.heap.size (fun k_ => some k_ ≠ (v14 : Value).ownBlock) v530 t528) ∧ Aside0 (Kd.R Kd.string 9 w' w.heap.size (fun k_ => some k_ ≠ (v530 : Value).ownBlock) v14 x14_1) ∧ Aside0 (Below w.heap.size w w'))
 case atStart => exact ⟨(t518), (wrap64 ((t524.length : Int) - 1)), rf_, H', ⟨Nat.le_refl _⟩, ⟨by (with_reducible repeat (first | apply Kd.N_alloc | apply Kd.N_drewN | apply Kd.N_drew)); exact Kd.N_mono HO527.out (fun _ hk => by first | exact ⟨hk.2, hk.1.2⟩ | simp_all)⟩, ⟨by (with_reducible repeat (first | apply Kd.R_alloc | apply Kd.R_drewN | apply Kd.R_drew)); exact Kd.R_mono HO531.out (fun _ hk => hk.2)⟩, ⟨by (with_reducible repeat (first | apply Kd.R_alloc | apply Kd.R_drewN | apply Kd.R_drew)); exact Kd.R_mono HO522.out (fun _ hk => hk.2)⟩, ⟨by repeat (first | (with_reducible first | exact HB.out | apply below_alloc | apply pw_below_drewN | apply below_drew1) | exact HB.out)⟩⟩
 case round =>
  clear H'
  (try clear c1);(try clear c2);(try clear p2);(try clear c4);(try clear p6);(try clear c9);(try clear c10);(try clear c11);(try clear c12)
  obtain ⟨x14_1, x15_1, rfl, HA, HK1, HO_10, HO_12, HO_14, HB⟩ := hrel
  cases gk with
  | zero => exact absurd HA.out (by simp [collatorlaw06_HunksOne.l0])
  | succ k1 =>
   have H := HA.out
   clear HA
   simp only [collatorlaw06_HunksOne.l0] at H
   by_cases c16 : x15_1 ≥ 0
   ·rw [if_pos c16] at H
    have c16b0 : decide (0 ≤ x15_1) = true := decide_eq_true c16
    clear c16
    by_cases c17 : 0 ≤ x15_1
    ·rw [if_pos c17] at H
     have c17b0 : decide (0 ≤ x15_1) = true := decide_eq_true c17
     clear c17
     by_cases c18 : x15_1 < (t524.length : Int)
     ·rw [if_pos c18] at H
      have c18b0 : decide (x15_1 < (t524.length : Int)) = true := decide_eq_true c18
      clear c18
      obtain ⟨y535, hy535⟩ : ∃ y_ : List (S28), y_ = (([(⟨(rd_T28 t524 x15_1).f0, (rd_T28 t524 x15_1).f0, (rd_T28 t524 x15_1).f2⟩ : S28)] : List (S28))) := ⟨_, rfl⟩
      replace H : ((hunks_Apply.f k1 y535 x14_1).bind fun bt538 => (if bt538.2 = 0 then (collatorlaw06_HunksOne.l0 k1 t516 t524 t525 t528 t529 bt538.1 (wrap64 (x15_1 - 1))) else (some false))) = some r := by first | (rw [hy535]; with_reducible exact H) | (have H2_ := (Option.bind_some _ _).symm.trans H; rw [hy535]; with_reducible exact H2_) | (have H2_ := (Option.bind_some _ _).symm.trans H; with_reducible exact H2_) | with_reducible exact H | (rw [hy535]; exact H) | exact H
      have Ny535 := Aside0.mk hy535
      clear hy535
      replace H := Option.bind_eq_some_iff.mp H
      obtain ⟨⟨t538, t539⟩, A190, H⟩ := H
      replace H : (if t539 = 0 then (collatorlaw06_HunksOne.l0 k1 t516 t524 t525 t528 t529 t538 (wrap64 (x15_1 - 1))) else (some false)) = some r := H
      have A19 := Aside0.mk A190
      clear A190
      by_cases c20 : t539 = 0
      ·rw [if_pos c20] at H
       have c20b0 : (t539 == 0) = true := beq_iff_eq.mpr c20
       have c20b1 : (t539 != 0) = false := bne_eq_false_iff_eq.mpr c20
       clear c20
       have H' := Aside0.mk H
       clear H
       try go_wp2
       have n0_ := Aside0.mk (Kd.N_drew HO_10.out)
       have n1_ := Aside0.mk (Kd.R_drew HO_12.out)
       have n2_ := Aside0.mk (Kd.R_drew HO_14.out)
       have n3_ := Aside0.mk (below_drew1 HB.out)
       clear HO_10
       clear HO_12
       clear HO_14
       clear HB
       have HO_10 := n0_
       have HO_12 := n1_
       have HO_14 := n2_
       have HB := n3_
       clear n0_ n1_ n2_ n3_
       have p532 : 0 ≤ (x15_1 : Int) := of_decide_eq_true as_
       have q532 : x15_1 < (t524.length : Int) := of_decide_eq_true as_
       obtain ⟨ad532, A532_2, c532_2, e532, hx532_0, hx532_1, hx532_2, hl532_2, hi532_2⟩ := at_T28 (Kd.N_reads' HO_10.out).2.2 x15_1 p532 q532
       cases e532
       obtain ⟨ce532, hce532, hMe532, hcc532⟩ := Kd.N_get HO_10.out z28 x15_1 p532 (by first | exact q532 | exact of_decide_eq_true as_ | (have e_ := (Kd.N_reads' HO_10.out).1; omega))
       obtain ⟨ua532_2, uc532_2, rfl, ul532_2, ge532_2⟩ := k28_openF hMe532
       have hv532_2 := hcc532 2 _ rfl
       rw [add_field _ _ 2 (by omega)] at hv532_2
       replace hv532_2 := Option.some.inj (hv532_2.symm.trans hx532_2)
       injection hv532_2 with hva_ hvn_ hvc_
       rw [hva_] at ge532_2
       rw [hvc_] at ul532_2
       have HL532_2 := Aside0.mk (show Kd.V k31 31 _ w.heap.size _ _ ((rd_T28 t524 x15_1).f2) from Kd.V_mk ul532_2 ge532_2)
       clear hva_ hvn_ hvc_ ge532_2 ul532_2
       clear hcc532 hce532
       have HR532_2 := Aside0.mk hi532_2
       have HC532_2 := Aside0.mk hl532_2
       clear hi532_2 hl532_2
       replace p532 := eq_true p532
       replace q532 := eq_true q532
       have p533 : 0 ≤ (x15_1 : Int) := of_decide_eq_true as_
       have q533 : x15_1 < (t524.length : Int) := of_decide_eq_true as_
       obtain ⟨ad533, A533_2, c533_2, e533, hx533_0, hx533_1, hx533_2, hl533_2, hi533_2⟩ := at_T28 (Kd.N_reads' HO_10.out).2.2 x15_1 p533 q533
       obtain rfl : ad532 = ad533 := (by injection e533)
       obtain ⟨ce533, hce533, hMe533, hcc533⟩ := Kd.N_get HO_10.out z28 x15_1 p533 (by first | exact q533 | exact of_decide_eq_true as_ | (have e_ := (Kd.N_reads' HO_10.out).1; omega))
       obtain ⟨ua533_2, uc533_2, rfl, ul533_2, ge533_2⟩ := k28_openF hMe533
       have hv533_2 := hcc533 2 _ rfl
       rw [add_field _ _ 2 (by omega)] at hv533_2
       replace hv533_2 := Option.some.inj (hv533_2.symm.trans hx533_2)
       injection hv533_2 with hva_ hvn_ hvc_
       rw [hva_] at ge533_2
       rw [hvc_] at ul533_2
       have HL533_2 := Aside0.mk (show Kd.V k31 31 _ w.heap.size _ _ ((rd_T28 t524 x15_1).f2) from Kd.V_mk ul533_2 ge533_2)
       clear hva_ hvn_ hvc_ ge533_2 ul533_2
       clear hcc533 hce533
       have HR533_2 := Aside0.mk hi533_2
       have HC533_2 := Aside0.mk hl533_2
       clear hi533_2 hl533_2
       replace p533 := eq_true p533
       replace q533 := eq_true q533
       have ea_ := Option.some.inj (hx532_2.symm.trans hx533_2)
       injection ea_ with ea_ en_ ec_
       subst ea_
       subst ec_
       clear en_
       have p534 : 0 ≤ (x15_1 : Int) := of_decide_eq_true as_
       have q534 : x15_1 < (t524.length : Int) := of_decide_eq_true as_
       obtain ⟨ad534, A534_2, c534_2, e534, hx534_0, hx534_1, hx534_2, hl534_2, hi534_2⟩ := at_T28 (Kd.N_reads' HO_10.out).2.2 x15_1 p534 q534
       obtain rfl : ad532 = ad534 := (by injection e534)
       obtain ⟨ce534, hce534, hMe534, hcc534⟩ := Kd.N_get HO_10.out z28 x15_1 p534 (by first | exact q534 | exact of_decide_eq_true as_ | (have e_ := (Kd.N_reads' HO_10.out).1; omega))
       obtain ⟨ua534_2, uc534_2, rfl, ul534_2, ge534_2⟩ := k28_openF hMe534
       have hv534_2 := hcc534 2 _ rfl
       rw [add_field _ _ 2 (by omega)] at hv534_2
       replace hv534_2 := Option.some.inj (hv534_2.symm.trans hx534_2)
       injection hv534_2 with hva_ hvn_ hvc_
       rw [hva_] at ge534_2
       rw [hvc_] at ul534_2
       have HL534_2 := Aside0.mk (show Kd.V k31 31 _ w.heap.size _ _ ((rd_T28 t524 x15_1).f2) from Kd.V_mk ul534_2 ge534_2)
       clear hva_ hvn_ hvc_ ge534_2 ul534_2
       clear hcc534 hce534
       have HR534_2 := Aside0.mk hi534_2
       have HC534_2 := Aside0.mk hl534_2
       clear hi534_2 hl534_2
       replace p534 := eq_true p534
       replace q534 := eq_true q534
       have ea_ := Option.some.inj (hx532_2.symm.trans hx534_2)
       injection ea_ with ea_ en_ ec_
       subst ea_
       subst ec_
       clear en_
       refine start_ (n := 24) (S := fun w' => w'.cell? (ad532.add ((x15_1).toNat * 3)) = some (.int .i64 ((rd_T28 t524 x15_1).f0)) ∧ w'.cell? ⟨(ad532.add ((x15_1).toNat * 3)).block, (ad532.add ((x15_1).toNat * 3)).off + 1, none⟩ = some (.int .i64 ((rd_T28 t524 x15_1).f1)) ∧ w'.cell? ⟨(ad532.add ((x15_1).toNat * 3)).block, (ad532.add ((x15_1).toNat * 3)).off + 2, none⟩ = some (.slice A532_2 ((rd_T28 t524 x15_1).f2).length c532_2) ∧ w'.cell? (ad532.add ((x15_1).toNat * 3)) = some (.int .i64 ((rd_T28 t524 x15_1).f0)) ∧ w'.cell? ⟨(ad532.add ((x15_1).toNat * 3)).block, (ad532.add ((x15_1).toNat * 3)).off + 1, none⟩ = some (.int .i64 ((rd_T28 t524 x15_1).f1)) ∧ w'.cell? ⟨(ad532.add ((x15_1).toNat * 3)).block, (ad532.add ((x15_1).toNat * 3)).off + 2, none⟩ = some (.slice A532_2 ((rd_T28 t524 x15_1).f2).length c532_2) ∧ w'.cell? (ad532.add ((x15_1).toNat * 3)) = some (.int .i64 ((rd_T28 t524 x15_1).f0)) ∧ w'.cell? ⟨(ad532.add ((x15_1).toNat * 3)).block, (ad532.add ((x15_1).toNat * 3)).off + 1, none⟩ = some (.int .i64 ((rd_T28 t524 x15_1).f1)) ∧ w'.cell? ⟨(ad532.add ((x15_1).toNat * 3)).block, (ad532.add ((x15_1).toNat * 3)).off + 2, none⟩ = some (.slice A532_2 ((rd_T28 t524 x15_1).f2).length c532_2)) (ds := []) #[false, false, false, false, false, false, false, false, false, false, false, false, false, false, false, false, false, false, false, false, false, false, false, false] (by kernel_rfl) rfl rfl ⟨hx532_0, hx532_1, hx532_2, hx533_0, hx533_1, hx533_2, hx534_0, hx534_1, hx534_2⟩ (fun hHeld => ?_); refine with_tabW collatorlaw06_HunksOne.tab9 collatorlaw06_HunksOne.bits9 (fun HT_ HW_ => ?_)
       generalize wr.drew = w21 at HO_10 HO_12 HO_14 HB HL532_2 HL533_2 HL534_2 HR532_2 HR533_2 HR534_2 hx532_0 hx532_1 hx532_2 hx533_0 hx533_1 hx533_2 hx534_0 hx534_1 hx534_2 hHeld ⊢
       refine pu_ (i := 0) (N := some 47) (any_of HT_.out (by kernel_rfl)) ?_
       refine pu_ (i := 1) (N := some 48) (any_of HT_.out (by kernel_rfl)) ?_
       refine pu_ (i := 2) (N := some 49) (any_of HT_.out (by kernel_rfl)) ?_
       refine pu_ (i := 3) (N := some 50) (any_of HT_.out (by kernel_rfl)) ?_
       refine pu_ (i := 5) (N := some 52) (any_of HT_.out (by kernel_rfl)) ?_
       refine pu_ (i := 6) (N := some 53) (any_of HT_.out (by kernel_rfl)) ?_
       refine pu_ (i := 7) (N := some 54) (any_of HT_.out (by kernel_rfl)) ?_
       refine pu_ (i := 8) (N := some 55) (any_of HT_.out (by kernel_rfl)) ?_
       refine pu_ (i := 10) (N := some 57) (any_of HT_.out (by kernel_rfl)) ?_
       refine pu_ (i := 11) (N := some 58) (any_of HT_.out (by kernel_rfl)) ?_
       refine pu_ (i := 12) (N := some 59) (any_of HT_.out (by kernel_rfl)) ?_
       refine pu_ (i := 13) (N := some 60) (any_of HT_.out (by kernel_rfl)) ?_
       refine pu_ (i := 17) (N := some 64) (any_of HT_.out (by kernel_rfl)) ?_
       refine ta_ (i := 4) (N := some 51) (take_ofW HT_.out HW_.out (by kernel_rfl)) hHeld ?_
       refine ta_ (i := 9) (N := some 56) (take_ofW HT_.out HW_.out (by kernel_rfl)) hHeld ?_
       refine ta_ (i := 14) (N := some 61) (take_ofW HT_.out HW_.out (by kernel_rfl)) hHeld ?_
       refine pu_ (i := 15) (N := some 62) (any_of HT_.out (by kernel_rfl)) ?_
       refine one_ (i := 16) (N := some 63) #[true, true, true, true, true, true, true, true, true, true, true, true, true, true, true, true, true, true, false, false, false, false, false, false] rfl rfl (one_of HT_.out (by kernel_rfl)) (by decide) (fun K hK => ?_)
       refine Kd.N_lit_step k28 _ 28 ?hg (N' := 63) ?hd (xs := ([(⟨(rd_T28 t524 x15_1).f0, (rd_T28 t524 x15_1).f0, (rd_T28 t524 x15_1).f2⟩ : S28)] : List (S28))) (inner := [.int .i64 ((rd_T28 t524 x15_1).f0), .int .i64 ((rd_T28 t524 x15_1).f0), .slice A532_2 ((rd_T28 t524 x15_1).f2).length c532_2]) (ok := (fun k_ => some k_ ≠ (.slice (some ad532) t524.length co13 : Value).ownBlock ∧ some k_ ≠ (v530 : Value).ownBlock ∧ some k_ ≠ (u14 : Value).ownBlock)) (okp := (fun k_ => some k_ ≠ (.slice (some ad532) t524.length co13 : Value).ownBlock ∧ some k_ ≠ (v530 : Value).ownBlock ∧ some k_ ≠ (u14 : Value).ownBlock)) ?hr ?hp (fun _ hk => hk) ((show ∀ k_, w21.heap.size ≤ k_ → (fun k_ => some k_ ≠ (.slice (some ad532) t524.length co13 : Value).ownBlock ∧ some k_ ≠ (v530 : Value).ownBlock ∧ some k_ ≠ (u14 : Value).ownBlock) k_ from fun k_ hk => ⟨Kd.fresh' (Kd.N_lt (by (with_reducible repeat (first | apply Kd.N_alloc | apply Kd.N_drewN | apply Kd.N_drew)); exact HO_10.out)) k_ hk, Kd.fresh' (Kd.R_lt (by (with_reducible repeat (first | apply Kd.R_alloc | apply Kd.R_drewN | apply Kd.R_drew)); exact HO_12.out)) k_ hk, Kd.fresh' (Kd.R_lt (by (with_reducible repeat (first | apply Kd.R_alloc | apply Kd.R_drewN | apply Kd.R_drew)); exact HO_14.out)) k_ hk⟩) _ (Nat.le_refl _)) (Below.refl _ _) (Nat.le_refl _) (by simp) ?_; (case hd => rfl); (case hg => rfl); (case hr => first | (go_simp; done) | (go_simp; rfl)); (case hp => exact (Reps.c3 (show Kd.FK k28 _ _ (⟨(rd_T28 t524 x15_1).f0, (rd_T28 t524 x15_1).f0, (rd_T28 t524 x15_1).f2⟩ : S28) [.int .i64 ((rd_T28 t524 x15_1).f0), .int .i64 ((rd_T28 t524 x15_1).f0), .slice A532_2 ((rd_T28 t524 x15_1).f2).length c532_2] from (k28_mkF _ _ (⟨(rd_T28 t524 x15_1).f0, (rd_T28 t524 x15_1).f0, (rd_T28 t524 x15_1).f2⟩ : S28) (Kd.V_reads' (Kd.V_mono (ok' := (fun k_ => some k_ ≠ (.slice (some ad532) t524.length co13 : Value).ownBlock ∧ some k_ ≠ (v530 : Value).ownBlock ∧ some k_ ≠ (u14 : Value).ownBlock)) (HL534_2.out) (fun k_ hk => ⟨hk.2, ⟨hk.1.1, hk.1.2⟩⟩))).2.1 (Kd.V_F (Kd.V_mono (ok' := (fun k_ => some k_ ≠ (.slice (some ad532) t524.length co13 : Value).ownBlock ∧ some k_ ≠ (v530 : Value).ownBlock ∧ some k_ ≠ (u14 : Value).ownBlock)) (HL534_2.out) (fun k_ hk => ⟨hk.2, ⟨hk.1.1, hk.1.2⟩⟩))))) (Reps.none _ _)))
       intro v536 w22 ho23 hb hg_ hnew_
       have HS0_ := (hb.cell (World.block_lt_of_cell? _ _ (hHeld.1))).trans (hHeld.1)
       have HS1_ := (hb.cell (World.block_lt_of_cell? _ _ (hHeld.2.1))).trans (hHeld.2.1)
       have HS2_ := (hb.cell (World.block_lt_of_cell? _ _ (hHeld.2.2.1))).trans (hHeld.2.2.1)
       have HS3_ := (hb.cell (World.block_lt_of_cell? _ _ (hHeld.2.2.2.1))).trans (hHeld.2.2.2.1)
       have HS4_ := (hb.cell (World.block_lt_of_cell? _ _ (hHeld.2.2.2.2.1))).trans (hHeld.2.2.2.2.1)
       have HS5_ := (hb.cell (World.block_lt_of_cell? _ _ (hHeld.2.2.2.2.2.1))).trans (hHeld.2.2.2.2.2.1)
       have HS6_ := (hb.cell (World.block_lt_of_cell? _ _ (hHeld.2.2.2.2.2.2.1))).trans (hHeld.2.2.2.2.2.2.1)
       have HS7_ := (hb.cell (World.block_lt_of_cell? _ _ (hHeld.2.2.2.2.2.2.2.1))).trans (hHeld.2.2.2.2.2.2.2.1)
       have HS8_ := (hb.cell (World.block_lt_of_cell? _ _ (hHeld.2.2.2.2.2.2.2.2))).trans (hHeld.2.2.2.2.2.2.2.2)
       clear hg_ hnew_
       (first | rw [← Ny535.out] at ho23 | (simp only [Int.reduceToNat] at ho23; rw [← Ny535.out] at ho23))
       have n0_ := Aside0.mk (Kd.N_elder' (by (with_reducible repeat (first | apply Kd.N_alloc | apply Kd.N_drewN | apply Kd.N_drew)); exact HO_10.out) (by first | exact Kd.N_base ho23 | exact Kd.S_base ho23) hb)
       have n1_ := Aside0.mk (Kd.R_below (by (with_reducible repeat (first | apply Kd.R_alloc | apply Kd.R_drewN | apply Kd.R_drew)); exact HO_12.out) hb)
       have n2_ := Aside0.mk (Kd.R_below (by (with_reducible repeat (first | apply Kd.R_alloc | apply Kd.R_drewN | apply Kd.R_drew)); exact HO_14.out) hb)
       have n3_ := Aside0.mk (Kd.V_elder' (by (with_reducible repeat (first | apply Kd.V_alloc | apply Kd.V_drewN | apply Kd.V_drew)); exact HL532_2.out) (by first | exact Kd.N_base ho23 | exact Kd.S_base ho23) hb)
       have n4_ := Aside0.mk (Kd.V_elder' (by (with_reducible repeat (first | apply Kd.V_alloc | apply Kd.V_drewN | apply Kd.V_drew)); exact HL533_2.out) (by first | exact Kd.N_base ho23 | exact Kd.S_base ho23) hb)
       have n5_ := Aside0.mk (Kd.V_elder' (by (with_reducible repeat (first | apply Kd.V_alloc | apply Kd.V_drewN | apply Kd.V_drew)); exact HL534_2.out) (by first | exact Kd.N_base ho23 | exact Kd.S_base ho23) hb)
       have n6_ := Aside0.mk (Kd.N_lower ho23 (below_size hb_))
       have n7_ := Aside0.mk (Kd.C_below (by repeat (first | (with_reducible exact HR532_2.out) | (with_reducible refine Kd.C_alloc ?_ _) | (with_reducible refine Kd.C_drewN ?_ _) | (with_reducible refine Kd.C_drew ?_) | exact HR532_2.out)) hb)
       have n8_ := Aside0.mk (Kd.C_below (by repeat (first | (with_reducible exact HR533_2.out) | (with_reducible refine Kd.C_alloc ?_ _) | (with_reducible refine Kd.C_drewN ?_ _) | (with_reducible refine Kd.C_drew ?_) | exact HR533_2.out)) hb)
       have n9_ := Aside0.mk (Kd.C_below (by repeat (first | (with_reducible exact HR534_2.out) | (with_reducible refine Kd.C_alloc ?_ _) | (with_reducible refine Kd.C_drewN ?_ _) | (with_reducible refine Kd.C_drew ?_) | exact HR534_2.out)) hb)
       have n10_ := Aside0.mk (below_step hb_ hb)
       clear HO_10
       clear HO_12
       clear HO_14
       clear HL532_2
       clear HL533_2
       clear HL534_2
       clear HR532_2
       clear HR533_2
       clear HR534_2
       clear HB
       have HO_10 := n0_
       have HO_12 := n1_
       have HO_14 := n2_
       have HL532_2 := n3_
       have HL533_2 := n4_
       have HL534_2 := n5_
       have HO537 := n6_
       have HR532_2 := n7_
       have HR533_2 := n8_
       have HR534_2 := n9_
       have HB := n10_
       clear n0_ n1_ n2_ n3_ n4_ n5_ n6_ n7_ n8_ n9_ n10_
       clear hb ho23
       obtain ⟨Ao24, co24, eo24⟩ := Kd.N_slice HO537.out
       (first | subst eo24 | (injection eo24 with f1_ f2_ f3_; have f4_ := f1_.symm; have f5_ := f3_.symm; clear f1_ f2_ f3_; subst f4_; subst f5_))
       obtain ⟨Ao25, co25, eo25⟩ := Kd.R_slice HO_14.out
       (first | subst eo25 | (injection eo25 with f1_ f2_ f3_; have f4_ := f1_.symm; have f5_ := f3_.symm; clear f1_ f2_ f3_; subst f4_; subst f5_))
       refine hK.out _ _ ⟨HS0_, HS1_, HS2_, HS3_, HS4_, HS5_, HS6_, HS7_, HS8_⟩ (fun hHeld => ?_)
       clear hK K
       refine norm_ (a' := ?_) ?_ ?_
       rotate_left
       ·show Act.put _ (some 63) _ = _
        simp only [Act.put, List.setIfInBounds_toArray, List.set_cons_zero, List.set_cons_succ, i64_w, i32_w]
        rfl
       refine one_ (i := 18) (N := some 65) #[true, true, true, true, true, true, true, true, true, true, true, true, true, true, true, true, true, true, true, false, false, false, false, false] rfl rfl (one_of HT_.out (by kernel_rfl)) (by decide) (fun K hK => ?_)
       refine goes_ Try.func22 (by kernel_rfl) rfl #[.slice Ao24 y535.length co24, .slice Ao25 x14_1.length co25] (by rfl) rfl rfl mp_ ?_
       with_reducible refine (hunks_Apply.calls k1 _ _ y535 _ _ x14_1 t538 t539 _ ?side1 ?side2 ?side3 ?side4 A19.out).mono ?_
       (case side1 => repeat (first | exact (Kd.N_reads' HO537.out).2.2 | (with_reducible refine Kd.C_alloc ?_ _) | (with_reducible refine Kd.C_drewN ?_ _) | (with_reducible refine Kd.C_drew ?_)))
       (case side2 => exact (Kd.N_reads' HO537.out).2.1)
       (case side3 => repeat (first | exact (Kd.R_reads' HO_14.out).2.2 | (with_reducible refine Kd.C_alloc ?_ _) | (with_reducible refine Kd.C_drewN ?_ _) | (with_reducible refine Kd.C_drew ?_)))
       (case side4 => exact (Kd.R_reads' HO_14.out).2.1)
       rintro e w26 ⟨v540, rfl, ho0, hb⟩
       have HS0_ := (hb.cell (World.block_lt_of_cell? _ _ (hHeld.1))).trans (hHeld.1)
       have HS1_ := (hb.cell (World.block_lt_of_cell? _ _ (hHeld.2.1))).trans (hHeld.2.1)
       have HS2_ := (hb.cell (World.block_lt_of_cell? _ _ (hHeld.2.2.1))).trans (hHeld.2.2.1)
       have HS3_ := (hb.cell (World.block_lt_of_cell? _ _ (hHeld.2.2.2.1))).trans (hHeld.2.2.2.1)
       have HS4_ := (hb.cell (World.block_lt_of_cell? _ _ (hHeld.2.2.2.2.1))).trans (hHeld.2.2.2.2.1)
       have HS5_ := (hb.cell (World.block_lt_of_cell? _ _ (hHeld.2.2.2.2.2.1))).trans (hHeld.2.2.2.2.2.1)
       have HS6_ := (hb.cell (World.block_lt_of_cell? _ _ (hHeld.2.2.2.2.2.2.1))).trans (hHeld.2.2.2.2.2.2.1)
       have HS7_ := (hb.cell (World.block_lt_of_cell? _ _ (hHeld.2.2.2.2.2.2.2.1))).trans (hHeld.2.2.2.2.2.2.2.1)
       have HS8_ := (hb.cell (World.block_lt_of_cell? _ _ (hHeld.2.2.2.2.2.2.2.2))).trans (hHeld.2.2.2.2.2.2.2.2)
       refine ⟨_, rfl, ?_⟩
       have n0_ := Aside0.mk (Kd.N_elder' (by (with_reducible repeat (first | apply Kd.N_alloc | apply Kd.N_drewN | apply Kd.N_drew)); exact HO_10.out) (Kd.R_base ho0) hb)
       have n1_ := Aside0.mk (Kd.R_elder' (by (with_reducible repeat (first | apply Kd.R_alloc | apply Kd.R_drewN | apply Kd.R_drew)); exact HO_12.out) (Kd.R_base ho0) hb)
       have n2_ := Aside0.mk (Kd.R_elder' (by (with_reducible repeat (first | apply Kd.R_alloc | apply Kd.R_drewN | apply Kd.R_drew)); exact HO_14.out) (Kd.R_base ho0) hb)
       have n3_ := Aside0.mk (Kd.V_elder' (by (with_reducible repeat (first | apply Kd.V_alloc | apply Kd.V_drewN | apply Kd.V_drew)); exact HL532_2.out) (Kd.R_base ho0) hb)
       have n4_ := Aside0.mk (Kd.V_elder' (by (with_reducible repeat (first | apply Kd.V_alloc | apply Kd.V_drewN | apply Kd.V_drew)); exact HL533_2.out) (Kd.R_base ho0) hb)
       have n5_ := Aside0.mk (Kd.V_elder' (by (with_reducible repeat (first | apply Kd.V_alloc | apply Kd.V_drewN | apply Kd.V_drew)); exact HL534_2.out) (Kd.R_base ho0) hb)
       have n6_ := Aside0.mk (Kd.N_elder' (by (with_reducible repeat (first | apply Kd.N_alloc | apply Kd.N_drewN | apply Kd.N_drew)); exact HO537.out) (Kd.R_base ho0) hb)
       have n7_ := Aside0.mk (Kd.R_lower (Kd.R_new' (Kd.R_new' ho0 (Kd.R_lt (by (with_reducible repeat (first | apply Kd.R_alloc | apply Kd.R_drewN | apply Kd.R_drew)); exact HO_12.out))) (Kd.R_lt (by (with_reducible repeat (first | apply Kd.R_alloc | apply Kd.R_drewN | apply Kd.R_drew)); exact HO_14.out))) (below_size hb_))
       have n8_ := Aside0.mk (Kd.C_below (by repeat (first | (with_reducible exact HR532_2.out) | (with_reducible refine Kd.C_alloc ?_ _) | (with_reducible refine Kd.C_drewN ?_ _) | (with_reducible refine Kd.C_drew ?_) | exact HR532_2.out)) hb)
       have n9_ := Aside0.mk (Kd.C_below (by repeat (first | (with_reducible exact HR533_2.out) | (with_reducible refine Kd.C_alloc ?_ _) | (with_reducible refine Kd.C_drewN ?_ _) | (with_reducible refine Kd.C_drew ?_) | exact HR533_2.out)) hb)
       have n10_ := Aside0.mk (Kd.C_below (by repeat (first | (with_reducible exact HR534_2.out) | (with_reducible refine Kd.C_alloc ?_ _) | (with_reducible refine Kd.C_drewN ?_ _) | (with_reducible refine Kd.C_drew ?_) | exact HR534_2.out)) hb)
       have n11_ := Aside0.mk (below_step hb_ hb)
       clear HO_10
       clear HO_12
       clear HO_14
       clear HL532_2
       clear HL533_2
       clear HL534_2
       clear HO537
       clear HR532_2
       clear HR533_2
       clear HR534_2
       clear HB
       have HO_10 := n0_
       have HO_12 := n1_
       have HO_14 := n2_
       have HL532_2 := n3_
       have HL533_2 := n4_
       have HL534_2 := n5_
       have HO537 := n6_
       have HO541 := n7_
       have HR532_2 := n8_
       have HR533_2 := n9_
       have HR534_2 := n10_
       have HB := n11_
       clear n0_ n1_ n2_ n3_ n4_ n5_ n6_ n7_ n8_ n9_ n10_ n11_
       (try clear hb)
       (try clear hb2)
       (try clear hk)
       (try clear hi)
       (try clear ho0)
       refine hK.out _ _ ⟨HS0_, HS1_, HS2_, HS3_, HS4_, HS5_, HS6_, HS7_, HS8_⟩ (fun hHeld => ?_)
       clear hK K
       refine norm_ (a' := ?_) ?_ ?_
       rotate_left
       ·show Act.put _ (some 65) _ = _
        simp only [Act.put, List.setIfInBounds_toArray, List.set_cons_zero, List.set_cons_succ, i64_w, i32_w]
        rfl
       refine pu_ (i := 19) (N := some 46) (any_of HT_.out (by kernel_rfl)) ?_
       refine pu_ (i := 20) (N := some 66) (any_of HT_.out (by kernel_rfl)) ?_
       refine pu_ (i := 21) (N := some 67) (any_of HT_.out (by kernel_rfl)) ?_
       refine pu_ (i := 22) (N := some 16) (any_of HT_.out (by kernel_rfl)) ?_
       refine pu_ (i := 23) (N := some 17) (any_of HT_.out (by kernel_rfl)) ?_
       refine done_ (done_of HT_.out (by kernel_rfl)) ?_
       try go_wp2
       go_roundg k1
       case measure => have := HK1.out; omega
       case rel => exact ⟨(t538), (wrap64 (x15_1 - 1)), rf_, H', ⟨by have := HK1.out; omega⟩, ⟨by (with_reducible repeat (first | apply Kd.N_alloc | apply Kd.N_drewN | apply Kd.N_drew)); exact Kd.N_mono HO_10.out (fun _ hk => by first | exact ⟨hk.1.1.1, hk.2⟩ | simp_all)⟩, ⟨by (with_reducible repeat (first | apply Kd.R_alloc | apply Kd.R_drewN | apply Kd.R_drew)); exact Kd.R_mono HO_12.out (fun _ hk => hk.2)⟩, ⟨by (with_reducible repeat (first | apply Kd.R_alloc | apply Kd.R_drewN | apply Kd.R_drew)); exact Kd.R_mono HO541.out (fun _ hk => hk.1.2)⟩, ⟨by repeat (first | (with_reducible first | exact HB.out | apply below_alloc | apply pw_below_drewN | apply below_drew1) | exact HB.out)⟩⟩
      ·rw [if_neg c20] at H
       have c20b0 : (t539 == 0) = false := beq_eq_false_iff_ne.mpr c20
       have c20b1 : (t539 != 0) = true := bne_iff_ne.mpr c20
       obtain rfl := Option.some.inj H
       try go_wp2
       have n0_ := Aside0.mk (Kd.N_drew HO_10.out)
       have n1_ := Aside0.mk (Kd.R_drew HO_12.out)
       have n2_ := Aside0.mk (Kd.R_drew HO_14.out)
       have n3_ := Aside0.mk (below_drew1 HB.out)
       clear HO_10
       clear HO_12
       clear HO_14
       clear HB
       have HO_10 := n0_
       have HO_12 := n1_
       have HO_14 := n2_
       have HB := n3_
       clear n0_ n1_ n2_ n3_
       have p532 : 0 ≤ (x15_1 : Int) := of_decide_eq_true as_
       have q532 : x15_1 < (t524.length : Int) := of_decide_eq_true as_
       obtain ⟨ad532, A532_2, c532_2, e532, hx532_0, hx532_1, hx532_2, hl532_2, hi532_2⟩ := at_T28 (Kd.N_reads' HO_10.out).2.2 x15_1 p532 q532
       cases e532
       obtain ⟨ce532, hce532, hMe532, hcc532⟩ := Kd.N_get HO_10.out z28 x15_1 p532 (by first | exact q532 | exact of_decide_eq_true as_ | (have e_ := (Kd.N_reads' HO_10.out).1; omega))
       obtain ⟨ua532_2, uc532_2, rfl, ul532_2, ge532_2⟩ := k28_openF hMe532
       have hv532_2 := hcc532 2 _ rfl
       rw [add_field _ _ 2 (by omega)] at hv532_2
       replace hv532_2 := Option.some.inj (hv532_2.symm.trans hx532_2)
       injection hv532_2 with hva_ hvn_ hvc_
       rw [hva_] at ge532_2
       rw [hvc_] at ul532_2
       have HL532_2 := Aside0.mk (show Kd.V k31 31 _ w.heap.size _ _ ((rd_T28 t524 x15_1).f2) from Kd.V_mk ul532_2 ge532_2)
       clear hva_ hvn_ hvc_ ge532_2 ul532_2
       clear hcc532 hce532
       have HR532_2 := Aside0.mk hi532_2
       have HC532_2 := Aside0.mk hl532_2
       clear hi532_2 hl532_2
       replace p532 := eq_true p532
       replace q532 := eq_true q532
       have p533 : 0 ≤ (x15_1 : Int) := of_decide_eq_true as_
       have q533 : x15_1 < (t524.length : Int) := of_decide_eq_true as_
       obtain ⟨ad533, A533_2, c533_2, e533, hx533_0, hx533_1, hx533_2, hl533_2, hi533_2⟩ := at_T28 (Kd.N_reads' HO_10.out).2.2 x15_1 p533 q533
       obtain rfl : ad532 = ad533 := (by injection e533)
       obtain ⟨ce533, hce533, hMe533, hcc533⟩ := Kd.N_get HO_10.out z28 x15_1 p533 (by first | exact q533 | exact of_decide_eq_true as_ | (have e_ := (Kd.N_reads' HO_10.out).1; omega))
       obtain ⟨ua533_2, uc533_2, rfl, ul533_2, ge533_2⟩ := k28_openF hMe533
       have hv533_2 := hcc533 2 _ rfl
       rw [add_field _ _ 2 (by omega)] at hv533_2
       replace hv533_2 := Option.some.inj (hv533_2.symm.trans hx533_2)
       injection hv533_2 with hva_ hvn_ hvc_
       rw [hva_] at ge533_2
       rw [hvc_] at ul533_2
       have HL533_2 := Aside0.mk (show Kd.V k31 31 _ w.heap.size _ _ ((rd_T28 t524 x15_1).f2) from Kd.V_mk ul533_2 ge533_2)
       clear hva_ hvn_ hvc_ ge533_2 ul533_2
       clear hcc533 hce533
       have HR533_2 := Aside0.mk hi533_2
       have HC533_2 := Aside0.mk hl533_2
       clear hi533_2 hl533_2
       replace p533 := eq_true p533
       replace q533 := eq_true q533
       have ea_ := Option.some.inj (hx532_2.symm.trans hx533_2)
       injection ea_ with ea_ en_ ec_
       subst ea_
       subst ec_
       clear en_
       have p534 : 0 ≤ (x15_1 : Int) := of_decide_eq_true as_
       have q534 : x15_1 < (t524.length : Int) := of_decide_eq_true as_
       obtain ⟨ad534, A534_2, c534_2, e534, hx534_0, hx534_1, hx534_2, hl534_2, hi534_2⟩ := at_T28 (Kd.N_reads' HO_10.out).2.2 x15_1 p534 q534
       obtain rfl : ad532 = ad534 := (by injection e534)
       obtain ⟨ce534, hce534, hMe534, hcc534⟩ := Kd.N_get HO_10.out z28 x15_1 p534 (by first | exact q534 | exact of_decide_eq_true as_ | (have e_ := (Kd.N_reads' HO_10.out).1; omega))
       obtain ⟨ua534_2, uc534_2, rfl, ul534_2, ge534_2⟩ := k28_openF hMe534
       have hv534_2 := hcc534 2 _ rfl
       rw [add_field _ _ 2 (by omega)] at hv534_2
       replace hv534_2 := Option.some.inj (hv534_2.symm.trans hx534_2)
       injection hv534_2 with hva_ hvn_ hvc_
       rw [hva_] at ge534_2
       rw [hvc_] at ul534_2
       have HL534_2 := Aside0.mk (show Kd.V k31 31 _ w.heap.size _ _ ((rd_T28 t524 x15_1).f2) from Kd.V_mk ul534_2 ge534_2)
       clear hva_ hvn_ hvc_ ge534_2 ul534_2
       clear hcc534 hce534
       have HR534_2 := Aside0.mk hi534_2
       have HC534_2 := Aside0.mk hl534_2
       clear hi534_2 hl534_2
       replace p534 := eq_true p534
       replace q534 := eq_true q534
       have ea_ := Option.some.inj (hx532_2.symm.trans hx534_2)
       injection ea_ with ea_ en_ ec_
       subst ea_
       subst ec_
       clear en_
       refine start_ (n := 24) (S := fun w' => w'.cell? (ad532.add ((x15_1).toNat * 3)) = some (.int .i64 ((rd_T28 t524 x15_1).f0)) ∧ w'.cell? ⟨(ad532.add ((x15_1).toNat * 3)).block, (ad532.add ((x15_1).toNat * 3)).off + 1, none⟩ = some (.int .i64 ((rd_T28 t524 x15_1).f1)) ∧ w'.cell? ⟨(ad532.add ((x15_1).toNat * 3)).block, (ad532.add ((x15_1).toNat * 3)).off + 2, none⟩ = some (.slice A532_2 ((rd_T28 t524 x15_1).f2).length c532_2) ∧ w'.cell? (ad532.add ((x15_1).toNat * 3)) = some (.int .i64 ((rd_T28 t524 x15_1).f0)) ∧ w'.cell? ⟨(ad532.add ((x15_1).toNat * 3)).block, (ad532.add ((x15_1).toNat * 3)).off + 1, none⟩ = some (.int .i64 ((rd_T28 t524 x15_1).f1)) ∧ w'.cell? ⟨(ad532.add ((x15_1).toNat * 3)).block, (ad532.add ((x15_1).toNat * 3)).off + 2, none⟩ = some (.slice A532_2 ((rd_T28 t524 x15_1).f2).length c532_2) ∧ w'.cell? (ad532.add ((x15_1).toNat * 3)) = some (.int .i64 ((rd_T28 t524 x15_1).f0)) ∧ w'.cell? ⟨(ad532.add ((x15_1).toNat * 3)).block, (ad532.add ((x15_1).toNat * 3)).off + 1, none⟩ = some (.int .i64 ((rd_T28 t524 x15_1).f1)) ∧ w'.cell? ⟨(ad532.add ((x15_1).toNat * 3)).block, (ad532.add ((x15_1).toNat * 3)).off + 2, none⟩ = some (.slice A532_2 ((rd_T28 t524 x15_1).f2).length c532_2)) (ds := []) #[false, false, false, false, false, false, false, false, false, false, false, false, false, false, false, false, false, false, false, false, false, false, false, false] (by kernel_rfl) rfl rfl ⟨hx532_0, hx532_1, hx532_2, hx533_0, hx533_1, hx533_2, hx534_0, hx534_1, hx534_2⟩ (fun hHeld => ?_); refine with_tabW collatorlaw06_HunksOne.tab9 collatorlaw06_HunksOne.bits9 (fun HT_ HW_ => ?_)
       generalize wr.drew = w27 at HO_10 HO_12 HO_14 HB HL532_2 HL533_2 HL534_2 HR532_2 HR533_2 HR534_2 hx532_0 hx532_1 hx532_2 hx533_0 hx533_1 hx533_2 hx534_0 hx534_1 hx534_2 hHeld ⊢
       refine pu_ (i := 0) (N := some 47) (any_of HT_.out (by kernel_rfl)) ?_
       refine pu_ (i := 1) (N := some 48) (any_of HT_.out (by kernel_rfl)) ?_
       refine pu_ (i := 2) (N := some 49) (any_of HT_.out (by kernel_rfl)) ?_
       refine pu_ (i := 3) (N := some 50) (any_of HT_.out (by kernel_rfl)) ?_
       refine pu_ (i := 5) (N := some 52) (any_of HT_.out (by kernel_rfl)) ?_
       refine pu_ (i := 6) (N := some 53) (any_of HT_.out (by kernel_rfl)) ?_
       refine pu_ (i := 7) (N := some 54) (any_of HT_.out (by kernel_rfl)) ?_
       refine pu_ (i := 8) (N := some 55) (any_of HT_.out (by kernel_rfl)) ?_
       refine pu_ (i := 10) (N := some 57) (any_of HT_.out (by kernel_rfl)) ?_
       refine pu_ (i := 11) (N := some 58) (any_of HT_.out (by kernel_rfl)) ?_
       refine pu_ (i := 12) (N := some 59) (any_of HT_.out (by kernel_rfl)) ?_
       refine pu_ (i := 13) (N := some 60) (any_of HT_.out (by kernel_rfl)) ?_
       refine pu_ (i := 17) (N := some 64) (any_of HT_.out (by kernel_rfl)) ?_
       refine ta_ (i := 4) (N := some 51) (take_ofW HT_.out HW_.out (by kernel_rfl)) hHeld ?_
       refine ta_ (i := 9) (N := some 56) (take_ofW HT_.out HW_.out (by kernel_rfl)) hHeld ?_
       refine ta_ (i := 14) (N := some 61) (take_ofW HT_.out HW_.out (by kernel_rfl)) hHeld ?_
       refine pu_ (i := 15) (N := some 62) (any_of HT_.out (by kernel_rfl)) ?_
       refine one_ (i := 16) (N := some 63) #[true, true, true, true, true, true, true, true, true, true, true, true, true, true, true, true, true, true, false, false, false, false, false, false] rfl rfl (one_of HT_.out (by kernel_rfl)) (by decide) (fun K hK => ?_)
       refine Kd.N_lit_step k28 _ 28 ?hg (N' := 63) ?hd (xs := ([(⟨(rd_T28 t524 x15_1).f0, (rd_T28 t524 x15_1).f0, (rd_T28 t524 x15_1).f2⟩ : S28)] : List (S28))) (inner := [.int .i64 ((rd_T28 t524 x15_1).f0), .int .i64 ((rd_T28 t524 x15_1).f0), .slice A532_2 ((rd_T28 t524 x15_1).f2).length c532_2]) (ok := (fun k_ => some k_ ≠ (.slice (some ad532) t524.length co13 : Value).ownBlock ∧ some k_ ≠ (v530 : Value).ownBlock ∧ some k_ ≠ (u14 : Value).ownBlock)) (okp := (fun k_ => some k_ ≠ (.slice (some ad532) t524.length co13 : Value).ownBlock ∧ some k_ ≠ (v530 : Value).ownBlock ∧ some k_ ≠ (u14 : Value).ownBlock)) ?hr ?hp (fun _ hk => hk) ((show ∀ k_, w27.heap.size ≤ k_ → (fun k_ => some k_ ≠ (.slice (some ad532) t524.length co13 : Value).ownBlock ∧ some k_ ≠ (v530 : Value).ownBlock ∧ some k_ ≠ (u14 : Value).ownBlock) k_ from fun k_ hk => ⟨Kd.fresh' (Kd.N_lt (by (with_reducible repeat (first | apply Kd.N_alloc | apply Kd.N_drewN | apply Kd.N_drew)); exact HO_10.out)) k_ hk, Kd.fresh' (Kd.R_lt (by (with_reducible repeat (first | apply Kd.R_alloc | apply Kd.R_drewN | apply Kd.R_drew)); exact HO_12.out)) k_ hk, Kd.fresh' (Kd.R_lt (by (with_reducible repeat (first | apply Kd.R_alloc | apply Kd.R_drewN | apply Kd.R_drew)); exact HO_14.out)) k_ hk⟩) _ (Nat.le_refl _)) (Below.refl _ _) (Nat.le_refl _) (by simp) ?_; (case hd => rfl); (case hg => rfl); (case hr => first | (go_simp; done) | (go_simp; rfl)); (case hp => exact (Reps.c3 (show Kd.FK k28 _ _ (⟨(rd_T28 t524 x15_1).f0, (rd_T28 t524 x15_1).f0, (rd_T28 t524 x15_1).f2⟩ : S28) [.int .i64 ((rd_T28 t524 x15_1).f0), .int .i64 ((rd_T28 t524 x15_1).f0), .slice A532_2 ((rd_T28 t524 x15_1).f2).length c532_2] from (k28_mkF _ _ (⟨(rd_T28 t524 x15_1).f0, (rd_T28 t524 x15_1).f0, (rd_T28 t524 x15_1).f2⟩ : S28) (Kd.V_reads' (Kd.V_mono (ok' := (fun k_ => some k_ ≠ (.slice (some ad532) t524.length co13 : Value).ownBlock ∧ some k_ ≠ (v530 : Value).ownBlock ∧ some k_ ≠ (u14 : Value).ownBlock)) (HL534_2.out) (fun k_ hk => ⟨hk.2, ⟨hk.1.1, hk.1.2⟩⟩))).2.1 (Kd.V_F (Kd.V_mono (ok' := (fun k_ => some k_ ≠ (.slice (some ad532) t524.length co13 : Value).ownBlock ∧ some k_ ≠ (v530 : Value).ownBlock ∧ some k_ ≠ (u14 : Value).ownBlock)) (HL534_2.out) (fun k_ hk => ⟨hk.2, ⟨hk.1.1, hk.1.2⟩⟩))))) (Reps.none _ _)))
       intro v536 w28 ho29 hb hg_ hnew_
       have HS0_ := (hb.cell (World.block_lt_of_cell? _ _ (hHeld.1))).trans (hHeld.1)
       have HS1_ := (hb.cell (World.block_lt_of_cell? _ _ (hHeld.2.1))).trans (hHeld.2.1)
       have HS2_ := (hb.cell (World.block_lt_of_cell? _ _ (hHeld.2.2.1))).trans (hHeld.2.2.1)
       have HS3_ := (hb.cell (World.block_lt_of_cell? _ _ (hHeld.2.2.2.1))).trans (hHeld.2.2.2.1)
       have HS4_ := (hb.cell (World.block_lt_of_cell? _ _ (hHeld.2.2.2.2.1))).trans (hHeld.2.2.2.2.1)
       have HS5_ := (hb.cell (World.block_lt_of_cell? _ _ (hHeld.2.2.2.2.2.1))).trans (hHeld.2.2.2.2.2.1)
       have HS6_ := (hb.cell (World.block_lt_of_cell? _ _ (hHeld.2.2.2.2.2.2.1))).trans (hHeld.2.2.2.2.2.2.1)
       have HS7_ := (hb.cell (World.block_lt_of_cell? _ _ (hHeld.2.2.2.2.2.2.2.1))).trans (hHeld.2.2.2.2.2.2.2.1)
       have HS8_ := (hb.cell (World.block_lt_of_cell? _ _ (hHeld.2.2.2.2.2.2.2.2))).trans (hHeld.2.2.2.2.2.2.2.2)
       clear hg_ hnew_
       (first | rw [← Ny535.out] at ho29 | (simp only [Int.reduceToNat] at ho29; rw [← Ny535.out] at ho29))
       have n0_ := Aside0.mk (Kd.N_elder' (by (with_reducible repeat (first | apply Kd.N_alloc | apply Kd.N_drewN | apply Kd.N_drew)); exact HO_10.out) (by first | exact Kd.N_base ho29 | exact Kd.S_base ho29) hb)
       have n1_ := Aside0.mk (Kd.R_below (by (with_reducible repeat (first | apply Kd.R_alloc | apply Kd.R_drewN | apply Kd.R_drew)); exact HO_12.out) hb)
       have n2_ := Aside0.mk (Kd.R_below (by (with_reducible repeat (first | apply Kd.R_alloc | apply Kd.R_drewN | apply Kd.R_drew)); exact HO_14.out) hb)
       have n3_ := Aside0.mk (Kd.V_elder' (by (with_reducible repeat (first | apply Kd.V_alloc | apply Kd.V_drewN | apply Kd.V_drew)); exact HL532_2.out) (by first | exact Kd.N_base ho29 | exact Kd.S_base ho29) hb)
       have n4_ := Aside0.mk (Kd.V_elder' (by (with_reducible repeat (first | apply Kd.V_alloc | apply Kd.V_drewN | apply Kd.V_drew)); exact HL533_2.out) (by first | exact Kd.N_base ho29 | exact Kd.S_base ho29) hb)
       have n5_ := Aside0.mk (Kd.V_elder' (by (with_reducible repeat (first | apply Kd.V_alloc | apply Kd.V_drewN | apply Kd.V_drew)); exact HL534_2.out) (by first | exact Kd.N_base ho29 | exact Kd.S_base ho29) hb)
       have n6_ := Aside0.mk (Kd.N_lower ho29 (below_size hb_))
       have n7_ := Aside0.mk (Kd.C_below (by repeat (first | (with_reducible exact HR532_2.out) | (with_reducible refine Kd.C_alloc ?_ _) | (with_reducible refine Kd.C_drewN ?_ _) | (with_reducible refine Kd.C_drew ?_) | exact HR532_2.out)) hb)
       have n8_ := Aside0.mk (Kd.C_below (by repeat (first | (with_reducible exact HR533_2.out) | (with_reducible refine Kd.C_alloc ?_ _) | (with_reducible refine Kd.C_drewN ?_ _) | (with_reducible refine Kd.C_drew ?_) | exact HR533_2.out)) hb)
       have n9_ := Aside0.mk (Kd.C_below (by repeat (first | (with_reducible exact HR534_2.out) | (with_reducible refine Kd.C_alloc ?_ _) | (with_reducible refine Kd.C_drewN ?_ _) | (with_reducible refine Kd.C_drew ?_) | exact HR534_2.out)) hb)
       have n10_ := Aside0.mk (below_step hb_ hb)
       clear HO_10
       clear HO_12
       clear HO_14
       clear HL532_2
       clear HL533_2
       clear HL534_2
       clear HR532_2
       clear HR533_2
       clear HR534_2
       clear HB
       have HO_10 := n0_
       have HO_12 := n1_
       have HO_14 := n2_
       have HL532_2 := n3_
       have HL533_2 := n4_
       have HL534_2 := n5_
       have HO537 := n6_
       have HR532_2 := n7_
       have HR533_2 := n8_
       have HR534_2 := n9_
       have HB := n10_
       clear n0_ n1_ n2_ n3_ n4_ n5_ n6_ n7_ n8_ n9_ n10_
       clear hb ho29
       obtain ⟨Ao30, co30, eo30⟩ := Kd.N_slice HO537.out
       (first | subst eo30 | (injection eo30 with f1_ f2_ f3_; have f4_ := f1_.symm; have f5_ := f3_.symm; clear f1_ f2_ f3_; subst f4_; subst f5_))
       obtain ⟨Ao31, co31, eo31⟩ := Kd.R_slice HO_14.out
       (first | subst eo31 | (injection eo31 with f1_ f2_ f3_; have f4_ := f1_.symm; have f5_ := f3_.symm; clear f1_ f2_ f3_; subst f4_; subst f5_))
       refine hK.out _ _ ⟨HS0_, HS1_, HS2_, HS3_, HS4_, HS5_, HS6_, HS7_, HS8_⟩ (fun hHeld => ?_)
       clear hK K
       refine norm_ (a' := ?_) ?_ ?_
       rotate_left
       ·show Act.put _ (some 63) _ = _
        simp only [Act.put, List.setIfInBounds_toArray, List.set_cons_zero, List.set_cons_succ, i64_w, i32_w]
        rfl
       refine one_ (i := 18) (N := some 65) #[true, true, true, true, true, true, true, true, true, true, true, true, true, true, true, true, true, true, true, false, false, false, false, false] rfl rfl (one_of HT_.out (by kernel_rfl)) (by decide) (fun K hK => ?_)
       refine goes_ Try.func22 (by kernel_rfl) rfl #[.slice Ao30 y535.length co30, .slice Ao31 x14_1.length co31] (by rfl) rfl rfl mp_ ?_
       with_reducible refine (hunks_Apply.calls k1 _ _ y535 _ _ x14_1 t538 t539 _ ?side1 ?side2 ?side3 ?side4 A19.out).mono ?_
       (case side1 => repeat (first | exact (Kd.N_reads' HO537.out).2.2 | (with_reducible refine Kd.C_alloc ?_ _) | (with_reducible refine Kd.C_drewN ?_ _) | (with_reducible refine Kd.C_drew ?_)))
       (case side2 => exact (Kd.N_reads' HO537.out).2.1)
       (case side3 => repeat (first | exact (Kd.R_reads' HO_14.out).2.2 | (with_reducible refine Kd.C_alloc ?_ _) | (with_reducible refine Kd.C_drewN ?_ _) | (with_reducible refine Kd.C_drew ?_)))
       (case side4 => exact (Kd.R_reads' HO_14.out).2.1)
       rintro e w32 ⟨v540, rfl, ho0, hb⟩
       have HS0_ := (hb.cell (World.block_lt_of_cell? _ _ (hHeld.1))).trans (hHeld.1)
       have HS1_ := (hb.cell (World.block_lt_of_cell? _ _ (hHeld.2.1))).trans (hHeld.2.1)
       have HS2_ := (hb.cell (World.block_lt_of_cell? _ _ (hHeld.2.2.1))).trans (hHeld.2.2.1)
       have HS3_ := (hb.cell (World.block_lt_of_cell? _ _ (hHeld.2.2.2.1))).trans (hHeld.2.2.2.1)
       have HS4_ := (hb.cell (World.block_lt_of_cell? _ _ (hHeld.2.2.2.2.1))).trans (hHeld.2.2.2.2.1)
       have HS5_ := (hb.cell (World.block_lt_of_cell? _ _ (hHeld.2.2.2.2.2.1))).trans (hHeld.2.2.2.2.2.1)
       have HS6_ := (hb.cell (World.block_lt_of_cell? _ _ (hHeld.2.2.2.2.2.2.1))).trans (hHeld.2.2.2.2.2.2.1)
       have HS7_ := (hb.cell (World.block_lt_of_cell? _ _ (hHeld.2.2.2.2.2.2.2.1))).trans (hHeld.2.2.2.2.2.2.2.1)
       have HS8_ := (hb.cell (World.block_lt_of_cell? _ _ (hHeld.2.2.2.2.2.2.2.2))).trans (hHeld.2.2.2.2.2.2.2.2)
       refine ⟨_, rfl, ?_⟩
       have n0_ := Aside0.mk (Kd.N_elder' (by (with_reducible repeat (first | apply Kd.N_alloc | apply Kd.N_drewN | apply Kd.N_drew)); exact HO_10.out) (Kd.R_base ho0) hb)
       have n1_ := Aside0.mk (Kd.R_elder' (by (with_reducible repeat (first | apply Kd.R_alloc | apply Kd.R_drewN | apply Kd.R_drew)); exact HO_12.out) (Kd.R_base ho0) hb)
       have n2_ := Aside0.mk (Kd.R_elder' (by (with_reducible repeat (first | apply Kd.R_alloc | apply Kd.R_drewN | apply Kd.R_drew)); exact HO_14.out) (Kd.R_base ho0) hb)
       have n3_ := Aside0.mk (Kd.V_elder' (by (with_reducible repeat (first | apply Kd.V_alloc | apply Kd.V_drewN | apply Kd.V_drew)); exact HL532_2.out) (Kd.R_base ho0) hb)
       have n4_ := Aside0.mk (Kd.V_elder' (by (with_reducible repeat (first | apply Kd.V_alloc | apply Kd.V_drewN | apply Kd.V_drew)); exact HL533_2.out) (Kd.R_base ho0) hb)
       have n5_ := Aside0.mk (Kd.V_elder' (by (with_reducible repeat (first | apply Kd.V_alloc | apply Kd.V_drewN | apply Kd.V_drew)); exact HL534_2.out) (Kd.R_base ho0) hb)
       have n6_ := Aside0.mk (Kd.N_elder' (by (with_reducible repeat (first | apply Kd.N_alloc | apply Kd.N_drewN | apply Kd.N_drew)); exact HO537.out) (Kd.R_base ho0) hb)
       have n7_ := Aside0.mk (Kd.R_lower (Kd.R_new' (Kd.R_new' ho0 (Kd.R_lt (by (with_reducible repeat (first | apply Kd.R_alloc | apply Kd.R_drewN | apply Kd.R_drew)); exact HO_12.out))) (Kd.R_lt (by (with_reducible repeat (first | apply Kd.R_alloc | apply Kd.R_drewN | apply Kd.R_drew)); exact HO_14.out))) (below_size hb_))
       have n8_ := Aside0.mk (Kd.C_below (by repeat (first | (with_reducible exact HR532_2.out) | (with_reducible refine Kd.C_alloc ?_ _) | (with_reducible refine Kd.C_drewN ?_ _) | (with_reducible refine Kd.C_drew ?_) | exact HR532_2.out)) hb)
       have n9_ := Aside0.mk (Kd.C_below (by repeat (first | (with_reducible exact HR533_2.out) | (with_reducible refine Kd.C_alloc ?_ _) | (with_reducible refine Kd.C_drewN ?_ _) | (with_reducible refine Kd.C_drew ?_) | exact HR533_2.out)) hb)
       have n10_ := Aside0.mk (Kd.C_below (by repeat (first | (with_reducible exact HR534_2.out) | (with_reducible refine Kd.C_alloc ?_ _) | (with_reducible refine Kd.C_drewN ?_ _) | (with_reducible refine Kd.C_drew ?_) | exact HR534_2.out)) hb)
       have n11_ := Aside0.mk (below_step hb_ hb)
       clear HO_10
       clear HO_12
       clear HO_14
       clear HL532_2
       clear HL533_2
       clear HL534_2
       clear HO537
       clear HR532_2
       clear HR533_2
       clear HR534_2
       clear HB
       have HO_10 := n0_
       have HO_12 := n1_
       have HO_14 := n2_
       have HL532_2 := n3_
       have HL533_2 := n4_
       have HL534_2 := n5_
       have HO537 := n6_
       have HO541 := n7_
       have HR532_2 := n8_
       have HR533_2 := n9_
       have HR534_2 := n10_
       have HB := n11_
       clear n0_ n1_ n2_ n3_ n4_ n5_ n6_ n7_ n8_ n9_ n10_ n11_
       (try clear hb)
       (try clear hb2)
       (try clear hk)
       (try clear hi)
       (try clear ho0)
       refine hK.out _ _ ⟨HS0_, HS1_, HS2_, HS3_, HS4_, HS5_, HS6_, HS7_, HS8_⟩ (fun hHeld => ?_)
       clear hK K
       refine norm_ (a' := ?_) ?_ ?_
       rotate_left
       ·show Act.put _ (some 65) _ = _
        simp only [Act.put, List.setIfInBounds_toArray, List.set_cons_zero, List.set_cons_succ, i64_w, i32_w]
        rfl
       refine pu_ (i := 19) (N := some 46) (any_of HT_.out (by kernel_rfl)) ?_
       refine pu_ (i := 20) (N := some 66) (any_of HT_.out (by kernel_rfl)) ?_
       refine pu_ (i := 21) (N := some 67) (any_of HT_.out (by kernel_rfl)) ?_
       refine pu_ (i := 22) (N := some 16) (any_of HT_.out (by kernel_rfl)) ?_
       refine pu_ (i := 23) (N := some 17) (any_of HT_.out (by kernel_rfl)) ?_
       refine done_ (done_of HT_.out (by kernel_rfl)) ?_
       try go_wp2
       go_ret
       exact ⟨by first | rfl | (simp [errW_none, errW_some] <;> rfl) | (simp [*, errW_none, errW_some] <;> rfl), by repeat (first | (with_reducible first | exact HB.out | apply below_alloc | apply pw_below_drewN | apply below_drew1) | exact HB.out)⟩
     ·rw [if_neg c18] at H
      exact absurd H (by simp)
    ·rw [if_neg c17] at H
     exact absurd H (by simp)
   ·rw [if_neg c16] at H
    have c16b0 : decide (0 ≤ x15_1) = false := decide_eq_false c16
    clear c16
    by_cases c33 : t516 = true
    ·subst c33
     have H1 : (if t525 = 0 then (if t529 = 0 then ((collatorref01_Texts.f k1 x14_1 t528).bind fun t542 => (some t542)) else (some false)) else (some false)) = some r := by rw [if_pos rfl] at H; exact H
     clear H
     have H := H1
     clear H1
     by_cases c34 : t525 = 0
     ·rw [if_pos c34] at H
      have c34b0 : (t525 == 0) = true := beq_iff_eq.mpr c34
      have c34b1 : (t525 != 0) = false := bne_eq_false_iff_eq.mpr c34
      clear c34
      by_cases c35 : t529 = 0
      ·rw [if_pos c35] at H
       have c35b0 : (t529 == 0) = true := beq_iff_eq.mpr c35
       have c35b1 : (t529 != 0) = false := bne_eq_false_iff_eq.mpr c35
       clear c35
       replace H := Option.bind_eq_some_iff.mp H
       obtain ⟨t542, A360, H⟩ := H
       replace H : (some t542) = some r := H
       have A36 := Aside0.mk A360
       clear A360
       obtain rfl := Option.some.inj H
       obtain ⟨Ao37, co37, eo37⟩ := Kd.R_slice HO_14.out
       subst eo37
       obtain ⟨Ao38, co38, eo38⟩ := Kd.R_slice HO_12.out
       subst eo38
       go_wp2_with (first | (go_at_call 24; (with_reducible refine (collatorref01_Texts.calls k1 _ _ x14_1 _ _ t528 t542 _ ?side1 ?side2 ?side3 ?side4 A36.out).mono ?_); (case side1 => repeat (first | exact (Kd.R_reads' HO_14.out).2.2 | (with_reducible refine Kd.C_alloc ?_ _) | (with_reducible refine Kd.C_drewN ?_ _) | (with_reducible refine Kd.C_drew ?_))); (case side2 => exact (Kd.R_reads' HO_14.out).2.1); (case side3 => repeat (first | exact (Kd.R_reads' HO_12.out).2.2 | (with_reducible refine Kd.C_alloc ?_ _) | (with_reducible refine Kd.C_drewN ?_ _) | (with_reducible refine Kd.C_drew ?_))); (case side4 => exact (Kd.R_reads' HO_12.out).2.1); rintro e w' ⟨rfl, ⟨nd, rfl⟩⟩))
       go_ret
       exact ⟨by first | rfl | (simp [errW_none, errW_some] <;> rfl) | (simp [*, errW_none, errW_some] <;> rfl), by repeat (first | (with_reducible first | exact HB.out | apply below_alloc | apply pw_below_drewN | apply below_drew1) | exact HB.out)⟩
      ·rw [if_neg c35] at H
       have c35b0 : (t529 == 0) = false := beq_eq_false_iff_ne.mpr c35
       have c35b1 : (t529 != 0) = true := bne_iff_ne.mpr c35
       obtain rfl := Option.some.inj H
       go_wp2
       go_ret
       exact ⟨by first | rfl | (simp [errW_none, errW_some] <;> rfl) | (simp [*, errW_none, errW_some] <;> rfl), by repeat (first | (with_reducible first | exact HB.out | apply below_alloc | apply pw_below_drewN | apply below_drew1) | exact HB.out)⟩
     ·rw [if_neg c34] at H
      have c34b0 : (t525 == 0) = false := beq_eq_false_iff_ne.mpr c34
      have c34b1 : (t525 != 0) = true := bne_iff_ne.mpr c34
      obtain rfl := Option.some.inj H
      go_wp2
      go_ret
      exact ⟨by first | rfl | (simp [errW_none, errW_some] <;> rfl) | (simp [*, errW_none, errW_some] <;> rfl), by repeat (first | (with_reducible first | exact HB.out | apply below_alloc | apply pw_below_drewN | apply below_drew1) | exact HB.out)⟩
    ·replace c33 := Bool.eq_false_iff.mpr c33
     subst c33
     have H1 : (some false) = some r := by rw [if_neg (show ¬ (false = true) by decide)] at H; exact H
     clear H
     have H := H1
     clear H1
     obtain rfl := Option.some.inj H
     go_wp2
     go_ret
     exact ⟨by first | rfl | (simp [errW_none, errW_some] <;> rfl) | (simp [*, errW_none, errW_some] <;> rfl), by repeat (first | (with_reducible first | exact HB.out | apply below_alloc | apply pw_below_drewN | apply below_drew1) | exact HB.out)⟩

/-- THE ONE PURE STATEMENT of collatorlaw06_HunksOne: yours. -/
def collatorlaw06_HunksOne.Pure : Prop := ∀ (l0 : List Int) (l1 : List Int) (a2 : Int), l0.length ≤ maxLen → l0.length * 8 ≤ 140737488351232 → (∀ x ∈ l0, (Lit.int .i64 x).wf = true) → l1.length ≤ maxLen → l1.length * 8 ≤ 140737488351232 → (∀ x ∈ l1, (Lit.int .i64 x).wf = true) → (Lit.int .i64 a2).wf = true → ∃ k, collatorlaw06_HunksOne.f k l0 l1 a2 = some true
theorem collatorlaw06_HunksOne.walk (P : collatorlaw06_HunksOne.Pure) (a0 : Option Addr) (len0 cap0 : Nat) (z0 : List Int) (a1 : Option Addr) (len1 cap1 : Nat) (z1 : List Int) (a2 : Int) (w : World) (w0 : (a0 = none ∧ len0 = 0 ∧ cap0 = 0 ∧ z0 = []) ∨ ∃ x, a0 = some x ∧ len0 ≤ cap0 ∧ cap0 ≤ maxLen ∧ z0.length = cap0 ∧ (∀ i, i < z0.length → w.cell? (x.add i) = some (.int .i64 (z0.getD i 0))) ∧ ∀ n ∈ z0, (Lit.int .i64 n).wf = true) (y0 : len0 * 8 ≤ 140737488351232) (w1 : (a1 = none ∧ len1 = 0 ∧ cap1 = 0 ∧ z1 = []) ∨ ∃ x, a1 = some x ∧ len1 ≤ cap1 ∧ cap1 ≤ maxLen ∧ z1.length = cap1 ∧ (∀ i, i < z1.length → w.cell? (x.add i) = some (.int .i64 (z1.getD i 0))) ∧ ∀ n ∈ z1, (Lit.int .i64 n).wf = true) (y1 : len1 * 8 ≤ 140737488351232) (w2 : (Lit.int .i64 a2).wf = true) :
  Calls Try.prog 4 #[.slice a0 len0 cap0, .slice a1 len1 cap1, .int .i64 a2] w fun e w' => e = .returned (.bool true) ∧ Below w.heap.size w w' := by
 obtain ⟨l0, rfl, hr0, hm0, hw0, hc0⟩ := ReadsInt.ofRowC w0
 obtain ⟨l1, rfl, hr1, hm1, hw1, hc1⟩ := ReadsInt.ofRowC w1
 obtain ⟨k, h⟩ := P l0 l1 a2 hm0 y0 hw0 hm1 y1 hw1 w2
 refine (collatorlaw06_HunksOne.calls k _ _ l0 _ _ l1 a2 true w (Kd.C_of_reads (d := (0 : Int)) (h1 := fun _ => rfl) hr0) hc0 (Kd.C_of_reads (d := (0 : Int)) (h1 := fun _ => rfl) hr1) hc1 h).mono ?_
 rintro e w' ⟨rfl, hd⟩
 exact ⟨rfl, hd⟩

end Go.Proofs.Ytgobidmfbjmpkaa.P
