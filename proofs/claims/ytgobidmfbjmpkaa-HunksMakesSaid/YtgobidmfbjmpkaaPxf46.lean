/- Laid for this claim by hp.py, this session's program round the kit's print: functions of the program as plain Lean functions, the proofs that the code comes to their answers, and the rows of the laws. Not trusted: Lean checks it. -/
import Derived.Test.YtgobidmfbjmpkaaHVlt
import Derived.Test.YtgobidmfbjmpkaaPx0
import Derived.Test.YtgobidmfbjmpkaaHShr
import Derived.Test.YtgobidmfbjmpkaaPxf51
namespace Go.Proofs.Ytgobidmfbjmpkaa.P
open Go.RowKit Go.Proofs.YtgobidmfbjmpkaaW.PrintWords Go.Proofs.YtgobidmfbjmpkaaW.PrintLast Go.Proofs.YtgobidmfbjmpkaaW.PrintMore
attribute [local go_sem] max2_int min2_int max_two min_two max_three min_three max_four min_four   -- for this text's walks alone
set_option linter.unusedVariables false
set_option linter.unusedSimpArgs false

/-! ### script_Apply: function 46 -/
def script_Apply.l0 : Nat → List ByteArray → List ByteArray → List (S31) → Int → Int → Option (List ByteArray × Int)
 | 0, _, _, _, _, _ => none
 | k + 1, x1, x4, x15, x16, x17 => if x17 < x16 then (if 0 ≤ x17 then (if x17 < (x15.length : Int) then (if ((rd_T31 x15 x17).f0) = 1 then (if 0 ≤ ((rd_T31 x15 x17).f1) then (if ((rd_T31 x15 x17).f1) ≤ (x1.length : Int) then ((some (x1.take (((rd_T31 x15 x17).f1) : Int).toNat : List ByteArray)).bind fun y452 => (if x4.length + y452.length < 8796093022208 then (script_Apply.l0 k (x1.drop (((rd_T31 x15 x17).f1) : Int).toNat) (x4 ++ y452) x15 x16 (wrap64 (x17 + 1))) else (none))) else (none)) else (none)) else (if ((rd_T31 x15 x17).f0) = 2 then (if 0 ≤ ((rd_T31 x15 x17).f1) then (if ((rd_T31 x15 x17).f1) ≤ (x1.length : Int) then (script_Apply.l0 k (x1.drop (((rd_T31 x15 x17).f1) : Int).toNat) x4 x15 x16 (wrap64 (x17 + 1))) else (none)) else (none)) else (if x4.length + ((rd_T31 x15 x17).f2).length < 8796093022208 then (script_Apply.l0 k x1 (x4 ++ ((rd_T31 x15 x17).f2)) x15 x16 (wrap64 (x17 + 1))) else (none)))) else (none)) else (none)) else (some (x4, 0))
def script_Apply.f (k : Nat) (l0 : List (S31)) (l1 : List ByteArray) : Option (List ByteArray × Int) := (script_fits.f k l0 l1).bind fun t449 => (if t449 = 0 then (script_Apply.l0 k l1 ([] : List ByteArray) l0 (l0.length : Int) 0) else (some (([] : List ByteArray), t449)))
theorem script_Apply.mono_l : ∀ k, (∀ y0 y1 y2 y3 y4, LeO (script_Apply.l0 k y0 y1 y2 y3 y4) (script_Apply.l0 (k + 1) y0 y1 y2 y3 y4))
 | 0 => fun _ _ _ _ _ r h => by simp [script_Apply.l0] at h
 | k + 1 => by
  have ih0 := script_Apply.mono_l k
  ·intro y0 y1 y2 y3 y4
   unfold script_Apply.l0
   repeat' first
   | (with_reducible exact ih0 _ _ _ _ _)
   | (with_reducible exact script_fits.mono _ _ _)
   | (with_reducible exact LeO.refl _)
   | (with_reducible exact LeO.none _)
   | (with_reducible refine LeO.ite ?_ ?_)
   | (with_reducible refine LeO.bind ?_ (fun _ => ?_))
   | exact ih0 _ _ _ _ _
   | exact script_fits.mono _ _ _
   | exact LeO.none _
   | refine LeO.ite ?_ ?_
   | refine LeO.bind ?_ (fun _ => ?_)
theorem script_Apply.mono : ∀ a0 a1 k, LeO (script_Apply.f k a0 a1) (script_Apply.f (k + 1) a0 a1) := by
 intro a0 a1 k
 have ih0 := script_Apply.mono_l k
 unfold script_Apply.f
 repeat' first
   | (with_reducible exact ih0 _ _ _ _ _)
   | (with_reducible exact script_fits.mono _ _ _)
   | (with_reducible exact LeO.refl _)
   | (with_reducible exact LeO.none _)
   | (with_reducible refine LeO.ite ?_ ?_)
   | (with_reducible refine LeO.bind ?_ (fun _ => ?_))
   | exact ih0 _ _ _ _ _
   | exact script_fits.mono _ _ _
   | exact LeO.none _
   | refine LeO.ite ?_ ?_
   | refine LeO.bind ?_ (fun _ => ?_)
set_option maxHeartbeats 8000000 in
set_option maxRecDepth 100000 in
theorem script_Apply.calls (k : Nat) (A0 : Option Addr) (c0 : Nat) (l0 : List (S31)) (P1_ : Nat → Prop) (A1 : Option Addr) (c1 : Nat) (l1 : List ByteArray) (r1 : List ByteArray) (r2 : Int) (w : World) (hr0 : Kd.C k31 w A0 l0.length l0) (hc0 : l0.length ≤ c0) (hs1 : Kd.V Kd.string 9 w w.heap.size (fun k_ => P1_ k_) (.slice A1 l1.length c1) l1) (h : script_Apply.f k l0 l1 = some (r1, r2)) :
  Calls Try.prog 46 #[.slice A0 l0.length c0, .slice A1 l1.length c1] w fun e w' => ∃ v0_ : Value, e = .returned (.tuple #[v0_, .int .i64 r2]) ∧ Kd.R Kd.string 9 w' w.heap.size (fun k_ => (w.heap.size ≤ k_)) v0_ r1 ∧ Below w.heap.size w w' := by
 have hu31 := Try.underlying31
 have HR0 := Aside0.mk hr0
 have HC0 := Aside0.mk hc0
 clear hr0 hc0
 have HO1 := Aside0.mk (show Kd.V Kd.string 9 w w.heap.size (fun k_ => (P1_ k_ ∨ w.heap.size ≤ k_)) (.slice A1 l1.length c1) l1 from Kd.V_mono hs1 (fun k_ hk => .inl hk))
 have HLV1 := Aside0.mk (Go.Proofs.Ytgobidmfbjmpkaa.HVlt.v_lt hs1)
 have HB := Aside0.mk (Below.refl w.heap.size w)
 have H : ((script_fits.f k l0 l1).bind fun t449 => (if t449 = 0 then (script_Apply.l0 k l1 ([] : List ByteArray) l0 (l0.length : Int) 0) else (some (([] : List ByteArray), t449)))) = some (r1, r2) := h
 clear h
 replace H := Option.bind_eq_some_iff.mp H
 obtain ⟨t449, A30, H⟩ := H
 replace H : (if t449 = 0 then (script_Apply.l0 k l1 ([] : List ByteArray) l0 (l0.length : Int) 0) else (some (([] : List ByteArray), t449))) = some (r1, r2) := H
 have A3 := Aside0.mk A30
 clear A30
 by_cases c4 : t449 = 0
 ·rw [if_pos c4] at H
  have c4b0 : (t449 == 0) = true := beq_iff_eq.mpr c4
  have c4b1 : (t449 != 0) = false := bne_eq_false_iff_eq.mpr c4
  clear c4
  have H' := Aside0.mk H
  clear H
  go_enter Try.func46, Try.ntmps46
  go_wp2_with (first | ((with_reducible refine gate_callee (f := 51) rfl ?_); refine goesL_ (some 11) rfl rfl Try.func51 (by kernel_rfl) rfl #[.slice A0 l0.length c0, .slice A1 l1.length c1] rfl mp_ ?_; (with_reducible refine (script_fits.calls k _ _ l0 _ _ l1 t449 _ ?side1 ?side2 ?side3 ?side4 A3.out).mono ?_); (case side1 => repeat (first | exact HR0.out | (with_reducible refine Kd.C_alloc ?_ _) | (with_reducible refine Kd.C_drewN ?_ _) | (with_reducible refine Kd.C_drew ?_))); (case side2 => exact HC0.out); (case side3 => repeat (first | exact (Kd.V_reads' HO1.out).2.2 | (with_reducible refine Kd.C_alloc ?_ _) | (with_reducible refine Kd.C_drewN ?_ _) | (with_reducible refine Kd.C_drew ?_))); (case side4 => exact (Kd.V_reads' HO1.out).2.1); rintro e w5 ⟨rfl, hb⟩; refine ⟨_, rfl, ?_⟩; have n0_ := Aside0.mk (Kd.V_below (by (with_reducible repeat (first | apply Kd.V_alloc | apply Kd.V_drewN | apply Kd.V_drew)); exact HO1.out) hb); have n1_ := Aside0.mk (below_step hb_ hb); clear HO1; clear HB; have HO1 := n0_; have HB := n1_; clear n0_ n1_; (try clear hb); (try clear hb2); (try clear hk); (try clear hi)))
  go_loopg [1, 4, 17] k (fun kq v1 v4 v17 w' => ∃ (x1_1 : List ByteArray) (x4_1 : List ByteArray) (x17_1 : Int), v17 = .int .i64 x17_1 ∧ Aside0 (script_Apply.l0 kq x1_1 x4_1 l0 (l0.length : Int) x17_1 = some (r1, r2)) ∧ Aside0 (kq ≤ k) ∧ Aside0 (Kd.V Kd.string 9 w' w.heap.size (fun k_ => (P1_ k_ ∨ w.heap.size ≤ k_) ∧ some k_ ≠ (v4 : Value).ownBlock) v1 x1_1) ∧ Aside0 (Kd.R Kd.string 9 w' w.heap.size (fun k_ => (w.heap.size ≤ k_)) v4 x4_1) ∧ Aside0 (Below w.heap.size w w'))
  case atStart => exact ⟨(l1), (([] : List ByteArray)), (0), rf_, H', ⟨Nat.le_refl _⟩, ⟨by (with_reducible repeat (first | apply Kd.V_alloc | apply Kd.V_drewN | apply Kd.V_drew)); exact Kd.V_mono HO1.out (fun _ hk => ⟨hk, (by simp [Value.ownBlock])⟩)⟩, ⟨by first | exact Kd.R_nil _ _ _ _ _ | exact Kd.N_nil _ _ _ _ _ | exact Kd.V_nil _ _ _ _ _ | exact Kd.Q_nil _ _ _ _ _ | exact Kd.S_nil _ _ _ _ _⟩, ⟨by repeat (first | (with_reducible first | exact HB.out | apply below_alloc | apply pw_below_drewN | apply below_drew1) | exact HB.out)⟩⟩
  case round =>
   clear H'
   (try clear c1);(try clear p2);(try clear c4);(try clear c4b0);(try clear c4b1);(try clear c5)
   obtain ⟨x1_1, x4_1, x17_1, rfl, HA, HK1, HO_1, HO_4, HB⟩ := hrel
   cases gk with
   | zero => exact absurd HA.out (by simp [script_Apply.l0])
   | succ k1 =>
    have H := HA.out
    clear HA
    simp only [script_Apply.l0] at H
    by_cases c6 : x17_1 < (l0.length : Int)
    ·rw [if_pos c6] at H
     have c6b0 : decide (x17_1 < (l0.length : Int)) = true := decide_eq_true c6
     clear c6
     by_cases c7 : 0 ≤ x17_1
     ·rw [if_pos c7] at H
      have c7b0 : decide (0 ≤ x17_1) = true := decide_eq_true c7
      clear c7
      by_cases c8 : x17_1 < (l0.length : Int)
      ·rw [if_pos c8] at H
       have c8b0 : decide (x17_1 < (l0.length : Int)) = true := decide_eq_true c8
       clear c8
       by_cases c9 : ((rd_T31 l0 x17_1).f0) = 1
       ·rw [if_pos c9] at H
        have c9b0 : (((rd_T31 l0 x17_1).f0) == 1) = true := beq_iff_eq.mpr c9
        have c9b1 : (((rd_T31 l0 x17_1).f0) != 1) = false := bne_eq_false_iff_eq.mpr c9
        clear c9
        by_cases c10 : 0 ≤ ((rd_T31 l0 x17_1).f1)
        ·rw [if_pos c10] at H
         have c10b0 := eq_true c10
         have c10b1 : decide (0 ≤ ((rd_T31 l0 x17_1).f1)) = true := decide_eq_true c10
         clear c10
         by_cases c11 : ((rd_T31 l0 x17_1).f1) ≤ (x1_1.length : Int)
         ·rw [if_pos c11] at H
          have c11b0 := eq_true c11
          have c11b1 : decide (((rd_T31 l0 x17_1).f1) ≤ (x1_1.length : Int)) = true := decide_eq_true c11
          clear c11
          obtain ⟨y452, hy452⟩ : ∃ y_ : List ByteArray, y_ = (x1_1.take (((rd_T31 l0 x17_1).f1) : Int).toNat) := ⟨_, rfl⟩
          replace H : (if x4_1.length + y452.length < 8796093022208 then (script_Apply.l0 k1 (x1_1.drop (((rd_T31 l0 x17_1).f1) : Int).toNat) (x4_1 ++ y452) l0 (l0.length : Int) (wrap64 (x17_1 + 1))) else (none)) = some (r1, r2) := by first | (rw [hy452]; with_reducible exact H) | (have H2_ := (Option.bind_some _ _).symm.trans H; rw [hy452]; with_reducible exact H2_) | (have H2_ := (Option.bind_some _ _).symm.trans H; with_reducible exact H2_) | with_reducible exact H | (rw [hy452]; exact H) | exact H
          have Ny452 := Aside0.mk hy452
          clear hy452
          by_cases c12 : x4_1.length + y452.length < 8796093022208
          ·rw [if_pos c12] at H
           have LMc12 := Aside0.mk c12
           clear c12
           obtain ⟨y457, hy457⟩ : ∃ y_ : List ByteArray, y_ = (x4_1 ++ y452) := ⟨_, rfl⟩
           replace H : (script_Apply.l0 k1 (x1_1.drop (((rd_T31 l0 x17_1).f1) : Int).toNat) y457 l0 (l0.length : Int) (wrap64 (x17_1 + 1))) = some (r1, r2) := by first | (rw [hy457]; with_reducible exact H) | (have H2_ := (Option.bind_some _ _).symm.trans H; rw [hy457]; with_reducible exact H2_) | (have H2_ := (Option.bind_some _ _).symm.trans H; with_reducible exact H2_) | with_reducible exact H | (rw [hy457]; exact H) | exact H
           have Ny457 := Aside0.mk hy457
           clear hy457
           have c13b0 := eq_true (of_decide_eq_true as_ : 0 ≤ ((rd_T31 l0 x17_1).f1))
           have c14b0 := eq_true (of_decide_eq_true as_ : ((rd_T31 l0 x17_1).f1) ≤ (x1_1.length : Int))
           obtain ⟨y460, hy460⟩ : ∃ y_ : List ByteArray, y_ = (x1_1.drop (((rd_T31 l0 x17_1).f1) : Int).toNat) := ⟨_, rfl⟩
           replace H : (script_Apply.l0 k1 y460 y457 l0 (l0.length : Int) (wrap64 (x17_1 + 1))) = some (r1, r2) := by first | (rw [hy460]; with_reducible exact H) | (have H2_ := (Option.bind_some _ _).symm.trans H; rw [hy460]; with_reducible exact H2_) | (have H2_ := (Option.bind_some _ _).symm.trans H; with_reducible exact H2_) | with_reducible exact H | (rw [hy460]; exact H) | exact H
           have Ny460 := Aside0.mk hy460
           clear hy460
           have H' := Aside0.mk H
           clear H
           have p450 : 0 ≤ (x17_1 : Int) := of_decide_eq_true as_
           have q450 : x17_1 < (l0.length : Int) := of_decide_eq_true as_
           obtain ⟨ad450, A450_2, c450_2, e450, hx450_0, hx450_1, hx450_2, hl450_2, hi450_2⟩ := at_T31 HR0.out x17_1 p450 q450
           cases e450
           replace hx450_0 := (HB.out.cell (World.block_lt_of_cell? w _ hx450_0)).trans hx450_0
           replace hx450_1 := (HB.out.cell (World.block_lt_of_cell? w _ hx450_1)).trans hx450_1
           replace hx450_2 := (HB.out.cell (World.block_lt_of_cell? w _ hx450_2)).trans hx450_2
           have HR450_2 := Aside0.mk hi450_2
           have HC450_2 := Aside0.mk hl450_2
           clear hi450_2 hl450_2
           replace p450 := eq_true p450
           replace q450 := eq_true q450
           go_wp2_with (first | ((with_reducible refine gate_dst (N := 8) rfl ?_); refine box_event ?hg (N := 8) ?hd (cs := #[.int .i64 0, .int .i64 0, .slice none 0 0]) (t := 31) ?hr ?_; (case hd => rfl); (case hg => rfl); (case hr => first | (go_simp; done) | (go_simp; rfl)); intro gb451 hg w15 hbox hb; have n0_ := Aside0.mk (Kd.V_below (Kd.V_elderB (by (with_reducible repeat (first | apply Kd.V_alloc | apply Kd.V_drewN | apply Kd.V_drew)); exact HO_1.out) gb451 (Nat.le_of_eq hg.symm)) hb); have n1_ := Aside0.mk (Kd.R_below (by (with_reducible repeat (first | apply Kd.R_alloc | apply Kd.R_drewN | apply Kd.R_drew)); exact HO_4.out) hb); have n2_ := Aside0.mk (below_step hb_ hb); have n3_ := Aside0.mk (hbox); have n4_ := Aside0.mk ((by rw [hg]; exact (below_size hb_) : w.heap.size ≤ gb451)); have n5_ := Aside0.mk ((by rw [hg]; exact (below_size hb_) : w.heap.size ≤ gb451)); clear HO_1; clear HO_4; clear HB; have HO_1 := n0_; have HO_4 := n1_; have HB := n2_; have BK451 := n3_; have GW451 := n4_; have GE451 := n5_; clear n0_ n1_ n2_ n3_ n4_ n5_; clear hb hbox hg; have hcz16_0 : w15.cell? ⟨gb451, 0, none⟩ = some (.int .i64 0) := (blk_cell BK451.out 0).trans rfl; have hcz16_1 : w15.cell? ⟨gb451, 1, none⟩ = some (.int .i64 0) := (blk_cell BK451.out 1).trans rfl; have hcz16_2 : w15.cell? ⟨gb451, 2, none⟩ = some (.slice none 0 0) := (blk_cell BK451.out 2).trans rfl; have hfz16_0 := blk_frozen BK451.out 0; have hfz16_1 := blk_frozen BK451.out 1; have hfz16_2 := blk_frozen BK451.out 2) | ((with_reducible refine gate_store (t := 31) (p := 8) rfl ?_); refine store_event (t := 31) (p := 8) (v := ?vo_w17) (w1 := (((w15.setCell ⟨gb451, 0, none⟩ (.int .i64 ((rd_T31 l0 x17_1).f0))).setCell ⟨gb451, 1, none⟩ (.int .i64 ((rd_T31 l0 x17_1).f1))).setCell ⟨gb451, 2, none⟩ (.slice A450_2 ((rd_T31 l0 x17_1).f2).length c450_2))) ?hg ?ho ?hn ?hr ?_; (case ho => rfl); (case hg => rfl); (case hn => rfl); (case hr => first | (go_simp; done) | (go_simp; rfl)); intro w17 hw; have n0_ : Aside0 (Kd.V Kd.string 9 w17 w.heap.size (fun k_ => (P1_ k_ ∨ w.heap.size ≤ k_) ∧ some k_ ≠ (u4 : Value).ownBlock ∧ k_ ≠ gb451) u1 x1_1) := ⟨(by rw [hw]; exact (by (with_reducible repeat (first | apply Kd.V_alloc | apply Kd.V_drewN | apply Kd.V_drew)); exact Kd.V_mono (Kd.V_far (p := ⟨gb451, 2, none⟩) (Kd.V_far (p := ⟨gb451, 1, none⟩) (Kd.V_far (p := ⟨gb451, 0, none⟩) (Kd.V_mono HO_1.out (fun k_ hk => (⟨hk, hk.2⟩ : _ ∧ k_ ≠ gb451))) (fun _ hk => hk.2) (.int .i64 ((rd_T31 l0 x17_1).f0))) (fun _ hk => hk.2) (.int .i64 ((rd_T31 l0 x17_1).f1))) (fun _ hk => hk.2) (.slice A450_2 ((rd_T31 l0 x17_1).f2).length c450_2)) (fun _ hk => ⟨hk.1.1.1, ⟨hk.1.1.2, hk.1.2⟩⟩)))⟩; have n1_ : Aside0 (Kd.R Kd.string 9 w17 w.heap.size (fun k_ => (w.heap.size ≤ k_)) u4 x4_1) := ⟨(by rw [hw]; exact (by (with_reducible repeat (first | apply Kd.R_alloc | apply Kd.R_drewN | apply Kd.R_drew)); exact Kd.R_mono (Kd.R_far (p := ⟨gb451, 2, none⟩) (Kd.R_far (p := ⟨gb451, 1, none⟩) (Kd.R_far (p := ⟨gb451, 0, none⟩) (Kd.R_types HO_4.out BK451.out (by decide)) (fun _ hk => hk.2) (.int .i64 ((rd_T31 l0 x17_1).f0))) (fun _ hk => hk.2) (.int .i64 ((rd_T31 l0 x17_1).f1))) (fun _ hk => hk.2) (.slice A450_2 ((rd_T31 l0 x17_1).f2).length c450_2)) (fun _ hk => hk.1)))⟩; have n2_ : Aside0 (w17.heap[gb451]? = some (.cells #[.int .i64 ((rd_T31 l0 x17_1).f0), .int .i64 ((rd_T31 l0 x17_1).f1), .slice A450_2 ((rd_T31 l0 x17_1).f2).length c450_2] 31 (0, 0))) := ⟨(by rw [hw]; exact (by (with_reducible repeat (first | refine blk_drewN ?_ _ | refine blk_drew ?_ | refine blk_alloc ?_ _)); refine blk_put (cs := #[.int .i64 ((rd_T31 l0 x17_1).f0), .int .i64 ((rd_T31 l0 x17_1).f1), .slice none 0 0]) ?_ 2 _ rfl; (with_reducible repeat (first | refine blk_drewN ?_ _ | refine blk_drew ?_ | refine blk_alloc ?_ _)); refine blk_put (cs := #[.int .i64 ((rd_T31 l0 x17_1).f0), .int .i64 0, .slice none 0 0]) ?_ 1 _ rfl; (with_reducible repeat (first | refine blk_drewN ?_ _ | refine blk_drew ?_ | refine blk_alloc ?_ _)); refine blk_put (cs := #[.int .i64 0, .int .i64 0, .slice none 0 0]) ?_ 0 _ rfl; (with_reducible repeat (first | refine blk_drewN ?_ _ | refine blk_drew ?_ | refine blk_alloc ?_ _)); exact BK451.out))⟩; have n3_ : Aside0 (Below w.heap.size w w17) := ⟨(by rw [hw]; exact (by repeat (first | (with_reducible first | exact HB.out | apply below_alloc | apply pw_below_drewN | apply below_drew1 | refine below_set ?_ GE451.out) | exact HB.out)))⟩; clear hw; clear HO_1; clear HO_4; clear BK451; clear HB; have HO_1 := n0_; have HO_4 := n1_; have BK451 := n2_; have HB := n3_; clear n0_ n1_ n2_ n3_; have hcz18_0 : w17.cell? ⟨gb451, 0, none⟩ = some (.int .i64 ((rd_T31 l0 x17_1).f0)) := (blk_cell BK451.out 0).trans rfl; have hcz18_1 : w17.cell? ⟨gb451, 1, none⟩ = some (.int .i64 ((rd_T31 l0 x17_1).f1)) := (blk_cell BK451.out 1).trans rfl; have hcz18_2 : w17.cell? ⟨gb451, 2, none⟩ = some (.slice A450_2 ((rd_T31 l0 x17_1).f2).length c450_2) := (blk_cell BK451.out 2).trans rfl; have hfz18_0 := blk_frozen BK451.out 0; have hfz18_1 := blk_frozen BK451.out 1; have hfz18_2 := blk_frozen BK451.out 2; (try (obtain ⟨Ao20, co20, eo20⟩ := Kd.V_slice HO_1.out; subst eo20)); have q19 : (((rd_T31 l0 x17_1).f1) : Int) ≤ ((x1_1.length : Int) : Int) := of_decide_eq_true as_; obtain ⟨i019, hi019, _, hsz19, _⟩ := info_parts info9; have hroom19 : x1_1.length ≤ co20 := (Kd.V_reads' HO_1.out).2.1; have hC19 : Kd.F Kd.string _ _ Ao20 x1_1.length x1_1 := (Kd.V_at (base := w.heap.size) HO_1.out).2.2; have hcut19 := cut_to (P := Try.prog) 29 9 .i64 Try.underlying29 hi019 Ao20 x1_1.length co20 ((rd_T31 l0 x17_1).f1) (of_decide_eq_true as_) q19 hroom19; have hr19 := Kd.F_take (m := (((rd_T31 l0 x17_1).f1) : Int).toNat) hC19 (by omega); have hy19 : y452.length = (((rd_T31 l0 x17_1).f1) : Int).toNat := (by rw [Ny452.out, List.length_take]; omega); rw [← Ny452.out] at hr19; rw [← hy19] at hcut19; have HO456 := Aside0.mk (show Kd.V Kd.string 9 _ w.heap.size _ (.slice Ao20 y452.length co20) y452 from Kd.V_mk (by omega) hr19); have HC456 := Aside0.mk (show y452.length ≤ co20 from by omega); clear hr19 hC19 hroom19 hi019 hsz19; have KY19 := Aside0.mk hy19; clear hy19; replace q19 := eq_true q19) | ((with_reducible refine gate_builtin (b := .append) (xs := #[.tmp 27, .tmp 31]) rfl ?_); at_builtin; refine Kd.R_append_rows Kd.string (w0 := w) w.heap.size rfl (.tmp 27) (.tmp 31) 29 9 (.string ⟨#[]⟩) 16 rfl Try.underlying29 info9 rfl (by decide) (by omega) u4 x4_1 y452 _ _ _ (fun k_ => (w.heap.size ≤ k_)) (fun _ => False) rfl rfl ?aO ?aR (fun _ _ h => h) (fun _ h => h.elim) ?aF ?aB ?aS ?aL ?_; (case aR => repeat (first | exact (Kd.V_reads' HO456.out).2.2 | (with_reducible refine Kd.C_alloc ?_ _) | (with_reducible refine Kd.C_drewN ?_ _) | (with_reducible refine Kd.C_drew ?_))); (case aB => exact (by repeat (first | (with_reducible first | exact HB.out | apply below_alloc | apply pw_below_drewN | apply below_drew1 | refine below_set ?_ GE451.out) | exact HB.out))); (case aF => exact (fun k_ hk => (Nat.le_trans (below_size (by repeat (first | (with_reducible first | exact HB.out | apply below_alloc | apply pw_below_drewN | apply below_drew1 | refine below_set ?_ GE451.out) | exact HB.out))) hk))); (case aO => exact (by (with_reducible repeat (first | apply Kd.R_alloc | apply Kd.R_drewN | apply Kd.R_drew)); exact HO_4.out)); (case aS => exact (below_size (by repeat (first | (with_reducible first | exact HB.out | apply below_alloc | apply pw_below_drewN | apply below_drew1 | refine below_set ?_ GE451.out) | exact HB.out)))); (case aL => have := LMc12.out; omega); intro v458 w21 ho hb hg hat; rw [← Ny457.out] at ho; have n0_ := Aside0.mk (Kd.V_afterv (ok := (fun k_ => (P1_ k_ ∨ w.heap.size ≤ k_) ∧ k_ ≠ gb451)) (by (with_reducible repeat (first | apply Kd.V_alloc | apply Kd.V_drewN | apply Kd.V_drew)); exact Kd.V_mono HO_1.out (fun _ hk => ⟨⟨hk.1, hk.2.2⟩, hk.2.1⟩)) hg hat); have n1_ := Aside0.mk (blk_grown (g := gb451) (o := .cells #[.int .i64 ((rd_T31 l0 x17_1).f0), .int .i64 ((rd_T31 l0 x17_1).f1), .slice A450_2 ((rd_T31 l0 x17_1).f2).length c450_2] 31 (0, 0)) (by (with_reducible repeat (first | refine blk_drewN ?_ _ | refine blk_drew ?_ | refine blk_alloc ?_ _)); exact BK451.out) hg (Kd.R_ne HO_4.out BK451.out (by decide))); have n2_ := Aside0.mk (Kd.V_afterv (ok := (fun k_ => (P1_ k_ ∨ w.heap.size ≤ k_) ∧ k_ ≠ gb451)) (by (with_reducible repeat (first | apply Kd.V_alloc | apply Kd.V_drewN | apply Kd.V_drew)); exact Kd.V_mono HO456.out (fun _ hk => ⟨⟨hk.1, hk.2.2⟩, hk.2.1⟩)) hg hat); have n3_ := Aside0.mk (hb); have n4_ := Aside0.mk (ho); clear HO_1; clear BK451; clear HO456; clear HB; clear HO_4; have HO_1 := n0_; have BK451 := n1_; have HO456 := n2_; have HB := n3_; have HO459 := n4_; clear n0_ n1_ n2_ n3_ n4_; clear ho hb hg hat; have hcz22_0 : w21.cell? ⟨gb451, 0, none⟩ = some (.int .i64 ((rd_T31 l0 x17_1).f0)) := (blk_cell BK451.out 0).trans rfl; have hcz22_1 : w21.cell? ⟨gb451, 1, none⟩ = some (.int .i64 ((rd_T31 l0 x17_1).f1)) := (blk_cell BK451.out 1).trans rfl; have hcz22_2 : w21.cell? ⟨gb451, 2, none⟩ = some (.slice A450_2 ((rd_T31 l0 x17_1).f2).length c450_2) := (blk_cell BK451.out 2).trans rfl; have hfz22_0 := blk_frozen BK451.out 0; have hfz22_1 := blk_frozen BK451.out 1; have hfz22_2 := blk_frozen BK451.out 2; have q23 : (((rd_T31 l0 x17_1).f1) : Int) ≤ ((x1_1.length : Int) : Int) := of_decide_eq_true as_; obtain ⟨i023, hi023, _, hsz23, _⟩ := info_parts info9; have hroom23 : x1_1.length ≤ co20 := (Kd.V_reads' HO_1.out).2.1; have hC23 : Kd.F Kd.string _ _ Ao20 x1_1.length x1_1 := (Kd.V_at (base := w.heap.size) HO_1.out).2.2; have q023 : (0 : Int) ≤ (((rd_T31 l0 x17_1).f1) : Int) := of_decide_eq_true as_; have hcut23 := cut_from (P := Try.prog) 29 9 .i64 Try.underlying29 hi023 1 hsz23 Ao20 x1_1.length co20 ((rd_T31 l0 x17_1).f1) q023 q23; have hr23 := Kd.F_cut (m := (((rd_T31 l0 x17_1).f1) : Int).toNat) (c := co20) hC23 (by omega) hroom23; obtain ⟨A23, hA23⟩ : ∃ A1, A1 = (if co20 = (((rd_T31 l0 x17_1).f1) : Int).toNat then Ao20 else (Ao20 : Option Addr).map (·.add ((((rd_T31 l0 x17_1).f1) : Int).toNat * 1))) := ⟨_, rfl⟩; obtain ⟨c23, hc23⟩ : ∃ c1, c1 = co20 - (((rd_T31 l0 x17_1).f1) : Int).toNat := ⟨_, rfl⟩; have hy23 : y460.length = x1_1.length - (((rd_T31 l0 x17_1).f1) : Int).toNat := (by rw [Ny460.out, List.length_drop] <;> omega); rw [show (x1_1).drop (((rd_T31 l0 x17_1).f1) : Int).toNat = y460 from Ny460.out.symm] at hr23; replace hr23 : Kd.F Kd.string _ _ A23 y460.length y460 := (by rw [hA23]; exact hr23); rw [← hy23, ← hA23, ← hc23] at hcut23; have HO464 := Aside0.mk (show Kd.V Kd.string 9 _ w.heap.size _ (.slice A23 y460.length c23) y460 from Kd.V_mk (by rw [hy23, hc23]; exact Nat.sub_le_sub_right hroom23 _) hr23); have HC464 := Aside0.mk (show y460.length ≤ c23 from by rw [hy23, hc23]; exact Nat.sub_le_sub_right hroom23 _); clear hr23 hC23 hroom23 hi023 hsz23 hc23; have KY23 := Aside0.mk hy23; have KA23 := Aside0.mk hA23; clear hy23 hA23; replace q23 := eq_true q23))
           go_roundg k1
           case measure => have := HK1.out; omega
           case rel => exact ⟨(y460), (y457), (wrap64 (x17_1 + 1)), rf_, H', ⟨by have := HK1.out; omega⟩, ⟨by (with_reducible repeat (first | apply Kd.V_alloc | apply Kd.V_drewN | apply Kd.V_drew)); exact Kd.V_mono HO464.out (fun _ hk => by first | exact ⟨hk.1.1, hk.2⟩ | simp_all)⟩, ⟨by (with_reducible repeat (first | apply Kd.R_alloc | apply Kd.R_drewN | apply Kd.R_drew)); exact HO459.out⟩, ⟨by repeat (first | (with_reducible first | exact HB.out | apply below_alloc | apply pw_below_drewN | apply below_drew1 | refine below_set ?_ GE451.out) | exact HB.out)⟩⟩
          ·rw [if_neg c12] at H
           exact absurd H (by simp)
         ·rw [if_neg c11] at H
          exact absurd H (by simp)
        ·rw [if_neg c10] at H
         exact absurd H (by simp)
       ·rw [if_neg c9] at H
        have c9b0 : (((rd_T31 l0 x17_1).f0) == 1) = false := beq_eq_false_iff_ne.mpr c9
        have c9b1 : (((rd_T31 l0 x17_1).f0) != 1) = true := bne_iff_ne.mpr c9
        by_cases c24 : ((rd_T31 l0 x17_1).f0) = 2
        ·rw [if_pos c24] at H
         have c24b0 : (((rd_T31 l0 x17_1).f0) == 2) = true := beq_iff_eq.mpr c24
         have c24b1 : (((rd_T31 l0 x17_1).f0) != 2) = false := bne_eq_false_iff_eq.mpr c24
         clear c24
         by_cases c25 : 0 ≤ ((rd_T31 l0 x17_1).f1)
         ·rw [if_pos c25] at H
          have c25b0 := eq_true c25
          have c25b1 : decide (0 ≤ ((rd_T31 l0 x17_1).f1)) = true := decide_eq_true c25
          clear c25
          by_cases c26 : ((rd_T31 l0 x17_1).f1) ≤ (x1_1.length : Int)
          ·rw [if_pos c26] at H
           have c26b0 := eq_true c26
           have c26b1 : decide (((rd_T31 l0 x17_1).f1) ≤ (x1_1.length : Int)) = true := decide_eq_true c26
           clear c26
           obtain ⟨y465, hy465⟩ : ∃ y_ : List ByteArray, y_ = (x1_1.drop (((rd_T31 l0 x17_1).f1) : Int).toNat) := ⟨_, rfl⟩
           replace H : (script_Apply.l0 k1 y465 x4_1 l0 (l0.length : Int) (wrap64 (x17_1 + 1))) = some (r1, r2) := by first | (rw [hy465]; with_reducible exact H) | (have H2_ := (Option.bind_some _ _).symm.trans H; rw [hy465]; with_reducible exact H2_) | (have H2_ := (Option.bind_some _ _).symm.trans H; with_reducible exact H2_) | with_reducible exact H | (rw [hy465]; exact H) | exact H
           have Ny465 := Aside0.mk hy465
           clear hy465
           have H' := Aside0.mk H
           clear H
           have p450 : 0 ≤ (x17_1 : Int) := of_decide_eq_true as_
           have q450 : x17_1 < (l0.length : Int) := of_decide_eq_true as_
           obtain ⟨ad450, A450_2, c450_2, e450, hx450_0, hx450_1, hx450_2, hl450_2, hi450_2⟩ := at_T31 HR0.out x17_1 p450 q450
           cases e450
           replace hx450_0 := (HB.out.cell (World.block_lt_of_cell? w _ hx450_0)).trans hx450_0
           replace hx450_1 := (HB.out.cell (World.block_lt_of_cell? w _ hx450_1)).trans hx450_1
           replace hx450_2 := (HB.out.cell (World.block_lt_of_cell? w _ hx450_2)).trans hx450_2
           have HR450_2 := Aside0.mk hi450_2
           have HC450_2 := Aside0.mk hl450_2
           clear hi450_2 hl450_2
           replace p450 := eq_true p450
           replace q450 := eq_true q450
           go_wp2_with (first | ((with_reducible refine gate_dst (N := 8) rfl ?_); refine box_event ?hg (N := 8) ?hd (cs := #[.int .i64 0, .int .i64 0, .slice none 0 0]) (t := 31) ?hr ?_; (case hd => rfl); (case hg => rfl); (case hr => first | (go_simp; done) | (go_simp; rfl)); intro gb451 hg w27 hbox hb; have n0_ := Aside0.mk (Kd.V_below (Kd.V_elderB (by (with_reducible repeat (first | apply Kd.V_alloc | apply Kd.V_drewN | apply Kd.V_drew)); exact HO_1.out) gb451 (Nat.le_of_eq hg.symm)) hb); have n1_ := Aside0.mk (Kd.R_below (by (with_reducible repeat (first | apply Kd.R_alloc | apply Kd.R_drewN | apply Kd.R_drew)); exact HO_4.out) hb); have n2_ := Aside0.mk (below_step hb_ hb); have n3_ := Aside0.mk (hbox); have n4_ := Aside0.mk ((by rw [hg]; exact (below_size hb_) : w.heap.size ≤ gb451)); have n5_ := Aside0.mk ((by rw [hg]; exact (below_size hb_) : w.heap.size ≤ gb451)); clear HO_1; clear HO_4; clear HB; have HO_1 := n0_; have HO_4 := n1_; have HB := n2_; have BK451 := n3_; have GW451 := n4_; have GE451 := n5_; clear n0_ n1_ n2_ n3_ n4_ n5_; clear hb hbox hg; have hcz28_0 : w27.cell? ⟨gb451, 0, none⟩ = some (.int .i64 0) := (blk_cell BK451.out 0).trans rfl; have hcz28_1 : w27.cell? ⟨gb451, 1, none⟩ = some (.int .i64 0) := (blk_cell BK451.out 1).trans rfl; have hcz28_2 : w27.cell? ⟨gb451, 2, none⟩ = some (.slice none 0 0) := (blk_cell BK451.out 2).trans rfl; have hfz28_0 := blk_frozen BK451.out 0; have hfz28_1 := blk_frozen BK451.out 1; have hfz28_2 := blk_frozen BK451.out 2) | ((with_reducible refine gate_store (t := 31) (p := 8) rfl ?_); refine store_event (t := 31) (p := 8) (v := ?vo_w29) (w1 := (((w27.setCell ⟨gb451, 0, none⟩ (.int .i64 ((rd_T31 l0 x17_1).f0))).setCell ⟨gb451, 1, none⟩ (.int .i64 ((rd_T31 l0 x17_1).f1))).setCell ⟨gb451, 2, none⟩ (.slice A450_2 ((rd_T31 l0 x17_1).f2).length c450_2))) ?hg ?ho ?hn ?hr ?_; (case ho => rfl); (case hg => rfl); (case hn => rfl); (case hr => first | (go_simp; done) | (go_simp; rfl)); intro w29 hw; have n0_ : Aside0 (Kd.V Kd.string 9 w29 w.heap.size (fun k_ => (P1_ k_ ∨ w.heap.size ≤ k_) ∧ some k_ ≠ (u4 : Value).ownBlock ∧ k_ ≠ gb451) u1 x1_1) := ⟨(by rw [hw]; exact (by (with_reducible repeat (first | apply Kd.V_alloc | apply Kd.V_drewN | apply Kd.V_drew)); exact Kd.V_mono (Kd.V_far (p := ⟨gb451, 2, none⟩) (Kd.V_far (p := ⟨gb451, 1, none⟩) (Kd.V_far (p := ⟨gb451, 0, none⟩) (Kd.V_mono HO_1.out (fun k_ hk => (⟨hk, hk.2⟩ : _ ∧ k_ ≠ gb451))) (fun _ hk => hk.2) (.int .i64 ((rd_T31 l0 x17_1).f0))) (fun _ hk => hk.2) (.int .i64 ((rd_T31 l0 x17_1).f1))) (fun _ hk => hk.2) (.slice A450_2 ((rd_T31 l0 x17_1).f2).length c450_2)) (fun _ hk => ⟨hk.1.1.1, ⟨hk.1.1.2, hk.1.2⟩⟩)))⟩; have n1_ : Aside0 (Kd.R Kd.string 9 w29 w.heap.size (fun k_ => (w.heap.size ≤ k_)) u4 x4_1) := ⟨(by rw [hw]; exact (by (with_reducible repeat (first | apply Kd.R_alloc | apply Kd.R_drewN | apply Kd.R_drew)); exact Kd.R_mono (Kd.R_far (p := ⟨gb451, 2, none⟩) (Kd.R_far (p := ⟨gb451, 1, none⟩) (Kd.R_far (p := ⟨gb451, 0, none⟩) (Kd.R_types HO_4.out BK451.out (by decide)) (fun _ hk => hk.2) (.int .i64 ((rd_T31 l0 x17_1).f0))) (fun _ hk => hk.2) (.int .i64 ((rd_T31 l0 x17_1).f1))) (fun _ hk => hk.2) (.slice A450_2 ((rd_T31 l0 x17_1).f2).length c450_2)) (fun _ hk => hk.1)))⟩; have n2_ : Aside0 (w29.heap[gb451]? = some (.cells #[.int .i64 ((rd_T31 l0 x17_1).f0), .int .i64 ((rd_T31 l0 x17_1).f1), .slice A450_2 ((rd_T31 l0 x17_1).f2).length c450_2] 31 (0, 0))) := ⟨(by rw [hw]; exact (by (with_reducible repeat (first | refine blk_drewN ?_ _ | refine blk_drew ?_ | refine blk_alloc ?_ _)); refine blk_put (cs := #[.int .i64 ((rd_T31 l0 x17_1).f0), .int .i64 ((rd_T31 l0 x17_1).f1), .slice none 0 0]) ?_ 2 _ rfl; (with_reducible repeat (first | refine blk_drewN ?_ _ | refine blk_drew ?_ | refine blk_alloc ?_ _)); refine blk_put (cs := #[.int .i64 ((rd_T31 l0 x17_1).f0), .int .i64 0, .slice none 0 0]) ?_ 1 _ rfl; (with_reducible repeat (first | refine blk_drewN ?_ _ | refine blk_drew ?_ | refine blk_alloc ?_ _)); refine blk_put (cs := #[.int .i64 0, .int .i64 0, .slice none 0 0]) ?_ 0 _ rfl; (with_reducible repeat (first | refine blk_drewN ?_ _ | refine blk_drew ?_ | refine blk_alloc ?_ _)); exact BK451.out))⟩; have n3_ : Aside0 (Below w.heap.size w w29) := ⟨(by rw [hw]; exact (by repeat (first | (with_reducible first | exact HB.out | apply below_alloc | apply pw_below_drewN | apply below_drew1 | refine below_set ?_ GE451.out) | exact HB.out)))⟩; clear hw; clear HO_1; clear HO_4; clear BK451; clear HB; have HO_1 := n0_; have HO_4 := n1_; have BK451 := n2_; have HB := n3_; clear n0_ n1_ n2_ n3_; have hcz30_0 : w29.cell? ⟨gb451, 0, none⟩ = some (.int .i64 ((rd_T31 l0 x17_1).f0)) := (blk_cell BK451.out 0).trans rfl; have hcz30_1 : w29.cell? ⟨gb451, 1, none⟩ = some (.int .i64 ((rd_T31 l0 x17_1).f1)) := (blk_cell BK451.out 1).trans rfl; have hcz30_2 : w29.cell? ⟨gb451, 2, none⟩ = some (.slice A450_2 ((rd_T31 l0 x17_1).f2).length c450_2) := (blk_cell BK451.out 2).trans rfl; have hfz30_0 := blk_frozen BK451.out 0; have hfz30_1 := blk_frozen BK451.out 1; have hfz30_2 := blk_frozen BK451.out 2; (try (obtain ⟨Ao32, co32, eo32⟩ := Kd.V_slice HO_1.out; subst eo32)); have q31 : (((rd_T31 l0 x17_1).f1) : Int) ≤ ((x1_1.length : Int) : Int) := of_decide_eq_true as_; obtain ⟨i031, hi031, _, hsz31, _⟩ := info_parts info9; have hroom31 : x1_1.length ≤ co32 := (Kd.V_reads' HO_1.out).2.1; have hC31 : Kd.F Kd.string _ _ Ao32 x1_1.length x1_1 := (Kd.V_at (base := w.heap.size) HO_1.out).2.2; have q031 : (0 : Int) ≤ (((rd_T31 l0 x17_1).f1) : Int) := of_decide_eq_true as_; have hcut31 := cut_from (P := Try.prog) 29 9 .i64 Try.underlying29 hi031 1 hsz31 Ao32 x1_1.length co32 ((rd_T31 l0 x17_1).f1) q031 q31; have hr31 := Kd.F_cut (m := (((rd_T31 l0 x17_1).f1) : Int).toNat) (c := co32) hC31 (by omega) hroom31; obtain ⟨A31, hA31⟩ : ∃ A1, A1 = (if co32 = (((rd_T31 l0 x17_1).f1) : Int).toNat then Ao32 else (Ao32 : Option Addr).map (·.add ((((rd_T31 l0 x17_1).f1) : Int).toNat * 1))) := ⟨_, rfl⟩; obtain ⟨c31, hc31⟩ : ∃ c1, c1 = co32 - (((rd_T31 l0 x17_1).f1) : Int).toNat := ⟨_, rfl⟩; have hy31 : y465.length = x1_1.length - (((rd_T31 l0 x17_1).f1) : Int).toNat := (by rw [Ny465.out, List.length_drop] <;> omega); rw [show (x1_1).drop (((rd_T31 l0 x17_1).f1) : Int).toNat = y465 from Ny465.out.symm] at hr31; replace hr31 : Kd.F Kd.string _ _ A31 y465.length y465 := (by rw [hA31]; exact hr31); rw [← hy31, ← hA31, ← hc31] at hcut31; have HO469 := Aside0.mk (show Kd.V Kd.string 9 _ w.heap.size _ (.slice A31 y465.length c31) y465 from Kd.V_mk (by rw [hy31, hc31]; exact Nat.sub_le_sub_right hroom31 _) hr31); have HC469 := Aside0.mk (show y465.length ≤ c31 from by rw [hy31, hc31]; exact Nat.sub_le_sub_right hroom31 _); clear hr31 hC31 hroom31 hi031 hsz31 hc31; have KY31 := Aside0.mk hy31; have KA31 := Aside0.mk hA31; clear hy31 hA31; replace q31 := eq_true q31))
           go_roundg k1
           case measure => have := HK1.out; omega
           case rel => exact ⟨(y465), (x4_1), (wrap64 (x17_1 + 1)), rf_, H', ⟨by have := HK1.out; omega⟩, ⟨by (with_reducible repeat (first | apply Kd.V_alloc | apply Kd.V_drewN | apply Kd.V_drew)); exact Kd.V_mono HO469.out (fun _ hk => by first | exact ⟨hk.1, hk.2.1⟩ | simp_all)⟩, ⟨by (with_reducible repeat (first | apply Kd.R_alloc | apply Kd.R_drewN | apply Kd.R_drew)); exact HO_4.out⟩, ⟨by repeat (first | (with_reducible first | exact HB.out | apply below_alloc | apply pw_below_drewN | apply below_drew1 | refine below_set ?_ GE451.out) | exact HB.out)⟩⟩
          ·rw [if_neg c26] at H
           exact absurd H (by simp)
         ·rw [if_neg c25] at H
          exact absurd H (by simp)
        ·rw [if_neg c24] at H
         have c24b0 : (((rd_T31 l0 x17_1).f0) == 2) = false := beq_eq_false_iff_ne.mpr c24
         have c24b1 : (((rd_T31 l0 x17_1).f0) != 2) = true := bne_iff_ne.mpr c24
         by_cases c33 : x4_1.length + ((rd_T31 l0 x17_1).f2).length < 8796093022208
         ·rw [if_pos c33] at H
          have LMc33 := Aside0.mk c33
          clear c33
          obtain ⟨y470, hy470⟩ : ∃ y_ : List ByteArray, y_ = (x4_1 ++ ((rd_T31 l0 x17_1).f2)) := ⟨_, rfl⟩
          replace H : (script_Apply.l0 k1 x1_1 y470 l0 (l0.length : Int) (wrap64 (x17_1 + 1))) = some (r1, r2) := by first | (rw [hy470]; with_reducible exact H) | (have H2_ := (Option.bind_some _ _).symm.trans H; rw [hy470]; with_reducible exact H2_) | (have H2_ := (Option.bind_some _ _).symm.trans H; with_reducible exact H2_) | with_reducible exact H | (rw [hy470]; exact H) | exact H
          have Ny470 := Aside0.mk hy470
          clear hy470
          have H' := Aside0.mk H
          clear H
          have p450 : 0 ≤ (x17_1 : Int) := of_decide_eq_true as_
          have q450 : x17_1 < (l0.length : Int) := of_decide_eq_true as_
          obtain ⟨ad450, A450_2, c450_2, e450, hx450_0, hx450_1, hx450_2, hl450_2, hi450_2⟩ := at_T31 HR0.out x17_1 p450 q450
          cases e450
          replace hx450_0 := (HB.out.cell (World.block_lt_of_cell? w _ hx450_0)).trans hx450_0
          replace hx450_1 := (HB.out.cell (World.block_lt_of_cell? w _ hx450_1)).trans hx450_1
          replace hx450_2 := (HB.out.cell (World.block_lt_of_cell? w _ hx450_2)).trans hx450_2
          have HR450_2 := Aside0.mk hi450_2
          have HC450_2 := Aside0.mk hl450_2
          clear hi450_2 hl450_2
          replace p450 := eq_true p450
          replace q450 := eq_true q450
          go_wp2_with (first | ((with_reducible refine gate_dst (N := 8) rfl ?_); refine box_event ?hg (N := 8) ?hd (cs := #[.int .i64 0, .int .i64 0, .slice none 0 0]) (t := 31) ?hr ?_; (case hd => rfl); (case hg => rfl); (case hr => first | (go_simp; done) | (go_simp; rfl)); intro gb451 hg w34 hbox hb; have n0_ := Aside0.mk (Kd.V_below (Kd.V_elderB (by (with_reducible repeat (first | apply Kd.V_alloc | apply Kd.V_drewN | apply Kd.V_drew)); exact HO_1.out) gb451 (Nat.le_of_eq hg.symm)) hb); have n1_ := Aside0.mk (Kd.R_below (by (with_reducible repeat (first | apply Kd.R_alloc | apply Kd.R_drewN | apply Kd.R_drew)); exact HO_4.out) hb); have n2_ := Aside0.mk (below_step hb_ hb); have n3_ := Aside0.mk (hbox); have n4_ := Aside0.mk ((by rw [hg]; exact (below_size hb_) : w.heap.size ≤ gb451)); have n5_ := Aside0.mk ((by rw [hg]; exact (below_size hb_) : w.heap.size ≤ gb451)); clear HO_1; clear HO_4; clear HB; have HO_1 := n0_; have HO_4 := n1_; have HB := n2_; have BK451 := n3_; have GW451 := n4_; have GE451 := n5_; clear n0_ n1_ n2_ n3_ n4_ n5_; clear hb hbox hg; have hcz35_0 : w34.cell? ⟨gb451, 0, none⟩ = some (.int .i64 0) := (blk_cell BK451.out 0).trans rfl; have hcz35_1 : w34.cell? ⟨gb451, 1, none⟩ = some (.int .i64 0) := (blk_cell BK451.out 1).trans rfl; have hcz35_2 : w34.cell? ⟨gb451, 2, none⟩ = some (.slice none 0 0) := (blk_cell BK451.out 2).trans rfl; have hfz35_0 := blk_frozen BK451.out 0; have hfz35_1 := blk_frozen BK451.out 1; have hfz35_2 := blk_frozen BK451.out 2) | ((with_reducible refine gate_builtin (b := .append) (xs := #[.tmp 37, .tmp 39]) rfl ?_); at_builtin; refine Kd.R_append_rows Kd.string (w0 := w) w.heap.size rfl (.tmp 37) (.tmp 39) 29 9 (.string ⟨#[]⟩) 16 rfl Try.underlying29 info9 rfl (by decide) (by omega) u4 x4_1 ((rd_T31 l0 x17_1).f2) _ _ _ (fun k_ => (w.heap.size ≤ k_)) (fun _ => False) rfl rfl ?aO ?aR (fun _ _ h => h) (fun _ h => h.elim) ?aF ?aB ?aS ?aL ?_; (case aR => exact Kd.C_below HR450_2.out (by repeat (first | (with_reducible first | exact HB.out | apply below_alloc | apply pw_below_drewN | apply below_drew1 | refine below_set ?_ GE451.out) | exact HB.out))); (case aB => exact (by repeat (first | (with_reducible first | exact HB.out | apply below_alloc | apply pw_below_drewN | apply below_drew1 | refine below_set ?_ GE451.out) | exact HB.out))); (case aF => exact (fun k_ hk => (Nat.le_trans (below_size (by repeat (first | (with_reducible first | exact HB.out | apply below_alloc | apply pw_below_drewN | apply below_drew1 | refine below_set ?_ GE451.out) | exact HB.out))) hk))); (case aO => exact (by (with_reducible repeat (first | apply Kd.R_alloc | apply Kd.R_drewN | apply Kd.R_drew)); exact Kd.R_mono (Kd.R_far (p := ⟨gb451, 2, none⟩) (Kd.R_far (p := ⟨gb451, 1, none⟩) (Kd.R_far (p := ⟨gb451, 0, none⟩) (Kd.R_types HO_4.out BK451.out (by decide)) (fun _ hk => hk.2) (.int .i64 ((rd_T31 l0 x17_1).f0))) (fun _ hk => hk.2) (.int .i64 ((rd_T31 l0 x17_1).f1))) (fun _ hk => hk.2) (.slice A450_2 ((rd_T31 l0 x17_1).f2).length c450_2)) (fun _ hk => hk.1))); (case aS => exact (below_size (by repeat (first | (with_reducible first | exact HB.out | apply below_alloc | apply pw_below_drewN | apply below_drew1 | refine below_set ?_ GE451.out) | exact HB.out)))); (case aL => have := LMc33.out; omega); intro v471 w36 ho hb hg hat; rw [← Ny470.out] at ho; have n0_ := Aside0.mk (Kd.V_afterv (ok := (fun k_ => (P1_ k_ ∨ w.heap.size ≤ k_) ∧ k_ ≠ gb451)) (by (with_reducible repeat (first | apply Kd.V_alloc | apply Kd.V_drewN | apply Kd.V_drew)); exact Kd.V_mono (Kd.V_far (p := ⟨gb451, 2, none⟩) (Kd.V_far (p := ⟨gb451, 1, none⟩) (Kd.V_far (p := ⟨gb451, 0, none⟩) (Kd.V_mono HO_1.out (fun k_ hk => (⟨hk, hk.2⟩ : _ ∧ k_ ≠ gb451))) (fun _ hk => hk.2) (.int .i64 ((rd_T31 l0 x17_1).f0))) (fun _ hk => hk.2) (.int .i64 ((rd_T31 l0 x17_1).f1))) (fun _ hk => hk.2) (.slice A450_2 ((rd_T31 l0 x17_1).f2).length c450_2)) (fun _ hk => ⟨⟨hk.1.1.1, hk.1.2⟩, hk.1.1.2⟩)) hg hat); have n1_ := Aside0.mk (blk_grown (g := gb451) (o := .cells #[.int .i64 ((rd_T31 l0 x17_1).f0), .int .i64 ((rd_T31 l0 x17_1).f1), .slice A450_2 ((rd_T31 l0 x17_1).f2).length c450_2] 31 (0, 0)) (by (with_reducible repeat (first | refine blk_drewN ?_ _ | refine blk_drew ?_ | refine blk_alloc ?_ _)); refine blk_put (cs := #[.int .i64 ((rd_T31 l0 x17_1).f0), .int .i64 ((rd_T31 l0 x17_1).f1), .slice none 0 0]) ?_ 2 _ rfl; (with_reducible repeat (first | refine blk_drewN ?_ _ | refine blk_drew ?_ | refine blk_alloc ?_ _)); refine blk_put (cs := #[.int .i64 ((rd_T31 l0 x17_1).f0), .int .i64 0, .slice none 0 0]) ?_ 1 _ rfl; (with_reducible repeat (first | refine blk_drewN ?_ _ | refine blk_drew ?_ | refine blk_alloc ?_ _)); refine blk_put (cs := #[.int .i64 0, .int .i64 0, .slice none 0 0]) ?_ 0 _ rfl; (with_reducible repeat (first | refine blk_drewN ?_ _ | refine blk_drew ?_ | refine blk_alloc ?_ _)); exact BK451.out) hg (Kd.R_ne HO_4.out BK451.out (by decide))); have n2_ := Aside0.mk (hb); have n3_ := Aside0.mk (ho); clear HO_1; clear BK451; clear HB; clear HO_4; have HO_1 := n0_; have BK451 := n1_; have HB := n2_; have HO472 := n3_; clear n0_ n1_ n2_ n3_; clear ho hb hg hat))
          go_roundg k1
          case measure => have := HK1.out; omega
          case rel => exact ⟨(x1_1), (y470), (wrap64 (x17_1 + 1)), rf_, H', ⟨by have := HK1.out; omega⟩, ⟨by (with_reducible repeat (first | apply Kd.V_alloc | apply Kd.V_drewN | apply Kd.V_drew)); exact Kd.V_mono HO_1.out (fun _ hk => by first | exact ⟨hk.1.1, hk.2⟩ | simp_all)⟩, ⟨by (with_reducible repeat (first | apply Kd.R_alloc | apply Kd.R_drewN | apply Kd.R_drew)); exact HO472.out⟩, ⟨by repeat (first | (with_reducible first | exact HB.out | apply below_alloc | apply pw_below_drewN | apply below_drew1 | refine below_set ?_ GE451.out) | exact HB.out)⟩⟩
         ·rw [if_neg c33] at H
          exact absurd H (by simp)
      ·rw [if_neg c8] at H
       exact absurd H (by simp)
     ·rw [if_neg c7] at H
      exact absurd H (by simp)
    ·rw [if_neg c6] at H
     have c6b0 : decide (x17_1 < (l0.length : Int)) = false := decide_eq_false c6
     clear c6
     simp only [Option.some.injEq, Prod.mk.injEq] at H
     obtain ⟨rfl, rfl⟩ := H
     go_wp2
     go_ret2
     exact ⟨_, by first | rfl | (simp [errW_none, errW_some] <;> rfl) | (simp [*, errW_none, errW_some] <;> rfl), by (with_reducible repeat (first | apply Kd.R_alloc | apply Kd.R_drewN | apply Kd.R_drew)); exact HO_4.out, by repeat (first | (with_reducible first | exact HB.out | apply below_alloc | apply pw_below_drewN | apply below_drew1) | exact HB.out)⟩
 ·rw [if_neg c4] at H
  have c4b0 : (t449 == 0) = false := beq_eq_false_iff_ne.mpr c4
  have c4b1 : (t449 != 0) = true := bne_iff_ne.mpr c4
  simp only [Option.some.injEq, Prod.mk.injEq] at H
  obtain ⟨rfl, rfl⟩ := H
  go_enter Try.func46, Try.ntmps46
  go_wp2_with (first | ((with_reducible refine gate_callee (f := 51) rfl ?_); refine goesL_ (some 11) rfl rfl Try.func51 (by kernel_rfl) rfl #[.slice A0 l0.length c0, .slice A1 l1.length c1] rfl mp_ ?_; (with_reducible refine (script_fits.calls k _ _ l0 _ _ l1 t449 _ ?side1 ?side2 ?side3 ?side4 A3.out).mono ?_); (case side1 => repeat (first | exact HR0.out | (with_reducible refine Kd.C_alloc ?_ _) | (with_reducible refine Kd.C_drewN ?_ _) | (with_reducible refine Kd.C_drew ?_))); (case side2 => exact HC0.out); (case side3 => repeat (first | exact (Kd.V_reads' HO1.out).2.2 | (with_reducible refine Kd.C_alloc ?_ _) | (with_reducible refine Kd.C_drewN ?_ _) | (with_reducible refine Kd.C_drew ?_))); (case side4 => exact (Kd.V_reads' HO1.out).2.1); rintro e w37 ⟨rfl, hb⟩; refine ⟨_, rfl, ?_⟩; have n0_ := Aside0.mk (Kd.V_below (by (with_reducible repeat (first | apply Kd.V_alloc | apply Kd.V_drewN | apply Kd.V_drew)); exact HO1.out) hb); have n1_ := Aside0.mk (below_step hb_ hb); clear HO1; clear HB; have HO1 := n0_; have HB := n1_; clear n0_ n1_; (try clear hb); (try clear hb2); (try clear hk); (try clear hi)))
  go_ret2
  exact ⟨_, by first | rfl | (simp [errW_none, errW_some] <;> rfl) | (simp [*, errW_none, errW_some] <;> rfl), by first | exact Kd.R_nil _ _ _ _ _ | exact Kd.N_nil _ _ _ _ _ | exact Kd.V_nil _ _ _ _ _ | exact Kd.Q_nil _ _ _ _ _ | exact Kd.S_nil _ _ _ _ _, by repeat (first | (with_reducible first | exact HB.out | apply below_alloc | apply pw_below_drewN | apply below_drew1) | exact HB.out)⟩

end Go.Proofs.Ytgobidmfbjmpkaa.P
