/- Texts of this claim, joined: Pxf26, Pxf51, EApplyP, ESame4, Pxf29, Pxf30. -/
import Derived.Test.YtgobidmfbjmpkaaMHunksTells1
import Derived.Test.YtgobidmfbjmpkaaMHunksTells2
import Derived.Lib.Hide
section
/- Laid for this claim by hp.py, this session's program round the kit's print: functions of the program as plain Lean functions, the proofs that the code comes to their answers, and the rows of the laws. Not trusted: Lean checks it. -/
namespace Go.Proofs.Ytgobidmfbjmpkaa.P
open Go.RowKit Go.Proofs.YtgobidmfbjmpkaaW.PrintWords Go.Proofs.YtgobidmfbjmpkaaW.PrintLast Go.Proofs.YtgobidmfbjmpkaaW.PrintMore
attribute [local go_sem] max2_int min2_int max_two min_two max_three min_three max_four min_four   -- for this text's walks alone
set_option linter.unusedVariables false
set_option linter.unusedSimpArgs false

/-! ### script_Spans: function 26 -/
def script_Spans.l0 : Nat → Int → Int → List (S31) → Int → Int → Option (Int × Int)
 | 0, _, _, _, _, _ => none
 | k + 1, x2, x3, x9, x10, x11 => if x11 < x10 then (if 0 ≤ x11 then (if x11 < (x9.length : Int) then (if ((rd_T31 x9 x11).f0) = 1 then (script_Spans.l0 k (wrap64 (x2 + ((rd_T31 x9 x11).f1))) (wrap64 (x3 + ((rd_T31 x9 x11).f1))) x9 x10 (wrap64 (x11 + 1))) else (if ((rd_T31 x9 x11).f0) = 3 then (script_Spans.l0 k x2 (wrap64 (x3 + ((rd_T31 x9 x11).f1))) x9 x10 (wrap64 (x11 + 1))) else (script_Spans.l0 k (wrap64 (x2 + ((rd_T31 x9 x11).f1))) x3 x9 x10 (wrap64 (x11 + 1))))) else (none)) else (none)) else (some (x2, x3))
def script_Spans.f (k : Nat) (l0 : List (S31)) : Option (Int × Int) := (script_Right.f k l0).bind fun t310 => (if t310 = true then (script_Spans.l0 k 0 0 l0 (l0.length : Int) 0) else (some (0, 0)))
set_option maxHeartbeats 8000000 in
set_option maxRecDepth 100000 in
theorem script_Spans.calls (k : Nat) (A0 : Option Addr) (c0 : Nat) (l0 : List (S31)) (r1 : Int) (r2 : Int) (w : World) (hr0 : Kd.C k31 w A0 l0.length l0) (hc0 : l0.length ≤ c0) (h : script_Spans.f k l0 = some (r1, r2)) :
  Calls Try.prog 26 #[.slice A0 l0.length c0] w fun e w' => e = .returned (.tuple #[.int .i64 r1, .int .i64 r2]) ∧ Below w.heap.size w w' := by
 have hu31 := Try.underlying31
 have HR0 := Aside0.mk hr0
 have HC0 := Aside0.mk hc0
 clear hr0 hc0
 have HB := Aside0.mk (Below.refl w.heap.size w)
 have H : ((script_Right.f k l0).bind fun t310 => (if t310 = true then (script_Spans.l0 k 0 0 l0 (l0.length : Int) 0) else (some (0, 0)))) = some (r1, r2) := h
 clear h
 replace H := Option.bind_eq_some_iff.mp H
 obtain ⟨t310, A20, H⟩ := H
 replace H : (if t310 = true then (script_Spans.l0 k 0 0 l0 (l0.length : Int) 0) else (some (0, 0))) = some (r1, r2) := H
 have A2 := Aside0.mk A20
 clear A20
 by_cases c3 : t310 = true
 ·subst c3
  have H1 : (script_Spans.l0 k 0 0 l0 (l0.length : Int) 0) = some (r1, r2) := by rw [if_pos rfl] at H; exact H
  clear H
  have H := H1
  clear H1
  have H' := Aside0.mk H
  clear H
  go_enter Try.func26, Try.ntmps26
  go_wp2_with (first | ((with_reducible refine gate_callee (f := 31) rfl ?_); refine goesL_ (some 7) rfl rfl Try.func31 (by kernel_rfl) rfl #[.slice A0 l0.length c0] rfl mp_ ?_; (with_reducible refine (script_Right.calls k _ _ l0 true _ ?side1 ?side2 A2.out).mono ?_); (case side1 => repeat (first | exact HR0.out | (with_reducible refine Kd.C_alloc ?_ _) | (with_reducible refine Kd.C_drewN ?_ _) | (with_reducible refine Kd.C_drew ?_))); (case side2 => exact HC0.out); rintro e w4 ⟨rfl, hb⟩; refine ⟨_, rfl, ?_⟩; have n0_ := Aside0.mk (below_step hb_ hb); clear HB; have HB := n0_; clear n0_; (try clear hb); (try clear hb2); (try clear hk); (try clear hi)))
  go_loopg [2, 3, 11] k (fun kq v2 v3 v11 w' => ∃ (x2_1 : Int) (x3_1 : Int) (x11_1 : Int), v2 = .int .i64 x2_1 ∧ v3 = .int .i64 x3_1 ∧ v11 = .int .i64 x11_1 ∧ Aside0 (script_Spans.l0 kq x2_1 x3_1 l0 (l0.length : Int) x11_1 = some (r1, r2)) ∧ Aside0 (kq ≤ k) ∧ Aside0 (Below w.heap.size w w'))
  case atStart => exact ⟨(0), (0), (0), rf_, rf_, rf_, H', ⟨Nat.le_refl _⟩, ⟨by repeat (first | (with_reducible first | exact HB.out | apply below_alloc | apply pw_below_drewN | apply below_drew1) | exact HB.out)⟩⟩
  case round =>
   clear H'
   (try clear c2);(try clear p2);(try clear c3)
   obtain ⟨x2_1, x3_1, x11_1, rfl, rfl, rfl, HA, HK1, HB⟩ := hrel
   cases gk with
   | zero => exact absurd HA.out (by simp [script_Spans.l0])
   | succ k1 =>
    have H := HA.out
    clear HA
    simp only [script_Spans.l0] at H
    by_cases c5 : x11_1 < (l0.length : Int)
    ·rw [if_pos c5] at H
     have c5b0 : decide (x11_1 < (l0.length : Int)) = true := decide_eq_true c5
     clear c5
     by_cases c6 : 0 ≤ x11_1
     ·rw [if_pos c6] at H
      have c6b0 : decide (0 ≤ x11_1) = true := decide_eq_true c6
      clear c6
      by_cases c7 : x11_1 < (l0.length : Int)
      ·rw [if_pos c7] at H
       have c7b0 : decide (x11_1 < (l0.length : Int)) = true := decide_eq_true c7
       clear c7
       by_cases c8 : ((rd_T31 l0 x11_1).f0) = 1
       ·rw [if_pos c8] at H
        have c8b0 : (((rd_T31 l0 x11_1).f0) == 1) = true := beq_iff_eq.mpr c8
        have c8b1 : (((rd_T31 l0 x11_1).f0) != 1) = false := bne_eq_false_iff_eq.mpr c8
        clear c8
        have H' := Aside0.mk H
        clear H
        have p311 : 0 ≤ (x11_1 : Int) := of_decide_eq_true as_
        have q311 : x11_1 < (l0.length : Int) := of_decide_eq_true as_
        obtain ⟨ad311, A311_2, c311_2, e311, hx311_0, hx311_1, hx311_2, hl311_2, hi311_2⟩ := at_T31 HR0.out x11_1 p311 q311
        cases e311
        replace hx311_0 := (HB.out.cell (World.block_lt_of_cell? w _ hx311_0)).trans hx311_0
        replace hx311_1 := (HB.out.cell (World.block_lt_of_cell? w _ hx311_1)).trans hx311_1
        replace hx311_2 := (HB.out.cell (World.block_lt_of_cell? w _ hx311_2)).trans hx311_2
        have HR311_2 := Aside0.mk hi311_2
        have HC311_2 := Aside0.mk hl311_2
        clear hi311_2 hl311_2
        replace p311 := eq_true p311
        replace q311 := eq_true q311
        go_wp2_with (first | ((with_reducible refine gate_dst (N := 5) rfl ?_); refine box_event ?hg (N := 5) ?hd (cs := #[.int .i64 0, .int .i64 0, .slice none 0 0]) (t := 31) ?hr ?_; (case hd => rfl); (case hg => rfl); (case hr => first | (go_simp; done) | (go_simp; rfl)); intro gb312 hg w9 hbox hb; have n0_ := Aside0.mk (below_step hb_ hb); have n1_ := Aside0.mk (hbox); have n2_ := Aside0.mk ((by rw [hg]; exact (below_size hb_) : w.heap.size ≤ gb312)); have n3_ := Aside0.mk ((by rw [hg]; exact (below_size hb_) : w.heap.size ≤ gb312)); clear HB; have HB := n0_; have BK312 := n1_; have GW312 := n2_; have GE312 := n3_; clear n0_ n1_ n2_ n3_; clear hb hbox hg; have hcz10_0 : w9.cell? ⟨gb312, 0, none⟩ = some (.int .i64 0) := (blk_cell BK312.out 0).trans rfl; have hcz10_1 : w9.cell? ⟨gb312, 1, none⟩ = some (.int .i64 0) := (blk_cell BK312.out 1).trans rfl; have hcz10_2 : w9.cell? ⟨gb312, 2, none⟩ = some (.slice none 0 0) := (blk_cell BK312.out 2).trans rfl; have hfz10_0 := blk_frozen BK312.out 0; have hfz10_1 := blk_frozen BK312.out 1; have hfz10_2 := blk_frozen BK312.out 2))
        go_roundg k1
        case measure => have := HK1.out; omega
        case rel => exact ⟨(wrap64 (x2_1 + ((rd_T31 l0 x11_1).f1))), (wrap64 (x3_1 + ((rd_T31 l0 x11_1).f1))), (wrap64 (x11_1 + 1)), rf_, rf_, rf_, H', ⟨by have := HK1.out; omega⟩, ⟨by repeat (first | (with_reducible first | exact HB.out | apply below_alloc | apply pw_below_drewN | apply below_drew1 | refine below_set ?_ GE312.out) | exact HB.out)⟩⟩
       ·rw [if_neg c8] at H
        have c8b0 : (((rd_T31 l0 x11_1).f0) == 1) = false := beq_eq_false_iff_ne.mpr c8
        have c8b1 : (((rd_T31 l0 x11_1).f0) != 1) = true := bne_iff_ne.mpr c8
        by_cases c11 : ((rd_T31 l0 x11_1).f0) = 3
        ·rw [if_pos c11] at H
         have c11b0 : (((rd_T31 l0 x11_1).f0) == 3) = true := beq_iff_eq.mpr c11
         have c11b1 : (((rd_T31 l0 x11_1).f0) != 3) = false := bne_eq_false_iff_eq.mpr c11
         clear c11
         have H' := Aside0.mk H
         clear H
         have p311 : 0 ≤ (x11_1 : Int) := of_decide_eq_true as_
         have q311 : x11_1 < (l0.length : Int) := of_decide_eq_true as_
         obtain ⟨ad311, A311_2, c311_2, e311, hx311_0, hx311_1, hx311_2, hl311_2, hi311_2⟩ := at_T31 HR0.out x11_1 p311 q311
         cases e311
         replace hx311_0 := (HB.out.cell (World.block_lt_of_cell? w _ hx311_0)).trans hx311_0
         replace hx311_1 := (HB.out.cell (World.block_lt_of_cell? w _ hx311_1)).trans hx311_1
         replace hx311_2 := (HB.out.cell (World.block_lt_of_cell? w _ hx311_2)).trans hx311_2
         have HR311_2 := Aside0.mk hi311_2
         have HC311_2 := Aside0.mk hl311_2
         clear hi311_2 hl311_2
         replace p311 := eq_true p311
         replace q311 := eq_true q311
         go_wp2_with (first | ((with_reducible refine gate_dst (N := 5) rfl ?_); refine box_event ?hg (N := 5) ?hd (cs := #[.int .i64 0, .int .i64 0, .slice none 0 0]) (t := 31) ?hr ?_; (case hd => rfl); (case hg => rfl); (case hr => first | (go_simp; done) | (go_simp; rfl)); intro gb312 hg w12 hbox hb; have n0_ := Aside0.mk (below_step hb_ hb); have n1_ := Aside0.mk (hbox); have n2_ := Aside0.mk ((by rw [hg]; exact (below_size hb_) : w.heap.size ≤ gb312)); have n3_ := Aside0.mk ((by rw [hg]; exact (below_size hb_) : w.heap.size ≤ gb312)); clear HB; have HB := n0_; have BK312 := n1_; have GW312 := n2_; have GE312 := n3_; clear n0_ n1_ n2_ n3_; clear hb hbox hg; have hcz13_0 : w12.cell? ⟨gb312, 0, none⟩ = some (.int .i64 0) := (blk_cell BK312.out 0).trans rfl; have hcz13_1 : w12.cell? ⟨gb312, 1, none⟩ = some (.int .i64 0) := (blk_cell BK312.out 1).trans rfl; have hcz13_2 : w12.cell? ⟨gb312, 2, none⟩ = some (.slice none 0 0) := (blk_cell BK312.out 2).trans rfl; have hfz13_0 := blk_frozen BK312.out 0; have hfz13_1 := blk_frozen BK312.out 1; have hfz13_2 := blk_frozen BK312.out 2))
         go_roundg k1
         case measure => have := HK1.out; omega
         case rel => exact ⟨(x2_1), (wrap64 (x3_1 + ((rd_T31 l0 x11_1).f1))), (wrap64 (x11_1 + 1)), rf_, rf_, rf_, H', ⟨by have := HK1.out; omega⟩, ⟨by repeat (first | (with_reducible first | exact HB.out | apply below_alloc | apply pw_below_drewN | apply below_drew1 | refine below_set ?_ GE312.out) | exact HB.out)⟩⟩
        ·rw [if_neg c11] at H
         have c11b0 : (((rd_T31 l0 x11_1).f0) == 3) = false := beq_eq_false_iff_ne.mpr c11
         have c11b1 : (((rd_T31 l0 x11_1).f0) != 3) = true := bne_iff_ne.mpr c11
         have H' := Aside0.mk H
         clear H
         have p311 : 0 ≤ (x11_1 : Int) := of_decide_eq_true as_
         have q311 : x11_1 < (l0.length : Int) := of_decide_eq_true as_
         obtain ⟨ad311, A311_2, c311_2, e311, hx311_0, hx311_1, hx311_2, hl311_2, hi311_2⟩ := at_T31 HR0.out x11_1 p311 q311
         cases e311
         replace hx311_0 := (HB.out.cell (World.block_lt_of_cell? w _ hx311_0)).trans hx311_0
         replace hx311_1 := (HB.out.cell (World.block_lt_of_cell? w _ hx311_1)).trans hx311_1
         replace hx311_2 := (HB.out.cell (World.block_lt_of_cell? w _ hx311_2)).trans hx311_2
         have HR311_2 := Aside0.mk hi311_2
         have HC311_2 := Aside0.mk hl311_2
         clear hi311_2 hl311_2
         replace p311 := eq_true p311
         replace q311 := eq_true q311
         go_wp2_with (first | ((with_reducible refine gate_dst (N := 5) rfl ?_); refine box_event ?hg (N := 5) ?hd (cs := #[.int .i64 0, .int .i64 0, .slice none 0 0]) (t := 31) ?hr ?_; (case hd => rfl); (case hg => rfl); (case hr => first | (go_simp; done) | (go_simp; rfl)); intro gb312 hg w14 hbox hb; have n0_ := Aside0.mk (below_step hb_ hb); have n1_ := Aside0.mk (hbox); have n2_ := Aside0.mk ((by rw [hg]; exact (below_size hb_) : w.heap.size ≤ gb312)); have n3_ := Aside0.mk ((by rw [hg]; exact (below_size hb_) : w.heap.size ≤ gb312)); clear HB; have HB := n0_; have BK312 := n1_; have GW312 := n2_; have GE312 := n3_; clear n0_ n1_ n2_ n3_; clear hb hbox hg; have hcz15_0 : w14.cell? ⟨gb312, 0, none⟩ = some (.int .i64 0) := (blk_cell BK312.out 0).trans rfl; have hcz15_1 : w14.cell? ⟨gb312, 1, none⟩ = some (.int .i64 0) := (blk_cell BK312.out 1).trans rfl; have hcz15_2 : w14.cell? ⟨gb312, 2, none⟩ = some (.slice none 0 0) := (blk_cell BK312.out 2).trans rfl; have hfz15_0 := blk_frozen BK312.out 0; have hfz15_1 := blk_frozen BK312.out 1; have hfz15_2 := blk_frozen BK312.out 2))
         go_roundg k1
         case measure => have := HK1.out; omega
         case rel => exact ⟨(wrap64 (x2_1 + ((rd_T31 l0 x11_1).f1))), (x3_1), (wrap64 (x11_1 + 1)), rf_, rf_, rf_, H', ⟨by have := HK1.out; omega⟩, ⟨by repeat (first | (with_reducible first | exact HB.out | apply below_alloc | apply pw_below_drewN | apply below_drew1 | refine below_set ?_ GE312.out) | exact HB.out)⟩⟩
      ·rw [if_neg c7] at H
       exact absurd H (by simp)
     ·rw [if_neg c6] at H
      exact absurd H (by simp)
    ·rw [if_neg c5] at H
     have c5b0 : decide (x11_1 < (l0.length : Int)) = false := decide_eq_false c5
     clear c5
     simp only [Option.some.injEq, Prod.mk.injEq] at H
     obtain ⟨rfl, rfl⟩ := H
     go_wp2
     go_ret2
     exact ⟨by first | rfl | (simp [errW_none, errW_some] <;> rfl) | (simp [*, errW_none, errW_some] <;> rfl), by repeat (first | (with_reducible first | exact HB.out | apply below_alloc | apply pw_below_drewN | apply below_drew1) | exact HB.out)⟩
 ·replace c3 := Bool.eq_false_iff.mpr c3
  subst c3
  have H1 : (some (0, 0)) = some (r1, r2) := by rw [if_neg (show ¬ (false = true) by decide)] at H; exact H
  clear H
  have H := H1
  clear H1
  simp only [Option.some.injEq, Prod.mk.injEq] at H
  obtain ⟨rfl, rfl⟩ := H
  go_enter Try.func26, Try.ntmps26
  go_wp2_with (first | ((with_reducible refine gate_callee (f := 31) rfl ?_); refine goesL_ (some 7) rfl rfl Try.func31 (by kernel_rfl) rfl #[.slice A0 l0.length c0] rfl mp_ ?_; (with_reducible refine (script_Right.calls k _ _ l0 false _ ?side1 ?side2 A2.out).mono ?_); (case side1 => repeat (first | exact HR0.out | (with_reducible refine Kd.C_alloc ?_ _) | (with_reducible refine Kd.C_drewN ?_ _) | (with_reducible refine Kd.C_drew ?_))); (case side2 => exact HC0.out); rintro e w16 ⟨rfl, hb⟩; refine ⟨_, rfl, ?_⟩; have n0_ := Aside0.mk (below_step hb_ hb); clear HB; have HB := n0_; clear n0_; (try clear hb); (try clear hb2); (try clear hk); (try clear hi)))
  go_ret2
  exact ⟨by first | rfl | (simp [errW_none, errW_some] <;> rfl) | (simp [*, errW_none, errW_some] <;> rfl), by repeat (first | (with_reducible first | exact HB.out | apply below_alloc | apply pw_below_drewN | apply below_drew1) | exact HB.out)⟩

end Go.Proofs.Ytgobidmfbjmpkaa.P
end
section
/- Laid for this claim by hp.py, this session's program round the kit's print: functions of the program as plain Lean functions, the proofs that the code comes to their answers, and the rows of the laws. Not trusted: Lean checks it. -/
namespace Go.Proofs.Ytgobidmfbjmpkaa.P
open Go.RowKit Go.Proofs.YtgobidmfbjmpkaaW.PrintWords Go.Proofs.YtgobidmfbjmpkaaW.PrintLast Go.Proofs.YtgobidmfbjmpkaaW.PrintMore
attribute [local go_sem] max2_int min2_int max_two min_two max_three min_three max_four min_four   -- for this text's walks alone
set_option linter.unusedVariables false
set_option linter.unusedSimpArgs false

/-! ### script_fits: function 51 -/
def script_fits.f (k : Nat) (l0 : List (S31)) (l1 : List ByteArray) : Option (Int) := (script_Spans.f k l0).bind fun bt435 => ((script_Right.f k l0).bind fun t437 => (if t437 = true then (if bt435.1 = (l1.length : Int) then (some 0) else (some 11)) else (some 1)))
set_option maxHeartbeats 8000000 in
set_option maxRecDepth 100000 in
theorem script_fits.calls (k : Nat) (A0 : Option Addr) (c0 : Nat) (l0 : List (S31)) (A1 : Option Addr) (c1 : Nat) (l1 : List ByteArray) (r : Int) (w : World) (hr0 : Kd.C k31 w A0 l0.length l0) (hc0 : l0.length ≤ c0) (hr1 : Kd.C Kd.string w A1 l1.length l1) (hc1 : l1.length ≤ c1) (h : script_fits.f k l0 l1 = some r) :
  Calls Try.prog 51 #[.slice A0 l0.length c0, .slice A1 l1.length c1] w fun e w' => e = .returned (.int .i64 r) ∧ Below w.heap.size w w' := by
 have HR0 := Aside0.mk hr0
 have HC0 := Aside0.mk hc0
 clear hr0 hc0
 have HR1 := Aside0.mk hr1
 have HC1 := Aside0.mk hc1
 clear hr1 hc1
 have HB := Aside0.mk (Below.refl w.heap.size w)
 have H : ((script_Spans.f k l0).bind fun bt435 => ((script_Right.f k l0).bind fun t437 => (if t437 = true then (if bt435.1 = (l1.length : Int) then (some 0) else (some 11)) else (some 1)))) = some r := h
 clear h
 replace H := Option.bind_eq_some_iff.mp H
 obtain ⟨⟨t435, t436⟩, A30, H⟩ := H
 replace H : ((script_Right.f k l0).bind fun t437 => (if t437 = true then (if t435 = (l1.length : Int) then (some 0) else (some 11)) else (some 1))) = some r := H
 have A3 := Aside0.mk A30
 clear A30
 replace H := Option.bind_eq_some_iff.mp H
 obtain ⟨t437, A40, H⟩ := H
 replace H : (if t437 = true then (if t435 = (l1.length : Int) then (some 0) else (some 11)) else (some 1)) = some r := H
 have A4 := Aside0.mk A40
 clear A40
 by_cases c5 : t437 = true
 ·subst c5
  have H1 : (if t435 = (l1.length : Int) then (some 0) else (some 11)) = some r := by rw [if_pos rfl] at H; exact H
  clear H
  have H := H1
  clear H1
  by_cases c6 : t435 = (l1.length : Int)
  ·rw [if_pos c6] at H
   have c6b0 : (t435 == (l1.length : Int)) = true := beq_iff_eq.mpr c6
   have c6b1 : (t435 != (l1.length : Int)) = false := bne_eq_false_iff_eq.mpr c6
   clear c6
   obtain rfl := Option.some.inj H
   go_enter Try.func51, Try.ntmps51
   go_wp2_with (first | ((with_reducible refine gate_callee (f := 26) rfl ?_); refine goesL_ (some 9) rfl rfl Try.func26 (by kernel_rfl) rfl #[.slice A0 l0.length c0] rfl mp_ ?_; (with_reducible refine (script_Spans.calls k _ _ l0 t435 t436 _ ?side1 ?side2 A3.out).mono ?_); (case side1 => repeat (first | exact HR0.out | (with_reducible refine Kd.C_alloc ?_ _) | (with_reducible refine Kd.C_drewN ?_ _) | (with_reducible refine Kd.C_drew ?_))); (case side2 => exact HC0.out); rintro e w7 ⟨rfl, hb⟩; refine ⟨_, rfl, ?_⟩; have n0_ := Aside0.mk (below_step hb_ hb); clear HB; have HB := n0_; clear n0_; (try clear hb); (try clear hb2); (try clear hk); (try clear hi)) | ((with_reducible refine gate_callee (f := 31) rfl ?_); refine goesL_ (some 14) rfl rfl Try.func31 (by kernel_rfl) rfl #[.slice A0 l0.length c0] rfl mp_ ?_; (with_reducible refine (script_Right.calls k _ _ l0 true _ ?side1 ?side2 A4.out).mono ?_); (case side1 => repeat (first | exact (Kd.C_below HR0.out HB.out) | (with_reducible refine Kd.C_alloc ?_ _) | (with_reducible refine Kd.C_drewN ?_ _) | (with_reducible refine Kd.C_drew ?_))); (case side2 => exact HC0.out); rintro e w8 ⟨rfl, hb⟩; refine ⟨_, rfl, ?_⟩; have n0_ := Aside0.mk (below_step hb_ hb); clear HB; have HB := n0_; clear n0_; (try clear hb); (try clear hb2); (try clear hk); (try clear hi)))
   go_ret
   exact ⟨by first | rfl | (simp [errW_none, errW_some] <;> rfl) | (simp [*, errW_none, errW_some] <;> rfl), by repeat (first | (with_reducible first | exact HB.out | apply below_alloc | apply pw_below_drewN | apply below_drew1) | exact HB.out)⟩
  ·rw [if_neg c6] at H
   have c6b0 : (t435 == (l1.length : Int)) = false := beq_eq_false_iff_ne.mpr c6
   have c6b1 : (t435 != (l1.length : Int)) = true := bne_iff_ne.mpr c6
   obtain rfl := Option.some.inj H
   go_enter Try.func51, Try.ntmps51
   go_wp2_with (first | ((with_reducible refine gate_callee (f := 26) rfl ?_); refine goesL_ (some 9) rfl rfl Try.func26 (by kernel_rfl) rfl #[.slice A0 l0.length c0] rfl mp_ ?_; (with_reducible refine (script_Spans.calls k _ _ l0 t435 t436 _ ?side1 ?side2 A3.out).mono ?_); (case side1 => repeat (first | exact HR0.out | (with_reducible refine Kd.C_alloc ?_ _) | (with_reducible refine Kd.C_drewN ?_ _) | (with_reducible refine Kd.C_drew ?_))); (case side2 => exact HC0.out); rintro e w9 ⟨rfl, hb⟩; refine ⟨_, rfl, ?_⟩; have n0_ := Aside0.mk (below_step hb_ hb); clear HB; have HB := n0_; clear n0_; (try clear hb); (try clear hb2); (try clear hk); (try clear hi)) | ((with_reducible refine gate_callee (f := 31) rfl ?_); refine goesL_ (some 14) rfl rfl Try.func31 (by kernel_rfl) rfl #[.slice A0 l0.length c0] rfl mp_ ?_; (with_reducible refine (script_Right.calls k _ _ l0 true _ ?side1 ?side2 A4.out).mono ?_); (case side1 => repeat (first | exact (Kd.C_below HR0.out HB.out) | (with_reducible refine Kd.C_alloc ?_ _) | (with_reducible refine Kd.C_drewN ?_ _) | (with_reducible refine Kd.C_drew ?_))); (case side2 => exact HC0.out); rintro e w10 ⟨rfl, hb⟩; refine ⟨_, rfl, ?_⟩; have n0_ := Aside0.mk (below_step hb_ hb); clear HB; have HB := n0_; clear n0_; (try clear hb); (try clear hb2); (try clear hk); (try clear hi)))
   go_ret
   exact ⟨by first | rfl | (simp [errW_none, errW_some] <;> rfl) | (simp [*, errW_none, errW_some] <;> rfl), by repeat (first | (with_reducible first | exact HB.out | apply below_alloc | apply pw_below_drewN | apply below_drew1) | exact HB.out)⟩
 ·replace c5 := Bool.eq_false_iff.mpr c5
  subst c5
  have H1 : (some 1) = some r := by rw [if_neg (show ¬ (false = true) by decide)] at H; exact H
  clear H
  have H := H1
  clear H1
  obtain rfl := Option.some.inj H
  go_enter Try.func51, Try.ntmps51
  go_wp2_with (first | ((with_reducible refine gate_callee (f := 26) rfl ?_); refine goesL_ (some 9) rfl rfl Try.func26 (by kernel_rfl) rfl #[.slice A0 l0.length c0] rfl mp_ ?_; (with_reducible refine (script_Spans.calls k _ _ l0 t435 t436 _ ?side1 ?side2 A3.out).mono ?_); (case side1 => repeat (first | exact HR0.out | (with_reducible refine Kd.C_alloc ?_ _) | (with_reducible refine Kd.C_drewN ?_ _) | (with_reducible refine Kd.C_drew ?_))); (case side2 => exact HC0.out); rintro e w11 ⟨rfl, hb⟩; refine ⟨_, rfl, ?_⟩; have n0_ := Aside0.mk (below_step hb_ hb); clear HB; have HB := n0_; clear n0_; (try clear hb); (try clear hb2); (try clear hk); (try clear hi)) | ((with_reducible refine gate_callee (f := 31) rfl ?_); refine goesL_ (some 14) rfl rfl Try.func31 (by kernel_rfl) rfl #[.slice A0 l0.length c0] rfl mp_ ?_; (with_reducible refine (script_Right.calls k _ _ l0 false _ ?side1 ?side2 A4.out).mono ?_); (case side1 => repeat (first | exact (Kd.C_below HR0.out HB.out) | (with_reducible refine Kd.C_alloc ?_ _) | (with_reducible refine Kd.C_drewN ?_ _) | (with_reducible refine Kd.C_drew ?_))); (case side2 => exact HC0.out); rintro e w12 ⟨rfl, hb⟩; refine ⟨_, rfl, ?_⟩; have n0_ := Aside0.mk (below_step hb_ hb); clear HB; have HB := n0_; clear n0_; (try clear hb); (try clear hb2); (try clear hk); (try clear hi)))
  go_ret
  exact ⟨by first | rfl | (simp [errW_none, errW_some] <;> rfl) | (simp [*, errW_none, errW_some] <;> rfl), by repeat (first | (with_reducible first | exact HB.out | apply below_alloc | apply pw_below_drewN | apply below_drew1) | exact HB.out)⟩

end Go.Proofs.Ytgobidmfbjmpkaa.P
end
section
/- script.Apply: by a walk of its text. -/
set_option linter.unusedVariables false
set_option linter.unusedSimpArgs false
namespace Go.Proofs.Ytgobidmfbjmpkaa.P
open Go Go.RowKit Go.Proofs.YtgobidmfbjmpkaaW.PrintWords Go.Proofs.YtgobidmfbjmpkaaW.PrintLast Go.Proofs.YtgobidmfbjmpkaaW.PrintMore
def script_Apply.l0 : Nat → List ByteArray → List ByteArray → List S31 → Int → Int → Option (List ByteArray × Int)
 | 0, _, _, _, _, _ => none
 | k + 1, x1, x4, x15, x16, x17 => if x17 < x16 then (if 0 ≤ x17 then (if x17 < (x15.length : Int) then (if ((rd_T31 x15 x17).f0) = 1 then (if 0 ≤ ((rd_T31 x15 x17).f1) then (if ((rd_T31 x15 x17).f1) ≤ (x1.length : Int) then ((some (x1.take (((rd_T31 x15 x17).f1) : Int).toNat : List ByteArray)).bind fun y263 => (if x4.length + y263.length < 8796093022208 then (script_Apply.l0 k (x1.drop (((rd_T31 x15 x17).f1) : Int).toNat) (x4 ++ y263) x15 x16 (wrap64 (x17 + 1))) else (none))) else (none)) else (none)) else (if ((rd_T31 x15 x17).f0) = 2 then (if 0 ≤ ((rd_T31 x15 x17).f1) then (if ((rd_T31 x15 x17).f1) ≤ (x1.length : Int) then (script_Apply.l0 k (x1.drop (((rd_T31 x15 x17).f1) : Int).toNat) x4 x15 x16 (wrap64 (x17 + 1))) else (none)) else (none)) else (if x4.length + ((rd_T31 x15 x17).f2).length < 8796093022208 then (script_Apply.l0 k x1 (x4 ++ ((rd_T31 x15 x17).f2)) x15 x16 (wrap64 (x17 + 1))) else (none)))) else (none)) else (none)) else (some (x4, 0))
def script_Apply.f (k : Nat) (l0 : List S31) (l1 : List ByteArray) : Option (List ByteArray × Int) := (script_fits.f k l0 l1).bind fun t260 => (if t260 = 0 then (script_Apply.l0 k l1 ([] : List ByteArray) l0 (l0.length : Int) 0) else (some (([] : List ByteArray), t260)))
set_option maxHeartbeats 8000000 in
set_option maxRecDepth 100000 in
theorem script_Apply.calls (k : Nat) (A0 : Option Addr) (c0 : Nat) (l0 : List S31) (P1_ : Nat → Prop) (A1 : Option Addr) (c1 : Nat) (l1 : List ByteArray) (r1 : List ByteArray) (r2 : Int) (w : World) (hr0 : Kd.C k31 w A0 l0.length l0) (hc0 : l0.length ≤ c0) (hs1 : Kd.V Kd.string 9 w w.heap.size (fun k_ => P1_ k_) (.slice A1 l1.length c1) l1) (h : script_Apply.f k l0 l1 = some (r1, r2)) :
  Calls Try.prog 46 #[.slice A0 l0.length c0, .slice A1 l1.length c1] w fun e w' => ∃ v0_ : Value, e = .returned (.tuple #[v0_, .int .i64 r2]) ∧ Kd.R Kd.string 9 w' w.heap.size (fun k_ => (w.heap.size ≤ k_)) v0_ r1 ∧ Below w.heap.size w w' := by
 have HR0 := Lib.hid hr0
 have HR1 := Lib.hid (Kd.V_reads' hs1).2.2
 have HC1 := Lib.hid (Kd.V_reads' hs1).2.1
 clear hr0 hs1
 unfold script_Apply.f at h
 obtain ⟨t, ht, h⟩ := Option.bind_eq_some_iff.1 h
 have HT := Lib.hid ht
 clear ht
 by_cases c : t = 0
 case neg =>
  rw [if_neg c] at h
  injection h with h
  injection h with h1 h2
  subst h1
  subst h2
  have b : (t != 0) = true := bne_iff_ne.2 c
  clear c
  go_enter Try.func46, Try.ntmps46
  go_wp2_with (go_at_call 51; refine (script_fits.calls k A0 c0 l0 A1 c1 l1 t _ HR0.out hc0 HR1.out HC1.out HT.out).mono ?_; rintro e W1 ⟨rfl, hb⟩; have HB := Lib.hid hb; clear hb)
  go_ret2
  exact ⟨_, rfl, Kd.R_nil _ _ _ _ _, HB.out⟩
 rw [if_pos c] at h
 have H' := Lib.hid h
 have b : (t != 0) = false := bne_eq_false_iff_eq.2 c
 clear h c
 go_enter Try.func46, Try.ntmps46
 go_wp2_with (go_at_call 51; refine (script_fits.calls k A0 c0 l0 A1 c1 l1 t _ HR0.out hc0 HR1.out HC1.out HT.out).mono ?_; rintro e W1 ⟨rfl, hb⟩; have HB := Lib.hid hb; clear hb)
 go_loopg [1, 4, 17] k (fun kq v1 v4 v17 w' => ∃ (B : Option Addr) (c : Nat) (ls o : List ByteArray) (i : Int), v1 = .slice B ls.length c ∧ v17 = .int .i64 i ∧ Hid (script_Apply.l0 kq ls o l0 (l0.length : Int) i = some (r1, r2)) ∧ Hid (kq ≤ k) ∧ Hid (ls.length ≤ c) ∧ Hid (Kd.C Kd.string w B ls.length ls) ∧ Hid (Kd.R Kd.string 9 w' w.heap.size (fun k_ => w.heap.size ≤ k_) v4 o) ∧ Hid (Below w.heap.size w w'))
 case atStart => exact ⟨A1, c1, l1, [], 0, rfl, rfl, H', Lib.hid (Nat.le_refl _), HC1, HR1, Lib.hid (Kd.R_nil _ _ _ _ _), HB⟩
 case round =>
  clear H' HB HR1 HC1
  obtain ⟨B, c, ls, o, i, rfl, rfl, HA, HK1, HC1, HR1, HO, HB⟩ := hrel
  cases gk with
  | zero => exact absurd HA.out (by simp [script_Apply.l0])
  | succ k1 =>
   have H := HA.out
   clear HA
   simp only [script_Apply.l0] at H
   by_cases d : i < (l0.length : Int)
   case neg =>
    rw [if_neg d] at H
    have b2 : decide (i < (l0.length : Int)) = false := decide_eq_false d
    injection H with h
    injection h with h1 h2
    subst h1
    subst h2
    go_wp2
    go_ret2
    exact ⟨_, rfl, HO.out, HB.out⟩
   rw [if_pos d] at H
   have b2 : decide (i < (l0.length : Int)) = true := decide_eq_true d
   by_cases e0 : 0 ≤ i
   case neg => rw [if_neg e0] at H; cases H
   rw [if_pos e0, if_pos d] at H
   obtain ⟨ad, A2, d2, z0, hx0, hx1, hx2, -, hxc⟩ := at_T31 HR0.out i e0 d
   subst z0
   obtain ⟨x, hx⟩ : ∃ x, x = rd_T31 l0 i := ⟨_, rfl⟩
   rw [← hx] at hx0 hx1 hx2 hxc H
   have g0 := (HB.out.cell (World.block_lt_of_cell? _ _ hx0)).trans hx0
   have g1 := (HB.out.cell (World.block_lt_of_cell? _ _ hx1)).trans hx1
   have g2 := (HB.out.cell (World.block_lt_of_cell? _ _ hx2)).trans hx2
   have HXC := Lib.hid hxc
   have p0 := eq_true e0
   have p1 := eq_true d
   clear hx0 hx1 hx2 hxc hx e0 d
   obtain ⟨X, hX⟩ : ∃ X, X = wr.alloc (.cells #[.int .i64 x.f0, .int .i64 x.f1, .slice A2 x.f2.length d2] 31) := ⟨_, rfl⟩
   have hbx : X.heap[wr.heap.size]? = some (.cells #[.int .i64 x.f0, .int .i64 x.f1, .slice A2 x.f2.length d2] 31 (0, 0)) := by rw [hX]; exact heap_alloc_new wr _
   have hbw : Below wr.heap.size wr X := by rw [hX]; exact (Below.refl _ _).alloc (Nat.le_refl _) _
   have HBL := Lib.hid (Array.getElem?_eq_some_iff.1 hbx).1
   have HX := Lib.hid hX
   have n1 := Lib.hid (Kd.R_below (Kd.R_elderB HO.out wr.heap.size (Nat.le_refl _)) hbw)
   have n2 := Lib.hid (below_step HB.out hbw)
   have HBX := Lib.hid hbx
   clear HO HB hX hbx hbw
   have HO := n1
   have HB := n2
   clear n1 n2
   have q0 := (blk_cell HBX.out 0).trans (rfl : _ = some (Value.int .i64 x.f0))
   have q1 := (blk_cell HBX.out 1).trans (rfl : _ = some (Value.int .i64 x.f1))
   have q2 := (blk_cell HBX.out 2).trans (rfl : _ = some (Value.slice A2 x.f2.length d2))
   have fin : ∀ {v W}, Kd.R Kd.string 9 W w.heap.size (fun k_ => w.heap.size ≤ k_ ∧ k_ ≠ wr.heap.size) v o → Kd.R Kd.string 9 W w.heap.size (fun k_ => w.heap.size ≤ k_) v o := fun h => Kd.R_mono h (fun _ hk => hk.1)
   obtain ⟨ii, hi0, _, hsz, _⟩ := info_parts info9
   by_cases d1 : x.f0 = 1
   ·rw [if_pos d1] at H
    have b3 : (x.f0 == 1) = true := beq_iff_eq.2 d1
    by_cases e1 : 0 ≤ x.f1
    case neg => rw [if_neg e1] at H; cases H
    rw [if_pos e1] at H
    by_cases e2 : x.f1 ≤ (ls.length : Int)
    case neg => rw [if_neg e2] at H; cases H
    rw [if_pos e2, Option.bind_some] at H
    split at H
    case isFalse => cases H
    rename_i hl
    have HL := Lib.hid hl
    obtain ⟨hcut, hA5, hC5⟩ := print_take_of (P := Try.prog) Value.string (⟨#[]⟩ : ByteArray) 29 9 .i64 Try.underlying29 hi0 hsz B c ls x.f1 e1 e2 HC1.out
    obtain ⟨A6, hcut2, hA6, hC6⟩ := print_drop_of (P := Try.prog) Value.string (⟨#[]⟩ : ByteArray) 29 9 .i64 Try.underlying29 hi0 hsz B c ls x.f1 e1 e2 HC1.out
    have HR5 := Lib.hid (Kd.C_of_reads (h1 := fun _ => rfl) (hA5 _ (Kd.reads_of_C HR1.out)))
    have HR6 := Lib.hid (Kd.C_of_reads (h1 := fun _ => rfl) (hA6 _ (Kd.reads_of_C HR1.out)))
    have HC6 := Lib.hid hC6
    obtain ⟨ys, hys⟩ : ∃ ys, ys = ls.take x.f1.toNat := ⟨_, rfl⟩
    obtain ⟨zs, hzs⟩ : ∃ zs, zs = ls.drop x.f1.toNat := ⟨_, rfl⟩
    rw [← hys] at hcut HR5 HL H
    rw [← hzs] at hcut2 HR6 HC6 H
    have H' := Lib.hid H
    clear hl H d1 hA5 hC5 hA6 hC6 hi0 hsz hys hzs e1 e2
    go_wp2_with (first | rw [← HX.out] | ((with_reducible refine gate_builtin (b := .append) (xs := #[.tmp 27, .tmp 31]) rfl ?_); at_builtin; refine Kd.R_append_rows Kd.string (w0 := w) w.heap.size rfl (.tmp 27) (.tmp 31) 29 9 (.string ⟨#[]⟩) 16 rfl Try.underlying29 info9 rfl (by decide) (by omega) u4 o ys _ _ _ (fun k_ => w.heap.size ≤ k_ ∧ k_ ≠ wr.heap.size) (fun _ => False) rfl rfl HO.out (Kd.C_below HR5.out HB.out) (fun _ _ h => h) (fun _ h => h.elim) (fun k_ hk => ⟨by have := below_size HB.out; omega, by have := HBL.out; omega⟩) HB.out (below_size HB.out) (by have := HL.out; omega) ?_; intro v1 W1 ho hb hg hat; have n1 := Lib.hid hb; have n2 := Lib.hid ho; have n3 := Lib.hid (blk_grown HBX.out hg (Kd.R_away HO.out (fun _ hk => hk.2))); clear HB HO HBX q0 q1 q2; have HB := n1; have HO := n2; have HBX := n3; clear n1 n2 n3 ho hb hg hat; have q0 := (blk_cell HBX.out 0).trans (rfl : _ = some (Value.int .i64 x.f0)); have q1 := (blk_cell HBX.out 1).trans (rfl : _ = some (Value.int .i64 x.f1)); have q2 := (blk_cell HBX.out 2).trans (rfl : _ = some (Value.slice A2 x.f2.length d2))))
    go_roundg k1
    case measure => have := HK1.out; omega
    case rel => exact ⟨_, _, zs, _, _, rfl, rfl, H', Lib.hid (by have := HK1.out; omega), HC6, HR6, Lib.hid (Kd.R_mono HO.out (fun _ hk => hk.1)), HB⟩
   rw [if_neg d1] at H
   have b3 : (x.f0 == 1) = false := beq_eq_false_iff_ne.2 d1
   by_cases d2 : x.f0 = 2
   ·rw [if_pos d2] at H
    have b4 : (x.f0 == 2) = true := beq_iff_eq.2 d2
    by_cases e1 : 0 ≤ x.f1
    case neg => rw [if_neg e1] at H; cases H
    rw [if_pos e1] at H
    by_cases e2 : x.f1 ≤ (ls.length : Int)
    case neg => rw [if_neg e2] at H; cases H
    rw [if_pos e2] at H
    obtain ⟨A6, hcut2, hA6, hC6⟩ := print_drop_of (P := Try.prog) Value.string (⟨#[]⟩ : ByteArray) 29 9 .i64 Try.underlying29 hi0 hsz B c ls x.f1 e1 e2 HC1.out
    have HR6 := Lib.hid (Kd.C_of_reads (h1 := fun _ => rfl) (hA6 _ (Kd.reads_of_C HR1.out)))
    have HC6 := Lib.hid hC6
    obtain ⟨zs, hzs⟩ : ∃ zs, zs = ls.drop x.f1.toNat := ⟨_, rfl⟩
    rw [← hzs] at hcut2 HR6 HC6 H
    have H' := Lib.hid H
    clear H d1 d2 hA6 hC6 hi0 hsz hzs e1 e2
    go_wp2_with (first | rw [← HX.out])
    go_roundg k1
    case measure => have := HK1.out; omega
    case rel => exact ⟨_, _, zs, _, _, rfl, rfl, H', Lib.hid (by have := HK1.out; omega), HC6, HR6, Lib.hid (fin HO.out), HB⟩
   rw [if_neg d2] at H
   have b4 : (x.f0 == 2) = false := beq_eq_false_iff_ne.2 d2
   split at H
   case isFalse => cases H
   rename_i hl
   have HL := Lib.hid hl
   have H' := Lib.hid H
   clear hl H d1 d2 hi0 hsz
   go_wp2_with (first | rw [← HX.out] | ((with_reducible refine gate_builtin (b := .append) (xs := #[.tmp 37, .tmp 39]) rfl ?_); at_builtin; refine Kd.R_append_rows Kd.string (w0 := w) w.heap.size rfl (.tmp 37) (.tmp 39) 29 9 (.string ⟨#[]⟩) 16 rfl Try.underlying29 info9 rfl (by decide) (by omega) u4 o x.f2 _ _ _ (fun k_ => w.heap.size ≤ k_ ∧ k_ ≠ wr.heap.size) (fun _ => False) rfl rfl HO.out (Kd.C_below HXC.out HB.out) (fun _ _ h => h) (fun _ h => h.elim) (fun k_ hk => ⟨by have := below_size HB.out; omega, by have := HBL.out; omega⟩) HB.out (below_size HB.out) (by have := HL.out; omega) ?_; intro v1 W1 ho hb hg hat; have n1 := Lib.hid hb; have n2 := Lib.hid ho; have n3 := Lib.hid (blk_grown HBX.out hg (Kd.R_away HO.out (fun _ hk => hk.2))); clear HB HO HBX q0 q1 q2; have HB := n1; have HO := n2; have HBX := n3; clear n1 n2 n3 ho hb hg hat; have q0 := (blk_cell HBX.out 0).trans (rfl : _ = some (Value.int .i64 x.f0)); have q1 := (blk_cell HBX.out 1).trans (rfl : _ = some (Value.int .i64 x.f1)); have q2 := (blk_cell HBX.out 2).trans (rfl : _ = some (Value.slice A2 x.f2.length d2))))
   go_roundg k1
   case measure => have := HK1.out; omega
   case rel => exact ⟨_, _, ls, _, _, rfl, rfl, H', Lib.hid (by have := HK1.out; omega), HC1, HR1, Lib.hid (Kd.R_mono HO.out (fun _ hk => hk.1)), HB⟩
end Go.Proofs.Ytgobidmfbjmpkaa.P
end
section
/- ref04.Same: by a walk of its text. -/
set_option linter.unusedVariables false
set_option linter.unusedSimpArgs false
namespace Go.Proofs.Ytgobidmfbjmpkaa.P
open Go Go.RowKit Go.Proofs.YtgobidmfbjmpkaaW.PrintWords Go.Proofs.YtgobidmfbjmpkaaW.PrintLast Go.Proofs.YtgobidmfbjmpkaaW.PrintMore
mutual
def collatorref04_Same.l0 : Nat → List S31 → List S31 → Int → Option Bool
 | 0, _, _, _ => none
 | k + 1, x0, x1, x5 => if x5 < (x0.length : Int) then (if 0 ≤ x5 then (if x5 < (x1.length : Int) then (if ((rd_T31 x0 x5).f0) = ((rd_T31 x1 x5).f0) then (if ((rd_T31 x0 x5).f1) = ((rd_T31 x1 x5).f1) then (collatorref04_Same.j1 k x0 x1 x5 ((((rd_T31 x0 x5).f2).length : Int) != (((rd_T31 x1 x5).f2).length : Int))) else (collatorref04_Same.j1 k x0 x1 x5 true)) else (collatorref04_Same.j1 k x0 x1 x5 true)) else (none)) else (none)) else (some true)
def collatorref04_Same.j1 : Nat → List S31 → List S31 → Int → Bool → Option Bool
 | 0, _, _, _, _ => none
 | k + 1, x0, x1, x5, x56 => if x56 = true then (some false) else (collatorref04_Same.l1 k x0 x1 x5 0)
def collatorref04_Same.l1 : Nat → List S31 → List S31 → Int → Int → Option Bool
 | 0, _, _, _, _ => none
 | k + 1, x0, x1, x5, x6 => if 0 ≤ x5 then (if x5 < (x0.length : Int) then (if x6 < (((rd_T31 x0 x5).f2).length : Int) then (if 0 ≤ x6 then (if x5 < (x1.length : Int) then (if x6 < (((rd_T31 x1 x5).f2).length : Int) then (if (rdOf ByteArray.empty ((rd_T31 x0 x5).f2) x6).toList = (rdOf ByteArray.empty ((rd_T31 x1 x5).f2) x6).toList then (collatorref04_Same.l1 k x0 x1 x5 (wrap64 (x6 + 1))) else (some false)) else (none)) else (none)) else (none)) else (collatorref04_Same.l0 k x0 x1 (wrap64 (x5 + 1)))) else (none)) else (none)
end
def collatorref04_Same.f (k : Nat) (l0 : List S31) (l1 : List S31) : Option Bool := if (l0.length : Int) = (l1.length : Int) then (collatorref04_Same.l0 k l0 l1 0) else (some false)
set_option maxHeartbeats 8000000 in
set_option maxRecDepth 100000 in
theorem collatorref04_Same.calls (k : Nat) (A0 : Option Addr) (c0 : Nat) (l0 : List S31) (A1 : Option Addr) (c1 : Nat) (l1 : List S31) (r : Bool) (w : World) (hr0 : Kd.C k31 w A0 l0.length l0) (hc0 : l0.length ≤ c0) (hr1 : Kd.C k31 w A1 l1.length l1) (hc1 : l1.length ≤ c1) (h : collatorref04_Same.f k l0 l1 = some r) :
  Calls Try.prog 20 #[.slice A0 l0.length c0, .slice A1 l1.length c1] w fun e w' => e = .returned (.bool r) ∧ Drawn0 w w' := by
 have HR0 := Lib.hid hr0
 have HR1 := Lib.hid hr1
 clear hr0 hr1
 unfold collatorref04_Same.f at h
 by_cases c : (l0.length : Int) = (l1.length : Int)
 case neg =>
  rw [if_neg c] at h
  obtain rfl := Option.some.inj h
  have b : ((l0.length : Int) != (l1.length : Int)) = true := bne_iff_ne.2 c
  have b' : (l0.length != l1.length) = true := bne_iff_ne.2 (by omega)
  clear h c
  go_enter Try.func20, Try.ntmps20
  go_wp2
  go_ret
  exact ⟨rfl, Drawn0.refl _⟩
 rw [if_pos c] at h
 have H' := Lib.hid h
 have b : ((l0.length : Int) != (l1.length : Int)) = false := bne_eq_false_iff_eq.2 c
 have b' : (l0.length != l1.length) = false := bne_eq_false_iff_eq.2 (by omega)
 clear h c
 go_enter Try.func20, Try.ntmps20
 go_wp2
 go_loopg [5] k (fun kq v5 w' => ∃ i : Int, v5 = .int .i64 i ∧ Hid (collatorref04_Same.l0 kq l0 l1 i = some r) ∧ Hid (kq ≤ k) ∧ Hid (Drawn0 w w'))
 case atStart => exact ⟨0, rfl, H', Lib.hid (Nat.le_refl _), Lib.hid (Drawn0.refl _)⟩
 case round =>
  clear H'
  obtain ⟨i, rfl, HA, HK1, HD⟩ := hrel
  obtain ⟨⟨n, rfl⟩⟩ := HD.out
  clear HD
  cases gk with
  | zero => exact absurd HA.out (by simp [collatorref04_Same.l0])
  | succ k1 =>
   have H := HA.out
   clear HA
   simp only [collatorref04_Same.l0] at H
   by_cases d : i < (l0.length : Int)
   case neg =>
    rw [if_neg d] at H
    have b2 : decide (i < (l0.length : Int)) = false := decide_eq_false d
    obtain rfl := Option.some.inj H
    go_wp2
    go_ret
    exact ⟨rfl, (by repeat (first | exact Drawn0.refl _ | apply Drawn0.step))⟩
   rw [if_pos d] at H
   have b2 : decide (i < (l0.length : Int)) = true := decide_eq_true d
   by_cases e0 : 0 ≤ i
   case neg => rw [if_neg e0] at H; cases H
   rw [if_pos e0] at H
   by_cases e1 : i < (l1.length : Int)
   case neg => rw [if_neg e1] at H; cases H
   rw [if_pos e1] at H
   obtain ⟨ad, A2, d2, z0, g0, g1, g2, -, hxc⟩ := at_T31 HR0.out i e0 d
   obtain ⟨ae, A3, d3, z1, h0, h1, h2, -, hyc⟩ := at_T31 HR1.out i e0 e1
   subst z0
   subst z1
   obtain ⟨x, hx⟩ : ∃ x, x = rd_T31 l0 i := ⟨_, rfl⟩
   obtain ⟨y, hy⟩ : ∃ y, y = rd_T31 l1 i := ⟨_, rfl⟩
   rw [← hx] at g0 g1 g2 hxc H
   rw [← hy] at h0 h1 h2 hyc H
   have HXC := Lib.hid hxc
   have HYC := Lib.hid hyc
   have HX := Lib.hid hx
   have HY := Lib.hid hy
   have p0 := eq_true e0
   have p1 := eq_true d
   have p2 := eq_true e1
   have key : ∃ b1 b2 b3 b4, (x.f0 != y.f0) = b1 ∧ (x.f1 != y.f1) = b2 ∧ ((x.f2.length : Int) != (y.f2.length : Int)) = b3 ∧ (x.f2.length != y.f2.length) = b3 ∧ collatorref04_Same.j1 k1 l0 l1 i b4 = some r ∧ ((b1 = true ∧ b4 = true) ∨ (b1 = false ∧ b2 = true ∧ b4 = true) ∨ (b1 = false ∧ b2 = false ∧ b3 = b4)) := by
    refine ⟨x.f0 != y.f0, x.f1 != y.f1, (x.f2.length : Int) != (y.f2.length : Int), ?_⟩
    by_cases k1 : x.f0 = y.f0
    ·rw [if_pos k1] at H
     by_cases k2 : x.f1 = y.f1
     ·rw [if_pos k2] at H
      exact ⟨_, rfl, rfl, rfl, (by by_cases h : x.f2.length = y.f2.length; (· simp [h]); (· rw [bne_iff_ne.2 h, bne_iff_ne.2 (by omega)])), H, .inr (.inr ⟨bne_eq_false_iff_eq.2 k1, bne_eq_false_iff_eq.2 k2, rfl⟩)⟩
     ·rw [if_neg k2] at H
      exact ⟨_, rfl, rfl, rfl, (by by_cases h : x.f2.length = y.f2.length; (· simp [h]); (· rw [bne_iff_ne.2 h, bne_iff_ne.2 (by omega)])), H, .inr (.inl ⟨bne_eq_false_iff_eq.2 k1, bne_iff_ne.2 k2, rfl⟩)⟩
    ·rw [if_neg k1] at H
     exact ⟨_, rfl, rfl, rfl, (by by_cases h : x.f2.length = y.f2.length; (· simp [h]); (· rw [bne_iff_ne.2 h, bne_iff_ne.2 (by omega)])), H, .inl ⟨bne_iff_ne.2 k1, rfl⟩⟩
   obtain ⟨b3, b4, b5, b6, t1, t2, t3, t4, hH, hb⟩ := key
   have H' := Lib.hid hH
   clear hH H hxc hyc hx hy d e0 e1
   have all : (Hid (b6 = true) ∧ (b3 = true ∨ (b3 = false ∧ b4 = true) ∨ (b3 = false ∧ b4 = false ∧ b5 = true))) ∨ (Hid (b6 = false) ∧ b3 = false ∧ b4 = false ∧ b5 = false) := by
    clear t1 t2 t3 t4 H'
    cases b3 <;> cases b4 <;> cases b5 <;> cases b6 <;> first | exact .inl ⟨Lib.hid rfl, by decide⟩ | exact .inr ⟨Lib.hid rfl, by decide⟩ | exact absurd hb (by decide)
   clear hb
   rcases all with ⟨HB, hb⟩ | ⟨HB, rfl, rfl, rfl⟩
   ·have HF := Lib.hid (show r = false by
     have h := H'.out
     rw [HB.out] at h
     cases k1 with
     | zero => cases h
     | succ k1 => exact (Option.some.inj h).symm)
    clear H'
    rcases hb with rfl | ⟨rfl, rfl⟩ | ⟨rfl, rfl, rfl⟩
    all_goals go_wp2
    all_goals go_quiet (fail)
    all_goals go_wp2
    all_goals go_ret
    all_goals (have h := HF.out; subst h; exact ⟨rfl, (by repeat (first | exact Drawn0.refl _ | apply Drawn0.step))⟩)
   ·have h := H'.out
    rw [HB.out] at h
    clear H'
    cases k1 with
    | zero => cases h
    | succ k2 =>
     have H' := Lib.hid (show collatorref04_Same.l1 k2 l0 l1 i 0 = some r from h)
     clear h
     go_wp2
     go_quiet (fail)
     go_wp2
     go_loopg [6] k2 (fun kq v6 w' => ∃ j : Int, v6 = .int .i64 j ∧ Hid (collatorref04_Same.l1 kq l0 l1 i j = some r) ∧ Hid (kq ≤ k2) ∧ Hid (Drawn0 w w'))
     case atStart => exact ⟨0, rfl, H', Lib.hid (Nat.le_refl _), Lib.hid (by repeat (first | exact Drawn0.refl _ | apply Drawn0.step))⟩
     case round =>
      clear H'
      obtain ⟨j, rfl, HA, HK2, HD⟩ := hrel
      obtain ⟨⟨m, rfl⟩⟩ := HD.out
      clear HD
      cases gk with
      | zero => exact absurd HA.out (by simp [collatorref04_Same.l1])
      | succ k3 =>
       have H := HA.out
       clear HA
       simp only [collatorref04_Same.l1] at H
       rw [if_pos (of_eq_true p0), if_pos (of_eq_true p1), ← HX.out, ← HY.out] at H
       by_cases d : j < (x.f2.length : Int)
       case neg =>
        rw [if_neg d] at H
        have b9 : decide (j < (x.f2.length : Int)) = false := decide_eq_false d
        have H' := Lib.hid H
        clear H
        go_wp2
        go_roundg k3
        case measure => have := HK1.out; have := HK2.out; omega
        case rel => exact ⟨_, rfl, H', Lib.hid (by have := HK1.out; have := HK2.out; omega), Lib.hid (by repeat (first | exact Drawn0.refl _ | apply Drawn0.step))⟩
       rw [if_pos d] at H
       by_cases e0 : 0 ≤ j
       case neg => rw [if_neg e0] at H; cases H
       rw [if_pos e0, if_pos (of_eq_true p2)] at H
       by_cases e1 : j < (y.f2.length : Int)
       case neg => rw [if_neg e1] at H; cases H
       rw [if_pos e1] at H
       have b9 : decide (j < (x.f2.length : Int)) = true := decide_eq_true d
       obtain ⟨af, z0, g3⟩ := Kd.at_string HXC.out j e0 d
       obtain ⟨ag, z1, h3⟩ := Kd.at_string HYC.out j e0 e1
       subst z0
       subst z1
       obtain ⟨s, hs⟩ : ∃ s, s = rdOf ByteArray.empty x.f2 j := ⟨_, rfl⟩
       obtain ⟨t, ht⟩ : ∃ t, t = rdOf ByteArray.empty y.f2 j := ⟨_, rfl⟩
       rw [← hs] at g3 H
       rw [← ht] at h3 H
       have p3 := eq_true e0
       have p4 := eq_true d
       have p5 := eq_true e1
       clear hs ht e0 e1 d
       by_cases c : s.toList = t.toList
       ·rw [if_pos c] at H
        have b8 : (s.toList != t.toList) = false := bne_eq_false_iff_eq.2 c
        have b7 : (s.toList == t.toList) = true := beq_iff_eq.2 c
        have H' := Lib.hid H
        clear H c
        go_wp2
        go_quiet (fail)
        go_wp2
        go_roundg k3
        case measure => have := HK1.out; have := HK2.out; omega
        case rel => exact ⟨_, rfl, H', Lib.hid (by have := HK2.out; omega), Lib.hid (by repeat (first | exact Drawn0.refl _ | apply Drawn0.step))⟩
       ·rw [if_neg c] at H
        have b8 : (s.toList != t.toList) = true := bne_iff_ne.2 c
        have b7 : (s.toList == t.toList) = false := beq_eq_false_iff_ne.2 c
        obtain rfl := Option.some.inj H
        go_wp2
        go_quiet (fail)
        go_wp2
        go_ret
        exact ⟨rfl, (by repeat (first | exact Drawn0.refl _ | apply Drawn0.step))⟩
end Go.Proofs.Ytgobidmfbjmpkaa.P
end
section
/- Laid for this claim by hp.py, this session's program round the kit's print: functions of the program as plain Lean functions, the proofs that the code comes to their answers, and the rows of the laws. Not trusted: Lean checks it. -/
namespace Go.Proofs.Ytgobidmfbjmpkaa.P
open Go.RowKit Go.Proofs.YtgobidmfbjmpkaaW.PrintWords Go.Proofs.YtgobidmfbjmpkaaW.PrintLast Go.Proofs.YtgobidmfbjmpkaaW.PrintMore
attribute [local go_sem] max2_int min2_int max_two min_two max_three min_three max_four min_four   -- for this text's walks alone
set_option linter.unusedVariables false
set_option linter.unusedSimpArgs false

/-! ### collatorlaw04_pick: function 29 -/
def collatorlaw04_pick.f (a0 : Int) (a1 : Int) : Option (Int) := if a0 < 0 then (if a1 = 0 then (none) else (some (Int.tmod (wrap64 (-(wrap64 (a0 + 1)))) a1))) else (if a1 = 0 then (none) else (some (Int.tmod a0 a1)))
set_option maxHeartbeats 8000000 in
set_option maxRecDepth 100000 in
theorem collatorlaw04_pick.calls (a0 : Int) (a1 : Int) (r : Int) (w : World) (h : collatorlaw04_pick.f a0 a1 = some r) :
  Calls Try.prog 29 #[.int .i64 a0, .int .i64 a1] w fun e w' => e = .returned (.int .i64 r) ∧ Drawn0 w w' := by
 have H : (if a0 < 0 then (if a1 = 0 then (none) else (some (Int.tmod (wrap64 (-(wrap64 (a0 + 1)))) a1))) else (if a1 = 0 then (none) else (some (Int.tmod a0 a1)))) = some r := h
 clear h
 by_cases c3 : a0 < 0
 ·rw [if_pos c3] at H
  have c3b0 : decide (a0 < 0) = true := decide_eq_true c3
  clear c3
  by_cases c4 : a1 = 0
  ·rw [if_pos c4] at H
   exact absurd H (by simp)
  ·rw [if_neg c4] at H
   have c4b0 : (a1 == 0) = false := beq_eq_false_iff_ne.mpr c4
   have c4b1 : (a1 != 0) = true := bne_iff_ne.mpr c4
   obtain rfl := Option.some.inj H
   go_enter Try.func29, Try.ntmps29
   go_wp2
   go_ret
   exact ⟨by first | rfl | (simp; done) | (simp [*]; done), by repeat (first | exact Drawn0.refl _ | apply Drawn0.step)⟩
 ·rw [if_neg c3] at H
  have c3b0 : decide (a0 < 0) = false := decide_eq_false c3
  clear c3
  by_cases c5 : a1 = 0
  ·rw [if_pos c5] at H
   exact absurd H (by simp)
  ·rw [if_neg c5] at H
   have c5b0 : (a1 == 0) = false := beq_eq_false_iff_ne.mpr c5
   have c5b1 : (a1 != 0) = true := bne_iff_ne.mpr c5
   obtain rfl := Option.some.inj H
   go_enter Try.func29, Try.ntmps29
   go_wp2
   go_ret
   exact ⟨by first | rfl | (simp; done) | (simp [*]; done), by repeat (first | exact Drawn0.refl _ | apply Drawn0.step)⟩

end Go.Proofs.Ytgobidmfbjmpkaa.P
end
section
/- Laid for this claim by hp.py, this session's program round the kit's print: functions of the program as plain Lean functions, the proofs that the code comes to their answers, and the rows of the laws. Not trusted: Lean checks it. -/
namespace Go.Proofs.Ytgobidmfbjmpkaa.P
open Go.RowKit Go.Proofs.YtgobidmfbjmpkaaW.PrintWords Go.Proofs.YtgobidmfbjmpkaaW.PrintLast Go.Proofs.YtgobidmfbjmpkaaW.PrintMore
attribute [local go_sem] max2_int min2_int max_two min_two max_three min_three max_four min_four   -- for this text's walks alone
set_option linter.unusedVariables false
set_option linter.unusedSimpArgs false

/-! ### collatorlaw04_full: function 30 -/
def collatorlaw04_full.l0 : Nat → List Int → Int → List ByteArray → Int → Option (List ByteArray)
 | 0, _, _, _, _ => none
 | k + 1, x0, x1, x5, x6 => if x6 < x1 then (if x6 < (x0.length : Int) then (if 0 ≤ x6 then ((some (([(⟨#[97, 10]⟩ : ByteArray), (⟨#[98, 10]⟩ : ByteArray), (⟨#[99, 10]⟩ : ByteArray), (⟨#[]⟩ : ByteArray), (⟨#[120, 58, 121, 59]⟩ : ByteArray)] : List ByteArray) : List ByteArray)).bind fun y102 => ((collatorlaw04_pick.f (rd x0 x6) 5).bind fun t105 => (if 0 ≤ t105 then (if t105 < (y102.length : Int) then (if x5.length < 8796093022208 then (collatorlaw04_full.l0 k x0 x1 (x5 ++ [rdOf ByteArray.empty y102 t105]) (wrap64 (x6 + 1))) else (none)) else (none)) else (none)))) else (none)) else ((some (([(⟨#[97, 10]⟩ : ByteArray), (⟨#[98, 10]⟩ : ByteArray), (⟨#[99, 10]⟩ : ByteArray), (⟨#[]⟩ : ByteArray), (⟨#[120, 58, 121, 59]⟩ : ByteArray)] : List ByteArray) : List ByteArray)).bind fun y110 => ((collatorlaw04_pick.f x6 5).bind fun t113 => (if 0 ≤ t113 then (if t113 < (y110.length : Int) then (if x5.length < 8796093022208 then (collatorlaw04_full.l0 k x0 x1 (x5 ++ [rdOf ByteArray.empty y110 t113]) (wrap64 (x6 + 1))) else (none)) else (none)) else (none))))) else (some x5)
def collatorlaw04_full.f (k : Nat) (l0 : List Int) (a1 : Int) : Option (List ByteArray) := collatorlaw04_full.l0 k l0 a1 ([] : List ByteArray) 0
set_option maxHeartbeats 8000000 in
set_option maxRecDepth 100000 in
theorem collatorlaw04_full.calls (k : Nat) (A0 : Option Addr) (c0 : Nat) (l0 : List Int) (a1 : Int) (r : List ByteArray) (w : World) (hr0 : Kd.C (Kd.int .i64) w A0 l0.length l0) (hc0 : l0.length ≤ c0) (h : collatorlaw04_full.f k l0 a1 = some r) :
  Calls Try.prog 30 #[.slice A0 l0.length c0, .int .i64 a1] w fun e w' => ∃ v0_ : Value, e = .returned (v0_) ∧ Kd.R Kd.string 9 w' w.heap.size (fun _ => True) v0_ r ∧ Below w.heap.size w w' := by
 have HR0 := Aside0.mk hr0
 have HC0 := Aside0.mk hc0
 clear hr0 hc0
 have HB := Aside0.mk (Below.refl w.heap.size w)
 have H : (collatorlaw04_full.l0 k l0 a1 ([] : List ByteArray) 0) = some r := h
 clear h
 have H' := Aside0.mk H
 clear H
 go_enter Try.func30, Try.ntmps30
 go_wp2
 go_loopg [5, 6] k (fun kq v5 v6 w' => ∃ (x5_1 : List ByteArray) (x6_1 : Int), v6 = .int .i64 x6_1 ∧ Aside0 (collatorlaw04_full.l0 kq l0 a1 x5_1 x6_1 = some r) ∧ Aside0 (kq ≤ k) ∧ Aside0 (Kd.R Kd.string 9 w' w.heap.size (fun _ => True) v5 x5_1) ∧ Aside0 (Below w.heap.size w w'))
 case atStart => exact ⟨(([] : List ByteArray)), (0), rf_, H', ⟨Nat.le_refl _⟩, ⟨by first | exact Kd.R_nil _ _ _ _ _ | exact Kd.N_nil _ _ _ _ _ | exact Kd.V_nil _ _ _ _ _ | exact Kd.Q_nil _ _ _ _ _ | exact Kd.S_nil _ _ _ _ _⟩, ⟨by repeat (first | (with_reducible first | exact HB.out | apply below_alloc | apply pw_below_drewN | apply below_drew1) | exact HB.out)⟩⟩
 case round =>
  clear H'
  (try clear p2)
  obtain ⟨x5_1, x6_1, rfl, HA, HK1, HO_5, HB⟩ := hrel
  cases gk with
  | zero => exact absurd HA.out (by simp [collatorlaw04_full.l0])
  | succ k1 =>
   have H := HA.out
   clear HA
   simp only [collatorlaw04_full.l0] at H
   by_cases c3 : x6_1 < a1
   ·rw [if_pos c3] at H
    have c3b0 : decide (x6_1 < a1) = true := decide_eq_true c3
    clear c3
    by_cases c4 : x6_1 < (l0.length : Int)
    ·rw [if_pos c4] at H
     have c4b0 : decide (x6_1 < (l0.length : Int)) = true := decide_eq_true c4
     clear c4
     by_cases c5 : 0 ≤ x6_1
     ·rw [if_pos c5] at H
      have c5b0 : decide (0 ≤ x6_1) = true := decide_eq_true c5
      clear c5
      obtain ⟨y102, hy102⟩ : ∃ y_ : List ByteArray, y_ = (([(⟨#[97, 10]⟩ : ByteArray), (⟨#[98, 10]⟩ : ByteArray), (⟨#[99, 10]⟩ : ByteArray), (⟨#[]⟩ : ByteArray), (⟨#[120, 58, 121, 59]⟩ : ByteArray)] : List ByteArray)) := ⟨_, rfl⟩
      replace H : ((collatorlaw04_pick.f (rd l0 x6_1) 5).bind fun t105 => (if 0 ≤ t105 then (if t105 < (y102.length : Int) then (if x5_1.length < 8796093022208 then (collatorlaw04_full.l0 k1 l0 a1 (x5_1 ++ [rdOf ByteArray.empty y102 t105]) (wrap64 (x6_1 + 1))) else (none)) else (none)) else (none))) = some r := by first | (rw [hy102]; with_reducible exact H) | (have H2_ := (Option.bind_some _ _).symm.trans H; rw [hy102]; with_reducible exact H2_) | (have H2_ := (Option.bind_some _ _).symm.trans H; with_reducible exact H2_) | with_reducible exact H | (rw [hy102]; exact H) | exact H
      have Ny102 := Aside0.mk hy102
      clear hy102
      replace H := Option.bind_eq_some_iff.mp H
      obtain ⟨t105, A60, H⟩ := H
      replace H : (if 0 ≤ t105 then (if t105 < (y102.length : Int) then (if x5_1.length < 8796093022208 then (collatorlaw04_full.l0 k1 l0 a1 (x5_1 ++ [rdOf ByteArray.empty y102 t105]) (wrap64 (x6_1 + 1))) else (none)) else (none)) else (none)) = some r := H
      have A6 := Aside0.mk A60
      clear A60
      by_cases c7 : 0 ≤ t105
      ·rw [if_pos c7] at H
       have c7b0 : decide (0 ≤ t105) = true := decide_eq_true c7
       clear c7
       by_cases c8 : t105 < (y102.length : Int)
       ·rw [if_pos c8] at H
        have c8b0 : decide (t105 < (y102.length : Int)) = true := decide_eq_true c8
        clear c8
        by_cases c9 : x5_1.length < 8796093022208
        ·rw [if_pos c9] at H
         have LMc9 := Aside0.mk c9
         clear c9
         obtain ⟨y107, hy107⟩ : ∃ y_ : List ByteArray, y_ = (x5_1 ++ [rdOf ByteArray.empty y102 t105]) := ⟨_, rfl⟩
         replace H : (collatorlaw04_full.l0 k1 l0 a1 y107 (wrap64 (x6_1 + 1))) = some r := by first | (rw [hy107]; with_reducible exact H) | (have H2_ := (Option.bind_some _ _).symm.trans H; rw [hy107]; with_reducible exact H2_) | (have H2_ := (Option.bind_some _ _).symm.trans H; with_reducible exact H2_) | with_reducible exact H | (rw [hy107]; exact H) | exact H
         have Ny107 := Aside0.mk hy107
         clear hy107
         have H' := Aside0.mk H
         clear H
         have p101 : 0 ≤ (x6_1 : Int) := of_decide_eq_true as_
         have q101 : x6_1 < (l0.length : Int) := of_decide_eq_true as_
         obtain ⟨ad101, e101, hx101_0⟩ := Kd.at_int HR0.out x6_1 p101 q101
         cases e101
         replace hx101_0 := (HB.out.cell (World.block_lt_of_cell? w _ hx101_0)).trans hx101_0
         replace p101 := eq_true p101
         replace q101 := eq_true q101
         go_wp2_with (first | ((with_reducible refine gate_dst (N := 23) rfl ?_); refine Kd.R_lit Kd.string _ 9 ?hg (N := 23) ?hd (xs := ([(⟨#[97, 10]⟩ : ByteArray), (⟨#[98, 10]⟩ : ByteArray), (⟨#[99, 10]⟩ : ByteArray), (⟨#[]⟩ : ByteArray), (⟨#[120, 58, 121, 59]⟩ : ByteArray)] : List ByteArray)) (inner := [.string (⟨#[97, 10]⟩ : ByteArray), .string (⟨#[98, 10]⟩ : ByteArray), .string (⟨#[99, 10]⟩ : ByteArray), .string (⟨#[]⟩ : ByteArray), .string (⟨#[120, 58, 121, 59]⟩ : ByteArray)]) (ok := fun _ => True) (okp := fun _ => True) ?hr ?hp (fun _ hk => hk) trivial (Below.refl _ _) (Nat.le_refl _) (by simp) ?_; (case hd => rfl); (case hg => rfl); (case hr => first | (go_simp; done) | (go_simp; rfl)); (case hp => exact (Reps.one (show Kd.M Kd.string _ _ _ (⟨#[97, 10]⟩ : ByteArray) [.string (⟨#[97, 10]⟩ : ByteArray)] from rfl) (Reps.one (show Kd.M Kd.string _ _ _ (⟨#[98, 10]⟩ : ByteArray) [.string (⟨#[98, 10]⟩ : ByteArray)] from rfl) (Reps.one (show Kd.M Kd.string _ _ _ (⟨#[99, 10]⟩ : ByteArray) [.string (⟨#[99, 10]⟩ : ByteArray)] from rfl) (Reps.one (show Kd.M Kd.string _ _ _ (⟨#[]⟩ : ByteArray) [.string (⟨#[]⟩ : ByteArray)] from rfl) (Reps.one (show Kd.M Kd.string _ _ _ (⟨#[120, 58, 121, 59]⟩ : ByteArray) [.string (⟨#[120, 58, 121, 59]⟩ : ByteArray)] from rfl) (Reps.none _ _))))))); intro v103 w10 ho11 hb hg_ hnew_; clear hg_ hnew_; (first | rw [← Ny102.out] at ho11 | (simp only [Int.reduceToNat] at ho11; rw [← Ny102.out] at ho11)); have n0_ := Aside0.mk (Kd.R_elder' (by (with_reducible repeat (first | apply Kd.R_alloc | apply Kd.R_drewN | apply Kd.R_drew)); exact HO_5.out) (Kd.R_base ho11) hb); have n1_ := Aside0.mk (Kd.R_lower (Kd.R_new' ho11 (Kd.R_lt (by (with_reducible repeat (first | apply Kd.R_alloc | apply Kd.R_drewN | apply Kd.R_drew)); exact HO_5.out))) (below_size hb_)); have n2_ := Aside0.mk (below_step hb_ hb); clear HO_5; clear HB; have HO_5 := n0_; have HO104 := n1_; have HB := n2_; clear n0_ n1_ n2_; clear hb ho11) | ((with_reducible refine gate_callee (f := 29) rfl ?_); refine goesL_ (some 25) rfl rfl Try.func29 (by kernel_rfl) rfl #[.int .i64 (rd l0 x6_1), .int .i64 5] rfl mp_ ?_; (with_reducible refine (collatorlaw04_pick.calls (rd l0 x6_1) 5 t105 _ A6.out).mono ?_); rintro e w' ⟨rfl, ⟨nd, rfl⟩⟩; refine ⟨_, rfl, ?_⟩; (try (obtain ⟨Ao12, co12, eo12⟩ := Kd.R_slice HO104.out; subst eo12)); have p106 : 0 ≤ (t105 : Int) := of_decide_eq_true as_; have q106 : t105 < (y102.length : Int) := of_decide_eq_true as_; obtain ⟨ad106, e106, hx106_0⟩ := Kd.at_string (Kd.R_reads' HO104.out).2.2 t105 p106 q106; cases e106; replace p106 := eq_true p106; replace q106 := eq_true q106) | ((with_reducible refine gate_builtin (b := .append) (xs := #[.tmp 22, .tmp 28]) rfl ?_); at_builtin; refine Kd.R_append Kd.string (w0 := w) w.heap.size rfl (.tmp 22) (.tmp 28) 29 9 (.string ⟨#[]⟩) 16 rfl Try.underlying29 info9 rfl (by decide) (by omega) u5 x5_1 (rdOf ByteArray.empty y102 t105) [.string (rdOf ByteArray.empty y102 t105)] (fun k_ => some k_ ≠ (.slice (some ad106) y102.length co12 : Value).ownBlock) (fun _ => False) rfl rfl ?aP (fun _ hk => hk.elim) ?aF ?aO ?aB ?aS ?aL ?_; (case aP => exact rfl); (case aB => exact hb_); (case aF => exact (fun k_ hk => Kd.fresh' (Kd.R_lt (by (with_reducible repeat (first | apply Kd.R_alloc | apply Kd.R_drewN | apply Kd.R_drew)); exact HO104.out)) k_ hk)); (case aO => exact (by (with_reducible repeat (first | apply Kd.R_alloc | apply Kd.R_drewN | apply Kd.R_drew)); exact Kd.R_mono HO_5.out (fun _ hk => hk.2))); (case aS => exact (below_size hb_)); (case aL => have := LMc9.out; omega); intro v108 w13 ho hb hg hat; rw [← Ny107.out] at ho; have n0_ := Aside0.mk (Kd.R_after (ok := (fun _ => True)) (by (with_reducible repeat (first | apply Kd.R_alloc | apply Kd.R_drewN | apply Kd.R_drew)); exact HO104.out) hg hat); have n1_ := Aside0.mk (hb); have n2_ := Aside0.mk (ho); clear HO104; clear HB; clear HO_5; have HO104 := n0_; have HB := n1_; have HO109 := n2_; clear n0_ n1_ n2_; clear ho hb hg hat))
         go_roundg k1
         case measure => have := HK1.out; omega
         case rel => exact ⟨(y107), (wrap64 (x6_1 + 1)), rf_, H', ⟨by have := HK1.out; omega⟩, ⟨by (with_reducible repeat (first | apply Kd.R_alloc | apply Kd.R_drewN | apply Kd.R_drew)); exact Kd.R_mono HO109.out (fun _ hk => trivial)⟩, ⟨by repeat (first | (with_reducible first | exact HB.out | apply below_alloc | apply pw_below_drewN | apply below_drew1) | exact HB.out)⟩⟩
        ·rw [if_neg c9] at H
         exact absurd H (by simp)
       ·rw [if_neg c8] at H
        exact absurd H (by simp)
      ·rw [if_neg c7] at H
       exact absurd H (by simp)
     ·rw [if_neg c5] at H
      exact absurd H (by simp)
    ·rw [if_neg c4] at H
     have c4b0 : decide (x6_1 < (l0.length : Int)) = false := decide_eq_false c4
     clear c4
     obtain ⟨y110, hy110⟩ : ∃ y_ : List ByteArray, y_ = (([(⟨#[97, 10]⟩ : ByteArray), (⟨#[98, 10]⟩ : ByteArray), (⟨#[99, 10]⟩ : ByteArray), (⟨#[]⟩ : ByteArray), (⟨#[120, 58, 121, 59]⟩ : ByteArray)] : List ByteArray)) := ⟨_, rfl⟩
     replace H : ((collatorlaw04_pick.f x6_1 5).bind fun t113 => (if 0 ≤ t113 then (if t113 < (y110.length : Int) then (if x5_1.length < 8796093022208 then (collatorlaw04_full.l0 k1 l0 a1 (x5_1 ++ [rdOf ByteArray.empty y110 t113]) (wrap64 (x6_1 + 1))) else (none)) else (none)) else (none))) = some r := by first | (rw [hy110]; with_reducible exact H) | (have H2_ := (Option.bind_some _ _).symm.trans H; rw [hy110]; with_reducible exact H2_) | (have H2_ := (Option.bind_some _ _).symm.trans H; with_reducible exact H2_) | with_reducible exact H | (rw [hy110]; exact H) | exact H
     have Ny110 := Aside0.mk hy110
     clear hy110
     replace H := Option.bind_eq_some_iff.mp H
     obtain ⟨t113, A140, H⟩ := H
     replace H : (if 0 ≤ t113 then (if t113 < (y110.length : Int) then (if x5_1.length < 8796093022208 then (collatorlaw04_full.l0 k1 l0 a1 (x5_1 ++ [rdOf ByteArray.empty y110 t113]) (wrap64 (x6_1 + 1))) else (none)) else (none)) else (none)) = some r := H
     have A14 := Aside0.mk A140
     clear A140
     by_cases c15 : 0 ≤ t113
     ·rw [if_pos c15] at H
      have c15b0 : decide (0 ≤ t113) = true := decide_eq_true c15
      clear c15
      by_cases c16 : t113 < (y110.length : Int)
      ·rw [if_pos c16] at H
       have c16b0 : decide (t113 < (y110.length : Int)) = true := decide_eq_true c16
       clear c16
       by_cases c17 : x5_1.length < 8796093022208
       ·rw [if_pos c17] at H
        have LMc17 := Aside0.mk c17
        clear c17
        obtain ⟨y115, hy115⟩ : ∃ y_ : List ByteArray, y_ = (x5_1 ++ [rdOf ByteArray.empty y110 t113]) := ⟨_, rfl⟩
        replace H : (collatorlaw04_full.l0 k1 l0 a1 y115 (wrap64 (x6_1 + 1))) = some r := by first | (rw [hy115]; with_reducible exact H) | (have H2_ := (Option.bind_some _ _).symm.trans H; rw [hy115]; with_reducible exact H2_) | (have H2_ := (Option.bind_some _ _).symm.trans H; with_reducible exact H2_) | with_reducible exact H | (rw [hy115]; exact H) | exact H
        have Ny115 := Aside0.mk hy115
        clear hy115
        have H' := Aside0.mk H
        clear H
        go_wp2_with (first | ((with_reducible refine gate_dst (N := 23) rfl ?_); refine Kd.R_lit Kd.string _ 9 ?hg (N := 23) ?hd (xs := ([(⟨#[97, 10]⟩ : ByteArray), (⟨#[98, 10]⟩ : ByteArray), (⟨#[99, 10]⟩ : ByteArray), (⟨#[]⟩ : ByteArray), (⟨#[120, 58, 121, 59]⟩ : ByteArray)] : List ByteArray)) (inner := [.string (⟨#[97, 10]⟩ : ByteArray), .string (⟨#[98, 10]⟩ : ByteArray), .string (⟨#[99, 10]⟩ : ByteArray), .string (⟨#[]⟩ : ByteArray), .string (⟨#[120, 58, 121, 59]⟩ : ByteArray)]) (ok := fun _ => True) (okp := fun _ => True) ?hr ?hp (fun _ hk => hk) trivial (Below.refl _ _) (Nat.le_refl _) (by simp) ?_; (case hd => rfl); (case hg => rfl); (case hr => first | (go_simp; done) | (go_simp; rfl)); (case hp => exact (Reps.one (show Kd.M Kd.string _ _ _ (⟨#[97, 10]⟩ : ByteArray) [.string (⟨#[97, 10]⟩ : ByteArray)] from rfl) (Reps.one (show Kd.M Kd.string _ _ _ (⟨#[98, 10]⟩ : ByteArray) [.string (⟨#[98, 10]⟩ : ByteArray)] from rfl) (Reps.one (show Kd.M Kd.string _ _ _ (⟨#[99, 10]⟩ : ByteArray) [.string (⟨#[99, 10]⟩ : ByteArray)] from rfl) (Reps.one (show Kd.M Kd.string _ _ _ (⟨#[]⟩ : ByteArray) [.string (⟨#[]⟩ : ByteArray)] from rfl) (Reps.one (show Kd.M Kd.string _ _ _ (⟨#[120, 58, 121, 59]⟩ : ByteArray) [.string (⟨#[120, 58, 121, 59]⟩ : ByteArray)] from rfl) (Reps.none _ _))))))); intro v111 w18 ho19 hb hg_ hnew_; clear hg_ hnew_; (first | rw [← Ny110.out] at ho19 | (simp only [Int.reduceToNat] at ho19; rw [← Ny110.out] at ho19)); have n0_ := Aside0.mk (Kd.R_elder' (by (with_reducible repeat (first | apply Kd.R_alloc | apply Kd.R_drewN | apply Kd.R_drew)); exact HO_5.out) (Kd.R_base ho19) hb); have n1_ := Aside0.mk (Kd.R_lower (Kd.R_new' ho19 (Kd.R_lt (by (with_reducible repeat (first | apply Kd.R_alloc | apply Kd.R_drewN | apply Kd.R_drew)); exact HO_5.out))) (below_size hb_)); have n2_ := Aside0.mk (below_step hb_ hb); clear HO_5; clear HB; have HO_5 := n0_; have HO112 := n1_; have HB := n2_; clear n0_ n1_ n2_; clear hb ho19) | ((with_reducible refine gate_callee (f := 29) rfl ?_); refine goesL_ (some 25) rfl rfl Try.func29 (by kernel_rfl) rfl #[.int .i64 x6_1, .int .i64 5] rfl mp_ ?_; (with_reducible refine (collatorlaw04_pick.calls x6_1 5 t113 _ A14.out).mono ?_); rintro e w' ⟨rfl, ⟨nd, rfl⟩⟩; refine ⟨_, rfl, ?_⟩; (try (obtain ⟨Ao20, co20, eo20⟩ := Kd.R_slice HO112.out; subst eo20)); have p114 : 0 ≤ (t113 : Int) := of_decide_eq_true as_; have q114 : t113 < (y110.length : Int) := of_decide_eq_true as_; obtain ⟨ad114, e114, hx114_0⟩ := Kd.at_string (Kd.R_reads' HO112.out).2.2 t113 p114 q114; cases e114; replace p114 := eq_true p114; replace q114 := eq_true q114) | ((with_reducible refine gate_builtin (b := .append) (xs := #[.tmp 22, .tmp 28]) rfl ?_); at_builtin; refine Kd.R_append Kd.string (w0 := w) w.heap.size rfl (.tmp 22) (.tmp 28) 29 9 (.string ⟨#[]⟩) 16 rfl Try.underlying29 info9 rfl (by decide) (by omega) u5 x5_1 (rdOf ByteArray.empty y110 t113) [.string (rdOf ByteArray.empty y110 t113)] (fun k_ => some k_ ≠ (.slice (some ad114) y110.length co20 : Value).ownBlock) (fun _ => False) rfl rfl ?aP (fun _ hk => hk.elim) ?aF ?aO ?aB ?aS ?aL ?_; (case aP => exact rfl); (case aB => exact hb_); (case aF => exact (fun k_ hk => Kd.fresh' (Kd.R_lt (by (with_reducible repeat (first | apply Kd.R_alloc | apply Kd.R_drewN | apply Kd.R_drew)); exact HO112.out)) k_ hk)); (case aO => exact (by (with_reducible repeat (first | apply Kd.R_alloc | apply Kd.R_drewN | apply Kd.R_drew)); exact Kd.R_mono HO_5.out (fun _ hk => hk.2))); (case aS => exact (below_size hb_)); (case aL => have := LMc17.out; omega); intro v116 w21 ho hb hg hat; rw [← Ny115.out] at ho; have n0_ := Aside0.mk (Kd.R_after (ok := (fun _ => True)) (by (with_reducible repeat (first | apply Kd.R_alloc | apply Kd.R_drewN | apply Kd.R_drew)); exact HO112.out) hg hat); have n1_ := Aside0.mk (hb); have n2_ := Aside0.mk (ho); clear HO112; clear HB; clear HO_5; have HO112 := n0_; have HB := n1_; have HO117 := n2_; clear n0_ n1_ n2_; clear ho hb hg hat))
        go_roundg k1
        case measure => have := HK1.out; omega
        case rel => exact ⟨(y115), (wrap64 (x6_1 + 1)), rf_, H', ⟨by have := HK1.out; omega⟩, ⟨by (with_reducible repeat (first | apply Kd.R_alloc | apply Kd.R_drewN | apply Kd.R_drew)); exact Kd.R_mono HO117.out (fun _ hk => trivial)⟩, ⟨by repeat (first | (with_reducible first | exact HB.out | apply below_alloc | apply pw_below_drewN | apply below_drew1) | exact HB.out)⟩⟩
       ·rw [if_neg c17] at H
        exact absurd H (by simp)
      ·rw [if_neg c16] at H
       exact absurd H (by simp)
     ·rw [if_neg c15] at H
      exact absurd H (by simp)
   ·rw [if_neg c3] at H
    have c3b0 : decide (x6_1 < a1) = false := decide_eq_false c3
    clear c3
    obtain rfl := Option.some.inj H
    go_wp2
    go_ret
    exact ⟨_, by first | rfl | (simp [errW_none, errW_some] <;> rfl) | (simp [*, errW_none, errW_some] <;> rfl), by (with_reducible repeat (first | apply Kd.R_alloc | apply Kd.R_drewN | apply Kd.R_drew)); exact HO_5.out, by repeat (first | (with_reducible first | exact HB.out | apply below_alloc | apply pw_below_drewN | apply below_drew1) | exact HB.out)⟩

end Go.Proofs.Ytgobidmfbjmpkaa.P
end
