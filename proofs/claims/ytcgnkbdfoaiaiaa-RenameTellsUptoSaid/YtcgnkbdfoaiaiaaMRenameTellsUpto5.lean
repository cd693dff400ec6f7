/- Texts of this claim, joined: Pxf21, Pxf22, QRef8, QGreedy, ESorted, ESortedC. -/
import Derived.Test.YtcgnkbdfoaiaiaaMRenameTellsUpto1
import Derived.Test.YtcgnkbdfoaiaiaaMRenameTellsUpto2
import Derived.Test.YtcgnkbdfoaiaiaaMRenameTellsUpto3
import Derived.Test.YtcgnkbdfoaiaiaaMRenameTellsUpto4
section
/- Laid for this claim by hp.py, this session's program round the kit's print: functions of the program as plain Lean functions, the proofs that the code comes to their answers, and the rows of the laws. Not trusted: Lean checks it. -/
namespace Go.Proofs.Ytcgnkbdfoaiaiaa.P
open Go.RowKit Go.Proofs.YtcgnkbdfoaiaiaaW.PrintWords Go.Proofs.YtcgnkbdfoaiaiaaW.PrintLast Go.Proofs.YtcgnkbdfoaiaiaaW.PrintMore
attribute [local go_sem] max2_int min2_int max_two min_two max_three min_three max_four min_four   -- for this text's walks alone
set_option linter.unusedVariables false
set_option linter.unusedSimpArgs false

/-! ### collatorref08_touches: function 21 -/
def collatorref08_touches.l0 : Nat → List (S35) → Int → ByteArray → ByteArray → Int → Option (Bool)
 | 0, _, _, _, _, _ => none
 | k + 1, x0, x5, x180000, x180001, x180002 => if x5 < (x0.length : Int) then (if 0 ≤ x5 then (if ((rd_T35 x0 x5).f0).toList = x180000.toList then (some true) else (if ((rd_T35 x0 x5).f1).toList = x180001.toList then (some true) else (collatorref08_touches.l0 k x0 (wrap64 (x5 + 1)) x180000 x180001 x180002))) else (none)) else (some false)
def collatorref08_touches.f (k : Nat) (l0 : List (S35)) (a1_0 : ByteArray) (a1_1 : ByteArray) (a1_2 : Int) : Option (Bool) := collatorref08_touches.l0 k l0 0 a1_0 a1_1 a1_2
theorem collatorref08_touches.mono_l : ∀ k, (∀ y0 y1 y2 y3 y4, LeO (collatorref08_touches.l0 k y0 y1 y2 y3 y4) (collatorref08_touches.l0 (k + 1) y0 y1 y2 y3 y4))
 | 0 => fun _ _ _ _ _ r h => by simp [collatorref08_touches.l0] at h
 | k + 1 => by
  have ih0 := collatorref08_touches.mono_l k
  ·intro y0 y1 y2 y3 y4
   unfold collatorref08_touches.l0
   repeat' first
   | (with_reducible exact ih0 _ _ _ _ _)
   | (with_reducible exact LeO.refl _)
   | (with_reducible exact LeO.none _)
   | (with_reducible refine LeO.ite ?_ ?_)
   | (with_reducible refine LeO.bind ?_ (fun _ => ?_))
   | exact ih0 _ _ _ _ _
   | exact LeO.none _
   | refine LeO.ite ?_ ?_
   | refine LeO.bind ?_ (fun _ => ?_)
theorem collatorref08_touches.mono : ∀ a0 a1 a2 a3 k, LeO (collatorref08_touches.f k a0 a1 a2 a3) (collatorref08_touches.f (k + 1) a0 a1 a2 a3) := by
 intro a0 a1 a2 a3 k
 have ih0 := collatorref08_touches.mono_l k
 unfold collatorref08_touches.f
 repeat' first
   | (with_reducible exact ih0 _ _ _ _ _)
   | (with_reducible exact LeO.refl _)
   | (with_reducible exact LeO.none _)
   | (with_reducible refine LeO.ite ?_ ?_)
   | (with_reducible refine LeO.bind ?_ (fun _ => ?_))
   | exact ih0 _ _ _ _ _
   | exact LeO.none _
   | refine LeO.ite ?_ ?_
   | refine LeO.bind ?_ (fun _ => ?_)
set_option maxHeartbeats 8000000 in
set_option maxRecDepth 100000 in
theorem collatorref08_touches.calls (k : Nat) (A0 : Option Addr) (c0 : Nat) (l0 : List (S35)) (a1_0 : ByteArray) (a1_1 : ByteArray) (a1_2 : Int) (r : Bool) (w : World) (hr0 : Kd.C k35 w A0 l0.length l0) (hc0 : l0.length ≤ c0) (h : collatorref08_touches.f k l0 a1_0 a1_1 a1_2 = some r) :
  Calls Try.prog 21 #[.slice A0 l0.length c0, .agg #[.string a1_0, .string a1_1, .int .i64 a1_2]] w fun e w' => e = .returned (.bool r) ∧ Below w.heap.size w w' := by
 have hu35 := Try.underlying35
 have HR0 := Aside0.mk hr0
 have HC0 := Aside0.mk hc0
 clear hr0 hc0
 have HB := Aside0.mk (Below.refl w.heap.size w)
 have H : (collatorref08_touches.l0 k l0 0 a1_0 a1_1 a1_2) = some r := h
 clear h
 have H' := Aside0.mk H
 clear H
 go_enter Try.func21, Try.ntmps21
 go_wp2_with (first | ((with_reducible refine gate_dst (N := 3) rfl ?_); refine box_event ?hg (N := 3) ?hd (cs := #[.string a1_0, .string a1_1, .int .i64 a1_2]) (t := 35) ?hr ?_; (case hd => rfl); (case hg => rfl); (case hr => first | (go_simp; done) | (go_simp; rfl)); intro gb179 hg w3 hbox hb; have n0_ := Aside0.mk (below_step (by repeat (first | (with_reducible first | exact HB.out | apply below_alloc | apply pw_below_drewN | apply below_drew1) | exact HB.out)) hb); have n1_ := Aside0.mk (hbox); have n2_ := Aside0.mk ((by rw [hg]; exact (below_size (by repeat (first | (with_reducible first | exact HB.out | apply below_alloc | apply pw_below_drewN | apply below_drew1) | exact HB.out))) : w.heap.size ≤ gb179)); have n3_ := Aside0.mk ((by rw [hg]; exact (below_size (by repeat (first | (with_reducible first | exact HB.out | apply below_alloc | apply pw_below_drewN | apply below_drew1) | exact HB.out))) : w.heap.size ≤ gb179)); clear HB; have HB := n0_; have BK179 := n1_; have GW179 := n2_; have GE179 := n3_; clear n0_ n1_ n2_ n3_; clear hb hbox hg))
 repeat (go_quiet (first | ((with_reducible refine gate_dst (N := 3) rfl ?_); refine box_event ?hg (N := 3) ?hd (cs := #[.string a1_0, .string a1_1, .int .i64 a1_2]) (t := 35) ?hr ?_; (case hd => rfl); (case hg => rfl); (case hr => first | (go_simp; done) | (go_simp; rfl)); intro gb179 hg w3 hbox hb; have n0_ := Aside0.mk (below_step (by repeat (first | (with_reducible first | exact HB.out | apply below_alloc | apply pw_below_drewN | apply below_drew1) | exact HB.out)) hb); have n1_ := Aside0.mk (hbox); have n2_ := Aside0.mk ((by rw [hg]; exact (below_size (by repeat (first | (with_reducible first | exact HB.out | apply below_alloc | apply pw_below_drewN | apply below_drew1) | exact HB.out))) : w.heap.size ≤ gb179)); have n3_ := Aside0.mk ((by rw [hg]; exact (below_size (by repeat (first | (with_reducible first | exact HB.out | apply below_alloc | apply pw_below_drewN | apply below_drew1) | exact HB.out))) : w.heap.size ≤ gb179)); clear HB; have HB := n0_; have BK179 := n1_; have GW179 := n2_; have GE179 := n3_; clear n0_ n1_ n2_ n3_; clear hb hbox hg)); try go_wp2_with (first | ((with_reducible refine gate_dst (N := 3) rfl ?_); refine box_event ?hg (N := 3) ?hd (cs := #[.string a1_0, .string a1_1, .int .i64 a1_2]) (t := 35) ?hr ?_; (case hd => rfl); (case hg => rfl); (case hr => first | (go_simp; done) | (go_simp; rfl)); intro gb179 hg w3 hbox hb; have n0_ := Aside0.mk (below_step (by repeat (first | (with_reducible first | exact HB.out | apply below_alloc | apply pw_below_drewN | apply below_drew1) | exact HB.out)) hb); have n1_ := Aside0.mk (hbox); have n2_ := Aside0.mk ((by rw [hg]; exact (below_size (by repeat (first | (with_reducible first | exact HB.out | apply below_alloc | apply pw_below_drewN | apply below_drew1) | exact HB.out))) : w.heap.size ≤ gb179)); have n3_ := Aside0.mk ((by rw [hg]; exact (below_size (by repeat (first | (with_reducible first | exact HB.out | apply below_alloc | apply pw_below_drewN | apply below_drew1) | exact HB.out))) : w.heap.size ≤ gb179)); clear HB; have HB := n0_; have BK179 := n1_; have GW179 := n2_; have GE179 := n3_; clear n0_ n1_ n2_ n3_; clear hb hbox hg)))
 go_loopg [5] k (fun kq v5 w' => ∃ (x5_1 : Int), v5 = .int .i64 x5_1 ∧ Aside0 (collatorref08_touches.l0 kq l0 x5_1 a1_0 a1_1 a1_2 = some r) ∧ Aside0 (kq ≤ k) ∧ Aside0 (w'.heap[gb179]? = some (.cells #[.string a1_0, .string a1_1, .int .i64 a1_2] 35 (0, 0))) ∧ Aside0 (Below w.heap.size w w'))
 case atStart => exact ⟨(0), (by first | rfl | (simp; done) | (simp [*]; done)), H', ⟨Nat.le_refl _⟩, ⟨by (with_reducible repeat (first | refine blk_drewN ?_ _ | refine blk_drew ?_ | refine blk_alloc ?_ _)); exact BK179.out⟩, ⟨by repeat (first | (with_reducible first | exact HB.out | apply below_alloc | apply pw_below_drewN | apply below_drew1 | refine below_set ?_ GE179.out) | exact HB.out)⟩⟩
 case round =>
  clear H'
  (try clear c2);(try clear p2)
  obtain ⟨x5_1, rfl, HA, HK1, BK179, HB⟩ := hrel
  cases gk with
  | zero => exact absurd HA.out (by simp [collatorref08_touches.l0])
  | succ k1 =>
   have H := HA.out
   clear HA
   simp only [collatorref08_touches.l0] at H
   by_cases c4 : x5_1 < (l0.length : Int)
   ·rw [if_pos c4] at H
    have c4b0 : decide (x5_1 < (l0.length : Int)) = true := decide_eq_true c4
    clear c4
    by_cases c5 : 0 ≤ x5_1
    ·rw [if_pos c5] at H
     have c5b0 : decide (0 ≤ x5_1) = true := decide_eq_true c5
     clear c5
     by_cases c6 : ((rd_T35 l0 x5_1).f0).toList = a1_0.toList
     ·rw [if_pos c6] at H
      have c6b0 : (((rd_T35 l0 x5_1).f0).toList == a1_0.toList) = true := beq_iff_eq.mpr c6
      have c6b1 : (((rd_T35 l0 x5_1).f0).toList != a1_0.toList) = false := bne_eq_false_iff_eq.mpr c6
      clear c6
      obtain rfl := Option.some.inj H
      have p180 : 0 ≤ (x5_1 : Int) := of_decide_eq_true (by first | (with_reducible assumption) | assumption)
      have q180 : x5_1 < (l0.length : Int) := of_decide_eq_true (by first | (with_reducible assumption) | assumption)
      obtain ⟨ad180, e180, hx180_0, hx180_1, hx180_2⟩ := at_T35 HR0.out x5_1 p180 q180
      cases e180
      replace hx180_0 := (HB.out.cell (World.block_lt_of_cell? w _ hx180_0)).trans hx180_0
      replace hx180_1 := (HB.out.cell (World.block_lt_of_cell? w _ hx180_1)).trans hx180_1
      replace hx180_2 := (HB.out.cell (World.block_lt_of_cell? w _ hx180_2)).trans hx180_2
      replace p180 := eq_true p180
      replace q180 := eq_true q180
      have hcz7_0 : wr.cell? ⟨gb179, 0, none⟩ = some (.string a1_0) := (blk_cell BK179.out 0).trans rfl
      have hcz7_1 : wr.cell? ⟨gb179, 1, none⟩ = some (.string a1_1) := (blk_cell BK179.out 1).trans rfl
      have hcz7_2 : wr.cell? ⟨gb179, 2, none⟩ = some (.int .i64 a1_2) := (blk_cell BK179.out 2).trans rfl
      have hfz7_0 := blk_frozen BK179.out 0
      have hfz7_1 := blk_frozen BK179.out 1
      have hfz7_2 := blk_frozen BK179.out 2
      go_wp2
      repeat (go_quiet (fail); try go_wp2)
      go_ret
      exact ⟨by first | rfl | (simp [errW_none, errW_some] <;> rfl) | (simp [*, errW_none, errW_some] <;> rfl), by repeat (first | (with_reducible first | exact HB.out | apply below_alloc | apply pw_below_drewN | apply below_drew1 | refine below_set ?_ GE179.out) | exact HB.out)⟩
     ·rw [if_neg c6] at H
      have c6b0 : (((rd_T35 l0 x5_1).f0).toList == a1_0.toList) = false := beq_eq_false_iff_ne.mpr c6
      have c6b1 : (((rd_T35 l0 x5_1).f0).toList != a1_0.toList) = true := bne_iff_ne.mpr c6
      by_cases c8 : ((rd_T35 l0 x5_1).f1).toList = a1_1.toList
      ·rw [if_pos c8] at H
       have c8b0 : (((rd_T35 l0 x5_1).f1).toList == a1_1.toList) = true := beq_iff_eq.mpr c8
       have c8b1 : (((rd_T35 l0 x5_1).f1).toList != a1_1.toList) = false := bne_eq_false_iff_eq.mpr c8
       clear c8
       obtain rfl := Option.some.inj H
       have p180 : 0 ≤ (x5_1 : Int) := of_decide_eq_true (by first | (with_reducible assumption) | assumption)
       have q180 : x5_1 < (l0.length : Int) := of_decide_eq_true (by first | (with_reducible assumption) | assumption)
       obtain ⟨ad180, e180, hx180_0, hx180_1, hx180_2⟩ := at_T35 HR0.out x5_1 p180 q180
       cases e180
       replace hx180_0 := (HB.out.cell (World.block_lt_of_cell? w _ hx180_0)).trans hx180_0
       replace hx180_1 := (HB.out.cell (World.block_lt_of_cell? w _ hx180_1)).trans hx180_1
       replace hx180_2 := (HB.out.cell (World.block_lt_of_cell? w _ hx180_2)).trans hx180_2
       replace p180 := eq_true p180
       replace q180 := eq_true q180
       have hcz9_0 : wr.cell? ⟨gb179, 0, none⟩ = some (.string a1_0) := (blk_cell BK179.out 0).trans rfl
       have hcz9_1 : wr.cell? ⟨gb179, 1, none⟩ = some (.string a1_1) := (blk_cell BK179.out 1).trans rfl
       have hcz9_2 : wr.cell? ⟨gb179, 2, none⟩ = some (.int .i64 a1_2) := (blk_cell BK179.out 2).trans rfl
       have hfz9_0 := blk_frozen BK179.out 0
       have hfz9_1 := blk_frozen BK179.out 1
       have hfz9_2 := blk_frozen BK179.out 2
       have p181 : 0 ≤ (x5_1 : Int) := of_decide_eq_true (by first | (with_reducible assumption) | assumption)
       have q181 : x5_1 < (l0.length : Int) := of_decide_eq_true (by first | (with_reducible assumption) | assumption)
       obtain ⟨ad181, e181, hx181_0, hx181_1, hx181_2⟩ := at_T35 HR0.out x5_1 p181 q181
       obtain rfl : ad180 = ad181 := (by injection e181)
       replace hx181_0 := (HB.out.cell (World.block_lt_of_cell? w _ hx181_0)).trans hx181_0
       replace hx181_1 := (HB.out.cell (World.block_lt_of_cell? w _ hx181_1)).trans hx181_1
       replace hx181_2 := (HB.out.cell (World.block_lt_of_cell? w _ hx181_2)).trans hx181_2
       replace p181 := eq_true p181
       replace q181 := eq_true q181
       go_wp2
       repeat (go_quiet (fail); try go_wp2)
       go_ret
       exact ⟨by first | rfl | (simp [errW_none, errW_some] <;> rfl) | (simp [*, errW_none, errW_some] <;> rfl), by repeat (first | (with_reducible first | exact HB.out | apply below_alloc | apply pw_below_drewN | apply below_drew1 | refine below_set ?_ GE179.out) | exact HB.out)⟩
      ·rw [if_neg c8] at H
       have c8b0 : (((rd_T35 l0 x5_1).f1).toList == a1_1.toList) = false := beq_eq_false_iff_ne.mpr c8
       have c8b1 : (((rd_T35 l0 x5_1).f1).toList != a1_1.toList) = true := bne_iff_ne.mpr c8
       have H' := Aside0.mk H
       clear H
       have p180 : 0 ≤ (x5_1 : Int) := of_decide_eq_true (by first | (with_reducible assumption) | assumption)
       have q180 : x5_1 < (l0.length : Int) := of_decide_eq_true (by first | (with_reducible assumption) | assumption)
       obtain ⟨ad180, e180, hx180_0, hx180_1, hx180_2⟩ := at_T35 HR0.out x5_1 p180 q180
       cases e180
       replace hx180_0 := (HB.out.cell (World.block_lt_of_cell? w _ hx180_0)).trans hx180_0
       replace hx180_1 := (HB.out.cell (World.block_lt_of_cell? w _ hx180_1)).trans hx180_1
       replace hx180_2 := (HB.out.cell (World.block_lt_of_cell? w _ hx180_2)).trans hx180_2
       replace p180 := eq_true p180
       replace q180 := eq_true q180
       have hcz10_0 : wr.cell? ⟨gb179, 0, none⟩ = some (.string a1_0) := (blk_cell BK179.out 0).trans rfl
       have hcz10_1 : wr.cell? ⟨gb179, 1, none⟩ = some (.string a1_1) := (blk_cell BK179.out 1).trans rfl
       have hcz10_2 : wr.cell? ⟨gb179, 2, none⟩ = some (.int .i64 a1_2) := (blk_cell BK179.out 2).trans rfl
       have hfz10_0 := blk_frozen BK179.out 0
       have hfz10_1 := blk_frozen BK179.out 1
       have hfz10_2 := blk_frozen BK179.out 2
       have p181 : 0 ≤ (x5_1 : Int) := of_decide_eq_true (by first | (with_reducible assumption) | assumption)
       have q181 : x5_1 < (l0.length : Int) := of_decide_eq_true (by first | (with_reducible assumption) | assumption)
       obtain ⟨ad181, e181, hx181_0, hx181_1, hx181_2⟩ := at_T35 HR0.out x5_1 p181 q181
       obtain rfl : ad180 = ad181 := (by injection e181)
       replace hx181_0 := (HB.out.cell (World.block_lt_of_cell? w _ hx181_0)).trans hx181_0
       replace hx181_1 := (HB.out.cell (World.block_lt_of_cell? w _ hx181_1)).trans hx181_1
       replace hx181_2 := (HB.out.cell (World.block_lt_of_cell? w _ hx181_2)).trans hx181_2
       replace p181 := eq_true p181
       replace q181 := eq_true q181
       go_wp2
       repeat (go_quiet (fail); try go_wp2)
       go_roundg k1
       case measure => have := HK1.out; omega
       case rel => exact ⟨(wrap64 (x5_1 + 1)), (by first | rfl | (simp; done) | (simp [*]; done)), H', ⟨by have := HK1.out; omega⟩, ⟨by (with_reducible repeat (first | refine blk_drewN ?_ _ | refine blk_drew ?_ | refine blk_alloc ?_ _)); exact BK179.out⟩, ⟨by repeat (first | (with_reducible first | exact HB.out | apply below_alloc | apply pw_below_drewN | apply below_drew1 | refine below_set ?_ GE179.out) | exact HB.out)⟩⟩
    ·rw [if_neg c5] at H
     exact absurd H (by simp)
   ·rw [if_neg c4] at H
    have c4b0 : decide (x5_1 < (l0.length : Int)) = false := decide_eq_false c4
    clear c4
    obtain rfl := Option.some.inj H
    go_wp2
    repeat (go_quiet (fail); try go_wp2)
    go_ret
    exact ⟨by first | rfl | (simp [errW_none, errW_some] <;> rfl) | (simp [*, errW_none, errW_some] <;> rfl), by repeat (first | (with_reducible first | exact HB.out | apply below_alloc | apply pw_below_drewN | apply below_drew1 | refine below_set ?_ GE179.out) | exact HB.out)⟩

end Go.Proofs.Ytcgnkbdfoaiaiaa.P
end
section
/- Laid for this claim by hp.py, this session's program round the kit's print: functions of the program as plain Lean functions, the proofs that the code comes to their answers, and the rows of the laws. Not trusted: Lean checks it. -/
namespace Go.Proofs.Ytcgnkbdfoaiaiaa.P
open Go.RowKit Go.Proofs.YtcgnkbdfoaiaiaaW.PrintWords Go.Proofs.YtcgnkbdfoaiaiaaW.PrintLast Go.Proofs.YtcgnkbdfoaiaiaaW.PrintMore
attribute [local go_sem] max2_int min2_int max_two min_two max_three min_three max_four min_four   -- for this text's walks alone
set_option linter.unusedVariables false
set_option linter.unusedSimpArgs false

/-! ### collatorref08_Better: function 22 -/
def collatorref08_Better.f (k : Nat) (a0_0 : ByteArray) (a0_1 : ByteArray) (a0_2 : Int) (a1_0 : ByteArray) (a1_1 : ByteArray) (a1_2 : Int) : Option (Bool) := if a0_2 = a1_2 then (if a0_0.toList = a1_0.toList then ((collatorref01_Compare.f k a0_1 a1_1).bind fun t200 => (some (decide (t200 < 0)))) else ((collatorref01_Compare.f k a0_0 a1_0).bind fun t201 => (some (decide (t201 < 0))))) else (some (decide (a0_2 > a1_2)))
theorem collatorref08_Better.mono : ∀ a0 a1 a2 a3 a4 a5 k, LeO (collatorref08_Better.f k a0 a1 a2 a3 a4 a5) (collatorref08_Better.f (k + 1) a0 a1 a2 a3 a4 a5) := by
 intro a0 a1 a2 a3 a4 a5 k
 unfold collatorref08_Better.f
 repeat' first
   | (with_reducible exact collatorref01_Compare.mono _ _ _)
   | (with_reducible exact LeO.refl _)
   | (with_reducible exact LeO.none _)
   | (with_reducible refine LeO.ite ?_ ?_)
   | (with_reducible refine LeO.bind ?_ (fun _ => ?_))
   | exact collatorref01_Compare.mono _ _ _
   | exact LeO.none _
   | refine LeO.ite ?_ ?_
   | refine LeO.bind ?_ (fun _ => ?_)
set_option maxHeartbeats 8000000 in
set_option maxRecDepth 100000 in
theorem collatorref08_Better.calls (k : Nat) (a0_0 : ByteArray) (a0_1 : ByteArray) (a0_2 : Int) (a1_0 : ByteArray) (a1_1 : ByteArray) (a1_2 : Int) (r : Bool) (w : World) (h : collatorref08_Better.f k a0_0 a0_1 a0_2 a1_0 a1_1 a1_2 = some r) :
  Calls Try.prog 22 #[.agg #[.string a0_0, .string a0_1, .int .i64 a0_2], .agg #[.string a1_0, .string a1_1, .int .i64 a1_2]] w fun e w' => e = .returned (.bool r) ∧ Below w.heap.size w w' := by
 have hu35 := Try.underlying35
 have HB := Aside0.mk (Below.refl w.heap.size w)
 have H : (if a0_2 = a1_2 then (if a0_0.toList = a1_0.toList then ((collatorref01_Compare.f k a0_1 a1_1).bind fun t200 => (some (decide (t200 < 0)))) else ((collatorref01_Compare.f k a0_0 a1_0).bind fun t201 => (some (decide (t201 < 0))))) else (some (decide (a0_2 > a1_2)))) = some r := h
 clear h
 by_cases c3 : a0_2 = a1_2
 ·rw [if_pos c3] at H
  have c3b0 : (a0_2 == a1_2) = true := beq_iff_eq.mpr c3
  have c3b1 : (a0_2 != a1_2) = false := bne_eq_false_iff_eq.mpr c3
  clear c3
  by_cases c4 : a0_0.toList = a1_0.toList
  ·rw [if_pos c4] at H
   have c4b0 : (a0_0.toList == a1_0.toList) = true := beq_iff_eq.mpr c4
   have c4b1 : (a0_0.toList != a1_0.toList) = false := bne_eq_false_iff_eq.mpr c4
   clear c4
   replace H := Option.bind_eq_some_iff.mp H
   obtain ⟨t200, A50, H⟩ := H
   replace H : (some (decide (t200 < 0))) = some r := H
   have A5 := Aside0.mk A50
   clear A50
   obtain rfl := Option.some.inj H
   go_enter Try.func22, Try.ntmps22
   go_wp2_with (first | ((with_reducible refine gate_dst (N := 2) rfl ?_); refine box_event ?hg (N := 2) ?hd (cs := #[.string a0_0, .string a0_1, .int .i64 a0_2]) (t := 35) ?hr ?_; (case hd => rfl); (case hg => rfl); (case hr => first | (go_simp; done) | (go_simp; rfl)); intro gb198 hg w6 hbox hb; have n0_ := Aside0.mk (below_step (by repeat (first | (with_reducible first | exact HB.out | apply below_alloc | apply pw_below_drewN | apply below_drew1) | exact HB.out)) hb); have n1_ := Aside0.mk (hbox); have n2_ := Aside0.mk ((by rw [hg]; exact (below_size (by repeat (first | (with_reducible first | exact HB.out | apply below_alloc | apply pw_below_drewN | apply below_drew1) | exact HB.out))) : w.heap.size ≤ gb198)); have n3_ := Aside0.mk ((by rw [hg]; exact (below_size (by repeat (first | (with_reducible first | exact HB.out | apply below_alloc | apply pw_below_drewN | apply below_drew1) | exact HB.out))) : w.heap.size ≤ gb198)); clear HB; have HB := n0_; have BK198 := n1_; have GW198 := n2_; have GE198 := n3_; clear n0_ n1_ n2_ n3_; clear hb hbox hg) | ((with_reducible refine gate_dst (N := 3) rfl ?_); refine box_event ?hg (N := 3) ?hd (cs := #[.string a1_0, .string a1_1, .int .i64 a1_2]) (t := 35) ?hr ?_; (case hd => rfl); (case hg => rfl); (case hr => first | (go_simp; done) | (go_simp; rfl)); intro gb199 hg w7 hbox hb; have n0_ := Aside0.mk (blk_below (g := gb198) (o := .cells #[.string a0_0, .string a0_1, .int .i64 a0_2] 35 (0, 0)) (by (with_reducible repeat (first | refine blk_drewN ?_ _ | refine blk_drew ?_ | refine blk_alloc ?_ _)); exact BK198.out) hb); have n1_ := Aside0.mk (below_step (by repeat (first | (with_reducible first | exact HB.out | apply below_alloc | apply pw_below_drewN | apply below_drew1 | refine below_set ?_ GE198.out) | exact HB.out)) hb); have n2_ := Aside0.mk (hbox); have n3_ := Aside0.mk ((by rw [hg]; exact (below_size (by repeat (first | (with_reducible first | exact HB.out | apply below_alloc | apply pw_below_drewN | apply below_drew1 | refine below_set ?_ GE198.out) | exact HB.out))) : w.heap.size ≤ gb199)); have n4_ := Aside0.mk ((by rw [hg]; exact (below_size (by repeat (first | (with_reducible first | exact HB.out | apply below_alloc | apply pw_below_drewN | apply below_drew1 | refine below_set ?_ GE198.out) | exact HB.out))) : w.heap.size ≤ gb199)); have n5_ := Aside0.mk ((by rw [hg]; exact Nat.ne_of_lt (blk_lt (g := gb198) (o := .cells #[.string a0_0, .string a0_1, .int .i64 a0_2] 35 (0, 0)) (by (with_reducible repeat (first | refine blk_drewN ?_ _ | refine blk_drew ?_ | refine blk_alloc ?_ _)); exact BK198.out)) : gb198 ≠ gb199)); have n6_ := Aside0.mk ((by rw [hg]; exact Nat.ne_of_gt (blk_lt (g := gb198) (o := .cells #[.string a0_0, .string a0_1, .int .i64 a0_2] 35 (0, 0)) (by (with_reducible repeat (first | refine blk_drewN ?_ _ | refine blk_drew ?_ | refine blk_alloc ?_ _)); exact BK198.out)) : gb199 ≠ gb198)); clear BK198; clear HB; have BK198 := n0_; have HB := n1_; have BK199 := n2_; have GW199 := n3_; have GE199 := n4_; have NB198_199 := n5_; have NB199_198 := n6_; clear n0_ n1_ n2_ n3_ n4_ n5_ n6_; clear hb hbox hg; have hnb8 := NB198_199.out; have hnc8 := NB199_198.out; have hcz9_0 : w7.cell? ⟨gb198, 0, none⟩ = some (.string a0_0) := (blk_cell BK198.out 0).trans rfl; have hcz9_1 : w7.cell? ⟨gb198, 1, none⟩ = some (.string a0_1) := (blk_cell BK198.out 1).trans rfl; have hcz9_2 : w7.cell? ⟨gb198, 2, none⟩ = some (.int .i64 a0_2) := (blk_cell BK198.out 2).trans rfl; have hfz9_0 := blk_frozen BK198.out 0; have hfz9_1 := blk_frozen BK198.out 1; have hfz9_2 := blk_frozen BK198.out 2; have hcz10_0 : w7.cell? ⟨gb199, 0, none⟩ = some (.string a1_0) := (blk_cell BK199.out 0).trans rfl; have hcz10_1 : w7.cell? ⟨gb199, 1, none⟩ = some (.string a1_1) := (blk_cell BK199.out 1).trans rfl; have hcz10_2 : w7.cell? ⟨gb199, 2, none⟩ = some (.int .i64 a1_2) := (blk_cell BK199.out 2).trans rfl; have hfz10_0 := blk_frozen BK199.out 0; have hfz10_1 := blk_frozen BK199.out 1; have hfz10_2 := blk_frozen BK199.out 2) | ((with_reducible refine gate_callee (f := 41) rfl ?_); refine goesL_ _ rfl rfl Try.func41 (by kernel_rfl) rfl #[.string a0_1, .string a1_1] rfl (by (try simp only [List.map_toArray, List.map_cons, List.map_nil]); first | done | rfl | (simp only [List.length_drop, List.length_take]; rfl)) ?_; (with_reducible refine (collatorref01_Compare.calls k a0_1 a1_1 t200 _ A5.out).mono ?_); rintro e w11 ⟨rfl, hb⟩; refine ⟨_, rfl, ?_⟩; have n0_ := Aside0.mk (blk_below (g := gb198) (o := .cells #[.string a0_0, .string a0_1, .int .i64 a0_2] 35 (0, 0)) (by (with_reducible repeat (first | refine blk_drewN ?_ _ | refine blk_drew ?_ | refine blk_alloc ?_ _)); exact BK198.out) hb); have n1_ := Aside0.mk (blk_below (g := gb199) (o := .cells #[.string a1_0, .string a1_1, .int .i64 a1_2] 35 (0, 0)) (by (with_reducible repeat (first | refine blk_drewN ?_ _ | refine blk_drew ?_ | refine blk_alloc ?_ _)); exact BK199.out) hb); have n2_ := Aside0.mk (below_step (by repeat (first | (with_reducible first | exact HB.out | apply below_alloc | apply pw_below_drewN | apply below_drew1 | refine below_set ?_ GE198.out | refine below_set ?_ GE199.out) | exact HB.out)) hb); clear BK198; clear BK199; clear HB; have BK198 := n0_; have BK199 := n1_; have HB := n2_; clear n0_ n1_ n2_; (try clear hb); (try clear hb2); (try clear hk); (try clear hi)))
   go_ret
   exact ⟨by first | rfl | (simp [errW_none, errW_some] <;> rfl) | (simp [*, errW_none, errW_some] <;> rfl), by repeat (first | (with_reducible first | exact HB.out | apply below_alloc | apply pw_below_drewN | apply below_drew1 | refine below_set ?_ GE198.out | refine below_set ?_ GE199.out) | exact HB.out)⟩
  ·rw [if_neg c4] at H
   have c4b0 : (a0_0.toList == a1_0.toList) = false := beq_eq_false_iff_ne.mpr c4
   have c4b1 : (a0_0.toList != a1_0.toList) = true := bne_iff_ne.mpr c4
   replace H := Option.bind_eq_some_iff.mp H
   obtain ⟨t201, A120, H⟩ := H
   replace H : (some (decide (t201 < 0))) = some r := H
   have A12 := Aside0.mk A120
   clear A120
   obtain rfl := Option.some.inj H
   go_enter Try.func22, Try.ntmps22
   go_wp2_with (first | ((with_reducible refine gate_dst (N := 2) rfl ?_); refine box_event ?hg (N := 2) ?hd (cs := #[.string a0_0, .string a0_1, .int .i64 a0_2]) (t := 35) ?hr ?_; (case hd => rfl); (case hg => rfl); (case hr => first | (go_simp; done) | (go_simp; rfl)); intro gb198 hg w13 hbox hb; have n0_ := Aside0.mk (below_step (by repeat (first | (with_reducible first | exact HB.out | apply below_alloc | apply pw_below_drewN | apply below_drew1) | exact HB.out)) hb); have n1_ := Aside0.mk (hbox); have n2_ := Aside0.mk ((by rw [hg]; exact (below_size (by repeat (first | (with_reducible first | exact HB.out | apply below_alloc | apply pw_below_drewN | apply below_drew1) | exact HB.out))) : w.heap.size ≤ gb198)); have n3_ := Aside0.mk ((by rw [hg]; exact (below_size (by repeat (first | (with_reducible first | exact HB.out | apply below_alloc | apply pw_below_drewN | apply below_drew1) | exact HB.out))) : w.heap.size ≤ gb198)); clear HB; have HB := n0_; have BK198 := n1_; have GW198 := n2_; have GE198 := n3_; clear n0_ n1_ n2_ n3_; clear hb hbox hg) | ((with_reducible refine gate_dst (N := 3) rfl ?_); refine box_event ?hg (N := 3) ?hd (cs := #[.string a1_0, .string a1_1, .int .i64 a1_2]) (t := 35) ?hr ?_; (case hd => rfl); (case hg => rfl); (case hr => first | (go_simp; done) | (go_simp; rfl)); intro gb199 hg w14 hbox hb; have n0_ := Aside0.mk (blk_below (g := gb198) (o := .cells #[.string a0_0, .string a0_1, .int .i64 a0_2] 35 (0, 0)) (by (with_reducible repeat (first | refine blk_drewN ?_ _ | refine blk_drew ?_ | refine blk_alloc ?_ _)); exact BK198.out) hb); have n1_ := Aside0.mk (below_step (by repeat (first | (with_reducible first | exact HB.out | apply below_alloc | apply pw_below_drewN | apply below_drew1 | refine below_set ?_ GE198.out) | exact HB.out)) hb); have n2_ := Aside0.mk (hbox); have n3_ := Aside0.mk ((by rw [hg]; exact (below_size (by repeat (first | (with_reducible first | exact HB.out | apply below_alloc | apply pw_below_drewN | apply below_drew1 | refine below_set ?_ GE198.out) | exact HB.out))) : w.heap.size ≤ gb199)); have n4_ := Aside0.mk ((by rw [hg]; exact (below_size (by repeat (first | (with_reducible first | exact HB.out | apply below_alloc | apply pw_below_drewN | apply below_drew1 | refine below_set ?_ GE198.out) | exact HB.out))) : w.heap.size ≤ gb199)); have n5_ := Aside0.mk ((by rw [hg]; exact Nat.ne_of_lt (blk_lt (g := gb198) (o := .cells #[.string a0_0, .string a0_1, .int .i64 a0_2] 35 (0, 0)) (by (with_reducible repeat (first | refine blk_drewN ?_ _ | refine blk_drew ?_ | refine blk_alloc ?_ _)); exact BK198.out)) : gb198 ≠ gb199)); have n6_ := Aside0.mk ((by rw [hg]; exact Nat.ne_of_gt (blk_lt (g := gb198) (o := .cells #[.string a0_0, .string a0_1, .int .i64 a0_2] 35 (0, 0)) (by (with_reducible repeat (first | refine blk_drewN ?_ _ | refine blk_drew ?_ | refine blk_alloc ?_ _)); exact BK198.out)) : gb199 ≠ gb198)); clear BK198; clear HB; have BK198 := n0_; have HB := n1_; have BK199 := n2_; have GW199 := n3_; have GE199 := n4_; have NB198_199 := n5_; have NB199_198 := n6_; clear n0_ n1_ n2_ n3_ n4_ n5_ n6_; clear hb hbox hg; have hnb15 := NB198_199.out; have hnc15 := NB199_198.out; have hcz16_0 : w14.cell? ⟨gb198, 0, none⟩ = some (.string a0_0) := (blk_cell BK198.out 0).trans rfl; have hcz16_1 : w14.cell? ⟨gb198, 1, none⟩ = some (.string a0_1) := (blk_cell BK198.out 1).trans rfl; have hcz16_2 : w14.cell? ⟨gb198, 2, none⟩ = some (.int .i64 a0_2) := (blk_cell BK198.out 2).trans rfl; have hfz16_0 := blk_frozen BK198.out 0; have hfz16_1 := blk_frozen BK198.out 1; have hfz16_2 := blk_frozen BK198.out 2; have hcz17_0 : w14.cell? ⟨gb199, 0, none⟩ = some (.string a1_0) := (blk_cell BK199.out 0).trans rfl; have hcz17_1 : w14.cell? ⟨gb199, 1, none⟩ = some (.string a1_1) := (blk_cell BK199.out 1).trans rfl; have hcz17_2 : w14.cell? ⟨gb199, 2, none⟩ = some (.int .i64 a1_2) := (blk_cell BK199.out 2).trans rfl; have hfz17_0 := blk_frozen BK199.out 0; have hfz17_1 := blk_frozen BK199.out 1; have hfz17_2 := blk_frozen BK199.out 2) | ((with_reducible refine gate_callee (f := 41) rfl ?_); refine goesL_ _ rfl rfl Try.func41 (by kernel_rfl) rfl #[.string a0_0, .string a1_0] rfl (by (try simp only [List.map_toArray, List.map_cons, List.map_nil]); first | done | rfl | (simp only [List.length_drop, List.length_take]; rfl)) ?_; (with_reducible refine (collatorref01_Compare.calls k a0_0 a1_0 t201 _ A12.out).mono ?_); rintro e w18 ⟨rfl, hb⟩; refine ⟨_, rfl, ?_⟩; have n0_ := Aside0.mk (blk_below (g := gb198) (o := .cells #[.string a0_0, .string a0_1, .int .i64 a0_2] 35 (0, 0)) (by (with_reducible repeat (first | refine blk_drewN ?_ _ | refine blk_drew ?_ | refine blk_alloc ?_ _)); exact BK198.out) hb); have n1_ := Aside0.mk (blk_below (g := gb199) (o := .cells #[.string a1_0, .string a1_1, .int .i64 a1_2] 35 (0, 0)) (by (with_reducible repeat (first | refine blk_drewN ?_ _ | refine blk_drew ?_ | refine blk_alloc ?_ _)); exact BK199.out) hb); have n2_ := Aside0.mk (below_step (by repeat (first | (with_reducible first | exact HB.out | apply below_alloc | apply pw_below_drewN | apply below_drew1 | refine below_set ?_ GE198.out | refine below_set ?_ GE199.out) | exact HB.out)) hb); clear BK198; clear BK199; clear HB; have BK198 := n0_; have BK199 := n1_; have HB := n2_; clear n0_ n1_ n2_; (try clear hb); (try clear hb2); (try clear hk); (try clear hi)))
   go_ret
   exact ⟨by first | rfl | (simp [errW_none, errW_some] <;> rfl) | (simp [*, errW_none, errW_some] <;> rfl), by repeat (first | (with_reducible first | exact HB.out | apply below_alloc | apply pw_below_drewN | apply below_drew1 | refine below_set ?_ GE198.out | refine below_set ?_ GE199.out) | exact HB.out)⟩
 ·rw [if_neg c3] at H
  have c3b0 : (a0_2 == a1_2) = false := beq_eq_false_iff_ne.mpr c3
  have c3b1 : (a0_2 != a1_2) = true := bne_iff_ne.mpr c3
  obtain rfl := Option.some.inj H
  go_enter Try.func22, Try.ntmps22
  go_wp2_with (first | ((with_reducible refine gate_dst (N := 2) rfl ?_); refine box_event ?hg (N := 2) ?hd (cs := #[.string a0_0, .string a0_1, .int .i64 a0_2]) (t := 35) ?hr ?_; (case hd => rfl); (case hg => rfl); (case hr => first | (go_simp; done) | (go_simp; rfl)); intro gb198 hg w19 hbox hb; have n0_ := Aside0.mk (below_step (by repeat (first | (with_reducible first | exact HB.out | apply below_alloc | apply pw_below_drewN | apply below_drew1) | exact HB.out)) hb); have n1_ := Aside0.mk (hbox); have n2_ := Aside0.mk ((by rw [hg]; exact (below_size (by repeat (first | (with_reducible first | exact HB.out | apply below_alloc | apply pw_below_drewN | apply below_drew1) | exact HB.out))) : w.heap.size ≤ gb198)); have n3_ := Aside0.mk ((by rw [hg]; exact (below_size (by repeat (first | (with_reducible first | exact HB.out | apply below_alloc | apply pw_below_drewN | apply below_drew1) | exact HB.out))) : w.heap.size ≤ gb198)); clear HB; have HB := n0_; have BK198 := n1_; have GW198 := n2_; have GE198 := n3_; clear n0_ n1_ n2_ n3_; clear hb hbox hg) | ((with_reducible refine gate_dst (N := 3) rfl ?_); refine box_event ?hg (N := 3) ?hd (cs := #[.string a1_0, .string a1_1, .int .i64 a1_2]) (t := 35) ?hr ?_; (case hd => rfl); (case hg => rfl); (case hr => first | (go_simp; done) | (go_simp; rfl)); intro gb199 hg w20 hbox hb; have n0_ := Aside0.mk (blk_below (g := gb198) (o := .cells #[.string a0_0, .string a0_1, .int .i64 a0_2] 35 (0, 0)) (by (with_reducible repeat (first | refine blk_drewN ?_ _ | refine blk_drew ?_ | refine blk_alloc ?_ _)); exact BK198.out) hb); have n1_ := Aside0.mk (below_step (by repeat (first | (with_reducible first | exact HB.out | apply below_alloc | apply pw_below_drewN | apply below_drew1 | refine below_set ?_ GE198.out) | exact HB.out)) hb); have n2_ := Aside0.mk (hbox); have n3_ := Aside0.mk ((by rw [hg]; exact (below_size (by repeat (first | (with_reducible first | exact HB.out | apply below_alloc | apply pw_below_drewN | apply below_drew1 | refine below_set ?_ GE198.out) | exact HB.out))) : w.heap.size ≤ gb199)); have n4_ := Aside0.mk ((by rw [hg]; exact (below_size (by repeat (first | (with_reducible first | exact HB.out | apply below_alloc | apply pw_below_drewN | apply below_drew1 | refine below_set ?_ GE198.out) | exact HB.out))) : w.heap.size ≤ gb199)); have n5_ := Aside0.mk ((by rw [hg]; exact Nat.ne_of_lt (blk_lt (g := gb198) (o := .cells #[.string a0_0, .string a0_1, .int .i64 a0_2] 35 (0, 0)) (by (with_reducible repeat (first | refine blk_drewN ?_ _ | refine blk_drew ?_ | refine blk_alloc ?_ _)); exact BK198.out)) : gb198 ≠ gb199)); have n6_ := Aside0.mk ((by rw [hg]; exact Nat.ne_of_gt (blk_lt (g := gb198) (o := .cells #[.string a0_0, .string a0_1, .int .i64 a0_2] 35 (0, 0)) (by (with_reducible repeat (first | refine blk_drewN ?_ _ | refine blk_drew ?_ | refine blk_alloc ?_ _)); exact BK198.out)) : gb199 ≠ gb198)); clear BK198; clear HB; have BK198 := n0_; have HB := n1_; have BK199 := n2_; have GW199 := n3_; have GE199 := n4_; have NB198_199 := n5_; have NB199_198 := n6_; clear n0_ n1_ n2_ n3_ n4_ n5_ n6_; clear hb hbox hg; have hnb21 := NB198_199.out; have hnc21 := NB199_198.out; have hcz22_0 : w20.cell? ⟨gb198, 0, none⟩ = some (.string a0_0) := (blk_cell BK198.out 0).trans rfl; have hcz22_1 : w20.cell? ⟨gb198, 1, none⟩ = some (.string a0_1) := (blk_cell BK198.out 1).trans rfl; have hcz22_2 : w20.cell? ⟨gb198, 2, none⟩ = some (.int .i64 a0_2) := (blk_cell BK198.out 2).trans rfl; have hfz22_0 := blk_frozen BK198.out 0; have hfz22_1 := blk_frozen BK198.out 1; have hfz22_2 := blk_frozen BK198.out 2; have hcz23_0 : w20.cell? ⟨gb199, 0, none⟩ = some (.string a1_0) := (blk_cell BK199.out 0).trans rfl; have hcz23_1 : w20.cell? ⟨gb199, 1, none⟩ = some (.string a1_1) := (blk_cell BK199.out 1).trans rfl; have hcz23_2 : w20.cell? ⟨gb199, 2, none⟩ = some (.int .i64 a1_2) := (blk_cell BK199.out 2).trans rfl; have hfz23_0 := blk_frozen BK199.out 0; have hfz23_1 := blk_frozen BK199.out 1; have hfz23_2 := blk_frozen BK199.out 2))
  go_ret
  exact ⟨by first | rfl | (simp [errW_none, errW_some] <;> rfl) | (simp [*, errW_none, errW_some] <;> rfl), by repeat (first | (with_reducible first | exact HB.out | apply below_alloc | apply pw_below_drewN | apply below_drew1 | refine below_set ?_ GE198.out | refine below_set ?_ GE199.out) | exact HB.out)⟩

end Go.Proofs.Ytcgnkbdfoaiaiaa.P
end
section
/- What the document's own functions of layers 3, 7 and 8 answer: plain. -/
set_option linter.unusedVariables false
set_option linter.unusedSimpArgs false
namespace Go.Proofs.Ytcgnkbdfoaiaiaa.Q
open Go Go.RowKit Go.Proofs.Ytcgnkbdfoaiaiaa.P Go.Proofs.YtcgnkbdfoaiaiaaW.PrintWords Go.Proofs.YtcgnkbdfoaiaiaaW.PrintLast Go.Proofs.YtcgnkbdfoaiaiaaW.PrintMore
/-! ### Score -/
theorem rd_at (l : List ByteArray) (i : Nat) (h : i < l.length) : rdOf ByteArray.empty l (i : Int) = l[i] := by
  simp [rdOf, List.getD_eq_getElem?_getD, List.getElem?_eq_getElem h]
theorem wj {i : Nat} (h : i ≤ 4000000000) : wrap64 ((i : Int) + 1) = ((i + 1 : Nat) : Int) := by rw [w64 (by omega) (by omega)]; omega
theorem rcount_loop (l : List ByteArray) (s : ByteArray) (hl : l.length ≤ 2000000) (d : Nat) : ∀ (i : Nat), i + d = l.length → Ev (fun k => collatorref07_count.l0 k l s (((l.take i).count s : Nat) : Int) (i : Int)) ((l.count s : Nat) : Int) := by
  induction d with
  | zero =>
    intro i hi
    rw [List.take_of_length_le (by omega)]
    refine Ev.step (f := fun _ => some ((l.count s : Nat) : Int)) (fun k => ?_) (Ev.now _)
    simp only [collatorref07_count.l0]; rw [if_neg (by omega)]
  | succ d ih =>
    intro i hi
    have hlt : i < l.length := by omega
    have hle : (l.take i).count s ≤ i := Nat.le_trans List.count_le_length (by rw [List.length_take]; omega)
    have hn := ih (i + 1) (by omega)
    rw [List.take_succ_eq_append_getElem hlt, List.count_append] at hn
    by_cases c : l[i] = s
    · have e : [l[i]].count s = 1 := by rw [c]; simp
      rw [e] at hn
      refine Ev.step (fun k => ?_) hn
      simp only [collatorref07_count.l0]
      rw [if_pos (by omega), if_pos (by omega), rd_at l i hlt, if_pos (by rw [c]), wj (by omega), wj (by omega)]
    · have e : [l[i]].count s = 0 := by simp [c]
      rw [e, Nat.add_zero] at hn
      refine Ev.step (fun k => ?_) hn
      simp only [collatorref07_count.l0]
      rw [if_pos (by omega), if_pos (by omega), rd_at l i hlt, if_neg (fun h => c (toList_eq_iff.1 h)), wj (by omega)]
theorem rcount_ev (l : List ByteArray) (s : ByteArray) (hl : l.length ≤ 2000000) : Ev (fun k => collatorref07_count.f k l s) ((l.count s : Nat) : Int) := rcount_loop l s hl l.length 0 (by omega)
theorem comm_snoc_ (a b : List ByteArray) (y : ByteArray) : comm (a ++ [y]) b = comm a b + if a.count y < b.count y then 1 else 0 := by
  rw [comm_perm_left b (List.perm_append_singleton y a), comm_cons_left]
theorem rcommon_loop (a b : List ByteArray) (ha : a.length ≤ 2000000) (hb : b.length ≤ 2000000) (d : Nat) : ∀ (i : Nat), i + d = a.length → Ev (fun k => collatorref07_Common.l0 k a b ((comm (a.take i) b : Nat) : Int) (i : Int)) ((comm a b : Nat) : Int) := by
  induction d with
  | zero =>
    intro i hi
    rw [List.take_of_length_le (by omega)]
    refine Ev.step (f := fun _ => some ((comm a b : Nat) : Int)) (fun k => ?_) (Ev.now _)
    simp only [collatorref07_Common.l0]; rw [if_neg (by omega)]
  | succ d ih =>
    intro i hi
    have hlt : i < a.length := by omega
    have hle := comm_le b (a.take i)
    have hn := ih (i + 1) (by omega)
    rw [List.take_succ_eq_append_getElem hlt, comm_snoc_] at hn
    have c1 := rcount_ev (a.take i) a[i] (by rw [List.length_take]; omega)
    have c2 := rcount_ev b a[i] hb
    refine Ev.step (f := fun k => (collatorref07_count.f k (a.take i) a[i]).bind fun t139 => (collatorref07_count.f k b a[i]).bind fun t141 => if t139 < t141 then collatorref07_Common.l0 k a b ((comm (a.take i) b + 1 : Nat) : Int) ((i + 1 : Nat) : Int) else collatorref07_Common.l0 k a b ((comm (a.take i) b : Nat) : Int) ((i + 1 : Nat) : Int)) (fun k => ?_) (Ev.bind c1 (Ev.bind c2 ?_))
    · simp only [collatorref07_Common.l0]
      rw [if_pos (by omega), if_pos (by omega), if_pos (by omega), rd_at a i hlt, wj (by omega), wj (by omega), Int.toNat_natCast]
    · by_cases c : (a.take i).count a[i] < b.count a[i]
      · rw [if_pos c] at hn
        exact evpos (by omega) hn
      · rw [if_neg c, Nat.add_zero] at hn
        exact evneg (by omega) hn
theorem rcommon_ev (a b : List ByteArray) (ha : a.length ≤ 2000000) (hb : b.length ≤ 2000000) : Ev (fun k => collatorref07_Common.f k a b) ((comm a b : Nat) : Int) := by
  have h := rcommon_loop a b ha hb a.length 0 (by omega)
  rw [List.take_zero, comm_nil_left] at h
  exact h
theorem rscore_ev (a b : List ByteArray) (ha : a.length ≤ 2000000) (hb : b.length ≤ 2000000) : Ev (fun k => collatorref07_Score.f k a b) (score a b) := by
  have h3 := comm_le b a
  have hr := score_range a b
  have hc := rcommon_ev a b ha hb
  have fin : ¬ a.length + b.length = 0 → Ev (fun k => (collatorref07_Common.f k a b).bind fun t142 => (if (wrap64 ((a.length : Int) + (b.length : Int))) = 0 then (none) else (some (wrap64 (Int.tdiv (wrap64 (200 * t142)) (wrap64 ((a.length : Int) + (b.length : Int)))))))) (score a b) := by
    intro h
    refine Ev.bind hc ?_
    unfold score at hr ⊢
    rw [if_neg h] at hr ⊢
    have h5 : (a.length : Int) + (b.length : Int) = ((a.length + b.length : Nat) : Int) := by omega
    have e1 : wrap64 ((a.length : Int) + (b.length : Int)) = ((a.length + b.length : Nat) : Int) := by rw [w64 (by omega) (by omega), h5]
    refine evneg (by rw [e1]; omega) ?_
    rw [e1, w64 (x := 200 * (comm a b : Int)) (by omega) (by omega), Int.tdiv_eq_ediv_of_nonneg (by omega), w64 (by omega) (by omega)]
    exact Ev.now _
  unfold collatorref07_Score.f
  by_cases c1 : (a.length : Int) = 0
  · refine evpos c1 ?_
    by_cases c2 : (b.length : Int) = 0
    · have e : score a b = 100 := by unfold score; rw [if_pos (by omega)]
      rw [e]
      exact evpos c2 (Ev.now _)
    · exact evneg c2 (fin (by omega))
  · exact evneg c1 (fin (by omega))
/-! ### Split -/
theorem lnL_none : ∀ (p : List UInt8), (∀ c ∈ p, c ≠ 10) → lnL p = if p = [] then [] else [p]
  | [], _ => rfl
  | c :: cs, h => by
    have ih := lnL_none cs (fun x hx => h x (List.mem_cons_of_mem _ hx))
    rw [lnL_cons, if_neg (h c List.mem_cons_self), ih]
    by_cases e : cs = []
    · subst e; rfl
    · simp [e]
theorem lnL_cut : ∀ (p q : List UInt8), (∀ c ∈ p, c ≠ 10) → lnL (p ++ 10 :: q) = (p ++ [10]) :: lnL q
  | [], q, _ => by rw [List.nil_append, lnL_cons, if_pos rfl, List.nil_append]
  | c :: cs, q, h => by
    have ih := lnL_cut cs q (fun x hx => h x (List.mem_cons_of_mem _ hx))
    rw [List.cons_append, lnL_cons, if_neg (h c List.mem_cons_self), ih]
    rfl
theorem cut_bts (s : ByteArray) (a b : Nat) : s.extract a b = bts (((tl s).drop a).take (b - a)) := bts_extract s a b
theorem rsplit3_loop (s : ByteArray) (hs : s.size ≤ 3000000) (d : Nat) : ∀ (i from_ : Nat) (acc : List ByteArray), i + d = s.size → from_ ≤ i → acc.length ≤ i → (∀ c ∈ ((tl s).drop from_).take (i - from_), c ≠ 10) →
    Ev (fun k => collatorref03_Split.l0 k s acc (from_ : Int) (i : Int)) (acc ++ (lnL ((tl s).drop from_)).map bts) := by
  induction d with
  | zero =>
    intro i from_ acc hi hf ha hc
    have hl : ((tl s).drop from_).length = i - from_ := by rw [List.length_drop, tl_size]; omega
    rw [List.take_of_length_le (by omega)] at hc
    rw [lnL_none _ hc]
    by_cases c : from_ < s.size
    · rw [if_neg (fun e => by rw [e] at hl; simp at hl; omega)]
      refine Ev.step (f := fun _ => some (acc ++ [s.extract from_ s.size])) (fun k => ?_) ?_
      · simp only [collatorref03_Split.l0]
        rw [if_neg (by omega), if_pos (by omega), if_pos (by omega), if_pos (by omega), if_pos (by omega), Int.toNat_natCast]
      · have e : s.extract from_ s.size = bts ((tl s).drop from_) := by rw [cut_bts, List.take_of_length_le (by omega)]
        rw [e]
        exact Ev.now _
    · rw [if_pos (List.eq_nil_of_length_eq_zero (by omega)), List.map_nil, List.append_nil]
      refine Ev.step (f := fun _ => some acc) (fun k => ?_) (Ev.now _)
      simp only [collatorref03_Split.l0]
      rw [if_neg (by omega), if_neg (by omega)]
  | succ d ih =>
    intro i from_ acc hi hf ha hc
    have hlt : i < (tl s).length := by rw [tl_size]; omega
    obtain ⟨c, hg⟩ : ∃ c, (tl s)[i]? = some c := ⟨_, List.getElem?_eq_getElem hlt⟩
    have hb := bt_tl hg
    have hdr : (tl s).drop i = c :: (tl s).drop (i + 1) := by
      rw [List.drop_eq_getElem_cons hlt]
      rw [List.getElem?_eq_getElem hlt] at hg
      rw [Option.some.inj hg]
    have hsp : (tl s).drop from_ = ((tl s).drop from_).take (i - from_) ++ c :: (tl s).drop (i + 1) := by
      rw [← hdr]
      have h := (List.take_append_drop (i - from_) ((tl s).drop from_)).symm
      rw [List.drop_drop, show from_ + (i - from_) = i by omega] at h
      exact h
    have htk : ((tl s).drop from_).take (i + 1 - from_) = ((tl s).drop from_).take (i - from_) ++ [c] := by
      rw [show i + 1 - from_ = (i - from_) + 1 by omega, List.take_add_one, List.getElem?_drop, show from_ + (i - from_) = i by omega, hg]
      rfl
    by_cases c10 : c = 10
    · subst c10
      have hn := ih (i + 1) (i + 1) (acc ++ [s.extract from_ (i + 1)]) (by omega) (Nat.le_refl _) (by rw [List.length_append, List.length_singleton]; omega) (fun x hx => by simp at hx)
      have e : acc ++ (lnL ((tl s).drop from_)).map bts = acc ++ [s.extract from_ (i + 1)] ++ (lnL ((tl s).drop (i + 1))).map bts := by
        rw [hsp, lnL_cut _ _ hc, List.map_cons, cut_bts, htk, List.append_assoc, List.singleton_append]
      rw [e]
      refine Ev.step (fun k => ?_) hn
      simp only [collatorref03_Split.l0]
      rw [if_pos (by omega), if_pos (by omega), hb, if_pos (by decide), if_pos (by omega), wi (by omega), if_pos (by omega), if_pos (by omega), if_pos (by omega), Int.toNat_natCast, Int.toNat_natCast]
    · have hn := ih (i + 1) from_ acc (by omega) (by omega) (by omega) (fun x hx => by
        rw [htk] at hx
        rcases List.mem_append.1 hx with hx | hx
        · exact hc x hx
        · rw [List.mem_singleton.1 hx]; exact c10)
      refine Ev.step (fun k => ?_) hn
      simp only [collatorref03_Split.l0]
      rw [if_pos (by omega), if_pos (by omega), hb, if_neg (fun h => c10 (by
        have h2 : c.toNat = 10 := by omega
        exact UInt8.toNat_inj.1 h2)), wi (by omega)]
theorem rsplit3_ev (s : ByteArray) (hs : s.size ≤ 3000000) : Ev (fun k => collatorref03_Split.f k s) (lines s) := by
  have h := rsplit3_loop s hs s.size 0 0 [] (by omega) (Nat.le_refl _) (Nat.le_refl _) (fun c hc => by simp at hc)
  rw [List.nil_append, List.drop_zero] at h
  exact h
/-! ### files -/
theorem rfind_loop (t : List It) (p : ByteArray) (ht : t.length ≤ 100000) (d : Nat) : ∀ i : Nat, i + d = t.length → ∃ r, Ev (fun k => collatorref02_Find.l0 k t p (i : Int)) r ∧ (r.2.2.2.2 = true ↔ p ∈ (t.drop i).map (·.f0)) := by
  induction d with
  | zero =>
    intro i hi
    refine ⟨((⟨#[]⟩ : ByteArray), 0, (⟨#[]⟩ : ByteArray), false, false), Ev.step (f := fun _ => some ((⟨#[]⟩ : ByteArray), 0, (⟨#[]⟩ : ByteArray), false, false)) (fun k => ?_) (Ev.now _), ?_⟩
    · simp only [collatorref02_Find.l0]
      rw [if_neg (by omega)]
    · rw [List.drop_eq_nil_of_le (by omega)]; simp
  | succ d ih =>
    intro i hi
    have hlt : i < t.length := by omega
    have hg : t[i]? = some t[i] := List.getElem?_eq_getElem hlt
    rw [List.drop_eq_getElem_cons hlt]
    by_cases c : t[i].f0 = p
    · refine ⟨(t[i].f0, t[i].f1, t[i].f2, t[i].f3, true), Ev.step (f := fun _ => some (t[i].f0, t[i].f1, t[i].f2, t[i].f3, true)) (fun k => ?_) (Ev.now _), ⟨fun _ => by rw [List.map_cons, c]; exact List.mem_cons_self, fun _ => rfl⟩⟩
      simp only [collatorref02_Find.l0]
      rw [if_pos (by omega), if_pos (by omega), rdIt hg, if_pos (by rw [c])]
    · obtain ⟨r, h, hr⟩ := ih (i + 1) (by omega)
      refine ⟨r, Ev.step (fun k => ?_) h, ?_⟩
      · simp only [collatorref02_Find.l0]
        rw [if_pos (by omega), if_pos (by omega), rdIt hg, if_neg (fun h => c (toList_eq_iff.1 h)), wi (by omega)]
      · rw [hr, List.map_cons, List.mem_cons]
        exact ⟨fun h => .inr h, fun h => h.resolve_left (fun e => c e.symm)⟩
theorem rfind_ev (t : List It) (p : ByteArray) (ht : t.length ≤ 100000) : ∃ r, Ev (fun k => collatorref02_Find.f k t p) r ∧ (r.2.2.2.2 = true ↔ p ∈ t.map (·.f0)) := by
  have h := rfind_loop t p ht t.length 0 (by omega)
  rw [List.drop_zero] at h
  exact h
/-- What is kept of items: the first file of each path. -/
def kstep (st : List It) (x : It) : List It := if x.f1 = 2 ∧ x.f0 ∉ st.map (·.f0) then st ++ [x] else st
def keptL (l : List It) : List It := l.foldl kstep []
theorem rfiles_loop (l : List It) (hl : l.length ≤ 1000) (d : Nat) : ∀ (i : Nat) (acc : List It), i + d = l.length → acc.length ≤ i → Ev (fun k => collatorref08_files.l0 k l acc (i : Int)) ((l.drop i).foldl kstep acc) := by
  induction d with
  | zero =>
    intro i acc hi ha
    rw [List.drop_eq_nil_of_le (by omega)]
    refine Ev.step (f := fun _ => some acc) (fun k => ?_) (Ev.now _)
    simp only [collatorref08_files.l0]
    rw [if_neg (by omega)]
  | succ d ih =>
    intro i acc hi ha
    have hlt : i < l.length := by omega
    have hg : l[i]? = some l[i] := List.getElem?_eq_getElem hlt
    obtain ⟨r, hf, hr⟩ := rfind_ev acc l[i].f0 (by omega)
    rw [List.drop_eq_getElem_cons hlt, List.foldl_cons]
    have h0 : ∀ k, collatorref08_files.l0 (k + 1) l acc (i : Int) = (collatorref02_Find.f k acc l[i].f0).bind fun bt134 => (if l[i].f1 = 2 then (if bt134.2.2.2.2 = true then (collatorref08_files.l0 k l acc ((i + 1 : Nat) : Int)) else (collatorref08_files.l0 k l (acc ++ [l[i]]) ((i + 1 : Nat) : Int))) else (collatorref08_files.l0 k l acc ((i + 1 : Nat) : Int))) := by
      intro k
      simp only [collatorref08_files.l0]
      rw [if_pos (by omega), if_pos (by omega), rdIt hg, wi (by omega), if_pos (show acc.length < 2932031007402 by omega)]
    by_cases c1 : l[i].f1 = 2
    · by_cases c2 : l[i].f0 ∈ acc.map (·.f0)
      · have e : kstep acc l[i] = acc := by unfold kstep; rw [if_neg (fun h => h.2 c2)]
        rw [e]
        exact Ev.step h0 (Ev.bind hf (evpos c1 (evpos (hr.2 c2) (ih (i + 1) acc (by omega) (by omega)))))
      · have e : kstep acc l[i] = acc ++ [l[i]] := by unfold kstep; rw [if_pos ⟨c1, c2⟩]
        rw [e]
        exact Ev.step h0 (Ev.bind hf (evpos c1 (evneg (fun h => c2 (hr.1 h)) (ih (i + 1) _ (by omega) (by rw [List.length_append, List.length_singleton]; omega)))))
    · have e : kstep acc l[i] = acc := by unfold kstep; rw [if_neg (fun h => c1 h.1)]
      rw [e]
      exact Ev.step h0 (Ev.bind hf (evneg c1 (ih (i + 1) acc (by omega) (by omega))))
theorem rfiles_ev (l : List It) (hl : l.length ≤ 1000) : Ev (fun k => collatorref08_files.f k l) (keptL l) := rfiles_loop l hl l.length 0 [] (by omega) (Nat.le_refl _)
/-- A file's path, and its lines. -/
def pl (x : It) : Fi := (x.f0, lines x.f2)
theorem kept_gen : ∀ (l acc : List It) (S : List ByteArray), (∀ p, p ∈ S ↔ p ∈ acc.map (·.f0)) → (l.foldl stepF (S, acc.map pl)).2 = (l.foldl kstep acc).map pl
  | [], _, _, _ => rfl
  | x :: l, acc, S, h => by
    rw [List.foldl_cons, List.foldl_cons]
    unfold stepF kstep
    by_cases c : x.f1 = 2 ∧ x.f0 ∉ acc.map (·.f0)
    · rw [if_pos c, if_pos ⟨c.1, fun hx => c.2 ((h _).1 hx)⟩]
      have e : acc.map pl ++ [(x.f0, lines x.f2)] = (acc ++ [x]).map pl := by rw [List.map_append]; rfl
      show (List.foldl stepF (x.f0 :: S, acc.map pl ++ [(x.f0, lines x.f2)]) l).2 = _
      rw [e]
      exact kept_gen l (acc ++ [x]) (x.f0 :: S) (fun p => by simp [h p, or_comm])
    · rw [if_neg c, if_neg (fun hx => c ⟨hx.1, fun hy => hx.2 ((h _).2 hy)⟩)]
      exact kept_gen l acc S h
theorem kept_files (l : List It) : filesL l = (keptL l).map pl := kept_gen l [] [] (fun p => by simp)
theorem kept_mem : ∀ (l acc : List It), (∀ x ∈ l.foldl kstep acc, x ∈ acc ∨ x ∈ l) ∧ (l.foldl kstep acc).length ≤ acc.length + l.length
  | [], acc => ⟨fun x hx => .inl hx, Nat.le_refl _⟩
  | y :: l, acc => by
    rw [List.foldl_cons]
    obtain ⟨h1, h2⟩ := kept_mem l (kstep acc y)
    have h3 : (kstep acc y).length ≤ acc.length + 1 := by unfold kstep; split <;> simp
    refine ⟨fun x hx => ?_, by rw [List.length_cons]; omega⟩
    rcases h1 x hx with h | h
    · unfold kstep at h
      split at h
      · rcases List.mem_append.1 h with h | h
        · exact .inl h
        · exact .inr (by rw [List.mem_singleton.1 h]; exact List.mem_cons_self)
      · exact .inl h
    · exact .inr (List.mem_cons_of_mem _ h)
/-! ### Candidates -/
theorem mx_iff (t s : Int) : mx t 1 ≤ s ↔ 1 ≤ s ∧ t ≤ s := by
  unfold mx
  (repeat' split) <;> omega
theorem cand1_step (a : Fi) (l : List Fi) (b : Fi) (t : Int) : cand1 a (l ++ [b]) t = cand1 a l t ++ (if mx t 1 ≤ score a.2 b.2 then [⟨a.1, b.1, score a.2 b.2⟩] else []) := by
  unfold cand1
  rw [List.filterMap_append]
  congr 1
  split <;> rename_i h <;> simp [h]
theorem rcand_inner (X Y : List It) (t : Int) (hX : X.length ≤ 1000) (hY : Y.length ≤ 1000) (sX : ∀ x ∈ X, x.f2.size ≤ 1500000) (sY : ∀ x ∈ Y, x.f2.size ≤ 1500000) (i : Nat) (hi : i < X.length) (R : List PrS)
    (next : ∀ acc : List PrS, acc.length ≤ (i + 1) * 1000 → acc = candL ((X.take (i + 1)).map pl) (Y.map pl) t → Ev (fun k => collatorref08_Candidates.l0 k t X Y acc ((i + 1 : Nat) : Int)) R) (d : Nat) :
    ∀ (j : Nat) (acc : List PrS), j + d = Y.length → acc.length ≤ i * 1000 + j → acc = candL ((X.take i).map pl) (Y.map pl) t ++ cand1 (pl X[i]) ((Y.take j).map pl) t → Ev (fun k => collatorref08_Candidates.l1 k t X Y acc (i : Int) (j : Int)) R := by
  have hg : X[i]? = some X[i] := List.getElem?_eq_getElem hi
  induction d with
  | zero =>
    intro j acc hj ha hv
    have hn := next acc (by omega) (by
      rw [hv, show Y.take j = Y from List.take_of_length_le (by omega), List.take_succ_eq_append_getElem hi, List.map_append]
      unfold candL
      rw [List.flatMap_append]
      simp)
    refine Ev.step (fun k => ?_) hn
    simp only [collatorref08_Candidates.l1]
    rw [if_neg (by omega), wi (by omega)]
  | succ d ih =>
    intro j acc hj ha hv
    have hlt : j < Y.length := by omega
    have hgj : Y[j]? = some Y[j] := List.getElem?_eq_getElem hlt
    have s1 := sX _ (List.getElem_mem hi)
    have s2 := sY _ (List.getElem_mem hlt)
    have e1 := rsplit3_ev X[i].f2 (by omega)
    have e2 := rsplit3_ev Y[j].f2 (by omega)
    have b1 := lines_length_le X[i].f2
    have b2 := lines_length_le Y[j].f2
    have e3 := rscore_ev (lines X[i].f2) (lines Y[j].f2) (by omega) (by omega)
    have h0 : ∀ k, collatorref08_Candidates.l1 (k + 1) t X Y acc (i : Int) (j : Int) = (collatorref03_Split.f k X[i].f2).bind fun t166 => (collatorref03_Split.f k Y[j].f2).bind fun t170 => ((collatorref07_Score.f k t166 t170).bind fun t173 => (if t173 ≥ 1 then (if t173 ≥ t then (collatorref08_Candidates.l1 k t X Y (acc ++ [(⟨X[i].f0, Y[j].f0, t173⟩ : PrS)]) (i : Int) ((j + 1 : Nat) : Int)) else (collatorref08_Candidates.l1 k t X Y acc (i : Int) ((j + 1 : Nat) : Int))) else (collatorref08_Candidates.l1 k t X Y acc (i : Int) ((j + 1 : Nat) : Int)))) := by
      intro k
      simp only [collatorref08_Candidates.l1]
      rw [if_pos (by omega), if_pos (by omega), if_pos (by omega), rdIt hg, rdIt hgj, wi (by omega)]
      simp only [show (0 ≤ (j : Int)) = True from eq_true (by omega), show (acc.length < 3518437208883) = True from eq_true (by omega), if_true]
    have hs := cand1_step (pl X[i]) ((Y.take j).map pl) (pl Y[j]) t
    have hmap : ((Y.take (j + 1)).map pl) = (Y.take j).map pl ++ [pl Y[j]] := by rw [List.take_succ_eq_append_getElem hlt, List.map_append]; rfl
    by_cases c : mx t 1 ≤ score (lines X[i].f2) (lines Y[j].f2)
    · obtain ⟨c1, c2⟩ := (mx_iff _ _).1 c
      have hn := ih (j + 1) (acc ++ [(⟨X[i].f0, Y[j].f0, score (lines X[i].f2) (lines Y[j].f2)⟩ : PrS)]) (by omega) (by rw [List.length_append, List.length_singleton]; omega) (by
        rw [hmap, hs, if_pos (show mx t 1 ≤ score (pl X[i]).2 (pl Y[j]).2 from c), hv, List.append_assoc]; rfl)
      exact Ev.step h0 (Ev.bind e1 (Ev.bind e2 (Ev.bind e3 (evpos c1 (evpos c2 hn)))))
    · have hn := ih (j + 1) acc (by omega) (by omega) (by
        rw [hmap, hs, if_neg (show ¬ mx t 1 ≤ score (pl X[i]).2 (pl Y[j]).2 from c), List.append_nil]; exact hv)
      by_cases c1 : score (lines X[i].f2) (lines Y[j].f2) ≥ 1
      · exact Ev.step h0 (Ev.bind e1 (Ev.bind e2 (Ev.bind e3 (evpos c1 (evneg (fun c2 => c ((mx_iff _ _).2 ⟨c1, c2⟩)) hn)))))
      · exact Ev.step h0 (Ev.bind e1 (Ev.bind e2 (Ev.bind e3 (evneg c1 hn))))
theorem rcand_outer (X Y : List It) (t : Int) (hX : X.length ≤ 1000) (hY : Y.length ≤ 1000) (sX : ∀ x ∈ X, x.f2.size ≤ 1500000) (sY : ∀ x ∈ Y, x.f2.size ≤ 1500000) (d : Nat) :
    ∀ (i : Nat) (acc : List PrS), i + d = X.length → acc.length ≤ i * 1000 → acc = candL ((X.take i).map pl) (Y.map pl) t → Ev (fun k => collatorref08_Candidates.l0 k t X Y acc (i : Int)) (candL (X.map pl) (Y.map pl) t) := by
  induction d with
  | zero =>
    intro i acc hi ha hv
    rw [List.take_of_length_le (by omega)] at hv
    rw [← hv]
    refine Ev.step (f := fun _ => some acc) (fun k => ?_) (Ev.now _)
    simp only [collatorref08_Candidates.l0]
    rw [if_neg (by omega)]
  | succ d ih =>
    intro i acc hi ha hv
    refine Ev.step (fun k => ?_) (rcand_inner X Y t hX hY sX sY i (by omega) _ (fun acc' h1 h2 => ih (i + 1) acc' (by omega) h1 h2) Y.length 0 acc (Nat.zero_add _) (Nat.le_trans ha (Nat.le_add_right _ _)) (by rw [hv, show (Y.take 0).map pl = [] from rfl]; exact (List.append_nil _).symm))
    simp only [collatorref08_Candidates.l0]
    rw [if_pos (by omega)]
    rfl
theorem rcand_ev (a b : List It) (t : Int) (ha : a.length ≤ 1000) (hb : b.length ≤ 1000) (sa : ∀ x ∈ a, x.f2.size ≤ 1500000) (sb : ∀ x ∈ b, x.f2.size ≤ 1500000) : Ev (fun k => collatorref08_Candidates.f k a b t) (candL (filesL a) (filesL b) t) := by
  obtain ⟨m1, n1⟩ := kept_mem a []
  obtain ⟨m2, n2⟩ := kept_mem b []
  rw [kept_files, kept_files]
  unfold collatorref08_Candidates.f
  refine Ev.bind (rfiles_ev a ha) (Ev.bind (rfiles_ev b hb) (rcand_outer (keptL a) (keptL b) t ?_ ?_ ?_ ?_ (keptL a).length 0 [] (by omega) (Nat.le_refl _) rfl))
  · unfold keptL; simp at n1; omega
  · unfold keptL; simp at n2; omega
  · exact fun x hx => sa x ((m1 x hx).resolve_left (by simp))
  · exact fun x hx => sb x ((m2 x hx).resolve_left (by simp))
/-! ### touches, Better -/
def Touch (l : List PrS) (p : PrS) : Prop := ∃ x ∈ l, x.f0 = p.f0 ∨ x.f1 = p.f1
theorem rtouch_loop (l : List PrS) (p : PrS) (hl : l.length ≤ 1000000) (d : Nat) : ∀ i : Nat, i + d = l.length → ∃ r, Ev (fun k => collatorref08_touches.l0 k l (i : Int) p.f0 p.f1 p.f2) r ∧ (r = true ↔ Touch (l.drop i) p) := by
  induction d with
  | zero =>
    intro i hi
    refine ⟨false, Ev.step (f := fun _ => some false) (fun k => ?_) (Ev.now _), ?_⟩
    · simp only [collatorref08_touches.l0]
      rw [if_neg (by omega)]
    · rw [List.drop_eq_nil_of_le (by omega)]; simp [Touch]
  | succ d ih =>
    intro i hi
    have hlt : i < l.length := by omega
    have hg : l[i]? = some l[i] := List.getElem?_eq_getElem hlt
    rw [List.drop_eq_getElem_cons hlt]
    by_cases c0 : l[i].f0 = p.f0
    · refine ⟨true, Ev.step (f := fun _ => some true) (fun k => ?_) (Ev.now _), ⟨fun _ => ⟨_, List.mem_cons_self, .inl c0⟩, fun _ => rfl⟩⟩
      simp only [collatorref08_touches.l0]
      rw [if_pos (by omega), if_pos (by omega), rdPr hg, if_pos (by rw [c0])]
    · by_cases c1 : l[i].f1 = p.f1
      · refine ⟨true, Ev.step (f := fun _ => some true) (fun k => ?_) (Ev.now _), ⟨fun _ => ⟨_, List.mem_cons_self, .inr c1⟩, fun _ => rfl⟩⟩
        simp only [collatorref08_touches.l0]
        rw [if_pos (by omega), if_pos (by omega), rdPr hg, if_neg (fun h => c0 (toList_eq_iff.1 h)), if_pos (by rw [c1])]
      · obtain ⟨r, h, hr⟩ := ih (i + 1) (by omega)
        refine ⟨r, Ev.step (fun k => ?_) h, ?_⟩
        · simp only [collatorref08_touches.l0]
          rw [if_pos (by omega), if_pos (by omega), rdPr hg, if_neg (fun h => c0 (toList_eq_iff.1 h)), if_neg (fun h => c1 (toList_eq_iff.1 h)), wi (by omega)]
        · rw [hr]
          refine ⟨fun ⟨x, hx, h⟩ => ⟨x, List.mem_cons_of_mem _ hx, h⟩, fun ⟨x, hx, h⟩ => ?_⟩
          rcases List.mem_cons.1 hx with rfl | hx
          · exact absurd h (by simp [c0, c1])
          · exact ⟨x, hx, h⟩
theorem rtouch_ev (l : List PrS) (p : PrS) (hl : l.length ≤ 1000000) : ∃ r, Ev (fun k => collatorref08_touches.f k l p.f0 p.f1 p.f2) r ∧ (r = true ↔ Touch l p) := by
  have h := rtouch_loop l p hl l.length 0 (by omega)
  rw [List.drop_zero] at h
  exact h
theorem ci_sign (a b : Int) : (ci a b < 0 ↔ a < b) ∧ (ci a b = 0 ↔ a = b) := by
  unfold ci
  split <;> (try split) <;> constructor <;> omega
theorem rbetter_ev (x y : PrS) (hx : x.f0.size ≤ 3000000 ∧ x.f1.size ≤ 3000000) (hy : y.f0.size ≤ 3000000 ∧ y.f1.size ≤ 3000000) : Ev (fun k => collatorref08_Better.f k x.f0 x.f1 x.f2 y.f0 y.f1 y.f2) (decide (cB x y < 0)) := by
  have s := ci_sign y.f2 x.f2
  unfold collatorref08_Better.f
  by_cases c : x.f2 = y.f2
  · have e0 : ci y.f2 x.f2 = 0 := s.2.2 c.symm
    refine evpos c ?_
    by_cases c0 : x.f0 = y.f0
    · have e1 : pcmp (tl x.f0) (tl y.f0) = 0 := (pcmp_zero _ _).2 (by rw [c0])
      have e : cB x y = pcmp (tl x.f1) (tl y.f1) := by unfold cB or3; rw [e0, e1]; simp
      rw [e]
      exact evpos (by rw [c0]) (Ev.bind (rcompare_big x.f1 y.f1 hx.2 hy.2) (Ev.now _))
    · have e1 : pcmp (tl x.f0) (tl y.f0) ≠ 0 := fun h => c0 (tl_inj ((pcmp_zero _ _).1 h))
      have e : cB x y = pcmp (tl x.f0) (tl y.f0) := by unfold cB or3; rw [e0]; simp [e1]
      rw [e]
      exact evneg (fun h => c0 (toList_eq_iff.1 h)) (Ev.bind (rcompare_big x.f0 y.f0 hx.1 hy.1) (Ev.now _))
  · have e0 : ci y.f2 x.f2 ≠ 0 := fun h => c (s.2.1 h).symm
    have e : cB x y = ci y.f2 x.f2 := by unfold cB or3; simp [e0]
    rw [e]
    refine evneg c ?_
    have e2 : decide (ci y.f2 x.f2 < 0) = decide (x.f2 > y.f2) := by
      by_cases h : y.f2 < x.f2
      · rw [decide_eq_true (s.1.2 h), decide_eq_true h]
      · rw [decide_eq_false (fun h1 => h (s.1.1 h1)), decide_eq_false h]
    rw [e2]
    exact Ev.now _
end Go.Proofs.Ytcgnkbdfoaiaiaa.Q
end
section
/- The best one again and again; pairs put one by one: plain. -/
set_option linter.unusedVariables false
set_option linter.unusedSimpArgs false
namespace Go.Proofs.Ytcgnkbdfoaiaiaa.Q
open Go Go.RowKit Go.Proofs.Ytcgnkbdfoaiaiaa.P Go.Proofs.YtcgnkbdfoaiaiaaW.PrintWords Go.Proofs.YtcgnkbdfoaiaiaaW.PrintLast Go.Proofs.YtcgnkbdfoaiaiaaW.PrintMore
/-! ### Put one by one -/
def cP (x y : PrS) : Int := pcmp (tl x.f1) (tl y.f1)
theorem cP_cmp : CmpOk cP := pcmp_cmp (fun x : PrS => x.f1)
theorem posn_spec (p : PrS) (out : List PrS) : ∀ N, N ≤ out.length → (∀ j y, posn p out N ≤ j → j < N → out[j]? = some y → cP p y < 0) ∧ (∀ j y, j + 1 = posn p out N → out[j]? = some y → ¬ cP p y < 0)
  | 0, _ => ⟨fun j y h1 h2 => by omega, fun j y h => by simp [posn] at h⟩
  | N + 1, hN => by
    have hg : out[N]? = some out[N] := List.getElem?_eq_getElem (by omega)
    have hd : out.getD N p = out[N] := by rw [List.getD_eq_getElem?_getD, hg]; rfl
    obtain ⟨h1, h2⟩ := posn_spec p out N (by omega)
    unfold posn
    rw [hd]
    by_cases c : pcmp (tl p.f1) (tl out[N].f1) < 0
    · rw [if_pos c]
      refine ⟨fun j y hj hl hy => ?_, h2⟩
      by_cases e : j = N
      · subst e
        rw [hg] at hy
        rw [← Option.some.inj hy]
        exact c
      · exact h1 j y hj (by omega) hy
    · rw [if_neg c]
      refine ⟨fun j y hj hl => by omega, fun j y hj hy => ?_⟩
      obtain rfl : j = N := by omega
      rw [hg] at hy
      rw [← Option.some.inj hy]
      exact c
theorem ins_perm (out : List PrS) (p : PrS) : (ins out p).Perm (p :: out) := by
  unfold ins
  have h : (out.take (posn p out out.length) ++ [p] ++ out.drop (posn p out out.length)).Perm (p :: (out.take (posn p out out.length) ++ out.drop (posn p out out.length))) := by
    rw [List.append_assoc]
    exact List.perm_middle
  rw [List.take_append_drop] at h
  exact h
theorem isort_perm_gen : ∀ (l acc : List PrS), (l.foldl ins acc).Perm (l ++ acc)
  | [], acc => List.Perm.refl _
  | p :: l, acc => by
    rw [List.foldl_cons, List.cons_append]
    refine (isort_perm_gen l (ins acc p)).trans ?_
    exact ((ins_perm acc p).append_left l).trans List.perm_middle
theorem isort_perm (l : List PrS) : (isort l).Perm l := by
  have h := isort_perm_gen l []
  rw [List.append_nil] at h
  exact h
theorem ins_sorted {out : List PrS} (p : PrS) (h : out.Pairwise (fun x y => cP x y ≤ 0)) : (ins out p).Pairwise (fun x y => cP x y ≤ 0) := by
  obtain ⟨s1, s2⟩ := posn_spec p out out.length (Nat.le_refl _)
  have hle := posn_le p out out.length
  unfold ins
  generalize posn p out out.length = n at s1 s2 hle
  have hta : ∀ x ∈ out.take n, cP x p ≤ 0 := by
    intro x hx
    obtain ⟨j, hj, rfl⟩ := List.getElem_of_mem hx
    rw [List.length_take] at hj
    rw [List.getElem_take]
    have hl : out[n - 1]? = some (out[n - 1]'(by omega)) := List.getElem?_eq_getElem (by omega)
    have h1 := s2 (n - 1) _ (by omega) hl
    have h2 : cP (out[n - 1]'(by omega)) p ≤ 0 := by have := cP_cmp.neg p (out[n - 1]'(by omega)); omega
    by_cases e : j = n - 1
    · subst e; exact h2
    · have h3 := (List.pairwise_iff_getElem.1 h) j (n - 1) (by omega) (by omega) (by omega)
      exact (cP_cmp.tr _ _ _ h3 h2).1
  have hdr : ∀ y ∈ out.drop n, cP p y ≤ 0 := by
    intro y hy
    obtain ⟨j, hj, rfl⟩ := List.getElem_of_mem hy
    rw [List.length_drop] at hj
    rw [List.getElem_drop]
    have := s1 (n + j) _ (by omega) (by omega) (List.getElem?_eq_getElem (by omega))
    omega
  rw [List.pairwise_append, List.pairwise_append]
  refine ⟨⟨h.sublist (List.take_sublist _ _), List.pairwise_singleton _ _, fun x hx y hy => ?_⟩, h.sublist (List.drop_sublist _ _), fun x hx y hy => ?_⟩
  · rw [List.mem_singleton.1 hy]; exact hta x hx
  · rcases List.mem_append.1 hx with hx | hx
    · exact (cP_cmp.tr _ _ _ (hta x hx) (hdr y hy)).1
    · rw [List.mem_singleton.1 hx]; exact hdr y hy
theorem isort_sorted_gen : ∀ (l acc : List PrS), acc.Pairwise (fun x y => cP x y ≤ 0) → (l.foldl ins acc).Pairwise (fun x y => cP x y ≤ 0)
  | [], acc, h => h
  | p :: l, acc, h => by rw [List.foldl_cons]; exact isort_sorted_gen l _ (ins_sorted p h)
/-- Of pairs that go to unlike places. -/
theorem isort_sortT {l : List PrS} (h : (l.map (·.f1)).Nodup) : isort l = sortT l := by
  refine sort_uniq cT_cmp (fun _ _ => cT_zero) (isort_perm l) ?_
  have h1 : (isort l).Pairwise (fun x y => cP x y ≤ 0) := isort_sorted_gen l [] List.Pairwise.nil
  have h2 : ((isort l).map (·.f1)).Nodup := (((isort_perm l).map (·.f1)).nodup_iff).2 h
  have h3 : (isort l).Pairwise (fun x y => x.f1 ≠ y.f1) := List.pairwise_map.1 h2
  refine (h1.and h3).imp (fun {x y} hxy => ?_)
  have e : cP x y ≠ 0 := fun e => hxy.2 (tl_inj ((pcmp_zero _ _).1 e))
  have e2 : cT x y = cP x y := by
    show (if pcmp (tl x.f1) (tl y.f1) ≠ 0 then pcmp (tl x.f1) (tl y.f1) else cB x y) = _
    rw [if_pos (show pcmp (tl x.f1) (tl y.f1) ≠ 0 from e)]
    rfl
  rw [e2]
  exact hxy.1
/-! ### The best one again and again -/
structure TInv (st : List ByteArray × List ByteArray × List PrS) (T : List PrS) : Prop where
  val : st.2.2 = T
  one : ∀ p, p ∈ st.1 ↔ ∃ x ∈ T, x.f0 = p
  two : ∀ p, p ∈ st.2.1 ↔ ∃ x ∈ T, x.f1 = p
theorem TInv.nil : TInv ([], [], []) [] := ⟨rfl, fun p => by simp, fun p => by simp⟩
theorem TInv.touch {st : List ByteArray × List ByteArray × List PrS} {T : List PrS} (h : TInv st T) (x : PrS) : Touch T x ↔ ¬ (x.f0 ∉ st.1 ∧ x.f1 ∉ st.2.1) := by
  rw [h.one, h.two]
  constructor
  · rintro ⟨y, hy, e | e⟩ ⟨h1, h2⟩
    · exact h1 ⟨y, hy, e⟩
    · exact h2 ⟨y, hy, e⟩
  · intro hn
    by_cases c : ∃ y ∈ T, y.f0 = x.f0
    · obtain ⟨y, hy, e⟩ := c
      exact ⟨y, hy, .inl e⟩
    · by_cases d : ∃ y ∈ T, y.f1 = x.f1
      · obtain ⟨y, hy, e⟩ := d
        exact ⟨y, hy, .inr e⟩
      · exact absurd ⟨c, d⟩ hn
theorem TInv.skip {st : List ByteArray × List ByteArray × List PrS} {T : List PrS} (h : TInv st T) : ∀ R : List PrS, (∀ x ∈ R, Touch T x) → R.foldl take1 st = st
  | [], _ => rfl
  | x :: R, hR => by
    have e : take1 st x = st := by unfold take1; rw [if_neg ((h.touch x).1 (hR x List.mem_cons_self))]
    rw [List.foldl_cons, e]
    exact TInv.skip h R (fun y hy => hR y (List.mem_cons_of_mem _ hy))
theorem TInv.take {st : List ByteArray × List ByteArray × List PrS} {T : List PrS} (h : TInv st T) {e : PrS} (he : ¬ Touch T e) : TInv (take1 st e) (T ++ [e]) := by
  have hf : e.f0 ∉ st.1 ∧ e.f1 ∉ st.2.1 := Decidable.not_not.1 (fun hn => he ((h.touch e).2 hn))
  unfold take1
  rw [if_pos hf]
  refine ⟨by rw [h.val], fun p => ?_, fun p => ?_⟩
  · rw [List.mem_cons, h.one]
    constructor
    · rintro (rfl | ⟨x, hx, e⟩)
      · exact ⟨e, by simp, rfl⟩
      · exact ⟨x, List.mem_append_left _ hx, e⟩
    · rintro ⟨x, hx, rfl⟩
      rcases List.mem_append.1 hx with hx | hx
      · exact .inr ⟨x, hx, rfl⟩
      · exact .inl (by rw [List.mem_singleton.1 hx])
  · rw [List.mem_cons, h.two]
    constructor
    · rintro (rfl | ⟨x, hx, e⟩)
      · exact ⟨e, by simp, rfl⟩
      · exact ⟨x, List.mem_append_left _ hx, e⟩
    · rintro ⟨x, hx, rfl⟩
      rcases List.mem_append.1 hx with hx | hx
      · exact .inr ⟨x, hx, rfl⟩
      · exact .inl (by rw [List.mem_singleton.1 hx])
theorem first_free {T : List PrS} : ∀ R : List PrS, (∃ x ∈ R, ¬ Touch T x) → ∃ R1 f R2, R = R1 ++ f :: R2 ∧ (∀ x ∈ R1, Touch T x) ∧ ¬ Touch T f
  | [], h => by obtain ⟨x, hx, _⟩ := h; cases hx
  | y :: R, h => by
    by_cases c : Touch T y
    · obtain ⟨R1, f, R2, e, h1, h2⟩ := first_free R (by
        obtain ⟨x, hx, hn⟩ := h
        rcases List.mem_cons.1 hx with rfl | hx
        · exact absurd c hn
        · exact ⟨x, hx, hn⟩)
      refine ⟨y :: R1, f, R2, by rw [e]; rfl, fun x hx => ?_, h2⟩
      rcases List.mem_cons.1 hx with rfl | hx
      · exact c
      · exact h1 x hx
    · exact ⟨[], y, R, rfl, fun x hx => absurd hx (by simp), c⟩
theorem Touch.more {T : List PrS} {x : PrS} (h : Touch T x) (U : List PrS) : Touch (T ++ U) x := by
  obtain ⟨y, hy, e⟩ := h
  exact ⟨y, List.mem_append_left _ hy, e⟩
/-- The best of those that are free comes next. -/
theorem next_best {P R T : List PrS} {st : List ByteArray × List ByteArray × List PrS} (hs : (P ++ R).Pairwise (fun x y => cB x y ≤ 0)) (hP : ∀ x ∈ P, Touch T x) (hi : TInv st T) {e : PrS} (he : e ∈ P ++ R) (hf : ¬ Touch T e) (hm : ∀ x ∈ P ++ R, ¬ Touch T x → cB e x ≤ 0) :
    ∃ P' R' st', P' ++ R' = P ++ R ∧ (∀ x ∈ P', Touch (T ++ [e]) x) ∧ TInv st' (T ++ [e]) ∧ R'.foldl take1 st' = R.foldl take1 st ∧ R'.length < R.length := by
  have heR : e ∈ R := (List.mem_append.1 he).resolve_left (fun h => hf (hP e h))
  obtain ⟨R1, f, R2, rfl, h1, h2⟩ := first_free R ⟨e, heR, hf⟩
  have hfe : f = e := by
    have h3 : cB f e ≤ 0 := by
      rcases List.mem_append.1 heR with h | h
      · exact absurd (h1 e h) hf
      · rcases List.mem_cons.1 h with rfl | h
        · have := cB_cmp.self e; omega
        · have h4 := (List.pairwise_append.1 (List.pairwise_append.1 hs).2.1).2.1
          exact (List.pairwise_cons.1 h4).1 e h
    have h5 := hm f (by simp) h2
    have h6 := cB_cmp.neg e f
    exact cB_zero (by omega)
  subst hfe
  refine ⟨P ++ R1 ++ [f], R2, take1 st f, by simp, fun x hx => ?_, hi.take h2, ?_, by simp; omega⟩
  · rcases List.mem_append.1 hx with hx | hx
    · rcases List.mem_append.1 hx with hx | hx
      · exact (hP x hx).more _
      · exact (h1 x hx).more _
    · rw [List.mem_singleton.1 hx]
      exact ⟨f, by simp, .inl rfl⟩
  · rw [List.foldl_append, hi.skip R1 h1, List.foldl_cons]
theorem none_left {P R T : List PrS} {st : List ByteArray × List ByteArray × List PrS} (hi : TInv st T) (hn : ∀ x ∈ P ++ R, Touch T x) : (R.foldl take1 st).2.2 = T := by
  rw [hi.skip R (fun x hx => hn x (List.mem_append_right _ hx)), hi.val]
theorem greedy_once : ∀ (l : List PrS) (st : List ByteArray × List ByteArray × List PrS) (T : List PrS), TInv st T → (T.map (·.f1)).Nodup → ((l.foldl take1 st).2.2.map (·.f1)).Nodup
  | [], st, T, hi, h => by rw [List.foldl_nil, hi.val]; exact h
  | e :: l, st, T, hi, h => by
    rw [List.foldl_cons]
    by_cases c : Touch T e
    · have e1 : take1 st e = st := by unfold take1; rw [if_neg ((hi.touch e).1 c)]
      rw [e1]
      exact greedy_once l st T hi h
    · refine greedy_once l _ _ (hi.take c) ?_
      rw [List.map_append, List.nodup_append]
      refine ⟨h, by simp, fun a ha b hb hab => ?_⟩
      obtain ⟨x, hx, rfl⟩ := List.mem_map.1 ha
      have hb2 : b = e.f1 := by simpa using hb
      exact c ⟨x, hx, .inr (hab.trans hb2)⟩
end Go.Proofs.Ytcgnkbdfoaiaiaa.Q
end
section
/- collatorref08.sorted: the walk of its text. -/
set_option linter.unusedVariables false
set_option linter.unusedSimpArgs false
namespace Go.Proofs.Ytcgnkbdfoaiaiaa.P
open Go Go.RowKit Go.Proofs.YtcgnkbdfoaiaiaaW.PrintWords Go.Proofs.YtcgnkbdfoaiaiaaW.PrintLast Go.Proofs.YtcgnkbdfoaiaiaaW.PrintMore Go.Proofs.Ytcgnkbdfoaiaiaa.Q
set_option maxRecDepth 100000 in
set_option maxHeartbeats 2000000 in
theorem sorted_run (A0 : Option Addr) (c0 : Nat) (l0 : List PrS) (w : World) (hr0 : Kd.C k35 w A0 l0.length l0) (hc0 : l0.length ≤ c0) (hl : l0.length ≤ 1000000) (hz : ∀ x ∈ l0, x.f1.size ≤ 3000000) :
    Calls Try.prog 23 #[.slice A0 l0.length c0] w fun e w' => ∃ v, e = .returned v ∧ Kd.R k35 35 w' w.heap.size (fun _ => True) v (isort l0) ∧ Below w.heap.size w w' := by
  have HR0 := Aside0.mk hr0
  have HZ := Aside0.mk hz
  clear hr0 hz
  go_enter Try.func23, Try.ntmps23
  go_wp2
  go_loopw [3, 4] (fun v3 v4 wr => ∃ (i : Nat) (xs : List PrS), v4 = .int .i64 (i : Int) ∧ i ≤ l0.length ∧ Aside0 (xs = isort (l0.take i)) ∧ Aside0 (Kd.R k35 35 wr w.heap.size (fun _ => True) v3 xs) ∧ Aside0 (Below w.heap.size w wr)) (fun _ v4 _ => l0.length - (intOf v4).toNat)
  case atStart => exact ⟨0, [], rfl, Nat.zero_le _, ⟨rfl⟩, ⟨Kd.R_nil _ _ _ _ _⟩, ⟨Below.refl _ _⟩⟩
  case round =>
    obtain ⟨i, xs, rfl, hi, HXS, HO, HB⟩ := hrel
    obtain ⟨wo, hwo⟩ : ∃ wo, wo = wr := ⟨_, rfl⟩
    subst hwo
    by_cases ci : i < l0.length
    · have cb : decide ((i : Int) < (l0.length : Int)) = true := decide_eq_true (by omega)
      have cb' : decide (i < l0.length) = true := decide_eq_true ci
      obtain ⟨ad, rfl, hx0, hx1, hx2⟩ := at_T35 HR0.out (i : Int) (by omega) (by omega)
      have hE0 : l0[i] = rd_T35 l0 (i : Int) := by simp [rd_T35, List.getD_eq_getElem?_getD, List.getElem?_eq_getElem ci]
      obtain ⟨x, hx⟩ : ∃ x, x = rd_T35 l0 (i : Int) := ⟨_, rfl⟩
      rw [← hx] at hx0 hx1 hx2 hE0
      have hln : xs.length = i := by rw [HXS.out, isort_length, List.length_take]; omega
      have HLN := Aside0.mk hln
      have HTK := Aside0.mk (show isort (l0.take (i + 1)) = ins xs x by rw [List.take_succ_eq_append_getElem ci, isort_snoc, HXS.out, hE0])
      have HXZ := Aside0.mk (show x.f1.size ≤ 3000000 from HZ.out x (by rw [← hE0]; exact List.getElem_mem ci))
      have HXSZ := Aside0.mk (show ∀ y ∈ xs, y.f1.size ≤ 3000000 from fun y hy => HZ.out y (List.mem_of_mem_take (isort_mem (by rw [← HXS.out]; exact hy))))
      rw [Int.toNat_natCast] at hx0 hx1 hx2
      have HX0 := Aside0.mk hx0
      have HX1 := Aside0.mk hx1
      have HX2 := Aside0.mk hx2
      obtain ⟨A3, c3, rfl⟩ := Kd.R_slice HO.out
      clear hx hx0 hx1 hx2 hE0 hln
      go_wp2
      go_loopw [5] (fun v5 wq => ∃ (n : Nat), v5 = .int .i64 (n : Int) ∧ n ≤ xs.length ∧ Aside0 (posn x xs n = posn x xs xs.length) ∧ Aside0 (Below wo.heap.size wo wq)) (fun v5 _ => (intOf v5).toNat)
      case atStart => exact ⟨xs.length, rfl, Nat.le_refl _, ⟨rfl⟩, ⟨Below.refl _ _⟩⟩
      case round =>
        obtain ⟨n, rfl, hn, HP, HQ⟩ := hrel
        go_wp2
        rename_i Q6 K6 hEND6
        have HEND6 := Aside0.mk hEND6
        clear hEND6
        obtain ⟨Z, hZ⟩ : ∃ Z, Z = wr.drew := ⟨_, rfl⟩
        have HQZ := Aside0.mk (show Below wo.heap.size wo Z by rw [hZ]; exact HQ.out.drew)
        by_cases cn : n = 0
        · have HN := Aside0.mk (show posn x xs xs.length = n by rw [← HP.out, cn]; rfl)
          have p0 : decide ((0 : Int) < (n : Int)) = false := decide_eq_false (by omega)
          have p1 : decide (0 < n) = false := decide_eq_false (by omega)
          clear cn
          refine (wpIn_wide (n := 9)).1 ?_
          refine Held.region 17 (fun _ => True) (by kernel_rfl) ?_
          rw [← hZ]
          clear hZ
          refine tk1 (i := 0) rfl ?_
          try simp only [Act.put, List.setIfInBounds_toArray, List.set_cons_zero, List.set_cons_succ]
          refine tk1 (i := 1) rfl ?_
          try simp only [Act.put, List.setIfInBounds_toArray, List.set_cons_zero, List.set_cons_succ]
          refine tk1 (i := 2) rfl ?_
          try simp only [Act.put, List.setIfInBounds_toArray, List.set_cons_zero, List.set_cons_succ]
          refine skc (i := 3) rfl trivial ?_
          try simp only [Act.put, List.setIfInBounds_toArray, List.set_cons_zero, List.set_cons_succ]
          refine skc (i := 4) rfl trivial ?_
          try simp only [Act.put, List.setIfInBounds_toArray, List.set_cons_zero, List.set_cons_succ]
          refine skc (i := 5) rfl trivial ?_
          try simp only [Act.put, List.setIfInBounds_toArray, List.set_cons_zero, List.set_cons_succ]
          refine skc (i := 6) rfl trivial ?_
          try simp only [Act.put, List.setIfInBounds_toArray, List.set_cons_zero, List.set_cons_succ]
          refine skc (i := 7) rfl trivial ?_
          try simp only [Act.put, List.setIfInBounds_toArray, List.set_cons_zero, List.set_cons_succ]
          refine skc (i := 8) rfl trivial ?_
          try simp only [Act.put, List.setIfInBounds_toArray, List.set_cons_zero, List.set_cons_succ]
          refine skc (i := 9) rfl trivial ?_
          try simp only [Act.put, List.setIfInBounds_toArray, List.set_cons_zero, List.set_cons_succ]
          refine skc (i := 10) rfl trivial ?_
          try simp only [Act.put, List.setIfInBounds_toArray, List.set_cons_zero, List.set_cons_succ]
          refine skc (i := 11) rfl trivial ?_
          try simp only [Act.put, List.setIfInBounds_toArray, List.set_cons_zero, List.set_cons_succ]
          refine skc (i := 12) rfl trivial ?_
          try simp only [Act.put, List.setIfInBounds_toArray, List.set_cons_zero, List.set_cons_succ]
          refine skc (i := 13) rfl trivial ?_
          try simp only [Act.put, List.setIfInBounds_toArray, List.set_cons_zero, List.set_cons_succ]
          refine offc (i := 14) rfl (by kernel_rfl) rfl (fun _ => trivial) ?_
          try simp only [Act.put, List.setIfInBounds_toArray, List.set_cons_zero, List.set_cons_succ]
          refine skc (i := 15) rfl trivial ?_
          try simp only [Act.put, List.setIfInBounds_toArray, List.set_cons_zero, List.set_cons_succ]
          refine tk1 (i := 16) rfl ?_
          try simp only [Act.put, List.setIfInBounds_toArray, List.set_cons_zero, List.set_cons_succ]
          refine Held.AnyS.done (by kernel_rfl) ?_ _
          go_simp
          refine HEND6.out _ _ ?_
          clear HEND6
          go_wp2
          obtain ⟨U, hU⟩ : ∃ U, U = Z := ⟨_, rfl⟩
          subst hU
          have HU := HQZ
          clear p0 p1
          have hc5 := (Kd.R_reads' HO.out).2.1; have q0 := eq_true (show 0 ≤ (n : Int) by omega); have q5 := eq_true (show n ≤ c3 by omega); have q6 := eq_true (show (n : Int) ≤ (c3 : Int) by omega); have q7 := eq_true (show xs.length ≤ c3 by omega); have q8 := eq_true (show n ≤ xs.length by omega); clear hc5
          have q1 := eq_true (show (n : Int) ≤ (xs.length : Int) by omega)
          have q3 := eq_true (show 0 ≤ (i : Int) by omega)
          have q4 := eq_true (show (i : Int) < (l0.length : Int) by omega)
          obtain ⟨Z8, hZ8⟩ : ∃ Z8, Z8 = U.drew := ⟨_, rfl⟩
          have HQ8 := Aside0.mk (show Below wo.heap.size wo Z8 by rw [hZ8]; exact HU.out.drew)
          have hS : S3 (ad.add (i * 3)) (.string x.f0) ⟨(ad.add (i * 3)).block, (ad.add (i * 3)).off + 1, none⟩ (.string x.f1) ⟨(ad.add (i * 3)).block, (ad.add (i * 3)).off + 2, none⟩ (.int .i64 x.f2) Z8 := ⟨cell_two HB.out HQ8.out HX0.out, cell_two HB.out HQ8.out HX1.out, cell_two HB.out HQ8.out HX2.out⟩
          refine (wpIn_wide (n := 9)).1 ?_
          refine Held.region 14 (S3 (ad.add (i * 3)) (.string x.f0) ⟨(ad.add (i * 3)).block, (ad.add (i * 3)).off + 1, none⟩ (.string x.f1) ⟨(ad.add (i * 3)).block, (ad.add (i * 3)).off + 2, none⟩ (.int .i64 x.f2)) (by kernel_rfl) ?_
          rw [← hZ8]
          clear hZ8
          refine tkd (i := 0) rfl hS ?_
          try simp only [Act.put, List.setIfInBounds_toArray, List.set_cons_zero, List.set_cons_succ]
          refine tkd (i := 1) rfl hS ?_
          try simp only [Act.put, List.setIfInBounds_toArray, List.set_cons_zero, List.set_cons_succ]
          refine tkd (i := 2) rfl hS ?_
          try simp only [Act.put, List.setIfInBounds_toArray, List.set_cons_zero, List.set_cons_succ]
          refine tkd (i := 4) rfl hS ?_
          try simp only [Act.put, List.setIfInBounds_toArray, List.set_cons_zero, List.set_cons_succ]
          refine tkd (i := 5) rfl hS ?_
          try simp only [Act.put, List.setIfInBounds_toArray, List.set_cons_zero, List.set_cons_succ]
          refine tkd (i := 6) rfl hS ?_
          try simp only [Act.put, List.setIfInBounds_toArray, List.set_cons_zero, List.set_cons_succ]
          refine tkd (i := 7) rfl hS ?_
          try simp only [Act.put, List.setIfInBounds_toArray, List.set_cons_zero, List.set_cons_succ]
          refine tkd (i := 10) rfl hS ?_
          try simp only [Act.put, List.setIfInBounds_toArray, List.set_cons_zero, List.set_cons_succ]
          refine tkd (i := 11) rfl hS ?_
          try simp only [Act.put, List.setIfInBounds_toArray, List.set_cons_zero, List.set_cons_succ]
          refine tkd (i := 12) rfl hS ?_
          try simp only [Act.put, List.setIfInBounds_toArray, List.set_cons_zero, List.set_cons_succ]
          obtain ⟨ix, hOx, hRx⟩ := prow_of_R HO.out
          have HOX := Aside0.mk (pw_own_below hOx HQ8.out)
          have HRX := Aside0.mk hRx
          have HB8 := Aside0.mk (below_step HB.out HQ8.out)
          have HD := Aside0.mk (Below.refl Z8.heap.size Z8)
          have HS := Aside0.mk (fun w' (h : Below Z8.heap.size Z8 w') => (show S3 (ad.add (i * 3)) (.string x.f0) ⟨(ad.add (i * 3)).block, (ad.add (i * 3)).off + 1, none⟩ (.string x.f1) ⟨(ad.add (i * 3)).block, (ad.add (i * 3)).off + 2, none⟩ (.int .i64 x.f2) w' from ⟨(h.cell (World.block_lt_of_cell? Z8 _ hS.1)).trans hS.1, (h.cell (World.block_lt_of_cell? Z8 _ hS.2.1)).trans hS.2.1, (h.cell (World.block_lt_of_cell? Z8 _ hS.2.2)).trans hS.2.2⟩))
          have q8_ : n ≤ xs.length := hn
          have q7_ : xs.length ≤ c3 := (Kd.R_reads' HO.out).2.1
          clear hOx hRx hS q0 q1 q5 q6 q7 q8
          refine Held.AnyS.step2 (i := 3) (j := 8) rfl rfl (by kernel_rfl) rfl rfl (fun K hK => ?_) (fun K hK => ?_)
          · have ho := pw_own_below HOX.out HD.out
            refine Held.append_any (.const (.slice none 0 0)) (.tmp 35) 29 rfl Z8.heap.size 35 (.agg #[.string ⟨#[]⟩, .string ⟨#[]⟩, .int .i64 0]) 3 40 Try.underlying29 (by kernel_rfl) rfl (by omega) (.slice none 0 0) 0 [] rfl (own_nil _ _ _ _) A3 n c3 (ix.take (n * 3)) rfl (take_len ho q8_) (news_take ho q8_) ?_ ?_ ?_ ?_ ?_
            · exact fun u hu => encS_one HRX.out u (List.mem_of_mem_take hu)
            · have := HLN.out; simp only [maxLen]; omega
            · have := HLN.out; omega
            · have := HD.out.size; omega
            intro v y1 hown hgr hat
            have hown : y1.ownsRow Z8.heap.size 35 3 v n (ix.take (n * 3)) := by rw [Nat.zero_add, List.nil_append] at hown; exact hown
            obtain ⟨A2, c2, rfl⟩ := own_slice hown
            have hD : Below Z8.heap.size Z8 y1 := HD.out.grown hgr HD.out.size (fun k hk => by simp [Value.ownBlock] at hk)
            refine hK.out _ _ (fun _ => HS.out _ hD) ?_
            have HO_ := Aside0.mk hown
            have HD_ := Aside0.mk hD
            clear HD
            have HD := HD_
            have HO8 := HO_
            clear HO_ HD_ hK K hown hgr hat hD ho
            try simp only [Act.put, List.setIfInBounds_toArray, List.set_cons_zero, List.set_cons_succ]
            refine Held.AnyS.step (i := 8) rfl (by kernel_rfl) rfl (fun K hK => ?_)
            go_simp
            first | refine ⟨trivial, ?_⟩ | skip
            obtain ⟨y2, hy⟩ : ∃ V, V = y1.alloc (.cells #[.string x.f0, .string x.f1, .int .i64 x.f2] 35) := ⟨_, rfl⟩
            have hD : Below Z8.heap.size Z8 y2 := by rw [hy]; exact HD.out.alloc HD.out.size _
            have hw : Below y1.heap.size y1 y2 := by rw [hy]; exact (Below.refl _ _).alloc (Nat.le_refl _) _
            have hN : y2.heap[y1.heap.size]? = some (.cells #[.string x.f0, .string x.f1, .int .i64 x.f2] 35 (0, 0)) := by rw [hy]; exact heap_alloc_new y1 _
            rw [← hy]
            refine hK.out _ _ (fun _ => HS.out _ hD) ?_
            obtain ⟨b8, hbn⟩ : ∃ b, y1.heap.size = b := ⟨_, rfl⟩
            have HO_ := Aside0.mk (pw_own_below HO8.out hw)
            have HNE := Aside0.mk (show some b8 ≠ (Value.slice A2 n c2).ownBlock from fun e => by have := own_lt HO8.out b8 e.symm; omega)
            clear HO8
            have HO8 := HO_
            clear HO_
            rw [hbn] at hN ⊢
            have HBX := Aside0.mk hN
            have HD_ := Aside0.mk hD
            clear HD
            have HD := HD_
            clear hK K hbn hw hD hN hy HD_
            try simp only [Act.put, List.setIfInBounds_toArray, List.set_cons_zero, List.set_cons_succ]
            refine Held.AnyS.step (i := 9) rfl (by kernel_rfl) rfl (fun K hK => ?_)
            have nw : ∀ j u, [.string x.f0, .string x.f1, .int .i64 x.f2][j]? = some u → y2.cell? ((⟨b8, 0, none⟩ : Addr).add j) = some u := by simpa using World.news_of_block (cs := #[.string x.f0, .string x.f1, .int .i64 x.f2]) (t := 35) (fr := (0, 0)) HBX.out
            refine Held.append_any (.tmp 36) (.tmp 41) 29 rfl Z8.heap.size 35 (.agg #[.string ⟨#[]⟩, .string ⟨#[]⟩, .int .i64 0]) 3 40 Try.underlying29 (by kernel_rfl) rfl (by omega) (.slice A2 n c2) n (ix.take (n * 3)) rfl HO8.out (some ⟨b8, 0, none⟩) 1 1 [.string x.f0, .string x.f1, .int .i64 x.f2] rfl rfl (.inr ⟨_, rfl, nw⟩) ?_ ?_ ?_ ?_ ?_
            · intro u hu; simp at hu; rcases hu with rfl | rfl | rfl <;> rfl
            · have := HLN.out; simp only [maxLen]; omega
            · have := HLN.out; omega
            · have := HD.out.size; omega
            intro v y3 hown hgr hat
            have hown : y3.ownsRow Z8.heap.size 35 3 v (n + 1) (ix.take (n * 3) ++ [.string x.f0, .string x.f1, .int .i64 x.f2]) := hown
            obtain ⟨A4, c4, rfl⟩ := own_slice hown
            have hD : Below Z8.heap.size Z8 y3 := HD.out.grown hgr HD.out.size (fun k hk => own_base HO8.out k hk)
            refine hK.out _ _ (fun _ => HS.out _ hD) ?_
            have HO_ := Aside0.mk hown
            have HD_ := Aside0.mk hD
            clear HD
            have HD := HD_
            clear HO8
            have HO8 := HO_
            clear HO_ HD_ hK K hown hgr hat hD nw
            try simp only [Act.put, List.setIfInBounds_toArray, List.set_cons_zero, List.set_cons_succ]
            refine Held.AnyS.step (i := 13) rfl (by kernel_rfl) rfl (fun K hK => ?_)
            have ho := pw_own_below HOX.out HD.out
            refine Held.append_any (.tmp 42) (.tmp 45) 29 rfl Z8.heap.size 35 (.agg #[.string ⟨#[]⟩, .string ⟨#[]⟩, .int .i64 0]) 3 40 Try.underlying29 (by kernel_rfl) rfl (by omega) (.slice A4 (n + 1) c4) (n + 1) (ix.take (n * 3) ++ [.string x.f0, .string x.f1, .int .i64 x.f2]) rfl HO8.out (if c3 = n then A3 else Option.map (fun x => x.add (n * 3)) A3) (xs.length - n) (c3 - n) (ix.drop (n * 3)) rfl (drop_len ho q8_) (news_drop ho q8_ q7_) ?_ ?_ ?_ ?_ ?_
            · exact fun u hu => encS_one HRX.out u (List.mem_of_mem_drop hu)
            · have := HLN.out; simp only [maxLen]; omega
            · have := HLN.out; omega
            · have := HD.out.size; omega
            intro v y4 hown hgr hat
            have hown : y4.ownsRow Z8.heap.size 35 3 v (n + 1 + (xs.length - n)) (ix.take (n * 3) ++ [.string x.f0, .string x.f1, .int .i64 x.f2] ++ ix.drop (n * 3)) := hown
            obtain ⟨A7, c7, rfl⟩ := own_slice hown
            have hD : Below Z8.heap.size Z8 y4 := HD.out.grown hgr HD.out.size (fun k hk => own_base HO8.out k hk)
            refine hK.out _ _ (fun _ => HS.out _ hD) ?_
            have HO_ := Aside0.mk hown
            have HD_ := Aside0.mk hD
            clear HD
            have HD := HD_
            clear HO8
            have HO8 := HO_
            clear HO_ HD_ hK K hown hgr hat hD ho
            try simp only [Act.put, List.setIfInBounds_toArray, List.set_cons_zero, List.set_cons_succ]
            refine Held.AnyS.step (i := 14) rfl (by kernel_rfl) rfl (fun K hK => ?_)
            go_simp
            refine hK.out _ _ (fun h => absurd h (by omega)) ?_
            clear hK K
            refine Held.AnyS.done (by kernel_rfl) ?_ _
            go_simp
            go_wp2
            have HF := Aside0.mk (ins_row HN.out HRX.out (own_less HO8.out HB8.out.size) q8_)
            have HBF := Aside0.mk (below_step HB8.out HD.out)
            exact ⟨⟨i + 1, ins xs x, by simp, by omega, ⟨HTK.out.symm⟩, HF, HBF⟩, by simp [intOf]; omega⟩
          · go_simp
            first | refine ⟨trivial, ?_⟩ | skip
            obtain ⟨y1, hy⟩ : ∃ V, V = Z8.alloc (.cells #[.string x.f0, .string x.f1, .int .i64 x.f2] 35) := ⟨_, rfl⟩
            have hD : Below Z8.heap.size Z8 y1 := by rw [hy]; exact HD.out.alloc HD.out.size _
            have hw : Below Z8.heap.size Z8 y1 := by rw [hy]; exact (Below.refl _ _).alloc (Nat.le_refl _) _
            have hN : y1.heap[Z8.heap.size]? = some (.cells #[.string x.f0, .string x.f1, .int .i64 x.f2] 35 (0, 0)) := by rw [hy]; exact heap_alloc_new Z8 _
            rw [← hy]
            refine hK.out _ _ (fun _ => HS.out _ hD) ?_
            obtain ⟨b8, hbn⟩ : ∃ b, Z8.heap.size = b := ⟨_, rfl⟩
            rw [hbn] at hN ⊢
            have HBX := Aside0.mk hN
            have HD_ := Aside0.mk hD
            clear HD
            have HD := HD_
            clear hK K hbn hw hD hN hy HD_
            try simp only [Act.put, List.setIfInBounds_toArray, List.set_cons_zero, List.set_cons_succ]
            refine Held.AnyS.step (i := 3) rfl (by kernel_rfl) rfl (fun K hK => ?_)
            have ho := pw_own_below HOX.out HD.out
            refine Held.append_any (.const (.slice none 0 0)) (.tmp 35) 29 rfl Z8.heap.size 35 (.agg #[.string ⟨#[]⟩, .string ⟨#[]⟩, .int .i64 0]) 3 40 Try.underlying29 (by kernel_rfl) rfl (by omega) (.slice none 0 0) 0 [] rfl (own_nil _ _ _ _) A3 n c3 (ix.take (n * 3)) rfl (take_len ho q8_) (news_take ho q8_) ?_ ?_ ?_ ?_ ?_
            · exact fun u hu => encS_one HRX.out u (List.mem_of_mem_take hu)
            · have := HLN.out; simp only [maxLen]; omega
            · have := HLN.out; omega
            · have := HD.out.size; omega
            intro v y2 hown hgr hat
            have hown : y2.ownsRow Z8.heap.size 35 3 v n (ix.take (n * 3)) := by rw [Nat.zero_add, List.nil_append] at hown; exact hown
            obtain ⟨A2, c2, rfl⟩ := own_slice hown
            have hD : Below Z8.heap.size Z8 y2 := HD.out.grown hgr HD.out.size (fun k hk => by simp [Value.ownBlock] at hk)
            refine hK.out _ _ (fun _ => HS.out _ hD) ?_
            have HB_ := Aside0.mk ((hgr.block _ (blk_lt HBX.out) (by simp [Value.ownBlock])).trans HBX.out)
            have HNE := Aside0.mk (show some b8 ≠ (Value.slice A2 n c2).ownBlock from by rcases hat with hat | hat <;> rw [hat]; exact (by simp [Value.ownBlock]); exact fun e => by injection e with e; have := blk_lt HBX.out; omega)
            clear HBX
            have HBX := HB_
            clear HB_
            have HO_ := Aside0.mk hown
            have HD_ := Aside0.mk hD
            clear HD
            have HD := HD_
            have HO8 := HO_
            clear HO_ HD_ hK K hown hgr hat hD ho
            try simp only [Act.put, List.setIfInBounds_toArray, List.set_cons_zero, List.set_cons_succ]
            refine Held.AnyS.step (i := 9) rfl (by kernel_rfl) rfl (fun K hK => ?_)
            have nw : ∀ j u, [.string x.f0, .string x.f1, .int .i64 x.f2][j]? = some u → y2.cell? ((⟨b8, 0, none⟩ : Addr).add j) = some u := by simpa using World.news_of_block (cs := #[.string x.f0, .string x.f1, .int .i64 x.f2]) (t := 35) (fr := (0, 0)) HBX.out
            refine Held.append_any (.tmp 36) (.tmp 41) 29 rfl Z8.heap.size 35 (.agg #[.string ⟨#[]⟩, .string ⟨#[]⟩, .int .i64 0]) 3 40 Try.underlying29 (by kernel_rfl) rfl (by omega) (.slice A2 n c2) n (ix.take (n * 3)) rfl HO8.out (some ⟨b8, 0, none⟩) 1 1 [.string x.f0, .string x.f1, .int .i64 x.f2] rfl rfl (.inr ⟨_, rfl, nw⟩) ?_ ?_ ?_ ?_ ?_
            · intro u hu; simp at hu; rcases hu with rfl | rfl | rfl <;> rfl
            · have := HLN.out; simp only [maxLen]; omega
            · have := HLN.out; omega
            · have := HD.out.size; omega
            intro v y3 hown hgr hat
            have hown : y3.ownsRow Z8.heap.size 35 3 v (n + 1) (ix.take (n * 3) ++ [.string x.f0, .string x.f1, .int .i64 x.f2]) := hown
            obtain ⟨A4, c4, rfl⟩ := own_slice hown
            have hD : Below Z8.heap.size Z8 y3 := HD.out.grown hgr HD.out.size (fun k hk => own_base HO8.out k hk)
            refine hK.out _ _ (fun _ => HS.out _ hD) ?_
            have HO_ := Aside0.mk hown
            have HD_ := Aside0.mk hD
            clear HD
            have HD := HD_
            clear HO8
            have HO8 := HO_
            clear HO_ HD_ hK K hown hgr hat hD nw
            try simp only [Act.put, List.setIfInBounds_toArray, List.set_cons_zero, List.set_cons_succ]
            refine Held.AnyS.step (i := 13) rfl (by kernel_rfl) rfl (fun K hK => ?_)
            have ho := pw_own_below HOX.out HD.out
            refine Held.append_any (.tmp 42) (.tmp 45) 29 rfl Z8.heap.size 35 (.agg #[.string ⟨#[]⟩, .string ⟨#[]⟩, .int .i64 0]) 3 40 Try.underlying29 (by kernel_rfl) rfl (by omega) (.slice A4 (n + 1) c4) (n + 1) (ix.take (n * 3) ++ [.string x.f0, .string x.f1, .int .i64 x.f2]) rfl HO8.out (if c3 = n then A3 else Option.map (fun x => x.add (n * 3)) A3) (xs.length - n) (c3 - n) (ix.drop (n * 3)) rfl (drop_len ho q8_) (news_drop ho q8_ q7_) ?_ ?_ ?_ ?_ ?_
            · exact fun u hu => encS_one HRX.out u (List.mem_of_mem_drop hu)
            · have := HLN.out; simp only [maxLen]; omega
            · have := HLN.out; omega
            · have := HD.out.size; omega
            intro v y4 hown hgr hat
            have hown : y4.ownsRow Z8.heap.size 35 3 v (n + 1 + (xs.length - n)) (ix.take (n * 3) ++ [.string x.f0, .string x.f1, .int .i64 x.f2] ++ ix.drop (n * 3)) := hown
            obtain ⟨A7, c7, rfl⟩ := own_slice hown
            have hD : Below Z8.heap.size Z8 y4 := HD.out.grown hgr HD.out.size (fun k hk => own_base HO8.out k hk)
            refine hK.out _ _ (fun _ => HS.out _ hD) ?_
            have HO_ := Aside0.mk hown
            have HD_ := Aside0.mk hD
            clear HD
            have HD := HD_
            clear HO8
            have HO8 := HO_
            clear HO_ HD_ hK K hown hgr hat hD ho
            try simp only [Act.put, List.setIfInBounds_toArray, List.set_cons_zero, List.set_cons_succ]
            refine Held.AnyS.step (i := 14) rfl (by kernel_rfl) rfl (fun K hK => ?_)
            go_simp
            refine hK.out _ _ (fun h => absurd h (by omega)) ?_
            clear hK K
            refine Held.AnyS.done (by kernel_rfl) ?_ _
            go_simp
            go_wp2
            have HF := Aside0.mk (ins_row HN.out HRX.out (own_less HO8.out HB8.out.size) q8_)
            have HBF := Aside0.mk (below_step HB8.out HD.out)
            exact ⟨⟨i + 1, ins xs x, by simp, by omega, ⟨HTK.out.symm⟩, HF, HBF⟩, by simp [intOf]; omega⟩
        · obtain ⟨m, hm⟩ : ∃ m, n = m + 1 := ⟨n - 1, by omega⟩
          obtain ⟨ad3, rfl, hy0, hy1, hy2⟩ := at_T35 (Kd.R_reads' HO.out).2.2 (m : Int) (by omega) (by omega)
          rw [Int.toNat_natCast] at hy0 hy1 hy2
          have hym : xs[m]? = some xs[m] := List.getElem?_eq_getElem (by omega)
          rw [rdPr0 hym] at hy0 hy1 hy2
          obtain ⟨y, hy⟩ : ∃ y, y = xs[m] := ⟨_, rfl⟩
          rw [← hy] at hy0 hy1 hy2
          have HY := Aside0.mk (show xs.getD m x = y by rw [List.getD_eq_getElem?_getD, hym, hy]; rfl)
          have HYZ := Aside0.mk (show y.f1.size ≤ 3000000 from HXSZ.out y (by rw [hy]; exact List.getElem_mem _))
          have hS : S2 ⟨(ad.add (i * 3)).block, (ad.add (i * 3)).off + 1, none⟩ (.string x.f1) ⟨(ad3.add (m * 3)).block, (ad3.add (m * 3)).off + 1, none⟩ (.string y.f1) Z := ⟨cell_two HB.out HQZ.out HX1.out, (HQZ.out.cell (World.block_lt_of_cell? wo _ hy1)).trans hy1⟩
          have HYC := Aside0.mk hy1
          have HM := Aside0.mk hm
          have p0 : decide ((0 : Int) < (n : Int)) = true := decide_eq_true (by omega)
          have p00 : decide (0 < n) = true := decide_eq_true (by omega)
          have p1 := eq_true (show 0 ≤ (i : Int) by omega)
          have p2 := eq_true (show (i : Int) < (l0.length : Int) by omega)
          have p3 := eq_true (show 0 ≤ (m : Int) by omega)
          have p4 := eq_true (show (m : Int) < (xs.length : Int) by omega)
          have p5 : IntKind.i64.wrap ((n : Int) - 1) = (m : Int) := by rw [i64_w, show (n : Int) - 1 = (m : Int) by omega]; have := HLN.out; exact w64 (by omega) (by omega)
          clear cn hm hy hym hy0 hy1 hy2
          refine (wpIn_wide (n := 9)).1 ?_
          refine Held.region 17 (S2 ⟨(ad.add (i * 3)).block, (ad.add (i * 3)).off + 1, none⟩ (.string x.f1) ⟨(ad3.add (m * 3)).block, (ad3.add (m * 3)).off + 1, none⟩ (.string y.f1)) (by kernel_rfl) ?_
          rw [← hZ]
          clear hZ
          refine tkc (i := 0) rfl hS ?_
          try simp only [Act.put, List.setIfInBounds_toArray, List.set_cons_zero, List.set_cons_succ]
          refine tkc (i := 1) rfl hS ?_
          try simp only [Act.put, List.setIfInBounds_toArray, List.set_cons_zero, List.set_cons_succ]
          refine tkc (i := 2) rfl hS ?_
          try simp only [Act.put, List.setIfInBounds_toArray, List.set_cons_zero, List.set_cons_succ]
          refine tkc (i := 3) rfl hS ?_
          try simp only [Act.put, List.setIfInBounds_toArray, List.set_cons_zero, List.set_cons_succ]
          refine tkc (i := 4) rfl hS ?_
          try simp only [Act.put, List.setIfInBounds_toArray, List.set_cons_zero, List.set_cons_succ]
          refine tkc (i := 5) rfl hS ?_
          try simp only [Act.put, List.setIfInBounds_toArray, List.set_cons_zero, List.set_cons_succ]
          refine tkc (i := 6) rfl hS ?_
          try simp only [Act.put, List.setIfInBounds_toArray, List.set_cons_zero, List.set_cons_succ]
          refine tkc (i := 7) rfl hS ?_
          try simp only [Act.put, List.setIfInBounds_toArray, List.set_cons_zero, List.set_cons_succ]
          refine tkc (i := 8) rfl hS ?_
          try simp only [Act.put, List.setIfInBounds_toArray, List.set_cons_zero, List.set_cons_succ]
          refine tkc (i := 9) rfl hS ?_
          try simp only [Act.put, List.setIfInBounds_toArray, List.set_cons_zero, List.set_cons_succ]
          refine tkc (i := 10) rfl hS ?_
          try simp only [Act.put, List.setIfInBounds_toArray, List.set_cons_zero, List.set_cons_succ]
          refine tkc (i := 11) rfl hS ?_
          try simp only [Act.put, List.setIfInBounds_toArray, List.set_cons_zero, List.set_cons_succ]
          refine tkc (i := 12) rfl hS ?_
          try simp only [Act.put, List.setIfInBounds_toArray, List.set_cons_zero, List.set_cons_succ]
          refine tkc (i := 13) rfl hS ?_
          try simp only [Act.put, List.setIfInBounds_toArray, List.set_cons_zero, List.set_cons_succ]
          obtain ⟨kf, hkf⟩ := rcompare_big x.f1 y.f1 HXZ.out HYZ.out
          have HKF := Aside0.mk (hkf kf (Nat.le_refl _))
          clear hkf
          refine Held.AnyS.step (i := 14) rfl (by kernel_rfl) rfl (fun K hK => ?_)
          go_simp
          first | refine ⟨trivial, ?_⟩ | skip
          refine (callsIn_wide.2 (collatorref01_Compare.calls kf x.f1 y.f1 _ Z HKF.out)).mono ?_
          rintro e U ⟨rfl, hb⟩
          have HU := Aside0.mk (below_step HQZ.out hb)
          refine hK.out _ _ (fun _ => ⟨(hb.cell (World.block_lt_of_cell? Z _ hS.1)).trans hS.1, (hb.cell (World.block_lt_of_cell? Z _ hS.2)).trans hS.2⟩) ?_
          have hS2 : S2 ⟨(ad.add (i * 3)).block, (ad.add (i * 3)).off + 1, none⟩ (.string x.f1) ⟨(ad3.add (m * 3)).block, (ad3.add (m * 3)).off + 1, none⟩ (.string y.f1) U := ⟨(hb.cell (World.block_lt_of_cell? Z _ hS.1)).trans hS.1, (hb.cell (World.block_lt_of_cell? Z _ hS.2)).trans hS.2⟩
          clear hK K hb hS
          try simp only [Act.put, List.setIfInBounds_toArray, List.set_cons_zero, List.set_cons_succ]
          refine tkc (i := 15) rfl hS2 ?_
          try simp only [Act.put, List.setIfInBounds_toArray, List.set_cons_zero, List.set_cons_succ]
          refine tkc (i := 16) rfl hS2 ?_
          try simp only [Act.put, List.setIfInBounds_toArray, List.set_cons_zero, List.set_cons_succ]
          clear hS2
          refine Held.AnyS.done (by kernel_rfl) ?_ _
          go_simp
          refine HEND6.out _ _ ?_
          clear HEND6
          by_cases cl : pcmp (tl x.f1) (tl y.f1) < 0
          · have cl1 : decide (pcmp (tl x.f1) (tl y.f1) < 0) = true := decide_eq_true cl
            have cl2 := eq_true cl
            have cl3 := eq_false (show ¬ (0 ≤ pcmp (tl x.f1) (tl y.f1)) by omega)
            have HP2 := Aside0.mk (show posn x xs m = posn x xs xs.length by rw [← HP.out, HM.out]; simp only [posn]; rw [HY.out, if_pos cl])
            clear cl
            go_wp2
            have hm := HM.out
            exact ⟨⟨m, by first | rfl | simp [*], by omega, HP2, HU⟩, by simp [intOf]; omega⟩
            exfalso
            have := of_eq_true cl2
            omega
          · have cl1 : decide (pcmp (tl x.f1) (tl y.f1) < 0) = false := decide_eq_false cl
            have cl2 := eq_false cl
            have cl3 := eq_true (show 0 ≤ pcmp (tl x.f1) (tl y.f1) by omega)
            have HN := Aside0.mk (show posn x xs xs.length = n by rw [← HP.out, HM.out]; simp only [posn]; rw [HY.out, if_neg cl])
            clear cl
            go_wp2
            · exfalso
              have := of_eq_true cl3
              omega
            clear p0 p00 p3 p4 p5 cl1 cl2 cl3
            have hc5 := (Kd.R_reads' HO.out).2.1; have q0 := eq_true (show 0 ≤ (n : Int) by omega); have q5 := eq_true (show n ≤ c3 by omega); have q6 := eq_true (show (n : Int) ≤ (c3 : Int) by omega); have q7 := eq_true (show xs.length ≤ c3 by omega); have q8 := eq_true (show n ≤ xs.length by omega); clear hc5
            have q1 := eq_true (show (n : Int) ≤ (xs.length : Int) by omega)
            obtain ⟨A3, hA3⟩ : ∃ A3, A3 = some ad3 := ⟨_, rfl⟩
            obtain ⟨Z8, hZ8⟩ : ∃ Z8, Z8 = U.drew := ⟨_, rfl⟩
            have HQ8 := Aside0.mk (show Below wo.heap.size wo Z8 by rw [hZ8]; exact HU.out.drew)
            have hS : S3 (ad.add (i * 3)) (.string x.f0) ⟨(ad.add (i * 3)).block, (ad.add (i * 3)).off + 1, none⟩ (.string x.f1) ⟨(ad.add (i * 3)).block, (ad.add (i * 3)).off + 2, none⟩ (.int .i64 x.f2) Z8 := ⟨cell_two HB.out HQ8.out HX0.out, cell_two HB.out HQ8.out HX1.out, cell_two HB.out HQ8.out HX2.out⟩
            refine (wpIn_wide (n := 9)).1 ?_
            refine Held.region 14 (S3 (ad.add (i * 3)) (.string x.f0) ⟨(ad.add (i * 3)).block, (ad.add (i * 3)).off + 1, none⟩ (.string x.f1) ⟨(ad.add (i * 3)).block, (ad.add (i * 3)).off + 2, none⟩ (.int .i64 x.f2)) (by kernel_rfl) ?_
            rw [← hZ8]
            clear hZ8
            refine tkd (i := 0) rfl hS ?_
            try simp only [Act.put, List.setIfInBounds_toArray, List.set_cons_zero, List.set_cons_succ]
            refine tkd (i := 1) rfl hS ?_
            try simp only [Act.put, List.setIfInBounds_toArray, List.set_cons_zero, List.set_cons_succ]
            refine tkd (i := 2) rfl hS ?_
            try simp only [Act.put, List.setIfInBounds_toArray, List.set_cons_zero, List.set_cons_succ]
            refine tkd (i := 4) rfl hS ?_
            try simp only [Act.put, List.setIfInBounds_toArray, List.set_cons_zero, List.set_cons_succ]
            refine tkd (i := 5) rfl hS ?_
            try simp only [Act.put, List.setIfInBounds_toArray, List.set_cons_zero, List.set_cons_succ]
            refine tkd (i := 6) rfl hS ?_
            try simp only [Act.put, List.setIfInBounds_toArray, List.set_cons_zero, List.set_cons_succ]
            refine tkd (i := 7) rfl hS ?_
            try simp only [Act.put, List.setIfInBounds_toArray, List.set_cons_zero, List.set_cons_succ]
            refine tkd (i := 10) rfl hS ?_
            try simp only [Act.put, List.setIfInBounds_toArray, List.set_cons_zero, List.set_cons_succ]
            refine tkd (i := 11) rfl hS ?_
            try simp only [Act.put, List.setIfInBounds_toArray, List.set_cons_zero, List.set_cons_succ]
            refine tkd (i := 12) rfl hS ?_
            try simp only [Act.put, List.setIfInBounds_toArray, List.set_cons_zero, List.set_cons_succ]
            obtain ⟨ix, hOx, hRx⟩ := prow_of_R HO.out
            have HOX := Aside0.mk (pw_own_below hOx HQ8.out)
            have HRX := Aside0.mk hRx
            have HB8 := Aside0.mk (below_step HB.out HQ8.out)
            have HD := Aside0.mk (Below.refl Z8.heap.size Z8)
            have HS := Aside0.mk (fun w' (h : Below Z8.heap.size Z8 w') => (show S3 (ad.add (i * 3)) (.string x.f0) ⟨(ad.add (i * 3)).block, (ad.add (i * 3)).off + 1, none⟩ (.string x.f1) ⟨(ad.add (i * 3)).block, (ad.add (i * 3)).off + 2, none⟩ (.int .i64 x.f2) w' from ⟨(h.cell (World.block_lt_of_cell? Z8 _ hS.1)).trans hS.1, (h.cell (World.block_lt_of_cell? Z8 _ hS.2.1)).trans hS.2.1, (h.cell (World.block_lt_of_cell? Z8 _ hS.2.2)).trans hS.2.2⟩))
            have q8_ : n ≤ xs.length := hn
            have q7_ : xs.length ≤ c3 := (Kd.R_reads' HO.out).2.1
            clear hOx hRx hS q0 q1 q5 q6 q7 q8
            refine Held.AnyS.step2 (i := 3) (j := 8) rfl rfl (by kernel_rfl) rfl rfl (fun K hK => ?_) (fun K hK => ?_)
            · have ho := pw_own_below HOX.out HD.out
              refine Held.append_any (.const (.slice none 0 0)) (.tmp 35) 29 rfl Z8.heap.size 35 (.agg #[.string ⟨#[]⟩, .string ⟨#[]⟩, .int .i64 0]) 3 40 Try.underlying29 (by kernel_rfl) rfl (by omega) (.slice none 0 0) 0 [] rfl (own_nil _ _ _ _) (some ad3) n c3 (ix.take (n * 3)) rfl (take_len ho q8_) (news_take ho q8_) ?_ ?_ ?_ ?_ ?_
              · exact fun u hu => encS_one HRX.out u (List.mem_of_mem_take hu)
              · have := HLN.out; simp only [maxLen]; omega
              · have := HLN.out; omega
              · have := HD.out.size; omega
              intro v y1 hown hgr hat
              have hown : y1.ownsRow Z8.heap.size 35 3 v n (ix.take (n * 3)) := by rw [Nat.zero_add, List.nil_append] at hown; exact hown
              obtain ⟨A2, c2, rfl⟩ := own_slice hown
              have hD : Below Z8.heap.size Z8 y1 := HD.out.grown hgr HD.out.size (fun k hk => by simp [Value.ownBlock] at hk)
              refine hK.out _ _ (fun _ => HS.out _ hD) ?_
              have HO_ := Aside0.mk hown
              have HD_ := Aside0.mk hD
              clear HD
              have HD := HD_
              have HO8 := HO_
              clear HO_ HD_ hK K hown hgr hat hD ho
              try simp only [Act.put, List.setIfInBounds_toArray, List.set_cons_zero, List.set_cons_succ]
              refine Held.AnyS.step (i := 8) rfl (by kernel_rfl) rfl (fun K hK => ?_)
              go_simp
              first | refine ⟨trivial, ?_⟩ | skip
              obtain ⟨y2, hy⟩ : ∃ V, V = y1.alloc (.cells #[.string x.f0, .string x.f1, .int .i64 x.f2] 35) := ⟨_, rfl⟩
              have hD : Below Z8.heap.size Z8 y2 := by rw [hy]; exact HD.out.alloc HD.out.size _
              have hw : Below y1.heap.size y1 y2 := by rw [hy]; exact (Below.refl _ _).alloc (Nat.le_refl _) _
              have hN : y2.heap[y1.heap.size]? = some (.cells #[.string x.f0, .string x.f1, .int .i64 x.f2] 35 (0, 0)) := by rw [hy]; exact heap_alloc_new y1 _
              rw [← hy]
              refine hK.out _ _ (fun _ => HS.out _ hD) ?_
              obtain ⟨b8, hbn⟩ : ∃ b, y1.heap.size = b := ⟨_, rfl⟩
              have HO_ := Aside0.mk (pw_own_below HO8.out hw)
              have HNE := Aside0.mk (show some b8 ≠ (Value.slice A2 n c2).ownBlock from fun e => by have := own_lt HO8.out b8 e.symm; omega)
              clear HO8
              have HO8 := HO_
              clear HO_
              rw [hbn] at hN ⊢
              have HBX := Aside0.mk hN
              have HD_ := Aside0.mk hD
              clear HD
              have HD := HD_
              clear hK K hbn hw hD hN hy HD_
              try simp only [Act.put, List.setIfInBounds_toArray, List.set_cons_zero, List.set_cons_succ]
              refine Held.AnyS.step (i := 9) rfl (by kernel_rfl) rfl (fun K hK => ?_)
              have nw : ∀ j u, [.string x.f0, .string x.f1, .int .i64 x.f2][j]? = some u → y2.cell? ((⟨b8, 0, none⟩ : Addr).add j) = some u := by simpa using World.news_of_block (cs := #[.string x.f0, .string x.f1, .int .i64 x.f2]) (t := 35) (fr := (0, 0)) HBX.out
              refine Held.append_any (.tmp 36) (.tmp 41) 29 rfl Z8.heap.size 35 (.agg #[.string ⟨#[]⟩, .string ⟨#[]⟩, .int .i64 0]) 3 40 Try.underlying29 (by kernel_rfl) rfl (by omega) (.slice A2 n c2) n (ix.take (n * 3)) rfl HO8.out (some ⟨b8, 0, none⟩) 1 1 [.string x.f0, .string x.f1, .int .i64 x.f2] rfl rfl (.inr ⟨_, rfl, nw⟩) ?_ ?_ ?_ ?_ ?_
              · intro u hu; simp at hu; rcases hu with rfl | rfl | rfl <;> rfl
              · have := HLN.out; simp only [maxLen]; omega
              · have := HLN.out; omega
              · have := HD.out.size; omega
              intro v y3 hown hgr hat
              have hown : y3.ownsRow Z8.heap.size 35 3 v (n + 1) (ix.take (n * 3) ++ [.string x.f0, .string x.f1, .int .i64 x.f2]) := hown
              obtain ⟨A4, c4, rfl⟩ := own_slice hown
              have hD : Below Z8.heap.size Z8 y3 := HD.out.grown hgr HD.out.size (fun k hk => own_base HO8.out k hk)
              refine hK.out _ _ (fun _ => HS.out _ hD) ?_
              have HO_ := Aside0.mk hown
              have HD_ := Aside0.mk hD
              clear HD
              have HD := HD_
              clear HO8
              have HO8 := HO_
              clear HO_ HD_ hK K hown hgr hat hD nw
              try simp only [Act.put, List.setIfInBounds_toArray, List.set_cons_zero, List.set_cons_succ]
              refine Held.AnyS.step (i := 13) rfl (by kernel_rfl) rfl (fun K hK => ?_)
              have ho := pw_own_below HOX.out HD.out
              refine Held.append_any (.tmp 42) (.tmp 45) 29 rfl Z8.heap.size 35 (.agg #[.string ⟨#[]⟩, .string ⟨#[]⟩, .int .i64 0]) 3 40 Try.underlying29 (by kernel_rfl) rfl (by omega) (.slice A4 (n + 1) c4) (n + 1) (ix.take (n * 3) ++ [.string x.f0, .string x.f1, .int .i64 x.f2]) rfl HO8.out (if c3 = n then (some ad3) else Option.map (fun x => x.add (n * 3)) (some ad3)) (xs.length - n) (c3 - n) (ix.drop (n * 3)) rfl (drop_len ho q8_) (news_drop ho q8_ q7_) ?_ ?_ ?_ ?_ ?_
              · exact fun u hu => encS_one HRX.out u (List.mem_of_mem_drop hu)
              · have := HLN.out; simp only [maxLen]; omega
              · have := HLN.out; omega
              · have := HD.out.size; omega
              intro v y4 hown hgr hat
              have hown : y4.ownsRow Z8.heap.size 35 3 v (n + 1 + (xs.length - n)) (ix.take (n * 3) ++ [.string x.f0, .string x.f1, .int .i64 x.f2] ++ ix.drop (n * 3)) := hown
              obtain ⟨A7, c7, rfl⟩ := own_slice hown
              have hD : Below Z8.heap.size Z8 y4 := HD.out.grown hgr HD.out.size (fun k hk => own_base HO8.out k hk)
              refine hK.out _ _ (fun _ => HS.out _ hD) ?_
              have HO_ := Aside0.mk hown
              have HD_ := Aside0.mk hD
              clear HD
              have HD := HD_
              clear HO8
              have HO8 := HO_
              clear HO_ HD_ hK K hown hgr hat hD ho
              try simp only [Act.put, List.setIfInBounds_toArray, List.set_cons_zero, List.set_cons_succ]
              refine Held.AnyS.step (i := 14) rfl (by kernel_rfl) rfl (fun K hK => ?_)
              go_simp
              refine hK.out _ _ (fun h => absurd h (by omega)) ?_
              clear hK K
              refine Held.AnyS.done (by kernel_rfl) ?_ _
              go_simp
              go_wp2
              have HF := Aside0.mk (ins_row HN.out HRX.out (own_less HO8.out HB8.out.size) q8_)
              have HBF := Aside0.mk (below_step HB8.out HD.out)
              exact ⟨⟨i + 1, ins xs x, by simp, by omega, ⟨HTK.out.symm⟩, HF, HBF⟩, by simp [intOf]; omega⟩
            · go_simp
              first | refine ⟨trivial, ?_⟩ | skip
              obtain ⟨y1, hy⟩ : ∃ V, V = Z8.alloc (.cells #[.string x.f0, .string x.f1, .int .i64 x.f2] 35) := ⟨_, rfl⟩
              have hD : Below Z8.heap.size Z8 y1 := by rw [hy]; exact HD.out.alloc HD.out.size _
              have hw : Below Z8.heap.size Z8 y1 := by rw [hy]; exact (Below.refl _ _).alloc (Nat.le_refl _) _
              have hN : y1.heap[Z8.heap.size]? = some (.cells #[.string x.f0, .string x.f1, .int .i64 x.f2] 35 (0, 0)) := by rw [hy]; exact heap_alloc_new Z8 _
              rw [← hy]
              refine hK.out _ _ (fun _ => HS.out _ hD) ?_
              obtain ⟨b8, hbn⟩ : ∃ b, Z8.heap.size = b := ⟨_, rfl⟩
              rw [hbn] at hN ⊢
              have HBX := Aside0.mk hN
              have HD_ := Aside0.mk hD
              clear HD
              have HD := HD_
              clear hK K hbn hw hD hN hy HD_
              try simp only [Act.put, List.setIfInBounds_toArray, List.set_cons_zero, List.set_cons_succ]
              refine Held.AnyS.step (i := 3) rfl (by kernel_rfl) rfl (fun K hK => ?_)
              have ho := pw_own_below HOX.out HD.out
              refine Held.append_any (.const (.slice none 0 0)) (.tmp 35) 29 rfl Z8.heap.size 35 (.agg #[.string ⟨#[]⟩, .string ⟨#[]⟩, .int .i64 0]) 3 40 Try.underlying29 (by kernel_rfl) rfl (by omega) (.slice none 0 0) 0 [] rfl (own_nil _ _ _ _) (some ad3) n c3 (ix.take (n * 3)) rfl (take_len ho q8_) (news_take ho q8_) ?_ ?_ ?_ ?_ ?_
              · exact fun u hu => encS_one HRX.out u (List.mem_of_mem_take hu)
              · have := HLN.out; simp only [maxLen]; omega
              · have := HLN.out; omega
              · have := HD.out.size; omega
              intro v y2 hown hgr hat
              have hown : y2.ownsRow Z8.heap.size 35 3 v n (ix.take (n * 3)) := by rw [Nat.zero_add, List.nil_append] at hown; exact hown
              obtain ⟨A2, c2, rfl⟩ := own_slice hown
              have hD : Below Z8.heap.size Z8 y2 := HD.out.grown hgr HD.out.size (fun k hk => by simp [Value.ownBlock] at hk)
              refine hK.out _ _ (fun _ => HS.out _ hD) ?_
              have HB_ := Aside0.mk ((hgr.block _ (blk_lt HBX.out) (by simp [Value.ownBlock])).trans HBX.out)
              have HNE := Aside0.mk (show some b8 ≠ (Value.slice A2 n c2).ownBlock from by rcases hat with hat | hat <;> rw [hat]; exact (by simp [Value.ownBlock]); exact fun e => by injection e with e; have := blk_lt HBX.out; omega)
              clear HBX
              have HBX := HB_
              clear HB_
              have HO_ := Aside0.mk hown
              have HD_ := Aside0.mk hD
              clear HD
              have HD := HD_
              have HO8 := HO_
              clear HO_ HD_ hK K hown hgr hat hD ho
              try simp only [Act.put, List.setIfInBounds_toArray, List.set_cons_zero, List.set_cons_succ]
              refine Held.AnyS.step (i := 9) rfl (by kernel_rfl) rfl (fun K hK => ?_)
              have nw : ∀ j u, [.string x.f0, .string x.f1, .int .i64 x.f2][j]? = some u → y2.cell? ((⟨b8, 0, none⟩ : Addr).add j) = some u := by simpa using World.news_of_block (cs := #[.string x.f0, .string x.f1, .int .i64 x.f2]) (t := 35) (fr := (0, 0)) HBX.out
              refine Held.append_any (.tmp 36) (.tmp 41) 29 rfl Z8.heap.size 35 (.agg #[.string ⟨#[]⟩, .string ⟨#[]⟩, .int .i64 0]) 3 40 Try.underlying29 (by kernel_rfl) rfl (by omega) (.slice A2 n c2) n (ix.take (n * 3)) rfl HO8.out (some ⟨b8, 0, none⟩) 1 1 [.string x.f0, .string x.f1, .int .i64 x.f2] rfl rfl (.inr ⟨_, rfl, nw⟩) ?_ ?_ ?_ ?_ ?_
              · intro u hu; simp at hu; rcases hu with rfl | rfl | rfl <;> rfl
              · have := HLN.out; simp only [maxLen]; omega
              · have := HLN.out; omega
              · have := HD.out.size; omega
              intro v y3 hown hgr hat
              have hown : y3.ownsRow Z8.heap.size 35 3 v (n + 1) (ix.take (n * 3) ++ [.string x.f0, .string x.f1, .int .i64 x.f2]) := hown
              obtain ⟨A4, c4, rfl⟩ := own_slice hown
              have hD : Below Z8.heap.size Z8 y3 := HD.out.grown hgr HD.out.size (fun k hk => own_base HO8.out k hk)
              refine hK.out _ _ (fun _ => HS.out _ hD) ?_
              have HO_ := Aside0.mk hown
              have HD_ := Aside0.mk hD
              clear HD
              have HD := HD_
              clear HO8
              have HO8 := HO_
              clear HO_ HD_ hK K hown hgr hat hD nw
              try simp only [Act.put, List.setIfInBounds_toArray, List.set_cons_zero, List.set_cons_succ]
              refine Held.AnyS.step (i := 13) rfl (by kernel_rfl) rfl (fun K hK => ?_)
              have ho := pw_own_below HOX.out HD.out
              refine Held.append_any (.tmp 42) (.tmp 45) 29 rfl Z8.heap.size 35 (.agg #[.string ⟨#[]⟩, .string ⟨#[]⟩, .int .i64 0]) 3 40 Try.underlying29 (by kernel_rfl) rfl (by omega) (.slice A4 (n + 1) c4) (n + 1) (ix.take (n * 3) ++ [.string x.f0, .string x.f1, .int .i64 x.f2]) rfl HO8.out (if c3 = n then (some ad3) else Option.map (fun x => x.add (n * 3)) (some ad3)) (xs.length - n) (c3 - n) (ix.drop (n * 3)) rfl (drop_len ho q8_) (news_drop ho q8_ q7_) ?_ ?_ ?_ ?_ ?_
              · exact fun u hu => encS_one HRX.out u (List.mem_of_mem_drop hu)
              · have := HLN.out; simp only [maxLen]; omega
              · have := HLN.out; omega
              · have := HD.out.size; omega
              intro v y4 hown hgr hat
              have hown : y4.ownsRow Z8.heap.size 35 3 v (n + 1 + (xs.length - n)) (ix.take (n * 3) ++ [.string x.f0, .string x.f1, .int .i64 x.f2] ++ ix.drop (n * 3)) := hown
              obtain ⟨A7, c7, rfl⟩ := own_slice hown
              have hD : Below Z8.heap.size Z8 y4 := HD.out.grown hgr HD.out.size (fun k hk => own_base HO8.out k hk)
              refine hK.out _ _ (fun _ => HS.out _ hD) ?_
              have HO_ := Aside0.mk hown
              have HD_ := Aside0.mk hD
              clear HD
              have HD := HD_
              clear HO8
              have HO8 := HO_
              clear HO_ HD_ hK K hown hgr hat hD ho
              try simp only [Act.put, List.setIfInBounds_toArray, List.set_cons_zero, List.set_cons_succ]
              refine Held.AnyS.step (i := 14) rfl (by kernel_rfl) rfl (fun K hK => ?_)
              go_simp
              refine hK.out _ _ (fun h => absurd h (by omega)) ?_
              clear hK K
              refine Held.AnyS.done (by kernel_rfl) ?_ _
              go_simp
              go_wp2
              have HF := Aside0.mk (ins_row HN.out HRX.out (own_less HO8.out HB8.out.size) q8_)
              have HBF := Aside0.mk (below_step HB8.out HD.out)
              exact ⟨⟨i + 1, ins xs x, by simp, by omega, ⟨HTK.out.symm⟩, HF, HBF⟩, by simp [intOf]; omega⟩
    · have cb : decide ((i : Int) < (l0.length : Int)) = false := decide_eq_false (by omega)
      have cb' : decide (i < l0.length) = false := decide_eq_false ci
      obtain rfl : i = l0.length := by omega
      have HXE := Aside0.mk (show xs = isort l0 by have h := HXS.out; rw [List.take_length] at h; exact h)
      clear HXS
      go_wp2
      go_ret
      exact ⟨_, rfl, by rw [← HXE.out]; exact HO.out, HB.out⟩
end Go.Proofs.Ytcgnkbdfoaiaiaa.P
end
section
/- collatorref08.sorted: its contract, as the print asks for it. -/
set_option linter.unusedVariables false
namespace Go.Proofs.Ytcgnkbdfoaiaiaa.P
open Go Go.RowKit Go.Proofs.YtcgnkbdfoaiaiaaW.PrintWords Go.Proofs.YtcgnkbdfoaiaiaaW.PrintLast Go.Proofs.YtcgnkbdfoaiaiaaW.PrintMore Go.Proofs.Ytcgnkbdfoaiaiaa.Q
def SortOk (l : List S35) : Prop := l.length ≤ 1000000 ∧ ∀ x ∈ l, x.f1.size ≤ 3000000
instance (l : List S35) : Decidable (SortOk l) := by unfold SortOk; infer_instance
def collatorref08_sorted.f (l0 : List S35) : Option (List S35) := if SortOk l0 then some (isort l0) else none
theorem collatorref08_sorted.calls (A0 : Option Addr) (c0 : Nat) (l0 : List S35) (r : List S35) (w : World) (hr0 : Kd.C k35 w A0 l0.length l0) (hc0 : l0.length ≤ c0) (h : collatorref08_sorted.f l0 = some r) :
    Calls Try.prog 23 #[.slice A0 l0.length c0] w fun e w' => ∃ v0_ : Value, e = .returned (v0_) ∧ Kd.R k35 35 w' w.heap.size (fun _ => True) v0_ r ∧ Below w.heap.size w w' := by
  unfold collatorref08_sorted.f at h
  split at h
  · rename_i hh
    obtain rfl := Option.some.inj h
    exact sorted_run A0 c0 l0 w hr0 hc0 hh.1 hh.2
  · cases h
end Go.Proofs.Ytcgnkbdfoaiaiaa.P
end
