/- Laid for this claim by hp.py, this session's program round the kit's print: functions of the program as plain Lean functions, the proofs that the code comes to their answers, and the rows of the laws. Not trusted: Lean checks it. -/
import Derived.Test.YtgobidmfbjmpkaaPx0
import Derived.Test.YtgobidmfbjmpkaaHShr
import Derived.Test.YtgobidmfbjmpkaaPxf45
namespace Go.Proofs.Ytgobidmfbjmpkaa.P
open Go.RowKit Go.Proofs.YtgobidmfbjmpkaaW.PrintWords Go.Proofs.YtgobidmfbjmpkaaW.PrintLast Go.Proofs.YtgobidmfbjmpkaaW.PrintMore
attribute [local go_sem] max2_int min2_int max_two min_two max_three min_three max_four min_four   -- for this text's walks alone
set_option linter.unusedVariables false
set_option linter.unusedSimpArgs false

/-! ### collatorlaw03_Lines: function 21 -/
def collatorlaw03_Lines.l0 : Nat → List Int → Int → List ByteArray → List ByteArray → Int → Option (List ByteArray)
 | 0, _, _, _, _, _ => none
 | k + 1, x0, x1, x5, x6, x7 => if x7 < (x0.length : Int) then (if x7 < x1 then (if 0 ≤ x7 then ((collatorlaw03_pick.f (rd x0 x7) 5).bind fun t435 => (if 0 ≤ t435 then (if t435 < (x5.length : Int) then (if x6.length < 8796093022208 then (collatorlaw03_Lines.l0 k x0 x1 x5 (x6 ++ [rdOf ByteArray.empty x5 t435]) (wrap64 (x7 + 1))) else (none)) else (none)) else (none))) else (none)) else (if (x6.length : Int) > 0 then (if 0 ≤ (wrap64 ((x6.length : Int) - 1)) then (if (wrap64 ((x6.length : Int) - 1)) < (x0.length : Int) then ((collatorlaw03_pick.f (rd x0 (wrap64 ((x6.length : Int) - 1))) 7).bind fun t441 => (if t441 = 6 then (if (wrap64 ((x6.length : Int) - 1)) < (x6.length : Int) then (some (x6.set ((wrap64 ((x6.length : Int) - 1)) : Int).toNat (⟨#[101, 110, 100]⟩ : ByteArray))) else (none)) else (some x6))) else (none)) else (none)) else (some x6))) else (if (x6.length : Int) > 0 then (if 0 ≤ (wrap64 ((x6.length : Int) - 1)) then (if (wrap64 ((x6.length : Int) - 1)) < (x0.length : Int) then ((collatorlaw03_pick.f (rd x0 (wrap64 ((x6.length : Int) - 1))) 7).bind fun t444 => (if t444 = 6 then (if (wrap64 ((x6.length : Int) - 1)) < (x6.length : Int) then (some (x6.set ((wrap64 ((x6.length : Int) - 1)) : Int).toNat (⟨#[101, 110, 100]⟩ : ByteArray))) else (none)) else (some x6))) else (none)) else (none)) else (some x6))
def collatorlaw03_Lines.f (k : Nat) (l0 : List Int) (a1 : Int) : Option (List ByteArray) := collatorlaw03_Lines.l0 k l0 a1 (([(⟨#[97, 10]⟩ : ByteArray), (⟨#[98, 10]⟩ : ByteArray), (⟨#[99, 10]⟩ : ByteArray), (⟨#[10]⟩ : ByteArray), (⟨#[108, 111, 110, 103, 10]⟩ : ByteArray)] : List ByteArray)) ([] : List ByteArray) 0
theorem collatorlaw03_Lines.mono_l : ∀ k, (∀ y0 y1 y2 y3 y4, LeO (collatorlaw03_Lines.l0 k y0 y1 y2 y3 y4) (collatorlaw03_Lines.l0 (k + 1) y0 y1 y2 y3 y4))
 | 0 => fun _ _ _ _ _ r h => by simp [collatorlaw03_Lines.l0] at h
 | k + 1 => by
  have ih0 := collatorlaw03_Lines.mono_l k
  ·intro y0 y1 y2 y3 y4
   unfold collatorlaw03_Lines.l0
   repeat' first
   | (with_reducible exact ih0 _ _ _ _ _)
   | (with_reducible exact LeO.refl _)
   | (with_reducible exact LeO.none _)
   | (with_reducible refine LeO.ite ?_ ?_)
   | (with_reducible refine LeO.bind ?_ (fun _ => ?_))
   | exact ih0 _ _ _ _ _
   | exact LeO.none _
   | refine LeO.ite ?_ ?_
   | refine LeO.bind ?_ (fun _ => ?_)
theorem collatorlaw03_Lines.mono : ∀ a0 a1 k, LeO (collatorlaw03_Lines.f k a0 a1) (collatorlaw03_Lines.f (k + 1) a0 a1) := by
 intro a0 a1 k
 have ih0 := collatorlaw03_Lines.mono_l k
 unfold collatorlaw03_Lines.f
 repeat' first
   | (with_reducible exact ih0 _ _ _ _ _)
   | (with_reducible exact LeO.refl _)
   | (with_reducible exact LeO.none _)
   | (with_reducible refine LeO.ite ?_ ?_)
   | (with_reducible refine LeO.bind ?_ (fun _ => ?_))
   | exact ih0 _ _ _ _ _
   | exact LeO.none _
   | refine LeO.ite ?_ ?_
   | refine LeO.bind ?_ (fun _ => ?_)
set_option maxHeartbeats 8000000 in
set_option maxRecDepth 100000 in
theorem collatorlaw03_Lines.calls (k : Nat) (A0 : Option Addr) (c0 : Nat) (l0 : List Int) (a1 : Int) (r : List ByteArray) (w : World) (hr0 : Kd.C (Kd.int .i64) w A0 l0.length l0) (hc0 : l0.length ≤ c0) (h : collatorlaw03_Lines.f k l0 a1 = some r) :
  Calls Try.prog 21 #[.slice A0 l0.length c0, .int .i64 a1] w fun e w' => ∃ v0_ : Value, e = .returned (v0_) ∧ Kd.R Kd.string 9 w' w.heap.size (fun _ => True) v0_ r ∧ Below w.heap.size w w' := by
 have HR0 := Aside0.mk hr0
 have HC0 := Aside0.mk hc0
 clear hr0 hc0
 have HB := Aside0.mk (Below.refl w.heap.size w)
 have H : (collatorlaw03_Lines.l0 k l0 a1 (([(⟨#[97, 10]⟩ : ByteArray), (⟨#[98, 10]⟩ : ByteArray), (⟨#[99, 10]⟩ : ByteArray), (⟨#[10]⟩ : ByteArray), (⟨#[108, 111, 110, 103, 10]⟩ : ByteArray)] : List ByteArray)) ([] : List ByteArray) 0) = some r := h
 clear h
 obtain ⟨y431, hy431⟩ : ∃ y_ : List ByteArray, y_ = (([(⟨#[97, 10]⟩ : ByteArray), (⟨#[98, 10]⟩ : ByteArray), (⟨#[99, 10]⟩ : ByteArray), (⟨#[10]⟩ : ByteArray), (⟨#[108, 111, 110, 103, 10]⟩ : ByteArray)] : List ByteArray)) := ⟨_, rfl⟩
 replace H : (collatorlaw03_Lines.l0 k l0 a1 y431 ([] : List ByteArray) 0) = some r := by first | (rw [hy431]; with_reducible exact H) | (have H2_ := (Option.bind_some _ _).symm.trans H; rw [hy431]; with_reducible exact H2_) | (have H2_ := (Option.bind_some _ _).symm.trans H; with_reducible exact H2_) | with_reducible exact H | (rw [hy431]; exact H) | exact H
 have Ny431 := Aside0.mk hy431
 clear hy431
 have H' := Aside0.mk H
 clear H
 go_enter Try.func21, Try.ntmps21
 go_wp2_with (first | ((with_reducible refine gate_dst (N := 8) rfl ?_); (try (refine gate_guard (by rfl) ?_; dsimp only)); refine Kd.R_lit Kd.string _ 9 ?hg (N := 8) ?hd (xs := ([(⟨#[97, 10]⟩ : ByteArray), (⟨#[98, 10]⟩ : ByteArray), (⟨#[99, 10]⟩ : ByteArray), (⟨#[10]⟩ : ByteArray), (⟨#[108, 111, 110, 103, 10]⟩ : ByteArray)] : List ByteArray)) (inner := [.string (⟨#[97, 10]⟩ : ByteArray), .string (⟨#[98, 10]⟩ : ByteArray), .string (⟨#[99, 10]⟩ : ByteArray), .string (⟨#[10]⟩ : ByteArray), .string (⟨#[108, 111, 110, 103, 10]⟩ : ByteArray)]) (ok := fun _ => True) (okp := fun _ => True) ?hr ?hp (fun _ hk => hk) trivial (Below.refl _ _) (Nat.le_refl _) (by simp) ?_; (case hd => rfl); (case hg => rfl); (case hr => first | (go_simp; done) | (go_simp; rfl)); (case hp => exact (Reps.one (show Kd.M Kd.string _ _ _ (⟨#[97, 10]⟩ : ByteArray) [.string (⟨#[97, 10]⟩ : ByteArray)] from rfl) (Reps.one (show Kd.M Kd.string _ _ _ (⟨#[98, 10]⟩ : ByteArray) [.string (⟨#[98, 10]⟩ : ByteArray)] from rfl) (Reps.one (show Kd.M Kd.string _ _ _ (⟨#[99, 10]⟩ : ByteArray) [.string (⟨#[99, 10]⟩ : ByteArray)] from rfl) (Reps.one (show Kd.M Kd.string _ _ _ (⟨#[10]⟩ : ByteArray) [.string (⟨#[10]⟩ : ByteArray)] from rfl) (Reps.one (show Kd.M Kd.string _ _ _ (⟨#[108, 111, 110, 103, 10]⟩ : ByteArray) [.string (⟨#[108, 111, 110, 103, 10]⟩ : ByteArray)] from rfl) (Reps.none _ _))))))); intro v432 w3 ho4 hb hg_ hnew_; clear hg_ hnew_; (first | rw [← Ny431.out] at ho4 | (simp only [Int.reduceToNat] at ho4; rw [← Ny431.out] at ho4)); have n0_ := Aside0.mk (Kd.R_lower ho4 (below_size hb_)); have n1_ := Aside0.mk (below_step hb_ hb); clear HB; have HO433 := n0_; have HB := n1_; clear n0_ n1_; clear hb ho4))
 go_loopg [6, 7] k (fun kq v6 v7 w' => ∃ (x6_1 : List ByteArray) (x7_1 : Int), v7 = .int .i64 x7_1 ∧ Aside0 (collatorlaw03_Lines.l0 kq l0 a1 y431 x6_1 x7_1 = some r) ∧ Aside0 (kq ≤ k) ∧ Aside0 (Kd.R Kd.string 9 w' w.heap.size (fun k_ => some k_ ≠ (v6 : Value).ownBlock) v432 y431) ∧ Aside0 (Kd.R Kd.string 9 w' w.heap.size (fun k_ => some k_ ≠ (v432 : Value).ownBlock) v6 x6_1) ∧ Aside0 (Below w.heap.size w w'))
 case atStart => exact ⟨(([] : List ByteArray)), (0), rf_, H', ⟨Nat.le_refl _⟩, ⟨by (with_reducible repeat (first | apply Kd.R_alloc | apply Kd.R_drewN | apply Kd.R_drew)); exact Kd.R_mono HO433.out (fun _ hk => (by simp [Value.ownBlock]))⟩, ⟨by first | exact Kd.R_nil _ _ _ _ _ | exact Kd.N_nil _ _ _ _ _ | exact Kd.V_nil _ _ _ _ _ | exact Kd.Q_nil _ _ _ _ _ | exact Kd.S_nil _ _ _ _ _⟩, ⟨by repeat (first | (with_reducible first | exact HB.out | apply below_alloc | apply pw_below_drewN | apply below_drew1) | exact HB.out)⟩⟩
 case round =>
  clear H'
  (try clear c2);(try clear p2)
  obtain ⟨x6_1, x7_1, rfl, HA, HK1, HO_5, HO_6, HB⟩ := hrel
  cases gk with
  | zero => exact absurd HA.out (by simp [collatorlaw03_Lines.l0])
  | succ k1 =>
   have H := HA.out
   clear HA
   simp only [collatorlaw03_Lines.l0] at H
   by_cases c5 : x7_1 < (l0.length : Int)
   ·rw [if_pos c5] at H
    have c5b0 : decide (x7_1 < (l0.length : Int)) = true := decide_eq_true c5
    clear c5
    by_cases c6 : x7_1 < a1
    ·rw [if_pos c6] at H
     have c6b0 : decide (x7_1 < a1) = true := decide_eq_true c6
     clear c6
     by_cases c7 : 0 ≤ x7_1
     ·rw [if_pos c7] at H
      have c7b0 : decide (0 ≤ x7_1) = true := decide_eq_true c7
      clear c7
      replace H := Option.bind_eq_some_iff.mp H
      obtain ⟨t435, A80, H⟩ := H
      replace H : (if 0 ≤ t435 then (if t435 < (y431.length : Int) then (if x6_1.length < 8796093022208 then (collatorlaw03_Lines.l0 k1 l0 a1 y431 (x6_1 ++ [rdOf ByteArray.empty y431 t435]) (wrap64 (x7_1 + 1))) else (none)) else (none)) else (none)) = some r := H
      have A8 := Aside0.mk A80
      clear A80
      by_cases c9 : 0 ≤ t435
      ·rw [if_pos c9] at H
       have c9b0 : decide (0 ≤ t435) = true := decide_eq_true c9
       clear c9
       by_cases c10 : t435 < (y431.length : Int)
       ·rw [if_pos c10] at H
        have c10b0 : decide (t435 < (y431.length : Int)) = true := decide_eq_true c10
        clear c10
        by_cases c11 : x6_1.length < 8796093022208
        ·rw [if_pos c11] at H
         have LMc11 := Aside0.mk c11
         clear c11
         obtain ⟨y437, hy437⟩ : ∃ y_ : List ByteArray, y_ = (x6_1 ++ [rdOf ByteArray.empty y431 t435]) := ⟨_, rfl⟩
         replace H : (collatorlaw03_Lines.l0 k1 l0 a1 y431 y437 (wrap64 (x7_1 + 1))) = some r := by first | (rw [hy437]; with_reducible exact H) | (have H2_ := (Option.bind_some _ _).symm.trans H; rw [hy437]; with_reducible exact H2_) | (have H2_ := (Option.bind_some _ _).symm.trans H; with_reducible exact H2_) | with_reducible exact H | (rw [hy437]; exact H) | exact H
         have Ny437 := Aside0.mk hy437
         clear hy437
         have H' := Aside0.mk H
         clear H
         have p434 : 0 ≤ (x7_1 : Int) := of_decide_eq_true as_
         have q434 : x7_1 < (l0.length : Int) := of_decide_eq_true as_
         obtain ⟨ad434, e434, hx434_0⟩ := Kd.at_int HR0.out x7_1 p434 q434
         cases e434
         replace hx434_0 := (HB.out.cell (World.block_lt_of_cell? w _ hx434_0)).trans hx434_0
         replace p434 := eq_true p434
         replace q434 := eq_true q434
         go_wp2_with (first | ((with_reducible refine gate_callee (f := 45) rfl ?_); refine goesL_ (some 26) rfl rfl Try.func45 (by kernel_rfl) rfl #[.int .i64 (rd l0 x7_1), .int .i64 5] rfl mp_ ?_; (with_reducible refine (collatorlaw03_pick.calls (rd l0 x7_1) 5 t435 _ A8.out).mono ?_); rintro e w' ⟨rfl, ⟨nd, rfl⟩⟩; refine ⟨_, rfl, ?_⟩; (try (obtain ⟨Ao12, co12, eo12⟩ := Kd.R_slice HO_5.out; subst eo12)); have p436 : 0 ≤ (t435 : Int) := of_decide_eq_true as_; have q436 : t435 < (y431.length : Int) := of_decide_eq_true as_; obtain ⟨ad436, e436, hx436_0⟩ := Kd.at_string (Kd.R_reads' HO_5.out).2.2 t435 p436 q436; cases e436; replace p436 := eq_true p436; replace q436 := eq_true q436) | ((with_reducible refine gate_builtin (b := .append) (xs := #[.tmp 20, .tmp 29]) rfl ?_); (try (refine gate_guard (by rfl) ?_; dsimp only)); at_builtin; refine Kd.R_append Kd.string (w0 := w) w.heap.size rfl (.tmp 20) (.tmp 29) 29 9 (.string ⟨#[]⟩) 16 rfl Try.underlying29 info9 rfl (by decide) (by omega) u6 x6_1 (rdOf ByteArray.empty y431 t435) [.string (rdOf ByteArray.empty y431 t435)] (fun k_ => some k_ ≠ (.slice (some ad436) y431.length co12 : Value).ownBlock) (fun _ => False) rfl rfl ?aP (fun _ hk => hk.elim) ?aF ?aO ?aB ?aS ?aL ?_; (case aP => exact rfl); (case aB => exact hb_); (case aF => exact (fun k_ hk => Kd.fresh' (Kd.R_lt (by (with_reducible repeat (first | apply Kd.R_alloc | apply Kd.R_drewN | apply Kd.R_drew)); exact HO_5.out)) k_ hk)); (case aO => exact (by (with_reducible repeat (first | apply Kd.R_alloc | apply Kd.R_drewN | apply Kd.R_drew)); exact HO_6.out)); (case aS => exact (below_size hb_)); (case aL => have := LMc11.out; omega); intro v438 w13 ho hb hg hat; rw [← Ny437.out] at ho; have n0_ := Aside0.mk (Kd.R_after (ok := (fun _ => True)) (by (with_reducible repeat (first | apply Kd.R_alloc | apply Kd.R_drewN | apply Kd.R_drew)); exact Kd.R_mono HO_5.out (fun _ hk => ⟨trivial, hk⟩)) hg hat); have n1_ := Aside0.mk (hb); have n2_ := Aside0.mk (ho); clear HO_5; clear HB; clear HO_6; have HO_5 := n0_; have HB := n1_; have HO439 := n2_; clear n0_ n1_ n2_; clear ho hb hg hat))
         go_roundg k1
         case measure => have := HK1.out; omega
         case rel => exact ⟨(y437), (wrap64 (x7_1 + 1)), rf_, H', ⟨by have := HK1.out; omega⟩, ⟨by (with_reducible repeat (first | apply Kd.R_alloc | apply Kd.R_drewN | apply Kd.R_drew)); exact Kd.R_mono HO_5.out (fun _ hk => hk.2)⟩, ⟨by (with_reducible repeat (first | apply Kd.R_alloc | apply Kd.R_drewN | apply Kd.R_drew)); exact HO439.out⟩, ⟨by repeat (first | (with_reducible first | exact HB.out | apply below_alloc | apply pw_below_drewN | apply below_drew1) | exact HB.out)⟩⟩
        ·rw [if_neg c11] at H
         exact absurd H (by simp)
       ·rw [if_neg c10] at H
        exact absurd H (by simp)
      ·rw [if_neg c9] at H
       exact absurd H (by simp)
     ·rw [if_neg c7] at H
      exact absurd H (by simp)
    ·rw [if_neg c6] at H
     have c6b0 : decide (x7_1 < a1) = false := decide_eq_false c6
     clear c6
     by_cases c14 : (x6_1.length : Int) > 0
     ·rw [if_pos c14] at H
      have c14b0 : decide (0 < (x6_1.length : Int)) = true := decide_eq_true c14
      have c14b1 : decide (0 < x6_1.length) = true := decide_eq_true (by omega)
      clear c14
      obtain ⟨ji15, hji15⟩ : ∃ j_ : Int, (wrap64 ((x6_1.length : Int) - 1)) = j_ := ⟨_, rfl⟩
      replace H : (if 0 ≤ (ji15) then (if (ji15) < (l0.length : Int) then ((collatorlaw03_pick.f (rd l0 (ji15)) 7).bind fun t441 => (if t441 = 6 then (if (ji15) < (x6_1.length : Int) then (some (x6_1.set ((ji15) : Int).toNat (⟨#[101, 110, 100]⟩ : ByteArray))) else (none)) else (some x6_1))) else (none)) else (none)) = some r := by first | (rw [hji15] at H; exact H) | (simp only [hji15] at H ⊢; exact H)
      have hji15w : (IntKind.i64.wrap ((x6_1.length : Int) - 1)) = ji15 := (i64_w _).trans hji15
      by_cases c16 : 0 ≤ (ji15)
      ·rw [if_pos c16] at H
       have c16b0 : decide (0 ≤ (ji15)) = true := decide_eq_true c16
       clear c16
       by_cases c17 : (ji15) < (l0.length : Int)
       ·rw [if_pos c17] at H
        have c17b0 : decide ((ji15) < (l0.length : Int)) = true := decide_eq_true c17
        clear c17
        replace H := Option.bind_eq_some_iff.mp H
        obtain ⟨t441, A180, H⟩ := H
        replace H : (if t441 = 6 then (if (ji15) < (x6_1.length : Int) then (some (x6_1.set ((ji15) : Int).toNat (⟨#[101, 110, 100]⟩ : ByteArray))) else (none)) else (some x6_1)) = some r := H
        have A18 := Aside0.mk A180
        clear A180
        by_cases c19 : t441 = 6
        ·rw [if_pos c19] at H
         have c19b0 : (t441 == 6) = true := beq_iff_eq.mpr c19
         have c19b1 : (t441 != 6) = false := bne_eq_false_iff_eq.mpr c19
         clear c19
         by_cases c20 : (ji15) < (x6_1.length : Int)
         ·rw [if_pos c20] at H
          have c20b0 : decide ((ji15) < (x6_1.length : Int)) = true := decide_eq_true c20
          clear c20
          obtain ⟨y442, hy442⟩ : ∃ y_ : List ByteArray, y_ = (x6_1.set ((ji15) : Int).toNat (⟨#[101, 110, 100]⟩ : ByteArray)) := ⟨_, rfl⟩
          replace H : (some y442) = some r := by first | (rw [hy442]; with_reducible exact H) | (have H2_ := (Option.bind_some _ _).symm.trans H; rw [hy442]; with_reducible exact H2_) | (have H2_ := (Option.bind_some _ _).symm.trans H; with_reducible exact H2_) | with_reducible exact H | (rw [hy442]; exact H) | exact H
          have Ny442 := Aside0.mk hy442
          clear hy442
          obtain rfl := Option.some.inj H
          obtain ⟨Ao22, co22, eo22⟩ := Kd.R_slice HO_6.out
          subst eo22
          have p440 : 0 ≤ ((ji15) : Int) := of_decide_eq_true as_
          have q440 : (ji15) < (l0.length : Int) := of_decide_eq_true as_
          obtain ⟨ad440, e440, hx440_0⟩ := Kd.at_int HR0.out (ji15) p440 q440
          cases e440
          replace hx440_0 := (HB.out.cell (World.block_lt_of_cell? w _ hx440_0)).trans hx440_0
          replace p440 := eq_true p440
          replace q440 := eq_true q440
          go_wp2_with (first | (go_at_call 45; (with_reducible refine (collatorlaw03_pick.calls (rd l0 (ji15)) 7 t441 _ A18.out).mono ?_); rintro e w' ⟨rfl, ⟨nd, rfl⟩⟩; (try (rw [drewN_self wr]; generalize hq_ : World.drewN wr _ = wr; have n0_ : Aside0 (Kd.R Kd.string 9 wr w.heap.size (fun k_ => some k_ ≠ (.slice Ao22 x6_1.length co22 : Value).ownBlock) v432 y431) := ⟨by rw [← hq_]; exact (by (with_reducible repeat (first | apply Kd.R_alloc | apply Kd.R_drewN | apply Kd.R_drew)); exact HO_5.out)⟩; have n1_ : Aside0 (Kd.R Kd.string 9 wr w.heap.size (fun k_ => some k_ ≠ (v432 : Value).ownBlock) (.slice Ao22 x6_1.length co22) x6_1) := ⟨by rw [← hq_]; exact (by (with_reducible repeat (first | apply Kd.R_alloc | apply Kd.R_drewN | apply Kd.R_drew)); exact HO_6.out)⟩; have n2_ : Aside0 (Below w.heap.size w wr) := ⟨by rw [← hq_]; exact hb_⟩; clear HO_5 HO_6 HB hq_; have HO_5 := n0_; have HO_6 := n1_; have HB := n2_; clear n0_ n1_ n2_)); have p21 : 0 ≤ ((ji15) : Int) := of_decide_eq_true as_; have q21 : ((ji15) : Int) < ((x6_1.length : Int) : Int) := of_decide_eq_true as_; obtain ⟨go21, co21, eo21, gb21, gl21, cl21, HG21⟩ := Kd.R_form HO_6.out (by omega); (first | cases eo21 | (injection eo21 with ea_ en_ ec_; (first | subst ea_ | (injection ea_ with ea_; subst ea_)); subst ec_; clear en_)); have GB21 := Aside0.mk gb21; have GG21 := Aside0.mk HG21; clear gb21 gl21 HG21; obtain ⟨hx21_0, hf21_0⟩ := Kd.R_celln (⟨#[]⟩ : ByteArray) HO_6.out ((ji15) : Int) p21 q21; replace p21 := eq_true p21; replace q21 := eq_true q21; obtain ⟨hy23_, hz23_⟩ := Kd.R_celln (⟨#[]⟩ : ByteArray) HO_6.out ((ji15) : Int) (of_decide_eq_true as_) (of_decide_eq_true as_); have HP23 := Kd.R_putg HO_6.out ((ji15) : Int) (⟨#[101, 110, 100]⟩ : ByteArray)) | ((with_reducible refine gate_store (t := 9) (p := 48) rfl ?_); refine store_event (t := 9) (p := 48) (v := ?vo_w24) (w1 := (wr.setCell ⟨go21, ((ji15) : Int).toNat, none⟩ (.string (⟨#[101, 110, 100]⟩ : ByteArray)))) ?hg ?ho ?hn ?hr ?_; (case ho => rfl); (case hg => rfl); (case hn => rfl); (case hr => first | (go_simp; done) | (go_simp; rfl)); intro w24 hw; have hg : wr.grownBy w24 (some go21) := (by rw [hw]; exact HP23.2); have hp_ : Kd.R Kd.string 9 w24 w.heap.size (fun k_ => some k_ ≠ (v432 : Value).ownBlock) (.slice (some ⟨go21, 0, none⟩) x6_1.length co22) y442 := (by rw [hw, Ny442.out]; exact HP23.1); clear HP23; have n0_ := Aside0.mk (Kd.R_after (v := (.slice (some ⟨go21, 0, none⟩) x6_1.length co22)) (v1 := (.slice (some ⟨go21, 0, none⟩) x6_1.length co22)) (ok := (fun _ => True)) (by (with_reducible repeat (first | apply Kd.R_alloc | apply Kd.R_drewN | apply Kd.R_drew)); exact Kd.R_mono HO_5.out (fun _ hk => ⟨trivial, hk⟩)) hg (.inl rfl)); have n1_ := Aside0.mk (hp_); have n2_ := Aside0.mk ((by rw [hw]; exact below_set (HB.out) GB21.out : Below w.heap.size w w24)); clear HO_5; clear HO_6; clear HB; have HO_5 := n0_; have HO_6 := n1_; have HB := n2_; clear n0_ n1_ n2_; clear hg hw hp_))
          go_ret
          exact ⟨_, by first | rfl | (simp [errW_none, errW_some] <;> rfl) | (simp only [← hji15]; first | rfl | (simp [errW_none, errW_some] <;> rfl)) | (simp [*, errW_none, errW_some] <;> rfl), by (with_reducible repeat (first | apply Kd.R_alloc | apply Kd.R_drewN | apply Kd.R_drew)); exact Kd.R_mono HO_6.out (fun _ hk => trivial), by repeat (first | (with_reducible first | exact HB.out | apply below_alloc | apply pw_below_drewN | apply below_drew1) | exact HB.out)⟩
         ·rw [if_neg c20] at H
          exact absurd H (by simp)
        ·rw [if_neg c19] at H
         have c19b0 : (t441 == 6) = false := beq_eq_false_iff_ne.mpr c19
         have c19b1 : (t441 != 6) = true := bne_iff_ne.mpr c19
         obtain rfl := Option.some.inj H
         obtain ⟨Ao25, co25, eo25⟩ := Kd.R_slice HO_6.out
         subst eo25
         have p440 : 0 ≤ ((ji15) : Int) := of_decide_eq_true as_
         have q440 : (ji15) < (l0.length : Int) := of_decide_eq_true as_
         obtain ⟨ad440, e440, hx440_0⟩ := Kd.at_int HR0.out (ji15) p440 q440
         cases e440
         replace hx440_0 := (HB.out.cell (World.block_lt_of_cell? w _ hx440_0)).trans hx440_0
         replace p440 := eq_true p440
         replace q440 := eq_true q440
         go_wp2_with (first | (go_at_call 45; (with_reducible refine (collatorlaw03_pick.calls (rd l0 (ji15)) 7 t441 _ A18.out).mono ?_); rintro e w' ⟨rfl, ⟨nd, rfl⟩⟩))
         go_ret
         exact ⟨_, by first | rfl | (simp [errW_none, errW_some] <;> rfl) | (simp only [← hji15]; first | rfl | (simp [errW_none, errW_some] <;> rfl)) | (simp [*, errW_none, errW_some] <;> rfl), by (with_reducible repeat (first | apply Kd.R_alloc | apply Kd.R_drewN | apply Kd.R_drew)); exact Kd.R_mono HO_6.out (fun _ hk => trivial), by repeat (first | (with_reducible first | exact HB.out | apply below_alloc | apply pw_below_drewN | apply below_drew1) | exact HB.out)⟩
       ·rw [if_neg c17] at H
        exact absurd H (by simp)
      ·rw [if_neg c16] at H
       exact absurd H (by simp)
     ·rw [if_neg c14] at H
      have c14b0 : decide (0 < (x6_1.length : Int)) = false := decide_eq_false c14
      have c14b1 : decide (0 < x6_1.length) = false := decide_eq_false (by omega)
      clear c14
      obtain rfl := Option.some.inj H
      obtain ⟨Ao26, co26, eo26⟩ := Kd.R_slice HO_6.out
      subst eo26
      go_wp2
      go_ret
      exact ⟨_, by first | rfl | (simp [errW_none, errW_some] <;> rfl) | (simp [*, errW_none, errW_some] <;> rfl), by (with_reducible repeat (first | apply Kd.R_alloc | apply Kd.R_drewN | apply Kd.R_drew)); exact Kd.R_mono HO_6.out (fun _ hk => trivial), by repeat (first | (with_reducible first | exact HB.out | apply below_alloc | apply pw_below_drewN | apply below_drew1) | exact HB.out)⟩
   ·rw [if_neg c5] at H
    have c5b0 : decide (x7_1 < (l0.length : Int)) = false := decide_eq_false c5
    clear c5
    by_cases c27 : (x6_1.length : Int) > 0
    ·rw [if_pos c27] at H
     have c27b0 : decide (0 < (x6_1.length : Int)) = true := decide_eq_true c27
     have c27b1 : decide (0 < x6_1.length) = true := decide_eq_true (by omega)
     clear c27
     obtain ⟨ji28, hji28⟩ : ∃ j_ : Int, (wrap64 ((x6_1.length : Int) - 1)) = j_ := ⟨_, rfl⟩
     replace H : (if 0 ≤ (ji28) then (if (ji28) < (l0.length : Int) then ((collatorlaw03_pick.f (rd l0 (ji28)) 7).bind fun t444 => (if t444 = 6 then (if (ji28) < (x6_1.length : Int) then (some (x6_1.set ((ji28) : Int).toNat (⟨#[101, 110, 100]⟩ : ByteArray))) else (none)) else (some x6_1))) else (none)) else (none)) = some r := by first | (rw [hji28] at H; exact H) | (simp only [hji28] at H ⊢; exact H)
     have hji28w : (IntKind.i64.wrap ((x6_1.length : Int) - 1)) = ji28 := (i64_w _).trans hji28
     by_cases c29 : 0 ≤ (ji28)
     ·rw [if_pos c29] at H
      have c29b0 : decide (0 ≤ (ji28)) = true := decide_eq_true c29
      clear c29
      by_cases c30 : (ji28) < (l0.length : Int)
      ·rw [if_pos c30] at H
       have c30b0 : decide ((ji28) < (l0.length : Int)) = true := decide_eq_true c30
       clear c30
       replace H := Option.bind_eq_some_iff.mp H
       obtain ⟨t444, A310, H⟩ := H
       replace H : (if t444 = 6 then (if (ji28) < (x6_1.length : Int) then (some (x6_1.set ((ji28) : Int).toNat (⟨#[101, 110, 100]⟩ : ByteArray))) else (none)) else (some x6_1)) = some r := H
       have A31 := Aside0.mk A310
       clear A310
       by_cases c32 : t444 = 6
       ·rw [if_pos c32] at H
        have c32b0 : (t444 == 6) = true := beq_iff_eq.mpr c32
        have c32b1 : (t444 != 6) = false := bne_eq_false_iff_eq.mpr c32
        clear c32
        by_cases c33 : (ji28) < (x6_1.length : Int)
        ·rw [if_pos c33] at H
         have c33b0 : decide ((ji28) < (x6_1.length : Int)) = true := decide_eq_true c33
         clear c33
         obtain ⟨y445, hy445⟩ : ∃ y_ : List ByteArray, y_ = (x6_1.set ((ji28) : Int).toNat (⟨#[101, 110, 100]⟩ : ByteArray)) := ⟨_, rfl⟩
         replace H : (some y445) = some r := by first | (rw [hy445]; with_reducible exact H) | (have H2_ := (Option.bind_some _ _).symm.trans H; rw [hy445]; with_reducible exact H2_) | (have H2_ := (Option.bind_some _ _).symm.trans H; with_reducible exact H2_) | with_reducible exact H | (rw [hy445]; exact H) | exact H
         have Ny445 := Aside0.mk hy445
         clear hy445
         obtain rfl := Option.some.inj H
         obtain ⟨Ao35, co35, eo35⟩ := Kd.R_slice HO_6.out
         subst eo35
         have p443 : 0 ≤ ((ji28) : Int) := of_decide_eq_true as_
         have q443 : (ji28) < (l0.length : Int) := of_decide_eq_true as_
         obtain ⟨ad443, e443, hx443_0⟩ := Kd.at_int HR0.out (ji28) p443 q443
         cases e443
         replace hx443_0 := (HB.out.cell (World.block_lt_of_cell? w _ hx443_0)).trans hx443_0
         replace p443 := eq_true p443
         replace q443 := eq_true q443
         go_wp2_with (first | (go_at_call 45; (with_reducible refine (collatorlaw03_pick.calls (rd l0 (ji28)) 7 t444 _ A31.out).mono ?_); rintro e w' ⟨rfl, ⟨nd, rfl⟩⟩; (try (rw [drewN_self wr]; generalize hq_ : World.drewN wr _ = wr; have n0_ : Aside0 (Kd.R Kd.string 9 wr w.heap.size (fun k_ => some k_ ≠ (.slice Ao35 x6_1.length co35 : Value).ownBlock) v432 y431) := ⟨by rw [← hq_]; exact (by (with_reducible repeat (first | apply Kd.R_alloc | apply Kd.R_drewN | apply Kd.R_drew)); exact HO_5.out)⟩; have n1_ : Aside0 (Kd.R Kd.string 9 wr w.heap.size (fun k_ => some k_ ≠ (v432 : Value).ownBlock) (.slice Ao35 x6_1.length co35) x6_1) := ⟨by rw [← hq_]; exact (by (with_reducible repeat (first | apply Kd.R_alloc | apply Kd.R_drewN | apply Kd.R_drew)); exact HO_6.out)⟩; have n2_ : Aside0 (Below w.heap.size w wr) := ⟨by rw [← hq_]; exact hb_⟩; clear HO_5 HO_6 HB hq_; have HO_5 := n0_; have HO_6 := n1_; have HB := n2_; clear n0_ n1_ n2_)); have p34 : 0 ≤ ((ji28) : Int) := of_decide_eq_true as_; have q34 : ((ji28) : Int) < ((x6_1.length : Int) : Int) := of_decide_eq_true as_; obtain ⟨go34, co34, eo34, gb34, gl34, cl34, HG34⟩ := Kd.R_form HO_6.out (by omega); (first | cases eo34 | (injection eo34 with ea_ en_ ec_; (first | subst ea_ | (injection ea_ with ea_; subst ea_)); subst ec_; clear en_)); have GB34 := Aside0.mk gb34; have GG34 := Aside0.mk HG34; clear gb34 gl34 HG34; obtain ⟨hx34_0, hf34_0⟩ := Kd.R_celln (⟨#[]⟩ : ByteArray) HO_6.out ((ji28) : Int) p34 q34; replace p34 := eq_true p34; replace q34 := eq_true q34; obtain ⟨hy36_, hz36_⟩ := Kd.R_celln (⟨#[]⟩ : ByteArray) HO_6.out ((ji28) : Int) (of_decide_eq_true as_) (of_decide_eq_true as_); have HP36 := Kd.R_putg HO_6.out ((ji28) : Int) (⟨#[101, 110, 100]⟩ : ByteArray)) | ((with_reducible refine gate_store (t := 9) (p := 48) rfl ?_); refine store_event (t := 9) (p := 48) (v := ?vo_w37) (w1 := (wr.setCell ⟨go34, ((ji28) : Int).toNat, none⟩ (.string (⟨#[101, 110, 100]⟩ : ByteArray)))) ?hg ?ho ?hn ?hr ?_; (case ho => rfl); (case hg => rfl); (case hn => rfl); (case hr => first | (go_simp; done) | (go_simp; rfl)); intro w37 hw; have hg : wr.grownBy w37 (some go34) := (by rw [hw]; exact HP36.2); have hp_ : Kd.R Kd.string 9 w37 w.heap.size (fun k_ => some k_ ≠ (v432 : Value).ownBlock) (.slice (some ⟨go34, 0, none⟩) x6_1.length co35) y445 := (by rw [hw, Ny445.out]; exact HP36.1); clear HP36; have n0_ := Aside0.mk (Kd.R_after (v := (.slice (some ⟨go34, 0, none⟩) x6_1.length co35)) (v1 := (.slice (some ⟨go34, 0, none⟩) x6_1.length co35)) (ok := (fun _ => True)) (by (with_reducible repeat (first | apply Kd.R_alloc | apply Kd.R_drewN | apply Kd.R_drew)); exact Kd.R_mono HO_5.out (fun _ hk => ⟨trivial, hk⟩)) hg (.inl rfl)); have n1_ := Aside0.mk (hp_); have n2_ := Aside0.mk ((by rw [hw]; exact below_set (HB.out) GB34.out : Below w.heap.size w w37)); clear HO_5; clear HO_6; clear HB; have HO_5 := n0_; have HO_6 := n1_; have HB := n2_; clear n0_ n1_ n2_; clear hg hw hp_))
         go_ret
         exact ⟨_, by first | rfl | (simp [errW_none, errW_some] <;> rfl) | (simp only [← hji28]; first | rfl | (simp [errW_none, errW_some] <;> rfl)) | (simp [*, errW_none, errW_some] <;> rfl), by (with_reducible repeat (first | apply Kd.R_alloc | apply Kd.R_drewN | apply Kd.R_drew)); exact Kd.R_mono HO_6.out (fun _ hk => trivial), by repeat (first | (with_reducible first | exact HB.out | apply below_alloc | apply pw_below_drewN | apply below_drew1) | exact HB.out)⟩
        ·rw [if_neg c33] at H
         exact absurd H (by simp)
       ·rw [if_neg c32] at H
        have c32b0 : (t444 == 6) = false := beq_eq_false_iff_ne.mpr c32
        have c32b1 : (t444 != 6) = true := bne_iff_ne.mpr c32
        obtain rfl := Option.some.inj H
        obtain ⟨Ao38, co38, eo38⟩ := Kd.R_slice HO_6.out
        subst eo38
        have p443 : 0 ≤ ((ji28) : Int) := of_decide_eq_true as_
        have q443 : (ji28) < (l0.length : Int) := of_decide_eq_true as_
        obtain ⟨ad443, e443, hx443_0⟩ := Kd.at_int HR0.out (ji28) p443 q443
        cases e443
        replace hx443_0 := (HB.out.cell (World.block_lt_of_cell? w _ hx443_0)).trans hx443_0
        replace p443 := eq_true p443
        replace q443 := eq_true q443
        go_wp2_with (first | (go_at_call 45; (with_reducible refine (collatorlaw03_pick.calls (rd l0 (ji28)) 7 t444 _ A31.out).mono ?_); rintro e w' ⟨rfl, ⟨nd, rfl⟩⟩))
        go_ret
        exact ⟨_, by first | rfl | (simp [errW_none, errW_some] <;> rfl) | (simp only [← hji28]; first | rfl | (simp [errW_none, errW_some] <;> rfl)) | (simp [*, errW_none, errW_some] <;> rfl), by (with_reducible repeat (first | apply Kd.R_alloc | apply Kd.R_drewN | apply Kd.R_drew)); exact Kd.R_mono HO_6.out (fun _ hk => trivial), by repeat (first | (with_reducible first | exact HB.out | apply below_alloc | apply pw_below_drewN | apply below_drew1) | exact HB.out)⟩
      ·rw [if_neg c30] at H
       exact absurd H (by simp)
     ·rw [if_neg c29] at H
      exact absurd H (by simp)
    ·rw [if_neg c27] at H
     have c27b0 : decide (0 < (x6_1.length : Int)) = false := decide_eq_false c27
     have c27b1 : decide (0 < x6_1.length) = false := decide_eq_false (by omega)
     clear c27
     obtain rfl := Option.some.inj H
     obtain ⟨Ao39, co39, eo39⟩ := Kd.R_slice HO_6.out
     subst eo39
     go_wp2
     go_ret
     exact ⟨_, by first | rfl | (simp [errW_none, errW_some] <;> rfl) | (simp [*, errW_none, errW_some] <;> rfl), by (with_reducible repeat (first | apply Kd.R_alloc | apply Kd.R_drewN | apply Kd.R_drew)); exact Kd.R_mono HO_6.out (fun _ hk => trivial), by repeat (first | (with_reducible first | exact HB.out | apply below_alloc | apply pw_below_drewN | apply below_drew1) | exact HB.out)⟩

end Go.Proofs.Ytgobidmfbjmpkaa.P
