/- Texts of this claim, joined: Pxf15, GHt, Pxf60, EApply4, QT4, Pxf41, ERight6, HVlt. -/
import Derived.Test.YtgobidmfbjmpkaaMHunksTells1
import Derived.Test.YtgobidmfbjmpkaaMHunksTells2
import Derived.Test.YtgobidmfbjmpkaaMHunksTells8
import Derived.Test.YtgobidmfbjmpkaaMHunksTells5
import Derived.Test.YtgobidmfbjmpkaaMHunksTells6
import Derived.Test.YtgobidmfbjmpkaaMHunksTells3
import Derived.Test.YtgobidmfbjmpkaaMHunksTells7
import Derived.Lib.Hide
import Derived.Test.YtgobidmfbjmpkaaWMore
section
/- Laid for this claim by hp.py, this session's program round the kit's print: functions of the program as plain Lean functions, the proofs that the code comes to their answers, and the rows of the laws. Not trusted: Lean checks it. -/
namespace Go.Proofs.Ytgobidmfbjmpkaa.P
open Go.RowKit Go.Proofs.YtgobidmfbjmpkaaW.PrintWords Go.Proofs.YtgobidmfbjmpkaaW.PrintLast Go.Proofs.YtgobidmfbjmpkaaW.PrintMore
attribute [local go_sem] max2_int min2_int max_two min_two max_three min_three max_four min_four   -- for this text's walks alone
set_option linter.unusedVariables false
set_option linter.unusedSimpArgs false

/-! ### collatorlaw06_Hunks: function 15 -/
mutual
def collatorlaw06_Hunks.l0 : Nat → List (List Int) → List Int → List (S28) → Int → Int → Int → Option ((List (S28)))
 | 0, _, _, _, _, _, _ => none
 | k + 1, x0, x1, x5, x6, x7, x8 => if x8 < (x0.length : Int) then (collatorlaw06_Hunks.j1 k x0 x1 x5 x6 x7 x8 (decide (x8 < 4))) else (collatorlaw06_Hunks.j1 k x0 x1 x5 x6 x7 x8 false)
def collatorlaw06_Hunks.j1 : Nat → List (List Int) → List Int → List (S28) → Int → Int → Int → Bool → Option ((List (S28)))
 | 0, _, _, _, _, _, _, _ => none
 | k + 1, x0, x1, x5, x6, x7, x8, x21 => if x21 = true then (if x8 < (x1.length : Int) then (if 0 ≤ x8 then ((collatorlaw06_pick.f (rd x1 x8) 9).bind fun t170 => (if x8 < (x0.length : Int) then ((collatorlaw04_Script.f k (rd_L10 x0 x8) ([] : List Int)).bind fun bt172 => (if x5.length < 3518437208883 then ((collatorref04_Spans.f k bt172.1).bind fun bt181 => (collatorlaw06_Hunks.l0 k x0 x1 (x5 ++ [(⟨wrap64 (x6 + t170), wrap64 (x7 + t170), bt172.1⟩ : S28)]) (wrap64 ((wrap64 (x6 + t170)) + bt181.1)) (wrap64 ((wrap64 (x7 + t170)) + bt181.2)) (wrap64 (x8 + 1)))) else (none))) else (none))) else (none)) else (if 0 ≤ x8 then (if x8 < (x0.length : Int) then ((collatorlaw04_Script.f k (rd_L10 x0 x8) ([] : List Int)).bind fun bt184 => (if x5.length < 3518437208883 then ((collatorref04_Spans.f k bt184.1).bind fun bt193 => (collatorlaw06_Hunks.l0 k x0 x1 (x5 ++ [(⟨wrap64 (x6 + 1), wrap64 (x7 + 1), bt184.1⟩ : S28)]) (wrap64 ((wrap64 (x6 + 1)) + bt193.1)) (wrap64 ((wrap64 (x7 + 1)) + bt193.2)) (wrap64 (x8 + 1)))) else (none))) else (none)) else (none))) else (some x5)
end
def collatorlaw06_Hunks.f (k : Nat) (l0 : List (List Int)) (l1 : List Int) : Option ((List (S28))) := collatorlaw06_Hunks.l0 k l0 l1 ([] : List (S28)) 0 0 0
set_option maxHeartbeats 8000000 in
set_option maxRecDepth 100000 in
theorem collatorlaw06_Hunks.calls (k : Nat) (A0 : Option Addr) (c0 : Nat) (l0 : List (List Int)) (A1 : Option Addr) (c1 : Nat) (l1 : List Int) (r : List (S28)) (w : World) (hr0 : Kd.C (Kd.slice 3 (Kd.int .i64)) w A0 l0.length l0) (hc0 : l0.length ≤ c0) (hr1 : Kd.C (Kd.int .i64) w A1 l1.length l1) (hc1 : l1.length ≤ c1) (h : collatorlaw06_Hunks.f k l0 l1 = some r) :
  Calls Try.prog 15 #[.slice A0 l0.length c0, .slice A1 l1.length c1] w fun e w' => ∃ v0_ : Value, e = .returned (v0_) ∧ Kd.R k28 28 w' w.heap.size (fun _ => True) v0_ r ∧ Below w.heap.size w w' := by
 have hu28 := Try.underlying28
 have HR0 := Aside0.mk hr0
 have HC0 := Aside0.mk hc0
 clear hr0 hc0
 have HR1 := Aside0.mk hr1
 have HC1 := Aside0.mk hc1
 clear hr1 hc1
 have HB := Aside0.mk (Below.refl w.heap.size w)
 have H : (collatorlaw06_Hunks.l0 k l0 l1 ([] : List (S28)) 0 0 0) = some r := h
 clear h
 have H' := Aside0.mk H
 clear H
 go_enter Try.func15, Try.ntmps15
 go_wp2
 go_loopg [5, 6, 7, 8] k (fun kq v5 v6 v7 v8 w' => ∃ (x5_1 : List (S28)) (x6_1 : Int) (x7_1 : Int) (x8_1 : Int), v6 = .int .i64 x6_1 ∧ v7 = .int .i64 x7_1 ∧ v8 = .int .i64 x8_1 ∧ Aside0 (collatorlaw06_Hunks.l0 kq l0 l1 x5_1 x6_1 x7_1 x8_1 = some r) ∧ Aside0 (kq ≤ k) ∧ Aside0 (Kd.R k28 28 w' w.heap.size (fun _ => True) v5 x5_1) ∧ Aside0 (Below w.heap.size w w'))
 case atStart => exact ⟨(([] : List (S28))), (0), (0), (0), rf_, rf_, rf_, H', ⟨Nat.le_refl _⟩, ⟨by first | exact Kd.R_nil _ _ _ _ _ | exact Kd.N_nil _ _ _ _ _ | exact Kd.V_nil _ _ _ _ _ | exact Kd.Q_nil _ _ _ _ _ | exact Kd.S_nil _ _ _ _ _⟩, ⟨by repeat (first | (with_reducible first | exact HB.out | apply below_alloc | apply pw_below_drewN | apply below_drew1) | exact HB.out)⟩⟩
 case round =>
  clear H'
  (try clear c1);(try clear p2)
  obtain ⟨x5_1, x6_1, x7_1, x8_1, rfl, rfl, rfl, HA, HK1, HO_5, HB⟩ := hrel
  cases gk with
  | zero => exact absurd HA.out (by simp [collatorlaw06_Hunks.l0])
  | succ k1 =>
   have H := HA.out
   clear HA
   simp only [collatorlaw06_Hunks.l0] at H
   have HC3 := Aside0.mk H
   clear H
   go_upto_region 5 with (fail)
   go_cut [21] (fun v21 wc => ∃ (kq : Nat) (x21_2 : Bool), v21 = .bool x21_2 ∧ Aside0 (collatorlaw06_Hunks.j1 kq l0 l1 x5_1 x6_1 x7_1 x8_1 x21_2 = some r) ∧ Aside0 (kq ≤ k1) ∧ Aside0 (Kd.R k28 28 wc w.heap.size (fun _ => True) u5 x5_1) ∧ Aside0 (Below w.heap.size w wc))
   case first =>
    have H := HC3.out
    clear HC3
    by_cases c4 : x8_1 < (l0.length : Int)
    ·rw [if_pos c4] at H
     have c4b0 : decide (x8_1 < (l0.length : Int)) = true := decide_eq_true c4
     clear c4
     (first | rw [c4b0] | rw [c4b1] | (simp only [i64_w, i32_w]; rw [c4b0]) | skip)
     have H' := Aside0.mk H
     clear H
     go_wp2
     go_meet
     case rel => exact ⟨_, (decide (x8_1 < 4)), rf_, H', ⟨by have := HK1.out; first | omega | exact Nat.le_refl _⟩, ⟨by (with_reducible repeat (first | apply Kd.R_alloc | apply Kd.R_drewN | apply Kd.R_drew)); exact HO_5.out⟩, ⟨by repeat (first | (with_reducible first | exact HB.out | apply below_alloc | apply pw_below_drewN | apply below_drew1) | exact HB.out)⟩⟩
    ·rw [if_neg c4] at H
     have c4b0 : decide (x8_1 < (l0.length : Int)) = false := decide_eq_false c4
     clear c4
     (first | rw [c4b0] | rw [c4b1] | (simp only [i64_w, i32_w]; rw [c4b0]) | skip)
     have H' := Aside0.mk H
     clear H
     go_wp2
     go_meet
     case rel => exact ⟨_, (false), rf_, H', ⟨by have := HK1.out; first | omega | exact Nat.le_refl _⟩, ⟨by (with_reducible repeat (first | apply Kd.R_alloc | apply Kd.R_drewN | apply Kd.R_drew)); exact HO_5.out⟩, ⟨by repeat (first | (with_reducible first | exact HB.out | apply below_alloc | apply pw_below_drewN | apply below_drew1) | exact HB.out)⟩⟩
   case rest =>
    clear HC3
    (try clear c1);(try clear p2);(try clear c4);(try clear c4b0);(try clear p2)
    obtain ⟨kq, x21_2, rfl, HA, HJ2, HO_5, HB⟩ := hcut
    cases kq with
    | zero => exact absurd HA.out (by simp [collatorlaw06_Hunks.j1])
    | succ kj2 =>
     have H := HA.out
     clear HA
     simp only [collatorlaw06_Hunks.j1] at H
     by_cases c5 : x21_2 = true
     ·subst c5
      have H1 : (if x8_1 < (l1.length : Int) then (if 0 ≤ x8_1 then ((collatorlaw06_pick.f (rd l1 x8_1) 9).bind fun t170 => (if x8_1 < (l0.length : Int) then ((collatorlaw04_Script.f kj2 (rd_L10 l0 x8_1) ([] : List Int)).bind fun bt172 => (if x5_1.length < 3518437208883 then ((collatorref04_Spans.f kj2 bt172.1).bind fun bt181 => (collatorlaw06_Hunks.l0 kj2 l0 l1 (x5_1 ++ [(⟨wrap64 (x6_1 + t170), wrap64 (x7_1 + t170), bt172.1⟩ : S28)]) (wrap64 ((wrap64 (x6_1 + t170)) + bt181.1)) (wrap64 ((wrap64 (x7_1 + t170)) + bt181.2)) (wrap64 (x8_1 + 1)))) else (none))) else (none))) else (none)) else (if 0 ≤ x8_1 then (if x8_1 < (l0.length : Int) then ((collatorlaw04_Script.f kj2 (rd_L10 l0 x8_1) ([] : List Int)).bind fun bt184 => (if x5_1.length < 3518437208883 then ((collatorref04_Spans.f kj2 bt184.1).bind fun bt193 => (collatorlaw06_Hunks.l0 kj2 l0 l1 (x5_1 ++ [(⟨wrap64 (x6_1 + 1), wrap64 (x7_1 + 1), bt184.1⟩ : S28)]) (wrap64 ((wrap64 (x6_1 + 1)) + bt193.1)) (wrap64 ((wrap64 (x7_1 + 1)) + bt193.2)) (wrap64 (x8_1 + 1)))) else (none))) else (none)) else (none))) = some r := by rw [if_pos rfl] at H; exact H
      clear H
      have H := H1
      clear H1
      by_cases c6 : x8_1 < (l1.length : Int)
      ·rw [if_pos c6] at H
       have c6b0 : decide (x8_1 < (l1.length : Int)) = true := decide_eq_true c6
       clear c6
       by_cases c7 : 0 ≤ x8_1
       ·rw [if_pos c7] at H
        have c7b0 : decide (0 ≤ x8_1) = true := decide_eq_true c7
        clear c7
        replace H := Option.bind_eq_some_iff.mp H
        obtain ⟨t170, A80, H⟩ := H
        replace H : (if x8_1 < (l0.length : Int) then ((collatorlaw04_Script.f kj2 (rd_L10 l0 x8_1) ([] : List Int)).bind fun bt172 => (if x5_1.length < 3518437208883 then ((collatorref04_Spans.f kj2 bt172.1).bind fun bt181 => (collatorlaw06_Hunks.l0 kj2 l0 l1 (x5_1 ++ [(⟨wrap64 (x6_1 + t170), wrap64 (x7_1 + t170), bt172.1⟩ : S28)]) (wrap64 ((wrap64 (x6_1 + t170)) + bt181.1)) (wrap64 ((wrap64 (x7_1 + t170)) + bt181.2)) (wrap64 (x8_1 + 1)))) else (none))) else (none)) = some r := H
        have A8 := Aside0.mk A80
        clear A80
        by_cases c9 : x8_1 < (l0.length : Int)
        ·rw [if_pos c9] at H
         have c9b0 : decide (x8_1 < (l0.length : Int)) = true := decide_eq_true c9
         clear c9
         replace H := Option.bind_eq_some_iff.mp H
         obtain ⟨⟨t172, t173⟩, A100, H⟩ := H
         replace H : (if x5_1.length < 3518437208883 then ((collatorref04_Spans.f kj2 t172).bind fun bt181 => (collatorlaw06_Hunks.l0 kj2 l0 l1 (x5_1 ++ [(⟨wrap64 (x6_1 + t170), wrap64 (x7_1 + t170), t172⟩ : S28)]) (wrap64 ((wrap64 (x6_1 + t170)) + bt181.1)) (wrap64 ((wrap64 (x7_1 + t170)) + bt181.2)) (wrap64 (x8_1 + 1)))) else (none)) = some r := H
         have A10 := Aside0.mk A100
         clear A100
         by_cases c11 : x5_1.length < 3518437208883
         ·rw [if_pos c11] at H
          have LMc11 := Aside0.mk c11
          clear c11
          obtain ⟨y178, hy178⟩ : ∃ y_ : List (S28), y_ = (x5_1 ++ [(⟨wrap64 (x6_1 + t170), wrap64 (x7_1 + t170), t172⟩ : S28)]) := ⟨_, rfl⟩
          replace H : ((collatorref04_Spans.f kj2 t172).bind fun bt181 => (collatorlaw06_Hunks.l0 kj2 l0 l1 y178 (wrap64 ((wrap64 (x6_1 + t170)) + bt181.1)) (wrap64 ((wrap64 (x7_1 + t170)) + bt181.2)) (wrap64 (x8_1 + 1)))) = some r := by first | (rw [hy178]; with_reducible exact H) | (have H2_ := (Option.bind_some _ _).symm.trans H; rw [hy178]; with_reducible exact H2_) | (have H2_ := (Option.bind_some _ _).symm.trans H; with_reducible exact H2_) | with_reducible exact H | (rw [hy178]; exact H) | exact H
          have Ny178 := Aside0.mk hy178
          clear hy178
          replace H := Option.bind_eq_some_iff.mp H
          obtain ⟨⟨t181, t182⟩, A120, H⟩ := H
          replace H : (collatorlaw06_Hunks.l0 kj2 l0 l1 y178 (wrap64 ((wrap64 (x6_1 + t170)) + t181)) (wrap64 ((wrap64 (x7_1 + t170)) + t182)) (wrap64 (x8_1 + 1))) = some r := H
          have A12 := Aside0.mk A120
          clear A120
          have H' := Aside0.mk H
          clear H
          have p169 : 0 ≤ (x8_1 : Int) := of_decide_eq_true as_
          have q169 : x8_1 < (l1.length : Int) := of_decide_eq_true as_
          obtain ⟨ad169, e169, hx169_0⟩ := Kd.at_int HR1.out x8_1 p169 q169
          cases e169
          replace hx169_0 := (HB.out.cell (World.block_lt_of_cell? w _ hx169_0)).trans hx169_0
          replace p169 := eq_true p169
          replace q169 := eq_true q169
          go_wp2_with (first | ((with_reducible refine gate_callee (f := 11) rfl ?_); refine goesL_ (some 32) rfl rfl Try.func11 (by kernel_rfl) rfl #[.int .i64 (rd l1 x8_1), .int .i64 9] rfl mp_ ?_; (with_reducible refine (collatorlaw06_pick.calls (rd l1 x8_1) 9 t170 _ A8.out).mono ?_); rintro e w' ⟨rfl, ⟨nd, rfl⟩⟩; refine ⟨_, rfl, ?_⟩; have p171 : 0 ≤ (x8_1 : Int) := of_decide_eq_true as_; have q171 : x8_1 < (l0.length : Int) := of_decide_eq_true as_; obtain ⟨ad171, A171_0, c171_0, e171, hx171_0, hl171_0, hi171_0⟩ := at_L10 HR0.out x8_1 p171 q171; cases e171; replace hx171_0 := (HB.out.cell (World.block_lt_of_cell? w _ hx171_0)).trans hx171_0; have HR171_0 := Aside0.mk hi171_0; have HC171_0 := Aside0.mk hl171_0; clear hi171_0 hl171_0; replace p171 := eq_true p171; replace q171 := eq_true q171) | ((with_reducible refine gate_callee (f := 10) rfl ?_); refine goesL_ (some 38) rfl rfl Try.func10 (by kernel_rfl) rfl #[.slice A171_0 (rd_L10 l0 x8_1).length c171_0, .slice none 0 0] rfl mp_ ?_; (refine (collatorlaw04_Script.calls kj2 _ _ (rd_L10 l0 x8_1) _ _ ([] : List Int) t172 t173 _ ?side1 ?side2 ?side3 ?side4 A10.out).mono ?_); (case side1 => repeat (first | exact (Kd.C_below HR171_0.out hb_) | (with_reducible refine Kd.C_alloc ?_ _) | (with_reducible refine Kd.C_drewN ?_ _) | (with_reducible refine Kd.C_drew ?_))); (case side2 => exact HC171_0.out); (case side3 => exact Kd.C_nil _ _); (case side4 => exact Nat.le_refl _); rintro e w13 ⟨v174, v176, rfl, ho0, ho1, hb⟩; refine ⟨_, rfl, ?_⟩; have n0_ := Aside0.mk (Kd.R_mono (Kd.R_told (Kd.R_told (Kd.R_old (by (with_reducible repeat (first | apply Kd.R_alloc | apply Kd.R_drewN | apply Kd.R_drew)); exact HO_5.out) hb) (Kd.S_base ho0)) (Kd.R_base ho1)) (fun _ h_ => h_.1)); have n1_ := Aside0.mk (Kd.S_lower ho0 (below_size hb_)); have n2_ := Aside0.mk (Kd.R_lower ho1 (below_size hb_)); have n3_ := Aside0.mk (below_step hb_ hb); clear HO_5; clear HB; have HO_5 := n0_; have HO175 := n1_; have HO177 := n2_; have HB := n3_; clear n0_ n1_ n2_ n3_; (try clear hb); (try clear hb2); (try clear hk); (try clear hi); (try clear ho0); (try clear ho1); (try (obtain ⟨Ao14, co14, eo14⟩ := Kd.S_slice HO175.out; subst eo14))) | ((with_reducible refine gate_builtin (b := .append) (xs := #[.tmp 41, .tmp 50]) rfl ?_); at_builtin; refine Kd.R_append k28 (w0 := w) w.heap.size rfl (.tmp 41) (.tmp 50) 22 28 (.agg #[(.int .i64 0), (.int .i64 0), (.slice none 0 0)]) 40 rfl Try.underlying22 info28 rfl (by decide) (by omega) u5 x5_1 (⟨wrap64 (x6_1 + t170), wrap64 (x7_1 + t170), t172⟩ : S28) [.int .i64 (wrap64 (x6_1 + t170)), .int .i64 (wrap64 (x7_1 + t170)), .slice Ao14 t172.length co14] (fun k_ => some k_ ≠ (v176 : Value).ownBlock) (fun k_ => ((fun k_ => some k_ ≠ (v176 : Value).ownBlock)) k_ ∧ some k_ ≠ (u5 : Value).ownBlock) rfl rfl ?aP (fun _ hk => hk) ?aF ?aO ?aB ?aS ?aL ?_; (case aP => exact k28_mkM _ _ _ (⟨wrap64 (x6_1 + t170), wrap64 (x7_1 + t170), t172⟩ : S28) (Kd.R_mono (Kd.R_apart' ((Kd.S_R HO175.out)) (Kd.R_typed HO_5.out) (by decide)) (fun k_ hk => by first | exact ⟨hk.1, hk.2⟩ | simp_all))); (case aB => exact hb_); (case aF => exact (fun k_ hk => Kd.fresh' (Kd.R_lt (by (with_reducible repeat (first | apply Kd.R_alloc | apply Kd.R_drewN | apply Kd.R_drew)); exact HO177.out)) k_ hk)); (case aO => exact (by (with_reducible repeat (first | apply Kd.R_alloc | apply Kd.R_drewN | apply Kd.R_drew)); exact Kd.R_mono HO_5.out (fun _ hk => hk.2))); (case aS => exact (below_size hb_)); (case aL => have := LMc11.out; omega); intro v179 w15 ho hb hg hat; rw [← Ny178.out] at ho; have n0_ := Aside0.mk (Kd.R_over' (by (with_reducible repeat (first | apply Kd.R_alloc | apply Kd.R_drewN | apply Kd.R_drew)); exact HO177.out) (Kd.R_typed (by (with_reducible repeat (first | apply Kd.R_alloc | apply Kd.R_drewN | apply Kd.R_drew)); exact HO_5.out)) (by decide) hg); have n1_ := Aside0.mk (hb); have n2_ := Aside0.mk (ho); have n3_ := Aside0.mk (Kd.S_over' (by (with_reducible repeat (first | apply Kd.S_alloc | apply Kd.S_drewN | apply Kd.S_drew)); exact HO175.out) (Kd.R_typed (by (with_reducible repeat (first | apply Kd.R_alloc | apply Kd.R_drewN | apply Kd.R_drew)); exact HO_5.out)) (by decide) hg); clear HO177; clear HB; clear HO_5; clear HO175; have HO175 := n3_; clear n3_; have HO177 := n0_; have HB := n1_; have HO180 := n2_; clear n0_ n1_ n2_; clear ho hb hg hat) | ((with_reducible refine gate_callee (f := 39) rfl ?_); refine goesL_ (some 54) rfl rfl Try.func39 (by kernel_rfl) rfl #[.slice Ao14 t172.length co14] rfl mp_ ?_; (with_reducible refine (collatorref04_Spans.calls kj2 _ _ t172 t181 t182 _ ?side1 ?side2 A12.out).mono ?_); (case side1 => repeat (first | exact (Kd.S_reads' HO175.out).2.2 | (with_reducible refine Kd.C_alloc ?_ _) | (with_reducible refine Kd.C_drewN ?_ _) | (with_reducible refine Kd.C_drew ?_))); (case side2 => exact (Kd.S_reads' HO175.out).2.1); rintro e w16 ⟨rfl, hb⟩; refine ⟨_, rfl, ?_⟩; have n0_ := Aside0.mk (Kd.R_below (by (with_reducible repeat (first | apply Kd.R_alloc | apply Kd.R_drewN | apply Kd.R_drew)); exact HO177.out) hb); have n1_ := Aside0.mk (Kd.R_below (by (with_reducible repeat (first | apply Kd.R_alloc | apply Kd.R_drewN | apply Kd.R_drew)); exact HO180.out) hb); have n2_ := Aside0.mk (below_step hb_ hb); clear HO177; clear HO180; clear HB; have HO177 := n0_; have HO180 := n1_; have HB := n2_; clear n0_ n1_ n2_; (try clear hb); (try clear hb2); (try clear hk); (try clear hi)))
          go_roundg kj2
          case measure => have := HK1.out; have := HJ2.out; omega
          case rel => exact ⟨(y178), (wrap64 ((wrap64 (x6_1 + t170)) + t181)), (wrap64 ((wrap64 (x7_1 + t170)) + t182)), (wrap64 (x8_1 + 1)), rf_, rf_, rf_, H', ⟨by have := HK1.out; have := HJ2.out; omega⟩, ⟨by (with_reducible repeat (first | apply Kd.R_alloc | apply Kd.R_drewN | apply Kd.R_drew)); exact Kd.R_mono HO180.out (fun _ hk => trivial)⟩, ⟨by repeat (first | (with_reducible first | exact HB.out | apply below_alloc | apply pw_below_drewN | apply below_drew1) | exact HB.out)⟩⟩
         ·rw [if_neg c11] at H
          exact absurd H (by simp)
        ·rw [if_neg c9] at H
         exact absurd H (by simp)
       ·rw [if_neg c7] at H
        exact absurd H (by simp)
      ·rw [if_neg c6] at H
       have c6b0 : decide (x8_1 < (l1.length : Int)) = false := decide_eq_false c6
       clear c6
       by_cases c17 : 0 ≤ x8_1
       ·rw [if_pos c17] at H
        have c17b0 : decide (0 ≤ x8_1) = true := decide_eq_true c17
        clear c17
        by_cases c18 : x8_1 < (l0.length : Int)
        ·rw [if_pos c18] at H
         have c18b0 : decide (x8_1 < (l0.length : Int)) = true := decide_eq_true c18
         clear c18
         replace H := Option.bind_eq_some_iff.mp H
         obtain ⟨⟨t184, t185⟩, A190, H⟩ := H
         replace H : (if x5_1.length < 3518437208883 then ((collatorref04_Spans.f kj2 t184).bind fun bt193 => (collatorlaw06_Hunks.l0 kj2 l0 l1 (x5_1 ++ [(⟨wrap64 (x6_1 + 1), wrap64 (x7_1 + 1), t184⟩ : S28)]) (wrap64 ((wrap64 (x6_1 + 1)) + bt193.1)) (wrap64 ((wrap64 (x7_1 + 1)) + bt193.2)) (wrap64 (x8_1 + 1)))) else (none)) = some r := H
         have A19 := Aside0.mk A190
         clear A190
         by_cases c20 : x5_1.length < 3518437208883
         ·rw [if_pos c20] at H
          have LMc20 := Aside0.mk c20
          clear c20
          obtain ⟨y190, hy190⟩ : ∃ y_ : List (S28), y_ = (x5_1 ++ [(⟨wrap64 (x6_1 + 1), wrap64 (x7_1 + 1), t184⟩ : S28)]) := ⟨_, rfl⟩
          replace H : ((collatorref04_Spans.f kj2 t184).bind fun bt193 => (collatorlaw06_Hunks.l0 kj2 l0 l1 y190 (wrap64 ((wrap64 (x6_1 + 1)) + bt193.1)) (wrap64 ((wrap64 (x7_1 + 1)) + bt193.2)) (wrap64 (x8_1 + 1)))) = some r := by first | (rw [hy190]; with_reducible exact H) | (have H2_ := (Option.bind_some _ _).symm.trans H; rw [hy190]; with_reducible exact H2_) | (have H2_ := (Option.bind_some _ _).symm.trans H; with_reducible exact H2_) | with_reducible exact H | (rw [hy190]; exact H) | exact H
          have Ny190 := Aside0.mk hy190
          clear hy190
          replace H := Option.bind_eq_some_iff.mp H
          obtain ⟨⟨t193, t194⟩, A210, H⟩ := H
          replace H : (collatorlaw06_Hunks.l0 kj2 l0 l1 y190 (wrap64 ((wrap64 (x6_1 + 1)) + t193)) (wrap64 ((wrap64 (x7_1 + 1)) + t194)) (wrap64 (x8_1 + 1))) = some r := H
          have A21 := Aside0.mk A210
          clear A210
          have H' := Aside0.mk H
          clear H
          have p183 : 0 ≤ (x8_1 : Int) := of_decide_eq_true as_
          have q183 : x8_1 < (l0.length : Int) := of_decide_eq_true as_
          obtain ⟨ad183, A183_0, c183_0, e183, hx183_0, hl183_0, hi183_0⟩ := at_L10 HR0.out x8_1 p183 q183
          cases e183
          replace hx183_0 := (HB.out.cell (World.block_lt_of_cell? w _ hx183_0)).trans hx183_0
          have HR183_0 := Aside0.mk hi183_0
          have HC183_0 := Aside0.mk hl183_0
          clear hi183_0 hl183_0
          replace p183 := eq_true p183
          replace q183 := eq_true q183
          go_wp2_with (first | ((with_reducible refine gate_callee (f := 10) rfl ?_); refine goesL_ (some 38) rfl rfl Try.func10 (by kernel_rfl) rfl #[.slice A183_0 (rd_L10 l0 x8_1).length c183_0, .slice none 0 0] rfl mp_ ?_; (refine (collatorlaw04_Script.calls kj2 _ _ (rd_L10 l0 x8_1) _ _ ([] : List Int) t184 t185 _ ?side1 ?side2 ?side3 ?side4 A19.out).mono ?_); (case side1 => repeat (first | exact (Kd.C_below HR183_0.out HB.out) | (with_reducible refine Kd.C_alloc ?_ _) | (with_reducible refine Kd.C_drewN ?_ _) | (with_reducible refine Kd.C_drew ?_))); (case side2 => exact HC183_0.out); (case side3 => exact Kd.C_nil _ _); (case side4 => exact Nat.le_refl _); rintro e w22 ⟨v186, v188, rfl, ho0, ho1, hb⟩; refine ⟨_, rfl, ?_⟩; have n0_ := Aside0.mk (Kd.R_mono (Kd.R_told (Kd.R_told (Kd.R_old (by (with_reducible repeat (first | apply Kd.R_alloc | apply Kd.R_drewN | apply Kd.R_drew)); exact HO_5.out) hb) (Kd.S_base ho0)) (Kd.R_base ho1)) (fun _ h_ => h_.1)); have n1_ := Aside0.mk (Kd.S_lower ho0 (below_size hb_)); have n2_ := Aside0.mk (Kd.R_lower ho1 (below_size hb_)); have n3_ := Aside0.mk (below_step hb_ hb); clear HO_5; clear HB; have HO_5 := n0_; have HO187 := n1_; have HO189 := n2_; have HB := n3_; clear n0_ n1_ n2_ n3_; (try clear hb); (try clear hb2); (try clear hk); (try clear hi); (try clear ho0); (try clear ho1); (try (obtain ⟨Ao23, co23, eo23⟩ := Kd.S_slice HO187.out; subst eo23))) | ((with_reducible refine gate_builtin (b := .append) (xs := #[.tmp 41, .tmp 50]) rfl ?_); at_builtin; refine Kd.R_append k28 (w0 := w) w.heap.size rfl (.tmp 41) (.tmp 50) 22 28 (.agg #[(.int .i64 0), (.int .i64 0), (.slice none 0 0)]) 40 rfl Try.underlying22 info28 rfl (by decide) (by omega) u5 x5_1 (⟨wrap64 (x6_1 + 1), wrap64 (x7_1 + 1), t184⟩ : S28) [.int .i64 (wrap64 (x6_1 + 1)), .int .i64 (wrap64 (x7_1 + 1)), .slice Ao23 t184.length co23] (fun k_ => some k_ ≠ (v188 : Value).ownBlock) (fun k_ => ((fun k_ => some k_ ≠ (v188 : Value).ownBlock)) k_ ∧ some k_ ≠ (u5 : Value).ownBlock) rfl rfl ?aP (fun _ hk => hk) ?aF ?aO ?aB ?aS ?aL ?_; (case aP => exact k28_mkM _ _ _ (⟨wrap64 (x6_1 + 1), wrap64 (x7_1 + 1), t184⟩ : S28) (Kd.R_mono (Kd.R_apart' ((Kd.S_R HO187.out)) (Kd.R_typed HO_5.out) (by decide)) (fun k_ hk => by first | exact ⟨hk.1, hk.2⟩ | simp_all))); (case aB => exact hb_); (case aF => exact (fun k_ hk => Kd.fresh' (Kd.R_lt (by (with_reducible repeat (first | apply Kd.R_alloc | apply Kd.R_drewN | apply Kd.R_drew)); exact HO189.out)) k_ hk)); (case aO => exact (by (with_reducible repeat (first | apply Kd.R_alloc | apply Kd.R_drewN | apply Kd.R_drew)); exact Kd.R_mono HO_5.out (fun _ hk => hk.2))); (case aS => exact (below_size hb_)); (case aL => have := LMc20.out; omega); intro v191 w24 ho hb hg hat; rw [← Ny190.out] at ho; have n0_ := Aside0.mk (Kd.R_over' (by (with_reducible repeat (first | apply Kd.R_alloc | apply Kd.R_drewN | apply Kd.R_drew)); exact HO189.out) (Kd.R_typed (by (with_reducible repeat (first | apply Kd.R_alloc | apply Kd.R_drewN | apply Kd.R_drew)); exact HO_5.out)) (by decide) hg); have n1_ := Aside0.mk (hb); have n2_ := Aside0.mk (ho); have n3_ := Aside0.mk (Kd.S_over' (by (with_reducible repeat (first | apply Kd.S_alloc | apply Kd.S_drewN | apply Kd.S_drew)); exact HO187.out) (Kd.R_typed (by (with_reducible repeat (first | apply Kd.R_alloc | apply Kd.R_drewN | apply Kd.R_drew)); exact HO_5.out)) (by decide) hg); clear HO189; clear HB; clear HO_5; clear HO187; have HO187 := n3_; clear n3_; have HO189 := n0_; have HB := n1_; have HO192 := n2_; clear n0_ n1_ n2_; clear ho hb hg hat) | ((with_reducible refine gate_callee (f := 39) rfl ?_); refine goesL_ (some 54) rfl rfl Try.func39 (by kernel_rfl) rfl #[.slice Ao23 t184.length co23] rfl mp_ ?_; (with_reducible refine (collatorref04_Spans.calls kj2 _ _ t184 t193 t194 _ ?side1 ?side2 A21.out).mono ?_); (case side1 => repeat (first | exact (Kd.S_reads' HO187.out).2.2 | (with_reducible refine Kd.C_alloc ?_ _) | (with_reducible refine Kd.C_drewN ?_ _) | (with_reducible refine Kd.C_drew ?_))); (case side2 => exact (Kd.S_reads' HO187.out).2.1); rintro e w25 ⟨rfl, hb⟩; refine ⟨_, rfl, ?_⟩; have n0_ := Aside0.mk (Kd.R_below (by (with_reducible repeat (first | apply Kd.R_alloc | apply Kd.R_drewN | apply Kd.R_drew)); exact HO189.out) hb); have n1_ := Aside0.mk (Kd.R_below (by (with_reducible repeat (first | apply Kd.R_alloc | apply Kd.R_drewN | apply Kd.R_drew)); exact HO192.out) hb); have n2_ := Aside0.mk (below_step hb_ hb); clear HO189; clear HO192; clear HB; have HO189 := n0_; have HO192 := n1_; have HB := n2_; clear n0_ n1_ n2_; (try clear hb); (try clear hb2); (try clear hk); (try clear hi)))
          go_roundg kj2
          case measure => have := HK1.out; have := HJ2.out; omega
          case rel => exact ⟨(y190), (wrap64 ((wrap64 (x6_1 + 1)) + t193)), (wrap64 ((wrap64 (x7_1 + 1)) + t194)), (wrap64 (x8_1 + 1)), rf_, rf_, rf_, H', ⟨by have := HK1.out; have := HJ2.out; omega⟩, ⟨by (with_reducible repeat (first | apply Kd.R_alloc | apply Kd.R_drewN | apply Kd.R_drew)); exact Kd.R_mono HO192.out (fun _ hk => trivial)⟩, ⟨by repeat (first | (with_reducible first | exact HB.out | apply below_alloc | apply pw_below_drewN | apply below_drew1) | exact HB.out)⟩⟩
         ·rw [if_neg c20] at H
          exact absurd H (by simp)
        ·rw [if_neg c18] at H
         exact absurd H (by simp)
       ·rw [if_neg c17] at H
        exact absurd H (by simp)
     ·replace c5 := Bool.eq_false_iff.mpr c5
      subst c5
      have H1 : (some x5_1) = some r := by rw [if_neg (show ¬ (false = true) by decide)] at H; exact H
      clear H
      have H := H1
      clear H1
      obtain rfl := Option.some.inj H
      go_wp2
      go_ret
      exact ⟨_, by first | rfl | (simp [errW_none, errW_some] <;> rfl) | (simp [*, errW_none, errW_some] <;> rfl), by (with_reducible repeat (first | apply Kd.R_alloc | apply Kd.R_drewN | apply Kd.R_drew)); exact HO_5.out, by repeat (first | (with_reducible first | exact HB.out | apply below_alloc | apply pw_below_drewN | apply below_drew1) | exact HB.out)⟩

end Go.Proofs.Ytgobidmfbjmpkaa.P
end
section
/- hunks of a right script in plain words: Make, edit by edit; Script undoes it. · What Make makes of a right script: right hunks, whose script is that script. · Raw scripts' hunks: what Make, Right, Script and Cost answer. -/
section
set_option linter.unusedVariables false
set_option linter.unusedSimpArgs false
namespace Go.Proofs.Ytgobidmfbjmpkaa.Q
open Go Go.RowKit Go.Proofs.Ytgobidmfbjmpkaa.P Go.Proofs.YtgobidmfbjmpkaaW.PrintWords Go.Proofs.YtgobidmfbjmpkaaW.PrintLast Go.Proofs.YtgobidmfbjmpkaaW.PrintMore
def adv1 (p : Int) (x : EdS) : Int := p + (if x.f0 = 3 then 0 else x.f1)
def adv2 (p : Int) (x : EdS) : Int := p + (if x.f0 = 2 then 0 else x.f1)
mutual
/-- The hunks from here on, none being open: p lines are taken, q made, ah may stand ahead. -/
def mk0 (c : Int) : List EdS → Int → Int → Int → List HkS
 | [], _, _, _ => []
 | x :: t, p, q, ah => if x.f0 = 1 then mk0 c t (adv1 p x) (adv2 q x) (mn x.f1 c) else mk1 c t (adv1 p x) (adv2 q x) (p - ah) (q - ah) (kpL ah ++ [x])
/-- The same, one being open. -/
def mk1 (c : Int) : List EdS → Int → Int → Int → Int → List EdS → List HkS
 | [], _, _, F, T, E => [⟨F, T, E⟩]
 | x :: t, p, q, F, T, E => if x.f0 = 1 ∧ (x.f1 > 2 * c ∨ t = []) then ⟨F, T, E ++ kpL (mn x.f1 c)⟩ :: mk0 c t (adv1 p x) (adv2 q x) (mn x.f1 c) else mk1 c t (adv1 p x) (adv2 q x) F T (E ++ [x])
end
theorem mk_fold (l : List EdS) (c : Int) (t : List EdS) : ∀ (i : Nat) (st : Iter.MkS), l.drop i = t →
  (st.opn = false → ((List.range' i t.length).foldl (Iter.mkStep l c) st).out = st.out ++ mk0 c t (Iter.ahead1 l i) (Iter.ahead2 l i) st.ahead) ∧
  (∀ o h, st.opn = true → st.out = o ++ [h] → ((List.range' i t.length).foldl (Iter.mkStep l c) st).out = o ++ mk1 c t (Iter.ahead1 l i) (Iter.ahead2 l i) h.f0 h.f1 h.f2) := by
 induction t with
 | nil =>
  intro i st _
  exact ⟨fun _ => by simp [mk0], fun o h _ ho => by simp [mk1, ho]⟩
 | cons x t ih =>
  intro i st hd
  obtain ⟨hi, hx, hd'⟩ := drop_cons hd
  have hr : rd_T31 l (i : Int) = x := rdT hx
  obtain ⟨s1, s2⟩ := Iter.ahead_step l i hi
  rw [hr] at s1 s2
  have hlen : (i + 1 = l.length) ↔ t = [] := by
   have h1 := congrArg List.length hd'
   rw [List.length_drop] at h1
   constructor
   ·intro e; exact List.eq_nil_of_length_eq_zero (by omega)
   ·intro e; rw [e, List.length_nil] at h1; omega
  have e0 : List.range' i (x :: t).length = i :: List.range' (i + 1) t.length := by rw [List.length_cons, List.range'_succ]
  rw [e0, List.foldl_cons]
  have a1 : Iter.ahead1 l (i + 1) = adv1 (Iter.ahead1 l i) x := s1
  have a2 : Iter.ahead2 l (i + 1) = adv2 (Iter.ahead2 l i) x := s2
  constructor
  ·intro ho
   by_cases h1 : x.f0 = 1
   ·have hs : Iter.mkStep l c st i = { st with ahead := mn x.f1 c } := by unfold Iter.mkStep; rw [hr, if_pos ⟨h1, ho⟩]
    rw [hs, (ih (i + 1) { st with ahead := mn x.f1 c } hd').1 ho, a1, a2, mk0, if_pos h1]
   ·have hs : Iter.mkStep l c st i = ⟨st.ahead, true, st.out ++ [⟨Iter.ahead1 l i - st.ahead, Iter.ahead2 l i - st.ahead, Iter.keptL st.ahead ++ [x]⟩]⟩ := by
     unfold Iter.mkStep; rw [hr, if_neg (fun h => h1 h.1), if_neg (fun h => h1 h.1), if_neg (by rw [ho]; simp)]
    rw [hs, (ih (i + 1) _ hd').2 _ _ rfl rfl, a1, a2, mk0, if_neg h1]
    rfl
  ·intro o h ho hout
   by_cases h1 : x.f0 = 1 ∧ (x.f1 > 2 * c ∨ t = [])
   ·have hs : Iter.mkStep l c st i = ⟨mn x.f1 c, false, Iter.upLast st.out (Iter.keptL (mn x.f1 c))⟩ := by
     unfold Iter.mkStep; rw [hr, if_neg (fun h => by rw [ho] at h; cases h.2), if_pos ⟨h1.1, h1.2.imp id hlen.2⟩]
    rw [hs, (ih (i + 1) _ hd').1 rfl, a1, a2, mk1, if_pos h1, hout, Iter.upLast_snoc]
    simp [Iter.keptL, kpL]
   ·have hs : Iter.mkStep l c st i = { st with out := Iter.upLast st.out [x] } := by
     unfold Iter.mkStep; rw [hr, if_neg (fun h => by rw [ho] at h; cases h.2), if_neg (fun h => h1 ⟨h.1, h.2.imp id hlen.1⟩), if_pos ho]
    rw [hs, (ih (i + 1) { st with out := Iter.upLast st.out [x] } hd').2 o ⟨h.f0, h.f1, h.f2 ++ [x]⟩ ho (by rw [hout, Iter.upLast_snoc]), a1, a2, mk1, if_neg h1]
/-- What Make answers. -/
def made (c : Int) (s : List EdS) : List HkS := mk0 c s 0 0 0
theorem mkAll_eq (s : List EdS) (c : Int) : (Iter.mkAll s c (List.range s.length)).out = made c s := by
 have h := (mk_fold s c s 0 ⟨0, false, []⟩ (by simp)).1 rfl
 rw [List.nil_append] at h
 unfold Iter.mkAll
 rw [List.range_eq_range', h]
 rfl
theorem fits_of {s : List EdS} (hs : s.length ≤ 1000000) (hf : Fit s) : Iter.Fits s := ⟨hs, fun x hx => by
 obtain ⟨⟨h1, h2⟩, h3⟩ := hf x hx
 refine ⟨by omega, h3, ?_⟩
 rcases h2 with ⟨_, h2⟩ | ⟨_, h2⟩
 ·rw [h2]; exact Nat.zero_le _
 ·omega⟩
theorem make_ev (s : List EdS) (hs : s.length ≤ 1000000) (hr : rightB 0 s = true) (c : Int) (h0 : 0 ≤ c) (h1 : c ≤ 100) : Ev (fun k => hunks_Make.f k s c) (made c s, 0) := by
 unfold hunks_Make.f Iter.hunks_Make.f
 refine Ev.bind (right_ev s hs) ?_
 simp only [hr, h0, h1, and_self, if_true, if_pos (fits_of hs ((right_iff s).1 hr).1), mkAll_eq]
 exact Ev.now _
/-! ### Edits put together -/
theorem chn_mid (u : List EdS) : ∀ (z x : EdS) (t : List EdS), Chn (u ++ ([z] ++ x :: t)) → After z x := by
 induction u with
 | nil => intro z x t h; exact h.1
 | cons y u ih =>
  intro z x t h
  cases u with
  | nil => exact h.2.1
  | cons w u => exact ih z x t h.2
theorem joinL_app (s a b : List EdS) : joinL s (a ++ b) = joinL (joinL s a) b := List.foldl_append
theorem joinL_nil (s : List EdS) : joinL s [] = s := rfl
theorem joinL_cons (s : List EdS) (x : EdS) (t : List EdS) : joinL s (x :: t) = joinL (join1 s x) t := rfl
theorem join1_two (s : List EdS) (x y : EdS) (h : x.f0 = y.f0) : join1 (join1 s x) y = join1 s ⟨x.f0, x.f1 + y.f1, x.f2 ++ y.f2⟩ := by
 rcases List.eq_nil_or_concat s with h0 | ⟨t, z, h0⟩
 ·subst h0
  have : join1 ([] ++ [x]) y = _ := join1_snoc [] x y
  rw [List.nil_append] at this
  rw [join1_nil, join1_nil, this, if_pos h]
  rfl
 ·rw [List.concat_eq_append] at h0
  subst h0
  rw [join1_snoc, join1_snoc]
  by_cases hz : z.f0 = x.f0
  ·rw [if_pos hz, if_pos hz, join1_snoc, if_pos (show z.f0 = y.f0 from hz.trans h)]
   simp [Int.add_assoc]
  ·rw [if_neg hz, if_neg hz, join1_snoc, if_pos h]
theorem kpL_pos {n : Int} (h : 1 ≤ n) : kpL n = [⟨1, n, []⟩] := if_neg (by omega)
theorem kpL_neg {n : Int} (h : n < 1) : kpL n = [] := if_pos h
theorem join_kp (s : List EdS) {a b : Int} (ha : 0 ≤ a) (hb : 0 ≤ b) : joinL (joinL s (kpL a)) (kpL b) = joinL s (kpL (a + b)) := by
 by_cases h1 : 1 ≤ a
 ·by_cases h2 : 1 ≤ b
  ·rw [kpL_pos h1, kpL_pos h2, kpL_pos (by omega)]
   exact join1_two s _ _ rfl
  ·obtain rfl : b = 0 := by omega
   rw [kpL_neg (n := 0) (by omega), Int.add_zero]; rfl
 ·obtain rfl : a = 0 := by omega
  rw [kpL_neg (n := 0) (by omega), Int.zero_add]; rfl
/-- A right script is put together already. -/
theorem join_chn (t : List EdS) : ∀ (s : List EdS), Chn (s ++ t) → joinL s t = s ++ t := by
 induction t with
 | nil => intro s _; rw [List.append_nil]; rfl
 | cons x t ih =>
  intro s h
  have e : join1 s x = s ++ [x] := by
   rcases List.eq_nil_or_concat s with h0 | ⟨u, z, h0⟩
   ·subst h0; rfl
   ·rw [List.concat_eq_append] at h0
    subst h0
    rw [join1_snoc, if_neg]
    exact (chn_mid u z x t (by rw [List.append_assoc] at h; exact h)).1
  rw [joinL_cons, e, ih (s ++ [x]) (by rw [List.append_assoc]; exact h), List.append_assoc]
  rfl
/-! ### Script of hunks -/
def flatH : List HkS → Int → List EdS
 | [], _ => []
 | x :: t, a => kpL (x.f0 - a) ++ (x.f2 ++ flatH t (x.f0 + takes x.f2))
def endH : List HkS → Int → Int
 | [], a => a
 | x :: t, a => endH t (x.f0 + takes x.f2)
theorem takes_wt {s : List EdS} (h : Fit s) : 0 ≤ takes s ∧ takes s ≤ wt s := by
 induction s with
 | nil => exact ⟨Int.le_refl _, Int.le_refl _⟩
 | cons x s ih =>
  have h1 := ih (fit_tail h)
  obtain ⟨f1, _⟩ := fit_head h
  rw [takes, wt_cons]
  unfold wt1
  split <;> omega
/-- Hunks of no great size. -/
def OkH (h : List HkS) : Prop := ∀ x ∈ h, (0 ≤ x.f0 ∧ x.f0 ≤ 10000000) ∧ rightB 0 x.f2 = true ∧ wt x.f2 ≤ 10000000
theorem wt_ok {s : List EdS} (h : wt s ≤ 10000000) : s.length ≤ 10000000 := Nat.le_trans (wt_len s) h
theorem spans_ev' (s : List EdS) (hs : wt s ≤ 1000000) (hr : rightB 0 s = true) : Ev (fun k => script_Spans.f k s) (takes s, makes s) := spans_ev s (Nat.le_trans (wt_len s) hs) hr
theorem scr_ev : ∀ (h : List HkS) (s : List EdS) (a : Int), (∀ x ∈ h, (0 ≤ x.f0 ∧ x.f0 ≤ 2000000) ∧ rightB 0 x.f2 = true ∧ wt x.f2 ≤ 1000000) → 0 ≤ a → a ≤ 3000000 → wt s + h.length * 10000000 ≤ 1000000000000 →
  Ev (fun k => scrL k h s a) (joinL s (flatH h a), endH h a) ∧ wt (joinL s (flatH h a)) ≤ wt s + h.length * 10000000 ∧ 0 ≤ endH h a ∧ endH h a ≤ 3000000
 | [], s, a => fun _ h0 h1 _ => ⟨Ev.now _, Nat.le_add_right _ _, h0, h1⟩
 | x :: t, s, a => fun hk h0 h1 hw => by
  obtain ⟨⟨f0, f1⟩, fr, fw⟩ := hk x (by simp)
  obtain ⟨t0, t1⟩ := takes_wt ((right_iff _).1 fr).1
  have w1 := wt_joinL (kpL (x.f0 - a)) s
  have w2 := wt_kpL (x.f0 - a)
  have w3 := wt_joinL x.f2 (joinL s (kpL (x.f0 - a)))
  rw [List.length_cons] at hw
  have ih := scr_ev t (joinL (joinL s (kpL (x.f0 - a))) x.f2) (x.f0 + takes x.f2) (fun y hy => hk y (List.mem_cons_of_mem _ hy)) (by omega) (by omega) (by omega)
  have e1 : joinL s (flatH (x :: t) a) = joinL (joinL (joinL s (kpL (x.f0 - a))) x.f2) (flatH t (x.f0 + takes x.f2)) := by rw [flatH, joinL_app, joinL_app]
  have e2 : endH (x :: t) a = endH t (x.f0 + takes x.f2) := rfl
  refine ⟨?_, ?_, ?_, ?_⟩
  ·rw [e1, e2]
   show Ev (fun k => (script_Spans.f k x.f2).bind _) _
   refine Ev.bind (spans_ev' x.f2 fw fr) ?_
   have hc : (0 ≤ x.f0 ∧ x.f0 ≤ 1099511627776) ∧ (0 ≤ a ∧ a ≤ 1099511627776) ∧ (0 ≤ takes x.f2 ∧ takes x.f2 ≤ 549755813888) ∧ wt s + (x.f0 - a).natAbs + 2 + wt x.f2 ≤ 1000000000000 := ⟨⟨by omega, by omega⟩, ⟨by omega, by omega⟩, ⟨by omega, by omega⟩, by omega⟩
   simp only [if_pos hc]
   exact ih.1
  ·rw [e1, List.length_cons]; have := ih.2.1; omega
  ·rw [e2]; exact ih.2.2.1
  ·rw [e2]; exact ih.2.2.2
/-! ### Which hunks may be -/
theorem rdH {h : List HkS} {i : Nat} {x : HkS} (e : h[i]? = some x) : rd_T28 h (i : Int) = x := by
 simp [rd_T28, List.getD_eq_getElem?_getD, e]
theorem changes_ev (s : List EdS) (hs : s.length ≤ 1000000) : hunks_changes.f s = some (chB s) := if_pos (by omega)
end Go.Proofs.Ytgobidmfbjmpkaa.Q
end
section
set_option linter.unusedVariables false
set_option linter.unusedSimpArgs false
namespace Go.Proofs.Ytgobidmfbjmpkaa.Q
open Go Go.RowKit Go.Proofs.Ytgobidmfbjmpkaa.P Go.Proofs.YtgobidmfbjmpkaaW.PrintWords Go.Proofs.YtgobidmfbjmpkaaW.PrintLast Go.Proofs.YtgobidmfbjmpkaaW.PrintMore
theorem takes_app (s t : List EdS) : takes (s ++ t) = takes s + takes t := by
 induction s with
 | nil => simp [takes]
 | cons x s ih => rw [List.cons_append, takes, takes, ih, Int.add_assoc]
theorem makes_app (s t : List EdS) : makes (s ++ t) = makes s + makes t := by
 induction s with
 | nil => simp [makes]
 | cons x s ih => rw [List.cons_append, makes, makes, ih, Int.add_assoc]
theorem chgs_app (s t : List EdS) : chgs (s ++ t) = chgs s + chgs t := by
 induction s with
 | nil => simp [chgs]
 | cons x s ih => rw [List.cons_append, chgs, chgs, ih, Int.add_assoc]
theorem kp_takes {n : Int} (h : 0 ≤ n) : takes (kpL n) = n ∧ makes (kpL n) = n ∧ chgs (kpL n) = 0 := by
 unfold kpL
 split
 ·rw [show n = 0 by omega]; exact ⟨rfl, rfl, rfl⟩
 ·refine ⟨?_, ?_, rfl⟩
  ·show (if (1 : Int) = 3 then 0 else n) + 0 = n
   rw [if_neg (by decide), Int.add_zero]
  ·show (if (1 : Int) = 2 then 0 else n) + 0 = n
   rw [if_neg (by decide), Int.add_zero]
theorem mn_of {n c : Int} (hn : 0 ≤ n) (hc : 0 ≤ c) : 0 ≤ mn n c ∧ mn n c ≤ n ∧ mn n c ≤ c ∧ (mn n c = n ∨ mn n c = c) := by unfold mn; split <;> omega
theorem keep_is {x : EdS} {t : List EdS} (h : Fit (x :: t)) (h1 : x.f0 = 1) : 1 ≤ x.f1 ∧ [x] = kpL x.f1 ∧ (∀ p, adv1 p x = p + x.f1) ∧ (∀ p, adv2 p x = p + x.f1) := by
 obtain ⟨f1, f2, f3, f4, f5⟩ := fit_head h
 refine ⟨f1, ?_, fun p => by unfold adv1; rw [if_neg (by rw [h1]; decide)], fun p => by unfold adv2; rw [if_neg (by rw [h1]; decide)]⟩
 rw [kpL_pos f1]
 have h5 := f5 (by rw [h1]; decide)
 cases x
 simp at h1 h5
 subst h1 h5
 rfl
theorem takes_one (x : EdS) (t : List EdS) (p : Int) : p + takes (x :: t) = adv1 p x + takes t := by rw [takes]; unfold adv1; omega
theorem adv1_app (E : List EdS) (x : EdS) {p F : Int} (h : takes E = p - F) : takes (E ++ [x]) = adv1 p x - F := by
 rw [takes_app, h, takes, takes]; unfold adv1; omega
theorem adv2_app (E : List EdS) (x : EdS) {p F : Int} (h : makes E = p - F) : makes (E ++ [x]) = adv2 p x - F := by
 rw [makes_app, h, makes, makes]; unfold adv2; omega
theorem adv1_le {x : EdS} {t : List EdS} (h : Fit (x :: t)) (p : Int) : p ≤ adv1 p x := by
 have := (fit_head h).1
 unfold adv1; split <;> omega
theorem back (c : Int) (hc : 0 ≤ c) (t : List EdS) : Fit t →
  (∀ (p q ah : Int) (S : List EdS) (a : Int), 0 ≤ ah → a ≤ p → (t ≠ [] → a ≤ p - ah) → joinL S (flatH (mk0 c t p q ah) a ++ kpL (p + takes t - endH (mk0 c t p q ah) a)) = joinL (joinL S (kpL (p - a))) t) ∧
  (∀ (p q F T : Int) (E S : List EdS) (a : Int), takes E = p - F → a ≤ F → joinL S (flatH (mk1 c t p q F T E) a ++ kpL (p + takes t - endH (mk1 c t p q F T E) a)) = joinL (joinL (joinL S (kpL (F - a))) E) t) := by
 induction t with
 | nil =>
  intro _
  refine ⟨fun p q ah S a _ _ _ => ?_, fun p q F T E S a h1 h2 => ?_⟩
  ·simp only [mk0, flatH, endH, takes, List.nil_append, Int.add_zero, joinL_nil]
  ·simp only [mk1, flatH, endH, takes, List.append_nil, Int.add_zero, joinL_nil]
   rw [h1, show p - (F + (p - F)) = 0 by omega, kpL_neg (n := 0) (by omega), List.append_nil, joinL_app]
 | cons x t ih =>
  intro hf
  obtain ⟨ih0, ih1⟩ := ih (fit_tail hf)
  have ft := spans_bd (fit_tail hf)
  refine ⟨fun p q ah S a h1 h2 h3 => ?_, fun p q F T E S a h1 h2 => ?_⟩
  ·have h3' := h3 (by simp)
   by_cases k1 : x.f0 = 1
   ·obtain ⟨n1, n2, n3, n4⟩ := keep_is hf k1
    obtain ⟨m1, m2, m3, _⟩ := mn_of (n := x.f1) (by omega) hc
    have e : mk0 c (x :: t) p q ah = mk0 c t (p + x.f1) (q + x.f1) (mn x.f1 c) := by rw [mk0, if_pos k1, n3, n4]
    rw [e, takes_one, n3, ih0 _ _ _ S a m1 (by omega) (fun _ => by omega), joinL_cons]
    have e2 : join1 (joinL S (kpL (p - a))) x = joinL (joinL S (kpL (p - a))) [x] := rfl
    rw [e2, n2, join_kp S (by omega) (by omega)]
    congr 3
    omega
   ·have e : mk0 c (x :: t) p q ah = mk1 c t (adv1 p x) (adv2 q x) (p - ah) (q - ah) (kpL ah ++ [x]) := by rw [mk0, if_neg k1]
    rw [e, takes_one, ih1 _ _ _ _ _ S a (by rw [adv1_app (kpL ah) x (p := p) (F := p - ah) (by rw [(kp_takes h1).1]; omega)]) h3', joinL_app, joinL_cons, joinL_cons, joinL_nil, join_kp S (by omega) h1]
    congr 4
    omega
  ·by_cases k1 : x.f0 = 1 ∧ (x.f1 > 2 * c ∨ t = [])
   ·obtain ⟨n1, n2, n3, n4⟩ := keep_is hf k1.1
    obtain ⟨m1, m2, m3, _⟩ := mn_of (n := x.f1) (by omega) hc
    have e : mk1 c (x :: t) p q F T E = ⟨F, T, E ++ kpL (mn x.f1 c)⟩ :: mk0 c t (p + x.f1) (q + x.f1) (mn x.f1 c) := by rw [mk1, if_pos k1, n3, n4]
    have et : F + takes (E ++ kpL (mn x.f1 c)) = p + mn x.f1 c := by rw [takes_app, h1, (kp_takes m1).1]; omega
    rw [e, takes_one, n3]
    simp only [flatH, endH]
    rw [et]
    have e3 : ∀ fl kp : List EdS, joinL S ((kpL (F - a) ++ ((E ++ kpL (mn x.f1 c)) ++ fl)) ++ kp) = joinL (joinL (joinL (joinL S (kpL (F - a))) E) (kpL (mn x.f1 c))) (fl ++ kp) := fun fl kp => by simp only [joinL_app]
    rw [e3, ih0 _ _ _ _ (p + mn x.f1 c) m1 (by omega) (fun ht => by
     rcases k1.2 with h | h
     ·omega
     ·exact absurd h ht), join_kp _ m1 (by omega), show mn x.f1 c + (p + x.f1 - (p + mn x.f1 c)) = x.f1 by omega, ← n2, joinL_cons, joinL_cons, joinL_nil]
   ·have e : mk1 c (x :: t) p q F T E = mk1 c t (adv1 p x) (adv2 q x) F T (E ++ [x]) := by rw [mk1, if_neg k1]
    rw [e, takes_one, ih1 _ _ _ _ _ S a (adv1_app E x h1) h2, joinL_app, joinL_cons, joinL_cons, joinL_nil]
/-- How the next hunk stands to the last one. -/
def Nxt (f : Bool) (a b F T : Int) : Prop := if f = true then T = F else 1 ≤ F - a ∧ T - b = F - a
theorem chn_pre (s : List EdS) : ∀ {t : List EdS}, Chn (s ++ t) → Chn s := by
 induction s with
 | nil => intro t _; trivial
 | cons x s ih =>
  intro t h
  cases s with
  | nil => trivial
  | cons y s => exact ⟨h.1, ih h.2⟩
theorem chn_suf (s : List EdS) : ∀ {t : List EdS}, Chn (s ++ t) → Chn t := by
 induction s with
 | nil => intro t h; exact h
 | cons x s ih =>
  intro t h
  cases s with
  | nil => cases t with
   | nil => trivial
   | cons y t => exact h.2
  | cons y s => exact ih h.2
theorem chn_keep {n m : Int} {x : EdS} {t : List EdS} (hx : x.f0 ≠ 1) (h : Chn (x :: t)) : Chn (kpL n ++ x :: t) := by
 unfold kpL
 split
 ·exact h
 ·exact ⟨⟨fun e => hx e.symm, fun e => absurd (show (1 : Int) = 3 from e.1) (by decide)⟩, h⟩
theorem chn_end {E : List EdS} {x : EdS} {t : List EdS} {m : Int} (h1 : x.f0 = 1) (h : Chn (E ++ x :: t)) : Chn (E ++ kpL m) := by
 have h2 : Chn (E ++ [x]) := by
  have : E ++ x :: t = (E ++ [x]) ++ t := by simp
  rw [this] at h
  exact chn_pre _ h
 unfold kpL
 split
 ·rw [List.append_nil]; exact chn_pre _ h2
 ·exact chn_last E x _ h2 h1
theorem fit_app {s t : List EdS} (h1 : Fit s) (h2 : Fit t) : Fit (s ++ t) := fun x hx => (List.mem_append.1 hx).elim (h1 x) (h2 x)
theorem fit_kp {n : Int} (h : n ≤ 1048576) : Fit (kpL n) := by
 unfold kpL
 split
 ·intro x hx; cases hx
 ·intro x hx
  rw [List.mem_singleton.1 hx]
  exact ⟨⟨by show 1 ≤ n; omega, .inl ⟨.inl rfl, rfl⟩⟩, h⟩
theorem fit_one {x : EdS} {t : List EdS} (h : Fit (x :: t)) : Fit [x] := fun y hy => h y (by rw [List.mem_singleton.1 hy]; simp)
theorem chB_app (s t : List EdS) : chB (s ++ t) = (chB s || chB t) := by simp [chB]
theorem rightH_cons {f : Bool} {a b : Int} {x : HkS} {t : List HkS} (h1 : rightB 0 x.f2 = true) (h2 : chB x.f2 = true) (h3 : 0 ≤ x.f0) (h4 : x.f0 ≤ 1048576) (h5 : Nxt f a b x.f0 x.f1) (h6 : rightH false (x.f0 + takes x.f2) (x.f1 + makes x.f2) t = true) : rightH f a b (x :: t) = true := by
 unfold rightH
 rw [h1, h2, decide_eq_true h3, decide_eq_true h4, h6]
 cases f with
 | true =>
  have h5' : x.f1 = x.f0 := h5
  simpa using h5'
 | false =>
  obtain ⟨g1, g2⟩ : 1 ≤ x.f0 - a ∧ x.f1 - b = x.f0 - a := h5
  simp [g1, g2]
theorem made_right (c : Int) (hc : 0 ≤ c) (hc2 : c ≤ 100) (t : List EdS) : Fit t →
  (∀ (p q ah : Int) (f : Bool) (a b : Int), Chn t → 0 ≤ ah → ah ≤ c → (t ≠ [] → 0 ≤ p - ah ∧ Nxt f a b (p - ah) (q - ah)) → p + takes t ≤ 1048576 → rightH f a b (mk0 c t p q ah) = true) ∧
  (∀ (p q F T : Int) (E : List EdS) (f : Bool) (a b : Int), Chn (E ++ t) → Fit E → chB E = true → takes E = p - F → makes E = q - T → 0 ≤ F → F ≤ 1048576 → Nxt f a b F T → p + takes t ≤ 1048576 → rightH f a b (mk1 c t p q F T E) = true) := by
 induction t with
 | nil =>
  intro _
  refine ⟨fun p q ah f a b _ _ _ _ _ => rfl, fun p q F T E f a b h1 h2 h3 h4 h5 h6 h7 h8 h9 => ?_⟩
  rw [List.append_nil] at h1
  exact rightH_cons ((right_iff _).2 ⟨h2, h1⟩) h3 h6 h7 h8 rfl
 | cons x t ih =>
  intro hf
  obtain ⟨ih0, ih1⟩ := ih (fit_tail hf)
  have ft := spans_bd (fit_tail hf)
  refine ⟨fun p q ah f a b h1 h2 h2' h3 h4 => ?_, fun p q F T E f a b h1 h2 h3 h4 h5 h6 h7 h8 h9 => ?_⟩
  ·obtain ⟨h3a, h3b⟩ := h3 (by simp)
   rw [takes_one] at h4
   by_cases k1 : x.f0 = 1
   ·obtain ⟨n1, n2, n3, n4⟩ := keep_is hf k1
    obtain ⟨m1, m2, m3, _⟩ := mn_of (n := x.f1) (by omega) hc
    rw [mk0, if_pos k1, n3, n4]
    rw [n3] at h4
    refine ih0 _ _ _ f a b (chn_suf [x] h1) m1 m3 (fun _ => ⟨by omega, ?_⟩) h4
    unfold Nxt at h3b ⊢
    split
    ·rename_i hh; rw [if_pos hh] at h3b; omega
    ·rename_i hh; rw [if_neg hh] at h3b; omega
   ·rw [mk0, if_neg k1]
    have ha1 := adv1_le hf p
    refine ih1 _ _ _ _ _ f a b ?_ (fit_app (fit_kp (by omega)) (fit_one hf)) ?_ (adv1_app _ _ (by rw [(kp_takes h2).1]; omega)) (adv2_app _ _ (by rw [(kp_takes h2).2.1]; omega)) h3a (by omega) h3b h4
    ·rw [List.append_assoc]; exact chn_keep (m := 0) k1 h1
    ·rw [chB_app]
     have : chB [x] = true := by simp [chB, k1]
     rw [this, Bool.or_true]
  ·rw [takes_one] at h9
   by_cases k1 : x.f0 = 1 ∧ (x.f1 > 2 * c ∨ t = [])
   ·obtain ⟨n1, n2, n3, n4⟩ := keep_is hf k1.1
    obtain ⟨m1, m2, m3, _⟩ := mn_of (n := x.f1) (by omega) hc
    rw [mk1, if_pos k1, n3, n4]
    rw [n3] at h9
    have et : F + takes (E ++ kpL (mn x.f1 c)) = p + mn x.f1 c := by rw [takes_app, h4, (kp_takes m1).1]; omega
    have em : T + makes (E ++ kpL (mn x.f1 c)) = q + mn x.f1 c := by rw [makes_app, h5, (kp_takes m1).2.1]; omega
    refine rightH_cons ((right_iff _).2 ⟨fit_app h2 (fit_kp (by omega)), chn_end k1.1 h1⟩) (by show chB (E ++ _) = true; rw [chB_app, h3]; rfl) h6 h7 h8 ?_
    show rightH false (F + takes (E ++ kpL (mn x.f1 c))) (T + makes (E ++ kpL (mn x.f1 c))) _ = true
    rw [et, em]
    have hp0 : 0 ≤ p := by have := (spans_bd h2).1; omega
    refine ih0 _ _ _ false _ _ (chn_suf [x] (chn_suf E h1)) m1 m3 (fun ht => ⟨by omega, ?_⟩) h9
    unfold Nxt
    rw [if_neg (by decide)]
    rcases k1.2 with h | h
    ·omega
    ·exact absurd h ht
   ·rw [mk1, if_neg k1]
    exact ih1 _ _ _ _ _ f a b (by rw [List.append_assoc]; exact h1) (fit_app h2 (fit_one hf)) (by rw [chB_app, h3]; rfl) (adv1_app _ _ h4) (adv2_app _ _ h5) h6 h7 h8 h9
def costH (h : List HkS) : Int := (h.map fun x => chgs x.f2).sum
theorem costH_cons (x : HkS) (h : List HkS) : costH (x :: h) = chgs x.f2 + costH h := by simp [costH]
theorem made_cost (c : Int) (hc : 0 ≤ c) (t : List EdS) : Fit t → (∀ (p q ah : Int), 0 ≤ ah → costH (mk0 c t p q ah) = chgs t) ∧ (∀ (p q F T : Int) (E : List EdS), costH (mk1 c t p q F T E) = chgs E + chgs t) := by
 induction t with
 | nil => intro _; exact ⟨fun p q ah _ => rfl, fun p q F T E => by simp [mk1, costH, chgs]⟩
 | cons x t ih =>
  intro hf
  obtain ⟨ih0, ih1⟩ := ih (fit_tail hf)
  refine ⟨fun p q ah h => ?_, fun p q F T E => ?_⟩
  ·by_cases k1 : x.f0 = 1
   ·obtain ⟨n1, _⟩ := keep_is hf k1
    rw [mk0, if_pos k1, ih0 _ _ _ (mn_of (by omega) hc).1, chgs, if_pos k1, Int.zero_add]
   ·rw [mk0, if_neg k1, ih1, chgs_app, (kp_takes h).2.2, chgs, chgs, chgs]
    omega
  ·by_cases k1 : x.f0 = 1 ∧ (x.f1 > 2 * c ∨ t = [])
   ·obtain ⟨n1, _⟩ := keep_is hf k1.1
    rw [mk1, if_pos k1, costH_cons, ih0 _ _ _ (mn_of (by omega) hc).1, chgs_app, (kp_takes (mn_of (by omega) hc).1).2.2, chgs, if_pos k1.1]
    omega
   ·rw [mk1, if_neg k1, ih1, chgs_app, chgs, chgs, chgs]
    omega
theorem wt_kp (n : Int) {c : Int} (h0 : 0 ≤ n) (h : n ≤ c) : (wt (kpL n) : Int) ≤ c + 1 := by have := wt_kpL n; omega
theorem made_wt (c : Int) (hc : 0 ≤ c) (t : List EdS) : Fit t → (∀ (p q ah : Int), 0 ≤ ah → ah ≤ c → (mk0 c t p q ah).length ≤ t.length ∧ ∀ y ∈ mk0 c t p q ah, (wt y.f2 : Int) ≤ wt t + 2 * c + 2) ∧
  (∀ (p q F T : Int) (E : List EdS), (mk1 c t p q F T E).length ≤ t.length + 1 ∧ ∀ y ∈ mk1 c t p q F T E, (wt y.f2 : Int) ≤ wt E + wt t + c + 1 ∨ (wt y.f2 : Int) ≤ wt t + 2 * c + 2) := by
 induction t with
 | nil =>
  intro _
  refine ⟨fun p q ah _ _ => ⟨Nat.le_refl _, fun y hy => by cases hy⟩, fun p q F T E => ⟨Nat.le_refl _, fun y hy => ?_⟩⟩
  rw [mk1] at hy
  rw [List.mem_singleton.1 hy, wt_nil]
  exact .inl (by show (wt E : Int) ≤ _; omega)
 | cons x t ih =>
  intro hf
  obtain ⟨ih0, ih1⟩ := ih (fit_tail hf)
  have hw : wt (x :: t) = wt1 x + wt t := wt_cons x t
  refine ⟨fun p q ah h h' => ?_, fun p q F T E => ?_⟩
  ·by_cases k1 : x.f0 = 1
   ·obtain ⟨n1, _⟩ := keep_is hf k1
    obtain ⟨m1, m2, m3, _⟩ := mn_of (n := x.f1) (by omega) hc
    rw [mk0, if_pos k1]
    obtain ⟨l1, l2⟩ := ih0 (adv1 p x) (adv2 q x) _ m1 m3
    exact ⟨by rw [List.length_cons]; omega, fun y hy => by have := l2 y hy; omega⟩
   ·rw [mk0, if_neg k1]
    obtain ⟨l1, l2⟩ := ih1 (adv1 p x) (adv2 q x) (p - ah) (q - ah) (kpL ah ++ [x])
    refine ⟨by rw [List.length_cons]; exact l1, fun y hy => ?_⟩
    have h1 := wt_kp ah h h'
    have h2 := l2 y hy
    rw [wt_app, wt_cons, wt_nil] at h2
    omega
  ·by_cases k1 : x.f0 = 1 ∧ (x.f1 > 2 * c ∨ t = [])
   ·obtain ⟨n1, _⟩ := keep_is hf k1.1
    obtain ⟨m1, m2, m3, _⟩ := mn_of (n := x.f1) (by omega) hc
    rw [mk1, if_pos k1]
    obtain ⟨l1, l2⟩ := ih0 (adv1 p x) (adv2 q x) _ m1 m3
    refine ⟨by simp only [List.length_cons]; omega, fun y hy => ?_⟩
    rcases List.mem_cons.1 hy with rfl | hy
    ·have := wt_kp _ m1 m3
     left
     show (wt (E ++ _) : Int) ≤ _
     rw [wt_app]; omega
    ·have := l2 y hy; right; omega
   ·rw [mk1, if_neg k1]
    obtain ⟨l1, l2⟩ := ih1 (adv1 p x) (adv2 q x) F T (E ++ [x])
    refine ⟨by rw [List.length_cons]; omega, fun y hy => ?_⟩
    have h2 := l2 y hy
    rw [wt_app, wt_cons, wt_nil] at h2
    omega
end Go.Proofs.Ytgobidmfbjmpkaa.Q
end
section
set_option linter.unusedVariables false
set_option linter.unusedSimpArgs false
namespace Go.Proofs.Ytgobidmfbjmpkaa.Q
open Go Go.RowKit Go.Proofs.Ytgobidmfbjmpkaa.P Go.Proofs.YtgobidmfbjmpkaaW.PrintWords Go.Proofs.YtgobidmfbjmpkaaW.PrintLast Go.Proofs.YtgobidmfbjmpkaaW.PrintMore
theorem pick6 {c : Int} (hc : -9223372036854775808 ≤ c ∧ c ≤ 9223372036854775807) {m : Int} {n : Nat} (hm : m = n) (hn : 0 < n) : collatorlaw06_pick.f c m = some (pk c n : Int) := pick_body hc hm hn
theorem script_ok {h : List HkS} (hr : Ev (fun k => hunks_Right.f k h) true) (hk : ∀ x ∈ h, (0 ≤ x.f0 ∧ x.f0 ≤ 2000000) ∧ rightB 0 x.f2 = true ∧ wt x.f2 ≤ 1000000) (hl : h.length ≤ 10000) {n : Int} (h0 : 0 ≤ n) (h1 : n ≤ 1048576) (he : endH h 0 ≤ n) :
  Ev (fun k => hunks_Script.f k h n) (joinL (joinL [] (flatH h 0)) (kpL (n - endH h 0)), 0) := by
 obtain ⟨s1, s2, s3, s4⟩ := scr_ev h [] 0 hk (Int.le_refl _) (by omega) (by rw [wt_nil]; omega)
 rw [wt_nil] at s2
 unfold hunks_Script.f
 refine Ev.bind hr ?_
 simp only [h0, h1, and_self, if_true, if_pos (show h.length ≤ 1000000000 by omega)]
 refine Ev.bind s1 ?_
 refine evneg (by show ¬ endH h 0 > n; omega) (evpos ⟨s3, ?_⟩ (Ev.now _))
 show wt (joinL [] (flatH h 0)) + n.natAbs + (endH h 0).natAbs + 2 ≤ 1000000000000
 omega
theorem script_no {h : List HkS} (hr : Ev (fun k => hunks_Right.f k h) true) (hk : ∀ x ∈ h, (0 ≤ x.f0 ∧ x.f0 ≤ 2000000) ∧ rightB 0 x.f2 = true ∧ wt x.f2 ≤ 1000000) (hl : h.length ≤ 10000) {n : Int} (h0 : 0 ≤ n) (h1 : n ≤ 1048576) (he : n < endH h 0) :
  Ev (fun k => hunks_Script.f k h n) ([], 11) := by
 obtain ⟨s1, s2, s3, s4⟩ := scr_ev h [] 0 hk (Int.le_refl _) (by omega) (by rw [wt_nil]; omega)
 unfold hunks_Script.f
 refine Ev.bind hr ?_
 simp only [h0, h1, and_self, if_true, if_pos (show h.length ≤ 1000000000 by omega)]
 refine Ev.bind s1 ?_
 exact evpos (by show endH h 0 > n; omega) (Ev.now _)
theorem right_mem {f : Bool} : ∀ {a b : Int} {h : List HkS}, rightH f a b h = true → ∀ x ∈ h, rightB 0 x.f2 = true ∧ chB x.f2 = true ∧ 0 ≤ x.f0 ∧ x.f0 ≤ 1048576 := by
 intro a b h
 induction h generalizing f a b with
 | nil => intro _ x hx; cases hx
 | cons y t ih =>
  intro hr x hx
  unfold rightH at hr
  simp only [Bool.and_eq_true, decide_eq_true_eq] at hr
  obtain ⟨h1, h2, h3, h4, _, h6⟩ := hr
  rcases List.mem_cons.1 hx with rfl | hx
  ·exact ⟨h1, h2, h3, h4⟩
  ·exact ih h6 x hx
/-- Hunks in order: where the last one ends. -/
theorem endH_le {f : Bool} : ∀ {a b : Int} {h : List HkS}, rightH f a b h = true → h = [] ∨ ∃ x ∈ h, endH h a = x.f0 + takes x.f2 := by
 intro a b h
 induction h generalizing f a b with
 | nil => intro _; exact .inl rfl
 | cons y t ih =>
  intro hr
  unfold rightH at hr
  simp only [Bool.and_eq_true, decide_eq_true_eq] at hr
  obtain ⟨_, _, _, _, _, h6⟩ := hr
  right
  rcases ih h6 with h0 | ⟨x, hx, he⟩
  ·subst h0; exact ⟨y, by simp, rfl⟩
  ·exact ⟨x, List.mem_cons_of_mem _ hx, he⟩
theorem made_end (c : Int) (hc : 0 ≤ c) (t : List EdS) : Fit t → (∀ (p q ah a : Int), 0 ≤ ah → a ≤ p → endH (mk0 c t p q ah) a ≤ p + takes t) ∧ (∀ (p q F T : Int) (E : List EdS) (a : Int), takes E = p - F → endH (mk1 c t p q F T E) a ≤ p + takes t) := by
 induction t with
 | nil =>
  intro _
  refine ⟨fun p q ah a _ h => (by simp only [mk0, endH, takes]; omega), fun p q F T E a h => ?_⟩
  simp only [mk1, endH, takes]; omega
 | cons x t ih =>
  intro hf
  obtain ⟨ih0, ih1⟩ := ih (fit_tail hf)
  have ha := adv1_le hf
  refine ⟨fun p q ah a hah h => ?_, fun p q F T E a h => ?_⟩
  ·rw [takes_one]
   by_cases k1 : x.f0 = 1
   ·rw [mk0, if_pos k1]; exact ih0 _ _ _ _ (mn_of (by have := (fit_head hf).1; omega) hc).1 (Int.le_trans h (ha p))
   ·rw [mk0, if_neg k1]; exact ih1 _ _ _ _ _ _ (adv1_app _ _ (show takes (kpL ah) = p - (p - ah) by rw [(kp_takes hah).1]; omega))
  ·rw [takes_one]
   by_cases k1 : x.f0 = 1 ∧ (x.f1 > 2 * c ∨ t = [])
   ·obtain ⟨n1, n2, n3, n4⟩ := keep_is hf k1.1
    obtain ⟨m1, m2, m3, _⟩ := mn_of (n := x.f1) (by omega) hc
    rw [mk1, if_pos k1]
    refine ih0 _ _ _ _ m1 ?_
    show F + takes (E ++ _) ≤ _
    rw [takes_app, h, (kp_takes m1).1, n3]; omega
   ·rw [mk1, if_neg k1]; exact ih1 _ _ _ _ _ _ (adv1_app _ _ h)
/-- All that the laws want of a raw script's hunks. -/
structure Made (s : List EdS) (n : Nat) (c : Int) (h : List HkS) : Prop where
 make : Ev (fun k => hunks_Make.f k s c) (h, 0)
 right : Ev (fun k => hunks_Right.f k h) true
 rightH : rightH true 0 0 h = true
 ok : ∀ x ∈ h, (0 ≤ x.f0 ∧ x.f0 ≤ 2000000) ∧ rightB 0 x.f2 = true ∧ wt x.f2 ≤ 1000000
 len : h.length ≤ 10
 script : Ev (fun k => hunks_Script.f k h (n : Int)) (s, 0)
 cost : costH h = chgs s
 small : ∀ x ∈ h, x.f2.length ≤ 1000
theorem raw_wt {s : List EdS} (h : Fit s) (hs : ∀ x ∈ s, x.f1 ≤ 4) : wt s ≤ 9 * s.length := by
 induction s with
 | nil => exact Nat.le_refl _
 | cons x s ih =>
  have h1 := ih (fit_tail h) (fun y hy => hs y (List.mem_cons_of_mem _ hy))
  obtain ⟨f1, f2, f3, f4, f5⟩ := fit_head h
  have h4 := hs x (by simp)
  rw [wt_cons, List.length_cons]
  unfold wt1
  by_cases h3 : x.f0 = 3
  ·have := f4 h3; omega
  ·rw [f5 h3, List.length_nil]; omega
theorem adv2_le {x : EdS} {t : List EdS} (h : Fit (x :: t)) (p : Int) : p ≤ adv2 p x := by
 have := (fit_head h).1
 unfold adv2; split <;> omega
theorem makes_one (x : EdS) (t : List EdS) (p : Int) : p + makes (x :: t) = adv2 p x + makes t := by rw [makes]; unfold adv2; omega
theorem made_to (c : Int) (hc : 0 ≤ c) (t : List EdS) : Fit t → (∀ (p q ah : Int), 0 ≤ ah → ah ≤ c → ∀ y ∈ mk0 c t p q ah, q - c ≤ y.f1 ∧ y.f1 ≤ q + makes t) ∧ (∀ (p q F T : Int) (E : List EdS), ∀ y ∈ mk1 c t p q F T E, y.f1 = T ∨ (q - c ≤ y.f1 ∧ y.f1 ≤ q + makes t)) := by
 induction t with
 | nil =>
  intro _
  refine ⟨fun p q ah _ _ y hy => (by cases hy), fun p q F T E y hy => ?_⟩
  rw [mk1] at hy
  rw [List.mem_singleton.1 hy]
  exact .inl rfl
 | cons x t ih =>
  intro hf
  obtain ⟨ih0, ih1⟩ := ih (fit_tail hf)
  have ha := adv2_le hf
  have hm := (spans_bd (fit_tail hf)).2.2.1
  refine ⟨fun p q ah h h' y hy => ?_, fun p q F T E y hy => ?_⟩
  ·rw [makes_one]
   have hq := ha q
   by_cases k1 : x.f0 = 1
   ·rw [mk0, if_pos k1] at hy
    obtain ⟨m1, m2, m3, _⟩ := mn_of (n := x.f1) (by have := (fit_head hf).1; omega) hc
    have := ih0 _ _ _ m1 m3 y hy
    omega
   ·rw [mk0, if_neg k1] at hy
    have := ih1 _ _ _ _ _ y hy
    omega
  ·rw [makes_one]
   have hq := ha q
   by_cases k1 : x.f0 = 1 ∧ (x.f1 > 2 * c ∨ t = [])
   ·rw [mk1, if_pos k1] at hy
    obtain ⟨m1, m2, m3, _⟩ := mn_of (n := x.f1) (by have := (fit_head hf).1; omega) hc
    rcases List.mem_cons.1 hy with rfl | hy
    ·exact .inl rfl
    ·have := ih0 _ _ _ m1 m3 y hy
     right; omega
   ·rw [mk1, if_neg k1] at hy
    have := ih1 _ _ _ _ _ y hy
    omega
theorem raw_made {s : List EdS} {n : Nat} (h : Raw s n 10) {c : Int} (h0 : 0 ≤ c) (h1 : c ≤ 100) : Made s n c (made c s) := by
 have hn := h.most
 have hR : rightH true 0 0 (made c s) = true := (made_right c h0 h1 s h.fit).1 0 0 0 true 0 0 h.chn (Int.le_refl _) h0 (fun _ => ⟨by omega, rfl⟩) (by rw [h.takes_]; omega)
 obtain ⟨l1, l2⟩ := (made_wt c h0 s h.fit).1 0 0 0 (Int.le_refl _) h0
 have hw := raw_wt h.fit h.small
 have hl := h.len
 have hwt : ∀ x ∈ made c s, wt x.f2 ≤ 292 := fun x hx => by have := l2 x hx; omega
 have hl2 : (made c s).length ≤ 10 := Nat.le_trans l1 hl
 have hto := (made_to c h0 s h.fit).1 0 0 0 (Int.le_refl _) h0
 have hmk : makes s ≤ 1048576 * 10 := by have := (spans_bd h.fit).2.2.2.1; omega
 have hsm : ∀ x ∈ made c s, x.f2.length ≤ 1000 := fun x hx => by have := hwt x hx; have := wt_len x.f2; omega
 have hok : ∀ x ∈ made c s, (0 ≤ x.f0 ∧ x.f0 ≤ 2000000) ∧ rightB 0 x.f2 = true ∧ wt x.f2 ≤ 1000000 := fun x hx => by
  obtain ⟨g1, g2, g3, g4⟩ := right_mem hR x hx
  exact ⟨⟨g3, by omega⟩, g1, by have := hwt x hx; omega⟩
 have hRE : Ev (fun k => hunks_Right.f k (made c s)) true := by
  have := rightH_ev (made c s) (by omega) (fun x hx => ⟨by have := hsm x hx; omega, by have := (right_mem hR x hx).2.2; omega, by have := hto x hx; omega⟩)
  rw [hR] at this
  exact this
 have hend : endH (made c s) 0 ≤ takes s := by
  have := (made_end c h0 s h.fit).1 0 0 0 0 (Int.le_refl _) (Int.le_refl _)
  rw [Int.zero_add] at this
  exact this
 refine ⟨make_ev s (by omega) h.right c h0 h1, hRE, hR, hok, hl2, ?_, (made_cost c h0 s h.fit).1 0 0 0 (Int.le_refl _), hsm⟩
 have hs := script_ok hRE hok (by omega) (n := (n : Int)) (by omega) (by omega) (by rw [← h.takes_]; exact hend)
 have hb := (back c h0 s h.fit).1 0 0 0 [] 0 (Int.le_refl _) (Int.le_refl _) (fun _ => by omega)
 rw [Int.zero_add, h.takes_, joinL_app] at hb
 have hs2 : joinL (joinL [] (flatH (made c s) 0)) (kpL ((n : Int) - endH (made c s) 0)) = s := by
  refine hb.trans ?_
  rw [show (0 : Int) - 0 = 0 by omega, kpL_neg (n := 0) (by omega), joinL_nil, join_chn s [] (by rw [List.nil_append]; exact h.chn), List.nil_append]
 rw [hs2] at hs
 exact hs
end Go.Proofs.Ytgobidmfbjmpkaa.Q
end
end
section
/- Laid for this claim by hp.py, this session's program round the kit's print: functions of the program as plain Lean functions, the proofs that the code comes to their answers, and the rows of the laws. Not trusted: Lean checks it. -/
namespace Go.Proofs.Ytgobidmfbjmpkaa.P
open Go.RowKit Go.Proofs.YtgobidmfbjmpkaaW.PrintWords Go.Proofs.YtgobidmfbjmpkaaW.PrintLast Go.Proofs.YtgobidmfbjmpkaaW.PrintMore
attribute [local go_sem] max2_int min2_int max_two min_two max_three min_three max_four min_four   -- for this text's walks alone
set_option linter.unusedVariables false
set_option linter.unusedSimpArgs false

/-! ### collatorref04_fits: function 60 -/
def collatorref04_fits.f (k : Nat) (l0 : List (S31)) (l1 : List ByteArray) : Option (Int) := (collatorref04_Right.f k l0).bind fun t438 => (if t438 = true then ((collatorref04_many.f k l0 1 2).bind fun t439 => (if t439 = (l1.length : Int) then (some 0) else (some 11))) else (some 1))
set_option maxHeartbeats 8000000 in
set_option maxRecDepth 100000 in
theorem collatorref04_fits.calls (k : Nat) (A0 : Option Addr) (c0 : Nat) (l0 : List (S31)) (A1 : Option Addr) (c1 : Nat) (l1 : List ByteArray) (r : Int) (w : World) (hr0 : Kd.C k31 w A0 l0.length l0) (hc0 : l0.length ≤ c0) (hr1 : Kd.C Kd.string w A1 l1.length l1) (hc1 : l1.length ≤ c1) (h : collatorref04_fits.f k l0 l1 = some r) :
  Calls Try.prog 60 #[.slice A0 l0.length c0, .slice A1 l1.length c1] w fun e w' => e = .returned (.int .i64 r) ∧ Below w.heap.size w w' := by
 have HR0 := Aside0.mk hr0
 have HC0 := Aside0.mk hc0
 clear hr0 hc0
 have HR1 := Aside0.mk hr1
 have HC1 := Aside0.mk hc1
 clear hr1 hc1
 have HB := Aside0.mk (Below.refl w.heap.size w)
 have H : ((collatorref04_Right.f k l0).bind fun t438 => (if t438 = true then ((collatorref04_many.f k l0 1 2).bind fun t439 => (if t439 = (l1.length : Int) then (some 0) else (some 11))) else (some 1))) = some r := h
 clear h
 replace H := Option.bind_eq_some_iff.mp H
 obtain ⟨t438, A30, H⟩ := H
 replace H : (if t438 = true then ((collatorref04_many.f k l0 1 2).bind fun t439 => (if t439 = (l1.length : Int) then (some 0) else (some 11))) else (some 1)) = some r := H
 have A3 := Aside0.mk A30
 clear A30
 by_cases c4 : t438 = true
 ·subst c4
  have H1 : ((collatorref04_many.f k l0 1 2).bind fun t439 => (if t439 = (l1.length : Int) then (some 0) else (some 11))) = some r := by rw [if_pos rfl] at H; exact H
  clear H
  have H := H1
  clear H1
  replace H := Option.bind_eq_some_iff.mp H
  obtain ⟨t439, A50, H⟩ := H
  replace H : (if t439 = (l1.length : Int) then (some 0) else (some 11)) = some r := H
  have A5 := Aside0.mk A50
  clear A50
  by_cases c6 : t439 = (l1.length : Int)
  ·rw [if_pos c6] at H
   have c6b0 : (t439 == (l1.length : Int)) = true := beq_iff_eq.mpr c6
   have c6b1 : (t439 != (l1.length : Int)) = false := bne_eq_false_iff_eq.mpr c6
   clear c6
   obtain rfl := Option.some.inj H
   go_enter Try.func60, Try.ntmps60
   go_wp2_with (first | ((with_reducible refine gate_callee (f := 35) rfl ?_); refine goesL_ (some 7) rfl rfl Try.func35 (by kernel_rfl) rfl #[.slice A0 l0.length c0] rfl mp_ ?_; (with_reducible refine (collatorref04_Right.calls k _ _ l0 true _ ?side1 ?side2 A3.out).mono ?_); (case side1 => repeat (first | exact HR0.out | (with_reducible refine Kd.C_alloc ?_ _) | (with_reducible refine Kd.C_drewN ?_ _) | (with_reducible refine Kd.C_drew ?_))); (case side2 => exact HC0.out); rintro e w7 ⟨rfl, hb⟩; refine ⟨_, rfl, ?_⟩; have n0_ := Aside0.mk (below_step hb_ hb); clear HB; have HB := n0_; clear n0_; (try clear hb); (try clear hb2); (try clear hk); (try clear hi)) | ((with_reducible refine gate_callee (f := 57) rfl ?_); refine goesL_ (some 11) rfl rfl Try.func57 (by kernel_rfl) rfl #[.slice A0 l0.length c0, .int .i64 1, .int .i64 2] rfl mp_ ?_; (with_reducible refine (collatorref04_many.calls k _ _ l0 1 2 t439 _ ?side1 ?side2 A5.out).mono ?_); (case side1 => repeat (first | exact (Kd.C_below HR0.out HB.out) | (with_reducible refine Kd.C_alloc ?_ _) | (with_reducible refine Kd.C_drewN ?_ _) | (with_reducible refine Kd.C_drew ?_))); (case side2 => exact HC0.out); rintro e w' ⟨rfl, ⟨nd, rfl⟩⟩; refine ⟨_, rfl, ?_⟩))
   go_ret
   exact ⟨by first | rfl | (simp [errW_none, errW_some] <;> rfl) | (simp [*, errW_none, errW_some] <;> rfl), by repeat (first | (with_reducible first | exact HB.out | apply below_alloc | apply pw_below_drewN | apply below_drew1) | exact HB.out)⟩
  ·rw [if_neg c6] at H
   have c6b0 : (t439 == (l1.length : Int)) = false := beq_eq_false_iff_ne.mpr c6
   have c6b1 : (t439 != (l1.length : Int)) = true := bne_iff_ne.mpr c6
   obtain rfl := Option.some.inj H
   go_enter Try.func60, Try.ntmps60
   go_wp2_with (first | ((with_reducible refine gate_callee (f := 35) rfl ?_); refine goesL_ (some 7) rfl rfl Try.func35 (by kernel_rfl) rfl #[.slice A0 l0.length c0] rfl mp_ ?_; (with_reducible refine (collatorref04_Right.calls k _ _ l0 true _ ?side1 ?side2 A3.out).mono ?_); (case side1 => repeat (first | exact HR0.out | (with_reducible refine Kd.C_alloc ?_ _) | (with_reducible refine Kd.C_drewN ?_ _) | (with_reducible refine Kd.C_drew ?_))); (case side2 => exact HC0.out); rintro e w8 ⟨rfl, hb⟩; refine ⟨_, rfl, ?_⟩; have n0_ := Aside0.mk (below_step hb_ hb); clear HB; have HB := n0_; clear n0_; (try clear hb); (try clear hb2); (try clear hk); (try clear hi)) | ((with_reducible refine gate_callee (f := 57) rfl ?_); refine goesL_ (some 11) rfl rfl Try.func57 (by kernel_rfl) rfl #[.slice A0 l0.length c0, .int .i64 1, .int .i64 2] rfl mp_ ?_; (with_reducible refine (collatorref04_many.calls k _ _ l0 1 2 t439 _ ?side1 ?side2 A5.out).mono ?_); (case side1 => repeat (first | exact (Kd.C_below HR0.out HB.out) | (with_reducible refine Kd.C_alloc ?_ _) | (with_reducible refine Kd.C_drewN ?_ _) | (with_reducible refine Kd.C_drew ?_))); (case side2 => exact HC0.out); rintro e w' ⟨rfl, ⟨nd, rfl⟩⟩; refine ⟨_, rfl, ?_⟩))
   go_ret
   exact ⟨by first | rfl | (simp [errW_none, errW_some] <;> rfl) | (simp [*, errW_none, errW_some] <;> rfl), by repeat (first | (with_reducible first | exact HB.out | apply below_alloc | apply pw_below_drewN | apply below_drew1) | exact HB.out)⟩
 ·replace c4 := Bool.eq_false_iff.mpr c4
  subst c4
  have H1 : (some 1) = some r := by rw [if_neg (show ¬ (false = true) by decide)] at H; exact H
  clear H
  have H := H1
  clear H1
  obtain rfl := Option.some.inj H
  go_enter Try.func60, Try.ntmps60
  go_wp2_with (first | ((with_reducible refine gate_callee (f := 35) rfl ?_); refine goesL_ (some 7) rfl rfl Try.func35 (by kernel_rfl) rfl #[.slice A0 l0.length c0] rfl mp_ ?_; (with_reducible refine (collatorref04_Right.calls k _ _ l0 false _ ?side1 ?side2 A3.out).mono ?_); (case side1 => repeat (first | exact HR0.out | (with_reducible refine Kd.C_alloc ?_ _) | (with_reducible refine Kd.C_drewN ?_ _) | (with_reducible refine Kd.C_drew ?_))); (case side2 => exact HC0.out); rintro e w9 ⟨rfl, hb⟩; refine ⟨_, rfl, ?_⟩; have n0_ := Aside0.mk (below_step hb_ hb); clear HB; have HB := n0_; clear n0_; (try clear hb); (try clear hb2); (try clear hk); (try clear hi)))
  go_ret
  exact ⟨by first | rfl | (simp [errW_none, errW_some] <;> rfl) | (simp [*, errW_none, errW_some] <;> rfl), by repeat (first | (with_reducible first | exact HB.out | apply below_alloc | apply pw_below_drewN | apply below_drew1) | exact HB.out)⟩

end Go.Proofs.Ytgobidmfbjmpkaa.P
end
section
/- ref04.Apply: by a walk of its text. -/
set_option linter.unusedVariables false
set_option linter.unusedSimpArgs false
namespace Go.Proofs.Ytgobidmfbjmpkaa.P
open Go Go.RowKit Go.Proofs.YtgobidmfbjmpkaaW.PrintWords Go.Proofs.YtgobidmfbjmpkaaW.PrintLast Go.Proofs.YtgobidmfbjmpkaaW.PrintMore
def collatorref04_Apply.l0 : Nat → List S31 → List ByteArray → List ByteArray → Int → Int → Option (List ByteArray × Int)
 | 0, _, _, _, _, _ => none
 | k + 1, x0, x1, x7, x8, x9 => if x9 < (x0.length : Int) then (if 0 ≤ x9 then (if ((rd_T31 x0 x9).f0) = 3 then (if x7.length + ((rd_T31 x0 x9).f2).length < 8796093022208 then (collatorref04_Apply.l0 k x0 x1 (x7 ++ ((rd_T31 x0 x9).f2)) x8 (wrap64 (x9 + 1))) else (none)) else (if ((rd_T31 x0 x9).f0) = 1 then (if 0 ≤ x8 then (if x8 ≤ (wrap64 (x8 + ((rd_T31 x0 x9).f1))) then (if (wrap64 (x8 + ((rd_T31 x0 x9).f1))) ≤ (x1.length : Int) then (if x7.length + ((x1.take ((wrap64 (x8 + ((rd_T31 x0 x9).f1))) : Int).toNat).drop (x8 : Int).toNat).length < 8796093022208 then (collatorref04_Apply.l0 k x0 x1 (x7 ++ ((x1.take ((wrap64 (x8 + ((rd_T31 x0 x9).f1))) : Int).toNat).drop (x8 : Int).toNat)) (wrap64 (x8 + ((rd_T31 x0 x9).f1))) (wrap64 (x9 + 1))) else (none)) else (none)) else (none)) else (none)) else (collatorref04_Apply.l0 k x0 x1 x7 (wrap64 (x8 + ((rd_T31 x0 x9).f1))) (wrap64 (x9 + 1))))) else (none)) else (some (x7, 0))
def collatorref04_Apply.f (k : Nat) (l0 : List S31) (l1 : List ByteArray) : Option (List ByteArray × Int) := (collatorref04_fits.f k l0 l1).bind fun t294 => (if t294 = 0 then (collatorref04_Apply.l0 k l0 l1 ([] : List ByteArray) 0 0) else (some (([] : List ByteArray), t294)))
set_option maxHeartbeats 8000000 in
set_option maxRecDepth 100000 in
theorem collatorref04_Apply.calls (k : Nat) (A0 : Option Addr) (c0 : Nat) (l0 : List S31) (A1 : Option Addr) (c1 : Nat) (l1 : List ByteArray) (r1 : List ByteArray) (r2 : Int) (w : World) (hr0 : Kd.C k31 w A0 l0.length l0) (hc0 : l0.length ≤ c0) (hr1 : Kd.C Kd.string w A1 l1.length l1) (hc1 : l1.length ≤ c1) (h : collatorref04_Apply.f k l0 l1 = some (r1, r2)) :
  Calls Try.prog 47 #[.slice A0 l0.length c0, .slice A1 l1.length c1] w fun e w' => ∃ v0_ : Value, e = .returned (.tuple #[v0_, .int .i64 r2]) ∧ Kd.R Kd.string 9 w' w.heap.size (fun _ => True) v0_ r1 ∧ Below w.heap.size w w' := by
 have HR0 := Lib.hid hr0
 have HR1 := Lib.hid hr1
 clear hr0 hr1
 unfold collatorref04_Apply.f at h
 obtain ⟨t, ht, h⟩ := Option.bind_eq_some_iff.1 h
 have HT := Lib.hid ht
 clear ht
 by_cases c : t = 0
 case neg =>
  rw [if_neg c] at h
  injection h with h
  injection h with h1 h2
  subst h1
  subst h2
  have b : (t != 0) = true := bne_iff_ne.2 c
  clear c
  go_enter Try.func47, Try.ntmps47
  go_wp2_with (go_at_call 60; refine (collatorref04_fits.calls k A0 c0 l0 A1 c1 l1 t _ HR0.out hc0 HR1.out hc1 HT.out).mono ?_; rintro e W1 ⟨rfl, hb⟩; have HB := Lib.hid hb; clear hb)
  go_ret2
  exact ⟨_, rfl, Kd.R_nil _ _ _ _ _, HB.out⟩
 rw [if_pos c] at h
 have H' := Lib.hid h
 have b : (t != 0) = false := bne_eq_false_iff_eq.2 c
 clear h c
 go_enter Try.func47, Try.ntmps47
 go_wp2_with (go_at_call 60; refine (collatorref04_fits.calls k A0 c0 l0 A1 c1 l1 t _ HR0.out hc0 HR1.out hc1 HT.out).mono ?_; rintro e W1 ⟨rfl, hb⟩; have HB := Lib.hid hb; clear hb)
 go_loopg [7, 8, 9] k (fun kq v7 v8 v9 w' => ∃ (o : List ByteArray) (p i : Int), v8 = .int .i64 p ∧ v9 = .int .i64 i ∧ Hid (collatorref04_Apply.l0 kq l0 l1 o p i = some (r1, r2)) ∧ Hid (kq ≤ k) ∧ Hid (Kd.R Kd.string 9 w' w.heap.size (fun _ => True) v7 o) ∧ Hid (Below w.heap.size w w'))
 case atStart => exact ⟨[], 0, 0, rfl, rfl, H', Lib.hid (Nat.le_refl _), Lib.hid (Kd.R_nil _ _ _ _ _), HB⟩
 case round =>
  clear H' HB
  obtain ⟨o, p, i, rfl, rfl, HA, HK1, HO, HB⟩ := hrel
  cases gk with
  | zero => exact absurd HA.out (by simp [collatorref04_Apply.l0])
  | succ k1 =>
   have H := HA.out
   clear HA
   simp only [collatorref04_Apply.l0] at H
   by_cases d : i < (l0.length : Int)
   case neg =>
    rw [if_neg d] at H
    have b2 : decide (i < (l0.length : Int)) = false := decide_eq_false d
    injection H with h
    injection h with h1 h2
    subst h1
    subst h2
    go_wp2
    go_ret2
    exact ⟨_, rfl, HO.out, HB.out⟩
   rw [if_pos d] at H
   have b2 : decide (i < (l0.length : Int)) = true := decide_eq_true d
   by_cases e0 : 0 ≤ i
   case neg => rw [if_neg e0] at H; cases H
   rw [if_pos e0] at H
   obtain ⟨ad, A2, d2, z0, hx0, hx1, hx2, -, hxc⟩ := at_T31 HR0.out i e0 d
   subst z0
   obtain ⟨x, hx⟩ : ∃ x, x = rd_T31 l0 i := ⟨_, rfl⟩
   rw [← hx] at hx0 hx1 hx2 hxc H
   have HX0 := Lib.hid hx0
   have HX1 := Lib.hid hx1
   have g0 := (HB.out.cell (World.block_lt_of_cell? _ _ hx0)).trans hx0
   have g1 := (HB.out.cell (World.block_lt_of_cell? _ _ hx1)).trans hx1
   have g2 := (HB.out.cell (World.block_lt_of_cell? _ _ hx2)).trans hx2
   have HXC := Lib.hid hxc
   have p0 := eq_true e0
   have p1 := eq_true d
   clear hx0 hx1 hx2 hxc hx e0 d
   obtain ⟨q, hq⟩ : ∃ q, q = wrap64 (p + x.f1) := ⟨_, rfl⟩
   rw [← hq] at H
   have s1 : IntKind.i64.wrap (p + x.f1) = q := by rw [hq, i64_w]
   clear hq
   by_cases d1 : x.f0 = 3
   ·rw [if_pos d1] at H
    have b3 : (x.f0 == 3) = true := beq_iff_eq.2 d1
    split at H
    case isFalse => cases H
    rename_i hl
    have HL := Lib.hid hl
    have H' := Lib.hid H
    clear hl H d1
    go_wp2_with ((with_reducible refine gate_builtin (b := .append) (xs := #[.tmp 28, .tmp 33]) rfl ?_); at_builtin; refine Kd.R_append_rows Kd.string (w0 := w) w.heap.size rfl (.tmp 28) (.tmp 33) 29 9 (.string ⟨#[]⟩) 16 rfl Try.underlying29 info9 rfl (by decide) (by omega) u7 o x.f2 _ _ _ (fun _ => True) (fun _ => False) rfl rfl HO.out (Kd.C_below HXC.out HB.out) (fun _ _ h => h) (fun _ h => h.elim) (fun _ _ => trivial) HB.out (below_size HB.out) (by have := HL.out; omega) ?_; intro v1 W1 ho hb hg hat; have n1 := Lib.hid hb; have n2 := Lib.hid ho; clear HB HO; have HB := n1; have HO := n2; clear n1 n2 ho hb hg hat; have g0 := (HB.out.cell (World.block_lt_of_cell? _ _ HX0.out)).trans HX0.out; have g1 := (HB.out.cell (World.block_lt_of_cell? _ _ HX1.out)).trans HX1.out)
    go_roundg k1
    case measure => have := HK1.out; omega
    case rel => exact ⟨_, p, _, rfl, rfl, H', Lib.hid (by have := HK1.out; omega), HO, HB⟩
   rw [if_neg d1] at H
   have b3 : (x.f0 == 3) = false := beq_eq_false_iff_ne.2 d1
   by_cases d2 : x.f0 = 1
   case neg =>
    rw [if_neg d2] at H
    have b4 : (x.f0 == 1) = false := beq_eq_false_iff_ne.2 d2
    have H' := Lib.hid H
    clear H d1 d2
    go_wp2
    go_roundg k1
    case measure => have := HK1.out; omega
    case rel => exact ⟨_, q, _, rfl, rfl, H', Lib.hid (by have := HK1.out; omega), HO, HB⟩
   rw [if_pos d2] at H
   have b4 : (x.f0 == 1) = true := beq_iff_eq.2 d2
   split at H
   case isFalse => cases H
   rename_i e0
   split at H
   case isFalse => cases H
   rename_i e1
   split at H
   case isFalse => cases H
   rename_i e2
   split at H
   case isFalse => cases H
   rename_i hl
   have HL := Lib.hid hl
   obtain ⟨ii, hi0, _, hsz, _⟩ := info_parts info9
   obtain ⟨A5, hcut, hA5, hC5⟩ := print_mid_of (P := Try.prog) Value.string (⟨#[]⟩ : ByteArray) 29 9 .i64 .i64 Try.underlying29 hi0 hsz A1 c1 l1 p q e0 e1 e2 hc1
   have HR5 := Lib.hid (Kd.C_of_reads (h1 := fun _ => rfl) (hA5 _ (Kd.reads_of_C HR1.out)))
   obtain ⟨ys, hys⟩ : ∃ ys, ys = (l1.take q.toNat).drop p.toNat := ⟨_, rfl⟩
   rw [← hys] at hcut HR5 HL H
   have H' := Lib.hid H
   clear hl H d1 d2 hA5 hC5 hi0 hsz hys e0 e1 e2
   go_wp2_with ((with_reducible refine gate_builtin (b := .append) (xs := #[.tmp 41, .tmp 51]) rfl ?_); at_builtin; refine Kd.R_append_rows Kd.string (w0 := w) w.heap.size rfl (.tmp 41) (.tmp 51) 29 9 (.string ⟨#[]⟩) 16 rfl Try.underlying29 info9 rfl (by decide) (by omega) u7 o ys _ _ _ (fun _ => True) (fun _ => False) rfl rfl HO.out (Kd.C_below HR5.out HB.out) (fun _ _ h => h) (fun _ h => h.elim) (fun _ _ => trivial) HB.out (below_size HB.out) (by have := HL.out; omega) ?_; intro v1 W1 ho hb hg hat; have n1 := Lib.hid hb; have n2 := Lib.hid ho; clear HB HO; have HB := n1; have HO := n2; clear n1 n2 ho hb hg hat; have g0 := (HB.out.cell (World.block_lt_of_cell? _ _ HX0.out)).trans HX0.out; have g1 := (HB.out.cell (World.block_lt_of_cell? _ _ HX1.out)).trans HX1.out)
   go_roundg k1
   case measure => have := HK1.out; omega
   case rel => exact ⟨_, q, _, rfl, rfl, H', Lib.hid (by have := HK1.out; omega), HO, HB⟩
end Go.Proofs.Ytgobidmfbjmpkaa.P
end
section
/- HunksTells: what the document's own functions of layer 4 answer. -/
set_option linter.unusedVariables false
set_option linter.unusedSimpArgs false
namespace Go.Proofs.Ytgobidmfbjmpkaa.Q
open Go Go.RowKit Go.Proofs.Ytgobidmfbjmpkaa.P Go.Proofs.YtgobidmfbjmpkaaW.PrintWords Go.Proofs.YtgobidmfbjmpkaaW.PrintLast Go.Proofs.YtgobidmfbjmpkaaW.PrintMore
theorem rright_ev (s : List EdS) (hs : s.length ≤ 1000000) : Ev (fun k => collatorref04_Right.f k s) (rightB 0 s) := ⟨0, fun k _ => if_pos hs⟩
def manyL (a b : Int) : List EdS → Int
 | [] => 0
 | x :: s => (if x.f0 = a then x.f1 else if x.f0 = b then x.f1 else 0) + manyL a b s
theorem many_loop (s : List EdS) (hs : s.length ≤ 1000000) (a b : Int) (t : List EdS) : ∀ (i : Nat) (n : Int), Fit t → s.drop i = t → 0 ≤ n → n ≤ 1048576 * i → Ev (fun k => collatorref04_many.l0 k s a b n (i : Int)) (n + manyL a b t) := by
 induction t with
 | nil =>
  intro i n _ h _ _
  have hi := drop_nil h
  refine Ev.step (f := fun _ => some (n + 0)) (fun k => ?_) (Ev.now _)
  simp only [collatorref04_many.l0]; rw [if_neg (by omega), Int.add_zero]
 | cons x t ih =>
  intro i n hf h h0 hn
  obtain ⟨h1, h2, h3⟩ := drop_cons h
  obtain ⟨f1, f2, f3, f4⟩ := fit_head hf
  have ea : wrap64 (n + x.f1) = n + x.f1 := w64 (by omega) (by omega)
  have hy := ih (i + 1) (n + x.f1) (fit_tail hf) h3 (by omega) (by omega)
  have hn' := ih (i + 1) n (fit_tail hf) h3 (by omega) (by omega)
  refine Ev.step (f := fun k => _) (fun k => by simp only [collatorref04_many.l0]; rfl) ?_
  refine evpos (by omega) (evpos (by omega) ?_)
  simp only [rdT h2, wi (i := i) (by omega), ea]
  unfold manyL
  by_cases c1 : x.f0 = a
  ·rw [if_pos c1, ← Int.add_assoc]; exact evpos c1 hy
  ·rw [if_neg c1]
   refine evneg c1 ?_
   by_cases c2 : x.f0 = b
   ·rw [if_pos c2, ← Int.add_assoc]; exact evpos c2 hy
   ·rw [if_neg c2, Int.zero_add]; exact evneg c2 hn'
theorem many_takes {s : List EdS} (h : Fit s) : manyL 1 2 s = takes s ∧ manyL 1 3 s = makes s := by
 induction s with
 | nil => exact ⟨rfl, rfl⟩
 | cons x s ih =>
  obtain ⟨a, b⟩ := ih (fit_tail h)
  obtain ⟨_, _, f3, _⟩ := fit_head h
  simp only [manyL, takes, makes, a, b]
  rcases f3 with f | f | f <;> simp [f]
theorem many_ev (s : List EdS) (hs : s.length ≤ 1000000) (h : Fit s) : Ev (fun k => collatorref04_many.f k s 1 2) (takes s) ∧ Ev (fun k => collatorref04_many.f k s 1 3) (makes s) := by
 have a := many_loop s hs 1 2 s 0 0 h (by simp) (by omega) (by omega)
 have b := many_loop s hs 1 3 s 0 0 h (by simp) (by omega) (by omega)
 rw [Int.zero_add] at a b
 rw [(many_takes h).1] at a
 rw [(many_takes h).2] at b
 exact ⟨a, b⟩
theorem rspans_ev (s : List EdS) (hs : s.length ≤ 1000000) (hr : rightB 0 s = true) : Ev (fun k => collatorref04_Spans.f k s) (takes s, makes s) := by
 obtain ⟨a, b⟩ := many_ev s hs ((right_iff s).1 hr).1
 unfold collatorref04_Spans.f
 refine Ev.bind (rright_ev s hs) ?_
 rw [hr]
 exact evpos rfl (Ev.bind a (Ev.bind b (Ev.now _)))
/-- What Apply answers. -/
def applR (s : List EdS) (a : List ByteArray) : List ByteArray × Int := if rightB 0 s = true then (if takes s = (a.length : Int) then (appl s a, 0) else ([], 11)) else ([], 1)
theorem sapply_ev (s : List EdS) (a : List ByteArray) (hs : s.length ≤ 1000000) : Ev (fun k => script_Apply.f k s a) (applR s a) := by
 unfold applR
 by_cases hr : rightB 0 s = true
 ·rw [if_pos hr]
  by_cases ht : takes s = (a.length : Int)
  ·rw [if_pos ht]; exact apply_ev s a hs hr ht
  ·rw [if_neg ht]
   unfold script_Apply.f
   have hf := fits_ev s a hs hr
   rw [if_neg ht] at hf
   refine Ev.bind hf ?_
   exact evneg (by decide) (Ev.now _)
 ·rw [if_neg hr]
  have hr' : rightB 0 s = false := by simpa using hr
  unfold script_Apply.f
  have hf : Ev (fun k => script_fits.f k s a) 1 := by
   unfold script_fits.f
   refine Ev.bind (spans_no s hs hr') (Ev.bind (right_ev s hs) ?_)
   rw [hr']
   exact evneg (by decide) (Ev.now _)
  refine Ev.bind hf ?_
  exact evneg (by decide) (Ev.now _)
theorem rapply_loop (s : List EdS) (hs : s.length ≤ 1000000) (a : List ByteArray) (t : List EdS) : ∀ (i at_ : Nat) (out : List ByteArray), Fit t → s.drop i = t → (at_ : Int) + takes t = (a.length : Int) → a.length ≤ 1000000000000 → out.length ≤ 1048576 * i → Ev (fun k => collatorref04_Apply.l0 k s a out (at_ : Int) (i : Int)) (out ++ appl t (a.drop at_), 0) := by
 induction t with
 | nil =>
  intro i at_ out _ h _ _ _
  have hi := drop_nil h
  refine Ev.step (f := fun _ => some (out ++ [], 0)) (fun k => ?_) (Ev.now _)
  simp only [collatorref04_Apply.l0]; rw [if_neg (by omega), List.append_nil]
 | cons x t ih =>
  intro i at_ out hf h ht ha ho
  obtain ⟨h1, h2, h3⟩ := drop_cons h
  obtain ⟨f1, f2, f3, f4, f5⟩ := fit_head hf
  have hb := spans_bd (fit_tail hf)
  simp only [takes] at ht
  simp only [appl]
  refine Ev.step (f := fun k => _) (fun k => by simp only [collatorref04_Apply.l0]; rfl) ?_
  refine evpos (by omega) (evpos (by omega) ?_)
  simp only [rdT h2, wi (i := i) (by omega)]
  by_cases c3 : x.f0 = 3
  ·rw [if_pos c3, Int.zero_add] at ht
   have f6 := f4 c3
   rw [if_neg (by omega), if_neg (by omega), ← List.append_assoc]
   exact evpos c3 (evpos (by omega) (ih (i + 1) at_ (out ++ x.f2) (fit_tail hf) h3 ht ha (by rw [List.length_append]; omega)))
  ·rw [if_neg c3] at ht
   have e1 : wrap64 ((at_ : Int) + x.f1) = ((at_ + x.f1.toNat : Nat) : Int) := by rw [w64 (by omega) (by omega)]; omega
   refine evneg c3 ?_
   simp only [e1]
   by_cases c1 : x.f0 = 1
   ·rw [if_pos c1, ← List.append_assoc, List.drop_drop]
    have e2 : (a.take ((at_ + x.f1.toNat : Nat) : Int).toNat).drop ((at_ : Int)).toNat = (a.drop at_).take x.f1.toNat := by
     rw [Int.toNat_natCast, Int.toNat_natCast, List.drop_take, Nat.add_sub_cancel_left]
    refine evpos c1 (evpos (by omega) (evpos (by omega) (evpos (by omega) (evpos ?_ ?_))))
    ·rw [e2, List.length_take, List.length_drop]; omega
    ·simp only [e2]
     exact ih (i + 1) (at_ + x.f1.toNat) (out ++ (a.drop at_).take x.f1.toNat) (fit_tail hf) h3 (by omega) ha (by rw [List.length_append, List.length_take, List.length_drop]; omega)
   ·rw [if_neg c1, if_pos (show x.f0 = 2 by omega), List.drop_drop]
    exact evneg c1 (ih (i + 1) (at_ + x.f1.toNat) out (fit_tail hf) h3 (by omega) ha (by omega))
theorem rapply_ev (s : List EdS) (a : List ByteArray) (hs : s.length ≤ 1000000) (ha : a.length ≤ 1000000000000) : Ev (fun k => collatorref04_Apply.f k s a) (applR s a) := by
 unfold applR collatorref04_Apply.f
 by_cases hr : rightB 0 s = true
 ·rw [if_pos hr]
  have hm := (many_ev s hs ((right_iff s).1 hr).1).1
  by_cases ht : takes s = (a.length : Int)
  ·rw [if_pos ht]
   have hf : Ev (fun k => collatorref04_fits.f k s a) 0 := by
    unfold collatorref04_fits.f
    refine Ev.bind (rright_ev s hs) ?_
    rw [hr]
    exact evpos rfl (Ev.bind hm (evpos ht (Ev.now _)))
   refine Ev.bind hf (evpos rfl ?_)
   have := rapply_loop s hs a s 0 0 [] ((right_iff s).1 hr).1 (by simp) (by omega) ha (by simp)
   simpa using this
  ·rw [if_neg ht]
   have hf : Ev (fun k => collatorref04_fits.f k s a) 11 := by
    unfold collatorref04_fits.f
    refine Ev.bind (rright_ev s hs) ?_
    rw [hr]
    exact evpos rfl (Ev.bind hm (evneg ht (Ev.now _)))
   exact Ev.bind hf (evneg (by decide) (Ev.now _))
 ·rw [if_neg hr]
  have hr' : rightB 0 s = false := by simpa using hr
  have hf : Ev (fun k => collatorref04_fits.f k s a) 1 := by
   unfold collatorref04_fits.f
   refine Ev.bind (rright_ev s hs) ?_
   rw [hr']
   exact evneg (by decide) (Ev.now _)
  exact Ev.bind hf (evneg (by decide) (Ev.now _))
end Go.Proofs.Ytgobidmfbjmpkaa.Q
end
section
/- Laid for this claim by hp.py, this session's program round the kit's print: functions of the program as plain Lean functions, the proofs that the code comes to their answers, and the rows of the laws. Not trusted: Lean checks it. -/
namespace Go.Proofs.Ytgobidmfbjmpkaa.P
open Go.RowKit Go.Proofs.YtgobidmfbjmpkaaW.PrintWords Go.Proofs.YtgobidmfbjmpkaaW.PrintLast Go.Proofs.YtgobidmfbjmpkaaW.PrintMore
attribute [local go_sem] max2_int min2_int max_two min_two max_three min_three max_four min_four   -- for this text's walks alone
set_option linter.unusedVariables false
set_option linter.unusedSimpArgs false

/-! ### collatorref06_changes: function 41 -/
def collatorref06_changes.l0 : Nat → List (S31) → Int → Option (Bool)
 | 0, _, _ => none
 | k + 1, x0, x3 => if x3 < (x0.length : Int) then (if 0 ≤ x3 then (if ((rd_T31 x0 x3).f0) = 1 then (collatorref06_changes.l0 k x0 (wrap64 (x3 + 1))) else (some true)) else (none)) else (some false)
def collatorref06_changes.f (k : Nat) (l0 : List (S31)) : Option (Bool) := collatorref06_changes.l0 k l0 0
set_option maxHeartbeats 8000000 in
set_option maxRecDepth 100000 in
theorem collatorref06_changes.calls (k : Nat) (A0 : Option Addr) (c0 : Nat) (l0 : List (S31)) (r : Bool) (w : World) (hr0 : Kd.C k31 w A0 l0.length l0) (hc0 : l0.length ≤ c0) (h : collatorref06_changes.f k l0 = some r) :
  Calls Try.prog 41 #[.slice A0 l0.length c0] w fun e w' => e = .returned (.bool r) ∧ Drawn0 w w' := by
 have HR0 := Aside0.mk hr0
 have HC0 := Aside0.mk hc0
 clear hr0 hc0
 have H : (collatorref06_changes.l0 k l0 0) = some r := h
 clear h
 have H' := Aside0.mk H
 clear H
 go_enter Try.func41, Try.ntmps41
 go_wp2
 go_loopg [3] k (fun kq v3 w' => ∃ (x3_1 : Int), v3 = .int .i64 x3_1 ∧ Aside0 (collatorref06_changes.l0 kq l0 x3_1 = some r) ∧ Aside0 (kq ≤ k) ∧ Drawn0 w w')
 case atStart => exact ⟨(0), rf_, H', ⟨Nat.le_refl _⟩, by repeat (first | exact Drawn0.refl _ | apply Drawn0.step)⟩
 case round =>
  clear H'
  obtain ⟨x3_1, rfl, HA, HK1, ⟨m1, rfl⟩⟩ := hrel
  cases gk with
  | zero => exact absurd HA.out (by simp [collatorref06_changes.l0])
  | succ k1 =>
   have H := HA.out
   clear HA
   simp only [collatorref06_changes.l0] at H
   by_cases c2 : x3_1 < (l0.length : Int)
   ·rw [if_pos c2] at H
    have c2b0 : decide (x3_1 < (l0.length : Int)) = true := decide_eq_true c2
    clear c2
    by_cases c3 : 0 ≤ x3_1
    ·rw [if_pos c3] at H
     have c3b0 : decide (0 ≤ x3_1) = true := decide_eq_true c3
     clear c3
     by_cases c4 : ((rd_T31 l0 x3_1).f0) = 1
     ·rw [if_pos c4] at H
      have c4b0 : (((rd_T31 l0 x3_1).f0) == 1) = true := beq_iff_eq.mpr c4
      have c4b1 : (((rd_T31 l0 x3_1).f0) != 1) = false := bne_eq_false_iff_eq.mpr c4
      clear c4
      have H' := Aside0.mk H
      clear H
      have p440 : 0 ≤ (x3_1 : Int) := of_decide_eq_true as_
      have q440 : x3_1 < (l0.length : Int) := of_decide_eq_true as_
      obtain ⟨ad440, A440_2, c440_2, e440, hx440_0, hx440_1, hx440_2, hl440_2, hi440_2⟩ := at_T31 HR0.out x3_1 p440 q440
      cases e440
      have HR440_2 := Aside0.mk hi440_2
      have HC440_2 := Aside0.mk hl440_2
      clear hi440_2 hl440_2
      replace p440 := eq_true p440
      replace q440 := eq_true q440
      go_wp2
      go_roundg k1
      case measure => have := HK1.out; omega
      case rel => exact ⟨(wrap64 (x3_1 + 1)), rf_, H', ⟨by have := HK1.out; omega⟩, by repeat (first | exact Drawn0.refl _ | apply Drawn0.step)⟩
     ·rw [if_neg c4] at H
      have c4b0 : (((rd_T31 l0 x3_1).f0) == 1) = false := beq_eq_false_iff_ne.mpr c4
      have c4b1 : (((rd_T31 l0 x3_1).f0) != 1) = true := bne_iff_ne.mpr c4
      obtain rfl := Option.some.inj H
      have p440 : 0 ≤ (x3_1 : Int) := of_decide_eq_true as_
      have q440 : x3_1 < (l0.length : Int) := of_decide_eq_true as_
      obtain ⟨ad440, A440_2, c440_2, e440, hx440_0, hx440_1, hx440_2, hl440_2, hi440_2⟩ := at_T31 HR0.out x3_1 p440 q440
      cases e440
      have HR440_2 := Aside0.mk hi440_2
      have HC440_2 := Aside0.mk hl440_2
      clear hi440_2 hl440_2
      replace p440 := eq_true p440
      replace q440 := eq_true q440
      go_wp2
      go_ret
      exact ⟨by first | rfl | (simp; done) | (simp [*]; done), by repeat (first | exact Drawn0.refl _ | apply Drawn0.step)⟩
    ·rw [if_neg c3] at H
     exact absurd H (by simp)
   ·rw [if_neg c2] at H
    have c2b0 : decide (x3_1 < (l0.length : Int)) = false := decide_eq_false c2
    clear c2
    obtain rfl := Option.some.inj H
    go_wp2
    go_ret
    exact ⟨by first | rfl | (simp; done) | (simp [*]; done), by repeat (first | exact Drawn0.refl _ | apply Drawn0.step)⟩

end Go.Proofs.Ytgobidmfbjmpkaa.P
end
section
/- ref06.Right: by a walk of its text. -/
set_option linter.unusedVariables false
set_option linter.unusedSimpArgs false
namespace Go.Proofs.Ytgobidmfbjmpkaa.Q
open Go Go.RowKit Go.Proofs.Ytgobidmfbjmpkaa.P Go.Proofs.YtgobidmfbjmpkaaW.PrintWords
theorem rchanges_loop (s : List EdS) (hs : s.length ≤ 1000000) (t : List EdS) : ∀ (i : Nat), s.drop i = t → Ev (fun k => collatorref06_changes.l0 k s (i : Int)) (chB t) := by
 induction t with
 | nil =>
  intro i h
  have hi := drop_nil h
  refine Ev.step (f := fun _ => some false) (fun k => ?_) (Ev.now _)
  simp only [collatorref06_changes.l0]; rw [if_neg (by omega)]
 | cons x t ih =>
  intro i h
  obtain ⟨h1, h2, h3⟩ := drop_cons h
  refine Ev.step (f := fun k => _) (fun k => by simp only [collatorref06_changes.l0]; rfl) ?_
  refine evpos (by omega) (evpos (by omega) ?_)
  simp only [rdT h2, wi (i := i) (by omega)]
  have e : chB (x :: t) = (x.f0 != 1 || chB t) := rfl
  rw [e]
  by_cases c : x.f0 = 1
  ·rw [show (x.f0 != 1) = false by simp [c], Bool.false_or]
   exact evpos c (ih (i + 1) h3)
  ·rw [show (x.f0 != 1) = true by simp [c], Bool.true_or]
   exact evneg c (Ev.now _)
theorem rchanges_ev (s : List EdS) (hs : s.length ≤ 1000000) : Ev (fun k => collatorref06_changes.f k s) (chB s) := rchanges_loop s hs s 0 (by simp)
end Go.Proofs.Ytgobidmfbjmpkaa.Q
namespace Go.Proofs.Ytgobidmfbjmpkaa.P
open Go Go.RowKit Go.Proofs.YtgobidmfbjmpkaaW.PrintWords Go.Proofs.YtgobidmfbjmpkaaW.PrintLast Go.Proofs.YtgobidmfbjmpkaaW.PrintMore Go.Proofs.Ytgobidmfbjmpkaa.Q
set_option maxRecDepth 100000 in
set_option maxHeartbeats 8000000 in
theorem rright6_run (A0 : Option Addr) (c0 : Nat) (l0 : List S28) (w : World) (hr0 : Kd.C k28 w A0 l0.length l0) (hc0 : l0.length ≤ c0) (hl : RightOk l0) : Calls Try.prog 17 #[.slice A0 l0.length c0] w fun e w' => e = .returned (.bool (rightH true 0 0 l0)) ∧ Below w.heap.size w w' := by
 have HR0 := Lib.hid hr0
 have HL := Lib.hid hl
 obtain ⟨r, hr⟩ : ∃ r, r = rightH true 0 0 l0 := ⟨_, rfl⟩
 rw [← hr]
 have HR := Lib.hid hr
 clear hr0 hl hr
 go_enter Try.func17, Try.ntmps17
 go_wp2
 go_loopw [3, 4, 5] (fun v3 v4 v_ wr => ∃ (i : Nat) (a b : Int), v3 = .int .i64 a ∧ v4 = .int .i64 b ∧ v_ = .int .i64 (i : Int) ∧ i ≤ l0.length ∧ (0 ≤ a ∧ a ≤ 1000000000000) ∧ (0 ≤ b ∧ b ≤ 1000000000000 * i) ∧ Hid (r = rightH (i == 0) a b (l0.drop i)) ∧ Hid (Below w.heap.size w wr)) (fun _ _ v_ _ => l0.length - (intOf v_).toNat)
 case atStart => exact ⟨0, 0, 0, rfl, rfl, rfl, Nat.zero_le _, by omega, by omega, HR, Below.refl _ _⟩
 case round =>
  clear HR
  obtain ⟨i, a, b, rfl, rfl, rfl, hi, ha, hb, HI, HB⟩ := hrel
  by_cases ci : i < l0.length
  ·have b0 : decide ((i : Int) < (l0.length : Int)) = true := decide_eq_true (by omega)
   have h1 := HI.out
   rw [drop_rdH ci] at h1
   obtain ⟨ad, A2, d2, e0, hx0, hx1, hx2, hxl, hxc⟩ := at_T28 HR0.out (i : Int) (by omega) (by omega)
   subst e0
   rw [Int.toNat_natCast] at hx0 hx1 hx2
   have hmem : rd_T28 l0 (i : Int) ∈ l0 := by
    have := drop_rdH ci
    exact List.mem_of_mem_drop (this ▸ List.mem_cons_self)
   obtain ⟨x, hx⟩ : ∃ x, x = rd_T28 l0 (i : Int) := ⟨_, rfl⟩
   rw [← hx] at hx0 hx1 hx2 hxl hxc h1 hmem
   obtain ⟨ox1, ox2, ox3⟩ := HL.out.2 x hmem
   have H1 := Lib.hid h1
   have HXL := Lib.hid hxl
   have HXC := Lib.hid hxc
   have OX := Lib.hid ox1
   have hn := HL.out.1
   have p0 := eq_true (show 0 ≤ (i : Int) by omega)
   have p1 := eq_true (show (i : Int) < (l0.length : Int) by omega)
   have hin : wrap64 ((i : Int) + 1) = ((i + 1 : Nat) : Int) := by unfold wrap64; omega
   have HX0 := Lib.hid hx0
   have HX1 := Lib.hid hx1
   have HX2 := Lib.hid hx2
   have g0 := (HB.out.cell (World.block_lt_of_cell? _ _ hx0)).trans hx0
   have g1 := (HB.out.cell (World.block_lt_of_cell? _ _ hx1)).trans hx1
   have g2 := (HB.out.cell (World.block_lt_of_cell? _ _ hx2)).trans hx2
   clear hx h1 hx0 hx1 hx2 hxl hxc HI hmem ox1
   obtain ⟨bR, hbR⟩ : ∃ b, b = rightB 0 x.f2 := ⟨_, rfl⟩
   obtain ⟨bC, hbC⟩ : ∃ b, b = chB x.f2 := ⟨_, rfl⟩
   have HBR := Lib.hid hbR
   have HBC := Lib.hid hbC
   have HKR := Lib.hid (show collatorref04_Right.f 0 x.f2 = some bR by rw [hbR]; exact if_pos (by have := OX.out; omega))
   obtain ⟨kC, hkC⟩ := (rchanges_ev x.f2 (by have := OX.out; omega)).rounds
   rw [← hbC] at hkC
   have HKC := Lib.hid hkC
   clear hbR hbC hkC
   obtain ⟨g, hg⟩ : ∃ g, g = wrap64 (x.f0 - a) := ⟨_, rfl⟩
   obtain ⟨d, hd⟩ : ∃ d, d = wrap64 (x.f1 - b) := ⟨_, rfl⟩
   have s1 : IntKind.i64.wrap (x.f0 - a) = g := by rw [hg, i64_w]
   have s2 : IntKind.i64.wrap (x.f1 - b) = d := by rw [hd, i64_w]
   have HG := Lib.hid (show 0 ≤ x.f0 → x.f0 ≤ 1048576 → g = x.f0 - a ∧ (d = x.f0 - a ↔ x.f1 - b = x.f0 - a) from fun h h' => ⟨by rw [hg]; unfold wrap64; omega, by rw [hd]; unfold wrap64; omega⟩)
   have HO := Lib.hid (And.intro ha (And.intro hb (And.intro ox2 ox3)))
   clear hg hd ha hb ox2 ox3
   cases bR with
   | false =>
    have HNO := Lib.hid (show r = false by rw [H1.out]; exact rH_no (.inl HBR.out.symm))
    cases bC
    all_goals go_wp2_with (first | (go_at_call 35; refine (collatorref04_Right.calls 0 A2 d2 x.f2 false _ (Kd.C_below HXC.out HB.out) HXL.out HKR.out).mono ?_; rintro e W1 ⟨rfl, hb⟩; have n_ := Lib.hid (below_step HB.out hb); clear HB g0 g1 g2; have HB := n_; clear n_ hb; have g0 := (HB.out.cell (World.block_lt_of_cell? _ _ HX0.out)).trans HX0.out; have g1 := (HB.out.cell (World.block_lt_of_cell? _ _ HX1.out)).trans HX1.out; have g2 := (HB.out.cell (World.block_lt_of_cell? _ _ HX2.out)).trans HX2.out) | (go_at_call 41; refine (collatorref06_changes.calls kC A2 d2 x.f2 _ _ (Kd.C_below HXC.out HB.out) HXL.out HKC.out).mono ?_; rintro e W1 ⟨rfl, hd⟩; have hb := hd.below; clear hd; have n_ := Lib.hid (below_step HB.out hb); clear HB g0 g1 g2; have HB := n_; clear n_ hb; have g0 := (HB.out.cell (World.block_lt_of_cell? _ _ HX0.out)).trans HX0.out; have g1 := (HB.out.cell (World.block_lt_of_cell? _ _ HX1.out)).trans HX1.out; have g2 := (HB.out.cell (World.block_lt_of_cell? _ _ HX2.out)).trans HX2.out))
    all_goals go_quiet (fail)
    all_goals have HB2 := Lib.hid (pw_below_drewN HB.out nq)
    all_goals clear HB
    all_goals go_wp2
    all_goals go_ret
    all_goals exact ⟨by rw [HNO.out]; rfl, HB2.out⟩
   | true =>
    cases bC with
    | false =>
     have HNO := Lib.hid (show r = false by rw [H1.out]; exact rH_no (.inr (.inl HBC.out.symm)))
     go_wp2_with (first | (go_at_call 35; refine (collatorref04_Right.calls 0 A2 d2 x.f2 true _ (Kd.C_below HXC.out HB.out) HXL.out HKR.out).mono ?_; rintro e W1 ⟨rfl, hb⟩; have n_ := Lib.hid (below_step HB.out hb); clear HB g0 g1 g2; have HB := n_; clear n_ hb; have g0 := (HB.out.cell (World.block_lt_of_cell? _ _ HX0.out)).trans HX0.out; have g1 := (HB.out.cell (World.block_lt_of_cell? _ _ HX1.out)).trans HX1.out; have g2 := (HB.out.cell (World.block_lt_of_cell? _ _ HX2.out)).trans HX2.out) | (go_at_call 41; refine (collatorref06_changes.calls kC A2 d2 x.f2 false _ (Kd.C_below HXC.out HB.out) HXL.out HKC.out).mono ?_; rintro e W1 ⟨rfl, hd⟩; have hb := hd.below; clear hd; have n_ := Lib.hid (below_step HB.out hb); clear HB g0 g1 g2; have HB := n_; clear n_ hb; have g0 := (HB.out.cell (World.block_lt_of_cell? _ _ HX0.out)).trans HX0.out; have g1 := (HB.out.cell (World.block_lt_of_cell? _ _ HX1.out)).trans HX1.out; have g2 := (HB.out.cell (World.block_lt_of_cell? _ _ HX2.out)).trans HX2.out))
     go_quiet (fail)
     all_goals have HB2 := Lib.hid (pw_below_drewN HB.out nq)
     all_goals clear HB
     all_goals go_wp2
     all_goals go_ret
     all_goals exact ⟨by rw [HNO.out]; rfl, HB2.out⟩
    | true =>
     obtain ⟨tk, htk⟩ : ∃ t, t = takes x.f2 := ⟨_, rfl⟩
     obtain ⟨mk, hmk⟩ : ∃ t, t = makes x.f2 := ⟨_, rfl⟩
     obtain ⟨kS, hkS⟩ := (rspans_ev x.f2 (by have := OX.out; omega) HBR.out.symm).rounds
     rw [← htk, ← hmk] at hkS
     have HKS := Lib.hid hkS
     have hbd := spans_bd ((right_iff _).1 HBR.out.symm).1
     rw [← htk, ← hmk] at hbd
     have HBD := Lib.hid hbd
     have HTM := Lib.hid (And.intro htk hmk)
     obtain ⟨z1, hz1⟩ : ∃ z, z = wrap64 (x.f0 + tk) := ⟨_, rfl⟩
     obtain ⟨z2, hz2⟩ : ∃ z, z = wrap64 (x.f1 + mk) := ⟨_, rfl⟩
     have s3 : IntKind.i64.wrap (x.f0 + tk) = z1 := by rw [hz1, i64_w]
     have s4 : IntKind.i64.wrap (x.f1 + mk) = z2 := by rw [hz2, i64_w]
     have HZ := Lib.hid (And.intro hz1 hz2)
     clear hkS htk hmk hbd hz1 hz2
     have key : ∃ c1 c2 c3 c4 c5 c6, decide (x.f0 < 0) = c1 ∧ decide (1048576 < x.f0) = c2 ∧ ((i : Int) == 0) = c3 ∧ (x.f1 != x.f0) = c4 ∧ decide (x.f0 ≤ a) = c5 ∧ (d != g) = c6 ∧ decide (0 < (i : Int)) = !c3 ∧ decide (0 < i) = !c3 ∧ Hid ((c1 = true ∨ c2 = true ∨ (c3 = true ∧ c4 = true) ∨ (c3 = false ∧ (c5 = true ∨ c6 = true))) → r = false) ∧ Hid (c1 = false → c2 = false → ((c3 = true ∧ c4 = false) ∨ (c3 = false ∧ c5 = false ∧ c6 = false)) → r = rightH false z1 z2 (l0.drop (i + 1)) ∧ (0 ≤ z1 ∧ z1 ≤ 1000000000000) ∧ (0 ≤ z2 ∧ z2 ≤ 1000000000000 * ((i + 1 : Nat) : Int))) := by
      refine ⟨_, _, _, _, _, _, rfl, rfl, rfl, rfl, rfl, rfl, by (rcases Nat.eq_zero_or_pos i with h | h); (· simp [h]); (· rw [decide_eq_true (by omega), beq_eq_false_iff_ne.2 (by omega)]; rfl), by (rcases Nat.eq_zero_or_pos i with h | h); (· simp [h]); (· rw [decide_eq_true h, beq_eq_false_iff_ne.2 (by omega)]; rfl), Lib.hid ?_, Lib.hid ?_⟩
      ·intro h
       simp only [decide_eq_true_eq, beq_iff_eq, bne_iff_ne, beq_eq_false_iff_ne] at h
       rw [H1.out]
       have hg := HG.out
       refine rH_no (.inr (.inr ?_))
       by_cases hx : x.f0 < 0 ∨ 1048576 < x.f0
       ·rcases hx with hx | hx
        ·exact .inl hx
        ·exact .inr (.inl hx)
       ·obtain ⟨hg1, hg2⟩ := hg (by omega) (by omega)
        rcases h with h | h | ⟨h, h'⟩ | ⟨h, h'⟩
        ·exact absurd (.inl h) hx
        ·exact absurd (.inr h) hx
        ·exact .inr (.inr (.inl ⟨by simp; omega, h'⟩))
        ·refine .inr (.inr (.inr ⟨by simp; omega, ?_⟩))
         rcases h' with h' | h'
         ·exact .inl (by omega)
         ·exact .inr (fun e => h' (by rw [hg1]; exact hg2.mpr e))
      ·intro h0 h1 h
       simp only [decide_eq_false_iff_not, beq_iff_eq, bne_eq_false_iff_eq, beq_eq_false_iff_ne] at h0 h1 h
       obtain ⟨hg1, hg2⟩ := HG.out (by omega) (by omega)
       obtain ⟨hz1, hz2⟩ := HZ.out
       obtain ⟨ht, hm⟩ := HTM.out
       obtain ⟨ha, hb, -, -⟩ := HO.out
       have hbd := HBD.out
       have hl := OX.out
       have hd : d = g → x.f1 - b = x.f0 - a := fun h => hg2.mp (by rw [← hg1]; exact h)
       have e1 : z1 = x.f0 + tk := by rw [hz1]; unfold wrap64; omega
       have e2 : z2 = x.f1 + mk := by
        rw [hz2]
        rcases h with ⟨h, h'⟩ | ⟨h, h', h''⟩
        ·unfold wrap64; omega
        ·have := hd h''; unfold wrap64; omega
       refine ⟨?_, by omega, ?_⟩
       ·rw [H1.out, rH_next HBR.out.symm HBC.out.symm ⟨by omega, by omega⟩ (by
         rcases h with ⟨h, h'⟩ | ⟨h, h', h''⟩
         ·exact .inl ⟨by simp; omega, h'⟩
         ·exact .inr ⟨by simp; omega, by omega, hd h''⟩), ← ht, ← hm, ← e1, ← e2]
       ·rcases h with ⟨h, h'⟩ | ⟨h, h', h''⟩
        ·omega
        ·have := hd h''; omega
     obtain ⟨c1, c2, c3, c4, c5, c6, k1, k2, k3, k4, k5, k6, k7, k8, HF, HN⟩ := key
     clear HG HZ HTM HO HBD H1 HBC
     have all : (Hid (r = false) ∧ (c1 = true ∨ (c1 = false ∧ c2 = true) ∨ (c1 = false ∧ c2 = false ∧ c3 = true ∧ c4 = true))) ∨ (Hid (r = false) ∧ c1 = false ∧ c2 = false ∧ c3 = false ∧ (c5 = true ∨ (c5 = false ∧ c6 = true))) ∨ (Hid (r = rightH false z1 z2 (l0.drop (i + 1)) ∧ (0 ≤ z1 ∧ z1 ≤ 1000000000000) ∧ (0 ≤ z2 ∧ z2 ≤ 1000000000000 * ((i + 1 : Nat) : Int))) ∧ c1 = false ∧ c2 = false ∧ ((c3 = true ∧ c4 = false) ∨ (c3 = false ∧ c5 = false ∧ c6 = false))) := by
      have hf := HF.out
      have hn := HN.out
      clear k1 k2 k3 k4 k5 k6 k7 k8
      cases c1 <;> cases c2 <;> cases c3 <;> cases c4 <;> cases c5 <;> cases c6 <;> first | exact .inl ⟨Lib.hid (hf (by decide)), by decide⟩ | exact .inr (.inl ⟨Lib.hid (hf (by decide)), by decide⟩) | exact .inr (.inr ⟨Lib.hid (hn rfl rfl (by decide)), by decide⟩)
     clear HF HN
     rcases all with ⟨HNO, h⟩ | ⟨HNO, rfl, rfl, rfl, h⟩ | ⟨HN, rfl, rfl, h⟩
     ·rcases h with rfl | ⟨rfl, rfl⟩ | ⟨rfl, rfl, rfl, rfl⟩
      all_goals go_wp2_with (first | (go_at_call 35; refine (collatorref04_Right.calls 0 A2 d2 x.f2 true _ (Kd.C_below HXC.out HB.out) HXL.out HKR.out).mono ?_; rintro e W1 ⟨rfl, hb⟩; have n_ := Lib.hid (below_step HB.out hb); clear HB g0 g1 g2; have HB := n_; clear n_ hb; have g0 := (HB.out.cell (World.block_lt_of_cell? _ _ HX0.out)).trans HX0.out; have g1 := (HB.out.cell (World.block_lt_of_cell? _ _ HX1.out)).trans HX1.out; have g2 := (HB.out.cell (World.block_lt_of_cell? _ _ HX2.out)).trans HX2.out) | (go_at_call 41; refine (collatorref06_changes.calls kC A2 d2 x.f2 true _ (Kd.C_below HXC.out HB.out) HXL.out HKC.out).mono ?_; rintro e W1 ⟨rfl, hd⟩; have hb := hd.below; clear hd; have n_ := Lib.hid (below_step HB.out hb); clear HB g0 g1 g2; have HB := n_; clear n_ hb; have g0 := (HB.out.cell (World.block_lt_of_cell? _ _ HX0.out)).trans HX0.out; have g1 := (HB.out.cell (World.block_lt_of_cell? _ _ HX1.out)).trans HX1.out; have g2 := (HB.out.cell (World.block_lt_of_cell? _ _ HX2.out)).trans HX2.out) | (go_at_call 39; refine (collatorref04_Spans.calls kS A2 d2 x.f2 tk mk _ (Kd.C_below HXC.out HB.out) HXL.out HKS.out).mono ?_; rintro e W1 ⟨rfl, hb⟩; have n_ := Lib.hid (below_step HB.out hb); clear HB g0 g1 g2; have HB := n_; clear n_ hb; have g0 := (HB.out.cell (World.block_lt_of_cell? _ _ HX0.out)).trans HX0.out; have g1 := (HB.out.cell (World.block_lt_of_cell? _ _ HX1.out)).trans HX1.out; have g2 := (HB.out.cell (World.block_lt_of_cell? _ _ HX2.out)).trans HX2.out))
      all_goals go_quiet (fail)
      all_goals have HB2 := Lib.hid (pw_below_drewN HB.out nq)
      all_goals clear HB
      all_goals go_wp2
      all_goals go_ret
      all_goals exact ⟨by rw [HNO.out]; rfl, HB2.out⟩
     ·rcases h with rfl | ⟨rfl, rfl⟩
      all_goals go_wp2_with (first | (go_at_call 35; refine (collatorref04_Right.calls 0 A2 d2 x.f2 true _ (Kd.C_below HXC.out HB.out) HXL.out HKR.out).mono ?_; rintro e W1 ⟨rfl, hb⟩; have n_ := Lib.hid (below_step HB.out hb); clear HB g0 g1 g2; have HB := n_; clear n_ hb; have g0 := (HB.out.cell (World.block_lt_of_cell? _ _ HX0.out)).trans HX0.out; have g1 := (HB.out.cell (World.block_lt_of_cell? _ _ HX1.out)).trans HX1.out; have g2 := (HB.out.cell (World.block_lt_of_cell? _ _ HX2.out)).trans HX2.out) | (go_at_call 41; refine (collatorref06_changes.calls kC A2 d2 x.f2 true _ (Kd.C_below HXC.out HB.out) HXL.out HKC.out).mono ?_; rintro e W1 ⟨rfl, hd⟩; have hb := hd.below; clear hd; have n_ := Lib.hid (below_step HB.out hb); clear HB g0 g1 g2; have HB := n_; clear n_ hb; have g0 := (HB.out.cell (World.block_lt_of_cell? _ _ HX0.out)).trans HX0.out; have g1 := (HB.out.cell (World.block_lt_of_cell? _ _ HX1.out)).trans HX1.out; have g2 := (HB.out.cell (World.block_lt_of_cell? _ _ HX2.out)).trans HX2.out) | (go_at_call 39; refine (collatorref04_Spans.calls kS A2 d2 x.f2 tk mk _ (Kd.C_below HXC.out HB.out) HXL.out HKS.out).mono ?_; rintro e W1 ⟨rfl, hb⟩; have n_ := Lib.hid (below_step HB.out hb); clear HB g0 g1 g2; have HB := n_; clear n_ hb; have g0 := (HB.out.cell (World.block_lt_of_cell? _ _ HX0.out)).trans HX0.out; have g1 := (HB.out.cell (World.block_lt_of_cell? _ _ HX1.out)).trans HX1.out; have g2 := (HB.out.cell (World.block_lt_of_cell? _ _ HX2.out)).trans HX2.out))
      all_goals go_quiet (fail)
      all_goals have HB2 := Lib.hid (pw_below_drewN HB.out nq)
      all_goals clear HB
      all_goals go_wp2
      all_goals go_quiet (fail)
      all_goals have HB3 := Lib.hid (pw_below_drewN HB2.out nq)
      all_goals clear HB2
      all_goals go_wp2
      all_goals go_ret
      all_goals exact ⟨by rw [HNO.out]; rfl, HB3.out⟩
     ·rcases h with ⟨rfl, rfl⟩ | ⟨rfl, rfl, rfl⟩
      all_goals go_wp2_with (first | (go_at_call 35; refine (collatorref04_Right.calls 0 A2 d2 x.f2 true _ (Kd.C_below HXC.out HB.out) HXL.out HKR.out).mono ?_; rintro e W1 ⟨rfl, hb⟩; have n_ := Lib.hid (below_step HB.out hb); clear HB g0 g1 g2; have HB := n_; clear n_ hb; have g0 := (HB.out.cell (World.block_lt_of_cell? _ _ HX0.out)).trans HX0.out; have g1 := (HB.out.cell (World.block_lt_of_cell? _ _ HX1.out)).trans HX1.out; have g2 := (HB.out.cell (World.block_lt_of_cell? _ _ HX2.out)).trans HX2.out) | (go_at_call 41; refine (collatorref06_changes.calls kC A2 d2 x.f2 true _ (Kd.C_below HXC.out HB.out) HXL.out HKC.out).mono ?_; rintro e W1 ⟨rfl, hd⟩; have hb := hd.below; clear hd; have n_ := Lib.hid (below_step HB.out hb); clear HB g0 g1 g2; have HB := n_; clear n_ hb; have g0 := (HB.out.cell (World.block_lt_of_cell? _ _ HX0.out)).trans HX0.out; have g1 := (HB.out.cell (World.block_lt_of_cell? _ _ HX1.out)).trans HX1.out; have g2 := (HB.out.cell (World.block_lt_of_cell? _ _ HX2.out)).trans HX2.out) | (go_at_call 39; refine (collatorref04_Spans.calls kS A2 d2 x.f2 tk mk _ (Kd.C_below HXC.out HB.out) HXL.out HKS.out).mono ?_; rintro e W1 ⟨rfl, hb⟩; have n_ := Lib.hid (below_step HB.out hb); clear HB g0 g1 g2; have HB := n_; clear n_ hb; have g0 := (HB.out.cell (World.block_lt_of_cell? _ _ HX0.out)).trans HX0.out; have g1 := (HB.out.cell (World.block_lt_of_cell? _ _ HX1.out)).trans HX1.out; have g2 := (HB.out.cell (World.block_lt_of_cell? _ _ HX2.out)).trans HX2.out))
      all_goals go_quiet (fail)
      all_goals rename Nat => n1
      all_goals go_wp2
      all_goals go_quiet (fail)
      all_goals (have n_ := Lib.hid (pw_below_drewN HB.out (n1 + nq)); clear HB; have HB := n_; clear n_)
      all_goals go_wp2_with (first | (go_at_call 35; refine (collatorref04_Right.calls 0 A2 d2 x.f2 true _ (Kd.C_below HXC.out HB.out) HXL.out HKR.out).mono ?_; rintro e W1 ⟨rfl, hb⟩; have n_ := Lib.hid (below_step HB.out hb); clear HB g0 g1 g2; have HB := n_; clear n_ hb; have g0 := (HB.out.cell (World.block_lt_of_cell? _ _ HX0.out)).trans HX0.out; have g1 := (HB.out.cell (World.block_lt_of_cell? _ _ HX1.out)).trans HX1.out; have g2 := (HB.out.cell (World.block_lt_of_cell? _ _ HX2.out)).trans HX2.out) | (go_at_call 41; refine (collatorref06_changes.calls kC A2 d2 x.f2 true _ (Kd.C_below HXC.out HB.out) HXL.out HKC.out).mono ?_; rintro e W1 ⟨rfl, hd⟩; have hb := hd.below; clear hd; have n_ := Lib.hid (below_step HB.out hb); clear HB g0 g1 g2; have HB := n_; clear n_ hb; have g0 := (HB.out.cell (World.block_lt_of_cell? _ _ HX0.out)).trans HX0.out; have g1 := (HB.out.cell (World.block_lt_of_cell? _ _ HX1.out)).trans HX1.out; have g2 := (HB.out.cell (World.block_lt_of_cell? _ _ HX2.out)).trans HX2.out) | (go_at_call 39; refine (collatorref04_Spans.calls kS A2 d2 x.f2 tk mk _ (Kd.C_below HXC.out HB.out) HXL.out HKS.out).mono ?_; rintro e W1 ⟨rfl, hb⟩; have n_ := Lib.hid (below_step HB.out hb); clear HB g0 g1 g2; have HB := n_; clear n_ hb; have g0 := (HB.out.cell (World.block_lt_of_cell? _ _ HX0.out)).trans HX0.out; have g1 := (HB.out.cell (World.block_lt_of_cell? _ _ HX1.out)).trans HX1.out; have g2 := (HB.out.cell (World.block_lt_of_cell? _ _ HX2.out)).trans HX2.out))
      all_goals exact ⟨⟨i + 1, z1, z2, rfl, rfl, rfl, ci, HN.out.2.1, HN.out.2.2, Lib.hid HN.out.1, HB⟩, by simp only [intOf]; omega⟩
  ·have b0 : decide ((i : Int) < (l0.length : Int)) = false := decide_eq_false (by omega)
   have hn : r = true := by have := HI.out; rw [List.drop_of_length_le (by omega)] at this; exact this
   go_wp2
   go_ret
   exact ⟨by rw [hn]; rfl, HB.out⟩
def collatorref06_Right.f (k : Nat) (h : List S28) : Option Bool := if RightOk h then some (rightH true 0 0 h) else none
theorem collatorref06_Right.calls (k : Nat) (A0 : Option Addr) (c0 : Nat) (l0 : List S28) (r : Bool) (w : World) (hr0 : Kd.C k28 w A0 l0.length l0) (hc0 : l0.length ≤ c0) (h : collatorref06_Right.f k l0 = some r) : Calls Try.prog 17 #[.slice A0 l0.length c0] w fun e w' => e = .returned (.bool r) ∧ Below w.heap.size w w' := by
 unfold collatorref06_Right.f at h
 split at h
 ·rename_i hl; cases h; exact rright6_run A0 c0 l0 w hr0 hc0 hl
 ·cases h
end Go.Proofs.Ytgobidmfbjmpkaa.P
namespace Go.Proofs.Ytgobidmfbjmpkaa.Q
open Go Go.RowKit Go.Proofs.Ytgobidmfbjmpkaa.P Go.Proofs.YtgobidmfbjmpkaaW.PrintWords
theorem rrightH_ev (h : List HkS) (hs : h.length ≤ 100000) (hb : ∀ x ∈ h, x.f2.length ≤ 100000 ∧ (-9223372036854775808 ≤ x.f0 ∧ x.f0 ≤ 9223372036854775807) ∧ (-9223372036854775808 ≤ x.f1 ∧ x.f1 ≤ 9223372036854775807)) : Ev (fun k => collatorref06_Right.f k h) (rightH true 0 0 h) := ⟨0, fun k _ => if_pos ⟨hs, hb⟩⟩
end Go.Proofs.Ytgobidmfbjmpkaa.Q
end
section
/- Words of this session: what came in lies in elder blocks. -/
namespace Go.Proofs.Ytgobidmfbjmpkaa.HVlt
open Go Go.RowKit Go.Proofs.YtgobidmfbjmpkaaW.PrintWords
theorem v_lt {α : Type} {d : Kd α} {e base n c : Nat} {w : World} {ok : Nat → Prop} {A : Option Addr} {xs : List α} (h : Kd.V d e w base ok (.slice A n c) xs) (ad : Addr) (hA : A = some ad) (hn : 0 < xs.length) (hs : 0 < d.sz := by decide) : ad.block < w.heap.size := by
  obtain ⟨A', c', he, hl, hF⟩ := h
  injection he with h1 h2 h3
  subst h1
  obtain ⟨hlen, hm, hc⟩ := Kd.F_now hF
  obtain ⟨ad', e', hr⟩ := hc hn
  rw [hA] at e'
  obtain rfl := Option.some.inj e'
  obtain ⟨cs, hcl, hK, hcell⟩ := hr 0 xs[0] (List.getElem?_eq_getElem hn)
  have h0 : cs[0]? = some (cs[0]'(by omega)) := List.getElem?_eq_getElem (by omega)
  have h1 := World.block_lt_of_cell? w _ (hcell 0 _ h0)
  simpa [Addr.add] using h1
end Go.Proofs.Ytgobidmfbjmpkaa.HVlt
end
