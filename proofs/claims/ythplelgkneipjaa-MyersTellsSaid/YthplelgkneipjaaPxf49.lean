/- Laid for this claim by hp.py, this session's program round the kit's print: functions of the program as plain Lean functions, the proofs that the code comes to their answers, and the rows of the laws. Not trusted: Lean checks it. -/
import Derived.Test.YthplelgkneipjaaHVlt
import Derived.Test.YthplelgkneipjaaPx0
namespace Go.Proofs.Ythplelgkneipjaa.P
open Go.RowKit Go.Proofs.YthplelgkneipjaaW.PrintWords Go.Proofs.YthplelgkneipjaaW.PrintLast Go.Proofs.YthplelgkneipjaaW.PrintMore
attribute [local go_sem] max2_int min2_int max_two min_two max_three min_three max_four min_four   -- for this text's walks alone
set_option linter.unusedVariables false
set_option linter.unusedSimpArgs false

/-! ### collatorref05_with: function 49 -/
def collatorref05_with.f (l0 : List (S49)) (a1 : Int) (l2 : List ByteArray) : Option ((List (S49))) := if (l0.length : Int) > 0 then (if 0 ≤ (wrap64 ((l0.length : Int) - 1)) then (if (wrap64 ((l0.length : Int) - 1)) < (l0.length : Int) then (if ((rd_T49 l0 (wrap64 ((l0.length : Int) - 1))).f0) = a1 then (if ([] : List ByteArray).length + ((rd_T49 l0 (wrap64 ((l0.length : Int) - 1))).f2).length < 8796093022208 then ((some (([] : List ByteArray) ++ ((rd_T49 l0 (wrap64 ((l0.length : Int) - 1))).f2) : List ByteArray)).bind fun y354 => (if y354.length + l2.length < 8796093022208 then (if (wrap64 ((l0.length : Int) - 1)) ≤ (l0.length : Int) then ((some (l0.take ((wrap64 ((l0.length : Int) - 1)) : Int).toNat : List (S49))).bind fun y361 => (if ([] : List (S49)).length + y361.length < 3518437208883 then ((some (([] : List (S49)) ++ y361 : List (S49))).bind fun y366 => ((some (([(⟨a1, wrap64 (((rd_T49 l0 (wrap64 ((l0.length : Int) - 1))).f1) + 1), (y354 ++ l2)⟩ : S49)] : List (S49)) : List (S49))).bind fun y369 => (if y366.length + y369.length < 3518437208883 then (some (y366 ++ y369)) else (none)))) else (none))) else (none)) else (none))) else (none)) else (if ([] : List (S49)).length + l0.length < 3518437208883 then ((some (([] : List (S49)) ++ l0 : List (S49))).bind fun y375 => ((some (([(⟨a1, 1, l2⟩ : S49)] : List (S49)) : List (S49))).bind fun y378 => (if y375.length + y378.length < 3518437208883 then (some (y375 ++ y378)) else (none)))) else (none))) else (none)) else (none)) else (if ([] : List (S49)).length + l0.length < 3518437208883 then ((some (([] : List (S49)) ++ l0 : List (S49))).bind fun y384 => ((some (([(⟨a1, 1, l2⟩ : S49)] : List (S49)) : List (S49))).bind fun y387 => (if y384.length + y387.length < 3518437208883 then (some (y384 ++ y387)) else (none)))) else (none))
def collatorref05_with.T3 : Bool × List (List Nat × List Nat) := (true, [([], []), ([], []), ([], []), ([2], [2]), ([1, 3], [1, 3]), ([4], [4]), ([5], [5]), ([6], [6]), ([], []), ([], []), ([9], [9]), ([8, 10], [8, 10]), ([11], [11]), ([12], [12]), ([13], [13]), ([], []), ([14, 15, 14], [14, 15]), ([0, 7, 16], [0, 7, 16]), ([], []), ([18, 17, 16, 0, 1, 2, 3, 4, 5, 6, 7, 8, 9, 10, 11, 12, 13, 14, 15, 16, 17, 18], [17, 18])])
def collatorref05_with.B3 : List Nat := [0, 0, 0, 4, 14, 30, 62, 126, 0, 0, 512, 1792, 3840, 7936, 16128, 0, 65280, 131071, 0, 524287]
theorem collatorref05_with.tab3 : rtab .any (opsOf Try.f49 3) = collatorref05_with.T3 := by kernel_rfl
theorem collatorref05_with.bits3 : waitsOk collatorref05_with.T3.2 collatorref05_with.B3 = true := by kernel_rfl
def collatorref05_with.T4 : Bool × List (List Nat × List Nat) := (true, [([], []), ([], []), ([1], [1]), ([0, 2], [0, 2]), ([3], [3]), ([], []), ([5], [5]), ([4, 6, 4], [4, 6]), ([7, 7, 0, 1, 2, 3, 4, 5, 6, 7], [7])])
def collatorref05_with.B4 : List Nat := [0, 0, 2, 7, 15, 0, 32, 127, 255]
theorem collatorref05_with.tab4 : rtab .any (opsOf Try.f49 4) = collatorref05_with.T4 := by kernel_rfl
theorem collatorref05_with.bits4 : waitsOk collatorref05_with.T4.2 collatorref05_with.B4 = true := by kernel_rfl
set_option maxHeartbeats 8000000 in
set_option maxRecDepth 100000 in
theorem collatorref05_with.calls (P0_ : Nat → Prop) (A0 : Option Addr) (c0 : Nat) (l0 : List (S49)) (a1 : Int) (P2_ : Nat → Prop) (A2 : Option Addr) (c2 : Nat) (l2 : List ByteArray) (r : List (S49)) (w : World) (hs0 : Kd.V k49 49 w w.heap.size (fun k_ => P0_ k_) (.slice A0 l0.length c0) l0) (hs2 : Kd.V Kd.string 9 w w.heap.size (fun k_ => P2_ k_) (.slice A2 l2.length c2) l2) (h : collatorref05_with.f l0 a1 l2 = some r) :
  Calls Try.prog 49 #[.slice A0 l0.length c0, .int .i64 a1, .slice A2 l2.length c2] w fun e w' => ∃ v0_ : Value, e = .returned (v0_) ∧ Kd.N k49 49 w' w.heap.size (fun k_ => ((P0_ k_ ∨ P2_ k_) ∨ w.heap.size ≤ k_)) v0_ r ∧ Below w.heap.size w w' := by
 have hu49 := Try.underlying49
 have HO0 := Aside0.mk (show Kd.V k49 49 w w.heap.size (fun k_ => ((P0_ k_ ∨ P2_ k_) ∨ w.heap.size ≤ k_)) (.slice A0 l0.length c0) l0 from Kd.V_mono hs0 (fun k_ hk => .inl (.inl hk)))
 have HLV0 := Aside0.mk (Go.Proofs.Ythplelgkneipjaa.HVlt.v_lt hs0)
 have HO2 := Aside0.mk (show Kd.V Kd.string 9 w w.heap.size (fun k_ => ((P0_ k_ ∨ P2_ k_) ∨ w.heap.size ≤ k_)) (.slice A2 l2.length c2) l2 from Kd.V_mono hs2 (fun k_ hk => .inl (.inr hk)))
 have HLV2 := Aside0.mk (Go.Proofs.Ythplelgkneipjaa.HVlt.v_lt hs2)
 have HB := Aside0.mk (Below.refl w.heap.size w)
 have H : (if (l0.length : Int) > 0 then (if 0 ≤ (wrap64 ((l0.length : Int) - 1)) then (if (wrap64 ((l0.length : Int) - 1)) < (l0.length : Int) then (if ((rd_T49 l0 (wrap64 ((l0.length : Int) - 1))).f0) = a1 then (if ([] : List ByteArray).length + ((rd_T49 l0 (wrap64 ((l0.length : Int) - 1))).f2).length < 8796093022208 then ((some (([] : List ByteArray) ++ ((rd_T49 l0 (wrap64 ((l0.length : Int) - 1))).f2) : List ByteArray)).bind fun y354 => (if y354.length + l2.length < 8796093022208 then (if (wrap64 ((l0.length : Int) - 1)) ≤ (l0.length : Int) then ((some (l0.take ((wrap64 ((l0.length : Int) - 1)) : Int).toNat : List (S49))).bind fun y361 => (if ([] : List (S49)).length + y361.length < 3518437208883 then ((some (([] : List (S49)) ++ y361 : List (S49))).bind fun y366 => ((some (([(⟨a1, wrap64 (((rd_T49 l0 (wrap64 ((l0.length : Int) - 1))).f1) + 1), (y354 ++ l2)⟩ : S49)] : List (S49)) : List (S49))).bind fun y369 => (if y366.length + y369.length < 3518437208883 then (some (y366 ++ y369)) else (none)))) else (none))) else (none)) else (none))) else (none)) else (if ([] : List (S49)).length + l0.length < 3518437208883 then ((some (([] : List (S49)) ++ l0 : List (S49))).bind fun y375 => ((some (([(⟨a1, 1, l2⟩ : S49)] : List (S49)) : List (S49))).bind fun y378 => (if y375.length + y378.length < 3518437208883 then (some (y375 ++ y378)) else (none)))) else (none))) else (none)) else (none)) else (if ([] : List (S49)).length + l0.length < 3518437208883 then ((some (([] : List (S49)) ++ l0 : List (S49))).bind fun y384 => ((some (([(⟨a1, 1, l2⟩ : S49)] : List (S49)) : List (S49))).bind fun y387 => (if y384.length + y387.length < 3518437208883 then (some (y384 ++ y387)) else (none)))) else (none))) = some r := h
 clear h
 by_cases c4 : (l0.length : Int) > 0
 ·rw [if_pos c4] at H
  have c4b0 : decide (0 < (l0.length : Int)) = true := decide_eq_true c4
  have c4b1 : decide (0 < l0.length) = true := decide_eq_true (by omega)
  clear c4
  obtain ⟨ji5, hji5⟩ : ∃ j_ : Int, (wrap64 ((l0.length : Int) - 1)) = j_ := ⟨_, rfl⟩
  replace H : (if 0 ≤ (ji5) then (if (ji5) < (l0.length : Int) then (if ((rd_T49 l0 (ji5)).f0) = a1 then (if ([] : List ByteArray).length + ((rd_T49 l0 (ji5)).f2).length < 8796093022208 then ((some (([] : List ByteArray) ++ ((rd_T49 l0 (ji5)).f2) : List ByteArray)).bind fun y354 => (if y354.length + l2.length < 8796093022208 then (if (ji5) ≤ (l0.length : Int) then ((some (l0.take ((ji5) : Int).toNat : List (S49))).bind fun y361 => (if ([] : List (S49)).length + y361.length < 3518437208883 then ((some (([] : List (S49)) ++ y361 : List (S49))).bind fun y366 => ((some (([(⟨a1, wrap64 (((rd_T49 l0 (ji5)).f1) + 1), (y354 ++ l2)⟩ : S49)] : List (S49)) : List (S49))).bind fun y369 => (if y366.length + y369.length < 3518437208883 then (some (y366 ++ y369)) else (none)))) else (none))) else (none)) else (none))) else (none)) else (if ([] : List (S49)).length + l0.length < 3518437208883 then ((some (([] : List (S49)) ++ l0 : List (S49))).bind fun y375 => ((some (([(⟨a1, 1, l2⟩ : S49)] : List (S49)) : List (S49))).bind fun y378 => (if y375.length + y378.length < 3518437208883 then (some (y375 ++ y378)) else (none)))) else (none))) else (none)) else (none)) = some r := by first | (rw [hji5] at H; exact H) | (simp only [hji5] at H ⊢; exact H)
  have hji5w : (IntKind.i64.wrap ((l0.length : Int) - 1)) = ji5 := (i64_w _).trans hji5
  by_cases c6 : 0 ≤ (ji5)
  ·rw [if_pos c6] at H
   have c6b0 : decide (0 ≤ (ji5)) = true := decide_eq_true c6
   clear c6
   by_cases c7 : (ji5) < (l0.length : Int)
   ·rw [if_pos c7] at H
    have c7b0 : decide ((ji5) < (l0.length : Int)) = true := decide_eq_true c7
    clear c7
    by_cases c8 : ((rd_T49 l0 (ji5)).f0) = a1
    ·rw [if_pos c8] at H
     have c8b0 : (((rd_T49 l0 (ji5)).f0) == a1) = true := beq_iff_eq.mpr c8
     have c8b1 : (((rd_T49 l0 (ji5)).f0) != a1) = false := bne_eq_false_iff_eq.mpr c8
     clear c8
     by_cases c9 : ([] : List ByteArray).length + ((rd_T49 l0 (ji5)).f2).length < 8796093022208
     ·rw [if_pos c9] at H
      have LMc9 := Aside0.mk c9
      clear c9
      obtain ⟨y354, hy354⟩ : ∃ y_ : List ByteArray, y_ = (([] : List ByteArray) ++ ((rd_T49 l0 (ji5)).f2)) := ⟨_, rfl⟩
      replace H : (if y354.length + l2.length < 8796093022208 then (if (ji5) ≤ (l0.length : Int) then ((some (l0.take ((ji5) : Int).toNat : List (S49))).bind fun y361 => (if ([] : List (S49)).length + y361.length < 3518437208883 then ((some (([] : List (S49)) ++ y361 : List (S49))).bind fun y366 => ((some (([(⟨a1, wrap64 (((rd_T49 l0 (ji5)).f1) + 1), (y354 ++ l2)⟩ : S49)] : List (S49)) : List (S49))).bind fun y369 => (if y366.length + y369.length < 3518437208883 then (some (y366 ++ y369)) else (none)))) else (none))) else (none)) else (none)) = some r := by first | (rw [hy354]; with_reducible exact H) | (have H2_ := (Option.bind_some _ _).symm.trans H; rw [hy354]; with_reducible exact H2_) | (have H2_ := (Option.bind_some _ _).symm.trans H; with_reducible exact H2_) | with_reducible exact H | (rw [hy354]; exact H) | exact H
      have Ny354 := Aside0.mk hy354
      clear hy354
      by_cases c10 : y354.length + l2.length < 8796093022208
      ·rw [if_pos c10] at H
       have LMc10 := Aside0.mk c10
       clear c10
       obtain ⟨y357, hy357⟩ : ∃ y_ : List ByteArray, y_ = (y354 ++ l2) := ⟨_, rfl⟩
       replace H : (if (ji5) ≤ (l0.length : Int) then ((some (l0.take ((ji5) : Int).toNat : List (S49))).bind fun y361 => (if ([] : List (S49)).length + y361.length < 3518437208883 then ((some (([] : List (S49)) ++ y361 : List (S49))).bind fun y366 => ((some (([(⟨a1, wrap64 (((rd_T49 l0 (ji5)).f1) + 1), y357⟩ : S49)] : List (S49)) : List (S49))).bind fun y369 => (if y366.length + y369.length < 3518437208883 then (some (y366 ++ y369)) else (none)))) else (none))) else (none)) = some r := by first | (rw [hy357]; with_reducible exact H) | (have H2_ := (Option.bind_some _ _).symm.trans H; rw [hy357]; with_reducible exact H2_) | (have H2_ := (Option.bind_some _ _).symm.trans H; with_reducible exact H2_) | with_reducible exact H | (rw [hy357]; exact H) | exact H
       have Ny357 := Aside0.mk hy357
       clear hy357
       have c11b0 := eq_true (of_decide_eq_true (by first | (with_reducible assumption) | assumption) : 0 ≤ (ji5))
       by_cases c12 : (ji5) ≤ (l0.length : Int)
       ·rw [if_pos c12] at H
        have c12b0 := eq_true c12
        have c12b1 : decide ((ji5) ≤ (l0.length : Int)) = true := decide_eq_true c12
        clear c12
        obtain ⟨y361, hy361⟩ : ∃ y_ : List (S49), y_ = (l0.take ((ji5) : Int).toNat) := ⟨_, rfl⟩
        replace H : (if ([] : List (S49)).length + y361.length < 3518437208883 then ((some (([] : List (S49)) ++ y361 : List (S49))).bind fun y366 => ((some (([(⟨a1, wrap64 (((rd_T49 l0 (ji5)).f1) + 1), y357⟩ : S49)] : List (S49)) : List (S49))).bind fun y369 => (if y366.length + y369.length < 3518437208883 then (some (y366 ++ y369)) else (none)))) else (none)) = some r := by first | (rw [hy361]; with_reducible exact H) | (have H2_ := (Option.bind_some _ _).symm.trans H; rw [hy361]; with_reducible exact H2_) | (have H2_ := (Option.bind_some _ _).symm.trans H; with_reducible exact H2_) | with_reducible exact H | (rw [hy361]; exact H) | exact H
        have Ny361 := Aside0.mk hy361
        clear hy361
        by_cases c13 : ([] : List (S49)).length + y361.length < 3518437208883
        ·rw [if_pos c13] at H
         have LMc13 := Aside0.mk c13
         clear c13
         obtain ⟨y366, hy366⟩ : ∃ y_ : List (S49), y_ = (([] : List (S49)) ++ y361) := ⟨_, rfl⟩
         replace H : ((some (([(⟨a1, wrap64 (((rd_T49 l0 (ji5)).f1) + 1), y357⟩ : S49)] : List (S49)) : List (S49))).bind fun y369 => (if y366.length + y369.length < 3518437208883 then (some (y366 ++ y369)) else (none))) = some r := by first | (rw [hy366]; with_reducible exact H) | (have H2_ := (Option.bind_some _ _).symm.trans H; rw [hy366]; with_reducible exact H2_) | (have H2_ := (Option.bind_some _ _).symm.trans H; with_reducible exact H2_) | with_reducible exact H | (rw [hy366]; exact H) | exact H
         have Ny366 := Aside0.mk hy366
         clear hy366
         obtain ⟨y369, hy369⟩ : ∃ y_ : List (S49), y_ = (([(⟨a1, wrap64 (((rd_T49 l0 (ji5)).f1) + 1), y357⟩ : S49)] : List (S49))) := ⟨_, rfl⟩
         replace H : (if y366.length + y369.length < 3518437208883 then (some (y366 ++ y369)) else (none)) = some r := by first | (rw [hy369]; with_reducible exact H) | (have H2_ := (Option.bind_some _ _).symm.trans H; rw [hy369]; with_reducible exact H2_) | (have H2_ := (Option.bind_some _ _).symm.trans H; with_reducible exact H2_) | with_reducible exact H | (rw [hy369]; exact H) | exact H
         have Ny369 := Aside0.mk hy369
         clear hy369
         by_cases c14 : y366.length + y369.length < 3518437208883
         ·rw [if_pos c14] at H
          have LMc14 := Aside0.mk c14
          clear c14
          obtain ⟨y372, hy372⟩ : ∃ y_ : List (S49), y_ = (y366 ++ y369) := ⟨_, rfl⟩
          replace H : (some y372) = some r := by first | (rw [hy372]; with_reducible exact H) | (have H2_ := (Option.bind_some _ _).symm.trans H; rw [hy372]; with_reducible exact H2_) | (have H2_ := (Option.bind_some _ _).symm.trans H; with_reducible exact H2_) | with_reducible exact H | (rw [hy372]; exact H) | exact H
          have Ny372 := Aside0.mk hy372
          clear hy372
          obtain rfl := Option.some.inj H
          have p351 : 0 ≤ ((ji5) : Int) := of_decide_eq_true (by first | (with_reducible assumption) | assumption)
          have q351 : (ji5) < (l0.length : Int) := of_decide_eq_true (by first | (with_reducible assumption) | assumption)
          obtain ⟨ad351, A351_2, c351_2, e351, hx351_0, hx351_1, hx351_2, hl351_2, hi351_2⟩ := at_T49 (Kd.V_reads' HO0.out).2.2 (ji5) p351 q351
          have hlpad351 : ad351.block < w.heap.size := HLV0.out _ (by first | rfl | assumption) (by omega)
          cases e351
          obtain ⟨ce351, hce351, hMe351, hcc351⟩ := Kd.V_get HO0.out z49 (ji5) p351 (by first | exact q351 | exact of_decide_eq_true (by first | (with_reducible assumption) | assumption) | (have e_ := (Kd.V_reads' HO0.out).1; omega))
          obtain ⟨ua351_2, uc351_2, rfl, ul351_2, ge351_2⟩ := k49_openF hMe351
          have hv351_2 := hcc351 2 _ rfl
          rw [add_field _ _ 2 (by omega)] at hv351_2
          replace hv351_2 := Option.some.inj (hv351_2.symm.trans hx351_2)
          injection hv351_2 with hva_ hvn_ hvc_
          rw [hva_] at ge351_2
          rw [hvc_] at ul351_2
          have HL351_2 := Aside0.mk (show Kd.V Kd.string 9 _ w.heap.size _ _ ((rd_T49 l0 (ji5)).f2) from Kd.V_mk ul351_2 ge351_2)
          clear hva_ hvn_ hvc_ ge351_2 ul351_2
          clear hcc351 hce351
          have HR351_2 := Aside0.mk hi351_2
          have HC351_2 := Aside0.mk hl351_2
          clear hi351_2 hl351_2
          replace p351 := eq_true p351
          replace q351 := eq_true q351
          go_enter Try.func49, Try.ntmps49
          (try (have c8b0z : ((rd_T49 l0 (ji5)).f0) = true := by simpa using c8b0))
          (try (have c8b0z : ((rd_T49 l0 (ji5)).f0) = false := by simpa using c8b0))
          try go_wp2
          have n0_ := Aside0.mk (Kd.V_drew HO0.out)
          have n1_ := Aside0.mk (Kd.V_drew HO2.out)
          have n2_ := Aside0.mk (Kd.V_drew HL351_2.out)
          have n3_ := Aside0.mk (Kd.C_drew HR351_2.out)
          have n4_ := Aside0.mk (below_drew1 HB.out)
          clear HO0
          clear HO2
          clear HL351_2
          clear HR351_2
          clear HB
          have HO0 := n0_
          have HO2 := n1_
          have HL351_2 := n2_
          have HR351_2 := n3_
          have HB := n4_
          clear n0_ n1_ n2_ n3_ n4_
          have p352 : 0 ≤ ((ji5) : Int) := of_decide_eq_true (by first | (with_reducible assumption) | assumption)
          have q352 : (ji5) < (l0.length : Int) := of_decide_eq_true (by first | (with_reducible assumption) | assumption)
          obtain ⟨ad352, A352_2, c352_2, e352, hx352_0, hx352_1, hx352_2, hl352_2, hi352_2⟩ := at_T49 (Kd.V_reads' HO0.out).2.2 (ji5) p352 q352
          have hlpad352 : ad352.block < w.heap.size := HLV0.out _ (by first | rfl | assumption) (by omega)
          obtain rfl : ad351 = ad352 := (by injection e352)
          obtain ⟨ce352, hce352, hMe352, hcc352⟩ := Kd.V_get HO0.out z49 (ji5) p352 (by first | exact q352 | exact of_decide_eq_true (by first | (with_reducible assumption) | assumption) | (have e_ := (Kd.V_reads' HO0.out).1; omega))
          obtain ⟨ua352_2, uc352_2, rfl, ul352_2, ge352_2⟩ := k49_openF hMe352
          have hv352_2 := hcc352 2 _ rfl
          rw [add_field _ _ 2 (by omega)] at hv352_2
          replace hv352_2 := Option.some.inj (hv352_2.symm.trans hx352_2)
          injection hv352_2 with hva_ hvn_ hvc_
          rw [hva_] at ge352_2
          rw [hvc_] at ul352_2
          have HL352_2 := Aside0.mk (show Kd.V Kd.string 9 _ w.heap.size _ _ ((rd_T49 l0 (ji5)).f2) from Kd.V_mk ul352_2 ge352_2)
          clear hva_ hvn_ hvc_ ge352_2 ul352_2
          clear hcc352 hce352
          have HR352_2 := Aside0.mk hi352_2
          have HC352_2 := Aside0.mk hl352_2
          clear hi352_2 hl352_2
          replace p352 := eq_true p352
          replace q352 := eq_true q352
          have p353 : 0 ≤ ((ji5) : Int) := of_decide_eq_true (by first | (with_reducible assumption) | assumption)
          have q353 : (ji5) < (l0.length : Int) := of_decide_eq_true (by first | (with_reducible assumption) | assumption)
          obtain ⟨ad353, A353_2, c353_2, e353, hx353_0, hx353_1, hx353_2, hl353_2, hi353_2⟩ := at_T49 (Kd.V_reads' HO0.out).2.2 (ji5) p353 q353
          have hlpad353 : ad353.block < w.heap.size := HLV0.out _ (by first | rfl | assumption) (by omega)
          obtain rfl : ad351 = ad353 := (by injection e353)
          obtain ⟨ce353, hce353, hMe353, hcc353⟩ := Kd.V_get HO0.out z49 (ji5) p353 (by first | exact q353 | exact of_decide_eq_true (by first | (with_reducible assumption) | assumption) | (have e_ := (Kd.V_reads' HO0.out).1; omega))
          obtain ⟨ua353_2, uc353_2, rfl, ul353_2, ge353_2⟩ := k49_openF hMe353
          have hv353_2 := hcc353 2 _ rfl
          rw [add_field _ _ 2 (by omega)] at hv353_2
          replace hv353_2 := Option.some.inj (hv353_2.symm.trans hx353_2)
          injection hv353_2 with hva_ hvn_ hvc_
          rw [hva_] at ge353_2
          rw [hvc_] at ul353_2
          have HL353_2 := Aside0.mk (show Kd.V Kd.string 9 _ w.heap.size _ _ ((rd_T49 l0 (ji5)).f2) from Kd.V_mk ul353_2 ge353_2)
          clear hva_ hvn_ hvc_ ge353_2 ul353_2
          clear hcc353 hce353
          have HR353_2 := Aside0.mk hi353_2
          have HC353_2 := Aside0.mk hl353_2
          clear hi353_2 hl353_2
          replace p353 := eq_true p353
          replace q353 := eq_true q353
          have ea_ := Option.some.inj (hx352_2.symm.trans hx353_2)
          injection ea_ with ea_ en_ ec_
          subst ea_
          subst ec_
          clear en_
          refine start_ (n := 20) (S := fun w' => w'.cell? (ad351.add (((ji5)).toNat * 3)) = some (.int .i64 ((rd_T49 l0 (ji5)).f0)) ∧ w'.cell? ⟨(ad351.add (((ji5)).toNat * 3)).block, (ad351.add (((ji5)).toNat * 3)).off + 1, none⟩ = some (.int .i64 ((rd_T49 l0 (ji5)).f1)) ∧ w'.cell? ⟨(ad351.add (((ji5)).toNat * 3)).block, (ad351.add (((ji5)).toNat * 3)).off + 2, none⟩ = some (.slice A352_2 ((rd_T49 l0 (ji5)).f2).length c352_2) ∧ w'.cell? (ad351.add (((ji5)).toNat * 3)) = some (.int .i64 ((rd_T49 l0 (ji5)).f0)) ∧ w'.cell? ⟨(ad351.add (((ji5)).toNat * 3)).block, (ad351.add (((ji5)).toNat * 3)).off + 1, none⟩ = some (.int .i64 ((rd_T49 l0 (ji5)).f1)) ∧ w'.cell? ⟨(ad351.add (((ji5)).toNat * 3)).block, (ad351.add (((ji5)).toNat * 3)).off + 2, none⟩ = some (.slice A352_2 ((rd_T49 l0 (ji5)).f2).length c352_2)) (ds := []) #[false, false, false, false, false, false, false, false, false, false, false, false, false, false, false, false, false, false, false, false] (by kernel_rfl) rfl rfl ⟨hx352_0, hx352_1, hx352_2, hx353_0, hx353_1, hx353_2⟩ (fun hHeld => ?_); refine with_tabW collatorref05_with.tab3 collatorref05_with.bits3 (fun HT_ HW_ => ?_)
          generalize w.drew = w15 at HO0 HO2 HL351_2 HR351_2 HB HL352_2 HL353_2 HR352_2 HR353_2 hx352_0 hx352_1 hx352_2 hx353_0 hx353_1 hx353_2 hHeld ⊢
          refine pure_ (i := 0) (N := some 23) (v := ?_) (a' := ?_) #[true, false, false, false, false, false, false, false, false, false, false, false, false, false, false, false, false, false, false, false] rfl rfl (any_of HT_.out (by kernel_rfl)) (fun _ _ _ h => h) (Or.inl ⟨by rfl, ?_⟩) ?_ ?_
          rotate_left
          ·intro w'
           go_simp
           with_reducible rfl
          rotate_left
          ·simp only [Act.put, List.setIfInBounds_toArray, List.set_cons_zero, List.set_cons_succ, i64_w, i32_w]
           rfl
          refine pure_ (i := 1) (N := some 24) (v := ?_) (a' := ?_) #[true, true, false, false, false, false, false, false, false, false, false, false, false, false, false, false, false, false, false, false] rfl rfl (any_of HT_.out (by kernel_rfl)) (fun _ _ _ h => h) (Or.inl ⟨by rfl, ?_⟩) ?_ ?_
          rotate_left
          ·intro w'
           go_simp
           with_reducible rfl
          rotate_left
          ·simp only [Act.put, List.setIfInBounds_toArray, List.set_cons_zero, List.set_cons_succ, i64_w, i32_w]
           rfl
          refine pure_ (i := 2) (N := some 25) (v := ?_) (a' := ?_) #[true, true, true, false, false, false, false, false, false, false, false, false, false, false, false, false, false, false, false, false] rfl rfl (any_of HT_.out (by kernel_rfl)) (fun _ _ _ h => h) (Or.inl ⟨by rfl, ?_⟩) ?_ ?_
          rotate_left
          ·intro w'
           go_simp
           with_reducible rfl
          rotate_left
          ·simp only [Act.put, List.setIfInBounds_toArray, List.set_cons_zero, List.set_cons_succ, i64_w, i32_w]
           rfl
          refine pure_ (i := 3) (N := some 26) (v := ?_) (a' := ?_) #[true, true, true, true, false, false, false, false, false, false, false, false, false, false, false, false, false, false, false, false] rfl rfl (any_of HT_.out (by kernel_rfl)) (fun _ _ _ h => h) (Or.inl ⟨by rfl, ?_⟩) ?_ ?_
          rotate_left
          ·intro w'
           go_simp
           with_reducible rfl
          rotate_left
          ·simp only [Act.put, List.setIfInBounds_toArray, List.set_cons_zero, List.set_cons_succ, i64_w, i32_w]
           rfl
          refine pure_ (i := 4) (N := some 27) (v := ?_) (a' := ?_) #[true, true, true, true, true, false, false, false, false, false, false, false, false, false, false, false, false, false, false, false] rfl rfl (any_of HT_.out (by kernel_rfl)) (fun _ _ _ h => h) (Or.inl ⟨by rfl, ?_⟩) ?_ ?_
          rotate_left
          ·intro w'
           go_simp
           with_reducible rfl
          rotate_left
          ·simp only [Act.put, List.setIfInBounds_toArray, List.set_cons_zero, List.set_cons_succ, i64_w, i32_w]
           rfl
          refine pure_ (i := 5) (N := some 28) (v := ?_) (a' := ?_) #[true, true, true, true, true, true, false, false, false, false, false, false, false, false, false, false, false, false, false, false] rfl rfl (any_of HT_.out (by kernel_rfl)) (fun _ _ _ h => h) (Or.inl ⟨by rfl, ?_⟩) ?_ ?_
          rotate_left
          ·intro w'
           go_simp
           with_reducible rfl
          rotate_left
          ·simp only [Act.put, List.setIfInBounds_toArray, List.set_cons_zero, List.set_cons_succ, i64_w, i32_w]
           rfl
          refine pure_ (i := 8) (N := some 31) (v := ?_) (a' := ?_) #[true, true, true, true, true, true, false, false, true, false, false, false, false, false, false, false, false, false, false, false] rfl rfl (any_of HT_.out (by kernel_rfl)) (fun _ _ _ h => h) (Or.inl ⟨by rfl, ?_⟩) ?_ ?_
          rotate_left
          ·intro w'
           go_simp
           with_reducible rfl
          rotate_left
          ·simp only [Act.put, List.setIfInBounds_toArray, List.set_cons_zero, List.set_cons_succ, i64_w, i32_w]
           rfl
          refine pure_ (i := 9) (N := some 32) (v := ?_) (a' := ?_) #[true, true, true, true, true, true, false, false, true, true, false, false, false, false, false, false, false, false, false, false] rfl rfl (any_of HT_.out (by kernel_rfl)) (fun _ _ _ h => h) (Or.inl ⟨by rfl, ?_⟩) ?_ ?_
          rotate_left
          ·intro w'
           go_simp
           with_reducible rfl
          rotate_left
          ·simp only [Act.put, List.setIfInBounds_toArray, List.set_cons_zero, List.set_cons_succ, i64_w, i32_w]
           rfl
          refine pure_ (i := 10) (N := some 33) (v := ?_) (a' := ?_) #[true, true, true, true, true, true, false, false, true, true, true, false, false, false, false, false, false, false, false, false] rfl rfl (any_of HT_.out (by kernel_rfl)) (fun _ _ _ h => h) (Or.inl ⟨by rfl, ?_⟩) ?_ ?_
          rotate_left
          ·intro w'
           go_simp
           with_reducible rfl
          rotate_left
          ·simp only [Act.put, List.setIfInBounds_toArray, List.set_cons_zero, List.set_cons_succ, i64_w, i32_w]
           rfl
          refine pure_ (i := 11) (N := some 34) (v := ?_) (a' := ?_) #[true, true, true, true, true, true, false, false, true, true, true, true, false, false, false, false, false, false, false, false] rfl rfl (any_of HT_.out (by kernel_rfl)) (fun _ _ _ h => h) (Or.inl ⟨by rfl, ?_⟩) ?_ ?_
          rotate_left
          ·intro w'
           go_simp
           with_reducible rfl
          rotate_left
          ·simp only [Act.put, List.setIfInBounds_toArray, List.set_cons_zero, List.set_cons_succ, i64_w, i32_w]
           rfl
          refine pure_ (i := 12) (N := some 35) (v := ?_) (a' := ?_) #[true, true, true, true, true, true, false, false, true, true, true, true, true, false, false, false, false, false, false, false] rfl rfl (any_of HT_.out (by kernel_rfl)) (fun _ _ _ h => h) (Or.inl ⟨by rfl, ?_⟩) ?_ ?_
          rotate_left
          ·intro w'
           go_simp
           with_reducible rfl
          rotate_left
          ·simp only [Act.put, List.setIfInBounds_toArray, List.set_cons_zero, List.set_cons_succ, i64_w, i32_w]
           rfl
          refine pure_ (i := 15) (N := some 38) (v := ?_) (a' := ?_) #[true, true, true, true, true, true, false, false, true, true, true, true, true, false, false, true, false, false, false, false] rfl rfl (any_of HT_.out (by kernel_rfl)) (fun _ _ _ h => h) (Or.inl ⟨by rfl, ?_⟩) ?_ ?_
          rotate_left
          ·intro w'
           go_simp
           with_reducible rfl
          rotate_left
          ·simp only [Act.put, List.setIfInBounds_toArray, List.set_cons_zero, List.set_cons_succ, i64_w, i32_w]
           rfl
          refine take_ (i := 6) (N := some 29) (v := ?_) (a' := ?_) #[true, true, true, true, true, true, true, false, true, true, true, true, true, false, false, true, false, false, false, false] rfl rfl (take_ofW HT_.out HW_.out (by kernel_rfl)) (fun _ _ _ h => h) (Or.inl ⟨by rfl, ?_⟩) hHeld ?_ ?_
          rotate_left
          ·rintro w' ⟨s0, s1, s2, s3, s4, s5⟩
           go_simp
           with_reducible rfl
          rotate_left
          ·simp only [Act.put, List.setIfInBounds_toArray, List.set_cons_zero, List.set_cons_succ, i64_w, i32_w]
           rfl
          refine pure_ (i := 7) (N := some 30) (v := ?_) (a' := ?_) #[true, true, true, true, true, true, true, true, true, true, true, true, true, false, false, true, false, false, false, false] rfl rfl (any_of HT_.out (by kernel_rfl)) (fun _ _ _ h => h) (Or.inl ⟨by rfl, ?_⟩) ?_ ?_
          rotate_left
          ·intro w'
           go_simp
           with_reducible rfl
          rotate_left
          ·simp only [Act.put, List.setIfInBounds_toArray, List.set_cons_zero, List.set_cons_succ, i64_w, i32_w]
           rfl
          refine take_ (i := 13) (N := some 36) (v := ?_) (a' := ?_) #[true, true, true, true, true, true, true, true, true, true, true, true, true, true, false, true, false, false, false, false] rfl rfl (take_ofW HT_.out HW_.out (by kernel_rfl)) (fun _ _ _ h => h) (Or.inl ⟨by rfl, ?_⟩) hHeld ?_ ?_
          rotate_left
          ·rintro w' ⟨s0, s1, s2, s3, s4, s5⟩
           go_simp
           with_reducible rfl
          rotate_left
          ·simp only [Act.put, List.setIfInBounds_toArray, List.set_cons_zero, List.set_cons_succ, i64_w, i32_w]
           rfl
          refine join_ (σ := Value × Value × Nat) 1 #[true, true, true, true, true, true, true, true, true, true, true, true, true, true, true, true, true, true, true, false] (fun s_ => [(37, s_.1), (39, s_.2.1), (8, .pointer (some ⟨s_.2.2, 0, none⟩)), (40, .agg #[.int .i64 a1, .int .i64 (wrap64 (((rd_T49 l0 (ji5)).f1) + 1)), s_.2.1])]) (fun s_ w' => (w'.cell? (ad351.add (((ji5)).toNat * 3)) = some (.int .i64 ((rd_T49 l0 (ji5)).f0)) ∧ w'.cell? ⟨(ad351.add (((ji5)).toNat * 3)).block, (ad351.add (((ji5)).toNat * 3)).off + 1, none⟩ = some (.int .i64 ((rd_T49 l0 (ji5)).f1)) ∧ w'.cell? ⟨(ad351.add (((ji5)).toNat * 3)).block, (ad351.add (((ji5)).toNat * 3)).off + 2, none⟩ = some (.slice A352_2 ((rd_T49 l0 (ji5)).f2).length c352_2) ∧ w'.cell? (ad351.add (((ji5)).toNat * 3)) = some (.int .i64 ((rd_T49 l0 (ji5)).f0)) ∧ w'.cell? ⟨(ad351.add (((ji5)).toNat * 3)).block, (ad351.add (((ji5)).toNat * 3)).off + 1, none⟩ = some (.int .i64 ((rd_T49 l0 (ji5)).f1)) ∧ w'.cell? ⟨(ad351.add (((ji5)).toNat * 3)).block, (ad351.add (((ji5)).toNat * 3)).off + 2, none⟩ = some (.slice A352_2 ((rd_T49 l0 (ji5)).f2).length c352_2)) ∧ (Kd.V Kd.string 9 w' w.heap.size (fun k_ => ((P0_ k_ ∨ P2_ k_) ∨ w.heap.size ≤ k_) ∧ some k_ ≠ (s_.2.1 : Value).ownBlock ∧ k_ ≠ s_.2.2) (.slice A351_2 ((rd_T49 l0 (ji5)).f2).length c351_2) ((rd_T49 l0 (ji5)).f2)) ∧ (Kd.V Kd.string 9 w' w.heap.size (fun k_ => ((P0_ k_ ∨ P2_ k_) ∨ w.heap.size ≤ k_) ∧ some k_ ≠ (s_.2.1 : Value).ownBlock ∧ k_ ≠ s_.2.2) (.slice A352_2 ((rd_T49 l0 (ji5)).f2).length c352_2) ((rd_T49 l0 (ji5)).f2)) ∧ (Kd.V Kd.string 9 w' w.heap.size (fun k_ => ((P0_ k_ ∨ P2_ k_) ∨ w.heap.size ≤ k_) ∧ some k_ ≠ (s_.2.1 : Value).ownBlock ∧ k_ ≠ s_.2.2) (.slice A352_2 ((rd_T49 l0 (ji5)).f2).length c352_2) ((rd_T49 l0 (ji5)).f2)) ∧ (Kd.V k49 49 w' w.heap.size (fun k_ => ((P0_ k_ ∨ P2_ k_) ∨ w.heap.size ≤ k_) ∧ some k_ ≠ (s_.2.1 : Value).ownBlock ∧ k_ ≠ s_.2.2) (.slice (some ad351) l0.length c0) l0) ∧ (Kd.V Kd.string 9 w' w.heap.size (fun k_ => ((P0_ k_ ∨ P2_ k_) ∨ w.heap.size ≤ k_) ∧ some k_ ≠ (s_.2.1 : Value).ownBlock ∧ k_ ≠ s_.2.2) (.slice A2 l2.length c2) l2) ∧ (Kd.R Kd.string 9 w' w.heap.size (fun k_ => (w.heap.size ≤ k_)) s_.2.1 y357) ∧ (w'.heap[s_.2.2]? = some (.cells #[.int .i64 0, .int .i64 0, .slice none 0 0] 49 (0, 0))) ∧ (w.heap.size ≤ s_.2.2) ∧ (w.heap.size ≤ s_.2.2) ∧ (Below w.heap.size w w')) ?_ ?_
          rotate_left
          ·intro hCont
           refine two_ (i := 14) (j := 18) (Ni := some 37) (Nj := some 8) #[true, true, true, true, true, true, true, true, true, true, true, true, true, true, true, true, false, false, false, false] #[true, true, true, true, true, true, true, true, true, true, true, true, true, true, false, true, false, false, true, false] rfl rfl rfl rfl (two_of HT_.out (by kernel_rfl)) (by decide) (by decide) (fun K hK => ?_) (fun K hK => ?_)
           ·skip
            refine Kd.R_append_rows_step Kd.string (w0 := w) w.heap.size (by rfl) (.const (.slice none 0 0)) (.tmp 36) 22 9 (.string ⟨#[]⟩) 16 rfl Try.underlying22 info9 rfl (by decide) (by omega) (.slice none 0 0) ([] : List ByteArray) ((rd_T49 l0 (ji5)).f2) _ _ _ (fun k_ => (w.heap.size ≤ k_)) (fun _ => False) rfl rfl ?aO ?aR (fun _ _ h => h) (fun _ h => h.elim) ?aF ?aB ?aS ?aL ?_
            (case aR => repeat (first | exact (by repeat (first | (with_reducible exact HR353_2.out) | (with_reducible refine Kd.C_alloc ?_ _) | (with_reducible refine Kd.C_drewN ?_ _) | (with_reducible refine Kd.C_drew ?_) | exact HR353_2.out)) | (with_reducible refine Kd.C_alloc ?_ _) | (with_reducible refine Kd.C_drewN ?_ _) | (with_reducible refine Kd.C_drew ?_)))
            (case aB => exact (by repeat (first | (with_reducible first | exact HB.out | apply below_alloc | apply pw_below_drewN | apply below_drew1) | exact HB.out)))
            (case aF => exact (fun k_ hk => (Nat.le_trans (below_size (by repeat (first | (with_reducible first | exact HB.out | apply below_alloc | apply pw_below_drewN | apply below_drew1) | exact HB.out))) hk)))
            (case aO => exact ((Kd.R_nil _ _ _ _ (fun k_ => (w.heap.size ≤ k_)))))
            (case aS => exact (below_size (by repeat (first | (with_reducible first | exact HB.out | apply below_alloc | apply pw_below_drewN | apply below_drew1) | exact HB.out))))
            (case aL => have := LMc9.out; omega)
            intro v355 w16 ho hb hg hat
            have HS0_ := cell_grown hg (hHeld.1) (by simp [Value.ownBlock])
            have HS1_ := cell_grown hg (hHeld.2.1) (by simp [Value.ownBlock])
            have HS2_ := cell_grown hg (hHeld.2.2.1) (by simp [Value.ownBlock])
            have HS3_ := cell_grown hg (hHeld.2.2.2.1) (by simp [Value.ownBlock])
            have HS4_ := cell_grown hg (hHeld.2.2.2.2.1) (by simp [Value.ownBlock])
            have HS5_ := cell_grown hg (hHeld.2.2.2.2.2) (by simp [Value.ownBlock])
            rw [← Ny354.out] at ho
            have n0_ := Aside0.mk (Kd.V_afterv (Kd.V_apart_nil (by (with_reducible repeat (first | apply Kd.V_alloc | apply Kd.V_drewN | apply Kd.V_drew)); exact HO0.out)) hg hat)
            have n1_ := Aside0.mk (Kd.V_afterv (Kd.V_apart_nil (by (with_reducible repeat (first | apply Kd.V_alloc | apply Kd.V_drewN | apply Kd.V_drew)); exact HO2.out)) hg hat)
            have n2_ := Aside0.mk (Kd.V_afterv (Kd.V_apart_nil (by (with_reducible repeat (first | apply Kd.V_alloc | apply Kd.V_drewN | apply Kd.V_drew)); exact HL351_2.out)) hg hat)
            have n3_ := Aside0.mk (Kd.V_afterv (Kd.V_apart_nil (by (with_reducible repeat (first | apply Kd.V_alloc | apply Kd.V_drewN | apply Kd.V_drew)); exact HL352_2.out)) hg hat)
            have n4_ := Aside0.mk (Kd.V_afterv (Kd.V_apart_nil (by (with_reducible repeat (first | apply Kd.V_alloc | apply Kd.V_drewN | apply Kd.V_drew)); exact HL353_2.out)) hg hat)
            have n5_ := Aside0.mk (hb)
            have n6_ := Aside0.mk (ho)
            clear HO0
            clear HO2
            clear HL351_2
            clear HL352_2
            clear HL353_2
            clear HB
            have HO0 := n0_
            have HO2 := n1_
            have HL351_2 := n2_
            have HL352_2 := n3_
            have HL353_2 := n4_
            have HB := n5_
            have HO356 := n6_
            clear n0_ n1_ n2_ n3_ n4_ n5_ n6_
            clear ho hb hg hat
            refine hK.out _ _ ⟨HS0_, HS1_, HS2_, HS3_, HS4_, HS5_⟩ (fun hHeld => ?_)
            clear hK K
            refine norm_ (a' := ?_) ?_ ?_
            rotate_left
            ·show Act.put _ (some 37) _ = _
             simp only [Act.put, List.setIfInBounds_toArray, List.set_cons_zero, List.set_cons_succ, i64_w, i32_w]
             rfl
            refine two_ (i := 16) (j := 18) (Ni := some 39) (Nj := some 8) #[true, true, true, true, true, true, true, true, true, true, true, true, true, true, true, true, true, false, false, false] #[true, true, true, true, true, true, true, true, true, true, true, true, true, true, true, true, false, false, true, false] rfl rfl rfl rfl (two_of HT_.out (by kernel_rfl)) (by decide) (by decide) (fun K hK => ?_) (fun K hK => ?_)
            ·skip
             refine Kd.R_append_rows_step Kd.string (w0 := w) w.heap.size (by rfl) (.tmp 37) (.tmp 38) 22 9 (.string ⟨#[]⟩) 16 rfl Try.underlying22 info9 rfl (by decide) (by omega) v355 y354 l2 _ _ _ (fun k_ => (w.heap.size ≤ k_)) (fun _ => False) rfl rfl ?aO ?aR (fun _ _ h => h) (fun _ h => h.elim) ?aF ?aB ?aS ?aL ?_
             (case aR => repeat (first | exact (Kd.V_reads' HO2.out).2.2 | (with_reducible refine Kd.C_alloc ?_ _) | (with_reducible refine Kd.C_drewN ?_ _) | (with_reducible refine Kd.C_drew ?_)))
             (case aB => exact (by repeat (first | (with_reducible first | exact HB.out | apply below_alloc | apply pw_below_drewN | apply below_drew1) | exact HB.out)))
             (case aF => exact (fun k_ hk => (Nat.le_trans (below_size (by repeat (first | (with_reducible first | exact HB.out | apply below_alloc | apply pw_below_drewN | apply below_drew1) | exact HB.out))) hk)))
             (case aO => exact (by (with_reducible repeat (first | apply Kd.R_alloc | apply Kd.R_drewN | apply Kd.R_drew)); exact HO356.out))
             (case aS => exact (below_size (by repeat (first | (with_reducible first | exact HB.out | apply below_alloc | apply pw_below_drewN | apply below_drew1) | exact HB.out))))
             (case aL => have := LMc10.out; omega)
             intro v358 w17 ho hb hg hat
             have HS0_ := cell_grown hg (hHeld.1) (by first | (rw [add_block]; exact (fun e_ => absurd (Kd.R_base HO356.out _ e_.symm) (by omega))) | (show some (Addr.add _ _).block ≠ _; rw [add_block]; exact (fun e_ => absurd (Kd.R_base HO356.out _ e_.symm) (by omega))) | exact (fun e_ => absurd (Kd.R_base HO356.out _ e_.symm) (by omega)))
             have HS1_ := cell_grown hg (hHeld.2.1) (by first | (rw [add_block]; exact (fun e_ => absurd (Kd.R_base HO356.out _ e_.symm) (by omega))) | (show some (Addr.add _ _).block ≠ _; rw [add_block]; exact (fun e_ => absurd (Kd.R_base HO356.out _ e_.symm) (by omega))) | exact (fun e_ => absurd (Kd.R_base HO356.out _ e_.symm) (by omega)))
             have HS2_ := cell_grown hg (hHeld.2.2.1) (by first | (rw [add_block]; exact (fun e_ => absurd (Kd.R_base HO356.out _ e_.symm) (by omega))) | (show some (Addr.add _ _).block ≠ _; rw [add_block]; exact (fun e_ => absurd (Kd.R_base HO356.out _ e_.symm) (by omega))) | exact (fun e_ => absurd (Kd.R_base HO356.out _ e_.symm) (by omega)))
             have HS3_ := cell_grown hg (hHeld.2.2.2.1) (by first | (rw [add_block]; exact (fun e_ => absurd (Kd.R_base HO356.out _ e_.symm) (by omega))) | (show some (Addr.add _ _).block ≠ _; rw [add_block]; exact (fun e_ => absurd (Kd.R_base HO356.out _ e_.symm) (by omega))) | exact (fun e_ => absurd (Kd.R_base HO356.out _ e_.symm) (by omega)))
             have HS4_ := cell_grown hg (hHeld.2.2.2.2.1) (by first | (rw [add_block]; exact (fun e_ => absurd (Kd.R_base HO356.out _ e_.symm) (by omega))) | (show some (Addr.add _ _).block ≠ _; rw [add_block]; exact (fun e_ => absurd (Kd.R_base HO356.out _ e_.symm) (by omega))) | exact (fun e_ => absurd (Kd.R_base HO356.out _ e_.symm) (by omega)))
             have HS5_ := cell_grown hg (hHeld.2.2.2.2.2) (by first | (rw [add_block]; exact (fun e_ => absurd (Kd.R_base HO356.out _ e_.symm) (by omega))) | (show some (Addr.add _ _).block ≠ _; rw [add_block]; exact (fun e_ => absurd (Kd.R_base HO356.out _ e_.symm) (by omega))) | exact (fun e_ => absurd (Kd.R_base HO356.out _ e_.symm) (by omega)))
             rw [← Ny357.out] at ho
             have n0_ := Aside0.mk (Kd.V_afterv (ok := (fun k_ => ((P0_ k_ ∨ P2_ k_) ∨ w.heap.size ≤ k_))) (by (with_reducible repeat (first | apply Kd.V_alloc | apply Kd.V_drewN | apply Kd.V_drew)); exact HO0.out) hg hat)
             have n1_ := Aside0.mk (Kd.V_afterv (ok := (fun k_ => ((P0_ k_ ∨ P2_ k_) ∨ w.heap.size ≤ k_))) (by (with_reducible repeat (first | apply Kd.V_alloc | apply Kd.V_drewN | apply Kd.V_drew)); exact HO2.out) hg hat)
             have n2_ := Aside0.mk (Kd.V_afterv (ok := (fun k_ => ((P0_ k_ ∨ P2_ k_) ∨ w.heap.size ≤ k_))) (by (with_reducible repeat (first | apply Kd.V_alloc | apply Kd.V_drewN | apply Kd.V_drew)); exact HL351_2.out) hg hat)
             have n3_ := Aside0.mk (Kd.V_afterv (ok := (fun k_ => ((P0_ k_ ∨ P2_ k_) ∨ w.heap.size ≤ k_))) (by (with_reducible repeat (first | apply Kd.V_alloc | apply Kd.V_drewN | apply Kd.V_drew)); exact HL352_2.out) hg hat)
             have n4_ := Aside0.mk (Kd.V_afterv (ok := (fun k_ => ((P0_ k_ ∨ P2_ k_) ∨ w.heap.size ≤ k_))) (by (with_reducible repeat (first | apply Kd.V_alloc | apply Kd.V_drewN | apply Kd.V_drew)); exact HL353_2.out) hg hat)
             have n5_ := Aside0.mk (hb)
             have n6_ := Aside0.mk (ho)
             clear HO0
             clear HO2
             clear HL351_2
             clear HL352_2
             clear HL353_2
             clear HB
             clear HO356
             have HO0 := n0_
             have HO2 := n1_
             have HL351_2 := n2_
             have HL352_2 := n3_
             have HL353_2 := n4_
             have HB := n5_
             have HO359 := n6_
             clear n0_ n1_ n2_ n3_ n4_ n5_ n6_
             clear ho hb hg hat
             obtain ⟨Ao18, co18, eo18⟩ := Kd.R_slice HO359.out
             (first | subst eo18 | (injection eo18 with f1_ f2_ f3_; have f4_ := f1_.symm; have f5_ := f3_.symm; clear f1_ f2_ f3_; subst f4_; subst f5_))
             refine hK.out _ _ ⟨HS0_, HS1_, HS2_, HS3_, HS4_, HS5_⟩ (fun hHeld => ?_)
             clear hK K
             refine norm_ (a' := ?_) ?_ ?_
             rotate_left
             ·show Act.put _ (some 39) _ = _
              simp only [Act.put, List.setIfInBounds_toArray, List.set_cons_zero, List.set_cons_succ, i64_w, i32_w]
              rfl
             refine pure_ (i := 17) (N := some 40) (v := ?_) (a' := ?_) #[true, true, true, true, true, true, true, true, true, true, true, true, true, true, true, true, true, true, false, false] rfl rfl (any_of HT_.out (by kernel_rfl)) (fun _ _ _ h => h) (Or.inl ⟨by rfl, ?_⟩) ?_ ?_
             rotate_left
             ·intro w'
              go_simp
              with_reducible rfl
             rotate_left
             ·simp only [Act.put, List.setIfInBounds_toArray, List.set_cons_zero, List.set_cons_succ, i64_w, i32_w]
              rfl
             refine one_ (i := 18) (N := some 8) #[true, true, true, true, true, true, true, true, true, true, true, true, true, true, true, true, true, true, true, false] rfl rfl (one_of HT_.out (by kernel_rfl)) (by decide) (fun K hK => ?_)
             refine box_step ?hg (N := 8) ?hd (cs := #[.int .i64 0, .int .i64 0, .slice none 0 0]) (t := 49) ?hr ?_; (case hd => rfl); (case hg => rfl); (case hr => first | (go_simp; done) | (go_simp; rfl))
             intro gb360 hg w19 hbox hb
             have HS0_ := (hb.cell (World.block_lt_of_cell? _ _ (hHeld.1))).trans (hHeld.1)
             have HS1_ := (hb.cell (World.block_lt_of_cell? _ _ (hHeld.2.1))).trans (hHeld.2.1)
             have HS2_ := (hb.cell (World.block_lt_of_cell? _ _ (hHeld.2.2.1))).trans (hHeld.2.2.1)
             have HS3_ := (hb.cell (World.block_lt_of_cell? _ _ (hHeld.2.2.2.1))).trans (hHeld.2.2.2.1)
             have HS4_ := (hb.cell (World.block_lt_of_cell? _ _ (hHeld.2.2.2.2.1))).trans (hHeld.2.2.2.2.1)
             have HS5_ := (hb.cell (World.block_lt_of_cell? _ _ (hHeld.2.2.2.2.2))).trans (hHeld.2.2.2.2.2)
             have n0_ := Aside0.mk (Kd.V_below (Kd.V_elderB (by (with_reducible repeat (first | apply Kd.V_alloc | apply Kd.V_drewN | apply Kd.V_drew)); exact HO0.out) gb360 (Nat.le_of_eq hg.symm)) hb)
             have n1_ := Aside0.mk (Kd.V_below (Kd.V_elderB (by (with_reducible repeat (first | apply Kd.V_alloc | apply Kd.V_drewN | apply Kd.V_drew)); exact HO2.out) gb360 (Nat.le_of_eq hg.symm)) hb)
             have n2_ := Aside0.mk (Kd.V_below (Kd.V_elderB (by (with_reducible repeat (first | apply Kd.V_alloc | apply Kd.V_drewN | apply Kd.V_drew)); exact HL351_2.out) gb360 (Nat.le_of_eq hg.symm)) hb)
             have n3_ := Aside0.mk (Kd.V_below (Kd.V_elderB (by (with_reducible repeat (first | apply Kd.V_alloc | apply Kd.V_drewN | apply Kd.V_drew)); exact HL352_2.out) gb360 (Nat.le_of_eq hg.symm)) hb)
             have n4_ := Aside0.mk (Kd.V_below (Kd.V_elderB (by (with_reducible repeat (first | apply Kd.V_alloc | apply Kd.V_drewN | apply Kd.V_drew)); exact HL353_2.out) gb360 (Nat.le_of_eq hg.symm)) hb)
             have n5_ := Aside0.mk (Kd.R_below (by (with_reducible repeat (first | apply Kd.R_alloc | apply Kd.R_drewN | apply Kd.R_drew)); exact HO359.out) hb)
             have n6_ := Aside0.mk (below_step (by repeat (first | (with_reducible first | exact HB.out | apply below_alloc | apply pw_below_drewN | apply below_drew1) | exact HB.out)) hb)
             have n7_ := Aside0.mk (hbox)
             have n8_ := Aside0.mk ((by rw [hg]; exact (below_size (by repeat (first | (with_reducible first | exact HB.out | apply below_alloc | apply pw_below_drewN | apply below_drew1) | exact HB.out))) : w.heap.size ≤ gb360))
             have n9_ := Aside0.mk ((by rw [hg]; exact (below_size (by repeat (first | (with_reducible first | exact HB.out | apply below_alloc | apply pw_below_drewN | apply below_drew1) | exact HB.out))) : w.heap.size ≤ gb360))
             clear HO0
             clear HO2
             clear HL351_2
             clear HL352_2
             clear HL353_2
             clear HO359
             clear HB
             have HO0 := n0_
             have HO2 := n1_
             have HL351_2 := n2_
             have HL352_2 := n3_
             have HL353_2 := n4_
             have HO359 := n5_
             have HB := n6_
             have BK360 := n7_
             have GW360 := n8_
             have GE360 := n9_
             clear n0_ n1_ n2_ n3_ n4_ n5_ n6_ n7_ n8_ n9_
             clear hb hbox hg
             refine hK.out _ _ ⟨HS0_, HS1_, HS2_, HS3_, HS4_, HS5_⟩ (fun hHeld => ?_)
             clear hK K
             refine norm_ (a' := ?_) ?_ ?_
             rotate_left
             ·show Act.put _ (some 8) _ = _
              simp only [Act.put, List.setIfInBounds_toArray, List.set_cons_zero, List.set_cons_succ, i64_w, i32_w]
              rfl
             exact norm_ (by simp only [putAll, Act.put, List.setIfInBounds_toArray, List.set_cons_zero, List.set_cons_succ]) (hCont (v355, .slice Ao18 y357.length co18, gb360) _ ⟨hHeld, (by (with_reducible repeat (first | apply Kd.V_alloc | apply Kd.V_drewN | apply Kd.V_drew)); exact Kd.V_mono HL351_2.out (fun _ hk => ⟨hk.1.1, ⟨hk.1.2, hk.2⟩⟩)), (by (with_reducible repeat (first | apply Kd.V_alloc | apply Kd.V_drewN | apply Kd.V_drew)); exact Kd.V_mono HL352_2.out (fun _ hk => ⟨hk.1.1, ⟨hk.1.2, hk.2⟩⟩)), (by (with_reducible repeat (first | apply Kd.V_alloc | apply Kd.V_drewN | apply Kd.V_drew)); exact Kd.V_mono HL353_2.out (fun _ hk => ⟨hk.1.1, ⟨hk.1.2, hk.2⟩⟩)), (by (with_reducible repeat (first | apply Kd.V_alloc | apply Kd.V_drewN | apply Kd.V_drew)); exact Kd.V_mono HO0.out (fun _ hk => ⟨hk.1.1, ⟨hk.1.2, hk.2⟩⟩)), (by (with_reducible repeat (first | apply Kd.V_alloc | apply Kd.V_drewN | apply Kd.V_drew)); exact Kd.V_mono HO2.out (fun _ hk => ⟨hk.1.1, ⟨hk.1.2, hk.2⟩⟩)), (by (with_reducible repeat (first | apply Kd.R_alloc | apply Kd.R_drewN | apply Kd.R_drew)); exact HO359.out), (by (with_reducible repeat (first | refine blk_drewN ?_ _ | refine blk_drew ?_ | refine blk_alloc ?_ _)); exact BK360.out), GW360.out, GE360.out, (by repeat (first | (with_reducible first | exact HB.out | apply below_alloc | apply pw_below_drewN | apply below_drew1 | refine below_set ?_ GE360.out) | exact HB.out))⟩)
            ·skip
             refine box_step ?hg (N := 8) ?hd (cs := #[.int .i64 0, .int .i64 0, .slice none 0 0]) (t := 49) ?hr ?_; (case hd => rfl); (case hg => rfl); (case hr => first | (go_simp; done) | (go_simp; rfl))
             intro gb360 hg w17 hbox hb
             have HS0_ := (hb.cell (World.block_lt_of_cell? _ _ (hHeld.1))).trans (hHeld.1)
             have HS1_ := (hb.cell (World.block_lt_of_cell? _ _ (hHeld.2.1))).trans (hHeld.2.1)
             have HS2_ := (hb.cell (World.block_lt_of_cell? _ _ (hHeld.2.2.1))).trans (hHeld.2.2.1)
             have HS3_ := (hb.cell (World.block_lt_of_cell? _ _ (hHeld.2.2.2.1))).trans (hHeld.2.2.2.1)
             have HS4_ := (hb.cell (World.block_lt_of_cell? _ _ (hHeld.2.2.2.2.1))).trans (hHeld.2.2.2.2.1)
             have HS5_ := (hb.cell (World.block_lt_of_cell? _ _ (hHeld.2.2.2.2.2))).trans (hHeld.2.2.2.2.2)
             have n0_ := Aside0.mk (Kd.V_below (Kd.V_elderB (by (with_reducible repeat (first | apply Kd.V_alloc | apply Kd.V_drewN | apply Kd.V_drew)); exact HO0.out) gb360 (Nat.le_of_eq hg.symm)) hb)
             have n1_ := Aside0.mk (Kd.V_below (Kd.V_elderB (by (with_reducible repeat (first | apply Kd.V_alloc | apply Kd.V_drewN | apply Kd.V_drew)); exact HO2.out) gb360 (Nat.le_of_eq hg.symm)) hb)
             have n2_ := Aside0.mk (Kd.V_below (Kd.V_elderB (by (with_reducible repeat (first | apply Kd.V_alloc | apply Kd.V_drewN | apply Kd.V_drew)); exact HL351_2.out) gb360 (Nat.le_of_eq hg.symm)) hb)
             have n3_ := Aside0.mk (Kd.V_below (Kd.V_elderB (by (with_reducible repeat (first | apply Kd.V_alloc | apply Kd.V_drewN | apply Kd.V_drew)); exact HL352_2.out) gb360 (Nat.le_of_eq hg.symm)) hb)
             have n4_ := Aside0.mk (Kd.V_below (Kd.V_elderB (by (with_reducible repeat (first | apply Kd.V_alloc | apply Kd.V_drewN | apply Kd.V_drew)); exact HL353_2.out) gb360 (Nat.le_of_eq hg.symm)) hb)
             have n5_ := Aside0.mk (Kd.R_below (by (with_reducible repeat (first | apply Kd.R_alloc | apply Kd.R_drewN | apply Kd.R_drew)); exact HO356.out) hb)
             have n6_ := Aside0.mk (below_step (by repeat (first | (with_reducible first | exact HB.out | apply below_alloc | apply pw_below_drewN | apply below_drew1) | exact HB.out)) hb)
             have n7_ := Aside0.mk (hbox)
             have n8_ := Aside0.mk ((by rw [hg]; exact (below_size (by repeat (first | (with_reducible first | exact HB.out | apply below_alloc | apply pw_below_drewN | apply below_drew1) | exact HB.out))) : w.heap.size ≤ gb360))
             have n9_ := Aside0.mk ((by rw [hg]; exact (below_size (by repeat (first | (with_reducible first | exact HB.out | apply below_alloc | apply pw_below_drewN | apply below_drew1) | exact HB.out))) : w.heap.size ≤ gb360))
             clear HO0
             clear HO2
             clear HL351_2
             clear HL352_2
             clear HL353_2
             clear HO356
             clear HB
             have HO0 := n0_
             have HO2 := n1_
             have HL351_2 := n2_
             have HL352_2 := n3_
             have HL353_2 := n4_
             have HO356 := n5_
             have HB := n6_
             have BK360 := n7_
             have GW360 := n8_
             have GE360 := n9_
             clear n0_ n1_ n2_ n3_ n4_ n5_ n6_ n7_ n8_ n9_
             clear hb hbox hg
             refine hK.out _ _ ⟨HS0_, HS1_, HS2_, HS3_, HS4_, HS5_⟩ (fun hHeld => ?_)
             clear hK K
             refine norm_ (a' := ?_) ?_ ?_
             rotate_left
             ·show Act.put _ (some 8) _ = _
              simp only [Act.put, List.setIfInBounds_toArray, List.set_cons_zero, List.set_cons_succ, i64_w, i32_w]
              rfl
             refine one_ (i := 16) (N := some 39) #[true, true, true, true, true, true, true, true, true, true, true, true, true, true, true, true, true, false, true, false] rfl rfl (one_of HT_.out (by kernel_rfl)) (by decide) (fun K hK => ?_)
             refine Kd.R_append_rows_step Kd.string (w0 := w) w.heap.size (by rfl) (.tmp 37) (.tmp 38) 22 9 (.string ⟨#[]⟩) 16 rfl Try.underlying22 info9 rfl (by decide) (by omega) v355 y354 l2 _ _ _ (fun k_ => (w.heap.size ≤ k_)) (fun _ => False) rfl rfl ?aO ?aR (fun _ _ h => h) (fun _ h => h.elim) ?aF ?aB ?aS ?aL ?_
             (case aR => repeat (first | exact (Kd.V_reads' HO2.out).2.2 | (with_reducible refine Kd.C_alloc ?_ _) | (with_reducible refine Kd.C_drewN ?_ _) | (with_reducible refine Kd.C_drew ?_)))
             (case aB => exact (by repeat (first | (with_reducible first | exact HB.out | apply below_alloc | apply pw_below_drewN | apply below_drew1 | refine below_set ?_ GE360.out) | exact HB.out)))
             (case aF => exact (fun k_ hk => (Nat.le_trans (below_size (by repeat (first | (with_reducible first | exact HB.out | apply below_alloc | apply pw_below_drewN | apply below_drew1 | refine below_set ?_ GE360.out) | exact HB.out))) hk)))
             (case aO => exact (by (with_reducible repeat (first | apply Kd.R_alloc | apply Kd.R_drewN | apply Kd.R_drew)); exact HO356.out))
             (case aS => exact (below_size (by repeat (first | (with_reducible first | exact HB.out | apply below_alloc | apply pw_below_drewN | apply below_drew1 | refine below_set ?_ GE360.out) | exact HB.out))))
             (case aL => have := LMc10.out; omega)
             intro v358 w18 ho hb hg hat
             have HS0_ := cell_grown hg (hHeld.1) (by first | (rw [add_block]; exact (fun e_ => absurd (Kd.R_base HO356.out _ e_.symm) (by omega))) | (show some (Addr.add _ _).block ≠ _; rw [add_block]; exact (fun e_ => absurd (Kd.R_base HO356.out _ e_.symm) (by omega))) | exact (fun e_ => absurd (Kd.R_base HO356.out _ e_.symm) (by omega)))
             have HS1_ := cell_grown hg (hHeld.2.1) (by first | (rw [add_block]; exact (fun e_ => absurd (Kd.R_base HO356.out _ e_.symm) (by omega))) | (show some (Addr.add _ _).block ≠ _; rw [add_block]; exact (fun e_ => absurd (Kd.R_base HO356.out _ e_.symm) (by omega))) | exact (fun e_ => absurd (Kd.R_base HO356.out _ e_.symm) (by omega)))
             have HS2_ := cell_grown hg (hHeld.2.2.1) (by first | (rw [add_block]; exact (fun e_ => absurd (Kd.R_base HO356.out _ e_.symm) (by omega))) | (show some (Addr.add _ _).block ≠ _; rw [add_block]; exact (fun e_ => absurd (Kd.R_base HO356.out _ e_.symm) (by omega))) | exact (fun e_ => absurd (Kd.R_base HO356.out _ e_.symm) (by omega)))
             have HS3_ := cell_grown hg (hHeld.2.2.2.1) (by first | (rw [add_block]; exact (fun e_ => absurd (Kd.R_base HO356.out _ e_.symm) (by omega))) | (show some (Addr.add _ _).block ≠ _; rw [add_block]; exact (fun e_ => absurd (Kd.R_base HO356.out _ e_.symm) (by omega))) | exact (fun e_ => absurd (Kd.R_base HO356.out _ e_.symm) (by omega)))
             have HS4_ := cell_grown hg (hHeld.2.2.2.2.1) (by first | (rw [add_block]; exact (fun e_ => absurd (Kd.R_base HO356.out _ e_.symm) (by omega))) | (show some (Addr.add _ _).block ≠ _; rw [add_block]; exact (fun e_ => absurd (Kd.R_base HO356.out _ e_.symm) (by omega))) | exact (fun e_ => absurd (Kd.R_base HO356.out _ e_.symm) (by omega)))
             have HS5_ := cell_grown hg (hHeld.2.2.2.2.2) (by first | (rw [add_block]; exact (fun e_ => absurd (Kd.R_base HO356.out _ e_.symm) (by omega))) | (show some (Addr.add _ _).block ≠ _; rw [add_block]; exact (fun e_ => absurd (Kd.R_base HO356.out _ e_.symm) (by omega))) | exact (fun e_ => absurd (Kd.R_base HO356.out _ e_.symm) (by omega)))
             rw [← Ny357.out] at ho
             have n0_ := Aside0.mk (Kd.V_afterv (ok := (fun k_ => ((P0_ k_ ∨ P2_ k_) ∨ w.heap.size ≤ k_) ∧ k_ ≠ gb360)) (by (with_reducible repeat (first | apply Kd.V_alloc | apply Kd.V_drewN | apply Kd.V_drew)); exact Kd.V_mono HO0.out (fun _ hk => ⟨⟨hk.1.1, hk.2⟩, hk.1.2⟩)) hg hat)
             have n1_ := Aside0.mk (Kd.V_afterv (ok := (fun k_ => ((P0_ k_ ∨ P2_ k_) ∨ w.heap.size ≤ k_) ∧ k_ ≠ gb360)) (by (with_reducible repeat (first | apply Kd.V_alloc | apply Kd.V_drewN | apply Kd.V_drew)); exact Kd.V_mono HO2.out (fun _ hk => ⟨⟨hk.1.1, hk.2⟩, hk.1.2⟩)) hg hat)
             have n2_ := Aside0.mk (Kd.V_afterv (ok := (fun k_ => ((P0_ k_ ∨ P2_ k_) ∨ w.heap.size ≤ k_) ∧ k_ ≠ gb360)) (by (with_reducible repeat (first | apply Kd.V_alloc | apply Kd.V_drewN | apply Kd.V_drew)); exact Kd.V_mono HL351_2.out (fun _ hk => ⟨⟨hk.1.1, hk.2⟩, hk.1.2⟩)) hg hat)
             have n3_ := Aside0.mk (Kd.V_afterv (ok := (fun k_ => ((P0_ k_ ∨ P2_ k_) ∨ w.heap.size ≤ k_) ∧ k_ ≠ gb360)) (by (with_reducible repeat (first | apply Kd.V_alloc | apply Kd.V_drewN | apply Kd.V_drew)); exact Kd.V_mono HL352_2.out (fun _ hk => ⟨⟨hk.1.1, hk.2⟩, hk.1.2⟩)) hg hat)
             have n4_ := Aside0.mk (Kd.V_afterv (ok := (fun k_ => ((P0_ k_ ∨ P2_ k_) ∨ w.heap.size ≤ k_) ∧ k_ ≠ gb360)) (by (with_reducible repeat (first | apply Kd.V_alloc | apply Kd.V_drewN | apply Kd.V_drew)); exact Kd.V_mono HL353_2.out (fun _ hk => ⟨⟨hk.1.1, hk.2⟩, hk.1.2⟩)) hg hat)
             have n5_ := Aside0.mk (blk_grown (g := gb360) (o := .cells #[.int .i64 0, .int .i64 0, .slice none 0 0] 49 (0, 0)) (by (with_reducible repeat (first | refine blk_drewN ?_ _ | refine blk_drew ?_ | refine blk_alloc ?_ _)); exact BK360.out) hg (Kd.R_ne HO356.out BK360.out (by decide)))
             have n6_ := Aside0.mk (hb)
             have n7_ := Aside0.mk (ho)
             clear HO0
             clear HO2
             clear HL351_2
             clear HL352_2
             clear HL353_2
             clear BK360
             clear HB
             clear HO356
             have HO0 := n0_
             have HO2 := n1_
             have HL351_2 := n2_
             have HL352_2 := n3_
             have HL353_2 := n4_
             have BK360 := n5_
             have HB := n6_
             have HO359 := n7_
             clear n0_ n1_ n2_ n3_ n4_ n5_ n6_ n7_
             clear ho hb hg hat
             obtain ⟨Ao19, co19, eo19⟩ := Kd.R_slice HO359.out
             (first | subst eo19 | (injection eo19 with f1_ f2_ f3_; have f4_ := f1_.symm; have f5_ := f3_.symm; clear f1_ f2_ f3_; subst f4_; subst f5_))
             refine hK.out _ _ ⟨HS0_, HS1_, HS2_, HS3_, HS4_, HS5_⟩ (fun hHeld => ?_)
             clear hK K
             refine norm_ (a' := ?_) ?_ ?_
             rotate_left
             ·show Act.put _ (some 39) _ = _
              simp only [Act.put, List.setIfInBounds_toArray, List.set_cons_zero, List.set_cons_succ, i64_w, i32_w]
              rfl
             refine pure_ (i := 17) (N := some 40) (v := ?_) (a' := ?_) #[true, true, true, true, true, true, true, true, true, true, true, true, true, true, true, true, true, true, true, false] rfl rfl (any_of HT_.out (by kernel_rfl)) (fun _ _ _ h => h) (Or.inl ⟨by rfl, ?_⟩) ?_ ?_
             rotate_left
             ·intro w'
              go_simp
              with_reducible rfl
             rotate_left
             ·simp only [Act.put, List.setIfInBounds_toArray, List.set_cons_zero, List.set_cons_succ, i64_w, i32_w]
              rfl
             exact norm_ (by simp only [putAll, Act.put, List.setIfInBounds_toArray, List.set_cons_zero, List.set_cons_succ]) (hCont (v355, .slice Ao19 y357.length co19, gb360) _ ⟨hHeld, (by (with_reducible repeat (first | apply Kd.V_alloc | apply Kd.V_drewN | apply Kd.V_drew)); exact Kd.V_mono HL351_2.out (fun _ hk => ⟨hk.1.1, ⟨hk.2, hk.1.2⟩⟩)), (by (with_reducible repeat (first | apply Kd.V_alloc | apply Kd.V_drewN | apply Kd.V_drew)); exact Kd.V_mono HL352_2.out (fun _ hk => ⟨hk.1.1, ⟨hk.2, hk.1.2⟩⟩)), (by (with_reducible repeat (first | apply Kd.V_alloc | apply Kd.V_drewN | apply Kd.V_drew)); exact Kd.V_mono HL353_2.out (fun _ hk => ⟨hk.1.1, ⟨hk.2, hk.1.2⟩⟩)), (by (with_reducible repeat (first | apply Kd.V_alloc | apply Kd.V_drewN | apply Kd.V_drew)); exact Kd.V_mono HO0.out (fun _ hk => ⟨hk.1.1, ⟨hk.2, hk.1.2⟩⟩)), (by (with_reducible repeat (first | apply Kd.V_alloc | apply Kd.V_drewN | apply Kd.V_drew)); exact Kd.V_mono HO2.out (fun _ hk => ⟨hk.1.1, ⟨hk.2, hk.1.2⟩⟩)), (by (with_reducible repeat (first | apply Kd.R_alloc | apply Kd.R_drewN | apply Kd.R_drew)); exact HO359.out), (by (with_reducible repeat (first | refine blk_drewN ?_ _ | refine blk_drew ?_ | refine blk_alloc ?_ _)); exact BK360.out), GW360.out, GE360.out, (by repeat (first | (with_reducible first | exact HB.out | apply below_alloc | apply pw_below_drewN | apply below_drew1 | refine below_set ?_ GE360.out) | exact HB.out))⟩)
           ·skip
            refine box_step ?hg (N := 8) ?hd (cs := #[.int .i64 0, .int .i64 0, .slice none 0 0]) (t := 49) ?hr ?_; (case hd => rfl); (case hg => rfl); (case hr => first | (go_simp; done) | (go_simp; rfl))
            intro gb360 hg w16 hbox hb
            have HS0_ := (hb.cell (World.block_lt_of_cell? _ _ (hHeld.1))).trans (hHeld.1)
            have HS1_ := (hb.cell (World.block_lt_of_cell? _ _ (hHeld.2.1))).trans (hHeld.2.1)
            have HS2_ := (hb.cell (World.block_lt_of_cell? _ _ (hHeld.2.2.1))).trans (hHeld.2.2.1)
            have HS3_ := (hb.cell (World.block_lt_of_cell? _ _ (hHeld.2.2.2.1))).trans (hHeld.2.2.2.1)
            have HS4_ := (hb.cell (World.block_lt_of_cell? _ _ (hHeld.2.2.2.2.1))).trans (hHeld.2.2.2.2.1)
            have HS5_ := (hb.cell (World.block_lt_of_cell? _ _ (hHeld.2.2.2.2.2))).trans (hHeld.2.2.2.2.2)
            have n0_ := Aside0.mk (Kd.V_below (Kd.V_elderB (by (with_reducible repeat (first | apply Kd.V_alloc | apply Kd.V_drewN | apply Kd.V_drew)); exact HO0.out) gb360 (Nat.le_of_eq hg.symm)) hb)
            have n1_ := Aside0.mk (Kd.V_below (Kd.V_elderB (by (with_reducible repeat (first | apply Kd.V_alloc | apply Kd.V_drewN | apply Kd.V_drew)); exact HO2.out) gb360 (Nat.le_of_eq hg.symm)) hb)
            have n2_ := Aside0.mk (Kd.V_below (Kd.V_elderB (by (with_reducible repeat (first | apply Kd.V_alloc | apply Kd.V_drewN | apply Kd.V_drew)); exact HL351_2.out) gb360 (Nat.le_of_eq hg.symm)) hb)
            have n3_ := Aside0.mk (Kd.V_below (Kd.V_elderB (by (with_reducible repeat (first | apply Kd.V_alloc | apply Kd.V_drewN | apply Kd.V_drew)); exact HL352_2.out) gb360 (Nat.le_of_eq hg.symm)) hb)
            have n4_ := Aside0.mk (Kd.V_below (Kd.V_elderB (by (with_reducible repeat (first | apply Kd.V_alloc | apply Kd.V_drewN | apply Kd.V_drew)); exact HL353_2.out) gb360 (Nat.le_of_eq hg.symm)) hb)
            have n5_ := Aside0.mk (Kd.C_below (by repeat (first | (with_reducible exact HR351_2.out) | (with_reducible refine Kd.C_alloc ?_ _) | (with_reducible refine Kd.C_drewN ?_ _) | (with_reducible refine Kd.C_drew ?_) | exact HR351_2.out)) hb)
            have n6_ := Aside0.mk (Kd.C_below (by repeat (first | (with_reducible exact HR352_2.out) | (with_reducible refine Kd.C_alloc ?_ _) | (with_reducible refine Kd.C_drewN ?_ _) | (with_reducible refine Kd.C_drew ?_) | exact HR352_2.out)) hb)
            have n7_ := Aside0.mk (Kd.C_below (by repeat (first | (with_reducible exact HR353_2.out) | (with_reducible refine Kd.C_alloc ?_ _) | (with_reducible refine Kd.C_drewN ?_ _) | (with_reducible refine Kd.C_drew ?_) | exact HR353_2.out)) hb)
            have n8_ := Aside0.mk (below_step (by repeat (first | (with_reducible first | exact HB.out | apply below_alloc | apply pw_below_drewN | apply below_drew1) | exact HB.out)) hb)
            have n9_ := Aside0.mk (hbox)
            have n10_ := Aside0.mk ((by rw [hg]; exact (below_size (by repeat (first | (with_reducible first | exact HB.out | apply below_alloc | apply pw_below_drewN | apply below_drew1) | exact HB.out))) : w.heap.size ≤ gb360))
            have n11_ := Aside0.mk ((by rw [hg]; exact (below_size (by repeat (first | (with_reducible first | exact HB.out | apply below_alloc | apply pw_below_drewN | apply below_drew1) | exact HB.out))) : w.heap.size ≤ gb360))
            clear HO0
            clear HO2
            clear HL351_2
            clear HL352_2
            clear HL353_2
            clear HR351_2
            clear HR352_2
            clear HR353_2
            clear HB
            have HO0 := n0_
            have HO2 := n1_
            have HL351_2 := n2_
            have HL352_2 := n3_
            have HL353_2 := n4_
            have HR351_2 := n5_
            have HR352_2 := n6_
            have HR353_2 := n7_
            have HB := n8_
            have BK360 := n9_
            have GW360 := n10_
            have GE360 := n11_
            clear n0_ n1_ n2_ n3_ n4_ n5_ n6_ n7_ n8_ n9_ n10_ n11_
            clear hb hbox hg
            refine hK.out _ _ ⟨HS0_, HS1_, HS2_, HS3_, HS4_, HS5_⟩ (fun hHeld => ?_)
            clear hK K
            refine norm_ (a' := ?_) ?_ ?_
            rotate_left
            ·show Act.put _ (some 8) _ = _
             simp only [Act.put, List.setIfInBounds_toArray, List.set_cons_zero, List.set_cons_succ, i64_w, i32_w]
             rfl
            refine one_ (i := 14) (N := some 37) #[true, true, true, true, true, true, true, true, true, true, true, true, true, true, true, true, false, false, true, false] rfl rfl (one_of HT_.out (by kernel_rfl)) (by decide) (fun K hK => ?_)
            refine Kd.R_append_rows_step Kd.string (w0 := w) w.heap.size (by rfl) (.const (.slice none 0 0)) (.tmp 36) 22 9 (.string ⟨#[]⟩) 16 rfl Try.underlying22 info9 rfl (by decide) (by omega) (.slice none 0 0) ([] : List ByteArray) ((rd_T49 l0 (ji5)).f2) _ _ _ (fun k_ => (w.heap.size ≤ k_)) (fun _ => False) rfl rfl ?aO ?aR (fun _ _ h => h) (fun _ h => h.elim) ?aF ?aB ?aS ?aL ?_
            (case aR => repeat (first | exact (by repeat (first | (with_reducible exact HR353_2.out) | (with_reducible refine Kd.C_alloc ?_ _) | (with_reducible refine Kd.C_drewN ?_ _) | (with_reducible refine Kd.C_drew ?_) | exact HR353_2.out)) | (with_reducible refine Kd.C_alloc ?_ _) | (with_reducible refine Kd.C_drewN ?_ _) | (with_reducible refine Kd.C_drew ?_)))
            (case aB => exact (by repeat (first | (with_reducible first | exact HB.out | apply below_alloc | apply pw_below_drewN | apply below_drew1 | refine below_set ?_ GE360.out) | exact HB.out)))
            (case aF => exact (fun k_ hk => (Nat.le_trans (below_size (by repeat (first | (with_reducible first | exact HB.out | apply below_alloc | apply pw_below_drewN | apply below_drew1 | refine below_set ?_ GE360.out) | exact HB.out))) hk)))
            (case aO => exact ((Kd.R_nil _ _ _ _ (fun k_ => (w.heap.size ≤ k_)))))
            (case aS => exact (below_size (by repeat (first | (with_reducible first | exact HB.out | apply below_alloc | apply pw_below_drewN | apply below_drew1 | refine below_set ?_ GE360.out) | exact HB.out))))
            (case aL => have := LMc9.out; omega)
            intro v355 w17 ho hb hg hat
            have HS0_ := cell_grown hg (hHeld.1) (by simp [Value.ownBlock])
            have HS1_ := cell_grown hg (hHeld.2.1) (by simp [Value.ownBlock])
            have HS2_ := cell_grown hg (hHeld.2.2.1) (by simp [Value.ownBlock])
            have HS3_ := cell_grown hg (hHeld.2.2.2.1) (by simp [Value.ownBlock])
            have HS4_ := cell_grown hg (hHeld.2.2.2.2.1) (by simp [Value.ownBlock])
            have HS5_ := cell_grown hg (hHeld.2.2.2.2.2) (by simp [Value.ownBlock])
            rw [← Ny354.out] at ho
            have n0_ := Aside0.mk (Kd.V_afterv (Kd.V_apart_nil (by (with_reducible repeat (first | apply Kd.V_alloc | apply Kd.V_drewN | apply Kd.V_drew)); exact HO0.out)) hg hat)
            have n1_ := Aside0.mk (Kd.V_afterv (Kd.V_apart_nil (by (with_reducible repeat (first | apply Kd.V_alloc | apply Kd.V_drewN | apply Kd.V_drew)); exact HO2.out)) hg hat)
            have n2_ := Aside0.mk (Kd.V_afterv (Kd.V_apart_nil (by (with_reducible repeat (first | apply Kd.V_alloc | apply Kd.V_drewN | apply Kd.V_drew)); exact HL351_2.out)) hg hat)
            have n3_ := Aside0.mk (Kd.V_afterv (Kd.V_apart_nil (by (with_reducible repeat (first | apply Kd.V_alloc | apply Kd.V_drewN | apply Kd.V_drew)); exact HL352_2.out)) hg hat)
            have n4_ := Aside0.mk (Kd.V_afterv (Kd.V_apart_nil (by (with_reducible repeat (first | apply Kd.V_alloc | apply Kd.V_drewN | apply Kd.V_drew)); exact HL353_2.out)) hg hat)
            have n5_ := Aside0.mk (blk_grown (g := gb360) (o := .cells #[.int .i64 0, .int .i64 0, .slice none 0 0] 49 (0, 0)) (by (with_reducible repeat (first | refine blk_drewN ?_ _ | refine blk_drew ?_ | refine blk_alloc ?_ _)); exact BK360.out) hg (by simp [Value.ownBlock]))
            have n6_ := Aside0.mk (hb)
            have n7_ := Aside0.mk (ho)
            clear HO0
            clear HO2
            clear HL351_2
            clear HL352_2
            clear HL353_2
            clear BK360
            clear HB
            have HO0 := n0_
            have HO2 := n1_
            have HL351_2 := n2_
            have HL352_2 := n3_
            have HL353_2 := n4_
            have BK360 := n5_
            have HB := n6_
            have HO356 := n7_
            clear n0_ n1_ n2_ n3_ n4_ n5_ n6_ n7_
            clear ho hb hg hat
            refine hK.out _ _ ⟨HS0_, HS1_, HS2_, HS3_, HS4_, HS5_⟩ (fun hHeld => ?_)
            clear hK K
            refine norm_ (a' := ?_) ?_ ?_
            rotate_left
            ·show Act.put _ (some 37) _ = _
             simp only [Act.put, List.setIfInBounds_toArray, List.set_cons_zero, List.set_cons_succ, i64_w, i32_w]
             rfl
            refine one_ (i := 16) (N := some 39) #[true, true, true, true, true, true, true, true, true, true, true, true, true, true, true, true, true, false, true, false] rfl rfl (one_of HT_.out (by kernel_rfl)) (by decide) (fun K hK => ?_)
            refine Kd.R_append_rows_step Kd.string (w0 := w) w.heap.size (by rfl) (.tmp 37) (.tmp 38) 22 9 (.string ⟨#[]⟩) 16 rfl Try.underlying22 info9 rfl (by decide) (by omega) v355 y354 l2 _ _ _ (fun k_ => (w.heap.size ≤ k_)) (fun _ => False) rfl rfl ?aO ?aR (fun _ _ h => h) (fun _ h => h.elim) ?aF ?aB ?aS ?aL ?_
            (case aR => repeat (first | exact (Kd.V_reads' HO2.out).2.2 | (with_reducible refine Kd.C_alloc ?_ _) | (with_reducible refine Kd.C_drewN ?_ _) | (with_reducible refine Kd.C_drew ?_)))
            (case aB => exact (by repeat (first | (with_reducible first | exact HB.out | apply below_alloc | apply pw_below_drewN | apply below_drew1 | refine below_set ?_ GE360.out) | exact HB.out)))
            (case aF => exact (fun k_ hk => (Nat.le_trans (below_size (by repeat (first | (with_reducible first | exact HB.out | apply below_alloc | apply pw_below_drewN | apply below_drew1 | refine below_set ?_ GE360.out) | exact HB.out))) hk)))
            (case aO => exact (by (with_reducible repeat (first | apply Kd.R_alloc | apply Kd.R_drewN | apply Kd.R_drew)); exact HO356.out))
            (case aS => exact (below_size (by repeat (first | (with_reducible first | exact HB.out | apply below_alloc | apply pw_below_drewN | apply below_drew1 | refine below_set ?_ GE360.out) | exact HB.out))))
            (case aL => have := LMc10.out; omega)
            intro v358 w18 ho hb hg hat
            have HS0_ := cell_grown hg (hHeld.1) (by first | (rw [add_block]; exact (fun e_ => absurd (Kd.R_base HO356.out _ e_.symm) (by omega))) | (show some (Addr.add _ _).block ≠ _; rw [add_block]; exact (fun e_ => absurd (Kd.R_base HO356.out _ e_.symm) (by omega))) | exact (fun e_ => absurd (Kd.R_base HO356.out _ e_.symm) (by omega)))
            have HS1_ := cell_grown hg (hHeld.2.1) (by first | (rw [add_block]; exact (fun e_ => absurd (Kd.R_base HO356.out _ e_.symm) (by omega))) | (show some (Addr.add _ _).block ≠ _; rw [add_block]; exact (fun e_ => absurd (Kd.R_base HO356.out _ e_.symm) (by omega))) | exact (fun e_ => absurd (Kd.R_base HO356.out _ e_.symm) (by omega)))
            have HS2_ := cell_grown hg (hHeld.2.2.1) (by first | (rw [add_block]; exact (fun e_ => absurd (Kd.R_base HO356.out _ e_.symm) (by omega))) | (show some (Addr.add _ _).block ≠ _; rw [add_block]; exact (fun e_ => absurd (Kd.R_base HO356.out _ e_.symm) (by omega))) | exact (fun e_ => absurd (Kd.R_base HO356.out _ e_.symm) (by omega)))
            have HS3_ := cell_grown hg (hHeld.2.2.2.1) (by first | (rw [add_block]; exact (fun e_ => absurd (Kd.R_base HO356.out _ e_.symm) (by omega))) | (show some (Addr.add _ _).block ≠ _; rw [add_block]; exact (fun e_ => absurd (Kd.R_base HO356.out _ e_.symm) (by omega))) | exact (fun e_ => absurd (Kd.R_base HO356.out _ e_.symm) (by omega)))
            have HS4_ := cell_grown hg (hHeld.2.2.2.2.1) (by first | (rw [add_block]; exact (fun e_ => absurd (Kd.R_base HO356.out _ e_.symm) (by omega))) | (show some (Addr.add _ _).block ≠ _; rw [add_block]; exact (fun e_ => absurd (Kd.R_base HO356.out _ e_.symm) (by omega))) | exact (fun e_ => absurd (Kd.R_base HO356.out _ e_.symm) (by omega)))
            have HS5_ := cell_grown hg (hHeld.2.2.2.2.2) (by first | (rw [add_block]; exact (fun e_ => absurd (Kd.R_base HO356.out _ e_.symm) (by omega))) | (show some (Addr.add _ _).block ≠ _; rw [add_block]; exact (fun e_ => absurd (Kd.R_base HO356.out _ e_.symm) (by omega))) | exact (fun e_ => absurd (Kd.R_base HO356.out _ e_.symm) (by omega)))
            rw [← Ny357.out] at ho
            have n0_ := Aside0.mk (Kd.V_afterv (ok := (fun k_ => ((P0_ k_ ∨ P2_ k_) ∨ w.heap.size ≤ k_) ∧ k_ ≠ gb360)) (by (with_reducible repeat (first | apply Kd.V_alloc | apply Kd.V_drewN | apply Kd.V_drew)); exact HO0.out) hg hat)
            have n1_ := Aside0.mk (Kd.V_afterv (ok := (fun k_ => ((P0_ k_ ∨ P2_ k_) ∨ w.heap.size ≤ k_) ∧ k_ ≠ gb360)) (by (with_reducible repeat (first | apply Kd.V_alloc | apply Kd.V_drewN | apply Kd.V_drew)); exact HO2.out) hg hat)
            have n2_ := Aside0.mk (Kd.V_afterv (ok := (fun k_ => ((P0_ k_ ∨ P2_ k_) ∨ w.heap.size ≤ k_) ∧ k_ ≠ gb360)) (by (with_reducible repeat (first | apply Kd.V_alloc | apply Kd.V_drewN | apply Kd.V_drew)); exact HL351_2.out) hg hat)
            have n3_ := Aside0.mk (Kd.V_afterv (ok := (fun k_ => ((P0_ k_ ∨ P2_ k_) ∨ w.heap.size ≤ k_) ∧ k_ ≠ gb360)) (by (with_reducible repeat (first | apply Kd.V_alloc | apply Kd.V_drewN | apply Kd.V_drew)); exact HL352_2.out) hg hat)
            have n4_ := Aside0.mk (Kd.V_afterv (ok := (fun k_ => ((P0_ k_ ∨ P2_ k_) ∨ w.heap.size ≤ k_) ∧ k_ ≠ gb360)) (by (with_reducible repeat (first | apply Kd.V_alloc | apply Kd.V_drewN | apply Kd.V_drew)); exact HL353_2.out) hg hat)
            have n5_ := Aside0.mk (blk_grown (g := gb360) (o := .cells #[.int .i64 0, .int .i64 0, .slice none 0 0] 49 (0, 0)) (by (with_reducible repeat (first | refine blk_drewN ?_ _ | refine blk_drew ?_ | refine blk_alloc ?_ _)); exact BK360.out) hg (Kd.R_ne HO356.out BK360.out (by decide)))
            have n6_ := Aside0.mk (hb)
            have n7_ := Aside0.mk (ho)
            clear HO0
            clear HO2
            clear HL351_2
            clear HL352_2
            clear HL353_2
            clear BK360
            clear HB
            clear HO356
            have HO0 := n0_
            have HO2 := n1_
            have HL351_2 := n2_
            have HL352_2 := n3_
            have HL353_2 := n4_
            have BK360 := n5_
            have HB := n6_
            have HO359 := n7_
            clear n0_ n1_ n2_ n3_ n4_ n5_ n6_ n7_
            clear ho hb hg hat
            obtain ⟨Ao19, co19, eo19⟩ := Kd.R_slice HO359.out
            (first | subst eo19 | (injection eo19 with f1_ f2_ f3_; have f4_ := f1_.symm; have f5_ := f3_.symm; clear f1_ f2_ f3_; subst f4_; subst f5_))
            refine hK.out _ _ ⟨HS0_, HS1_, HS2_, HS3_, HS4_, HS5_⟩ (fun hHeld => ?_)
            clear hK K
            refine norm_ (a' := ?_) ?_ ?_
            rotate_left
            ·show Act.put _ (some 39) _ = _
             simp only [Act.put, List.setIfInBounds_toArray, List.set_cons_zero, List.set_cons_succ, i64_w, i32_w]
             rfl
            refine pure_ (i := 17) (N := some 40) (v := ?_) (a' := ?_) #[true, true, true, true, true, true, true, true, true, true, true, true, true, true, true, true, true, true, true, false] rfl rfl (any_of HT_.out (by kernel_rfl)) (fun _ _ _ h => h) (Or.inl ⟨by rfl, ?_⟩) ?_ ?_
            rotate_left
            ·intro w'
             go_simp
             with_reducible rfl
            rotate_left
            ·simp only [Act.put, List.setIfInBounds_toArray, List.set_cons_zero, List.set_cons_succ, i64_w, i32_w]
             rfl
            exact norm_ (by simp only [putAll, Act.put, List.setIfInBounds_toArray, List.set_cons_zero, List.set_cons_succ]) (hCont (v355, .slice Ao19 y357.length co19, gb360) _ ⟨hHeld, (by (with_reducible repeat (first | apply Kd.V_alloc | apply Kd.V_drewN | apply Kd.V_drew)); exact Kd.V_mono HL351_2.out (fun _ hk => ⟨hk.1.1, ⟨hk.2, hk.1.2⟩⟩)), (by (with_reducible repeat (first | apply Kd.V_alloc | apply Kd.V_drewN | apply Kd.V_drew)); exact Kd.V_mono HL352_2.out (fun _ hk => ⟨hk.1.1, ⟨hk.2, hk.1.2⟩⟩)), (by (with_reducible repeat (first | apply Kd.V_alloc | apply Kd.V_drewN | apply Kd.V_drew)); exact Kd.V_mono HL353_2.out (fun _ hk => ⟨hk.1.1, ⟨hk.2, hk.1.2⟩⟩)), (by (with_reducible repeat (first | apply Kd.V_alloc | apply Kd.V_drewN | apply Kd.V_drew)); exact Kd.V_mono HO0.out (fun _ hk => ⟨hk.1.1, ⟨hk.2, hk.1.2⟩⟩)), (by (with_reducible repeat (first | apply Kd.V_alloc | apply Kd.V_drewN | apply Kd.V_drew)); exact Kd.V_mono HO2.out (fun _ hk => ⟨hk.1.1, ⟨hk.2, hk.1.2⟩⟩)), (by (with_reducible repeat (first | apply Kd.R_alloc | apply Kd.R_drewN | apply Kd.R_drew)); exact HO359.out), (by (with_reducible repeat (first | refine blk_drewN ?_ _ | refine blk_drew ?_ | refine blk_alloc ?_ _)); exact BK360.out), GW360.out, GE360.out, (by repeat (first | (with_reducible first | exact HB.out | apply below_alloc | apply pw_below_drewN | apply below_drew1 | refine below_set ?_ GE360.out) | exact HB.out))⟩)
          rintro ⟨v355, v358, gb360⟩ w20 ⟨hS_, h0_, h1_, h2_, h3_, h4_, h5_, h6_, h7_, h8_, h9_⟩
          have n0_ : Aside0 (Kd.V Kd.string 9 w20 w.heap.size (fun k_ => ((P0_ k_ ∨ P2_ k_) ∨ w.heap.size ≤ k_) ∧ some k_ ≠ (v358 : Value).ownBlock ∧ k_ ≠ gb360) (.slice A351_2 ((rd_T49 l0 (ji5)).f2).length c351_2) ((rd_T49 l0 (ji5)).f2)) := ⟨h0_⟩
          have n1_ : Aside0 (Kd.V Kd.string 9 w20 w.heap.size (fun k_ => ((P0_ k_ ∨ P2_ k_) ∨ w.heap.size ≤ k_) ∧ some k_ ≠ (v358 : Value).ownBlock ∧ k_ ≠ gb360) (.slice A352_2 ((rd_T49 l0 (ji5)).f2).length c352_2) ((rd_T49 l0 (ji5)).f2)) := ⟨h1_⟩
          have n2_ : Aside0 (Kd.V Kd.string 9 w20 w.heap.size (fun k_ => ((P0_ k_ ∨ P2_ k_) ∨ w.heap.size ≤ k_) ∧ some k_ ≠ (v358 : Value).ownBlock ∧ k_ ≠ gb360) (.slice A352_2 ((rd_T49 l0 (ji5)).f2).length c352_2) ((rd_T49 l0 (ji5)).f2)) := ⟨h2_⟩
          have n3_ : Aside0 (Kd.V k49 49 w20 w.heap.size (fun k_ => ((P0_ k_ ∨ P2_ k_) ∨ w.heap.size ≤ k_) ∧ some k_ ≠ (v358 : Value).ownBlock ∧ k_ ≠ gb360) (.slice (some ad351) l0.length c0) l0) := ⟨h3_⟩
          have n4_ : Aside0 (Kd.V Kd.string 9 w20 w.heap.size (fun k_ => ((P0_ k_ ∨ P2_ k_) ∨ w.heap.size ≤ k_) ∧ some k_ ≠ (v358 : Value).ownBlock ∧ k_ ≠ gb360) (.slice A2 l2.length c2) l2) := ⟨h4_⟩
          have n5_ : Aside0 (Kd.R Kd.string 9 w20 w.heap.size (fun k_ => (w.heap.size ≤ k_)) v358 y357) := ⟨h5_⟩
          have n6_ : Aside0 (w20.heap[gb360]? = some (.cells #[.int .i64 0, .int .i64 0, .slice none 0 0] 49 (0, 0))) := ⟨h6_⟩
          have n7_ : Aside0 (w.heap.size ≤ gb360) := ⟨h7_⟩
          have n8_ : Aside0 (w.heap.size ≤ gb360) := ⟨h8_⟩
          have n9_ : Aside0 (Below w.heap.size w w20) := ⟨h9_⟩
          clear HO0
          clear HO2
          clear HL351_2
          clear HR351_2
          clear HB
          clear h0_ h1_ h2_ h3_ h4_ h5_ h6_ h7_ h8_ h9_
          have HL351_2 := n0_
          have HL352_2 := n1_
          have HL353_2 := n2_
          have HO0 := n3_
          have HO2 := n4_
          have HO359 := n5_
          have BK360 := n6_
          have GW360 := n7_
          have GE360 := n8_
          have HB := n9_
          clear n0_ n1_ n2_ n3_ n4_ n5_ n6_ n7_ n8_ n9_
          have hHeld : w20.cell? (ad351.add (((ji5)).toNat * 3)) = some (.int .i64 ((rd_T49 l0 (ji5)).f0)) ∧ w20.cell? ⟨(ad351.add (((ji5)).toNat * 3)).block, (ad351.add (((ji5)).toNat * 3)).off + 1, none⟩ = some (.int .i64 ((rd_T49 l0 (ji5)).f1)) ∧ w20.cell? ⟨(ad351.add (((ji5)).toNat * 3)).block, (ad351.add (((ji5)).toNat * 3)).off + 2, none⟩ = some (.slice A352_2 ((rd_T49 l0 (ji5)).f2).length c352_2) ∧ w20.cell? (ad351.add (((ji5)).toNat * 3)) = some (.int .i64 ((rd_T49 l0 (ji5)).f0)) ∧ w20.cell? ⟨(ad351.add (((ji5)).toNat * 3)).block, (ad351.add (((ji5)).toNat * 3)).off + 1, none⟩ = some (.int .i64 ((rd_T49 l0 (ji5)).f1)) ∧ w20.cell? ⟨(ad351.add (((ji5)).toNat * 3)).block, (ad351.add (((ji5)).toNat * 3)).off + 2, none⟩ = some (.slice A352_2 ((rd_T49 l0 (ji5)).f2).length c352_2) := hS_
          obtain ⟨Ao21, co21, eo21⟩ := Kd.R_slice HO359.out
          (first | subst eo21 | (injection eo21 with f1_ f2_ f3_; have f4_ := f1_.symm; have f5_ := f3_.symm; clear f1_ f2_ f3_; subst f4_; subst f5_))
          refine norm_ (a' := ?_) ?_ ?_
          rotate_left
          ·simp only [putAll, Act.put, List.setIfInBounds_toArray, List.set_cons_zero, List.set_cons_succ]
           rfl
          refine one_ (i := 19) (N := none) #[true, true, true, true, true, true, true, true, true, true, true, true, true, true, true, true, true, true, true, true] rfl rfl (one_of HT_.out (by kernel_rfl)) (by decide) (fun K hK => ?_)
          have hs22 : w20.cell? ⟨gb360, 0, none⟩ = some (.int .i64 0) := (blk_cell BK360.out 0).trans rfl
          have hfs22 := blk_frozen BK360.out 0
          have hs23 : w20.cell? ⟨gb360, 1, none⟩ = some (.int .i64 0) := (blk_cell BK360.out 1).trans rfl
          have hfs23 := blk_frozen BK360.out 1
          have hs24 : w20.cell? ⟨gb360, 2, none⟩ = some (.slice none 0 0) := (blk_cell BK360.out 2).trans rfl
          have hfs24 := blk_frozen BK360.out 2
          refine skip_ (w1 := ?_) (by rfl) rfl ?_ ?_
          rotate_left
          ·go_simp
           rfl
          refine hK.out _ _ ⟨((cell_far (p := ⟨gb360, _, none⟩) (by first | exact (Nat.ne_of_lt (Nat.lt_of_lt_of_le (by assumption) GW360.out)) | (rw [add_block]; exact (Nat.ne_of_lt (Nat.lt_of_lt_of_le (by assumption) GW360.out))) | (show (Addr.add _ _).block ≠ _; rw [add_block]; exact (Nat.ne_of_lt (Nat.lt_of_lt_of_le (by assumption) GW360.out))) | (dsimp only; exact (Nat.ne_of_lt (Nat.lt_of_lt_of_le (by assumption) GW360.out)))) _).trans (((cell_far (p := ⟨gb360, _, none⟩) (by first | exact (Nat.ne_of_lt (Nat.lt_of_lt_of_le (by assumption) GW360.out)) | (rw [add_block]; exact (Nat.ne_of_lt (Nat.lt_of_lt_of_le (by assumption) GW360.out))) | (show (Addr.add _ _).block ≠ _; rw [add_block]; exact (Nat.ne_of_lt (Nat.lt_of_lt_of_le (by assumption) GW360.out))) | (dsimp only; exact (Nat.ne_of_lt (Nat.lt_of_lt_of_le (by assumption) GW360.out)))) _).trans (((cell_far (p := ⟨gb360, _, none⟩) (by first | exact (Nat.ne_of_lt (Nat.lt_of_lt_of_le (by assumption) GW360.out)) | (rw [add_block]; exact (Nat.ne_of_lt (Nat.lt_of_lt_of_le (by assumption) GW360.out))) | (show (Addr.add _ _).block ≠ _; rw [add_block]; exact (Nat.ne_of_lt (Nat.lt_of_lt_of_le (by assumption) GW360.out))) | (dsimp only; exact (Nat.ne_of_lt (Nat.lt_of_lt_of_le (by assumption) GW360.out)))) _).trans (hHeld.1)))))), ((cell_far (p := ⟨gb360, _, none⟩) (by first | exact (Nat.ne_of_lt (Nat.lt_of_lt_of_le (by assumption) GW360.out)) | (rw [add_block]; exact (Nat.ne_of_lt (Nat.lt_of_lt_of_le (by assumption) GW360.out))) | (show (Addr.add _ _).block ≠ _; rw [add_block]; exact (Nat.ne_of_lt (Nat.lt_of_lt_of_le (by assumption) GW360.out))) | (dsimp only; exact (Nat.ne_of_lt (Nat.lt_of_lt_of_le (by assumption) GW360.out)))) _).trans (((cell_far (p := ⟨gb360, _, none⟩) (by first | exact (Nat.ne_of_lt (Nat.lt_of_lt_of_le (by assumption) GW360.out)) | (rw [add_block]; exact (Nat.ne_of_lt (Nat.lt_of_lt_of_le (by assumption) GW360.out))) | (show (Addr.add _ _).block ≠ _; rw [add_block]; exact (Nat.ne_of_lt (Nat.lt_of_lt_of_le (by assumption) GW360.out))) | (dsimp only; exact (Nat.ne_of_lt (Nat.lt_of_lt_of_le (by assumption) GW360.out)))) _).trans (((cell_far (p := ⟨gb360, _, none⟩) (by first | exact (Nat.ne_of_lt (Nat.lt_of_lt_of_le (by assumption) GW360.out)) | (rw [add_block]; exact (Nat.ne_of_lt (Nat.lt_of_lt_of_le (by assumption) GW360.out))) | (show (Addr.add _ _).block ≠ _; rw [add_block]; exact (Nat.ne_of_lt (Nat.lt_of_lt_of_le (by assumption) GW360.out))) | (dsimp only; exact (Nat.ne_of_lt (Nat.lt_of_lt_of_le (by assumption) GW360.out)))) _).trans (hHeld.2.1)))))), ((cell_far (p := ⟨gb360, _, none⟩) (by first | exact (Nat.ne_of_lt (Nat.lt_of_lt_of_le (by assumption) GW360.out)) | (rw [add_block]; exact (Nat.ne_of_lt (Nat.lt_of_lt_of_le (by assumption) GW360.out))) | (show (Addr.add _ _).block ≠ _; rw [add_block]; exact (Nat.ne_of_lt (Nat.lt_of_lt_of_le (by assumption) GW360.out))) | (dsimp only; exact (Nat.ne_of_lt (Nat.lt_of_lt_of_le (by assumption) GW360.out)))) _).trans (((cell_far (p := ⟨gb360, _, none⟩) (by first | exact (Nat.ne_of_lt (Nat.lt_of_lt_of_le (by assumption) GW360.out)) | (rw [add_block]; exact (Nat.ne_of_lt (Nat.lt_of_lt_of_le (by assumption) GW360.out))) | (show (Addr.add _ _).block ≠ _; rw [add_block]; exact (Nat.ne_of_lt (Nat.lt_of_lt_of_le (by assumption) GW360.out))) | (dsimp only; exact (Nat.ne_of_lt (Nat.lt_of_lt_of_le (by assumption) GW360.out)))) _).trans (((cell_far (p := ⟨gb360, _, none⟩) (by first | exact (Nat.ne_of_lt (Nat.lt_of_lt_of_le (by assumption) GW360.out)) | (rw [add_block]; exact (Nat.ne_of_lt (Nat.lt_of_lt_of_le (by assumption) GW360.out))) | (show (Addr.add _ _).block ≠ _; rw [add_block]; exact (Nat.ne_of_lt (Nat.lt_of_lt_of_le (by assumption) GW360.out))) | (dsimp only; exact (Nat.ne_of_lt (Nat.lt_of_lt_of_le (by assumption) GW360.out)))) _).trans (hHeld.2.2.1)))))), ((cell_far (p := ⟨gb360, _, none⟩) (by first | exact (Nat.ne_of_lt (Nat.lt_of_lt_of_le (by assumption) GW360.out)) | (rw [add_block]; exact (Nat.ne_of_lt (Nat.lt_of_lt_of_le (by assumption) GW360.out))) | (show (Addr.add _ _).block ≠ _; rw [add_block]; exact (Nat.ne_of_lt (Nat.lt_of_lt_of_le (by assumption) GW360.out))) | (dsimp only; exact (Nat.ne_of_lt (Nat.lt_of_lt_of_le (by assumption) GW360.out)))) _).trans (((cell_far (p := ⟨gb360, _, none⟩) (by first | exact (Nat.ne_of_lt (Nat.lt_of_lt_of_le (by assumption) GW360.out)) | (rw [add_block]; exact (Nat.ne_of_lt (Nat.lt_of_lt_of_le (by assumption) GW360.out))) | (show (Addr.add _ _).block ≠ _; rw [add_block]; exact (Nat.ne_of_lt (Nat.lt_of_lt_of_le (by assumption) GW360.out))) | (dsimp only; exact (Nat.ne_of_lt (Nat.lt_of_lt_of_le (by assumption) GW360.out)))) _).trans (((cell_far (p := ⟨gb360, _, none⟩) (by first | exact (Nat.ne_of_lt (Nat.lt_of_lt_of_le (by assumption) GW360.out)) | (rw [add_block]; exact (Nat.ne_of_lt (Nat.lt_of_lt_of_le (by assumption) GW360.out))) | (show (Addr.add _ _).block ≠ _; rw [add_block]; exact (Nat.ne_of_lt (Nat.lt_of_lt_of_le (by assumption) GW360.out))) | (dsimp only; exact (Nat.ne_of_lt (Nat.lt_of_lt_of_le (by assumption) GW360.out)))) _).trans (hHeld.2.2.2.1)))))), ((cell_far (p := ⟨gb360, _, none⟩) (by first | exact (Nat.ne_of_lt (Nat.lt_of_lt_of_le (by assumption) GW360.out)) | (rw [add_block]; exact (Nat.ne_of_lt (Nat.lt_of_lt_of_le (by assumption) GW360.out))) | (show (Addr.add _ _).block ≠ _; rw [add_block]; exact (Nat.ne_of_lt (Nat.lt_of_lt_of_le (by assumption) GW360.out))) | (dsimp only; exact (Nat.ne_of_lt (Nat.lt_of_lt_of_le (by assumption) GW360.out)))) _).trans (((cell_far (p := ⟨gb360, _, none⟩) (by first | exact (Nat.ne_of_lt (Nat.lt_of_lt_of_le (by assumption) GW360.out)) | (rw [add_block]; exact (Nat.ne_of_lt (Nat.lt_of_lt_of_le (by assumption) GW360.out))) | (show (Addr.add _ _).block ≠ _; rw [add_block]; exact (Nat.ne_of_lt (Nat.lt_of_lt_of_le (by assumption) GW360.out))) | (dsimp only; exact (Nat.ne_of_lt (Nat.lt_of_lt_of_le (by assumption) GW360.out)))) _).trans (((cell_far (p := ⟨gb360, _, none⟩) (by first | exact (Nat.ne_of_lt (Nat.lt_of_lt_of_le (by assumption) GW360.out)) | (rw [add_block]; exact (Nat.ne_of_lt (Nat.lt_of_lt_of_le (by assumption) GW360.out))) | (show (Addr.add _ _).block ≠ _; rw [add_block]; exact (Nat.ne_of_lt (Nat.lt_of_lt_of_le (by assumption) GW360.out))) | (dsimp only; exact (Nat.ne_of_lt (Nat.lt_of_lt_of_le (by assumption) GW360.out)))) _).trans (hHeld.2.2.2.2.1)))))), ((cell_far (p := ⟨gb360, _, none⟩) (by first | exact (Nat.ne_of_lt (Nat.lt_of_lt_of_le (by assumption) GW360.out)) | (rw [add_block]; exact (Nat.ne_of_lt (Nat.lt_of_lt_of_le (by assumption) GW360.out))) | (show (Addr.add _ _).block ≠ _; rw [add_block]; exact (Nat.ne_of_lt (Nat.lt_of_lt_of_le (by assumption) GW360.out))) | (dsimp only; exact (Nat.ne_of_lt (Nat.lt_of_lt_of_le (by assumption) GW360.out)))) _).trans (((cell_far (p := ⟨gb360, _, none⟩) (by first | exact (Nat.ne_of_lt (Nat.lt_of_lt_of_le (by assumption) GW360.out)) | (rw [add_block]; exact (Nat.ne_of_lt (Nat.lt_of_lt_of_le (by assumption) GW360.out))) | (show (Addr.add _ _).block ≠ _; rw [add_block]; exact (Nat.ne_of_lt (Nat.lt_of_lt_of_le (by assumption) GW360.out))) | (dsimp only; exact (Nat.ne_of_lt (Nat.lt_of_lt_of_le (by assumption) GW360.out)))) _).trans (((cell_far (p := ⟨gb360, _, none⟩) (by first | exact (Nat.ne_of_lt (Nat.lt_of_lt_of_le (by assumption) GW360.out)) | (rw [add_block]; exact (Nat.ne_of_lt (Nat.lt_of_lt_of_le (by assumption) GW360.out))) | (show (Addr.add _ _).block ≠ _; rw [add_block]; exact (Nat.ne_of_lt (Nat.lt_of_lt_of_le (by assumption) GW360.out))) | (dsimp only; exact (Nat.ne_of_lt (Nat.lt_of_lt_of_le (by assumption) GW360.out)))) _).trans (hHeld.2.2.2.2.2))))))⟩ (fun hHeld => ?_)
          clear hK K
          refine done_ (done_of HT_.out (by kernel_rfl)) ?_
          (try (have c8b0z : ((rd_T49 l0 (ji5)).f0) = true := by simpa using c8b0))
          (try (have c8b0z : ((rd_T49 l0 (ji5)).f0) = false := by simpa using c8b0))
          try go_wp2
          have n0_ : Aside0 (Kd.V k49 49 (((w20.setCell ⟨gb360, 0, none⟩ (.int .i64 a1)).setCell ⟨gb360, 1, none⟩ (.int .i64 (wrap64 (((rd_T49 l0 (ji5)).f1) + 1)))).setCell ⟨gb360, 2, none⟩ (.slice Ao21 y357.length co21)) w.heap.size (fun k_ => ((P0_ k_ ∨ P2_ k_) ∨ w.heap.size ≤ k_) ∧ some k_ ≠ (.slice Ao21 y357.length co21 : Value).ownBlock ∧ k_ ≠ gb360) (.slice (some ad351) l0.length c0) l0) := ⟨by (with_reducible repeat (first | apply Kd.V_alloc | apply Kd.V_drewN | apply Kd.V_drew)); exact Kd.V_mono (Kd.V_far (p := ⟨gb360, 2, none⟩) (Kd.V_far (p := ⟨gb360, 1, none⟩) (Kd.V_far (p := ⟨gb360, 0, none⟩) (Kd.V_mono HO0.out (fun k_ hk => (⟨hk, hk.2.2⟩ : _ ∧ k_ ≠ gb360))) (fun _ hk => hk.2) (.int .i64 a1)) (fun _ hk => hk.2) (.int .i64 (wrap64 (((rd_T49 l0 (ji5)).f1) + 1)))) (fun _ hk => hk.2) (.slice Ao21 y357.length co21)) (fun _ hk => ⟨hk.1.1, ⟨hk.1.2.1, hk.1.2.2⟩⟩)⟩
          have n1_ : Aside0 (Kd.V Kd.string 9 (((w20.setCell ⟨gb360, 0, none⟩ (.int .i64 a1)).setCell ⟨gb360, 1, none⟩ (.int .i64 (wrap64 (((rd_T49 l0 (ji5)).f1) + 1)))).setCell ⟨gb360, 2, none⟩ (.slice Ao21 y357.length co21)) w.heap.size (fun k_ => ((P0_ k_ ∨ P2_ k_) ∨ w.heap.size ≤ k_) ∧ some k_ ≠ (.slice Ao21 y357.length co21 : Value).ownBlock ∧ k_ ≠ gb360) (.slice A2 l2.length c2) l2) := ⟨by (with_reducible repeat (first | apply Kd.V_alloc | apply Kd.V_drewN | apply Kd.V_drew)); exact Kd.V_mono (Kd.V_far (p := ⟨gb360, 2, none⟩) (Kd.V_far (p := ⟨gb360, 1, none⟩) (Kd.V_far (p := ⟨gb360, 0, none⟩) (Kd.V_mono HO2.out (fun k_ hk => (⟨hk, hk.2.2⟩ : _ ∧ k_ ≠ gb360))) (fun _ hk => hk.2) (.int .i64 a1)) (fun _ hk => hk.2) (.int .i64 (wrap64 (((rd_T49 l0 (ji5)).f1) + 1)))) (fun _ hk => hk.2) (.slice Ao21 y357.length co21)) (fun _ hk => ⟨hk.1.1, ⟨hk.1.2.1, hk.1.2.2⟩⟩)⟩
          have n2_ : Aside0 (Kd.V Kd.string 9 (((w20.setCell ⟨gb360, 0, none⟩ (.int .i64 a1)).setCell ⟨gb360, 1, none⟩ (.int .i64 (wrap64 (((rd_T49 l0 (ji5)).f1) + 1)))).setCell ⟨gb360, 2, none⟩ (.slice Ao21 y357.length co21)) w.heap.size (fun k_ => ((P0_ k_ ∨ P2_ k_) ∨ w.heap.size ≤ k_) ∧ some k_ ≠ (.slice Ao21 y357.length co21 : Value).ownBlock ∧ k_ ≠ gb360) (.slice A351_2 ((rd_T49 l0 (ji5)).f2).length c351_2) ((rd_T49 l0 (ji5)).f2)) := ⟨by (with_reducible repeat (first | apply Kd.V_alloc | apply Kd.V_drewN | apply Kd.V_drew)); exact Kd.V_mono (Kd.V_far (p := ⟨gb360, 2, none⟩) (Kd.V_far (p := ⟨gb360, 1, none⟩) (Kd.V_far (p := ⟨gb360, 0, none⟩) (Kd.V_mono HL351_2.out (fun k_ hk => (⟨hk, hk.2.2⟩ : _ ∧ k_ ≠ gb360))) (fun _ hk => hk.2) (.int .i64 a1)) (fun _ hk => hk.2) (.int .i64 (wrap64 (((rd_T49 l0 (ji5)).f1) + 1)))) (fun _ hk => hk.2) (.slice Ao21 y357.length co21)) (fun _ hk => ⟨hk.1.1, ⟨hk.1.2.1, hk.1.2.2⟩⟩)⟩
          have n3_ : Aside0 (Kd.V Kd.string 9 (((w20.setCell ⟨gb360, 0, none⟩ (.int .i64 a1)).setCell ⟨gb360, 1, none⟩ (.int .i64 (wrap64 (((rd_T49 l0 (ji5)).f1) + 1)))).setCell ⟨gb360, 2, none⟩ (.slice Ao21 y357.length co21)) w.heap.size (fun k_ => ((P0_ k_ ∨ P2_ k_) ∨ w.heap.size ≤ k_) ∧ some k_ ≠ (.slice Ao21 y357.length co21 : Value).ownBlock ∧ k_ ≠ gb360) (.slice A352_2 ((rd_T49 l0 (ji5)).f2).length c352_2) ((rd_T49 l0 (ji5)).f2)) := ⟨by (with_reducible repeat (first | apply Kd.V_alloc | apply Kd.V_drewN | apply Kd.V_drew)); exact Kd.V_mono (Kd.V_far (p := ⟨gb360, 2, none⟩) (Kd.V_far (p := ⟨gb360, 1, none⟩) (Kd.V_far (p := ⟨gb360, 0, none⟩) (Kd.V_mono HL352_2.out (fun k_ hk => (⟨hk, hk.2.2⟩ : _ ∧ k_ ≠ gb360))) (fun _ hk => hk.2) (.int .i64 a1)) (fun _ hk => hk.2) (.int .i64 (wrap64 (((rd_T49 l0 (ji5)).f1) + 1)))) (fun _ hk => hk.2) (.slice Ao21 y357.length co21)) (fun _ hk => ⟨hk.1.1, ⟨hk.1.2.1, hk.1.2.2⟩⟩)⟩
          have n4_ : Aside0 (Kd.V Kd.string 9 (((w20.setCell ⟨gb360, 0, none⟩ (.int .i64 a1)).setCell ⟨gb360, 1, none⟩ (.int .i64 (wrap64 (((rd_T49 l0 (ji5)).f1) + 1)))).setCell ⟨gb360, 2, none⟩ (.slice Ao21 y357.length co21)) w.heap.size (fun k_ => ((P0_ k_ ∨ P2_ k_) ∨ w.heap.size ≤ k_) ∧ some k_ ≠ (.slice Ao21 y357.length co21 : Value).ownBlock ∧ k_ ≠ gb360) (.slice A352_2 ((rd_T49 l0 (ji5)).f2).length c352_2) ((rd_T49 l0 (ji5)).f2)) := ⟨by (with_reducible repeat (first | apply Kd.V_alloc | apply Kd.V_drewN | apply Kd.V_drew)); exact Kd.V_mono (Kd.V_far (p := ⟨gb360, 2, none⟩) (Kd.V_far (p := ⟨gb360, 1, none⟩) (Kd.V_far (p := ⟨gb360, 0, none⟩) (Kd.V_mono HL353_2.out (fun k_ hk => (⟨hk, hk.2.2⟩ : _ ∧ k_ ≠ gb360))) (fun _ hk => hk.2) (.int .i64 a1)) (fun _ hk => hk.2) (.int .i64 (wrap64 (((rd_T49 l0 (ji5)).f1) + 1)))) (fun _ hk => hk.2) (.slice Ao21 y357.length co21)) (fun _ hk => ⟨hk.1.1, ⟨hk.1.2.1, hk.1.2.2⟩⟩)⟩
          have n5_ : Aside0 (Kd.R Kd.string 9 (((w20.setCell ⟨gb360, 0, none⟩ (.int .i64 a1)).setCell ⟨gb360, 1, none⟩ (.int .i64 (wrap64 (((rd_T49 l0 (ji5)).f1) + 1)))).setCell ⟨gb360, 2, none⟩ (.slice Ao21 y357.length co21)) w.heap.size (fun k_ => (w.heap.size ≤ k_)) (.slice Ao21 y357.length co21) y357) := ⟨by (with_reducible repeat (first | apply Kd.R_alloc | apply Kd.R_drewN | apply Kd.R_drew)); exact Kd.R_mono (Kd.R_far (p := ⟨gb360, 2, none⟩) (Kd.R_far (p := ⟨gb360, 1, none⟩) (Kd.R_far (p := ⟨gb360, 0, none⟩) (Kd.R_types HO359.out BK360.out (by decide)) (fun _ hk => hk.2) (.int .i64 a1)) (fun _ hk => hk.2) (.int .i64 (wrap64 (((rd_T49 l0 (ji5)).f1) + 1)))) (fun _ hk => hk.2) (.slice Ao21 y357.length co21)) (fun _ hk => hk.1)⟩
          have n6_ : Aside0 ((((w20.setCell ⟨gb360, 0, none⟩ (.int .i64 a1)).setCell ⟨gb360, 1, none⟩ (.int .i64 (wrap64 (((rd_T49 l0 (ji5)).f1) + 1)))).setCell ⟨gb360, 2, none⟩ (.slice Ao21 y357.length co21)).heap[gb360]? = some (.cells #[.int .i64 a1, .int .i64 (wrap64 (((rd_T49 l0 (ji5)).f1) + 1)), .slice Ao21 y357.length co21] 49 (0, 0))) := ⟨by (with_reducible repeat (first | refine blk_drewN ?_ _ | refine blk_drew ?_ | refine blk_alloc ?_ _)); refine blk_put (cs := #[.int .i64 a1, .int .i64 (wrap64 (((rd_T49 l0 (ji5)).f1) + 1)), .slice none 0 0]) ?_ 2 _ rfl; (with_reducible repeat (first | refine blk_drewN ?_ _ | refine blk_drew ?_ | refine blk_alloc ?_ _)); refine blk_put (cs := #[.int .i64 a1, .int .i64 0, .slice none 0 0]) ?_ 1 _ rfl; (with_reducible repeat (first | refine blk_drewN ?_ _ | refine blk_drew ?_ | refine blk_alloc ?_ _)); refine blk_put (cs := #[.int .i64 0, .int .i64 0, .slice none 0 0]) ?_ 0 _ rfl; (with_reducible repeat (first | refine blk_drewN ?_ _ | refine blk_drew ?_ | refine blk_alloc ?_ _)); exact BK360.out⟩
          have n7_ : Aside0 (Below w.heap.size w (((w20.setCell ⟨gb360, 0, none⟩ (.int .i64 a1)).setCell ⟨gb360, 1, none⟩ (.int .i64 (wrap64 (((rd_T49 l0 (ji5)).f1) + 1)))).setCell ⟨gb360, 2, none⟩ (.slice Ao21 y357.length co21))) := ⟨by repeat (first | (with_reducible first | exact HB.out | apply below_alloc | apply pw_below_drewN | apply below_drew1 | refine below_set ?_ GE360.out) | exact HB.out)⟩
          (try clear HO0)
          (try clear HO2)
          (try clear HL351_2)
          (try clear HL352_2)
          (try clear HL353_2)
          (try clear HO359)
          (try clear BK360)
          (try clear HB)
          generalize (((w20.setCell ⟨gb360, 0, none⟩ (.int .i64 a1)).setCell ⟨gb360, 1, none⟩ (.int .i64 (wrap64 (((rd_T49 l0 (ji5)).f1) + 1)))).setCell ⟨gb360, 2, none⟩ (.slice Ao21 y357.length co21)) = w25 at n0_ n1_ n2_ n3_ n4_ n5_ n6_ n7_ ⊢
          have HO0 := n0_
          have HO2 := n1_
          have HL351_2 := n2_
          have HL352_2 := n3_
          have HL353_2 := n4_
          have HO359 := n5_
          have BK360 := n6_
          have HB := n7_
          clear n0_ n1_ n2_ n3_ n4_ n5_ n6_ n7_
          have n0_ := Aside0.mk (Kd.V_drew HO0.out)
          have n1_ := Aside0.mk (Kd.V_drew HO2.out)
          have n2_ := Aside0.mk (Kd.V_drew HL351_2.out)
          have n3_ := Aside0.mk (Kd.V_drew HL352_2.out)
          have n4_ := Aside0.mk (Kd.V_drew HL353_2.out)
          have n5_ := Aside0.mk (Kd.R_drew HO359.out)
          have n6_ := Aside0.mk (blk_drew BK360.out)
          have n7_ := Aside0.mk (below_drew1 HB.out)
          clear HO0
          clear HO2
          clear HL351_2
          clear HL352_2
          clear HL353_2
          clear HO359
          clear BK360
          clear HB
          have HO0 := n0_
          have HO2 := n1_
          have HL351_2 := n2_
          have HL352_2 := n3_
          have HL353_2 := n4_
          have HO359 := n5_
          have BK360 := n6_
          have HB := n7_
          clear n0_ n1_ n2_ n3_ n4_ n5_ n6_ n7_
          have q27 : ((ji5) : Int) ≤ ((l0.length : Int) : Int) := of_decide_eq_true (by first | (with_reducible assumption) | assumption)
          obtain ⟨i027, hi027, _, hsz27, _⟩ := info_parts info49
          have hroom27 : l0.length ≤ c0 := (Kd.V_reads' HO0.out).2.1
          have hC27 : Kd.F k49 _ _ (some ad351) l0.length l0 := (Kd.V_at (base := w.heap.size) HO0.out).2.2
          have hcut27 := cut_to (P := Try.prog) 40 49 .i64 Try.underlying40 hi027 (some ad351) l0.length c0 (ji5) (of_decide_eq_true (by first | (with_reducible assumption) | assumption)) q27 hroom27
          have hr27 := Kd.F_take (m := ((ji5) : Int).toNat) hC27 (by omega)
          have hy27 : y361.length = ((ji5) : Int).toNat := (by rw [Ny361.out, List.length_take]; omega)
          rw [← Ny361.out] at hr27
          rw [← hy27] at hcut27
          have HO365 := Aside0.mk (show Kd.V k49 49 _ w.heap.size _ (.slice (some ad351) y361.length c0) y361 from Kd.V_mk (by omega) hr27)
          have HC365 := Aside0.mk (show y361.length ≤ c0 from by omega)
          clear hr27 hC27 hroom27 hi027 hsz27
          have KY27 := Aside0.mk hy27
          clear hy27
          replace q27 := eq_true q27
          refine start_ (n := 9) (S := fun w' => w'.cell? ⟨gb360, 0, none⟩ = some (.int .i64 a1) ∧ w'.cell? ⟨gb360, 1, none⟩ = some (.int .i64 (wrap64 (((rd_T49 l0 (ji5)).f1) + 1))) ∧ w'.cell? ⟨gb360, 2, none⟩ = some (.slice Ao21 y357.length co21)) (ds := []) #[false, false, false, false, false, false, false, false, false] (by kernel_rfl) rfl rfl ⟨(blk_cell BK360.out 0).trans rfl, (blk_cell BK360.out 1).trans rfl, (blk_cell BK360.out 2).trans rfl⟩ (fun hHeld => ?_); refine with_tabW collatorref05_with.tab4 collatorref05_with.bits4 (fun HT_ HW_ => ?_)
          generalize w25.drew = w26 at HO0 HO2 HL351_2 HL352_2 HL353_2 HO359 BK360 HB HO365 hHeld ⊢
          refine pure_ (i := 0) (N := some 41) (v := ?_) (a' := ?_) #[true, false, false, false, false, false, false, false, false] rfl rfl (any_of HT_.out (by kernel_rfl)) (fun _ _ _ h => h) (Or.inl ⟨by rfl, ?_⟩) ?_ ?_
          rotate_left
          ·intro w'
           go_simp
           with_reducible rfl
          rotate_left
          ·simp only [Act.put, List.setIfInBounds_toArray, List.set_cons_zero, List.set_cons_succ, i64_w, i32_w]
           rfl
          refine pure_ (i := 1) (N := some 42) (v := ?_) (a' := ?_) #[true, true, false, false, false, false, false, false, false] rfl rfl (any_of HT_.out (by kernel_rfl)) (fun _ _ _ h => h) (Or.inl ⟨by rfl, ?_⟩) ?_ ?_
          rotate_left
          ·intro w'
           go_simp
           with_reducible rfl
          rotate_left
          ·simp only [Act.put, List.setIfInBounds_toArray, List.set_cons_zero, List.set_cons_succ, i64_w, i32_w]
           rfl
          refine pure_ (i := 2) (N := some 43) (v := ?_) (a' := ?_) #[true, true, true, false, false, false, false, false, false] rfl rfl (any_of HT_.out (by kernel_rfl)) (fun _ _ _ h => h) (Or.inl ⟨by rfl, ?_⟩) ?_ ?_
          rotate_left
          ·intro w'
           go_simp
           with_reducible rfl
          rotate_left
          ·simp only [Act.put, List.setIfInBounds_toArray, List.set_cons_zero, List.set_cons_succ, i64_w, i32_w]
           rfl
          refine pure_ (i := 3) (N := some 44) (v := ?_) (a' := ?_) #[true, true, true, true, false, false, false, false, false] rfl rfl (any_of HT_.out (by kernel_rfl)) (fun _ _ _ h => h) (Or.inl ⟨by rfl, ?_⟩) ?_ ?_
          rotate_left
          ·intro w'
           go_simp
           with_reducible rfl
          rotate_left
          ·simp only [Act.put, List.setIfInBounds_toArray, List.set_cons_zero, List.set_cons_succ, i64_w, i32_w]
           rfl
          refine take_ (i := 5) (N := some 46) (v := ?_) (a' := ?_) #[true, true, true, true, false, true, false, false, false] rfl rfl (take_ofW HT_.out HW_.out (by kernel_rfl)) (fun _ _ _ h => h) (Or.inl ⟨by rfl, ?_⟩) hHeld ?_ ?_
          rotate_left
          ·rintro w' ⟨s0, s1, s2⟩
           go_simp
           with_reducible rfl
          rotate_left
          ·simp only [Act.put, List.setIfInBounds_toArray, List.set_cons_zero, List.set_cons_succ, i64_w, i32_w]
           rfl
          refine join_ (σ := Value × Value) 2 #[true, true, true, true, true, true, true, false, false] (fun s_ => [(45, s_.1), (47, s_.2)]) (fun s_ w' => (w'.cell? ⟨gb360, 0, none⟩ = some (.int .i64 a1) ∧ w'.cell? ⟨gb360, 1, none⟩ = some (.int .i64 (wrap64 (((rd_T49 l0 (ji5)).f1) + 1))) ∧ w'.cell? ⟨gb360, 2, none⟩ = some (.slice Ao21 y357.length co21)) ∧ (Kd.V Kd.string 9 w' w.heap.size (fun k_ => ((P0_ k_ ∨ P2_ k_) ∨ w.heap.size ≤ k_) ∧ some k_ ≠ (.slice Ao21 y357.length co21 : Value).ownBlock ∧ some k_ ≠ (s_.1 : Value).ownBlock ∧ some k_ ≠ (s_.2 : Value).ownBlock ∧ k_ ≠ gb360) (.slice A351_2 ((rd_T49 l0 (ji5)).f2).length c351_2) ((rd_T49 l0 (ji5)).f2)) ∧ (Kd.V Kd.string 9 w' w.heap.size (fun k_ => ((P0_ k_ ∨ P2_ k_) ∨ w.heap.size ≤ k_) ∧ some k_ ≠ (.slice Ao21 y357.length co21 : Value).ownBlock ∧ some k_ ≠ (s_.1 : Value).ownBlock ∧ some k_ ≠ (s_.2 : Value).ownBlock ∧ k_ ≠ gb360) (.slice A352_2 ((rd_T49 l0 (ji5)).f2).length c352_2) ((rd_T49 l0 (ji5)).f2)) ∧ (Kd.V Kd.string 9 w' w.heap.size (fun k_ => ((P0_ k_ ∨ P2_ k_) ∨ w.heap.size ≤ k_) ∧ some k_ ≠ (.slice Ao21 y357.length co21 : Value).ownBlock ∧ some k_ ≠ (s_.1 : Value).ownBlock ∧ some k_ ≠ (s_.2 : Value).ownBlock ∧ k_ ≠ gb360) (.slice A352_2 ((rd_T49 l0 (ji5)).f2).length c352_2) ((rd_T49 l0 (ji5)).f2)) ∧ (Kd.V k49 49 w' w.heap.size (fun k_ => ((P0_ k_ ∨ P2_ k_) ∨ w.heap.size ≤ k_) ∧ some k_ ≠ (.slice Ao21 y357.length co21 : Value).ownBlock ∧ some k_ ≠ (s_.1 : Value).ownBlock ∧ some k_ ≠ (s_.2 : Value).ownBlock ∧ k_ ≠ gb360) (.slice (some ad351) l0.length c0) l0) ∧ (Kd.V Kd.string 9 w' w.heap.size (fun k_ => ((P0_ k_ ∨ P2_ k_) ∨ w.heap.size ≤ k_) ∧ some k_ ≠ (.slice Ao21 y357.length co21 : Value).ownBlock ∧ some k_ ≠ (s_.1 : Value).ownBlock ∧ some k_ ≠ (s_.2 : Value).ownBlock ∧ k_ ≠ gb360) (.slice A2 l2.length c2) l2) ∧ (Kd.R Kd.string 9 w' w.heap.size (fun k_ => (w.heap.size ≤ k_)) (.slice Ao21 y357.length co21) y357) ∧ (Kd.V k49 49 w' w.heap.size (fun k_ => ((P0_ k_ ∨ P2_ k_) ∨ w.heap.size ≤ k_) ∧ some k_ ≠ (.slice Ao21 y357.length co21 : Value).ownBlock ∧ some k_ ≠ (s_.1 : Value).ownBlock ∧ some k_ ≠ (s_.2 : Value).ownBlock ∧ k_ ≠ gb360) (.slice (some ad351) y361.length c0) y361) ∧ (Kd.N k49 49 w' w.heap.size (fun k_ => ((P0_ k_ ∨ P2_ k_) ∨ w.heap.size ≤ k_) ∧ some k_ ≠ (.slice Ao21 y357.length co21 : Value).ownBlock ∧ some k_ ≠ (s_.2 : Value).ownBlock ∧ k_ ≠ gb360) s_.1 y366) ∧ (Kd.N k49 49 w' w.heap.size (fun k_ => ((P0_ k_ ∨ P2_ k_) ∨ w.heap.size ≤ k_) ∧ some k_ ≠ (s_.1 : Value).ownBlock ∧ k_ ≠ gb360) s_.2 y369) ∧ (w'.heap[gb360]? = some (.cells #[.int .i64 a1, .int .i64 (wrap64 (((rd_T49 l0 (ji5)).f1) + 1)), .slice Ao21 y357.length co21] 49 (0, 0))) ∧ (Below w.heap.size w w')) ?_ ?_
          rotate_left
          ·intro hCont
           refine two_ (i := 4) (j := 6) (Ni := some 45) (Nj := some 47) #[true, true, true, true, true, true, false, false, false] #[true, true, true, true, false, true, true, false, false] rfl rfl rfl rfl (two_of HT_.out (by kernel_rfl)) (by decide) (by decide) (fun K hK => ?_) (fun K hK => ?_)
           ·skip
            refine Kd.N_append_rows_step k49 (w0 := w) w.heap.size (by rfl) (.const (.slice none 0 0)) (.tmp 44) 40 49 (.agg #[(.int .i64 0), (.int .i64 0), (.slice none 0 0)]) 40 rfl Try.underlying40 info49 rfl (by decide) (by omega) (.slice none 0 0) ([] : List (S49)) y361 _ _ _ (fun k_ => ((P0_ k_ ∨ P2_ k_) ∨ w.heap.size ≤ k_) ∧ some k_ ≠ (.slice Ao21 y357.length co21 : Value).ownBlock ∧ k_ ≠ gb360) (fun k_ => ((fun k_ => ((P0_ k_ ∨ P2_ k_) ∨ w.heap.size ≤ k_) ∧ some k_ ≠ (.slice Ao21 y357.length co21 : Value).ownBlock ∧ k_ ≠ gb360)) k_ ∧ some k_ ≠ (.slice none 0 0 : Value).ownBlock) rfl rfl ?aO ?aR (fun _ hk => hk) ?aF ?aB ?aS ?aL ?_
            (case aR => exact (by skip; exact Kd.V_F (Kd.V_mono (ok' := (fun k_ => ((fun k_ => ((P0_ k_ ∨ P2_ k_) ∨ w.heap.size ≤ k_) ∧ some k_ ≠ (.slice Ao21 y357.length co21 : Value).ownBlock ∧ k_ ≠ gb360)) k_ ∧ some k_ ≠ (.slice none 0 0 : Value).ownBlock)) (HO365.out) (fun k_ hk => ⟨⟨hk.1, ⟨hk.2.1, hk.2.2⟩⟩, (by simp [Value.ownBlock])⟩))))
            (case aB => exact (by repeat (first | (with_reducible first | exact HB.out | apply below_alloc | apply pw_below_drewN | apply below_drew1 | refine below_set ?_ GE360.out) | exact HB.out)))
            (case aF => exact (fun k_ hk => ⟨(.inr (Nat.le_trans (below_size (by repeat (first | (with_reducible first | exact HB.out | apply below_alloc | apply pw_below_drewN | apply below_drew1 | refine below_set ?_ GE360.out) | exact HB.out))) hk)), Kd.fresh' (Kd.R_lt (by (with_reducible repeat (first | apply Kd.R_alloc | apply Kd.R_drewN | apply Kd.R_drew)); exact HO359.out)) k_ hk, Kd.freshB (g := gb360) (o := .cells #[.int .i64 a1, .int .i64 (wrap64 (((rd_T49 l0 (ji5)).f1) + 1)), .slice Ao21 y357.length co21] 49 (0, 0)) (by (with_reducible repeat (first | refine blk_drewN ?_ _ | refine blk_drew ?_ | refine blk_alloc ?_ _)); exact BK360.out) k_ hk⟩))
            (case aO => exact ((Kd.N_nil _ _ _ _ (fun k_ => ((P0_ k_ ∨ P2_ k_) ∨ w.heap.size ≤ k_) ∧ some k_ ≠ (.slice Ao21 y357.length co21 : Value).ownBlock ∧ k_ ≠ gb360))))
            (case aS => exact (below_size (by repeat (first | (with_reducible first | exact HB.out | apply below_alloc | apply pw_below_drewN | apply below_drew1 | refine below_set ?_ GE360.out) | exact HB.out))))
            (case aL => have := LMc13.out; omega)
            intro v367 w28 ho hb hg hat
            rw [← Ny366.out] at ho
            have n0_ := Aside0.mk (Kd.V_afterv (Kd.V_apart_nil (by (with_reducible repeat (first | apply Kd.V_alloc | apply Kd.V_drewN | apply Kd.V_drew)); exact HO0.out)) hg hat)
            have n1_ := Aside0.mk (Kd.V_afterv (Kd.V_apart_nil (by (with_reducible repeat (first | apply Kd.V_alloc | apply Kd.V_drewN | apply Kd.V_drew)); exact HO2.out)) hg hat)
            have n2_ := Aside0.mk (Kd.V_afterv (Kd.V_apart_nil (by (with_reducible repeat (first | apply Kd.V_alloc | apply Kd.V_drewN | apply Kd.V_drew)); exact HL351_2.out)) hg hat)
            have n3_ := Aside0.mk (Kd.V_afterv (Kd.V_apart_nil (by (with_reducible repeat (first | apply Kd.V_alloc | apply Kd.V_drewN | apply Kd.V_drew)); exact HL352_2.out)) hg hat)
            have n4_ := Aside0.mk (Kd.V_afterv (Kd.V_apart_nil (by (with_reducible repeat (first | apply Kd.V_alloc | apply Kd.V_drewN | apply Kd.V_drew)); exact HL353_2.out)) hg hat)
            have n5_ := Aside0.mk (Kd.R_grown (by (with_reducible repeat (first | apply Kd.R_alloc | apply Kd.R_drewN | apply Kd.R_drew)); exact HO359.out) hg (fun _ _ => by simp [Value.ownBlock]))
            have n6_ := Aside0.mk (blk_grown (g := gb360) (o := .cells #[.int .i64 a1, .int .i64 (wrap64 (((rd_T49 l0 (ji5)).f1) + 1)), .slice Ao21 y357.length co21] 49 (0, 0)) (by (with_reducible repeat (first | refine blk_drewN ?_ _ | refine blk_drew ?_ | refine blk_alloc ?_ _)); exact BK360.out) hg (by simp [Value.ownBlock]))
            have n7_ := Aside0.mk (Kd.V_afterv (Kd.V_apart_nil (by (with_reducible repeat (first | apply Kd.V_alloc | apply Kd.V_drewN | apply Kd.V_drew)); exact HO365.out)) hg hat)
            have n8_ := Aside0.mk (hb)
            have n9_ := Aside0.mk (ho)
            clear HO0
            clear HO2
            clear HL351_2
            clear HL352_2
            clear HL353_2
            clear HO359
            clear BK360
            clear HO365
            clear HB
            have HO0 := n0_
            have HO2 := n1_
            have HL351_2 := n2_
            have HL352_2 := n3_
            have HL353_2 := n4_
            have HO359 := n5_
            have BK360 := n6_
            have HO365 := n7_
            have HB := n8_
            have HO368 := n9_
            clear n0_ n1_ n2_ n3_ n4_ n5_ n6_ n7_ n8_ n9_
            clear ho hb hg hat
            refine hK.out _ _ ⟨(blk_cell BK360.out 0).trans rfl, (blk_cell BK360.out 1).trans rfl, (blk_cell BK360.out 2).trans rfl⟩ (fun hHeld => ?_)
            clear hK K
            refine norm_ (a' := ?_) ?_ ?_
            rotate_left
            ·show Act.put _ (some 45) _ = _
             simp only [Act.put, List.setIfInBounds_toArray, List.set_cons_zero, List.set_cons_succ, i64_w, i32_w]
             rfl
            refine one_ (i := 6) (N := some 47) #[true, true, true, true, true, true, true, false, false] rfl rfl (one_of HT_.out (by kernel_rfl)) (by decide) (fun K hK => ?_)
            refine Kd.N_lit_step k49 _ 49 ?hg (N' := 47) ?hd (xs := ([(⟨a1, wrap64 (((rd_T49 l0 (ji5)).f1) + 1), y357⟩ : S49)] : List (S49))) (inner := [.int .i64 a1, .int .i64 (wrap64 (((rd_T49 l0 (ji5)).f1) + 1)), .slice Ao21 y357.length co21]) (ok := (fun k_ => ((P0_ k_ ∨ P2_ k_) ∨ w.heap.size ≤ k_) ∧ some k_ ≠ (v367 : Value).ownBlock ∧ k_ ≠ gb360)) (okp := (fun k_ => ((P0_ k_ ∨ P2_ k_) ∨ w.heap.size ≤ k_) ∧ some k_ ≠ (v367 : Value).ownBlock ∧ k_ ≠ gb360)) ?hr ?hp (fun _ hk => hk) ((show ∀ k_, w28.heap.size ≤ k_ → (fun k_ => ((P0_ k_ ∨ P2_ k_) ∨ w.heap.size ≤ k_) ∧ some k_ ≠ (v367 : Value).ownBlock ∧ k_ ≠ gb360) k_ from fun k_ hk => ⟨(.inr (Nat.le_trans (below_size (by repeat (first | (with_reducible first | exact HB.out | apply below_alloc | apply pw_below_drewN | apply below_drew1 | refine below_set ?_ GE360.out) | exact HB.out))) hk)), Kd.fresh' (Kd.N_lt (by (with_reducible repeat (first | apply Kd.N_alloc | apply Kd.N_drewN | apply Kd.N_drew)); exact HO368.out)) k_ hk, Kd.freshB (g := gb360) (o := .cells #[.int .i64 a1, .int .i64 (wrap64 (((rd_T49 l0 (ji5)).f1) + 1)), .slice Ao21 y357.length co21] 49 (0, 0)) (by (with_reducible repeat (first | refine blk_drewN ?_ _ | refine blk_drew ?_ | refine blk_alloc ?_ _)); exact BK360.out) k_ hk⟩) _ (Nat.le_refl _)) (Below.refl _ _) (Nat.le_refl _) (by simp) ?_; (case hd => rfl); (case hg => rfl); (case hr => first | (go_simp; done) | (go_simp; rfl)); (case hp => exact (Reps.c3 (show Kd.FK k49 _ _ (⟨a1, wrap64 (((rd_T49 l0 (ji5)).f1) + 1), y357⟩ : S49) [.int .i64 a1, .int .i64 (wrap64 (((rd_T49 l0 (ji5)).f1) + 1)), .slice Ao21 y357.length co21] from (k49_mkF _ _ (⟨a1, wrap64 (((rd_T49 l0 (ji5)).f1) + 1), y357⟩ : S49) (Kd.R_reads' (Kd.R_mono (ok' := (fun k_ => ((P0_ k_ ∨ P2_ k_) ∨ w.heap.size ≤ k_) ∧ some k_ ≠ (v367 : Value).ownBlock ∧ k_ ≠ gb360)) (Kd.R_types (Kd.R_apart' (HO359.out) (Kd.N_typed HO368.out) (by decide)) BK360.out (by decide)) (fun k_ hk => ⟨(.inr (hk.1.1)), ⟨hk.1.2, hk.2⟩⟩))).2.1 (Kd.R_F (Kd.R_mono (ok' := (fun k_ => ((P0_ k_ ∨ P2_ k_) ∨ w.heap.size ≤ k_) ∧ some k_ ≠ (v367 : Value).ownBlock ∧ k_ ≠ gb360)) (Kd.R_types (Kd.R_apart' (HO359.out) (Kd.N_typed HO368.out) (by decide)) BK360.out (by decide)) (fun k_ hk => ⟨(.inr (hk.1.1)), ⟨hk.1.2, hk.2⟩⟩))))) (Reps.none _ _)))
            intro v370 w29 ho30 hb hg_ hnew_
            clear hg_ hnew_
            (first | rw [← Ny369.out] at ho30 | (simp only [Int.reduceToNat] at ho30; rw [← Ny369.out] at ho30))
            have n0_ := Aside0.mk (Kd.V_elder' (by (with_reducible repeat (first | apply Kd.V_alloc | apply Kd.V_drewN | apply Kd.V_drew)); exact HO0.out) (by first | exact Kd.N_base ho30 | exact Kd.S_base ho30) hb)
            have n1_ := Aside0.mk (Kd.V_elder' (by (with_reducible repeat (first | apply Kd.V_alloc | apply Kd.V_drewN | apply Kd.V_drew)); exact HO2.out) (by first | exact Kd.N_base ho30 | exact Kd.S_base ho30) hb)
            have n2_ := Aside0.mk (Kd.V_elder' (by (with_reducible repeat (first | apply Kd.V_alloc | apply Kd.V_drewN | apply Kd.V_drew)); exact HL351_2.out) (by first | exact Kd.N_base ho30 | exact Kd.S_base ho30) hb)
            have n3_ := Aside0.mk (Kd.V_elder' (by (with_reducible repeat (first | apply Kd.V_alloc | apply Kd.V_drewN | apply Kd.V_drew)); exact HL352_2.out) (by first | exact Kd.N_base ho30 | exact Kd.S_base ho30) hb)
            have n4_ := Aside0.mk (Kd.V_elder' (by (with_reducible repeat (first | apply Kd.V_alloc | apply Kd.V_drewN | apply Kd.V_drew)); exact HL353_2.out) (by first | exact Kd.N_base ho30 | exact Kd.S_base ho30) hb)
            have n5_ := Aside0.mk (Kd.R_below (by (with_reducible repeat (first | apply Kd.R_alloc | apply Kd.R_drewN | apply Kd.R_drew)); exact HO359.out) hb)
            have n6_ := Aside0.mk (Kd.V_elder' (by (with_reducible repeat (first | apply Kd.V_alloc | apply Kd.V_drewN | apply Kd.V_drew)); exact HO365.out) (by first | exact Kd.N_base ho30 | exact Kd.S_base ho30) hb)
            have n7_ := Aside0.mk (Kd.N_elder' (by (with_reducible repeat (first | apply Kd.N_alloc | apply Kd.N_drewN | apply Kd.N_drew)); exact HO368.out) (by first | exact Kd.N_base ho30 | exact Kd.S_base ho30) hb)
            have n8_ := Aside0.mk (Kd.N_lower ho30 (below_size (by repeat (first | (with_reducible first | exact HB.out | apply below_alloc | apply pw_below_drewN | apply below_drew1 | refine below_set ?_ GE360.out) | exact HB.out))))
            have n9_ := Aside0.mk (blk_below (g := gb360) (o := .cells #[.int .i64 a1, .int .i64 (wrap64 (((rd_T49 l0 (ji5)).f1) + 1)), .slice Ao21 y357.length co21] 49 (0, 0)) (by (with_reducible repeat (first | refine blk_drewN ?_ _ | refine blk_drew ?_ | refine blk_alloc ?_ _)); exact BK360.out) hb)
            have n10_ := Aside0.mk (below_step (by repeat (first | (with_reducible first | exact HB.out | apply below_alloc | apply pw_below_drewN | apply below_drew1 | refine below_set ?_ GE360.out) | exact HB.out)) hb)
            clear HO0
            clear HO2
            clear HL351_2
            clear HL352_2
            clear HL353_2
            clear HO359
            clear HO365
            clear HO368
            clear BK360
            clear HB
            have HO0 := n0_
            have HO2 := n1_
            have HL351_2 := n2_
            have HL352_2 := n3_
            have HL353_2 := n4_
            have HO359 := n5_
            have HO365 := n6_
            have HO368 := n7_
            have HO371 := n8_
            have BK360 := n9_
            have HB := n10_
            clear n0_ n1_ n2_ n3_ n4_ n5_ n6_ n7_ n8_ n9_ n10_
            clear hb ho30
            refine hK.out _ _ ⟨(blk_cell BK360.out 0).trans rfl, (blk_cell BK360.out 1).trans rfl, (blk_cell BK360.out 2).trans rfl⟩ (fun hHeld => ?_)
            clear hK K
            refine norm_ (a' := ?_) ?_ ?_
            rotate_left
            ·show Act.put _ (some 47) _ = _
             simp only [Act.put, List.setIfInBounds_toArray, List.set_cons_zero, List.set_cons_succ, i64_w, i32_w]
             rfl
            exact norm_ (by simp only [putAll, Act.put, List.setIfInBounds_toArray, List.set_cons_zero, List.set_cons_succ]) (hCont (v367, v370) _ ⟨hHeld, (by (with_reducible repeat (first | apply Kd.V_alloc | apply Kd.V_drewN | apply Kd.V_drew)); exact Kd.V_mono HL351_2.out (fun _ hk => ⟨hk.1.1.1, ⟨hk.1.1.2.1, ⟨hk.1.2, ⟨hk.2, hk.1.1.2.2⟩⟩⟩⟩)), (by (with_reducible repeat (first | apply Kd.V_alloc | apply Kd.V_drewN | apply Kd.V_drew)); exact Kd.V_mono HL352_2.out (fun _ hk => ⟨hk.1.1.1, ⟨hk.1.1.2.1, ⟨hk.1.2, ⟨hk.2, hk.1.1.2.2⟩⟩⟩⟩)), (by (with_reducible repeat (first | apply Kd.V_alloc | apply Kd.V_drewN | apply Kd.V_drew)); exact Kd.V_mono HL353_2.out (fun _ hk => ⟨hk.1.1.1, ⟨hk.1.1.2.1, ⟨hk.1.2, ⟨hk.2, hk.1.1.2.2⟩⟩⟩⟩)), (by (with_reducible repeat (first | apply Kd.V_alloc | apply Kd.V_drewN | apply Kd.V_drew)); exact Kd.V_mono HO0.out (fun _ hk => ⟨hk.1.1.1, ⟨hk.1.1.2.1, ⟨hk.1.2, ⟨hk.2, hk.1.1.2.2⟩⟩⟩⟩)), (by (with_reducible repeat (first | apply Kd.V_alloc | apply Kd.V_drewN | apply Kd.V_drew)); exact Kd.V_mono HO2.out (fun _ hk => ⟨hk.1.1.1, ⟨hk.1.1.2.1, ⟨hk.1.2, ⟨hk.2, hk.1.1.2.2⟩⟩⟩⟩)), (by (with_reducible repeat (first | apply Kd.R_alloc | apply Kd.R_drewN | apply Kd.R_drew)); exact HO359.out), (by (with_reducible repeat (first | apply Kd.V_alloc | apply Kd.V_drewN | apply Kd.V_drew)); exact Kd.V_mono HO365.out (fun _ hk => ⟨hk.1.1.1, ⟨hk.1.1.2.1, ⟨hk.1.2, ⟨hk.2, hk.1.1.2.2⟩⟩⟩⟩)), (by (with_reducible repeat (first | apply Kd.N_alloc | apply Kd.N_drewN | apply Kd.N_drew)); exact Kd.N_mono HO368.out (fun _ hk => ⟨hk.1.1, ⟨hk.1.2.1, ⟨hk.2, hk.1.2.2⟩⟩⟩)), (by (with_reducible repeat (first | apply Kd.N_alloc | apply Kd.N_drewN | apply Kd.N_drew)); exact HO371.out), (by (with_reducible repeat (first | refine blk_drewN ?_ _ | refine blk_drew ?_ | refine blk_alloc ?_ _)); exact BK360.out), (by repeat (first | (with_reducible first | exact HB.out | apply below_alloc | apply pw_below_drewN | apply below_drew1 | refine below_set ?_ GE360.out) | exact HB.out))⟩)
           ·skip
            refine Kd.N_lit_step k49 _ 49 ?hg (N' := 47) ?hd (xs := ([(⟨a1, wrap64 (((rd_T49 l0 (ji5)).f1) + 1), y357⟩ : S49)] : List (S49))) (inner := [.int .i64 a1, .int .i64 (wrap64 (((rd_T49 l0 (ji5)).f1) + 1)), .slice Ao21 y357.length co21]) (ok := (fun k_ => ((P0_ k_ ∨ P2_ k_) ∨ w.heap.size ≤ k_) ∧ k_ ≠ gb360)) (okp := (fun k_ => ((P0_ k_ ∨ P2_ k_) ∨ w.heap.size ≤ k_) ∧ k_ ≠ gb360)) ?hr ?hp (fun _ hk => hk) ((show ∀ k_, w26.heap.size ≤ k_ → (fun k_ => ((P0_ k_ ∨ P2_ k_) ∨ w.heap.size ≤ k_) ∧ k_ ≠ gb360) k_ from fun k_ hk => ⟨(.inr (Nat.le_trans (below_size (by repeat (first | (with_reducible first | exact HB.out | apply below_alloc | apply pw_below_drewN | apply below_drew1 | refine below_set ?_ GE360.out) | exact HB.out))) hk)), Kd.freshB (g := gb360) (o := .cells #[.int .i64 a1, .int .i64 (wrap64 (((rd_T49 l0 (ji5)).f1) + 1)), .slice Ao21 y357.length co21] 49 (0, 0)) (by (with_reducible repeat (first | refine blk_drewN ?_ _ | refine blk_drew ?_ | refine blk_alloc ?_ _)); exact BK360.out) k_ hk⟩) _ (Nat.le_refl _)) (Below.refl _ _) (Nat.le_refl _) (by simp) ?_; (case hd => rfl); (case hg => rfl); (case hr => first | (go_simp; done) | (go_simp; rfl)); (case hp => exact (Reps.c3 (show Kd.FK k49 _ _ (⟨a1, wrap64 (((rd_T49 l0 (ji5)).f1) + 1), y357⟩ : S49) [.int .i64 a1, .int .i64 (wrap64 (((rd_T49 l0 (ji5)).f1) + 1)), .slice Ao21 y357.length co21] from (k49_mkF _ _ (⟨a1, wrap64 (((rd_T49 l0 (ji5)).f1) + 1), y357⟩ : S49) (Kd.R_reads' (Kd.R_mono (ok' := (fun k_ => ((P0_ k_ ∨ P2_ k_) ∨ w.heap.size ≤ k_) ∧ k_ ≠ gb360)) (Kd.R_types (HO359.out) BK360.out (by decide)) (fun k_ hk => ⟨(.inr (hk.1)), hk.2⟩))).2.1 (Kd.R_F (Kd.R_mono (ok' := (fun k_ => ((P0_ k_ ∨ P2_ k_) ∨ w.heap.size ≤ k_) ∧ k_ ≠ gb360)) (Kd.R_types (HO359.out) BK360.out (by decide)) (fun k_ hk => ⟨(.inr (hk.1)), hk.2⟩))))) (Reps.none _ _)))
            intro v370 w28 ho29 hb hg_ hnew_
            clear hg_ hnew_
            (first | rw [← Ny369.out] at ho29 | (simp only [Int.reduceToNat] at ho29; rw [← Ny369.out] at ho29))
            have n0_ := Aside0.mk (Kd.V_elder' (by (with_reducible repeat (first | apply Kd.V_alloc | apply Kd.V_drewN | apply Kd.V_drew)); exact HO0.out) (by first | exact Kd.N_base ho29 | exact Kd.S_base ho29) hb)
            have n1_ := Aside0.mk (Kd.V_elder' (by (with_reducible repeat (first | apply Kd.V_alloc | apply Kd.V_drewN | apply Kd.V_drew)); exact HO2.out) (by first | exact Kd.N_base ho29 | exact Kd.S_base ho29) hb)
            have n2_ := Aside0.mk (Kd.V_elder' (by (with_reducible repeat (first | apply Kd.V_alloc | apply Kd.V_drewN | apply Kd.V_drew)); exact HL351_2.out) (by first | exact Kd.N_base ho29 | exact Kd.S_base ho29) hb)
            have n3_ := Aside0.mk (Kd.V_elder' (by (with_reducible repeat (first | apply Kd.V_alloc | apply Kd.V_drewN | apply Kd.V_drew)); exact HL352_2.out) (by first | exact Kd.N_base ho29 | exact Kd.S_base ho29) hb)
            have n4_ := Aside0.mk (Kd.V_elder' (by (with_reducible repeat (first | apply Kd.V_alloc | apply Kd.V_drewN | apply Kd.V_drew)); exact HL353_2.out) (by first | exact Kd.N_base ho29 | exact Kd.S_base ho29) hb)
            have n5_ := Aside0.mk (Kd.R_below (by (with_reducible repeat (first | apply Kd.R_alloc | apply Kd.R_drewN | apply Kd.R_drew)); exact HO359.out) hb)
            have n6_ := Aside0.mk (Kd.V_elder' (by (with_reducible repeat (first | apply Kd.V_alloc | apply Kd.V_drewN | apply Kd.V_drew)); exact HO365.out) (by first | exact Kd.N_base ho29 | exact Kd.S_base ho29) hb)
            have n7_ := Aside0.mk (Kd.N_lower ho29 (below_size (by repeat (first | (with_reducible first | exact HB.out | apply below_alloc | apply pw_below_drewN | apply below_drew1 | refine below_set ?_ GE360.out) | exact HB.out))))
            have n8_ := Aside0.mk (blk_below (g := gb360) (o := .cells #[.int .i64 a1, .int .i64 (wrap64 (((rd_T49 l0 (ji5)).f1) + 1)), .slice Ao21 y357.length co21] 49 (0, 0)) (by (with_reducible repeat (first | refine blk_drewN ?_ _ | refine blk_drew ?_ | refine blk_alloc ?_ _)); exact BK360.out) hb)
            have n9_ := Aside0.mk (below_step (by repeat (first | (with_reducible first | exact HB.out | apply below_alloc | apply pw_below_drewN | apply below_drew1 | refine below_set ?_ GE360.out) | exact HB.out)) hb)
            clear HO0
            clear HO2
            clear HL351_2
            clear HL352_2
            clear HL353_2
            clear HO359
            clear HO365
            clear BK360
            clear HB
            have HO0 := n0_
            have HO2 := n1_
            have HL351_2 := n2_
            have HL352_2 := n3_
            have HL353_2 := n4_
            have HO359 := n5_
            have HO365 := n6_
            have HO371 := n7_
            have BK360 := n8_
            have HB := n9_
            clear n0_ n1_ n2_ n3_ n4_ n5_ n6_ n7_ n8_ n9_
            clear hb ho29
            refine hK.out _ _ ⟨(blk_cell BK360.out 0).trans rfl, (blk_cell BK360.out 1).trans rfl, (blk_cell BK360.out 2).trans rfl⟩ (fun hHeld => ?_)
            clear hK K
            refine norm_ (a' := ?_) ?_ ?_
            rotate_left
            ·show Act.put _ (some 47) _ = _
             simp only [Act.put, List.setIfInBounds_toArray, List.set_cons_zero, List.set_cons_succ, i64_w, i32_w]
             rfl
            refine one_ (i := 4) (N := some 45) #[true, true, true, true, true, true, true, false, false] rfl rfl (one_of HT_.out (by kernel_rfl)) (by decide) (fun K hK => ?_)
            refine Kd.N_append_rows_step k49 (w0 := w) w.heap.size (by rfl) (.const (.slice none 0 0)) (.tmp 44) 40 49 (.agg #[(.int .i64 0), (.int .i64 0), (.slice none 0 0)]) 40 rfl Try.underlying40 info49 rfl (by decide) (by omega) (.slice none 0 0) ([] : List (S49)) y361 _ _ _ (fun k_ => ((P0_ k_ ∨ P2_ k_) ∨ w.heap.size ≤ k_) ∧ some k_ ≠ (.slice Ao21 y357.length co21 : Value).ownBlock ∧ some k_ ≠ (v370 : Value).ownBlock ∧ k_ ≠ gb360) (fun k_ => ((fun k_ => ((P0_ k_ ∨ P2_ k_) ∨ w.heap.size ≤ k_) ∧ some k_ ≠ (.slice Ao21 y357.length co21 : Value).ownBlock ∧ some k_ ≠ (v370 : Value).ownBlock ∧ k_ ≠ gb360)) k_ ∧ some k_ ≠ (.slice none 0 0 : Value).ownBlock) rfl rfl ?aO ?aR (fun _ hk => hk) ?aF ?aB ?aS ?aL ?_
            (case aR => exact (by skip; exact Kd.V_F (Kd.V_mono (ok' := (fun k_ => ((fun k_ => ((P0_ k_ ∨ P2_ k_) ∨ w.heap.size ≤ k_) ∧ some k_ ≠ (.slice Ao21 y357.length co21 : Value).ownBlock ∧ some k_ ≠ (v370 : Value).ownBlock ∧ k_ ≠ gb360)) k_ ∧ some k_ ≠ (.slice none 0 0 : Value).ownBlock)) (HO365.out) (fun k_ hk => ⟨⟨hk.1.1, ⟨hk.1.2.1, ⟨hk.2, hk.1.2.2⟩⟩⟩, (by simp [Value.ownBlock])⟩))))
            (case aB => exact (by repeat (first | (with_reducible first | exact HB.out | apply below_alloc | apply pw_below_drewN | apply below_drew1 | refine below_set ?_ GE360.out) | exact HB.out)))
            (case aF => exact (fun k_ hk => ⟨(.inr (Nat.le_trans (below_size (by repeat (first | (with_reducible first | exact HB.out | apply below_alloc | apply pw_below_drewN | apply below_drew1 | refine below_set ?_ GE360.out) | exact HB.out))) hk)), Kd.fresh' (Kd.R_lt (by (with_reducible repeat (first | apply Kd.R_alloc | apply Kd.R_drewN | apply Kd.R_drew)); exact HO359.out)) k_ hk, Kd.fresh' (Kd.N_lt (by (with_reducible repeat (first | apply Kd.N_alloc | apply Kd.N_drewN | apply Kd.N_drew)); exact HO371.out)) k_ hk, Kd.freshB (g := gb360) (o := .cells #[.int .i64 a1, .int .i64 (wrap64 (((rd_T49 l0 (ji5)).f1) + 1)), .slice Ao21 y357.length co21] 49 (0, 0)) (by (with_reducible repeat (first | refine blk_drewN ?_ _ | refine blk_drew ?_ | refine blk_alloc ?_ _)); exact BK360.out) k_ hk⟩))
            (case aO => exact ((Kd.N_nil _ _ _ _ (fun k_ => ((P0_ k_ ∨ P2_ k_) ∨ w.heap.size ≤ k_) ∧ some k_ ≠ (.slice Ao21 y357.length co21 : Value).ownBlock ∧ some k_ ≠ (v370 : Value).ownBlock ∧ k_ ≠ gb360))))
            (case aS => exact (below_size (by repeat (first | (with_reducible first | exact HB.out | apply below_alloc | apply pw_below_drewN | apply below_drew1 | refine below_set ?_ GE360.out) | exact HB.out))))
            (case aL => have := LMc13.out; omega)
            intro v367 w30 ho hb hg hat
            rw [← Ny366.out] at ho
            have n0_ := Aside0.mk (Kd.V_afterv (Kd.V_apart_nil (by (with_reducible repeat (first | apply Kd.V_alloc | apply Kd.V_drewN | apply Kd.V_drew)); exact HO0.out)) hg hat)
            have n1_ := Aside0.mk (Kd.V_afterv (Kd.V_apart_nil (by (with_reducible repeat (first | apply Kd.V_alloc | apply Kd.V_drewN | apply Kd.V_drew)); exact HO2.out)) hg hat)
            have n2_ := Aside0.mk (Kd.V_afterv (Kd.V_apart_nil (by (with_reducible repeat (first | apply Kd.V_alloc | apply Kd.V_drewN | apply Kd.V_drew)); exact HL351_2.out)) hg hat)
            have n3_ := Aside0.mk (Kd.V_afterv (Kd.V_apart_nil (by (with_reducible repeat (first | apply Kd.V_alloc | apply Kd.V_drewN | apply Kd.V_drew)); exact HL352_2.out)) hg hat)
            have n4_ := Aside0.mk (Kd.V_afterv (Kd.V_apart_nil (by (with_reducible repeat (first | apply Kd.V_alloc | apply Kd.V_drewN | apply Kd.V_drew)); exact HL353_2.out)) hg hat)
            have n5_ := Aside0.mk (Kd.R_grown (by (with_reducible repeat (first | apply Kd.R_alloc | apply Kd.R_drewN | apply Kd.R_drew)); exact HO359.out) hg (fun _ _ => by simp [Value.ownBlock]))
            have n6_ := Aside0.mk (blk_grown (g := gb360) (o := .cells #[.int .i64 a1, .int .i64 (wrap64 (((rd_T49 l0 (ji5)).f1) + 1)), .slice Ao21 y357.length co21] 49 (0, 0)) (by (with_reducible repeat (first | refine blk_drewN ?_ _ | refine blk_drew ?_ | refine blk_alloc ?_ _)); exact BK360.out) hg (by simp [Value.ownBlock]))
            have n7_ := Aside0.mk (Kd.V_afterv (Kd.V_apart_nil (by (with_reducible repeat (first | apply Kd.V_alloc | apply Kd.V_drewN | apply Kd.V_drew)); exact HO365.out)) hg hat)
            have n8_ := Aside0.mk (Kd.N_afterv (Kd.N_apart_nil (by (with_reducible repeat (first | apply Kd.N_alloc | apply Kd.N_drewN | apply Kd.N_drew)); exact HO371.out)) hg hat)
            have n9_ := Aside0.mk (hb)
            have n10_ := Aside0.mk (ho)
            clear HO0
            clear HO2
            clear HL351_2
            clear HL352_2
            clear HL353_2
            clear HO359
            clear BK360
            clear HO365
            clear HO371
            clear HB
            have HO0 := n0_
            have HO2 := n1_
            have HL351_2 := n2_
            have HL352_2 := n3_
            have HL353_2 := n4_
            have HO359 := n5_
            have BK360 := n6_
            have HO365 := n7_
            have HO371 := n8_
            have HB := n9_
            have HO368 := n10_
            clear n0_ n1_ n2_ n3_ n4_ n5_ n6_ n7_ n8_ n9_ n10_
            clear ho hb hg hat
            refine hK.out _ _ ⟨(blk_cell BK360.out 0).trans rfl, (blk_cell BK360.out 1).trans rfl, (blk_cell BK360.out 2).trans rfl⟩ (fun hHeld => ?_)
            clear hK K
            refine norm_ (a' := ?_) ?_ ?_
            rotate_left
            ·show Act.put _ (some 45) _ = _
             simp only [Act.put, List.setIfInBounds_toArray, List.set_cons_zero, List.set_cons_succ, i64_w, i32_w]
             rfl
            exact norm_ (by simp only [putAll, Act.put, List.setIfInBounds_toArray, List.set_cons_zero, List.set_cons_succ]) (hCont (v367, v370) _ ⟨hHeld, (by (with_reducible repeat (first | apply Kd.V_alloc | apply Kd.V_drewN | apply Kd.V_drew)); exact Kd.V_mono HL351_2.out (fun _ hk => ⟨hk.1.1.1, ⟨hk.1.1.2.1, ⟨hk.2, ⟨hk.1.2, hk.1.1.2.2⟩⟩⟩⟩)), (by (with_reducible repeat (first | apply Kd.V_alloc | apply Kd.V_drewN | apply Kd.V_drew)); exact Kd.V_mono HL352_2.out (fun _ hk => ⟨hk.1.1.1, ⟨hk.1.1.2.1, ⟨hk.2, ⟨hk.1.2, hk.1.1.2.2⟩⟩⟩⟩)), (by (with_reducible repeat (first | apply Kd.V_alloc | apply Kd.V_drewN | apply Kd.V_drew)); exact Kd.V_mono HL353_2.out (fun _ hk => ⟨hk.1.1.1, ⟨hk.1.1.2.1, ⟨hk.2, ⟨hk.1.2, hk.1.1.2.2⟩⟩⟩⟩)), (by (with_reducible repeat (first | apply Kd.V_alloc | apply Kd.V_drewN | apply Kd.V_drew)); exact Kd.V_mono HO0.out (fun _ hk => ⟨hk.1.1.1, ⟨hk.1.1.2.1, ⟨hk.2, ⟨hk.1.2, hk.1.1.2.2⟩⟩⟩⟩)), (by (with_reducible repeat (first | apply Kd.V_alloc | apply Kd.V_drewN | apply Kd.V_drew)); exact Kd.V_mono HO2.out (fun _ hk => ⟨hk.1.1.1, ⟨hk.1.1.2.1, ⟨hk.2, ⟨hk.1.2, hk.1.1.2.2⟩⟩⟩⟩)), (by (with_reducible repeat (first | apply Kd.R_alloc | apply Kd.R_drewN | apply Kd.R_drew)); exact HO359.out), (by (with_reducible repeat (first | apply Kd.V_alloc | apply Kd.V_drewN | apply Kd.V_drew)); exact Kd.V_mono HO365.out (fun _ hk => ⟨hk.1.1.1, ⟨hk.1.1.2.1, ⟨hk.2, ⟨hk.1.2, hk.1.1.2.2⟩⟩⟩⟩)), (by (with_reducible repeat (first | apply Kd.N_alloc | apply Kd.N_drewN | apply Kd.N_drew)); exact HO368.out), (by (with_reducible repeat (first | apply Kd.N_alloc | apply Kd.N_drewN | apply Kd.N_drew)); exact Kd.N_mono HO371.out (fun _ hk => ⟨hk.1.1, ⟨hk.2, hk.1.2⟩⟩)), (by (with_reducible repeat (first | refine blk_drewN ?_ _ | refine blk_drew ?_ | refine blk_alloc ?_ _)); exact BK360.out), (by repeat (first | (with_reducible first | exact HB.out | apply below_alloc | apply pw_below_drewN | apply below_drew1 | refine below_set ?_ GE360.out) | exact HB.out))⟩)
          rintro ⟨v367, v370⟩ w31 ⟨hS_, h0_, h1_, h2_, h3_, h4_, h5_, h6_, h7_, h8_, h9_, h10_⟩
          have n0_ : Aside0 (Kd.V Kd.string 9 w31 w.heap.size (fun k_ => ((P0_ k_ ∨ P2_ k_) ∨ w.heap.size ≤ k_) ∧ some k_ ≠ (.slice Ao21 y357.length co21 : Value).ownBlock ∧ some k_ ≠ (v367 : Value).ownBlock ∧ some k_ ≠ (v370 : Value).ownBlock ∧ k_ ≠ gb360) (.slice A351_2 ((rd_T49 l0 (ji5)).f2).length c351_2) ((rd_T49 l0 (ji5)).f2)) := ⟨h0_⟩
          have n1_ : Aside0 (Kd.V Kd.string 9 w31 w.heap.size (fun k_ => ((P0_ k_ ∨ P2_ k_) ∨ w.heap.size ≤ k_) ∧ some k_ ≠ (.slice Ao21 y357.length co21 : Value).ownBlock ∧ some k_ ≠ (v367 : Value).ownBlock ∧ some k_ ≠ (v370 : Value).ownBlock ∧ k_ ≠ gb360) (.slice A352_2 ((rd_T49 l0 (ji5)).f2).length c352_2) ((rd_T49 l0 (ji5)).f2)) := ⟨h1_⟩
          have n2_ : Aside0 (Kd.V Kd.string 9 w31 w.heap.size (fun k_ => ((P0_ k_ ∨ P2_ k_) ∨ w.heap.size ≤ k_) ∧ some k_ ≠ (.slice Ao21 y357.length co21 : Value).ownBlock ∧ some k_ ≠ (v367 : Value).ownBlock ∧ some k_ ≠ (v370 : Value).ownBlock ∧ k_ ≠ gb360) (.slice A352_2 ((rd_T49 l0 (ji5)).f2).length c352_2) ((rd_T49 l0 (ji5)).f2)) := ⟨h2_⟩
          have n3_ : Aside0 (Kd.V k49 49 w31 w.heap.size (fun k_ => ((P0_ k_ ∨ P2_ k_) ∨ w.heap.size ≤ k_) ∧ some k_ ≠ (.slice Ao21 y357.length co21 : Value).ownBlock ∧ some k_ ≠ (v367 : Value).ownBlock ∧ some k_ ≠ (v370 : Value).ownBlock ∧ k_ ≠ gb360) (.slice (some ad351) l0.length c0) l0) := ⟨h3_⟩
          have n4_ : Aside0 (Kd.V Kd.string 9 w31 w.heap.size (fun k_ => ((P0_ k_ ∨ P2_ k_) ∨ w.heap.size ≤ k_) ∧ some k_ ≠ (.slice Ao21 y357.length co21 : Value).ownBlock ∧ some k_ ≠ (v367 : Value).ownBlock ∧ some k_ ≠ (v370 : Value).ownBlock ∧ k_ ≠ gb360) (.slice A2 l2.length c2) l2) := ⟨h4_⟩
          have n5_ : Aside0 (Kd.R Kd.string 9 w31 w.heap.size (fun k_ => (w.heap.size ≤ k_)) (.slice Ao21 y357.length co21) y357) := ⟨h5_⟩
          have n6_ : Aside0 (Kd.V k49 49 w31 w.heap.size (fun k_ => ((P0_ k_ ∨ P2_ k_) ∨ w.heap.size ≤ k_) ∧ some k_ ≠ (.slice Ao21 y357.length co21 : Value).ownBlock ∧ some k_ ≠ (v367 : Value).ownBlock ∧ some k_ ≠ (v370 : Value).ownBlock ∧ k_ ≠ gb360) (.slice (some ad351) y361.length c0) y361) := ⟨h6_⟩
          have n7_ : Aside0 (Kd.N k49 49 w31 w.heap.size (fun k_ => ((P0_ k_ ∨ P2_ k_) ∨ w.heap.size ≤ k_) ∧ some k_ ≠ (.slice Ao21 y357.length co21 : Value).ownBlock ∧ some k_ ≠ (v370 : Value).ownBlock ∧ k_ ≠ gb360) v367 y366) := ⟨h7_⟩
          have n8_ : Aside0 (Kd.N k49 49 w31 w.heap.size (fun k_ => ((P0_ k_ ∨ P2_ k_) ∨ w.heap.size ≤ k_) ∧ some k_ ≠ (v367 : Value).ownBlock ∧ k_ ≠ gb360) v370 y369) := ⟨h8_⟩
          have n9_ : Aside0 (w31.heap[gb360]? = some (.cells #[.int .i64 a1, .int .i64 (wrap64 (((rd_T49 l0 (ji5)).f1) + 1)), .slice Ao21 y357.length co21] 49 (0, 0))) := ⟨h9_⟩
          have n10_ : Aside0 (Below w.heap.size w w31) := ⟨h10_⟩
          clear HO0
          clear HO2
          clear HL351_2
          clear HL352_2
          clear HL353_2
          clear HO359
          clear BK360
          clear HB
          clear h0_ h1_ h2_ h3_ h4_ h5_ h6_ h7_ h8_ h9_ h10_
          have HL351_2 := n0_
          have HL352_2 := n1_
          have HL353_2 := n2_
          have HO0 := n3_
          have HO2 := n4_
          have HO359 := n5_
          have HO365 := n6_
          have HO368 := n7_
          have HO371 := n8_
          have BK360 := n9_
          have HB := n10_
          clear n0_ n1_ n2_ n3_ n4_ n5_ n6_ n7_ n8_ n9_ n10_
          have hHeld : w31.cell? ⟨gb360, 0, none⟩ = some (.int .i64 a1) ∧ w31.cell? ⟨gb360, 1, none⟩ = some (.int .i64 (wrap64 (((rd_T49 l0 (ji5)).f1) + 1))) ∧ w31.cell? ⟨gb360, 2, none⟩ = some (.slice Ao21 y357.length co21) := hS_
          obtain ⟨Ao33, co33, eo33⟩ := Kd.N_slice HO371.out
          (first | subst eo33 | (injection eo33 with f1_ f2_ f3_; have f4_ := f1_.symm; have f5_ := f3_.symm; clear f1_ f2_ f3_; subst f4_; subst f5_))
          refine norm_ (a' := ?_) ?_ ?_
          rotate_left
          ·simp only [putAll, Act.put, List.setIfInBounds_toArray, List.set_cons_zero, List.set_cons_succ]
           rfl
          refine one_ (i := 7) (N := some 48) #[true, true, true, true, true, true, true, true, false] rfl rfl (one_of HT_.out (by kernel_rfl)) (by decide) (fun K hK => ?_)
          refine Kd.N_append_rows_step k49 (w0 := w) w.heap.size (by rfl) (.tmp 45) (.tmp 47) 40 49 (.agg #[(.int .i64 0), (.int .i64 0), (.slice none 0 0)]) 40 rfl Try.underlying40 info49 rfl (by decide) (by omega) v367 y366 y369 _ _ _ (fun k_ => ((P0_ k_ ∨ P2_ k_) ∨ w.heap.size ≤ k_) ∧ k_ ≠ gb360) (fun k_ => ((fun k_ => ((P0_ k_ ∨ P2_ k_) ∨ w.heap.size ≤ k_) ∧ k_ ≠ gb360)) k_ ∧ some k_ ≠ (v367 : Value).ownBlock) rfl rfl ?aO ?aR (fun _ hk => hk) ?aF ?aB ?aS ?aL ?_
          (case aR => exact (by skip; exact Kd.N_F (Kd.N_mono (ok' := (fun k_ => ((fun k_ => ((P0_ k_ ∨ P2_ k_) ∨ w.heap.size ≤ k_) ∧ k_ ≠ gb360)) k_ ∧ some k_ ≠ (v367 : Value).ownBlock)) (HO371.out) (fun k_ hk => ⟨⟨hk.1, hk.2.2⟩, hk.2.1⟩))))
          (case aB => exact (by repeat (first | (with_reducible first | exact HB.out | apply below_alloc | apply pw_below_drewN | apply below_drew1 | refine below_set ?_ GE360.out) | exact HB.out)))
          (case aF => exact (fun k_ hk => ⟨(.inr (Nat.le_trans (below_size (by repeat (first | (with_reducible first | exact HB.out | apply below_alloc | apply pw_below_drewN | apply below_drew1 | refine below_set ?_ GE360.out) | exact HB.out))) hk)), Kd.freshB (g := gb360) (o := .cells #[.int .i64 a1, .int .i64 (wrap64 (((rd_T49 l0 (ji5)).f1) + 1)), .slice Ao21 y357.length co21] 49 (0, 0)) (by (with_reducible repeat (first | refine blk_drewN ?_ _ | refine blk_drew ?_ | refine blk_alloc ?_ _)); exact BK360.out) k_ hk⟩))
          (case aO => exact (by (with_reducible repeat (first | apply Kd.N_alloc | apply Kd.N_drewN | apply Kd.N_drew)); exact Kd.N_mono HO368.out (fun _ hk => by first | exact ⟨hk.1, hk.2.2.2⟩ | simp_all)))
          (case aS => exact (below_size (by repeat (first | (with_reducible first | exact HB.out | apply below_alloc | apply pw_below_drewN | apply below_drew1 | refine below_set ?_ GE360.out) | exact HB.out))))
          (case aL => have := LMc14.out; omega)
          intro v373 w32 ho hb hg hat
          rw [← Ny372.out] at ho
          have n0_ := Aside0.mk (Kd.V_afterv (ok := (fun k_ => ((P0_ k_ ∨ P2_ k_) ∨ w.heap.size ≤ k_) ∧ some k_ ≠ (.slice Ao21 y357.length co21 : Value).ownBlock ∧ some k_ ≠ (.slice Ao33 y369.length co33 : Value).ownBlock ∧ k_ ≠ gb360)) (by (with_reducible repeat (first | apply Kd.V_alloc | apply Kd.V_drewN | apply Kd.V_drew)); exact Kd.V_mono HO0.out (fun _ hk => ⟨⟨hk.1, ⟨hk.2.1, ⟨hk.2.2.2.1, hk.2.2.2.2⟩⟩⟩, hk.2.2.1⟩)) hg hat)
          have n1_ := Aside0.mk (Kd.V_afterv (ok := (fun k_ => ((P0_ k_ ∨ P2_ k_) ∨ w.heap.size ≤ k_) ∧ some k_ ≠ (.slice Ao21 y357.length co21 : Value).ownBlock ∧ some k_ ≠ (.slice Ao33 y369.length co33 : Value).ownBlock ∧ k_ ≠ gb360)) (by (with_reducible repeat (first | apply Kd.V_alloc | apply Kd.V_drewN | apply Kd.V_drew)); exact Kd.V_mono HO2.out (fun _ hk => ⟨⟨hk.1, ⟨hk.2.1, ⟨hk.2.2.2.1, hk.2.2.2.2⟩⟩⟩, hk.2.2.1⟩)) hg hat)
          have n2_ := Aside0.mk (Kd.V_afterv (ok := (fun k_ => ((P0_ k_ ∨ P2_ k_) ∨ w.heap.size ≤ k_) ∧ some k_ ≠ (.slice Ao21 y357.length co21 : Value).ownBlock ∧ some k_ ≠ (.slice Ao33 y369.length co33 : Value).ownBlock ∧ k_ ≠ gb360)) (by (with_reducible repeat (first | apply Kd.V_alloc | apply Kd.V_drewN | apply Kd.V_drew)); exact Kd.V_mono HL351_2.out (fun _ hk => ⟨⟨hk.1, ⟨hk.2.1, ⟨hk.2.2.2.1, hk.2.2.2.2⟩⟩⟩, hk.2.2.1⟩)) hg hat)
          have n3_ := Aside0.mk (Kd.V_afterv (ok := (fun k_ => ((P0_ k_ ∨ P2_ k_) ∨ w.heap.size ≤ k_) ∧ some k_ ≠ (.slice Ao21 y357.length co21 : Value).ownBlock ∧ some k_ ≠ (.slice Ao33 y369.length co33 : Value).ownBlock ∧ k_ ≠ gb360)) (by (with_reducible repeat (first | apply Kd.V_alloc | apply Kd.V_drewN | apply Kd.V_drew)); exact Kd.V_mono HL352_2.out (fun _ hk => ⟨⟨hk.1, ⟨hk.2.1, ⟨hk.2.2.2.1, hk.2.2.2.2⟩⟩⟩, hk.2.2.1⟩)) hg hat)
          have n4_ := Aside0.mk (Kd.V_afterv (ok := (fun k_ => ((P0_ k_ ∨ P2_ k_) ∨ w.heap.size ≤ k_) ∧ some k_ ≠ (.slice Ao21 y357.length co21 : Value).ownBlock ∧ some k_ ≠ (.slice Ao33 y369.length co33 : Value).ownBlock ∧ k_ ≠ gb360)) (by (with_reducible repeat (first | apply Kd.V_alloc | apply Kd.V_drewN | apply Kd.V_drew)); exact Kd.V_mono HL353_2.out (fun _ hk => ⟨⟨hk.1, ⟨hk.2.1, ⟨hk.2.2.2.1, hk.2.2.2.2⟩⟩⟩, hk.2.2.1⟩)) hg hat)
          have n5_ := Aside0.mk (Kd.R_over' (by (with_reducible repeat (first | apply Kd.R_alloc | apply Kd.R_drewN | apply Kd.R_drew)); exact HO359.out) (Kd.N_typed (by (with_reducible repeat (first | apply Kd.N_alloc | apply Kd.N_drewN | apply Kd.N_drew)); exact HO368.out)) (by decide) hg)
          have n6_ := Aside0.mk (blk_grown (g := gb360) (o := .cells #[.int .i64 a1, .int .i64 (wrap64 (((rd_T49 l0 (ji5)).f1) + 1)), .slice Ao21 y357.length co21] 49 (0, 0)) (by (with_reducible repeat (first | refine blk_drewN ?_ _ | refine blk_drew ?_ | refine blk_alloc ?_ _)); exact BK360.out) hg (Kd.N_away HO368.out (fun _ hk => hk.2.2.2)))
          have n7_ := Aside0.mk (Kd.V_afterv (ok := (fun k_ => ((P0_ k_ ∨ P2_ k_) ∨ w.heap.size ≤ k_) ∧ some k_ ≠ (.slice Ao21 y357.length co21 : Value).ownBlock ∧ some k_ ≠ (.slice Ao33 y369.length co33 : Value).ownBlock ∧ k_ ≠ gb360)) (by (with_reducible repeat (first | apply Kd.V_alloc | apply Kd.V_drewN | apply Kd.V_drew)); exact Kd.V_mono HO365.out (fun _ hk => ⟨⟨hk.1, ⟨hk.2.1, ⟨hk.2.2.2.1, hk.2.2.2.2⟩⟩⟩, hk.2.2.1⟩)) hg hat)
          have n8_ := Aside0.mk (Kd.N_afterv (ok := (fun k_ => ((P0_ k_ ∨ P2_ k_) ∨ w.heap.size ≤ k_) ∧ k_ ≠ gb360)) (by (with_reducible repeat (first | apply Kd.N_alloc | apply Kd.N_drewN | apply Kd.N_drew)); exact Kd.N_mono HO371.out (fun _ hk => ⟨⟨hk.1, hk.2.2⟩, hk.2.1⟩)) hg hat)
          have n9_ := Aside0.mk (hb)
          have n10_ := Aside0.mk (ho)
          clear HO0
          clear HO2
          clear HL351_2
          clear HL352_2
          clear HL353_2
          clear HO359
          clear BK360
          clear HO365
          clear HO371
          clear HB
          clear HO368
          have HO0 := n0_
          have HO2 := n1_
          have HL351_2 := n2_
          have HL352_2 := n3_
          have HL353_2 := n4_
          have HO359 := n5_
          have BK360 := n6_
          have HO365 := n7_
          have HO371 := n8_
          have HB := n9_
          have HO374 := n10_
          clear n0_ n1_ n2_ n3_ n4_ n5_ n6_ n7_ n8_ n9_ n10_
          clear ho hb hg hat
          refine hK.out _ _ ⟨(blk_cell BK360.out 0).trans rfl, (blk_cell BK360.out 1).trans rfl, (blk_cell BK360.out 2).trans rfl⟩ (fun hHeld => ?_)
          clear hK K
          refine norm_ (a' := ?_) ?_ ?_
          rotate_left
          ·show Act.put _ (some 48) _ = _
           simp only [Act.put, List.setIfInBounds_toArray, List.set_cons_zero, List.set_cons_succ, i64_w, i32_w]
           rfl
          refine pure_ (i := 8) (N := some 6) (v := ?_) (a' := ?_) #[true, true, true, true, true, true, true, true, true] rfl rfl (any_of HT_.out (by kernel_rfl)) (fun _ _ _ h => h) (Or.inl ⟨by rfl, ?_⟩) ?_ ?_
          rotate_left
          ·intro w'
           go_simp
           with_reducible rfl
          rotate_left
          ·simp only [Act.put, List.setIfInBounds_toArray, List.set_cons_zero, List.set_cons_succ, i64_w, i32_w]
           rfl
          refine done_ (done_of HT_.out (by kernel_rfl)) ?_
          (try (have c8b0z : ((rd_T49 l0 (ji5)).f0) = true := by simpa using c8b0))
          (try (have c8b0z : ((rd_T49 l0 (ji5)).f0) = false := by simpa using c8b0))
          try go_wp2
          go_ret
          exact ⟨_, by first | rfl | (simp [errW_none, errW_some] <;> rfl) | (simp only [← hji5]; first | rfl | (simp [errW_none, errW_some] <;> rfl)) | (simp [*, errW_none, errW_some] <;> rfl), by (with_reducible repeat (first | apply Kd.N_alloc | apply Kd.N_drewN | apply Kd.N_drew)); exact Kd.N_mono HO374.out (fun _ hk => hk.1), by repeat (first | (with_reducible first | exact HB.out | apply below_alloc | apply pw_below_drewN | apply below_drew1 | refine below_set ?_ GE360.out) | exact HB.out)⟩
         ·rw [if_neg c14] at H
          exact absurd H (by simp)
        ·rw [if_neg c13] at H
         exact absurd H (by simp)
       ·rw [if_neg c12] at H
        exact absurd H (by simp)
      ·rw [if_neg c10] at H
       exact absurd H (by simp)
     ·rw [if_neg c9] at H
      exact absurd H (by simp)
    ·rw [if_neg c8] at H
     have c8b0 : (((rd_T49 l0 (ji5)).f0) == a1) = false := beq_eq_false_iff_ne.mpr c8
     have c8b1 : (((rd_T49 l0 (ji5)).f0) != a1) = true := bne_iff_ne.mpr c8
     by_cases c34 : ([] : List (S49)).length + l0.length < 3518437208883
     ·rw [if_pos c34] at H
      have LMc34 := Aside0.mk c34
      clear c34
      obtain ⟨y375, hy375⟩ : ∃ y_ : List (S49), y_ = (([] : List (S49)) ++ l0) := ⟨_, rfl⟩
      replace H : ((some (([(⟨a1, 1, l2⟩ : S49)] : List (S49)) : List (S49))).bind fun y378 => (if y375.length + y378.length < 3518437208883 then (some (y375 ++ y378)) else (none))) = some r := by first | (rw [hy375]; with_reducible exact H) | (have H2_ := (Option.bind_some _ _).symm.trans H; rw [hy375]; with_reducible exact H2_) | (have H2_ := (Option.bind_some _ _).symm.trans H; with_reducible exact H2_) | with_reducible exact H | (rw [hy375]; exact H) | exact H
      have Ny375 := Aside0.mk hy375
      clear hy375
      obtain ⟨y378, hy378⟩ : ∃ y_ : List (S49), y_ = (([(⟨a1, 1, l2⟩ : S49)] : List (S49))) := ⟨_, rfl⟩
      replace H : (if y375.length + y378.length < 3518437208883 then (some (y375 ++ y378)) else (none)) = some r := by first | (rw [hy378]; with_reducible exact H) | (have H2_ := (Option.bind_some _ _).symm.trans H; rw [hy378]; with_reducible exact H2_) | (have H2_ := (Option.bind_some _ _).symm.trans H; with_reducible exact H2_) | with_reducible exact H | (rw [hy378]; exact H) | exact H
      have Ny378 := Aside0.mk hy378
      clear hy378
      by_cases c35 : y375.length + y378.length < 3518437208883
      ·rw [if_pos c35] at H
       have LMc35 := Aside0.mk c35
       clear c35
       obtain ⟨y381, hy381⟩ : ∃ y_ : List (S49), y_ = (y375 ++ y378) := ⟨_, rfl⟩
       replace H : (some y381) = some r := by first | (rw [hy381]; with_reducible exact H) | (have H2_ := (Option.bind_some _ _).symm.trans H; rw [hy381]; with_reducible exact H2_) | (have H2_ := (Option.bind_some _ _).symm.trans H; with_reducible exact H2_) | with_reducible exact H | (rw [hy381]; exact H) | exact H
       have Ny381 := Aside0.mk hy381
       clear hy381
       obtain rfl := Option.some.inj H
       have p351 : 0 ≤ ((ji5) : Int) := of_decide_eq_true (by first | (with_reducible assumption) | assumption)
       have q351 : (ji5) < (l0.length : Int) := of_decide_eq_true (by first | (with_reducible assumption) | assumption)
       obtain ⟨ad351, A351_2, c351_2, e351, hx351_0, hx351_1, hx351_2, hl351_2, hi351_2⟩ := at_T49 (Kd.V_reads' HO0.out).2.2 (ji5) p351 q351
       have hlpad351 : ad351.block < w.heap.size := HLV0.out _ (by first | rfl | assumption) (by omega)
       cases e351
       obtain ⟨ce351, hce351, hMe351, hcc351⟩ := Kd.V_get HO0.out z49 (ji5) p351 (by first | exact q351 | exact of_decide_eq_true (by first | (with_reducible assumption) | assumption) | (have e_ := (Kd.V_reads' HO0.out).1; omega))
       obtain ⟨ua351_2, uc351_2, rfl, ul351_2, ge351_2⟩ := k49_openF hMe351
       have hv351_2 := hcc351 2 _ rfl
       rw [add_field _ _ 2 (by omega)] at hv351_2
       replace hv351_2 := Option.some.inj (hv351_2.symm.trans hx351_2)
       injection hv351_2 with hva_ hvn_ hvc_
       rw [hva_] at ge351_2
       rw [hvc_] at ul351_2
       have HL351_2 := Aside0.mk (show Kd.V Kd.string 9 _ w.heap.size _ _ ((rd_T49 l0 (ji5)).f2) from Kd.V_mk ul351_2 ge351_2)
       clear hva_ hvn_ hvc_ ge351_2 ul351_2
       clear hcc351 hce351
       have HR351_2 := Aside0.mk hi351_2
       have HC351_2 := Aside0.mk hl351_2
       clear hi351_2 hl351_2
       replace p351 := eq_true p351
       replace q351 := eq_true q351
       go_enter Try.func49, Try.ntmps49
       (try (have c8b0z : ((rd_T49 l0 (ji5)).f0) = true := by simpa using c8b0))
       (try (have c8b0z : ((rd_T49 l0 (ji5)).f0) = false := by simpa using c8b0))
       go_wp2_with (first | ((with_reducible refine gate_builtin (b := .append) (xs := #[.const (.slice none 0 0), .tmp 49]) rfl ?_); at_builtin; refine Kd.N_append_rows k49 (w0 := w) w.heap.size rfl (.const (.slice none 0 0)) (.tmp 49) 40 49 (.agg #[(.int .i64 0), (.int .i64 0), (.slice none 0 0)]) 40 rfl Try.underlying40 info49 rfl (by decide) (by omega) (.slice none 0 0) ([] : List (S49)) l0 _ _ _ (fun k_ => ((P0_ k_ ∨ P2_ k_) ∨ w.heap.size ≤ k_)) (fun k_ => ((fun k_ => ((P0_ k_ ∨ P2_ k_) ∨ w.heap.size ≤ k_))) k_ ∧ some k_ ≠ (.slice none 0 0 : Value).ownBlock) rfl rfl ?aO ?aR (fun _ hk => hk) ?aF ?aB ?aS ?aL ?_; (case aR => exact (by skip; exact Kd.V_F (Kd.V_mono (ok' := (fun k_ => ((fun k_ => ((P0_ k_ ∨ P2_ k_) ∨ w.heap.size ≤ k_))) k_ ∧ some k_ ≠ (.slice none 0 0 : Value).ownBlock)) (HO0.out) (fun k_ hk => ⟨hk, (by simp [Value.ownBlock])⟩)))); (case aB => exact (by repeat (first | (with_reducible first | exact HB.out | apply below_alloc | apply pw_below_drewN | apply below_drew1) | exact HB.out))); (case aF => exact (fun k_ hk => (.inr (Nat.le_trans (below_size (by repeat (first | (with_reducible first | exact HB.out | apply below_alloc | apply pw_below_drewN | apply below_drew1) | exact HB.out))) hk)))); (case aO => exact ((Kd.N_nil _ _ _ _ (fun k_ => ((P0_ k_ ∨ P2_ k_) ∨ w.heap.size ≤ k_))))); (case aS => exact (below_size (by repeat (first | (with_reducible first | exact HB.out | apply below_alloc | apply pw_below_drewN | apply below_drew1) | exact HB.out)))); (case aL => have := LMc34.out; omega); intro v376 w36 ho hb hg hat; rw [← Ny375.out] at ho; have n0_ := Aside0.mk (Kd.V_afterv (Kd.V_apart_nil (by (with_reducible repeat (first | apply Kd.V_alloc | apply Kd.V_drewN | apply Kd.V_drew)); exact HO0.out)) hg hat); have n1_ := Aside0.mk (Kd.V_afterv (Kd.V_apart_nil (by (with_reducible repeat (first | apply Kd.V_alloc | apply Kd.V_drewN | apply Kd.V_drew)); exact HO2.out)) hg hat); have n2_ := Aside0.mk (Kd.V_afterv (Kd.V_apart_nil (by (with_reducible repeat (first | apply Kd.V_alloc | apply Kd.V_drewN | apply Kd.V_drew)); exact HL351_2.out)) hg hat); have n3_ := Aside0.mk (hb); have n4_ := Aside0.mk (ho); clear HO0; clear HO2; clear HL351_2; clear HB; have HO0 := n0_; have HO2 := n1_; have HL351_2 := n2_; have HB := n3_; have HO377 := n4_; clear n0_ n1_ n2_ n3_ n4_; clear ho hb hg hat) | ((with_reducible refine gate_dst (N := 54) rfl ?_); refine Kd.N_lit k49 _ 49 ?hg (N' := 54) ?hd (xs := ([(⟨a1, 1, l2⟩ : S49)] : List (S49))) (inner := [.int .i64 a1, .int .i64 1, .slice A2 l2.length c2]) (ok := (fun k_ => ((P0_ k_ ∨ P2_ k_) ∨ w.heap.size ≤ k_) ∧ some k_ ≠ (v376 : Value).ownBlock)) (okp := (fun k_ => ((P0_ k_ ∨ P2_ k_) ∨ w.heap.size ≤ k_) ∧ some k_ ≠ (v376 : Value).ownBlock)) ?hr ?hp (fun _ hk => hk) ((show ∀ k_, w36.heap.size ≤ k_ → (fun k_ => ((P0_ k_ ∨ P2_ k_) ∨ w.heap.size ≤ k_) ∧ some k_ ≠ (v376 : Value).ownBlock) k_ from fun k_ hk => ⟨(.inr (Nat.le_trans (below_size (by repeat (first | (with_reducible first | exact HB.out | apply below_alloc | apply pw_below_drewN | apply below_drew1) | exact HB.out))) hk)), Kd.fresh' (Kd.N_lt (by (with_reducible repeat (first | apply Kd.N_alloc | apply Kd.N_drewN | apply Kd.N_drew)); exact HO377.out)) k_ hk⟩) _ (Nat.le_refl _)) (Below.refl _ _) (Nat.le_refl _) (by simp) ?_; (case hd => rfl); (case hg => rfl); (case hr => first | (go_simp; done) | (go_simp; rfl)); (case hp => exact (Reps.c3 (show Kd.FK k49 _ _ (⟨a1, 1, l2⟩ : S49) [.int .i64 a1, .int .i64 1, .slice A2 l2.length c2] from (k49_mkF _ _ (⟨a1, 1, l2⟩ : S49) (Kd.V_reads' (Kd.V_mono (ok' := (fun k_ => ((P0_ k_ ∨ P2_ k_) ∨ w.heap.size ≤ k_) ∧ some k_ ≠ (v376 : Value).ownBlock)) (HO2.out) (fun k_ hk => by first | exact ⟨hk.1, hk.2⟩ | simp_all))).2.1 (Kd.V_F (Kd.V_mono (ok' := (fun k_ => ((P0_ k_ ∨ P2_ k_) ∨ w.heap.size ≤ k_) ∧ some k_ ≠ (v376 : Value).ownBlock)) (HO2.out) (fun k_ hk => by first | exact ⟨hk.1, hk.2⟩ | simp_all))))) (Reps.none _ _))); intro v379 w37 ho38 hb hg_ hnew_; clear hg_ hnew_; (first | rw [← Ny378.out] at ho38 | (simp only [Int.reduceToNat] at ho38; rw [← Ny378.out] at ho38)); have n0_ := Aside0.mk (Kd.V_elder' (by (with_reducible repeat (first | apply Kd.V_alloc | apply Kd.V_drewN | apply Kd.V_drew)); exact HO0.out) (by first | exact Kd.N_base ho38 | exact Kd.S_base ho38) hb); have n1_ := Aside0.mk (Kd.V_elder' (by (with_reducible repeat (first | apply Kd.V_alloc | apply Kd.V_drewN | apply Kd.V_drew)); exact HO2.out) (by first | exact Kd.N_base ho38 | exact Kd.S_base ho38) hb); have n2_ := Aside0.mk (Kd.V_elder' (by (with_reducible repeat (first | apply Kd.V_alloc | apply Kd.V_drewN | apply Kd.V_drew)); exact HL351_2.out) (by first | exact Kd.N_base ho38 | exact Kd.S_base ho38) hb); have n3_ := Aside0.mk (Kd.N_elder' (by (with_reducible repeat (first | apply Kd.N_alloc | apply Kd.N_drewN | apply Kd.N_drew)); exact HO377.out) (by first | exact Kd.N_base ho38 | exact Kd.S_base ho38) hb); have n4_ := Aside0.mk (Kd.N_lower ho38 (below_size (by repeat (first | (with_reducible first | exact HB.out | apply below_alloc | apply pw_below_drewN | apply below_drew1) | exact HB.out)))); have n5_ := Aside0.mk (below_step (by repeat (first | (with_reducible first | exact HB.out | apply below_alloc | apply pw_below_drewN | apply below_drew1) | exact HB.out)) hb); clear HO0; clear HO2; clear HL351_2; clear HO377; clear HB; have HO0 := n0_; have HO2 := n1_; have HL351_2 := n2_; have HO377 := n3_; have HO380 := n4_; have HB := n5_; clear n0_ n1_ n2_ n3_ n4_ n5_; clear hb ho38; (try (obtain ⟨Ao40, co40, eo40⟩ := Kd.N_slice HO380.out; subst eo40))) | ((with_reducible refine gate_builtin (b := .append) (xs := #[.tmp 50, .tmp 54]) rfl ?_); at_builtin; refine Kd.N_append_rows k49 (w0 := w) w.heap.size rfl (.tmp 50) (.tmp 54) 40 49 (.agg #[(.int .i64 0), (.int .i64 0), (.slice none 0 0)]) 40 rfl Try.underlying40 info49 rfl (by decide) (by omega) v376 y375 y378 _ _ _ (fun k_ => ((P0_ k_ ∨ P2_ k_) ∨ w.heap.size ≤ k_)) (fun k_ => ((fun k_ => ((P0_ k_ ∨ P2_ k_) ∨ w.heap.size ≤ k_))) k_ ∧ some k_ ≠ (v376 : Value).ownBlock) rfl rfl ?aO ?aR (fun _ hk => hk) ?aF ?aB ?aS ?aL ?_; (case aR => exact (by skip; exact Kd.N_F (Kd.N_mono (ok' := (fun k_ => ((fun k_ => ((P0_ k_ ∨ P2_ k_) ∨ w.heap.size ≤ k_))) k_ ∧ some k_ ≠ (v376 : Value).ownBlock)) (HO380.out) (fun k_ hk => by first | exact ⟨hk.1, hk.2⟩ | simp_all)))); (case aB => exact (by repeat (first | (with_reducible first | exact HB.out | apply below_alloc | apply pw_below_drewN | apply below_drew1) | exact HB.out))); (case aF => exact (fun k_ hk => (.inr (Nat.le_trans (below_size (by repeat (first | (with_reducible first | exact HB.out | apply below_alloc | apply pw_below_drewN | apply below_drew1) | exact HB.out))) hk)))); (case aO => exact (by (with_reducible repeat (first | apply Kd.N_alloc | apply Kd.N_drewN | apply Kd.N_drew)); exact Kd.N_mono HO377.out (fun _ hk => hk.1))); (case aS => exact (below_size (by repeat (first | (with_reducible first | exact HB.out | apply below_alloc | apply pw_below_drewN | apply below_drew1) | exact HB.out)))); (case aL => have := LMc35.out; omega); intro v382 w39 ho hb hg hat; rw [← Ny381.out] at ho; have n0_ := Aside0.mk (Kd.V_afterv (ok := (fun k_ => ((P0_ k_ ∨ P2_ k_) ∨ w.heap.size ≤ k_) ∧ some k_ ≠ (.slice Ao40 y378.length co40 : Value).ownBlock)) (by (with_reducible repeat (first | apply Kd.V_alloc | apply Kd.V_drewN | apply Kd.V_drew)); exact Kd.V_mono HO0.out (fun _ hk => ⟨⟨hk.1.1, hk.2⟩, hk.1.2⟩)) hg hat); have n1_ := Aside0.mk (Kd.V_afterv (ok := (fun k_ => ((P0_ k_ ∨ P2_ k_) ∨ w.heap.size ≤ k_) ∧ some k_ ≠ (.slice Ao40 y378.length co40 : Value).ownBlock)) (by (with_reducible repeat (first | apply Kd.V_alloc | apply Kd.V_drewN | apply Kd.V_drew)); exact Kd.V_mono HO2.out (fun _ hk => ⟨⟨hk.1.1, hk.2⟩, hk.1.2⟩)) hg hat); have n2_ := Aside0.mk (Kd.V_afterv (ok := (fun k_ => ((P0_ k_ ∨ P2_ k_) ∨ w.heap.size ≤ k_) ∧ some k_ ≠ (.slice Ao40 y378.length co40 : Value).ownBlock)) (by (with_reducible repeat (first | apply Kd.V_alloc | apply Kd.V_drewN | apply Kd.V_drew)); exact Kd.V_mono HL351_2.out (fun _ hk => ⟨⟨hk.1.1, hk.2⟩, hk.1.2⟩)) hg hat); have n3_ := Aside0.mk (Kd.N_afterv (ok := (fun k_ => ((P0_ k_ ∨ P2_ k_) ∨ w.heap.size ≤ k_))) (by (with_reducible repeat (first | apply Kd.N_alloc | apply Kd.N_drewN | apply Kd.N_drew)); exact HO380.out) hg hat); have n4_ := Aside0.mk (hb); have n5_ := Aside0.mk (ho); clear HO0; clear HO2; clear HL351_2; clear HO380; clear HB; clear HO377; have HO0 := n0_; have HO2 := n1_; have HL351_2 := n2_; have HO380 := n3_; have HB := n4_; have HO383 := n5_; clear n0_ n1_ n2_ n3_ n4_ n5_; clear ho hb hg hat))
       go_ret
       exact ⟨_, by first | rfl | (simp [errW_none, errW_some] <;> rfl) | (simp only [← hji5]; first | rfl | (simp [errW_none, errW_some] <;> rfl)) | (simp [*, errW_none, errW_some] <;> rfl), by (with_reducible repeat (first | apply Kd.N_alloc | apply Kd.N_drewN | apply Kd.N_drew)); exact HO383.out, by repeat (first | (with_reducible first | exact HB.out | apply below_alloc | apply pw_below_drewN | apply below_drew1) | exact HB.out)⟩
      ·rw [if_neg c35] at H
       exact absurd H (by simp)
     ·rw [if_neg c34] at H
      exact absurd H (by simp)
   ·rw [if_neg c7] at H
    exact absurd H (by simp)
  ·rw [if_neg c6] at H
   exact absurd H (by simp)
 ·rw [if_neg c4] at H
  have c4b0 : decide (0 < (l0.length : Int)) = false := decide_eq_false c4
  have c4b1 : decide (0 < l0.length) = false := decide_eq_false (by omega)
  clear c4
  by_cases c41 : ([] : List (S49)).length + l0.length < 3518437208883
  ·rw [if_pos c41] at H
   have LMc41 := Aside0.mk c41
   clear c41
   obtain ⟨y384, hy384⟩ : ∃ y_ : List (S49), y_ = (([] : List (S49)) ++ l0) := ⟨_, rfl⟩
   replace H : ((some (([(⟨a1, 1, l2⟩ : S49)] : List (S49)) : List (S49))).bind fun y387 => (if y384.length + y387.length < 3518437208883 then (some (y384 ++ y387)) else (none))) = some r := by first | (rw [hy384]; with_reducible exact H) | (have H2_ := (Option.bind_some _ _).symm.trans H; rw [hy384]; with_reducible exact H2_) | (have H2_ := (Option.bind_some _ _).symm.trans H; with_reducible exact H2_) | with_reducible exact H | (rw [hy384]; exact H) | exact H
   have Ny384 := Aside0.mk hy384
   clear hy384
   obtain ⟨y387, hy387⟩ : ∃ y_ : List (S49), y_ = (([(⟨a1, 1, l2⟩ : S49)] : List (S49))) := ⟨_, rfl⟩
   replace H : (if y384.length + y387.length < 3518437208883 then (some (y384 ++ y387)) else (none)) = some r := by first | (rw [hy387]; with_reducible exact H) | (have H2_ := (Option.bind_some _ _).symm.trans H; rw [hy387]; with_reducible exact H2_) | (have H2_ := (Option.bind_some _ _).symm.trans H; with_reducible exact H2_) | with_reducible exact H | (rw [hy387]; exact H) | exact H
   have Ny387 := Aside0.mk hy387
   clear hy387
   by_cases c42 : y384.length + y387.length < 3518437208883
   ·rw [if_pos c42] at H
    have LMc42 := Aside0.mk c42
    clear c42
    obtain ⟨y390, hy390⟩ : ∃ y_ : List (S49), y_ = (y384 ++ y387) := ⟨_, rfl⟩
    replace H : (some y390) = some r := by first | (rw [hy390]; with_reducible exact H) | (have H2_ := (Option.bind_some _ _).symm.trans H; rw [hy390]; with_reducible exact H2_) | (have H2_ := (Option.bind_some _ _).symm.trans H; with_reducible exact H2_) | with_reducible exact H | (rw [hy390]; exact H) | exact H
    have Ny390 := Aside0.mk hy390
    clear hy390
    obtain rfl := Option.some.inj H
    go_enter Try.func49, Try.ntmps49
    go_wp2_with (first | ((with_reducible refine gate_builtin (b := .append) (xs := #[.const (.slice none 0 0), .tmp 49]) rfl ?_); at_builtin; refine Kd.N_append_rows k49 (w0 := w) w.heap.size rfl (.const (.slice none 0 0)) (.tmp 49) 40 49 (.agg #[(.int .i64 0), (.int .i64 0), (.slice none 0 0)]) 40 rfl Try.underlying40 info49 rfl (by decide) (by omega) (.slice none 0 0) ([] : List (S49)) l0 _ _ _ (fun k_ => ((P0_ k_ ∨ P2_ k_) ∨ w.heap.size ≤ k_)) (fun k_ => ((fun k_ => ((P0_ k_ ∨ P2_ k_) ∨ w.heap.size ≤ k_))) k_ ∧ some k_ ≠ (.slice none 0 0 : Value).ownBlock) rfl rfl ?aO ?aR (fun _ hk => hk) ?aF ?aB ?aS ?aL ?_; (case aR => exact (by skip; exact Kd.V_F (Kd.V_mono (ok' := (fun k_ => ((fun k_ => ((P0_ k_ ∨ P2_ k_) ∨ w.heap.size ≤ k_))) k_ ∧ some k_ ≠ (.slice none 0 0 : Value).ownBlock)) (HO0.out) (fun k_ hk => ⟨hk, (by simp [Value.ownBlock])⟩)))); (case aB => exact (by repeat (first | (with_reducible first | exact HB.out | apply below_alloc | apply pw_below_drewN | apply below_drew1) | exact HB.out))); (case aF => exact (fun k_ hk => (.inr (Nat.le_trans (below_size (by repeat (first | (with_reducible first | exact HB.out | apply below_alloc | apply pw_below_drewN | apply below_drew1) | exact HB.out))) hk)))); (case aO => exact ((Kd.N_nil _ _ _ _ (fun k_ => ((P0_ k_ ∨ P2_ k_) ∨ w.heap.size ≤ k_))))); (case aS => exact (below_size (by repeat (first | (with_reducible first | exact HB.out | apply below_alloc | apply pw_below_drewN | apply below_drew1) | exact HB.out)))); (case aL => have := LMc41.out; omega); intro v385 w43 ho hb hg hat; rw [← Ny384.out] at ho; have n0_ := Aside0.mk (Kd.V_afterv (Kd.V_apart_nil (by (with_reducible repeat (first | apply Kd.V_alloc | apply Kd.V_drewN | apply Kd.V_drew)); exact HO0.out)) hg hat); have n1_ := Aside0.mk (Kd.V_afterv (Kd.V_apart_nil (by (with_reducible repeat (first | apply Kd.V_alloc | apply Kd.V_drewN | apply Kd.V_drew)); exact HO2.out)) hg hat); have n2_ := Aside0.mk (hb); have n3_ := Aside0.mk (ho); clear HO0; clear HO2; clear HB; have HO0 := n0_; have HO2 := n1_; have HB := n2_; have HO386 := n3_; clear n0_ n1_ n2_ n3_; clear ho hb hg hat) | ((with_reducible refine gate_dst (N := 54) rfl ?_); refine Kd.N_lit k49 _ 49 ?hg (N' := 54) ?hd (xs := ([(⟨a1, 1, l2⟩ : S49)] : List (S49))) (inner := [.int .i64 a1, .int .i64 1, .slice A2 l2.length c2]) (ok := (fun k_ => ((P0_ k_ ∨ P2_ k_) ∨ w.heap.size ≤ k_) ∧ some k_ ≠ (v385 : Value).ownBlock)) (okp := (fun k_ => ((P0_ k_ ∨ P2_ k_) ∨ w.heap.size ≤ k_) ∧ some k_ ≠ (v385 : Value).ownBlock)) ?hr ?hp (fun _ hk => hk) ((show ∀ k_, w43.heap.size ≤ k_ → (fun k_ => ((P0_ k_ ∨ P2_ k_) ∨ w.heap.size ≤ k_) ∧ some k_ ≠ (v385 : Value).ownBlock) k_ from fun k_ hk => ⟨(.inr (Nat.le_trans (below_size (by repeat (first | (with_reducible first | exact HB.out | apply below_alloc | apply pw_below_drewN | apply below_drew1) | exact HB.out))) hk)), Kd.fresh' (Kd.N_lt (by (with_reducible repeat (first | apply Kd.N_alloc | apply Kd.N_drewN | apply Kd.N_drew)); exact HO386.out)) k_ hk⟩) _ (Nat.le_refl _)) (Below.refl _ _) (Nat.le_refl _) (by simp) ?_; (case hd => rfl); (case hg => rfl); (case hr => first | (go_simp; done) | (go_simp; rfl)); (case hp => exact (Reps.c3 (show Kd.FK k49 _ _ (⟨a1, 1, l2⟩ : S49) [.int .i64 a1, .int .i64 1, .slice A2 l2.length c2] from (k49_mkF _ _ (⟨a1, 1, l2⟩ : S49) (Kd.V_reads' (Kd.V_mono (ok' := (fun k_ => ((P0_ k_ ∨ P2_ k_) ∨ w.heap.size ≤ k_) ∧ some k_ ≠ (v385 : Value).ownBlock)) (HO2.out) (fun k_ hk => by first | exact ⟨hk.1, hk.2⟩ | simp_all))).2.1 (Kd.V_F (Kd.V_mono (ok' := (fun k_ => ((P0_ k_ ∨ P2_ k_) ∨ w.heap.size ≤ k_) ∧ some k_ ≠ (v385 : Value).ownBlock)) (HO2.out) (fun k_ hk => by first | exact ⟨hk.1, hk.2⟩ | simp_all))))) (Reps.none _ _))); intro v388 w44 ho45 hb hg_ hnew_; clear hg_ hnew_; (first | rw [← Ny387.out] at ho45 | (simp only [Int.reduceToNat] at ho45; rw [← Ny387.out] at ho45)); have n0_ := Aside0.mk (Kd.V_elder' (by (with_reducible repeat (first | apply Kd.V_alloc | apply Kd.V_drewN | apply Kd.V_drew)); exact HO0.out) (by first | exact Kd.N_base ho45 | exact Kd.S_base ho45) hb); have n1_ := Aside0.mk (Kd.V_elder' (by (with_reducible repeat (first | apply Kd.V_alloc | apply Kd.V_drewN | apply Kd.V_drew)); exact HO2.out) (by first | exact Kd.N_base ho45 | exact Kd.S_base ho45) hb); have n2_ := Aside0.mk (Kd.N_elder' (by (with_reducible repeat (first | apply Kd.N_alloc | apply Kd.N_drewN | apply Kd.N_drew)); exact HO386.out) (by first | exact Kd.N_base ho45 | exact Kd.S_base ho45) hb); have n3_ := Aside0.mk (Kd.N_lower ho45 (below_size (by repeat (first | (with_reducible first | exact HB.out | apply below_alloc | apply pw_below_drewN | apply below_drew1) | exact HB.out)))); have n4_ := Aside0.mk (below_step (by repeat (first | (with_reducible first | exact HB.out | apply below_alloc | apply pw_below_drewN | apply below_drew1) | exact HB.out)) hb); clear HO0; clear HO2; clear HO386; clear HB; have HO0 := n0_; have HO2 := n1_; have HO386 := n2_; have HO389 := n3_; have HB := n4_; clear n0_ n1_ n2_ n3_ n4_; clear hb ho45; (try (obtain ⟨Ao47, co47, eo47⟩ := Kd.N_slice HO389.out; subst eo47))) | ((with_reducible refine gate_builtin (b := .append) (xs := #[.tmp 50, .tmp 54]) rfl ?_); at_builtin; refine Kd.N_append_rows k49 (w0 := w) w.heap.size rfl (.tmp 50) (.tmp 54) 40 49 (.agg #[(.int .i64 0), (.int .i64 0), (.slice none 0 0)]) 40 rfl Try.underlying40 info49 rfl (by decide) (by omega) v385 y384 y387 _ _ _ (fun k_ => ((P0_ k_ ∨ P2_ k_) ∨ w.heap.size ≤ k_)) (fun k_ => ((fun k_ => ((P0_ k_ ∨ P2_ k_) ∨ w.heap.size ≤ k_))) k_ ∧ some k_ ≠ (v385 : Value).ownBlock) rfl rfl ?aO ?aR (fun _ hk => hk) ?aF ?aB ?aS ?aL ?_; (case aR => exact (by skip; exact Kd.N_F (Kd.N_mono (ok' := (fun k_ => ((fun k_ => ((P0_ k_ ∨ P2_ k_) ∨ w.heap.size ≤ k_))) k_ ∧ some k_ ≠ (v385 : Value).ownBlock)) (HO389.out) (fun k_ hk => by first | exact ⟨hk.1, hk.2⟩ | simp_all)))); (case aB => exact (by repeat (first | (with_reducible first | exact HB.out | apply below_alloc | apply pw_below_drewN | apply below_drew1) | exact HB.out))); (case aF => exact (fun k_ hk => (.inr (Nat.le_trans (below_size (by repeat (first | (with_reducible first | exact HB.out | apply below_alloc | apply pw_below_drewN | apply below_drew1) | exact HB.out))) hk)))); (case aO => exact (by (with_reducible repeat (first | apply Kd.N_alloc | apply Kd.N_drewN | apply Kd.N_drew)); exact Kd.N_mono HO386.out (fun _ hk => hk.1))); (case aS => exact (below_size (by repeat (first | (with_reducible first | exact HB.out | apply below_alloc | apply pw_below_drewN | apply below_drew1) | exact HB.out)))); (case aL => have := LMc42.out; omega); intro v391 w46 ho hb hg hat; rw [← Ny390.out] at ho; have n0_ := Aside0.mk (Kd.V_afterv (ok := (fun k_ => ((P0_ k_ ∨ P2_ k_) ∨ w.heap.size ≤ k_) ∧ some k_ ≠ (.slice Ao47 y387.length co47 : Value).ownBlock)) (by (with_reducible repeat (first | apply Kd.V_alloc | apply Kd.V_drewN | apply Kd.V_drew)); exact Kd.V_mono HO0.out (fun _ hk => ⟨⟨hk.1.1, hk.2⟩, hk.1.2⟩)) hg hat); have n1_ := Aside0.mk (Kd.V_afterv (ok := (fun k_ => ((P0_ k_ ∨ P2_ k_) ∨ w.heap.size ≤ k_) ∧ some k_ ≠ (.slice Ao47 y387.length co47 : Value).ownBlock)) (by (with_reducible repeat (first | apply Kd.V_alloc | apply Kd.V_drewN | apply Kd.V_drew)); exact Kd.V_mono HO2.out (fun _ hk => ⟨⟨hk.1.1, hk.2⟩, hk.1.2⟩)) hg hat); have n2_ := Aside0.mk (Kd.N_afterv (ok := (fun k_ => ((P0_ k_ ∨ P2_ k_) ∨ w.heap.size ≤ k_))) (by (with_reducible repeat (first | apply Kd.N_alloc | apply Kd.N_drewN | apply Kd.N_drew)); exact HO389.out) hg hat); have n3_ := Aside0.mk (hb); have n4_ := Aside0.mk (ho); clear HO0; clear HO2; clear HO389; clear HB; clear HO386; have HO0 := n0_; have HO2 := n1_; have HO389 := n2_; have HB := n3_; have HO392 := n4_; clear n0_ n1_ n2_ n3_ n4_; clear ho hb hg hat))
    go_ret
    exact ⟨_, by first | rfl | (simp [errW_none, errW_some] <;> rfl) | (simp [*, errW_none, errW_some] <;> rfl), by (with_reducible repeat (first | apply Kd.N_alloc | apply Kd.N_drewN | apply Kd.N_drew)); exact HO392.out, by repeat (first | (with_reducible first | exact HB.out | apply below_alloc | apply pw_below_drewN | apply below_drew1) | exact HB.out)⟩
   ·rw [if_neg c42] at H
    exact absurd H (by simp)
  ·rw [if_neg c41] at H
   exact absurd H (by simp)

end Go.Proofs.Ythplelgkneipjaa.P
