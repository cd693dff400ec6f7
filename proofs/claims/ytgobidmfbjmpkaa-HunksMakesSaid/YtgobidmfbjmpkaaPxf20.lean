/- Laid for this claim by hp.py, this session's program round the kit's print: functions of the program as plain Lean functions, the proofs that the code comes to their answers, and the rows of the laws. Not trusted: Lean checks it. -/
import Derived.Test.YtgobidmfbjmpkaaPx0
import Derived.Test.YtgobidmfbjmpkaaHShr
namespace Go.Proofs.Ytgobidmfbjmpkaa.P
open Go.RowKit Go.Proofs.YtgobidmfbjmpkaaW.PrintWords Go.Proofs.YtgobidmfbjmpkaaW.PrintLast Go.Proofs.YtgobidmfbjmpkaaW.PrintMore
attribute [local go_sem] max2_int min2_int max_two min_two max_three min_three max_four min_four   -- for this text's walks alone
set_option linter.unusedVariables false
set_option linter.unusedSimpArgs false

/-! ### collatorref04_Same: function 20 -/
mutual
def collatorref04_Same.l0 : Nat → List (S31) → List (S31) → Int → Option (Bool)
 | 0, _, _, _ => none
 | k + 1, x0, x1, x5 => if x5 < (x0.length : Int) then (if 0 ≤ x5 then (if x5 < (x1.length : Int) then (if ((rd_T31 x0 x5).f0) = ((rd_T31 x1 x5).f0) then (if ((rd_T31 x0 x5).f1) = ((rd_T31 x1 x5).f1) then (collatorref04_Same.j1 k x0 x1 x5 ((((rd_T31 x0 x5).f2).length : Int) != (((rd_T31 x1 x5).f2).length : Int))) else (collatorref04_Same.j1 k x0 x1 x5 true)) else (collatorref04_Same.j1 k x0 x1 x5 true)) else (none)) else (none)) else (some true)
def collatorref04_Same.j1 : Nat → List (S31) → List (S31) → Int → Bool → Option (Bool)
 | 0, _, _, _, _ => none
 | k + 1, x0, x1, x5, x56 => if x56 = true then (some false) else (collatorref04_Same.l1 k x0 x1 x5 0)
def collatorref04_Same.l1 : Nat → List (S31) → List (S31) → Int → Int → Option (Bool)
 | 0, _, _, _, _ => none
 | k + 1, x0, x1, x5, x6 => if 0 ≤ x5 then (if x5 < (x0.length : Int) then (if x6 < (((rd_T31 x0 x5).f2).length : Int) then (if 0 ≤ x6 then (if x5 < (x1.length : Int) then (if x6 < (((rd_T31 x1 x5).f2).length : Int) then (if (rdOf ByteArray.empty ((rd_T31 x0 x5).f2) x6).toList = (rdOf ByteArray.empty ((rd_T31 x1 x5).f2) x6).toList then (collatorref04_Same.l1 k x0 x1 x5 (wrap64 (x6 + 1))) else (some false)) else (none)) else (none)) else (none)) else (collatorref04_Same.l0 k x0 x1 (wrap64 (x5 + 1)))) else (none)) else (none)
end
def collatorref04_Same.f (k : Nat) (l0 : List (S31)) (l1 : List (S31)) : Option (Bool) := if (l0.length : Int) = (l1.length : Int) then (collatorref04_Same.l0 k l0 l1 0) else (some false)
theorem collatorref04_Same.mono_l : ∀ k, (∀ y0 y1 y2, LeO (collatorref04_Same.l0 k y0 y1 y2) (collatorref04_Same.l0 (k + 1) y0 y1 y2)) ∧ (∀ y0 y1 y2 y3, LeO (collatorref04_Same.j1 k y0 y1 y2 y3) (collatorref04_Same.j1 (k + 1) y0 y1 y2 y3)) ∧ (∀ y0 y1 y2 y3, LeO (collatorref04_Same.l1 k y0 y1 y2 y3) (collatorref04_Same.l1 (k + 1) y0 y1 y2 y3))
 | 0 => ⟨fun _ _ _ r h => by simp [collatorref04_Same.l0] at h, fun _ _ _ _ r h => by simp [collatorref04_Same.j1] at h, fun _ _ _ _ r h => by simp [collatorref04_Same.l1] at h⟩
 | k + 1 => by
  obtain ⟨ih0, ih1, ih2⟩ := collatorref04_Same.mono_l k
  refine ⟨?_, ?_, ?_⟩
  ·intro y0 y1 y2
   unfold collatorref04_Same.l0
   repeat' first
   | (with_reducible exact ih0 _ _ _)
   | (with_reducible exact ih1 _ _ _ _)
   | (with_reducible exact ih2 _ _ _ _)
   | (with_reducible exact LeO.refl _)
   | (with_reducible exact LeO.none _)
   | (with_reducible refine LeO.ite ?_ ?_)
   | (with_reducible refine LeO.bind ?_ (fun _ => ?_))
   | exact ih0 _ _ _
   | exact ih1 _ _ _ _
   | exact ih2 _ _ _ _
   | exact LeO.none _
   | refine LeO.ite ?_ ?_
   | refine LeO.bind ?_ (fun _ => ?_)
  ·intro y0 y1 y2 y3
   unfold collatorref04_Same.j1
   repeat' first
   | (with_reducible exact ih0 _ _ _)
   | (with_reducible exact ih1 _ _ _ _)
   | (with_reducible exact ih2 _ _ _ _)
   | (with_reducible exact LeO.refl _)
   | (with_reducible exact LeO.none _)
   | (with_reducible refine LeO.ite ?_ ?_)
   | (with_reducible refine LeO.bind ?_ (fun _ => ?_))
   | exact ih0 _ _ _
   | exact ih1 _ _ _ _
   | exact ih2 _ _ _ _
   | exact LeO.none _
   | refine LeO.ite ?_ ?_
   | refine LeO.bind ?_ (fun _ => ?_)
  ·intro y0 y1 y2 y3
   unfold collatorref04_Same.l1
   repeat' first
   | (with_reducible exact ih0 _ _ _)
   | (with_reducible exact ih1 _ _ _ _)
   | (with_reducible exact ih2 _ _ _ _)
   | (with_reducible exact LeO.refl _)
   | (with_reducible exact LeO.none _)
   | (with_reducible refine LeO.ite ?_ ?_)
   | (with_reducible refine LeO.bind ?_ (fun _ => ?_))
   | exact ih0 _ _ _
   | exact ih1 _ _ _ _
   | exact ih2 _ _ _ _
   | exact LeO.none _
   | refine LeO.ite ?_ ?_
   | refine LeO.bind ?_ (fun _ => ?_)
theorem collatorref04_Same.mono : ∀ a0 a1 k, LeO (collatorref04_Same.f k a0 a1) (collatorref04_Same.f (k + 1) a0 a1) := by
 intro a0 a1 k
 obtain ⟨ih0, ih1, ih2⟩ := collatorref04_Same.mono_l k
 unfold collatorref04_Same.f
 repeat' first
   | (with_reducible exact ih0 _ _ _)
   | (with_reducible exact ih1 _ _ _ _)
   | (with_reducible exact ih2 _ _ _ _)
   | (with_reducible exact LeO.refl _)
   | (with_reducible exact LeO.none _)
   | (with_reducible refine LeO.ite ?_ ?_)
   | (with_reducible refine LeO.bind ?_ (fun _ => ?_))
   | exact ih0 _ _ _
   | exact ih1 _ _ _ _
   | exact ih2 _ _ _ _
   | exact LeO.none _
   | refine LeO.ite ?_ ?_
   | refine LeO.bind ?_ (fun _ => ?_)
set_option maxHeartbeats 8000000 in
set_option maxRecDepth 100000 in
theorem collatorref04_Same.calls (k : Nat) (A0 : Option Addr) (c0 : Nat) (l0 : List (S31)) (A1 : Option Addr) (c1 : Nat) (l1 : List (S31)) (r : Bool) (w : World) (hr0 : Kd.C k31 w A0 l0.length l0) (hc0 : l0.length ≤ c0) (hr1 : Kd.C k31 w A1 l1.length l1) (hc1 : l1.length ≤ c1) (h : collatorref04_Same.f k l0 l1 = some r) :
  Calls Try.prog 20 #[.slice A0 l0.length c0, .slice A1 l1.length c1] w fun e w' => e = .returned (.bool r) ∧ Drawn0 w w' := by
 have HR0 := Aside0.mk hr0
 have HC0 := Aside0.mk hc0
 clear hr0 hc0
 have HR1 := Aside0.mk hr1
 have HC1 := Aside0.mk hc1
 clear hr1 hc1
 have H : (if (l0.length : Int) = (l1.length : Int) then (collatorref04_Same.l0 k l0 l1 0) else (some false)) = some r := h
 clear h
 by_cases c3 : (l0.length : Int) = (l1.length : Int)
 ·rw [if_pos c3] at H
  have c3b0 : ((l0.length : Int) == (l1.length : Int)) = true := beq_iff_eq.mpr c3
  have c3b1 : ((l0.length : Int) != (l1.length : Int)) = false := bne_eq_false_iff_eq.mpr c3
  have c3b2 : (l0.length == l1.length) = true := by first | simpa using c3 | (simp at c3 ⊢; omega)
  clear c3
  have H' := Aside0.mk H
  clear H
  go_enter Try.func20, Try.ntmps20
  go_wp2
  repeat (go_quiet (fail); try go_wp2)
  go_loopg [5] k (fun kq v5 w' => ∃ (x5_1 : Int), v5 = .int .i64 x5_1 ∧ Aside0 (collatorref04_Same.l0 kq l0 l1 x5_1 = some r) ∧ Aside0 (kq ≤ k) ∧ Drawn0 w w')
  case atStart => exact ⟨(0), rf_, H', ⟨Nat.le_refl _⟩, by repeat (first | exact Drawn0.refl _ | apply Drawn0.step)⟩
  case round =>
   clear H'
   (try clear c1);(try clear c2);(try clear p2);(try clear c3);(try clear c3b0);(try clear c3b1);(try clear c3b2)
   obtain ⟨x5_1, rfl, HA, HK1, ⟨m1, rfl⟩⟩ := hrel
   cases gk with
   | zero => exact absurd HA.out (by simp [collatorref04_Same.l0])
   | succ k1 =>
    have H := HA.out
    clear HA
    simp only [collatorref04_Same.l0] at H
    by_cases c4 : x5_1 < (l0.length : Int)
    ·rw [if_pos c4] at H
     have c4b0 : decide (x5_1 < (l0.length : Int)) = true := decide_eq_true c4
     clear c4
     have HC5 := Aside0.mk H
     clear H
     go_upto_region 6 with (fail)
     repeat (go_quiet (fail); go_upto_region 6 with (fail))
     go_cut [56] (fun v56 wc => ∃ (kq : Nat) (x56_4 : Bool), v56 = .bool x56_4 ∧ Aside0 (collatorref04_Same.j1 kq l0 l1 x5_1 x56_4 = some r) ∧ Aside0 (kq ≤ k1) ∧ Drawn0 w wc)
     case first =>
      have H := HC5.out
      clear HC5
      by_cases c6 : 0 ≤ x5_1
      ·rw [if_pos c6] at H
       have c6b0 : decide (0 ≤ x5_1) = true := decide_eq_true c6
       clear c6
       (first | rw [c6b0] | rw [c6b1] | (simp only [i64_w, i32_w]; rw [c6b0]) | skip)
       by_cases c7 : x5_1 < (l1.length : Int)
       ·rw [if_pos c7] at H
        have c7b0 : decide (x5_1 < (l1.length : Int)) = true := decide_eq_true c7
        clear c7
        by_cases c8 : ((rd_T31 l0 x5_1).f0) = ((rd_T31 l1 x5_1).f0)
        ·rw [if_pos c8] at H
         have c8b0 : (((rd_T31 l0 x5_1).f0) == ((rd_T31 l1 x5_1).f0)) = true := beq_iff_eq.mpr c8
         have c8b1 : (((rd_T31 l0 x5_1).f0) != ((rd_T31 l1 x5_1).f0)) = false := bne_eq_false_iff_eq.mpr c8
         clear c8
         by_cases c9 : ((rd_T31 l0 x5_1).f1) = ((rd_T31 l1 x5_1).f1)
         ·rw [if_pos c9] at H
          have c9b0 : (((rd_T31 l0 x5_1).f1) == ((rd_T31 l1 x5_1).f1)) = true := beq_iff_eq.mpr c9
          have c9b1 : (((rd_T31 l0 x5_1).f1) != ((rd_T31 l1 x5_1).f1)) = false := bne_eq_false_iff_eq.mpr c9
          clear c9
          have H' := Aside0.mk H
          clear H
          have p263 : 0 ≤ (x5_1 : Int) := of_decide_eq_true as_
          have q263 : x5_1 < (l0.length : Int) := of_decide_eq_true as_
          obtain ⟨ad263, A263_2, c263_2, e263, hx263_0, hx263_1, hx263_2, hl263_2, hi263_2⟩ := at_T31 HR0.out x5_1 p263 q263
          cases e263
          have HR263_2 := Aside0.mk hi263_2
          have HC263_2 := Aside0.mk hl263_2
          clear hi263_2 hl263_2
          replace p263 := eq_true p263
          replace q263 := eq_true q263
          have p264 : 0 ≤ (x5_1 : Int) := of_decide_eq_true as_
          have q264 : x5_1 < (l1.length : Int) := of_decide_eq_true as_
          obtain ⟨ad264, A264_2, c264_2, e264, hx264_0, hx264_1, hx264_2, hl264_2, hi264_2⟩ := at_T31 HR1.out x5_1 p264 q264
          cases e264
          have HR264_2 := Aside0.mk hi264_2
          have HC264_2 := Aside0.mk hl264_2
          clear hi264_2 hl264_2
          replace p264 := eq_true p264
          replace q264 := eq_true q264
          have p265 : 0 ≤ (x5_1 : Int) := of_decide_eq_true as_
          have q265 : x5_1 < (l0.length : Int) := of_decide_eq_true as_
          obtain ⟨ad265, A265_2, c265_2, e265, hx265_0, hx265_1, hx265_2, hl265_2, hi265_2⟩ := at_T31 HR0.out x5_1 p265 q265
          obtain rfl : ad263 = ad265 := (by injection e265)
          have HR265_2 := Aside0.mk hi265_2
          have HC265_2 := Aside0.mk hl265_2
          clear hi265_2 hl265_2
          replace p265 := eq_true p265
          replace q265 := eq_true q265
          have ea_ := Option.some.inj (hx263_2.symm.trans hx265_2)
          injection ea_ with ea_ en_ ec_
          subst ea_
          subst ec_
          clear en_
          have p266 : 0 ≤ (x5_1 : Int) := of_decide_eq_true as_
          have q266 : x5_1 < (l1.length : Int) := of_decide_eq_true as_
          obtain ⟨ad266, A266_2, c266_2, e266, hx266_0, hx266_1, hx266_2, hl266_2, hi266_2⟩ := at_T31 HR1.out x5_1 p266 q266
          obtain rfl : ad264 = ad266 := (by injection e266)
          have HR266_2 := Aside0.mk hi266_2
          have HC266_2 := Aside0.mk hl266_2
          clear hi266_2 hl266_2
          replace p266 := eq_true p266
          replace q266 := eq_true q266
          have ea_ := Option.some.inj (hx264_2.symm.trans hx266_2)
          injection ea_ with ea_ en_ ec_
          subst ea_
          subst ec_
          clear en_
          have p267 : 0 ≤ (x5_1 : Int) := of_decide_eq_true as_
          have q267 : x5_1 < (l0.length : Int) := of_decide_eq_true as_
          obtain ⟨ad267, A267_2, c267_2, e267, hx267_0, hx267_1, hx267_2, hl267_2, hi267_2⟩ := at_T31 HR0.out x5_1 p267 q267
          obtain rfl : ad263 = ad267 := (by injection e267)
          have HR267_2 := Aside0.mk hi267_2
          have HC267_2 := Aside0.mk hl267_2
          clear hi267_2 hl267_2
          replace p267 := eq_true p267
          replace q267 := eq_true q267
          have ea_ := Option.some.inj (hx263_2.symm.trans hx267_2)
          injection ea_ with ea_ en_ ec_
          subst ea_
          subst ec_
          clear en_
          have p268 : 0 ≤ (x5_1 : Int) := of_decide_eq_true as_
          have q268 : x5_1 < (l1.length : Int) := of_decide_eq_true as_
          obtain ⟨ad268, A268_2, c268_2, e268, hx268_0, hx268_1, hx268_2, hl268_2, hi268_2⟩ := at_T31 HR1.out x5_1 p268 q268
          obtain rfl : ad264 = ad268 := (by injection e268)
          have HR268_2 := Aside0.mk hi268_2
          have HC268_2 := Aside0.mk hl268_2
          clear hi268_2 hl268_2
          replace p268 := eq_true p268
          replace q268 := eq_true q268
          have ea_ := Option.some.inj (hx264_2.symm.trans hx268_2)
          injection ea_ with ea_ en_ ec_
          subst ea_
          subst ec_
          clear en_
          go_wp2
          repeat (go_quiet (fail); try go_wp2)
          go_meet
          case rel => exact ⟨_, (((((rd_T31 l0 x5_1).f2).length : Int) != (((rd_T31 l1 x5_1).f2).length : Int))), rf_, H', ⟨by have := HK1.out; first | omega | exact Nat.le_refl _⟩, by repeat (first | exact Drawn0.refl _ | apply Drawn0.step)⟩
         ·rw [if_neg c9] at H
          have c9b0 : (((rd_T31 l0 x5_1).f1) == ((rd_T31 l1 x5_1).f1)) = false := beq_eq_false_iff_ne.mpr c9
          have c9b1 : (((rd_T31 l0 x5_1).f1) != ((rd_T31 l1 x5_1).f1)) = true := bne_iff_ne.mpr c9
          have H' := Aside0.mk H
          clear H
          have p263 : 0 ≤ (x5_1 : Int) := of_decide_eq_true as_
          have q263 : x5_1 < (l0.length : Int) := of_decide_eq_true as_
          obtain ⟨ad263, A263_2, c263_2, e263, hx263_0, hx263_1, hx263_2, hl263_2, hi263_2⟩ := at_T31 HR0.out x5_1 p263 q263
          cases e263
          have HR263_2 := Aside0.mk hi263_2
          have HC263_2 := Aside0.mk hl263_2
          clear hi263_2 hl263_2
          replace p263 := eq_true p263
          replace q263 := eq_true q263
          have p264 : 0 ≤ (x5_1 : Int) := of_decide_eq_true as_
          have q264 : x5_1 < (l1.length : Int) := of_decide_eq_true as_
          obtain ⟨ad264, A264_2, c264_2, e264, hx264_0, hx264_1, hx264_2, hl264_2, hi264_2⟩ := at_T31 HR1.out x5_1 p264 q264
          cases e264
          have HR264_2 := Aside0.mk hi264_2
          have HC264_2 := Aside0.mk hl264_2
          clear hi264_2 hl264_2
          replace p264 := eq_true p264
          replace q264 := eq_true q264
          have p265 : 0 ≤ (x5_1 : Int) := of_decide_eq_true as_
          have q265 : x5_1 < (l0.length : Int) := of_decide_eq_true as_
          obtain ⟨ad265, A265_2, c265_2, e265, hx265_0, hx265_1, hx265_2, hl265_2, hi265_2⟩ := at_T31 HR0.out x5_1 p265 q265
          obtain rfl : ad263 = ad265 := (by injection e265)
          have HR265_2 := Aside0.mk hi265_2
          have HC265_2 := Aside0.mk hl265_2
          clear hi265_2 hl265_2
          replace p265 := eq_true p265
          replace q265 := eq_true q265
          have ea_ := Option.some.inj (hx263_2.symm.trans hx265_2)
          injection ea_ with ea_ en_ ec_
          subst ea_
          subst ec_
          clear en_
          have p266 : 0 ≤ (x5_1 : Int) := of_decide_eq_true as_
          have q266 : x5_1 < (l1.length : Int) := of_decide_eq_true as_
          obtain ⟨ad266, A266_2, c266_2, e266, hx266_0, hx266_1, hx266_2, hl266_2, hi266_2⟩ := at_T31 HR1.out x5_1 p266 q266
          obtain rfl : ad264 = ad266 := (by injection e266)
          have HR266_2 := Aside0.mk hi266_2
          have HC266_2 := Aside0.mk hl266_2
          clear hi266_2 hl266_2
          replace p266 := eq_true p266
          replace q266 := eq_true q266
          have ea_ := Option.some.inj (hx264_2.symm.trans hx266_2)
          injection ea_ with ea_ en_ ec_
          subst ea_
          subst ec_
          clear en_
          go_wp2
          repeat (go_quiet (fail); try go_wp2)
          go_meet
          case rel => exact ⟨_, (true), rf_, H', ⟨by have := HK1.out; first | omega | exact Nat.le_refl _⟩, by repeat (first | exact Drawn0.refl _ | apply Drawn0.step)⟩
        ·rw [if_neg c8] at H
         have c8b0 : (((rd_T31 l0 x5_1).f0) == ((rd_T31 l1 x5_1).f0)) = false := beq_eq_false_iff_ne.mpr c8
         have c8b1 : (((rd_T31 l0 x5_1).f0) != ((rd_T31 l1 x5_1).f0)) = true := bne_iff_ne.mpr c8
         have H' := Aside0.mk H
         clear H
         have p263 : 0 ≤ (x5_1 : Int) := of_decide_eq_true as_
         have q263 : x5_1 < (l0.length : Int) := of_decide_eq_true as_
         obtain ⟨ad263, A263_2, c263_2, e263, hx263_0, hx263_1, hx263_2, hl263_2, hi263_2⟩ := at_T31 HR0.out x5_1 p263 q263
         cases e263
         have HR263_2 := Aside0.mk hi263_2
         have HC263_2 := Aside0.mk hl263_2
         clear hi263_2 hl263_2
         replace p263 := eq_true p263
         replace q263 := eq_true q263
         have p264 : 0 ≤ (x5_1 : Int) := of_decide_eq_true as_
         have q264 : x5_1 < (l1.length : Int) := of_decide_eq_true as_
         obtain ⟨ad264, A264_2, c264_2, e264, hx264_0, hx264_1, hx264_2, hl264_2, hi264_2⟩ := at_T31 HR1.out x5_1 p264 q264
         cases e264
         have HR264_2 := Aside0.mk hi264_2
         have HC264_2 := Aside0.mk hl264_2
         clear hi264_2 hl264_2
         replace p264 := eq_true p264
         replace q264 := eq_true q264
         go_wp2
         repeat (go_quiet (fail); try go_wp2)
         go_meet
         case rel => exact ⟨_, (true), rf_, H', ⟨by have := HK1.out; first | omega | exact Nat.le_refl _⟩, by repeat (first | exact Drawn0.refl _ | apply Drawn0.step)⟩
       ·rw [if_neg c7] at H
        exact absurd H (by simp)
      ·rw [if_neg c6] at H
       exact absurd H (by simp)
     case rest =>
      clear HC5
      (try clear c1);(try clear c2);(try clear p2);(try clear q2);(try clear hx2);(try clear c3);(try clear c3b0);(try clear c3b1);(try clear c3b2);(try clear c4);(try clear c4b0);(try clear c6);(try clear c6b0);(try clear c7);(try clear c7b0);(try clear c8);(try clear c8b0);(try clear c8b1);(try clear c9);(try clear c9b0);(try clear c9b1);(try clear hx263_0);(try clear hx263_1);(try clear hx263_2);(try clear hx264_0);(try clear hx264_1);(try clear hx264_2);(try clear hx265_0);(try clear hx265_1);(try clear hx265_2);(try clear hx266_0);(try clear hx266_1);(try clear hx266_2);(try clear hx267_0);(try clear hx267_1);(try clear hx267_2);(try clear hx268_0);(try clear hx268_1);(try clear hx268_2);(try clear p2);(try clear p263);(try clear p264);(try clear p265);(try clear p266);(try clear p267);(try clear p268);(try clear q263);(try clear q264);(try clear q265);(try clear q266);(try clear q267);(try clear q268)
      obtain ⟨kq, x56_4, rfl, HA, HJ4, ⟨mc4, rfl⟩⟩ := hcut
      cases kq with
      | zero => exact absurd HA.out (by simp [collatorref04_Same.j1])
      | succ kj4 =>
       have H := HA.out
       clear HA
       simp only [collatorref04_Same.j1] at H
       by_cases c10 : x56_4 = true
       ·subst c10
        have H1 : (some false) = some r := by rw [if_pos rfl] at H; exact H
        clear H
        have H := H1
        clear H1
        obtain rfl := Option.some.inj H
        go_wp2
        repeat (go_quiet (fail); try go_wp2)
        go_ret
        exact ⟨by first | rfl | (simp; done) | (simp [*]; done), by repeat (first | exact Drawn0.refl _ | apply Drawn0.step)⟩
       ·replace c10 := Bool.eq_false_iff.mpr c10
        subst c10
        have H1 : (collatorref04_Same.l1 kj4 l0 l1 x5_1 0) = some r := by rw [if_neg (show ¬ (false = true) by decide)] at H; exact H
        clear H
        have H := H1
        clear H1
        have H' := Aside0.mk H
        clear H
        go_wp2
        repeat (go_quiet (fail); try go_wp2)
        go_loopg [6] kj4 (fun kq v6 w' => ∃ (x6_3 : Int), v6 = .int .i64 x6_3 ∧ Aside0 (collatorref04_Same.l1 kq l0 l1 x5_1 x6_3 = some r) ∧ Aside0 (kq ≤ kj4) ∧ Drawn0 w w')
        case atStart => exact ⟨(0), rf_, H', ⟨Nat.le_refl _⟩, by repeat (first | exact Drawn0.refl _ | apply Drawn0.step)⟩
        case round =>
         clear H'
         (try clear c1);(try clear c2);(try clear p2);(try clear q2);(try clear hx2);(try clear c3);(try clear c3b0);(try clear c3b1);(try clear c3b2);(try clear c4);(try clear c4b0);(try clear c6);(try clear c6b0);(try clear c7);(try clear c7b0);(try clear c8);(try clear c8b0);(try clear c8b1);(try clear c9);(try clear c9b0);(try clear c9b1);(try clear c10);(try clear hx263_0);(try clear hx263_1);(try clear hx263_2);(try clear hx264_0);(try clear hx264_1);(try clear hx264_2);(try clear hx265_0);(try clear hx265_1);(try clear hx265_2);(try clear hx266_0);(try clear hx266_1);(try clear hx266_2);(try clear hx267_0);(try clear hx267_1);(try clear hx267_2);(try clear hx268_0);(try clear hx268_1);(try clear hx268_2);(try clear p2);(try clear p263);(try clear p264);(try clear p265);(try clear p266);(try clear p267);(try clear p268);(try clear q2);(try clear q263);(try clear q264);(try clear q265);(try clear q266);(try clear q267);(try clear q268)
         obtain ⟨x6_3, rfl, HA, HK3, ⟨m3, rfl⟩⟩ := hrel
         cases gk with
         | zero => exact absurd HA.out (by simp [collatorref04_Same.l1])
         | succ k3 =>
          have H := HA.out
          clear HA
          simp only [collatorref04_Same.l1] at H
          by_cases c11 : 0 ≤ x5_1
          ·rw [if_pos c11] at H
           have c11b0 : decide (0 ≤ x5_1) = true := decide_eq_true c11
           clear c11
           by_cases c12 : x5_1 < (l0.length : Int)
           ·rw [if_pos c12] at H
            have c12b0 : decide (x5_1 < (l0.length : Int)) = true := decide_eq_true c12
            clear c12
            by_cases c13 : x6_3 < (((rd_T31 l0 x5_1).f2).length : Int)
            ·rw [if_pos c13] at H
             have c13b0 : decide (x6_3 < (((rd_T31 l0 x5_1).f2).length : Int)) = true := decide_eq_true c13
             clear c13
             by_cases c14 : 0 ≤ x6_3
             ·rw [if_pos c14] at H
              have c14b0 : decide (0 ≤ x6_3) = true := decide_eq_true c14
              clear c14
              by_cases c15 : x5_1 < (l1.length : Int)
              ·rw [if_pos c15] at H
               have c15b0 : decide (x5_1 < (l1.length : Int)) = true := decide_eq_true c15
               clear c15
               by_cases c16 : x6_3 < (((rd_T31 l1 x5_1).f2).length : Int)
               ·rw [if_pos c16] at H
                have c16b0 : decide (x6_3 < (((rd_T31 l1 x5_1).f2).length : Int)) = true := decide_eq_true c16
                clear c16
                by_cases c17 : (rdOf ByteArray.empty ((rd_T31 l0 x5_1).f2) x6_3).toList = (rdOf ByteArray.empty ((rd_T31 l1 x5_1).f2) x6_3).toList
                ·rw [if_pos c17] at H
                 have c17b0 : ((rdOf ByteArray.empty ((rd_T31 l0 x5_1).f2) x6_3).toList == (rdOf ByteArray.empty ((rd_T31 l1 x5_1).f2) x6_3).toList) = true := beq_iff_eq.mpr c17
                 have c17b1 : ((rdOf ByteArray.empty ((rd_T31 l0 x5_1).f2) x6_3).toList != (rdOf ByteArray.empty ((rd_T31 l1 x5_1).f2) x6_3).toList) = false := bne_eq_false_iff_eq.mpr c17
                 clear c17
                 have H' := Aside0.mk H
                 clear H
                 have p269 : 0 ≤ (x5_1 : Int) := of_decide_eq_true as_
                 have q269 : x5_1 < (l0.length : Int) := of_decide_eq_true as_
                 obtain ⟨ad269, A269_2, c269_2, e269, hx269_0, hx269_1, hx269_2, hl269_2, hi269_2⟩ := at_T31 HR0.out x5_1 p269 q269
                 cases e269
                 have HR269_2 := Aside0.mk hi269_2
                 have HC269_2 := Aside0.mk hl269_2
                 clear hi269_2 hl269_2
                 replace p269 := eq_true p269
                 replace q269 := eq_true q269
                 have p270 : 0 ≤ (x5_1 : Int) := of_decide_eq_true as_
                 have q270 : x5_1 < (l0.length : Int) := of_decide_eq_true as_
                 obtain ⟨ad270, A270_2, c270_2, e270, hx270_0, hx270_1, hx270_2, hl270_2, hi270_2⟩ := at_T31 HR0.out x5_1 p270 q270
                 obtain rfl : ad269 = ad270 := (by injection e270)
                 have HR270_2 := Aside0.mk hi270_2
                 have HC270_2 := Aside0.mk hl270_2
                 clear hi270_2 hl270_2
                 replace p270 := eq_true p270
                 replace q270 := eq_true q270
                 have ea_ := Option.some.inj (hx269_2.symm.trans hx270_2)
                 injection ea_ with ea_ en_ ec_
                 subst ea_
                 subst ec_
                 clear en_
                 have p271 : 0 ≤ (x6_3 : Int) := of_decide_eq_true as_
                 have q271 : x6_3 < (((rd_T31 l0 x5_1).f2).length : Int) := of_decide_eq_true as_
                 obtain ⟨ad271, e271, hx271_0⟩ := Kd.at_string HR270_2.out x6_3 p271 q271
                 cases e271
                 replace p271 := eq_true p271
                 replace q271 := eq_true q271
                 have p272 : 0 ≤ (x5_1 : Int) := of_decide_eq_true as_
                 have q272 : x5_1 < (l1.length : Int) := of_decide_eq_true as_
                 obtain ⟨ad272, A272_2, c272_2, e272, hx272_0, hx272_1, hx272_2, hl272_2, hi272_2⟩ := at_T31 HR1.out x5_1 p272 q272
                 cases e272
                 have HR272_2 := Aside0.mk hi272_2
                 have HC272_2 := Aside0.mk hl272_2
                 clear hi272_2 hl272_2
                 replace p272 := eq_true p272
                 replace q272 := eq_true q272
                 have p273 : 0 ≤ (x6_3 : Int) := of_decide_eq_true as_
                 have q273 : x6_3 < (((rd_T31 l1 x5_1).f2).length : Int) := of_decide_eq_true as_
                 obtain ⟨ad273, e273, hx273_0⟩ := Kd.at_string HR272_2.out x6_3 p273 q273
                 cases e273
                 replace p273 := eq_true p273
                 replace q273 := eq_true q273
                 go_wp2
                 repeat (go_quiet (fail); try go_wp2)
                 go_roundg k3
                 case measure => have := HK1.out; have := HJ4.out; have := HK3.out; omega
                 case rel => exact ⟨(wrap64 (x6_3 + 1)), rf_, H', ⟨by have := HK1.out; have := HJ4.out; have := HK3.out; omega⟩, by repeat (first | exact Drawn0.refl _ | apply Drawn0.step)⟩
                ·rw [if_neg c17] at H
                 have c17b0 : ((rdOf ByteArray.empty ((rd_T31 l0 x5_1).f2) x6_3).toList == (rdOf ByteArray.empty ((rd_T31 l1 x5_1).f2) x6_3).toList) = false := beq_eq_false_iff_ne.mpr c17
                 have c17b1 : ((rdOf ByteArray.empty ((rd_T31 l0 x5_1).f2) x6_3).toList != (rdOf ByteArray.empty ((rd_T31 l1 x5_1).f2) x6_3).toList) = true := bne_iff_ne.mpr c17
                 obtain rfl := Option.some.inj H
                 have p269 : 0 ≤ (x5_1 : Int) := of_decide_eq_true as_
                 have q269 : x5_1 < (l0.length : Int) := of_decide_eq_true as_
                 obtain ⟨ad269, A269_2, c269_2, e269, hx269_0, hx269_1, hx269_2, hl269_2, hi269_2⟩ := at_T31 HR0.out x5_1 p269 q269
                 cases e269
                 have HR269_2 := Aside0.mk hi269_2
                 have HC269_2 := Aside0.mk hl269_2
                 clear hi269_2 hl269_2
                 replace p269 := eq_true p269
                 replace q269 := eq_true q269
                 have p270 : 0 ≤ (x5_1 : Int) := of_decide_eq_true as_
                 have q270 : x5_1 < (l0.length : Int) := of_decide_eq_true as_
                 obtain ⟨ad270, A270_2, c270_2, e270, hx270_0, hx270_1, hx270_2, hl270_2, hi270_2⟩ := at_T31 HR0.out x5_1 p270 q270
                 obtain rfl : ad269 = ad270 := (by injection e270)
                 have HR270_2 := Aside0.mk hi270_2
                 have HC270_2 := Aside0.mk hl270_2
                 clear hi270_2 hl270_2
                 replace p270 := eq_true p270
                 replace q270 := eq_true q270
                 have ea_ := Option.some.inj (hx269_2.symm.trans hx270_2)
                 injection ea_ with ea_ en_ ec_
                 subst ea_
                 subst ec_
                 clear en_
                 have p271 : 0 ≤ (x6_3 : Int) := of_decide_eq_true as_
                 have q271 : x6_3 < (((rd_T31 l0 x5_1).f2).length : Int) := of_decide_eq_true as_
                 obtain ⟨ad271, e271, hx271_0⟩ := Kd.at_string HR270_2.out x6_3 p271 q271
                 cases e271
                 replace p271 := eq_true p271
                 replace q271 := eq_true q271
                 have p272 : 0 ≤ (x5_1 : Int) := of_decide_eq_true as_
                 have q272 : x5_1 < (l1.length : Int) := of_decide_eq_true as_
                 obtain ⟨ad272, A272_2, c272_2, e272, hx272_0, hx272_1, hx272_2, hl272_2, hi272_2⟩ := at_T31 HR1.out x5_1 p272 q272
                 cases e272
                 have HR272_2 := Aside0.mk hi272_2
                 have HC272_2 := Aside0.mk hl272_2
                 clear hi272_2 hl272_2
                 replace p272 := eq_true p272
                 replace q272 := eq_true q272
                 have p273 : 0 ≤ (x6_3 : Int) := of_decide_eq_true as_
                 have q273 : x6_3 < (((rd_T31 l1 x5_1).f2).length : Int) := of_decide_eq_true as_
                 obtain ⟨ad273, e273, hx273_0⟩ := Kd.at_string HR272_2.out x6_3 p273 q273
                 cases e273
                 replace p273 := eq_true p273
                 replace q273 := eq_true q273
                 go_wp2
                 repeat (go_quiet (fail); try go_wp2)
                 go_ret
                 exact ⟨by first | rfl | (simp; done) | (simp [*]; done), by repeat (first | exact Drawn0.refl _ | apply Drawn0.step)⟩
               ·rw [if_neg c16] at H
                exact absurd H (by simp)
              ·rw [if_neg c15] at H
               exact absurd H (by simp)
             ·rw [if_neg c14] at H
              exact absurd H (by simp)
            ·rw [if_neg c13] at H
             have c13b0 : decide (x6_3 < (((rd_T31 l0 x5_1).f2).length : Int)) = false := decide_eq_false c13
             clear c13
             have H' := Aside0.mk H
             clear H
             have p269 : 0 ≤ (x5_1 : Int) := of_decide_eq_true as_
             have q269 : x5_1 < (l0.length : Int) := of_decide_eq_true as_
             obtain ⟨ad269, A269_2, c269_2, e269, hx269_0, hx269_1, hx269_2, hl269_2, hi269_2⟩ := at_T31 HR0.out x5_1 p269 q269
             cases e269
             have HR269_2 := Aside0.mk hi269_2
             have HC269_2 := Aside0.mk hl269_2
             clear hi269_2 hl269_2
             replace p269 := eq_true p269
             replace q269 := eq_true q269
             go_wp2
             repeat (go_quiet (fail); try go_wp2)
             go_roundg k3
             case measure => have := HK1.out; have := HJ4.out; have := HK3.out; omega
             case rel => exact ⟨(wrap64 (x5_1 + 1)), rf_, H', ⟨by have := HK1.out; have := HJ4.out; have := HK3.out; omega⟩, by repeat (first | exact Drawn0.refl _ | apply Drawn0.step)⟩
           ·rw [if_neg c12] at H
            exact absurd H (by simp)
          ·rw [if_neg c11] at H
           exact absurd H (by simp)
    ·rw [if_neg c4] at H
     have c4b0 : decide (x5_1 < (l0.length : Int)) = false := decide_eq_false c4
     clear c4
     obtain rfl := Option.some.inj H
     go_wp2
     repeat (go_quiet (fail); try go_wp2)
     go_ret
     exact ⟨by first | rfl | (simp; done) | (simp [*]; done), by repeat (first | exact Drawn0.refl _ | apply Drawn0.step)⟩
 ·rw [if_neg c3] at H
  have c3b0 : ((l0.length : Int) == (l1.length : Int)) = false := beq_eq_false_iff_ne.mpr c3
  have c3b1 : ((l0.length : Int) != (l1.length : Int)) = true := bne_iff_ne.mpr c3
  have c3b2 : (l0.length == l1.length) = false := by first | simpa using c3 | (simp at c3 ⊢; omega)
  obtain rfl := Option.some.inj H
  go_enter Try.func20, Try.ntmps20
  go_wp2
  repeat (go_quiet (fail); try go_wp2)
  go_ret
  exact ⟨by first | rfl | (simp; done) | (simp [*]; done), by repeat (first | exact Drawn0.refl _ | apply Drawn0.step)⟩

end Go.Proofs.Ytgobidmfbjmpkaa.P
