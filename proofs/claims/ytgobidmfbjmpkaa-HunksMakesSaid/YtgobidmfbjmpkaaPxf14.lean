/- Laid for this claim by hp.py, this session's program round the kit's print: functions of the program as plain Lean functions, the proofs that the code comes to their answers, and the rows of the laws. Not trusted: Lean checks it. -/
import Derived.Test.YtgobidmfbjmpkaaPx0
import Derived.Test.YtgobidmfbjmpkaaHShr
import Derived.Test.YtgobidmfbjmpkaaPxf20
namespace Go.Proofs.Ytgobidmfbjmpkaa.P
open Go.RowKit Go.Proofs.YtgobidmfbjmpkaaW.PrintWords Go.Proofs.YtgobidmfbjmpkaaW.PrintLast Go.Proofs.YtgobidmfbjmpkaaW.PrintMore
attribute [local go_sem] max2_int min2_int max_two min_two max_three min_three max_four min_four   -- for this text's walks alone
set_option linter.unusedVariables false
set_option linter.unusedSimpArgs false

/-! ### collatorref06_Same: function 14 -/
def collatorref06_Same.l0 : Nat → List (S28) → List (S28) → Int → Option (Bool)
 | 0, _, _, _ => none
 | k + 1, x0, x1, x5 => if x5 < (x0.length : Int) then (if 0 ≤ x5 then (if x5 < (x1.length : Int) then ((collatorref04_Same.f k ((rd_T28 x0 x5).f2) ((rd_T28 x1 x5).f2)).bind fun t276 => (if t276 = true then (if ((rd_T28 x0 x5).f0) = ((rd_T28 x1 x5).f0) then (if ((rd_T28 x0 x5).f1) = ((rd_T28 x1 x5).f1) then (collatorref06_Same.l0 k x0 x1 (wrap64 (x5 + 1))) else (some false)) else (some false)) else (some false))) else (none)) else (none)) else (some true)
def collatorref06_Same.f (k : Nat) (l0 : List (S28)) (l1 : List (S28)) : Option (Bool) := if (l0.length : Int) = (l1.length : Int) then (collatorref06_Same.l0 k l0 l1 0) else (some false)
theorem collatorref06_Same.mono_l : ∀ k, (∀ y0 y1 y2, LeO (collatorref06_Same.l0 k y0 y1 y2) (collatorref06_Same.l0 (k + 1) y0 y1 y2))
 | 0 => fun _ _ _ r h => by simp [collatorref06_Same.l0] at h
 | k + 1 => by
  have ih0 := collatorref06_Same.mono_l k
  ·intro y0 y1 y2
   unfold collatorref06_Same.l0
   repeat' first
   | (with_reducible exact ih0 _ _ _)
   | (with_reducible exact collatorref04_Same.mono _ _ _)
   | (with_reducible exact LeO.refl _)
   | (with_reducible exact LeO.none _)
   | (with_reducible refine LeO.ite ?_ ?_)
   | (with_reducible refine LeO.bind ?_ (fun _ => ?_))
   | exact ih0 _ _ _
   | exact collatorref04_Same.mono _ _ _
   | exact LeO.none _
   | refine LeO.ite ?_ ?_
   | refine LeO.bind ?_ (fun _ => ?_)
theorem collatorref06_Same.mono : ∀ a0 a1 k, LeO (collatorref06_Same.f k a0 a1) (collatorref06_Same.f (k + 1) a0 a1) := by
 intro a0 a1 k
 have ih0 := collatorref06_Same.mono_l k
 unfold collatorref06_Same.f
 repeat' first
   | (with_reducible exact ih0 _ _ _)
   | (with_reducible exact collatorref04_Same.mono _ _ _)
   | (with_reducible exact LeO.refl _)
   | (with_reducible exact LeO.none _)
   | (with_reducible refine LeO.ite ?_ ?_)
   | (with_reducible refine LeO.bind ?_ (fun _ => ?_))
   | exact ih0 _ _ _
   | exact collatorref04_Same.mono _ _ _
   | exact LeO.none _
   | refine LeO.ite ?_ ?_
   | refine LeO.bind ?_ (fun _ => ?_)
set_option maxHeartbeats 8000000 in
set_option maxRecDepth 100000 in
theorem collatorref06_Same.calls (k : Nat) (A0 : Option Addr) (c0 : Nat) (l0 : List (S28)) (A1 : Option Addr) (c1 : Nat) (l1 : List (S28)) (r : Bool) (w : World) (hr0 : Kd.C k28 w A0 l0.length l0) (hc0 : l0.length ≤ c0) (hr1 : Kd.C k28 w A1 l1.length l1) (hc1 : l1.length ≤ c1) (h : collatorref06_Same.f k l0 l1 = some r) :
  Calls Try.prog 14 #[.slice A0 l0.length c0, .slice A1 l1.length c1] w fun e w' => e = .returned (.bool r) ∧ Drawn0 w w' := by
 have HR0 := Aside0.mk hr0
 have HC0 := Aside0.mk hc0
 clear hr0 hc0
 have HR1 := Aside0.mk hr1
 have HC1 := Aside0.mk hc1
 clear hr1 hc1
 have H : (if (l0.length : Int) = (l1.length : Int) then (collatorref06_Same.l0 k l0 l1 0) else (some false)) = some r := h
 clear h
 by_cases c3 : (l0.length : Int) = (l1.length : Int)
 ·rw [if_pos c3] at H
  have c3b0 : ((l0.length : Int) == (l1.length : Int)) = true := beq_iff_eq.mpr c3
  have c3b1 : ((l0.length : Int) != (l1.length : Int)) = false := bne_eq_false_iff_eq.mpr c3
  have c3b2 : (l0.length == l1.length) = true := by first | simpa using c3 | (simp at c3 ⊢; omega)
  clear c3
  have H' := Aside0.mk H
  clear H
  go_enter Try.func14, Try.ntmps14
  go_wp2
  repeat (go_quiet (fail); try go_wp2)
  go_loopg [5] k (fun kq v5 w' => ∃ (x5_1 : Int), v5 = .int .i64 x5_1 ∧ Aside0 (collatorref06_Same.l0 kq l0 l1 x5_1 = some r) ∧ Aside0 (kq ≤ k) ∧ Drawn0 w w')
  case atStart => exact ⟨(0), rf_, H', ⟨Nat.le_refl _⟩, by repeat (first | exact Drawn0.refl _ | apply Drawn0.step)⟩
  case round =>
   clear H'
   (try clear c1);(try clear p2);(try clear c3);(try clear c3b0);(try clear c3b1);(try clear c3b2)
   obtain ⟨x5_1, rfl, HA, HK1, ⟨m1, rfl⟩⟩ := hrel
   cases gk with
   | zero => exact absurd HA.out (by simp [collatorref06_Same.l0])
   | succ k1 =>
    have H := HA.out
    clear HA
    simp only [collatorref06_Same.l0] at H
    by_cases c4 : x5_1 < (l0.length : Int)
    ·rw [if_pos c4] at H
     have c4b0 : decide (x5_1 < (l0.length : Int)) = true := decide_eq_true c4
     clear c4
     by_cases c5 : 0 ≤ x5_1
     ·rw [if_pos c5] at H
      have c5b0 : decide (0 ≤ x5_1) = true := decide_eq_true c5
      clear c5
      by_cases c6 : x5_1 < (l1.length : Int)
      ·rw [if_pos c6] at H
       have c6b0 : decide (x5_1 < (l1.length : Int)) = true := decide_eq_true c6
       clear c6
       replace H := Option.bind_eq_some_iff.mp H
       obtain ⟨t276, A70, H⟩ := H
       replace H : (if t276 = true then (if ((rd_T28 l0 x5_1).f0) = ((rd_T28 l1 x5_1).f0) then (if ((rd_T28 l0 x5_1).f1) = ((rd_T28 l1 x5_1).f1) then (collatorref06_Same.l0 k1 l0 l1 (wrap64 (x5_1 + 1))) else (some false)) else (some false)) else (some false)) = some r := H
       have A7 := Aside0.mk A70
       clear A70
       by_cases c8 : t276 = true
       ·subst c8
        have H1 : (if ((rd_T28 l0 x5_1).f0) = ((rd_T28 l1 x5_1).f0) then (if ((rd_T28 l0 x5_1).f1) = ((rd_T28 l1 x5_1).f1) then (collatorref06_Same.l0 k1 l0 l1 (wrap64 (x5_1 + 1))) else (some false)) else (some false)) = some r := by rw [if_pos rfl] at H; exact H
        clear H
        have H := H1
        clear H1
        by_cases c9 : ((rd_T28 l0 x5_1).f0) = ((rd_T28 l1 x5_1).f0)
        ·rw [if_pos c9] at H
         have c9b0 : (((rd_T28 l0 x5_1).f0) == ((rd_T28 l1 x5_1).f0)) = true := beq_iff_eq.mpr c9
         have c9b1 : (((rd_T28 l0 x5_1).f0) != ((rd_T28 l1 x5_1).f0)) = false := bne_eq_false_iff_eq.mpr c9
         clear c9
         by_cases c10 : ((rd_T28 l0 x5_1).f1) = ((rd_T28 l1 x5_1).f1)
         ·rw [if_pos c10] at H
          have c10b0 : (((rd_T28 l0 x5_1).f1) == ((rd_T28 l1 x5_1).f1)) = true := beq_iff_eq.mpr c10
          have c10b1 : (((rd_T28 l0 x5_1).f1) != ((rd_T28 l1 x5_1).f1)) = false := bne_eq_false_iff_eq.mpr c10
          clear c10
          have H' := Aside0.mk H
          clear H
          have p274 : 0 ≤ (x5_1 : Int) := of_decide_eq_true as_
          have q274 : x5_1 < (l0.length : Int) := of_decide_eq_true as_
          obtain ⟨ad274, A274_2, c274_2, e274, hx274_0, hx274_1, hx274_2, hl274_2, hi274_2⟩ := at_T28 HR0.out x5_1 p274 q274
          cases e274
          have HR274_2 := Aside0.mk hi274_2
          have HC274_2 := Aside0.mk hl274_2
          clear hi274_2 hl274_2
          replace p274 := eq_true p274
          replace q274 := eq_true q274
          have p275 : 0 ≤ (x5_1 : Int) := of_decide_eq_true as_
          have q275 : x5_1 < (l1.length : Int) := of_decide_eq_true as_
          obtain ⟨ad275, A275_2, c275_2, e275, hx275_0, hx275_1, hx275_2, hl275_2, hi275_2⟩ := at_T28 HR1.out x5_1 p275 q275
          cases e275
          have HR275_2 := Aside0.mk hi275_2
          have HC275_2 := Aside0.mk hl275_2
          clear hi275_2 hl275_2
          replace p275 := eq_true p275
          replace q275 := eq_true q275
          go_wp2_with (first | (go_at_call 20; (with_reducible refine (collatorref04_Same.calls k1 _ _ ((rd_T28 l0 x5_1).f2) _ _ ((rd_T28 l1 x5_1).f2) true _ ?side1 ?side2 ?side3 ?side4 A7.out).mono ?_); (case side1 => repeat (first | exact HR274_2.out | (with_reducible refine Kd.C_alloc ?_ _) | (with_reducible refine Kd.C_drewN ?_ _) | (with_reducible refine Kd.C_drew ?_))); (case side2 => exact HC274_2.out); (case side3 => repeat (first | exact HR275_2.out | (with_reducible refine Kd.C_alloc ?_ _) | (with_reducible refine Kd.C_drewN ?_ _) | (with_reducible refine Kd.C_drew ?_))); (case side4 => exact HC275_2.out); rintro e w' ⟨rfl, ⟨nd, rfl⟩⟩; (try first | exact ⟨rfl, _, World.drewN_drewN _ _ _⟩ | exact ⟨rfl, _, Eq.trans (World.drewN_drewN _ _ _) (congrArg (World.drewN _) (Nat.add_assoc _ _ _))⟩); all_goals (have p277 : 0 ≤ (x5_1 : Int) := of_decide_eq_true as_; have q277 : x5_1 < (l0.length : Int) := of_decide_eq_true as_; obtain ⟨ad277, A277_2, c277_2, e277, hx277_0, hx277_1, hx277_2, hl277_2, hi277_2⟩ := at_T28 HR0.out x5_1 p277 q277; obtain rfl : ad274 = ad277 := (by injection e277); have HR277_2 := Aside0.mk hi277_2; have HC277_2 := Aside0.mk hl277_2; clear hi277_2 hl277_2; replace p277 := eq_true p277; replace q277 := eq_true q277; have ea_ := Option.some.inj (hx274_2.symm.trans hx277_2); injection ea_ with ea_ en_ ec_; subst ea_; subst ec_; clear en_; have p278 : 0 ≤ (x5_1 : Int) := of_decide_eq_true as_; have q278 : x5_1 < (l1.length : Int) := of_decide_eq_true as_; obtain ⟨ad278, A278_2, c278_2, e278, hx278_0, hx278_1, hx278_2, hl278_2, hi278_2⟩ := at_T28 HR1.out x5_1 p278 q278; obtain rfl : ad275 = ad278 := (by injection e278); have HR278_2 := Aside0.mk hi278_2; have HC278_2 := Aside0.mk hl278_2; clear hi278_2 hl278_2; replace p278 := eq_true p278; replace q278 := eq_true q278; have ea_ := Option.some.inj (hx275_2.symm.trans hx278_2); injection ea_ with ea_ en_ ec_; subst ea_; subst ec_; clear en_; have p279 : 0 ≤ (x5_1 : Int) := of_decide_eq_true as_; have q279 : x5_1 < (l0.length : Int) := of_decide_eq_true as_; obtain ⟨ad279, A279_2, c279_2, e279, hx279_0, hx279_1, hx279_2, hl279_2, hi279_2⟩ := at_T28 HR0.out x5_1 p279 q279; obtain rfl : ad274 = ad279 := (by injection e279); have HR279_2 := Aside0.mk hi279_2; have HC279_2 := Aside0.mk hl279_2; clear hi279_2 hl279_2; replace p279 := eq_true p279; replace q279 := eq_true q279; have ea_ := Option.some.inj (hx274_2.symm.trans hx279_2); injection ea_ with ea_ en_ ec_; subst ea_; subst ec_; clear en_; have p280 : 0 ≤ (x5_1 : Int) := of_decide_eq_true as_; have q280 : x5_1 < (l1.length : Int) := of_decide_eq_true as_; obtain ⟨ad280, A280_2, c280_2, e280, hx280_0, hx280_1, hx280_2, hl280_2, hi280_2⟩ := at_T28 HR1.out x5_1 p280 q280; obtain rfl : ad275 = ad280 := (by injection e280); have HR280_2 := Aside0.mk hi280_2; have HC280_2 := Aside0.mk hl280_2; clear hi280_2 hl280_2; replace p280 := eq_true p280; replace q280 := eq_true q280; have ea_ := Option.some.inj (hx275_2.symm.trans hx280_2); injection ea_ with ea_ en_ ec_; subst ea_; subst ec_; clear en_)))
          repeat (go_quiet (first | (go_at_call 20; (with_reducible refine (collatorref04_Same.calls k1 _ _ ((rd_T28 l0 x5_1).f2) _ _ ((rd_T28 l1 x5_1).f2) true _ ?side1 ?side2 ?side3 ?side4 A7.out).mono ?_); (case side1 => repeat (first | exact HR274_2.out | (with_reducible refine Kd.C_alloc ?_ _) | (with_reducible refine Kd.C_drewN ?_ _) | (with_reducible refine Kd.C_drew ?_))); (case side2 => exact HC274_2.out); (case side3 => repeat (first | exact HR275_2.out | (with_reducible refine Kd.C_alloc ?_ _) | (with_reducible refine Kd.C_drewN ?_ _) | (with_reducible refine Kd.C_drew ?_))); (case side4 => exact HC275_2.out); rintro e w' ⟨rfl, ⟨nd, rfl⟩⟩; (try first | exact ⟨rfl, _, World.drewN_drewN _ _ _⟩ | exact ⟨rfl, _, Eq.trans (World.drewN_drewN _ _ _) (congrArg (World.drewN _) (Nat.add_assoc _ _ _))⟩); all_goals (have p277 : 0 ≤ (x5_1 : Int) := of_decide_eq_true as_; have q277 : x5_1 < (l0.length : Int) := of_decide_eq_true as_; obtain ⟨ad277, A277_2, c277_2, e277, hx277_0, hx277_1, hx277_2, hl277_2, hi277_2⟩ := at_T28 HR0.out x5_1 p277 q277; obtain rfl : ad274 = ad277 := (by injection e277); have HR277_2 := Aside0.mk hi277_2; have HC277_2 := Aside0.mk hl277_2; clear hi277_2 hl277_2; replace p277 := eq_true p277; replace q277 := eq_true q277; have ea_ := Option.some.inj (hx274_2.symm.trans hx277_2); injection ea_ with ea_ en_ ec_; subst ea_; subst ec_; clear en_; have p278 : 0 ≤ (x5_1 : Int) := of_decide_eq_true as_; have q278 : x5_1 < (l1.length : Int) := of_decide_eq_true as_; obtain ⟨ad278, A278_2, c278_2, e278, hx278_0, hx278_1, hx278_2, hl278_2, hi278_2⟩ := at_T28 HR1.out x5_1 p278 q278; obtain rfl : ad275 = ad278 := (by injection e278); have HR278_2 := Aside0.mk hi278_2; have HC278_2 := Aside0.mk hl278_2; clear hi278_2 hl278_2; replace p278 := eq_true p278; replace q278 := eq_true q278; have ea_ := Option.some.inj (hx275_2.symm.trans hx278_2); injection ea_ with ea_ en_ ec_; subst ea_; subst ec_; clear en_; have p279 : 0 ≤ (x5_1 : Int) := of_decide_eq_true as_; have q279 : x5_1 < (l0.length : Int) := of_decide_eq_true as_; obtain ⟨ad279, A279_2, c279_2, e279, hx279_0, hx279_1, hx279_2, hl279_2, hi279_2⟩ := at_T28 HR0.out x5_1 p279 q279; obtain rfl : ad274 = ad279 := (by injection e279); have HR279_2 := Aside0.mk hi279_2; have HC279_2 := Aside0.mk hl279_2; clear hi279_2 hl279_2; replace p279 := eq_true p279; replace q279 := eq_true q279; have ea_ := Option.some.inj (hx274_2.symm.trans hx279_2); injection ea_ with ea_ en_ ec_; subst ea_; subst ec_; clear en_; have p280 : 0 ≤ (x5_1 : Int) := of_decide_eq_true as_; have q280 : x5_1 < (l1.length : Int) := of_decide_eq_true as_; obtain ⟨ad280, A280_2, c280_2, e280, hx280_0, hx280_1, hx280_2, hl280_2, hi280_2⟩ := at_T28 HR1.out x5_1 p280 q280; obtain rfl : ad275 = ad280 := (by injection e280); have HR280_2 := Aside0.mk hi280_2; have HC280_2 := Aside0.mk hl280_2; clear hi280_2 hl280_2; replace p280 := eq_true p280; replace q280 := eq_true q280; have ea_ := Option.some.inj (hx275_2.symm.trans hx280_2); injection ea_ with ea_ en_ ec_; subst ea_; subst ec_; clear en_))); try go_wp2_with (first | (go_at_call 20; (with_reducible refine (collatorref04_Same.calls k1 _ _ ((rd_T28 l0 x5_1).f2) _ _ ((rd_T28 l1 x5_1).f2) true _ ?side1 ?side2 ?side3 ?side4 A7.out).mono ?_); (case side1 => repeat (first | exact HR274_2.out | (with_reducible refine Kd.C_alloc ?_ _) | (with_reducible refine Kd.C_drewN ?_ _) | (with_reducible refine Kd.C_drew ?_))); (case side2 => exact HC274_2.out); (case side3 => repeat (first | exact HR275_2.out | (with_reducible refine Kd.C_alloc ?_ _) | (with_reducible refine Kd.C_drewN ?_ _) | (with_reducible refine Kd.C_drew ?_))); (case side4 => exact HC275_2.out); rintro e w' ⟨rfl, ⟨nd, rfl⟩⟩; (try first | exact ⟨rfl, _, World.drewN_drewN _ _ _⟩ | exact ⟨rfl, _, Eq.trans (World.drewN_drewN _ _ _) (congrArg (World.drewN _) (Nat.add_assoc _ _ _))⟩); all_goals (have p277 : 0 ≤ (x5_1 : Int) := of_decide_eq_true as_; have q277 : x5_1 < (l0.length : Int) := of_decide_eq_true as_; obtain ⟨ad277, A277_2, c277_2, e277, hx277_0, hx277_1, hx277_2, hl277_2, hi277_2⟩ := at_T28 HR0.out x5_1 p277 q277; obtain rfl : ad274 = ad277 := (by injection e277); have HR277_2 := Aside0.mk hi277_2; have HC277_2 := Aside0.mk hl277_2; clear hi277_2 hl277_2; replace p277 := eq_true p277; replace q277 := eq_true q277; have ea_ := Option.some.inj (hx274_2.symm.trans hx277_2); injection ea_ with ea_ en_ ec_; subst ea_; subst ec_; clear en_; have p278 : 0 ≤ (x5_1 : Int) := of_decide_eq_true as_; have q278 : x5_1 < (l1.length : Int) := of_decide_eq_true as_; obtain ⟨ad278, A278_2, c278_2, e278, hx278_0, hx278_1, hx278_2, hl278_2, hi278_2⟩ := at_T28 HR1.out x5_1 p278 q278; obtain rfl : ad275 = ad278 := (by injection e278); have HR278_2 := Aside0.mk hi278_2; have HC278_2 := Aside0.mk hl278_2; clear hi278_2 hl278_2; replace p278 := eq_true p278; replace q278 := eq_true q278; have ea_ := Option.some.inj (hx275_2.symm.trans hx278_2); injection ea_ with ea_ en_ ec_; subst ea_; subst ec_; clear en_; have p279 : 0 ≤ (x5_1 : Int) := of_decide_eq_true as_; have q279 : x5_1 < (l0.length : Int) := of_decide_eq_true as_; obtain ⟨ad279, A279_2, c279_2, e279, hx279_0, hx279_1, hx279_2, hl279_2, hi279_2⟩ := at_T28 HR0.out x5_1 p279 q279; obtain rfl : ad274 = ad279 := (by injection e279); have HR279_2 := Aside0.mk hi279_2; have HC279_2 := Aside0.mk hl279_2; clear hi279_2 hl279_2; replace p279 := eq_true p279; replace q279 := eq_true q279; have ea_ := Option.some.inj (hx274_2.symm.trans hx279_2); injection ea_ with ea_ en_ ec_; subst ea_; subst ec_; clear en_; have p280 : 0 ≤ (x5_1 : Int) := of_decide_eq_true as_; have q280 : x5_1 < (l1.length : Int) := of_decide_eq_true as_; obtain ⟨ad280, A280_2, c280_2, e280, hx280_0, hx280_1, hx280_2, hl280_2, hi280_2⟩ := at_T28 HR1.out x5_1 p280 q280; obtain rfl : ad275 = ad280 := (by injection e280); have HR280_2 := Aside0.mk hi280_2; have HC280_2 := Aside0.mk hl280_2; clear hi280_2 hl280_2; replace p280 := eq_true p280; replace q280 := eq_true q280; have ea_ := Option.some.inj (hx275_2.symm.trans hx280_2); injection ea_ with ea_ en_ ec_; subst ea_; subst ec_; clear en_))))
          go_roundg k1
          case measure => have := HK1.out; omega
          case rel => exact ⟨(wrap64 (x5_1 + 1)), rf_, H', ⟨by have := HK1.out; omega⟩, by repeat (first | exact Drawn0.refl _ | apply Drawn0.step)⟩
         ·rw [if_neg c10] at H
          have c10b0 : (((rd_T28 l0 x5_1).f1) == ((rd_T28 l1 x5_1).f1)) = false := beq_eq_false_iff_ne.mpr c10
          have c10b1 : (((rd_T28 l0 x5_1).f1) != ((rd_T28 l1 x5_1).f1)) = true := bne_iff_ne.mpr c10
          obtain rfl := Option.some.inj H
          have p274 : 0 ≤ (x5_1 : Int) := of_decide_eq_true as_
          have q274 : x5_1 < (l0.length : Int) := of_decide_eq_true as_
          obtain ⟨ad274, A274_2, c274_2, e274, hx274_0, hx274_1, hx274_2, hl274_2, hi274_2⟩ := at_T28 HR0.out x5_1 p274 q274
          cases e274
          have HR274_2 := Aside0.mk hi274_2
          have HC274_2 := Aside0.mk hl274_2
          clear hi274_2 hl274_2
          replace p274 := eq_true p274
          replace q274 := eq_true q274
          have p275 : 0 ≤ (x5_1 : Int) := of_decide_eq_true as_
          have q275 : x5_1 < (l1.length : Int) := of_decide_eq_true as_
          obtain ⟨ad275, A275_2, c275_2, e275, hx275_0, hx275_1, hx275_2, hl275_2, hi275_2⟩ := at_T28 HR1.out x5_1 p275 q275
          cases e275
          have HR275_2 := Aside0.mk hi275_2
          have HC275_2 := Aside0.mk hl275_2
          clear hi275_2 hl275_2
          replace p275 := eq_true p275
          replace q275 := eq_true q275
          go_wp2_with (first | (go_at_call 20; (with_reducible refine (collatorref04_Same.calls k1 _ _ ((rd_T28 l0 x5_1).f2) _ _ ((rd_T28 l1 x5_1).f2) true _ ?side1 ?side2 ?side3 ?side4 A7.out).mono ?_); (case side1 => repeat (first | exact HR274_2.out | (with_reducible refine Kd.C_alloc ?_ _) | (with_reducible refine Kd.C_drewN ?_ _) | (with_reducible refine Kd.C_drew ?_))); (case side2 => exact HC274_2.out); (case side3 => repeat (first | exact HR275_2.out | (with_reducible refine Kd.C_alloc ?_ _) | (with_reducible refine Kd.C_drewN ?_ _) | (with_reducible refine Kd.C_drew ?_))); (case side4 => exact HC275_2.out); rintro e w' ⟨rfl, ⟨nd, rfl⟩⟩; (try first | exact ⟨rfl, _, World.drewN_drewN _ _ _⟩ | exact ⟨rfl, _, Eq.trans (World.drewN_drewN _ _ _) (congrArg (World.drewN _) (Nat.add_assoc _ _ _))⟩); all_goals (have p277 : 0 ≤ (x5_1 : Int) := of_decide_eq_true as_; have q277 : x5_1 < (l0.length : Int) := of_decide_eq_true as_; obtain ⟨ad277, A277_2, c277_2, e277, hx277_0, hx277_1, hx277_2, hl277_2, hi277_2⟩ := at_T28 HR0.out x5_1 p277 q277; obtain rfl : ad274 = ad277 := (by injection e277); have HR277_2 := Aside0.mk hi277_2; have HC277_2 := Aside0.mk hl277_2; clear hi277_2 hl277_2; replace p277 := eq_true p277; replace q277 := eq_true q277; have ea_ := Option.some.inj (hx274_2.symm.trans hx277_2); injection ea_ with ea_ en_ ec_; subst ea_; subst ec_; clear en_; have p278 : 0 ≤ (x5_1 : Int) := of_decide_eq_true as_; have q278 : x5_1 < (l1.length : Int) := of_decide_eq_true as_; obtain ⟨ad278, A278_2, c278_2, e278, hx278_0, hx278_1, hx278_2, hl278_2, hi278_2⟩ := at_T28 HR1.out x5_1 p278 q278; obtain rfl : ad275 = ad278 := (by injection e278); have HR278_2 := Aside0.mk hi278_2; have HC278_2 := Aside0.mk hl278_2; clear hi278_2 hl278_2; replace p278 := eq_true p278; replace q278 := eq_true q278; have ea_ := Option.some.inj (hx275_2.symm.trans hx278_2); injection ea_ with ea_ en_ ec_; subst ea_; subst ec_; clear en_; have p279 : 0 ≤ (x5_1 : Int) := of_decide_eq_true as_; have q279 : x5_1 < (l0.length : Int) := of_decide_eq_true as_; obtain ⟨ad279, A279_2, c279_2, e279, hx279_0, hx279_1, hx279_2, hl279_2, hi279_2⟩ := at_T28 HR0.out x5_1 p279 q279; obtain rfl : ad274 = ad279 := (by injection e279); have HR279_2 := Aside0.mk hi279_2; have HC279_2 := Aside0.mk hl279_2; clear hi279_2 hl279_2; replace p279 := eq_true p279; replace q279 := eq_true q279; have ea_ := Option.some.inj (hx274_2.symm.trans hx279_2); injection ea_ with ea_ en_ ec_; subst ea_; subst ec_; clear en_; have p280 : 0 ≤ (x5_1 : Int) := of_decide_eq_true as_; have q280 : x5_1 < (l1.length : Int) := of_decide_eq_true as_; obtain ⟨ad280, A280_2, c280_2, e280, hx280_0, hx280_1, hx280_2, hl280_2, hi280_2⟩ := at_T28 HR1.out x5_1 p280 q280; obtain rfl : ad275 = ad280 := (by injection e280); have HR280_2 := Aside0.mk hi280_2; have HC280_2 := Aside0.mk hl280_2; clear hi280_2 hl280_2; replace p280 := eq_true p280; replace q280 := eq_true q280; have ea_ := Option.some.inj (hx275_2.symm.trans hx280_2); injection ea_ with ea_ en_ ec_; subst ea_; subst ec_; clear en_)))
          repeat (go_quiet (first | (go_at_call 20; (with_reducible refine (collatorref04_Same.calls k1 _ _ ((rd_T28 l0 x5_1).f2) _ _ ((rd_T28 l1 x5_1).f2) true _ ?side1 ?side2 ?side3 ?side4 A7.out).mono ?_); (case side1 => repeat (first | exact HR274_2.out | (with_reducible refine Kd.C_alloc ?_ _) | (with_reducible refine Kd.C_drewN ?_ _) | (with_reducible refine Kd.C_drew ?_))); (case side2 => exact HC274_2.out); (case side3 => repeat (first | exact HR275_2.out | (with_reducible refine Kd.C_alloc ?_ _) | (with_reducible refine Kd.C_drewN ?_ _) | (with_reducible refine Kd.C_drew ?_))); (case side4 => exact HC275_2.out); rintro e w' ⟨rfl, ⟨nd, rfl⟩⟩; (try first | exact ⟨rfl, _, World.drewN_drewN _ _ _⟩ | exact ⟨rfl, _, Eq.trans (World.drewN_drewN _ _ _) (congrArg (World.drewN _) (Nat.add_assoc _ _ _))⟩); all_goals (have p277 : 0 ≤ (x5_1 : Int) := of_decide_eq_true as_; have q277 : x5_1 < (l0.length : Int) := of_decide_eq_true as_; obtain ⟨ad277, A277_2, c277_2, e277, hx277_0, hx277_1, hx277_2, hl277_2, hi277_2⟩ := at_T28 HR0.out x5_1 p277 q277; obtain rfl : ad274 = ad277 := (by injection e277); have HR277_2 := Aside0.mk hi277_2; have HC277_2 := Aside0.mk hl277_2; clear hi277_2 hl277_2; replace p277 := eq_true p277; replace q277 := eq_true q277; have ea_ := Option.some.inj (hx274_2.symm.trans hx277_2); injection ea_ with ea_ en_ ec_; subst ea_; subst ec_; clear en_; have p278 : 0 ≤ (x5_1 : Int) := of_decide_eq_true as_; have q278 : x5_1 < (l1.length : Int) := of_decide_eq_true as_; obtain ⟨ad278, A278_2, c278_2, e278, hx278_0, hx278_1, hx278_2, hl278_2, hi278_2⟩ := at_T28 HR1.out x5_1 p278 q278; obtain rfl : ad275 = ad278 := (by injection e278); have HR278_2 := Aside0.mk hi278_2; have HC278_2 := Aside0.mk hl278_2; clear hi278_2 hl278_2; replace p278 := eq_true p278; replace q278 := eq_true q278; have ea_ := Option.some.inj (hx275_2.symm.trans hx278_2); injection ea_ with ea_ en_ ec_; subst ea_; subst ec_; clear en_; have p279 : 0 ≤ (x5_1 : Int) := of_decide_eq_true as_; have q279 : x5_1 < (l0.length : Int) := of_decide_eq_true as_; obtain ⟨ad279, A279_2, c279_2, e279, hx279_0, hx279_1, hx279_2, hl279_2, hi279_2⟩ := at_T28 HR0.out x5_1 p279 q279; obtain rfl : ad274 = ad279 := (by injection e279); have HR279_2 := Aside0.mk hi279_2; have HC279_2 := Aside0.mk hl279_2; clear hi279_2 hl279_2; replace p279 := eq_true p279; replace q279 := eq_true q279; have ea_ := Option.some.inj (hx274_2.symm.trans hx279_2); injection ea_ with ea_ en_ ec_; subst ea_; subst ec_; clear en_; have p280 : 0 ≤ (x5_1 : Int) := of_decide_eq_true as_; have q280 : x5_1 < (l1.length : Int) := of_decide_eq_true as_; obtain ⟨ad280, A280_2, c280_2, e280, hx280_0, hx280_1, hx280_2, hl280_2, hi280_2⟩ := at_T28 HR1.out x5_1 p280 q280; obtain rfl : ad275 = ad280 := (by injection e280); have HR280_2 := Aside0.mk hi280_2; have HC280_2 := Aside0.mk hl280_2; clear hi280_2 hl280_2; replace p280 := eq_true p280; replace q280 := eq_true q280; have ea_ := Option.some.inj (hx275_2.symm.trans hx280_2); injection ea_ with ea_ en_ ec_; subst ea_; subst ec_; clear en_))); try go_wp2_with (first | (go_at_call 20; (with_reducible refine (collatorref04_Same.calls k1 _ _ ((rd_T28 l0 x5_1).f2) _ _ ((rd_T28 l1 x5_1).f2) true _ ?side1 ?side2 ?side3 ?side4 A7.out).mono ?_); (case side1 => repeat (first | exact HR274_2.out | (with_reducible refine Kd.C_alloc ?_ _) | (with_reducible refine Kd.C_drewN ?_ _) | (with_reducible refine Kd.C_drew ?_))); (case side2 => exact HC274_2.out); (case side3 => repeat (first | exact HR275_2.out | (with_reducible refine Kd.C_alloc ?_ _) | (with_reducible refine Kd.C_drewN ?_ _) | (with_reducible refine Kd.C_drew ?_))); (case side4 => exact HC275_2.out); rintro e w' ⟨rfl, ⟨nd, rfl⟩⟩; (try first | exact ⟨rfl, _, World.drewN_drewN _ _ _⟩ | exact ⟨rfl, _, Eq.trans (World.drewN_drewN _ _ _) (congrArg (World.drewN _) (Nat.add_assoc _ _ _))⟩); all_goals (have p277 : 0 ≤ (x5_1 : Int) := of_decide_eq_true as_; have q277 : x5_1 < (l0.length : Int) := of_decide_eq_true as_; obtain ⟨ad277, A277_2, c277_2, e277, hx277_0, hx277_1, hx277_2, hl277_2, hi277_2⟩ := at_T28 HR0.out x5_1 p277 q277; obtain rfl : ad274 = ad277 := (by injection e277); have HR277_2 := Aside0.mk hi277_2; have HC277_2 := Aside0.mk hl277_2; clear hi277_2 hl277_2; replace p277 := eq_true p277; replace q277 := eq_true q277; have ea_ := Option.some.inj (hx274_2.symm.trans hx277_2); injection ea_ with ea_ en_ ec_; subst ea_; subst ec_; clear en_; have p278 : 0 ≤ (x5_1 : Int) := of_decide_eq_true as_; have q278 : x5_1 < (l1.length : Int) := of_decide_eq_true as_; obtain ⟨ad278, A278_2, c278_2, e278, hx278_0, hx278_1, hx278_2, hl278_2, hi278_2⟩ := at_T28 HR1.out x5_1 p278 q278; obtain rfl : ad275 = ad278 := (by injection e278); have HR278_2 := Aside0.mk hi278_2; have HC278_2 := Aside0.mk hl278_2; clear hi278_2 hl278_2; replace p278 := eq_true p278; replace q278 := eq_true q278; have ea_ := Option.some.inj (hx275_2.symm.trans hx278_2); injection ea_ with ea_ en_ ec_; subst ea_; subst ec_; clear en_; have p279 : 0 ≤ (x5_1 : Int) := of_decide_eq_true as_; have q279 : x5_1 < (l0.length : Int) := of_decide_eq_true as_; obtain ⟨ad279, A279_2, c279_2, e279, hx279_0, hx279_1, hx279_2, hl279_2, hi279_2⟩ := at_T28 HR0.out x5_1 p279 q279; obtain rfl : ad274 = ad279 := (by injection e279); have HR279_2 := Aside0.mk hi279_2; have HC279_2 := Aside0.mk hl279_2; clear hi279_2 hl279_2; replace p279 := eq_true p279; replace q279 := eq_true q279; have ea_ := Option.some.inj (hx274_2.symm.trans hx279_2); injection ea_ with ea_ en_ ec_; subst ea_; subst ec_; clear en_; have p280 : 0 ≤ (x5_1 : Int) := of_decide_eq_true as_; have q280 : x5_1 < (l1.length : Int) := of_decide_eq_true as_; obtain ⟨ad280, A280_2, c280_2, e280, hx280_0, hx280_1, hx280_2, hl280_2, hi280_2⟩ := at_T28 HR1.out x5_1 p280 q280; obtain rfl : ad275 = ad280 := (by injection e280); have HR280_2 := Aside0.mk hi280_2; have HC280_2 := Aside0.mk hl280_2; clear hi280_2 hl280_2; replace p280 := eq_true p280; replace q280 := eq_true q280; have ea_ := Option.some.inj (hx275_2.symm.trans hx280_2); injection ea_ with ea_ en_ ec_; subst ea_; subst ec_; clear en_))))
          go_ret
          exact ⟨by first | rfl | (simp; done) | (simp [*]; done), by repeat (first | exact Drawn0.refl _ | apply Drawn0.step)⟩
        ·rw [if_neg c9] at H
         have c9b0 : (((rd_T28 l0 x5_1).f0) == ((rd_T28 l1 x5_1).f0)) = false := beq_eq_false_iff_ne.mpr c9
         have c9b1 : (((rd_T28 l0 x5_1).f0) != ((rd_T28 l1 x5_1).f0)) = true := bne_iff_ne.mpr c9
         obtain rfl := Option.some.inj H
         have p274 : 0 ≤ (x5_1 : Int) := of_decide_eq_true as_
         have q274 : x5_1 < (l0.length : Int) := of_decide_eq_true as_
         obtain ⟨ad274, A274_2, c274_2, e274, hx274_0, hx274_1, hx274_2, hl274_2, hi274_2⟩ := at_T28 HR0.out x5_1 p274 q274
         cases e274
         have HR274_2 := Aside0.mk hi274_2
         have HC274_2 := Aside0.mk hl274_2
         clear hi274_2 hl274_2
         replace p274 := eq_true p274
         replace q274 := eq_true q274
         have p275 : 0 ≤ (x5_1 : Int) := of_decide_eq_true as_
         have q275 : x5_1 < (l1.length : Int) := of_decide_eq_true as_
         obtain ⟨ad275, A275_2, c275_2, e275, hx275_0, hx275_1, hx275_2, hl275_2, hi275_2⟩ := at_T28 HR1.out x5_1 p275 q275
         cases e275
         have HR275_2 := Aside0.mk hi275_2
         have HC275_2 := Aside0.mk hl275_2
         clear hi275_2 hl275_2
         replace p275 := eq_true p275
         replace q275 := eq_true q275
         go_wp2_with (first | (go_at_call 20; (with_reducible refine (collatorref04_Same.calls k1 _ _ ((rd_T28 l0 x5_1).f2) _ _ ((rd_T28 l1 x5_1).f2) true _ ?side1 ?side2 ?side3 ?side4 A7.out).mono ?_); (case side1 => repeat (first | exact HR274_2.out | (with_reducible refine Kd.C_alloc ?_ _) | (with_reducible refine Kd.C_drewN ?_ _) | (with_reducible refine Kd.C_drew ?_))); (case side2 => exact HC274_2.out); (case side3 => repeat (first | exact HR275_2.out | (with_reducible refine Kd.C_alloc ?_ _) | (with_reducible refine Kd.C_drewN ?_ _) | (with_reducible refine Kd.C_drew ?_))); (case side4 => exact HC275_2.out); rintro e w' ⟨rfl, ⟨nd, rfl⟩⟩; (try first | exact ⟨rfl, _, World.drewN_drewN _ _ _⟩ | exact ⟨rfl, _, Eq.trans (World.drewN_drewN _ _ _) (congrArg (World.drewN _) (Nat.add_assoc _ _ _))⟩); all_goals (have p277 : 0 ≤ (x5_1 : Int) := of_decide_eq_true as_; have q277 : x5_1 < (l0.length : Int) := of_decide_eq_true as_; obtain ⟨ad277, A277_2, c277_2, e277, hx277_0, hx277_1, hx277_2, hl277_2, hi277_2⟩ := at_T28 HR0.out x5_1 p277 q277; obtain rfl : ad274 = ad277 := (by injection e277); have HR277_2 := Aside0.mk hi277_2; have HC277_2 := Aside0.mk hl277_2; clear hi277_2 hl277_2; replace p277 := eq_true p277; replace q277 := eq_true q277; have ea_ := Option.some.inj (hx274_2.symm.trans hx277_2); injection ea_ with ea_ en_ ec_; subst ea_; subst ec_; clear en_; have p278 : 0 ≤ (x5_1 : Int) := of_decide_eq_true as_; have q278 : x5_1 < (l1.length : Int) := of_decide_eq_true as_; obtain ⟨ad278, A278_2, c278_2, e278, hx278_0, hx278_1, hx278_2, hl278_2, hi278_2⟩ := at_T28 HR1.out x5_1 p278 q278; obtain rfl : ad275 = ad278 := (by injection e278); have HR278_2 := Aside0.mk hi278_2; have HC278_2 := Aside0.mk hl278_2; clear hi278_2 hl278_2; replace p278 := eq_true p278; replace q278 := eq_true q278; have ea_ := Option.some.inj (hx275_2.symm.trans hx278_2); injection ea_ with ea_ en_ ec_; subst ea_; subst ec_; clear en_)))
         repeat (go_quiet (first | (go_at_call 20; (with_reducible refine (collatorref04_Same.calls k1 _ _ ((rd_T28 l0 x5_1).f2) _ _ ((rd_T28 l1 x5_1).f2) true _ ?side1 ?side2 ?side3 ?side4 A7.out).mono ?_); (case side1 => repeat (first | exact HR274_2.out | (with_reducible refine Kd.C_alloc ?_ _) | (with_reducible refine Kd.C_drewN ?_ _) | (with_reducible refine Kd.C_drew ?_))); (case side2 => exact HC274_2.out); (case side3 => repeat (first | exact HR275_2.out | (with_reducible refine Kd.C_alloc ?_ _) | (with_reducible refine Kd.C_drewN ?_ _) | (with_reducible refine Kd.C_drew ?_))); (case side4 => exact HC275_2.out); rintro e w' ⟨rfl, ⟨nd, rfl⟩⟩; (try first | exact ⟨rfl, _, World.drewN_drewN _ _ _⟩ | exact ⟨rfl, _, Eq.trans (World.drewN_drewN _ _ _) (congrArg (World.drewN _) (Nat.add_assoc _ _ _))⟩); all_goals (have p277 : 0 ≤ (x5_1 : Int) := of_decide_eq_true as_; have q277 : x5_1 < (l0.length : Int) := of_decide_eq_true as_; obtain ⟨ad277, A277_2, c277_2, e277, hx277_0, hx277_1, hx277_2, hl277_2, hi277_2⟩ := at_T28 HR0.out x5_1 p277 q277; obtain rfl : ad274 = ad277 := (by injection e277); have HR277_2 := Aside0.mk hi277_2; have HC277_2 := Aside0.mk hl277_2; clear hi277_2 hl277_2; replace p277 := eq_true p277; replace q277 := eq_true q277; have ea_ := Option.some.inj (hx274_2.symm.trans hx277_2); injection ea_ with ea_ en_ ec_; subst ea_; subst ec_; clear en_; have p278 : 0 ≤ (x5_1 : Int) := of_decide_eq_true as_; have q278 : x5_1 < (l1.length : Int) := of_decide_eq_true as_; obtain ⟨ad278, A278_2, c278_2, e278, hx278_0, hx278_1, hx278_2, hl278_2, hi278_2⟩ := at_T28 HR1.out x5_1 p278 q278; obtain rfl : ad275 = ad278 := (by injection e278); have HR278_2 := Aside0.mk hi278_2; have HC278_2 := Aside0.mk hl278_2; clear hi278_2 hl278_2; replace p278 := eq_true p278; replace q278 := eq_true q278; have ea_ := Option.some.inj (hx275_2.symm.trans hx278_2); injection ea_ with ea_ en_ ec_; subst ea_; subst ec_; clear en_))); try go_wp2_with (first | (go_at_call 20; (with_reducible refine (collatorref04_Same.calls k1 _ _ ((rd_T28 l0 x5_1).f2) _ _ ((rd_T28 l1 x5_1).f2) true _ ?side1 ?side2 ?side3 ?side4 A7.out).mono ?_); (case side1 => repeat (first | exact HR274_2.out | (with_reducible refine Kd.C_alloc ?_ _) | (with_reducible refine Kd.C_drewN ?_ _) | (with_reducible refine Kd.C_drew ?_))); (case side2 => exact HC274_2.out); (case side3 => repeat (first | exact HR275_2.out | (with_reducible refine Kd.C_alloc ?_ _) | (with_reducible refine Kd.C_drewN ?_ _) | (with_reducible refine Kd.C_drew ?_))); (case side4 => exact HC275_2.out); rintro e w' ⟨rfl, ⟨nd, rfl⟩⟩; (try first | exact ⟨rfl, _, World.drewN_drewN _ _ _⟩ | exact ⟨rfl, _, Eq.trans (World.drewN_drewN _ _ _) (congrArg (World.drewN _) (Nat.add_assoc _ _ _))⟩); all_goals (have p277 : 0 ≤ (x5_1 : Int) := of_decide_eq_true as_; have q277 : x5_1 < (l0.length : Int) := of_decide_eq_true as_; obtain ⟨ad277, A277_2, c277_2, e277, hx277_0, hx277_1, hx277_2, hl277_2, hi277_2⟩ := at_T28 HR0.out x5_1 p277 q277; obtain rfl : ad274 = ad277 := (by injection e277); have HR277_2 := Aside0.mk hi277_2; have HC277_2 := Aside0.mk hl277_2; clear hi277_2 hl277_2; replace p277 := eq_true p277; replace q277 := eq_true q277; have ea_ := Option.some.inj (hx274_2.symm.trans hx277_2); injection ea_ with ea_ en_ ec_; subst ea_; subst ec_; clear en_; have p278 : 0 ≤ (x5_1 : Int) := of_decide_eq_true as_; have q278 : x5_1 < (l1.length : Int) := of_decide_eq_true as_; obtain ⟨ad278, A278_2, c278_2, e278, hx278_0, hx278_1, hx278_2, hl278_2, hi278_2⟩ := at_T28 HR1.out x5_1 p278 q278; obtain rfl : ad275 = ad278 := (by injection e278); have HR278_2 := Aside0.mk hi278_2; have HC278_2 := Aside0.mk hl278_2; clear hi278_2 hl278_2; replace p278 := eq_true p278; replace q278 := eq_true q278; have ea_ := Option.some.inj (hx275_2.symm.trans hx278_2); injection ea_ with ea_ en_ ec_; subst ea_; subst ec_; clear en_))))
         go_ret
         exact ⟨by first | rfl | (simp; done) | (simp [*]; done), by repeat (first | exact Drawn0.refl _ | apply Drawn0.step)⟩
       ·replace c8 := Bool.eq_false_iff.mpr c8
        subst c8
        have H1 : (some false) = some r := by rw [if_neg (show ¬ (false = true) by decide)] at H; exact H
        clear H
        have H := H1
        clear H1
        obtain rfl := Option.some.inj H
        have p274 : 0 ≤ (x5_1 : Int) := of_decide_eq_true as_
        have q274 : x5_1 < (l0.length : Int) := of_decide_eq_true as_
        obtain ⟨ad274, A274_2, c274_2, e274, hx274_0, hx274_1, hx274_2, hl274_2, hi274_2⟩ := at_T28 HR0.out x5_1 p274 q274
        cases e274
        have HR274_2 := Aside0.mk hi274_2
        have HC274_2 := Aside0.mk hl274_2
        clear hi274_2 hl274_2
        replace p274 := eq_true p274
        replace q274 := eq_true q274
        have p275 : 0 ≤ (x5_1 : Int) := of_decide_eq_true as_
        have q275 : x5_1 < (l1.length : Int) := of_decide_eq_true as_
        obtain ⟨ad275, A275_2, c275_2, e275, hx275_0, hx275_1, hx275_2, hl275_2, hi275_2⟩ := at_T28 HR1.out x5_1 p275 q275
        cases e275
        have HR275_2 := Aside0.mk hi275_2
        have HC275_2 := Aside0.mk hl275_2
        clear hi275_2 hl275_2
        replace p275 := eq_true p275
        replace q275 := eq_true q275
        go_wp2_with (first | (go_at_call 20; (with_reducible refine (collatorref04_Same.calls k1 _ _ ((rd_T28 l0 x5_1).f2) _ _ ((rd_T28 l1 x5_1).f2) false _ ?side1 ?side2 ?side3 ?side4 A7.out).mono ?_); (case side1 => repeat (first | exact HR274_2.out | (with_reducible refine Kd.C_alloc ?_ _) | (with_reducible refine Kd.C_drewN ?_ _) | (with_reducible refine Kd.C_drew ?_))); (case side2 => exact HC274_2.out); (case side3 => repeat (first | exact HR275_2.out | (with_reducible refine Kd.C_alloc ?_ _) | (with_reducible refine Kd.C_drewN ?_ _) | (with_reducible refine Kd.C_drew ?_))); (case side4 => exact HC275_2.out); rintro e w' ⟨rfl, ⟨nd, rfl⟩⟩; (try first | exact ⟨rfl, _, World.drewN_drewN _ _ _⟩ | exact ⟨rfl, _, Eq.trans (World.drewN_drewN _ _ _) (congrArg (World.drewN _) (Nat.add_assoc _ _ _))⟩)))
        repeat (go_quiet (first | (go_at_call 20; (with_reducible refine (collatorref04_Same.calls k1 _ _ ((rd_T28 l0 x5_1).f2) _ _ ((rd_T28 l1 x5_1).f2) false _ ?side1 ?side2 ?side3 ?side4 A7.out).mono ?_); (case side1 => repeat (first | exact HR274_2.out | (with_reducible refine Kd.C_alloc ?_ _) | (with_reducible refine Kd.C_drewN ?_ _) | (with_reducible refine Kd.C_drew ?_))); (case side2 => exact HC274_2.out); (case side3 => repeat (first | exact HR275_2.out | (with_reducible refine Kd.C_alloc ?_ _) | (with_reducible refine Kd.C_drewN ?_ _) | (with_reducible refine Kd.C_drew ?_))); (case side4 => exact HC275_2.out); rintro e w' ⟨rfl, ⟨nd, rfl⟩⟩; (try first | exact ⟨rfl, _, World.drewN_drewN _ _ _⟩ | exact ⟨rfl, _, Eq.trans (World.drewN_drewN _ _ _) (congrArg (World.drewN _) (Nat.add_assoc _ _ _))⟩))); try go_wp2_with (first | (go_at_call 20; (with_reducible refine (collatorref04_Same.calls k1 _ _ ((rd_T28 l0 x5_1).f2) _ _ ((rd_T28 l1 x5_1).f2) false _ ?side1 ?side2 ?side3 ?side4 A7.out).mono ?_); (case side1 => repeat (first | exact HR274_2.out | (with_reducible refine Kd.C_alloc ?_ _) | (with_reducible refine Kd.C_drewN ?_ _) | (with_reducible refine Kd.C_drew ?_))); (case side2 => exact HC274_2.out); (case side3 => repeat (first | exact HR275_2.out | (with_reducible refine Kd.C_alloc ?_ _) | (with_reducible refine Kd.C_drewN ?_ _) | (with_reducible refine Kd.C_drew ?_))); (case side4 => exact HC275_2.out); rintro e w' ⟨rfl, ⟨nd, rfl⟩⟩; (try first | exact ⟨rfl, _, World.drewN_drewN _ _ _⟩ | exact ⟨rfl, _, Eq.trans (World.drewN_drewN _ _ _) (congrArg (World.drewN _) (Nat.add_assoc _ _ _))⟩))))
        go_ret
        exact ⟨by first | rfl | (simp; done) | (simp [*]; done), by repeat (first | exact Drawn0.refl _ | apply Drawn0.step)⟩
      ·rw [if_neg c6] at H
       exact absurd H (by simp)
     ·rw [if_neg c5] at H
      exact absurd H (by simp)
    ·rw [if_neg c4] at H
     have c4b0 : decide (x5_1 < (l0.length : Int)) = false := decide_eq_false c4
     clear c4
     obtain rfl := Option.some.inj H
     go_wp2
     repeat (go_quiet (fail); try go_wp2)
     go_ret
     exact ⟨by first | rfl | (simp; done) | (simp [*]; done), by repeat (first | exact Drawn0.refl _ | apply Drawn0.step)⟩
 ·rw [if_neg c3] at H
  have c3b0 : ((l0.length : Int) == (l1.length : Int)) = false := beq_eq_false_iff_ne.mpr c3
  have c3b1 : ((l0.length : Int) != (l1.length : Int)) = true := bne_iff_ne.mpr c3
  have c3b2 : (l0.length == l1.length) = false := by first | simpa using c3 | (simp at c3 ⊢; omega)
  obtain rfl := Option.some.inj H
  go_enter Try.func14, Try.ntmps14
  go_wp2
  repeat (go_quiet (fail); try go_wp2)
  go_ret
  exact ⟨by first | rfl | (simp; done) | (simp [*]; done), by repeat (first | exact Drawn0.refl _ | apply Drawn0.step)⟩

end Go.Proofs.Ytgobidmfbjmpkaa.P
