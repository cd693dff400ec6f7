/- Laid for this claim by hp.py, this session's program round the kit's print: functions of the program as plain Lean functions, the proofs that the code comes to their answers, and the rows of the laws. Not trusted: Lean checks it. -/
import Derived.Test.YthplelgkneipjaaPx0
namespace Go.Proofs.Ythplelgkneipjaa.P
open Go.RowKit Go.Proofs.YthplelgkneipjaaW.PrintWords Go.Proofs.YthplelgkneipjaaW.PrintLast Go.Proofs.YthplelgkneipjaaW.PrintMore
attribute [local go_sem] max2_int min2_int max_two min_two max_three min_three max_four min_four   -- for this text's walks alone
set_option linter.unusedVariables false
set_option linter.unusedSimpArgs false

/-! ### collatorref04_Same: function 28 -/
mutual
def collatorref04_Same.l0 : Nat → List (S49) → List (S49) → Int → Option (Bool)
 | 0, _, _, _ => none
 | k + 1, x0, x1, x5 => if x5 < (x0.length : Int) then (if 0 ≤ x5 then (if x5 < (x1.length : Int) then (if ((rd_T49 x0 x5).f0) = ((rd_T49 x1 x5).f0) then (if ((rd_T49 x0 x5).f1) = ((rd_T49 x1 x5).f1) then (collatorref04_Same.j1 k x0 x1 x5 ((((rd_T49 x0 x5).f2).length : Int) != (((rd_T49 x1 x5).f2).length : Int))) else (collatorref04_Same.j1 k x0 x1 x5 true)) else (collatorref04_Same.j1 k x0 x1 x5 true)) else (none)) else (none)) else (some true)
def collatorref04_Same.j1 : Nat → List (S49) → List (S49) → Int → Bool → Option (Bool)
 | 0, _, _, _, _ => none
 | k + 1, x0, x1, x5, x56 => if x56 = true then (some false) else (collatorref04_Same.l1 k x0 x1 x5 0)
def collatorref04_Same.l1 : Nat → List (S49) → List (S49) → Int → Int → Option (Bool)
 | 0, _, _, _, _ => none
 | k + 1, x0, x1, x5, x6 => if 0 ≤ x5 then (if x5 < (x0.length : Int) then (if x6 < (((rd_T49 x0 x5).f2).length : Int) then (if 0 ≤ x6 then (if x5 < (x1.length : Int) then (if x6 < (((rd_T49 x1 x5).f2).length : Int) then (if (rdOf ByteArray.empty ((rd_T49 x0 x5).f2) x6).toList = (rdOf ByteArray.empty ((rd_T49 x1 x5).f2) x6).toList then (collatorref04_Same.l1 k x0 x1 x5 (wrap64 (x6 + 1))) else (some false)) else (none)) else (none)) else (none)) else (collatorref04_Same.l0 k x0 x1 (wrap64 (x5 + 1)))) else (none)) else (none)
end
def collatorref04_Same.f (k : Nat) (l0 : List (S49)) (l1 : List (S49)) : Option (Bool) := if (l0.length : Int) = (l1.length : Int) then (collatorref04_Same.l0 k l0 l1 0) else (some false)
theorem collatorref04_Same.mono_l : ∀ k, (∀ y0 y1 y2, LeO (collatorref04_Same.l0 k y0 y1 y2) (collatorref04_Same.l0 (k + 1) y0 y1 y2)) ∧ (∀ y0 y1 y2 y3, LeO (collatorref04_Same.j1 k y0 y1 y2 y3) (collatorref04_Same.j1 (k + 1) y0 y1 y2 y3)) ∧ (∀ y0 y1 y2 y3, LeO (collatorref04_Same.l1 k y0 y1 y2 y3) (collatorref04_Same.l1 (k + 1) y0 y1 y2 y3))
 | 0 => ⟨fun _ _ _ r h => by simp [collatorref04_Same.l0] at h, fun _ _ _ _ r h => by simp [collatorref04_Same.j1] at h, fun _ _ _ _ r h => by simp [collatorref04_Same.l1] at h⟩
 | k + 1 => by
  obtain ⟨ih0, ih1, ih2⟩ := collatorref04_Same.mono_l k
  refine ⟨?_, ?_, ?_⟩
  ·intro y0 y1 y2
   unfold collatorref04_Same.l0
   repeat' first
   | (with_reducible exact ih0 _ _ _)
   | (with_reducible exact ih1 _ _ _ _)
   | (with_reducible exact ih2 _ _ _ _)
   | (with_reducible exact LeO.refl _)
   | (with_reducible exact LeO.none _)
   | (with_reducible refine LeO.ite ?_ ?_)
   | (with_reducible refine LeO.bind ?_ (fun _ => ?_))
   | exact ih0 _ _ _
   | exact ih1 _ _ _ _
   | exact ih2 _ _ _ _
   | exact LeO.none _
   | refine LeO.ite ?_ ?_
   | refine LeO.bind ?_ (fun _ => ?_)
  ·intro y0 y1 y2 y3
   unfold collatorref04_Same.j1
   repeat' first
   | (with_reducible exact ih0 _ _ _)
   | (with_reducible exact ih1 _ _ _ _)
   | (with_reducible exact ih2 _ _ _ _)
   | (with_reducible exact LeO.refl _)
   | (with_reducible exact LeO.none _)
   | (with_reducible refine LeO.ite ?_ ?_)
   | (with_reducible refine LeO.bind ?_ (fun _ => ?_))
   | exact ih0 _ _ _
   | exact ih1 _ _ _ _
   | exact ih2 _ _ _ _
   | exact LeO.none _
   | refine LeO.ite ?_ ?_
   | refine LeO.bind ?_ (fun _ => ?_)
  ·intro y0 y1 y2 y3
   unfold collatorref04_Same.l1
   repeat' first
   | (with_reducible exact ih0 _ _ _)
   | (with_reducible exact ih1 _ _ _ _)
   | (with_reducible exact ih2 _ _ _ _)
   | (with_reducible exact LeO.refl _)
   | (with_reducible exact LeO.none _)
   | (with_reducible refine LeO.ite ?_ ?_)
   | (with_reducible refine LeO.bind ?_ (fun _ => ?_))
   | exact ih0 _ _ _
   | exact ih1 _ _ _ _
   | exact ih2 _ _ _ _
   | exact LeO.none _
   | refine LeO.ite ?_ ?_
   | refine LeO.bind ?_ (fun _ => ?_)
theorem collatorref04_Same.mono : ∀ a0 a1 k, LeO (collatorref04_Same.f k a0 a1) (collatorref04_Same.f (k + 1) a0 a1) := by
 intro a0 a1 k
 obtain ⟨ih0, ih1, ih2⟩ := collatorref04_Same.mono_l k
 unfold collatorref04_Same.f
 repeat' first
   | (with_reducible exact ih0 _ _ _)
   | (with_reducible exact ih1 _ _ _ _)
   | (with_reducible exact ih2 _ _ _ _)
   | (with_reducible exact LeO.refl _)
   | (with_reducible exact LeO.none _)
   | (with_reducible refine LeO.ite ?_ ?_)
   | (with_reducible refine LeO.bind ?_ (fun _ => ?_))
   | exact ih0 _ _ _
   | exact ih1 _ _ _ _
   | exact ih2 _ _ _ _
   | exact LeO.none _
   | refine LeO.ite ?_ ?_
   | refine LeO.bind ?_ (fun _ => ?_)
set_option maxHeartbeats 8000000 in
set_option maxRecDepth 100000 in
theorem collatorref04_Same.calls (k : Nat) (A0 : Option Addr) (c0 : Nat) (l0 : List (S49)) (A1 : Option Addr) (c1 : Nat) (l1 : List (S49)) (r : Bool) (w : World) (hr0 : Kd.C k49 w A0 l0.length l0) (hc0 : l0.length ≤ c0) (hr1 : Kd.C k49 w A1 l1.length l1) (hc1 : l1.length ≤ c1) (h : collatorref04_Same.f k l0 l1 = some r) :
  Calls Try.prog 28 #[.slice A0 l0.length c0, .slice A1 l1.length c1] w fun e w' => e = .returned (.bool r) ∧ Drawn0 w w' := by
 have HR0 := Aside0.mk hr0
 have HC0 := Aside0.mk hc0
 clear hr0 hc0
 have HR1 := Aside0.mk hr1
 have HC1 := Aside0.mk hc1
 clear hr1 hc1
 have H : (if (l0.length : Int) = (l1.length : Int) then (collatorref04_Same.l0 k l0 l1 0) else (some false)) = some r := h
 clear h
 by_cases c3 : (l0.length : Int) = (l1.length : Int)
 ·rw [if_pos c3] at H
  have c3b0 : ((l0.length : Int) == (l1.length : Int)) = true := beq_iff_eq.mpr c3
  have c3b1 : ((l0.length : Int) != (l1.length : Int)) = false := bne_eq_false_iff_eq.mpr c3
  have c3b2 : (l0.length == l1.length) = true := by first | simpa using c3 | (simp at c3 ⊢; omega)
  clear c3
  have H' := Aside0.mk H
  clear H
  go_enter Try.func28, Try.ntmps28
  go_wp2
  repeat (go_quiet (fail); try go_wp2)
  go_loopg [5] k (fun kq v5 w' => ∃ (x5_1 : Int), v5 = .int .i64 x5_1 ∧ Aside0 (collatorref04_Same.l0 kq l0 l1 x5_1 = some r) ∧ Aside0 (kq ≤ k) ∧ Drawn0 w w')
  case atStart => exact ⟨(0), (by first | rfl | (simp; done) | (simp [*]; done)), H', ⟨Nat.le_refl _⟩, by repeat (first | exact Drawn0.refl _ | apply Drawn0.step)⟩
  case round =>
   clear H'
   (try clear c1);(try clear c2);(try clear p2);(try clear c3);(try clear c3b0);(try clear c3b1);(try clear c3b2)
   obtain ⟨x5_1, rfl, HA, HK1, ⟨m1, rfl⟩⟩ := hrel
   cases gk with
   | zero => exact absurd HA.out (by simp [collatorref04_Same.l0])
   | succ k1 =>
    have H := HA.out
    clear HA
    simp only [collatorref04_Same.l0] at H
    by_cases c4 : x5_1 < (l0.length : Int)
    ·rw [if_pos c4] at H
     have c4b0 : decide (x5_1 < (l0.length : Int)) = true := decide_eq_true c4
     clear c4
     have HC5 := Aside0.mk H
     clear H
     go_upto_region 6 with (fail)
     repeat (go_quiet (fail); go_upto_region 6 with (fail))
     go_cut [56] (fun v56 wc => ∃ (kq : Nat) (x56_4 : Bool), v56 = .bool x56_4 ∧ Aside0 (collatorref04_Same.j1 kq l0 l1 x5_1 x56_4 = some r) ∧ Aside0 (kq ≤ k1) ∧ Drawn0 w wc)
     case first =>
      have H := HC5.out
      clear HC5
      by_cases c6 : 0 ≤ x5_1
      ·rw [if_pos c6] at H
       have c6b0 : decide (0 ≤ x5_1) = true := decide_eq_true c6
       clear c6
       (first | rw [c6b0] | rw [c6b1] | (simp only [i64_w, i32_w]; rw [c6b0]) | skip)
       by_cases c7 : x5_1 < (l1.length : Int)
       ·rw [if_pos c7] at H
        have c7b0 : decide (x5_1 < (l1.length : Int)) = true := decide_eq_true c7
        clear c7
        by_cases c8 : ((rd_T49 l0 x5_1).f0) = ((rd_T49 l1 x5_1).f0)
        ·rw [if_pos c8] at H
         have c8b0 : (((rd_T49 l0 x5_1).f0) == ((rd_T49 l1 x5_1).f0)) = true := beq_iff_eq.mpr c8
         have c8b1 : (((rd_T49 l0 x5_1).f0) != ((rd_T49 l1 x5_1).f0)) = false := bne_eq_false_iff_eq.mpr c8
         clear c8
         by_cases c9 : ((rd_T49 l0 x5_1).f1) = ((rd_T49 l1 x5_1).f1)
         ·rw [if_pos c9] at H
          have c9b0 : (((rd_T49 l0 x5_1).f1) == ((rd_T49 l1 x5_1).f1)) = true := beq_iff_eq.mpr c9
          have c9b1 : (((rd_T49 l0 x5_1).f1) != ((rd_T49 l1 x5_1).f1)) = false := bne_eq_false_iff_eq.mpr c9
          clear c9
          have H' := Aside0.mk H
          clear H
          have p317 : 0 ≤ (x5_1 : Int) := of_decide_eq_true (by first | (with_reducible assumption) | assumption)
          have q317 : x5_1 < (l0.length : Int) := of_decide_eq_true (by first | (with_reducible assumption) | assumption)
          obtain ⟨ad317, A317_2, c317_2, e317, hx317_0, hx317_1, hx317_2, hl317_2, hi317_2⟩ := at_T49 HR0.out x5_1 p317 q317
          cases e317
          have HR317_2 := Aside0.mk hi317_2
          have HC317_2 := Aside0.mk hl317_2
          clear hi317_2 hl317_2
          replace p317 := eq_true p317
          replace q317 := eq_true q317
          have p318 : 0 ≤ (x5_1 : Int) := of_decide_eq_true (by first | (with_reducible assumption) | assumption)
          have q318 : x5_1 < (l1.length : Int) := of_decide_eq_true (by first | (with_reducible assumption) | assumption)
          obtain ⟨ad318, A318_2, c318_2, e318, hx318_0, hx318_1, hx318_2, hl318_2, hi318_2⟩ := at_T49 HR1.out x5_1 p318 q318
          cases e318
          have HR318_2 := Aside0.mk hi318_2
          have HC318_2 := Aside0.mk hl318_2
          clear hi318_2 hl318_2
          replace p318 := eq_true p318
          replace q318 := eq_true q318
          have p319 : 0 ≤ (x5_1 : Int) := of_decide_eq_true (by first | (with_reducible assumption) | assumption)
          have q319 : x5_1 < (l0.length : Int) := of_decide_eq_true (by first | (with_reducible assumption) | assumption)
          obtain ⟨ad319, A319_2, c319_2, e319, hx319_0, hx319_1, hx319_2, hl319_2, hi319_2⟩ := at_T49 HR0.out x5_1 p319 q319
          obtain rfl : ad317 = ad319 := (by injection e319)
          have HR319_2 := Aside0.mk hi319_2
          have HC319_2 := Aside0.mk hl319_2
          clear hi319_2 hl319_2
          replace p319 := eq_true p319
          replace q319 := eq_true q319
          have ea_ := Option.some.inj (hx317_2.symm.trans hx319_2)
          injection ea_ with ea_ en_ ec_
          subst ea_
          subst ec_
          clear en_
          have p320 : 0 ≤ (x5_1 : Int) := of_decide_eq_true (by first | (with_reducible assumption) | assumption)
          have q320 : x5_1 < (l1.length : Int) := of_decide_eq_true (by first | (with_reducible assumption) | assumption)
          obtain ⟨ad320, A320_2, c320_2, e320, hx320_0, hx320_1, hx320_2, hl320_2, hi320_2⟩ := at_T49 HR1.out x5_1 p320 q320
          obtain rfl : ad318 = ad320 := (by injection e320)
          have HR320_2 := Aside0.mk hi320_2
          have HC320_2 := Aside0.mk hl320_2
          clear hi320_2 hl320_2
          replace p320 := eq_true p320
          replace q320 := eq_true q320
          have ea_ := Option.some.inj (hx318_2.symm.trans hx320_2)
          injection ea_ with ea_ en_ ec_
          subst ea_
          subst ec_
          clear en_
          have p321 : 0 ≤ (x5_1 : Int) := of_decide_eq_true (by first | (with_reducible assumption) | assumption)
          have q321 : x5_1 < (l0.length : Int) := of_decide_eq_true (by first | (with_reducible assumption) | assumption)
          obtain ⟨ad321, A321_2, c321_2, e321, hx321_0, hx321_1, hx321_2, hl321_2, hi321_2⟩ := at_T49 HR0.out x5_1 p321 q321
          obtain rfl : ad317 = ad321 := (by injection e321)
          have HR321_2 := Aside0.mk hi321_2
          have HC321_2 := Aside0.mk hl321_2
          clear hi321_2 hl321_2
          replace p321 := eq_true p321
          replace q321 := eq_true q321
          have ea_ := Option.some.inj (hx317_2.symm.trans hx321_2)
          injection ea_ with ea_ en_ ec_
          subst ea_
          subst ec_
          clear en_
          have p322 : 0 ≤ (x5_1 : Int) := of_decide_eq_true (by first | (with_reducible assumption) | assumption)
          have q322 : x5_1 < (l1.length : Int) := of_decide_eq_true (by first | (with_reducible assumption) | assumption)
          obtain ⟨ad322, A322_2, c322_2, e322, hx322_0, hx322_1, hx322_2, hl322_2, hi322_2⟩ := at_T49 HR1.out x5_1 p322 q322
          obtain rfl : ad318 = ad322 := (by injection e322)
          have HR322_2 := Aside0.mk hi322_2
          have HC322_2 := Aside0.mk hl322_2
          clear hi322_2 hl322_2
          replace p322 := eq_true p322
          replace q322 := eq_true q322
          have ea_ := Option.some.inj (hx318_2.symm.trans hx322_2)
          injection ea_ with ea_ en_ ec_
          subst ea_
          subst ec_
          clear en_
          go_wp2
          repeat (go_quiet (fail); try go_wp2)
          go_meet
          case rel => exact ⟨_, (((((rd_T49 l0 x5_1).f2).length : Int) != (((rd_T49 l1 x5_1).f2).length : Int))), (by first | rfl | (simp; done) | (simp [*]; done)), H', ⟨by have := HK1.out; first | omega | exact Nat.le_refl _⟩, by repeat (first | exact Drawn0.refl _ | apply Drawn0.step)⟩
         ·rw [if_neg c9] at H
          have c9b0 : (((rd_T49 l0 x5_1).f1) == ((rd_T49 l1 x5_1).f1)) = false := beq_eq_false_iff_ne.mpr c9
          have c9b1 : (((rd_T49 l0 x5_1).f1) != ((rd_T49 l1 x5_1).f1)) = true := bne_iff_ne.mpr c9
          have H' := Aside0.mk H
          clear H
          have p317 : 0 ≤ (x5_1 : Int) := of_decide_eq_true (by first | (with_reducible assumption) | assumption)
          have q317 : x5_1 < (l0.length : Int) := of_decide_eq_true (by first | (with_reducible assumption) | assumption)
          obtain ⟨ad317, A317_2, c317_2, e317, hx317_0, hx317_1, hx317_2, hl317_2, hi317_2⟩ := at_T49 HR0.out x5_1 p317 q317
          cases e317
          have HR317_2 := Aside0.mk hi317_2
          have HC317_2 := Aside0.mk hl317_2
          clear hi317_2 hl317_2
          replace p317 := eq_true p317
          replace q317 := eq_true q317
          have p318 : 0 ≤ (x5_1 : Int) := of_decide_eq_true (by first | (with_reducible assumption) | assumption)
          have q318 : x5_1 < (l1.length : Int) := of_decide_eq_true (by first | (with_reducible assumption) | assumption)
          obtain ⟨ad318, A318_2, c318_2, e318, hx318_0, hx318_1, hx318_2, hl318_2, hi318_2⟩ := at_T49 HR1.out x5_1 p318 q318
          cases e318
          have HR318_2 := Aside0.mk hi318_2
          have HC318_2 := Aside0.mk hl318_2
          clear hi318_2 hl318_2
          replace p318 := eq_true p318
          replace q318 := eq_true q318
          have p319 : 0 ≤ (x5_1 : Int) := of_decide_eq_true (by first | (with_reducible assumption) | assumption)
          have q319 : x5_1 < (l0.length : Int) := of_decide_eq_true (by first | (with_reducible assumption) | assumption)
          obtain ⟨ad319, A319_2, c319_2, e319, hx319_0, hx319_1, hx319_2, hl319_2, hi319_2⟩ := at_T49 HR0.out x5_1 p319 q319
          obtain rfl : ad317 = ad319 := (by injection e319)
          have HR319_2 := Aside0.mk hi319_2
          have HC319_2 := Aside0.mk hl319_2
          clear hi319_2 hl319_2
          replace p319 := eq_true p319
          replace q319 := eq_true q319
          have ea_ := Option.some.inj (hx317_2.symm.trans hx319_2)
          injection ea_ with ea_ en_ ec_
          subst ea_
          subst ec_
          clear en_
          have p320 : 0 ≤ (x5_1 : Int) := of_decide_eq_true (by first | (with_reducible assumption) | assumption)
          have q320 : x5_1 < (l1.length : Int) := of_decide_eq_true (by first | (with_reducible assumption) | assumption)
          obtain ⟨ad320, A320_2, c320_2, e320, hx320_0, hx320_1, hx320_2, hl320_2, hi320_2⟩ := at_T49 HR1.out x5_1 p320 q320
          obtain rfl : ad318 = ad320 := (by injection e320)
          have HR320_2 := Aside0.mk hi320_2
          have HC320_2 := Aside0.mk hl320_2
          clear hi320_2 hl320_2
          replace p320 := eq_true p320
          replace q320 := eq_true q320
          have ea_ := Option.some.inj (hx318_2.symm.trans hx320_2)
          injection ea_ with ea_ en_ ec_
          subst ea_
          subst ec_
          clear en_
          go_wp2
          repeat (go_quiet (fail); try go_wp2)
          go_meet
          case rel => exact ⟨_, (true), (by first | rfl | (simp; done) | (simp [*]; done)), H', ⟨by have := HK1.out; first | omega | exact Nat.le_refl _⟩, by repeat (first | exact Drawn0.refl _ | apply Drawn0.step)⟩
        ·rw [if_neg c8] at H
         have c8b0 : (((rd_T49 l0 x5_1).f0) == ((rd_T49 l1 x5_1).f0)) = false := beq_eq_false_iff_ne.mpr c8
         have c8b1 : (((rd_T49 l0 x5_1).f0) != ((rd_T49 l1 x5_1).f0)) = true := bne_iff_ne.mpr c8
         have H' := Aside0.mk H
         clear H
         have p317 : 0 ≤ (x5_1 : Int) := of_decide_eq_true (by first | (with_reducible assumption) | assumption)
         have q317 : x5_1 < (l0.length : Int) := of_decide_eq_true (by first | (with_reducible assumption) | assumption)
         obtain ⟨ad317, A317_2, c317_2, e317, hx317_0, hx317_1, hx317_2, hl317_2, hi317_2⟩ := at_T49 HR0.out x5_1 p317 q317
         cases e317
         have HR317_2 := Aside0.mk hi317_2
         have HC317_2 := Aside0.mk hl317_2
         clear hi317_2 hl317_2
         replace p317 := eq_true p317
         replace q317 := eq_true q317
         have p318 : 0 ≤ (x5_1 : Int) := of_decide_eq_true (by first | (with_reducible assumption) | assumption)
         have q318 : x5_1 < (l1.length : Int) := of_decide_eq_true (by first | (with_reducible assumption) | assumption)
         obtain ⟨ad318, A318_2, c318_2, e318, hx318_0, hx318_1, hx318_2, hl318_2, hi318_2⟩ := at_T49 HR1.out x5_1 p318 q318
         cases e318
         have HR318_2 := Aside0.mk hi318_2
         have HC318_2 := Aside0.mk hl318_2
         clear hi318_2 hl318_2
         replace p318 := eq_true p318
         replace q318 := eq_true q318
         go_wp2
         repeat (go_quiet (fail); try go_wp2)
         go_meet
         case rel => exact ⟨_, (true), (by first | rfl | (simp; done) | (simp [*]; done)), H', ⟨by have := HK1.out; first | omega | exact Nat.le_refl _⟩, by repeat (first | exact Drawn0.refl _ | apply Drawn0.step)⟩
       ·rw [if_neg c7] at H
        exact absurd H (by simp)
      ·rw [if_neg c6] at H
       exact absurd H (by simp)
     case rest =>
      clear HC5
      (try clear c1);(try clear c2);(try clear p2);(try clear c3);(try clear c3b0);(try clear c3b1);(try clear c3b2);(try clear p3);(try clear q3);(try clear hx3);(try clear c4);(try clear c4b0);(try clear c6);(try clear c6b0);(try clear c7);(try clear c7b0);(try clear c8);(try clear c8b0);(try clear c8b1);(try clear c9);(try clear c9b0);(try clear c9b1);(try clear hx317_0);(try clear hx317_1);(try clear hx317_2);(try clear hx318_0);(try clear hx318_1);(try clear hx318_2);(try clear hx319_0);(try clear hx319_1);(try clear hx319_2);(try clear hx320_0);(try clear hx320_1);(try clear hx320_2);(try clear hx321_0);(try clear hx321_1);(try clear hx321_2);(try clear hx322_0);(try clear hx322_1);(try clear hx322_2);(try clear p2);(try clear p317);(try clear p318);(try clear p319);(try clear p320);(try clear p321);(try clear p322);(try clear q317);(try clear q318);(try clear q319);(try clear q320);(try clear q321);(try clear q322)
      obtain ⟨kq, x56_4, rfl, HA, HJ4, ⟨mc4, rfl⟩⟩ := hcut
      cases kq with
      | zero => exact absurd HA.out (by simp [collatorref04_Same.j1])
      | succ kj4 =>
       have H := HA.out
       clear HA
       simp only [collatorref04_Same.j1] at H
       by_cases c10 : x56_4 = true
       ·subst c10
        have H1 : (some false) = some r := by rw [if_pos rfl] at H; exact H
        clear H
        have H := H1
        clear H1
        obtain rfl := Option.some.inj H
        go_wp2
        repeat (go_quiet (fail); try go_wp2)
        go_ret
        exact ⟨by first | rfl | (simp; done) | (simp [*]; done), by repeat (first | exact Drawn0.refl _ | apply Drawn0.step)⟩
       ·replace c10 := Bool.eq_false_iff.mpr c10
        subst c10
        have H1 : (collatorref04_Same.l1 kj4 l0 l1 x5_1 0) = some r := by rw [if_neg (show ¬ (false = true) by decide)] at H; exact H
        clear H
        have H := H1
        clear H1
        have H' := Aside0.mk H
        clear H
        go_wp2
        repeat (go_quiet (fail); try go_wp2)
        go_loopg [6] kj4 (fun kq v6 w' => ∃ (x6_3 : Int), v6 = .int .i64 x6_3 ∧ Aside0 (collatorref04_Same.l1 kq l0 l1 x5_1 x6_3 = some r) ∧ Aside0 (kq ≤ kj4) ∧ Drawn0 w w')
        case atStart => exact ⟨(0), (by first | rfl | (simp; done) | (simp [*]; done)), H', ⟨Nat.le_refl _⟩, by repeat (first | exact Drawn0.refl _ | apply Drawn0.step)⟩
        case round =>
         clear H'
         (try clear c1);(try clear c2);(try clear p2);(try clear c3);(try clear c3b0);(try clear c3b1);(try clear c3b2);(try clear p3);(try clear q3);(try clear hx3);(try clear c4);(try clear c4b0);(try clear c6);(try clear c6b0);(try clear c7);(try clear c7b0);(try clear c8);(try clear c8b0);(try clear c8b1);(try clear c9);(try clear c9b0);(try clear c9b1);(try clear c10);(try clear hx317_0);(try clear hx317_1);(try clear hx317_2);(try clear hx318_0);(try clear hx318_1);(try clear hx318_2);(try clear hx319_0);(try clear hx319_1);(try clear hx319_2);(try clear hx320_0);(try clear hx320_1);(try clear hx320_2);(try clear hx321_0);(try clear hx321_1);(try clear hx321_2);(try clear hx322_0);(try clear hx322_1);(try clear hx322_2);(try clear p2);(try clear p3);(try clear p317);(try clear p318);(try clear p319);(try clear p320);(try clear p321);(try clear p322);(try clear q3);(try clear q317);(try clear q318);(try clear q319);(try clear q320);(try clear q321);(try clear q322)
         obtain ⟨x6_3, rfl, HA, HK3, ⟨m3, rfl⟩⟩ := hrel
         cases gk with
         | zero => exact absurd HA.out (by simp [collatorref04_Same.l1])
         | succ k3 =>
          have H := HA.out
          clear HA
          simp only [collatorref04_Same.l1] at H
          by_cases c11 : 0 ≤ x5_1
          ·rw [if_pos c11] at H
           have c11b0 : decide (0 ≤ x5_1) = true := decide_eq_true c11
           clear c11
           by_cases c12 : x5_1 < (l0.length : Int)
           ·rw [if_pos c12] at H
            have c12b0 : decide (x5_1 < (l0.length : Int)) = true := decide_eq_true c12
            clear c12
            by_cases c13 : x6_3 < (((rd_T49 l0 x5_1).f2).length : Int)
            ·rw [if_pos c13] at H
             have c13b0 : decide (x6_3 < (((rd_T49 l0 x5_1).f2).length : Int)) = true := decide_eq_true c13
             clear c13
             by_cases c14 : 0 ≤ x6_3
             ·rw [if_pos c14] at H
              have c14b0 : decide (0 ≤ x6_3) = true := decide_eq_true c14
              clear c14
              by_cases c15 : x5_1 < (l1.length : Int)
              ·rw [if_pos c15] at H
               have c15b0 : decide (x5_1 < (l1.length : Int)) = true := decide_eq_true c15
               clear c15
               by_cases c16 : x6_3 < (((rd_T49 l1 x5_1).f2).length : Int)
               ·rw [if_pos c16] at H
                have c16b0 : decide (x6_3 < (((rd_T49 l1 x5_1).f2).length : Int)) = true := decide_eq_true c16
                clear c16
                by_cases c17 : (rdOf ByteArray.empty ((rd_T49 l0 x5_1).f2) x6_3).toList = (rdOf ByteArray.empty ((rd_T49 l1 x5_1).f2) x6_3).toList
                ·rw [if_pos c17] at H
                 have c17b0 : ((rdOf ByteArray.empty ((rd_T49 l0 x5_1).f2) x6_3).toList == (rdOf ByteArray.empty ((rd_T49 l1 x5_1).f2) x6_3).toList) = true := beq_iff_eq.mpr c17
                 have c17b1 : ((rdOf ByteArray.empty ((rd_T49 l0 x5_1).f2) x6_3).toList != (rdOf ByteArray.empty ((rd_T49 l1 x5_1).f2) x6_3).toList) = false := bne_eq_false_iff_eq.mpr c17
                 clear c17
                 have H' := Aside0.mk H
                 clear H
                 have p323 : 0 ≤ (x5_1 : Int) := of_decide_eq_true (by first | (with_reducible assumption) | assumption)
                 have q323 : x5_1 < (l0.length : Int) := of_decide_eq_true (by first | (with_reducible assumption) | assumption)
                 obtain ⟨ad323, A323_2, c323_2, e323, hx323_0, hx323_1, hx323_2, hl323_2, hi323_2⟩ := at_T49 HR0.out x5_1 p323 q323
                 cases e323
                 have HR323_2 := Aside0.mk hi323_2
                 have HC323_2 := Aside0.mk hl323_2
                 clear hi323_2 hl323_2
                 replace p323 := eq_true p323
                 replace q323 := eq_true q323
                 have p324 : 0 ≤ (x5_1 : Int) := of_decide_eq_true (by first | (with_reducible assumption) | assumption)
                 have q324 : x5_1 < (l0.length : Int) := of_decide_eq_true (by first | (with_reducible assumption) | assumption)
                 obtain ⟨ad324, A324_2, c324_2, e324, hx324_0, hx324_1, hx324_2, hl324_2, hi324_2⟩ := at_T49 HR0.out x5_1 p324 q324
                 obtain rfl : ad323 = ad324 := (by injection e324)
                 have HR324_2 := Aside0.mk hi324_2
                 have HC324_2 := Aside0.mk hl324_2
                 clear hi324_2 hl324_2
                 replace p324 := eq_true p324
                 replace q324 := eq_true q324
                 have ea_ := Option.some.inj (hx323_2.symm.trans hx324_2)
                 injection ea_ with ea_ en_ ec_
                 subst ea_
                 subst ec_
                 clear en_
                 have p325 : 0 ≤ (x6_3 : Int) := of_decide_eq_true (by first | (with_reducible assumption) | assumption)
                 have q325 : x6_3 < (((rd_T49 l0 x5_1).f2).length : Int) := of_decide_eq_true (by first | (with_reducible assumption) | assumption)
                 obtain ⟨ad325, e325, hx325_0⟩ := Kd.at_string HR324_2.out x6_3 p325 q325
                 cases e325
                 replace p325 := eq_true p325
                 replace q325 := eq_true q325
                 have p326 : 0 ≤ (x5_1 : Int) := of_decide_eq_true (by first | (with_reducible assumption) | assumption)
                 have q326 : x5_1 < (l1.length : Int) := of_decide_eq_true (by first | (with_reducible assumption) | assumption)
                 obtain ⟨ad326, A326_2, c326_2, e326, hx326_0, hx326_1, hx326_2, hl326_2, hi326_2⟩ := at_T49 HR1.out x5_1 p326 q326
                 cases e326
                 have HR326_2 := Aside0.mk hi326_2
                 have HC326_2 := Aside0.mk hl326_2
                 clear hi326_2 hl326_2
                 replace p326 := eq_true p326
                 replace q326 := eq_true q326
                 have p327 : 0 ≤ (x6_3 : Int) := of_decide_eq_true (by first | (with_reducible assumption) | assumption)
                 have q327 : x6_3 < (((rd_T49 l1 x5_1).f2).length : Int) := of_decide_eq_true (by first | (with_reducible assumption) | assumption)
                 obtain ⟨ad327, e327, hx327_0⟩ := Kd.at_string HR326_2.out x6_3 p327 q327
                 cases e327
                 replace p327 := eq_true p327
                 replace q327 := eq_true q327
                 go_wp2
                 repeat (go_quiet (fail); try go_wp2)
                 go_roundg k3
                 case measure => have := HK1.out; have := HJ4.out; have := HK3.out; omega
                 case rel => exact ⟨(wrap64 (x6_3 + 1)), (by first | rfl | (simp; done) | (simp [*]; done)), H', ⟨by have := HK1.out; have := HJ4.out; have := HK3.out; omega⟩, by repeat (first | exact Drawn0.refl _ | apply Drawn0.step)⟩
                ·rw [if_neg c17] at H
                 have c17b0 : ((rdOf ByteArray.empty ((rd_T49 l0 x5_1).f2) x6_3).toList == (rdOf ByteArray.empty ((rd_T49 l1 x5_1).f2) x6_3).toList) = false := beq_eq_false_iff_ne.mpr c17
                 have c17b1 : ((rdOf ByteArray.empty ((rd_T49 l0 x5_1).f2) x6_3).toList != (rdOf ByteArray.empty ((rd_T49 l1 x5_1).f2) x6_3).toList) = true := bne_iff_ne.mpr c17
                 obtain rfl := Option.some.inj H
                 have p323 : 0 ≤ (x5_1 : Int) := of_decide_eq_true (by first | (with_reducible assumption) | assumption)
                 have q323 : x5_1 < (l0.length : Int) := of_decide_eq_true (by first | (with_reducible assumption) | assumption)
                 obtain ⟨ad323, A323_2, c323_2, e323, hx323_0, hx323_1, hx323_2, hl323_2, hi323_2⟩ := at_T49 HR0.out x5_1 p323 q323
                 cases e323
                 have HR323_2 := Aside0.mk hi323_2
                 have HC323_2 := Aside0.mk hl323_2
                 clear hi323_2 hl323_2
                 replace p323 := eq_true p323
                 replace q323 := eq_true q323
                 have p324 : 0 ≤ (x5_1 : Int) := of_decide_eq_true (by first | (with_reducible assumption) | assumption)
                 have q324 : x5_1 < (l0.length : Int) := of_decide_eq_true (by first | (with_reducible assumption) | assumption)
                 obtain ⟨ad324, A324_2, c324_2, e324, hx324_0, hx324_1, hx324_2, hl324_2, hi324_2⟩ := at_T49 HR0.out x5_1 p324 q324
                 obtain rfl : ad323 = ad324 := (by injection e324)
                 have HR324_2 := Aside0.mk hi324_2
                 have HC324_2 := Aside0.mk hl324_2
                 clear hi324_2 hl324_2
                 replace p324 := eq_true p324
                 replace q324 := eq_true q324
                 have ea_ := Option.some.inj (hx323_2.symm.trans hx324_2)
                 injection ea_ with ea_ en_ ec_
                 subst ea_
                 subst ec_
                 clear en_
                 have p325 : 0 ≤ (x6_3 : Int) := of_decide_eq_true (by first | (with_reducible assumption) | assumption)
                 have q325 : x6_3 < (((rd_T49 l0 x5_1).f2).length : Int) := of_decide_eq_true (by first | (with_reducible assumption) | assumption)
                 obtain ⟨ad325, e325, hx325_0⟩ := Kd.at_string HR324_2.out x6_3 p325 q325
                 cases e325
                 replace p325 := eq_true p325
                 replace q325 := eq_true q325
                 have p326 : 0 ≤ (x5_1 : Int) := of_decide_eq_true (by first | (with_reducible assumption) | assumption)
                 have q326 : x5_1 < (l1.length : Int) := of_decide_eq_true (by first | (with_reducible assumption) | assumption)
                 obtain ⟨ad326, A326_2, c326_2, e326, hx326_0, hx326_1, hx326_2, hl326_2, hi326_2⟩ := at_T49 HR1.out x5_1 p326 q326
                 cases e326
                 have HR326_2 := Aside0.mk hi326_2
                 have HC326_2 := Aside0.mk hl326_2
                 clear hi326_2 hl326_2
                 replace p326 := eq_true p326
                 replace q326 := eq_true q326
                 have p327 : 0 ≤ (x6_3 : Int) := of_decide_eq_true (by first | (with_reducible assumption) | assumption)
                 have q327 : x6_3 < (((rd_T49 l1 x5_1).f2).length : Int) := of_decide_eq_true (by first | (with_reducible assumption) | assumption)
                 obtain ⟨ad327, e327, hx327_0⟩ := Kd.at_string HR326_2.out x6_3 p327 q327
                 cases e327
                 replace p327 := eq_true p327
                 replace q327 := eq_true q327
                 go_wp2
                 repeat (go_quiet (fail); try go_wp2)
                 go_ret
                 exact ⟨by first | rfl | (simp; done) | (simp [*]; done), by repeat (first | exact Drawn0.refl _ | apply Drawn0.step)⟩
               ·rw [if_neg c16] at H
                exact absurd H (by simp)
              ·rw [if_neg c15] at H
               exact absurd H (by simp)
             ·rw [if_neg c14] at H
              exact absurd H (by simp)
            ·rw [if_neg c13] at H
             have c13b0 : decide (x6_3 < (((rd_T49 l0 x5_1).f2).length : Int)) = false := decide_eq_false c13
             clear c13
             have H' := Aside0.mk H
             clear H
             have p323 : 0 ≤ (x5_1 : Int) := of_decide_eq_true (by first | (with_reducible assumption) | assumption)
             have q323 : x5_1 < (l0.length : Int) := of_decide_eq_true (by first | (with_reducible assumption) | assumption)
             obtain ⟨ad323, A323_2, c323_2, e323, hx323_0, hx323_1, hx323_2, hl323_2, hi323_2⟩ := at_T49 HR0.out x5_1 p323 q323
             cases e323
             have HR323_2 := Aside0.mk hi323_2
             have HC323_2 := Aside0.mk hl323_2
             clear hi323_2 hl323_2
             replace p323 := eq_true p323
             replace q323 := eq_true q323
             go_wp2
             repeat (go_quiet (fail); try go_wp2)
             go_roundg k3
             case measure => have := HK1.out; have := HJ4.out; have := HK3.out; omega
             case rel => exact ⟨(wrap64 (x5_1 + 1)), (by first | rfl | (simp; done) | (simp [*]; done)), H', ⟨by have := HK1.out; have := HJ4.out; have := HK3.out; omega⟩, by repeat (first | exact Drawn0.refl _ | apply Drawn0.step)⟩
           ·rw [if_neg c12] at H
            exact absurd H (by simp)
          ·rw [if_neg c11] at H
           exact absurd H (by simp)
    ·rw [if_neg c4] at H
     have c4b0 : decide (x5_1 < (l0.length : Int)) = false := decide_eq_false c4
     clear c4
     obtain rfl := Option.some.inj H
     go_wp2
     repeat (go_quiet (fail); try go_wp2)
     go_ret
     exact ⟨by first | rfl | (simp; done) | (simp [*]; done), by repeat (first | exact Drawn0.refl _ | apply Drawn0.step)⟩
 ·rw [if_neg c3] at H
  have c3b0 : ((l0.length : Int) == (l1.length : Int)) = false := beq_eq_false_iff_ne.mpr c3
  have c3b1 : ((l0.length : Int) != (l1.length : Int)) = true := bne_iff_ne.mpr c3
  have c3b2 : (l0.length == l1.length) = false := by first | simpa using c3 | (simp at c3 ⊢; omega)
  obtain rfl := Option.some.inj H
  go_enter Try.func28, Try.ntmps28
  go_wp2
  repeat (go_quiet (fail); try go_wp2)
  go_ret
  exact ⟨by first | rfl | (simp; done) | (simp [*]; done), by repeat (first | exact Drawn0.refl _ | apply Drawn0.step)⟩

end Go.Proofs.Ythplelgkneipjaa.P
