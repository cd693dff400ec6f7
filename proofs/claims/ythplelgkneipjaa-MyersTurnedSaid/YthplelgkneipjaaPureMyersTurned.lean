/- MyersTurned: who turns both lists, or each about, has the same cost: the plain law over the printed function. -/
import Derived.Test.YthplelgkneipjaaPxf9
import Derived.Test.YthplelgkneipjaaQMyersEv
set_option linter.unusedVariables false
set_option linter.unusedSimpArgs false
namespace Go.Proofs.Ythplelgkneipjaa.Pure
open Go Go.RowKit Go.Proofs.Ythplelgkneipjaa.P Go.Proofs.YthplelgkneipjaaW.PrintWords Go.Proofs.YthplelgkneipjaaW.PrintLast Go.Proofs.Ythplelgkneipjaa.Q
theorem tmod_cast (x y : Nat) (h : x % 2 = y % 2) : (Int.tmod (x : Int) 2 == Int.tmod (y : Int) 2) = true := by
  rw [beq_iff_eq, Int.tmod_eq_emod_of_nonneg (by omega), Int.tmod_eq_emod_of_nonneg (by omega)]
  omega
theorem zero_beq (n : Nat) (P : Prop) [Decidable P] (h : n = 0 ↔ P) : (((n : Int) == 0) == decide P) = true := by
  have e : ((n : Int) == 0) = decide P := by
    rw [Bool.eq_iff_iff, beq_iff_eq, decide_eq_true_iff, ← h]
    omega
  rw [e, beq_self_eq_true]
theorem turned_end {A B C : List ByteArray} (kA : A.length ≤ 30) (kB : B.length ≤ 30) {n p q : Nat} (hAB : myers_Cost.f A B = some (n : Int)) (hBA : myers_Cost.f B A = some (n : Int)) (hR : myers_Cost.f A.reverse B.reverse = some (n : Int)) (hAA : myers_Cost.f A A = some 0)
    (hAC : myers_Cost.f A C = some (p : Int)) (hBC : myers_Cost.f B C = some (q : Int)) (hz : n = 0 ↔ A = B) (hby : p ≤ n + q) (hq : q ≤ 100) (hle : n ≤ A.length + B.length) (hpar : n % 2 = (A.length + B.length) % 2) :
    Ev (fun k => ((myers_Cost.f A B).bind fun t440 => (if true = true then ((myers_Cost.f B A).bind fun t441 => (if t440 = t441 then ((collatorlaw05_back.f k A).bind fun t442 => ((collatorlaw05_back.f k B).bind fun t445 => ((myers_Cost.f t442 t445).bind fun t448 => (if t440 = t448 then ((myers_Cost.f A A).bind fun t449 => (if t449 = 0 then ((collatorref01_Texts.f k A B).bind fun t450 => (if ((t440 == 0) == t450) = true then ((myers_Cost.f A C).bind fun t451 => ((myers_Cost.f B C).bind fun t452 => (if t451 ≤ (wrap64 (t440 + t452)) then (if t440 ≤ (wrap64 ((A.length : Int) + (B.length : Int))) then (some ((Int.tmod t440 2) == (Int.tmod (wrap64 ((A.length : Int) + (B.length : Int))) 2))) else (some false)) else (some false)))) else (some false))) else (some false))) else (some false))))) else (some false))) else (some false)))) true := by
  have e1 : wrap64 ((n : Int) + (q : Int)) = ((n + q : Nat) : Int) := by rw [w64 (by omega) (by omega)]; omega
  have e2 : wrap64 ((A.length : Int) + (B.length : Int)) = ((A.length + B.length : Nat) : Int) := by rw [w64 (by omega) (by omega)]; omega
  simp only [hAB, hBA, Option.bind_some, if_true]
  refine Ev.bind (back_ev A (by omega)) ?_
  refine Ev.bind (back_ev B (by omega)) ?_
  simp only [hR, hAA, Option.bind_some, if_true]
  refine Ev.bind (texts_ev A B (by omega) (by omega)) ?_
  have e0 := zero_beq n (A = B) hz
  have e3 : (p : Int) ≤ ((n + q : Nat) : Int) := Int.ofNat_le.2 hby
  have e4 : (n : Int) ≤ ((A.length + B.length : Nat) : Int) := Int.ofNat_le.2 hle
  have e5 := tmod_cast n (A.length + B.length) hpar
  generalize ((A.length + B.length : Nat) : Int) = u at *
  generalize ((n + q : Nat) : Int) = v at *
  rw [if_pos e0]
  rw [hAC, Option.bind_some, hBC, Option.bind_some, e1, if_pos e3, e2, if_pos e4, e5]
  exact Ev.now _
theorem turned_fin {A B C : List ByteArray} (kA : A.length ≤ 30) (kB : B.length ≤ 30) (kC : C.length ≤ 30) :
    Ev (fun k => ((myers_Cost.f A B).bind fun t440 => (if true = true then ((myers_Cost.f B A).bind fun t441 => (if t440 = t441 then ((collatorlaw05_back.f k A).bind fun t442 => ((collatorlaw05_back.f k B).bind fun t445 => ((myers_Cost.f t442 t445).bind fun t448 => (if t440 = t448 then ((myers_Cost.f A A).bind fun t449 => (if t449 = 0 then ((collatorref01_Texts.f k A B).bind fun t450 => (if ((t440 == 0) == t450) = true then ((myers_Cost.f A C).bind fun t451 => ((myers_Cost.f B C).bind fun t452 => (if t451 ≤ (wrap64 (t440 + t452)) then (if t440 ≤ (wrap64 ((A.length : Int) + (B.length : Int))) then (some ((Int.tmod t440 2) == (Int.tmod (wrap64 ((A.length : Int) + (B.length : Int))) 2))) else (some false)) else (some false)))) else (some false))) else (some false))) else (some false))))) else (some false))) else (some false)))) true := by
  have mA : A.length ≤ 1000000 := Nat.le_trans kA (by decide)
  have mB : B.length ≤ 1000000 := Nat.le_trans kB (by decide)
  have mC : C.length ≤ 1000000 := Nat.le_trans kC (by decide)
  have hR := cost_ok (a := A.reverse) (b := B.reverse) (by rw [List.length_reverse]; exact mA) (by rw [List.length_reverse]; exact mB)
  rw [cost_rev] at hR
  have hBA := cost_ok mB mA
  rw [cost_symm B A] at hBA
  have hAA := cost_ok mA mA
  rw [cost_self] at hAA
  have hq := cost_le' B C
  exact turned_end kA kB (cost_ok mA mB) hBA hR hAA (cost_ok mA mC) (cost_ok mB mC) (cost_zero A B) (cost_by A B C) (Nat.le_trans hq (Nat.le_trans (Nat.add_le_add kB kC) (by decide))) (cost_le' A B) (cost_parity A B)
theorem MyersTurned : collatorlaw05_MyersTurned.Pure := by
  intro l0 l1 l2 hm0 hr0 hw0 hm1 hr1 hw1 hm2 hr2 hw2
  obtain ⟨A, hA, fA, lA⟩ := lines_ev l0 hw0 (by omega) 30 (by omega)
  obtain ⟨B, hB, fB, lB⟩ := lines_ev l1 hw1 (by omega) 30 (by omega)
  obtain ⟨C, hC, fC, lC⟩ := lines_ev l2 hw2 (by omega) 30 (by omega)
  have a30 := fA.le
  have b30 := fB.le
  have c30 := fC.le
  clear hm0 hr0 hw0 hm1 hr1 hw1 hm2 hr2 hw2 lA lB lC fA fB fC
  refine Ev.rounds ?_
  unfold collatorlaw05_MyersTurned.f
  simp only [awake5_ok, Option.bind_some]
  refine Ev.bind hA ?_
  refine Ev.bind hB ?_
  refine Ev.bind hC ?_
  exact turned_fin a30 b30 c30
end Go.Proofs.Ythplelgkneipjaa.Pure
