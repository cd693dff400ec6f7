/- MyersMakes: applied to the one list, the shortest script makes the other one; what it costs: the plain law over the printed function. -/
import Derived.Test.YthplelgkneipjaaPxf15
import Derived.Test.YthplelgkneipjaaQScriptEv
import Derived.Test.YthplelgkneipjaaQMyersEv
set_option linter.unusedVariables false
set_option linter.unusedSimpArgs false
namespace Go.Proofs.Ythplelgkneipjaa.Pure
open Go Go.RowKit Go.Proofs.Ythplelgkneipjaa.P Go.Proofs.YthplelgkneipjaaW.PrintWords Go.Proofs.YthplelgkneipjaaW.PrintLast Go.Proofs.Ythplelgkneipjaa.Q
theorem makes_num (a b c l : Nat) (h : c = a + b - 2 * l) (h1 : l ≤ a) (h2 : l ≤ b) (h3 : a ≤ 40) (h4 : b ≤ 40) : (c : Int) = wrap64 ((wrap64 ((a : Int) + (b : Int))) - (wrap64 (2 * (l : Int)))) := by
  rw [w64 (x := (a : Int) + (b : Int)) (by omega) (by omega), w64 (x := 2 * (l : Int)) (by omega) (by omega), w64 (by omega) (by omega)]
  omega
theorem mn_le (a b l : Nat) (h1 : l ≤ a) (h2 : l ≤ b) : decide ((l : Int) ≤ mn (a : Int) (b : Int)) = true := by
  refine decide_eq_true ?_
  unfold mn
  omega
theorem makes_fin {A B : List ByteArray} (kA : A.length ≤ 40) (kB : B.length ≤ 40) {s : List EdS} (hs : s.length ≤ 1000000) (hr : rightB 0 s = true) (ht : takes s = (A.length : Int)) (hap : appl s A = B) {c l : Nat} (hc : chgs s = (c : Int)) (hcl : c = A.length + B.length - 2 * l) (l1 : l ≤ A.length) (l2 : l ≤ B.length)
    (hC : myers_Cost.f A B = some (c : Int)) :
    Ev (fun k => (script_Apply.f k s A).bind fun bt695 => ((some (l : Int)).bind fun t699 => ((if bt695.2 = 0 then ((collatorref01_Texts.f k bt695.1 B).bind fun t700 => (if t700 = true then ((script_Right.f k s).bind fun t701 => (if t701 = true then ((script_Cost.f k s).bind fun t702 => (if t702 = (wrap64 ((wrap64 ((A.length : Int) + (B.length : Int))) - (wrap64 (2 * t699)))) then ((myers_Cost.f A B).bind fun t703 => (if t703 = t702 then (if t699 ≥ 0 then (some (decide (t699 ≤ (mn (A.length : Int) (B.length : Int))))) else (some false)) else (some false))) else (some false))) else (some false))) else (some false))) else (some false))))) true := by
  refine Ev.bind (apply_ev s A hs hr ht) ?_
  rw [hap]
  simp only [Option.bind_some, if_true]
  refine Ev.bind (texts_ev B B (by omega) (by omega)) ?_
  simp only [decide_true, if_true]
  refine Ev.bind (right_ev s hs) ?_
  rw [hr]
  simp only [if_true]
  refine Ev.bind (scost_ev s hs hr) ?_
  have e1 := makes_num A.length B.length c l hcl l1 l2 kA kB
  have e2 := mn_le A.length B.length l l1 l2
  rw [hc, ← e1]
  simp only [hC, Option.bind_some, if_true]
  have e3 : (l : Int) ≥ 0 := Int.natCast_nonneg l
  generalize (l : Int) = u at *
  rw [if_pos e3, e2]
  exact Ev.now _
theorem MyersMakes : collatorlaw05_MyersMakes.Pure := by
  intro l0 l1 hm0 hr0 hw0 hm1 hr1 hw1
  obtain ⟨A, hA, fA, lA⟩ := lines_ev l0 hw0 (by omega) 40 (by omega)
  obtain ⟨B, hB, fB, lB⟩ := lines_ev l1 hw1 (by omega) 40 (by omega)
  have kA := fA.le
  have kB := fB.le
  clear hm0 hr0 hw0 hm1 hr1 hw1 lA lB fA fB
  have mA : A.length ≤ 1000000 := Nat.le_trans kA (by decide)
  have mB : B.length ≤ 1000000 := Nat.le_trans kB (by decide)
  refine Ev.rounds ?_
  unfold collatorlaw05_MyersMakes.f
  simp only [awake5_ok, Option.bind_some, if_true]
  refine Ev.bind hA ?_
  refine Ev.bind hB ?_
  rw [diff_ok mA mB, stay_ok mA mB]
  obtain ⟨h1, h2, h3, h4, h5⟩ := script_fit A B (by omega)
  have h6 := lcs_two A B
  exact makes_fin kA kB (by have := (script_bd A B).1; omega) h2 h3 h4 h5 rfl h6.1 h6.2 (cost_ok mA mB)
end Go.Proofs.Ythplelgkneipjaa.Pure
