/- MyersShared: lines that both begin with, or end with, change neither cost nor what is done with the others: the plain law over the printed function. -/
import Derived.Test.YthplelgkneipjaaPxf10
import Derived.Test.YthplelgkneipjaaQSteps
set_option linter.unusedVariables false
set_option linter.unusedSimpArgs false
namespace Go.Proofs.Ythplelgkneipjaa.Pure
open Go Go.RowKit Go.Proofs.Ythplelgkneipjaa.P Go.Proofs.YthplelgkneipjaaW.PrintWords Go.Proofs.YthplelgkneipjaaW.PrintLast Go.Proofs.Ythplelgkneipjaa.Q
theorem shared_l1 (P : List ByteArray) (S : List Int) (hP : P.length ≤ 100) (hS : S.length ≤ 100) (u : List Int) : ∀ j : Nat, S.drop j = u → Ev (fun k => collatorlaw05_MyersShared.l1 k true P S (List.replicate P.length 1 ++ S) (j : Int)) true := by
  have hl : (((List.replicate P.length (1 : Int) ++ S).length : Nat) : Int) = (S.length : Int) + (P.length : Int) := by rw [List.length_append, List.length_replicate]; omega
  induction u with
  | nil =>
    intro j h
    have hj := drop_nil h
    refine Ev.step (f := fun _ => some true) (fun k => ?_) (Ev.now _)
    simp only [collatorlaw05_MyersShared.l1]; rw [if_neg (by omega)]
  | cons x u ih =>
    intro j h
    obtain ⟨h1, h2, h3⟩ := drop_cons h
    refine Ev.step (fun k => ?_) (ih (j + 1) h3)
    have e1 : wrap64 ((S.length : Int) + (P.length : Int)) = (S.length : Int) + (P.length : Int) := w64 (by omega) (by omega)
    have e2 : wrap64 ((P.length : Int) + (j : Int)) = ((P.length + j : Nat) : Int) := by rw [w64 (by omega) (by omega)]; omega
    have e3 : (List.replicate P.length (1 : Int) ++ S)[P.length + j]? = some x := by rw [List.getElem?_append_right (by simp)]; simpa using h2
    simp only [collatorlaw05_MyersShared.l1]
    rw [if_pos (by omega), if_pos (by rw [e1, hl]), e2, if_pos (by omega), if_pos (by omega), if_pos (by omega), rdI e3, rdI h2, if_pos rfl, wi (by omega)]
theorem shared_l0 (P Q : List ByteArray) (S U : List Int) (hP : P.length ≤ 100) (hS : S.length ≤ 100) (hU : U.length ≤ 100) (hQ : Q.length = 0 → U = S) (d : Nat) : ∀ i : Nat, i + d = P.length → Ev (fun k => collatorlaw05_MyersShared.l0 k true P Q S (List.replicate P.length 1 ++ U) (i : Int)) true := by
  have hl : (((List.replicate P.length (1 : Int) ++ U).length : Nat) : Int) = (U.length : Int) + (P.length : Int) := by rw [List.length_append, List.length_replicate]; omega
  induction d with
  | zero =>
    intro i h
    by_cases c : (Q.length : Int) > 0
    · refine Ev.step (f := fun _ => some true) (fun k => ?_) (Ev.now _)
      simp only [collatorlaw05_MyersShared.l0]; rw [if_neg (by omega), if_pos c]
    · rw [hQ (by omega)]
      refine Ev.step (fun k => ?_) (shared_l1 P S hP hS S 0 (by simp))
      simp only [collatorlaw05_MyersShared.l0]; rw [if_neg (by omega), if_neg c]; rfl
  | succ d ih =>
    intro i h
    refine Ev.step (fun k => ?_) (ih (i + 1) (by omega))
    have e3 : (List.replicate P.length (1 : Int) ++ U)[i]? = some 1 := by rw [List.getElem?_append_left (by simp; omega), List.getElem?_replicate, if_pos (by omega)]
    simp only [collatorlaw05_MyersShared.l0]
    rw [if_pos (by omega), if_pos (by omega), if_pos (by omega), rdI e3, if_pos rfl, wi (by omega)]
theorem shared_j0 (P Q : List ByteArray) (S U : List Int) (hP : P.length ≤ 100) (hS : S.length ≤ 100) (hU : U.length ≤ 100) (hQ : Q.length = 0 → U = S) : Ev (fun k => collatorlaw05_MyersShared.j0 k true P Q S (List.replicate P.length 1 ++ U) false) true := by
  refine Ev.step (fun k => ?_) (shared_l0 P Q S U hP hS hU hQ P.length 0 (by omega))
  simp only [collatorlaw05_MyersShared.j0]; rw [if_neg (by decide)]; rfl
theorem shared_fin {A B P Q X Y : List ByteArray} {c l : Nat} {S T : List Int} (hP : P.length ≤ 100) (hT : (decide ((T.length : Int) < (P.length : Int))) = false) (hJ : Ev (fun k => collatorlaw05_MyersShared.j0 k true P Q S T false) true) (l1 : l + P.length + Q.length ≤ 1000)
    {s t : List EdS} (hDAB : myers_Diff.f A B = some s) (hDXY : myers_Diff.f X Y = some t) (hs : Ev (fun k => collatorlaw05_steps.f k s) S) (ht : Ev (fun k => collatorlaw05_steps.f k t) T)
    (hCX : myers_Cost.f X Y = some (c : Int)) (hCA : myers_Cost.f A B = some (c : Int)) (hLX : myers_Common.f X Y = some ((l + P.length + Q.length : Nat) : Int)) (hLA : myers_Common.f A B = some (l : Int)) :
    Ev (fun k => (myers_Diff.f A B).bind fun t489 => (collatorlaw05_steps.f k t489).bind fun t492 => (myers_Diff.f X Y).bind fun t495 => (collatorlaw05_steps.f k t495).bind fun t498 => (myers_Cost.f X Y).bind fun t501 => (myers_Cost.f A B).bind fun t502 => if t501 = t502 then (myers_Common.f X Y).bind fun t503 => (myers_Common.f A B).bind fun t504 => if t503 = (wrap64 ((wrap64 (t504 + (P.length : Int))) + (Q.length : Int))) then (collatorlaw05_MyersShared.j0 k true P Q t492 t498 (decide ((t498.length : Int) < (P.length : Int)))) else (collatorlaw05_MyersShared.j0 k true P Q t492 t498 true) else (collatorlaw05_MyersShared.j0 k true P Q t492 t498 true)) true := by
  have e1 : wrap64 ((wrap64 ((l : Int) + (P.length : Int))) + (Q.length : Int)) = ((l + P.length + Q.length : Nat) : Int) := by rw [w64 (x := (l : Int) + (P.length : Int)) (by omega) (by omega), w64 (by omega) (by omega)]; omega
  refine evval hDAB (Ev.bind hs (evval hDXY (Ev.bind ht (evval hCX (evval hCA (evpos rfl (evval hLX (evval hLA (evpos e1.symm ?_)))))))))
  rw [hT]
  exact hJ
theorem MyersShared : collatorlaw05_MyersShared.Pure := by
  intro l0 l1 l2 l3 hm0 hr0 hw0 hm1 hr1 hw1 hm2 hr2 hw2 hm3 hr3 hw3
  obtain ⟨A, hA, fA, lA⟩ := lines_ev l0 hw0 (by omega) 20 (by omega)
  obtain ⟨B, hB, fB, lB⟩ := lines_ev l1 hw1 (by omega) 20 (by omega)
  obtain ⟨P, hP, fP, lP⟩ := lines_ev l2 hw2 (by omega) 9 (by omega)
  obtain ⟨Q, hQ, fQ, lQ⟩ := lines_ev l3 hw3 (by omega) 9 (by omega)
  have kA := fA.le
  have kB := fB.le
  have kP := fP.le
  have kQ := fQ.le
  clear hm0 hr0 hw0 hm1 hr1 hw1 lA lB fA fB hm2 hr2 hw2 hm3 hr3 hw3 lP lQ fP fQ
  have mA : A.length ≤ 1000000 := Nat.le_trans kA (by decide)
  have mB : B.length ≤ 1000000 := Nat.le_trans kB (by decide)
  have hXl : (P ++ A ++ Q).length = P.length + A.length + Q.length := by simp only [List.length_append]
  have hYl : (P ++ B ++ Q).length = P.length + B.length + Q.length := by simp only [List.length_append]
  have mX : (P ++ A ++ Q).length ≤ 1000000 := by omega
  have mY : (P ++ B ++ Q).length ≤ 1000000 := by omega
  have hl2 := lcs_two A B
  have hL : lcs (P ++ A ++ Q) (P ++ B ++ Q) = lcs A B + P.length + Q.length := by rw [lcs_post, lcs_pre]; omega
  have hC : cost (P ++ A ++ Q) (P ++ B ++ Q) = cost A B := by unfold cost; rw [hL, hXl, hYl]; omega
  have hCX := cost_ok mX mY
  have hLX := stay_ok mX mY
  rw [hC] at hCX
  rw [hL] at hLX
  have hpt : ops (pth (P ++ A ++ Q) (P ++ B ++ Q)) = List.replicate P.length 1 ++ ops (pth (A ++ Q) (B ++ Q)) := by
    rw [List.append_assoc, List.append_assoc, pth_pre, ops_append]
    congr 1
    simp [ops]
  have hS := script_ops A B (by omega)
  have hT := script_ops (P ++ A ++ Q) (P ++ B ++ Q) (by omega)
  rw [hpt] at hT
  have b1 := (pth_small A B).1
  have b2 := (pth_small (A ++ Q) (B ++ Q)).1
  rw [List.length_append, List.length_append] at b2
  have hSl : (ops (pth A B)).length ≤ 100 := by unfold ops; rw [List.length_map]; omega
  have hUl : (ops (pth (A ++ Q) (B ++ Q))).length ≤ 100 := by unfold ops; rw [List.length_map]; omega
  have hJ := shared_j0 P Q (ops (pth A B)) (ops (pth (A ++ Q) (B ++ Q))) (by omega) hSl hUl (fun h => by
    have : Q = [] := List.eq_nil_of_length_eq_zero h
    rw [this, List.append_nil, List.append_nil])
  refine Ev.rounds ?_
  unfold collatorlaw05_MyersShared.f
  refine evval awake5_ok (Ev.bind hA (Ev.bind hB (Ev.bind hP (Ev.bind hQ (evpos (by simp only [List.length_nil]; omega) (evval rfl (evpos ?_ (evval rfl (evpos ?_ (evval rfl (evval rfl (evpos ?_ (evval rfl (evpos ?_ (evval rfl ?_)))))))))))))))
  iterate 4 simp only [List.nil_append, List.length_append]; omega
  simp only [List.nil_append]
  exact shared_fin (by omega) (by rw [List.length_append, List.length_replicate]; exact decide_eq_false (by omega)) hJ (by omega) (diff_ok mA mB) (diff_ok mX mY) hS.2 hT.2 hCX (cost_ok mA mB) hLX (stay_ok mA mB)
end Go.Proofs.Ythplelgkneipjaa.Pure
