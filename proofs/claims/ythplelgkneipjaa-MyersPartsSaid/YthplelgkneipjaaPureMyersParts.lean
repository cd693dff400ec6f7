/- MyersParts: two parts together cost no more than each alone; a line more changes the cost by one; what has nothing in common is all cut, and all added: the plain law over the printed function. -/
import Derived.Test.YthplelgkneipjaaPxf13
import Derived.Test.YthplelgkneipjaaQMyers
import Derived.Test.YthplelgkneipjaaQMyersEv
import Derived.Test.YthplelgkneipjaaQScriptEv
set_option linter.unusedVariables false
set_option linter.unusedSimpArgs false
namespace Go.Proofs.Ythplelgkneipjaa.Pure
open Go Go.RowKit Go.Proofs.Ythplelgkneipjaa.P Go.Proofs.YthplelgkneipjaaW.PrintWords Go.Proofs.YthplelgkneipjaaW.PrintLast Go.Proofs.Ythplelgkneipjaa.Q
def other (b : ByteArray) : ByteArray := (⟨#[111, 116, 104, 101, 114, 32]⟩ : ByteArray) ++ b
theorem other_size (b : ByteArray) : (other b).size = 6 + b.size := by unfold other; rw [ByteArray.size_append]; rfl
theorem parts_nums (n m p q : Nat) (h1 : m = n + 1 ∨ n = m + 1) (h2 : p ≤ n + q) (h3 : n ≤ 1000) (h4 : q ≤ 1000) : (p : Int) ≤ wrap64 ((n : Int) + (q : Int)) ∧ ((m : Int) = wrap64 ((n : Int) + 1) ∨ (¬ (m : Int) = wrap64 ((n : Int) + 1) ∧ (m : Int) = wrap64 ((n : Int) - 1))) := by
  rw [w64 (x := (n : Int) + (q : Int)) (by omega) (by omega), w64 (x := (n : Int) + 1) (by omega) (by omega), w64 (x := (n : Int) - 1) (by omega) (by omega)]
  omega
theorem parts_loop {A B C D X Y O : List ByteArray} {n m p q : Nat} (hB : B.length ≤ 100) (hsz : ∀ b ∈ B, b.size ≤ 100) (hO : O = B.map other) (hXY : myers_Cost.f X Y = some (p : Int)) (hCD : myers_Cost.f C D = some (q : Int)) (h1 : m = n + 1 ∨ n = m + 1) (h2 : p ≤ n + q) (h3 : n ≤ 1000) (h4 : q ≤ 1000)
    (hA : A.length ≤ 100) (hAO : myers_Cost.f A O = some ((A.length + B.length : Nat) : Int)) (hLO : myers_Common.f A O = some 0) (t : List ByteArray) : ∀ i : Nat, B.drop i = t → Ev (fun k => collatorlaw05_MyersParts.l0 k true A B C D X Y (n : Int) (m : Int) ((B.take i).map other) (i : Int)) true := by
  induction t with
  | nil =>
    intro i h
    have hi := drop_nil h
    refine Ev.step (f := fun _ => some true) (fun k => ?_) (Ev.now _)
    obtain ⟨g1, g2⟩ := parts_nums n m p q h1 h2 h3 h4
    have e1 : wrap64 ((A.length : Int) + (B.length : Int)) = ((A.length + B.length : Nat) : Int) := by rw [w64 (by omega) (by omega)]; omega
    rw [List.take_of_length_le hi, ← hO]
    simp only [collatorlaw05_MyersParts.l0]
    rw [if_neg (by omega), if_true, hXY, Option.bind_some, hCD, Option.bind_some, if_pos g1]
    rcases g2 with g2 | ⟨g2, g3⟩
    · rw [if_pos g2, hAO, Option.bind_some, e1, if_pos rfl, hLO, Option.bind_some]; rfl
    · rw [if_neg g2, if_pos g3, hAO, Option.bind_some, e1, if_pos rfl, hLO, Option.bind_some]; rfl
  | cons x t ih =>
    intro i h
    obtain ⟨h5, h6, h7⟩ := drop_cons h
    have hx := hsz x (List.mem_of_getElem? h6)
    have e : (B.take (i + 1)).map other = (B.take i).map other ++ [(⟨#[111, 116, 104, 101, 114, 32]⟩ : ByteArray) ++ x] := by
      rw [List.take_add_one, h6, List.map_append]
      rfl
    have h8 := ih (i + 1) h7
    rw [e] at h8
    refine Ev.step (fun k => ?_) h8
    simp only [collatorlaw05_MyersParts.l0]
    rw [if_pos (by omega), if_pos (by omega), rdB h6, if_pos (by omega), if_pos (by rw [List.length_map, List.length_take]; omega), wi (by omega)]
theorem parts_fin {A B C D : List ByteArray} {l : ByteArray} (kA : A.length ≤ 15) (kB : B.length ≤ 15) (kC : C.length ≤ 15) (kD : D.length ≤ 15) (fA : ∀ x ∈ A, x ∈ few ∨ x = Q.last_) (fB : ∀ x ∈ B, x.size ≤ 5) :
    Ev (fun k => (myers_Cost.f (A ++ [l]) B).bind fun t608 => (collatorlaw05_MyersParts.l0 k true A B C D (A ++ C) (B ++ D) (cost A B : Int) t608 ([] : List ByteArray) 0)) true := by
  have hno : ∀ x ∈ A, x ∉ B.map other := fun x hx hm => by
    obtain ⟨b, hb, rfl⟩ := List.mem_map.1 hm
    have h1 := other_size b
    rcases fA _ hx with h2 | h2
    · have := few_size _ h2; omega
    · rw [h2] at h1
      have : Q.last_.size = 3 := rfl
      omega
  have hl0 := lcs_none hno
  have cAl := cost_ok (a := A ++ [l]) (b := B) (by rw [List.length_append, List.length_singleton]; omega) (by omega)
  have cXY := cost_ok (a := A ++ C) (b := B ++ D) (by rw [List.length_append]; omega) (by rw [List.length_append]; omega)
  have cCD := cost_ok (a := C) (b := D) (by omega) (by omega)
  have cAO := cost_ok (a := A) (b := B.map other) (by omega) (by rw [List.length_map]; omega)
  have lAO := stay_ok (a := A) (b := B.map other) (by omega) (by rw [List.length_map]; omega)
  have eAO : cost A (B.map other) = A.length + B.length := by unfold cost; rw [hl0, List.length_map]; omega
  rw [eAO] at cAO
  rw [hl0] at lAO
  have h1 := lcs_two A B
  have h2 := lcs_two (A ++ C) (B ++ D)
  have h3 := lcs_two C D
  have h4 := lcs_snoc A B l
  have h5 := lcs_two (A ++ [l]) B
  have h6 := lcs_app A B C D
  simp only [List.length_append, List.length_singleton] at h2 h5
  have g1 : cost (A ++ [l]) B = cost A B + 1 ∨ cost A B = cost (A ++ [l]) B + 1 := by
    unfold cost
    rw [List.length_append, List.length_singleton]
    omega
  have g2 : cost (A ++ C) (B ++ D) ≤ cost A B + cost C D := by
    unfold cost
    rw [List.length_append, List.length_append]
    omega
  exact evval cAl (parts_loop (p := cost (A ++ C) (B ++ D)) (q := cost C D) (by omega) (fun b hb => by have := fB b hb; omega) rfl cXY cCD g1 g2 (by unfold cost; omega) (by unfold cost; omega) (by omega) cAO lAO B 0 (by simp))
theorem MyersParts : collatorlaw05_MyersParts.Pure := by
  intro l0 l1 l2 l3 a4 hm0 hr0 hw0 hm1 hr1 hw1 hm2 hr2 hw2 hm3 hr3 hw3 h4
  obtain ⟨A, hA, fA, lA⟩ := lines_ev l0 hw0 (by omega) 15 (by omega)
  obtain ⟨B, hB, fB, lB⟩ := lines_ev l1 hw1 (by omega) 15 (by omega)
  obtain ⟨C, hC, fC, lC⟩ := lines_ev l2 hw2 (by omega) 15 (by omega)
  obtain ⟨D, hD, fD, lD⟩ := lines_ev l3 hw3 (by omega) 15 (by omega)
  have kA := fA.le
  have kB := fB.le
  have kC := fC.le
  have kD := fD.le
  clear hm0 hr0 hw0 hm1 hr1 hw1 lA lB hm2 hr2 hw2 hm3 hr3 hw3 lC lD fC fD
  refine Ev.rounds ?_
  unfold collatorlaw05_MyersParts.f
  refine evval awake5_ok (Ev.bind hA (Ev.bind hB (Ev.bind hC (Ev.bind hD (evpos ?_ (evval rfl (evpos ?_ (evpos ?_ (evval rfl (evpos ?_ ?_))))))))))
  iterate 4 simp only [List.nil_append, List.length_nil]; omega
  simp only [List.nil_append]
  have hfin := parts_fin (l := a4) kA kB kC kD (fun x hx => fA.mem hx) (fun x hx => fB.size hx)
  refine evval (cost_ok (by omega) (by omega)) (evval rfl (evpos ?_ ?_))
  · omega
  exact hfin
end Go.Proofs.Ythplelgkneipjaa.Pure
