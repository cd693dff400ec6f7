/- MyersEnds: lines with others behind them are kept, and these added, or cut: the plain law over what the law's calls answer. -/
import Derived.Test.YthplelgkneipjaaEEnds
import Derived.Test.YthplelgkneipjaaQScriptEv
import Derived.Test.YthplelgkneipjaaQMCost
set_option linter.unusedVariables false
set_option linter.unusedSimpArgs false
namespace Go.Proofs.Ythplelgkneipjaa.Pure
open Go Go.RowKit Go.Proofs.Ythplelgkneipjaa.P Go.Proofs.YthplelgkneipjaaW.PrintWords Go.Proofs.YthplelgkneipjaaW.PrintLast Go.Proofs.Ythplelgkneipjaa.Q
theorem or_addsP (A B : List ByteArray) : orNone A.length ⟨1, (A.length : Int), []⟩ ++ orNone B.length ⟨3, (B.length : Int), B⟩ = addsP A B := by
  unfold orNone addsP
  rcases Nat.eq_zero_or_pos A.length with h | h <;> rcases Nat.eq_zero_or_pos B.length with h' | h' <;> simp [h, h', Nat.pos_iff_ne_zero.1, Nat.ne_of_gt]
theorem or_cutsP (A B : List ByteArray) : orNone A.length ⟨1, (A.length : Int), []⟩ ++ orNone B.length ⟨2, (B.length : Int), []⟩ = cutsP A B := by
  unfold orNone cutsP
  rcases Nat.eq_zero_or_pos A.length with h | h <;> rcases Nat.eq_zero_or_pos B.length with h' | h' <;> simp [h, h', Nat.pos_iff_ne_zero.1, Nat.ne_of_gt]
theorem cost_nil_left (B : List ByteArray) : cost [] B = B.length := by unfold cost; rw [lcs_nil]; simp
theorem cost_nil_right (A : List ByteArray) : cost A [] = A.length := by unfold cost; rw [lcs_nil']; simp
theorem lcs_behind (A B : List ByteArray) : lcs A (A ++ B) = A.length := by
  have h := lcs_pre A [] B
  rw [List.append_nil, lcs_nil] at h
  exact h
theorem same_script (a b : List ByteArray) (ha : a.length ≤ 100) (hb : b.length ≤ 100) : Ev (fun k => collatorref04_Same.f k (script a b) (script a b)) true := by
  have h := script_bd a b
  exact same_ev _ (by omega) (fun x hx => by have := (h.2 x hx).2.2; omega)
theorem MyersEnds : collatorlaw05_MyersEnds.Pure := by
  intro l0 l1 hm0 hr0 hw0 hm1 hr1 hw1
  obtain ⟨A, hA, fA, lA⟩ := lines_ev l0 hw0 hm0 20 (by decide)
  obtain ⟨B, hB, fB, lB⟩ := lines_ev l1 hw1 hm1 20 (by decide)
  have a20 := fA.le
  have b20 := fB.le
  have c40 : (A ++ B).length ≤ 40 := by rw [List.length_append]; omega
  have s1 := same_script A (A ++ B) (Nat.le_trans a20 (by decide)) (Nat.le_trans c40 (by decide))
  have s2 := same_script (A ++ B) A (Nat.le_trans c40 (by decide)) (Nat.le_trans a20 (by decide))
  have mA : A.length ≤ 1000000 := Nat.le_trans a20 (by decide)
  have mB : B.length ≤ 1000000 := Nat.le_trans b20 (by decide)
  have mC : (A ++ B).length ≤ 1000000 := Nat.le_trans c40 (by decide)
  have c1 := cost_ok (a := A) (b := []) mA (Nat.zero_le _)
  have c2 := cost_ok (a := []) (b := B) (Nat.zero_le _) mB
  have c3 := stay_ok (a := A) (b := A ++ B) mA mC
  rw [cost_nil_right] at c1
  rw [cost_nil_left] at c2
  rw [lcs_behind] at c3
  clear hm0 hr0 hm1 hr1 lA lB fA fB c40 hw0 hw1
  obtain ⟨k1, hA⟩ := hA
  obtain ⟨k2, hB⟩ := hB
  obtain ⟨k3, s1⟩ := s1
  obtain ⟨k4, s2⟩ := s2
  refine ⟨k1 + k2 + k3 + k4, A, B, A ++ B, script A (A ++ B), script (A ++ B) A, hA _ (by omega), hB _ (by omega), by rw [List.nil_append], diff_ok mA mC, ?_, diff_ok mC mA, ?_, c1, c2, c3, a20, b20⟩
  · have h := s1 (k1 + k2 + k3 + k4) (by omega)
    rw [← or_addsP, ← script_behind]
    exact h
  · have h := s2 (k1 + k2 + k3 + k4) (by omega)
    rw [← or_cutsP, ← script_behind']
    exact h
end Go.Proofs.Ythplelgkneipjaa.Pure
