/- More of the fewest changes: who turns, shares, goes by way of another: plain. -/
import Derived.Test.YthplelgkneipjaaQScript
set_option linter.unusedVariables false
set_option linter.unusedSimpArgs false
namespace Go.Proofs.Ythplelgkneipjaa.Q
open List
theorem meet {b : List ByteArray} : ∀ {S1 S2 : List ByteArray}, S1 <+ b → S2 <+ b → ∃ S, S <+ S1 ∧ S <+ S2 ∧ S1.length + S2.length ≤ b.length + S.length := by
  induction b with
  | nil =>
    intro S1 S2 h1 h2
    rw [List.sublist_nil.1 h1, List.sublist_nil.1 h2]
    exact ⟨[], .slnil, .slnil, by simp⟩
  | cons x b ih =>
    intro S1 S2 h1 h2
    rcases List.sublist_cons_iff.1 h1 with k1 | ⟨T1, rfl, k1⟩
    · rcases List.sublist_cons_iff.1 h2 with k2 | ⟨T2, rfl, k2⟩
      · obtain ⟨S, g1, g2, g3⟩ := ih k1 k2
        exact ⟨S, g1, g2, by simp only [List.length_cons]; omega⟩
      · obtain ⟨S, g1, g2, g3⟩ := ih k1 k2
        exact ⟨S, g1, g2.trans (List.sublist_cons_self x T2), by simp only [List.length_cons]; omega⟩
    · rcases List.sublist_cons_iff.1 h2 with k2 | ⟨T2, rfl, k2⟩
      · obtain ⟨S, g1, g2, g3⟩ := ih k1 k2
        exact ⟨S, g1.trans (List.sublist_cons_self x T1), g2, by simp only [List.length_cons]; omega⟩
      · obtain ⟨S, g1, g2, g3⟩ := ih k1 k2
        exact ⟨x :: S, g1.cons_cons x, g2.cons_cons x, by simp only [List.length_cons]; omega⟩
theorem lcs_by (a b c : List ByteArray) : lcs a b + lcs b c ≤ b.length + lcs a c := by
  obtain ⟨S1, h1, h2, h3⟩ := ex_lcs a b
  obtain ⟨S2, g1, g2, g3⟩ := ex_lcs b c
  obtain ⟨S, k1, k2, k3⟩ := meet h2 g1
  have := le_lcs (k1.trans h1) (k2.trans g2)
  omega
theorem cost_symm (a b : List ByteArray) : cost a b = cost b a := by unfold cost; rw [lcs_symm]; omega
theorem cost_rev (a b : List ByteArray) : cost a.reverse b.reverse = cost a b := by unfold cost; rw [lcs_rev, List.length_reverse, List.length_reverse]
theorem cost_self (a : List ByteArray) : cost a a = 0 := by unfold cost; rw [lcs_self]; omega
theorem cost_zero (a b : List ByteArray) : cost a b = 0 ↔ a = b := by
  constructor
  · intro h
    obtain ⟨L, h1, h2, h3⟩ := ex_lcs a b
    have h4 := lcs_two a b
    unfold cost at h
    have e1 := h1.eq_of_length (by omega)
    have e2 := h2.eq_of_length (by omega)
    rw [← e1, ← e2]
  · intro h; subst h; exact cost_self a
theorem cost_by (a b c : List ByteArray) : cost a c ≤ cost a b + cost b c := by
  have h1 := lcs_by a b c
  have h2 := lcs_two a b
  have h3 := lcs_two b c
  unfold cost
  omega
theorem cost_le' (a b : List ByteArray) : cost a b ≤ a.length + b.length := by unfold cost; omega
theorem cost_parity (a b : List ByteArray) : cost a b % 2 = (a.length + b.length) % 2 := by
  have h2 := lcs_two a b
  unfold cost
  omega
end Go.Proofs.Ythplelgkneipjaa.Q
