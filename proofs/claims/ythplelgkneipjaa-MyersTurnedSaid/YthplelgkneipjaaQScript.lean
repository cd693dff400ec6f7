/- The shortest script between two lists, step by step: plain. No program in sight. -/
import Derived.Test.YthplelgkneipjaaQCost
set_option linter.unusedVariables false
set_option linter.unusedSimpArgs false
namespace Go.Proofs.Ythplelgkneipjaa.Q
open List
abbrev Step := Int × List ByteArray
def pthRow (a : ByteArray) (A : List ByteArray) (f : List ByteArray → List Step) : List ByteArray → List Step
  | [] => (2, []) :: f []
  | b :: B => if a = b then (1, []) :: f B else if lcs (a :: A) B ≤ lcs A (b :: B) then (2, []) :: f (b :: B) else (3, [b]) :: pthRow a A f B
/-- The steps. -/
def pth : List ByteArray → List ByteArray → List Step
  | [], B => B.map fun b => (3, [b])
  | a :: A, B => pthRow a A (pth A) B
theorem pth_cons (a b : ByteArray) (A B : List ByteArray) : pth (a :: A) (b :: B) = if a = b then (1, []) :: pth A B else if lcs (a :: A) B ≤ lcs A (b :: B) then (2, []) :: pth A (b :: B) else (3, [b]) :: pth (a :: A) B := rfl
theorem pth_cut (a : ByteArray) (A : List ByteArray) : pth (a :: A) [] = (2, []) :: pth A [] := rfl
theorem pth_add (b : ByteArray) (B : List ByteArray) : pth [] (b :: B) = (3, [b]) :: pth [] B := rfl
theorem pth_nil : pth [] [] = [] := rfl
/-- No more steps than lines, and no more than one line each. -/
theorem pth_small : ∀ (A B : List ByteArray), (pth A B).length ≤ A.length + B.length ∧ ∀ s ∈ pth A B, s.2.length ≤ 1 := by
  intro A
  induction A with
  | nil =>
    intro B
    refine ⟨by simp [pth], fun s hs => ?_⟩
    obtain ⟨b, _, rfl⟩ := List.mem_map.1 hs
    simp
  | cons a A ih =>
    intro B
    induction B with
    | nil =>
      rw [pth_cut]
      have := ih []
      refine ⟨by simp at this ⊢; omega, fun s hs => ?_⟩
      rcases List.mem_cons.1 hs with rfl | hs
      · simp
      · exact this.2 s hs
    | cons b B ihB =>
      rw [pth_cons]
      split
      · have := ih B
        refine ⟨by simp at this ⊢; omega, fun s hs => ?_⟩
        rcases List.mem_cons.1 hs with rfl | hs
        · simp
        · exact this.2 s hs
      · split
        · have := ih (b :: B)
          refine ⟨by simp at this ⊢; omega, fun s hs => ?_⟩
          rcases List.mem_cons.1 hs with rfl | hs
          · simp
          · exact this.2 s hs
        · refine ⟨by simp at ihB ⊢; omega, fun s hs => ?_⟩
          rcases List.mem_cons.1 hs with rfl | hs
          · simp
          · exact ihB.2 s hs
/-- What stands of the two lists at a place: what the search knows of it. -/
theorem left_zero (A B : List ByteArray) (h : cost A B = 0) (hne : ∀ a A' b B', A = a :: A' → B = b :: B' → a ≠ b) : A = [] ∧ B = [] := by
  have h2 := lcs_two A B
  unfold cost at h
  cases A with
  | nil =>
    rw [lcs_nil] at h
    exact ⟨rfl, List.eq_nil_of_length_eq_zero (by simp at h; exact List.length_eq_zero_iff.2 h)⟩
  | cons a A =>
    cases B with
    | nil => rw [lcs_nil'] at h; simp at h
    | cons b B =>
      rw [lcs_cons, if_neg (hne a A b B rfl rfl)] at h
      have h3 := lcs_two A (b :: B)
      have h4 := lcs_two (a :: A) B
      simp only [List.length_cons] at h h2 h3 h4
      omega
theorem cost_keep (a : ByteArray) (A B : List ByteArray) : cost (a :: A) (a :: B) = cost A B := by
  unfold cost
  rw [lcs_cons, if_pos rfl]
  have := lcs_two A B
  simp only [List.length_cons]
  omega
/-- The last lines that are gone through, as the search asks for them: may one be cut. -/
theorem cut_iff (a : ByteArray) (A B : List ByteArray) (hne : ∀ b B', B = b :: B' → a ≠ b) :
    0 < cost (a :: A) B ∧ (A.length + B.length ≤ cost (a :: A) B - 1 + 2 * lcs A B ↔ pth (a :: A) B = (2, []) :: pth A B) ∧ (A.length + B.length ≤ cost (a :: A) B - 1 + 2 * lcs A B → cost A B = cost (a :: A) B - 1) ∧
    (¬ (A.length + B.length ≤ cost (a :: A) B - 1 + 2 * lcs A B) → ∃ b B', B = b :: B' ∧ pth (a :: A) B = (3, [b]) :: pth (a :: A) B' ∧ cost (a :: A) B' = cost (a :: A) B - 1) := by
  cases B with
  | nil =>
    unfold cost
    simp only [lcs_nil', List.length_cons, List.length_nil]
    refine ⟨by omega, ⟨fun _ => pth_cut a A, fun _ => by omega⟩, fun _ => by omega, fun h => absurd (by omega) h⟩
  | cons b B =>
    have hab := hne b B rfl
    have hl := lcs_cons a b A B
    rw [if_neg hab] at hl
    have h1 := lcs_two A (b :: B)
    have h2 := lcs_two (a :: A) B
    have h3 := lcs_two (a :: A) (b :: B)
    have hp := pth_cons a b A B
    rw [if_neg hab] at hp
    unfold cost
    simp only [List.length_cons] at h1 h2 h3 ⊢
    refine ⟨by omega, ⟨fun h => ?_, fun h => ?_⟩, fun h => by omega, fun h => ⟨b, B, rfl, ?_, by omega⟩⟩
    · rw [hp, if_pos (by omega)]
    · by_cases hc : lcs (a :: A) B ≤ lcs A (b :: B)
      · omega
      · rw [hp, if_neg hc] at h
        simp at h
    · rw [hp, if_neg (by omega)]
theorem cost_add (b : ByteArray) (B : List ByteArray) : cost [] (b :: B) = cost [] B + 1 := by
  unfold cost
  simp only [lcs_nil, List.length_cons, List.length_nil]
  omega
end Go.Proofs.Ythplelgkneipjaa.Q
