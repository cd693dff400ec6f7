/- How far one comes through two lists by so many changes, diagonal by diagonal: plain definitions and what they are worth. No program in sight. -/
import Derived.Test.YthplelgkneipjaaQComm
set_option linter.unusedVariables false
set_option linter.unusedSimpArgs false
namespace Go.Proofs.Ythplelgkneipjaa.Q

/-- Are line x of A and line y of B the same. -/
def mtl (A B : List ByteArray) (x y : Nat) : Bool := match A[x]?, B[y]? with
  | some p, some q => p == q
  | _, _ => false
theorem mtl_iff {A B : List ByteArray} {x y : Nat} : mtl A B x y = true ↔ ∃ (hx : x < A.length) (hy : y < B.length), A[x] = B[y] := by
  unfold mtl
  by_cases hx : x < A.length
  · by_cases hy : y < B.length
    · rw [List.getElem?_eq_getElem hx, List.getElem?_eq_getElem hy]
      simp [hx, hy]
    · rw [List.getElem?_eq_none (by omega : B.length ≤ y)]
      cases A[x]? <;> simp [hy]
  · rw [List.getElem?_eq_none (by omega : A.length ≤ x)]
    simp [hx]
/-- How many lines are the same from there on. -/
def run (A B : List ByteArray) : Nat → Nat → Nat → Nat
  | 0, _, _ => 0
  | f + 1, x, y => if mtl A B x y then run A B f (x + 1) (y + 1) + 1 else 0
/-- From x on diagonal k (y = x - k) as far as lines are the same. -/
def snk (A B : List ByteArray) (x : Nat) (k : Int) : Nat := x + run A B (A.length - x) x ((x : Int) - k).toNat
/-- How far one comes on diagonal k by d changes. -/
def V (A B : List ByteArray) : Nat → Int → Nat
  | 0, k => snk A B 0 k
  | d + 1, k => snk A B (if k = -((d : Int) + 1) ∨ (k ≠ (d : Int) + 1 ∧ V A B d (k - 1) < V A B d (k + 1)) then V A B d (k + 1) else V A B d (k - 1) + 1) k
/-- Where the search on diagonal k begins, by d changes. -/
def frm (A B : List ByteArray) : Nat → Int → Nat
  | 0, _ => 0
  | d + 1, k => if k = -((d : Int) + 1) ∨ (k ≠ (d : Int) + 1 ∧ V A B d (k - 1) < V A B d (k + 1)) then V A B d (k + 1) else V A B d (k - 1) + 1
theorem V_eq (A B : List ByteArray) (d : Nat) (k : Int) : V A B d k = snk A B (frm A B d k) k := by cases d <;> rfl
/-- The row of d changes, the first e places of it written. -/
def rowV (A B : List ByteArray) (d e : Nat) : List Int := (List.range (2 * d + 1)).map fun i => if i % 2 = 0 ∧ i < e then (V A B d ((i : Int) - d) : Int) else 0
theorem rowV_length (A B : List ByteArray) (d e : Nat) : (rowV A B d e).length = 2 * d + 1 := by simp [rowV]
theorem rowV_get (A B : List ByteArray) (d e i : Nat) (hi : i < 2 * d + 1) : (rowV A B d e)[i]? = some (if i % 2 = 0 ∧ i < e then (V A B d ((i : Int) - d) : Int) else 0) := by
  unfold rowV
  rw [List.getElem?_map, List.getElem?_range hi]
  rfl
theorem rowV_zero (A B : List ByteArray) (d : Nat) : rowV A B d 0 = List.replicate (2 * d + 1) 0 := by
  apply List.ext_getElem?
  intro i
  by_cases hi : i < 2 * d + 1
  · rw [rowV_get _ _ _ _ _ hi, if_neg (by omega), List.getElem?_replicate, if_pos hi]
  · rw [List.getElem?_eq_none (by rw [rowV_length]; omega), List.getElem?_replicate, if_neg hi]
theorem rowV_set (A B : List ByteArray) (d j : Nat) (hj : j ≤ d) : (rowV A B d (2 * j)).set (2 * j) (V A B d ((2 * j : Nat) - d) : Int) = rowV A B d (2 * (j + 1)) := by
  apply List.ext_getElem?
  intro i
  rw [List.getElem?_set]
  by_cases hi : i < 2 * d + 1
  · rw [rowV_get _ _ _ _ _ hi, rowV_get _ _ _ _ _ hi, rowV_length]
    by_cases h2 : 2 * j = i
    · subst h2
      rw [if_pos rfl, if_pos hi, if_pos ⟨by omega, by omega⟩]
    · rw [if_neg h2]
      by_cases h3 : i % 2 = 0 ∧ i < 2 * j
      · rw [if_pos h3, if_pos ⟨h3.1, by omega⟩]
      · rw [if_neg h3, if_neg (by omega)]
  · rw [List.getElem?_eq_none (by rw [rowV_length]; omega), List.getElem?_eq_none (by rw [rowV_length]; omega)]
    by_cases h2 : 2 * j = i
    · omega
    · rw [if_neg h2]
/-- Is all gone through by d changes. -/
def stop (A B : List ByteArray) (d : Nat) : Bool :=
  decide (-(d : Int) ≤ (A.length : Int) - B.length ∧ (A.length : Int) - B.length ≤ d ∧ (d + A.length + B.length) % 2 = 0 ∧ A.length ≤ V A B d ((A.length : Int) - B.length))
/-- The fewest changes. -/
def least (A B : List ByteArray) : Option Nat := (List.range (A.length + B.length + 1)).find? (stop A B)
/-- Which places of the last row are written. -/
def rows (A B : List ByteArray) (D : Nat) : List (List Int) := (List.range D).map (fun d => rowV A B d (2 * d + 2)) ++ [rowV A B D (((A.length : Int) - B.length + D).toNat + 2)]

theorem run_le (A B : List ByteArray) (f : Nat) : ∀ x y, run A B f x y ≤ f := by
  induction f with
  | zero => intro x y; simp [run]
  | succ f ih =>
    intro x y
    unfold run
    split
    · have := ih (x + 1) (y + 1); omega
    · omega
theorem snk_ge (A B : List ByteArray) (x : Nat) (k : Int) : x ≤ snk A B x k := by unfold snk; omega
theorem snk_le (A B : List ByteArray) (x : Nat) (k : Int) : snk A B x k ≤ max x A.length := by
  unfold snk
  have := run_le A B (A.length - x) x ((x : Int) - k).toNat
  omega
theorem snk_step {A B : List ByteArray} {x : Nat} {k : Int} (hk : k ≤ x) (h : mtl A B x ((x : Int) - k).toNat = true) : snk A B x k = snk A B (x + 1) k := by
  obtain ⟨hx, _, _⟩ := mtl_iff.1 h
  unfold snk
  have e1 : A.length - x = (A.length - (x + 1)) + 1 := by omega
  have e2 : (((x + 1 : Nat) : Int) - k).toNat = ((x : Int) - k).toNat + 1 := by omega
  rw [e1, e2]
  simp only [run]
  rw [if_pos h]
  omega
theorem snk_stop {A B : List ByteArray} {x : Nat} {k : Int} (h : mtl A B x ((x : Int) - k).toNat = false) : snk A B x k = x := by
  unfold snk
  cases A.length - x with
  | zero => rfl
  | succ f => simp only [run]; rw [if_neg (by simp [h])]; rfl
theorem V_diag (A B : List ByteArray) (d : Nat) : ∀ k : Int, -(d : Int) ≤ k → k ≤ d → (d + k) % 2 = 0 → k ≤ V A B d k ∧ V A B d k ≤ A.length + d := by
  induction d with
  | zero =>
    intro k h1 h2 _
    have := snk_le A B 0 k
    have : V A B 0 k = snk A B 0 k := rfl
    omega
  | succ d ih =>
    intro k h1 h2 h3
    rw [V_eq]
    have hg := snk_ge A B (frm A B (d + 1) k) k
    have hl := snk_le A B (frm A B (d + 1) k) k
    have hf : k ≤ frm A B (d + 1) k ∧ frm A B (d + 1) k ≤ A.length + (d + 1) := by
      simp only [frm]
      split
      · rename_i hc
        have := ih (k + 1) (by omega) (by rcases hc with hc | hc <;> omega) (by omega)
        omega
      · rename_i hc
        have := ih (k - 1) (by omega) (by omega) (by omega)
        omega
    omega
theorem frm_diag (A B : List ByteArray) (d : Nat) (k : Int) (h1 : -(d : Int) ≤ k) (h2 : k ≤ d) (h3 : (d + k) % 2 = 0) : k ≤ frm A B d k ∧ frm A B d k ≤ A.length + d := by
  cases d with
  | zero => simp only [frm]; omega
  | succ d =>
    simp only [frm]
    split
    · rename_i hc
      have := V_diag A B d (k + 1) (by omega) (by rcases hc with hc | hc <;> omega) (by omega)
      omega
    · rename_i hc
      have := V_diag A B d (k - 1) (by omega) (by omega) (by omega)
      omega
end Go.Proofs.Ythplelgkneipjaa.Q
