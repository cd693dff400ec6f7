/- Lines of a text: plain lists. -/
import Derived.Lib.Bytealg
import Derived.Lib.Join
set_option linter.unusedVariables false
set_option linter.unusedSimpArgs false
namespace Go.Proofs.Ythjihdfgamdhmaa.Q
open Go
/-- The lines of some bytes: each ends with its line feed, but for the last one. -/
def lnL : List UInt8 → List (List UInt8)
  | [] => []
  | c :: cs => if c = 10 then [c] :: lnL cs else match lnL cs with
    | [] => [[c]]
    | l :: ls => (c :: l) :: ls
def bts (l : List UInt8) : ByteArray := ⟨l.toArray⟩
def lines (s : ByteArray) : List ByteArray := (lnL s.data.toList).map bts
/-- How many bytes the first line has, by where the first line feed stands. -/
def firstLen (l : List UInt8) : Nat := if Lib.indexByte l 10 = -1 then l.length else (Lib.indexByte l 10 + 1).toNat
theorem lnL_cons (c : UInt8) (cs : List UInt8) : lnL (c :: cs) = if c = 10 then [c] :: lnL cs else match lnL cs with
    | [] => [[c]]
    | l :: ls => (c :: l) :: ls := rfl
theorem lnL_step (l : List UInt8) (h : l ≠ []) : lnL l = l.take (firstLen l) :: lnL (l.drop (firstLen l)) ∧ 1 ≤ firstLen l ∧ firstLen l ≤ l.length := by
  induction l with
  | nil => exact absurd rfl h
  | cons c cs ih =>
    have hge := Lib.indexByte_ge cs 10
    rw [lnL_cons]
    by_cases hc : c = 10
    · have e : firstLen (c :: cs) = 1 := by simp [firstLen, Lib.indexByte, hc]
      rw [if_pos hc, e]
      simp
    · have hx : Lib.indexByte (c :: cs) 10 = if Lib.indexByte cs 10 == -1 then -1 else Lib.indexByte cs 10 + 1 := by
        rw [Lib.indexByte]
        simp [hc]
      rw [if_neg hc]
      cases cs with
      | nil =>
        have e : firstLen [c] = 1 := by simp [firstLen, Lib.indexByte, hc]
        rw [e]
        simp [lnL]
      | cons d ds =>
        obtain ⟨h1, h2, h3⟩ := ih (by simp)
        have e : firstLen (c :: d :: ds) = firstLen (d :: ds) + 1 := by
          unfold firstLen at h2 h3 ⊢
          rw [hx]
          by_cases h4 : Lib.indexByte (d :: ds) 10 = -1
          · simp [h4]
          · have h5 : (Lib.indexByte (d :: ds) 10 == -1) = false := by simpa using h4
            rw [h5, if_neg h4]
            simp only [Bool.false_eq_true, if_false]
            rw [if_neg (by omega)]
            omega
        rw [h1, e]
        refine ⟨by simp, by omega, by simp at h3 ⊢; omega⟩
theorem bts_extract (s : ByteArray) (a b : Nat) : s.extract a b = bts ((s.data.toList.drop a).take (b - a)) := by
  unfold bts
  apply ByteArray.ext
  apply Array.toList_inj.1
  rw [ByteArray.data_extract, Array.toList_extract, List.extract_eq_take_drop]
theorem bts_data (s : ByteArray) : bts s.data.toList = s := rfl
theorem data_bts (l : List UInt8) : (bts l).data.toList = l := rfl
theorem lines_step (s : ByteArray) (h : s.data.toList ≠ []) :
    lines s = s.extract 0 (firstLen s.data.toList) :: lines (s.extract (firstLen s.data.toList) s.size) ∧ 1 ≤ firstLen s.data.toList ∧ firstLen s.data.toList ≤ s.size := by
  obtain ⟨h1, h2, h3⟩ := lnL_step _ h
  have h4 : s.data.toList.length = s.size := rfl
  refine ⟨?_, h2, by rw [← h4]; exact h3⟩
  unfold lines
  rw [bts_extract, bts_extract, data_bts, h1, List.map_cons, List.drop_zero, Nat.sub_zero]
  congr 2
  rw [List.take_of_length_le (by rw [List.length_drop, h4]; exact Nat.le_refl _)]
theorem lines_empty (s : ByteArray) (h : s.data.toList = []) : lines s = [] := by unfold lines; rw [h]; rfl
theorem lnL_length_le (l : List UInt8) : (lnL l).length ≤ l.length := by
  induction l with
  | nil => simp [lnL]
  | cons c cs ih =>
    rw [lnL_cons]
    split
    · simp; exact ih
    · split <;> rename_i h <;> simp [h] at ih ⊢
      omega
theorem lines_length_le (s : ByteArray) : (lines s).length ≤ s.size := by
  unfold lines
  rw [List.length_map]
  exact lnL_length_le _
end Go.Proofs.Ythjihdfgamdhmaa.Q
