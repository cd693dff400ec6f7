/- Texts one behind the other, lines of them: plain lemmas. -/
import Derived.Test.YthjihdfgamdhmaaEJoin
import Derived.Test.YthjihdfgamdhmaaQLines
set_option linter.unusedVariables false
set_option linter.unusedSimpArgs false
namespace Go.Proofs.Ythjihdfgamdhmaa.Q
open Go Go.RowKit Go.Proofs.Ythjihdfgamdhmaa.P Go.Proofs.YthjihdfgamdhmaaW.PrintWords Go.Proofs.YthjihdfgamdhmaaW.PrintLast Go.Proofs.YthjihdfgamdhmaaW.PrintMore
theorem cat_nil : cat [] = ⟨#[]⟩ := rfl
theorem bts_append (x y : List UInt8) : bts (x ++ y) = bts x ++ bts y := by
  unfold bts
  apply ByteArray.ext
  simp
theorem cat_append (l m : List ByteArray) : cat (l ++ m) = cat l ++ cat m := by
  unfold cat
  rw [List.map_append, List.flatten_append, bts_append]
theorem cat_cons (x : ByteArray) (l : List ByteArray) : cat (x :: l) = x ++ cat l := by
  unfold cat
  rw [List.map_cons, List.flatten_cons, bts_append, bts_data]
theorem bts_size (l : List UInt8) : (bts l).size = l.length := rfl
theorem cat_size_le (l : List ByteArray) (c : Nat) (h : ∀ x ∈ l, x.size ≤ c) : (cat l).size ≤ c * l.length := by
  induction l with
  | nil => exact Nat.zero_le _
  | cons x l ih =>
    rw [cat_cons, ByteArray.size_append, List.length_cons, Nat.mul_succ]
    have h1 := h x (by simp)
    have h2 := ih (fun y hy => h y (List.mem_cons_of_mem _ hy))
    omega
theorem join_ok (l : List ByteArray) (h : ∀ x ∈ l, x.size ≤ 1000) (hl : l.length ≤ 1000) : rows_Join.f l = some (cat l) := by
  have h1 := cat_size_le l 1000 h
  unfold rows_Join.f
  rw [if_pos ⟨by omega, by omega⟩]
theorem split_ok (s : ByteArray) (h : s.size ≤ 4294967296) : rows_Split.f s = some (lines s) := by
  unfold rows_Split.f
  rw [if_pos h]
theorem lnL_ne (l : List UInt8) : ∀ x ∈ lnL l, x ≠ [] := by
  induction l with
  | nil => intro x hx; cases hx
  | cons c cs ih =>
    rw [lnL_cons]
    split
    · intro x hx
      rcases List.mem_cons.1 hx with rfl | hx
      · simp
      · exact ih x hx
    · split
      · intro x hx; rw [List.mem_singleton.1 hx]; simp
      · rename_i y ys h
        intro x hx
        rcases List.mem_cons.1 hx with rfl | hx
        · simp
        · exact ih x (by rw [h]; exact List.mem_cons_of_mem _ hx)
theorem lnL_flatten (l : List UInt8) : (lnL l).flatten = l := by
  induction l with
  | nil => rfl
  | cons c cs ih =>
    rw [lnL_cons]
    split
    · simp [ih]
    · split
      · rename_i h
        rw [h] at ih
        simp at ih
        simp [← ih]
      · rename_i y ys h
        rw [h] at ih
        simp only [List.flatten_cons] at ih ⊢
        rw [List.cons_append, ih]
def lastNot (l : List UInt8) : Nat := match l.getLast? with
  | none => 0
  | some c => if c = 10 then 0 else 1
theorem lnL_count (l : List UInt8) : (lnL l).length = l.count 10 + lastNot l := by
  induction l with
  | nil => rfl
  | cons c cs ih =>
    have hl : cs ≠ [] → lastNot (c :: cs) = lastNot cs := by
      intro h
      cases cs with
      | nil => exact absurd rfl h
      | cons d ds => simp [lastNot, List.getLast?_cons_cons]
    rw [lnL_cons]
    by_cases hc : c = 10
    · rw [if_pos hc, List.length_cons, ih, hc, List.count_cons_self]
      cases cs with
      | nil => simp [lastNot]
      | cons d ds =>
        rw [← hl (by simp), hc]
        omega
    · rw [if_neg hc, List.count_cons_of_ne hc]
      cases cs with
      | nil => simp [lnL, lastNot, hc]
      | cons d ds =>
        rw [hl (by simp), ← ih]
        split
        · rename_i h
          rw [h] at ih
          have h2 := lnL_flatten (d :: ds)
          rw [h] at h2
          simp at h2
        · rename_i y ys h
          rw [h]
          rfl
theorem lines_cat (s : ByteArray) : cat (lines s) = s := by
  unfold cat lines
  rw [List.map_map]
  have e : ((fun x : ByteArray => x.data.toList) ∘ bts) = id := by funext l; rfl
  rw [e, List.map_id, lnL_flatten, bts_data]
theorem lines_ne (s : ByteArray) {x : ByteArray} (h : x ∈ lines s) : x.toList ≠ [] := by
  unfold lines at h
  obtain ⟨l, hl, rfl⟩ := List.mem_map.1 h
  rw [ByteArray.toList_eq, data_bts]
  exact lnL_ne _ l hl
end Go.Proofs.Ythjihdfgamdhmaa.Q
