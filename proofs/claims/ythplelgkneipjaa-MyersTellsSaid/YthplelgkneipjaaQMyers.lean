/- How far one comes through two lists, how many lines may stay, the shortest script, and what is first: plain. No program in sight. -/
import Derived.Test.YthplelgkneipjaaQComm
set_option linter.unusedVariables false
set_option linter.unusedSimpArgs false
namespace Go.Proofs.Ythplelgkneipjaa.Q
section
/-- Are line x of A and line y of B the same. -/
def mtl (A B : List ByteArray) (x y : Nat) : Bool := match A[x]?, B[y]? with
  | some p, some q => p == q
  | _, _ => false
theorem mtl_iff {A B : List ByteArray} {x y : Nat} : mtl A B x y = true ↔ ∃ (hx : x < A.length) (hy : y < B.length), A[x] = B[y] := by
  unfold mtl
  by_cases hx : x < A.length
  · by_cases hy : y < B.length
    · rw [List.getElem?_eq_getElem hx, List.getElem?_eq_getElem hy]
      simp [hx, hy]
    · rw [List.getElem?_eq_none (by omega : B.length ≤ y)]
      cases A[x]? <;> simp [hy]
  · rw [List.getElem?_eq_none (by omega : A.length ≤ x)]
    simp [hx]
/-- How many lines are the same from there on. -/
def run (A B : List ByteArray) : Nat → Nat → Nat → Nat
  | 0, _, _ => 0
  | f + 1, x, y => if mtl A B x y then run A B f (x + 1) (y + 1) + 1 else 0
/-- From x on diagonal k (y = x - k) as far as lines are the same. -/
def snk (A B : List ByteArray) (x : Nat) (k : Int) : Nat := x + run A B (A.length - x) x ((x : Int) - k).toNat
/-- How far one comes on diagonal k by d changes. -/
def V (A B : List ByteArray) : Nat → Int → Nat
  | 0, k => snk A B 0 k
  | d + 1, k => snk A B (if k = -((d : Int) + 1) ∨ (k ≠ (d : Int) + 1 ∧ V A B d (k - 1) < V A B d (k + 1)) then V A B d (k + 1) else V A B d (k - 1) + 1) k
/-- Where the search on diagonal k begins, by d changes. -/
def frm (A B : List ByteArray) : Nat → Int → Nat
  | 0, _ => 0
  | d + 1, k => if k = -((d : Int) + 1) ∨ (k ≠ (d : Int) + 1 ∧ V A B d (k - 1) < V A B d (k + 1)) then V A B d (k + 1) else V A B d (k - 1) + 1
theorem V_eq (A B : List ByteArray) (d : Nat) (k : Int) : V A B d k = snk A B (frm A B d k) k := by cases d <;> rfl
/-- The row of d changes, the first e places of it written. -/
def rowV (A B : List ByteArray) (d e : Nat) : List Int := (List.range (2 * d + 1)).map fun i => if i % 2 = 0 ∧ i < e then (V A B d ((i : Int) - d) : Int) else 0
theorem rowV_length (A B : List ByteArray) (d e : Nat) : (rowV A B d e).length = 2 * d + 1 := by simp [rowV]
theorem rowV_get (A B : List ByteArray) (d e i : Nat) (hi : i < 2 * d + 1) : (rowV A B d e)[i]? = some (if i % 2 = 0 ∧ i < e then (V A B d ((i : Int) - d) : Int) else 0) := by
  unfold rowV
  rw [List.getElem?_map, List.getElem?_range hi]
  rfl
theorem rowV_zero (A B : List ByteArray) (d : Nat) : rowV A B d 0 = List.replicate (2 * d + 1) 0 := by
  apply List.ext_getElem?
  intro i
  by_cases hi : i < 2 * d + 1
  · rw [rowV_get _ _ _ _ _ hi, if_neg (by omega), List.getElem?_replicate, if_pos hi]
  · rw [List.getElem?_eq_none (by rw [rowV_length]; omega), List.getElem?_replicate, if_neg hi]
theorem rowV_set (A B : List ByteArray) (d j : Nat) (hj : j ≤ d) : (rowV A B d (2 * j)).set (2 * j) (V A B d ((2 * j : Nat) - d) : Int) = rowV A B d (2 * (j + 1)) := by
  apply List.ext_getElem?
  intro i
  rw [List.getElem?_set]
  by_cases hi : i < 2 * d + 1
  · rw [rowV_get _ _ _ _ _ hi, rowV_get _ _ _ _ _ hi, rowV_length]
    by_cases h2 : 2 * j = i
    · subst h2
      rw [if_pos rfl, if_pos hi, if_pos ⟨by omega, by omega⟩]
    · rw [if_neg h2]
      by_cases h3 : i % 2 = 0 ∧ i < 2 * j
      · rw [if_pos h3, if_pos ⟨h3.1, by omega⟩]
      · rw [if_neg h3, if_neg (by omega)]
  · rw [List.getElem?_eq_none (by rw [rowV_length]; omega), List.getElem?_eq_none (by rw [rowV_length]; omega)]
    by_cases h2 : 2 * j = i
    · omega
    · rw [if_neg h2]
/-- Is all gone through by d changes. -/
def stop (A B : List ByteArray) (d : Nat) : Bool :=
  decide (-(d : Int) ≤ (A.length : Int) - B.length ∧ (A.length : Int) - B.length ≤ d ∧ (d + A.length + B.length) % 2 = 0 ∧ A.length ≤ V A B d ((A.length : Int) - B.length))
/-- The fewest changes. -/
def least (A B : List ByteArray) : Option Nat := (List.range (A.length + B.length + 1)).find? (stop A B)
/-- Which places of the last row are written. -/
def rows (A B : List ByteArray) (D : Nat) : List (List Int) := (List.range D).map (fun d => rowV A B d (2 * d + 2)) ++ [rowV A B D (((A.length : Int) - B.length + D).toNat + 2)]

theorem run_le (A B : List ByteArray) (f : Nat) : ∀ x y, run A B f x y ≤ f := by
  induction f with
  | zero => intro x y; simp [run]
  | succ f ih =>
    intro x y
    unfold run
    split
    · have := ih (x + 1) (y + 1); omega
    · omega
theorem snk_ge (A B : List ByteArray) (x : Nat) (k : Int) : x ≤ snk A B x k := by unfold snk; omega
theorem snk_le (A B : List ByteArray) (x : Nat) (k : Int) : snk A B x k ≤ max x A.length := by
  unfold snk
  have := run_le A B (A.length - x) x ((x : Int) - k).toNat
  omega
theorem snk_step {A B : List ByteArray} {x : Nat} {k : Int} (hk : k ≤ x) (h : mtl A B x ((x : Int) - k).toNat = true) : snk A B x k = snk A B (x + 1) k := by
  obtain ⟨hx, _, _⟩ := mtl_iff.1 h
  unfold snk
  have e1 : A.length - x = (A.length - (x + 1)) + 1 := by omega
  have e2 : (((x + 1 : Nat) : Int) - k).toNat = ((x : Int) - k).toNat + 1 := by omega
  rw [e1, e2]
  simp only [run]
  rw [if_pos h]
  omega
theorem snk_stop {A B : List ByteArray} {x : Nat} {k : Int} (h : mtl A B x ((x : Int) - k).toNat = false) : snk A B x k = x := by
  unfold snk
  cases A.length - x with
  | zero => rfl
  | succ f => simp only [run]; rw [if_neg (by simp [h])]; rfl
theorem V_diag (A B : List ByteArray) (d : Nat) : ∀ k : Int, -(d : Int) ≤ k → k ≤ d → (d + k) % 2 = 0 → k ≤ V A B d k ∧ V A B d k ≤ A.length + d := by
  induction d with
  | zero =>
    intro k h1 h2 _
    have := snk_le A B 0 k
    have : V A B 0 k = snk A B 0 k := rfl
    omega
  | succ d ih =>
    intro k h1 h2 h3
    rw [V_eq]
    have hg := snk_ge A B (frm A B (d + 1) k) k
    have hl := snk_le A B (frm A B (d + 1) k) k
    have hf : k ≤ frm A B (d + 1) k ∧ frm A B (d + 1) k ≤ A.length + (d + 1) := by
      simp only [frm]
      split
      · rename_i hc
        have := ih (k + 1) (by omega) (by rcases hc with hc | hc <;> omega) (by omega)
        omega
      · rename_i hc
        have := ih (k - 1) (by omega) (by omega) (by omega)
        omega
    omega
theorem frm_diag (A B : List ByteArray) (d : Nat) (k : Int) (h1 : -(d : Int) ≤ k) (h2 : k ≤ d) (h3 : (d + k) % 2 = 0) : k ≤ frm A B d k ∧ frm A B d k ≤ A.length + d := by
  cases d with
  | zero => simp only [frm]; omega
  | succ d =>
    simp only [frm]
    split
    · rename_i hc
      have := V_diag A B d (k + 1) (by omega) (by rcases hc with hc | hc <;> omega) (by omega)
      omega
    · rename_i hc
      have := V_diag A B d (k - 1) (by omega) (by omega) (by omega)
      omega
end
section
open List
def lcsRow (a : ByteArray) (f : List ByteArray → Nat) : List ByteArray → Nat
  | [] => 0
  | b :: B => if a = b then f B + 1 else max (f (b :: B)) (lcsRow a f B)
/-- How many lines a longest common row has. -/
def lcs : List ByteArray → List ByteArray → Nat
  | [], _ => 0
  | a :: A, B => lcsRow a (lcs A) B
theorem lcs_nil (B : List ByteArray) : lcs [] B = 0 := rfl
theorem lcs_nil' (A : List ByteArray) : lcs A [] = 0 := by cases A <;> rfl
theorem lcs_cons (a b : ByteArray) (A B : List ByteArray) : lcs (a :: A) (b :: B) = if a = b then lcs A B + 1 else max (lcs A (b :: B)) (lcs (a :: A) B) := rfl
theorem sub_cases {x : ByteArray} {L A : List ByteArray} {p : ByteArray} (h : x :: L <+ p :: A) : x :: L <+ A ∨ (x = p ∧ L <+ A) := by
  rcases List.sublist_cons_iff.1 h with h | ⟨r, e, h⟩
  · exact .inl h
  · injection e with e1 e2
    exact .inr ⟨e1, by rw [e2]; exact h⟩
theorem sub_tail {x : ByteArray} {L A : List ByteArray} {p : ByteArray} (h : x :: L <+ p :: A) : L <+ A := by
  rcases sub_cases h with h | ⟨_, h⟩
  · exact (List.sublist_cons_self x L).trans h
  · exact h
theorem le_lcs : ∀ {A B L : List ByteArray}, L <+ A → L <+ B → L.length ≤ lcs A B := by
  intro A
  induction A with
  | nil => intro B L h _; rw [List.sublist_nil.1 h]; simp
  | cons a A ih =>
    intro B
    induction B with
    | nil => intro L _ h; rw [List.sublist_nil.1 h]; simp
    | cons b B ihB =>
      intro L h1 h2
      rw [lcs_cons]
      cases L with
      | nil => simp
      | cons x L =>
        split
        · have := ih (sub_tail h1) (sub_tail h2)
          simp only [List.length_cons]; omega
        · rename_i hne
          rcases sub_cases h1 with h | ⟨e1, h⟩
          · have := ih h h2; omega
          · rcases sub_cases h2 with h' | ⟨e2, h'⟩
            · have := ihB h1 h'; omega
            · exact absurd (e1.symm.trans e2) hne
theorem ex_lcs : ∀ (A B : List ByteArray), ∃ L, L <+ A ∧ L <+ B ∧ L.length = lcs A B := by
  intro A
  induction A with
  | nil => intro B; exact ⟨[], List.nil_sublist _, List.nil_sublist _, rfl⟩
  | cons a A ih =>
    intro B
    induction B with
    | nil => exact ⟨[], List.nil_sublist _, List.nil_sublist _, rfl⟩
    | cons b B ihB =>
      rw [lcs_cons]
      split
      · rename_i he
        subst he
        obtain ⟨L, h1, h2, h3⟩ := ih B
        exact ⟨a :: L, h1.cons_cons a, h2.cons_cons a, by simp [h3]⟩
      · obtain ⟨L, h1, h2, h3⟩ := ih (b :: B)
        obtain ⟨M, g1, g2, g3⟩ := ihB
        rcases Nat.le_total (lcs A (b :: B)) (lcs (a :: A) B) with hm | hm
        · exact ⟨M, g1, g2.trans (List.sublist_cons_self b B), by omega⟩
        · exact ⟨L, h1.trans (List.sublist_cons_self a A), h2, by omega⟩
theorem lcs_mono {A A' B B' : List ByteArray} (h1 : A <+ A') (h2 : B <+ B') : lcs A B ≤ lcs A' B' := by
  obtain ⟨L, g1, g2, g3⟩ := ex_lcs A B
  rw [← g3]
  exact le_lcs (g1.trans h1) (g2.trans h2)
theorem lcs_le_left (A B : List ByteArray) : lcs A B ≤ A.length := by
  obtain ⟨L, g1, g2, g3⟩ := ex_lcs A B
  rw [← g3]; exact g1.length_le
theorem lcs_le_right (A B : List ByteArray) : lcs A B ≤ B.length := by
  obtain ⟨L, g1, g2, g3⟩ := ex_lcs A B
  rw [← g3]; exact g2.length_le
theorem lcs_symm (A B : List ByteArray) : lcs A B = lcs B A := by
  apply Nat.le_antisymm
  · obtain ⟨L, g1, g2, g3⟩ := ex_lcs A B
    rw [← g3]; exact le_lcs g2 g1
  · obtain ⟨L, g1, g2, g3⟩ := ex_lcs B A
    rw [← g3]; exact le_lcs g2 g1
theorem lcs_rev (A B : List ByteArray) : lcs A.reverse B.reverse = lcs A B := by
  apply Nat.le_antisymm
  · obtain ⟨L, g1, g2, g3⟩ := ex_lcs A.reverse B.reverse
    rw [← g3, ← List.length_reverse]; exact le_lcs (List.reverse_sublist.1 (by simpa using g1)) (List.reverse_sublist.1 (by simpa using g2))
  · obtain ⟨L, g1, g2, g3⟩ := ex_lcs A B
    rw [← g3, ← List.length_reverse]; exact le_lcs (List.reverse_sublist.2 g1) (List.reverse_sublist.2 g2)
theorem lcs_cons_le (a : ByteArray) (A B : List ByteArray) : lcs (a :: A) B ≤ lcs A B + 1 := by
  obtain ⟨L, g1, g2, g3⟩ := ex_lcs (a :: A) B
  cases L with
  | nil => simp at g3; omega
  | cons x L =>
    have := le_lcs (sub_tail g1) ((List.sublist_cons_self x L).trans g2)
    simp only [List.length_cons] at g3; omega
theorem lcs_cons_le' (b : ByteArray) (A B : List ByteArray) : lcs A (b :: B) ≤ lcs A B + 1 := by
  rw [lcs_symm, lcs_symm A B]; exact lcs_cons_le b B A
theorem lcs_cons_cons_le (a b : ByteArray) (A B : List ByteArray) : lcs (a :: A) (b :: B) ≤ lcs A B + 1 := by
  obtain ⟨L, g1, g2, g3⟩ := ex_lcs (a :: A) (b :: B)
  cases L with
  | nil => simp at g3; omega
  | cons x L =>
    have := le_lcs (sub_tail g1) (sub_tail g2)
    simp only [List.length_cons] at g3; omega
theorem lcs_self (A : List ByteArray) : lcs A A = A.length := by
  apply Nat.le_antisymm (lcs_le_left A A)
  exact le_lcs (List.Sublist.refl _) (List.Sublist.refl _)

/-- One comes to (x, y) by d changes. -/
inductive Rch (A B : List ByteArray) : Nat → Nat → Nat → Prop
  | z : Rch A B 0 0 0
  | m {d x y : Nat} : Rch A B d x y → mtl A B x y = true → Rch A B d (x + 1) (y + 1)
  | a {d x y : Nat} : Rch A B d x y → Rch A B (d + 1) (x + 1) y
  | b {d x y : Nat} : Rch A B d x y → Rch A B (d + 1) x (y + 1)
section
variable {A B : List ByteArray}
theorem Rch.diag {d x y : Nat} (h : Rch A B d x y) : -(d : Int) ≤ (x : Int) - y ∧ (x : Int) - y ≤ d ∧ (d + x + y) % 2 = 0 := by
  induction h with
  | z => omega
  | m _ _ ih => omega
  | a _ ih => omega
  | b _ ih => omega
theorem mtl_out {x y : Nat} (h : A.length ≤ x) : mtl A B x y = false := by
  unfold mtl
  rw [List.getElem?_eq_none h]
theorem run_end : ∀ (f x y : Nat), f = A.length - x → mtl A B (x + run A B f x y) (y + run A B f x y) = false := by
  intro f
  induction f with
  | zero => intro x y h; simp only [run]; exact mtl_out (by omega)
  | succ f ih =>
    intro x y h
    unfold run
    split
    · have h1 := ih (x + 1) (y + 1) (by omega)
      have e1 : x + (run A B f (x + 1) (y + 1) + 1) = x + 1 + run A B f (x + 1) (y + 1) := by omega
      have e2 : y + (run A B f (x + 1) (y + 1) + 1) = y + 1 + run A B f (x + 1) (y + 1) := by omega
      rw [e1, e2]; exact h1
    · rename_i hm
      simpa using hm
theorem snk_end (x : Nat) (k : Int) (hk : k ≤ x) : mtl A B (snk A B x k) ((snk A B x k : Int) - k).toNat = false := by
  have h := run_end (A := A) (B := B) (A.length - x) x ((x : Int) - k).toNat rfl
  unfold snk
  have e : (((x + run A B (A.length - x) x ((x : Int) - k).toNat : Nat) : Int) - k).toNat = ((x : Int) - k).toNat + run A B (A.length - x) x ((x : Int) - k).toNat := by omega
  rw [e]; exact h
theorem run_rch : ∀ (f d x y : Nat), Rch A B d x y → Rch A B d (x + run A B f x y) (y + run A B f x y) := by
  intro f
  induction f with
  | zero => intro d x y h; exact h
  | succ f ih =>
    intro d x y h
    unfold run
    split
    · rename_i hm
      have h1 := ih d (x + 1) (y + 1) (h.m hm)
      have e1 : x + (run A B f (x + 1) (y + 1) + 1) = x + 1 + run A B f (x + 1) (y + 1) := by omega
      have e2 : y + (run A B f (x + 1) (y + 1) + 1) = y + 1 + run A B f (x + 1) (y + 1) := by omega
      rw [e1, e2]; exact h1
    · exact h
theorem snk_rch {d x y : Nat} {k : Int} (h : Rch A B d x y) (hk : (x : Int) - y = k) : Rch A B d (snk A B x k) ((snk A B x k : Int) - k).toNat := by
  have h1 := run_rch (A.length - x) d x y h
  have e : ((x : Int) - k).toNat = y := by omega
  unfold snk
  rw [e]
  have e2 : (((x + run A B (A.length - x) x y : Nat) : Int) - k).toNat = y + run A B (A.length - x) x y := by omega
  rw [e2]; exact h1
theorem V_rch : ∀ (d : Nat) (k : Int), -(d : Int) ≤ k → k ≤ d → (d + k) % 2 = 0 → Rch A B d (V A B d k) ((V A B d k : Int) - k).toNat := by
  intro d
  induction d with
  | zero =>
    intro k h1 h2 _
    have hk : k = 0 := by omega
    subst hk
    exact snk_rch (Rch.z) rfl
  | succ d ih =>
    intro k h1 h2 h3
    rw [V_eq]
    have hb := frm_diag A B (d + 1) k h1 h2 h3
    refine snk_rch (y := ((frm A B (d + 1) k : Int) - k).toNat) ?_ (by omega)
    simp only [frm] at hb ⊢
    split
    · rename_i hc
      have hr := ih (k + 1) (by omega) (by rcases hc with hc | hc <;> omega) (by omega)
      have hv := V_diag A B d (k + 1) (by omega) (by rcases hc with hc | hc <;> omega) (by omega)
      have e : ((V A B d (k + 1) : Int) - k).toNat = ((V A B d (k + 1) : Int) - (k + 1)).toNat + 1 := by omega
      rw [e]
      exact hr.b
    · rename_i hc
      have hr := ih (k - 1) (by omega) (by omega) (by omega)
      have hv := V_diag A B d (k - 1) (by omega) (by omega) (by omega)
      have e : (((V A B d (k - 1) + 1 : Nat) : Int) - k).toNat = ((V A B d (k - 1) : Int) - (k - 1)).toNat := by omega
      rw [e]
      exact hr.a
theorem V_top {d x y : Nat} (h : Rch A B d x y) : x ≤ V A B d ((x : Int) - y) := by
  induction h with
  | z => omega
  | @m d x y hr hm ih =>
    have hd := hr.diag
    have e : ((x + 1 : Nat) : Int) - ((y + 1 : Nat) : Int) = (x : Int) - y := by omega
    rw [e]
    rcases Nat.lt_or_ge x (V A B d ((x : Int) - y)) with hlt | hge
    · exact hlt
    · have hx : V A B d ((x : Int) - y) = x := by omega
      have hf := frm_diag A B d ((x : Int) - y) hd.1 hd.2.1 (by omega)
      have he := snk_end (A := A) (B := B) (frm A B d ((x : Int) - y)) ((x : Int) - y) hf.1
      rw [← V_eq, hx] at he
      have ey : ((x : Int) - ((x : Int) - y)).toNat = y := by omega
      rw [ey, hm] at he
      cases he
  | @a d x y hr ih =>
    have hd := hr.diag
    have e : ((x + 1 : Nat) : Int) - (y : Int) = (x : Int) - y + 1 := by omega
    rw [e, V_eq]
    refine Nat.le_trans ?_ (snk_ge _ _ _ _)
    simp only [frm]
    have e1 : (x : Int) - y + 1 - 1 = (x : Int) - y := by omega
    rw [e1]
    split
    · rename_i hc
      rcases hc with hc | ⟨_, hc⟩
      · omega
      · omega
    · omega
  | @b d x y hr ih =>
    have hd := hr.diag
    have e : (x : Int) - ((y + 1 : Nat) : Int) = (x : Int) - y - 1 := by omega
    rw [e, V_eq]
    refine Nat.le_trans ?_ (snk_ge _ _ _ _)
    simp only [frm]
    have e1 : (x : Int) - y - 1 + 1 = (x : Int) - y := by omega
    rw [e1]
    split
    · exact ih
    · rename_i hc
      have : ¬ (V A B d ((x : Int) - y - 1 - 1) < V A B d ((x : Int) - y)) := fun h => hc (.inr ⟨by omega, h⟩)
      omega
end
section
variable (a b : List ByteArray)
/-- How many may stay of the last x lines of a and the last y of b. -/
def Sh (x y : Nat) : Nat := lcs (a.drop (a.length - x)) (b.drop (b.length - y))
theorem drop_more (l : List ByteArray) (x : Nat) (hx : x < l.length) : l.drop (l.length - (x + 1)) = l[l.length - 1 - x] :: l.drop (l.length - x) := by
  have h : l.length - (x + 1) < l.length := by omega
  rw [List.drop_eq_getElem_cons h]
  have e1 : l.length - (x + 1) + 1 = l.length - x := by omega
  have e2 : l.length - (x + 1) = l.length - 1 - x := by omega
  rw [e1]
  congr 1
  congr 1
theorem drop_sub (l : List ByteArray) (x : Nat) : l.drop (l.length - x) <+ l.drop (l.length - (x + 1)) := List.drop_sublist_drop_left l (by omega)
theorem rev_get (l : List ByteArray) (x : Nat) (hx : x < l.length) : l.reverse[x]? = some l[l.length - 1 - x] := by
  rw [List.getElem?_reverse hx, List.getElem?_eq_getElem (by omega)]
theorem Sh_le (x y : Nat) : Sh a b x y ≤ x ∧ Sh a b x y ≤ y := by
  have h1 := lcs_le_left (a.drop (a.length - x)) (b.drop (b.length - y))
  have h2 := lcs_le_right (a.drop (a.length - x)) (b.drop (b.length - y))
  rw [List.length_drop] at h1 h2
  unfold Sh
  omega
theorem rch_le {d x y : Nat} (h : Rch a.reverse b.reverse d x y) : x + y ≤ d + 2 * Sh a b x y := by
  induction h with
  | z => omega
  | @m d x y hr hm ih =>
    obtain ⟨hx, hy, he⟩ := mtl_iff.1 hm
    rw [List.length_reverse] at hx hy
    have e1 := rev_get a x hx
    have e2 := rev_get b y hy
    rw [List.getElem?_eq_getElem (by rw [List.length_reverse]; exact hx)] at e1
    rw [List.getElem?_eq_getElem (by rw [List.length_reverse]; exact hy)] at e2
    rw [Option.some.inj e1, Option.some.inj e2] at he
    have : Sh a b (x + 1) (y + 1) = Sh a b x y + 1 := by
      unfold Sh
      rw [drop_more a x hx, drop_more b y hy, lcs_cons, if_pos he]
    omega
  | @a d x y hr ih =>
    have : Sh a b x y ≤ Sh a b (x + 1) y := lcs_mono (drop_sub a x) (List.Sublist.refl _)
    omega
  | @b d x y hr ih =>
    have : Sh a b x y ≤ Sh a b x (y + 1) := lcs_mono (List.Sublist.refl _) (drop_sub b y)
    omega
theorem rch_of : ∀ (n x y : Nat), x + y ≤ n → x ≤ a.length → y ≤ b.length → Rch a.reverse b.reverse (x + y - 2 * Sh a b x y) x y := by
  intro n
  induction n with
  | zero =>
    intro x y h _ _
    have hx : x = 0 := by omega
    have hy : y = 0 := by omega
    subst hx; subst hy
    simp only [Nat.zero_add, Nat.zero_sub]
    exact .z
  | succ n ih =>
    intro x y h hx hy
    have hs := Sh_le a b x y
    cases x with
    | zero =>
      cases y with
      | zero =>
        simp only [Nat.zero_add, Nat.zero_sub]
        exact .z
      | succ y =>
        have h0 := ih 0 y (by omega) (by omega) (by omega)
        have hs0 := Sh_le a b 0 y
        have e : 0 + (y + 1) - 2 * Sh a b 0 (y + 1) = (0 + y - 2 * Sh a b 0 y) + 1 := by omega
        rw [e]
        exact h0.b
    | succ x =>
      cases y with
      | zero =>
        have h0 := ih x 0 (by omega) (by omega) (by omega)
        have hs0 := Sh_le a b x 0
        have e : x + 1 + 0 - 2 * Sh a b (x + 1) 0 = (x + 0 - 2 * Sh a b x 0) + 1 := by omega
        rw [e]
        exact h0.a
      | succ y =>
        have hA := drop_more a x (by omega)
        have hB := drop_more b y (by omega)
        have hL : Sh a b (x + 1) (y + 1) = if a[a.length - 1 - x] = b[b.length - 1 - y] then Sh a b x y + 1 else max (Sh a b x (y + 1)) (Sh a b (x + 1) y) := by
          unfold Sh
          rw [hA, hB, lcs_cons]
        by_cases he : a[a.length - 1 - x] = b[b.length - 1 - y]
        · rw [if_pos he] at hL
          have h0 := ih x y (by omega) (by omega) (by omega)
          have hs0 := Sh_le a b x y
          have hm : mtl a.reverse b.reverse x y = true := by
            unfold mtl
            rw [rev_get a x (by omega), rev_get b y (by omega), he]
            simp
          have e : x + 1 + (y + 1) - 2 * Sh a b (x + 1) (y + 1) = x + y - 2 * Sh a b x y := by omega
          rw [e]
          exact Rch.m h0 hm
        · rw [if_neg he] at hL
          rcases Nat.le_total (Sh a b x (y + 1)) (Sh a b (x + 1) y) with hm | hm
          · have h0 := ih (x + 1) y (by omega) (by omega) (by omega)
            have hs0 := Sh_le a b (x + 1) y
            have e : x + 1 + (y + 1) - 2 * Sh a b (x + 1) (y + 1) = (x + 1 + y - 2 * Sh a b (x + 1) y) + 1 := by omega
            rw [e]
            exact h0.b
          · have h0 := ih x (y + 1) (by omega) (by omega) (by omega)
            have hs0 := Sh_le a b x (y + 1)
            have e : x + 1 + (y + 1) - 2 * Sh a b (x + 1) (y + 1) = (x + (y + 1) - 2 * Sh a b x (y + 1)) + 1 := by omega
            rw [e]
            exact h0.a
theorem Sh_diag (x y : Nat) : Sh a b (x + 1) (y + 1) ≤ Sh a b x y + 1 := by
  unfold Sh
  by_cases hx : x < a.length
  · rw [drop_more a x hx]
    by_cases hy : y < b.length
    · rw [drop_more b y hy]
      exact lcs_cons_cons_le _ _ _ _
    · have e : b.length - (y + 1) = b.length - y := by omega
      rw [e]
      exact lcs_cons_le _ _ _
  · have e : a.length - (x + 1) = a.length - x := by omega
    rw [e]
    by_cases hy : y < b.length
    · rw [drop_more b y hy]
      exact lcs_cons_le' _ _ _
    · have e : b.length - (y + 1) = b.length - y := by omega
      rw [e]
      omega
theorem Sh_diagN (t x y : Nat) : Sh a b (x + t) (y + t) ≤ Sh a b x y + t := by
  induction t with
  | zero => exact Nat.le_refl _
  | succ t ih =>
    have := Sh_diag a b (x + t) (y + t)
    have e1 : x + (t + 1) = x + t + 1 := by omega
    have e2 : y + (t + 1) = y + t + 1 := by omega
    rw [e1, e2]
    omega
theorem rch_more {A B : List ByteArray} (t : Nat) : ∀ {d x y : Nat}, Rch A B d x y → Rch A B (d + 2 * t) (x + t) (y + t) := by
  induction t with
  | zero => intro d x y h; exact h
  | succ t ih =>
    intro d x y h
    have h1 := (ih h).a.b
    have e1 : d + 2 * (t + 1) = d + 2 * t + 1 + 1 := by omega
    have e2 : x + (t + 1) = x + t + 1 := by omega
    have e3 : y + (t + 1) = y + t + 1 := by omega
    rw [e1, e2, e3]
    exact h1
/-- Does one come to the last x and y by d changes: the row of d tells it. -/
theorem comes_iff (d x y : Nat) (hx : x ≤ a.length) (hy : y ≤ b.length) (h1 : -(d : Int) ≤ (x : Int) - y) (h2 : (x : Int) - y ≤ d) (h3 : (d + x + y) % 2 = 0) :
    x ≤ V a.reverse b.reverse d ((x : Int) - y) ↔ x + y ≤ d + 2 * Sh a b x y := by
  constructor
  · intro h
    have hr := V_rch (A := a.reverse) (B := b.reverse) d ((x : Int) - y) h1 h2 (by omega)
    have hl := rch_le a b hr
    have hv := V_diag a.reverse b.reverse d ((x : Int) - y) h1 h2 (by omega)
    obtain ⟨t, ht⟩ : ∃ t, V a.reverse b.reverse d ((x : Int) - y) = x + t := ⟨_, (Nat.add_sub_of_le h).symm⟩
    rw [ht] at hl hv
    have ey : (((x + t : Nat) : Int) - ((x : Int) - y)).toNat = y + t := by omega
    rw [ey] at hl
    have := Sh_diagN a b t x y
    omega
  · intro h
    have hr := rch_of a b (x + y) x y (Nat.le_refl _) hx hy
    have hs := Sh_le a b x y
    have hp := hr.diag
    obtain ⟨t, ht⟩ : ∃ t, d = x + y - 2 * Sh a b x y + 2 * t := ⟨(d - (x + y - 2 * Sh a b x y)) / 2, by omega⟩
    have hv := V_top (rch_more t hr)
    rw [← ht] at hv
    have e : ((x + t : Nat) : Int) - ((y + t : Nat) : Int) = (x : Int) - y := by omega
    rw [e] at hv
    omega
theorem Sh_all : Sh a b a.length b.length = lcs a b := by
  unfold Sh
  rw [Nat.sub_self, Nat.sub_self, List.drop_zero, List.drop_zero]
/-- The fewest changes. -/
def cost : Nat := a.length + b.length - 2 * lcs a b
theorem lcs_two : lcs a b ≤ a.length ∧ lcs a b ≤ b.length := ⟨lcs_le_left a b, lcs_le_right a b⟩
theorem stop_iff (d : Nat) : stop a.reverse b.reverse d = true ↔ (-(d : Int) ≤ (a.length : Int) - b.length ∧ (a.length : Int) - b.length ≤ d ∧ (d + a.length + b.length) % 2 = 0 ∧ cost a b ≤ d) := by
  unfold stop
  rw [decide_eq_true_iff, List.length_reverse, List.length_reverse]
  constructor
  · rintro ⟨h1, h2, h3, h4⟩
    have := (comes_iff a b d a.length b.length (Nat.le_refl _) (Nat.le_refl _) h1 h2 h3).1 h4
    rw [Sh_all] at this
    exact ⟨h1, h2, h3, by unfold cost; omega⟩
  · rintro ⟨h1, h2, h3, h4⟩
    refine ⟨h1, h2, h3, (comes_iff a b d a.length b.length (Nat.le_refl _) (Nat.le_refl _) h1 h2 h3).2 ?_⟩
    have := lcs_two a b
    unfold cost at h4
    rw [Sh_all]
    omega
theorem least_rev : least a.reverse b.reverse = some (cost a b) := by
  unfold least
  rw [List.find?_range_eq_some]
  have h2 := lcs_two a b
  refine ⟨(stop_iff a b _).2 ?_, ?_, ?_⟩
  · unfold cost; omega
  · rw [List.mem_range, List.length_reverse, List.length_reverse]
    unfold cost; omega
  · intro j hj
    have : stop a.reverse b.reverse j = false := by
      cases hs : stop a.reverse b.reverse j with
      | false => rfl
      | true => have := (stop_iff a b j).1 hs; omega
    simp [this]
theorem rows_length (A B : List ByteArray) (D : Nat) : (rows A B D).length = D + 1 := by simp [rows]
end
end
section
open List
abbrev Step := Int × List ByteArray
def pthRow (a : ByteArray) (A : List ByteArray) (f : List ByteArray → List Step) : List ByteArray → List Step
  | [] => (2, []) :: f []
  | b :: B => if a = b then (1, []) :: f B else if lcs (a :: A) B ≤ lcs A (b :: B) then (2, []) :: f (b :: B) else (3, [b]) :: pthRow a A f B
/-- The steps. -/
def pth : List ByteArray → List ByteArray → List Step
  | [], B => B.map fun b => (3, [b])
  | a :: A, B => pthRow a A (pth A) B
theorem pth_cons (a b : ByteArray) (A B : List ByteArray) : pth (a :: A) (b :: B) = if a = b then (1, []) :: pth A B else if lcs (a :: A) B ≤ lcs A (b :: B) then (2, []) :: pth A (b :: B) else (3, [b]) :: pth (a :: A) B := rfl
theorem pth_cut (a : ByteArray) (A : List ByteArray) : pth (a :: A) [] = (2, []) :: pth A [] := rfl
theorem pth_add (b : ByteArray) (B : List ByteArray) : pth [] (b :: B) = (3, [b]) :: pth [] B := rfl
theorem pth_nil : pth [] [] = [] := rfl
/-- No more steps than lines, and no more than one line each. -/
theorem pth_small : ∀ (A B : List ByteArray), (pth A B).length ≤ A.length + B.length ∧ ∀ s ∈ pth A B, s.2.length ≤ 1 := by
  intro A
  induction A with
  | nil =>
    intro B
    refine ⟨by simp [pth], fun s hs => ?_⟩
    obtain ⟨b, _, rfl⟩ := List.mem_map.1 hs
    simp
  | cons a A ih =>
    intro B
    induction B with
    | nil =>
      rw [pth_cut]
      have := ih []
      refine ⟨by simp at this ⊢; omega, fun s hs => ?_⟩
      rcases List.mem_cons.1 hs with rfl | hs
      · simp
      · exact this.2 s hs
    | cons b B ihB =>
      rw [pth_cons]
      split
      · have := ih B
        refine ⟨by simp at this ⊢; omega, fun s hs => ?_⟩
        rcases List.mem_cons.1 hs with rfl | hs
        · simp
        · exact this.2 s hs
      · split
        · have := ih (b :: B)
          refine ⟨by simp at this ⊢; omega, fun s hs => ?_⟩
          rcases List.mem_cons.1 hs with rfl | hs
          · simp
          · exact this.2 s hs
        · refine ⟨by simp at ihB ⊢; omega, fun s hs => ?_⟩
          rcases List.mem_cons.1 hs with rfl | hs
          · simp
          · exact ihB.2 s hs
/-- What stands of the two lists at a place: what the search knows of it. -/
theorem left_zero (A B : List ByteArray) (h : cost A B = 0) (hne : ∀ a A' b B', A = a :: A' → B = b :: B' → a ≠ b) : A = [] ∧ B = [] := by
  have h2 := lcs_two A B
  unfold cost at h
  cases A with
  | nil =>
    rw [lcs_nil] at h
    exact ⟨rfl, List.eq_nil_of_length_eq_zero (by simp at h; exact List.length_eq_zero_iff.2 h)⟩
  | cons a A =>
    cases B with
    | nil => rw [lcs_nil'] at h; simp at h
    | cons b B =>
      rw [lcs_cons, if_neg (hne a A b B rfl rfl)] at h
      have h3 := lcs_two A (b :: B)
      have h4 := lcs_two (a :: A) B
      simp only [List.length_cons] at h h2 h3 h4
      omega
theorem cost_keep (a : ByteArray) (A B : List ByteArray) : cost (a :: A) (a :: B) = cost A B := by
  unfold cost
  rw [lcs_cons, if_pos rfl]
  have := lcs_two A B
  simp only [List.length_cons]
  omega
/-- The last lines that are gone through, as the search asks for them: may one be cut. -/
theorem cut_iff (a : ByteArray) (A B : List ByteArray) (hne : ∀ b B', B = b :: B' → a ≠ b) :
    0 < cost (a :: A) B ∧ (A.length + B.length ≤ cost (a :: A) B - 1 + 2 * lcs A B ↔ pth (a :: A) B = (2, []) :: pth A B) ∧ (A.length + B.length ≤ cost (a :: A) B - 1 + 2 * lcs A B → cost A B = cost (a :: A) B - 1) ∧
    (¬ (A.length + B.length ≤ cost (a :: A) B - 1 + 2 * lcs A B) → ∃ b B', B = b :: B' ∧ pth (a :: A) B = (3, [b]) :: pth (a :: A) B' ∧ cost (a :: A) B' = cost (a :: A) B - 1) := by
  cases B with
  | nil =>
    unfold cost
    simp only [lcs_nil', List.length_cons, List.length_nil]
    refine ⟨by omega, ⟨fun _ => pth_cut a A, fun _ => by omega⟩, fun _ => by omega, fun h => absurd (by omega) h⟩
  | cons b B =>
    have hab := hne b B rfl
    have hl := lcs_cons a b A B
    rw [if_neg hab] at hl
    have h1 := lcs_two A (b :: B)
    have h2 := lcs_two (a :: A) B
    have h3 := lcs_two (a :: A) (b :: B)
    have hp := pth_cons a b A B
    rw [if_neg hab] at hp
    unfold cost
    simp only [List.length_cons] at h1 h2 h3 ⊢
    refine ⟨by omega, ⟨fun h => ?_, fun h => ?_⟩, fun h => by omega, fun h => ⟨b, B, rfl, ?_, by omega⟩⟩
    · rw [hp, if_pos (by omega)]
    · by_cases hc : lcs (a :: A) B ≤ lcs A (b :: B)
      · omega
      · rw [hp, if_neg hc] at h
        simp at h
    · rw [hp, if_neg (by omega)]
theorem cost_add (b : ByteArray) (B : List ByteArray) : cost [] (b :: B) = cost [] B + 1 := by
  unfold cost
  simp only [lcs_nil, List.length_cons, List.length_nil]
  omega
end
section
open List
theorem meet {b : List ByteArray} : ∀ {S1 S2 : List ByteArray}, S1 <+ b → S2 <+ b → ∃ S, S <+ S1 ∧ S <+ S2 ∧ S1.length + S2.length ≤ b.length + S.length := by
  induction b with
  | nil =>
    intro S1 S2 h1 h2
    rw [List.sublist_nil.1 h1, List.sublist_nil.1 h2]
    exact ⟨[], .slnil, .slnil, by simp⟩
  | cons x b ih =>
    intro S1 S2 h1 h2
    rcases List.sublist_cons_iff.1 h1 with k1 | ⟨T1, rfl, k1⟩
    · rcases List.sublist_cons_iff.1 h2 with k2 | ⟨T2, rfl, k2⟩
      · obtain ⟨S, g1, g2, g3⟩ := ih k1 k2
        exact ⟨S, g1, g2, by simp only [List.length_cons]; omega⟩
      · obtain ⟨S, g1, g2, g3⟩ := ih k1 k2
        exact ⟨S, g1, g2.trans (List.sublist_cons_self x T2), by simp only [List.length_cons]; omega⟩
    · rcases List.sublist_cons_iff.1 h2 with k2 | ⟨T2, rfl, k2⟩
      · obtain ⟨S, g1, g2, g3⟩ := ih k1 k2
        exact ⟨S, g1.trans (List.sublist_cons_self x T1), g2, by simp only [List.length_cons]; omega⟩
      · obtain ⟨S, g1, g2, g3⟩ := ih k1 k2
        exact ⟨x :: S, g1.cons_cons x, g2.cons_cons x, by simp only [List.length_cons]; omega⟩
theorem lcs_by (a b c : List ByteArray) : lcs a b + lcs b c ≤ b.length + lcs a c := by
  obtain ⟨S1, h1, h2, h3⟩ := ex_lcs a b
  obtain ⟨S2, g1, g2, g3⟩ := ex_lcs b c
  obtain ⟨S, k1, k2, k3⟩ := meet h2 g1
  have := le_lcs (k1.trans h1) (k2.trans g2)
  omega
theorem cost_symm (a b : List ByteArray) : cost a b = cost b a := by unfold cost; rw [lcs_symm]; omega
theorem cost_rev (a b : List ByteArray) : cost a.reverse b.reverse = cost a b := by unfold cost; rw [lcs_rev, List.length_reverse, List.length_reverse]
theorem cost_self (a : List ByteArray) : cost a a = 0 := by unfold cost; rw [lcs_self]; omega
theorem cost_zero (a b : List ByteArray) : cost a b = 0 ↔ a = b := by
  constructor
  · intro h
    obtain ⟨L, h1, h2, h3⟩ := ex_lcs a b
    have h4 := lcs_two a b
    unfold cost at h
    have e1 := h1.eq_of_length (by omega)
    have e2 := h2.eq_of_length (by omega)
    rw [← e1, ← e2]
  · intro h; subst h; exact cost_self a
theorem cost_by (a b c : List ByteArray) : cost a c ≤ cost a b + cost b c := by
  have h1 := lcs_by a b c
  have h2 := lcs_two a b
  have h3 := lcs_two b c
  unfold cost
  omega
theorem cost_le' (a b : List ByteArray) : cost a b ≤ a.length + b.length := by unfold cost; omega
theorem cost_parity (a b : List ByteArray) : cost a b % 2 = (a.length + b.length) % 2 := by
  have h2 := lcs_two a b
  unfold cost
  omega
end
section
open List
theorem lcs_pre (p A B : List ByteArray) : lcs (p ++ A) (p ++ B) = p.length + lcs A B := by
  induction p with
  | nil => simp
  | cons x p ih => rw [List.cons_append, List.cons_append, lcs_cons, if_pos rfl, ih, List.length_cons]; omega
theorem lcs_post (q A B : List ByteArray) : lcs (A ++ q) (B ++ q) = lcs A B + q.length := by
  rw [← lcs_rev (A ++ q) (B ++ q), List.reverse_append, List.reverse_append, lcs_pre, lcs_rev, List.length_reverse]; omega
theorem lcs_app (a b c d : List ByteArray) : lcs a b + lcs c d ≤ lcs (a ++ c) (b ++ d) := by
  obtain ⟨L, h1, h2, h3⟩ := ex_lcs a b
  obtain ⟨M, g1, g2, g3⟩ := ex_lcs c d
  have := le_lcs (List.Sublist.append h1 g1) (List.Sublist.append h2 g2)
  rw [List.length_append] at this
  omega
theorem lcs_snoc (a b : List ByteArray) (l : ByteArray) : lcs a b ≤ lcs (a ++ [l]) b ∧ lcs (a ++ [l]) b ≤ lcs a b + 1 := by
  refine ⟨lcs_mono (List.sublist_append_left a [l]) (List.Sublist.refl b), ?_⟩
  rw [← lcs_rev (a ++ [l]) b, ← lcs_rev a b, List.reverse_append]
  exact lcs_cons_le l a.reverse b.reverse
theorem lcs_none {a b : List ByteArray} (h : ∀ x ∈ a, x ∉ b) : lcs a b = 0 := by
  obtain ⟨L, h1, h2, h3⟩ := ex_lcs a b
  cases L with
  | nil => simpa using h3.symm
  | cons x L => exact absurd (h2.mem List.mem_cons_self) (h x (h1.mem List.mem_cons_self))
theorem pth_pre (p A B : List ByteArray) : pth (p ++ A) (p ++ B) = List.replicate p.length (1, []) ++ pth A B := by
  induction p with
  | nil => rfl
  | cons x p ih => rw [List.cons_append, List.cons_append, pth_cons, if_pos rfl, ih]; rfl
theorem pth_self (A : List ByteArray) : pth A A = List.replicate A.length (1, []) := by
  have := pth_pre A [] []
  rw [List.append_nil] at this
  rw [this, pth_nil, List.append_nil]
theorem pth_cuts (A : List ByteArray) : pth A [] = List.replicate A.length (2, []) := by
  induction A with
  | nil => rfl
  | cons x A ih => rw [pth_cut, ih]; rfl
theorem pth_adds (B : List ByteArray) : pth [] B = B.map fun b => (3, [b]) := rfl
theorem pth_behind (a b : List ByteArray) : pth a (a ++ b) = List.replicate a.length (1, []) ++ b.map fun b => (3, [b]) := by
  have := pth_pre a [] b
  rw [List.append_nil] at this
  rw [this, pth_adds]
theorem pth_behind' (a b : List ByteArray) : pth (a ++ b) a = List.replicate a.length (1, []) ++ List.replicate b.length (2, []) := by
  have := pth_pre a b []
  rw [List.append_nil] at this
  rw [this, pth_cuts]
/-- A line that has become one that is nowhere else. -/
theorem pth_new (x z : ByteArray) (A : List ByteArray) (hx : x ≠ z) (hz : z ∉ A) : pth (x :: A) (z :: A) = (2, []) :: (3, [z]) :: List.replicate A.length (1, []) := by
  rw [pth_cons, if_neg hx]
  have h1 := lcs_le_right (x :: A) A
  have h2 : A.length ≤ lcs A (z :: A) := le_lcs (List.Sublist.refl A) (List.sublist_cons_self z A)
  rw [if_pos (by omega)]
  congr 1
  cases A with
  | nil => rw [pth_add]; rfl
  | cons c A =>
    have hc : c ≠ z := fun h => hz (by rw [h]; exact List.mem_cons_self)
    have h3 := lcs_le_left A (z :: c :: A)
    rw [pth_cons, if_neg hc, lcs_self, if_neg (by simp only [List.length_cons]; omega), pth_self]
theorem lcs_new (x z : ByteArray) (p A : List ByteArray) (hx : x ≠ z) (hz : z ∉ A) : lcs (p ++ x :: A) (p ++ z :: A) = p.length + A.length := by
  rw [lcs_pre, lcs_cons, if_neg hx]
  have h1 := lcs_le_right (x :: A) A
  have h2 : A.length ≤ lcs A (z :: A) := le_lcs (List.Sublist.refl A) (List.sublist_cons_self z A)
  have h3 := lcs_le_left A (z :: A)
  omega

/-- The kinds of the steps. -/
def ops (st : List Step) : List Int := st.map (·.1)
/-- Steps of these kinds make B of A. -/
inductive Trn : List Int → List ByteArray → List ByteArray → Prop
  | nil : Trn [] [] []
  | keep {o A B} (x : ByteArray) : Trn o A B → Trn (1 :: o) (x :: A) (x :: B)
  | cut {o A B} (x : ByteArray) : Trn o A B → Trn (2 :: o) (x :: A) B
  | add {o A B} (y : ByteArray) : Trn o A B → Trn (3 :: o) A (y :: B)
/-- How many of them change something. -/
def chg : List Int → Nat
  | [] => 0
  | x :: o => if x = 1 then chg o else chg o + 1
theorem chg_append (a b : List Int) : chg (a ++ b) = chg a + chg b := by
  induction a with
  | nil => simp [chg]
  | cons x a ih => rw [List.cons_append, chg, chg, ih]; split <;> omega
theorem chg_replicate (n : Nat) (x : Int) : chg (List.replicate n x) = if x = 1 then 0 else n := by
  induction n with
  | zero => simp [chg]
  | succ n ih => rw [List.replicate_succ, chg, ih]; split <;> rfl
theorem cost_cut_le (x : ByteArray) (A B : List ByteArray) : cost (x :: A) B ≤ cost A B + 1 := by
  have h1 : lcs A B ≤ lcs (x :: A) B := lcs_mono (List.sublist_cons_self x A) (List.Sublist.refl B)
  unfold cost
  simp only [List.length_cons]
  omega
theorem cost_add_le (y : ByteArray) (A B : List ByteArray) : cost A (y :: B) ≤ cost A B + 1 := by
  rw [cost_symm A (y :: B), cost_symm A B]
  exact cost_cut_le y B A
theorem trn_cost {o : List Int} {A B : List ByteArray} (h : Trn o A B) : cost A B ≤ chg o := by
  induction h with
  | nil => exact Nat.zero_le _
  | keep x _ ih => rw [cost_keep, chg, if_pos rfl]; exact ih
  | cut x _ ih => rw [chg, if_neg (by decide)]; have := cost_cut_le x; exact Nat.le_trans (this _ _) (by omega)
  | add y _ ih => rw [chg, if_neg (by decide)]; have := cost_add_le y; exact Nat.le_trans (this _ _) (by omega)
theorem trn_pth : ∀ (A B : List ByteArray), Trn (ops (pth A B)) A B ∧ chg (ops (pth A B)) = cost A B := by
  intro A
  induction A with
  | nil =>
    intro B
    induction B with
    | nil => exact ⟨.nil, rfl⟩
    | cons b B ih =>
      rw [pth_add, cost_add]
      refine ⟨.add b ih.1, ?_⟩
      show chg (3 :: ops (pth [] B)) = _
      rw [chg, if_neg (by decide), ih.2]
  | cons a A ih =>
    intro B
    induction B with
    | nil =>
      rw [pth_cut]
      refine ⟨.cut a (ih []).1, ?_⟩
      show chg (2 :: ops (pth A [])) = _
      rw [chg, if_neg (by decide), (ih []).2]
      unfold cost
      rw [lcs_nil', lcs_nil']
      simp only [List.length_cons, List.length_nil]
      omega
    | cons b B ihB =>
      by_cases hab : a = b
      · subst hab
        rw [pth_cons, if_pos rfl, cost_keep]
        refine ⟨.keep a (ih B).1, ?_⟩
        show chg (1 :: ops (pth A B)) = _
        rw [chg, if_pos rfl, (ih B).2]
      · obtain ⟨h0, h1, h2, h3⟩ := cut_iff a A (b :: B) (fun b' B' e => by injection e with e1 _; rw [← e1]; exact hab)
        by_cases hc : A.length + (b :: B).length ≤ cost (a :: A) (b :: B) - 1 + 2 * lcs A (b :: B)
        · rw [h1.1 hc]
          refine ⟨.cut a (ih _).1, ?_⟩
          show chg (2 :: ops (pth A (b :: B))) = _
          rw [chg, if_neg (by decide), (ih _).2, h2 hc]
          omega
        · obtain ⟨b', B', e, hp, hk⟩ := h3 hc
          injection e with e1 e2
          subst e1 e2
          rw [hp]
          refine ⟨.add b ihB.1, ?_⟩
          show chg (3 :: ops (pth (a :: A) B)) = _
          rw [chg, if_neg (by decide), ihB.2, hk]
          omega
/-- The first list of kinds is no later than the other one, at the first place in which they are unlike. -/
def lexle : List Int → List Int → Bool
  | [], [] => true
  | x :: xs, y :: ys => if x = y then lexle xs ys else decide (x < y)
  | _, _ => false
theorem trn_least {o : List Int} : ∀ {A B : List ByteArray}, Trn o A B → chg o = cost A B → lexle (ops (pth A B)) o = true := by
  induction o with
  | nil => intro A B h _; cases h; rfl
  | cons x o ih =>
    intro A B h hc
    cases h with
    | @keep _ A B z h =>
      rw [chg, if_pos rfl, cost_keep] at hc
      rw [pth_cons, if_pos rfl]
      show lexle (1 :: ops (pth A B)) (1 :: o) = true
      rw [lexle, if_pos rfl]
      exact ih h hc
    | @cut _ A B z h =>
      rw [chg, if_neg (by decide)] at hc
      have hk := trn_cost h
      cases B with
      | nil =>
        rw [pth_cut]
        show lexle (2 :: ops (pth A [])) (2 :: o) = true
        rw [lexle, if_pos rfl]
        refine ih h ?_
        have := cost_cut_le z A []
        omega
      | cons b B =>
        by_cases hab : z = b
        · rw [pth_cons, if_pos hab]
          show lexle (1 :: ops (pth A B)) (2 :: o) = true
          rw [lexle, if_neg (by decide)]
          decide
        · have hcc := cost_cut_le z A (b :: B)
          have h1 := lcs_two A (b :: B)
          have hl := lcs_cons z b A B
          rw [if_neg hab] at hl
          have h2 := lcs_two (z :: A) (b :: B)
          have h4 : lcs (z :: A) B ≤ lcs A (b :: B) := by
            unfold cost at hk hc
            simp only [List.length_cons] at hk hc h1 h2
            omega
          rw [pth_cons, if_neg hab, if_pos h4]
          show lexle (2 :: ops (pth A (b :: B))) (2 :: o) = true
          rw [lexle, if_pos rfl]
          exact ih h (by omega)
    | @add _ A B z h =>
      rw [chg, if_neg (by decide)] at hc
      have hk := trn_cost h
      cases A with
      | nil =>
        rw [pth_add]
        show lexle (3 :: ops (pth [] B)) (3 :: o) = true
        rw [lexle, if_pos rfl]
        refine ih h ?_
        rw [cost_add] at hc
        omega
      | cons a A =>
        rw [pth_cons]
        split
        · show lexle (1 :: ops (pth A B)) (3 :: o) = true
          rw [lexle, if_neg (by decide)]
          decide
        · split
          · show lexle (2 :: ops (pth A (z :: B))) (3 :: o) = true
            rw [lexle, if_neg (by decide)]
            decide
          · show lexle (3 :: ops (pth (a :: A) B)) (3 :: o) = true
            rw [lexle, if_pos rfl]
            refine ih h ?_
            have := cost_add_le z (a :: A) B
            omega
/-- Behind a line that is added none is cut. -/
theorem pth_right : ∀ (A B : List ByteArray) (s t : Step) (l m : List Step), pth A B = l ++ s :: t :: m → s.1 = 3 → t.1 ≠ 2 := by
  intro A
  induction A with
  | nil =>
    intro B s t l m h _
    have : t ∈ pth [] B := by rw [h]; simp
    obtain ⟨b, _, rfl⟩ := List.mem_map.1 this
    exact (by decide : (3 : Int) ≠ 2)
  | cons a A ih =>
    intro B
    induction B with
    | nil =>
      intro s t l m h hs
      rw [pth_cuts] at h
      have : s ∈ List.replicate (a :: A).length ((2 : Int), ([] : List ByteArray)) := by rw [h]; simp
      rw [List.eq_of_mem_replicate this] at hs
      exact absurd hs (by decide)
    | cons b B ihB =>
      intro s t l m h hs
      rw [pth_cons] at h
      split at h
      · cases l with
        | nil => injection h with h1 _; rw [← h1] at hs; exact absurd hs (by decide)
        | cons y l => injection h with _ h1; exact ih B s t l m h1 hs
      · rename_i hab
        split at h
        · cases l with
          | nil => injection h with h1 _; rw [← h1] at hs; exact absurd hs (by decide)
          | cons y l => injection h with _ h1; exact ih _ s t l m h1 hs
        · rename_i hl
          cases l with
          | cons y l => injection h with _ h1; exact ihB s t l m h1 hs
          | nil =>
            injection h with _ h1
            cases B with
            | nil => rw [lcs_nil'] at hl; omega
            | cons b' B =>
              rw [pth_cons] at h1
              split at h1
              · injection h1 with h1 _; rw [← h1]; decide
              · rename_i hab'
                split at h1
                · rename_i hl'
                  have g1 := lcs_cons a b' A B
                  rw [if_neg hab'] at g1
                  have g2 : lcs A (b' :: B) ≤ lcs A (b :: b' :: B) := lcs_mono (List.Sublist.refl A) (List.sublist_cons_self b _)
                  omega
                · injection h1 with h1 _; rw [← h1]; exact (by decide : (3 : Int) ≠ 2)
theorem pth_kinds : ∀ (A B : List ByteArray), ∀ s ∈ pth A B, (s = (1, []) ∨ s = (2, []) ∨ ∃ b, s = (3, [b])) := by
  intro A
  induction A with
  | nil =>
    intro B s hs
    obtain ⟨b, _, rfl⟩ := List.mem_map.1 hs
    exact .inr (.inr ⟨b, rfl⟩)
  | cons a A ih =>
    intro B
    induction B with
    | nil =>
      intro s hs
      rw [pth_cut] at hs
      rcases List.mem_cons.1 hs with rfl | hs
      · exact .inr (.inl rfl)
      · exact ih [] s hs
    | cons b B ihB =>
      intro s hs
      rw [pth_cons] at hs
      split at hs
      · rcases List.mem_cons.1 hs with rfl | hs
        · exact .inl rfl
        · exact ih B s hs
      · split at hs
        · rcases List.mem_cons.1 hs with rfl | hs
          · exact .inr (.inl rfl)
          · exact ih _ s hs
        · rcases List.mem_cons.1 hs with rfl | hs
          · exact .inr (.inr ⟨b, rfl⟩)
          · exact ihB s hs
/-- What the steps make of lines. -/
def doSteps : List Step → List ByteArray → Option (List ByteArray)
  | [], [] => some []
  | [], _ :: _ => none
  | s :: st, A => if s.1 = 3 then (doSteps st A).map (s.2 ++ ·) else match A with
    | [] => none
    | x :: A => if s.1 = 1 then (doSteps st A).map (x :: ·) else doSteps st A
theorem doSteps_cons (s : Step) (st : List Step) (A : List ByteArray) : doSteps (s :: st) A = if s.1 = 3 then (doSteps st A).map (s.2 ++ ·) else match A with
    | [] => none
    | x :: A => if s.1 = 1 then (doSteps st A).map (x :: ·) else doSteps st A := by cases A <;> rfl
theorem pth_makes : ∀ (A B : List ByteArray), doSteps (pth A B) A = some B := by
  intro A
  induction A with
  | nil =>
    intro B
    induction B with
    | nil => rfl
    | cons b B ih => rw [pth_add, doSteps, if_pos rfl, ih]; rfl
  | cons a A ih =>
    intro B
    induction B with
    | nil => rw [pth_cut, doSteps, if_neg (by show ¬ (2 : Int) = 3; decide)]; show (if (2 : Int) = 1 then _ else _) = _; rw [if_neg (by decide), ih]
    | cons b B ihB =>
      rw [pth_cons]
      split
      · rename_i hab
        rw [doSteps, if_neg (by show ¬ (1 : Int) = 3; decide)]
        show (if (1 : Int) = 1 then _ else _) = _
        rw [if_pos rfl, ih, hab]
        rfl
      · split
        · rw [doSteps, if_neg (by show ¬ (2 : Int) = 3; decide)]
          show (if (2 : Int) = 1 then _ else _) = _
          rw [if_neg (by decide), ih]
        · rw [doSteps, if_pos rfl, ihB]
          rfl
end
end Go.Proofs.Ythplelgkneipjaa.Q
