/- How many lines of two lists may stay, and what the search for the fewest changes finds: plain. No program in sight. -/
import Derived.Test.YthplelgkneipjaaQMyers
set_option linter.unusedVariables false
set_option linter.unusedSimpArgs false
namespace Go.Proofs.Ythplelgkneipjaa.Q
open List

def lcsRow (a : ByteArray) (f : List ByteArray → Nat) : List ByteArray → Nat
  | [] => 0
  | b :: B => if a = b then f B + 1 else max (f (b :: B)) (lcsRow a f B)
/-- How many lines a longest common row has. -/
def lcs : List ByteArray → List ByteArray → Nat
  | [], _ => 0
  | a :: A, B => lcsRow a (lcs A) B
theorem lcs_nil (B : List ByteArray) : lcs [] B = 0 := rfl
theorem lcs_nil' (A : List ByteArray) : lcs A [] = 0 := by cases A <;> rfl
theorem lcs_cons (a b : ByteArray) (A B : List ByteArray) : lcs (a :: A) (b :: B) = if a = b then lcs A B + 1 else max (lcs A (b :: B)) (lcs (a :: A) B) := rfl
theorem sub_cases {x : ByteArray} {L A : List ByteArray} {p : ByteArray} (h : x :: L <+ p :: A) : x :: L <+ A ∨ (x = p ∧ L <+ A) := by
  rcases List.sublist_cons_iff.1 h with h | ⟨r, e, h⟩
  · exact .inl h
  · injection e with e1 e2
    exact .inr ⟨e1, by rw [e2]; exact h⟩
theorem sub_tail {x : ByteArray} {L A : List ByteArray} {p : ByteArray} (h : x :: L <+ p :: A) : L <+ A := by
  rcases sub_cases h with h | ⟨_, h⟩
  · exact (List.sublist_cons_self x L).trans h
  · exact h
theorem le_lcs : ∀ {A B L : List ByteArray}, L <+ A → L <+ B → L.length ≤ lcs A B := by
  intro A
  induction A with
  | nil => intro B L h _; rw [List.sublist_nil.1 h]; simp
  | cons a A ih =>
    intro B
    induction B with
    | nil => intro L _ h; rw [List.sublist_nil.1 h]; simp
    | cons b B ihB =>
      intro L h1 h2
      rw [lcs_cons]
      cases L with
      | nil => simp
      | cons x L =>
        split
        · have := ih (sub_tail h1) (sub_tail h2)
          simp only [List.length_cons]; omega
        · rename_i hne
          rcases sub_cases h1 with h | ⟨e1, h⟩
          · have := ih h h2; omega
          · rcases sub_cases h2 with h' | ⟨e2, h'⟩
            · have := ihB h1 h'; omega
            · exact absurd (e1.symm.trans e2) hne
theorem ex_lcs : ∀ (A B : List ByteArray), ∃ L, L <+ A ∧ L <+ B ∧ L.length = lcs A B := by
  intro A
  induction A with
  | nil => intro B; exact ⟨[], List.nil_sublist _, List.nil_sublist _, rfl⟩
  | cons a A ih =>
    intro B
    induction B with
    | nil => exact ⟨[], List.nil_sublist _, List.nil_sublist _, rfl⟩
    | cons b B ihB =>
      rw [lcs_cons]
      split
      · rename_i he
        subst he
        obtain ⟨L, h1, h2, h3⟩ := ih B
        exact ⟨a :: L, h1.cons_cons a, h2.cons_cons a, by simp [h3]⟩
      · obtain ⟨L, h1, h2, h3⟩ := ih (b :: B)
        obtain ⟨M, g1, g2, g3⟩ := ihB
        rcases Nat.le_total (lcs A (b :: B)) (lcs (a :: A) B) with hm | hm
        · exact ⟨M, g1, g2.trans (List.sublist_cons_self b B), by omega⟩
        · exact ⟨L, h1.trans (List.sublist_cons_self a A), h2, by omega⟩
theorem lcs_mono {A A' B B' : List ByteArray} (h1 : A <+ A') (h2 : B <+ B') : lcs A B ≤ lcs A' B' := by
  obtain ⟨L, g1, g2, g3⟩ := ex_lcs A B
  rw [← g3]
  exact le_lcs (g1.trans h1) (g2.trans h2)
theorem lcs_le_left (A B : List ByteArray) : lcs A B ≤ A.length := by
  obtain ⟨L, g1, g2, g3⟩ := ex_lcs A B
  rw [← g3]; exact g1.length_le
theorem lcs_le_right (A B : List ByteArray) : lcs A B ≤ B.length := by
  obtain ⟨L, g1, g2, g3⟩ := ex_lcs A B
  rw [← g3]; exact g2.length_le
theorem lcs_symm (A B : List ByteArray) : lcs A B = lcs B A := by
  apply Nat.le_antisymm
  · obtain ⟨L, g1, g2, g3⟩ := ex_lcs A B
    rw [← g3]; exact le_lcs g2 g1
  · obtain ⟨L, g1, g2, g3⟩ := ex_lcs B A
    rw [← g3]; exact le_lcs g2 g1
theorem lcs_rev (A B : List ByteArray) : lcs A.reverse B.reverse = lcs A B := by
  apply Nat.le_antisymm
  · obtain ⟨L, g1, g2, g3⟩ := ex_lcs A.reverse B.reverse
    rw [← g3, ← List.length_reverse]; exact le_lcs (List.reverse_sublist.1 (by simpa using g1)) (List.reverse_sublist.1 (by simpa using g2))
  · obtain ⟨L, g1, g2, g3⟩ := ex_lcs A B
    rw [← g3, ← List.length_reverse]; exact le_lcs (List.reverse_sublist.2 g1) (List.reverse_sublist.2 g2)
theorem lcs_cons_le (a : ByteArray) (A B : List ByteArray) : lcs (a :: A) B ≤ lcs A B + 1 := by
  obtain ⟨L, g1, g2, g3⟩ := ex_lcs (a :: A) B
  cases L with
  | nil => simp at g3; omega
  | cons x L =>
    have := le_lcs (sub_tail g1) ((List.sublist_cons_self x L).trans g2)
    simp only [List.length_cons] at g3; omega
theorem lcs_cons_le' (b : ByteArray) (A B : List ByteArray) : lcs A (b :: B) ≤ lcs A B + 1 := by
  rw [lcs_symm, lcs_symm A B]; exact lcs_cons_le b B A
theorem lcs_cons_cons_le (a b : ByteArray) (A B : List ByteArray) : lcs (a :: A) (b :: B) ≤ lcs A B + 1 := by
  obtain ⟨L, g1, g2, g3⟩ := ex_lcs (a :: A) (b :: B)
  cases L with
  | nil => simp at g3; omega
  | cons x L =>
    have := le_lcs (sub_tail g1) (sub_tail g2)
    simp only [List.length_cons] at g3; omega
theorem lcs_self (A : List ByteArray) : lcs A A = A.length := by
  apply Nat.le_antisymm (lcs_le_left A A)
  exact le_lcs (List.Sublist.refl _) (List.Sublist.refl _)

/-- One comes to (x, y) by d changes. -/
inductive Rch (A B : List ByteArray) : Nat → Nat → Nat → Prop
  | z : Rch A B 0 0 0
  | m {d x y : Nat} : Rch A B d x y → mtl A B x y = true → Rch A B d (x + 1) (y + 1)
  | a {d x y : Nat} : Rch A B d x y → Rch A B (d + 1) (x + 1) y
  | b {d x y : Nat} : Rch A B d x y → Rch A B (d + 1) x (y + 1)
section
variable {A B : List ByteArray}
theorem Rch.diag {d x y : Nat} (h : Rch A B d x y) : -(d : Int) ≤ (x : Int) - y ∧ (x : Int) - y ≤ d ∧ (d + x + y) % 2 = 0 := by
  induction h with
  | z => omega
  | m _ _ ih => omega
  | a _ ih => omega
  | b _ ih => omega
theorem mtl_out {x y : Nat} (h : A.length ≤ x) : mtl A B x y = false := by
  unfold mtl
  rw [List.getElem?_eq_none h]
theorem run_end : ∀ (f x y : Nat), f = A.length - x → mtl A B (x + run A B f x y) (y + run A B f x y) = false := by
  intro f
  induction f with
  | zero => intro x y h; simp only [run]; exact mtl_out (by omega)
  | succ f ih =>
    intro x y h
    unfold run
    split
    · have h1 := ih (x + 1) (y + 1) (by omega)
      have e1 : x + (run A B f (x + 1) (y + 1) + 1) = x + 1 + run A B f (x + 1) (y + 1) := by omega
      have e2 : y + (run A B f (x + 1) (y + 1) + 1) = y + 1 + run A B f (x + 1) (y + 1) := by omega
      rw [e1, e2]; exact h1
    · rename_i hm
      simpa using hm
theorem snk_end (x : Nat) (k : Int) (hk : k ≤ x) : mtl A B (snk A B x k) ((snk A B x k : Int) - k).toNat = false := by
  have h := run_end (A := A) (B := B) (A.length - x) x ((x : Int) - k).toNat rfl
  unfold snk
  have e : (((x + run A B (A.length - x) x ((x : Int) - k).toNat : Nat) : Int) - k).toNat = ((x : Int) - k).toNat + run A B (A.length - x) x ((x : Int) - k).toNat := by omega
  rw [e]; exact h
theorem run_rch : ∀ (f d x y : Nat), Rch A B d x y → Rch A B d (x + run A B f x y) (y + run A B f x y) := by
  intro f
  induction f with
  | zero => intro d x y h; exact h
  | succ f ih =>
    intro d x y h
    unfold run
    split
    · rename_i hm
      have h1 := ih d (x + 1) (y + 1) (h.m hm)
      have e1 : x + (run A B f (x + 1) (y + 1) + 1) = x + 1 + run A B f (x + 1) (y + 1) := by omega
      have e2 : y + (run A B f (x + 1) (y + 1) + 1) = y + 1 + run A B f (x + 1) (y + 1) := by omega
      rw [e1, e2]; exact h1
    · exact h
theorem snk_rch {d x y : Nat} {k : Int} (h : Rch A B d x y) (hk : (x : Int) - y = k) : Rch A B d (snk A B x k) ((snk A B x k : Int) - k).toNat := by
  have h1 := run_rch (A.length - x) d x y h
  have e : ((x : Int) - k).toNat = y := by omega
  unfold snk
  rw [e]
  have e2 : (((x + run A B (A.length - x) x y : Nat) : Int) - k).toNat = y + run A B (A.length - x) x y := by omega
  rw [e2]; exact h1
theorem V_rch : ∀ (d : Nat) (k : Int), -(d : Int) ≤ k → k ≤ d → (d + k) % 2 = 0 → Rch A B d (V A B d k) ((V A B d k : Int) - k).toNat := by
  intro d
  induction d with
  | zero =>
    intro k h1 h2 _
    have hk : k = 0 := by omega
    subst hk
    exact snk_rch (Rch.z) rfl
  | succ d ih =>
    intro k h1 h2 h3
    rw [V_eq]
    have hb := frm_diag A B (d + 1) k h1 h2 h3
    refine snk_rch (y := ((frm A B (d + 1) k : Int) - k).toNat) ?_ (by omega)
    simp only [frm] at hb ⊢
    split
    · rename_i hc
      have hr := ih (k + 1) (by omega) (by rcases hc with hc | hc <;> omega) (by omega)
      have hv := V_diag A B d (k + 1) (by omega) (by rcases hc with hc | hc <;> omega) (by omega)
      have e : ((V A B d (k + 1) : Int) - k).toNat = ((V A B d (k + 1) : Int) - (k + 1)).toNat + 1 := by omega
      rw [e]
      exact hr.b
    · rename_i hc
      have hr := ih (k - 1) (by omega) (by omega) (by omega)
      have hv := V_diag A B d (k - 1) (by omega) (by omega) (by omega)
      have e : (((V A B d (k - 1) + 1 : Nat) : Int) - k).toNat = ((V A B d (k - 1) : Int) - (k - 1)).toNat := by omega
      rw [e]
      exact hr.a
theorem V_top {d x y : Nat} (h : Rch A B d x y) : x ≤ V A B d ((x : Int) - y) := by
  induction h with
  | z => omega
  | @m d x y hr hm ih =>
    have hd := hr.diag
    have e : ((x + 1 : Nat) : Int) - ((y + 1 : Nat) : Int) = (x : Int) - y := by omega
    rw [e]
    rcases Nat.lt_or_ge x (V A B d ((x : Int) - y)) with hlt | hge
    · exact hlt
    · have hx : V A B d ((x : Int) - y) = x := by omega
      have hf := frm_diag A B d ((x : Int) - y) hd.1 hd.2.1 (by omega)
      have he := snk_end (A := A) (B := B) (frm A B d ((x : Int) - y)) ((x : Int) - y) hf.1
      rw [← V_eq, hx] at he
      have ey : ((x : Int) - ((x : Int) - y)).toNat = y := by omega
      rw [ey, hm] at he
      cases he
  | @a d x y hr ih =>
    have hd := hr.diag
    have e : ((x + 1 : Nat) : Int) - (y : Int) = (x : Int) - y + 1 := by omega
    rw [e, V_eq]
    refine Nat.le_trans ?_ (snk_ge _ _ _ _)
    simp only [frm]
    have e1 : (x : Int) - y + 1 - 1 = (x : Int) - y := by omega
    rw [e1]
    split
    · rename_i hc
      rcases hc with hc | ⟨_, hc⟩
      · omega
      · omega
    · omega
  | @b d x y hr ih =>
    have hd := hr.diag
    have e : (x : Int) - ((y + 1 : Nat) : Int) = (x : Int) - y - 1 := by omega
    rw [e, V_eq]
    refine Nat.le_trans ?_ (snk_ge _ _ _ _)
    simp only [frm]
    have e1 : (x : Int) - y - 1 + 1 = (x : Int) - y := by omega
    rw [e1]
    split
    · exact ih
    · rename_i hc
      have : ¬ (V A B d ((x : Int) - y - 1 - 1) < V A B d ((x : Int) - y)) := fun h => hc (.inr ⟨by omega, h⟩)
      omega
end
section
variable (a b : List ByteArray)
/-- How many may stay of the last x lines of a and the last y of b. -/
def Sh (x y : Nat) : Nat := lcs (a.drop (a.length - x)) (b.drop (b.length - y))
theorem drop_more (l : List ByteArray) (x : Nat) (hx : x < l.length) : l.drop (l.length - (x + 1)) = l[l.length - 1 - x] :: l.drop (l.length - x) := by
  have h : l.length - (x + 1) < l.length := by omega
  rw [List.drop_eq_getElem_cons h]
  have e1 : l.length - (x + 1) + 1 = l.length - x := by omega
  have e2 : l.length - (x + 1) = l.length - 1 - x := by omega
  rw [e1]
  congr 1
  congr 1
theorem drop_sub (l : List ByteArray) (x : Nat) : l.drop (l.length - x) <+ l.drop (l.length - (x + 1)) := List.drop_sublist_drop_left l (by omega)
theorem rev_get (l : List ByteArray) (x : Nat) (hx : x < l.length) : l.reverse[x]? = some l[l.length - 1 - x] := by
  rw [List.getElem?_reverse hx, List.getElem?_eq_getElem (by omega)]
theorem Sh_le (x y : Nat) : Sh a b x y ≤ x ∧ Sh a b x y ≤ y := by
  have h1 := lcs_le_left (a.drop (a.length - x)) (b.drop (b.length - y))
  have h2 := lcs_le_right (a.drop (a.length - x)) (b.drop (b.length - y))
  rw [List.length_drop] at h1 h2
  unfold Sh
  omega
theorem rch_le {d x y : Nat} (h : Rch a.reverse b.reverse d x y) : x + y ≤ d + 2 * Sh a b x y := by
  induction h with
  | z => omega
  | @m d x y hr hm ih =>
    obtain ⟨hx, hy, he⟩ := mtl_iff.1 hm
    rw [List.length_reverse] at hx hy
    have e1 := rev_get a x hx
    have e2 := rev_get b y hy
    rw [List.getElem?_eq_getElem (by rw [List.length_reverse]; exact hx)] at e1
    rw [List.getElem?_eq_getElem (by rw [List.length_reverse]; exact hy)] at e2
    rw [Option.some.inj e1, Option.some.inj e2] at he
    have : Sh a b (x + 1) (y + 1) = Sh a b x y + 1 := by
      unfold Sh
      rw [drop_more a x hx, drop_more b y hy, lcs_cons, if_pos he]
    omega
  | @a d x y hr ih =>
    have : Sh a b x y ≤ Sh a b (x + 1) y := lcs_mono (drop_sub a x) (List.Sublist.refl _)
    omega
  | @b d x y hr ih =>
    have : Sh a b x y ≤ Sh a b x (y + 1) := lcs_mono (List.Sublist.refl _) (drop_sub b y)
    omega
theorem rch_of : ∀ (n x y : Nat), x + y ≤ n → x ≤ a.length → y ≤ b.length → Rch a.reverse b.reverse (x + y - 2 * Sh a b x y) x y := by
  intro n
  induction n with
  | zero =>
    intro x y h _ _
    have hx : x = 0 := by omega
    have hy : y = 0 := by omega
    subst hx; subst hy
    simp only [Nat.zero_add, Nat.zero_sub]
    exact .z
  | succ n ih =>
    intro x y h hx hy
    have hs := Sh_le a b x y
    cases x with
    | zero =>
      cases y with
      | zero =>
        simp only [Nat.zero_add, Nat.zero_sub]
        exact .z
      | succ y =>
        have h0 := ih 0 y (by omega) (by omega) (by omega)
        have hs0 := Sh_le a b 0 y
        have e : 0 + (y + 1) - 2 * Sh a b 0 (y + 1) = (0 + y - 2 * Sh a b 0 y) + 1 := by omega
        rw [e]
        exact h0.b
    | succ x =>
      cases y with
      | zero =>
        have h0 := ih x 0 (by omega) (by omega) (by omega)
        have hs0 := Sh_le a b x 0
        have e : x + 1 + 0 - 2 * Sh a b (x + 1) 0 = (x + 0 - 2 * Sh a b x 0) + 1 := by omega
        rw [e]
        exact h0.a
      | succ y =>
        have hA := drop_more a x (by omega)
        have hB := drop_more b y (by omega)
        have hL : Sh a b (x + 1) (y + 1) = if a[a.length - 1 - x] = b[b.length - 1 - y] then Sh a b x y + 1 else max (Sh a b x (y + 1)) (Sh a b (x + 1) y) := by
          unfold Sh
          rw [hA, hB, lcs_cons]
        by_cases he : a[a.length - 1 - x] = b[b.length - 1 - y]
        · rw [if_pos he] at hL
          have h0 := ih x y (by omega) (by omega) (by omega)
          have hs0 := Sh_le a b x y
          have hm : mtl a.reverse b.reverse x y = true := by
            unfold mtl
            rw [rev_get a x (by omega), rev_get b y (by omega), he]
            simp
          have e : x + 1 + (y + 1) - 2 * Sh a b (x + 1) (y + 1) = x + y - 2 * Sh a b x y := by omega
          rw [e]
          exact Rch.m h0 hm
        · rw [if_neg he] at hL
          rcases Nat.le_total (Sh a b x (y + 1)) (Sh a b (x + 1) y) with hm | hm
          · have h0 := ih (x + 1) y (by omega) (by omega) (by omega)
            have hs0 := Sh_le a b (x + 1) y
            have e : x + 1 + (y + 1) - 2 * Sh a b (x + 1) (y + 1) = (x + 1 + y - 2 * Sh a b (x + 1) y) + 1 := by omega
            rw [e]
            exact h0.b
          · have h0 := ih x (y + 1) (by omega) (by omega) (by omega)
            have hs0 := Sh_le a b x (y + 1)
            have e : x + 1 + (y + 1) - 2 * Sh a b (x + 1) (y + 1) = (x + (y + 1) - 2 * Sh a b x (y + 1)) + 1 := by omega
            rw [e]
            exact h0.a
theorem Sh_diag (x y : Nat) : Sh a b (x + 1) (y + 1) ≤ Sh a b x y + 1 := by
  unfold Sh
  by_cases hx : x < a.length
  · rw [drop_more a x hx]
    by_cases hy : y < b.length
    · rw [drop_more b y hy]
      exact lcs_cons_cons_le _ _ _ _
    · have e : b.length - (y + 1) = b.length - y := by omega
      rw [e]
      exact lcs_cons_le _ _ _
  · have e : a.length - (x + 1) = a.length - x := by omega
    rw [e]
    by_cases hy : y < b.length
    · rw [drop_more b y hy]
      exact lcs_cons_le' _ _ _
    · have e : b.length - (y + 1) = b.length - y := by omega
      rw [e]
      omega
theorem Sh_diagN (t x y : Nat) : Sh a b (x + t) (y + t) ≤ Sh a b x y + t := by
  induction t with
  | zero => exact Nat.le_refl _
  | succ t ih =>
    have := Sh_diag a b (x + t) (y + t)
    have e1 : x + (t + 1) = x + t + 1 := by omega
    have e2 : y + (t + 1) = y + t + 1 := by omega
    rw [e1, e2]
    omega
theorem rch_more {A B : List ByteArray} (t : Nat) : ∀ {d x y : Nat}, Rch A B d x y → Rch A B (d + 2 * t) (x + t) (y + t) := by
  induction t with
  | zero => intro d x y h; exact h
  | succ t ih =>
    intro d x y h
    have h1 := (ih h).a.b
    have e1 : d + 2 * (t + 1) = d + 2 * t + 1 + 1 := by omega
    have e2 : x + (t + 1) = x + t + 1 := by omega
    have e3 : y + (t + 1) = y + t + 1 := by omega
    rw [e1, e2, e3]
    exact h1
/-- Does one come to the last x and y by d changes: the row of d tells it. -/
theorem comes_iff (d x y : Nat) (hx : x ≤ a.length) (hy : y ≤ b.length) (h1 : -(d : Int) ≤ (x : Int) - y) (h2 : (x : Int) - y ≤ d) (h3 : (d + x + y) % 2 = 0) :
    x ≤ V a.reverse b.reverse d ((x : Int) - y) ↔ x + y ≤ d + 2 * Sh a b x y := by
  constructor
  · intro h
    have hr := V_rch (A := a.reverse) (B := b.reverse) d ((x : Int) - y) h1 h2 (by omega)
    have hl := rch_le a b hr
    have hv := V_diag a.reverse b.reverse d ((x : Int) - y) h1 h2 (by omega)
    obtain ⟨t, ht⟩ : ∃ t, V a.reverse b.reverse d ((x : Int) - y) = x + t := ⟨_, (Nat.add_sub_of_le h).symm⟩
    rw [ht] at hl hv
    have ey : (((x + t : Nat) : Int) - ((x : Int) - y)).toNat = y + t := by omega
    rw [ey] at hl
    have := Sh_diagN a b t x y
    omega
  · intro h
    have hr := rch_of a b (x + y) x y (Nat.le_refl _) hx hy
    have hs := Sh_le a b x y
    have hp := hr.diag
    obtain ⟨t, ht⟩ : ∃ t, d = x + y - 2 * Sh a b x y + 2 * t := ⟨(d - (x + y - 2 * Sh a b x y)) / 2, by omega⟩
    have hv := V_top (rch_more t hr)
    rw [← ht] at hv
    have e : ((x + t : Nat) : Int) - ((y + t : Nat) : Int) = (x : Int) - y := by omega
    rw [e] at hv
    omega
theorem Sh_all : Sh a b a.length b.length = lcs a b := by
  unfold Sh
  rw [Nat.sub_self, Nat.sub_self, List.drop_zero, List.drop_zero]
/-- The fewest changes. -/
def cost : Nat := a.length + b.length - 2 * lcs a b
theorem lcs_two : lcs a b ≤ a.length ∧ lcs a b ≤ b.length := ⟨lcs_le_left a b, lcs_le_right a b⟩
theorem stop_iff (d : Nat) : stop a.reverse b.reverse d = true ↔ (-(d : Int) ≤ (a.length : Int) - b.length ∧ (a.length : Int) - b.length ≤ d ∧ (d + a.length + b.length) % 2 = 0 ∧ cost a b ≤ d) := by
  unfold stop
  rw [decide_eq_true_iff, List.length_reverse, List.length_reverse]
  constructor
  · rintro ⟨h1, h2, h3, h4⟩
    have := (comes_iff a b d a.length b.length (Nat.le_refl _) (Nat.le_refl _) h1 h2 h3).1 h4
    rw [Sh_all] at this
    exact ⟨h1, h2, h3, by unfold cost; omega⟩
  · rintro ⟨h1, h2, h3, h4⟩
    refine ⟨h1, h2, h3, (comes_iff a b d a.length b.length (Nat.le_refl _) (Nat.le_refl _) h1 h2 h3).2 ?_⟩
    have := lcs_two a b
    unfold cost at h4
    rw [Sh_all]
    omega
theorem least_rev : least a.reverse b.reverse = some (cost a b) := by
  unfold least
  rw [List.find?_range_eq_some]
  have h2 := lcs_two a b
  refine ⟨(stop_iff a b _).2 ?_, ?_, ?_⟩
  · unfold cost; omega
  · rw [List.mem_range, List.length_reverse, List.length_reverse]
    unfold cost; omega
  · intro j hj
    have : stop a.reverse b.reverse j = false := by
      cases hs : stop a.reverse b.reverse j with
      | false => rfl
      | true => have := (stop_iff a b j).1 hs; omega
    simp [this]
theorem rows_length (A B : List ByteArray) (D : Nat) : (rows A B D).length = D + 1 := by simp [rows]
end
end Go.Proofs.Ythplelgkneipjaa.Q
