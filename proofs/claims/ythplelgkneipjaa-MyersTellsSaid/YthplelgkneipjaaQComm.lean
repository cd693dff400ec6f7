/- How many lines two lists have in common: the plain theory of it. No program in sight. -/
set_option linter.unusedVariables false
set_option linter.unusedSimpArgs false
instance lawfulBytes : LawfulBEq ByteArray where
  eq_of_beq := by
    intro a b h
    cases a; cases b
    exact congrArg ByteArray.mk (eq_of_beq h)
  rfl := by
    intro a
    cases a
    exact beq_self_eq_true (α := Array UInt8) _
namespace Go.Proofs.Ythplelgkneipjaa.Q

/-- How many of b's lines are among a's, each of a's taken once. -/
def comm (a : List ByteArray) : List ByteArray → Nat
  | [] => 0
  | y :: ys => if y ∈ a then comm (a.erase y) ys + 1 else comm a ys

theorem comm_cons (a : List ByteArray) (y : ByteArray) (ys : List ByteArray) : comm a (y :: ys) = if y ∈ a then comm (a.erase y) ys + 1 else comm a ys := rfl
theorem comm_nil (a : List ByteArray) : comm a [] = 0 := rfl
theorem comm_nil_left (b : List ByteArray) : comm [] b = 0 := by
  induction b with
  | nil => rfl
  | cons y ys ih => rw [comm_cons, if_neg (by simp), ih]
theorem comm_le (b : List ByteArray) : ∀ a, comm a b ≤ b.length := by
  induction b with
  | nil => intro a; simp [comm]
  | cons y ys ih =>
    intro a
    rw [comm_cons]
    split
    · have := ih (a.erase y); simp only [List.length_cons]; omega
    · have := ih a; simp only [List.length_cons]; omega
theorem comm_perm_left (b : List ByteArray) : ∀ {a a' : List ByteArray}, a.Perm a' → comm a b = comm a' b := by
  induction b with
  | nil => intro a a' h; rfl
  | cons y ys ih =>
    intro a a' h
    rw [comm_cons, comm_cons, ih (h.erase y), ih h]
    by_cases hm : y ∈ a
    · rw [if_pos hm, if_pos (h.mem_iff.1 hm)]
    · rw [if_neg hm, if_neg (fun hh => hm (h.mem_iff.2 hh))]
/-- A line more on the left side. -/
theorem comm_cons_left (b : List ByteArray) : ∀ (a : List ByteArray) (y : ByteArray), comm (y :: a) b = comm a b + if a.count y < b.count y then 1 else 0 := by
  induction b with
  | nil => intro a y; simp [comm]
  | cons x xs ih =>
    intro a y
    by_cases hxy : x = y
    · subst hxy
      rw [comm_cons, if_pos (by simp), List.erase_cons_head, comm_cons]
      by_cases hm : x ∈ a
      · rw [if_pos hm]
        have hp : a.Perm (x :: a.erase x) := List.perm_cons_erase hm
        rw [comm_perm_left xs hp, ih]
        have hc : a.count x = (a.erase x).count x + 1 := by
          rw [List.count_erase_self]
          have := List.count_pos_iff.2 hm
          omega
        have hc2 : (x :: xs).count x = xs.count x + 1 := List.count_cons_self
        rw [hc, hc2]
        split <;> split <;> omega
      · rw [if_neg hm]
        have h0 : a.count x = 0 := List.count_eq_zero.2 hm
        have hc2 : (x :: xs).count x = xs.count x + 1 := List.count_cons_self
        rw [h0, hc2, if_pos (by omega)]
    · have hne : (y == x) = false := by
        rw [beq_eq_false_iff_ne]; exact fun h => hxy h.symm
      have hc : (x :: xs).count y = xs.count y := by
        rw [List.count_cons]; simp [hxy]
      rw [comm_cons, comm_cons, hc]
      by_cases hm : x ∈ a
      · rw [if_pos (List.mem_cons_of_mem _ hm), if_pos hm, List.erase_cons_tail (by simpa using hne), ih]
        rw [List.count_erase_of_ne (fun h => hxy h.symm)]
        omega
      · rw [if_neg (by simp only [List.mem_cons, not_or]; exact ⟨hxy, hm⟩), if_neg hm, ih]

theorem comm_self (a : List ByteArray) : comm a a = a.length := by
  induction a with
  | nil => rfl
  | cons y ys ih => rw [comm_cons, if_pos (by simp), List.erase_cons_head, ih]; rfl
theorem comm_cons_both (a b : List ByteArray) (y : ByteArray) : comm (y :: a) (y :: b) = comm a b + 1 := by
  rw [comm_cons, if_pos (by simp), List.erase_cons_head]
theorem comm_perm_right (a : List ByteArray) {b b' : List ByteArray} (h : b.Perm b') : comm a b = comm a b' := by
  induction a with
  | nil => rw [comm_nil_left, comm_nil_left]
  | cons y ys ih => rw [comm_cons_left, comm_cons_left, ih, h.count_eq]
theorem comm_symm (a b : List ByteArray) : comm a b = comm b a := by
  induction b generalizing a with
  | nil => rw [comm_nil, comm_nil_left]
  | cons y ys ih =>
    rw [comm_cons, comm_cons_left]
    by_cases hm : y ∈ a
    · rw [if_pos hm]
      have hp : a.Perm (y :: a.erase y) := List.perm_cons_erase hm
      rw [comm_perm_right ys hp, comm_symm_aux ys (a.erase y) y, ← ih]
      have hc : a.count y = (a.erase y).count y + 1 := by
        rw [List.count_erase_self]
        have := List.count_pos_iff.2 hm
        omega
      rw [hc]
      split <;> split <;> omega
    · rw [if_neg hm, ih]
      have h0 : a.count y = 0 := List.count_eq_zero.2 hm
      rw [h0, if_neg (by omega)]
      rfl
where
  comm_symm_aux (a b : List ByteArray) (y : ByteArray) : comm a (y :: b) = comm a b + if b.count y < a.count y then 1 else 0 := by
    induction a generalizing b with
    | nil => simp [comm_nil_left]
    | cons x xs ih =>
      rw [comm_cons_left, comm_cons_left, ih]
      by_cases hxy : x = y
      · subst hxy
        have h1 : (x :: b).count x = b.count x + 1 := List.count_cons_self
        have h2 : (x :: xs).count x = xs.count x + 1 := List.count_cons_self
        rw [h1, h2]
        split <;> split <;> split <;> split <;> omega
      · have hyx : ¬ y = x := fun h => hxy h.symm
        have h1 : (y :: b).count x = b.count x := by rw [List.count_cons]; simp [hyx]
        have h2 : (x :: xs).count y = xs.count y := by rw [List.count_cons]; simp [hxy]
        rw [h1, h2]
        omega
theorem comm_cons_right (a b : List ByteArray) (y : ByteArray) : comm a (y :: b) = comm a b + if b.count y < a.count y then 1 else 0 := by
  rw [comm_symm, comm_cons_left, comm_symm b a]
theorem comm_le_left (a b : List ByteArray) : comm a b ≤ a.length := by rw [comm_symm]; exact comm_le a b
theorem comm_not_mem (a b : List ByteArray) (y : ByteArray) (h : y ∉ b) : comm (y :: a) b = comm a b := by
  rw [comm_cons_left, List.count_eq_zero.2 h, if_neg (by omega)]; rfl
/-- The same lines, each as often. -/
theorem comm_full (a : List ByteArray) : ∀ b : List ByteArray, comm a b = a.length ↔ ∀ x, a.count x ≤ b.count x := by
  induction a with
  | nil => intro b; simp [comm_nil_left]
  | cons y ys ih =>
    intro b
    rw [comm_cons_left]
    have hle := comm_le_left ys b
    constructor
    · intro h
      have h1 : comm ys b = ys.length ∧ ys.count y < b.count y := by
        simp only [List.length_cons] at h
        split at h
        · exact ⟨by omega, by assumption⟩
        · omega
      intro x
      have h2 := (ih b).1 h1.1 x
      by_cases hxy : y = x
      · subst hxy; rw [List.count_cons_self]; omega
      · rw [List.count_cons]; simp [hxy]; exact h2
    · intro h
      have h1 : ∀ x, ys.count x ≤ b.count x := fun x => Nat.le_trans (List.count_le_count_cons) (h x)
      have h2 := h y
      rw [List.count_cons_self] at h2
      rw [(ih b).2 h1, if_pos (by omega)]
      rfl
theorem comm_zero (a : List ByteArray) : ∀ b : List ByteArray, comm a b = 0 ↔ ∀ x ∈ a, x ∉ b := by
  induction a with
  | nil => intro b; simp [comm_nil_left]
  | cons y ys ih =>
    intro b
    rw [comm_cons_left]
    constructor
    · intro h
      have h1 := (ih b).1 (by omega)
      have h2 : ¬ ys.count y < b.count y := by intro hh; rw [if_pos hh] at h; omega
      intro x hx
      rcases List.mem_cons.1 hx with rfl | hx
      · intro hb
        by_cases hm : x ∈ ys
        · exact h1 x hm hb
        · have : ys.count x = 0 := List.count_eq_zero.2 hm
          have := List.count_pos_iff.2 hb
          omega
      · exact h1 x hx
    · intro h
      have h1 := (ih b).2 (fun x hx => h x (List.mem_cons_of_mem _ hx))
      have h2 : b.count y = 0 := List.count_eq_zero.2 (h y (by simp))
      rw [h1, h2, if_neg (by omega)]
theorem comm_append_left (c : ByteArray) (b : List ByteArray) (h : c ∉ b) (n : Nat) (a : List ByteArray) : comm (a ++ List.replicate n c) b = comm a b := by
  rw [comm_perm_left b (List.perm_append_comm (l₁ := a) (l₂ := List.replicate n c))]
  induction n with
  | zero => rfl
  | succ n ih => rw [List.replicate_succ, List.cons_append, comm_not_mem _ _ _ h, ih]
theorem comm_snoc (a b : List ByteArray) (x : ByteArray) : comm (a ++ [x]) b = comm a b + if a.count x < b.count x then 1 else 0 := by
  rw [comm_perm_left b (List.perm_append_comm (l₁ := a) (l₂ := [x]))]
  exact comm_cons_left b a x
theorem comm_twice (a : List ByteArray) : ∀ b : List ByteArray, comm (a ++ a) (b ++ b) = 2 * comm a b := by
  induction a with
  | nil => intro b; simp [comm_nil_left]
  | cons y ys ih =>
    intro b
    have hp : ((y :: ys) ++ (y :: ys)).Perm (y :: y :: (ys ++ ys)) := by
      rw [List.cons_append]
      exact List.Perm.cons y List.perm_middle
    rw [comm_perm_left _ hp, comm_cons_left, comm_cons_left, ih, comm_cons_left]
    have h1 : (y :: (ys ++ ys)).count y = 2 * ys.count y + 1 := by rw [List.count_cons_self, List.count_append]; omega
    have h2 : (ys ++ ys).count y = 2 * ys.count y := by rw [List.count_append]; omega
    have h3 : (b ++ b).count y = 2 * b.count y := by rw [List.count_append]; omega
    rw [h1, h2, h3]
    split <;> split <;> split <;> omega

/-- The score. -/
def score (a b : List ByteArray) : Int := if a.length + b.length = 0 then 100 else 200 * (comm a b : Int) / ((a.length + b.length : Nat) : Int)
theorem score_symm (a b : List ByteArray) : score a b = score b a := by
  unfold score; rw [comm_symm a b, Nat.add_comm]
theorem score_perm {a a' b b' : List ByteArray} (ha : a.Perm a') (hb : b.Perm b') : score a b = score a' b' := by
  unfold score; rw [comm_perm_left b ha, comm_perm_right a' hb, ha.length_eq, hb.length_eq]
theorem score_range (a b : List ByteArray) : 0 ≤ score a b ∧ score a b ≤ 100 := by
  unfold score
  split
  · omega
  · rename_i h
    have h1 := comm_le_left a b
    have h2 := comm_le b a
    constructor
    · exact Int.ediv_nonneg (by omega) (by omega)
    · exact Int.le_of_lt_add_one (Int.ediv_lt_of_lt_mul (by omega) (by omega))
theorem score_full (a b : List ByteArray) : score a b = 100 ↔ ∀ x, a.count x = b.count x := by
  have h1 := comm_le_left a b
  have h2 := comm_le b a
  unfold score
  constructor
  · intro h
    split at h
    · rename_i h0
      have ha : a = [] := List.eq_nil_of_length_eq_zero (by omega)
      have hb : b = [] := List.eq_nil_of_length_eq_zero (by omega)
      subst ha hb; intro x; rfl
    · rename_i h0
      have h3 : 100 * ((a.length + b.length : Nat) : Int) ≤ 200 * (comm a b : Int) := by
        have := Int.ediv_mul_le (200 * (comm a b : Int)) (b := ((a.length + b.length : Nat) : Int)) (by omega)
        rw [h] at this
        exact this
      have h4 := (comm_full a b).1 (by omega)
      have h5 := (comm_full b a).1 (by rw [comm_symm]; omega)
      intro x
      have := h4 x
      have := h5 x
      omega
  · intro h
    have h4 := (comm_full a b).2 (fun x => Nat.le_of_eq (h x))
    have h5 := (comm_full b a).2 (fun x => Nat.le_of_eq (h x).symm)
    rw [comm_symm] at h5
    split
    · rfl
    · rename_i h0
      rw [h4]
      have h6 : 200 * (a.length : Int) = 100 * ((a.length + b.length : Nat) : Int) := by omega
      rw [h6, Int.mul_ediv_cancel _ (by omega)]
theorem score_twice (a b : List ByteArray) : score (a ++ a) (b ++ b) = score a b := by
  unfold score
  rw [comm_twice]
  by_cases h : a.length + b.length = 0
  · rw [if_pos h, if_pos (by simp only [List.length_append]; omega)]
  · rw [if_neg h, if_neg (by simp only [List.length_append]; omega)]
    have h1 : (200 * ((2 * comm a b : Nat) : Int)) = 2 * (200 * (comm a b : Int)) := by omega
    have h2 : (((a ++ a).length + (b ++ b).length : Nat) : Int) = 2 * ((a.length + b.length : Nat) : Int) := by simp only [List.length_append]; omega
    rw [h1, h2, Int.mul_ediv_mul_of_pos _ _ (by omega)]
theorem score_more (a b : List ByteArray) (c : ByteArray) (n : Nat) (h : c ∉ b) : score (a ++ List.replicate n c) b ≤ score a b := by
  have hr := score_range (a ++ List.replicate n c) b
  unfold score at *
  rw [comm_append_left c b h] at *
  by_cases h0 : a.length + b.length = 0
  · rw [if_pos h0]; exact hr.2
  · rw [if_neg h0]
    have h3 : ¬ ((a ++ List.replicate n c).length + b.length = 0) := by simp only [List.length_append]; omega
    rw [if_neg h3]
    have h1 : (0 : Int) < ((a.length + b.length : Nat) : Int) := by omega
    have h2 : ((a.length + b.length : Nat) : Int) ≤ (((a ++ List.replicate n c).length + b.length : Nat) : Int) := by simp only [List.length_append]; omega
    refine Int.le_ediv_of_mul_le h1 ?_
    refine Int.le_trans (Int.mul_le_mul_of_nonneg_left h2 (Int.ediv_nonneg (by omega) (by omega))) ?_
    exact Int.ediv_mul_le _ (by omega)
end Go.Proofs.Ythplelgkneipjaa.Q
