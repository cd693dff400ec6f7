/- Texts of this claim, joined: QComm, Pxf48, QPa, EShelf, EOrder, Pxf47, Pxf34, ECompare, EBetter, Rng, QRows, EIter, ERows, ESplitC, HSet, EFiles, HMap, ECommon, Pxf16, EPairs. -/
import Derived.Test.YtcgnkbdfoaiaiaaMRenameOrder1
import Derived.OpenShut
import Derived.Lib.Join
import Derived.Lib.SplitLaws
import Derived.Test.YtcgnkbdfoaiaiaaMRenameOrder3
import Derived.Shelf.Small.Bits
import Derived.Shelf.Small.Wraps
import Derived.Shelf.Strconv.Itoa0
import Derived.Shelf.Strings.Search1
import Derived.Shelf.Strings.Search2
import Derived.Shelf.Strings.Search3
import Derived.Shelf.LaysM
import Derived.Shelf.Strings.Shaped
import Derived.Ground.Names2Prog
import Derived.Shelf.Slices.SearchI
import Derived.Shelf.SlGeneric
import Derived.Shelf.SlSortCmp.NoneTotal
import Derived.Ground.SlsfProg
import Derived.Test.YtcgnkbdfoaiaiaaProg
import Derived.Test.YtcgnkbdfoaiaiaaWEqStruct
import Derived.WalkMore
import Derived.IntWalk
import Derived.Lib.Hide
import Derived.RangeFuncNested
import Derived.RangeFuncBound
import Derived.Lib.Bytealg
import Derived.RangeFuncCalls
import Derived.RangeFuncLeaves
import Derived.Shelf.Abstract
import Derived.Shelf.RegionOpen
import Derived.WalkKit
import Derived.OwnWalkIn
import Derived.TacticsInMore
import Derived.LoopNIn
import Derived.LoopIn
import Derived.Maps.AppendAt
import Derived.RangeFuncBox
import Derived.Outline
import Derived.Maps.OwnSet
import Derived.Maps.OwnOps
import Derived.Maps.Views
import Derived.Below
section
/- How many lines two lists have in common: the plain theory of it. No program in sight. -/
set_option linter.unusedVariables false
set_option linter.unusedSimpArgs false
instance lawfulBytes : LawfulBEq ByteArray where
  eq_of_beq := by
    intro a b h
    cases a; cases b
    exact congrArg ByteArray.mk (eq_of_beq h)
  rfl := by
    intro a
    cases a
    exact beq_self_eq_true (α := Array UInt8) _
namespace Go.Proofs.Ytcgnkbdfoaiaiaa.Q

/-- How many of b's lines are among a's, each of a's taken once. -/
def comm (a : List ByteArray) : List ByteArray → Nat
  | [] => 0
  | y :: ys => if y ∈ a then comm (a.erase y) ys + 1 else comm a ys

theorem comm_cons (a : List ByteArray) (y : ByteArray) (ys : List ByteArray) : comm a (y :: ys) = if y ∈ a then comm (a.erase y) ys + 1 else comm a ys := rfl
theorem comm_nil (a : List ByteArray) : comm a [] = 0 := rfl
theorem comm_nil_left (b : List ByteArray) : comm [] b = 0 := by
  induction b with
  | nil => rfl
  | cons y ys ih => rw [comm_cons, if_neg (by simp), ih]
theorem comm_le (b : List ByteArray) : ∀ a, comm a b ≤ b.length := by
  induction b with
  | nil => intro a; simp [comm]
  | cons y ys ih =>
    intro a
    rw [comm_cons]
    split
    · have := ih (a.erase y); simp only [List.length_cons]; omega
    · have := ih a; simp only [List.length_cons]; omega
theorem comm_perm_left (b : List ByteArray) : ∀ {a a' : List ByteArray}, a.Perm a' → comm a b = comm a' b := by
  induction b with
  | nil => intro a a' h; rfl
  | cons y ys ih =>
    intro a a' h
    rw [comm_cons, comm_cons, ih (h.erase y), ih h]
    by_cases hm : y ∈ a
    · rw [if_pos hm, if_pos (h.mem_iff.1 hm)]
    · rw [if_neg hm, if_neg (fun hh => hm (h.mem_iff.2 hh))]
/-- A line more on the left side. -/
theorem comm_cons_left (b : List ByteArray) : ∀ (a : List ByteArray) (y : ByteArray), comm (y :: a) b = comm a b + if a.count y < b.count y then 1 else 0 := by
  induction b with
  | nil => intro a y; simp [comm]
  | cons x xs ih =>
    intro a y
    by_cases hxy : x = y
    · subst hxy
      rw [comm_cons, if_pos (by simp), List.erase_cons_head, comm_cons]
      by_cases hm : x ∈ a
      · rw [if_pos hm]
        have hp : a.Perm (x :: a.erase x) := List.perm_cons_erase hm
        rw [comm_perm_left xs hp, ih]
        have hc : a.count x = (a.erase x).count x + 1 := by
          rw [List.count_erase_self]
          have := List.count_pos_iff.2 hm
          omega
        have hc2 : (x :: xs).count x = xs.count x + 1 := List.count_cons_self
        rw [hc, hc2]
        split <;> split <;> omega
      · rw [if_neg hm]
        have h0 : a.count x = 0 := List.count_eq_zero.2 hm
        have hc2 : (x :: xs).count x = xs.count x + 1 := List.count_cons_self
        rw [h0, hc2, if_pos (by omega)]
    · have hne : (y == x) = false := by
        rw [beq_eq_false_iff_ne]; exact fun h => hxy h.symm
      have hc : (x :: xs).count y = xs.count y := by
        rw [List.count_cons]; simp [hxy]
      rw [comm_cons, comm_cons, hc]
      by_cases hm : x ∈ a
      · rw [if_pos (List.mem_cons_of_mem _ hm), if_pos hm, List.erase_cons_tail (by simpa using hne), ih]
        rw [List.count_erase_of_ne (fun h => hxy h.symm)]
        omega
      · rw [if_neg (by simp only [List.mem_cons, not_or]; exact ⟨hxy, hm⟩), if_neg hm, ih]

theorem comm_self (a : List ByteArray) : comm a a = a.length := by
  induction a with
  | nil => rfl
  | cons y ys ih => rw [comm_cons, if_pos (by simp), List.erase_cons_head, ih]; rfl
theorem comm_cons_both (a b : List ByteArray) (y : ByteArray) : comm (y :: a) (y :: b) = comm a b + 1 := by
  rw [comm_cons, if_pos (by simp), List.erase_cons_head]
theorem comm_perm_right (a : List ByteArray) {b b' : List ByteArray} (h : b.Perm b') : comm a b = comm a b' := by
  induction a with
  | nil => rw [comm_nil_left, comm_nil_left]
  | cons y ys ih => rw [comm_cons_left, comm_cons_left, ih, h.count_eq]
theorem comm_symm (a b : List ByteArray) : comm a b = comm b a := by
  induction b generalizing a with
  | nil => rw [comm_nil, comm_nil_left]
  | cons y ys ih =>
    rw [comm_cons, comm_cons_left]
    by_cases hm : y ∈ a
    · rw [if_pos hm]
      have hp : a.Perm (y :: a.erase y) := List.perm_cons_erase hm
      rw [comm_perm_right ys hp, comm_symm_aux ys (a.erase y) y, ← ih]
      have hc : a.count y = (a.erase y).count y + 1 := by
        rw [List.count_erase_self]
        have := List.count_pos_iff.2 hm
        omega
      rw [hc]
      split <;> split <;> omega
    · rw [if_neg hm, ih]
      have h0 : a.count y = 0 := List.count_eq_zero.2 hm
      rw [h0, if_neg (by omega)]
      rfl
where
  comm_symm_aux (a b : List ByteArray) (y : ByteArray) : comm a (y :: b) = comm a b + if b.count y < a.count y then 1 else 0 := by
    induction a generalizing b with
    | nil => simp [comm_nil_left]
    | cons x xs ih =>
      rw [comm_cons_left, comm_cons_left, ih]
      by_cases hxy : x = y
      · subst hxy
        have h1 : (x :: b).count x = b.count x + 1 := List.count_cons_self
        have h2 : (x :: xs).count x = xs.count x + 1 := List.count_cons_self
        rw [h1, h2]
        split <;> split <;> split <;> split <;> omega
      · have hyx : ¬ y = x := fun h => hxy h.symm
        have h1 : (y :: b).count x = b.count x := by rw [List.count_cons]; simp [hyx]
        have h2 : (x :: xs).count y = xs.count y := by rw [List.count_cons]; simp [hxy]
        rw [h1, h2]
        omega
theorem comm_cons_right (a b : List ByteArray) (y : ByteArray) : comm a (y :: b) = comm a b + if b.count y < a.count y then 1 else 0 := by
  rw [comm_symm, comm_cons_left, comm_symm b a]
theorem comm_le_left (a b : List ByteArray) : comm a b ≤ a.length := by rw [comm_symm]; exact comm_le a b
theorem comm_not_mem (a b : List ByteArray) (y : ByteArray) (h : y ∉ b) : comm (y :: a) b = comm a b := by
  rw [comm_cons_left, List.count_eq_zero.2 h, if_neg (by omega)]; rfl
/-- The same lines, each as often. -/
theorem comm_full (a : List ByteArray) : ∀ b : List ByteArray, comm a b = a.length ↔ ∀ x, a.count x ≤ b.count x := by
  induction a with
  | nil => intro b; simp [comm_nil_left]
  | cons y ys ih =>
    intro b
    rw [comm_cons_left]
    have hle := comm_le_left ys b
    constructor
    · intro h
      have h1 : comm ys b = ys.length ∧ ys.count y < b.count y := by
        simp only [List.length_cons] at h
        split at h
        · exact ⟨by omega, by assumption⟩
        · omega
      intro x
      have h2 := (ih b).1 h1.1 x
      by_cases hxy : y = x
      · subst hxy; rw [List.count_cons_self]; omega
      · rw [List.count_cons]; simp [hxy]; exact h2
    · intro h
      have h1 : ∀ x, ys.count x ≤ b.count x := fun x => Nat.le_trans (List.count_le_count_cons) (h x)
      have h2 := h y
      rw [List.count_cons_self] at h2
      rw [(ih b).2 h1, if_pos (by omega)]
      rfl
theorem comm_zero (a : List ByteArray) : ∀ b : List ByteArray, comm a b = 0 ↔ ∀ x ∈ a, x ∉ b := by
  induction a with
  | nil => intro b; simp [comm_nil_left]
  | cons y ys ih =>
    intro b
    rw [comm_cons_left]
    constructor
    · intro h
      have h1 := (ih b).1 (by omega)
      have h2 : ¬ ys.count y < b.count y := by intro hh; rw [if_pos hh] at h; omega
      intro x hx
      rcases List.mem_cons.1 hx with rfl | hx
      · intro hb
        by_cases hm : x ∈ ys
        · exact h1 x hm hb
        · have : ys.count x = 0 := List.count_eq_zero.2 hm
          have := List.count_pos_iff.2 hb
          omega
      · exact h1 x hx
    · intro h
      have h1 := (ih b).2 (fun x hx => h x (List.mem_cons_of_mem _ hx))
      have h2 : b.count y = 0 := List.count_eq_zero.2 (h y (by simp))
      rw [h1, h2, if_neg (by omega)]
theorem comm_append_left (c : ByteArray) (b : List ByteArray) (h : c ∉ b) (n : Nat) (a : List ByteArray) : comm (a ++ List.replicate n c) b = comm a b := by
  rw [comm_perm_left b (List.perm_append_comm (l₁ := a) (l₂ := List.replicate n c))]
  induction n with
  | zero => rfl
  | succ n ih => rw [List.replicate_succ, List.cons_append, comm_not_mem _ _ _ h, ih]
theorem comm_snoc (a b : List ByteArray) (x : ByteArray) : comm (a ++ [x]) b = comm a b + if a.count x < b.count x then 1 else 0 := by
  rw [comm_perm_left b (List.perm_append_comm (l₁ := a) (l₂ := [x]))]
  exact comm_cons_left b a x
theorem comm_twice (a : List ByteArray) : ∀ b : List ByteArray, comm (a ++ a) (b ++ b) = 2 * comm a b := by
  induction a with
  | nil => intro b; simp [comm_nil_left]
  | cons y ys ih =>
    intro b
    have hp : ((y :: ys) ++ (y :: ys)).Perm (y :: y :: (ys ++ ys)) := by
      rw [List.cons_append]
      exact List.Perm.cons y List.perm_middle
    rw [comm_perm_left _ hp, comm_cons_left, comm_cons_left, ih, comm_cons_left]
    have h1 : (y :: (ys ++ ys)).count y = 2 * ys.count y + 1 := by rw [List.count_cons_self, List.count_append]; omega
    have h2 : (ys ++ ys).count y = 2 * ys.count y := by rw [List.count_append]; omega
    have h3 : (b ++ b).count y = 2 * b.count y := by rw [List.count_append]; omega
    rw [h1, h2, h3]
    split <;> split <;> split <;> omega

/-- The score. -/
def score (a b : List ByteArray) : Int := if a.length + b.length = 0 then 100 else 200 * (comm a b : Int) / ((a.length + b.length : Nat) : Int)
theorem score_symm (a b : List ByteArray) : score a b = score b a := by
  unfold score; rw [comm_symm a b, Nat.add_comm]
theorem score_perm {a a' b b' : List ByteArray} (ha : a.Perm a') (hb : b.Perm b') : score a b = score a' b' := by
  unfold score; rw [comm_perm_left b ha, comm_perm_right a' hb, ha.length_eq, hb.length_eq]
theorem score_range (a b : List ByteArray) : 0 ≤ score a b ∧ score a b ≤ 100 := by
  unfold score
  split
  · omega
  · rename_i h
    have h1 := comm_le_left a b
    have h2 := comm_le b a
    constructor
    · exact Int.ediv_nonneg (by omega) (by omega)
    · exact Int.le_of_lt_add_one (Int.ediv_lt_of_lt_mul (by omega) (by omega))
theorem score_full (a b : List ByteArray) : score a b = 100 ↔ ∀ x, a.count x = b.count x := by
  have h1 := comm_le_left a b
  have h2 := comm_le b a
  unfold score
  constructor
  · intro h
    split at h
    · rename_i h0
      have ha : a = [] := List.eq_nil_of_length_eq_zero (by omega)
      have hb : b = [] := List.eq_nil_of_length_eq_zero (by omega)
      subst ha hb; intro x; rfl
    · rename_i h0
      have h3 : 100 * ((a.length + b.length : Nat) : Int) ≤ 200 * (comm a b : Int) := by
        have := Int.ediv_mul_le (200 * (comm a b : Int)) (b := ((a.length + b.length : Nat) : Int)) (by omega)
        rw [h] at this
        exact this
      have h4 := (comm_full a b).1 (by omega)
      have h5 := (comm_full b a).1 (by rw [comm_symm]; omega)
      intro x
      have := h4 x
      have := h5 x
      omega
  · intro h
    have h4 := (comm_full a b).2 (fun x => Nat.le_of_eq (h x))
    have h5 := (comm_full b a).2 (fun x => Nat.le_of_eq (h x).symm)
    rw [comm_symm] at h5
    split
    · rfl
    · rename_i h0
      rw [h4]
      have h6 : 200 * (a.length : Int) = 100 * ((a.length + b.length : Nat) : Int) := by omega
      rw [h6, Int.mul_ediv_cancel _ (by omega)]
theorem score_twice (a b : List ByteArray) : score (a ++ a) (b ++ b) = score a b := by
  unfold score
  rw [comm_twice]
  by_cases h : a.length + b.length = 0
  · rw [if_pos h, if_pos (by simp only [List.length_append]; omega)]
  · rw [if_neg h, if_neg (by simp only [List.length_append]; omega)]
    have h1 : (200 * ((2 * comm a b : Nat) : Int)) = 2 * (200 * (comm a b : Int)) := by omega
    have h2 : (((a ++ a).length + (b ++ b).length : Nat) : Int) = 2 * ((a.length + b.length : Nat) : Int) := by simp only [List.length_append]; omega
    rw [h1, h2, Int.mul_ediv_mul_of_pos _ _ (by omega)]
theorem score_more (a b : List ByteArray) (c : ByteArray) (n : Nat) (h : c ∉ b) : score (a ++ List.replicate n c) b ≤ score a b := by
  have hr := score_range (a ++ List.replicate n c) b
  unfold score at *
  rw [comm_append_left c b h] at *
  by_cases h0 : a.length + b.length = 0
  · rw [if_pos h0]; exact hr.2
  · rw [if_neg h0]
    have h3 : ¬ ((a ++ List.replicate n c).length + b.length = 0) := by simp only [List.length_append]; omega
    rw [if_neg h3]
    have h1 : (0 : Int) < ((a.length + b.length : Nat) : Int) := by omega
    have h2 : ((a.length + b.length : Nat) : Int) ≤ (((a ++ List.replicate n c).length + b.length : Nat) : Int) := by simp only [List.length_append]; omega
    refine Int.le_ediv_of_mul_le h1 ?_
    refine Int.le_trans (Int.mul_le_mul_of_nonneg_left h2 (Int.ediv_nonneg (by omega) (by omega))) ?_
    exact Int.ediv_mul_le _ (by omega)
end Go.Proofs.Ytcgnkbdfoaiaiaa.Q
end
section
/- Laid for this claim by hp.py, this session's program round the kit's print: functions of the program as plain Lean functions, the proofs that the code comes to their answers, and the rows of the laws. Not trusted: Lean checks it. -/
namespace Go.Proofs.Ytcgnkbdfoaiaiaa.P
open Go.RowKit Go.Proofs.YtcgnkbdfoaiaiaaW.PrintWords Go.Proofs.YtcgnkbdfoaiaiaaW.PrintLast Go.Proofs.YtcgnkbdfoaiaiaaW.PrintMore
attribute [local go_sem] max2_int min2_int max_two min_two max_three min_three max_four min_four   -- for this text's walks alone
set_option linter.unusedVariables false
set_option linter.unusedSimpArgs false

/-! ### paths_rank: function 48 -/
def paths_rank.f (a0 : ByteArray) (a1 : Int) : Option (Int) := if a1 ≥ (a0.size : Int) then (some 0) else (if 0 ≤ a1 then (if a1 < (a0.size : Int) then (if 0 < 1 then (if (bt a0 a1) = (bt (⟨#[47]⟩ : ByteArray) 0) then (some 1) else (some (wrap64 (2 + (wrap64 (bt a0 a1)))))) else (none)) else (none)) else (none))
set_option maxHeartbeats 8000000 in
set_option maxRecDepth 100000 in
theorem paths_rank.calls (a0 : ByteArray) (a1 : Int) (r : Int) (w : World) (h : paths_rank.f a0 a1 = some r) :
  Calls Try.prog 48 #[.string a0, .int .i64 a1] w fun e w' => e = .returned (.int .i64 r) ∧ Drawn0 w w' := by
 have H : (if a1 ≥ (a0.size : Int) then (some 0) else (if 0 ≤ a1 then (if a1 < (a0.size : Int) then (if 0 < 1 then (if (bt a0 a1) = (bt (⟨#[47]⟩ : ByteArray) 0) then (some 1) else (some (wrap64 (2 + (wrap64 (bt a0 a1)))))) else (none)) else (none)) else (none))) = some r := h
 clear h
 by_cases c3 : a1 ≥ (a0.size : Int)
 ·rw [if_pos c3] at H
  have c3b0 : decide ((a0.size : Int) ≤ a1) = true := decide_eq_true c3
  clear c3
  obtain rfl := Option.some.inj H
  go_enter Try.func48, Try.ntmps48
  go_wp2
  repeat (go_quiet (fail); try go_wp2)
  go_ret
  exact ⟨by first | rfl | (simp; done) | (simp [*]; done), by repeat (first | exact Drawn0.refl _ | apply Drawn0.step)⟩
 ·rw [if_neg c3] at H
  have c3b0 : decide ((a0.size : Int) ≤ a1) = false := decide_eq_false c3
  clear c3
  by_cases c4 : 0 ≤ a1
  ·rw [if_pos c4] at H
   have c4b0 : decide (0 ≤ a1) = true := decide_eq_true c4
   clear c4
   by_cases c5 : a1 < (a0.size : Int)
   ·rw [if_pos c5] at H
    have c5b0 : decide (a1 < (a0.size : Int)) = true := decide_eq_true c5
    clear c5
    by_cases c7 : 0 < 1
    ·rw [if_pos c7] at H
     have c7b0 : decide (0 < 1) = true := decide_eq_true c7
     clear c7
     by_cases c9 : (bt a0 a1) = (bt (⟨#[47]⟩ : ByteArray) 0)
     ·rw [if_pos c9] at H
      have c9b0 : ((bt a0 a1) == (bt (⟨#[47]⟩ : ByteArray) 0)) = true := beq_iff_eq.mpr c9
      have c9b1 : ((bt a0 a1) != (bt (⟨#[47]⟩ : ByteArray) 0)) = false := bne_eq_false_iff_eq.mpr c9
      clear c9
      obtain rfl := Option.some.inj H
      have p6 : 0 ≤ (a1 : Int) := of_decide_eq_true (by first | (with_reducible assumption) | assumption)
      have q6 : a1 < (a0.size : Int) := of_decide_eq_true (by first | (with_reducible assumption) | assumption)
      have hx6 := bt_at a0 a1
      replace p6 := eq_true p6
      replace q6 := eq_true q6
      have p8 : 0 ≤ (0 : Int) := (by omega)
      have q8 : 0 < (1 : Int) := (by omega)
      have hx8 : ∀ h : 0 < (⟨#[47]⟩ : ByteArray).size, (((⟨#[47]⟩ : ByteArray)[0]'h).toNat : Int) = bt (⟨#[47]⟩ : ByteArray) 0 := bt_at (⟨#[47]⟩ : ByteArray) 0
      replace p8 := eq_true p8
      replace q8 := eq_true q8
      go_enter Try.func48, Try.ntmps48
      go_wp2
      repeat (go_quiet (fail); try go_wp2)
      go_ret
      exact ⟨by first | rfl | (simp; done) | (simp [*]; done), by repeat (first | exact Drawn0.refl _ | apply Drawn0.step)⟩
     ·rw [if_neg c9] at H
      have c9b0 : ((bt a0 a1) == (bt (⟨#[47]⟩ : ByteArray) 0)) = false := beq_eq_false_iff_ne.mpr c9
      have c9b1 : ((bt a0 a1) != (bt (⟨#[47]⟩ : ByteArray) 0)) = true := bne_iff_ne.mpr c9
      obtain rfl := Option.some.inj H
      have p6 : 0 ≤ (a1 : Int) := of_decide_eq_true (by first | (with_reducible assumption) | assumption)
      have q6 : a1 < (a0.size : Int) := of_decide_eq_true (by first | (with_reducible assumption) | assumption)
      have hx6 := bt_at a0 a1
      replace p6 := eq_true p6
      replace q6 := eq_true q6
      have p8 : 0 ≤ (0 : Int) := (by omega)
      have q8 : 0 < (1 : Int) := (by omega)
      have hx8 : ∀ h : 0 < (⟨#[47]⟩ : ByteArray).size, (((⟨#[47]⟩ : ByteArray)[0]'h).toNat : Int) = bt (⟨#[47]⟩ : ByteArray) 0 := bt_at (⟨#[47]⟩ : ByteArray) 0
      replace p8 := eq_true p8
      replace q8 := eq_true q8
      have p10 : 0 ≤ (a1 : Int) := of_decide_eq_true (by first | (with_reducible assumption) | assumption)
      have q10 : a1 < (a0.size : Int) := of_decide_eq_true (by first | (with_reducible assumption) | assumption)
      have hx10 := bt_at a0 a1
      replace p10 := eq_true p10
      replace q10 := eq_true q10
      go_enter Try.func48, Try.ntmps48
      go_wp2
      repeat (go_quiet (fail); try go_wp2)
      go_ret
      exact ⟨by first | rfl | (simp; done) | (simp [*]; done), by repeat (first | exact Drawn0.refl _ | apply Drawn0.step)⟩
    ·rw [if_neg c7] at H
     exact absurd H (by simp)
   ·rw [if_neg c5] at H
    exact absurd H (by simp)
  ·rw [if_neg c4] at H
   exact absurd H (by simp)

end Go.Proofs.Ytcgnkbdfoaiaiaa.P
end
section
/- Paths: the plain theory of texts in parts; what the functions of layer 1 answer; raw paths. -/
set_option linter.unusedVariables false
set_option linter.unusedSimpArgs false
namespace Go.Proofs.Ytcgnkbdfoaiaiaa.Q
section
open List
abbrev Bs := List UInt8
/-- A sign's place among all. -/
def rkb (c : UInt8) : Nat := if c = 47 then 1 else c.toNat + 2
def lex : List Nat → List Nat → Int
  | [], [] => 0
  | [], _ :: _ => -1
  | _ :: _, [] => 1
  | x :: xs, y :: ys => if x < y then -1 else if y < x then 1 else lex xs ys
theorem lex_nil : lex [] [] = 0 := rfl
theorem lex_nl (y : Nat) (ys : List Nat) : lex [] (y :: ys) = -1 := rfl
theorem lex_nr (x : Nat) (xs : List Nat) : lex (x :: xs) [] = 1 := rfl
theorem lex_cons (x y : Nat) (xs ys : List Nat) : lex (x :: xs) (y :: ys) = if x < y then -1 else if y < x then 1 else lex xs ys := rfl
theorem lex_same (x : Nat) (xs ys : List Nat) : lex (x :: xs) (x :: ys) = lex xs ys := by rw [lex_cons, if_neg (by omega), if_neg (by omega)]
theorem lex_range : ∀ (a b : List Nat), lex a b = -1 ∨ lex a b = 0 ∨ lex a b = 1 := by
  intro a
  induction a with
  | nil => intro b; cases b <;> simp [lex]
  | cons x a ih =>
    intro b
    cases b with
    | nil => simp [lex]
    | cons y b =>
      rw [lex_cons]
      split
      · exact .inl rfl
      · split
        · exact .inr (.inr rfl)
        · exact ih b
theorem lex_neg : ∀ (a b : List Nat), lex b a = -lex a b := by
  intro a
  induction a with
  | nil => intro b; cases b <;> simp [lex]
  | cons x a ih =>
    intro b
    cases b with
    | nil => simp [lex]
    | cons y b =>
      rw [lex_cons, lex_cons, ih b]
      split <;> split <;> first | rfl | omega
theorem lex_zero : ∀ (a b : List Nat), lex a b = 0 ↔ a = b := by
  intro a
  induction a with
  | nil => intro b; cases b <;> simp [lex]
  | cons x a ih =>
    intro b
    cases b with
    | nil => simp [lex]
    | cons y b =>
      rw [lex_cons, List.cons.injEq, ← ih b]
      split
      · exact ⟨fun h => (by cases h), fun h => (by omega)⟩
      · split
        · exact ⟨fun h => (by cases h), fun h => (by omega)⟩
        · exact ⟨fun h => ⟨by omega, h⟩, fun h => h.2⟩
theorem lex_self (a : List Nat) : lex a a = 0 := (lex_zero a a).2 rfl
/-- Who is no greater than who is no greater is no greater; and less, if one of both is. -/
theorem lex_trans : ∀ (a b c : List Nat), lex a b ≤ 0 → lex b c ≤ 0 → lex a c ≤ 0 ∧ (lex a b < 0 ∨ lex b c < 0 → lex a c < 0) := by
  intro a
  induction a with
  | nil =>
    intro b c h1 h2
    cases c with
    | nil =>
      cases b with
      | nil => simp [lex]
      | cons y b => rw [lex_nr] at h2; omega
    | cons z c => rw [lex_nl]; omega
  | cons x a ih =>
    intro b c h1 h2
    cases b with
    | nil => rw [lex_nr] at h1; omega
    | cons y b =>
      cases c with
      | nil => rw [lex_nr] at h2; omega
      | cons z c =>
        rw [lex_cons] at h1 h2 ⊢
        rw [lex_cons, lex_cons]
        have := ih b c
        by_cases c1 : x < y
        · by_cases c2 : z < y
          · rw [if_neg (by omega : ¬ y < z), if_pos c2] at h2; omega
          · rw [if_pos (by omega : x < z)]
            exact ⟨by omega, fun _ => by omega⟩
        · by_cases c2 : y < x
          · rw [if_neg c1, if_pos c2] at h1; omega
          · have e : x = y := by omega
            subst e
            rw [if_neg c1, if_neg c1] at h1
            by_cases c3 : x < z
            · rw [if_pos c3]; exact ⟨by omega, fun _ => by omega⟩
            · by_cases c4 : z < x
              · rw [if_neg c3, if_pos c4] at h2; omega
              · rw [if_neg c3, if_neg c4] at h2
                rw [if_neg c3, if_neg c4, if_neg c1, if_neg c1, if_neg c3, if_neg c4]
                exact this h1 h2
theorem lex_app (p a b : List Nat) : lex (p ++ a) (p ++ b) = lex a b := by
  induction p with
  | nil => rfl
  | cons x p ih => rw [List.cons_append, List.cons_append, lex_same, ih]
theorem lex_front (p : List Nat) {b : List Nat} (h : b ≠ []) : lex p (p ++ b) = -1 := by
  have := lex_app p [] b
  rw [List.append_nil] at this
  rw [this]
  cases b with
  | nil => exact absurd rfl h
  | cons y b => rfl
/-- What stands between two that begin with p begins with p. -/
theorem lex_between (p : List Nat) : ∀ {a b z : List Nat}, lex (p ++ a) z ≤ 0 → lex z (p ++ b) ≤ 0 → ∃ r, z = p ++ r := by
  induction p with
  | nil => intro a b z _ _; exact ⟨z, rfl⟩
  | cons x p ih =>
    intro a b z h1 h2
    cases z with
    | nil => rw [List.cons_append, lex_nr] at h1; omega
    | cons y z =>
      rw [List.cons_append, lex_cons] at h1 h2
      by_cases c1 : x < y
      · rw [if_neg (by omega), if_pos c1] at h2; omega
      · by_cases c2 : y < x
        · rw [if_neg c1, if_pos c2] at h1; omega
        · have e : x = y := by omega
          subst e
          rw [if_neg c1, if_neg c1] at h1 h2
          obtain ⟨r, hr⟩ := ih h1 h2
          exact ⟨r, by rw [hr]; rfl⟩
def rks (l : Bs) : List Nat := l.map rkb
theorem rkb_inj {x y : UInt8} (h : rkb x = rkb y) : x = y := by
  unfold rkb at h
  split at h
  · rename_i h1
    split at h
    · rename_i h2; rw [h1, h2]
    · omega
  · split at h
    · omega
    · exact UInt8.toNat_inj.1 (by omega)
theorem rks_inj : ∀ {a b : Bs}, rks a = rks b → a = b := by
  intro a
  induction a with
  | nil => intro b h; cases b with
    | nil => rfl
    | cons y b => cases h
  | cons x a ih =>
    intro b h
    cases b with
    | nil => cases h
    | cons y b =>
      injection h with h1 h2
      rw [rkb_inj h1, ih h2]
theorem rks_append (a b : Bs) : rks (a ++ b) = rks a ++ rks b := List.map_append
theorem rks_front {p : Bs} : ∀ {z : Bs} {r : List Nat}, rks z = rks p ++ r → ∃ q, z = p ++ q ∧ rks q = r := by
  induction p with
  | nil => intro z r h; exact ⟨z, rfl, h⟩
  | cons x p ih =>
    intro z r h
    cases z with
    | nil => cases h
    | cons y z =>
      injection h with h1 h2
      obtain ⟨q, rfl, hq⟩ := ih h2
      exact ⟨q, by rw [rkb_inj h1]; rfl, hq⟩
/-- Which path is less. -/
def pcmp (a b : Bs) : Int := lex (rks a) (rks b)
theorem pcmp_range (a b : Bs) : pcmp a b = -1 ∨ pcmp a b = 0 ∨ pcmp a b = 1 := lex_range _ _
theorem pcmp_neg (a b : Bs) : pcmp b a = -pcmp a b := lex_neg _ _
theorem pcmp_zero (a b : Bs) : pcmp a b = 0 ↔ a = b := (lex_zero _ _).trans ⟨rks_inj, fun h => by rw [h]⟩
theorem pcmp_trans (a b c : Bs) : pcmp a b ≤ 0 → pcmp b c ≤ 0 → pcmp a c ≤ 0 ∧ (pcmp a b < 0 ∨ pcmp b c < 0 → pcmp a c < 0) := lex_trans _ _ _
theorem pcmp_app (p a b : Bs) : pcmp (p ++ a) (p ++ b) = pcmp a b := by unfold pcmp; rw [rks_append, rks_append, lex_app]
theorem pcmp_front (p : Bs) {b : Bs} (h : b ≠ []) : pcmp p (p ++ b) = -1 := by
  unfold pcmp
  rw [rks_append]
  exact lex_front _ (by cases b with
    | nil => exact absurd rfl h
    | cons x b => exact fun h => by cases h)
theorem pcmp_between {p a b z : Bs} (h1 : pcmp (p ++ a) z ≤ 0) (h2 : pcmp z (p ++ b) ≤ 0) : ∃ q, z = p ++ q := by
  unfold pcmp at h1 h2
  rw [rks_append] at h1 h2
  obtain ⟨r, hr⟩ := lex_between _ h1 h2
  obtain ⟨q, hq, _⟩ := rks_front hr
  exact ⟨q, hq⟩
/-- A path that is less than another one, which is not within it: so is what is within it. -/
theorem pcmp_in (r : Bs) : ∀ {p q : Bs}, pcmp p q < 0 → (∀ t, q ≠ p ++ 47 :: t) → pcmp (p ++ 47 :: r) q < 0 := by
  intro p
  induction p with
  | nil =>
    intro q h1 h2
    cases q with
    | nil => have : pcmp [] [] = 0 := rfl; omega
    | cons y q =>
      have hy : y ≠ 47 := fun h => h2 q (by rw [h]; rfl)
      show lex (rkb 47 :: rks r) (rkb y :: rks q) < 0
      have e1 : rkb 47 = 1 := rfl
      have e2 : rkb y = y.toNat + 2 := by unfold rkb; rw [if_neg hy]
      rw [lex_cons, e1, e2, if_pos (by omega)]
      omega
  | cons x p ih =>
    intro q h1 h2
    cases q with
    | nil => have : pcmp (x :: p) [] = 1 := rfl; omega
    | cons y q =>
      have h1' : lex (rkb x :: rks p) (rkb y :: rks q) < 0 := h1
      show lex (rkb x :: rks (p ++ 47 :: r)) (rkb y :: rks q) < 0
      rw [lex_cons] at h1' ⊢
      by_cases c1 : rkb x < rkb y
      · rw [if_pos c1]; omega
      · rw [if_neg c1] at h1' ⊢
        by_cases c2 : rkb y < rkb x
        · rw [if_pos c2] at h1'; omega
        · rw [if_neg c2] at h1' ⊢
          have e : x = y := rkb_inj (by omega)
          subst e
          exact ih h1' (fun t ht => h2 t (by rw [ht]; rfl))
/-- The parts of a text. -/
def parts : Bs → List Bs
  | [] => [[]]
  | c :: l => if c = 47 then [] :: parts l else match parts l with
    | [] => [[c]]
    | p :: ps => (c :: p) :: ps
theorem parts_nil : parts [] = [[]] := rfl
theorem parts_slash (l : Bs) : parts (47 :: l) = [] :: parts l := rfl
theorem parts_ne (l : Bs) : ∃ p ps, parts l = p :: ps := by
  induction l with
  | nil => exact ⟨[], [], rfl⟩
  | cons c l ih =>
    obtain ⟨p, ps, h⟩ := ih
    unfold parts
    split
    · exact ⟨_, _, rfl⟩
    · rw [h]; exact ⟨_, _, rfl⟩
theorem parts_cons {c : UInt8} (hc : c ≠ 47) {l p : Bs} {ps : List Bs} (h : parts l = p :: ps) : parts (c :: l) = (c :: p) :: ps := by
  rw [parts, if_neg hc, h]
theorem parts_app (a b : Bs) : parts (a ++ 47 :: b) = parts a ++ parts b := by
  induction a with
  | nil => rfl
  | cons c a ih =>
    rw [List.cons_append]
    by_cases hc : c = 47
    · subst hc
      rw [parts_slash, parts_slash, ih]
      rfl
    · obtain ⟨p, ps, h⟩ := parts_ne a
      rw [parts_cons hc h]
      rw [h] at ih
      exact parts_cons hc ih
theorem parts_one {l : Bs} (h : 47 ∉ l) : parts l = [l] := by
  induction l with
  | nil => rfl
  | cons c l ih =>
    have hc : c ≠ 47 := fun e => h (by rw [e]; exact List.mem_cons_self)
    exact parts_cons hc (ih (fun hm => h (List.mem_cons_of_mem _ hm)))
theorem parts_no (l : Bs) : ∀ p ∈ parts l, 47 ∉ p := by
  induction l with
  | nil => intro p hp; rw [parts_nil, List.mem_singleton] at hp; rw [hp]; simp
  | cons c l ih =>
    intro p hp
    by_cases hc : c = 47
    · subst hc
      rw [parts_slash] at hp
      rcases List.mem_cons.1 hp with rfl | hp
      · simp
      · exact ih p hp
    · obtain ⟨q, qs, h⟩ := parts_ne l
      rw [parts_cons hc h] at hp
      rcases List.mem_cons.1 hp with rfl | hp
      · intro hm
        rcases List.mem_cons.1 hm with e | hm
        · exact hc e.symm
        · exact ih q (by rw [h]; exact List.mem_cons_self) hm
      · exact ih p (by rw [h]; exact List.mem_cons_of_mem _ hp)
/-- Parts as a text. -/
def glue : List Bs → Bs
  | [] => []
  | [p] => p
  | p :: q :: ps => p ++ 47 :: glue (q :: ps)
theorem glue_parts (l : Bs) : glue (parts l) = l := by
  induction l with
  | nil => rfl
  | cons c l ih =>
    obtain ⟨p, ps, h⟩ := parts_ne l
    by_cases hc : c = 47
    · subst hc
      rw [parts_slash, h]
      rw [h] at ih
      show [] ++ 47 :: glue (p :: ps) = _
      rw [ih]; rfl
    · rw [parts_cons hc h]
      rw [h] at ih
      cases ps with
      | nil =>
        have e : p = l := ih
        show c :: p = c :: l
        rw [e]
      | cons q ps =>
        have e : p ++ 47 :: glue (q :: ps) = l := ih
        show (c :: p) ++ 47 :: glue (q :: ps) = c :: l
        rw [← e]; rfl
theorem parts_inj {a b : Bs} (h : parts a = parts b) : a = b := by rw [← glue_parts a, ← glue_parts b, h]
theorem glue_app (a b : List Bs) (ha : a ≠ []) (hb : b ≠ []) : glue (a ++ b) = glue a ++ 47 :: glue b := by
  induction a with
  | nil => exact absurd rfl ha
  | cons p a ih =>
    cases a with
    | nil =>
      cases b with
      | nil => exact absurd rfl hb
      | cons q b => rfl
    | cons r a =>
      have := ih (by simp)
      show p ++ 47 :: glue (r :: a ++ b) = (p ++ 47 :: glue (r :: a)) ++ 47 :: glue b
      rw [this]
      simp
theorem parts_glue {ps : List Bs} (h : ps ≠ []) (hn : ∀ p ∈ ps, 47 ∉ p) : parts (glue ps) = ps := by
  induction ps with
  | nil => exact absurd rfl h
  | cons p ps ih =>
    cases ps with
    | nil => exact parts_one (hn p List.mem_cons_self)
    | cons q ps =>
      show parts (p ++ 47 :: glue (q :: ps)) = _
      rw [parts_app, parts_one (hn p List.mem_cons_self), ih (by simp) (fun r hr => hn r (List.mem_cons_of_mem _ hr))]
      rfl
/-- The last part, and what stands ahead of it. -/
theorem parts_last (l : Bs) : (47 ∉ l ∧ parts l = [l]) ∨ ∃ a b, l = a ++ 47 :: b ∧ 47 ∉ b ∧ parts l = parts a ++ [b] := by
  by_cases h : 47 ∈ l
  · right
    have gen : ∀ n (l : Bs), l.length = n → 47 ∈ l → ∃ a b, l = a ++ 47 :: b ∧ 47 ∉ b := by
      intro n
      induction n with
      | zero => intro l hl h; rw [List.eq_nil_of_length_eq_zero hl] at h; cases h
      | succ n ih =>
        intro l hl h
        cases l with
        | nil => cases h
        | cons c l =>
          by_cases h2 : 47 ∈ l
          · obtain ⟨a, b, rfl, hb⟩ := ih l (by simpa using hl) h2
            exact ⟨c :: a, b, rfl, hb⟩
          · rcases List.mem_cons.1 h with e | h
            · exact ⟨[], l, by rw [e]; rfl, h2⟩
            · exact absurd h h2
    obtain ⟨a, b, rfl, hb⟩ := gen _ l rfl h
    exact ⟨a, b, rfl, hb, by rw [parts_app, parts_one hb]⟩
  · exact .inl ⟨h, parts_one h⟩
def nats (l : Bs) : List Nat := l.map UInt8.toNat
/-- Which text is less, by bytes. -/
def bcmp (a b : Bs) : Int := lex (nats a) (nats b)
def cmpP : List Bs → List Bs → Int
  | [], [] => 0
  | [], _ :: _ => -1
  | _ :: _, [] => 1
  | p :: ps, q :: qs => if bcmp p q < 0 then -1 else if bcmp p q > 0 then 1 else cmpP ps qs
theorem bcmp_cons (x y : UInt8) (a b : Bs) : bcmp (x :: a) (y :: b) = if x.toNat < y.toNat then -1 else if y.toNat < x.toNat then 1 else bcmp a b := rfl
theorem cmp_parts : ∀ (a b : Bs), cmpP (parts a) (parts b) = pcmp a b := by
  intro a
  induction a with
  | nil =>
    intro b
    cases b with
    | nil => rfl
    | cons y b =>
      have e : pcmp [] (y :: b) = -1 := rfl
      rw [e, parts_nil]
      obtain ⟨q, qs, h⟩ := parts_ne b
      by_cases hy : y = 47
      · subst hy
        rw [parts_slash, h]
        show (if bcmp [] [] < 0 then (-1 : Int) else if bcmp [] [] > 0 then 1 else -1) = -1
        rfl
      · rw [parts_cons hy h]; rfl
  | cons x a ih =>
    intro b
    obtain ⟨p, ps, hp⟩ := parts_ne a
    cases b with
    | nil =>
      have e : pcmp (x :: a) [] = 1 := rfl
      rw [e, parts_nil]
      by_cases hx : x = 47
      · subst hx; rw [parts_slash, hp]; rfl
      · rw [parts_cons hx hp]; rfl
    | cons y b =>
      obtain ⟨q, qs, hq⟩ := parts_ne b
      have hi := ih b
      have e : pcmp (x :: a) (y :: b) = if rkb x < rkb y then -1 else if rkb y < rkb x then 1 else pcmp a b := rfl
      rw [e]
      by_cases hx : x = 47
      · subst hx
        have e1 : rkb 47 = 1 := rfl
        by_cases hy : y = 47
        · subst hy
          rw [parts_slash, parts_slash, if_neg (by omega), if_neg (by omega), ← hi]
          rfl
        · have e2 : rkb y = y.toNat + 2 := by unfold rkb; rw [if_neg hy]
          rw [parts_slash, parts_cons hy hq, e1, e2, if_pos (by omega)]
          rfl
      · have e1 : rkb x = x.toNat + 2 := by unfold rkb; rw [if_neg hx]
        by_cases hy : y = 47
        · subst hy
          have e2 : rkb 47 = 1 := rfl
          rw [parts_slash, parts_cons hx hp, e1, e2, if_neg (by omega), if_pos (by omega)]
          rfl
        · have e2 : rkb y = y.toNat + 2 := by unfold rkb; rw [if_neg hy]
          rw [parts_cons hx hp, parts_cons hy hq, e1, e2]
          show (if bcmp (x :: p) (y :: q) < 0 then (-1 : Int) else if bcmp (x :: p) (y :: q) > 0 then 1 else cmpP ps qs) = _
          rw [bcmp_cons]
          by_cases c1 : x.toNat < y.toNat
          · rw [if_pos c1, if_pos (by omega), if_pos (by omega)]
          · by_cases c2 : y.toNat < x.toNat
            · rw [if_neg c1, if_pos c2, if_neg (by omega), if_pos (by omega), if_neg (by omega), if_pos (by omega)]
            · rw [if_neg c1, if_neg c2, if_neg (show ¬ x.toNat + 2 < y.toNat + 2 by omega), if_neg (show ¬ y.toNat + 2 < x.toNat + 2 by omega), ← hi, hp, hq]
              rfl
/-- What is within a dir begins with it, and what parts. -/
theorem within_iff : ∀ (d p : Bs), (parts d <+: parts p ∧ (parts d).length < (parts p).length) ↔ ∃ r, p = d ++ 47 :: r := by
  intro d
  induction d with
  | nil =>
    intro p
    rw [parts_nil]
    cases p with
    | nil => rw [parts_nil]; simp
    | cons y p =>
      obtain ⟨q, qs, hq⟩ := parts_ne p
      by_cases hy : y = 47
      · subst hy
        rw [parts_slash, hq]
        exact ⟨fun _ => ⟨p, rfl⟩, fun _ => ⟨⟨q :: qs, rfl⟩, by simp⟩⟩
      · rw [parts_cons hy hq]
        refine ⟨fun ⟨h, _⟩ => ?_, fun ⟨r, h⟩ => ?_⟩
        · obtain ⟨t, h⟩ := h
          injection h with h1 _
          cases h1
        · injection h with h1 _
          exact absurd h1 hy
  | cons x d ih =>
    intro p
    obtain ⟨e, es, he⟩ := parts_ne d
    cases p with
    | nil =>
      rw [parts_nil]
      refine ⟨fun ⟨_, h⟩ => ?_, fun ⟨r, h⟩ => by cases h⟩
      by_cases hx : x = 47
      · subst hx; rw [parts_slash, he] at h; simp at h
      · rw [parts_cons hx he] at h; simp at h
    | cons y p =>
      obtain ⟨q, qs, hq⟩ := parts_ne p
      have hi := ih p
      have hr : (∃ r, y :: p = x :: d ++ 47 :: r) ↔ x = y ∧ ∃ r, p = d ++ 47 :: r := by
        constructor
        · rintro ⟨r, h⟩
          injection h with h1 h2
          exact ⟨h1.symm, r, h2⟩
        · rintro ⟨h1, r, h2⟩
          exact ⟨r, by rw [h1, h2]; rfl⟩
      rw [hr, ← hi]
      by_cases hx : x = 47
      · subst hx
        by_cases hy : y = 47
        · subst hy
          rw [parts_slash, parts_slash, List.cons_prefix_cons, List.length_cons, List.length_cons]
          exact ⟨fun ⟨h1, h2⟩ => ⟨rfl, h1.2, by omega⟩, fun ⟨_, h1, h2⟩ => ⟨⟨rfl, h1⟩, by omega⟩⟩
        · rw [parts_slash, parts_cons hy hq, List.cons_prefix_cons]
          exact ⟨fun ⟨h1, _⟩ => (by cases h1.1), fun ⟨h1, _⟩ => absurd h1.symm hy⟩
      · rw [parts_cons hx he]
        by_cases hy : y = 47
        · subst hy
          rw [parts_slash, List.cons_prefix_cons]
          exact ⟨fun ⟨h1, _⟩ => (by cases h1.1), fun ⟨h1, _⟩ => absurd h1 hx⟩
        · rw [parts_cons hy hq, he, hq, List.cons_prefix_cons, List.cons_prefix_cons, List.cons.injEq, List.length_cons, List.length_cons, List.length_cons, List.length_cons]
          exact ⟨fun ⟨h1, h2⟩ => ⟨h1.1.1, ⟨h1.1.2, h1.2⟩, h2⟩, fun ⟨h0, h1, h2⟩ => ⟨⟨⟨h0, h1.1⟩, h1.2⟩, h2⟩⟩
end
open Go Go.RowKit Go.Proofs.Ytcgnkbdfoaiaiaa.P Go.Proofs.YtcgnkbdfoaiaiaaW.PrintWords Go.Proofs.YtcgnkbdfoaiaiaaW.PrintLast Go.Proofs.YtcgnkbdfoaiaiaaW.PrintMore
theorem evpos {α : Type} {c : Prop} [Decidable c] {f g : Nat → Option α} {r : α} (hc : c) (h : Ev f r) : Ev (fun k => if c then f k else g k) r := by simp only [if_pos hc]; exact h
theorem evneg {α : Type} {c : Prop} [Decidable c] {f g : Nat → Option α} {r : α} (hc : ¬ c) (h : Ev g r) : Ev (fun k => if c then f k else g k) r := by simp only [if_neg hc]; exact h
theorem evval {α β : Type} {x : Option β} {a : β} {f : Nat → β → Option α} {r : α} (hx : x = some a) (h : Ev (fun k => f k a) r) : Ev (fun k => x.bind (f k)) r := by subst hx; exact h
theorem w64 {x : Int} (h0 : -9223372036854775808 ≤ x) (h1 : x ≤ 9223372036854775807) : wrap64 x = x := by unfold wrap64; omega
theorem wi {i : Nat} (h : i ≤ 1000000000000) : wrap64 ((i : Int) + 1) = ((i + 1 : Nat) : Int) := by rw [w64 (by omega) (by omega)]; omega
/-- A text's bytes. -/
def tl (s : ByteArray) : Bs := s.data.toList
def ofB (l : Bs) : ByteArray := ⟨l.toArray⟩
theorem tl_ofB (l : Bs) : tl (ofB l) = l := rfl
theorem tl_inj {a b : ByteArray} (h : tl a = tl b) : a = b := by
  cases a; cases b
  exact congrArg ByteArray.mk (Array.toList_inj.1 h)
theorem ofB_tl (s : ByteArray) : ofB (tl s) = s := tl_inj rfl
theorem ofB_eq {s : ByteArray} {l : Bs} (h : tl s = l) : s = ofB l := tl_inj h
theorem tl_size (s : ByteArray) : (tl s).length = s.size := (Lib.size_eq s).symm
theorem tl_append (a b : ByteArray) : tl (a ++ b) = tl a ++ tl b := by
  show (a ++ b).data.toList = _
  rw [ByteArray.data_append, Array.toList_append]
  rfl
theorem toList_tl (s : ByteArray) : s.toList = tl s := ByteArray.toList_eq s
theorem toList_eq_iff {a b : ByteArray} : a.toList = b.toList ↔ a = b := ⟨fun h => tl_inj (by rw [← toList_tl, ← toList_tl, h]), fun h => by rw [h]⟩
theorem tl_take (s : ByteArray) (a : Nat) : tl (s.extract 0 a) = (tl s).take a := Lib.extract_from_zero s a
theorem tl_drop (s : ByteArray) (a : Nat) : tl (s.extract a s.size) = (tl s).drop a := Lib.extract_to_end s a
theorem tl_cut (s : ByteArray) (a b : Nat) : tl (s.extract a b) = ((tl s).drop a).take (b - a) := Lib.extract_data s a b
theorem size_append (a b : ByteArray) : (a ++ b).size = a.size + b.size := by rw [← tl_size, ← tl_size, ← tl_size, tl_append, List.length_append]
theorem drop_cons {α : Type} {s : List α} {i : Nat} {x : α} {t : List α} (h : s.drop i = x :: t) : i < s.length ∧ s[i]? = some x ∧ s.drop (i + 1) = t := by
  have h1 : i < s.length := by
    rcases Nat.lt_or_ge i s.length with h1 | h1
    · exact h1
    · rw [List.drop_eq_nil_of_le h1] at h; cases h
  rw [List.drop_eq_getElem_cons h1] at h
  injection h with h2 h3
  exact ⟨h1, by rw [List.getElem?_eq_getElem h1, h2], h3⟩
theorem drop_nil {α : Type} {s : List α} {i : Nat} (h : s.drop i = []) : s.length ≤ i := List.drop_eq_nil_iff.1 h
theorem rdB {s : List ByteArray} {i : Nat} {x : ByteArray} (h : s[i]? = some x) : rdOf ByteArray.empty s (i : Int) = x := by
  unfold rdOf
  rw [Int.toNat_natCast, List.getD_eq_getElem?_getD, h]; rfl
theorem rdI {s : List Int} {i : Nat} {x : Int} (h : s[i]? = some x) : rd s (i : Int) = x := by
  unfold rd
  rw [Int.toNat_natCast, List.getD_eq_getElem?_getD, h]; rfl
theorem bt_tl {s : ByteArray} {i : Nat} {c : UInt8} (h : (tl s)[i]? = some c) : bt s (i : Int) = (c.toNat : Int) := by
  obtain ⟨h1, h2⟩ := List.getElem?_eq_some_iff.1 h
  have h3 : i < s.size := by rw [← tl_size]; exact h1
  unfold bt
  rw [dif_pos (by rw [Int.toNat_natCast]; exact h3)]
  have : s[(i : Int).toNat]'(by rw [Int.toNat_natCast]; exact h3) = c := by
    rw [← h2]
    rfl
  rw [this]
/-- The parts of a text, as texts. -/
def pieces (s : ByteArray) : List ByteArray := (parts (tl s)).map ofB
theorem map_tl_inj : ∀ {a b : List ByteArray}, a.map tl = b.map tl → a = b := by
  intro a
  induction a with
  | nil => intro b h; cases b with
    | nil => rfl
    | cons y b => cases h
  | cons x a ih =>
    intro b h
    cases b with
    | nil => cases h
    | cons y b =>
      injection h with h1 h2
      rw [tl_inj h1, ih h2]
theorem pieces_tl (s : ByteArray) : (pieces s).map tl = parts (tl s) := by
  unfold pieces
  rw [List.map_map]
  exact List.map_id _
/-- May a part not be. -/
def oddb (l : Bs) : Bool := decide (l = [] ∨ l = [46] ∨ l = [46, 46] ∨ l.length > 64 ∨ (0 : UInt8) ∈ l)
/-- What is wrong with a path of such parts. -/
def chk (ps : List Bs) : Int := if ps.any oddb then 2 else if ps.length > 16 then 3 else 0
theorem parts_length (l : Bs) : (parts l).length ≤ l.length + 1 := by
  induction l with
  | nil => exact Nat.le_refl _
  | cons c l ih =>
    by_cases hc : c = 47
    · subst hc; rw [parts_slash]; simp only [List.length_cons]; omega
    · obtain ⟨p, ps, h⟩ := parts_ne l
      rw [parts_cons hc h]
      rw [h] at ih
      simp only [List.length_cons] at ih ⊢; omega
theorem pieces_length (s : ByteArray) : (pieces s).length ≤ s.size + 1 := by
  unfold pieces
  rw [List.length_map]
  have := parts_length (tl s)
  rw [tl_size] at this
  exact this
/-- What stands ahead of the last part, and that. -/
def dirB (l : Bs) : Bs := if chk (parts l) = 0 then glue (parts l).dropLast else []
def baseB (l : Bs) : Bs := if chk (parts l) = 0 then (parts l).getLastD [] else []
theorem glue_parts_dir (l : Bs) : (47 ∉ l ∧ glue (parts l).dropLast = [] ∧ (parts l).getLastD [] = l) ∨ ∃ a b, l = a ++ 47 :: b ∧ 47 ∉ b ∧ glue (parts l).dropLast = a ∧ (parts l).getLastD [] = b := by
  rcases parts_last l with ⟨h1, h2⟩ | ⟨a, b, h1, h2, h3⟩
  · exact .inl ⟨h1, by rw [h2]; rfl, by rw [h2]; rfl⟩
  · refine .inr ⟨a, b, h1, h2, ?_, ?_⟩
    · rw [h3, List.dropLast_concat, glue_parts]
    · rw [h3, List.getLastD_concat]
theorem rank_at {s : ByteArray} {i : Nat} {c : UInt8} (h : (tl s)[i]? = some c) : paths_rank.f s (i : Int) = some (rkb c : Int) := by
  have h1 : i < s.size := by rw [← tl_size]; exact (List.getElem?_eq_some_iff.1 h).1
  have h47 : bt (⟨#[47]⟩ : ByteArray) 0 = 47 := rfl
  have hc := c.toNat_lt
  unfold paths_rank.f rkb
  rw [if_neg (by omega), if_pos (by omega), if_pos (by omega), if_pos (by omega), bt_tl h, h47]
  by_cases e : c = 47
  · rw [if_pos (by rw [e]; rfl), if_pos e]; rfl
  · rw [if_neg (fun hh => e (UInt8.toNat_inj.1 (by have : ((47 : UInt8).toNat : Int) = 47 := rfl; omega))), if_neg e, w64 (x := (c.toNat : Int)) (by omega) (by omega), w64 (by omega) (by omega)]
    congr 1
    omega
theorem rank_end {s : ByteArray} {i : Nat} (h : s.size ≤ i) : paths_rank.f s (i : Int) = some 0 := by
  unfold paths_rank.f
  rw [if_pos (by omega)]
theorem rkb_pos (c : UInt8) : 1 ≤ rkb c := by unfold rkb; split <;> omega
/-- Is one within another one. -/
def withinB (d p : Bs) : Bool := if d = [] then p != [] else (d ++ [47]).isPrefixOf p
theorem within_true {d p : Bs} (hd : d ≠ []) : withinB d p = true ↔ ∃ r, p = d ++ 47 :: r := by
  unfold withinB
  rw [if_neg hd, List.isPrefixOf_iff_prefix]
  constructor
  · rintro ⟨r, rfl⟩; exact ⟨r, by simp⟩
  · rintro ⟨r, rfl⟩; exact ⟨r, by simp⟩
theorem within_nil (p : Bs) : withinB [] p = (p != []) := rfl
/-- A path of two. -/
def joinB (d n : Bs) : Bs := if d = [] then n else d ++ 47 :: n
theorem rjoin_ok {d n : ByteArray} (hd : d.size ≤ 4000000) (hn : n.size ≤ 4000000) : collatorref01_Join.f d n = some (ofB (joinB (tl d) (tl n))) := by
  unfold collatorref01_Join.f joinB
  rw [toList_tl]
  by_cases h : tl d = []
  · rw [if_pos h, if_pos h, ofB_tl]
  · have hs := size_append d (⟨#[47]⟩ : ByteArray)
    have h1 : (⟨#[47]⟩ : ByteArray).size = 1 := rfl
    rw [if_neg h, if_neg h, if_pos (by omega), if_pos (by omega)]
    refine congrArg some (ofB_eq ?_)
    rw [tl_append, tl_append]
    show tl d ++ [47] ++ tl n = _
    simp
theorem joinB_size (d n : Bs) : (joinB d n).length ≤ d.length + n.length + 1 := by
  unfold joinB
  split
  · omega
  · simp only [List.length_append, List.length_cons]; omega
theorem ofB_size (l : Bs) : (ofB l).size = l.length := by rw [← tl_size]; rfl
theorem mn_take (a : ByteArray) (n : Nat) : 0 ≤ mn (a.size : Int) (n : Int) ∧ mn (a.size : Int) (n : Int) ≤ (a.size : Int) ∧ (a.extract 0 ((mn (a.size : Int) (n : Int)) : Int).toNat).size ≤ n := by
  have e : mn (a.size : Int) (n : Int) = ((min a.size n : Nat) : Int) := by unfold mn; split <;> omega
  have h : (a.extract 0 (((min a.size n : Nat) : Int)).toNat).size ≤ n := by
    rw [← tl_size, tl_take, List.length_take, Int.toNat_natCast]
    omega
  rw [e]
  exact ⟨by omega, by omega, h⟩
/-- Which of n things a raw number speaks of. -/
def pk (c : Int) (n : Nat) : Nat := (if c < 0 then -(c + 1) else c).toNat % n
theorem pk_lt (c : Int) {n : Nat} (h : 0 < n) : pk c n < n := Nat.mod_lt _ h
theorem wf_range {c : Int} (h : (Lit.int .i64 c).wf = true) : -9223372036854775808 ≤ c ∧ c ≤ 9223372036854775807 := by
  have h2 := (bounds_i64 h)
  omega
theorem pick1 {c : Int} (hc : -9223372036854775808 ≤ c ∧ c ≤ 9223372036854775807) {m : Int} {n : Nat} (hm : m = n) (hn : 0 < n) : collatorlaw01_pick.f c m = some (pk c n : Int) := by
  subst hm
  have h0 : ¬ ((n : Int) = 0) := by omega
  unfold pk collatorlaw01_pick.f
  by_cases h : c < 0
  · rw [if_pos h, if_neg h0, if_pos h, w64 (x := c + 1) (by omega) (by omega), w64 (by omega) (by omega), Int.tmod_eq_emod_of_nonneg (by omega)]
    congr 1
    rw [Int.natCast_emod, Int.toNat_of_nonneg (by omega)]
  · rw [if_neg h, if_neg h0, if_neg h, Int.tmod_eq_emod_of_nonneg (by omega)]
    congr 1
    rw [Int.natCast_emod, Int.toNat_of_nonneg (by omega)]
theorem rd_mem {l : List Int} (hw : ∀ x ∈ l, (Lit.int .i64 x).wf = true) {i : Int} (h0 : 0 ≤ i) (h1 : i < l.length) : -9223372036854775808 ≤ rd l i ∧ rd l i ≤ 9223372036854775807 := by
  refine wf_range (hw _ ?_)
  unfold rd
  rw [List.getD_eq_getElem?_getD, List.getElem?_eq_getElem (by omega)]
  exact List.getElem_mem _
def names : List ByteArray := [(⟨#[97]⟩ : ByteArray), (⟨#[98]⟩ : ByteArray), (⟨#[97, 98]⟩ : ByteArray), (⟨#[97, 33]⟩ : ByteArray), (⟨#[97, 46, 98]⟩ : ByteArray), (⟨#[46, 46, 46]⟩ : ByteArray), (⟨#[90]⟩ : ByteArray), (⟨#[255]⟩ : ByteArray)]
/-- A name that may be. -/
def Name (q : Bs) : Prop := q ≠ [] ∧ (47 : UInt8) ∉ q ∧ oddb q = false ∧ q.length ≤ 3
theorem names_ok : ∀ s ∈ names, Name (tl s) := by unfold Name; decide
theorem name_a : Name [97] := by unfold Name; decide
/-- A path of few parts. -/
structure Good (ps : List Bs) (most : Nat) : Prop where
  ne : ps ≠ []
  le : ps.length ≤ most
  all : ∀ q ∈ ps, Name q
theorem Good.mono {ps : List Bs} {m n : Nat} (h : Good ps m) (hmn : m ≤ n) : Good ps n := ⟨h.ne, Nat.le_trans h.le hmn, h.all⟩
theorem Good.no {ps : List Bs} {m : Nat} (h : Good ps m) : ∀ q ∈ ps, (47 : UInt8) ∉ q := fun q hq => (h.all q hq).2.1
theorem Good.chk {ps : List Bs} {m : Nat} (h : Good ps m) (hm : m ≤ 16) : chk ps = 0 := by
  have := h.le
  unfold Q.chk
  rw [if_neg, if_neg (by omega)]
  rw [Bool.not_eq_true, List.any_eq_false]
  intro q hq
  rw [(h.all q hq).2.2.1]
  decide
theorem glue_ne {ps : List Bs} (h : ps ≠ []) (hn : ∀ q ∈ ps, q ≠ []) : glue ps ≠ [] := by
  cases ps with
  | nil => exact absurd rfl h
  | cons p ps =>
    cases ps with
    | nil => exact hn p List.mem_cons_self
    | cons q ps => intro e; have := congrArg List.length e; simp [glue] at this
theorem Good.glue {ps : List Bs} {m : Nat} (h : Good ps m) : parts (glue ps) = ps ∧ glue ps ≠ [] :=
  ⟨parts_glue h.ne h.no, glue_ne h.ne (fun q hq => (h.all q hq).1)⟩
theorem glue_snoc {ps : List Bs} (h : ps ≠ []) (q : Bs) : glue (ps ++ [q]) = glue ps ++ 47 :: q := by
  have := glue_app ps [q] h (by simp)
  exact this
theorem path_loop (l : List Int) (hw : ∀ x ∈ l, (Lit.int .i64 x).wf = true) (hl : l.length ≤ 9223372036854775807) (d : Nat) :
    ∀ (i : Nat) (out : ByteArray) (ps : List Bs), i + d = 8 → tl out = glue ps → ps.length = i → (∀ q ∈ ps, Name q) → out.size ≤ 4 * i →
    ∃ P, Ev (fun k => collatorlaw01_Path.l0 k l names out (i : Int)) P ∧ Good (parts (tl P)) 8 ∧ P.size ≤ 40 := by
  have stop : ∀ (i : Nat) (out : ByteArray) (ps : List Bs), i ≤ 8 → tl out = glue ps → ps.length = i → (∀ q ∈ ps, Name q) → out.size ≤ 4 * i → ∃ P, Ev (fun k => collatorlaw01_Path.j1 k l names out (i : Int) false) P ∧ Good (parts (tl P)) 8 ∧ P.size ≤ 40 := by
    intro i out ps hi ht hp hn hs
    by_cases c : ps = []
    · refine ⟨⟨#[97]⟩, Ev.step (f := fun _ => some (⟨#[97]⟩ : ByteArray)) (fun k => ?_) (Ev.now _), ?_, by decide⟩
      · simp only [collatorlaw01_Path.j1]
        rw [if_neg (by decide), toList_tl, ht, c, if_pos (show glue [] = ([] : Bs) from rfl)]
      · exact ⟨by decide, by decide, fun q hq => by
          have : q ∈ [([97] : Bs)] := hq
          rw [List.mem_singleton.1 this]; exact name_a⟩
    · have hg : Good ps 8 := ⟨c, by omega, hn⟩
      refine ⟨out, Ev.step (f := fun _ => some out) (fun k => ?_) (Ev.now _), by rw [ht, hg.glue.1]; exact hg, by omega⟩
      simp only [collatorlaw01_Path.j1]
      rw [if_neg (by decide), toList_tl, ht, if_neg hg.glue.2]
  induction d with
  | zero =>
    intro i out ps hi ht hp hn hs
    obtain ⟨P, hP, hR⟩ := stop i out ps (by omega) ht hp hn hs
    refine ⟨P, Ev.step (fun k => ?_) hP, hR⟩
    simp only [collatorlaw01_Path.l0]
    rw [decide_eq_false (by omega : ¬ (i : Int) < 8)]
    split <;> rfl
  | succ d ih =>
    intro i out ps hi ht hp hn hs
    by_cases c : (i : Int) < (l.length : Int)
    · have h8 := pk_lt (rd l i) (n := 8) (by omega)
      have hx : names[pk (rd l i) 8]? = some (names[pk (rd l i) 8]'h8) := List.getElem?_eq_getElem _
      have p8 := pick1 (c := rd l i) (rd_mem hw (by omega) c) (m := 8) (n := 8) rfl (by omega)
      generalize hnm : names[pk (rd l i) 8]'h8 = nm at hx
      have hname := names_ok nm (by rw [← hnm]; exact List.getElem_mem _)
      have hsz : nm.size ≤ 3 := by have := hname.2.2.2; rw [tl_size] at this; exact this
      generalize pk (rd l i) 8 = j at *
      have hj := rjoin_ok (d := out) (n := nm) (by omega) (by omega)
      have hjs := joinB_size (tl out) (tl nm)
      rw [tl_size, tl_size] at hjs
      obtain ⟨P, hP, hR⟩ := ih (i + 1) (ofB (joinB (tl out) (tl nm))) (ps ++ [tl nm]) (by omega) (by
        rw [tl_ofB, ht]
        by_cases c0 : ps = []
        · rw [c0]; rfl
        · rw [glue_snoc c0]
          unfold joinB
          rw [if_neg (glue_ne c0 (fun q hq => (hn q hq).1))]) (by rw [List.length_append, hp]; rfl) (fun q hq => by
        rcases List.mem_append.1 hq with hq | hq
        · exact hn q hq
        · rw [List.mem_singleton.1 hq]; exact hname) (by rw [ofB_size]; omega)
      refine ⟨P, Ev.step (f := fun k => collatorlaw01_Path.j1 k l names out (i : Int) true) (fun k => ?_) (Ev.step (fun k => ?_) hP), hR⟩
      · simp only [collatorlaw01_Path.l0]
        rw [if_pos c, decide_eq_true (by omega : (i : Int) < 8)]
      · simp only [collatorlaw01_Path.j1]
        rw [if_true, if_pos (by omega), if_pos c, p8, Option.bind_some, if_pos (by omega), if_pos (by show (j : Int) < ((8 : Nat) : Int); omega), rdB hx, hj, Option.bind_some, wi (by omega)]
    · obtain ⟨P, hP, hR⟩ := stop i out ps (by omega) ht hp hn hs
      refine ⟨P, Ev.step (fun k => ?_) hP, hR⟩
      simp only [collatorlaw01_Path.l0]
      rw [if_neg c]
theorem path_ev (l : List Int) (hw : ∀ x ∈ l, (Lit.int .i64 x).wf = true) (hl : l.length ≤ 9223372036854775807) : ∃ P, Ev (fun k => collatorlaw01_Path.f k l) P ∧ Good (parts (tl P)) 8 ∧ P.size ≤ 40 :=
  path_loop l hw hl 8 0 (⟨#[]⟩ : ByteArray) [] rfl rfl rfl (by simp) (by decide)
end Go.Proofs.Ytcgnkbdfoaiaiaa.Q
end
section
/-
  DERIVED: THE SHELF's CONTRACTS AT THIS DUMP, IN PLAIN WORDS (tools/lay-plain.mjs out of 'TryShelf.lean', which tools/lay-shelf.mjs wrote): THE SAME DECLARATIONS UNDER THE SAME NAMES: 'import', 'namespace', 'open', 'def', 'theorem' AND NOTHING ELSE: no command of the shelf's: FOR A HAND-IN. Each laying: the table of numbers ('.._ren') and one theorem, a field a fact of the dump's own or the kernel's comparison; each contract: ONE APPLICATION.
-/
namespace Go.Proofs
open Go.Shelf
def Try.lays143_ren : Go.Shelf.Ren := ⟨fun | 143 => 58 | 219 => 70 | 217 => 76 | 225 => 77 | 224 => 78 | 267 => 79 | 266 => 81 | 314 => 82 | n => n, fun | 9 => 9 | 3 => 3 | 4 => 4 | 5 => 5 | 46 => 82 | 146 => 112 | 51 => 97 | n => n, fun | 1 => 0 | n => n⟩
theorem Try.lays143 : Go.Proofs.Lays.n143 Try.prog Try.lays143_ren := {
  mixed := by kernel_rfl
  f143 := Try.func58.trans (congrArg some (by kernel_rfl))
  f217 := Try.func76.trans (congrArg some (by kernel_rfl))
  f219 := Try.func70.trans (congrArg some (by kernel_rfl))
  f224 := Try.func78.trans (congrArg some (by kernel_rfl))
  f225 := Try.func77.trans (congrArg some (by kernel_rfl))
  f266 := Try.func81.trans (congrArg some (by kernel_rfl))
  f267 := Try.func79.trans (congrArg some (by kernel_rfl))
  f314 := Try.func82.trans (congrArg some (by kernel_rfl))
  t3 := Try.underlying3
  a3 := Try.isAgg3
  z3 := Try.sizeOf3
  v3 := Try.zeroValue3
  t4 := Try.underlying4
  a4 := Try.isAgg4
  z4 := Try.sizeOf4
  v4 := Try.zeroValue4
  t5 := Try.underlying5
  a5 := Try.isAgg5
  z5 := Try.sizeOf5
  v5 := Try.zeroValue5
  t9 := Try.underlying9
  a9 := Try.isAgg9
  z9 := Try.sizeOf9
  v9 := Try.zeroValue9
  t46 := Try.underlying82
  a46 := Try.isAgg82
  z46 := Try.sizeOf82
  v46 := Try.zeroValue82
  t51 := Try.underlying97
  a51 := Try.isAgg97
  z51 := Try.sizeOf97
  v51 := Try.zeroValue97
  t146 := Try.underlying112
  a146 := Try.isAgg112
  z146 := Try.sizeOf112
  v146 := Try.zeroValue112
  g1 := by kernel_rfl }
open Go.RowKit Go.Lib in
/-- strings.Index: "Index returns the index of the first instance of substr in s, or -1 if substr is not present in s.": AT A substr OF ONE BYTE c: IT RETURNS 'Lib.indexByte s c'; the world is as it was. (LAID: no walk: one application.) -/
theorem Try.strings_Index_one (s : ByteArray) (c : UInt8) (w : World) :
    Calls Try.prog 58 #[.string s, .string ⟨#[c]⟩] w fun e w' => e = .returned (.int .i64 (Lib.indexByte s.data.toList c)) ∧ w' = w := Any.strings_Index_one Try.lays143 s c w
def Try.sortPair_ren : Go.Shelf.Ren := ⟨fun | 6 => 36 | 15 => 50 | 14 => 49 | 28 => 67 | 29 => 68 | 20 => 59 | 21 => 60 | 22 => 61 | 23 => 62 | 24 => 63 | 25 => 64 | 26 => 65 | 27 => 66 | 46 => 71 | 47 => 72 | 48 => 73 | 49 => 74 | 50 => 75 | 57 => 80 | n => n, fun | 22 => 29 | 24 => 35 | 25 => 48 | 3 => 3 | 39 => 82 | 0 => 0 | 53 => 97 | 55 => 99 | 4 => 4 | 46 => 90 | 45 => 89 | 50 => 94 | 5 => 5 | 9 => 9 | 66 => 101 | 70 => 105 | 76 => 109 | 77 => 110 | n => n, fun | n => n⟩
theorem Try.sortPair : Go.Proofs.SlLaysF0.n6 Try.prog Try.sortPair_ren := {
  mixed := by kernel_rfl
  f6 := ⟨Try.f36.name, by decide, Try.func36.trans (congrArg some (by kernel_rfl))⟩
  f14 := ⟨Try.f49.name, by decide, Try.func49.trans (congrArg some (by kernel_rfl))⟩
  f15 := Try.func50.trans (congrArg some (by kernel_rfl))
  f20 := ⟨Try.f59.name, by decide, Try.func59.trans (congrArg some (by kernel_rfl))⟩
  f21 := ⟨Try.f60.name, by decide, Try.func60.trans (congrArg some (by kernel_rfl))⟩
  f22 := ⟨Try.f61.name, by decide, Try.func61.trans (congrArg some (by kernel_rfl))⟩
  f23 := ⟨Try.f62.name, by decide, Try.func62.trans (congrArg some (by kernel_rfl))⟩
  f24 := ⟨Try.f63.name, by decide, Try.func63.trans (congrArg some (by kernel_rfl))⟩
  f25 := ⟨Try.f64.name, by decide, Try.func64.trans (congrArg some (by kernel_rfl))⟩
  f26 := ⟨Try.f65.name, by decide, Try.func65.trans (congrArg some (by kernel_rfl))⟩
  f27 := ⟨Try.f66.name, by decide, Try.func66.trans (congrArg some (by kernel_rfl))⟩
  f28 := Try.func67.trans (congrArg some (by kernel_rfl))
  f29 := Try.func68.trans (congrArg some (by kernel_rfl))
  f46 := ⟨Try.f71.name, by decide, Try.func71.trans (congrArg some (by kernel_rfl))⟩
  f47 := Try.func72.trans (congrArg some (by kernel_rfl))
  f48 := Try.func73.trans (congrArg some (by kernel_rfl))
  f49 := ⟨Try.f74.name, by decide, Try.func74.trans (congrArg some (by kernel_rfl))⟩
  f50 := ⟨Try.f75.name, by decide, Try.func75.trans (congrArg some (by kernel_rfl))⟩
  f57 := ⟨Try.f80.name, by decide, Try.func80.trans (congrArg some (by kernel_rfl))⟩
  t0 := Try.underlying0
  a0 := Try.isAgg0
  z0 := Try.sizeOf0
  v0 := Try.zeroValue0
  t3 := Try.underlying3
  a3 := Try.isAgg3
  z3 := Try.sizeOf3
  v3 := Try.zeroValue3
  t4 := Try.underlying4
  a4 := Try.isAgg4
  z4 := Try.sizeOf4
  v4 := Try.zeroValue4
  t5 := Try.underlying5
  a5 := Try.isAgg5
  z5 := Try.sizeOf5
  v5 := Try.zeroValue5
  t9 := Try.underlying9
  a9 := Try.isAgg9
  z9 := Try.sizeOf9
  v9 := Try.zeroValue9
  t22 := Try.underlying29
  a22 := Try.isAgg29
  z22 := Try.sizeOf29
  v22 := Try.zeroValue29
  t25 := Try.underlying48
  a25 := Try.isAgg48
  z25 := Try.sizeOf48
  v25 := Try.zeroValue48
  t39 := Try.underlying82
  a39 := Try.isAgg82
  z39 := Try.sizeOf82
  v39 := Try.zeroValue82
  t45 := Try.underlying89
  a45 := Try.isAgg89
  z45 := Try.sizeOf89
  v45 := Try.zeroValue89
  t46 := Try.underlying90
  a46 := Try.isAgg90
  z46 := Try.sizeOf90
  v46 := Try.zeroValue90
  t50 := Try.underlying94
  a50 := Try.isAgg94
  z50 := Try.sizeOf94
  v50 := Try.zeroValue94
  t53 := Try.underlying97
  a53 := Try.isAgg97
  z53 := Try.sizeOf97
  v53 := Try.zeroValue97
  t55 := Try.underlying99
  a55 := Try.isAgg99
  z55 := Try.sizeOf99
  v55 := Try.zeroValue99
  t66 := Try.underlying101
  a66 := Try.isAgg101
  z66 := Try.sizeOf101
  v66 := Try.zeroValue101
  t70 := Try.underlying105
  a70 := Try.isAgg105
  z70 := Try.sizeOf105
  v70 := Try.zeroValue105
  t76 := Try.underlying109
  a76 := Try.isAgg109
  z76 := Try.sizeOf109
  v76 := Try.zeroValue109
  t77 := Try.underlying110
  a77 := Try.isAgg110
  z77 := Try.sizeOf110
  v77 := Try.zeroValue110 }
end Go.Proofs
end
section
/- (order).sort of the program's rename: pairs sorted by any comparison, by the kit's contract of slices.SortFunc; and the closure that it hands on. -/
set_option linter.unusedVariables false
set_option linter.unusedSimpArgs false
namespace Go.Proofs.Ytcgnkbdfoaiaiaa.P
open Go Go.RowKit Go.Sort Go.Lib Go.Proofs Go.Proofs.YtcgnkbdfoaiaiaaW.PrintWords Go.Proofs.YtcgnkbdfoaiaiaaW.PrintLast Go.Proofs.YtcgnkbdfoaiaiaaW.PrintMore
theorem eqPair (d : Nat) (w : World) (x0 y0 : ByteArray) (x1 y1 : ByteArray) (x2 y2 : Int) :
    (Op.equalIn (d + 2) 35 (.agg #[.string x0, .string x1, .int .i64 x2]) (.agg #[.string y0, .string y1, .int .i64 y2])).run Try.prog w = .ok (x0.toList == y0.toList && (x1.toList == y1.toList && (x2 == y2))) w := by
  refine eqA_of Try.underlying35 (by kernel_rfl) ?_
  refine eqf_cons (by rfl) (by go_simp; rfl) (by go_simp; rfl) (by go_simp) ?_
  refine eqf_cons (by rfl) (by go_simp; rfl) (by go_simp; rfl) (by go_simp) ?_
  exact eqf_last (by rfl) (by go_simp; rfl) (by go_simp; rfl) (by go_simp)
/-- Pairs whose texts are not too long. -/
def Pr := { p : S35 // p.f0.size ≤ 4000000 ∧ p.f1.size ≤ 4000000 }
instance : Inhabited Pr := ⟨⟨⟨ByteArray.empty, ByteArray.empty, 0⟩, by decide, by decide⟩⟩
instance : DecidableEq S35 := fun a b => if h : a.f0 = b.f0 ∧ a.f1 = b.f1 ∧ a.f2 = b.f2 then isTrue (by cases a; cases b; simp at h; obtain ⟨h1, h2, h3⟩ := h; subst h1 h2 h3; rfl) else isFalse (fun e => h (by rw [e]; exact ⟨rfl, rfl, rfl⟩))
instance : DecidableEq Pr := fun a b => if h : a.val = b.val then isTrue (Subtype.ext h) else isFalse (fun e => h (congrArg _ e))
def encP (x : Pr) : List Value := [.string x.val.f0, .string x.val.f1, .int .i64 x.val.f2]
def pflat (l : List Pr) : List Value := l.flatMap encP
theorem pflat_length (l : List Pr) : (pflat l).length = l.length * 3 := by
  induction l with
  | nil => rfl
  | cons e l ih => simp only [pflat, List.flatMap_cons, List.length_append, List.length_cons] at ih ⊢; rw [ih]; simp [encP]; omega
theorem pflat_snoc (l : List Pr) (e : Pr) : pflat (l ++ [e]) = pflat l ++ encP e := by simp [pflat]
theorem pflat_get (l : List Pr) : ∀ (t : Nat), t < l.length * 3 → (pflat l)[t]? = some ((encP l[t / 3]!)[t % 3]!) := by
  induction l with
  | nil => intro t h; simp at h
  | cons x l ih =>
    intro t h
    have e0 : pflat (x :: l) = encP x ++ pflat l := by simp [pflat]
    rw [e0]
    by_cases h3 : t < 3
    · rw [List.getElem?_append_left (by simp [encP]; exact h3), Nat.div_eq_of_lt h3, Nat.mod_eq_of_lt h3]
      have : t = 0 ∨ t = 1 ∨ t = 2 := by omega
      rcases this with rfl | rfl | rfl <;> simp [encP]
    · obtain ⟨u, rfl⟩ : ∃ u, t = u + 3 := ⟨t - 3, by omega⟩
      rw [List.getElem?_append_right (by simp [encP])]
      have e1 : u + 3 - (encP x).length = u := by simp [encP]
      have e2 : (u + 3) / 3 = u / 3 + 1 := by omega
      have e3 : (u + 3) % 3 = u % 3 := by omega
      rw [e1, e2, e3, ih u (by simp at h; omega)]
      simp
theorem flatK_eq (l : List Pr) : (flatK encP 3 l.toArray).toList = pflat l := by
  apply List.ext_getElem?
  intro t
  by_cases h : t < l.length * 3
  · rw [pflat_get l t h]
    have := get_flatK encP 3 l.toArray t (by simpa using h)
    rw [Array.getElem?_toList, Array.getElem?_eq_getElem (by simpa using h)]
    rw [getElem!_pos _ t (by simpa using h)] at this
    rw [this]
    simp
  · rw [List.getElem?_eq_none (by simp; omega), List.getElem?_eq_none (by rw [pflat_length]; omega)]
theorem take_put (F : Array Value) (cur : Array Value) (n : Nat) (hn : F.size = n) (h : n ≤ cur.size) : (putCells id 0 F cur).toList.take n = F.toList := by
  apply List.ext_getElem?
  intro j
  by_cases hj : j < n
  · rw [List.getElem?_take_of_lt hj, Array.getElem?_toList, Array.getElem?_toList]
    simp [putCells, hn, hj, show j < cur.size by omega]
  · rw [List.getElem?_take_eq_none (by omega), List.getElem?_eq_none (by simp; omega)]
theorem heap_sortedK {w : World} {g n : Nat} {os : Array Obj} {cur : Array Value} {e : TypeId} {fr : Nat × Nat} (l : List Pr) (hb : w.heap[g]? = some (.cells cur e fr)) :
    (sortWorldK encP 3 w g 0 n l.toArray os).heap[g]? = some (.cells (putCells id 0 (flatK encP 3 l.toArray) cur) e fr) := by
  have hg : g < w.heap.size := (Array.getElem?_eq_some_iff.1 hb).1
  unfold sortWorldK putRowK
  rw [Sort.heap_grow_old _ _ (by simpa using hg)]
  simp [putRow, mapBlock, Sort.ahead, Array.getElem?_modify, hb, onCells]
theorem grownBy_sortedK {w : World} {g n : Nat} {os : Array Obj} (l : List Pr) : w.grownBy (sortWorldK encP 3 w g 0 n l.toArray os) (some g) := by
  unfold sortWorldK putRowK
  refine ⟨rfl, rfl, rfl, by simp, fun k hk hne => ?_⟩
  rw [Sort.heap_grow_old _ _ (by simpa using hk)]
  have : g ≠ k := fun e => hne (by rw [e])
  simp [putRow, mapBlock, Sort.ahead, Array.getElem?_modify, this]
theorem holdsK_of {w : World} {g : Nat} {cur : Array Value} {e : TypeId} {l : List Pr} (hb : w.heap[g]? = some (.cells cur e (0, 0))) (ht : cur.toList.take (l.length * 3) = pflat l) : HoldsK encP 3 w g 0 l.toArray := by
  intro j hj
  have hj' : j < l.length * 3 := by simpa using hj
  refine ⟨?_, by simp [World.frozen?, hb]⟩
  have h1 : (cur.toList.take (l.length * 3))[j]? = (pflat l)[j]? := by rw [ht]
  rw [List.getElem?_take_of_lt hj'] at h1
  simp only [World.cell?, hb, Nat.zero_add]
  simp only [Option.isSome_none, Bool.false_eq_true, if_false]
  rw [← Array.getElem?_toList, h1, ← flatK_eq, Array.getElem?_toList, Array.getElem?_eq_getElem (by simpa using hj'), getElem!_pos _ j (by simpa using hj')]
  rfl
/-- A comparison, as the code asks it: of one and itself nothing is told. -/
def cmpOf (by_ : Pr → Pr → Int) (x y : Pr) : Int := if x = y then 0 else by_ x y
def CmpCalls (g : Nat) (by_ : Pr → Pr → Int) : Prop :=
  ∀ (x y : Pr) (W : World), Calls Try.prog g #[.agg #[.string x.val.f0, .string x.val.f1, .int .i64 x.val.f2], .agg #[.string y.val.f0, .string y.val.f1, .int .i64 y.val.f2]] W fun e w' => e = .returned (.int .i64 (by_ x y)) ∧ ∃ q os', w' = grow (W.drewN q) os'
theorem pr_eq (x y : Pr) : (x.val.f0.toList == y.val.f0.toList && (x.val.f1.toList == y.val.f1.toList && (x.val.f2 == y.val.f2))) = decide (x = y) := by
  have hb : ∀ a b : ByteArray, (a.toList == b.toList) = decide (a = b) := fun a b => by
    rw [Bool.eq_iff_iff, beq_iff_eq, decide_eq_true_eq]
    refine ⟨fun h => ?_, fun h => by rw [h]⟩
    rw [ByteArray.toList_eq, ByteArray.toList_eq] at h
    cases a; cases b
    exact congrArg ByteArray.mk (Array.toList_inj.1 h)
  rw [hb, hb, Bool.eq_iff_iff]
  simp only [Bool.and_eq_true, decide_eq_true_eq, beq_iff_eq]
  refine ⟨fun ⟨h1, h2, h3⟩ => Subtype.ext ?_, fun h => by rw [h]; exact ⟨rfl, rfl, rfl⟩⟩
  cases x with | mk x _ => cases y with | mk y _ =>
  cases x; cases y
  simp at h1 h2 h3
  subst h1 h2 h3
  rfl
theorem drewN_grow_ (w : World) (os : Array Obj) (q : Nat) : (grow w os).drewN q = grow (w.drewN q) os := rfl
section
attribute [local go_sem high] eqPair
set_option maxRecDepth 100000 in
set_option maxHeartbeats 4000000 in
theorem sort1_run (g : Nat) (eg : ∀ args w, (callFunc g args).run Try.prog w = .ok (.enter g args) w) (by_ : Pr → Pr → Int) (hg : CmpCalls g by_) (B : Nat) (x y : Pr) (W : World) (hB : W.cell? ⟨B, 0, none⟩ = some (.func (.func g) #[] #[])) :
    Calls Try.prog 37 #[.agg #[.string x.val.f0, .string x.val.f1, .int .i64 x.val.f2], .agg #[.string y.val.f0, .string y.val.f1, .int .i64 y.val.f2], .pointer (some ⟨B, 0, none⟩)] W fun e w' => e = .returned (.int .i64 (cmpOf by_ x y)) ∧ ∃ q os', w' = grow (W.drewN q) os' := by
  have hBl : B < W.heap.size := World.block_lt_of_cell? W _ hB
  have hpe := pr_eq x y
  by_cases hxy : x = y
  · subst hxy
    have h1 : (x.val.f2 == x.val.f2) = true := beq_self_eq_true _
    unfold cmpOf
    rw [if_pos rfl]
    clear hpe
    go_enter Try.func37, Try.ntmps37
    go_wp2
    go_ret
    exact ⟨rfl, 0, _, by rw [alloc_eq_grow, alloc_eq_grow, grow_grow]; rfl⟩
  · have hc : cmpOf by_ x y = by_ x y := if_neg hxy
    rw [hc]
    rw [decide_eq_false hxy] at hpe
    have HG := Lib.hid (hg x y)
    clear hxy hg hc
    go_enter Try.func37, Try.ntmps37
    go_wp2_with (first | (go_at_fn g; refine (HG.out _).mono ?_; rintro e w' ⟨rfl, q, os', rfl⟩))
    go_ret
    exact ⟨rfl, q, (#[Obj.cells #[Value.string x.val.f0, Value.string x.val.f1, Value.int IntKind.i64 x.val.f2] 35] ++ #[Obj.cells #[Value.string y.val.f0, Value.string y.val.f1, Value.int IntKind.i64 y.val.f2] 35]) ++ os', by rw [alloc_eq_grow, alloc_eq_grow, grow_grow, drewN_grow_, grow_grow]⟩
end
theorem perm_of {d d' : Array Pr} (h : PermIn 0 d.size d d') : d'.toList.Perm d.toList := by
  obtain ⟨h1, _, h3⟩ := h
  have e1 : d'.extract 0 d.size = d' := by rw [← h1]; simp
  have e2 : d.extract 0 d.size = d := by simp
  rwa [e1, e2] at h3
theorem sorted_of {lt : Pr → Pr → Bool} {d : Array Pr} (h : SortedIn lt 0 d.size d) : d.toList.Pairwise (fun x y => lt y x = false) := by
  rw [List.pairwise_iff_getElem]
  intro i j hi hj hij
  have := h i j (Nat.zero_le _) hij (by simpa using hj)
  rw [getElem!_pos d j (by simpa using hj), getElem!_pos d i (by simpa using hi)] at this
  simpa using this
set_option maxRecDepth 100000 in
set_option maxHeartbeats 4000000 in
/-- Pairs of the call's own, sorted. -/
theorem sort_run (g : Nat) (eg : ∀ args w, (callFunc g args).run Try.prog w = .ok (.enter g args) w) (by_ : Pr → Pr → Int) (hg : CmpCalls g by_) (hO : SWO (ltOf (cmpOf by_))) (base : Nat) (v : Value) (l : List Pr) (w : World) (hown : w.ownsRow base 35 3 v l.length (pflat l)) (hl : l.length ≤ 1000000000000) :
    Calls Try.prog 18 #[.agg #[.func (.func g) #[] #[]], v] w fun e w' => e = .returned (.tuple #[]) ∧ ∃ l' : List Pr, l'.Perm l ∧ l'.Pairwise (fun x y => ltOf (cmpOf by_) y x = false) ∧ w'.ownsRow base 35 3 v l'.length (pflat l') ∧ ∃ w1, Below w.heap.size w w1 ∧ w1.grownBy w' v.ownBlock := by
  obtain ⟨hx, hf⟩ := hown
  have e37 : ∀ args w, (callFunc 37 args).run Try.prog w = .ok (.enter 37 args) w := enters_of Try.func37 (by kernel_rfl) rfl
  obtain ⟨X, hX⟩ : ∃ X, X = w.alloc (.cells #[.func (.func g) #[] #[]] 50) := ⟨_, rfl⟩
  have bX : Below w.heap.size w X := by rw [hX]; exact (Below.refl _ _).alloc (Nat.le_refl _) _
  rcases hf with ⟨rfl, hn⟩ | ⟨b, cap, cur, rfl, hb, hh, hnc, hcm, hsz, htk⟩
  · have HN := Lib.hid (AnyF.slices_SortFunc_none (P := Try.prog) Try.sortPair none 0 (.func (.func 37) #[] #[.pointer (some ⟨w.heap.size, 0, none⟩)]) X)
    have hl0 : l = [] := List.eq_nil_of_length_eq_zero hn
    subst hl0
    have HX := Lib.hid hX
    have HBX := Lib.hid bX
    have HXX := Lib.hid hx
    clear hX bX hx hn
    go_enter Try.func18, Try.ntmps18
    go_wp2_with (first | rw [← HX.out] | (go_at_call 36; refine HN.out.mono ?_; rintro e w' ⟨rfl, rfl⟩))
    go_end0
    exact ⟨rfl, [], .nil, .nil, own_nil _ _ _ _, w', HBX.out, World.grownBy.refl _ _⟩
  · have hbl := blk_lt hh
    have hXb : X.heap[b]? = some (.cells cur 35 (0, 0)) := (bX.block b hbl).trans hh
    have hB : X.cell? ⟨w.heap.size, 0, none⟩ = some (.func (.func g) #[] #[]) := by rw [hX]; exact (blk_cell (heap_alloc_new w _) 0)
    have hH : HoldsK encP 3 X b 0 l.toArray := holdsK_of hXb htk
    have hbX : b < X.heap.size := blk_lt hXb
    have hcmp : CmpLays Try.prog 37 #[.pointer (some ⟨w.heap.size, 0, none⟩)] encP 3 (cmpOf by_) b 0 l.toArray.size X := fun m os dk hs x y => by
      refine sort1_run g eg by_ hg w.heap.size x y _ ?_
      have h1 := cell?_putRowK_other encP 3 (Sort.ahead X m) b 0 dk ⟨w.heap.size, 0, none⟩ (by show w.heap.size ≠ b; omega)
      have h2 : (putRowK encP 3 (Sort.ahead X m) b 0 dk).cell? ⟨w.heap.size, 0, none⟩ = some (.func (.func g) #[] #[]) := h1.trans hB
      unfold sortWorldK
      have h3 := World.block_lt_of_cell? _ _ h2
      refine (World.cell?_of_block (Sort.heap_grow_old _ os h3)).trans h2
    have hcon := AnyQ.slices_SortFunc Try.sortPair 3 Try.isAgg35 Try.sizeOf35 encP (fun _ => rfl) (fun x v hv => by simp [encP] at hv; rcases hv with rfl | rfl | rfl <;> rfl) (cmpOf by_) hO 37 #[.pointer (some ⟨w.heap.size, 0, none⟩)] b 0 cap l.toArray X e37 hcmp hH hbX (by simp; omega)
    change Calls Try.prog 36 _ _ _ at hcon
    rw [List.size_toArray] at hcon
    have HC := Lib.hid hcon
    have HX := Lib.hid hX
    have HBX := Lib.hid bX
    have HXB := Lib.hid hXb
    have HF := Lib.hid (And.intro hb (And.intro hnc (And.intro hcm hsz)))
    clear hX bX hXb hB hH hcmp hcon hx hb hh hnc hcm hsz htk e37 hbX hbl
    go_enter Try.func18, Try.ntmps18
    go_wp2_with (first | rw [← HX.out] | (go_at_call 36; refine HC.out.mono ?_; rintro e w' ⟨rfl, d', n, os, hp, hs, rfl⟩; have HP := Lib.hid hp; have HS := Lib.hid hs; clear hp hs))
    go_end0
    obtain ⟨hb, hnc, hcm, hsz⟩ := HF.out
    have hp := HP.out
    have hss : d'.size = l.length := by have := hp.1; simpa using this
    have hsd : SortedIn (ltOf (cmpOf by_)) 0 d'.size d' := by have := HS.out; rw [hss]; exact this
    have hl' : d'.toList.length = l.length := by simpa using hss
    have hdd : d'.toList.toArray = d' := by simp
    have hpm : d'.toList.Perm l := by have := perm_of (d := l.toArray) (d' := d') (by simpa using hp); simpa using this
    refine ⟨rfl, d'.toList, hpm, sorted_of hsd, ⟨pflat_length _, .inr ⟨b, cap, putCells id 0 (flatK encP 3 d'.toList.toArray) cur, by rw [hl'], hb, ?_, by omega, hcm, ?_, ?_⟩⟩, X, HBX.out, ?_⟩
    · have := heap_sortedK (n := n) (os := os) d'.toList HXB.out
      rw [hdd] at this ⊢
      exact this
    · simp [putCells, hsz]
    · rw [← flatK_eq]
      exact take_put _ _ _ (by simp) (by omega)
    · have := grownBy_sortedK (w := X) (g := b) (n := n) (os := os) d'.toList
      rw [hdd] at this
      exact this
end Go.Proofs.Ytcgnkbdfoaiaiaa.P
end
section
/- Laid for this claim by hp.py, this session's program round the kit's print: functions of the program as plain Lean functions, the proofs that the code comes to their answers, and the rows of the laws. Not trusted: Lean checks it. -/
namespace Go.Proofs.Ytcgnkbdfoaiaiaa.P
open Go.RowKit Go.Proofs.YtcgnkbdfoaiaiaaW.PrintWords Go.Proofs.YtcgnkbdfoaiaiaaW.PrintLast Go.Proofs.YtcgnkbdfoaiaiaaW.PrintMore
attribute [local go_sem] max2_int min2_int max_two min_two max_three min_three max_four min_four   -- for this text's walks alone
set_option linter.unusedVariables false
set_option linter.unusedSimpArgs false

/-! ### cmp_isNaN_int: function 47 -/
def cmp_isNaN_int.f (a0 : Int) : Option (Bool) := some (a0 != a0)
set_option maxHeartbeats 8000000 in
set_option maxRecDepth 100000 in
theorem cmp_isNaN_int.calls (a0 : Int) (r : Bool) (w : World) (h : cmp_isNaN_int.f a0 = some r) :
  Calls Try.prog 47 #[.int .i64 a0] w fun e w' => e = .returned (.bool r) ∧ Drawn0 w w' := by
 have H : (some (a0 != a0)) = some r := h
 clear h
 obtain rfl := Option.some.inj H
 go_enter Try.func47, Try.ntmps47
 go_wp2
 go_ret
 exact ⟨by first | rfl | (simp; done) | (simp [*]; done), by repeat (first | exact Drawn0.refl _ | apply Drawn0.step)⟩

end Go.Proofs.Ytcgnkbdfoaiaiaa.P
end
section
/- Laid for this claim by hp.py, this session's program round the kit's print: functions of the program as plain Lean functions, the proofs that the code comes to their answers, and the rows of the laws. Not trusted: Lean checks it. -/
namespace Go.Proofs.Ytcgnkbdfoaiaiaa.P
open Go.RowKit Go.Proofs.YtcgnkbdfoaiaiaaW.PrintWords Go.Proofs.YtcgnkbdfoaiaiaaW.PrintLast Go.Proofs.YtcgnkbdfoaiaiaaW.PrintMore
attribute [local go_sem] max2_int min2_int max_two min_two max_three min_three max_four min_four   -- for this text's walks alone
set_option linter.unusedVariables false
set_option linter.unusedSimpArgs false

/-! ### cmp_Compare_int: function 34 -/
def cmp_Compare_int.f (a0 : Int) (a1 : Int) : Option (Int) := (cmp_isNaN_int.f a0).bind fun t480 => ((cmp_isNaN_int.f a1).bind fun t481 => (if t480 = true then (if t481 = true then (some 0) else (some (-1))) else (if t481 = true then (some 1) else (if a0 < a1 then (some (-1)) else (if a0 > a1 then (some 1) else (some 0))))))
set_option maxHeartbeats 8000000 in
set_option maxRecDepth 100000 in
theorem cmp_Compare_int.calls (a0 : Int) (a1 : Int) (r : Int) (w : World) (h : cmp_Compare_int.f a0 a1 = some r) :
  Calls Try.prog 34 #[.int .i64 a0, .int .i64 a1] w fun e w' => e = .returned (.int .i64 r) ∧ Drawn0 w w' := by
 have H : ((cmp_isNaN_int.f a0).bind fun t480 => ((cmp_isNaN_int.f a1).bind fun t481 => (if t480 = true then (if t481 = true then (some 0) else (some (-1))) else (if t481 = true then (some 1) else (if a0 < a1 then (some (-1)) else (if a0 > a1 then (some 1) else (some 0))))))) = some r := h
 clear h
 replace H := Option.bind_eq_some_iff.mp H
 obtain ⟨t480, A30, H⟩ := H
 replace H : ((cmp_isNaN_int.f a1).bind fun t481 => (if t480 = true then (if t481 = true then (some 0) else (some (-1))) else (if t481 = true then (some 1) else (if a0 < a1 then (some (-1)) else (if a0 > a1 then (some 1) else (some 0)))))) = some r := H
 have A3 := Aside0.mk A30
 clear A30
 replace H := Option.bind_eq_some_iff.mp H
 obtain ⟨t481, A40, H⟩ := H
 replace H : (if t480 = true then (if t481 = true then (some 0) else (some (-1))) else (if t481 = true then (some 1) else (if a0 < a1 then (some (-1)) else (if a0 > a1 then (some 1) else (some 0))))) = some r := H
 have A4 := Aside0.mk A40
 clear A40
 by_cases c5 : t480 = true
 ·subst c5
  have H1 : (if t481 = true then (some 0) else (some (-1))) = some r := by rw [if_pos rfl] at H; exact H
  clear H
  have H := H1
  clear H1
  by_cases c6 : t481 = true
  ·subst c6
   have H1 : (some 0) = some r := by rw [if_pos rfl] at H; exact H
   clear H
   have H := H1
   clear H1
   obtain rfl := Option.some.inj H
   go_enter Try.func34, Try.ntmps34
   go_wp2_with (first | ((with_reducible refine gate_callee (f := 47) rfl ?_); refine goesL_ _ rfl rfl Try.func47 (by kernel_rfl) rfl #[.int .i64 a0] rfl (by (try simp only [List.map_toArray, List.map_cons, List.map_nil]); first | done | rfl | (simp only [List.length_drop, List.length_take]; rfl)) ?_; (with_reducible refine (cmp_isNaN_int.calls a0 true _ A3.out).mono ?_); rintro e w' ⟨rfl, ⟨nd, rfl⟩⟩; refine ⟨_, rfl, ?_⟩) | ((with_reducible refine gate_callee (f := 47) rfl ?_); refine goesL_ _ rfl rfl Try.func47 (by kernel_rfl) rfl #[.int .i64 a1] rfl (by (try simp only [List.map_toArray, List.map_cons, List.map_nil]); first | done | rfl | (simp only [List.length_drop, List.length_take]; rfl)) ?_; (with_reducible refine (cmp_isNaN_int.calls a1 true _ A4.out).mono ?_); rintro e w' ⟨rfl, ⟨nd, rfl⟩⟩; refine ⟨_, rfl, ?_⟩))
   go_ret
   exact ⟨by first | rfl | (simp; done) | (simp [*]; done), by repeat (first | exact Drawn0.refl _ | apply Drawn0.step)⟩
  ·replace c6 := Bool.eq_false_iff.mpr c6
   subst c6
   have H1 : (some (-1)) = some r := by rw [if_neg (show ¬ (false = true) by decide)] at H; exact H
   clear H
   have H := H1
   clear H1
   obtain rfl := Option.some.inj H
   go_enter Try.func34, Try.ntmps34
   go_wp2_with (first | ((with_reducible refine gate_callee (f := 47) rfl ?_); refine goesL_ _ rfl rfl Try.func47 (by kernel_rfl) rfl #[.int .i64 a0] rfl (by (try simp only [List.map_toArray, List.map_cons, List.map_nil]); first | done | rfl | (simp only [List.length_drop, List.length_take]; rfl)) ?_; (with_reducible refine (cmp_isNaN_int.calls a0 true _ A3.out).mono ?_); rintro e w' ⟨rfl, ⟨nd, rfl⟩⟩; refine ⟨_, rfl, ?_⟩) | ((with_reducible refine gate_callee (f := 47) rfl ?_); refine goesL_ _ rfl rfl Try.func47 (by kernel_rfl) rfl #[.int .i64 a1] rfl (by (try simp only [List.map_toArray, List.map_cons, List.map_nil]); first | done | rfl | (simp only [List.length_drop, List.length_take]; rfl)) ?_; (with_reducible refine (cmp_isNaN_int.calls a1 false _ A4.out).mono ?_); rintro e w' ⟨rfl, ⟨nd, rfl⟩⟩; refine ⟨_, rfl, ?_⟩))
   go_ret
   exact ⟨by first | rfl | (simp; done) | (simp [*]; done), by repeat (first | exact Drawn0.refl _ | apply Drawn0.step)⟩
 ·replace c5 := Bool.eq_false_iff.mpr c5
  subst c5
  have H1 : (if t481 = true then (some 1) else (if a0 < a1 then (some (-1)) else (if a0 > a1 then (some 1) else (some 0)))) = some r := by rw [if_neg (show ¬ (false = true) by decide)] at H; exact H
  clear H
  have H := H1
  clear H1
  by_cases c7 : t481 = true
  ·subst c7
   have H1 : (some 1) = some r := by rw [if_pos rfl] at H; exact H
   clear H
   have H := H1
   clear H1
   obtain rfl := Option.some.inj H
   go_enter Try.func34, Try.ntmps34
   go_wp2_with (first | ((with_reducible refine gate_callee (f := 47) rfl ?_); refine goesL_ _ rfl rfl Try.func47 (by kernel_rfl) rfl #[.int .i64 a0] rfl (by (try simp only [List.map_toArray, List.map_cons, List.map_nil]); first | done | rfl | (simp only [List.length_drop, List.length_take]; rfl)) ?_; (with_reducible refine (cmp_isNaN_int.calls a0 false _ A3.out).mono ?_); rintro e w' ⟨rfl, ⟨nd, rfl⟩⟩; refine ⟨_, rfl, ?_⟩) | ((with_reducible refine gate_callee (f := 47) rfl ?_); refine goesL_ _ rfl rfl Try.func47 (by kernel_rfl) rfl #[.int .i64 a1] rfl (by (try simp only [List.map_toArray, List.map_cons, List.map_nil]); first | done | rfl | (simp only [List.length_drop, List.length_take]; rfl)) ?_; (with_reducible refine (cmp_isNaN_int.calls a1 true _ A4.out).mono ?_); rintro e w' ⟨rfl, ⟨nd, rfl⟩⟩; refine ⟨_, rfl, ?_⟩))
   go_ret
   exact ⟨by first | rfl | (simp; done) | (simp [*]; done), by repeat (first | exact Drawn0.refl _ | apply Drawn0.step)⟩
  ·replace c7 := Bool.eq_false_iff.mpr c7
   subst c7
   have H1 : (if a0 < a1 then (some (-1)) else (if a0 > a1 then (some 1) else (some 0))) = some r := by rw [if_neg (show ¬ (false = true) by decide)] at H; exact H
   clear H
   have H := H1
   clear H1
   by_cases c8 : a0 < a1
   ·rw [if_pos c8] at H
    have c8b0 : decide (a0 < a1) = true := decide_eq_true c8
    clear c8
    obtain rfl := Option.some.inj H
    go_enter Try.func34, Try.ntmps34
    go_wp2_with (first | ((with_reducible refine gate_callee (f := 47) rfl ?_); refine goesL_ _ rfl rfl Try.func47 (by kernel_rfl) rfl #[.int .i64 a0] rfl (by (try simp only [List.map_toArray, List.map_cons, List.map_nil]); first | done | rfl | (simp only [List.length_drop, List.length_take]; rfl)) ?_; (with_reducible refine (cmp_isNaN_int.calls a0 false _ A3.out).mono ?_); rintro e w' ⟨rfl, ⟨nd, rfl⟩⟩; refine ⟨_, rfl, ?_⟩) | ((with_reducible refine gate_callee (f := 47) rfl ?_); refine goesL_ _ rfl rfl Try.func47 (by kernel_rfl) rfl #[.int .i64 a1] rfl (by (try simp only [List.map_toArray, List.map_cons, List.map_nil]); first | done | rfl | (simp only [List.length_drop, List.length_take]; rfl)) ?_; (with_reducible refine (cmp_isNaN_int.calls a1 false _ A4.out).mono ?_); rintro e w' ⟨rfl, ⟨nd, rfl⟩⟩; refine ⟨_, rfl, ?_⟩))
    go_ret
    exact ⟨by first | rfl | (simp; done) | (simp [*]; done), by repeat (first | exact Drawn0.refl _ | apply Drawn0.step)⟩
   ·rw [if_neg c8] at H
    have c8b0 : decide (a0 < a1) = false := decide_eq_false c8
    clear c8
    by_cases c9 : a0 > a1
    ·rw [if_pos c9] at H
     have c9b0 : decide (a1 < a0) = true := decide_eq_true c9
     clear c9
     obtain rfl := Option.some.inj H
     go_enter Try.func34, Try.ntmps34
     go_wp2_with (first | ((with_reducible refine gate_callee (f := 47) rfl ?_); refine goesL_ _ rfl rfl Try.func47 (by kernel_rfl) rfl #[.int .i64 a0] rfl (by (try simp only [List.map_toArray, List.map_cons, List.map_nil]); first | done | rfl | (simp only [List.length_drop, List.length_take]; rfl)) ?_; (with_reducible refine (cmp_isNaN_int.calls a0 false _ A3.out).mono ?_); rintro e w' ⟨rfl, ⟨nd, rfl⟩⟩; refine ⟨_, rfl, ?_⟩) | ((with_reducible refine gate_callee (f := 47) rfl ?_); refine goesL_ _ rfl rfl Try.func47 (by kernel_rfl) rfl #[.int .i64 a1] rfl (by (try simp only [List.map_toArray, List.map_cons, List.map_nil]); first | done | rfl | (simp only [List.length_drop, List.length_take]; rfl)) ?_; (with_reducible refine (cmp_isNaN_int.calls a1 false _ A4.out).mono ?_); rintro e w' ⟨rfl, ⟨nd, rfl⟩⟩; refine ⟨_, rfl, ?_⟩))
     go_ret
     exact ⟨by first | rfl | (simp; done) | (simp [*]; done), by repeat (first | exact Drawn0.refl _ | apply Drawn0.step)⟩
    ·rw [if_neg c9] at H
     have c9b0 : decide (a1 < a0) = false := decide_eq_false c9
     clear c9
     obtain rfl := Option.some.inj H
     go_enter Try.func34, Try.ntmps34
     go_wp2_with (first | ((with_reducible refine gate_callee (f := 47) rfl ?_); refine goesL_ _ rfl rfl Try.func47 (by kernel_rfl) rfl #[.int .i64 a0] rfl (by (try simp only [List.map_toArray, List.map_cons, List.map_nil]); first | done | rfl | (simp only [List.length_drop, List.length_take]; rfl)) ?_; (with_reducible refine (cmp_isNaN_int.calls a0 false _ A3.out).mono ?_); rintro e w' ⟨rfl, ⟨nd, rfl⟩⟩; refine ⟨_, rfl, ?_⟩) | ((with_reducible refine gate_callee (f := 47) rfl ?_); refine goesL_ _ rfl rfl Try.func47 (by kernel_rfl) rfl #[.int .i64 a1] rfl (by (try simp only [List.map_toArray, List.map_cons, List.map_nil]); first | done | rfl | (simp only [List.length_drop, List.length_take]; rfl)) ?_; (with_reducible refine (cmp_isNaN_int.calls a1 false _ A4.out).mono ?_); rintro e w' ⟨rfl, ⟨nd, rfl⟩⟩; refine ⟨_, rfl, ?_⟩))
     go_ret
     exact ⟨by first | rfl | (simp; done) | (simp [*]; done), by repeat (first | exact Drawn0.refl _ | apply Drawn0.step)⟩

end Go.Proofs.Ytcgnkbdfoaiaiaa.P
end
section
/- paths.Compare: an order's number, by a walk of its text; and the two comparisons of the program's rename. -/
set_option linter.unusedVariables false
set_option linter.unusedSimpArgs false
namespace Go.Proofs.Ytcgnkbdfoaiaiaa.P
open Go Go.RowKit Go.Proofs.YtcgnkbdfoaiaiaaW.PrintWords Go.Proofs.YtcgnkbdfoaiaiaaW.PrintLast Go.Proofs.YtcgnkbdfoaiaiaaW.PrintMore Go.Proofs.Ytcgnkbdfoaiaiaa.Q
def rkI (s : ByteArray) (i : Nat) : Int := match (tl s)[i]? with
  | some c => (rkb c : Int)
  | none => 0
theorem rank_f (s : ByteArray) (i : Nat) : paths_rank.f s (i : Int) = some (rkI s i) := by
  unfold rkI
  cases h : (tl s)[i]? with
  | none => exact rank_end (by have := List.getElem?_eq_none_iff.1 h; rwa [tl_size] at this)
  | some c => exact rank_at h
def ci (x y : Int) : Int := if x < y then -1 else if y < x then 1 else 0
theorem cmp_f (x y : Int) : cmp_Compare_int.f x y = some (ci x y) := by
  unfold cmp_Compare_int.f ci
  simp only [cmp_isNaN_int.f, Option.bind_some]
  by_cases h : x < y
  · simp [h]
  · by_cases h2 : y < x <;> simp [h, h2]
theorem ci_lt {x y : Int} (h : x < y) : ci x y = -1 := if_pos h
theorem ci_gt {x y : Int} (h : y < x) : ci x y = 1 := by unfold ci; rw [if_neg (by omega), if_pos h]
theorem ci_eq {x y : Int} (h : x = y) : ci x y = 0 := by unfold ci; rw [if_neg (by omega), if_neg (by omega)]
theorem rank_run (s : ByteArray) (i : Nat) (w : World) : Calls Try.prog 48 #[.string s, .int .i64 (i : Int)] w fun e w' => e = .returned (.int .i64 (rkI s i)) ∧ Drawn0 w w' := paths_rank.calls s i _ w (rank_f s i)
theorem cmp_run (x y : Int) (w : World) : Calls Try.prog 34 #[.int .i64 x, .int .i64 y] w fun e w' => e = .returned (.int .i64 (ci x y)) ∧ Drawn0 w w' := cmp_Compare_int.calls x y _ w (cmp_f x y)
theorem rk_drop (s : ByteArray) (i : Nat) (h : i < s.size) : ∃ c : Nat, 1 ≤ c ∧ rkI s i = c ∧ (rks (tl s)).drop i = c :: (rks (tl s)).drop (i + 1) := by
  have hl : i < (tl s).length := by rw [tl_size]; exact h
  refine ⟨rkb (tl s)[i], rkb_pos _, ?_, ?_⟩
  · unfold rkI; rw [List.getElem?_eq_getElem hl]
  · rw [List.drop_eq_getElem_cons (by unfold rks; rw [List.length_map]; exact hl)]
    congr 1
    unfold rks
    rw [List.getElem_map]
theorem rk_past (s : ByteArray) (i : Nat) (h : s.size ≤ i) : rkI s i = 0 ∧ (rks (tl s)).drop i = [] := by
  refine ⟨?_, List.drop_eq_nil_of_le (by unfold rks; rw [List.length_map, tl_size]; exact h)⟩
  unfold rkI
  rw [List.getElem?_eq_none (by rw [tl_size]; exact h)]
/-- One sign more. -/
theorem lex_step (a b : ByteArray) (i : Nat) (h : i < max a.size b.size) : lex ((rks (tl a)).drop i) ((rks (tl b)).drop i) = if ci (rkI a i) (rkI b i) = 0 then lex ((rks (tl a)).drop (i + 1)) ((rks (tl b)).drop (i + 1)) else ci (rkI a i) (rkI b i) := by
  by_cases ca : i < a.size
  · obtain ⟨x, hx, ex, dx⟩ := rk_drop a i ca
    by_cases cb : i < b.size
    · obtain ⟨y, hy, ey, dy⟩ := rk_drop b i cb
      rw [ex, ey, dx, dy, lex_cons]
      by_cases c1 : x < y
      · rw [if_pos c1, ci_lt (by omega), if_neg (by decide)]
      · by_cases c2 : y < x
        · rw [if_neg c1, if_pos c2, ci_gt (by omega), if_neg (by decide)]
        · rw [if_neg c1, if_neg c2, ci_eq (by omega), if_pos rfl]
    · obtain ⟨ey, dy⟩ := rk_past b i (by omega)
      rw [ex, ey, dx, dy, ci_gt (by omega), if_neg (by decide)]
      rfl
  · obtain ⟨ex, dx⟩ := rk_past a i (by omega)
    obtain ⟨y, hy, ey, dy⟩ := rk_drop b i (by omega)
    rw [ex, ey, dx, dy, ci_lt (by omega), if_neg (by decide)]
    rfl
section
attribute [local go_sem] Go.Proofs.Ytcgnkbdfoaiaiaa.HMin.max2_mx Go.Proofs.Ytcgnkbdfoaiaiaa.HMin.min2_mn max_two min_two
set_option maxRecDepth 100000 in
set_option maxHeartbeats 4000000 in
theorem compare_run (a b : ByteArray) (ha : a.size ≤ 1000000000000) (hb : b.size ≤ 1000000000000) (w : World) : Calls Try.prog 35 #[.string a, .string b] w fun e w' => e = .returned (.int .i64 (pcmp (tl a) (tl b))) ∧ Drawn0 w w' := by
  obtain ⟨M, hM⟩ : ∃ M, M = max a.size b.size := ⟨_, rfl⟩
  have hmx : mx (a.size : Int) (b.size : Int) = (M : Int) := by unfold mx; split <;> omega
  have hMl : M ≤ 1000000000000 := by omega
  have HM := Lib.hid hM
  obtain ⟨r, hr⟩ : ∃ r, r = pcmp (tl a) (tl b) := ⟨_, rfl⟩
  rw [← hr]
  have HR := Lib.hid (show lex ((rks (tl a)).drop 0) ((rks (tl b)).drop 0) = r by rw [hr]; rfl)
  clear hM hr
  go_enter Try.func35, Try.ntmps35
  go_wp2
  go_loopw [12] (fun v12 wr => ∃ i : Nat, v12 = .int .i64 (i : Int) ∧ i ≤ M ∧ Hid (lex ((rks (tl a)).drop i) ((rks (tl b)).drop i) = r) ∧ Hid (Drawn0 w wr)) (fun v12 _ => M - (intOf v12).toNat)
  case atStart => exact ⟨0, rfl, Nat.zero_le _, HR, Lib.hid (Drawn0.refl w)⟩
  case round =>
    obtain ⟨i, rfl, hi, HL, HD⟩ := hrel
    by_cases ci_ : i < M
    · have cb : decide ((i : Int) < (M : Int)) = true := decide_eq_true (by omega)
      have cb' : decide (i < M) = true := decide_eq_true ci_
      have hs := lex_step a b i (by have := HM.out; omega)
      rw [HL.out] at hs
      by_cases hz : ci (rkI a i) (rkI b i) = 0
      · rw [if_pos hz] at hs
        have kz : (ci (rkI a i) (rkI b i) != 0) = false := by rw [hz]; rfl
        have HL2 := Lib.hid hs.symm
        clear hz hs
        go_wp2_with (first | (go_at_call 48; refine (rank_run _ _ _).mono ?_; rintro e w' ⟨rfl, ⟨n1, rfl⟩⟩) | (go_at_call 34; refine (cmp_run _ _ _).mono ?_; rintro e w' ⟨rfl, ⟨n2, rfl⟩⟩))
        exact ⟨⟨i + 1, by simp, ci_, HL2, Lib.hid (by repeat (first | exact HD.out | refine Drawn0.step ?_ _))⟩, by simp [intOf]; omega⟩
      · rw [if_neg hz] at hs
        have kz : (ci (rkI a i) (rkI b i) != 0) = true := bne_iff_ne.2 hz
        have HL2 := Lib.hid hs
        clear hz hs
        go_wp2_with (first | (go_at_call 48; refine (rank_run _ _ _).mono ?_; rintro e w' ⟨rfl, ⟨n1, rfl⟩⟩) | (go_at_call 34; refine (cmp_run _ _ _).mono ?_; rintro e w' ⟨rfl, ⟨n2, rfl⟩⟩))
        go_ret
        exact ⟨by rw [HL2.out]; rfl, by repeat (first | exact HD.out | refine Drawn0.step ?_ _)⟩
    · have cb : decide ((i : Int) < (M : Int)) = false := decide_eq_false (by omega)
      have cb' : decide (i < M) = false := decide_eq_false ci_
      obtain rfl : i = M := by omega
      have HL2 := Lib.hid (show r = 0 by
        have h := HL.out
        rw [(rk_past a i (by have := HM.out; omega)).2, (rk_past b i (by have := HM.out; omega)).2] at h
        exact h.symm)
      clear HL
      go_wp2
      go_ret
      exact ⟨by rw [HL2.out]; rfl, HD.out⟩
end
end Go.Proofs.Ytcgnkbdfoaiaiaa.P
end
section
/- The two comparisons of the program's rename: which candidate is better, which To is less. -/
set_option linter.unusedVariables false
set_option linter.unusedSimpArgs false
namespace Go.Proofs.Ytcgnkbdfoaiaiaa.P
open Go Go.RowKit Go.Sort Go.Proofs.YtcgnkbdfoaiaiaaW.PrintWords Go.Proofs.YtcgnkbdfoaiaiaaW.PrintLast Go.Proofs.YtcgnkbdfoaiaiaaW.PrintMore Go.Proofs.Ytcgnkbdfoaiaiaa.Q
/-- The first number that is none of nought. -/
def or3 (x y z : Int) : Int := if x ≠ 0 then x else if y ≠ 0 then y else z
set_option maxRecDepth 100000 in
set_option maxHeartbeats 4000000 in
theorem or_run (b : Nat) (x y z : Int) (w : World) (h0 : w.cell? ⟨b, 0, none⟩ = some (.int .i64 x)) (h1 : w.cell? ⟨b, 1, none⟩ = some (.int .i64 y)) (h2 : w.cell? ⟨b, 2, none⟩ = some (.int .i64 z)) :
    Calls Try.prog 33 #[.slice (some ⟨b, 0, none⟩) 3 3] w fun e w' => e = .returned (.int .i64 (or3 x y z)) ∧ w' = w := by
  obtain ⟨r, hr⟩ : ∃ r, r = or3 x y z := ⟨_, rfl⟩
  rw [← hr]
  have HR := Lib.hid hr
  clear hr
  go_enter Try.func33, Try.ntmps33
  go_wp2
  go_loop [8] (fun v8 => ∃ i : Nat, v8 = .int .i64 (i : Int) ∧ i ≤ 3 ∧ Hid ((1 ≤ i → x = 0) ∧ (2 ≤ i → y = 0) ∧ (3 ≤ i → z = 0))) (fun v8 => 3 - (intOf v8).toNat)
  case atStart => exact ⟨0, rfl, by omega, Lib.hid ⟨by omega, by omega, by omega⟩⟩
  case round =>
    obtain ⟨i, rfl, hi, HZ⟩ := hrel
    have hh : i = 0 ∨ i = 1 ∨ i = 2 ∨ i = 3 := by omega
    rcases hh with rfl | rfl | rfl | rfl
    · by_cases hz : x = 0
      · have kz : (x != 0) = false := by rw [hz]; rfl
        have HX := Lib.hid hz
        clear hz
        go_wp2
        exact ⟨⟨1, by simp, by omega, Lib.hid ⟨fun _ => HX.out, by omega, by omega⟩⟩, by simp [intOf]⟩
      · have kz : (x != 0) = true := bne_iff_ne.2 hz
        have HX := Lib.hid (show r = x by rw [HR.out]; unfold or3; rw [if_pos hz])
        clear hz
        go_wp2
        go_ret
        exact ⟨by rw [HX.out]; rfl, rfl⟩
    · by_cases hz : y = 0
      · have kz : (y != 0) = false := by rw [hz]; rfl
        have HX := Lib.hid hz
        clear hz
        go_wp2
        exact ⟨⟨2, by simp, by omega, Lib.hid ⟨fun _ => HZ.out.1 (by omega), fun _ => HX.out, by omega⟩⟩, by simp [intOf]⟩
      · have kz : (y != 0) = true := bne_iff_ne.2 hz
        have HX := Lib.hid (show r = y by rw [HR.out]; unfold or3; rw [if_neg (by simp [HZ.out.1 (by omega)]), if_pos hz])
        clear hz
        go_wp2
        go_ret
        exact ⟨by rw [HX.out]; rfl, rfl⟩
    · by_cases hz : z = 0
      · have kz : (z != 0) = false := by rw [hz]; rfl
        have HX := Lib.hid hz
        clear hz
        go_wp2
        exact ⟨⟨3, by simp, by omega, Lib.hid ⟨fun _ => HZ.out.1 (by omega), fun _ => HZ.out.2.1 (by omega), fun _ => HX.out⟩⟩, by simp [intOf]⟩
      · have kz : (z != 0) = true := bne_iff_ne.2 hz
        have HX := Lib.hid (show r = z by rw [HR.out]; unfold or3; rw [if_neg (by simp [HZ.out.1 (by omega)]), if_neg (by simp [HZ.out.2.1 (by omega)])])
        clear hz
        go_wp2
        go_ret
        exact ⟨by rw [HX.out]; rfl, rfl⟩
    · have HX := Lib.hid (show r = 0 by rw [HR.out]; unfold or3; rw [if_neg (by simp [HZ.out.1 (by omega)]), if_neg (by simp [HZ.out.2.1 (by omega)])]; exact HZ.out.2.2 (by omega))
      go_wp2
      go_ret
      exact ⟨by rw [HX.out]; rfl, rfl⟩
def firstC (x y : Pr) : Int := pcmp (tl x.val.f1) (tl y.val.f1)
def betterC (x y : Pr) : Int := or3 (ci y.val.f2 x.val.f2) (pcmp (tl x.val.f0) (tl y.val.f0)) (pcmp (tl x.val.f1) (tl y.val.f1))
set_option maxRecDepth 100000 in
set_option maxHeartbeats 4000000 in
theorem first_run : CmpCalls 19 firstC := by
  intro x y W
  have hx := x.property
  have hy := y.property
  have HC := Lib.hid (fun W' => compare_run x.val.f1 y.val.f1 (by omega) (by omega) W')
  unfold firstC
  clear hx hy
  go_enter Try.func19, Try.ntmps19
  go_wp2_with (first | (go_at_call 35; refine (HC.out _).mono ?_; rintro e w' ⟨rfl, ⟨n, rfl⟩⟩))
  go_ret
  exact ⟨rfl, n, (#[Obj.cells #[Value.string x.val.f0, Value.string x.val.f1, Value.int IntKind.i64 x.val.f2] 35] ++ #[Obj.cells #[Value.string y.val.f0, Value.string y.val.f1, Value.int IntKind.i64 y.val.f2] 35]), by rw [alloc_eq_grow, alloc_eq_grow, grow_grow, drewN_grow_]⟩
set_option maxRecDepth 100000 in
set_option maxHeartbeats 4000000 in
theorem better_run : CmpCalls 17 betterC := by
  intro x y W
  have hx := x.property
  have hy := y.property
  have HC := Lib.hid (fun W' => compare_run x.val.f0 y.val.f0 (by omega) (by omega) W')
  have HD := Lib.hid (fun W' => compare_run x.val.f1 y.val.f1 (by omega) (by omega) W')
  unfold betterC
  clear hx hy
  obtain ⟨X, hX⟩ : ∃ X, X = (W.alloc (.cells #[.string x.val.f0, .string x.val.f1, .int .i64 x.val.f2] 35)).alloc (.cells #[.string y.val.f0, .string y.val.f1, .int .i64 y.val.f2] 35) := ⟨_, rfl⟩
  have q0 : X.heap[W.heap.size]? = some (.cells #[.string x.val.f0, .string x.val.f1, .int .i64 x.val.f2] 35 (0, 0)) := by rw [hX]; exact ((World.grownBy_alloc _ _ none).block _ (by simp) (by simp)).trans (heap_alloc_new W _)
  have q1 : X.heap[W.heap.size + 1]? = some (.cells #[.string y.val.f0, .string y.val.f1, .int .i64 y.val.f2] 35 (0, 0)) := by
    rw [hX]
    have := heap_alloc_new (W.alloc (.cells #[.string x.val.f0, .string x.val.f1, .int .i64 x.val.f2] 35)) (.cells #[.string y.val.f0, .string y.val.f1, .int .i64 y.val.f2] 35)
    simpa using this
  obtain ⟨Z, hZ⟩ : ∃ Z, Z = X.drew := ⟨_, rfl⟩
  have HZX := Lib.hid hZ
  have qz0 : Z.heap[W.heap.size]? = some (.cells #[.string x.val.f0, .string x.val.f1, .int .i64 x.val.f2] 35 (0, 0)) := by rw [hZ]; exact q0
  have qz1 : Z.heap[W.heap.size + 1]? = some (.cells #[.string y.val.f0, .string y.val.f1, .int .i64 y.val.f2] 35 (0, 0)) := by rw [hZ]; exact q1
  have m00 : Z.cell? ⟨W.heap.size, 0, none⟩ = some (.string x.val.f0) := by simp [World.cell?, qz0]
  have m01 : Z.cell? ⟨W.heap.size, 1, none⟩ = some (.string x.val.f1) := by simp [World.cell?, qz0]
  have m02 : Z.cell? ⟨W.heap.size, 2, none⟩ = some (.int .i64 x.val.f2) := by simp [World.cell?, qz0]
  have m10 : Z.cell? ⟨W.heap.size + 1, 0, none⟩ = some (.string y.val.f0) := by simp [World.cell?, qz1]
  have m11 : Z.cell? ⟨W.heap.size + 1, 1, none⟩ = some (.string y.val.f1) := by simp [World.cell?, qz1]
  have m12 : Z.cell? ⟨W.heap.size + 1, 2, none⟩ = some (.int .i64 y.val.f2) := by simp [World.cell?, qz1]
  have HZ8 := Lib.hid (show ∀ b ∈ [W.heap.size, W.heap.size + 1], b < Z.heap.size by intro b hb; simp at hb; rcases hb with rfl | rfl; exact blk_lt qz0; exact blk_lt qz1)
  have HX := Lib.hid hX
  clear hX hZ q0 q1 qz0 qz1
  go_enter Try.func17, Try.ntmps17
  go_wp2_with (first | rw [← HX.out])
  refine (wpIn_wide (n := 9)).1 ?_
  refine Held.region 17 (Held.Same Z [W.heap.size, W.heap.size + 1]) (by kernel_rfl) ?_
  first | rw [← HZX.out] | rw [← HX.out, ← HZX.out]
  have hT := Held.Same.refl Z [W.heap.size, W.heap.size + 1]
  refine Held.tk (i := 0) rfl hT ?_
  try simp only [Act.put, List.setIfInBounds_toArray, List.set_cons_zero, List.set_cons_succ]
  refine Held.tk (i := 1) rfl hT ?_
  try simp only [Act.put, List.setIfInBounds_toArray, List.set_cons_zero, List.set_cons_succ]
  refine Held.tk (i := 2) rfl hT ?_
  try simp only [Act.put, List.setIfInBounds_toArray, List.set_cons_zero, List.set_cons_succ]
  refine Held.tk (i := 3) rfl hT ?_
  try simp only [Act.put, List.setIfInBounds_toArray, List.set_cons_zero, List.set_cons_succ]
  refine Held.tk (i := 5) rfl hT ?_
  try simp only [Act.put, List.setIfInBounds_toArray, List.set_cons_zero, List.set_cons_succ]
  refine Held.tk (i := 6) rfl hT ?_
  try simp only [Act.put, List.setIfInBounds_toArray, List.set_cons_zero, List.set_cons_succ]
  refine Held.tk (i := 7) rfl hT ?_
  try simp only [Act.put, List.setIfInBounds_toArray, List.set_cons_zero, List.set_cons_succ]
  refine Held.tk (i := 8) rfl hT ?_
  try simp only [Act.put, List.setIfInBounds_toArray, List.set_cons_zero, List.set_cons_succ]
  refine Held.tk (i := 10) rfl hT ?_
  try simp only [Act.put, List.setIfInBounds_toArray, List.set_cons_zero, List.set_cons_succ]
  refine Held.tk (i := 11) rfl hT ?_
  try simp only [Act.put, List.setIfInBounds_toArray, List.set_cons_zero, List.set_cons_succ]
  refine Held.tk (i := 12) rfl hT ?_
  try simp only [Act.put, List.setIfInBounds_toArray, List.set_cons_zero, List.set_cons_succ]
  refine Held.tk (i := 13) rfl hT ?_
  try simp only [Act.put, List.setIfInBounds_toArray, List.set_cons_zero, List.set_cons_succ]
  refine Held.AnyS.step (i := 4) rfl (by kernel_rfl) rfl (fun K hK => ?_)
  go_simp
  first | refine ⟨trivial, ?_⟩ | skip
  refine (callsIn_wide.2 (cmp_run y.val.f2 x.val.f2 Z)).mono ?_
  rintro e w1 ⟨rfl, ⟨n1, rfl⟩⟩
  have hT1 : Held.Same Z [W.heap.size, W.heap.size + 1] (Z.drewN n1) := hT
  refine hK.out _ _ (fun _ => hT1) ?_
  clear hK K
  try simp only [Act.put, List.setIfInBounds_toArray, List.set_cons_zero, List.set_cons_succ]
  refine Held.AnyS.step (i := 9) rfl (by kernel_rfl) rfl (fun K hK => ?_)
  go_simp
  first | refine ⟨trivial, ?_⟩ | skip
  refine (callsIn_wide.2 (HC.out (Z.drewN n1))).mono ?_
  rintro e w1 ⟨rfl, ⟨n2, rfl⟩⟩
  have hT2 : Held.Same Z [W.heap.size, W.heap.size + 1] ((Z.drewN n1).drewN n2) := hT
  refine hK.out _ _ (fun _ => hT2) ?_
  clear hK K
  try simp only [Act.put, List.setIfInBounds_toArray, List.set_cons_zero, List.set_cons_succ]
  refine Held.AnyS.step (i := 14) rfl (by kernel_rfl) rfl (fun K hK => ?_)
  go_simp
  first | refine ⟨trivial, ?_⟩ | skip
  refine (callsIn_wide.2 (HD.out (Z.drewN (n1 + n2)))).mono ?_
  rintro e w1 ⟨rfl, ⟨n3, rfl⟩⟩
  have hT3 : Held.Same Z [W.heap.size, W.heap.size + 1] ((Z.drewN (n1 + n2)).drewN n3) := hT
  refine hK.out _ _ (fun _ => hT3) ?_
  clear hK K
  try simp only [Act.put, List.setIfInBounds_toArray, List.set_cons_zero, List.set_cons_succ]
  refine Held.AnyS.step (i := 15) rfl (by kernel_rfl) rfl (fun K hK => ?_)
  go_simp
  obtain ⟨V, hV⟩ : ∃ V, V = (Z.drewN (n1 + n2 + n3)).alloc (.cells #[.int .i64 (ci y.val.f2 x.val.f2), .int .i64 (pcmp (tl x.val.f0) (tl y.val.f0)), .int .i64 (pcmp (tl x.val.f1) (tl y.val.f1))] 3) := ⟨_, rfl⟩
  have qv : V.heap[Z.heap.size]? = some (.cells #[.int .i64 (ci y.val.f2 x.val.f2), .int .i64 (pcmp (tl x.val.f0) (tl y.val.f0)), .int .i64 (pcmp (tl x.val.f1) (tl y.val.f1))] 3 (0, 0)) := by rw [hV]; exact heap_alloc_new (Z.drewN (n1 + n2 + n3)) _
  have hT4 : Held.Same Z [W.heap.size, W.heap.size + 1] V := by
    rw [hV]
    exact Held.Same.grown (w := Z.drewN (n1 + n2 + n3)) hT (World.grownBy_alloc _ _ none) (fun b hb => ⟨HZ8.out b hb, by simp⟩)
  have HO := Lib.hid (or_run Z.heap.size (ci y.val.f2 x.val.f2) (pcmp (tl x.val.f0) (tl y.val.f0)) (pcmp (tl x.val.f1) (tl y.val.f1)) V ((blk_cell qv 0).trans rfl) ((blk_cell qv 1).trans rfl) ((blk_cell qv 2).trans rfl))
  try rw [← hV]
  refine hK.out _ _ (fun _ => hT4) ?_
  clear hK K
  try simp only [Act.put, List.setIfInBounds_toArray, List.set_cons_zero, List.set_cons_succ]
  refine Held.AnyS.step (i := 16) rfl (by kernel_rfl) rfl (fun K hK => ?_)
  clear qv
  have HV := Lib.hid hV
  clear hV
  go_simp
  first | refine ⟨trivial, ?_⟩ | skip
  refine (callsIn_wide.2 HO.out).mono ?_
  rintro e w1 ⟨rfl, rfl⟩
  refine hK.out _ _ (fun _ => hT4) ?_
  clear hK K
  try simp only [Act.put, List.setIfInBounds_toArray, List.set_cons_zero, List.set_cons_succ]
  refine Held.AnyS.step (i := 17) rfl (by kernel_rfl) rfl (fun K hK => ?_)
  go_simp
  refine hK.out _ _ (fun h => absurd h (by omega)) ?_
  clear hK K hT hT1 hT2 hT3 hT4
  refine Held.AnyS.done (by kernel_rfl) ?_ _
  go_simp
  go_wp2
  go_ret
  refine ⟨rfl, 1 + (n1 + n2 + n3), (#[Obj.cells #[Value.string x.val.f0, Value.string x.val.f1, Value.int IntKind.i64 x.val.f2] 35] ++ #[Obj.cells #[Value.string y.val.f0, Value.string y.val.f1, Value.int IntKind.i64 y.val.f2] 35]) ++ #[.cells #[.int .i64 (ci y.val.f2 x.val.f2), .int .i64 (pcmp (tl x.val.f0) (tl y.val.f0)), .int .i64 (pcmp (tl x.val.f1) (tl y.val.f1))] 3], ?_⟩
  rw [HV.out, HZX.out, HX.out, alloc_eq_grow, alloc_eq_grow, alloc_eq_grow, grow_grow, World.drewN_drew, drewN_grow_, grow_grow]
end Go.Proofs.Ytcgnkbdfoaiaiaa.P
end
section
/- Words of this session: a range over a function whose iterator keeps state of its own in one block of cells. -/
set_option linter.unusedVariables false
namespace Go.Proofs.Ytcgnkbdfoaiaiaa.Rng
open Go Go.RowKit
/-- I minds neither new blocks, nor a turn of the iterator's block st, nor of a block from B on that holds no cells. -/
def Bides {β : Type} (B st : Nat) (I : β → World → Prop) : Prop :=
  ∀ s X Y row, I s X → X.grownBy Y row → (∀ r, row = some r → r = st ∨ (B ≤ r ∧ ∃ o : Obj, X.heap[r]? = some o ∧ o.isCells = false)) → I s Y
theorem Bides.alloc {β : Type} {B st : Nat} {I : β → World → Prop} (h : Bides B st I) {s : β} {W : World} (o : Obj) (hs : I s W) : I s (W.alloc o) :=
  h s W _ none hs (World.grownBy_alloc W o none) (fun r e => by cases e)
theorem Bides.put {β : Type} {B st : Nat} {I : β → World → Prop} (h : Bides B st I) {s : β} {W : World} {l : Nat} {o : Obj} (o' : Obj) (hs : I s W) (hB : B ≤ l) (hl : W.heap[l]? = some o) (ho : o.isCells = false) : I s (W.putObj l o') :=
  h s W _ (some l) hs (grownBy_putObj' W l o') (fun r e => by cases e; exact .inr ⟨hB, o, hl, ho⟩)
/-- What an iterator promises: all comes, in its order, or the rounds have said 'no more'. st: its own block, by the heap's size at its call. -/
def Seq {α : Type} (F : Fence) (n : Nat) (P : Program) (g : Nat) (lb : Array Value) (encs : α → Array Value) (st : Nat → Nat) (Kp : Nat → World → World → Prop) (all : List α) (w : World) : Prop :=
  ∀ (l : Nat) (J Jx : List α → World → Prop) (W : World), Below w.heap.size w W →
    (∀ s X Y row, J s X → X.grownBy Y row → (∀ r, row = some r → r = st W.heap.size) → J s Y) →
    (∀ s X Y row, Jx s X → X.grownBy Y row → (∀ r, row = some r → r = st W.heap.size) → Jx s Y) →
    (∀ pre x post X, all = pre ++ x :: post → J pre X → YieldAt F (n - 1) P l (encs x) X fun e Y =>
      (e = .returned (.bool true) ∧ J (pre ++ [x]) Y ∧ Kp W.heap.size X Y) ∨ (e = .returned (.bool false) ∧ Jx (pre ++ [x]) Y)) →
    J [] W →
    CallsIn F n P g (#[.func (.yield l) #[] #[]] ++ lb) W fun e Y => (∃ v, e = .returned v) ∧ (J all Y ∨ ∃ pre, pre <+: all ∧ Jx pre Y)
/-- How a round's body may be left. -/
def Left {α : Type} (B : Nat) (Kp : World → World → Prop) (I : List α → World → Prop) (Ix : Code → List α → World → Prop) (xs : List α) (W : World) : Exit → Act → World → Prop
  | .normal, _, Y => KeepsFrom B W Y ∧ Kp W Y ∧ I xs Y
  | .ret, _, Y => KeepsFrom B W Y ∧ Ix .ret xs Y
  | .exit id, _, Y => KeepsFrom B W Y ∧ Ix (.exit id) xs Y
  | .goto t, _, Y => KeepsFrom B W Y ∧ Ix (.goto t) xs Y
  | .panic _, _, _ => False
  | .outgrown, _, _ => False
variable {F : Fence} {n : Nat} {P : Program}
set_option maxHeartbeats 1000000 in
/-- The statement: by the iterator's promise, an invariant I between two rounds, Ix behind a jump, and one walk of the body. -/
theorem range {α : Type} {g : Operand} {ps : Array Tmp} {assign body : Code} {Q : Exit → Act → World → Prop} {a : Act} {w w0 : World} {gf : Nat} {lb : Array Value} {encs : α → Array Value} {st : Nat → Nat} {Kp : Nat → World → World → Prop} {all : List α}
    (hro : F.round = none) (h1 : 1 ≤ n) (hg : a.eval g = .func (.func gf) #[] lb) (hFg : F.fn gf) (eg : ∀ args w, (callFunc gf args).run P w = .ok (.enter gf args) w)
    (hseq : Seq F (n - 1) P gf lb encs st Kp all w0) (hb0 : Below w0.heap.size w0 w) (hps : ∀ x, (encs x).size = ps.size)
    (hst : st (w.heap.size + 2) ≠ w.heap.size ∧ st (w.heap.size + 2) ≠ w.heap.size + 1)
    (hKt : ∀ {X Y Z : World}, Kp (w.heap.size + 2) X Y → Kp (w.heap.size + 2) Y Z → Kp (w.heap.size + 2) X Z)
    (hKb : ∀ (W : World) (l : Nat) (o' : Obj), (l = w.heap.size ∨ l = w.heap.size + 1) → l < W.heap.size → Kp (w.heap.size + 2) W (W.putObj l o'))
    (I : List α → World → Prop) (Ix : Code → List α → World → Prop) (hI : Bides w.heap.size (st (w.heap.size + 2)) I) (hIx : ∀ c, Bides w.heap.size (st (w.heap.size + 2)) (Ix c)) (h0 : I [] w)
    (Ax : α → Act → World → Prop) (hAx : ∀ x a', Bides w.heap.size (st (w.heap.size + 2)) (fun (_ : Unit) W => Ax x a' W))
    (hassign : ∀ (l : Nat) (pre : List α) (x : α) (post : List α) (W : World) (K : Act → World → Prop), all = pre ++ x :: post → I pre W →
      (∀ a' Y, KeepsFrom w.heap.size W Y → Kp (w.heap.size + 2) W Y → I pre Y → Ax x a' Y → K a' Y) →
      assign.wpIn (F.inRound l) (n - 1 - 1) P (Exit.then K (fun _ _ _ => False)) { tmps := (ps.zip (encs x)).foldl (fun t (p, v) => t.setIfInBounds p v) a.tmps, defers := [] } W)
    (hbody : ∀ (l : Nat) (pre : List α) (x : α) (post : List α) (a' : Act) (W : World), w.heap.size ≤ l → (∃ r, W.heap[l]? = some (.loop r)) → w.heap.size + 1 < W.heap.size → all = pre ++ x :: post → I pre W → Ax x a' W →
      body.wpIn (F.inRound l) (n - 1 - 1) P (Left w.heap.size (Kp (w.heap.size + 2)) I Ix (pre ++ [x]) W) a' W)
    (hdone : ∀ (W : World), I all W → W.heap[w.heap.size]? = some (.deferred (some [])) → Q .normal { a with defers := { target := .collected w.heap.size, args := #[] } :: a.defers } W)
    (hstop : ∀ (c : Code) (pre : List α) (W : World), pre <+: all → Ix c pre W → W.heap[w.heap.size]? = some (.deferred (some [])) → c.wpIn F n P Q { a with defers := { target := .collected w.heap.size, args := #[] } :: a.defers } W) :
    (Code.rangeFunc g ps assign body).wpIn F n P Q a w := by
  refine wpIn_rangeFunc fun fn hfn => ?_
  rw [hro]
  obtain ⟨B, hB⟩ : ∃ B, B = w.heap.size := ⟨_, rfl⟩
  rw [← hB] at hst hKb hI hIx hAx hassign hbody hdone hstop
  obtain ⟨rc, hrc⟩ : ∃ rc : LoopState → Option Code → Loop, rc = fun s p => { state := s, pending := p, fn, tmps := a.tmps, params := ps, assign, body, defers := B } := ⟨_, rfl⟩
  obtain ⟨V, hV⟩ : ∃ V, (w.alloc (.deferred (some []))).alloc (.loop (rc .ready none)) = V := ⟨_, rfl⟩
  have sz : V.heap.size = B + 2 := by rw [← hV, hB]; simp
  have loopV : V.heap[B + 1]? = some (.loop (rc .ready none)) := by
    have h := World.alloc_heap_new (w.alloc (.deferred (some []))) (.loop (rc .ready none))
    rw [World.size_alloc, ← hB, hV] at h
    exact h
  have defV : V.heap[B]? = some (.deferred (some [])) := by
    rw [← hV, hB]
    exact (Below.heap_alloc _ _ _ (by simp)).trans (World.alloc_heap_new w _)
  have belV : Below w0.heap.size w0 V := by
    rw [← hV]
    exact hb0.trans ((((Below.refl _ w).alloc (Nat.le_refl _) _).alloc (by simp) _).mono hb0.size)
  have IV : I [] V := by rw [← hV]; exact hI.alloc _ (hI.alloc _ h0)
  have ctr := hseq (B + 1)
    (fun pre W => I pre W ∧ W.heap[B + 1]? = some (.loop (rc .ready none)) ∧ W.heap[B]? = some (.deferred (some [])))
    (fun pre W => ∃ c, Ix c pre W ∧ W.heap[B + 1]? = some (.loop (rc .done (some c))) ∧ W.heap[B]? = some (.deferred (some []))) V belV
  rw [sz] at ctr
  have stay : ∀ {X Y : World} {row : Option Nat} {k : Nat} {o : Obj}, (k = B ∨ k = B + 1) → X.grownBy Y row → (∀ r, row = some r → r = st (B + 2)) → X.heap[k]? = some o → Y.heap[k]? = some o := by
    intro X Y row k o hk hg hr ho
    refine (hg.block k (Array.getElem?_eq_some_iff.1 ho).1 fun e => ?_).trans ho
    have h2 := hr k e.symm
    rcases hk with rfl | rfl
    · exact hst.1 h2.symm
    · exact hst.2 h2.symm
  have hlB : B ≤ B + 1 := Nat.le_succ _
  refine ⟨B + 1, [{ target := .collected B, args := #[] }], V, { target := .fn (.func gf) lb, args := #[.func (.yield (B + 1)) #[] #[]] }, V, gf, #[.func (.yield (B + 1)) #[] #[]] ++ lb, V, ?_, ?_, ?_, ?_, fun _ => h1, ?_⟩
  · rw [← hV, hrc, hB]
    exact run_enterLoop_outer _ _ _ _ _
  · simp only [resolve, hg]
    simp [go_sem]
  · intro f' hf'
    simp [Target.leads] at hf'
    subst hf'
    exact hFg
  · simp [invoke, go_sem, eg]
  refine (ctr ?_ ?_ ?_ ⟨IV, loopV, defV⟩).mono ?_
  · rintro s X Y row ⟨hi, hl, hd⟩ hg hr
    exact ⟨hI s X Y row hi hg (fun r e => .inl (hr r e)), stay (.inr rfl) hg hr hl, stay (.inl rfl) hg hr hd⟩
  · rintro s X Y row ⟨c, hi, hl, hd⟩ hg hr
    exact ⟨c, hIx c s X Y row hi hg (fun r e => .inl (hr r e)), stay (.inr rfl) hg hr hl, stay (.inl rfl) hg hr hd⟩
  · rintro pre x post X hall ⟨hi, hl, hd⟩
    have hy := run_yield (P := P) (args := encs x) hl (by rw [hrc]; exact hps x)
    rw [hrc] at hy
    refine ⟨fn, _, assign, body, hy, roundIn_of_wpIn hfn (hassign _ pre x post X _ hall hi ?_)⟩
    intro a' Y kf kp hi' hax
    have hlY := kf.same _ _ (by omega) hl rfl
    have hdY := kf.same _ _ (by omega) hd rfl
    have ltY : B + 1 < Y.heap.size := (Array.getElem?_eq_some_iff.1 hlY).1
    refine ⟨_, run_beginRound hlY (by rw [hrc]), ?_⟩
    obtain ⟨Z, hZ⟩ : ∃ Z, Y.putObj (B + 1) (.loop { rc .ready none with state := .busy }) = Z := ⟨_, rfl⟩
    rw [hZ]
    have hlZ : Z.heap[B + 1]? = some (.loop { rc .ready none with state := .busy }) := by rw [← hZ]; exact World.putObj_heap_same ltY
    have hdZ : Z.heap[B]? = some (.deferred (some [])) := by rw [← hZ]; exact (World.putObj_heap_other (by omega)).trans hdY
    have iZ : I pre Z := by rw [← hZ]; exact hI.put _ hi' hlB hlY rfl
    have aZ : Ax x a' Z := by rw [← hZ]; exact (hAx x a').put (s := ()) _ hax hlB hlY rfl
    have kZ : Kp (B + 2) X Z := by rw [← hZ, hB]; exact hKt (by rw [← hB]; exact kp) (by rw [← hB]; exact hKb Y _ _ (.inr rfl) ltY)
    have ltZ : B + 1 < Z.heap.size := (Array.getElem?_eq_some_iff.1 hlZ).1
    refine wpIn_mono (hbody _ pre x post a' Z hlB ⟨_, hlZ⟩ ltZ hall iZ aZ) ?_
    have fin : ∀ (j : Option Code) (U : World), KeepsFrom B Z U → U.heap[B + 1]? = some (.loop { rc .ready none with state := .busy }) ∧
        (Instr.endRound (B + 1) j).run P U = .ok (.bool j.isNone) (U.putObj (B + 1) (.loop (rc (if j.isNone then .ready else .done) j))) ∧
        (U.putObj (B + 1) (.loop (rc (if j.isNone then .ready else .done) j))).heap[B + 1]? = some (.loop (rc (if j.isNone then .ready else .done) j)) ∧
        (U.putObj (B + 1) (.loop (rc (if j.isNone then .ready else .done) j))).heap[B]? = some (.deferred (some [])) := by
      intro j U kU
      have hlU := kU.same _ _ (by omega) hlZ rfl
      have hdU := kU.same _ _ (by omega) hdZ rfl
      have he := run_endRound (P := P) j hlU
      refine ⟨hlU, ?_, World.putObj_heap_same (Array.getElem?_eq_some_iff.1 hlU).1, (World.putObj_heap_other (by omega)).trans hdU⟩
      rw [hrc] at he ⊢
      exact he
    rintro e a3 U hp
    cases e with
    | normal =>
      obtain ⟨k3, kp3, i3⟩ := hp
      obtain ⟨hlU, he, h5, h6⟩ := fin none U k3
      refine ⟨_, _, he, .inl ⟨rfl, ⟨hI.put _ i3 hlB hlU rfl, h5, h6⟩, ?_⟩⟩
      rw [hB] at kZ kp3 ⊢
      exact hKt (hKt kZ kp3) (by rw [← hB]; exact hKb U _ _ (.inr rfl) (Array.getElem?_eq_some_iff.1 hlU).1)
    | ret =>
      obtain ⟨k3, i3⟩ := hp
      obtain ⟨hlU, he, h5, h6⟩ := fin (some .ret) U k3
      exact ⟨_, _, he, .inr ⟨rfl, .ret, (hIx _).put _ i3 hlB hlU rfl, h5, h6⟩⟩
    | exit id =>
      obtain ⟨k3, i3⟩ := hp
      obtain ⟨hlU, he, h5, h6⟩ := fin (some (.exit id)) U k3
      exact ⟨_, _, he, .inr ⟨rfl, .exit id, (hIx _).put _ i3 hlB hlU rfl, h5, h6⟩⟩
    | goto t =>
      obtain ⟨k3, i3⟩ := hp
      obtain ⟨hlU, he, h5, h6⟩ := fin (some (.goto t)) U k3
      exact ⟨_, _, he, .inr ⟨rfl, .goto t, (hIx _).put _ i3 hlB hlU rfl, h5, h6⟩⟩
    | panic ch => exact hp.elim
    | outgrown => exact hp.elim
  · rintro e U ⟨⟨v, rfl⟩, h⟩
    rcases h with ⟨hi, hl, hd⟩ | ⟨pre, hpre, c, hi, hl, hd⟩
    · have he := run_endLoop (P := P) hl (by rw [hrc]; simp)
      rw [hrc] at he
      exact ⟨none, _, he, hdone _ (hI.put _ hi hlB hl rfl) ((World.putObj_heap_other (by omega)).trans hd)⟩
    · have he := run_endLoop (P := P) hl (by rw [hrc]; simp)
      rw [hrc] at he
      exact ⟨some c, _, he, hstop c pre _ hpre ((hIx c).put _ hi hlB hl rfl) ((World.putObj_heap_other (by omega)).trans hd)⟩
end Go.Proofs.Ytcgnkbdfoaiaiaa.Rng
end
section
/- Lines of a text: plain lists. -/
set_option linter.unusedVariables false
set_option linter.unusedSimpArgs false
namespace Go.Proofs.Ytcgnkbdfoaiaiaa.Q
open Go
/-- The lines of some bytes: each ends with its line feed, but for the last one. -/
def lnL : List UInt8 → List (List UInt8)
  | [] => []
  | c :: cs => if c = 10 then [c] :: lnL cs else match lnL cs with
    | [] => [[c]]
    | l :: ls => (c :: l) :: ls
def bts (l : List UInt8) : ByteArray := ⟨l.toArray⟩
def lines (s : ByteArray) : List ByteArray := (lnL s.data.toList).map bts
/-- How many bytes the first line has, by where the first line feed stands. -/
def firstLen (l : List UInt8) : Nat := if Lib.indexByte l 10 = -1 then l.length else (Lib.indexByte l 10 + 1).toNat
theorem lnL_cons (c : UInt8) (cs : List UInt8) : lnL (c :: cs) = if c = 10 then [c] :: lnL cs else match lnL cs with
    | [] => [[c]]
    | l :: ls => (c :: l) :: ls := rfl
theorem lnL_step (l : List UInt8) (h : l ≠ []) : lnL l = l.take (firstLen l) :: lnL (l.drop (firstLen l)) ∧ 1 ≤ firstLen l ∧ firstLen l ≤ l.length := by
  induction l with
  | nil => exact absurd rfl h
  | cons c cs ih =>
    have hge := Lib.indexByte_ge cs 10
    rw [lnL_cons]
    by_cases hc : c = 10
    · have e : firstLen (c :: cs) = 1 := by simp [firstLen, Lib.indexByte, hc]
      rw [if_pos hc, e]
      simp
    · have hx : Lib.indexByte (c :: cs) 10 = if Lib.indexByte cs 10 == -1 then -1 else Lib.indexByte cs 10 + 1 := by
        rw [Lib.indexByte]
        simp [hc]
      rw [if_neg hc]
      cases cs with
      | nil =>
        have e : firstLen [c] = 1 := by simp [firstLen, Lib.indexByte, hc]
        rw [e]
        simp [lnL]
      | cons d ds =>
        obtain ⟨h1, h2, h3⟩ := ih (by simp)
        have e : firstLen (c :: d :: ds) = firstLen (d :: ds) + 1 := by
          unfold firstLen at h2 h3 ⊢
          rw [hx]
          by_cases h4 : Lib.indexByte (d :: ds) 10 = -1
          · simp [h4]
          · have h5 : (Lib.indexByte (d :: ds) 10 == -1) = false := by simpa using h4
            rw [h5, if_neg h4]
            simp only [Bool.false_eq_true, if_false]
            rw [if_neg (by omega)]
            omega
        rw [h1, e]
        refine ⟨by simp, by omega, by simp at h3 ⊢; omega⟩
theorem bts_extract (s : ByteArray) (a b : Nat) : s.extract a b = bts ((s.data.toList.drop a).take (b - a)) := by
  unfold bts
  apply ByteArray.ext
  apply Array.toList_inj.1
  rw [ByteArray.data_extract, Array.toList_extract, List.extract_eq_take_drop]
theorem bts_data (s : ByteArray) : bts s.data.toList = s := rfl
theorem data_bts (l : List UInt8) : (bts l).data.toList = l := rfl
theorem lines_step (s : ByteArray) (h : s.data.toList ≠ []) :
    lines s = s.extract 0 (firstLen s.data.toList) :: lines (s.extract (firstLen s.data.toList) s.size) ∧ 1 ≤ firstLen s.data.toList ∧ firstLen s.data.toList ≤ s.size := by
  obtain ⟨h1, h2, h3⟩ := lnL_step _ h
  have h4 : s.data.toList.length = s.size := rfl
  refine ⟨?_, h2, by rw [← h4]; exact h3⟩
  unfold lines
  rw [bts_extract, bts_extract, data_bts, h1, List.map_cons, List.drop_zero, Nat.sub_zero]
  congr 2
  rw [List.take_of_length_le (by rw [List.length_drop, h4]; exact Nat.le_refl _)]
theorem lines_empty (s : ByteArray) (h : s.data.toList = []) : lines s = [] := by unfold lines; rw [h]; rfl
theorem lnL_length_le (l : List UInt8) : (lnL l).length ≤ l.length := by
  induction l with
  | nil => simp [lnL]
  | cons c cs ih =>
    rw [lnL_cons]
    split
    · simp; exact ih
    · split <;> rename_i h <;> simp [h] at ih ⊢
      omega
theorem lines_length_le (s : ByteArray) : (lines s).length ≤ s.size := by
  unfold lines
  rw [List.length_map]
  exact lnL_length_le _
end Go.Proofs.Ytcgnkbdfoaiaiaa.Q
end
section
/- rows.lines: an iterator that keeps what is left of a text in a variable of its own: its promise. -/
set_option linter.unusedVariables false
set_option linter.unusedSimpArgs false
namespace Go.Proofs.Ytcgnkbdfoaiaiaa.Iter
open Go Go.RowKit Go.Shelf Go.Proofs.Ytcgnkbdfoaiaiaa.Rng Go.Proofs.Ytcgnkbdfoaiaiaa.Q
attribute [local go_sem] Oper.semAt_some
set_option maxHeartbeats 1000000 in
theorem lines_in (F : Fence) (n : Nat) (hF : F.fn 46) (hro : F.round = none) (s : ByteArray) (w : World) :
    CallsIn F n Try.prog 46 #[.string s] w fun e w' => e = .returned (.func (.func 57) #[] #[.pointer (some ⟨w.heap.size, 0, none⟩)]) ∧ w' = w.alloc (.cells #[.string s] 9) := by
  refine callsIn_of_wp Try.func46 rfl hF ?_ hro
  simp only [Try.ntmps46, List.size_toArray, List.length_cons, List.length_nil, Nat.reduceAdd, Nat.reduceSub, Array.replicate_succ, Array.replicate_zero, List.push_toArray, List.append_toArray, List.nil_append, List.cons_append]
  gi_wp2
  go_ret
  exact ⟨rfl, rfl⟩
/-- What is left, read off the world. -/
def left (Bs : Nat) (W : World) : Nat := match W.cell? ⟨Bs, 0, none⟩ with
  | some (.string r) => r.size
  | _ => 0
theorem left_eq {W : World} {Bs : Nat} {t : TypeId} {r : ByteArray} (h : Boxed W Bs t (.string r)) : left Bs W = r.size := by
  unfold left
  rw [h.cell]
set_option maxRecDepth 100000 in
set_option maxHeartbeats 2000000 in
theorem lines1_seq (F : Fence) (n : Nat) (hF : F.fn 57) (hI : F.fn 58) (hro : F.round = none) (hn : 1 ≤ n) (hix : ∀ (x : ByteArray) (w : World), CallsIn F (n - 1) Try.prog 58 #[.string x, .string ⟨#[10]⟩] w fun e w' => e = .returned (.int .i64 (Lib.indexByte x.data.toList 10)) ∧ w' = w) (Bs : Nat) (s : ByteArray) (hs : s.size ≤ 9223372036854775807) (w : World) (hb : Boxed w Bs 9 (.string s)) :
    Rng.Seq F n Try.prog 57 #[.pointer (some ⟨Bs, 0, none⟩)] (fun x : ByteArray => #[Value.string x]) (fun _ => Bs) (fun _ W W' => W'.heap[Bs]? = W.heap[Bs]?) (lines s) w := by
  intro l J Jx W hW hJ hJx hY h0
  have hbW : Boxed W Bs 9 (.string s) := (hW.block Bs hb.lt).trans hb
  refine callsIn_of_wp Try.func57 rfl hF ?_ hro
  simp only [Try.ntmps57, List.size_toArray, List.length_cons, List.length_nil, Nat.reduceAdd, Nat.reduceSub, Array.replicate_succ, Array.replicate_zero, List.push_toArray, List.append_toArray, List.nil_append, List.cons_append]
  gi_wp2
  gi_loopw [3] (fun _ wr => ∃ (pre : List ByteArray) (rest : ByteArray), lines s = pre ++ lines rest ∧ rest.size ≤ s.size ∧ Boxed wr Bs 9 (.string rest) ∧ J pre wr) (fun _ wr => left Bs wr)
  case atStart => exact ⟨[], s, rfl, Nat.le_refl _, hbW, h0⟩
  case round =>
    obtain ⟨pre, rest, hall, hle, hbr, hJr⟩ := hrel
    have hc := hbr.cell
    by_cases he : rest.data.toList = []
    · have h1 : rest.toList = [] := by rw [ByteArray.toList_eq]; exact he
      have h2 : (!rest.toList.isEmpty) = false := by rw [h1]; rfl
      gi_wp2
      go_end0
      rw [lines_empty _ he, List.append_nil] at hall
      exact ⟨⟨_, rfl⟩, .inl (by rw [hall]; exact hJr)⟩
    · have h1 : rest.toList.isEmpty = false := by rw [ByteArray.toList_eq]; simpa using he
      obtain ⟨hst, h2, h3⟩ := lines_step rest he
      have hge := Lib.indexByte_ge rest.data.toList 10
      have ct := hix rest wr
      obtain ⟨k, hk⟩ : ∃ k, k = firstLen rest.data.toList := ⟨_, rfl⟩
      have hk' := hk
      unfold firstLen at hk'
      rw [← hk] at h2 h3 hst
      obtain ⟨ix, hx⟩ : ∃ ix, ix = Lib.indexByte rest.data.toList 10 := ⟨_, rfl⟩
      rw [← hx] at hge ct hk'
      have hall' : lines s = pre ++ rest.extract 0 k :: lines (rest.extract k rest.size) := by rw [hall, hst]
      obtain ⟨fn, tmps, assign, body, hy, hR⟩ := hY pre _ _ wr hall' hJr
      have hl4 : rest.data.toList.length = rest.size := rfl
      have HS := Lib.hid hst
      have HX := Lib.hid hx
      have H1 := Lib.hid h1
      have HL := Lib.hid hall
      have HK2 := Lib.hid hk
      have HB := Lib.hid hbr
      by_cases h4 : ix = -1
      · rw [if_pos h4, hl4] at hk'
        have e1 : rest.extract 0 k = rest := by rw [hk']; simp
        rw [e1] at hall' hy hR
        have HK := Lib.hid hk'
        have HA := Lib.hid hall'
        clear hk' hall' hst hx hall hk hl4 e1 hbr
        subst h4
        gi_wp2_with (gi_at_call 58; refine ct.mono ?_; rintro e w' ⟨rfl, rfl⟩)
        refine hR.mono ?_
        rintro e W3 (⟨rfl, hJ3, hk3⟩ | ⟨rfl, hJx3⟩)
        · have hb3 : Boxed W3 Bs 9 (.string rest) := hk3.trans HB.out
          have hc3 := hb3.cell
          have hf3 := hb3.frozen
          gi_wp2
          have hl1 : lines ByteArray.empty = [] := rfl
          have hE : rest.extract k rest.size = ByteArray.empty := by rw [HK.out]; simp
          have HA2 := HA.out
          rw [hE] at HA2
          refine ⟨⟨pre ++ [rest], ByteArray.empty, by rw [HA2]; simp, Nat.zero_le _, hb3.set _, hJ _ _ _ (some Bs) hJ3 (grownBy_setCell' W3 Bs _) (fun r e => by cases e; rfl)⟩, ?_⟩
          rw [left_eq (hb3.set _), left_eq HB.out]
          exact Nat.lt_of_lt_of_le h2 h3
        · gi_wp2
          refine bodyPost_ret (results_none rfl _ _ _) rfl ?_
          exact ⟨⟨_, rfl⟩, .inr ⟨pre ++ [rest], ⟨lines (rest.extract k rest.size), by rw [HA.out]; simp⟩, hJx3⟩⟩
      · have hix0 : 0 ≤ ix := by omega
        rw [if_neg h4] at hk'
        obtain ⟨j, rfl⟩ := Int.eq_ofNat_of_zero_le hix0
        have hkj : k = j + 1 := by omega
        subst hkj
        have HA := Lib.hid hall'
        clear hk' hall' hst hx hall hk hl4 hbr
        gi_wp2_with (gi_at_call 58; refine ct.mono ?_; rintro e w' ⟨rfl, rfl⟩)
        refine hR.mono ?_
        rintro e W3 (⟨rfl, hJ3, hk3⟩ | ⟨rfl, hJx3⟩)
        · have hb3 : Boxed W3 Bs 9 (.string rest) := hk3.trans HB.out
          have hc3 := hb3.cell
          have hf3 := hb3.frozen
          gi_wp2
          refine ⟨⟨pre ++ [rest.extract 0 (j + 1)], rest.extract (j + 1) rest.size, by rw [HA.out]; simp, ?_, hb3.set _, hJ _ _ _ (some Bs) hJ3 (grownBy_setCell' W3 Bs _) (fun r e => by cases e; rfl)⟩, ?_⟩
          · rw [ByteArray.size_extract]; omega
          · rw [left_eq (hb3.set _), left_eq HB.out, ByteArray.size_extract]
            omega
        · gi_wp2
          refine bodyPost_ret (results_none rfl _ _ _) rfl ?_
          exact ⟨⟨_, rfl⟩, .inr ⟨pre ++ [rest.extract 0 (j + 1)], ⟨lines (rest.extract (j + 1) rest.size), by rw [HA.out]; simp⟩, hJx3⟩⟩
end Go.Proofs.Ytcgnkbdfoaiaiaa.Iter
end
section
/- rows.Split: by the iterator's promise. -/
set_option linter.unusedVariables false
set_option linter.unusedSimpArgs false
namespace Go.Proofs.Ytcgnkbdfoaiaiaa.Iter
open Go Go.RowKit Go.Shelf Go.Proofs.Ytcgnkbdfoaiaiaa.Rng Go.Proofs.Ytcgnkbdfoaiaiaa.Q
attribute [local go_sem] Oper.semAt_some
theorem info_str : (Try.prog.info? 9).map (fun i => (i.zero, i.size, i.bytes)) = some (some (.string ByteArray.empty), 1, 16) := by kernel_rfl
theorem index_in (F : Fence) (hw : F = Fence.wide) (n : Nat) (x : ByteArray) (w : World) : CallsIn F n Try.prog 58 #[.string x, .string ⟨#[10]⟩] w fun e w' => e = .returned (.int .i64 (Lib.indexByte x.data.toList 10)) ∧ w' = w := by
  subst hw
  exact callsIn_wide.2 (Try.strings_Index_one x 10 w)
theorem kp_t (Bs : Nat) {X Y Z : World} (h : Y.heap[Bs]? = X.heap[Bs]?) (k : Z.heap[Bs]? = Y.heap[Bs]?) : Z.heap[Bs]? = X.heap[Bs]? := k.trans h
set_option maxRecDepth 100000 in
set_option maxHeartbeats 2000000 in
theorem split_run (s : ByteArray) (hs : s.size ≤ 4294967296) (w : World) :
    Calls Try.prog 31 #[.string s] w fun e w' => ∃ v, e = .returned v ∧ w'.ownsRow w.heap.size 9 1 v (lines s).length ((lines s).map Value.string) ∧ Below w.heap.size w w' := by
  obtain ⟨i0, hi, hz0, hz1, hz2⟩ := info_parts info_str
  have hll := lines_length_le s
  refine (callsIn_wide (n := 9)).1 ?_
  refine callsIn_of_wp_marks Try.func31 rfl trivial ?_ rfl
  simp only [Try.ntmps31, List.size_toArray, List.length_cons, List.length_nil, Nat.reduceAdd, Nat.reduceSub, Array.replicate_succ, Array.replicate_zero, List.push_toArray, List.append_toArray, List.nil_append, List.cons_append]
  gi_wp2_with (refine ⟨trivial, ?_⟩; gi_at_call 46; refine (lines_in Fence.wide _ trivial rfl _ _).mono ?_; rintro e w' ⟨rfl, rfl⟩)
  have bO := (Boxed.new w 44 (.slice none 0 0)).alloc (.cells #[.string s] 9)
  have bS := Boxed.new (w.alloc (.cells #[.slice none 0 0] 44)) 9 (.string s)
  rw [World.size_alloc] at bS
  have hB0 : Below w.heap.size w ((w.alloc (.cells #[.slice none 0 0] 44)).alloc (.cells #[.string s] 9)) := ((Below.refl _ w).alloc (Nat.le_refl _) _).alloc (by simp) _
  obtain ⟨W0, hW0⟩ : ∃ W0, (w.alloc (.cells #[.slice none 0 0] 44)).alloc (.cells #[.string s] 9) = W0 := ⟨_, rfl⟩
  have hz : W0.heap.size = w.heap.size + 2 := by rw [← hW0]; simp
  rw [hW0] at bO bS hB0 ⊢
  refine Rng.range (gf := 57) (lb := #[.pointer (some ⟨w.heap.size + 1, 0, none⟩)]) rfl (by decide) rfl trivial (enters_of Try.func57 (by kernel_rfl) rfl)
    (lines1_seq Fence.wide _ trivial trivial rfl (by decide) (index_in _ rfl _) (w.heap.size + 1) s (by omega) W0 bS) (Below.refl _ _) (fun _ => rfl) ⟨by simp only [hz]; omega, by rw [hz]; omega⟩
    (fun h k => kp_t _ h k) (fun W l o' hl _ => World.putObj_heap_other (by rw [hz] at hl; omega))
    (fun pre W => (∃ v, Boxed W w.heap.size 44 v ∧ W.ownsRow (w.heap.size + 2) 9 1 v pre.length (pre.map Value.string)) ∧ Below w.heap.size w W ∧ w.heap.size + 2 ≤ W.heap.size)
    (fun _ _ _ => False) ?bides (fun _ _ _ _ _ h _ _ => h) ⟨⟨_, bO, World.ownsRow_nil _ _ _ _⟩, hB0, by omega⟩
    (fun x a' _ => a' = { tmps := #[.string s, undef, .pointer (some ⟨w.heap.size, 0, none⟩), .string x, .string s, .func (.func 57) #[] #[.pointer (some ⟨w.heap.size + 1, 0, none⟩)], .string x, undef, undef, undef, undef, undef], defers := [] })
    (fun _ _ _ _ _ _ h _ _ => h) ?assign ?body ?done ?stop
  case bides =>
    rintro pre X Y row ⟨⟨v, hv, hr⟩, hB, hsz⟩ hg hrow
    rw [hz] at hrow
    refine ⟨⟨v, hv.kept hg (fun e => ?_), hr.kept hg ?_⟩, hB.grown hg (by omega) (fun k e => ?_), Nat.le_trans hsz hg.size⟩
    · rcases hrow _ e.symm with h | h
      · omega
      · omega
    · rcases hr.2 with ⟨rfl, _⟩ | ⟨g, cap, cur, rfl, hgb, hh, _⟩
      · exact .inl rfl
      · refine .inr fun e => ?_
        rcases hrow g (by simpa [Value.ownBlock] using e.symm) with h | ⟨_, o, ho, hc⟩
        · omega
        · rw [hh] at ho; cases ho; cases hc
    · rcases hrow k e with h | h
      · omega
      · omega
  case assign =>
    intro l pre x post W K _ hi hK
    gi_wp2
    exact hK _ _ (KeepsFrom.refl _ _) rfl hi rfl
  case body =>
    rintro l pre x post a' W hl hlr hlt hall ⟨⟨v, hv, hrow⟩, hB, hsz⟩ rfl
    have hc := hv.cell
    have hpl : pre.length + 1 ≤ (lines s).length := by rw [hall]; simp
    have HALL := Lib.hid hall
    clear hall
    gi_wp2_with (gi_at_builtin; refine wpListIn_append_own _ rfl _ _ 44 rfl (w.heap.size + 2) 9 i0 (.string ByteArray.empty) 1 16 Try.underlying44 hi hz0 hz1 hz2 rfl (by decide) _ _ _ rfl (hrow.alloc _) ⟨W.heap.size, 0, none⟩ 1 1 [.string x] rfl rfl (cell_one_new _ _ _) (by simp [Value.oneCell']) (by unfold maxLen; omega) (by omega) (by simp; omega) ?_; intro v' w1 hown' hgrow _; obtain ⟨g', cap', rfl⟩ := ownsRow_succ hown'; obtain ⟨hv1, hv2, hr2, hk2, hb2⟩ := hv.appended (n₀ := w.heap.size) (by decide) ⟨hrow.1, hrow.2.imp id fun ⟨g, a, b, h1, h2, h3⟩ => ⟨g, a, b, h1, by omega, h3⟩⟩ (by omega) (Nat.le_refl _) ⟨hown'.1, hown'.2.imp id fun ⟨g, a, b, h1, h2, h3⟩ => ⟨g, a, b, h1, by omega, h3⟩⟩ hgrow; have hc1 := hv1.cell; have hf1 := hv1.frozen)
    have hgB : ∀ k, v.ownBlock = some k → w.heap.size + 2 ≤ k := fun k e => by
      rcases hrow.2 with ⟨rfl, _⟩ | ⟨g, cap, cur, rfl, h1, _⟩
      · simp [Value.ownBlock] at e
      · obtain rfl : g = k := by simpa [Value.ownBlock] using e
        exact h1
    have hown2 := hown'.kept (grownBy_setCell' w1 w.heap.size (.slice (some ⟨g', 0, none⟩) (pre.length + 1) cap')) (.inr (hv1.not_row (by decide) hown').symm)
    refine ⟨hk2.from _, ?_, ⟨_, hv2, by simpa using hown2⟩, hB.trans hb2, Nat.le_trans hsz hb2.size⟩
    refine (Below.heap_setCell w1 _ _ _ (by simp)).trans ((hgrow.block _ (by simp; omega) (fun e => by have := hgB _ e.symm; omega)).trans (Below.heap_alloc W _ _ (by omega)))
  case done =>
    rintro W ⟨⟨v, hv, hrow⟩, hB, hsz⟩ hK
    obtain ⟨A, m, c, rfl⟩ : ∃ A m c, v = .slice A m c := by
      rcases hrow.2 with ⟨rfl, _⟩ | ⟨g, cap, cur, rfl, _⟩
      · exact ⟨_, _, _, rfl⟩
      · exact ⟨_, _, _, rfl⟩
    have hc := hv.cell
    have hf := hv.frozen
    gi_wp2
    have hv1 := hv.set (.slice A m c)
    have hK1 : (W.setCell ⟨w.heap.size, 0, none⟩ (.slice A m c)).heap[W0.heap.size]? = some (.deferred (some [])) := (Below.heap_setCell W _ _ _ (by simp; omega)).trans hK
    have hrow1 := hrow.kept (grownBy_setCell' W w.heap.size (.slice A m c)) (.inr (hv.not_row (by decide) hrow).symm)
    have hv2 := hv1.kept (grownBy_putObj' _ W0.heap.size (.deferred none)) (by simp; omega)
    have hcell := hv2.cell
    have hB1 := hB.setCell (p := ⟨w.heap.size, 0, none⟩) (Nat.le_refl _) (.slice A m c)
    refine ⟨by simp, .inl ⟨_, _, rfl, run_takeDeferred hK1, ?_⟩⟩
    refine ⟨.slice A m c, by simp [results, Try.results31, go_sem, hcell], _, rfl, ownsRow_putObj (⟨hrow1.1, hrow1.2.imp id fun ⟨g, a, b, h1, h2, h3⟩ => ⟨g, a, b, h1, by omega, h3⟩⟩) _ hK1 rfl, hB1.grown (grownBy_putObj' _ _ _) hB1.size (fun k e => by cases e; omega)⟩
  case stop =>
    rintro c pre W _ h _
    exact h.elim
end Go.Proofs.Ytcgnkbdfoaiaiaa.Iter
end
section
/- rows.Split: its contract, as the print asks for it. -/
set_option linter.unusedVariables false
set_option linter.unusedSimpArgs false
namespace Go.Proofs.Ytcgnkbdfoaiaiaa.P
open Go Go.RowKit Go.Shelf Go.Proofs.YtcgnkbdfoaiaiaaW.PrintWords Go.Proofs.YtcgnkbdfoaiaiaaW.PrintLast Go.Proofs.YtcgnkbdfoaiaiaaW.PrintMore Go.Proofs.Ytcgnkbdfoaiaiaa.Rng Go.Proofs.Ytcgnkbdfoaiaiaa.Q Go.Proofs.Ytcgnkbdfoaiaiaa.Iter
def rows_Split.f (s : ByteArray) : Option (List ByteArray) := if s.size ≤ 4294967296 then some (Q.lines s) else none
theorem rows_Split.calls (a0 : ByteArray) (r : List ByteArray) (w : World) (h : rows_Split.f a0 = some r) :
    Calls Try.prog 31 #[.string a0] w fun e w' => ∃ v0_ : Value, e = .returned (v0_) ∧ Kd.R Kd.string 9 w' w.heap.size (fun _ => True) v0_ r ∧ Below w.heap.size w w' := by
  unfold rows_Split.f at h
  split at h
  · rename_i hh
    obtain rfl := Option.some.inj h
    refine (split_run a0 hh w).mono ?_
    rintro e w' ⟨v, rfl, hown, hb⟩
    exact ⟨v, rfl, Kd.R_of_own (h1 := fun _ => rfl) (ok := fun _ => True) hown (fun _ _ => trivial), hb⟩
  · cases h
end Go.Proofs.Ytcgnkbdfoaiaiaa.P
end
section
/- Words of this session: a set of texts that a call makes (a map from texts to bools), told by the list of those laid in. -/
set_option linter.unusedVariables false
set_option linter.unusedSimpArgs false
namespace Go.Proofs.Ytcgnkbdfoaiaiaa.HSet
open Go Go.RowKit Go.Maps Go.WideMaps
/-- Block b is a set of texts, at most n times written, that holds those of S. -/
def Has (P : Program) (k e : TypeId) (w : World) (b n : Nat) (S : List ByteArray) : Prop :=
  ∃ D : DataW Unit, w.ownsMap P k (plainElem P e) b n D ∧ IsMap D ∧ ∀ s : ByteArray, s.size ≤ maxLen → D.atKey (.string s.data.toList) (.lit (.bool false)) = .lit (.bool (decide (s ∈ S)))
section
variable {P : Program} {k e t : TypeId} {w w' : World} {b n : Nat} {S : List ByteArray}
theorem isKeyLit_string (l : List UInt8) : WideAt.IsKeyLit (.string l) := by trivial
theorem string_lit_ne {s s' : ByteArray} (h : s ≠ s') : (Lit.string s'.data.toList) ≠ (Lit.string s.data.toList) := by
  intro hl
  injection hl with hl
  apply h
  cases s with | mk a => cases s' with | mk a' =>
  congr 1
  exact (Array.toList_inj.1 hl).symm
theorem Has.made (w : World) (P : Program) (k e : TypeId) : Has P k e (w.alloc (.map #[] 0)) w.heap.size 0 [] :=
  ⟨.map [], World.ownsMap_made _ _ _ _, isMap_empty, fun s _ => rfl⟩
theorem Has.mono {n' : Nat} (h : Has P k e w b n S) (hn : n ≤ n') : Has P k e w b n' S := by
  obtain ⟨D, h1, h2⟩ := h
  exact ⟨D, h1.mono hn, h2⟩
theorem Has.lt (h : Has P k e w b n S) : b < w.heap.size := by
  obtain ⟨D, h1, _⟩ := h
  exact h1.lt
theorem Has.grown {row : Option Nat} (h : Has P k e w b n S) (hg : w.grownBy w' row) (hne : some b ≠ row) : Has P k e w' b n S := by
  obtain ⟨D, h1, h2⟩ := h
  exact ⟨D, h1.kept hg hne, h2⟩
theorem Has.block (h : Has P k e w b n S) (hb : w'.heap[b]? = w.heap[b]?) : Has P k e w' b n S := by
  obtain ⟨D, ⟨es, clock, h1, h3⟩, h2⟩ := h
  exact ⟨D, ⟨es, clock, hb.trans h1, h3⟩, h2⟩
theorem Has.below (h : Has P k e w b n S) (hb : Below w.heap.size w w') : Has P k e w' b n S := h.block (hb.block b h.lt)
theorem plainElem_bool_inv {H : Type} (he : P.underlying e = some .bool) {v : Value} {z : DataW H × List MemPlace} (h : plainElem P e v = some z) : ∃ x, v = .bool x ∧ z = (.lit (.bool x), []) := by
  unfold plainElem at h
  rw [he] at h
  cases v <;> simp at h
  exact ⟨_, rfl, h.symm⟩
/-- 'm[s]': its run. -/
theorem Has.look (h : Has P k e w b n S) (hk : P.underlying k = some .string) (ht : P.underlying t = some (.map k e)) (he : P.underlying e = some .bool) (hz : (zeroValue e).run P w = .ok (.bool false) w) {s : ByteArray} (hs : s.size ≤ maxLen) :
    (Instr.lookup t (.map (some b)) (.string s) false).run P w = .ok (.bool (decide (s ∈ S))) w := by
  obtain ⟨D, h1, h2, h3⟩ := h
  obtain ⟨v, ps, hrun, hv⟩ := h1.lookup (string_keyed hk) ht hz (plainElem_bool he false) (keyOf_string_mk hk hs)
  obtain ⟨x, rfl, hx⟩ := plainElem_bool_inv he hv
  rw [h3 s hs] at hx
  simp only [Prod.mk.injEq] at hx
  injection hx.1 with hx
  injection hx with hx
  rw [hrun, hx]
/-- 'm[s] = true': its run. -/
theorem Has.put (h : Has P k e w b n S) (hk : P.underlying k = some .string) (ht : P.underlying t = some (.map k e)) (he : P.underlying e = some .bool) (hn : n < maxLen) {s : ByteArray} (hs : s.size ≤ maxLen) :
    ∃ w', (Instr.mapUpdate t (.map (some b)) (.string s) (.bool true)).run P w = .ok () w' ∧ Has P k e w' b (n + 1) (s :: S) ∧ w.grownBy w' (some b) := by
  obtain ⟨D, h1, h2, h3⟩ := h
  obtain ⟨w', hrun, hown, hgr⟩ := h1.update (string_keyed hk) ht hn (keyOf_string_mk hk hs) (plainElem_bool he true)
  refine ⟨w', hrun, ⟨_, hown, h2.put _ _, fun s' hs' => ?_⟩, hgr⟩
  by_cases heq : s' = s
  · subst heq
    rw [atKey_put_same h2 (isKeyLit_string _) _ _]
    simp
  · rw [atKey_put_other (string_lit_ne (fun h => heq h.symm)), h3 s' hs']
    simp [heq]
variable {ops : Array Oper} {rest : List Oper} {o : Oper} {a : Act} {Q : Exit → Act → World → Prop}
/-- 'm[s] = true' at the operation. -/
theorem wp_set_update (hg : o.guard = none) (m x v : Operand) (t : TypeId) (hop : o.op = Op.mapUpdate t m x v)
    (hk : P.underlying k = some .string) (ht : P.underlying t = some (.map k e)) (he : P.underlying e = some .bool) (b n : Nat) (S : List ByteArray)
    (hm : a.eval m = .map (some b)) (h : Has P k e w b n S) (hn : n < maxLen) (s : ByteArray) (hs : s.size ≤ maxLen) (hx : a.eval x = .string s) (hv : a.eval v = .bool true)
    (hK : ∀ w', Has P k e w' b (n + 1) (s :: S) → w.grownBy w' (some b) → wpList P ops Q rest (a.put o.dst undef) w') : wpList P ops Q (o :: rest) a w := by
  refine wpList_plain hg fun K' hK' => ?_
  obtain ⟨w', hrun, r1, r2⟩ := h.put hk ht he hn hs
  unfold Oper.wp
  simp [execOp, hop, hm, hx, hv, hrun, Result.andThen]
  exact hK' _ _ (hK w' r1 r2)
end
end Go.Proofs.Ytcgnkbdfoaiaiaa.HSet
end
section
/- rename.files: its contract; by a walk of its text. -/
set_option linter.unusedVariables false
set_option linter.unusedSimpArgs false
namespace Go.Proofs.Ytcgnkbdfoaiaiaa.P
open Go Go.RowKit Go.Proofs.YtcgnkbdfoaiaiaaW.PrintWords Go.Proofs.YtcgnkbdfoaiaiaaW.PrintLast Go.Proofs.YtcgnkbdfoaiaiaaW.PrintMore Go.Proofs.Ytcgnkbdfoaiaiaa.HSet
structure Fe where
  p : ByteArray
  v : Value
  l : List ByteArray
def Fe.cells (e : Fe) : List Value := [.string e.p, e.v]
def Fe.plain (e : Fe) : ByteArray × List ByteArray := (e.p, e.l)
def fflat (es : List Fe) : List Value := es.flatMap Fe.cells
theorem fflat_length (es : List Fe) : (fflat es).length = es.length * 2 := by
  induction es with
  | nil => rfl
  | cons e es ih => simp only [fflat, List.flatMap_cons, List.length_append, List.length_cons] at ih ⊢; rw [ih]; simp [Fe.cells]; omega
theorem fflat_snoc (es : List Fe) (e : Fe) : fflat (es ++ [e]) = fflat es ++ e.cells := by simp [fflat]
/-- v is the files es, from base on. -/
def Fls (base : Nat) (w : World) (v : Value) (es : List Fe) : Prop :=
  w.ownsRow base 46 2 v es.length (fflat es) ∧ ∀ e ∈ es, w.ownsRow base 9 1 e.v e.l.length (encs Value.string e.l)
theorem Fls.nil (base : Nat) (w : World) : Fls base w (.slice none 0 0) [] := ⟨own_nil _ _ _ _, by simp⟩
theorem Fls.below {base : Nat} {w w' : World} {v : Value} {es : List Fe} (h : Fls base w v es) (hb : Below w.heap.size w w') : Fls base w' v es := ⟨pw_own_below h.1 hb, fun e he => pw_own_below (h.2 e he) hb⟩
theorem Fls.drewN {base : Nat} {w : World} {v : Value} {es : List Fe} (h : Fls base w v es) (m : Nat) : Fls base (w.drewN m) v es := h
theorem own_not_map {base e size n : Nat} {w : World} {v : Value} {xs : List Value} (h : w.ownsRow base e size v n xs) {b : Nat} {es : Array MapEntry} {c : Nat} (hb : w.heap[b]? = some (.map es c)) : some b ≠ v.ownBlock := by
  rcases h.2 with ⟨rfl, _⟩ | ⟨g, cap, cur, rfl, _, hh, _⟩
  · simp [Value.ownBlock]
  · intro he
    have : b = g := by simpa [Value.ownBlock] using he
    subst this
    rw [hb] at hh
    cases hh
theorem has_ne_own {P : Program} {k e b n : Nat} {w : World} {S : List ByteArray} (h : Has P k e w b n S) {base t size m : Nat} {v : Value} {xs : List Value} (ho : w.ownsRow base t size v m xs) : some b ≠ v.ownBlock := by
  obtain ⟨D, ⟨es, clock, h1, _⟩, _⟩ := h
  exact own_not_map ho h1
theorem Fls.turned {base : Nat} {w w' : World} {v : Value} {es : List Fe} (h : Fls base w v es) {b : Nat} (hg : w.grownBy w' (some b)) (hne : ∀ v' e' s' n' xs', w.ownsRow base e' s' v' n' xs' → some b ≠ v'.ownBlock) : Fls base w' v es :=
  ⟨h.1.kept hg (.inr (fun e => hne _ _ _ _ _ h.1 e.symm)), fun e he => (h.2 e he).kept hg (.inr (fun e' => hne _ _ _ _ _ (h.2 e he) e'.symm))⟩
def stepF (st : List ByteArray × List (ByteArray × List ByteArray)) (x : S33) : List ByteArray × List (ByteArray × List ByteArray) :=
  if x.f1 = 2 ∧ x.f0 ∉ st.1 then (x.f0 :: st.1, st.2 ++ [(x.f0, Q.lines x.f2)]) else st
def filesL (l : List S33) : List (ByteArray × List ByteArray) := (l.foldl stepF ([], [])).2
/-- Items of which one can tell. -/
def ItemsOk (l : List S33) : Prop := l.length ≤ 1000000 ∧ ∀ x ∈ l, x.f0.size ≤ 4294967296 ∧ x.f2.size ≤ 4294967296
instance (l : List S33) : Decidable (ItemsOk l) := by unfold ItemsOk; infer_instance
set_option maxRecDepth 100000 in
set_option maxHeartbeats 4000000 in
theorem files_run (A0 : Option Addr) (c0 : Nat) (l0 : List S33) (w : World) (hr0 : Kd.C k33 w A0 l0.length l0) (hc0 : l0.length ≤ c0) (hok : ItemsOk l0) :
    Calls Try.prog 15 #[.slice A0 l0.length c0] w fun e w' => ∃ v es, e = .returned v ∧ Fls w.heap.size w' v es ∧ es.map Fe.plain = filesL l0 ∧ Below w.heap.size w w' := by
  obtain ⟨hl, hsz⟩ := hok
  have HR0 := Lib.hid hr0
  have HSZ := Lib.hid hsz
  have hmm := @run_makeMap Try.prog
  clear hr0 hsz
  go_enter Try.func15, Try.ntmps15
  go_wp2
  go_loopw [2, 9] (fun v2 v9 wr => ∃ (i : Nat) (es : List Fe) (S : List ByteArray), v9 = .int .i64 (i : Int) ∧ i ≤ l0.length ∧ es.length ≤ i ∧ Hid (Has Try.prog 9 4 wr w.heap.size i S) ∧ Hid (Fls w.heap.size wr v2 es) ∧ Hid ((l0.take i).foldl stepF ([], []) = (S, es.map Fe.plain)) ∧ Hid (Below w.heap.size w wr)) (fun _ v9 _ => l0.length - (intOf v9).toNat)
  case atStart => exact ⟨0, [], [], rfl, Nat.zero_le _, Nat.zero_le _, Has.made _ _ _ _, Fls.nil _ _, rfl, (Below.refl _ _).alloc (Nat.le_refl _) _⟩
  case round =>
    obtain ⟨i, es, S, rfl, hi, hes, HM, HF, HL, HB⟩ := hrel
    by_cases ci : i < l0.length
    · have cb : decide ((i : Int) < (l0.length : Int)) = true := decide_eq_true (by omega)
      have cb' : decide (i < l0.length) = true := decide_eq_true ci
      obtain ⟨ad, rfl, hx0, hx1, hx2, hx3⟩ := at_T33 HR0.out (i : Int) (by omega) (by omega)
      have hE0 : l0[i] = rd_T33 l0 (i : Int) := by simp [rd_T33, List.getD_eq_getElem?_getD, List.getElem?_eq_getElem ci]
      obtain ⟨x, hx⟩ : ∃ x, x = rd_T33 l0 (i : Int) := ⟨_, rfl⟩
      rw [← hx] at hx0 hx1 hx2 hx3 hE0
      have HTK := Lib.hid (show (l0.take (i + 1)).foldl stepF ([], []) = stepF (S, es.map Fe.plain) x by rw [List.take_succ_eq_append_getElem ci, List.foldl_append, HL.out, hE0]; rfl)
      have HXS := Lib.hid (HSZ.out x (by rw [← hE0]; exact List.getElem_mem ci))
      rw [Int.toNat_natCast] at hx0 hx1 hx2 hx3
      have y0 := (HB.out.cell (World.block_lt_of_cell? w _ hx0)).trans hx0
      have y1 := (HB.out.cell (World.block_lt_of_cell? w _ hx1)).trans hx1
      have y2 := (HB.out.cell (World.block_lt_of_cell? w _ hx2)).trans hx2
      have y3 := (HB.out.cell (World.block_lt_of_cell? w _ hx3)).trans hx3
      have p1 := eq_true (show 0 ≤ (i : Int) by omega)
      have q1 := eq_true (show (i : Int) < (l0.length : Int) by omega)
      obtain ⟨Ao, co, rfl⟩ := own_slice HF.out.1
      obtain ⟨X, hX⟩ : ∃ X, X = wr.alloc (.cells #[.string x.f0, .int .i64 x.f1, .string x.f2, .bool x.f3] 33) := ⟨_, rfl⟩
      have qX : X.heap[wr.heap.size]? = some (.cells #[.string x.f0, .int .i64 x.f1, .string x.f2, .bool x.f3] 33 (0, 0)) := by rw [hX]; exact heap_alloc_new wr _
      have bX : Below wr.heap.size wr X := by rw [hX]; exact (Below.refl _ _).alloc (Nat.le_refl _) _
      have z0 : X.cell? ⟨wr.heap.size, 0, none⟩ = some (.string x.f0) := by simp [World.cell?, qX]
      have z1 : X.cell? ⟨wr.heap.size, 1, none⟩ = some (.int .i64 x.f1) := by simp [World.cell?, qX]
      have z2 : X.cell? ⟨wr.heap.size, 2, none⟩ = some (.string x.f2) := by simp [World.cell?, qX]
      have HMX := Lib.hid (HM.out.below bX)
      have HFX := Lib.hid (HF.out.below bX)
      have HBX := Lib.hid (HB.out.trans (bX.mono HB.out.size))
      have HQX := Lib.hid qX
      have HXX := Lib.hid hX
      have HSX := Lib.hid bX.size
      have HLT := Lib.hid HM.out.lt
      clear hx hx0 hx1 hx2 hx3 hE0 hX qX bX
      by_cases k1 : x.f1 = 2
      · have kb1 : (x.f1 == 2) = true := beq_iff_eq.2 k1
        have hlk := HMX.out.look (t := 52) Try.underlying9 Try.underlying52 Try.underlying4 (by kernel_rfl) (s := x.f0) (by have := HXS.out.1; unfold maxLen; omega)
        by_cases k2 : x.f0 ∈ S
        · have hk2 : decide (x.f0 ∈ S) = true := decide_eq_true k2
          rw [hk2] at hlk
          have HST := Lib.hid (show (l0.take (i + 1)).foldl stepF ([], []) = (S, es.map Fe.plain) by rw [HTK.out]; unfold stepF; rw [if_neg (fun h => h.2 k2)])
          clear k1 k2 hk2
          go_wp2_with (first | rw [← HXX.out])
          exact ⟨⟨i + 1, es, S, by simp, ci, by omega, HMX.out.mono (by omega), HFX, HST, HBX⟩, by simp [intOf]; omega⟩
        · have hk2 : decide (x.f0 ∈ S) = false := decide_eq_false k2
          rw [hk2] at hlk
          have HST := Lib.hid (show (l0.take (i + 1)).foldl stepF ([], []) = (x.f0 :: S, es.map Fe.plain ++ [(x.f0, Q.lines x.f2)]) by rw [HTK.out]; unfold stepF; rw [if_pos ⟨k1, k2⟩])
          clear k1 k2 hk2
          go_wp2_with (first | rw [← HXX.out] | (at_mapUpdate; refine wp_set_update rfl _ _ _ 52 rfl Try.underlying9 Try.underlying52 Try.underlying4 w.heap.size i S rfl HMX.out (by unfold maxLen; omega) x.f0 (by have := HXS.out.1; unfold maxLen; omega) rfl rfl ?_; intro w1 hm1 hg1; have HM1 := Lib.hid hm1; have HG1 := Lib.hid hg1; clear hm1 hg1))
          have hbl : ∀ v' e' s' n' xs', X.ownsRow w.heap.size e' s' v' n' xs' → some w.heap.size ≠ v'.ownBlock := fun v' e' s' n' xs' ho => has_ne_own HMX.out ho
          have HF1 := Lib.hid (HFX.out.turned HG1.out hbl)
          have q1' : w1.heap[wr.heap.size]? = some (.cells #[.string x.f0, .int .i64 x.f1, .string x.f2, .bool x.f3] 33 (0, 0)) := (HG1.out.block _ (blk_lt HQX.out) (by have := HLT.out; simp; omega)).trans HQX.out
          have HB1 := Lib.hid (HBX.out.grown HG1.out HBX.out.size (fun k hk => by injection hk with hk; omega))
          obtain ⟨Z, hZ⟩ : ∃ Z, Z = w1.drew := ⟨_, rfl⟩
          have qZ : Z.heap[wr.heap.size]? = some (.cells #[.string x.f0, .int .i64 x.f1, .string x.f2, .bool x.f3] 33 (0, 0)) := by rw [hZ]; exact q1'
          have m0 : Z.cell? ⟨wr.heap.size, 0, none⟩ = some (.string x.f0) := by simp [World.cell?, qZ]
          have m2 : Z.cell? ⟨wr.heap.size, 2, none⟩ = some (.string x.f2) := by simp [World.cell?, qZ]
          have HZ8 := Lib.hid (show ∀ b ∈ [wr.heap.size], b < Z.heap.size by intro b hb; rw [List.mem_singleton.1 hb]; exact blk_lt qZ)
          have bZ : Below w1.heap.size w1 Z := by rw [hZ]; exact (Below.refl _ _).drew
          have HMZ := Lib.hid (HM1.out.below bZ)
          have HFZ := Lib.hid (HF1.out.below bZ)
          have HBZ := Lib.hid (HB1.out.trans (bZ.mono HB1.out.size))
          have HZZ := Lib.hid hZ
          have HNX := Lib.hid (own_ne HF1.out.1 q1' (by decide))
          have CO := Lib.hid (Iter.split_run x.f2 HXS.out.2 Z)
          clear hZ qZ bZ q1' hbl
          refine (wpIn_wide (n := 9)).1 ?_
          refine Held.region 9 (Held.Same Z [wr.heap.size]) (by kernel_rfl) ?_
          rw [← HZZ.out]
          have hT := Held.Same.refl Z [wr.heap.size]
          refine Held.tk (i := 0) rfl hT ?_
          try simp only [Act.put, List.setIfInBounds_toArray, List.set_cons_zero, List.set_cons_succ]
          refine Held.tk (i := 1) rfl hT ?_
          try simp only [Act.put, List.setIfInBounds_toArray, List.set_cons_zero, List.set_cons_succ]
          refine Held.tk (i := 2) rfl hT ?_
          try simp only [Act.put, List.setIfInBounds_toArray, List.set_cons_zero, List.set_cons_succ]
          refine Held.tk (i := 3) rfl hT ?_
          try simp only [Act.put, List.setIfInBounds_toArray, List.set_cons_zero, List.set_cons_succ]
          refine Held.tk (i := 4) rfl hT ?_
          try simp only [Act.put, List.setIfInBounds_toArray, List.set_cons_zero, List.set_cons_succ]
          refine Held.AnyS.step (i := 5) rfl (by kernel_rfl) rfl (fun K hK => ?_)
          go_simp
          first | refine ⟨trivial, ?_⟩ | skip
          refine (callsIn_wide.2 CO.out).mono ?_
          rintro e Y5 ⟨vL, rfl, hRL, hbY5⟩
          have hT2 := hT.below hbY5 HZ8.out
          have HRL := Lib.hid hRL
          have HBY5 := Lib.hid hbY5
          obtain ⟨AL, cL, rfl⟩ := own_slice hRL
          clear hRL hbY5
          refine hK.out _ _ (fun _ => hT2) ?_
          clear hK K
          try simp only [Act.put, List.setIfInBounds_toArray, List.set_cons_zero, List.set_cons_succ]
          refine Held.tk (i := 6) rfl hT2 ?_
          try simp only [Act.put, List.setIfInBounds_toArray, List.set_cons_zero, List.set_cons_succ]
          refine Held.AnyS.step (i := 7) rfl (by kernel_rfl) rfl (fun K hK => ?_)
          go_simp
          have hT3 := hT2.grown (World.grownBy_alloc Y5 (.cells #[.string x.f0, .slice AL (Q.lines x.f2).length cL] 46) none) (fun b hb => ⟨HZ8.out b hb, by simp⟩)
          refine hK.out _ _ (fun _ => hT3) ?_
          clear hK K
          try simp only [Act.put, List.setIfInBounds_toArray, List.set_cons_zero, List.set_cons_succ]
          obtain ⟨w2, hw2⟩ : ∃ w2, w2 = Y5.alloc (.cells #[.string x.f0, .slice AL (Q.lines x.f2).length cL] 46) := ⟨_, rfl⟩
          have b82 : Below Z.heap.size Z w2 := by rw [hw2]; exact HBY5.out.alloc HBY5.out.size _
          have sZ := HBZ.out.size
          have nw : ∀ j u, [Value.string x.f0, .slice AL (Q.lines x.f2).length cL][j]? = some u → w2.cell? ((⟨Y5.heap.size, 0, none⟩ : Addr).add j) = some u := by
            rw [hw2]
            simpa using World.news_of_block (cs := #[Value.string x.f0, .slice AL (Q.lines x.f2).length cL]) (t := 46) (fr := (0, 0)) (heap_alloc_new Y5 _)
          have lns : w2.ownsRow w.heap.size 9 1 (.slice AL (Q.lines x.f2).length cL) (Q.lines x.f2).length (encs Value.string (Q.lines x.f2)) := by
            rw [hw2]
            exact own_alloc (own_less HRL.out (by omega)) _
          have SY := HFZ.out.below b82
          have MY := HMZ.out.below b82
          have S2 := SY.1
          have ne8 : ∀ b ∈ [wr.heap.size], some b ≠ (Value.slice Ao es.length co).ownBlock := fun b hb => by
            rw [List.mem_singleton.1 hb]; exact HNX.out
          rw [← hw2] at hT3 ⊢
          clear hw2
          refine Held.AnyS.step (i := 8) rfl (by kernel_rfl) rfl (fun K hK => ?_)
          refine Held.append_at (.tmp 26) (.tmp 33) 42 rfl w.heap.size 46 (.agg #[.string ⟨#[]⟩, .slice none 0 0]) 2 40 Try.underlying42 (by kernel_rfl) rfl (by omega) (.slice Ao es.length co) es.length (fflat es) rfl S2 ⟨Y5.heap.size, 0, none⟩ 1 1 [.string x.f0, .slice AL (Q.lines x.f2).length cL] rfl rfl nw ?_ ?_ ?_ ?_ ?_
          · intro u hu; simp at hu; rcases hu with rfl | rfl <;> rfl
          · simp only [maxLen]; omega
          · omega
          · have := b82.size; omega
          intro v1 w3 hown hgr hat1
          obtain ⟨A5, c5, rfl⟩ := own_slice hown
          have hT4 : Held.Same Z [wr.heap.size] w3 := hT3.grown hgr (fun b hb => ⟨HZ8.out b hb, ne8 b hb⟩)
          have HM3 := Lib.hid (MY.grown hgr (has_ne_own MY S2))
          have HF3 := Lib.hid (show Fls w.heap.size w3 (.slice A5 (es.length + 1) c5) (es ++ [⟨x.f0, .slice AL (Q.lines x.f2).length cL, Q.lines x.f2⟩]) from ⟨by rw [fflat_snoc, List.length_append]; exact hown, fun e he => by
            rcases List.mem_append.1 he with he | he
            · exact own_other (SY.2 e he) hgr (own_type_ne (SY.2 e he) S2 (by decide))
            · rw [List.mem_singleton.1 he]; exact own_other lns hgr (own_type_ne lns S2 (by decide))⟩)
          have HB3 := Lib.hid ((HBZ.out.trans (b82.mono sZ)).grown hgr (by have := b82.size; omega) (own_base S2))
          clear hown hgr hat1 S2 SY MY nw lns b82 ne8
          refine hK.out _ _ (fun _ => hT4) ?_
          clear hK K hT hT2 hT3 hT4
          try simp only [Act.put, List.setIfInBounds_toArray, List.set_cons_zero, List.set_cons_succ]
          refine Held.AnyS.step (i := 9) rfl (by kernel_rfl) rfl (fun K hK => ?_)
          go_simp
          refine hK.out _ _ (fun h => absurd h (by omega)) ?_
          clear hK K
          refine Held.AnyS.done (by kernel_rfl) ?_ _
          go_simp
          go_wp2
          exact ⟨⟨i + 1, _, _, by simp, ci, by simp; omega, HM3, HF3, Lib.hid (by rw [HST.out, List.map_append]; rfl), HB3⟩, by simp [intOf]; omega⟩
      · have kb1 : (x.f1 == 2) = false := beq_eq_false_iff_ne.2 k1
        have HST := Lib.hid (show (l0.take (i + 1)).foldl stepF ([], []) = (S, es.map Fe.plain) by rw [HTK.out]; unfold stepF; rw [if_neg (fun h => k1 h.1)])
        clear k1
        go_wp2_with (first | rw [← HXX.out])
        exact ⟨⟨i + 1, es, S, by simp, ci, by omega, HMX.out.mono (by omega), HFX, HST, HBX⟩, by simp [intOf]; omega⟩
    · have cb : decide ((i : Int) < (l0.length : Int)) = false := decide_eq_false (by omega)
      have cb' : decide (i < l0.length) = false := decide_eq_false ci
      obtain rfl : i = l0.length := by omega
      have HP := Lib.hid (show es.map Fe.plain = filesL l0 by have h := HL.out; rw [List.take_length] at h; unfold filesL; rw [h])
      clear HL
      go_wp2
      go_ret
      exact ⟨_, es, rfl, HF.out, HP.out, HB.out⟩
end Go.Proofs.Ytcgnkbdfoaiaiaa.P
end
section
/- Words of this session: a map from texts to numbers (or bools) that a call makes, told by a plain function. -/
set_option linter.unusedVariables false
set_option linter.unusedSimpArgs false
namespace Go.Proofs.Ytcgnkbdfoaiaiaa.HMap
open Go Go.RowKit Go.Maps Go.WideMaps

/-- Block b is a map of at most n entries, from texts to whole numbers, whose value at s is f s (0 where there is none). -/
def Cnt (P : Program) (k e : TypeId) (w : World) (b n : Nat) (f : ByteArray → Int) : Prop :=
  ∃ D : DataW Unit, w.ownsMap P k (plainElem P e) b n D ∧ IsMap D ∧ ∀ s : ByteArray, s.size ≤ maxLen → D.atKey (.string s.data.toList) (.lit (.int .i64 0)) = .lit (.int .i64 (f s))

section
variable {P : Program} {k e t : TypeId} {w w' : World} {b n : Nat} {f : ByteArray → Int}

theorem isKeyLit_string (l : List UInt8) : WideAt.IsKeyLit (.string l) := by trivial

theorem string_lit_ne {s s' : ByteArray} (h : s ≠ s') : (Lit.string s'.data.toList) ≠ (Lit.string s.data.toList) := by
  intro hl
  injection hl with hl
  apply h
  cases s with | mk a => cases s' with | mk a' =>
  congr 1
  exact (Array.toList_inj.1 hl).symm

theorem Cnt.made (w : World) (P : Program) (k e : TypeId) : Cnt P k e (w.alloc (.map #[] 0)) w.heap.size 0 (fun _ => 0) :=
  ⟨.map [], World.ownsMap_made _ _ _ _, isMap_empty, fun s _ => rfl⟩

theorem Cnt.mono {n' : Nat} (h : Cnt P k e w b n f) (hn : n ≤ n') : Cnt P k e w b n' f := by
  obtain ⟨D, h1, h2⟩ := h
  exact ⟨D, h1.mono hn, h2⟩

theorem Cnt.congr {f' : ByteArray → Int} (h : Cnt P k e w b n f) (hf : ∀ s, f s = f' s) : Cnt P k e w b n f' := by
  have : f = f' := funext hf
  rwa [← this]

theorem Cnt.lt (h : Cnt P k e w b n f) : b < w.heap.size := by
  obtain ⟨D, h1, _⟩ := h
  exact h1.lt

theorem Cnt.grown {row : Option Nat} (h : Cnt P k e w b n f) (hg : w.grownBy w' row) (hne : some b ≠ row) : Cnt P k e w' b n f := by
  obtain ⟨D, h1, h2⟩ := h
  exact ⟨D, h1.kept hg hne, h2⟩

theorem Cnt.block (h : Cnt P k e w b n f) (hb : w'.heap[b]? = w.heap[b]?) : Cnt P k e w' b n f := by
  obtain ⟨D, ⟨es, clock, h1, h3⟩, h2⟩ := h
  exact ⟨D, ⟨es, clock, hb.trans h1, h3⟩, h2⟩

theorem Cnt.below (h : Cnt P k e w b n f) (hb : Below w.heap.size w w') : Cnt P k e w' b n f := h.block (hb.block b h.lt)

theorem turned_below {B : Nat} {w0 w w' : World} (hB : Below B w0 w) (h : w.mapTurned w' b) (hb : B ≤ b) : Below B w0 w' := by
  obtain ⟨es, clock, es', clock', h1, rfl⟩ := h
  refine hB.trans ⟨rfl, rfl, rfl, by simp [ChangeMaps.setBlock], fun i hi => ?_⟩
  exact ChangeMaps.heap_setBlock_other h1 _ (by omega)

theorem turned_block {w w' : World} (h : w.mapTurned w' b) {i : Nat} (hi : i ≠ b) : w'.heap[i]? = w.heap[i]? := by
  obtain ⟨es, clock, es', clock', h1, rfl⟩ := h
  exact ChangeMaps.heap_setBlock_other h1 _ hi

theorem grown_block {w w' : World} {row : Option Nat} (h : w.grownBy w' row) {i : Nat} (hl : i < w.heap.size) (hi : some i ≠ row) : w'.heap[i]? = w.heap[i]? := h.block i hl hi

variable {ops : Array Oper} {rest : List Oper} {o : Oper} {a : Act} {Q : Exit → Act → World → Prop}

/-- 'm[s]' at the operation. -/
theorem wp_cnt_lookup (hg : o.guard = none) (m x : Operand) (t : TypeId) (hop : o.op = Op.lookup t m x false)
    (hk : P.underlying k = some .string) (ht : P.underlying t = some (.map k e)) (he : P.underlying e = some (.int .i64)) (hz : (zeroValue e).run P w = .ok (.int .i64 0) w) (b n : Nat) (f : ByteArray → Int)
    (hm : a.eval m = .map (some b)) (h : Cnt P k e w b n f) (s : ByteArray) (hs : s.size ≤ maxLen) (hx : a.eval x = .string s)
    (hK : wpList P ops Q rest (a.put o.dst (.int .i64 (f s))) w) : wpList P ops Q (o :: rest) a w := by
  obtain ⟨D, h1, h2, h3⟩ := h
  refine wpList_lookup_own_int (H := Unit) w hg m x t hop k e .i64 (string_keyed hk) ht he hz b n D hm h1 (.string s) _ hx (keyOf_string_mk hk hs) ?_
  intro c hat hwc
  rw [h3 s hs] at hat
  injection hat with hat
  injection hat with _ hat
  subst hat
  exact hK

/-- 'm[s] = v' at the operation. -/
theorem wp_cnt_update (hg : o.guard = none) (m x v : Operand) (t : TypeId) (hop : o.op = Op.mapUpdate t m x v)
    (hk : P.underlying k = some .string) (ht : P.underlying t = some (.map k e)) (he : P.underlying e = some (.int .i64)) (b n : Nat) (f : ByteArray → Int)
    (hm : a.eval m = .map (some b)) (h : Cnt P k e w b n f) (hn : n < maxLen) (s : ByteArray) (hs : s.size ≤ maxLen) (hx : a.eval x = .string s) (z : Int) (hv : a.eval v = .int .i64 z) (hz : (Lit.int .i64 z).wf = true)
    (hK : ∀ w', Cnt P k e w' b (n + 1) (fun s' => if s' = s then z else f s') → w.grownBy w' (some b) → wpList P ops Q rest (a.put o.dst undef) w') : wpList P ops Q (o :: rest) a w := by
  obtain ⟨D, h1, h2, h3⟩ := h
  refine wpList_mapUpdate_own (H := Unit) w hg m x v t hop k e (string_keyed hk) ht (plainElem P e) b n D hm h1 hn (.string s) (.int .i64 z) _ hx hv (keyOf_string_mk hk hs) _ [] (plainElem_int he hz) ?_
  intro w' hown hgr
  refine hK w' ⟨_, hown, h2.put _ _, fun s' hs' => ?_⟩ hgr
  by_cases heq : s' = s
  · subst heq
    simp only [if_pos]
    exact atKey_put_same h2 (isKeyLit_string _) _ _
  · simp only [if_neg heq]
    rw [atKey_put_other (string_lit_ne (fun h => heq h.symm))]
    exact h3 s' hs'

/-- 'delete(m, s)' at the operation. -/
theorem wp_cnt_delete (hg : o.guard = none) (m x : Operand) (t kt : TypeId) (hop : o.op = Op.call { callee := Callee.builtin Builtin.delete, args := #[m, x], argTypes := #[t, k] })
    (hk : P.underlying k = some .string) (ht : P.underlying t = some (.map k e)) (b n : Nat) (f : ByteArray → Int)
    (hm : a.eval m = .map (some b)) (h : Cnt P k e w b n f) (s : ByteArray) (hs : s.size ≤ maxLen) (hx : a.eval x = .string s)
    (hK : ∀ w', Cnt P k e w' b n (fun s' => if s' = s then 0 else f s') → w.mapTurned w' b → wpList P ops Q rest (a.put o.dst (.tuple #[])) w') : wpList P ops Q (o :: rest) a w := by
  obtain ⟨D, h1, h2, h3⟩ := h
  refine wpList_delete_own (H := Unit) w hg m x t k hop e (string_keyed hk) ht (plainElem P e) b n D hm h1 (.string s) _ hx (keyOf_string_mk hk hs) ?_
  intro w' hown htu
  refine hK w' ⟨_, hown, h2.del _, fun s' hs' => ?_⟩ htu
  by_cases heq : s' = s
  · subst heq
    simp only [if_pos]
    exact atKey_del_same _
  · simp only [if_neg heq]
    rw [atKey_del_other (string_lit_ne (fun h => heq h.symm))]
    exact h3 s' hs'
end
end Go.Proofs.Ytcgnkbdfoaiaiaa.HMap
end
section
/- What alike.Common answers: how many lines are in both, by a walk of its text (its counts stand in a map). -/
set_option linter.unusedVariables false
set_option linter.unusedSimpArgs false
namespace Go.Proofs.Ytcgnkbdfoaiaiaa.P
open Go.RowKit Go.Proofs.YtcgnkbdfoaiaiaaW.PrintWords Go.Proofs.YtcgnkbdfoaiaiaaW.PrintLast Go.Proofs.YtcgnkbdfoaiaiaaW.PrintMore Go.Proofs.Ytcgnkbdfoaiaiaa.HMap Go.Proofs.Ytcgnkbdfoaiaiaa.Q

def alike_Common.f (a b : List ByteArray) : Option Int :=
  if ((∀ s ∈ a, s.size ≤ 9223372036854775807) ∧ (∀ s ∈ b, s.size ≤ 9223372036854775807)) ∧ a.length ≤ 4611686018427387903 ∧ b.length ≤ 4611686018427387903 then some ((comm a b : Nat) : Int) else none

theorem rdOf_nat (xs : List ByteArray) (j : Nat) (h : j < xs.length) : rdOf ByteArray.empty xs (j : Int) = xs[j] := by
  simp [rdOf, List.getD_eq_getElem?_getD, List.getElem?_eq_getElem h]
theorem count_take_succ (xs : List ByteArray) (j : Nat) (h : j < xs.length) (s : ByteArray) :
    (((xs.take (j + 1)).count s : Nat) : Int) = if s = xs[j] then ((xs.take j).count xs[j] : Int) + 1 else ((xs.take j).count s : Int) := by
  rw [List.take_succ_eq_append_getElem h, List.count_append]
  by_cases hs : s = xs[j]
  · rw [if_pos hs, hs]; simp
  · rw [if_neg hs]
    have : List.count s [xs[j]] = 0 := by
      rw [List.count_eq_zero]; simpa using hs
    simp [this]
theorem wf_small (z : Int) (h0 : 0 ≤ z) (h1 : z ≤ 9223372036854775807) : (Lit.int .i64 z).wf = true := WalkArith.wf_i64 (by omega)

set_option maxHeartbeats 1000000 in
set_option maxRecDepth 100000 in
theorem alike_Common.calls (A0 : Option Addr) (c0 : Nat) (l0 : List ByteArray) (A1 : Option Addr) (c1 : Nat) (l1 : List ByteArray) (r : Int) (w : World) (hr0 : Kd.C Kd.string w A0 l0.length l0) (hc0 : l0.length ≤ c0) (hr1 : Kd.C Kd.string w A1 l1.length l1) (hc1 : l1.length ≤ c1) (h : alike_Common.f l0 l1 = some r) :
    Calls Try.prog 32 #[.slice A0 l0.length c0, .slice A1 l1.length c1] w fun e w' => e = .returned (.int .i64 r) ∧ Below w.heap.size w w' := by
  have hk9 : Try.prog.underlying 9 = some .string := Try.underlying9
  unfold alike_Common.f at h
  split at h
  · rename_i hsz
    obtain ⟨⟨hs0, hs1⟩, hm0, hm1⟩ := hsz
    obtain rfl := Option.some.inj h
    clear h
    have HS0 := Aside0.mk hs0
    have HS1 := Aside0.mk hs1
    have HR0 := Aside0.mk hr0
    have HR1 := Aside0.mk hr1
    have HC0 := Aside0.mk hc0
    have HC1 := Aside0.mk hc1
    clear hs0 hs1 hr0 hr1 hc0 hc1
    have hmm := @run_makeMap Try.prog
    go_enter Try.func32, Try.ntmps32
    go_wp2
    go_loopw [13] (fun v13 wr => ∃ j : Nat, j ≤ l0.length ∧ v13 = .int .i64 j ∧ Aside0 (Cnt Try.prog 9 3 wr w.heap.size j (fun s => ((l0.take j).count s : Nat))) ∧ Aside0 (Below w.heap.size w wr)) (fun v13 _ => l0.length - (intOf v13).toNat)
    case atStart => exact ⟨0, Nat.zero_le _, rfl, ⟨(Cnt.made _ _ _ _).congr (fun s => by simp)⟩, ⟨(Below.refl _ _).alloc (Nat.le_refl _) _⟩⟩
    case round =>
      obtain ⟨j, hj, rfl, HCN, HB⟩ := hrel
      by_cases hlt : j < l0.length
      · obtain ⟨ad, e1, hx⟩ := Kd.at_string HR0.out (j : Int) (by omega) (by omega)
        cases e1
        rw [Int.toNat_natCast, rdOf_nat _ _ hlt] at hx
        have hsz : (l0[j]).size ≤ maxLen := HS0.out _ (List.getElem_mem hlt)
        replace hx := (HB.out.cell (World.block_lt_of_cell? w _ hx)).trans hx
        have HSN := Aside0.mk (count_take_succ l0 j hlt)
        have HCL := Aside0.mk (List.count_le_length (a := l0[j]) (l := l0.take j))
        have HSZ := Aside0.mk hsz
        clear hsz
        generalize l0[j] = s at hx HSZ HSN HCL
        have HLEN : Aside0 ((l0.take j).length = j) := ⟨by simp; omega⟩
        have hc0 : (0 : Int) ≤ ((l0.take j).count s : Nat) := by omega
        have hc1 : (((l0.take j).count s : Nat) : Int) < 9223372036854775807 := by have := HCL.out; have := HLEN.out; omega
        have hj1 : j < 9223372036854775807 := by omega
        go_wp2_with (first
          | (at_lookup; refine wp_cnt_lookup rfl _ _ 77 rfl Try.underlying9 Try.underlying77 Try.underlying3 (by kernel_rfl) w.heap.size j _ rfl HCN.out s HSZ.out rfl ?_)
          | (at_mapUpdate; refine wp_cnt_update rfl _ _ _ 77 rfl Try.underlying9 Try.underlying77 Try.underlying3 w.heap.size j _ rfl HCN.out (by unfold maxLen; omega) s HSZ.out rfl _ rfl (wf_small _ (by omega) (by omega)) ?_; intro w1 hc1' hg1; have HC1' := Aside0.mk hc1'; have HG1 := Aside0.mk hg1; clear hc1' hg1))
        go_roundw
        case rel => exact ⟨j + 1, by omega, by go_num, ⟨HC1'.out.congr (fun s' => (HSN.out s').symm)⟩, ⟨HB.out.grown HG1.out HB.out.size (fun k hk => by cases hk; exact Nat.le_refl _)⟩⟩
        case measure => simp [intOf]; omega
      · have hfull : l0.take j = l0 := List.take_of_length_le (by omega)
        rw [hfull] at HCN
        have HB1 := HB
        clear HB hfull
        go_wp2
        have HJ := Aside0.mk hj
        clear hlt hj
        go_loopw [4, 24] (fun v4 v24 wr => ∃ (j : Nat) (n : Int) (rem : List ByteArray) (f : ByteArray → Int), j ≤ l1.length ∧ v24 = .int .i64 j ∧ v4 = .int .i64 n ∧ Aside0 (0 ≤ n ∧ n ≤ j) ∧ Aside0 (n + (comm rem (l1.drop j) : Nat) = (comm l0 l1 : Nat)) ∧ Aside0 (rem.length ≤ l0.length) ∧ Aside0 (∀ s, f s = (rem.count s : Nat)) ∧ Aside0 (Cnt Try.prog 9 3 wr w.heap.size (l0.length + j) f) ∧ Aside0 (Below w.heap.size w wr)) (fun _ v24 _ => l1.length - (intOf v24).toNat)
        case atStart => exact ⟨0, 0, l0, _, Nat.zero_le _, rfl, rfl, ⟨by omega, by omega⟩, ⟨by simp⟩, ⟨Nat.le_refl _⟩, ⟨fun _ => rfl⟩, ⟨HCN.out.mono (by have := HJ.out; omega)⟩, ⟨HB1.out⟩⟩
        case round =>
          clear HCN HB1
          obtain ⟨j, n, rem, f, hj, rfl, rfl, HN, HCM, HRL, HF, HCN, HB⟩ := hrel
          have hn0 : 0 ≤ n := HN.out.1
          have hn1 : n < 9223372036854775807 ∨ ¬ j < l1.length := by have := HN.out.2; omega
          by_cases hlt : j < l1.length
          · obtain ⟨ad, e1, hx⟩ := Kd.at_string HR1.out (j : Int) (by omega) (by omega)
            cases e1
            rw [Int.toNat_natCast, rdOf_nat _ _ hlt] at hx
            have hsz : (l1[j]).size ≤ maxLen := HS1.out _ (List.getElem_mem hlt)
            replace hx := (HB.out.cell (World.block_lt_of_cell? w _ hx)).trans hx
            have HDR := Aside0.mk (List.drop_eq_getElem_cons hlt)
            have HSZ := Aside0.mk hsz
            clear hsz
            generalize l1[j] = s at hx HSZ HDR
            have HCL := Aside0.mk (List.count_le_length (a := s) (l := rem))
            have hf0 : 0 ≤ f s := by rw [HF.out]; omega
            have hf1 : f s ≤ 9223372036854775807 := by rw [HF.out]; have := HCL.out; have := HRL.out; omega
            have hj1 : j < 9223372036854775807 := by omega
            have hn2 : n < 9223372036854775807 := by omega
            clear hn1
            by_cases hz0 : f s = 0
            · have hb0 : (f s == 0) = true := beq_iff_eq.mpr hz0
              have HNM : Aside0 (s ∉ rem) := ⟨List.count_eq_zero.1 (by have := HF.out s; omega)⟩
              clear hz0
              go_wp2_with (first
                | (at_lookup; refine wp_cnt_lookup rfl _ _ 77 rfl Try.underlying9 Try.underlying77 Try.underlying3 (by kernel_rfl) w.heap.size _ _ rfl HCN.out s HSZ.out rfl ?_))
              go_roundw
              case rel => exact ⟨j + 1, n, rem, f, by omega, by go_num, rfl, ⟨by omega, by have := HN.out; omega⟩, ⟨by have := HCM.out; rw [HDR.out, comm_cons, if_neg HNM.out] at this; exact this⟩, HRL, HF, ⟨HCN.out.mono (by omega)⟩, HB⟩
              case measure => simp [intOf]; omega
            · have hb0 : (f s == 0) = false := beq_eq_false_iff_ne.mpr hz0
              have hf2 : 1 ≤ f s := by omega
              have HMM : Aside0 (s ∈ rem) := ⟨List.count_pos_iff.1 (by have := HF.out s; omega)⟩
              have HRE : Aside0 ((rem.erase s).length + 1 = rem.length) := ⟨by have := List.length_erase_of_mem HMM.out; have := List.length_pos_of_mem HMM.out; omega⟩
              have HFE : Aside0 (∀ s', (if s' = s then f s - 1 else f s') = ((rem.erase s).count s' : Nat)) := ⟨fun s' => by
                by_cases hs : s' = s
                · subst hs; rw [if_pos rfl, HF.out, List.count_erase_self]; have : 0 < rem.count s' := List.count_pos_iff.2 HMM.out; omega
                · rw [if_neg hs, HF.out, List.count_erase_of_ne hs]⟩
              have HCM' : Aside0 (n + 1 + (comm (rem.erase s) (l1.drop (j + 1)) : Nat) = (comm l0 l1 : Nat)) := ⟨by have := HCM.out; rw [HDR.out, comm_cons, if_pos HMM.out] at this; omega⟩
              clear hz0
              by_cases hz1 : f s = 1
              · have hb1 : (f s == 1) = true := beq_iff_eq.mpr hz1
                have HFE' : Aside0 (∀ s', (if s' = s then 0 else f s') = ((rem.erase s).count s' : Nat)) := ⟨fun s' => by
                  have := HFE.out s'; rw [hz1] at this; exact this⟩
                clear hz1
                go_wp2_with (first
                  | (at_lookup; refine wp_cnt_lookup rfl _ _ 77 rfl Try.underlying9 Try.underlying77 Try.underlying3 (by kernel_rfl) w.heap.size _ _ rfl HCN.out s HSZ.out rfl ?_)
                  | (at_delete; refine wp_cnt_delete rfl _ _ 77 9 rfl Try.underlying9 Try.underlying77 w.heap.size _ _ rfl HCN.out s HSZ.out rfl ?_; intro w1 hc1' hg1; have HC1' := Aside0.mk hc1'; have HG1 := Aside0.mk hg1; clear hc1' hg1))
                go_roundw
                case rel => exact ⟨j + 1, n + 1, rem.erase s, _, by omega, by go_num, rfl, ⟨by omega, by have := HN.out; omega⟩, HCM', ⟨by have := HRE.out; have := HRL.out; omega⟩, HFE', ⟨HC1'.out.mono (by omega)⟩, ⟨turned_below HB.out HG1.out (Nat.le_refl _)⟩⟩
                case measure => simp [intOf]; omega
              · have hb1 : (f s == 1) = false := beq_eq_false_iff_ne.mpr hz1
                clear hz1
                go_wp2_with (first
                  | (at_lookup; refine wp_cnt_lookup rfl _ _ 77 rfl Try.underlying9 Try.underlying77 Try.underlying3 (by kernel_rfl) w.heap.size _ _ rfl HCN.out s HSZ.out rfl ?_)
                  | (at_mapUpdate; refine wp_cnt_update rfl _ _ _ 77 rfl Try.underlying9 Try.underlying77 Try.underlying3 w.heap.size _ _ rfl HCN.out (by unfold maxLen; omega) s HSZ.out rfl _ rfl (wf_small _ (by omega) (by omega)) ?_; intro w1 hc1' hg1; have HC1' := Aside0.mk hc1'; have HG1 := Aside0.mk hg1; clear hc1' hg1))
                go_roundw
                case rel => exact ⟨j + 1, n + 1, rem.erase s, _, by omega, by go_num, rfl, ⟨by omega, by have := HN.out; omega⟩, HCM', ⟨by have := HRE.out; have := HRL.out; omega⟩, HFE, ⟨HC1'.out⟩, ⟨HB.out.grown HG1.out HB.out.size (fun k hk => by cases hk; exact Nat.le_refl _)⟩⟩
                case measure => simp [intOf]; omega
          · go_wp2
            go_ret
            exact ⟨by have := HCM.out; rw [List.drop_eq_nil_of_le (by omega)] at this; have h0 : comm rem [] = 0 := rfl; rw [h0] at this; exact congrArg (fun z : Int => Ending.returned (.int .i64 z)) (show n = (comm l0 l1 : Nat) by omega), HB.out⟩
  · cases h
end Go.Proofs.Ytcgnkbdfoaiaiaa.P
end
section
/- Laid for this claim by hp.py, this session's program round the kit's print: functions of the program as plain Lean functions, the proofs that the code comes to their answers, and the rows of the laws. Not trusted: Lean checks it. -/
namespace Go.Proofs.Ytcgnkbdfoaiaiaa.P
open Go.RowKit Go.Proofs.YtcgnkbdfoaiaiaaW.PrintWords Go.Proofs.YtcgnkbdfoaiaiaaW.PrintLast Go.Proofs.YtcgnkbdfoaiaiaaW.PrintMore
attribute [local go_sem] max2_int min2_int max_two min_two max_three min_three max_four min_four   -- for this text's walks alone
set_option linter.unusedVariables false
set_option linter.unusedSimpArgs false

/-! ### alike_Score: function 16 -/
def alike_Score.f (l0 : List ByteArray) (l1 : List ByteArray) : Option (Int) := if (wrap64 ((l0.length : Int) + (l1.length : Int))) = 0 then (some 100) else ((alike_Common.f l0 l1).bind fun t485 => (some (wrap64 (Int.tdiv (wrap64 (200 * t485)) (wrap64 ((l0.length : Int) + (l1.length : Int)))))))
set_option maxHeartbeats 8000000 in
set_option maxRecDepth 100000 in
theorem alike_Score.calls (A0 : Option Addr) (c0 : Nat) (l0 : List ByteArray) (A1 : Option Addr) (c1 : Nat) (l1 : List ByteArray) (r : Int) (w : World) (hr0 : Kd.C Kd.string w A0 l0.length l0) (hc0 : l0.length ≤ c0) (hr1 : Kd.C Kd.string w A1 l1.length l1) (hc1 : l1.length ≤ c1) (h : alike_Score.f l0 l1 = some r) :
  Calls Try.prog 16 #[.slice A0 l0.length c0, .slice A1 l1.length c1] w fun e w' => e = .returned (.int .i64 r) ∧ Below w.heap.size w w' := by
 have HR0 := Aside0.mk hr0
 have HC0 := Aside0.mk hc0
 clear hr0 hc0
 have HR1 := Aside0.mk hr1
 have HC1 := Aside0.mk hc1
 clear hr1 hc1
 have HB := Aside0.mk (Below.refl w.heap.size w)
 have H : (if (wrap64 ((l0.length : Int) + (l1.length : Int))) = 0 then (some 100) else ((alike_Common.f l0 l1).bind fun t485 => (some (wrap64 (Int.tdiv (wrap64 (200 * t485)) (wrap64 ((l0.length : Int) + (l1.length : Int)))))))) = some r := h
 clear h
 by_cases c3 : (wrap64 ((l0.length : Int) + (l1.length : Int))) = 0
 ·rw [if_pos c3] at H
  have c3b0 : ((wrap64 ((l0.length : Int) + (l1.length : Int))) == 0) = true := beq_iff_eq.mpr c3
  have c3b1 : ((wrap64 ((l0.length : Int) + (l1.length : Int))) != 0) = false := bne_eq_false_iff_eq.mpr c3
  clear c3
  obtain rfl := Option.some.inj H
  go_enter Try.func16, Try.ntmps16
  go_wp2
  go_ret
  exact ⟨by first | rfl | (simp [errW_none, errW_some] <;> rfl) | (simp [*, errW_none, errW_some] <;> rfl), by repeat (first | (with_reducible first | exact HB.out | apply below_alloc | apply pw_below_drewN | apply below_drew1) | exact HB.out)⟩
 ·rw [if_neg c3] at H
  have c3b0 : ((wrap64 ((l0.length : Int) + (l1.length : Int))) == 0) = false := beq_eq_false_iff_ne.mpr c3
  have c3b1 : ((wrap64 ((l0.length : Int) + (l1.length : Int))) != 0) = true := bne_iff_ne.mpr c3
  replace H := Option.bind_eq_some_iff.mp H
  obtain ⟨t485, A40, H⟩ := H
  replace H : (some (wrap64 (Int.tdiv (wrap64 (200 * t485)) (wrap64 ((l0.length : Int) + (l1.length : Int)))))) = some r := H
  have A4 := Aside0.mk A40
  clear A40
  obtain rfl := Option.some.inj H
  go_enter Try.func16, Try.ntmps16
  go_wp2_with (first | ((with_reducible refine gate_callee (f := 32) rfl ?_); refine goesL_ _ rfl rfl Try.func32 (by kernel_rfl) rfl #[.slice A0 l0.length c0, .slice A1 l1.length c1] rfl (by (try simp only [List.map_toArray, List.map_cons, List.map_nil]); first | done | rfl | (simp only [List.length_drop, List.length_take]; rfl)) ?_; (with_reducible refine (alike_Common.calls _ _ l0 _ _ l1 t485 _ ?side1 ?side2 ?side3 ?side4 A4.out).mono ?_); (case side1 => repeat (first | exact HR0.out | (with_reducible refine Kd.C_alloc ?_ _) | (with_reducible refine Kd.C_drewN ?_ _) | (with_reducible refine Kd.C_drew ?_))); (case side2 => exact HC0.out); (case side3 => repeat (first | exact HR1.out | (with_reducible refine Kd.C_alloc ?_ _) | (with_reducible refine Kd.C_drewN ?_ _) | (with_reducible refine Kd.C_drew ?_))); (case side4 => exact HC1.out); rintro e w5 ⟨rfl, hb⟩; refine ⟨_, rfl, ?_⟩; have n0_ := Aside0.mk (below_step (by repeat (first | (with_reducible first | exact HB.out | apply below_alloc | apply pw_below_drewN | apply below_drew1) | exact HB.out)) hb); clear HB; have HB := n0_; clear n0_; (try clear hb); (try clear hb2); (try clear hk); (try clear hi)))
  go_ret
  exact ⟨by first | rfl | (simp [errW_none, errW_some] <;> rfl) | (simp [*, errW_none, errW_some] <;> rfl), by repeat (first | (with_reducible first | exact HB.out | apply below_alloc | apply pw_below_drewN | apply below_drew1) | exact HB.out)⟩

end Go.Proofs.Ytcgnkbdfoaiaiaa.P
end
section
/- rename.Pairs: what it answers; by a walk of its text. -/
set_option linter.unusedVariables false
set_option linter.unusedSimpArgs false
namespace Go.Proofs.Ytcgnkbdfoaiaiaa.P
open Go Go.RowKit Go.Sort Go.Proofs.YtcgnkbdfoaiaiaaW.PrintWords Go.Proofs.YtcgnkbdfoaiaiaaW.PrintLast Go.Proofs.YtcgnkbdfoaiaiaaW.PrintMore Go.Proofs.Ytcgnkbdfoaiaiaa.Q Go.Proofs.Ytcgnkbdfoaiaiaa.HSet
abbrev PrS := S35
/-- The candidates of one file. -/
def cand1 (a : ByteArray × List ByteArray) (fresh : List (ByteArray × List ByteArray)) (t : Int) : List PrS :=
  fresh.filterMap fun b => if mx t 1 ≤ score a.2 b.2 then some ⟨a.1, b.1, score a.2 b.2⟩ else none
def candL (old fresh : List (ByteArray × List ByteArray)) (t : Int) : List PrS := old.flatMap fun a => cand1 a fresh t
/-- Who is better. -/
def cB (x y : PrS) : Int := or3 (ci y.f2 x.f2) (pcmp (tl x.f0) (tl y.f0)) (pcmp (tl x.f1) (tl y.f1))
/-- Whose To is less; else who is better. -/
def cT (x y : PrS) : Int := if pcmp (tl x.f1) (tl y.f1) ≠ 0 then pcmp (tl x.f1) (tl y.f1) else cB x y
def sortB (l : List PrS) : List PrS := l.mergeSort (fun x y => decide (cB x y ≤ 0))
def sortT (l : List PrS) : List PrS := l.mergeSort (fun x y => decide (cT x y ≤ 0))
/-- A candidate is taken, if both its files are free. -/
def take1 (st : List ByteArray × List ByteArray × List PrS) (p : PrS) : List ByteArray × List ByteArray × List PrS :=
  if p.f0 ∉ st.1 ∧ p.f1 ∉ st.2.1 then (p.f0 :: st.1, p.f1 :: st.2.1, st.2.2 ++ [p]) else st
def greedy (l : List PrS) : List PrS := (l.foldl take1 ([], [], [])).2.2
def pairsL (old fresh : List S33) (t : Int) : List PrS := sortT (greedy (sortB (candL (filesL old) (filesL fresh) t)))
def PairsOk (l : List S33) : Prop := l.length ≤ 1000 ∧ ∀ x ∈ l, x.f0.size ≤ 4000000 ∧ x.f2.size ≤ 4000000
instance (l : List S33) : Decidable (PairsOk l) := by unfold PairsOk; infer_instance
theorem PairsOk.items {l : List S33} (h : PairsOk l) : ItemsOk l := ⟨by have := h.1; omega, fun x hx => by have := h.2 x hx; omega⟩
/-! ### The orders -/
structure CmpOk {α : Type} (c : α → α → Int) : Prop where
  neg : ∀ x y, c y x = - c x y
  tr : ∀ x y z, c x y ≤ 0 → c y z ≤ 0 → c x z ≤ 0 ∧ (c x y < 0 ∨ c y z < 0 → c x z < 0)
theorem CmpOk.self {α : Type} {c : α → α → Int} (h : CmpOk c) (x : α) : c x x = 0 := by have := h.neg x x; omega
theorem CmpOk.or {α : Type} {c d : α → α → Int} (hc : CmpOk c) (hd : CmpOk d) : CmpOk (fun x y => if c x y ≠ 0 then c x y else d x y) := by
  refine ⟨fun x y => ?_, fun x y z h1 h2 => ?_⟩
  · have := hc.neg x y
    have := hd.neg x y
    by_cases h : c x y = 0
    · rw [if_neg (by omega), if_neg (by omega)]; omega
    · rw [if_pos (by omega), if_pos (by omega)]; omega
  · have t1 := hc.tr x y z
    have t2 := hd.tr x y z
    by_cases a : c x y = 0
    · rw [if_neg (by omega)] at h1
      by_cases b : c y z = 0
      · rw [if_neg (by omega)] at h2
        have n1 := hc.tr z y x (by have := hc.neg y z; omega) (by have := hc.neg x y; omega)
        have n2 := hc.neg x z
        have : c x z = 0 := by have := (t1 (by omega) (by omega)).1; omega
        simp only [a, b, this, ne_eq, not_true_eq_false, if_false]
        exact t2 h1 h2
      · rw [if_pos (by omega)] at h2
        have := (t1 (by omega) (by omega)).2 (.inr (by omega))
        rw [if_pos (show c x z ≠ 0 by omega)]
        exact ⟨by omega, fun _ => this⟩
    · rw [if_pos (by omega)] at h1
      have hb : c y z ≤ 0 := by
        by_cases b : c y z = 0
        · omega
        · rw [if_pos (by omega)] at h2; exact h2
      have := (t1 h1 hb).2 (.inl (by omega))
      rw [if_pos (show c x z ≠ 0 by omega)]
      exact ⟨by omega, fun _ => this⟩
theorem pcmp_cmp {α : Type} (f : α → ByteArray) : CmpOk (fun x y => pcmp (tl (f x)) (tl (f y))) := ⟨fun x y => pcmp_neg _ _, fun x y z h1 h2 => pcmp_trans _ _ _ h1 h2⟩
theorem ci_cmp {α : Type} (f : α → Int) : CmpOk (fun x y => ci (f y) (f x)) := by
  refine ⟨fun x y => ?_, fun x y z h1 h2 => ?_⟩
  · unfold ci; split <;> split <;> omega
  · unfold ci at *
    split at h1 <;> split at h2 <;> (try split at h1) <;> (try split at h2) <;> (split <;> (try split) <;> omega)
theorem cB_cmp : CmpOk cB := by
  have h := (ci_cmp (fun x : PrS => x.f2)).or ((pcmp_cmp (fun x : PrS => x.f0)).or (pcmp_cmp (fun x : PrS => x.f1)))
  have e : (fun x y : PrS => if ci y.f2 x.f2 ≠ 0 then ci y.f2 x.f2 else if pcmp (tl x.f0) (tl y.f0) ≠ 0 then pcmp (tl x.f0) (tl y.f0) else pcmp (tl x.f1) (tl y.f1)) = cB := rfl
  rw [← e]; exact h
theorem cT_cmp : CmpOk cT := (pcmp_cmp (fun x : PrS => x.f1)).or cB_cmp
theorem cB_zero {x y : PrS} (h : cB x y = 0) : x = y := by
  unfold cB or3 at h
  split at h
  · rename_i h1; exact absurd h h1
  · rename_i h1
    have h1 : ci y.f2 x.f2 = 0 := by omega
    split at h
    · rename_i h2; exact absurd h h2
    · rename_i h2
      have e0 := tl_inj ((pcmp_zero _ _).1 (show pcmp (tl x.f0) (tl y.f0) = 0 by omega))
      have e1 := tl_inj ((pcmp_zero _ _).1 h)
      have e2 : x.f2 = y.f2 := by unfold ci at h1; split at h1 <;> (try split at h1) <;> omega
      cases x; cases y
      simp at e0 e1 e2
      subst e0 e1 e2
      rfl
theorem cT_zero {x y : PrS} (h : cT x y = 0) : x = y := by
  unfold cT at h
  split at h
  · rename_i h1; exact absurd h h1
  · exact cB_zero h
/-- A list in order is the one list in order. -/
theorem sort_uniq {c : PrS → PrS → Int} (hc : CmpOk c) (h0 : ∀ x y, c x y = 0 → x = y) {l l' : List PrS} (hp : l'.Perm l) (hs : l'.Pairwise (fun x y => c x y ≤ 0)) : l' = l.mergeSort (fun x y => decide (c x y ≤ 0)) := by
  have hm : (l.mergeSort (fun x y => decide (c x y ≤ 0))).Pairwise (fun x y => c x y ≤ 0) := by
    have := List.pairwise_mergeSort (le := fun x y => decide (c x y ≤ 0)) (fun x y z h1 h2 => by
      simp only [decide_eq_true_eq] at *
      exact (hc.tr x y z h1 h2).1) (fun x y => by
      have := hc.neg x y
      by_cases h : c x y ≤ 0
      · simp [h]
      · have : c y x ≤ 0 := by omega
        simp [this]) l
    exact this.imp (fun h => by simpa using h)
  exact List.Perm.eq_of_pairwise (le := fun x y => c x y ≤ 0) (fun a b _ _ h1 h2 => h0 a b (by have := hc.neg a b; omega)) hs hm (hp.trans (List.mergeSort_perm _ _).symm)
theorem swo_of {c : Pr → Pr → Int} (hc : CmpOk c) : Go.Sort.SWO (Go.Proofs.ltOf (cmpOf c)) := by
  have e : ∀ x y, cmpOf c x y = c x y := fun x y => by
    unfold cmpOf
    split
    · rename_i h; rw [h, hc.self]
    · rfl
  refine ⟨fun x => ?_, fun x y z h1 h2 => ?_, fun x y z h1 h2 => ?_⟩
  · simp [Go.Proofs.ltOf, e, hc.self]
  · simp only [Go.Proofs.ltOf, e, decide_eq_true_eq] at *
    exact (hc.tr x y z (by omega) (by omega)).2 (.inl h1)
  · simp only [Go.Proofs.ltOf, e, decide_eq_false_iff_not] at *
    have n1 := hc.neg x y
    have n2 := hc.neg y z
    have n3 := hc.neg x z
    have := (hc.tr z y x (by omega) (by omega)).1
    omega
end Go.Proofs.Ytcgnkbdfoaiaiaa.P
end
