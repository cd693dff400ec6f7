/- Words of this session: two texts compared by bytes. -/
import Derived.Laws.Cover1
set_option linter.unusedVariables false
namespace Go.Proofs.YtjfeddpelakdjaaDoor.HStr
open Go
theorem bytes_less_irr : ∀ x : List UInt8, Op.bytesLess x x = false := by
  intro x
  induction x with
  | nil => rfl
  | cons a x ih =>
    show (decide (a < a) || (a == a && Op.bytesLess x x)) = false
    rw [ih, Bool.and_false, Bool.or_false]
    exact decide_eq_false (UInt8.lt_irrefl a)
theorem bytes_less_ne {x y : List UInt8} (h : Op.bytesLess x y = true) : (y == x) = false := by
  rw [beq_eq_false_iff_ne]
  intro e
  rw [e, bytes_less_irr] at h
  cases h
theorem bytes_same : ∀ {y x : List UInt8}, Op.bytesLess y x = false → Op.bytesLess x y = false → (y == x) = true := by
  intro y
  induction y with
  | nil =>
    intro x h1 _
    cases x with
    | nil => rfl
    | cons b x => cases h1
  | cons a y ih =>
    intro x h1 h2
    cases x with
    | nil => cases h2
    | cons b x =>
      have h1' : (decide (a < b) || (a == b && Op.bytesLess y x)) = false := h1
      have h2' : (decide (b < a) || (b == a && Op.bytesLess x y)) = false := h2
      rw [Bool.or_eq_false_iff] at h1' h2'
      have e : a = b := by
        have l1 := of_decide_eq_false h1'.1
        have l2 := of_decide_eq_false h2'.1
        exact UInt8.le_antisymm (UInt8.not_lt.1 l2) (UInt8.not_lt.1 l1)
      subst e
      have r1 : Op.bytesLess y x = false := by simpa using h1'.2
      have r2 : Op.bytesLess x y = false := by simpa using h2'.2
      have := ih r1 r2
      rw [beq_iff_eq] at this ⊢
      rw [this]
end Go.Proofs.YtjfeddpelakdjaaDoor.HStr
