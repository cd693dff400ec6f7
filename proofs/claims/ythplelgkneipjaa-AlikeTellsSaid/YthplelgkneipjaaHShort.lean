/- Words of this session: laws of lists under short names, for a great text. -/
set_option linter.unusedVariables false
namespace Go.Proofs.Ythplelgkneipjaa.P
theorem sA {α : Type} {l : List α} {i : Nat} {a : α} : l.toArray.setIfInBounds i a = (l.set i a).toArray := by simp
theorem sB {α : Type} {x a : α} {l : List α} : (x :: l).set 0 a = a :: l := rfl
theorem sC {α : Type} {x a : α} {l : List α} {i : Nat} : (x :: l).set (i + 1) a = x :: l.set i a := rfl
end Go.Proofs.Ythplelgkneipjaa.P
