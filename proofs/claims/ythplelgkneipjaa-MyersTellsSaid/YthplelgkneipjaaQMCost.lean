/- What Cost and Common of the program answer: plain. -/
import Derived.Test.YthplelgkneipjaaPxf33
import Derived.Test.YthplelgkneipjaaQMyers
import Derived.Test.YthplelgkneipjaaQLines
set_option linter.unusedVariables false
set_option linter.unusedSimpArgs false
namespace Go.Proofs.Ythplelgkneipjaa.Q
open Go Go.RowKit Go.Proofs.Ythplelgkneipjaa.P Go.Proofs.YthplelgkneipjaaW.PrintWords Go.Proofs.YthplelgkneipjaaW.PrintLast
theorem search_ok {a b : List ByteArray} (ha : a.length ≤ 1000000) (hb : b.length ≤ 1000000) : myers_search.f a b = some (rows a.reverse b.reverse (cost a b)) := by
  unfold myers_search.f
  rw [if_pos ⟨ha, hb⟩, least_rev]
  rfl
theorem cost_le (a b : List ByteArray) : cost a b ≤ a.length + b.length := by unfold cost; omega
theorem cost_ok {a b : List ByteArray} (ha : a.length ≤ 1000000) (hb : b.length ≤ 1000000) : myers_Cost.f a b = some (cost a b : Int) := by
  unfold myers_Cost.f
  have := cost_le a b
  rw [search_ok ha hb, Option.bind_some, rows_length, w64 (by omega) (by omega)]
  congr 1
  omega
theorem stay_ok {a b : List ByteArray} (ha : a.length ≤ 1000000) (hb : b.length ≤ 1000000) : myers_Common.f a b = some (lcs a b : Int) := by
  unfold myers_Common.f
  have h1 := lcs_two a b
  have e : (a.length : Int) + b.length - cost a b = 2 * lcs a b := by unfold cost; omega
  rw [cost_ok ha hb, Option.bind_some, w64 (x := (a.length : Int) + b.length) (by omega) (by omega), e, w64 (x := 2 * (lcs a b : Int)) (by omega) (by omega), Int.mul_tdiv_cancel_left _ (by omega), w64 (by omega) (by omega)]
end Go.Proofs.Ythplelgkneipjaa.Q
