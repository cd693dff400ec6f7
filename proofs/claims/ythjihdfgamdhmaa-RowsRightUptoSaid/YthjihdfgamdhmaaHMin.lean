/- Words of this session: min and max of two whole numbers, in the walk under one name. -/
import Derived.Test.YthjihdfgamdhmaaWMore
set_option linter.unusedVariables false
namespace Go.Proofs.Ythjihdfgamdhmaa.HMin
open Go Go.Proofs.YthjihdfgamdhmaaW.PrintWords Go.Proofs.YthjihdfgamdhmaaW.PrintMore
theorem min2_mn (k k' : IntKind) (x y : Int) : Builtin.min2 (.int k x) (.int k' y) = pure (.int k (mn x y)) := min2_int k k' x y
theorem max2_mx (k k' : IntKind) (x y : Int) : Builtin.max2 (.int k x) (.int k' y) = pure (.int k (mx x y)) := max2_int k k' x y
end Go.Proofs.Ythjihdfgamdhmaa.HMin
