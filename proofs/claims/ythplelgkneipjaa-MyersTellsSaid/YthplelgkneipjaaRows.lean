/-
  No cell of these rows narrows 'for every input' (looked for: loops, veiled, ifaces, maps, wideKeys, modest, calm, conditions, laid).
  DERIVED. THE GIVEN ROWS OF THIS SEAT. 14 by the template 'for every input the law returns true; each argument reads behind the call as it read before'; 0 by the template 'total and deterministic' (their statements: YthplelgkneipjaaTotals.lean).
  GIVEN WITH THE SEED: the statements are not yours to turn. If you find one false, say at which input.
  Laid BY PROGRAM, IN A SANDBOX (cutbox-rows.mjs): the forced cells as the released guide's own fill.sh prints them over the translation 43bc6db2c0c84169… (all of the seat's roots in one cut). By AI agents, Wed Nov 11 2026. No macro, syntax, notation, axiom, sorry.
-/
import Derived.Test.YthplelgkneipjaaChecked
import GoSem.Claim
import GoSem.ClaimJoined
import GoSem.ClaimMapViews
import Derived.JoinedTies
import Derived.KernelRfl
namespace Go.Proofs.Ythplelgkneipjaa
/- THE CELL 'sum', in the pinned program and in every row, IS THE sha256 OF THE DUMP (.gsa) THAT YthplelgkneipjaaProg.lean LOADS. Nothing in Lean hashes anything: it is a label: what it is worth is what the hold of that sum in a sandbox is worth. -/
noncomputable def Try.pinned : Pinned := { name := "ythplelgkneipjaa", sum := "43bc6db2c0c841695fa91f9aaddd0b2f7c13080fb74a3d490a4c8c87f8a0046f", checked := Try.checked }
namespace Rows
def none {H : Type} : Left H := { results := [], args := [] }

/-- 'collatorlaw07.AlikeTells': WHATEVER THE INPUT: true; the input reads as it did. -/
def alikeTellsSpec : ChangeSpec := { name := "alikeTells", fn := fun _ => fun
  | [d1, d2, d3, d4, d5] => { results := [.lit (.bool true)], args := [d1, d2, d3, d4, d5] }
  | _ => none }
def alikeTellsRow : OpenClaim := { program := "ythplelgkneipjaa", sum := "43bc6db2c0c841695fa91f9aaddd0b2f7c13080fb74a3d490a4c8c87f8a0046f", func := "collator/collatorlaw07.AlikeTells", spec := "alikeTells", apart := false }
def AlikeTellsSaid : Prop := alikeTellsRow.holds Try.pinned (OpenSpec.ofChange alikeTellsSpec)

/-- ITS FALSE NEIGHBOUR: 'it returns false'. Refute it at one input. -/
def alikeTellsWrong : ChangeSpec := { name := "alikeTells", fn := fun _ => fun
  | [d1, d2, d3, d4, d5] => { results := [.lit (.bool false)], args := [d1, d2, d3, d4, d5] }
  | _ => none }
def AlikeTellsWrongFalsely : Prop := alikeTellsRow.holds Try.pinned (OpenSpec.ofChange alikeTellsWrong)

/-- 'collatorlaw07.AlikeTurned': WHATEVER THE INPUT: true; the input reads as it did. -/
def alikeTurnedSpec : ChangeSpec := { name := "alikeTurned", fn := fun _ => fun
  | [d1, d2, d3, d4] => { results := [.lit (.bool true)], args := [d1, d2, d3, d4] }
  | _ => none }
def alikeTurnedRow : OpenClaim := { program := "ythplelgkneipjaa", sum := "43bc6db2c0c841695fa91f9aaddd0b2f7c13080fb74a3d490a4c8c87f8a0046f", func := "collator/collatorlaw07.AlikeTurned", spec := "alikeTurned", apart := false }
def AlikeTurnedSaid : Prop := alikeTurnedRow.holds Try.pinned (OpenSpec.ofChange alikeTurnedSpec)

/-- ITS FALSE NEIGHBOUR: 'it returns false'. Refute it at one input. -/
def alikeTurnedWrong : ChangeSpec := { name := "alikeTurned", fn := fun _ => fun
  | [d1, d2, d3, d4] => { results := [.lit (.bool false)], args := [d1, d2, d3, d4] }
  | _ => none }
def AlikeTurnedWrongFalsely : Prop := alikeTurnedRow.holds Try.pinned (OpenSpec.ofChange alikeTurnedWrong)

/-- 'collatorlaw07.AlikeSame': WHATEVER THE INPUT: true; the input reads as it did. -/
def alikeSameSpec : ChangeSpec := { name := "alikeSame", fn := fun _ => fun
  | [d1, d2] => { results := [.lit (.bool true)], args := [d1, d2] }
  | _ => none }
def alikeSameRow : OpenClaim := { program := "ythplelgkneipjaa", sum := "43bc6db2c0c841695fa91f9aaddd0b2f7c13080fb74a3d490a4c8c87f8a0046f", func := "collator/collatorlaw07.AlikeSame", spec := "alikeSame", apart := false }
def AlikeSameSaid : Prop := alikeSameRow.holds Try.pinned (OpenSpec.ofChange alikeSameSpec)

/-- ITS FALSE NEIGHBOUR: 'it returns false'. Refute it at one input. -/
def alikeSameWrong : ChangeSpec := { name := "alikeSame", fn := fun _ => fun
  | [d1, d2] => { results := [.lit (.bool false)], args := [d1, d2] }
  | _ => none }
def AlikeSameWrongFalsely : Prop := alikeSameRow.holds Try.pinned (OpenSpec.ofChange alikeSameWrong)

/-- 'collatorlaw07.AlikeBest': WHATEVER THE INPUT: true; the input reads as it did. -/
def alikeBestSpec : ChangeSpec := { name := "alikeBest", fn := fun _ => fun
  | [d1, d2] => { results := [.lit (.bool true)], args := [d1, d2] }
  | _ => none }
def alikeBestRow : OpenClaim := { program := "ythplelgkneipjaa", sum := "43bc6db2c0c841695fa91f9aaddd0b2f7c13080fb74a3d490a4c8c87f8a0046f", func := "collator/collatorlaw07.AlikeBest", spec := "alikeBest", apart := false }
def AlikeBestSaid : Prop := alikeBestRow.holds Try.pinned (OpenSpec.ofChange alikeBestSpec)

/-- ITS FALSE NEIGHBOUR: 'it returns false'. Refute it at one input. -/
def alikeBestWrong : ChangeSpec := { name := "alikeBest", fn := fun _ => fun
  | [d1, d2] => { results := [.lit (.bool false)], args := [d1, d2] }
  | _ => none }
def AlikeBestWrongFalsely : Prop := alikeBestRow.holds Try.pinned (OpenSpec.ofChange alikeBestWrong)

/-- 'collatorlaw07.AlikeTwice': WHATEVER THE INPUT: true; the input reads as it did. -/
def alikeTwiceSpec : ChangeSpec := { name := "alikeTwice", fn := fun _ => fun
  | [d1, d2, d3] => { results := [.lit (.bool true)], args := [d1, d2, d3] }
  | _ => none }
def alikeTwiceRow : OpenClaim := { program := "ythplelgkneipjaa", sum := "43bc6db2c0c841695fa91f9aaddd0b2f7c13080fb74a3d490a4c8c87f8a0046f", func := "collator/collatorlaw07.AlikeTwice", spec := "alikeTwice", apart := false }
def AlikeTwiceSaid : Prop := alikeTwiceRow.holds Try.pinned (OpenSpec.ofChange alikeTwiceSpec)

/-- ITS FALSE NEIGHBOUR: 'it returns false'. Refute it at one input. -/
def alikeTwiceWrong : ChangeSpec := { name := "alikeTwice", fn := fun _ => fun
  | [d1, d2, d3] => { results := [.lit (.bool false)], args := [d1, d2, d3] }
  | _ => none }
def AlikeTwiceWrongFalsely : Prop := alikeTwiceRow.holds Try.pinned (OpenSpec.ofChange alikeTwiceWrong)

/-- 'collatorlaw05.MyersTells': WHATEVER THE INPUT: true; the input reads as it did. -/
def myersTellsSpec : ChangeSpec := { name := "myersTells", fn := fun _ => fun
  | [d1, d2, d3, d4] => { results := [.lit (.bool true)], args := [d1, d2, d3, d4] }
  | _ => none }
def myersTellsRow : OpenClaim := { program := "ythplelgkneipjaa", sum := "43bc6db2c0c841695fa91f9aaddd0b2f7c13080fb74a3d490a4c8c87f8a0046f", func := "collator/collatorlaw05.MyersTells", spec := "myersTells", unfollowed := true, recurses := true, apart := false }
def MyersTellsSaid : Prop := myersTellsRow.holds Try.pinned (OpenSpec.ofChange myersTellsSpec)

/-- ITS FALSE NEIGHBOUR: 'it returns false'. Refute it at one input. -/
def myersTellsWrong : ChangeSpec := { name := "myersTells", fn := fun _ => fun
  | [d1, d2, d3, d4] => { results := [.lit (.bool false)], args := [d1, d2, d3, d4] }
  | _ => none }
def MyersTellsWrongFalsely : Prop := myersTellsRow.holds Try.pinned (OpenSpec.ofChange myersTellsWrong)

/-- 'collatorlaw05.MyersTurned': WHATEVER THE INPUT: true; the input reads as it did. -/
def myersTurnedSpec : ChangeSpec := { name := "myersTurned", fn := fun _ => fun
  | [d1, d2, d3] => { results := [.lit (.bool true)], args := [d1, d2, d3] }
  | _ => none }
def myersTurnedRow : OpenClaim := { program := "ythplelgkneipjaa", sum := "43bc6db2c0c841695fa91f9aaddd0b2f7c13080fb74a3d490a4c8c87f8a0046f", func := "collator/collatorlaw05.MyersTurned", spec := "myersTurned", unfollowed := true, recurses := true, apart := false }
def MyersTurnedSaid : Prop := myersTurnedRow.holds Try.pinned (OpenSpec.ofChange myersTurnedSpec)

/-- ITS FALSE NEIGHBOUR: 'it returns false'. Refute it at one input. -/
def myersTurnedWrong : ChangeSpec := { name := "myersTurned", fn := fun _ => fun
  | [d1, d2, d3] => { results := [.lit (.bool false)], args := [d1, d2, d3] }
  | _ => none }
def MyersTurnedWrongFalsely : Prop := myersTurnedRow.holds Try.pinned (OpenSpec.ofChange myersTurnedWrong)

/-- 'collatorlaw05.MyersShared': WHATEVER THE INPUT: true; the input reads as it did. -/
def myersSharedSpec : ChangeSpec := { name := "myersShared", fn := fun _ => fun
  | [d1, d2, d3, d4] => { results := [.lit (.bool true)], args := [d1, d2, d3, d4] }
  | _ => none }
def myersSharedRow : OpenClaim := { program := "ythplelgkneipjaa", sum := "43bc6db2c0c841695fa91f9aaddd0b2f7c13080fb74a3d490a4c8c87f8a0046f", func := "collator/collatorlaw05.MyersShared", spec := "myersShared", unfollowed := true, recurses := true, apart := false }
def MyersSharedSaid : Prop := myersSharedRow.holds Try.pinned (OpenSpec.ofChange myersSharedSpec)

/-- ITS FALSE NEIGHBOUR: 'it returns false'. Refute it at one input. -/
def myersSharedWrong : ChangeSpec := { name := "myersShared", fn := fun _ => fun
  | [d1, d2, d3, d4] => { results := [.lit (.bool false)], args := [d1, d2, d3, d4] }
  | _ => none }
def MyersSharedWrongFalsely : Prop := myersSharedRow.holds Try.pinned (OpenSpec.ofChange myersSharedWrong)

/-- 'collatorlaw05.MyersEnds': WHATEVER THE INPUT: true; the input reads as it did. -/
def myersEndsSpec : ChangeSpec := { name := "myersEnds", fn := fun _ => fun
  | [d1, d2] => { results := [.lit (.bool true)], args := [d1, d2] }
  | _ => none }
def myersEndsRow : OpenClaim := { program := "ythplelgkneipjaa", sum := "43bc6db2c0c841695fa91f9aaddd0b2f7c13080fb74a3d490a4c8c87f8a0046f", func := "collator/collatorlaw05.MyersEnds", spec := "myersEnds", unfollowed := true, recurses := true, apart := false }
def MyersEndsSaid : Prop := myersEndsRow.holds Try.pinned (OpenSpec.ofChange myersEndsSpec)

/-- ITS FALSE NEIGHBOUR: 'it returns false'. Refute it at one input. -/
def myersEndsWrong : ChangeSpec := { name := "myersEnds", fn := fun _ => fun
  | [d1, d2] => { results := [.lit (.bool false)], args := [d1, d2] }
  | _ => none }
def MyersEndsWrongFalsely : Prop := myersEndsRow.holds Try.pinned (OpenSpec.ofChange myersEndsWrong)

/-- 'collatorlaw05.MyersReplace': WHATEVER THE INPUT: true; the input reads as it did. -/
def myersReplaceSpec : ChangeSpec := { name := "myersReplace", fn := fun _ => fun
  | [d1, d2] => { results := [.lit (.bool true)], args := [d1, d2] }
  | _ => none }
def myersReplaceRow : OpenClaim := { program := "ythplelgkneipjaa", sum := "43bc6db2c0c841695fa91f9aaddd0b2f7c13080fb74a3d490a4c8c87f8a0046f", func := "collator/collatorlaw05.MyersReplace", spec := "myersReplace", unfollowed := true, recurses := true, apart := false }
def MyersReplaceSaid : Prop := myersReplaceRow.holds Try.pinned (OpenSpec.ofChange myersReplaceSpec)

/-- ITS FALSE NEIGHBOUR: 'it returns false'. Refute it at one input. -/
def myersReplaceWrong : ChangeSpec := { name := "myersReplace", fn := fun _ => fun
  | [d1, d2] => { results := [.lit (.bool false)], args := [d1, d2] }
  | _ => none }
def MyersReplaceWrongFalsely : Prop := myersReplaceRow.holds Try.pinned (OpenSpec.ofChange myersReplaceWrong)

/-- 'collatorlaw05.MyersParts': WHATEVER THE INPUT: true; the input reads as it did. -/
def myersPartsSpec : ChangeSpec := { name := "myersParts", fn := fun _ => fun
  | [d1, d2, d3, d4, d5] => { results := [.lit (.bool true)], args := [d1, d2, d3, d4, d5] }
  | _ => none }
def myersPartsRow : OpenClaim := { program := "ythplelgkneipjaa", sum := "43bc6db2c0c841695fa91f9aaddd0b2f7c13080fb74a3d490a4c8c87f8a0046f", func := "collator/collatorlaw05.MyersParts", spec := "myersParts", unfollowed := true, recurses := true, apart := false }
def MyersPartsSaid : Prop := myersPartsRow.holds Try.pinned (OpenSpec.ofChange myersPartsSpec)

/-- ITS FALSE NEIGHBOUR: 'it returns false'. Refute it at one input. -/
def myersPartsWrong : ChangeSpec := { name := "myersParts", fn := fun _ => fun
  | [d1, d2, d3, d4, d5] => { results := [.lit (.bool false)], args := [d1, d2, d3, d4, d5] }
  | _ => none }
def MyersPartsWrongFalsely : Prop := myersPartsRow.holds Try.pinned (OpenSpec.ofChange myersPartsWrong)

/-- 'collatorlaw07.AlikeMore': WHATEVER THE INPUT: true; the input reads as it did. -/
def alikeMoreSpec : ChangeSpec := { name := "alikeMore", fn := fun _ => fun
  | [d1, d2, d3] => { results := [.lit (.bool true)], args := [d1, d2, d3] }
  | _ => none }
def alikeMoreRow : OpenClaim := { program := "ythplelgkneipjaa", sum := "43bc6db2c0c841695fa91f9aaddd0b2f7c13080fb74a3d490a4c8c87f8a0046f", func := "collator/collatorlaw07.AlikeMore", spec := "alikeMore", apart := false }
def AlikeMoreSaid : Prop := alikeMoreRow.holds Try.pinned (OpenSpec.ofChange alikeMoreSpec)

/-- ITS FALSE NEIGHBOUR: 'it returns false'. Refute it at one input. -/
def alikeMoreWrong : ChangeSpec := { name := "alikeMore", fn := fun _ => fun
  | [d1, d2, d3] => { results := [.lit (.bool false)], args := [d1, d2, d3] }
  | _ => none }
def AlikeMoreWrongFalsely : Prop := alikeMoreRow.holds Try.pinned (OpenSpec.ofChange alikeMoreWrong)

/-- 'collatorlaw05.MyersMakes': WHATEVER THE INPUT: true; the input reads as it did. -/
def myersMakesSpec : ChangeSpec := { name := "myersMakes", fn := fun _ => fun
  | [d1, d2] => { results := [.lit (.bool true)], args := [d1, d2] }
  | _ => none }
def myersMakesRow : OpenClaim := { program := "ythplelgkneipjaa", sum := "43bc6db2c0c841695fa91f9aaddd0b2f7c13080fb74a3d490a4c8c87f8a0046f", func := "collator/collatorlaw05.MyersMakes", spec := "myersMakes", unfollowed := true, recurses := true, apart := false }
def MyersMakesSaid : Prop := myersMakesRow.holds Try.pinned (OpenSpec.ofChange myersMakesSpec)

/-- ITS FALSE NEIGHBOUR: 'it returns false'. Refute it at one input. -/
def myersMakesWrong : ChangeSpec := { name := "myersMakes", fn := fun _ => fun
  | [d1, d2] => { results := [.lit (.bool false)], args := [d1, d2] }
  | _ => none }
def MyersMakesWrongFalsely : Prop := myersMakesRow.holds Try.pinned (OpenSpec.ofChange myersMakesWrong)

/-- 'collatorlaw05.MyersLeast': WHATEVER THE INPUT: true; the input reads as it did. -/
def myersLeastSpec : ChangeSpec := { name := "myersLeast", fn := fun _ => fun
  | [d1, d2] => { results := [.lit (.bool true)], args := [d1, d2] }
  | _ => none }
def myersLeastRow : OpenClaim := { program := "ythplelgkneipjaa", sum := "43bc6db2c0c841695fa91f9aaddd0b2f7c13080fb74a3d490a4c8c87f8a0046f", func := "collator/collatorlaw05.MyersLeast", spec := "myersLeast", unfollowed := true, recurses := true, apart := false }
def MyersLeastSaid : Prop := myersLeastRow.holds Try.pinned (OpenSpec.ofChange myersLeastSpec)

/-- ITS FALSE NEIGHBOUR: 'it returns false'. Refute it at one input. -/
def myersLeastWrong : ChangeSpec := { name := "myersLeast", fn := fun _ => fun
  | [d1, d2] => { results := [.lit (.bool false)], args := [d1, d2] }
  | _ => none }
def MyersLeastWrongFalsely : Prop := myersLeastRow.holds Try.pinned (OpenSpec.ofChange myersLeastWrong)

/- THE SECOND FORM. 'bulk': how many values and letters a reading holds, each counted each time it is reached (what is shared counts as often as it is met; a slice's spare places count too). A statement '..UptoSaid' is the law's where the arguments, and the package variables that the reading takes, are together of bulk at most 1048576: NARROWER than '..Said'. Prove '..Said' where nothing that the law and all that it calls make is longer than what came in: it says more and counts as full. Else prove '..UptoSaid'. A law counts once. -/
mutual
def uptoBulk {H : Type} : DataW H → Nat
  | .lit (.string bytes) => bytes.length + 1
  | .lit _ => 1
  | .nil => 1
  | .ptr d => uptoBulk d + 1
  | .slice elems spare => uptoBulkAll elems + uptoBulkAll spare + 1
  | .agg parts => uptoBulkAll parts + 1
  | .iface _ d => uptoBulk d + 1
  | .map entries => uptoBulkEntries entries + 1
  | .held _ => 1
def uptoBulkAll {H : Type} : List (DataW H) → Nat
  | [] => 0
  | d :: r => uptoBulk d + uptoBulkAll r
def uptoBulkEntries {H : Type} : List (Lit × DataW H) → Nat
  | [] => 0
  | x :: r => uptoBulkEntry x + uptoBulkEntries r
def uptoBulkEntry {H : Type} : Lit × DataW H → Nat
  | (.string bytes, d) => bytes.length + uptoBulk d + 1
  | (_, d) => uptoBulk d + 1
 end
def uptoSmall : (H : Type) → List (DataW H) → Bool := fun _ ds => decide (uptoBulkAll ds ≤ 1048576)
def OpenSpec.upto (s : _root_.Go.ChangeSpec) : _root_.Go.OpenSpec := { _root_.Go.OpenSpec.ofChange s with cond := some uptoSmall }

/-- 'collatorlaw07.AlikeTells', WHERE WHAT IT READS IS OF BULK AT MOST 1048576: true; the input reads as it did. -/
def alikeTellsUptoRow : OpenClaim := { program := "ythplelgkneipjaa", sum := "43bc6db2c0c841695fa91f9aaddd0b2f7c13080fb74a3d490a4c8c87f8a0046f", func := "collator/collatorlaw07.AlikeTells", spec := "alikeTells", apart := false, narrowed := true }
def AlikeTellsUptoSaid : Prop := alikeTellsUptoRow.holds Try.pinned (OpenSpec.upto alikeTellsSpec)

/-- 'collatorlaw07.AlikeTurned', WHERE WHAT IT READS IS OF BULK AT MOST 1048576: true; the input reads as it did. -/
def alikeTurnedUptoRow : OpenClaim := { program := "ythplelgkneipjaa", sum := "43bc6db2c0c841695fa91f9aaddd0b2f7c13080fb74a3d490a4c8c87f8a0046f", func := "collator/collatorlaw07.AlikeTurned", spec := "alikeTurned", apart := false, narrowed := true }
def AlikeTurnedUptoSaid : Prop := alikeTurnedUptoRow.holds Try.pinned (OpenSpec.upto alikeTurnedSpec)

/-- 'collatorlaw07.AlikeSame', WHERE WHAT IT READS IS OF BULK AT MOST 1048576: true; the input reads as it did. -/
def alikeSameUptoRow : OpenClaim := { program := "ythplelgkneipjaa", sum := "43bc6db2c0c841695fa91f9aaddd0b2f7c13080fb74a3d490a4c8c87f8a0046f", func := "collator/collatorlaw07.AlikeSame", spec := "alikeSame", apart := false, narrowed := true }
def AlikeSameUptoSaid : Prop := alikeSameUptoRow.holds Try.pinned (OpenSpec.upto alikeSameSpec)

/-- 'collatorlaw07.AlikeBest', WHERE WHAT IT READS IS OF BULK AT MOST 1048576: true; the input reads as it did. -/
def alikeBestUptoRow : OpenClaim := { program := "ythplelgkneipjaa", sum := "43bc6db2c0c841695fa91f9aaddd0b2f7c13080fb74a3d490a4c8c87f8a0046f", func := "collator/collatorlaw07.AlikeBest", spec := "alikeBest", apart := false, narrowed := true }
def AlikeBestUptoSaid : Prop := alikeBestUptoRow.holds Try.pinned (OpenSpec.upto alikeBestSpec)

/-- 'collatorlaw07.AlikeTwice', WHERE WHAT IT READS IS OF BULK AT MOST 1048576: true; the input reads as it did. -/
def alikeTwiceUptoRow : OpenClaim := { program := "ythplelgkneipjaa", sum := "43bc6db2c0c841695fa91f9aaddd0b2f7c13080fb74a3d490a4c8c87f8a0046f", func := "collator/collatorlaw07.AlikeTwice", spec := "alikeTwice", apart := false, narrowed := true }
def AlikeTwiceUptoSaid : Prop := alikeTwiceUptoRow.holds Try.pinned (OpenSpec.upto alikeTwiceSpec)

/-- 'collatorlaw05.MyersTells', WHERE WHAT IT READS IS OF BULK AT MOST 1048576: true; the input reads as it did. -/
def myersTellsUptoRow : OpenClaim := { program := "ythplelgkneipjaa", sum := "43bc6db2c0c841695fa91f9aaddd0b2f7c13080fb74a3d490a4c8c87f8a0046f", func := "collator/collatorlaw05.MyersTells", spec := "myersTells", unfollowed := true, recurses := true, apart := false, narrowed := true }
def MyersTellsUptoSaid : Prop := myersTellsUptoRow.holds Try.pinned (OpenSpec.upto myersTellsSpec)

/-- 'collatorlaw05.MyersTurned', WHERE WHAT IT READS IS OF BULK AT MOST 1048576: true; the input reads as it did. -/
def myersTurnedUptoRow : OpenClaim := { program := "ythplelgkneipjaa", sum := "43bc6db2c0c841695fa91f9aaddd0b2f7c13080fb74a3d490a4c8c87f8a0046f", func := "collator/collatorlaw05.MyersTurned", spec := "myersTurned", unfollowed := true, recurses := true, apart := false, narrowed := true }
def MyersTurnedUptoSaid : Prop := myersTurnedUptoRow.holds Try.pinned (OpenSpec.upto myersTurnedSpec)

/-- 'collatorlaw05.MyersShared', WHERE WHAT IT READS IS OF BULK AT MOST 1048576: true; the input reads as it did. -/
def myersSharedUptoRow : OpenClaim := { program := "ythplelgkneipjaa", sum := "43bc6db2c0c841695fa91f9aaddd0b2f7c13080fb74a3d490a4c8c87f8a0046f", func := "collator/collatorlaw05.MyersShared", spec := "myersShared", unfollowed := true, recurses := true, apart := false, narrowed := true }
def MyersSharedUptoSaid : Prop := myersSharedUptoRow.holds Try.pinned (OpenSpec.upto myersSharedSpec)

/-- 'collatorlaw05.MyersEnds', WHERE WHAT IT READS IS OF BULK AT MOST 1048576: true; the input reads as it did. -/
def myersEndsUptoRow : OpenClaim := { program := "ythplelgkneipjaa", sum := "43bc6db2c0c841695fa91f9aaddd0b2f7c13080fb74a3d490a4c8c87f8a0046f", func := "collator/collatorlaw05.MyersEnds", spec := "myersEnds", unfollowed := true, recurses := true, apart := false, narrowed := true }
def MyersEndsUptoSaid : Prop := myersEndsUptoRow.holds Try.pinned (OpenSpec.upto myersEndsSpec)

/-- 'collatorlaw05.MyersReplace', WHERE WHAT IT READS IS OF BULK AT MOST 1048576: true; the input reads as it did. -/
def myersReplaceUptoRow : OpenClaim := { program := "ythplelgkneipjaa", sum := "43bc6db2c0c841695fa91f9aaddd0b2f7c13080fb74a3d490a4c8c87f8a0046f", func := "collator/collatorlaw05.MyersReplace", spec := "myersReplace", unfollowed := true, recurses := true, apart := false, narrowed := true }
def MyersReplaceUptoSaid : Prop := myersReplaceUptoRow.holds Try.pinned (OpenSpec.upto myersReplaceSpec)

/-- 'collatorlaw05.MyersParts', WHERE WHAT IT READS IS OF BULK AT MOST 1048576: true; the input reads as it did. -/
def myersPartsUptoRow : OpenClaim := { program := "ythplelgkneipjaa", sum := "43bc6db2c0c841695fa91f9aaddd0b2f7c13080fb74a3d490a4c8c87f8a0046f", func := "collator/collatorlaw05.MyersParts", spec := "myersParts", unfollowed := true, recurses := true, apart := false, narrowed := true }
def MyersPartsUptoSaid : Prop := myersPartsUptoRow.holds Try.pinned (OpenSpec.upto myersPartsSpec)

/-- 'collatorlaw07.AlikeMore', WHERE WHAT IT READS IS OF BULK AT MOST 1048576: true; the input reads as it did. -/
def alikeMoreUptoRow : OpenClaim := { program := "ythplelgkneipjaa", sum := "43bc6db2c0c841695fa91f9aaddd0b2f7c13080fb74a3d490a4c8c87f8a0046f", func := "collator/collatorlaw07.AlikeMore", spec := "alikeMore", apart := false, narrowed := true }
def AlikeMoreUptoSaid : Prop := alikeMoreUptoRow.holds Try.pinned (OpenSpec.upto alikeMoreSpec)

/-- 'collatorlaw05.MyersMakes', WHERE WHAT IT READS IS OF BULK AT MOST 1048576: true; the input reads as it did. -/
def myersMakesUptoRow : OpenClaim := { program := "ythplelgkneipjaa", sum := "43bc6db2c0c841695fa91f9aaddd0b2f7c13080fb74a3d490a4c8c87f8a0046f", func := "collator/collatorlaw05.MyersMakes", spec := "myersMakes", unfollowed := true, recurses := true, apart := false, narrowed := true }
def MyersMakesUptoSaid : Prop := myersMakesUptoRow.holds Try.pinned (OpenSpec.upto myersMakesSpec)

/-- 'collatorlaw05.MyersLeast', WHERE WHAT IT READS IS OF BULK AT MOST 1048576: true; the input reads as it did. -/
def myersLeastUptoRow : OpenClaim := { program := "ythplelgkneipjaa", sum := "43bc6db2c0c841695fa91f9aaddd0b2f7c13080fb74a3d490a4c8c87f8a0046f", func := "collator/collatorlaw05.MyersLeast", spec := "myersLeast", unfollowed := true, recurses := true, apart := false, narrowed := true }
def MyersLeastUptoSaid : Prop := myersLeastUptoRow.holds Try.pinned (OpenSpec.upto myersLeastSpec)

end Rows
end Go.Proofs.Ythplelgkneipjaa
