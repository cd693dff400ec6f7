/-
  No cell of these rows narrows 'for every input' (looked for: loops, veiled, ifaces, maps, wideKeys, modest, calm, conditions, laid).
  DERIVED. THE GIVEN ROWS OF THIS SEAT. 4 by the template 'for every input the law returns true; each argument reads behind the call as it read before'; 0 by the template 'total and deterministic' (their statements: YthjihdfgamdhmaaTotals.lean).
  GIVEN WITH THE SEED: the statements are not yours to turn. If you find one false, say at which input.
  Laid BY PROGRAM, IN A SANDBOX (cutbox-rows.mjs): the forced cells as the released guide's own fill.sh prints them over the translation 66a38bb07ad46b30… (all of the seat's roots in one cut). By AI agents, Wed Nov 11 2026. No macro, syntax, notation, axiom, sorry.
-/
import Derived.Test.YthjihdfgamdhmaaChecked
import GoSem.Claim
import GoSem.ClaimJoined
import GoSem.ClaimMapViews
import Derived.JoinedTies
import Derived.KernelRfl
namespace Go.Proofs.Ythjihdfgamdhmaa
/- THE CELL 'sum', in the pinned program and in every row, IS THE sha256 OF THE DUMP (.gsa) THAT YthjihdfgamdhmaaProg.lean LOADS. Nothing in Lean hashes anything: it is a label: what it is worth is what the hold of that sum in a sandbox is worth. -/
noncomputable def Try.pinned : Pinned := { name := "ythjihdfgamdhmaa", sum := "66a38bb07ad46b3017ed8586afd206a90dcb986eb12321dc165b19e7921771bf", checked := Try.checked }
namespace Rows
def none {H : Type} : Left H := { results := [], args := [] }

/-- 'collatorlaw03.RowsRight': WHATEVER THE INPUT: true; the input reads as it did. -/
def rowsRightSpec : ChangeSpec := { name := "rowsRight", fn := fun _ => fun
  | [d1, d2, d3, d4] => { results := [.lit (.bool true)], args := [d1, d2, d3, d4] }
  | _ => none }
def rowsRightRow : OpenClaim := { program := "ythjihdfgamdhmaa", sum := "66a38bb07ad46b3017ed8586afd206a90dcb986eb12321dc165b19e7921771bf", func := "collator/collatorlaw03.RowsRight", spec := "rowsRight", inPlace := ["internal/bytealg.IndexByteString", "internal/bytealg.IndexString", "internal/abi.NoEscape", "internal/bytealg.MakeNoZero"], unfollowed := true, recurses := true, named := ["internal/bytealg.MaxLen"], apart := false }
def RowsRightSaid : Prop := rowsRightRow.holds Try.pinned (OpenSpec.ofChange rowsRightSpec)

/-- ITS FALSE NEIGHBOUR: 'it returns false'. Refute it at one input. -/
def rowsRightWrong : ChangeSpec := { name := "rowsRight", fn := fun _ => fun
  | [d1, d2, d3, d4] => { results := [.lit (.bool false)], args := [d1, d2, d3, d4] }
  | _ => none }
def RowsRightWrongFalsely : Prop := rowsRightRow.holds Try.pinned (OpenSpec.ofChange rowsRightWrong)

/-- 'collatorlaw03.RowsShared': WHATEVER THE INPUT: true; the input reads as it did. -/
def rowsSharedSpec : ChangeSpec := { name := "rowsShared", fn := fun _ => fun
  | [d1, d2] => { results := [.lit (.bool true)], args := [d1, d2] }
  | _ => none }
def rowsSharedRow : OpenClaim := { program := "ythjihdfgamdhmaa", sum := "66a38bb07ad46b3017ed8586afd206a90dcb986eb12321dc165b19e7921771bf", func := "collator/collatorlaw03.RowsShared", spec := "rowsShared", inPlace := ["internal/bytealg.IndexByteString", "internal/bytealg.IndexString", "internal/abi.NoEscape", "internal/bytealg.MakeNoZero"], unfollowed := true, recurses := true, named := ["internal/bytealg.MaxLen"], apart := false }
def RowsSharedSaid : Prop := rowsSharedRow.holds Try.pinned (OpenSpec.ofChange rowsSharedSpec)

/-- ITS FALSE NEIGHBOUR: 'it returns false'. Refute it at one input. -/
def rowsSharedWrong : ChangeSpec := { name := "rowsShared", fn := fun _ => fun
  | [d1, d2] => { results := [.lit (.bool false)], args := [d1, d2] }
  | _ => none }
def RowsSharedWrongFalsely : Prop := rowsSharedRow.holds Try.pinned (OpenSpec.ofChange rowsSharedWrong)

/-- 'collatorlaw03.RowsMany': WHATEVER THE INPUT: true; the input reads as it did. -/
def rowsManySpec : ChangeSpec := { name := "rowsMany", fn := fun _ => fun
  | [d] => { results := [.lit (.bool true)], args := [d] }
  | _ => none }
def rowsManyRow : OpenClaim := { program := "ythjihdfgamdhmaa", sum := "66a38bb07ad46b3017ed8586afd206a90dcb986eb12321dc165b19e7921771bf", func := "collator/collatorlaw03.RowsMany", spec := "rowsMany", inPlace := ["internal/bytealg.IndexByteString", "internal/bytealg.IndexString", "internal/abi.NoEscape", "internal/bytealg.MakeNoZero"], unfollowed := true, recurses := true, named := ["internal/bytealg.MaxLen"], apart := false }
def RowsManySaid : Prop := rowsManyRow.holds Try.pinned (OpenSpec.ofChange rowsManySpec)

/-- ITS FALSE NEIGHBOUR: 'it returns false'. Refute it at one input. -/
def rowsManyWrong : ChangeSpec := { name := "rowsMany", fn := fun _ => fun
  | [d] => { results := [.lit (.bool false)], args := [d] }
  | _ => none }
def RowsManyWrongFalsely : Prop := rowsManyRow.holds Try.pinned (OpenSpec.ofChange rowsManyWrong)

/-- 'collatorlaw03.RowsParts': WHATEVER THE INPUT: true; the input reads as it did. -/
def rowsPartsSpec : ChangeSpec := { name := "rowsParts", fn := fun _ => fun
  | [d1, d2, d3] => { results := [.lit (.bool true)], args := [d1, d2, d3] }
  | _ => none }
def rowsPartsRow : OpenClaim := { program := "ythjihdfgamdhmaa", sum := "66a38bb07ad46b3017ed8586afd206a90dcb986eb12321dc165b19e7921771bf", func := "collator/collatorlaw03.RowsParts", spec := "rowsParts", inPlace := ["internal/bytealg.IndexByteString", "internal/bytealg.IndexString", "internal/abi.NoEscape", "internal/bytealg.MakeNoZero"], unfollowed := true, recurses := true, named := ["internal/bytealg.MaxLen"], apart := false }
def RowsPartsSaid : Prop := rowsPartsRow.holds Try.pinned (OpenSpec.ofChange rowsPartsSpec)

/-- ITS FALSE NEIGHBOUR: 'it returns false'. Refute it at one input. -/
def rowsPartsWrong : ChangeSpec := { name := "rowsParts", fn := fun _ => fun
  | [d1, d2, d3] => { results := [.lit (.bool false)], args := [d1, d2, d3] }
  | _ => none }
def RowsPartsWrongFalsely : Prop := rowsPartsRow.holds Try.pinned (OpenSpec.ofChange rowsPartsWrong)

/- THE SECOND FORM. 'bulk': how many values and letters a reading holds, each counted each time it is reached (what is shared counts as often as it is met; a slice's spare places count too). A statement '..UptoSaid' is the law's where the arguments, and the package variables that the reading takes, are together of bulk at most 1048576: NARROWER than '..Said'. Prove '..Said' where nothing that the law and all that it calls make is longer than what came in: it says more and counts as full. Else prove '..UptoSaid'. A law counts once. -/
mutual
def uptoBulk {H : Type} : DataW H → Nat
  | .lit (.string bytes) => bytes.length + 1
  | .lit _ => 1
  | .nil => 1
  | .ptr d => uptoBulk d + 1
  | .slice elems spare => uptoBulkAll elems + uptoBulkAll spare + 1
  | .agg parts => uptoBulkAll parts + 1
  | .iface _ d => uptoBulk d + 1
  | .map entries => uptoBulkEntries entries + 1
  | .held _ => 1
def uptoBulkAll {H : Type} : List (DataW H) → Nat
  | [] => 0
  | d :: r => uptoBulk d + uptoBulkAll r
def uptoBulkEntries {H : Type} : List (Lit × DataW H) → Nat
  | [] => 0
  | x :: r => uptoBulkEntry x + uptoBulkEntries r
def uptoBulkEntry {H : Type} : Lit × DataW H → Nat
  | (.string bytes, d) => bytes.length + uptoBulk d + 1
  | (_, d) => uptoBulk d + 1
 end
def uptoSmall : (H : Type) → List (DataW H) → Bool := fun _ ds => decide (uptoBulkAll ds ≤ 1048576)
def OpenSpec.upto (s : _root_.Go.ChangeSpec) : _root_.Go.OpenSpec := { _root_.Go.OpenSpec.ofChange s with cond := some uptoSmall }

/-- 'collatorlaw03.RowsRight', WHERE WHAT IT READS IS OF BULK AT MOST 1048576: true; the input reads as it did. -/
def rowsRightUptoRow : OpenClaim := { program := "ythjihdfgamdhmaa", sum := "66a38bb07ad46b3017ed8586afd206a90dcb986eb12321dc165b19e7921771bf", func := "collator/collatorlaw03.RowsRight", spec := "rowsRight", inPlace := ["internal/bytealg.IndexByteString", "internal/bytealg.IndexString", "internal/abi.NoEscape", "internal/bytealg.MakeNoZero"], unfollowed := true, recurses := true, named := ["internal/bytealg.MaxLen"], apart := false, narrowed := true }
def RowsRightUptoSaid : Prop := rowsRightUptoRow.holds Try.pinned (OpenSpec.upto rowsRightSpec)

/-- 'collatorlaw03.RowsShared', WHERE WHAT IT READS IS OF BULK AT MOST 1048576: true; the input reads as it did. -/
def rowsSharedUptoRow : OpenClaim := { program := "ythjihdfgamdhmaa", sum := "66a38bb07ad46b3017ed8586afd206a90dcb986eb12321dc165b19e7921771bf", func := "collator/collatorlaw03.RowsShared", spec := "rowsShared", inPlace := ["internal/bytealg.IndexByteString", "internal/bytealg.IndexString", "internal/abi.NoEscape", "internal/bytealg.MakeNoZero"], unfollowed := true, recurses := true, named := ["internal/bytealg.MaxLen"], apart := false, narrowed := true }
def RowsSharedUptoSaid : Prop := rowsSharedUptoRow.holds Try.pinned (OpenSpec.upto rowsSharedSpec)

/-- 'collatorlaw03.RowsMany', WHERE WHAT IT READS IS OF BULK AT MOST 1048576: true; the input reads as it did. -/
def rowsManyUptoRow : OpenClaim := { program := "ythjihdfgamdhmaa", sum := "66a38bb07ad46b3017ed8586afd206a90dcb986eb12321dc165b19e7921771bf", func := "collator/collatorlaw03.RowsMany", spec := "rowsMany", inPlace := ["internal/bytealg.IndexByteString", "internal/bytealg.IndexString", "internal/abi.NoEscape", "internal/bytealg.MakeNoZero"], unfollowed := true, recurses := true, named := ["internal/bytealg.MaxLen"], apart := false, narrowed := true }
def RowsManyUptoSaid : Prop := rowsManyUptoRow.holds Try.pinned (OpenSpec.upto rowsManySpec)

/-- 'collatorlaw03.RowsParts', WHERE WHAT IT READS IS OF BULK AT MOST 1048576: true; the input reads as it did. -/
def rowsPartsUptoRow : OpenClaim := { program := "ythjihdfgamdhmaa", sum := "66a38bb07ad46b3017ed8586afd206a90dcb986eb12321dc165b19e7921771bf", func := "collator/collatorlaw03.RowsParts", spec := "rowsParts", inPlace := ["internal/bytealg.IndexByteString", "internal/bytealg.IndexString", "internal/abi.NoEscape", "internal/bytealg.MakeNoZero"], unfollowed := true, recurses := true, named := ["internal/bytealg.MaxLen"], apart := false, narrowed := true }
def RowsPartsUptoSaid : Prop := rowsPartsUptoRow.holds Try.pinned (OpenSpec.upto rowsPartsSpec)

end Rows
end Go.Proofs.Ythjihdfgamdhmaa
