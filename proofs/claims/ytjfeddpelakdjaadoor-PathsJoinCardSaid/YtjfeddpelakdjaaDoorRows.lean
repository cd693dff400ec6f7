/-
  NARROWER THAN 'FOR EVERY INPUT', by the rows' own cells (each row's printed sentence says how): PathsTells: laid · PathsOrder: laid · PathsWithin: laid · PathsJoin: laid · PathsParts: laid · PathsNames: laid · PathsDir: laid.
  DERIVED. THE GIVEN ROWS OF THIS SEAT. 7 by the template 'for every input the law returns true; each argument reads behind the call as it read before'; 0 by the template 'total and deterministic' (their statements: YtjfeddpelakdjaaDoorTotals.lean).
  GIVEN WITH THE SEED: the statements are not yours to turn. If you find one false, say at which input.
  Laid BY PROGRAM, IN A SANDBOX (cutbox-rows.mjs): the forced cells as the released guide's own fill.sh prints them over the translation abb16fac1ac5a1ef… (all of the seat's roots in one cut). By AI agents, Wed Nov 11 2026. No macro, syntax, notation, axiom, sorry.
-/
import Derived.Test.YtjfeddpelakdjaaDoorChecked
import GoSem.PinnedTables
import GoSem.Claim
import GoSem.ClaimJoined
import GoSem.ClaimMapViews
import Derived.JoinedTies
import Derived.KernelRfl
namespace Go.Proofs.YtjfeddpelakdjaaDoor
/- THE CELL 'sum', in the pinned program and in every row, IS THE sha256 OF THE DUMP (.gsa) THAT YtjfeddpelakdjaaDoorProg.lean LOADS. Nothing in Lean hashes anything: it is a label: what it is worth is what the hold of that sum in a sandbox is worth. -/
noncomputable def Tryd.pinned : Pinned := { name := "ytjfeddpelakdjaadoor", sum := "abb16fac1ac5a1efff98ffba4d4cdb73ea6effe891a80573d9afba5bc4099bd4", checked := Tryd.checked }
namespace Rows
def none {H : Type} : Left H := { results := [], args := [] }

/- WHAT THE LISTED PACKAGE-LEVEL VARIABLES READ AS WHEN THE CALL BEGINS. Each datum BY PROGRAM (the guide's laid-datum.mjs) off the statement by which the dump's own 'gosem.cut.vars' lays the variable. In a bare row this is a premise. The card (YtjfeddpelakdjaaDoorCards.lean) ties it to the program's text. -/
def laid_unicode_utf8_acceptRanges {H : Type} : DataW H := .agg [.agg [.lit (.int .u8 128), .lit (.int .u8 191)], .agg [.lit (.int .u8 160), .lit (.int .u8 191)], .agg [.lit (.int .u8 128), .lit (.int .u8 159)], .agg [.lit (.int .u8 144), .lit (.int .u8 191)], .agg [.lit (.int .u8 128), .lit (.int .u8 143)], .agg [.lit (.int .u8 0), .lit (.int .u8 0)], .agg [.lit (.int .u8 0), .lit (.int .u8 0)], .agg [.lit (.int .u8 0), .lit (.int .u8 0)], .agg [.lit (.int .u8 0), .lit (.int .u8 0)], .agg [.lit (.int .u8 0), .lit (.int .u8 0)], .agg [.lit (.int .u8 0), .lit (.int .u8 0)], .agg [.lit (.int .u8 0), .lit (.int .u8 0)], .agg [.lit (.int .u8 0), .lit (.int .u8 0)], .agg [.lit (.int .u8 0), .lit (.int .u8 0)], .agg [.lit (.int .u8 0), .lit (.int .u8 0)], .agg [.lit (.int .u8 0), .lit (.int .u8 0)]]
/-- One of Go's own tables, pinned by name: the form's constant. -/
def laid_unicode_utf8_first : DataW Unit := Go.Pinned.utf8First

/-- 'collatorlaw01.PathsTells': WHATEVER THE INPUT: true; the input reads as it did. -/
def pathsTellsSpec : ChangeSpec := { name := "pathsTells", fn := fun _ => fun
  | [d1, d2, d3, d4] => { results := [.lit (.bool true)], args := [d1, d2, d3, d4] }
  | _ => none }
def pathsTellsRow : OpenClaim := { program := "ytjfeddpelakdjaadoor", sum := "abb16fac1ac5a1efff98ffba4d4cdb73ea6effe891a80573d9afba5bc4099bd4", func := "collator/collatorlaw01.PathsTells", spec := "pathsTells", inPlace := ["internal/bytealg.CountString", "internal/bytealg.IndexByteString", "internal/bytealg.IndexString"], named := ["unicode/utf8.first", "unicode/utf8.acceptRanges", "internal/bytealg.MaxLen"], apart := false, laid := [("unicode/utf8.acceptRanges", laid_unicode_utf8_acceptRanges), ("unicode/utf8.first", laid_unicode_utf8_first)] }
def PathsTellsSaid : Prop := pathsTellsRow.holds Tryd.pinned (OpenSpec.ofChange pathsTellsSpec)

/-- ITS FALSE NEIGHBOUR: 'it returns false'. Refute it at one input. -/
def pathsTellsWrong : ChangeSpec := { name := "pathsTells", fn := fun _ => fun
  | [d1, d2, d3, d4] => { results := [.lit (.bool false)], args := [d1, d2, d3, d4] }
  | _ => none }
def PathsTellsWrongFalsely : Prop := pathsTellsRow.holds Tryd.pinned (OpenSpec.ofChange pathsTellsWrong)

/-- 'collatorlaw01.PathsOrder': WHATEVER THE INPUT: true; the input reads as it did. -/
def pathsOrderSpec : ChangeSpec := { name := "pathsOrder", fn := fun _ => fun
  | [d1, d2, d3] => { results := [.lit (.bool true)], args := [d1, d2, d3] }
  | _ => none }
def pathsOrderRow : OpenClaim := { program := "ytjfeddpelakdjaadoor", sum := "abb16fac1ac5a1efff98ffba4d4cdb73ea6effe891a80573d9afba5bc4099bd4", func := "collator/collatorlaw01.PathsOrder", spec := "pathsOrder", inPlace := ["internal/bytealg.CountString", "internal/bytealg.IndexByteString", "internal/bytealg.IndexString"], named := ["unicode/utf8.first", "unicode/utf8.acceptRanges", "internal/bytealg.MaxLen"], apart := false, laid := [("unicode/utf8.acceptRanges", laid_unicode_utf8_acceptRanges), ("unicode/utf8.first", laid_unicode_utf8_first)] }
def PathsOrderSaid : Prop := pathsOrderRow.holds Tryd.pinned (OpenSpec.ofChange pathsOrderSpec)

/-- ITS FALSE NEIGHBOUR: 'it returns false'. Refute it at one input. -/
def pathsOrderWrong : ChangeSpec := { name := "pathsOrder", fn := fun _ => fun
  | [d1, d2, d3] => { results := [.lit (.bool false)], args := [d1, d2, d3] }
  | _ => none }
def PathsOrderWrongFalsely : Prop := pathsOrderRow.holds Tryd.pinned (OpenSpec.ofChange pathsOrderWrong)

/-- 'collatorlaw01.PathsWithin': WHATEVER THE INPUT: true; the input reads as it did. -/
def pathsWithinSpec : ChangeSpec := { name := "pathsWithin", fn := fun _ => fun
  | [d1, d2, d3, d4, d5] => { results := [.lit (.bool true)], args := [d1, d2, d3, d4, d5] }
  | _ => none }
def pathsWithinRow : OpenClaim := { program := "ytjfeddpelakdjaadoor", sum := "abb16fac1ac5a1efff98ffba4d4cdb73ea6effe891a80573d9afba5bc4099bd4", func := "collator/collatorlaw01.PathsWithin", spec := "pathsWithin", inPlace := ["internal/bytealg.CountString", "internal/bytealg.IndexByteString", "internal/bytealg.IndexString"], named := ["unicode/utf8.first", "unicode/utf8.acceptRanges", "internal/bytealg.MaxLen"], apart := false, laid := [("unicode/utf8.acceptRanges", laid_unicode_utf8_acceptRanges), ("unicode/utf8.first", laid_unicode_utf8_first)] }
def PathsWithinSaid : Prop := pathsWithinRow.holds Tryd.pinned (OpenSpec.ofChange pathsWithinSpec)

/-- ITS FALSE NEIGHBOUR: 'it returns false'. Refute it at one input. -/
def pathsWithinWrong : ChangeSpec := { name := "pathsWithin", fn := fun _ => fun
  | [d1, d2, d3, d4, d5] => { results := [.lit (.bool false)], args := [d1, d2, d3, d4, d5] }
  | _ => none }
def PathsWithinWrongFalsely : Prop := pathsWithinRow.holds Tryd.pinned (OpenSpec.ofChange pathsWithinWrong)

/-- 'collatorlaw01.PathsJoin': WHATEVER THE INPUT: true; the input reads as it did. -/
def pathsJoinSpec : ChangeSpec := { name := "pathsJoin", fn := fun _ => fun
  | [d1, d2] => { results := [.lit (.bool true)], args := [d1, d2] }
  | _ => none }
def pathsJoinRow : OpenClaim := { program := "ytjfeddpelakdjaadoor", sum := "abb16fac1ac5a1efff98ffba4d4cdb73ea6effe891a80573d9afba5bc4099bd4", func := "collator/collatorlaw01.PathsJoin", spec := "pathsJoin", inPlace := ["internal/bytealg.CountString", "internal/bytealg.IndexByteString", "internal/bytealg.IndexString"], named := ["unicode/utf8.first", "unicode/utf8.acceptRanges", "internal/bytealg.MaxLen"], apart := false, laid := [("unicode/utf8.acceptRanges", laid_unicode_utf8_acceptRanges), ("unicode/utf8.first", laid_unicode_utf8_first)] }
def PathsJoinSaid : Prop := pathsJoinRow.holds Tryd.pinned (OpenSpec.ofChange pathsJoinSpec)

/-- ITS FALSE NEIGHBOUR: 'it returns false'. Refute it at one input. -/
def pathsJoinWrong : ChangeSpec := { name := "pathsJoin", fn := fun _ => fun
  | [d1, d2] => { results := [.lit (.bool false)], args := [d1, d2] }
  | _ => none }
def PathsJoinWrongFalsely : Prop := pathsJoinRow.holds Tryd.pinned (OpenSpec.ofChange pathsJoinWrong)

/-- 'collatorlaw01.PathsParts': WHATEVER THE INPUT: true; the input reads as it did. -/
def pathsPartsSpec : ChangeSpec := { name := "pathsParts", fn := fun _ => fun
  | [d1, d2, d3] => { results := [.lit (.bool true)], args := [d1, d2, d3] }
  | _ => none }
def pathsPartsRow : OpenClaim := { program := "ytjfeddpelakdjaadoor", sum := "abb16fac1ac5a1efff98ffba4d4cdb73ea6effe891a80573d9afba5bc4099bd4", func := "collator/collatorlaw01.PathsParts", spec := "pathsParts", inPlace := ["internal/bytealg.CountString", "internal/bytealg.IndexByteString", "internal/bytealg.IndexString"], named := ["unicode/utf8.first", "unicode/utf8.acceptRanges", "internal/bytealg.MaxLen"], apart := false, laid := [("unicode/utf8.acceptRanges", laid_unicode_utf8_acceptRanges), ("unicode/utf8.first", laid_unicode_utf8_first)] }
def PathsPartsSaid : Prop := pathsPartsRow.holds Tryd.pinned (OpenSpec.ofChange pathsPartsSpec)

/-- ITS FALSE NEIGHBOUR: 'it returns false'. Refute it at one input. -/
def pathsPartsWrong : ChangeSpec := { name := "pathsParts", fn := fun _ => fun
  | [d1, d2, d3] => { results := [.lit (.bool false)], args := [d1, d2, d3] }
  | _ => none }
def PathsPartsWrongFalsely : Prop := pathsPartsRow.holds Tryd.pinned (OpenSpec.ofChange pathsPartsWrong)

/-- 'collatorlaw01.PathsNames': WHATEVER THE INPUT: true; the input reads as it did. -/
def pathsNamesSpec : ChangeSpec := { name := "pathsNames", fn := fun _ => fun
  | [d1, d2, d3] => { results := [.lit (.bool true)], args := [d1, d2, d3] }
  | _ => none }
def pathsNamesRow : OpenClaim := { program := "ytjfeddpelakdjaadoor", sum := "abb16fac1ac5a1efff98ffba4d4cdb73ea6effe891a80573d9afba5bc4099bd4", func := "collator/collatorlaw01.PathsNames", spec := "pathsNames", inPlace := ["internal/bytealg.CountString", "internal/bytealg.IndexByteString", "internal/bytealg.IndexString"], named := ["unicode/utf8.first", "unicode/utf8.acceptRanges", "internal/bytealg.MaxLen"], apart := false, laid := [("unicode/utf8.acceptRanges", laid_unicode_utf8_acceptRanges), ("unicode/utf8.first", laid_unicode_utf8_first)] }
def PathsNamesSaid : Prop := pathsNamesRow.holds Tryd.pinned (OpenSpec.ofChange pathsNamesSpec)

/-- ITS FALSE NEIGHBOUR: 'it returns false'. Refute it at one input. -/
def pathsNamesWrong : ChangeSpec := { name := "pathsNames", fn := fun _ => fun
  | [d1, d2, d3] => { results := [.lit (.bool false)], args := [d1, d2, d3] }
  | _ => none }
def PathsNamesWrongFalsely : Prop := pathsNamesRow.holds Tryd.pinned (OpenSpec.ofChange pathsNamesWrong)

/-- 'collatorlaw01.PathsDir': WHATEVER THE INPUT: true; the input reads as it did. -/
def pathsDirSpec : ChangeSpec := { name := "pathsDir", fn := fun _ => fun
  | [d1, d2] => { results := [.lit (.bool true)], args := [d1, d2] }
  | _ => none }
def pathsDirRow : OpenClaim := { program := "ytjfeddpelakdjaadoor", sum := "abb16fac1ac5a1efff98ffba4d4cdb73ea6effe891a80573d9afba5bc4099bd4", func := "collator/collatorlaw01.PathsDir", spec := "pathsDir", inPlace := ["internal/bytealg.CountString", "internal/bytealg.IndexByteString", "internal/bytealg.IndexString"], named := ["unicode/utf8.first", "unicode/utf8.acceptRanges", "internal/bytealg.MaxLen"], apart := false, laid := [("unicode/utf8.acceptRanges", laid_unicode_utf8_acceptRanges), ("unicode/utf8.first", laid_unicode_utf8_first)] }
def PathsDirSaid : Prop := pathsDirRow.holds Tryd.pinned (OpenSpec.ofChange pathsDirSpec)

/-- ITS FALSE NEIGHBOUR: 'it returns false'. Refute it at one input. -/
def pathsDirWrong : ChangeSpec := { name := "pathsDir", fn := fun _ => fun
  | [d1, d2] => { results := [.lit (.bool false)], args := [d1, d2] }
  | _ => none }
def PathsDirWrongFalsely : Prop := pathsDirRow.holds Tryd.pinned (OpenSpec.ofChange pathsDirWrong)

/- THE SECOND FORM. 'bulk': how many values and letters a reading holds, each counted each time it is reached (what is shared counts as often as it is met; a slice's spare places count too). A statement '..UptoSaid' is the law's where the arguments, and the package variables that the reading takes, are together of bulk at most 1048576: NARROWER than '..Said'. Prove '..Said' where nothing that the law and all that it calls make is longer than what came in: it says more and counts as full. Else prove '..UptoSaid'. A law counts once. -/
mutual
def uptoBulk {H : Type} : DataW H → Nat
  | .lit (.string bytes) => bytes.length + 1
  | .lit _ => 1
  | .nil => 1
  | .ptr d => uptoBulk d + 1
  | .slice elems spare => uptoBulkAll elems + uptoBulkAll spare + 1
  | .agg parts => uptoBulkAll parts + 1
  | .iface _ d => uptoBulk d + 1
  | .map entries => uptoBulkEntries entries + 1
  | .held _ => 1
def uptoBulkAll {H : Type} : List (DataW H) → Nat
  | [] => 0
  | d :: r => uptoBulk d + uptoBulkAll r
def uptoBulkEntries {H : Type} : List (Lit × DataW H) → Nat
  | [] => 0
  | x :: r => uptoBulkEntry x + uptoBulkEntries r
def uptoBulkEntry {H : Type} : Lit × DataW H → Nat
  | (.string bytes, d) => bytes.length + uptoBulk d + 1
  | (_, d) => uptoBulk d + 1
 end
def uptoSmall : (H : Type) → List (DataW H) → Bool := fun _ ds => decide (uptoBulkAll ds ≤ 1048576)
def OpenSpec.upto (s : _root_.Go.ChangeSpec) : _root_.Go.OpenSpec := { _root_.Go.OpenSpec.ofChange s with cond := some uptoSmall }

/-- 'collatorlaw01.PathsTells', WHERE WHAT IT READS IS OF BULK AT MOST 1048576: true; the input reads as it did. -/
def pathsTellsUptoRow : OpenClaim := { program := "ytjfeddpelakdjaadoor", sum := "abb16fac1ac5a1efff98ffba4d4cdb73ea6effe891a80573d9afba5bc4099bd4", func := "collator/collatorlaw01.PathsTells", spec := "pathsTells", inPlace := ["internal/bytealg.CountString", "internal/bytealg.IndexByteString", "internal/bytealg.IndexString"], named := ["unicode/utf8.first", "unicode/utf8.acceptRanges", "internal/bytealg.MaxLen"], apart := false, laid := [("unicode/utf8.acceptRanges", laid_unicode_utf8_acceptRanges), ("unicode/utf8.first", laid_unicode_utf8_first)], narrowed := true }
def PathsTellsUptoSaid : Prop := pathsTellsUptoRow.holds Tryd.pinned (OpenSpec.upto pathsTellsSpec)

/-- 'collatorlaw01.PathsOrder', WHERE WHAT IT READS IS OF BULK AT MOST 1048576: true; the input reads as it did. -/
def pathsOrderUptoRow : OpenClaim := { program := "ytjfeddpelakdjaadoor", sum := "abb16fac1ac5a1efff98ffba4d4cdb73ea6effe891a80573d9afba5bc4099bd4", func := "collator/collatorlaw01.PathsOrder", spec := "pathsOrder", inPlace := ["internal/bytealg.CountString", "internal/bytealg.IndexByteString", "internal/bytealg.IndexString"], named := ["unicode/utf8.first", "unicode/utf8.acceptRanges", "internal/bytealg.MaxLen"], apart := false, laid := [("unicode/utf8.acceptRanges", laid_unicode_utf8_acceptRanges), ("unicode/utf8.first", laid_unicode_utf8_first)], narrowed := true }
def PathsOrderUptoSaid : Prop := pathsOrderUptoRow.holds Tryd.pinned (OpenSpec.upto pathsOrderSpec)

/-- 'collatorlaw01.PathsWithin', WHERE WHAT IT READS IS OF BULK AT MOST 1048576: true; the input reads as it did. -/
def pathsWithinUptoRow : OpenClaim := { program := "ytjfeddpelakdjaadoor", sum := "abb16fac1ac5a1efff98ffba4d4cdb73ea6effe891a80573d9afba5bc4099bd4", func := "collator/collatorlaw01.PathsWithin", spec := "pathsWithin", inPlace := ["internal/bytealg.CountString", "internal/bytealg.IndexByteString", "internal/bytealg.IndexString"], named := ["unicode/utf8.first", "unicode/utf8.acceptRanges", "internal/bytealg.MaxLen"], apart := false, laid := [("unicode/utf8.acceptRanges", laid_unicode_utf8_acceptRanges), ("unicode/utf8.first", laid_unicode_utf8_first)], narrowed := true }
def PathsWithinUptoSaid : Prop := pathsWithinUptoRow.holds Tryd.pinned (OpenSpec.upto pathsWithinSpec)

/-- 'collatorlaw01.PathsJoin', WHERE WHAT IT READS IS OF BULK AT MOST 1048576: true; the input reads as it did. -/
def pathsJoinUptoRow : OpenClaim := { program := "ytjfeddpelakdjaadoor", sum := "abb16fac1ac5a1efff98ffba4d4cdb73ea6effe891a80573d9afba5bc4099bd4", func := "collator/collatorlaw01.PathsJoin", spec := "pathsJoin", inPlace := ["internal/bytealg.CountString", "internal/bytealg.IndexByteString", "internal/bytealg.IndexString"], named := ["unicode/utf8.first", "unicode/utf8.acceptRanges", "internal/bytealg.MaxLen"], apart := false, laid := [("unicode/utf8.acceptRanges", laid_unicode_utf8_acceptRanges), ("unicode/utf8.first", laid_unicode_utf8_first)], narrowed := true }
def PathsJoinUptoSaid : Prop := pathsJoinUptoRow.holds Tryd.pinned (OpenSpec.upto pathsJoinSpec)

/-- 'collatorlaw01.PathsParts', WHERE WHAT IT READS IS OF BULK AT MOST 1048576: true; the input reads as it did. -/
def pathsPartsUptoRow : OpenClaim := { program := "ytjfeddpelakdjaadoor", sum := "abb16fac1ac5a1efff98ffba4d4cdb73ea6effe891a80573d9afba5bc4099bd4", func := "collator/collatorlaw01.PathsParts", spec := "pathsParts", inPlace := ["internal/bytealg.CountString", "internal/bytealg.IndexByteString", "internal/bytealg.IndexString"], named := ["unicode/utf8.first", "unicode/utf8.acceptRanges", "internal/bytealg.MaxLen"], apart := false, laid := [("unicode/utf8.acceptRanges", laid_unicode_utf8_acceptRanges), ("unicode/utf8.first", laid_unicode_utf8_first)], narrowed := true }
def PathsPartsUptoSaid : Prop := pathsPartsUptoRow.holds Tryd.pinned (OpenSpec.upto pathsPartsSpec)

/-- 'collatorlaw01.PathsNames', WHERE WHAT IT READS IS OF BULK AT MOST 1048576: true; the input reads as it did. -/
def pathsNamesUptoRow : OpenClaim := { program := "ytjfeddpelakdjaadoor", sum := "abb16fac1ac5a1efff98ffba4d4cdb73ea6effe891a80573d9afba5bc4099bd4", func := "collator/collatorlaw01.PathsNames", spec := "pathsNames", inPlace := ["internal/bytealg.CountString", "internal/bytealg.IndexByteString", "internal/bytealg.IndexString"], named := ["unicode/utf8.first", "unicode/utf8.acceptRanges", "internal/bytealg.MaxLen"], apart := false, laid := [("unicode/utf8.acceptRanges", laid_unicode_utf8_acceptRanges), ("unicode/utf8.first", laid_unicode_utf8_first)], narrowed := true }
def PathsNamesUptoSaid : Prop := pathsNamesUptoRow.holds Tryd.pinned (OpenSpec.upto pathsNamesSpec)

/-- 'collatorlaw01.PathsDir', WHERE WHAT IT READS IS OF BULK AT MOST 1048576: true; the input reads as it did. -/
def pathsDirUptoRow : OpenClaim := { program := "ytjfeddpelakdjaadoor", sum := "abb16fac1ac5a1efff98ffba4d4cdb73ea6effe891a80573d9afba5bc4099bd4", func := "collator/collatorlaw01.PathsDir", spec := "pathsDir", inPlace := ["internal/bytealg.CountString", "internal/bytealg.IndexByteString", "internal/bytealg.IndexString"], named := ["unicode/utf8.first", "unicode/utf8.acceptRanges", "internal/bytealg.MaxLen"], apart := false, laid := [("unicode/utf8.acceptRanges", laid_unicode_utf8_acceptRanges), ("unicode/utf8.first", laid_unicode_utf8_first)], narrowed := true }
def PathsDirUptoSaid : Prop := pathsDirUptoRow.holds Tryd.pinned (OpenSpec.upto pathsDirSpec)

end Rows
end Go.Proofs.YtjfeddpelakdjaaDoor
