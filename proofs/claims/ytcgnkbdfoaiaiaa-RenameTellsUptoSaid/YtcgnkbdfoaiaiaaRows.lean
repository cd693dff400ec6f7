/-
  No cell of these rows narrows 'for every input' (looked for: loops, veiled, ifaces, maps, wideKeys, modest, calm, conditions, laid).
  DERIVED. THE GIVEN ROWS OF THIS SEAT. 4 by the template 'for every input the law returns true; each argument reads behind the call as it read before'; 0 by the template 'total and deterministic' (their statements: YtcgnkbdfoaiaiaaTotals.lean).
  GIVEN WITH THE SEED: the statements are not yours to turn. If you find one false, say at which input.
  Laid BY PROGRAM, IN A SANDBOX (cutbox-rows.mjs): the forced cells as the released guide's own fill.sh prints them over the translation d14471abf06512e4… (all of the seat's roots in one cut). By AI agents, Wed Nov 11 2026. No macro, syntax, notation, axiom, sorry.
-/
import Derived.Test.YtcgnkbdfoaiaiaaChecked
import GoSem.Claim
import GoSem.ClaimJoined
import GoSem.ClaimMapViews
import Derived.JoinedTies
import Derived.KernelRfl
namespace Go.Proofs.Ytcgnkbdfoaiaiaa
/- THE CELL 'sum', in the pinned program and in every row, IS THE sha256 OF THE DUMP (.gsa) THAT YtcgnkbdfoaiaiaaProg.lean LOADS. Nothing in Lean hashes anything: it is a label: what it is worth is what the hold of that sum in a sandbox is worth. -/
noncomputable def Try.pinned : Pinned := { name := "ytcgnkbdfoaiaiaa", sum := "d14471abf06512e441c79190cbc3d71c0b4fe57633eb92705c67c6c0d33f390e", checked := Try.checked }
namespace Rows
def none {H : Type} : Left H := { results := [], args := [] }

/-- 'collatorlaw08.RenameTells': WHATEVER THE INPUT: true; the input reads as it did. -/
def renameTellsSpec : ChangeSpec := { name := "renameTells", fn := fun _ => fun
  | [d1, d2, d3, d4, d5] => { results := [.lit (.bool true)], args := [d1, d2, d3, d4, d5] }
  | _ => none }
def renameTellsRow : OpenClaim := { program := "ytcgnkbdfoaiaiaa", sum := "d14471abf06512e441c79190cbc3d71c0b4fe57633eb92705c67c6c0d33f390e", func := "collator/collatorlaw08.RenameTells", spec := "renameTells", inPlace := ["internal/bytealg.IndexByteString", "internal/bytealg.IndexString"], unfollowed := true, recurses := true, named := ["internal/bytealg.MaxLen"], apart := false }
def RenameTellsSaid : Prop := renameTellsRow.holds Try.pinned (OpenSpec.ofChange renameTellsSpec)

/-- ITS FALSE NEIGHBOUR: 'it returns false'. Refute it at one input. -/
def renameTellsWrong : ChangeSpec := { name := "renameTells", fn := fun _ => fun
  | [d1, d2, d3, d4, d5] => { results := [.lit (.bool false)], args := [d1, d2, d3, d4, d5] }
  | _ => none }
def RenameTellsWrongFalsely : Prop := renameTellsRow.holds Try.pinned (OpenSpec.ofChange renameTellsWrong)

/-- 'collatorlaw08.RenameOrder': WHATEVER THE INPUT: true; the input reads as it did. -/
def renameOrderSpec : ChangeSpec := { name := "renameOrder", fn := fun _ => fun
  | [d1, d2, d3, d4, d5] => { results := [.lit (.bool true)], args := [d1, d2, d3, d4, d5] }
  | _ => none }
def renameOrderRow : OpenClaim := { program := "ytcgnkbdfoaiaiaa", sum := "d14471abf06512e441c79190cbc3d71c0b4fe57633eb92705c67c6c0d33f390e", func := "collator/collatorlaw08.RenameOrder", spec := "renameOrder", inPlace := ["internal/bytealg.IndexByteString", "internal/bytealg.IndexString"], unfollowed := true, recurses := true, named := ["internal/bytealg.MaxLen"], apart := false }
def RenameOrderSaid : Prop := renameOrderRow.holds Try.pinned (OpenSpec.ofChange renameOrderSpec)

/-- ITS FALSE NEIGHBOUR: 'it returns false'. Refute it at one input. -/
def renameOrderWrong : ChangeSpec := { name := "renameOrder", fn := fun _ => fun
  | [d1, d2, d3, d4, d5] => { results := [.lit (.bool false)], args := [d1, d2, d3, d4, d5] }
  | _ => none }
def RenameOrderWrongFalsely : Prop := renameOrderRow.holds Try.pinned (OpenSpec.ofChange renameOrderWrong)

/-- 'collatorlaw08.RenameMore': WHATEVER THE INPUT: true; the input reads as it did. -/
def renameMoreSpec : ChangeSpec := { name := "renameMore", fn := fun _ => fun
  | [d1, d2, d3, d4] => { results := [.lit (.bool true)], args := [d1, d2, d3, d4] }
  | _ => none }
def renameMoreRow : OpenClaim := { program := "ytcgnkbdfoaiaiaa", sum := "d14471abf06512e441c79190cbc3d71c0b4fe57633eb92705c67c6c0d33f390e", func := "collator/collatorlaw08.RenameMore", spec := "renameMore", inPlace := ["internal/bytealg.IndexByteString", "internal/bytealg.IndexString"], unfollowed := true, recurses := true, named := ["internal/bytealg.MaxLen"], apart := false }
def RenameMoreSaid : Prop := renameMoreRow.holds Try.pinned (OpenSpec.ofChange renameMoreSpec)

/-- ITS FALSE NEIGHBOUR: 'it returns false'. Refute it at one input. -/
def renameMoreWrong : ChangeSpec := { name := "renameMore", fn := fun _ => fun
  | [d1, d2, d3, d4] => { results := [.lit (.bool false)], args := [d1, d2, d3, d4] }
  | _ => none }
def RenameMoreWrongFalsely : Prop := renameMoreRow.holds Try.pinned (OpenSpec.ofChange renameMoreWrong)

/-- 'collatorlaw08.RenameApart': WHATEVER THE INPUT: true; the input reads as it did. -/
def renameApartSpec : ChangeSpec := { name := "renameApart", fn := fun _ => fun
  | [d1, d2, d3, d4] => { results := [.lit (.bool true)], args := [d1, d2, d3, d4] }
  | _ => none }
def renameApartRow : OpenClaim := { program := "ytcgnkbdfoaiaiaa", sum := "d14471abf06512e441c79190cbc3d71c0b4fe57633eb92705c67c6c0d33f390e", func := "collator/collatorlaw08.RenameApart", spec := "renameApart", inPlace := ["internal/bytealg.IndexByteString", "internal/bytealg.IndexString"], unfollowed := true, recurses := true, named := ["internal/bytealg.MaxLen"], apart := false }
def RenameApartSaid : Prop := renameApartRow.holds Try.pinned (OpenSpec.ofChange renameApartSpec)

/-- ITS FALSE NEIGHBOUR: 'it returns false'. Refute it at one input. -/
def renameApartWrong : ChangeSpec := { name := "renameApart", fn := fun _ => fun
  | [d1, d2, d3, d4] => { results := [.lit (.bool false)], args := [d1, d2, d3, d4] }
  | _ => none }
def RenameApartWrongFalsely : Prop := renameApartRow.holds Try.pinned (OpenSpec.ofChange renameApartWrong)

/- THE SECOND FORM. 'bulk': how many values and letters a reading holds, each counted each time it is reached (what is shared counts as often as it is met; a slice's spare places count too). A statement '..UptoSaid' is the law's where the arguments, and the package variables that the reading takes, are together of bulk at most 1048576: NARROWER than '..Said'. Prove '..Said' where nothing that the law and all that it calls make is longer than what came in: it says more and counts as full. Else prove '..UptoSaid'. A law counts once. -/
mutual
def uptoBulk {H : Type} : DataW H → Nat
  | .lit (.string bytes) => bytes.length + 1
  | .lit _ => 1
  | .nil => 1
  | .ptr d => uptoBulk d + 1
  | .slice elems spare => uptoBulkAll elems + uptoBulkAll spare + 1
  | .agg parts => uptoBulkAll parts + 1
  | .iface _ d => uptoBulk d + 1
  | .map entries => uptoBulkEntries entries + 1
  | .held _ => 1
def uptoBulkAll {H : Type} : List (DataW H) → Nat
  | [] => 0
  | d :: r => uptoBulk d + uptoBulkAll r
def uptoBulkEntries {H : Type} : List (Lit × DataW H) → Nat
  | [] => 0
  | x :: r => uptoBulkEntry x + uptoBulkEntries r
def uptoBulkEntry {H : Type} : Lit × DataW H → Nat
  | (.string bytes, d) => bytes.length + uptoBulk d + 1
  | (_, d) => uptoBulk d + 1
 end
def uptoSmall : (H : Type) → List (DataW H) → Bool := fun _ ds => decide (uptoBulkAll ds ≤ 1048576)
def OpenSpec.upto (s : _root_.Go.ChangeSpec) : _root_.Go.OpenSpec := { _root_.Go.OpenSpec.ofChange s with cond := some uptoSmall }

/-- 'collatorlaw08.RenameTells', WHERE WHAT IT READS IS OF BULK AT MOST 1048576: true; the input reads as it did. -/
def renameTellsUptoRow : OpenClaim := { program := "ytcgnkbdfoaiaiaa", sum := "d14471abf06512e441c79190cbc3d71c0b4fe57633eb92705c67c6c0d33f390e", func := "collator/collatorlaw08.RenameTells", spec := "renameTells", inPlace := ["internal/bytealg.IndexByteString", "internal/bytealg.IndexString"], unfollowed := true, recurses := true, named := ["internal/bytealg.MaxLen"], apart := false, narrowed := true }
def RenameTellsUptoSaid : Prop := renameTellsUptoRow.holds Try.pinned (OpenSpec.upto renameTellsSpec)

/-- 'collatorlaw08.RenameOrder', WHERE WHAT IT READS IS OF BULK AT MOST 1048576: true; the input reads as it did. -/
def renameOrderUptoRow : OpenClaim := { program := "ytcgnkbdfoaiaiaa", sum := "d14471abf06512e441c79190cbc3d71c0b4fe57633eb92705c67c6c0d33f390e", func := "collator/collatorlaw08.RenameOrder", spec := "renameOrder", inPlace := ["internal/bytealg.IndexByteString", "internal/bytealg.IndexString"], unfollowed := true, recurses := true, named := ["internal/bytealg.MaxLen"], apart := false, narrowed := true }
def RenameOrderUptoSaid : Prop := renameOrderUptoRow.holds Try.pinned (OpenSpec.upto renameOrderSpec)

/-- 'collatorlaw08.RenameMore', WHERE WHAT IT READS IS OF BULK AT MOST 1048576: true; the input reads as it did. -/
def renameMoreUptoRow : OpenClaim := { program := "ytcgnkbdfoaiaiaa", sum := "d14471abf06512e441c79190cbc3d71c0b4fe57633eb92705c67c6c0d33f390e", func := "collator/collatorlaw08.RenameMore", spec := "renameMore", inPlace := ["internal/bytealg.IndexByteString", "internal/bytealg.IndexString"], unfollowed := true, recurses := true, named := ["internal/bytealg.MaxLen"], apart := false, narrowed := true }
def RenameMoreUptoSaid : Prop := renameMoreUptoRow.holds Try.pinned (OpenSpec.upto renameMoreSpec)

/-- 'collatorlaw08.RenameApart', WHERE WHAT IT READS IS OF BULK AT MOST 1048576: true; the input reads as it did. -/
def renameApartUptoRow : OpenClaim := { program := "ytcgnkbdfoaiaiaa", sum := "d14471abf06512e441c79190cbc3d71c0b4fe57633eb92705c67c6c0d33f390e", func := "collator/collatorlaw08.RenameApart", spec := "renameApart", inPlace := ["internal/bytealg.IndexByteString", "internal/bytealg.IndexString"], unfollowed := true, recurses := true, named := ["internal/bytealg.MaxLen"], apart := false, narrowed := true }
def RenameApartUptoSaid : Prop := renameApartUptoRow.holds Try.pinned (OpenSpec.upto renameApartSpec)

end Rows
end Go.Proofs.Ytcgnkbdfoaiaiaa
