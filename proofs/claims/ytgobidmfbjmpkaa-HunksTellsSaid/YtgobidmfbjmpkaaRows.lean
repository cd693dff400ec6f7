/-
  No cell of these rows narrows 'for every input' (looked for: loops, veiled, ifaces, maps, wideKeys, modest, calm, conditions, laid).
  DERIVED. THE GIVEN ROWS OF THIS SEAT. 6 by the template 'for every input the law returns true; each argument reads behind the call as it read before'; 0 by the template 'total and deterministic' (their statements: YtgobidmfbjmpkaaTotals.lean).
  GIVEN WITH THE SEED: the statements are not yours to turn. If you find one false, say at which input.
  Laid BY PROGRAM, IN A SANDBOX (cutbox-rows.mjs): the forced cells as the released guide's own fill.sh prints them over the translation ab150cfb5d3eeb77… (all of the seat's roots in one cut). By AI agents, Wed Nov 11 2026. No macro, syntax, notation, axiom, sorry.
-/
import Derived.Test.YtgobidmfbjmpkaaChecked
import GoSem.Claim
import GoSem.ClaimJoined
import GoSem.ClaimMapViews
import Derived.JoinedTies
import Derived.KernelRfl
namespace Go.Proofs.Ytgobidmfbjmpkaa
/- THE CELL 'sum', in the pinned program and in every row, IS THE sha256 OF THE DUMP (.gsa) THAT YtgobidmfbjmpkaaProg.lean LOADS. Nothing in Lean hashes anything: it is a label: what it is worth is what the hold of that sum in a sandbox is worth. -/
noncomputable def Try.pinned : Pinned := { name := "ytgobidmfbjmpkaa", sum := "ab150cfb5d3eeb774071f329c01dad98db1b22978086cea7c689bc56141538ff", checked := Try.checked }
namespace Rows
def none {H : Type} : Left H := { results := [], args := [] }

/-- 'collatorlaw06.HunksTells': WHATEVER THE INPUT: true; the input reads as it did. -/
def hunksTellsSpec : ChangeSpec := { name := "hunksTells", fn := fun _ => fun
  | [d1, d2, d3, d4, d5, d6, d7] => { results := [.lit (.bool true)], args := [d1, d2, d3, d4, d5, d6, d7] }
  | _ => none }
def hunksTellsRow : OpenClaim := { program := "ytgobidmfbjmpkaa", sum := "ab150cfb5d3eeb774071f329c01dad98db1b22978086cea7c689bc56141538ff", func := "collator/collatorlaw06.HunksTells", spec := "hunksTells", unfollowed := true, recurses := true, apart := false }
def HunksTellsSaid : Prop := hunksTellsRow.holds Try.pinned (OpenSpec.ofChange hunksTellsSpec)

/-- ITS FALSE NEIGHBOUR: 'it returns false'. Refute it at one input. -/
def hunksTellsWrong : ChangeSpec := { name := "hunksTells", fn := fun _ => fun
  | [d1, d2, d3, d4, d5, d6, d7] => { results := [.lit (.bool false)], args := [d1, d2, d3, d4, d5, d6, d7] }
  | _ => none }
def HunksTellsWrongFalsely : Prop := hunksTellsRow.holds Try.pinned (OpenSpec.ofChange hunksTellsWrong)

/-- 'collatorlaw06.HunksOne': WHATEVER THE INPUT: true; the input reads as it did. -/
def hunksOneSpec : ChangeSpec := { name := "hunksOne", fn := fun _ => fun
  | [d1, d2, d3] => { results := [.lit (.bool true)], args := [d1, d2, d3] }
  | _ => none }
def hunksOneRow : OpenClaim := { program := "ytgobidmfbjmpkaa", sum := "ab150cfb5d3eeb774071f329c01dad98db1b22978086cea7c689bc56141538ff", func := "collator/collatorlaw06.HunksOne", spec := "hunksOne", unfollowed := true, recurses := true, apart := false }
def HunksOneSaid : Prop := hunksOneRow.holds Try.pinned (OpenSpec.ofChange hunksOneSpec)

/-- ITS FALSE NEIGHBOUR: 'it returns false'. Refute it at one input. -/
def hunksOneWrong : ChangeSpec := { name := "hunksOne", fn := fun _ => fun
  | [d1, d2, d3] => { results := [.lit (.bool false)], args := [d1, d2, d3] }
  | _ => none }
def HunksOneWrongFalsely : Prop := hunksOneRow.holds Try.pinned (OpenSpec.ofChange hunksOneWrong)

/-- 'collatorlaw06.HunksBack': WHATEVER THE INPUT: true; the input reads as it did. -/
def hunksBackSpec : ChangeSpec := { name := "hunksBack", fn := fun _ => fun
  | [d1, d2] => { results := [.lit (.bool true)], args := [d1, d2] }
  | _ => none }
def hunksBackRow : OpenClaim := { program := "ytgobidmfbjmpkaa", sum := "ab150cfb5d3eeb774071f329c01dad98db1b22978086cea7c689bc56141538ff", func := "collator/collatorlaw06.HunksBack", spec := "hunksBack", unfollowed := true, recurses := true, apart := false }
def HunksBackSaid : Prop := hunksBackRow.holds Try.pinned (OpenSpec.ofChange hunksBackSpec)

/-- ITS FALSE NEIGHBOUR: 'it returns false'. Refute it at one input. -/
def hunksBackWrong : ChangeSpec := { name := "hunksBack", fn := fun _ => fun
  | [d1, d2] => { results := [.lit (.bool false)], args := [d1, d2] }
  | _ => none }
def HunksBackWrongFalsely : Prop := hunksBackRow.holds Try.pinned (OpenSpec.ofChange hunksBackWrong)

/-- 'collatorlaw06.HunksContext': WHATEVER THE INPUT: true; the input reads as it did. -/
def hunksContextSpec : ChangeSpec := { name := "hunksContext", fn := fun _ => fun
  | [d1, d2, d3] => { results := [.lit (.bool true)], args := [d1, d2, d3] }
  | _ => none }
def hunksContextRow : OpenClaim := { program := "ytgobidmfbjmpkaa", sum := "ab150cfb5d3eeb774071f329c01dad98db1b22978086cea7c689bc56141538ff", func := "collator/collatorlaw06.HunksContext", spec := "hunksContext", unfollowed := true, recurses := true, apart := false }
def HunksContextSaid : Prop := hunksContextRow.holds Try.pinned (OpenSpec.ofChange hunksContextSpec)

/-- ITS FALSE NEIGHBOUR: 'it returns false'. Refute it at one input. -/
def hunksContextWrong : ChangeSpec := { name := "hunksContext", fn := fun _ => fun
  | [d1, d2, d3] => { results := [.lit (.bool false)], args := [d1, d2, d3] }
  | _ => none }
def HunksContextWrongFalsely : Prop := hunksContextRow.holds Try.pinned (OpenSpec.ofChange hunksContextWrong)

/-- 'collatorlaw06.HunksFewer': WHATEVER THE INPUT: true; the input reads as it did. -/
def hunksFewerSpec : ChangeSpec := { name := "hunksFewer", fn := fun _ => fun
  | [d1, d2, d3] => { results := [.lit (.bool true)], args := [d1, d2, d3] }
  | _ => none }
def hunksFewerRow : OpenClaim := { program := "ytgobidmfbjmpkaa", sum := "ab150cfb5d3eeb774071f329c01dad98db1b22978086cea7c689bc56141538ff", func := "collator/collatorlaw06.HunksFewer", spec := "hunksFewer", unfollowed := true, recurses := true, apart := false }
def HunksFewerSaid : Prop := hunksFewerRow.holds Try.pinned (OpenSpec.ofChange hunksFewerSpec)

/-- ITS FALSE NEIGHBOUR: 'it returns false'. Refute it at one input. -/
def hunksFewerWrong : ChangeSpec := { name := "hunksFewer", fn := fun _ => fun
  | [d1, d2, d3] => { results := [.lit (.bool false)], args := [d1, d2, d3] }
  | _ => none }
def HunksFewerWrongFalsely : Prop := hunksFewerRow.holds Try.pinned (OpenSpec.ofChange hunksFewerWrong)

/-- 'collatorlaw06.HunksMakes': WHATEVER THE INPUT: true; the input reads as it did. -/
def hunksMakesSpec : ChangeSpec := { name := "hunksMakes", fn := fun _ => fun
  | [d1, d2, d3] => { results := [.lit (.bool true)], args := [d1, d2, d3] }
  | _ => none }
def hunksMakesRow : OpenClaim := { program := "ytgobidmfbjmpkaa", sum := "ab150cfb5d3eeb774071f329c01dad98db1b22978086cea7c689bc56141538ff", func := "collator/collatorlaw06.HunksMakes", spec := "hunksMakes", inPlace := ["slices.overlaps[collator/api.Edit]"], unfollowed := true, recurses := true, apart := false }
def HunksMakesSaid : Prop := hunksMakesRow.holds Try.pinned (OpenSpec.ofChange hunksMakesSpec)

/-- ITS FALSE NEIGHBOUR: 'it returns false'. Refute it at one input. -/
def hunksMakesWrong : ChangeSpec := { name := "hunksMakes", fn := fun _ => fun
  | [d1, d2, d3] => { results := [.lit (.bool false)], args := [d1, d2, d3] }
  | _ => none }
def HunksMakesWrongFalsely : Prop := hunksMakesRow.holds Try.pinned (OpenSpec.ofChange hunksMakesWrong)

/- THE SECOND FORM. 'bulk': how many values and letters a reading holds, each counted each time it is reached (what is shared counts as often as it is met; a slice's spare places count too). A statement '..UptoSaid' is the law's where the arguments, and the package variables that the reading takes, are together of bulk at most 1048576: NARROWER than '..Said'. Prove '..Said' where nothing that the law and all that it calls make is longer than what came in: it says more and counts as full. Else prove '..UptoSaid'. A law counts once. -/
mutual
def uptoBulk {H : Type} : DataW H → Nat
  | .lit (.string bytes) => bytes.length + 1
  | .lit _ => 1
  | .nil => 1
  | .ptr d => uptoBulk d + 1
  | .slice elems spare => uptoBulkAll elems + uptoBulkAll spare + 1
  | .agg parts => uptoBulkAll parts + 1
  | .iface _ d => uptoBulk d + 1
  | .map entries => uptoBulkEntries entries + 1
  | .held _ => 1
def uptoBulkAll {H : Type} : List (DataW H) → Nat
  | [] => 0
  | d :: r => uptoBulk d + uptoBulkAll r
def uptoBulkEntries {H : Type} : List (Lit × DataW H) → Nat
  | [] => 0
  | x :: r => uptoBulkEntry x + uptoBulkEntries r
def uptoBulkEntry {H : Type} : Lit × DataW H → Nat
  | (.string bytes, d) => bytes.length + uptoBulk d + 1
  | (_, d) => uptoBulk d + 1
 end
def uptoSmall : (H : Type) → List (DataW H) → Bool := fun _ ds => decide (uptoBulkAll ds ≤ 1048576)
def OpenSpec.upto (s : _root_.Go.ChangeSpec) : _root_.Go.OpenSpec := { _root_.Go.OpenSpec.ofChange s with cond := some uptoSmall }

/-- 'collatorlaw06.HunksTells', WHERE WHAT IT READS IS OF BULK AT MOST 1048576: true; the input reads as it did. -/
def hunksTellsUptoRow : OpenClaim := { program := "ytgobidmfbjmpkaa", sum := "ab150cfb5d3eeb774071f329c01dad98db1b22978086cea7c689bc56141538ff", func := "collator/collatorlaw06.HunksTells", spec := "hunksTells", unfollowed := true, recurses := true, apart := false, narrowed := true }
def HunksTellsUptoSaid : Prop := hunksTellsUptoRow.holds Try.pinned (OpenSpec.upto hunksTellsSpec)

/-- 'collatorlaw06.HunksOne', WHERE WHAT IT READS IS OF BULK AT MOST 1048576: true; the input reads as it did. -/
def hunksOneUptoRow : OpenClaim := { program := "ytgobidmfbjmpkaa", sum := "ab150cfb5d3eeb774071f329c01dad98db1b22978086cea7c689bc56141538ff", func := "collator/collatorlaw06.HunksOne", spec := "hunksOne", unfollowed := true, recurses := true, apart := false, narrowed := true }
def HunksOneUptoSaid : Prop := hunksOneUptoRow.holds Try.pinned (OpenSpec.upto hunksOneSpec)

/-- 'collatorlaw06.HunksBack', WHERE WHAT IT READS IS OF BULK AT MOST 1048576: true; the input reads as it did. -/
def hunksBackUptoRow : OpenClaim := { program := "ytgobidmfbjmpkaa", sum := "ab150cfb5d3eeb774071f329c01dad98db1b22978086cea7c689bc56141538ff", func := "collator/collatorlaw06.HunksBack", spec := "hunksBack", unfollowed := true, recurses := true, apart := false, narrowed := true }
def HunksBackUptoSaid : Prop := hunksBackUptoRow.holds Try.pinned (OpenSpec.upto hunksBackSpec)

/-- 'collatorlaw06.HunksContext', WHERE WHAT IT READS IS OF BULK AT MOST 1048576: true; the input reads as it did. -/
def hunksContextUptoRow : OpenClaim := { program := "ytgobidmfbjmpkaa", sum := "ab150cfb5d3eeb774071f329c01dad98db1b22978086cea7c689bc56141538ff", func := "collator/collatorlaw06.HunksContext", spec := "hunksContext", unfollowed := true, recurses := true, apart := false, narrowed := true }
def HunksContextUptoSaid : Prop := hunksContextUptoRow.holds Try.pinned (OpenSpec.upto hunksContextSpec)

/-- 'collatorlaw06.HunksFewer', WHERE WHAT IT READS IS OF BULK AT MOST 1048576: true; the input reads as it did. -/
def hunksFewerUptoRow : OpenClaim := { program := "ytgobidmfbjmpkaa", sum := "ab150cfb5d3eeb774071f329c01dad98db1b22978086cea7c689bc56141538ff", func := "collator/collatorlaw06.HunksFewer", spec := "hunksFewer", unfollowed := true, recurses := true, apart := false, narrowed := true }
def HunksFewerUptoSaid : Prop := hunksFewerUptoRow.holds Try.pinned (OpenSpec.upto hunksFewerSpec)

/-- 'collatorlaw06.HunksMakes', WHERE WHAT IT READS IS OF BULK AT MOST 1048576: true; the input reads as it did. -/
def hunksMakesUptoRow : OpenClaim := { program := "ytgobidmfbjmpkaa", sum := "ab150cfb5d3eeb774071f329c01dad98db1b22978086cea7c689bc56141538ff", func := "collator/collatorlaw06.HunksMakes", spec := "hunksMakes", inPlace := ["slices.overlaps[collator/api.Edit]"], unfollowed := true, recurses := true, apart := false, narrowed := true }
def HunksMakesUptoSaid : Prop := hunksMakesUptoRow.holds Try.pinned (OpenSpec.upto hunksMakesSpec)

end Rows
end Go.Proofs.Ytgobidmfbjmpkaa
