/- Texts of this claim, joined: Px0, HRaw, HItem, QComm, Pxf48, Pxf25, Pxf45, Pxf29, QPa, HMin, Held, EShelf, EOrder, Pxf47, Pxf34, ECompare, EBetter, Rng, QRows. -/
import Derived.Test.YtcgnkbdfoaiaiaaProg
import Derived.Below
import Derived.Deep.Draws
import Derived.Deep.AppendLies
import Derived.Maps.AppendAt
import Derived.OwnWalk
import Derived.Laws.BytesArg
import Derived.Laws.MakeOwn
import Derived.Laws.OwnMore
import Derived.Deep.OwnRows
import Derived.Tactics
import Derived.Lib.ConvBytes
import Derived.Laws.Slices
import Derived.WalkKit
import Derived.KernelRfl
import Derived.RowKit3
import Derived.Deep.LoopGhost
import Derived.Deep.QuietTactic
import Derived.BigQuiet
import Derived.WideLaws
import Derived.Deep.DeepCutAuto
import Derived.Deep.CutBlock
import Derived.Deep.RegionHeld3
import Derived.Laws.Rows
import Derived.Lib.AppendStr
import Derived.ArgAppend
import Derived.Laws.IdiomCopy
import Derived.OrdersHeld
import Derived.Laws.BitsLemmas
import Derived.RowKit
import Derived.Test.YtcgnkbdfoaiaiaaWWords
import Derived.Test.YtcgnkbdfoaiaiaaWLast
import Derived.Test.YtcgnkbdfoaiaiaaWTab
import Derived.Test.YtcgnkbdfoaiaiaaWFour
import Derived.Test.YtcgnkbdfoaiaiaaWQPut
import Derived.Test.YtcgnkbdfoaiaiaaWApart
import Derived.Test.YtcgnkbdfoaiaiaaWArr
import Derived.Test.YtcgnkbdfoaiaiaaWZeros
import Derived.Test.YtcgnkbdfoaiaiaaWFoot
import Derived.Test.YtcgnkbdfoaiaiaaWKept
import Derived.Test.YtcgnkbdfoaiaiaaWShare
import Derived.Test.YtcgnkbdfoaiaiaaWN
import Derived.Test.YtcgnkbdfoaiaiaaWFootNe
import Derived.Test.YtcgnkbdfoaiaiaaWAt
import Derived.Test.YtcgnkbdfoaiaiaaWEqStruct
import Derived.Test.YtcgnkbdfoaiaiaaWRepsOne
import Derived.Test.YtcgnkbdfoaiaiaaWInv
import Derived.Test.YtcgnkbdfoaiaiaaWInvWords
import Derived.Test.YtcgnkbdfoaiaiaaWGuard
import Derived.Test.YtcgnkbdfoaiaiaaWNEv
import Derived.Test.YtcgnkbdfoaiaiaaWMore
import Derived.SizedLaws
import Derived.Deep.Slices
import Derived.Deep.Fields
import Derived.ChangeSame
import Derived.ChangeSlices
import Derived.Deep.Matrix
import Derived.Test.YtcgnkbdfoaiaiaaRows
import Derived.ChangeArms
import Derived.OpenShut
import Derived.Lib.Join
import Derived.Lib.SplitLaws
import Derived.OrdersIn
import Derived.OwnWalkIn
import Derived.Maps.OwnIn
import Derived.Shelf.Small.Bits
import Derived.Shelf.Small.Wraps
import Derived.Shelf.Strconv.Itoa0
import Derived.Shelf.Strings.Search1
import Derived.Shelf.Strings.Search2
import Derived.Shelf.Strings.Search3
import Derived.Shelf.LaysM
import Derived.Shelf.Strings.Shaped
import Derived.Ground.Names2Prog
import Derived.Shelf.Slices.SearchI
import Derived.Shelf.SlGeneric
import Derived.Shelf.SlSortCmp.NoneTotal
import Derived.Ground.SlsfProg
import Derived.WalkMore
import Derived.IntWalk
import Derived.Lib.Hide
import Derived.RangeFuncNested
import Derived.RangeFuncBound
import Derived.Lib.Bytealg
section
/- Laid for this claim by hp.py, this session's program round the kit's print: functions of the program as plain Lean functions, the proofs that the code comes to their answers, and the rows of the laws. Not trusted: Lean checks it. -/
namespace Go.Proofs.Ytcgnkbdfoaiaiaa.P
open Go.RowKit Go.Proofs.YtcgnkbdfoaiaiaaW.PrintWords Go.Proofs.YtcgnkbdfoaiaiaaW.PrintLast Go.Proofs.YtcgnkbdfoaiaiaaW.PrintMore
attribute [local go_sem] max2_int min2_int max_two min_two max_three min_three max_four min_four   -- for this text's walks alone
set_option linter.unusedVariables false
set_option linter.unusedSimpArgs false



def errW : Option Int → Value
 | none => .nilIface
 | some c => .iface 0 (.int .i64 c)
theorem errW_none : errW none = .nilIface := rfl
theorem errW_some (c : Int) : errW (some c) = .iface 0 (.int .i64 c) := rfl

theorem info3 : (Try.prog.info? 3).map (fun i => (i.zero, i.size, i.bytes)) = some (some (.int .i64 0), 1, 8) := by kernel_rfl
theorem info5 : (Try.prog.info? 5).map (fun i => (i.zero, i.size, i.bytes)) = some (some (.int .u8 0), 1, 1) := by kernel_rfl
theorem info9 : (Try.prog.info? 9).map (fun i => (i.zero, i.size, i.bytes)) = some (some (.string ⟨#[]⟩), 1, 16) := by kernel_rfl
theorem info33 : (Try.prog.info? 33).map (fun i => (i.zero, i.size, i.bytes)) = some (some (.agg #[(.string ⟨#[]⟩), (.int .i64 0), (.string ⟨#[]⟩), (.bool false)]), 4, 48) := by kernel_rfl
theorem info35 : (Try.prog.info? 35).map (fun i => (i.zero, i.size, i.bytes)) = some (some (.agg #[(.string ⟨#[]⟩), (.string ⟨#[]⟩), (.int .i64 0)]), 3, 40) := by kernel_rfl
-- the values' own types
/-! #### struct type 35 -/
structure S35 where
 f0 : ByteArray
 f1 : ByteArray
 f2 : Int
def z35 : S35 := ⟨(⟨#[]⟩ : ByteArray), (⟨#[]⟩ : ByteArray), (0 : Int)⟩
def k35 : Kd S35 := Kd.iso (Kd.pair Kd.string (Kd.pair Kd.string (Kd.int .i64))) (fun x : S35 => (x.f0, x.f1, x.f2))
theorem k35_open {w : World} {x : S35} {cs : List Value} (h : k35.K w x cs) : cs = [.string x.f0, .string x.f1, .int .i64 x.f2] := by
 obtain ⟨_, _, rfl, rfl, ⟨_, _, rfl, rfl, rfl⟩⟩ := h
 exact rfl
theorem k35_openM {w : World} {base : Nat} {ok : Nat → Prop} {x : S35} {cs : List Value} (h : k35.M w base ok x cs) : cs = [.string x.f0, .string x.f1, .int .i64 x.f2] := by
 obtain ⟨_, _, rfl, rfl, ⟨_, _, rfl, rfl, rfl⟩⟩ := h
 exact rfl
theorem k35_mk (w : World) (x : S35)  : k35.K w x [.string x.f0, .string x.f1, .int .i64 x.f2] := ⟨[.string x.f0], [.string x.f1, .int .i64 x.f2], rfl, rfl, ⟨[.string x.f1], [.int .i64 x.f2], rfl, rfl, rfl⟩⟩
theorem k35_mkM (w : World) (base : Nat) (ok : Nat → Prop) (x : S35)  : k35.M w base ok x [.string x.f0, .string x.f1, .int .i64 x.f2] := ⟨[.string x.f0], [.string x.f1, .int .i64 x.f2], rfl, rfl, ⟨[.string x.f1], [.int .i64 x.f2], rfl, rfl, rfl⟩⟩
def rd_T35 (xs : List S35) (i : Int) : S35 := xs.getD i.toNat z35
theorem at_T35 {w : World} {A : Option Addr} {n : Nat} {xs : List S35} (h : Kd.C k35 w A n xs) (i : Int) (h0 : 0 ≤ i) (h1 : i < n) : ∃ ad , A = some ad ∧ w.cell? (ad.add (i.toNat * 3)) = some (.string (rd_T35 xs i).f0) ∧ w.cell? ⟨(ad.add (i.toNat * 3)).block, (ad.add (i.toNat * 3)).off + 1, none⟩ = some (.string (rd_T35 xs i).f1) ∧ w.cell? ⟨(ad.add (i.toNat * 3)).block, (ad.add (i.toNat * 3)).off + 2, none⟩ = some (.int .i64 (rd_T35 xs i).f2) := by
 obtain ⟨ad, c, e, _, hK, hc0⟩ := Kd.C_get h z35 i h0 h1
 have hc : ∀ j u, c[j]? = some u → w.cell? (ad.add (i.toNat * 3 + j)) = some u := hc0
 obtain rfl := k35_open hK
 exact ⟨ad, e, hc 0 _ rfl, by rw [← add_field _ _ 1 (by omega)]; exact hc 1 _ rfl, by rw [← add_field _ _ 2 (by omega)]; exact hc 2 _ rfl⟩

/-! #### struct type 33 -/
structure S33 where
 f0 : ByteArray
 f1 : Int
 f2 : ByteArray
 f3 : Bool
def z33 : S33 := ⟨(⟨#[]⟩ : ByteArray), (0 : Int), (⟨#[]⟩ : ByteArray), false⟩
def k33 : Kd S33 := Kd.iso (Kd.pair Kd.string (Kd.pair (Kd.int .i64) (Kd.pair Kd.string Kd.bool))) (fun x : S33 => (x.f0, x.f1, x.f2, x.f3))
theorem k33_open {w : World} {x : S33} {cs : List Value} (h : k33.K w x cs) : cs = [.string x.f0, .int .i64 x.f1, .string x.f2, .bool x.f3] := by
 obtain ⟨_, _, rfl, rfl, ⟨_, _, rfl, rfl, ⟨_, _, rfl, rfl, rfl⟩⟩⟩ := h
 exact rfl
theorem k33_openM {w : World} {base : Nat} {ok : Nat → Prop} {x : S33} {cs : List Value} (h : k33.M w base ok x cs) : cs = [.string x.f0, .int .i64 x.f1, .string x.f2, .bool x.f3] := by
 obtain ⟨_, _, rfl, rfl, ⟨_, _, rfl, rfl, ⟨_, _, rfl, rfl, rfl⟩⟩⟩ := h
 exact rfl
theorem k33_mk (w : World) (x : S33)  : k33.K w x [.string x.f0, .int .i64 x.f1, .string x.f2, .bool x.f3] := ⟨[.string x.f0], [.int .i64 x.f1, .string x.f2, .bool x.f3], rfl, rfl, ⟨[.int .i64 x.f1], [.string x.f2, .bool x.f3], rfl, rfl, ⟨[.string x.f2], [.bool x.f3], rfl, rfl, rfl⟩⟩⟩
theorem k33_mkM (w : World) (base : Nat) (ok : Nat → Prop) (x : S33)  : k33.M w base ok x [.string x.f0, .int .i64 x.f1, .string x.f2, .bool x.f3] := ⟨[.string x.f0], [.int .i64 x.f1, .string x.f2, .bool x.f3], rfl, rfl, ⟨[.int .i64 x.f1], [.string x.f2, .bool x.f3], rfl, rfl, ⟨[.string x.f2], [.bool x.f3], rfl, rfl, rfl⟩⟩⟩
def rd_T33 (xs : List S33) (i : Int) : S33 := xs.getD i.toNat z33
theorem at_T33 {w : World} {A : Option Addr} {n : Nat} {xs : List S33} (h : Kd.C k33 w A n xs) (i : Int) (h0 : 0 ≤ i) (h1 : i < n) : ∃ ad , A = some ad ∧ w.cell? (ad.add (i.toNat * 4)) = some (.string (rd_T33 xs i).f0) ∧ w.cell? ⟨(ad.add (i.toNat * 4)).block, (ad.add (i.toNat * 4)).off + 1, none⟩ = some (.int .i64 (rd_T33 xs i).f1) ∧ w.cell? ⟨(ad.add (i.toNat * 4)).block, (ad.add (i.toNat * 4)).off + 2, none⟩ = some (.string (rd_T33 xs i).f2) ∧ w.cell? ⟨(ad.add (i.toNat * 4)).block, (ad.add (i.toNat * 4)).off + 3, none⟩ = some (.bool (rd_T33 xs i).f3) := by
 obtain ⟨ad, c, e, _, hK, hc0⟩ := Kd.C_get h z33 i h0 h1
 have hc : ∀ j u, c[j]? = some u → w.cell? (ad.add (i.toNat * 4 + j)) = some u := hc0
 obtain rfl := k33_open hK
 exact ⟨ad, e, hc 0 _ rfl, by rw [← add_field _ _ 1 (by omega)]; exact hc 1 _ rfl, by rw [← add_field _ _ 2 (by omega)]; exact hc 2 _ rfl, by rw [← add_field _ _ 3 (by omega)]; exact hc 3 _ rfl⟩

def rd_L5 (xs : List (List S33)) (i : Int) : (List S33) := xs.getD i.toNat ([] : List S33)
theorem at_L5 {w : World} {A : Option Addr} {n : Nat} {xs : List (List S33)} (h : Kd.C (Kd.slice 33 k33) w A n xs) (i : Int) (h0 : 0 ≤ i) (h1 : i < n) : ∃ ad A0 c0, A = some ad ∧ w.cell? (ad.add i.toNat) = some (.slice A0 (rd_L5 xs i).length c0) ∧ (rd_L5 xs i).length ≤ c0 ∧ k33.C w A0 (rd_L5 xs i).length (rd_L5 xs i) := by
 obtain ⟨ad, c, e, _, hK, hc0⟩ := Kd.C_get h ([] : List S33) i h0 h1
 have hc : ∀ j u, c[j]? = some u → w.cell? (ad.add (i.toNat * 1 + j)) = some u := hc0
 obtain ⟨A0, c0, rfl, l0, g0⟩ := hK
 exact ⟨ad, A0, c0, e, by have hq := hc 0 _ rfl; rwa [Nat.mul_one, Nat.add_zero] at hq, l0, g0⟩

def rd_L6 (xs : List (List S35)) (i : Int) : (List S35) := xs.getD i.toNat ([] : List S35)
theorem at_L6 {w : World} {A : Option Addr} {n : Nat} {xs : List (List S35)} (h : Kd.C (Kd.slice 35 k35) w A n xs) (i : Int) (h0 : 0 ≤ i) (h1 : i < n) : ∃ ad A0 c0, A = some ad ∧ w.cell? (ad.add i.toNat) = some (.slice A0 (rd_L6 xs i).length c0) ∧ (rd_L6 xs i).length ≤ c0 ∧ k35.C w A0 (rd_L6 xs i).length (rd_L6 xs i) := by
 obtain ⟨ad, c, e, _, hK, hc0⟩ := Kd.C_get h ([] : List S35) i h0 h1
 have hc : ∀ j u, c[j]? = some u → w.cell? (ad.add (i.toNat * 1 + j)) = some u := hc0
 obtain ⟨A0, c0, rfl, l0, g0⟩ := hK
 exact ⟨ad, A0, c0, e, by have hq := hc 0 _ rfl; rwa [Nat.mul_one, Nat.add_zero] at hq, l0, g0⟩

def rd_L7 (xs : List (List Int)) (i : Int) : (List Int) := xs.getD i.toNat ([] : List Int)
theorem at_L7 {w : World} {A : Option Addr} {n : Nat} {xs : List (List Int)} (h : Kd.C (Kd.slice 3 (Kd.int .i64)) w A n xs) (i : Int) (h0 : 0 ≤ i) (h1 : i < n) : ∃ ad A0 c0, A = some ad ∧ w.cell? (ad.add i.toNat) = some (.slice A0 (rd_L7 xs i).length c0) ∧ (rd_L7 xs i).length ≤ c0 ∧ (Kd.int .i64).C w A0 (rd_L7 xs i).length (rd_L7 xs i) := by
 obtain ⟨ad, c, e, _, hK, hc0⟩ := Kd.C_get h ([] : List Int) i h0 h1
 have hc : ∀ j u, c[j]? = some u → w.cell? (ad.add (i.toNat * 1 + j)) = some u := hc0
 obtain ⟨A0, c0, rfl, l0, g0⟩ := hK
 exact ⟨ad, A0, c0, e, by have hq := hc 0 _ rfl; rwa [Nat.mul_one, Nat.add_zero] at hq, l0, g0⟩

/-! #### struct type 41 -/
structure S41 where
 f0 : (List Int)
 f1 : Int
 f2 : ByteArray
 f3 : Int
def z41 : S41 := ⟨([] : List Int), (0 : Int), (⟨#[]⟩ : ByteArray), (0 : Int)⟩
def k41 : Kd S41 := Kd.iso (Kd.pair (Kd.slice 3 (Kd.int .i64)) (Kd.pair (Kd.int .i64) (Kd.pair Kd.string (Kd.int .i64)))) (fun x : S41 => (x.f0, x.f1, x.f2, x.f3))
theorem k41_open {w : World} {x : S41} {cs : List Value} (h : k41.K w x cs) : ∃ A0 c0, cs = [.slice A0 x.f0.length c0, .int .i64 x.f1, .string x.f2, .int .i64 x.f3] ∧ x.f0.length ≤ c0 ∧ (Kd.int .i64).C w A0 x.f0.length x.f0 := by
 obtain ⟨_, _, rfl, ⟨A0, c0, rfl, l0, g0⟩, ⟨_, _, rfl, rfl, ⟨_, _, rfl, rfl, rfl⟩⟩⟩ := h
 exact ⟨A0, c0, rfl, l0, g0⟩
theorem k41_openM {w : World} {base : Nat} {ok : Nat → Prop} {x : S41} {cs : List Value} (h : k41.M w base ok x cs) : ∃ v0, cs = [v0, .int .i64 x.f1, .string x.f2, .int .i64 x.f3] ∧ (Kd.int .i64).R 3 w base ok v0 x.f0 := by
 obtain ⟨_, _, rfl, ⟨v0, rfl, g0⟩, ⟨_, _, rfl, rfl, ⟨_, _, rfl, rfl, rfl⟩⟩⟩ := h
 exact ⟨v0, rfl, g0⟩
theorem k41_mk (w : World) (x : S41) {A0 : Option Addr} {c0 : Nat} (l0 : x.f0.length ≤ c0) (g0 : (Kd.int .i64).C w A0 x.f0.length x.f0) : k41.K w x [.slice A0 x.f0.length c0, .int .i64 x.f1, .string x.f2, .int .i64 x.f3] := ⟨[.slice A0 x.f0.length c0], [.int .i64 x.f1, .string x.f2, .int .i64 x.f3], rfl, ⟨A0, c0, rfl, l0, g0⟩, ⟨[.int .i64 x.f1], [.string x.f2, .int .i64 x.f3], rfl, rfl, ⟨[.string x.f2], [.int .i64 x.f3], rfl, rfl, rfl⟩⟩⟩
theorem k41_mkM (w : World) (base : Nat) (ok : Nat → Prop) (x : S41) {v0 : Value} (g0 : (Kd.int .i64).R 3 w base ok v0 x.f0) : k41.M w base ok x [v0, .int .i64 x.f1, .string x.f2, .int .i64 x.f3] := ⟨[v0], [.int .i64 x.f1, .string x.f2, .int .i64 x.f3], rfl, ⟨v0, rfl, g0⟩, ⟨[.int .i64 x.f1], [.string x.f2, .int .i64 x.f3], rfl, rfl, ⟨[.string x.f2], [.int .i64 x.f3], rfl, rfl, rfl⟩⟩⟩
def rd_T41 (xs : List S41) (i : Int) : S41 := xs.getD i.toNat z41
theorem at_T41 {w : World} {A : Option Addr} {n : Nat} {xs : List S41} (h : Kd.C k41 w A n xs) (i : Int) (h0 : 0 ≤ i) (h1 : i < n) : ∃ ad A0 c0, A = some ad ∧ w.cell? (ad.add (i.toNat * 4)) = some (.slice A0 (rd_T41 xs i).f0.length c0) ∧ w.cell? ⟨(ad.add (i.toNat * 4)).block, (ad.add (i.toNat * 4)).off + 1, none⟩ = some (.int .i64 (rd_T41 xs i).f1) ∧ w.cell? ⟨(ad.add (i.toNat * 4)).block, (ad.add (i.toNat * 4)).off + 2, none⟩ = some (.string (rd_T41 xs i).f2) ∧ w.cell? ⟨(ad.add (i.toNat * 4)).block, (ad.add (i.toNat * 4)).off + 3, none⟩ = some (.int .i64 (rd_T41 xs i).f3) ∧ (rd_T41 xs i).f0.length ≤ c0 ∧ (Kd.int .i64).C w A0 (rd_T41 xs i).f0.length (rd_T41 xs i).f0 := by
 obtain ⟨ad, c, e, _, hK, hc0⟩ := Kd.C_get h z41 i h0 h1
 have hc : ∀ j u, c[j]? = some u → w.cell? (ad.add (i.toNat * 4 + j)) = some u := hc0
 obtain ⟨A0, c0, rfl, l0, g0⟩ := k41_open hK
 exact ⟨ad, A0, c0, e, hc 0 _ rfl, by rw [← add_field _ _ 1 (by omega)]; exact hc 1 _ rfl, by rw [← add_field _ _ 2 (by omega)]; exact hc 2 _ rfl, by rw [← add_field _ _ 3 (by omega)]; exact hc 3 _ rfl, l0, g0⟩

def rd_L10 (xs : List (List ByteArray)) (i : Int) : (List ByteArray) := xs.getD i.toNat ([] : List ByteArray)
theorem at_L10 {w : World} {A : Option Addr} {n : Nat} {xs : List (List ByteArray)} (h : Kd.C (Kd.slice 9 Kd.string) w A n xs) (i : Int) (h0 : 0 ≤ i) (h1 : i < n) : ∃ ad A0 c0, A = some ad ∧ w.cell? (ad.add i.toNat) = some (.slice A0 (rd_L10 xs i).length c0) ∧ (rd_L10 xs i).length ≤ c0 ∧ Kd.string.C w A0 (rd_L10 xs i).length (rd_L10 xs i) := by
 obtain ⟨ad, c, e, _, hK, hc0⟩ := Kd.C_get h ([] : List ByteArray) i h0 h1
 have hc : ∀ j u, c[j]? = some u → w.cell? (ad.add (i.toNat * 1 + j)) = some u := hc0
 obtain ⟨A0, c0, rfl, l0, g0⟩ := hK
 exact ⟨ad, A0, c0, e, by have hq := hc 0 _ rfl; rwa [Nat.mul_one, Nat.add_zero] at hq, l0, g0⟩

end Go.Proofs.Ytcgnkbdfoaiaiaa.P
end
section
/- Words of this session: a law's slice of raw items (a slice of whole numbers, a number, a string, a number), as its row lays it open. 'open_slice_fields' is the kit's, copied as its page says. -/
set_option linter.unusedVariables false
namespace Go.Proofs.Ytcgnkbdfoaiaiaa.HRaw
open Go Go.ChangeShapes Go.WideShapes Go.RowKit Go.Deep Go.Proofs.YtcgnkbdfoaiaiaaW.PrintWords Go.Proofs.YtcgnkbdfoaiaiaaW.PrintMore Go.Proofs.Ytcgnkbdfoaiaiaa.P
section
variable {H : Type} {enc : TypeId × Value → H} {P : Program} {w : World} {base : Nat} {spare : Nat → Bool} {held : Bool}
theorem open_slice_fields {t e : TypeId} {fs : Array Field} {fuel : Nat} {cs : List Value} {x : DataW H × List MemPlace} (ht : P.underlying t = some (.slice e)) (he : P.underlying e = some (.struct fs))
    (hone : oneCellFields P fs = true) (hC : P.cellsOf e = fs.size) (h : DataW.trod enc P w base spare held fuel t cs = some x) :
    (cs = [.slice none 0 0] ∧ x = (.nil, [])) ∨
    ∃ (a : Addr) (len cap m : Nat) (D : Nat → DataW H) (Pl : Nat → List MemPlace), cs = [.slice (some a) len cap] ∧ base ≤ a.block ∧ len ≤ cap ∧ cap ≤ maxLen ∧ m = (if spare a.block then cap else len) ∧
      x = (.slice ((List.range len).map D) ((List.range (m - len)).map fun j => D (len + j)), MemPlace.row a (m * fs.size) ++ (List.range m).flatMap Pl) ∧
      ∀ i, i < m → ∃ (ys : List (DataW H × List MemPlace)) (n : Nat), D i = .agg (ys.map (·.1)) ∧ Pl i = ys.flatMap (·.2) ∧ ys.length = fs.size ∧
        ∀ (j : Nat) (f : Field), fs[j]? = some f → ∃ (v : Value) (y : DataW H × List MemPlace), w.cell? (a.add (i * fs.size + j)) = some v ∧ ys[j]? = some y ∧ DataW.trod enc P w base spare held n f.type [v] = some y := by
  rcases open_slice ht h with h0 | ⟨a, len, cap, m, n, D, Pl, hcs, hb, hl, hm, hmm, hx, hi⟩
  · exact .inl h0
  · refine .inr ⟨a, len, cap, m, D, Pl, hcs, hb, hl, hm, hmm, by rw [hC] at hx; exact hx, fun i him => ?_⟩
    obtain ⟨cs', hc, ht'⟩ := hi i him
    rw [hC] at hc
    obtain ⟨ys, n', hn', hy, hlen, hyl, hf⟩ := DataW.trod_struct he ht'
    obtain ⟨_, hcl, hat⟩ := World.cells?_some hc
    simp only [Prod.mk.injEq] at hy
    refine ⟨ys, n', hy.1, hy.2, hyl, fun j f hj => ?_⟩
    obtain ⟨ho, hk⟩ := hone_of hone j f hj
    have hjl : j < fs.size := (Array.getElem?_eq_some_iff.1 hj).1
    have hcell := hat j hjl
    have hv : cs'[j]? = some (cs'[j]'(by omega)) := List.getElem?_eq_getElem (by omega)
    have h1 := hf j f hj
    rw [ho, hk] at h1
    have hone' : (cs'.drop j).take 1 = [cs'[j]'(by omega)] := by
      rw [List.drop_eq_getElem_cons (by omega)]
      rfl
    rw [hone'] at h1
    have hys : ys[j]? = some (ys[j]'(by omega)) := List.getElem?_eq_getElem (by omega)
    refine ⟨_, _, ?_, hys, h1.trans hys⟩
    rw [← Go.Deep.add_add, hcell, hv]
end
def OkRaw (x : S41) : Prop := x.f0.length ≤ maxLen ∧ (∀ y ∈ x.f0, (Lit.int .i64 y).wf = true) ∧ (Lit.int .i64 x.f1).wf = true ∧ x.f2.size ≤ maxLen ∧ (Lit.int .i64 x.f3).wf = true
def IsRowS (w : World) (a : Option Addr) (len cap : Nat) (zs : List S41) : Prop :=
  len = zs.length ∧ Kd.C k41 w a zs.length zs ∧ zs.length ≤ maxLen ∧ (∀ x ∈ zs, OkRaw x) ∧ zs.length ≤ cap
theorem row_of {H : Type} {enc : TypeId × Value → H} {W : World} {base : Nat} {held : Bool} {t : TypeId} {a : Option Addr} {len cap : Nat} {d : DataW H} {ps : List MemPlace}
    (hu : Try.prog.underlying t = some (.slice 41)) (h : DataW.Trod enc Try.prog W base (fun _ => true) held t (.slice a len cap) d ps) : ∃ zs, IsRowS W a len cap zs := by
  have hm2 : maxLen = 9223372036854775807 := rfl
  obtain ⟨fuel, hf⟩ := h
  rcases open_slice_fields hu Try.underlying41 (by kernel_rfl) (by kernel_rfl) hf with ⟨hcs, _⟩ | ⟨ad, l, c, m, D, Pl, hcs, _, hl, hm, hmm, _, hrow⟩
  · simp [Value.cells] at hcs
    obtain ⟨rfl, rfl, rfl⟩ := hcs
    exact ⟨[], rfl, Kd.C_nil _ W, Nat.zero_le _, fun x hx => absurd hx (by simp), Nat.le_refl _⟩
  · simp [Value.cells] at hcs
    obtain ⟨rfl, rfl, rfl⟩ := hcs
    simp only [if_true] at hmm
    subst hmm
    have each : ∀ i, i < len → ∃ x : S41, OkRaw x ∧ ∃ (A : Option Addr) (q : Nat), x.f0.length ≤ q ∧ (Kd.int .i64).C W A x.f0.length x.f0 ∧ W.cell? (ad.add (i * 4 + 0)) = some (.slice A x.f0.length q) ∧ W.cell? (ad.add (i * 4 + 1)) = some (.int .i64 x.f1) ∧ W.cell? (ad.add (i * 4 + 2)) = some (.string x.f2) ∧ W.cell? (ad.add (i * 4 + 3)) = some (.int .i64 x.f3) := by
      intro i hi
      obtain ⟨ys, n, _, _, _, hg⟩ := hrow i (by omega)
      obtain ⟨v0, y0, c0, _, t0⟩ := hg 0 _ rfl
      obtain ⟨v1, y1, c1, _, t1⟩ := hg 1 _ rfl
      obtain ⟨v2, y2, c2, _, t2⟩ := hg 2 _ rfl
      obtain ⟨v3, y3, c3, _, t3⟩ := hg 3 _ rfl
      obtain ⟨n1, e1, _, w1⟩ := DataW.trod_int Try.underlying3 t1
      obtain ⟨s2, e2, _, w2⟩ := DataW.trod_string Try.underlying9 t2
      obtain ⟨n3, e3, _, w3⟩ := DataW.trod_int Try.underlying3 t3
      simp only [List.cons.injEq, and_true] at e1 e2 e3
      subst e1 e2 e3
      rcases open_ints Try.underlying27 Try.underlying3 (by kernel_rfl) t0 with ⟨e0, _⟩ | ⟨a', l', q', zs, e0, _, hl', hm', hz, _, hcell, hw⟩
      · simp only [List.cons.injEq, and_true] at e0
        subst e0
        exact ⟨⟨[], n1, s2, n3⟩, ⟨Nat.zero_le _, fun y hy => absurd hy (by simp), w1, w2, w3⟩, none, 0, Nat.le_refl _, Kd.C_nil _ W, c0, c1, c2, c3⟩
      · simp only [List.cons.injEq, and_true] at e0
        subst e0
        simp only [if_true] at hz
        have e : l' = (zs.take l').length := by rw [List.length_take]; omega
        refine ⟨⟨zs.take l', n1, s2, n3⟩, ⟨by show (zs.take l').length ≤ _; omega, fun y hy => hw y (List.mem_of_mem_take hy), w1, w2, w3⟩, some a', q', by show (zs.take l').length ≤ _; omega, ?_, by rw [show (zs.take l').length = l' from e.symm]; exact c0, c1, c2, c3⟩
        refine Kd.C_of_reads (d := (0 : Int)) (h1 := fun _ => rfl) ⟨rfl, by show (zs.take l').length ≤ _; omega, fun _ => ⟨a', rfl, fun j hj => ?_⟩⟩
        have hj' : j < l' := by have : j < (zs.take l').length := hj; omega
        have h1 := hcell j (by omega)
        have h2 : (zs.take l').getD j 0 = zs.getD j 0 := by
          rw [List.getD_eq_getElem?_getD, List.getD_eq_getElem?_getD, List.getElem?_take, if_pos hj']
        show W.cell? (a'.add j) = some (.int .i64 ((zs.take l').getD j 0))
        rw [h2]
        exact h1
    haveI : Inhabited S41 := ⟨z41⟩
    obtain ⟨X, hX⟩ := choose_lt each
    have hlen : ((List.range len).map X).length = len := by rw [List.length_map, List.length_range]
    refine ⟨(List.range len).map X, hlen.symm, ?_, by omega, fun y hy => ?_, by omega⟩
    · rw [hlen]
      refine ⟨hlen, by omega, fun _ => ⟨ad, rfl, fun j p hj => ?_⟩⟩
      have hjl : j < len := by have := (List.getElem?_eq_some_iff.1 hj).1; omega
      have hp : p = X j := by
        rw [List.getElem?_map, List.getElem?_range hjl] at hj
        exact (Option.some.inj hj).symm
      subst hp
      obtain ⟨_, A, q, hq, hC, c0, c1, c2, c3⟩ := hX j hjl
      refine ⟨_, rfl, k41_mk W (X j) hq hC, fun i u hu => ?_⟩
      match i, hu with
      | 0, hu => obtain rfl := Option.some.inj hu; exact c0
      | 1, hu => obtain rfl := Option.some.inj hu; exact c1
      | 2, hu => obtain rfl := Option.some.inj hu; exact c2
      | 3, hu => obtain rfl := Option.some.inj hu; exact c3
    · obtain ⟨r, hr, rfl⟩ := List.mem_map.1 hy
      exact (hX r (List.mem_range.1 hr)).1
theorem sized_strs {H : Type} {enc : TypeId × Value → H} {W : World} {base : Nat} {held : Bool} {t : TypeId} {a : Option Addr} {len cap : Nat} {d : DataW H} {ps : List MemPlace} {ts : List TypeId} {ds : List (DataW H)} {j : Nat}
    (hsz : (DataW.weightsEach Try.prog ts ds).all (· ≤ reachBytes) = true) (ht : ts[j]? = some t) (hd : ds[j]? = some d) (hu : Try.prog.underlying t = some (.slice 41)) {B : Nat} (hB : Try.prog.bytesOf 41 = B)
    (h : DataW.Trod enc Try.prog W base (fun _ => true) held t (.slice a len cap) d ps) : len * B ≤ 140737488351232 := by
  obtain ⟨fuel, hf⟩ := h
  rcases open_slice_fields hu Try.underlying41 (by kernel_rfl) (by kernel_rfl) hf with ⟨hcs, _⟩ | ⟨x, l, c, m, D, Pl, hcs, _, hl, hm, hmm, hx, _⟩
  · simp [Value.cells] at hcs
    obtain ⟨rfl, rfl, rfl⟩ := hcs
    simp
  · simp [Value.cells] at hcs
    obtain ⟨rfl, rfl, rfl⟩ := hcs
    obtain ⟨hx, _⟩ := Prod.mk.inj hx
    subst hx
    have z := sized_slice hsz ht hd hu
    rw [hB, List.length_map, List.length_range, List.length_map, List.length_range] at z
    exact Nat.le_trans (Nat.mul_le_mul_right _ (by omega)) z
theorem ofRowS {w : World} {a : Option Addr} {len cap : Nat} {zs : List S41} (h : IsRowS w a len cap zs) :
    ∃ l : List S41, len = l.length ∧ Kd.C k41 w a l.length l ∧ l.length ≤ maxLen ∧ (∀ x ∈ l, OkRaw x) ∧ l.length ≤ cap := ⟨zs, h⟩
end Go.Proofs.Ytcgnkbdfoaiaiaa.HRaw
end
section
/- A law's slice of items (a string, a number, a string, a bool), as its row lays it open, and how great they are. -/
set_option linter.unusedVariables false
namespace Go.Proofs.Ytcgnkbdfoaiaiaa.HItem
open Go Go.ChangeShapes Go.WideShapes Go.RowKit Go.Deep Go.Proofs.YtcgnkbdfoaiaiaaW.PrintWords Go.Proofs.YtcgnkbdfoaiaiaaW.PrintMore Go.Proofs.Ytcgnkbdfoaiaiaa.P
theorem bulk_mem {H : Type} : ∀ {l : List (DataW H)} {x : DataW H}, x ∈ l → Rows.uptoBulk x ≤ Rows.uptoBulkAll l
  | [], _, h => by cases h
  | d :: l, x, h => by
    simp only [Rows.uptoBulkAll]
    rcases List.mem_cons.1 h with rfl | h
    · omega
    · have := bulk_mem h; omega
def IsRowI (w : World) (a : Option Addr) (len cap : Nat) (zs : List S33) : Prop :=
  len = zs.length ∧ Kd.C k33 w a zs.length zs ∧ zs.length ≤ maxLen ∧ zs.length ≤ cap
theorem row_of {H : Type} {enc : TypeId × Value → H} {W : World} {base : Nat} {held : Bool} {t : TypeId} {a : Option Addr} {len cap : Nat} {d : DataW H} {ps : List MemPlace}
    (hu : Try.prog.underlying t = some (.slice 33)) (h : DataW.Trod enc Try.prog W base (fun _ => true) held t (.slice a len cap) d ps) : ∃ zs, IsRowI W a len cap zs ∧ ∀ x ∈ zs, x.f0.size ≤ Rows.uptoBulk d ∧ x.f2.size ≤ Rows.uptoBulk d := by
  have hm2 : maxLen = 9223372036854775807 := rfl
  obtain ⟨fuel, hf⟩ := h
  rcases HRaw.open_slice_fields hu Try.underlying33 (by kernel_rfl) (by kernel_rfl) hf with ⟨hcs, _⟩ | ⟨ad, l, c, m, D, Pl, hcs, _, hl, hm, hmm, hd, hrow⟩
  · simp [Value.cells] at hcs
    obtain ⟨rfl, rfl, rfl⟩ := hcs
    exact ⟨[], ⟨rfl, Kd.C_nil _ W, Nat.zero_le _, Nat.le_refl _⟩, fun x hx => absurd hx (by simp)⟩
  · simp [Value.cells] at hcs
    obtain ⟨rfl, rfl, rfl⟩ := hcs
    simp only [if_true] at hmm
    subst hmm
    have each : ∀ i, i < len → ∃ x : S33, (x.f0.size ≤ Rows.uptoBulk d ∧ x.f2.size ≤ Rows.uptoBulk d) ∧ W.cell? (ad.add (i * 4 + 0)) = some (.string x.f0) ∧ W.cell? (ad.add (i * 4 + 1)) = some (.int .i64 x.f1) ∧ W.cell? (ad.add (i * 4 + 2)) = some (.string x.f2) ∧ W.cell? (ad.add (i * 4 + 3)) = some (.bool x.f3) := by
      intro i hi
      obtain ⟨ys, n, hD, _, _, hg⟩ := hrow i (by omega)
      obtain ⟨v0, y0, c0, m0, t0⟩ := hg 0 _ rfl
      obtain ⟨v1, y1, c1, _, t1⟩ := hg 1 _ rfl
      obtain ⟨v2, y2, c2, m2, t2⟩ := hg 2 _ rfl
      obtain ⟨v3, y3, c3, _, t3⟩ := hg 3 _ rfl
      obtain ⟨s0, e0, d0, _⟩ := DataW.trod_string Try.underlying9 t0
      obtain ⟨n1, e1, _, _⟩ := DataW.trod_int Try.underlying3 t1
      obtain ⟨s2, e2, d2, _⟩ := DataW.trod_string Try.underlying9 t2
      obtain ⟨b3, e3, _⟩ := DataW.trod_bool Try.underlying4 t3
      simp only [List.cons.injEq, and_true] at e0 e1 e2 e3
      subst e0 e1 e2 e3
      have hb : Rows.uptoBulk (D i) ≤ Rows.uptoBulk d := by
        obtain ⟨hd, _⟩ := Prod.mk.inj hd
        subst hd
        have h1 := bulk_mem (x := D i) (l := (List.range len).map D) (List.mem_map.2 ⟨i, List.mem_range.2 hi, rfl⟩)
        simp only [Rows.uptoBulk]
        omega
      have hy : ∀ (y : DataW H × List MemPlace), y ∈ ys → Rows.uptoBulk y.1 ≤ Rows.uptoBulk d := by
        intro y hy
        have h1 := bulk_mem (List.mem_map.2 ⟨y, hy, rfl⟩ : y.1 ∈ ys.map (·.1))
        rw [hD] at hb
        simp only [Rows.uptoBulk] at hb
        omega
      have k0 := hy y0 (List.mem_of_getElem? m0)
      have k2 := hy y2 (List.mem_of_getElem? m2)
      rw [d0] at k0
      rw [d2] at k2
      simp only [Rows.uptoBulk] at k0 k2
      have z0 : s0.data.toList.length = s0.size := rfl
      have z2 : s2.data.toList.length = s2.size := rfl
      exact ⟨⟨s0, n1, s2, b3⟩, ⟨by show s0.size ≤ _; omega, by show s2.size ≤ _; omega⟩, c0, c1, c2, c3⟩
    haveI : Inhabited S33 := ⟨z33⟩
    obtain ⟨X, hX⟩ := choose_lt each
    have hlen : ((List.range len).map X).length = len := by rw [List.length_map, List.length_range]
    refine ⟨(List.range len).map X, ⟨hlen.symm, ?_, by omega, by omega⟩, fun y hy => ?_⟩
    · rw [hlen]
      refine ⟨hlen, by omega, fun _ => ⟨ad, rfl, fun j p hj => ?_⟩⟩
      have hjl : j < len := by have := (List.getElem?_eq_some_iff.1 hj).1; omega
      have hp : p = X j := by
        rw [List.getElem?_map, List.getElem?_range hjl] at hj
        exact (Option.some.inj hj).symm
      subst hp
      obtain ⟨_, c0, c1, c2, c3⟩ := hX j hjl
      refine ⟨_, rfl, k33_mk W (X j), fun i u hu => ?_⟩
      match i, hu with
      | 0, hu => obtain rfl := Option.some.inj hu; exact c0
      | 1, hu => obtain rfl := Option.some.inj hu; exact c1
      | 2, hu => obtain rfl := Option.some.inj hu; exact c2
      | 3, hu => obtain rfl := Option.some.inj hu; exact c3
    · obtain ⟨r, hr, rfl⟩ := List.mem_map.1 hy
      exact (hX r (List.mem_range.1 hr)).1
end Go.Proofs.Ytcgnkbdfoaiaiaa.HItem
end
section
/- How many lines two lists have in common: the plain theory of it. No program in sight. -/
set_option linter.unusedVariables false
set_option linter.unusedSimpArgs false
instance lawfulBytes : LawfulBEq ByteArray where
  eq_of_beq := by
    intro a b h
    cases a; cases b
    exact congrArg ByteArray.mk (eq_of_beq h)
  rfl := by
    intro a
    cases a
    exact beq_self_eq_true (α := Array UInt8) _
namespace Go.Proofs.Ytcgnkbdfoaiaiaa.Q

/-- How many of b's lines are among a's, each of a's taken once. -/
def comm (a : List ByteArray) : List ByteArray → Nat
  | [] => 0
  | y :: ys => if y ∈ a then comm (a.erase y) ys + 1 else comm a ys

theorem comm_cons (a : List ByteArray) (y : ByteArray) (ys : List ByteArray) : comm a (y :: ys) = if y ∈ a then comm (a.erase y) ys + 1 else comm a ys := rfl
theorem comm_nil (a : List ByteArray) : comm a [] = 0 := rfl
theorem comm_nil_left (b : List ByteArray) : comm [] b = 0 := by
  induction b with
  | nil => rfl
  | cons y ys ih => rw [comm_cons, if_neg (by simp), ih]
theorem comm_le (b : List ByteArray) : ∀ a, comm a b ≤ b.length := by
  induction b with
  | nil => intro a; simp [comm]
  | cons y ys ih =>
    intro a
    rw [comm_cons]
    split
    · have := ih (a.erase y); simp only [List.length_cons]; omega
    · have := ih a; simp only [List.length_cons]; omega
theorem comm_perm_left (b : List ByteArray) : ∀ {a a' : List ByteArray}, a.Perm a' → comm a b = comm a' b := by
  induction b with
  | nil => intro a a' h; rfl
  | cons y ys ih =>
    intro a a' h
    rw [comm_cons, comm_cons, ih (h.erase y), ih h]
    by_cases hm : y ∈ a
    · rw [if_pos hm, if_pos (h.mem_iff.1 hm)]
    · rw [if_neg hm, if_neg (fun hh => hm (h.mem_iff.2 hh))]
/-- A line more on the left side. -/
theorem comm_cons_left (b : List ByteArray) : ∀ (a : List ByteArray) (y : ByteArray), comm (y :: a) b = comm a b + if a.count y < b.count y then 1 else 0 := by
  induction b with
  | nil => intro a y; simp [comm]
  | cons x xs ih =>
    intro a y
    by_cases hxy : x = y
    · subst hxy
      rw [comm_cons, if_pos (by simp), List.erase_cons_head, comm_cons]
      by_cases hm : x ∈ a
      · rw [if_pos hm]
        have hp : a.Perm (x :: a.erase x) := List.perm_cons_erase hm
        rw [comm_perm_left xs hp, ih]
        have hc : a.count x = (a.erase x).count x + 1 := by
          rw [List.count_erase_self]
          have := List.count_pos_iff.2 hm
          omega
        have hc2 : (x :: xs).count x = xs.count x + 1 := List.count_cons_self
        rw [hc, hc2]
        split <;> split <;> omega
      · rw [if_neg hm]
        have h0 : a.count x = 0 := List.count_eq_zero.2 hm
        have hc2 : (x :: xs).count x = xs.count x + 1 := List.count_cons_self
        rw [h0, hc2, if_pos (by omega)]
    · have hne : (y == x) = false := by
        rw [beq_eq_false_iff_ne]; exact fun h => hxy h.symm
      have hc : (x :: xs).count y = xs.count y := by
        rw [List.count_cons]; simp [hxy]
      rw [comm_cons, comm_cons, hc]
      by_cases hm : x ∈ a
      · rw [if_pos (List.mem_cons_of_mem _ hm), if_pos hm, List.erase_cons_tail (by simpa using hne), ih]
        rw [List.count_erase_of_ne (fun h => hxy h.symm)]
        omega
      · rw [if_neg (by simp only [List.mem_cons, not_or]; exact ⟨hxy, hm⟩), if_neg hm, ih]

theorem comm_self (a : List ByteArray) : comm a a = a.length := by
  induction a with
  | nil => rfl
  | cons y ys ih => rw [comm_cons, if_pos (by simp), List.erase_cons_head, ih]; rfl
theorem comm_cons_both (a b : List ByteArray) (y : ByteArray) : comm (y :: a) (y :: b) = comm a b + 1 := by
  rw [comm_cons, if_pos (by simp), List.erase_cons_head]
theorem comm_perm_right (a : List ByteArray) {b b' : List ByteArray} (h : b.Perm b') : comm a b = comm a b' := by
  induction a with
  | nil => rw [comm_nil_left, comm_nil_left]
  | cons y ys ih => rw [comm_cons_left, comm_cons_left, ih, h.count_eq]
theorem comm_symm (a b : List ByteArray) : comm a b = comm b a := by
  induction b generalizing a with
  | nil => rw [comm_nil, comm_nil_left]
  | cons y ys ih =>
    rw [comm_cons, comm_cons_left]
    by_cases hm : y ∈ a
    · rw [if_pos hm]
      have hp : a.Perm (y :: a.erase y) := List.perm_cons_erase hm
      rw [comm_perm_right ys hp, comm_symm_aux ys (a.erase y) y, ← ih]
      have hc : a.count y = (a.erase y).count y + 1 := by
        rw [List.count_erase_self]
        have := List.count_pos_iff.2 hm
        omega
      rw [hc]
      split <;> split <;> omega
    · rw [if_neg hm, ih]
      have h0 : a.count y = 0 := List.count_eq_zero.2 hm
      rw [h0, if_neg (by omega)]
      rfl
where
  comm_symm_aux (a b : List ByteArray) (y : ByteArray) : comm a (y :: b) = comm a b + if b.count y < a.count y then 1 else 0 := by
    induction a generalizing b with
    | nil => simp [comm_nil_left]
    | cons x xs ih =>
      rw [comm_cons_left, comm_cons_left, ih]
      by_cases hxy : x = y
      · subst hxy
        have h1 : (x :: b).count x = b.count x + 1 := List.count_cons_self
        have h2 : (x :: xs).count x = xs.count x + 1 := List.count_cons_self
        rw [h1, h2]
        split <;> split <;> split <;> split <;> omega
      · have hyx : ¬ y = x := fun h => hxy h.symm
        have h1 : (y :: b).count x = b.count x := by rw [List.count_cons]; simp [hyx]
        have h2 : (x :: xs).count y = xs.count y := by rw [List.count_cons]; simp [hxy]
        rw [h1, h2]
        omega
theorem comm_cons_right (a b : List ByteArray) (y : ByteArray) : comm a (y :: b) = comm a b + if b.count y < a.count y then 1 else 0 := by
  rw [comm_symm, comm_cons_left, comm_symm b a]
theorem comm_le_left (a b : List ByteArray) : comm a b ≤ a.length := by rw [comm_symm]; exact comm_le a b
theorem comm_not_mem (a b : List ByteArray) (y : ByteArray) (h : y ∉ b) : comm (y :: a) b = comm a b := by
  rw [comm_cons_left, List.count_eq_zero.2 h, if_neg (by omega)]; rfl
/-- The same lines, each as often. -/
theorem comm_full (a : List ByteArray) : ∀ b : List ByteArray, comm a b = a.length ↔ ∀ x, a.count x ≤ b.count x := by
  induction a with
  | nil => intro b; simp [comm_nil_left]
  | cons y ys ih =>
    intro b
    rw [comm_cons_left]
    have hle := comm_le_left ys b
    constructor
    · intro h
      have h1 : comm ys b = ys.length ∧ ys.count y < b.count y := by
        simp only [List.length_cons] at h
        split at h
        · exact ⟨by omega, by assumption⟩
        · omega
      intro x
      have h2 := (ih b).1 h1.1 x
      by_cases hxy : y = x
      · subst hxy; rw [List.count_cons_self]; omega
      · rw [List.count_cons]; simp [hxy]; exact h2
    · intro h
      have h1 : ∀ x, ys.count x ≤ b.count x := fun x => Nat.le_trans (List.count_le_count_cons) (h x)
      have h2 := h y
      rw [List.count_cons_self] at h2
      rw [(ih b).2 h1, if_pos (by omega)]
      rfl
theorem comm_zero (a : List ByteArray) : ∀ b : List ByteArray, comm a b = 0 ↔ ∀ x ∈ a, x ∉ b := by
  induction a with
  | nil => intro b; simp [comm_nil_left]
  | cons y ys ih =>
    intro b
    rw [comm_cons_left]
    constructor
    · intro h
      have h1 := (ih b).1 (by omega)
      have h2 : ¬ ys.count y < b.count y := by intro hh; rw [if_pos hh] at h; omega
      intro x hx
      rcases List.mem_cons.1 hx with rfl | hx
      · intro hb
        by_cases hm : x ∈ ys
        · exact h1 x hm hb
        · have : ys.count x = 0 := List.count_eq_zero.2 hm
          have := List.count_pos_iff.2 hb
          omega
      · exact h1 x hx
    · intro h
      have h1 := (ih b).2 (fun x hx => h x (List.mem_cons_of_mem _ hx))
      have h2 : b.count y = 0 := List.count_eq_zero.2 (h y (by simp))
      rw [h1, h2, if_neg (by omega)]
theorem comm_append_left (c : ByteArray) (b : List ByteArray) (h : c ∉ b) (n : Nat) (a : List ByteArray) : comm (a ++ List.replicate n c) b = comm a b := by
  rw [comm_perm_left b (List.perm_append_comm (l₁ := a) (l₂ := List.replicate n c))]
  induction n with
  | zero => rfl
  | succ n ih => rw [List.replicate_succ, List.cons_append, comm_not_mem _ _ _ h, ih]
theorem comm_snoc (a b : List ByteArray) (x : ByteArray) : comm (a ++ [x]) b = comm a b + if a.count x < b.count x then 1 else 0 := by
  rw [comm_perm_left b (List.perm_append_comm (l₁ := a) (l₂ := [x]))]
  exact comm_cons_left b a x
theorem comm_twice (a : List ByteArray) : ∀ b : List ByteArray, comm (a ++ a) (b ++ b) = 2 * comm a b := by
  induction a with
  | nil => intro b; simp [comm_nil_left]
  | cons y ys ih =>
    intro b
    have hp : ((y :: ys) ++ (y :: ys)).Perm (y :: y :: (ys ++ ys)) := by
      rw [List.cons_append]
      exact List.Perm.cons y List.perm_middle
    rw [comm_perm_left _ hp, comm_cons_left, comm_cons_left, ih, comm_cons_left]
    have h1 : (y :: (ys ++ ys)).count y = 2 * ys.count y + 1 := by rw [List.count_cons_self, List.count_append]; omega
    have h2 : (ys ++ ys).count y = 2 * ys.count y := by rw [List.count_append]; omega
    have h3 : (b ++ b).count y = 2 * b.count y := by rw [List.count_append]; omega
    rw [h1, h2, h3]
    split <;> split <;> split <;> omega

/-- The score. -/
def score (a b : List ByteArray) : Int := if a.length + b.length = 0 then 100 else 200 * (comm a b : Int) / ((a.length + b.length : Nat) : Int)
theorem score_symm (a b : List ByteArray) : score a b = score b a := by
  unfold score; rw [comm_symm a b, Nat.add_comm]
theorem score_perm {a a' b b' : List ByteArray} (ha : a.Perm a') (hb : b.Perm b') : score a b = score a' b' := by
  unfold score; rw [comm_perm_left b ha, comm_perm_right a' hb, ha.length_eq, hb.length_eq]
theorem score_range (a b : List ByteArray) : 0 ≤ score a b ∧ score a b ≤ 100 := by
  unfold score
  split
  · omega
  · rename_i h
    have h1 := comm_le_left a b
    have h2 := comm_le b a
    constructor
    · exact Int.ediv_nonneg (by omega) (by omega)
    · exact Int.le_of_lt_add_one (Int.ediv_lt_of_lt_mul (by omega) (by omega))
theorem score_full (a b : List ByteArray) : score a b = 100 ↔ ∀ x, a.count x = b.count x := by
  have h1 := comm_le_left a b
  have h2 := comm_le b a
  unfold score
  constructor
  · intro h
    split at h
    · rename_i h0
      have ha : a = [] := List.eq_nil_of_length_eq_zero (by omega)
      have hb : b = [] := List.eq_nil_of_length_eq_zero (by omega)
      subst ha hb; intro x; rfl
    · rename_i h0
      have h3 : 100 * ((a.length + b.length : Nat) : Int) ≤ 200 * (comm a b : Int) := by
        have := Int.ediv_mul_le (200 * (comm a b : Int)) (b := ((a.length + b.length : Nat) : Int)) (by omega)
        rw [h] at this
        exact this
      have h4 := (comm_full a b).1 (by omega)
      have h5 := (comm_full b a).1 (by rw [comm_symm]; omega)
      intro x
      have := h4 x
      have := h5 x
      omega
  · intro h
    have h4 := (comm_full a b).2 (fun x => Nat.le_of_eq (h x))
    have h5 := (comm_full b a).2 (fun x => Nat.le_of_eq (h x).symm)
    rw [comm_symm] at h5
    split
    · rfl
    · rename_i h0
      rw [h4]
      have h6 : 200 * (a.length : Int) = 100 * ((a.length + b.length : Nat) : Int) := by omega
      rw [h6, Int.mul_ediv_cancel _ (by omega)]
theorem score_twice (a b : List ByteArray) : score (a ++ a) (b ++ b) = score a b := by
  unfold score
  rw [comm_twice]
  by_cases h : a.length + b.length = 0
  · rw [if_pos h, if_pos (by simp only [List.length_append]; omega)]
  · rw [if_neg h, if_neg (by simp only [List.length_append]; omega)]
    have h1 : (200 * ((2 * comm a b : Nat) : Int)) = 2 * (200 * (comm a b : Int)) := by omega
    have h2 : (((a ++ a).length + (b ++ b).length : Nat) : Int) = 2 * ((a.length + b.length : Nat) : Int) := by simp only [List.length_append]; omega
    rw [h1, h2, Int.mul_ediv_mul_of_pos _ _ (by omega)]
theorem score_more (a b : List ByteArray) (c : ByteArray) (n : Nat) (h : c ∉ b) : score (a ++ List.replicate n c) b ≤ score a b := by
  have hr := score_range (a ++ List.replicate n c) b
  unfold score at *
  rw [comm_append_left c b h] at *
  by_cases h0 : a.length + b.length = 0
  · rw [if_pos h0]; exact hr.2
  · rw [if_neg h0]
    have h3 : ¬ ((a ++ List.replicate n c).length + b.length = 0) := by simp only [List.length_append]; omega
    rw [if_neg h3]
    have h1 : (0 : Int) < ((a.length + b.length : Nat) : Int) := by omega
    have h2 : ((a.length + b.length : Nat) : Int) ≤ (((a ++ List.replicate n c).length + b.length : Nat) : Int) := by simp only [List.length_append]; omega
    refine Int.le_ediv_of_mul_le h1 ?_
    refine Int.le_trans (Int.mul_le_mul_of_nonneg_left h2 (Int.ediv_nonneg (by omega) (by omega))) ?_
    exact Int.ediv_mul_le _ (by omega)
end Go.Proofs.Ytcgnkbdfoaiaiaa.Q
end
section
/- Laid for this claim by hp.py, this session's program round the kit's print: functions of the program as plain Lean functions, the proofs that the code comes to their answers, and the rows of the laws. Not trusted: Lean checks it. -/
namespace Go.Proofs.Ytcgnkbdfoaiaiaa.P
open Go.RowKit Go.Proofs.YtcgnkbdfoaiaiaaW.PrintWords Go.Proofs.YtcgnkbdfoaiaiaaW.PrintLast Go.Proofs.YtcgnkbdfoaiaiaaW.PrintMore
attribute [local go_sem] max2_int min2_int max_two min_two max_three min_three max_four min_four   -- for this text's walks alone
set_option linter.unusedVariables false
set_option linter.unusedSimpArgs false

/-! ### paths_rank: function 48 -/
def paths_rank.f (a0 : ByteArray) (a1 : Int) : Option (Int) := if a1 ≥ (a0.size : Int) then (some 0) else (if 0 ≤ a1 then (if a1 < (a0.size : Int) then (if 0 < 1 then (if (bt a0 a1) = (bt (⟨#[47]⟩ : ByteArray) 0) then (some 1) else (some (wrap64 (2 + (wrap64 (bt a0 a1)))))) else (none)) else (none)) else (none))
set_option maxHeartbeats 8000000 in
set_option maxRecDepth 100000 in
theorem paths_rank.calls (a0 : ByteArray) (a1 : Int) (r : Int) (w : World) (h : paths_rank.f a0 a1 = some r) :
  Calls Try.prog 48 #[.string a0, .int .i64 a1] w fun e w' => e = .returned (.int .i64 r) ∧ Drawn0 w w' := by
 have H : (if a1 ≥ (a0.size : Int) then (some 0) else (if 0 ≤ a1 then (if a1 < (a0.size : Int) then (if 0 < 1 then (if (bt a0 a1) = (bt (⟨#[47]⟩ : ByteArray) 0) then (some 1) else (some (wrap64 (2 + (wrap64 (bt a0 a1)))))) else (none)) else (none)) else (none))) = some r := h
 clear h
 by_cases c3 : a1 ≥ (a0.size : Int)
 ·rw [if_pos c3] at H
  have c3b0 : decide ((a0.size : Int) ≤ a1) = true := decide_eq_true c3
  clear c3
  obtain rfl := Option.some.inj H
  go_enter Try.func48, Try.ntmps48
  go_wp2
  repeat (go_quiet (fail); try go_wp2)
  go_ret
  exact ⟨by first | rfl | (simp; done) | (simp [*]; done), by repeat (first | exact Drawn0.refl _ | apply Drawn0.step)⟩
 ·rw [if_neg c3] at H
  have c3b0 : decide ((a0.size : Int) ≤ a1) = false := decide_eq_false c3
  clear c3
  by_cases c4 : 0 ≤ a1
  ·rw [if_pos c4] at H
   have c4b0 : decide (0 ≤ a1) = true := decide_eq_true c4
   clear c4
   by_cases c5 : a1 < (a0.size : Int)
   ·rw [if_pos c5] at H
    have c5b0 : decide (a1 < (a0.size : Int)) = true := decide_eq_true c5
    clear c5
    by_cases c7 : 0 < 1
    ·rw [if_pos c7] at H
     have c7b0 : decide (0 < 1) = true := decide_eq_true c7
     clear c7
     by_cases c9 : (bt a0 a1) = (bt (⟨#[47]⟩ : ByteArray) 0)
     ·rw [if_pos c9] at H
      have c9b0 : ((bt a0 a1) == (bt (⟨#[47]⟩ : ByteArray) 0)) = true := beq_iff_eq.mpr c9
      have c9b1 : ((bt a0 a1) != (bt (⟨#[47]⟩ : ByteArray) 0)) = false := bne_eq_false_iff_eq.mpr c9
      clear c9
      obtain rfl := Option.some.inj H
      have p6 : 0 ≤ (a1 : Int) := of_decide_eq_true (by first | (with_reducible assumption) | assumption)
      have q6 : a1 < (a0.size : Int) := of_decide_eq_true (by first | (with_reducible assumption) | assumption)
      have hx6 := bt_at a0 a1
      replace p6 := eq_true p6
      replace q6 := eq_true q6
      have p8 : 0 ≤ (0 : Int) := (by omega)
      have q8 : 0 < (1 : Int) := (by omega)
      have hx8 : ∀ h : 0 < (⟨#[47]⟩ : ByteArray).size, (((⟨#[47]⟩ : ByteArray)[0]'h).toNat : Int) = bt (⟨#[47]⟩ : ByteArray) 0 := bt_at (⟨#[47]⟩ : ByteArray) 0
      replace p8 := eq_true p8
      replace q8 := eq_true q8
      go_enter Try.func48, Try.ntmps48
      go_wp2
      repeat (go_quiet (fail); try go_wp2)
      go_ret
      exact ⟨by first | rfl | (simp; done) | (simp [*]; done), by repeat (first | exact Drawn0.refl _ | apply Drawn0.step)⟩
     ·rw [if_neg c9] at H
      have c9b0 : ((bt a0 a1) == (bt (⟨#[47]⟩ : ByteArray) 0)) = false := beq_eq_false_iff_ne.mpr c9
      have c9b1 : ((bt a0 a1) != (bt (⟨#[47]⟩ : ByteArray) 0)) = true := bne_iff_ne.mpr c9
      obtain rfl := Option.some.inj H
      have p6 : 0 ≤ (a1 : Int) := of_decide_eq_true (by first | (with_reducible assumption) | assumption)
      have q6 : a1 < (a0.size : Int) := of_decide_eq_true (by first | (with_reducible assumption) | assumption)
      have hx6 := bt_at a0 a1
      replace p6 := eq_true p6
      replace q6 := eq_true q6
      have p8 : 0 ≤ (0 : Int) := (by omega)
      have q8 : 0 < (1 : Int) := (by omega)
      have hx8 : ∀ h : 0 < (⟨#[47]⟩ : ByteArray).size, (((⟨#[47]⟩ : ByteArray)[0]'h).toNat : Int) = bt (⟨#[47]⟩ : ByteArray) 0 := bt_at (⟨#[47]⟩ : ByteArray) 0
      replace p8 := eq_true p8
      replace q8 := eq_true q8
      have p10 : 0 ≤ (a1 : Int) := of_decide_eq_true (by first | (with_reducible assumption) | assumption)
      have q10 : a1 < (a0.size : Int) := of_decide_eq_true (by first | (with_reducible assumption) | assumption)
      have hx10 := bt_at a0 a1
      replace p10 := eq_true p10
      replace q10 := eq_true q10
      go_enter Try.func48, Try.ntmps48
      go_wp2
      repeat (go_quiet (fail); try go_wp2)
      go_ret
      exact ⟨by first | rfl | (simp; done) | (simp [*]; done), by repeat (first | exact Drawn0.refl _ | apply Drawn0.step)⟩
    ·rw [if_neg c7] at H
     exact absurd H (by simp)
   ·rw [if_neg c5] at H
    exact absurd H (by simp)
  ·rw [if_neg c4] at H
   exact absurd H (by simp)

end Go.Proofs.Ytcgnkbdfoaiaiaa.P
end
section
/- Laid for this claim by hp.py, this session's program round the kit's print: functions of the program as plain Lean functions, the proofs that the code comes to their answers, and the rows of the laws. Not trusted: Lean checks it. -/
namespace Go.Proofs.Ytcgnkbdfoaiaiaa.P
open Go.RowKit Go.Proofs.YtcgnkbdfoaiaiaaW.PrintWords Go.Proofs.YtcgnkbdfoaiaiaaW.PrintLast Go.Proofs.YtcgnkbdfoaiaiaaW.PrintMore
attribute [local go_sem] max2_int min2_int max_two min_two max_three min_three max_four min_four   -- for this text's walks alone
set_option linter.unusedVariables false
set_option linter.unusedSimpArgs false

/-! ### collatorref01_Join: function 25 -/
def collatorref01_Join.f (a0 : ByteArray) (a1 : ByteArray) : Option (ByteArray) := if a0.toList = ([] : List UInt8) then (some a1) else (if a0.size + 1 ≤ 9223372036854775807 then (if (a0 ++ (⟨#[47]⟩ : ByteArray)).size + a1.size ≤ 9223372036854775807 then (some ((a0 ++ (⟨#[47]⟩ : ByteArray)) ++ a1)) else (none)) else (none))
set_option maxHeartbeats 8000000 in
set_option maxRecDepth 100000 in
theorem collatorref01_Join.calls (a0 : ByteArray) (a1 : ByteArray) (r : ByteArray) (w : World) (h : collatorref01_Join.f a0 a1 = some r) :
  Calls Try.prog 25 #[.string a0, .string a1] w fun e w' => e = .returned (.string r) ∧ Drawn0 w w' := by
 have H : (if a0.toList = ([] : List UInt8) then (some a1) else (if a0.size + 1 ≤ 9223372036854775807 then (if (a0 ++ (⟨#[47]⟩ : ByteArray)).size + a1.size ≤ 9223372036854775807 then (some ((a0 ++ (⟨#[47]⟩ : ByteArray)) ++ a1)) else (none)) else (none))) = some r := h
 clear h
 by_cases c3 : a0.toList = ([] : List UInt8)
 ·rw [if_pos c3] at H
  have c3b0 : (a0.toList == ([] : List UInt8)) = true := beq_iff_eq.mpr c3
  have c3b1 : (a0.toList != ([] : List UInt8)) = false := bne_eq_false_iff_eq.mpr c3
  clear c3
  obtain rfl := Option.some.inj H
  go_enter Try.func25, Try.ntmps25
  go_wp2
  go_ret
  exact ⟨by first | rfl | (simp; done) | (simp [bne]; done) | (simp [*]; done), by repeat (first | exact Drawn0.refl _ | apply Drawn0.step)⟩
 ·rw [if_neg c3] at H
  have c3b0 : (a0.toList == ([] : List UInt8)) = false := beq_eq_false_iff_ne.mpr c3
  have c3b1 : (a0.toList != ([] : List UInt8)) = true := bne_iff_ne.mpr c3
  by_cases c4 : a0.size + 1 ≤ 9223372036854775807
  ·rw [if_pos c4] at H
   have c4b0 := eq_true c4
   have c4b1 : decide (a0.size + 1 ≤ 9223372036854775807) = true := decide_eq_true c4
   try have c4b2 : (9223372036854775807 < a0.size + 1) = False := eq_false (Nat.not_lt.2 c4)
   by_cases c5 : (a0 ++ (⟨#[47]⟩ : ByteArray)).size + a1.size ≤ 9223372036854775807
   ·rw [if_pos c5] at H
    have c5b0 := eq_true c5
    have c5b1 : decide ((a0 ++ (⟨#[47]⟩ : ByteArray)).size + a1.size ≤ 9223372036854775807) = true := decide_eq_true c5
    try have c5b2 : (9223372036854775807 < (a0 ++ (⟨#[47]⟩ : ByteArray)).size + a1.size) = False := eq_false (Nat.not_lt.2 c5)
    (try (have c5b3 := c5b2; simp only [ByteArray.size_append, ByteArray.size_extract, Nat.sub_zero, show (⟨#[47]⟩ : ByteArray).size = 1 from rfl] at c5b3))
    obtain rfl := Option.some.inj H
    go_enter Try.func25, Try.ntmps25
    go_wp2
    go_ret
    exact ⟨by first | rfl | (simp; done) | (simp [bne]; done) | (simp [*]; done), by repeat (first | exact Drawn0.refl _ | apply Drawn0.step)⟩
   ·rw [if_neg c5] at H
    exact absurd H (by simp)
  ·rw [if_neg c4] at H
   exact absurd H (by simp)

end Go.Proofs.Ytcgnkbdfoaiaiaa.P
end
section
/- Laid for this claim by hp.py, this session's program round the kit's print: functions of the program as plain Lean functions, the proofs that the code comes to their answers, and the rows of the laws. Not trusted: Lean checks it. -/
namespace Go.Proofs.Ytcgnkbdfoaiaiaa.P
open Go.RowKit Go.Proofs.YtcgnkbdfoaiaiaaW.PrintWords Go.Proofs.YtcgnkbdfoaiaiaaW.PrintLast Go.Proofs.YtcgnkbdfoaiaiaaW.PrintMore
attribute [local go_sem] max2_int min2_int max_two min_two max_three min_three max_four min_four   -- for this text's walks alone
set_option linter.unusedVariables false
set_option linter.unusedSimpArgs false

/-! ### collatorlaw01_pick: function 45 -/
def collatorlaw01_pick.f (a0 : Int) (a1 : Int) : Option (Int) := if a0 < 0 then (if a1 = 0 then (none) else (some (Int.tmod (wrap64 (-(wrap64 (a0 + 1)))) a1))) else (if a1 = 0 then (none) else (some (Int.tmod a0 a1)))
set_option maxHeartbeats 8000000 in
set_option maxRecDepth 100000 in
theorem collatorlaw01_pick.calls (a0 : Int) (a1 : Int) (r : Int) (w : World) (h : collatorlaw01_pick.f a0 a1 = some r) :
  Calls Try.prog 45 #[.int .i64 a0, .int .i64 a1] w fun e w' => e = .returned (.int .i64 r) ∧ Drawn0 w w' := by
 have H : (if a0 < 0 then (if a1 = 0 then (none) else (some (Int.tmod (wrap64 (-(wrap64 (a0 + 1)))) a1))) else (if a1 = 0 then (none) else (some (Int.tmod a0 a1)))) = some r := h
 clear h
 by_cases c3 : a0 < 0
 ·rw [if_pos c3] at H
  have c3b0 : decide (a0 < 0) = true := decide_eq_true c3
  clear c3
  by_cases c4 : a1 = 0
  ·rw [if_pos c4] at H
   exact absurd H (by simp)
  ·rw [if_neg c4] at H
   have c4b0 : (a1 == 0) = false := beq_eq_false_iff_ne.mpr c4
   have c4b1 : (a1 != 0) = true := bne_iff_ne.mpr c4
   obtain rfl := Option.some.inj H
   go_enter Try.func45, Try.ntmps45
   go_wp2
   go_ret
   exact ⟨by first | rfl | (simp; done) | (simp [*]; done), by repeat (first | exact Drawn0.refl _ | apply Drawn0.step)⟩
 ·rw [if_neg c3] at H
  have c3b0 : decide (a0 < 0) = false := decide_eq_false c3
  clear c3
  by_cases c5 : a1 = 0
  ·rw [if_pos c5] at H
   exact absurd H (by simp)
  ·rw [if_neg c5] at H
   have c5b0 : (a1 == 0) = false := beq_eq_false_iff_ne.mpr c5
   have c5b1 : (a1 != 0) = true := bne_iff_ne.mpr c5
   obtain rfl := Option.some.inj H
   go_enter Try.func45, Try.ntmps45
   go_wp2
   go_ret
   exact ⟨by first | rfl | (simp; done) | (simp [*]; done), by repeat (first | exact Drawn0.refl _ | apply Drawn0.step)⟩

end Go.Proofs.Ytcgnkbdfoaiaiaa.P
end
section
/- Laid for this claim by hp.py, this session's program round the kit's print: functions of the program as plain Lean functions, the proofs that the code comes to their answers, and the rows of the laws. Not trusted: Lean checks it. -/
namespace Go.Proofs.Ytcgnkbdfoaiaiaa.P
open Go.RowKit Go.Proofs.YtcgnkbdfoaiaiaaW.PrintWords Go.Proofs.YtcgnkbdfoaiaiaaW.PrintLast Go.Proofs.YtcgnkbdfoaiaiaaW.PrintMore
attribute [local go_sem] max2_int min2_int max_two min_two max_three min_three max_four min_four   -- for this text's walks alone
set_option linter.unusedVariables false
set_option linter.unusedSimpArgs false

/-! ### collatorlaw01_Path: function 29 -/
mutual
def collatorlaw01_Path.l0 : Nat → List Int → List ByteArray → ByteArray → Int → Option (ByteArray)
 | 0, _, _, _, _ => none
 | k + 1, x0, x3, x4, x5 => if x5 < (x0.length : Int) then (collatorlaw01_Path.j1 k x0 x3 x4 x5 (decide (x5 < 8))) else (collatorlaw01_Path.j1 k x0 x3 x4 x5 false)
def collatorlaw01_Path.j1 : Nat → List Int → List ByteArray → ByteArray → Int → Bool → Option (ByteArray)
 | 0, _, _, _, _, _ => none
 | k + 1, x0, x3, x4, x5, x14 => if x14 = true then (if 0 ≤ x5 then (if x5 < (x0.length : Int) then ((collatorlaw01_pick.f (rd x0 x5) 8).bind fun t487 => (if 0 ≤ t487 then (if t487 < (x3.length : Int) then ((collatorref01_Join.f x4 (rdOf ByteArray.empty x3 t487)).bind fun t489 => (collatorlaw01_Path.l0 k x0 x3 t489 (wrap64 (x5 + 1)))) else (none)) else (none))) else (none)) else (none)) else (if x4.toList = ([] : List UInt8) then (some (⟨#[97]⟩ : ByteArray)) else (some x4))
end
def collatorlaw01_Path.f (k : Nat) (l0 : List Int) : Option (ByteArray) := collatorlaw01_Path.l0 k l0 (([(⟨#[97]⟩ : ByteArray), (⟨#[98]⟩ : ByteArray), (⟨#[97, 98]⟩ : ByteArray), (⟨#[97, 33]⟩ : ByteArray), (⟨#[97, 46, 98]⟩ : ByteArray), (⟨#[46, 46, 46]⟩ : ByteArray), (⟨#[90]⟩ : ByteArray), (⟨#[255]⟩ : ByteArray)] : List ByteArray)) (⟨#[]⟩ : ByteArray) 0
theorem collatorlaw01_Path.mono_l : ∀ k, (∀ y0 y1 y2 y3, LeO (collatorlaw01_Path.l0 k y0 y1 y2 y3) (collatorlaw01_Path.l0 (k + 1) y0 y1 y2 y3)) ∧ (∀ y0 y1 y2 y3 y4, LeO (collatorlaw01_Path.j1 k y0 y1 y2 y3 y4) (collatorlaw01_Path.j1 (k + 1) y0 y1 y2 y3 y4))
 | 0 => ⟨fun _ _ _ _ r h => by simp [collatorlaw01_Path.l0] at h, fun _ _ _ _ _ r h => by simp [collatorlaw01_Path.j1] at h⟩
 | k + 1 => by
  obtain ⟨ih0, ih1⟩ := collatorlaw01_Path.mono_l k
  refine ⟨?_, ?_⟩
  ·intro y0 y1 y2 y3
   unfold collatorlaw01_Path.l0
   repeat' first
   | (with_reducible exact ih0 _ _ _ _)
   | (with_reducible exact ih1 _ _ _ _ _)
   | (with_reducible exact LeO.refl _)
   | (with_reducible exact LeO.none _)
   | (with_reducible refine LeO.ite ?_ ?_)
   | (with_reducible refine LeO.bind ?_ (fun _ => ?_))
   | exact ih0 _ _ _ _
   | exact ih1 _ _ _ _ _
   | exact LeO.none _
   | refine LeO.ite ?_ ?_
   | refine LeO.bind ?_ (fun _ => ?_)
  ·intro y0 y1 y2 y3 y4
   unfold collatorlaw01_Path.j1
   repeat' first
   | (with_reducible exact ih0 _ _ _ _)
   | (with_reducible exact ih1 _ _ _ _ _)
   | (with_reducible exact LeO.refl _)
   | (with_reducible exact LeO.none _)
   | (with_reducible refine LeO.ite ?_ ?_)
   | (with_reducible refine LeO.bind ?_ (fun _ => ?_))
   | exact ih0 _ _ _ _
   | exact ih1 _ _ _ _ _
   | exact LeO.none _
   | refine LeO.ite ?_ ?_
   | refine LeO.bind ?_ (fun _ => ?_)
theorem collatorlaw01_Path.mono : ∀ a0 k, LeO (collatorlaw01_Path.f k a0) (collatorlaw01_Path.f (k + 1) a0) := by
 intro a0 k
 obtain ⟨ih0, ih1⟩ := collatorlaw01_Path.mono_l k
 unfold collatorlaw01_Path.f
 repeat' first
   | (with_reducible exact ih0 _ _ _ _)
   | (with_reducible exact ih1 _ _ _ _ _)
   | (with_reducible exact LeO.refl _)
   | (with_reducible exact LeO.none _)
   | (with_reducible refine LeO.ite ?_ ?_)
   | (with_reducible refine LeO.bind ?_ (fun _ => ?_))
   | exact ih0 _ _ _ _
   | exact ih1 _ _ _ _ _
   | exact LeO.none _
   | refine LeO.ite ?_ ?_
   | refine LeO.bind ?_ (fun _ => ?_)
set_option maxHeartbeats 8000000 in
set_option maxRecDepth 100000 in
theorem collatorlaw01_Path.calls (k : Nat) (A0 : Option Addr) (c0 : Nat) (l0 : List Int) (r : ByteArray) (w : World) (hr0 : Kd.C (Kd.int .i64) w A0 l0.length l0) (hc0 : l0.length ≤ c0) (h : collatorlaw01_Path.f k l0 = some r) :
  Calls Try.prog 29 #[.slice A0 l0.length c0] w fun e w' => e = .returned (.string r) ∧ Below w.heap.size w w' := by
 have HR0 := Aside0.mk hr0
 have HC0 := Aside0.mk hc0
 clear hr0 hc0
 have HB := Aside0.mk (Below.refl w.heap.size w)
 have H : (collatorlaw01_Path.l0 k l0 (([(⟨#[97]⟩ : ByteArray), (⟨#[98]⟩ : ByteArray), (⟨#[97, 98]⟩ : ByteArray), (⟨#[97, 33]⟩ : ByteArray), (⟨#[97, 46, 98]⟩ : ByteArray), (⟨#[46, 46, 46]⟩ : ByteArray), (⟨#[90]⟩ : ByteArray), (⟨#[255]⟩ : ByteArray)] : List ByteArray)) (⟨#[]⟩ : ByteArray) 0) = some r := h
 clear h
 obtain ⟨y483, hy483⟩ : ∃ y_ : List ByteArray, y_ = (([(⟨#[97]⟩ : ByteArray), (⟨#[98]⟩ : ByteArray), (⟨#[97, 98]⟩ : ByteArray), (⟨#[97, 33]⟩ : ByteArray), (⟨#[97, 46, 98]⟩ : ByteArray), (⟨#[46, 46, 46]⟩ : ByteArray), (⟨#[90]⟩ : ByteArray), (⟨#[255]⟩ : ByteArray)] : List ByteArray)) := ⟨_, rfl⟩
 replace H : (collatorlaw01_Path.l0 k l0 y483 (⟨#[]⟩ : ByteArray) 0) = some r := by first | (rw [hy483]; with_reducible exact H) | (have H2_ := (Option.bind_some _ _).symm.trans H; rw [hy483]; with_reducible exact H2_) | (have H2_ := (Option.bind_some _ _).symm.trans H; with_reducible exact H2_) | with_reducible exact H | (rw [hy483]; exact H) | exact H
 have Ny483 := Aside0.mk hy483
 clear hy483
 have H' := Aside0.mk H
 clear H
 go_enter Try.func29, Try.ntmps29
 go_wp2_with (first | ((with_reducible refine gate_dst (N := 6) rfl ?_); refine Kd.R_lit Kd.string _ 9 ?hg (N := 6) ?hd (xs := ([(⟨#[97]⟩ : ByteArray), (⟨#[98]⟩ : ByteArray), (⟨#[97, 98]⟩ : ByteArray), (⟨#[97, 33]⟩ : ByteArray), (⟨#[97, 46, 98]⟩ : ByteArray), (⟨#[46, 46, 46]⟩ : ByteArray), (⟨#[90]⟩ : ByteArray), (⟨#[255]⟩ : ByteArray)] : List ByteArray)) (inner := [.string (⟨#[97]⟩ : ByteArray), .string (⟨#[98]⟩ : ByteArray), .string (⟨#[97, 98]⟩ : ByteArray), .string (⟨#[97, 33]⟩ : ByteArray), .string (⟨#[97, 46, 98]⟩ : ByteArray), .string (⟨#[46, 46, 46]⟩ : ByteArray), .string (⟨#[90]⟩ : ByteArray), .string (⟨#[255]⟩ : ByteArray)]) (ok := fun _ => True) (okp := fun _ => True) ?hr ?hp (fun _ hk => hk) trivial (Below.refl _ _) (Nat.le_refl _) (by simp) ?_; (case hd => rfl); (case hg => rfl); (case hr => first | (go_simp; done) | (go_simp; rfl)); (case hp => exact (Reps.one (show Kd.M Kd.string _ _ _ (⟨#[97]⟩ : ByteArray) [.string (⟨#[97]⟩ : ByteArray)] from rfl) (Reps.one (show Kd.M Kd.string _ _ _ (⟨#[98]⟩ : ByteArray) [.string (⟨#[98]⟩ : ByteArray)] from rfl) (Reps.one (show Kd.M Kd.string _ _ _ (⟨#[97, 98]⟩ : ByteArray) [.string (⟨#[97, 98]⟩ : ByteArray)] from rfl) (Reps.one (show Kd.M Kd.string _ _ _ (⟨#[97, 33]⟩ : ByteArray) [.string (⟨#[97, 33]⟩ : ByteArray)] from rfl) (Reps.one (show Kd.M Kd.string _ _ _ (⟨#[97, 46, 98]⟩ : ByteArray) [.string (⟨#[97, 46, 98]⟩ : ByteArray)] from rfl) (Reps.one (show Kd.M Kd.string _ _ _ (⟨#[46, 46, 46]⟩ : ByteArray) [.string (⟨#[46, 46, 46]⟩ : ByteArray)] from rfl) (Reps.one (show Kd.M Kd.string _ _ _ (⟨#[90]⟩ : ByteArray) [.string (⟨#[90]⟩ : ByteArray)] from rfl) (Reps.one (show Kd.M Kd.string _ _ _ (⟨#[255]⟩ : ByteArray) [.string (⟨#[255]⟩ : ByteArray)] from rfl) (Reps.none _ _)))))))))); intro v484 w2 ho3 hb hg_ hnew_; clear hg_ hnew_; (first | rw [← Ny483.out] at ho3 | (simp only [Int.reduceToNat] at ho3; rw [← Ny483.out] at ho3)); have n0_ := Aside0.mk (Kd.R_lower ho3 (below_size (by repeat (first | (with_reducible first | exact HB.out | apply below_alloc | apply pw_below_drewN | apply below_drew1) | exact HB.out)))); have n1_ := Aside0.mk (below_step (by repeat (first | (with_reducible first | exact HB.out | apply below_alloc | apply pw_below_drewN | apply below_drew1) | exact HB.out)) hb); clear HB; have HO485 := n0_; have HB := n1_; clear n0_ n1_; clear hb ho3))
 go_loopg [4, 5] k (fun kq v4 v5 w' => ∃ (x4_1 : ByteArray) (x5_1 : Int), v4 = .string x4_1 ∧ v5 = .int .i64 x5_1 ∧ Aside0 (collatorlaw01_Path.l0 kq l0 y483 x4_1 x5_1 = some r) ∧ Aside0 (kq ≤ k) ∧ Aside0 (Kd.R Kd.string 9 w' w.heap.size (fun _ => True) v484 y483) ∧ Aside0 (Below w.heap.size w w'))
 case atStart => exact ⟨((⟨#[]⟩ : ByteArray)), (0), (by first | rfl | (simp; done) | (simp [bne]; done) | (simp [*]; done)), (by first | rfl | (simp; done) | (simp [bne]; done) | (simp [*]; done)), H', ⟨Nat.le_refl _⟩, ⟨by (with_reducible repeat (first | apply Kd.R_alloc | apply Kd.R_drewN | apply Kd.R_drew)); exact HO485.out⟩, ⟨by repeat (first | (with_reducible first | exact HB.out | apply below_alloc | apply pw_below_drewN | apply below_drew1) | exact HB.out)⟩⟩
 case round =>
  clear H'
  (try clear c2);(try clear p2)
  obtain ⟨x4_1, x5_1, rfl, rfl, HA, HK1, HO_3, HB⟩ := hrel
  cases gk with
  | zero => exact absurd HA.out (by simp [collatorlaw01_Path.l0])
  | succ k1 =>
   have H := HA.out
   clear HA
   simp only [collatorlaw01_Path.l0] at H
   have HC4 := Aside0.mk H
   clear H
   go_upto_region 4 with (fail)
   go_cut [14] (fun v14 wc => ∃ (kq : Nat) (x14_3 : Bool), v14 = .bool x14_3 ∧ Aside0 (collatorlaw01_Path.j1 kq l0 y483 x4_1 x5_1 x14_3 = some r) ∧ Aside0 (kq ≤ k1) ∧ Aside0 (Kd.R Kd.string 9 wc w.heap.size (fun _ => True) v484 y483) ∧ Aside0 (Below w.heap.size w wc))
   case first =>
    have H := HC4.out
    clear HC4
    by_cases c5 : x5_1 < (l0.length : Int)
    ·rw [if_pos c5] at H
     have c5b0 : decide (x5_1 < (l0.length : Int)) = true := decide_eq_true c5
     clear c5
     (first | rw [c5b0] | rw [c5b1] | (simp only [i64_w, i32_w]; rw [c5b0]) | skip)
     have H' := Aside0.mk H
     clear H
     go_wp2
     go_meet
     case rel => exact ⟨_, (decide (x5_1 < 8)), (by first | rfl | (simp; done) | (simp [bne]; done) | (simp [*]; done)), H', ⟨by have := HK1.out; first | omega | exact Nat.le_refl _⟩, ⟨by (with_reducible repeat (first | apply Kd.R_alloc | apply Kd.R_drewN | apply Kd.R_drew)); exact HO_3.out⟩, ⟨by repeat (first | (with_reducible first | exact HB.out | apply below_alloc | apply pw_below_drewN | apply below_drew1) | exact HB.out)⟩⟩
    ·rw [if_neg c5] at H
     have c5b0 : decide (x5_1 < (l0.length : Int)) = false := decide_eq_false c5
     clear c5
     (first | rw [c5b0] | rw [c5b1] | (simp only [i64_w, i32_w]; rw [c5b0]) | skip)
     have H' := Aside0.mk H
     clear H
     go_wp2
     go_meet
     case rel => exact ⟨_, (false), (by first | rfl | (simp; done) | (simp [bne]; done) | (simp [*]; done)), H', ⟨by have := HK1.out; first | omega | exact Nat.le_refl _⟩, ⟨by (with_reducible repeat (first | apply Kd.R_alloc | apply Kd.R_drewN | apply Kd.R_drew)); exact HO_3.out⟩, ⟨by repeat (first | (with_reducible first | exact HB.out | apply below_alloc | apply pw_below_drewN | apply below_drew1) | exact HB.out)⟩⟩
   case rest =>
    clear HC4
    (try clear c2);(try clear p2);(try clear c5);(try clear c5b0);(try clear p2)
    obtain ⟨kq, x14_3, rfl, HA, HJ3, HO_3, HB⟩ := hcut
    cases kq with
    | zero => exact absurd HA.out (by simp [collatorlaw01_Path.j1])
    | succ kj3 =>
     have H := HA.out
     clear HA
     simp only [collatorlaw01_Path.j1] at H
     by_cases c6 : x14_3 = true
     ·subst c6
      have H1 : (if 0 ≤ x5_1 then (if x5_1 < (l0.length : Int) then ((collatorlaw01_pick.f (rd l0 x5_1) 8).bind fun t487 => (if 0 ≤ t487 then (if t487 < (y483.length : Int) then ((collatorref01_Join.f x4_1 (rdOf ByteArray.empty y483 t487)).bind fun t489 => (collatorlaw01_Path.l0 kj3 l0 y483 t489 (wrap64 (x5_1 + 1)))) else (none)) else (none))) else (none)) else (none)) = some r := by rw [if_pos rfl] at H; exact H
      clear H
      have H := H1
      clear H1
      by_cases c7 : 0 ≤ x5_1
      ·rw [if_pos c7] at H
       have c7b0 : decide (0 ≤ x5_1) = true := decide_eq_true c7
       clear c7
       by_cases c8 : x5_1 < (l0.length : Int)
       ·rw [if_pos c8] at H
        have c8b0 : decide (x5_1 < (l0.length : Int)) = true := decide_eq_true c8
        clear c8
        replace H := Option.bind_eq_some_iff.mp H
        obtain ⟨t487, A90, H⟩ := H
        replace H : (if 0 ≤ t487 then (if t487 < (y483.length : Int) then ((collatorref01_Join.f x4_1 (rdOf ByteArray.empty y483 t487)).bind fun t489 => (collatorlaw01_Path.l0 kj3 l0 y483 t489 (wrap64 (x5_1 + 1)))) else (none)) else (none)) = some r := H
        have A9 := Aside0.mk A90
        clear A90
        by_cases c10 : 0 ≤ t487
        ·rw [if_pos c10] at H
         have c10b0 : decide (0 ≤ t487) = true := decide_eq_true c10
         clear c10
         by_cases c11 : t487 < (y483.length : Int)
         ·rw [if_pos c11] at H
          have c11b0 : decide (t487 < (y483.length : Int)) = true := decide_eq_true c11
          clear c11
          replace H := Option.bind_eq_some_iff.mp H
          obtain ⟨t489, A120, H⟩ := H
          replace H : (collatorlaw01_Path.l0 kj3 l0 y483 t489 (wrap64 (x5_1 + 1))) = some r := H
          have A12 := Aside0.mk A120
          clear A120
          have H' := Aside0.mk H
          clear H
          have p486 : 0 ≤ (x5_1 : Int) := of_decide_eq_true (by first | (with_reducible assumption) | assumption)
          have q486 : x5_1 < (l0.length : Int) := of_decide_eq_true (by first | (with_reducible assumption) | assumption)
          obtain ⟨ad486, e486, hx486_0⟩ := Kd.at_int HR0.out x5_1 p486 q486
          cases e486
          replace hx486_0 := (HB.out.cell (World.block_lt_of_cell? w _ hx486_0)).trans hx486_0
          replace p486 := eq_true p486
          replace q486 := eq_true q486
          go_wp2_with (first | ((with_reducible refine gate_callee (f := 45) rfl ?_); refine goesL_ _ rfl rfl Try.func45 (by kernel_rfl) rfl #[.int .i64 (rd l0 x5_1), .int .i64 8] rfl (by (try simp only [List.map_toArray, List.map_cons, List.map_nil]); first | done | rfl | (simp only [List.length_drop, List.length_take]; rfl)) ?_; (with_reducible refine (collatorlaw01_pick.calls (rd l0 x5_1) 8 t487 _ A9.out).mono ?_); rintro e w' ⟨rfl, ⟨nd, rfl⟩⟩; refine ⟨_, rfl, ?_⟩; (try (obtain ⟨Ao13, co13, eo13⟩ := Kd.R_slice HO_3.out; subst eo13)); have p488 : 0 ≤ (t487 : Int) := of_decide_eq_true (by first | (with_reducible assumption) | assumption); have q488 : t487 < (y483.length : Int) := of_decide_eq_true (by first | (with_reducible assumption) | assumption); obtain ⟨ad488, e488, hx488_0⟩ := Kd.at_string (Kd.R_reads' HO_3.out).2.2 t487 p488 q488; cases e488; replace p488 := eq_true p488; replace q488 := eq_true q488) | ((with_reducible refine gate_callee (f := 25) rfl ?_); refine goesL_ _ rfl rfl Try.func25 (by kernel_rfl) rfl #[.string x4_1, .string (rdOf ByteArray.empty y483 t487)] rfl (by (try simp only [List.map_toArray, List.map_cons, List.map_nil]); first | done | rfl | (simp only [List.length_drop, List.length_take]; rfl)) ?_; (with_reducible refine (collatorref01_Join.calls x4_1 (rdOf ByteArray.empty y483 t487) t489 _ A12.out).mono ?_); rintro e w' ⟨rfl, ⟨nd, rfl⟩⟩; refine ⟨_, rfl, ?_⟩))
          go_roundg kj3
          case measure => have := HK1.out; have := HJ3.out; omega
          case rel => exact ⟨(t489), (wrap64 (x5_1 + 1)), (by first | rfl | (simp; done) | (simp [bne]; done) | (simp [*]; done)), (by first | rfl | (simp; done) | (simp [bne]; done) | (simp [*]; done)), H', ⟨by have := HK1.out; have := HJ3.out; omega⟩, ⟨by (with_reducible repeat (first | apply Kd.R_alloc | apply Kd.R_drewN | apply Kd.R_drew)); exact HO_3.out⟩, ⟨by repeat (first | (with_reducible first | exact HB.out | apply below_alloc | apply pw_below_drewN | apply below_drew1) | exact HB.out)⟩⟩
         ·rw [if_neg c11] at H
          exact absurd H (by simp)
        ·rw [if_neg c10] at H
         exact absurd H (by simp)
       ·rw [if_neg c8] at H
        exact absurd H (by simp)
      ·rw [if_neg c7] at H
       exact absurd H (by simp)
     ·replace c6 := Bool.eq_false_iff.mpr c6
      subst c6
      have H1 : (if x4_1.toList = ([] : List UInt8) then (some (⟨#[97]⟩ : ByteArray)) else (some x4_1)) = some r := by rw [if_neg (show ¬ (false = true) by decide)] at H; exact H
      clear H
      have H := H1
      clear H1
      by_cases c14 : x4_1.toList = ([] : List UInt8)
      ·rw [if_pos c14] at H
       have c14b0 : (x4_1.toList == ([] : List UInt8)) = true := beq_iff_eq.mpr c14
       have c14b1 : (x4_1.toList != ([] : List UInt8)) = false := bne_eq_false_iff_eq.mpr c14
       clear c14
       obtain rfl := Option.some.inj H
       go_wp2
       go_ret
       exact ⟨by first | rfl | (simp [errW_none, errW_some] <;> rfl) | (simp [bne]; done) | (simp [*, errW_none, errW_some] <;> rfl), by repeat (first | (with_reducible first | exact HB.out | apply below_alloc | apply pw_below_drewN | apply below_drew1) | exact HB.out)⟩
      ·rw [if_neg c14] at H
       have c14b0 : (x4_1.toList == ([] : List UInt8)) = false := beq_eq_false_iff_ne.mpr c14
       have c14b1 : (x4_1.toList != ([] : List UInt8)) = true := bne_iff_ne.mpr c14
       obtain rfl := Option.some.inj H
       go_wp2
       go_ret
       exact ⟨by first | rfl | (simp [errW_none, errW_some] <;> rfl) | (simp [bne]; done) | (simp [*, errW_none, errW_some] <;> rfl), by repeat (first | (with_reducible first | exact HB.out | apply below_alloc | apply pw_below_drewN | apply below_drew1) | exact HB.out)⟩

end Go.Proofs.Ytcgnkbdfoaiaiaa.P
end
section
/- Paths: the plain theory of texts in parts; what the functions of layer 1 answer; raw paths. -/
set_option linter.unusedVariables false
set_option linter.unusedSimpArgs false
namespace Go.Proofs.Ytcgnkbdfoaiaiaa.Q
section
open List
abbrev Bs := List UInt8
/-- A sign's place among all. -/
def rkb (c : UInt8) : Nat := if c = 47 then 1 else c.toNat + 2
def lex : List Nat → List Nat → Int
  | [], [] => 0
  | [], _ :: _ => -1
  | _ :: _, [] => 1
  | x :: xs, y :: ys => if x < y then -1 else if y < x then 1 else lex xs ys
theorem lex_nil : lex [] [] = 0 := rfl
theorem lex_nl (y : Nat) (ys : List Nat) : lex [] (y :: ys) = -1 := rfl
theorem lex_nr (x : Nat) (xs : List Nat) : lex (x :: xs) [] = 1 := rfl
theorem lex_cons (x y : Nat) (xs ys : List Nat) : lex (x :: xs) (y :: ys) = if x < y then -1 else if y < x then 1 else lex xs ys := rfl
theorem lex_same (x : Nat) (xs ys : List Nat) : lex (x :: xs) (x :: ys) = lex xs ys := by rw [lex_cons, if_neg (by omega), if_neg (by omega)]
theorem lex_range : ∀ (a b : List Nat), lex a b = -1 ∨ lex a b = 0 ∨ lex a b = 1 := by
  intro a
  induction a with
  | nil => intro b; cases b <;> simp [lex]
  | cons x a ih =>
    intro b
    cases b with
    | nil => simp [lex]
    | cons y b =>
      rw [lex_cons]
      split
      · exact .inl rfl
      · split
        · exact .inr (.inr rfl)
        · exact ih b
theorem lex_neg : ∀ (a b : List Nat), lex b a = -lex a b := by
  intro a
  induction a with
  | nil => intro b; cases b <;> simp [lex]
  | cons x a ih =>
    intro b
    cases b with
    | nil => simp [lex]
    | cons y b =>
      rw [lex_cons, lex_cons, ih b]
      split <;> split <;> first | rfl | omega
theorem lex_zero : ∀ (a b : List Nat), lex a b = 0 ↔ a = b := by
  intro a
  induction a with
  | nil => intro b; cases b <;> simp [lex]
  | cons x a ih =>
    intro b
    cases b with
    | nil => simp [lex]
    | cons y b =>
      rw [lex_cons, List.cons.injEq, ← ih b]
      split
      · exact ⟨fun h => (by cases h), fun h => (by omega)⟩
      · split
        · exact ⟨fun h => (by cases h), fun h => (by omega)⟩
        · exact ⟨fun h => ⟨by omega, h⟩, fun h => h.2⟩
theorem lex_self (a : List Nat) : lex a a = 0 := (lex_zero a a).2 rfl
/-- Who is no greater than who is no greater is no greater; and less, if one of both is. -/
theorem lex_trans : ∀ (a b c : List Nat), lex a b ≤ 0 → lex b c ≤ 0 → lex a c ≤ 0 ∧ (lex a b < 0 ∨ lex b c < 0 → lex a c < 0) := by
  intro a
  induction a with
  | nil =>
    intro b c h1 h2
    cases c with
    | nil =>
      cases b with
      | nil => simp [lex]
      | cons y b => rw [lex_nr] at h2; omega
    | cons z c => rw [lex_nl]; omega
  | cons x a ih =>
    intro b c h1 h2
    cases b with
    | nil => rw [lex_nr] at h1; omega
    | cons y b =>
      cases c with
      | nil => rw [lex_nr] at h2; omega
      | cons z c =>
        rw [lex_cons] at h1 h2 ⊢
        rw [lex_cons, lex_cons]
        have := ih b c
        by_cases c1 : x < y
        · by_cases c2 : z < y
          · rw [if_neg (by omega : ¬ y < z), if_pos c2] at h2; omega
          · rw [if_pos (by omega : x < z)]
            exact ⟨by omega, fun _ => by omega⟩
        · by_cases c2 : y < x
          · rw [if_neg c1, if_pos c2] at h1; omega
          · have e : x = y := by omega
            subst e
            rw [if_neg c1, if_neg c1] at h1
            by_cases c3 : x < z
            · rw [if_pos c3]; exact ⟨by omega, fun _ => by omega⟩
            · by_cases c4 : z < x
              · rw [if_neg c3, if_pos c4] at h2; omega
              · rw [if_neg c3, if_neg c4] at h2
                rw [if_neg c3, if_neg c4, if_neg c1, if_neg c1, if_neg c3, if_neg c4]
                exact this h1 h2
theorem lex_app (p a b : List Nat) : lex (p ++ a) (p ++ b) = lex a b := by
  induction p with
  | nil => rfl
  | cons x p ih => rw [List.cons_append, List.cons_append, lex_same, ih]
theorem lex_front (p : List Nat) {b : List Nat} (h : b ≠ []) : lex p (p ++ b) = -1 := by
  have := lex_app p [] b
  rw [List.append_nil] at this
  rw [this]
  cases b with
  | nil => exact absurd rfl h
  | cons y b => rfl
/-- What stands between two that begin with p begins with p. -/
theorem lex_between (p : List Nat) : ∀ {a b z : List Nat}, lex (p ++ a) z ≤ 0 → lex z (p ++ b) ≤ 0 → ∃ r, z = p ++ r := by
  induction p with
  | nil => intro a b z _ _; exact ⟨z, rfl⟩
  | cons x p ih =>
    intro a b z h1 h2
    cases z with
    | nil => rw [List.cons_append, lex_nr] at h1; omega
    | cons y z =>
      rw [List.cons_append, lex_cons] at h1 h2
      by_cases c1 : x < y
      · rw [if_neg (by omega), if_pos c1] at h2; omega
      · by_cases c2 : y < x
        · rw [if_neg c1, if_pos c2] at h1; omega
        · have e : x = y := by omega
          subst e
          rw [if_neg c1, if_neg c1] at h1 h2
          obtain ⟨r, hr⟩ := ih h1 h2
          exact ⟨r, by rw [hr]; rfl⟩
def rks (l : Bs) : List Nat := l.map rkb
theorem rkb_inj {x y : UInt8} (h : rkb x = rkb y) : x = y := by
  unfold rkb at h
  split at h
  · rename_i h1
    split at h
    · rename_i h2; rw [h1, h2]
    · omega
  · split at h
    · omega
    · exact UInt8.toNat_inj.1 (by omega)
theorem rks_inj : ∀ {a b : Bs}, rks a = rks b → a = b := by
  intro a
  induction a with
  | nil => intro b h; cases b with
    | nil => rfl
    | cons y b => cases h
  | cons x a ih =>
    intro b h
    cases b with
    | nil => cases h
    | cons y b =>
      injection h with h1 h2
      rw [rkb_inj h1, ih h2]
theorem rks_append (a b : Bs) : rks (a ++ b) = rks a ++ rks b := List.map_append
theorem rks_front {p : Bs} : ∀ {z : Bs} {r : List Nat}, rks z = rks p ++ r → ∃ q, z = p ++ q ∧ rks q = r := by
  induction p with
  | nil => intro z r h; exact ⟨z, rfl, h⟩
  | cons x p ih =>
    intro z r h
    cases z with
    | nil => cases h
    | cons y z =>
      injection h with h1 h2
      obtain ⟨q, rfl, hq⟩ := ih h2
      exact ⟨q, by rw [rkb_inj h1]; rfl, hq⟩
/-- Which path is less. -/
def pcmp (a b : Bs) : Int := lex (rks a) (rks b)
theorem pcmp_range (a b : Bs) : pcmp a b = -1 ∨ pcmp a b = 0 ∨ pcmp a b = 1 := lex_range _ _
theorem pcmp_neg (a b : Bs) : pcmp b a = -pcmp a b := lex_neg _ _
theorem pcmp_zero (a b : Bs) : pcmp a b = 0 ↔ a = b := (lex_zero _ _).trans ⟨rks_inj, fun h => by rw [h]⟩
theorem pcmp_trans (a b c : Bs) : pcmp a b ≤ 0 → pcmp b c ≤ 0 → pcmp a c ≤ 0 ∧ (pcmp a b < 0 ∨ pcmp b c < 0 → pcmp a c < 0) := lex_trans _ _ _
theorem pcmp_app (p a b : Bs) : pcmp (p ++ a) (p ++ b) = pcmp a b := by unfold pcmp; rw [rks_append, rks_append, lex_app]
theorem pcmp_front (p : Bs) {b : Bs} (h : b ≠ []) : pcmp p (p ++ b) = -1 := by
  unfold pcmp
  rw [rks_append]
  exact lex_front _ (by cases b with
    | nil => exact absurd rfl h
    | cons x b => exact fun h => by cases h)
theorem pcmp_between {p a b z : Bs} (h1 : pcmp (p ++ a) z ≤ 0) (h2 : pcmp z (p ++ b) ≤ 0) : ∃ q, z = p ++ q := by
  unfold pcmp at h1 h2
  rw [rks_append] at h1 h2
  obtain ⟨r, hr⟩ := lex_between _ h1 h2
  obtain ⟨q, hq, _⟩ := rks_front hr
  exact ⟨q, hq⟩
/-- A path that is less than another one, which is not within it: so is what is within it. -/
theorem pcmp_in (r : Bs) : ∀ {p q : Bs}, pcmp p q < 0 → (∀ t, q ≠ p ++ 47 :: t) → pcmp (p ++ 47 :: r) q < 0 := by
  intro p
  induction p with
  | nil =>
    intro q h1 h2
    cases q with
    | nil => have : pcmp [] [] = 0 := rfl; omega
    | cons y q =>
      have hy : y ≠ 47 := fun h => h2 q (by rw [h]; rfl)
      show lex (rkb 47 :: rks r) (rkb y :: rks q) < 0
      have e1 : rkb 47 = 1 := rfl
      have e2 : rkb y = y.toNat + 2 := by unfold rkb; rw [if_neg hy]
      rw [lex_cons, e1, e2, if_pos (by omega)]
      omega
  | cons x p ih =>
    intro q h1 h2
    cases q with
    | nil => have : pcmp (x :: p) [] = 1 := rfl; omega
    | cons y q =>
      have h1' : lex (rkb x :: rks p) (rkb y :: rks q) < 0 := h1
      show lex (rkb x :: rks (p ++ 47 :: r)) (rkb y :: rks q) < 0
      rw [lex_cons] at h1' ⊢
      by_cases c1 : rkb x < rkb y
      · rw [if_pos c1]; omega
      · rw [if_neg c1] at h1' ⊢
        by_cases c2 : rkb y < rkb x
        · rw [if_pos c2] at h1'; omega
        · rw [if_neg c2] at h1' ⊢
          have e : x = y := rkb_inj (by omega)
          subst e
          exact ih h1' (fun t ht => h2 t (by rw [ht]; rfl))
/-- The parts of a text. -/
def parts : Bs → List Bs
  | [] => [[]]
  | c :: l => if c = 47 then [] :: parts l else match parts l with
    | [] => [[c]]
    | p :: ps => (c :: p) :: ps
theorem parts_nil : parts [] = [[]] := rfl
theorem parts_slash (l : Bs) : parts (47 :: l) = [] :: parts l := rfl
theorem parts_ne (l : Bs) : ∃ p ps, parts l = p :: ps := by
  induction l with
  | nil => exact ⟨[], [], rfl⟩
  | cons c l ih =>
    obtain ⟨p, ps, h⟩ := ih
    unfold parts
    split
    · exact ⟨_, _, rfl⟩
    · rw [h]; exact ⟨_, _, rfl⟩
theorem parts_cons {c : UInt8} (hc : c ≠ 47) {l p : Bs} {ps : List Bs} (h : parts l = p :: ps) : parts (c :: l) = (c :: p) :: ps := by
  rw [parts, if_neg hc, h]
theorem parts_app (a b : Bs) : parts (a ++ 47 :: b) = parts a ++ parts b := by
  induction a with
  | nil => rfl
  | cons c a ih =>
    rw [List.cons_append]
    by_cases hc : c = 47
    · subst hc
      rw [parts_slash, parts_slash, ih]
      rfl
    · obtain ⟨p, ps, h⟩ := parts_ne a
      rw [parts_cons hc h]
      rw [h] at ih
      exact parts_cons hc ih
theorem parts_one {l : Bs} (h : 47 ∉ l) : parts l = [l] := by
  induction l with
  | nil => rfl
  | cons c l ih =>
    have hc : c ≠ 47 := fun e => h (by rw [e]; exact List.mem_cons_self)
    exact parts_cons hc (ih (fun hm => h (List.mem_cons_of_mem _ hm)))
theorem parts_no (l : Bs) : ∀ p ∈ parts l, 47 ∉ p := by
  induction l with
  | nil => intro p hp; rw [parts_nil, List.mem_singleton] at hp; rw [hp]; simp
  | cons c l ih =>
    intro p hp
    by_cases hc : c = 47
    · subst hc
      rw [parts_slash] at hp
      rcases List.mem_cons.1 hp with rfl | hp
      · simp
      · exact ih p hp
    · obtain ⟨q, qs, h⟩ := parts_ne l
      rw [parts_cons hc h] at hp
      rcases List.mem_cons.1 hp with rfl | hp
      · intro hm
        rcases List.mem_cons.1 hm with e | hm
        · exact hc e.symm
        · exact ih q (by rw [h]; exact List.mem_cons_self) hm
      · exact ih p (by rw [h]; exact List.mem_cons_of_mem _ hp)
/-- Parts as a text. -/
def glue : List Bs → Bs
  | [] => []
  | [p] => p
  | p :: q :: ps => p ++ 47 :: glue (q :: ps)
theorem glue_parts (l : Bs) : glue (parts l) = l := by
  induction l with
  | nil => rfl
  | cons c l ih =>
    obtain ⟨p, ps, h⟩ := parts_ne l
    by_cases hc : c = 47
    · subst hc
      rw [parts_slash, h]
      rw [h] at ih
      show [] ++ 47 :: glue (p :: ps) = _
      rw [ih]; rfl
    · rw [parts_cons hc h]
      rw [h] at ih
      cases ps with
      | nil =>
        have e : p = l := ih
        show c :: p = c :: l
        rw [e]
      | cons q ps =>
        have e : p ++ 47 :: glue (q :: ps) = l := ih
        show (c :: p) ++ 47 :: glue (q :: ps) = c :: l
        rw [← e]; rfl
theorem parts_inj {a b : Bs} (h : parts a = parts b) : a = b := by rw [← glue_parts a, ← glue_parts b, h]
theorem glue_app (a b : List Bs) (ha : a ≠ []) (hb : b ≠ []) : glue (a ++ b) = glue a ++ 47 :: glue b := by
  induction a with
  | nil => exact absurd rfl ha
  | cons p a ih =>
    cases a with
    | nil =>
      cases b with
      | nil => exact absurd rfl hb
      | cons q b => rfl
    | cons r a =>
      have := ih (by simp)
      show p ++ 47 :: glue (r :: a ++ b) = (p ++ 47 :: glue (r :: a)) ++ 47 :: glue b
      rw [this]
      simp
theorem parts_glue {ps : List Bs} (h : ps ≠ []) (hn : ∀ p ∈ ps, 47 ∉ p) : parts (glue ps) = ps := by
  induction ps with
  | nil => exact absurd rfl h
  | cons p ps ih =>
    cases ps with
    | nil => exact parts_one (hn p List.mem_cons_self)
    | cons q ps =>
      show parts (p ++ 47 :: glue (q :: ps)) = _
      rw [parts_app, parts_one (hn p List.mem_cons_self), ih (by simp) (fun r hr => hn r (List.mem_cons_of_mem _ hr))]
      rfl
/-- The last part, and what stands ahead of it. -/
theorem parts_last (l : Bs) : (47 ∉ l ∧ parts l = [l]) ∨ ∃ a b, l = a ++ 47 :: b ∧ 47 ∉ b ∧ parts l = parts a ++ [b] := by
  by_cases h : 47 ∈ l
  · right
    have gen : ∀ n (l : Bs), l.length = n → 47 ∈ l → ∃ a b, l = a ++ 47 :: b ∧ 47 ∉ b := by
      intro n
      induction n with
      | zero => intro l hl h; rw [List.eq_nil_of_length_eq_zero hl] at h; cases h
      | succ n ih =>
        intro l hl h
        cases l with
        | nil => cases h
        | cons c l =>
          by_cases h2 : 47 ∈ l
          · obtain ⟨a, b, rfl, hb⟩ := ih l (by simpa using hl) h2
            exact ⟨c :: a, b, rfl, hb⟩
          · rcases List.mem_cons.1 h with e | h
            · exact ⟨[], l, by rw [e]; rfl, h2⟩
            · exact absurd h h2
    obtain ⟨a, b, rfl, hb⟩ := gen _ l rfl h
    exact ⟨a, b, rfl, hb, by rw [parts_app, parts_one hb]⟩
  · exact .inl ⟨h, parts_one h⟩
def nats (l : Bs) : List Nat := l.map UInt8.toNat
/-- Which text is less, by bytes. -/
def bcmp (a b : Bs) : Int := lex (nats a) (nats b)
def cmpP : List Bs → List Bs → Int
  | [], [] => 0
  | [], _ :: _ => -1
  | _ :: _, [] => 1
  | p :: ps, q :: qs => if bcmp p q < 0 then -1 else if bcmp p q > 0 then 1 else cmpP ps qs
theorem bcmp_cons (x y : UInt8) (a b : Bs) : bcmp (x :: a) (y :: b) = if x.toNat < y.toNat then -1 else if y.toNat < x.toNat then 1 else bcmp a b := rfl
theorem cmp_parts : ∀ (a b : Bs), cmpP (parts a) (parts b) = pcmp a b := by
  intro a
  induction a with
  | nil =>
    intro b
    cases b with
    | nil => rfl
    | cons y b =>
      have e : pcmp [] (y :: b) = -1 := rfl
      rw [e, parts_nil]
      obtain ⟨q, qs, h⟩ := parts_ne b
      by_cases hy : y = 47
      · subst hy
        rw [parts_slash, h]
        show (if bcmp [] [] < 0 then (-1 : Int) else if bcmp [] [] > 0 then 1 else -1) = -1
        rfl
      · rw [parts_cons hy h]; rfl
  | cons x a ih =>
    intro b
    obtain ⟨p, ps, hp⟩ := parts_ne a
    cases b with
    | nil =>
      have e : pcmp (x :: a) [] = 1 := rfl
      rw [e, parts_nil]
      by_cases hx : x = 47
      · subst hx; rw [parts_slash, hp]; rfl
      · rw [parts_cons hx hp]; rfl
    | cons y b =>
      obtain ⟨q, qs, hq⟩ := parts_ne b
      have hi := ih b
      have e : pcmp (x :: a) (y :: b) = if rkb x < rkb y then -1 else if rkb y < rkb x then 1 else pcmp a b := rfl
      rw [e]
      by_cases hx : x = 47
      · subst hx
        have e1 : rkb 47 = 1 := rfl
        by_cases hy : y = 47
        · subst hy
          rw [parts_slash, parts_slash, if_neg (by omega), if_neg (by omega), ← hi]
          rfl
        · have e2 : rkb y = y.toNat + 2 := by unfold rkb; rw [if_neg hy]
          rw [parts_slash, parts_cons hy hq, e1, e2, if_pos (by omega)]
          rfl
      · have e1 : rkb x = x.toNat + 2 := by unfold rkb; rw [if_neg hx]
        by_cases hy : y = 47
        · subst hy
          have e2 : rkb 47 = 1 := rfl
          rw [parts_slash, parts_cons hx hp, e1, e2, if_neg (by omega), if_pos (by omega)]
          rfl
        · have e2 : rkb y = y.toNat + 2 := by unfold rkb; rw [if_neg hy]
          rw [parts_cons hx hp, parts_cons hy hq, e1, e2]
          show (if bcmp (x :: p) (y :: q) < 0 then (-1 : Int) else if bcmp (x :: p) (y :: q) > 0 then 1 else cmpP ps qs) = _
          rw [bcmp_cons]
          by_cases c1 : x.toNat < y.toNat
          · rw [if_pos c1, if_pos (by omega), if_pos (by omega)]
          · by_cases c2 : y.toNat < x.toNat
            · rw [if_neg c1, if_pos c2, if_neg (by omega), if_pos (by omega), if_neg (by omega), if_pos (by omega)]
            · rw [if_neg c1, if_neg c2, if_neg (show ¬ x.toNat + 2 < y.toNat + 2 by omega), if_neg (show ¬ y.toNat + 2 < x.toNat + 2 by omega), ← hi, hp, hq]
              rfl
/-- What is within a dir begins with it, and what parts. -/
theorem within_iff : ∀ (d p : Bs), (parts d <+: parts p ∧ (parts d).length < (parts p).length) ↔ ∃ r, p = d ++ 47 :: r := by
  intro d
  induction d with
  | nil =>
    intro p
    rw [parts_nil]
    cases p with
    | nil => rw [parts_nil]; simp
    | cons y p =>
      obtain ⟨q, qs, hq⟩ := parts_ne p
      by_cases hy : y = 47
      · subst hy
        rw [parts_slash, hq]
        exact ⟨fun _ => ⟨p, rfl⟩, fun _ => ⟨⟨q :: qs, rfl⟩, by simp⟩⟩
      · rw [parts_cons hy hq]
        refine ⟨fun ⟨h, _⟩ => ?_, fun ⟨r, h⟩ => ?_⟩
        · obtain ⟨t, h⟩ := h
          injection h with h1 _
          cases h1
        · injection h with h1 _
          exact absurd h1 hy
  | cons x d ih =>
    intro p
    obtain ⟨e, es, he⟩ := parts_ne d
    cases p with
    | nil =>
      rw [parts_nil]
      refine ⟨fun ⟨_, h⟩ => ?_, fun ⟨r, h⟩ => by cases h⟩
      by_cases hx : x = 47
      · subst hx; rw [parts_slash, he] at h; simp at h
      · rw [parts_cons hx he] at h; simp at h
    | cons y p =>
      obtain ⟨q, qs, hq⟩ := parts_ne p
      have hi := ih p
      have hr : (∃ r, y :: p = x :: d ++ 47 :: r) ↔ x = y ∧ ∃ r, p = d ++ 47 :: r := by
        constructor
        · rintro ⟨r, h⟩
          injection h with h1 h2
          exact ⟨h1.symm, r, h2⟩
        · rintro ⟨h1, r, h2⟩
          exact ⟨r, by rw [h1, h2]; rfl⟩
      rw [hr, ← hi]
      by_cases hx : x = 47
      · subst hx
        by_cases hy : y = 47
        · subst hy
          rw [parts_slash, parts_slash, List.cons_prefix_cons, List.length_cons, List.length_cons]
          exact ⟨fun ⟨h1, h2⟩ => ⟨rfl, h1.2, by omega⟩, fun ⟨_, h1, h2⟩ => ⟨⟨rfl, h1⟩, by omega⟩⟩
        · rw [parts_slash, parts_cons hy hq, List.cons_prefix_cons]
          exact ⟨fun ⟨h1, _⟩ => (by cases h1.1), fun ⟨h1, _⟩ => absurd h1.symm hy⟩
      · rw [parts_cons hx he]
        by_cases hy : y = 47
        · subst hy
          rw [parts_slash, List.cons_prefix_cons]
          exact ⟨fun ⟨h1, _⟩ => (by cases h1.1), fun ⟨h1, _⟩ => absurd h1 hx⟩
        · rw [parts_cons hy hq, he, hq, List.cons_prefix_cons, List.cons_prefix_cons, List.cons.injEq, List.length_cons, List.length_cons, List.length_cons, List.length_cons]
          exact ⟨fun ⟨h1, h2⟩ => ⟨h1.1.1, ⟨h1.1.2, h1.2⟩, h2⟩, fun ⟨h0, h1, h2⟩ => ⟨⟨⟨h0, h1.1⟩, h1.2⟩, h2⟩⟩
end
open Go Go.RowKit Go.Proofs.Ytcgnkbdfoaiaiaa.P Go.Proofs.YtcgnkbdfoaiaiaaW.PrintWords Go.Proofs.YtcgnkbdfoaiaiaaW.PrintLast Go.Proofs.YtcgnkbdfoaiaiaaW.PrintMore
theorem evpos {α : Type} {c : Prop} [Decidable c] {f g : Nat → Option α} {r : α} (hc : c) (h : Ev f r) : Ev (fun k => if c then f k else g k) r := by simp only [if_pos hc]; exact h
theorem evneg {α : Type} {c : Prop} [Decidable c] {f g : Nat → Option α} {r : α} (hc : ¬ c) (h : Ev g r) : Ev (fun k => if c then f k else g k) r := by simp only [if_neg hc]; exact h
theorem evval {α β : Type} {x : Option β} {a : β} {f : Nat → β → Option α} {r : α} (hx : x = some a) (h : Ev (fun k => f k a) r) : Ev (fun k => x.bind (f k)) r := by subst hx; exact h
theorem w64 {x : Int} (h0 : -9223372036854775808 ≤ x) (h1 : x ≤ 9223372036854775807) : wrap64 x = x := by unfold wrap64; omega
theorem wi {i : Nat} (h : i ≤ 1000000000000) : wrap64 ((i : Int) + 1) = ((i + 1 : Nat) : Int) := by rw [w64 (by omega) (by omega)]; omega
/-- A text's bytes. -/
def tl (s : ByteArray) : Bs := s.data.toList
def ofB (l : Bs) : ByteArray := ⟨l.toArray⟩
theorem tl_ofB (l : Bs) : tl (ofB l) = l := rfl
theorem tl_inj {a b : ByteArray} (h : tl a = tl b) : a = b := by
  cases a; cases b
  exact congrArg ByteArray.mk (Array.toList_inj.1 h)
theorem ofB_tl (s : ByteArray) : ofB (tl s) = s := tl_inj rfl
theorem ofB_eq {s : ByteArray} {l : Bs} (h : tl s = l) : s = ofB l := tl_inj h
theorem tl_size (s : ByteArray) : (tl s).length = s.size := (Lib.size_eq s).symm
theorem tl_append (a b : ByteArray) : tl (a ++ b) = tl a ++ tl b := by
  show (a ++ b).data.toList = _
  rw [ByteArray.data_append, Array.toList_append]
  rfl
theorem toList_tl (s : ByteArray) : s.toList = tl s := ByteArray.toList_eq s
theorem toList_eq_iff {a b : ByteArray} : a.toList = b.toList ↔ a = b := ⟨fun h => tl_inj (by rw [← toList_tl, ← toList_tl, h]), fun h => by rw [h]⟩
theorem tl_take (s : ByteArray) (a : Nat) : tl (s.extract 0 a) = (tl s).take a := Lib.extract_from_zero s a
theorem tl_drop (s : ByteArray) (a : Nat) : tl (s.extract a s.size) = (tl s).drop a := Lib.extract_to_end s a
theorem tl_cut (s : ByteArray) (a b : Nat) : tl (s.extract a b) = ((tl s).drop a).take (b - a) := Lib.extract_data s a b
theorem size_append (a b : ByteArray) : (a ++ b).size = a.size + b.size := by rw [← tl_size, ← tl_size, ← tl_size, tl_append, List.length_append]
theorem drop_cons {α : Type} {s : List α} {i : Nat} {x : α} {t : List α} (h : s.drop i = x :: t) : i < s.length ∧ s[i]? = some x ∧ s.drop (i + 1) = t := by
  have h1 : i < s.length := by
    rcases Nat.lt_or_ge i s.length with h1 | h1
    · exact h1
    · rw [List.drop_eq_nil_of_le h1] at h; cases h
  rw [List.drop_eq_getElem_cons h1] at h
  injection h with h2 h3
  exact ⟨h1, by rw [List.getElem?_eq_getElem h1, h2], h3⟩
theorem drop_nil {α : Type} {s : List α} {i : Nat} (h : s.drop i = []) : s.length ≤ i := List.drop_eq_nil_iff.1 h
theorem rdB {s : List ByteArray} {i : Nat} {x : ByteArray} (h : s[i]? = some x) : rdOf ByteArray.empty s (i : Int) = x := by
  unfold rdOf
  rw [Int.toNat_natCast, List.getD_eq_getElem?_getD, h]; rfl
theorem rdI {s : List Int} {i : Nat} {x : Int} (h : s[i]? = some x) : rd s (i : Int) = x := by
  unfold rd
  rw [Int.toNat_natCast, List.getD_eq_getElem?_getD, h]; rfl
theorem bt_tl {s : ByteArray} {i : Nat} {c : UInt8} (h : (tl s)[i]? = some c) : bt s (i : Int) = (c.toNat : Int) := by
  obtain ⟨h1, h2⟩ := List.getElem?_eq_some_iff.1 h
  have h3 : i < s.size := by rw [← tl_size]; exact h1
  unfold bt
  rw [dif_pos (by rw [Int.toNat_natCast]; exact h3)]
  have : s[(i : Int).toNat]'(by rw [Int.toNat_natCast]; exact h3) = c := by
    rw [← h2]
    rfl
  rw [this]
/-- The parts of a text, as texts. -/
def pieces (s : ByteArray) : List ByteArray := (parts (tl s)).map ofB
theorem map_tl_inj : ∀ {a b : List ByteArray}, a.map tl = b.map tl → a = b := by
  intro a
  induction a with
  | nil => intro b h; cases b with
    | nil => rfl
    | cons y b => cases h
  | cons x a ih =>
    intro b h
    cases b with
    | nil => cases h
    | cons y b =>
      injection h with h1 h2
      rw [tl_inj h1, ih h2]
theorem pieces_tl (s : ByteArray) : (pieces s).map tl = parts (tl s) := by
  unfold pieces
  rw [List.map_map]
  exact List.map_id _
/-- May a part not be. -/
def oddb (l : Bs) : Bool := decide (l = [] ∨ l = [46] ∨ l = [46, 46] ∨ l.length > 64 ∨ (0 : UInt8) ∈ l)
/-- What is wrong with a path of such parts. -/
def chk (ps : List Bs) : Int := if ps.any oddb then 2 else if ps.length > 16 then 3 else 0
theorem parts_length (l : Bs) : (parts l).length ≤ l.length + 1 := by
  induction l with
  | nil => exact Nat.le_refl _
  | cons c l ih =>
    by_cases hc : c = 47
    · subst hc; rw [parts_slash]; simp only [List.length_cons]; omega
    · obtain ⟨p, ps, h⟩ := parts_ne l
      rw [parts_cons hc h]
      rw [h] at ih
      simp only [List.length_cons] at ih ⊢; omega
theorem pieces_length (s : ByteArray) : (pieces s).length ≤ s.size + 1 := by
  unfold pieces
  rw [List.length_map]
  have := parts_length (tl s)
  rw [tl_size] at this
  exact this
/-- What stands ahead of the last part, and that. -/
def dirB (l : Bs) : Bs := if chk (parts l) = 0 then glue (parts l).dropLast else []
def baseB (l : Bs) : Bs := if chk (parts l) = 0 then (parts l).getLastD [] else []
theorem glue_parts_dir (l : Bs) : (47 ∉ l ∧ glue (parts l).dropLast = [] ∧ (parts l).getLastD [] = l) ∨ ∃ a b, l = a ++ 47 :: b ∧ 47 ∉ b ∧ glue (parts l).dropLast = a ∧ (parts l).getLastD [] = b := by
  rcases parts_last l with ⟨h1, h2⟩ | ⟨a, b, h1, h2, h3⟩
  · exact .inl ⟨h1, by rw [h2]; rfl, by rw [h2]; rfl⟩
  · refine .inr ⟨a, b, h1, h2, ?_, ?_⟩
    · rw [h3, List.dropLast_concat, glue_parts]
    · rw [h3, List.getLastD_concat]
theorem rank_at {s : ByteArray} {i : Nat} {c : UInt8} (h : (tl s)[i]? = some c) : paths_rank.f s (i : Int) = some (rkb c : Int) := by
  have h1 : i < s.size := by rw [← tl_size]; exact (List.getElem?_eq_some_iff.1 h).1
  have h47 : bt (⟨#[47]⟩ : ByteArray) 0 = 47 := rfl
  have hc := c.toNat_lt
  unfold paths_rank.f rkb
  rw [if_neg (by omega), if_pos (by omega), if_pos (by omega), if_pos (by omega), bt_tl h, h47]
  by_cases e : c = 47
  · rw [if_pos (by rw [e]; rfl), if_pos e]; rfl
  · rw [if_neg (fun hh => e (UInt8.toNat_inj.1 (by have : ((47 : UInt8).toNat : Int) = 47 := rfl; omega))), if_neg e, w64 (x := (c.toNat : Int)) (by omega) (by omega), w64 (by omega) (by omega)]
    congr 1
    omega
theorem rank_end {s : ByteArray} {i : Nat} (h : s.size ≤ i) : paths_rank.f s (i : Int) = some 0 := by
  unfold paths_rank.f
  rw [if_pos (by omega)]
theorem rkb_pos (c : UInt8) : 1 ≤ rkb c := by unfold rkb; split <;> omega
/-- Is one within another one. -/
def withinB (d p : Bs) : Bool := if d = [] then p != [] else (d ++ [47]).isPrefixOf p
theorem within_true {d p : Bs} (hd : d ≠ []) : withinB d p = true ↔ ∃ r, p = d ++ 47 :: r := by
  unfold withinB
  rw [if_neg hd, List.isPrefixOf_iff_prefix]
  constructor
  · rintro ⟨r, rfl⟩; exact ⟨r, by simp⟩
  · rintro ⟨r, rfl⟩; exact ⟨r, by simp⟩
theorem within_nil (p : Bs) : withinB [] p = (p != []) := rfl
/-- A path of two. -/
def joinB (d n : Bs) : Bs := if d = [] then n else d ++ 47 :: n
theorem rjoin_ok {d n : ByteArray} (hd : d.size ≤ 4000000) (hn : n.size ≤ 4000000) : collatorref01_Join.f d n = some (ofB (joinB (tl d) (tl n))) := by
  unfold collatorref01_Join.f joinB
  rw [toList_tl]
  by_cases h : tl d = []
  · rw [if_pos h, if_pos h, ofB_tl]
  · have hs := size_append d (⟨#[47]⟩ : ByteArray)
    have h1 : (⟨#[47]⟩ : ByteArray).size = 1 := rfl
    rw [if_neg h, if_neg h, if_pos (by omega), if_pos (by omega)]
    refine congrArg some (ofB_eq ?_)
    rw [tl_append, tl_append]
    show tl d ++ [47] ++ tl n = _
    simp
theorem joinB_size (d n : Bs) : (joinB d n).length ≤ d.length + n.length + 1 := by
  unfold joinB
  split
  · omega
  · simp only [List.length_append, List.length_cons]; omega
theorem ofB_size (l : Bs) : (ofB l).size = l.length := by rw [← tl_size]; rfl
theorem mn_take (a : ByteArray) (n : Nat) : 0 ≤ mn (a.size : Int) (n : Int) ∧ mn (a.size : Int) (n : Int) ≤ (a.size : Int) ∧ (a.extract 0 ((mn (a.size : Int) (n : Int)) : Int).toNat).size ≤ n := by
  have e : mn (a.size : Int) (n : Int) = ((min a.size n : Nat) : Int) := by unfold mn; split <;> omega
  have h : (a.extract 0 (((min a.size n : Nat) : Int)).toNat).size ≤ n := by
    rw [← tl_size, tl_take, List.length_take, Int.toNat_natCast]
    omega
  rw [e]
  exact ⟨by omega, by omega, h⟩
/-- Which of n things a raw number speaks of. -/
def pk (c : Int) (n : Nat) : Nat := (if c < 0 then -(c + 1) else c).toNat % n
theorem pk_lt (c : Int) {n : Nat} (h : 0 < n) : pk c n < n := Nat.mod_lt _ h
theorem wf_range {c : Int} (h : (Lit.int .i64 c).wf = true) : -9223372036854775808 ≤ c ∧ c ≤ 9223372036854775807 := by
  have h2 := (bounds_i64 h)
  omega
theorem pick1 {c : Int} (hc : -9223372036854775808 ≤ c ∧ c ≤ 9223372036854775807) {m : Int} {n : Nat} (hm : m = n) (hn : 0 < n) : collatorlaw01_pick.f c m = some (pk c n : Int) := by
  subst hm
  have h0 : ¬ ((n : Int) = 0) := by omega
  unfold pk collatorlaw01_pick.f
  by_cases h : c < 0
  · rw [if_pos h, if_neg h0, if_pos h, w64 (x := c + 1) (by omega) (by omega), w64 (by omega) (by omega), Int.tmod_eq_emod_of_nonneg (by omega)]
    congr 1
    rw [Int.natCast_emod, Int.toNat_of_nonneg (by omega)]
  · rw [if_neg h, if_neg h0, if_neg h, Int.tmod_eq_emod_of_nonneg (by omega)]
    congr 1
    rw [Int.natCast_emod, Int.toNat_of_nonneg (by omega)]
theorem rd_mem {l : List Int} (hw : ∀ x ∈ l, (Lit.int .i64 x).wf = true) {i : Int} (h0 : 0 ≤ i) (h1 : i < l.length) : -9223372036854775808 ≤ rd l i ∧ rd l i ≤ 9223372036854775807 := by
  refine wf_range (hw _ ?_)
  unfold rd
  rw [List.getD_eq_getElem?_getD, List.getElem?_eq_getElem (by omega)]
  exact List.getElem_mem _
def names : List ByteArray := [(⟨#[97]⟩ : ByteArray), (⟨#[98]⟩ : ByteArray), (⟨#[97, 98]⟩ : ByteArray), (⟨#[97, 33]⟩ : ByteArray), (⟨#[97, 46, 98]⟩ : ByteArray), (⟨#[46, 46, 46]⟩ : ByteArray), (⟨#[90]⟩ : ByteArray), (⟨#[255]⟩ : ByteArray)]
/-- A name that may be. -/
def Name (q : Bs) : Prop := q ≠ [] ∧ (47 : UInt8) ∉ q ∧ oddb q = false ∧ q.length ≤ 3
theorem names_ok : ∀ s ∈ names, Name (tl s) := by unfold Name; decide
theorem name_a : Name [97] := by unfold Name; decide
/-- A path of few parts. -/
structure Good (ps : List Bs) (most : Nat) : Prop where
  ne : ps ≠ []
  le : ps.length ≤ most
  all : ∀ q ∈ ps, Name q
theorem Good.mono {ps : List Bs} {m n : Nat} (h : Good ps m) (hmn : m ≤ n) : Good ps n := ⟨h.ne, Nat.le_trans h.le hmn, h.all⟩
theorem Good.no {ps : List Bs} {m : Nat} (h : Good ps m) : ∀ q ∈ ps, (47 : UInt8) ∉ q := fun q hq => (h.all q hq).2.1
theorem Good.chk {ps : List Bs} {m : Nat} (h : Good ps m) (hm : m ≤ 16) : chk ps = 0 := by
  have := h.le
  unfold Q.chk
  rw [if_neg, if_neg (by omega)]
  rw [Bool.not_eq_true, List.any_eq_false]
  intro q hq
  rw [(h.all q hq).2.2.1]
  decide
theorem glue_ne {ps : List Bs} (h : ps ≠ []) (hn : ∀ q ∈ ps, q ≠ []) : glue ps ≠ [] := by
  cases ps with
  | nil => exact absurd rfl h
  | cons p ps =>
    cases ps with
    | nil => exact hn p List.mem_cons_self
    | cons q ps => intro e; have := congrArg List.length e; simp [glue] at this
theorem Good.glue {ps : List Bs} {m : Nat} (h : Good ps m) : parts (glue ps) = ps ∧ glue ps ≠ [] :=
  ⟨parts_glue h.ne h.no, glue_ne h.ne (fun q hq => (h.all q hq).1)⟩
theorem glue_snoc {ps : List Bs} (h : ps ≠ []) (q : Bs) : glue (ps ++ [q]) = glue ps ++ 47 :: q := by
  have := glue_app ps [q] h (by simp)
  exact this
theorem path_loop (l : List Int) (hw : ∀ x ∈ l, (Lit.int .i64 x).wf = true) (hl : l.length ≤ 9223372036854775807) (d : Nat) :
    ∀ (i : Nat) (out : ByteArray) (ps : List Bs), i + d = 8 → tl out = glue ps → ps.length = i → (∀ q ∈ ps, Name q) → out.size ≤ 4 * i →
    ∃ P, Ev (fun k => collatorlaw01_Path.l0 k l names out (i : Int)) P ∧ Good (parts (tl P)) 8 ∧ P.size ≤ 40 := by
  have stop : ∀ (i : Nat) (out : ByteArray) (ps : List Bs), i ≤ 8 → tl out = glue ps → ps.length = i → (∀ q ∈ ps, Name q) → out.size ≤ 4 * i → ∃ P, Ev (fun k => collatorlaw01_Path.j1 k l names out (i : Int) false) P ∧ Good (parts (tl P)) 8 ∧ P.size ≤ 40 := by
    intro i out ps hi ht hp hn hs
    by_cases c : ps = []
    · refine ⟨⟨#[97]⟩, Ev.step (f := fun _ => some (⟨#[97]⟩ : ByteArray)) (fun k => ?_) (Ev.now _), ?_, by decide⟩
      · simp only [collatorlaw01_Path.j1]
        rw [if_neg (by decide), toList_tl, ht, c, if_pos (show glue [] = ([] : Bs) from rfl)]
      · exact ⟨by decide, by decide, fun q hq => by
          have : q ∈ [([97] : Bs)] := hq
          rw [List.mem_singleton.1 this]; exact name_a⟩
    · have hg : Good ps 8 := ⟨c, by omega, hn⟩
      refine ⟨out, Ev.step (f := fun _ => some out) (fun k => ?_) (Ev.now _), by rw [ht, hg.glue.1]; exact hg, by omega⟩
      simp only [collatorlaw01_Path.j1]
      rw [if_neg (by decide), toList_tl, ht, if_neg hg.glue.2]
  induction d with
  | zero =>
    intro i out ps hi ht hp hn hs
    obtain ⟨P, hP, hR⟩ := stop i out ps (by omega) ht hp hn hs
    refine ⟨P, Ev.step (fun k => ?_) hP, hR⟩
    simp only [collatorlaw01_Path.l0]
    rw [decide_eq_false (by omega : ¬ (i : Int) < 8)]
    split <;> rfl
  | succ d ih =>
    intro i out ps hi ht hp hn hs
    by_cases c : (i : Int) < (l.length : Int)
    · have h8 := pk_lt (rd l i) (n := 8) (by omega)
      have hx : names[pk (rd l i) 8]? = some (names[pk (rd l i) 8]'h8) := List.getElem?_eq_getElem _
      have p8 := pick1 (c := rd l i) (rd_mem hw (by omega) c) (m := 8) (n := 8) rfl (by omega)
      generalize hnm : names[pk (rd l i) 8]'h8 = nm at hx
      have hname := names_ok nm (by rw [← hnm]; exact List.getElem_mem _)
      have hsz : nm.size ≤ 3 := by have := hname.2.2.2; rw [tl_size] at this; exact this
      generalize pk (rd l i) 8 = j at *
      have hj := rjoin_ok (d := out) (n := nm) (by omega) (by omega)
      have hjs := joinB_size (tl out) (tl nm)
      rw [tl_size, tl_size] at hjs
      obtain ⟨P, hP, hR⟩ := ih (i + 1) (ofB (joinB (tl out) (tl nm))) (ps ++ [tl nm]) (by omega) (by
        rw [tl_ofB, ht]
        by_cases c0 : ps = []
        · rw [c0]; rfl
        · rw [glue_snoc c0]
          unfold joinB
          rw [if_neg (glue_ne c0 (fun q hq => (hn q hq).1))]) (by rw [List.length_append, hp]; rfl) (fun q hq => by
        rcases List.mem_append.1 hq with hq | hq
        · exact hn q hq
        · rw [List.mem_singleton.1 hq]; exact hname) (by rw [ofB_size]; omega)
      refine ⟨P, Ev.step (f := fun k => collatorlaw01_Path.j1 k l names out (i : Int) true) (fun k => ?_) (Ev.step (fun k => ?_) hP), hR⟩
      · simp only [collatorlaw01_Path.l0]
        rw [if_pos c, decide_eq_true (by omega : (i : Int) < 8)]
      · simp only [collatorlaw01_Path.j1]
        rw [if_true, if_pos (by omega), if_pos c, p8, Option.bind_some, if_pos (by omega), if_pos (by show (j : Int) < ((8 : Nat) : Int); omega), rdB hx, hj, Option.bind_some, wi (by omega)]
    · obtain ⟨P, hP, hR⟩ := stop i out ps (by omega) ht hp hn hs
      refine ⟨P, Ev.step (fun k => ?_) hP, hR⟩
      simp only [collatorlaw01_Path.l0]
      rw [if_neg c]
theorem path_ev (l : List Int) (hw : ∀ x ∈ l, (Lit.int .i64 x).wf = true) (hl : l.length ≤ 9223372036854775807) : ∃ P, Ev (fun k => collatorlaw01_Path.f k l) P ∧ Good (parts (tl P)) 8 ∧ P.size ≤ 40 :=
  path_loop l hw hl 8 0 (⟨#[]⟩ : ByteArray) [] rfl rfl rfl (by simp) (by decide)
end Go.Proofs.Ytcgnkbdfoaiaiaa.Q
end
section
/- Words of this session: min and max of two whole numbers, in the walk under one name. -/
set_option linter.unusedVariables false
namespace Go.Proofs.Ytcgnkbdfoaiaiaa.HMin
open Go Go.Proofs.YtcgnkbdfoaiaiaaW.PrintWords Go.Proofs.YtcgnkbdfoaiaiaaW.PrintMore
theorem min2_mn (k k' : IntKind) (x y : Int) : Builtin.min2 (.int k x) (.int k' y) = pure (.int k (mn x y)) := min2_int k k' x y
theorem max2_mx (k k' : IntKind) (x y : Int) : Builtin.max2 (.int k x) (.int k' y) = pure (.int k (mx x y)) := max2_int k k' x y
end Go.Proofs.Ytcgnkbdfoaiaiaa.HMin
end
section
/- A region that draws its order, inside a round too: reads are taken first, by a condition S on the world that stands till the operations from z on have come up. -/
set_option linter.unusedVariables false
namespace Go.Proofs.Ytcgnkbdfoaiaiaa.Held
open Go Go.RowKit
/-- No defer statement among them. -/
def noDefer (ops : Array Oper) : Bool := ops.all fun o => match o.op with
  | .defer _ => false
  | _ => true
/-- Whoever stands from z on waits for i. -/
def tied (md : Region.Mode) (ops : Array Oper) (z i : Nat) : Bool := (List.range ops.size).all fun j => decide (j < z) || (match ops[j]? with
  | some o => o.after.any fun e => Region.binds md e && e.on == i
  | none => true)
section
variable {F : Fence} {n : Nat} {P : Program} {ops : Array Oper} {Q : Exit → Act → World → Prop} {md : Region.Mode} {S : World → Prop} {z : Nat}
theorem noDefer_spec (h : noDefer ops = true) {j : Nat} {o : Oper} (ho : ops[j]? = some o) : ∀ c, o.op ≠ .defer c := by
  intro c hc
  have := Array.all_eq_true_iff_forall_mem.1 h o (Array.mem_of_getElem? ho)
  simp [hc] at this
/-- In every world that meets S the operation leaves v, and nothing else; or its guard lets it out. -/
def Gives (P : Program) (ops : Array Oper) (S : World → Prop) (o : Oper) (v : Value) (a : Act) : Prop :=
  (Region.wanted o (yielded ops a.tmps) = true ∧ ∀ w, S w → (execOp a.eval o).run P w = .ok (.value v) w ∧ o.about P w a.eval = none) ∨
  (Region.wanted o (yielded ops a.tmps) = false ∧ v = undef ∧ ∀ w, o.about P w a.eval = none)
theorem Gives.op {i : Nat} {o : Oper} {v : Value} {a : Act} (hn : noDefer ops = true) (hi : ops[i]? = some o) (hy : Gives P ops S o v a) {K : Act → World → Prop} {w : World} (hS : S w) (h : K (a.put o.dst v) w) : wpOpIn F n P ops Q i K a w := by
  unfold wpOpIn
  rcases hy with hy | ⟨hw, rfl, hb⟩
  · simp only [hi, hy.1, if_true, Oper.wpIn]
    refine ⟨fun f hf => ?_, ?_⟩
    · rw [(hy.2 w hS).2] at hf; cases hf
    · rw [Oper.semAt_eq _ _ _ (noDefer_spec hn hi), (hy.2 w hS).1]; exact h
  · simp only [hi, hw, Bool.false_eq_true, if_false]
    exact ⟨fun f hf => (by rw [hb w] at hf; cases hf), h⟩
theorem Gives.same {o : Oper} {v : Value} {a a' : Act} (hy : Gives P ops S o v a) (he : execOp a'.eval o = execOp a.eval o)
    (hw : Region.wanted o (yielded ops a'.tmps) = Region.wanted o (yielded ops a.tmps)) (hb : ∀ w, o.about P w a'.eval = o.about P w a.eval) : Gives P ops S o v a' :=
  hy.imp (fun hy => ⟨hw.trans hy.1, fun w hS => by rw [he, hb w]; exact hy.2 w hS⟩) (fun ⟨h1, h2, h3⟩ => ⟨hw.trans h1, h2, fun w => by rw [hb w]; exact h3 w⟩)
/-- What comes up in between does not mind whether the reading has come up. -/
theorem Gives.past {j : Nat} {oi oj : Oper} {v : Value} (hn : noDefer ops = true) (hj : ops[j]? = some oj) (hap : oi.apart ops oj = true)
    (hsi : ∀ cs b, oi.op ≠ .select cs b) (hsj : ∀ cs b, oj.op ≠ .select cs b)
    (hQ : ∀ c a w, Q (.panic c) (a.put oi.dst v) w → Q (.panic c) a w) {K : Act → World → Prop} {a : Act} {w : World}
    (hy : Gives P ops S oi v a) (h : wpOpIn F n P ops Q j K (a.put oi.dst v) w) : wpOpIn F n P ops Q j (fun a' w' => Gives P ops S oi v a' ∧ K (a'.put oi.dst v) w') a w := by
  obtain ⟨h1, h2, h3⟩ := Oper.apart_spec hap
  have keep : ∀ (a : Act), Gives P ops S oi v a → ∀ u, Gives P ops S oi v (a.put oj.dst u) := fun a hy u =>
    hy.same (execOp_put oi hsi a oj.dst u h3) (wanted_put oi a oj.dst u h3) (fun w => about_put oi w a oj.dst u h3)
  have nd := noDefer_spec hn hj
  unfold wpOpIn at *
  simp only [hj] at *
  rw [wanted_put oj a oi.dst v h1, about_put oj w a oi.dst v h1] at h
  split
  · rename_i hw
    simp only [hw, if_true] at h
    unfold Oper.wpIn at *
    rw [about_put oj w a oi.dst v h1, Oper.semAt_eq _ _ _ nd, execOp_put oj hsj a oi.dst v h1] at h
    rw [Oper.semAt_eq _ _ _ nd]
    refine ⟨h.1, ?_⟩
    replace h := h.2
    generalize (execOp a.eval oj).run P w = r at *
    cases r with
    | ok x w' =>
      cases x <;> simp only [Oper.uponIn] at h ⊢
      case value u => exact ⟨keep a hy u, by rw [← Act.put_comm a v u h2]; exact h⟩
      case skip => exact ⟨keep a hy _, by rw [← Act.put_comm a v undef h2]; exact h⟩
      case defer d =>
        refine ⟨keep { a with defers := d :: a.defers } (hy.same rfl rfl (fun _ => rfl)) _, ?_⟩
        rw [← Act.put_comm _ v undef h2, ← Act.put_defers]
        exact h
      case enter f args =>
        refine ⟨h.1, CallsIn.mono h.2 fun e w'' he => ?_⟩
        cases e with
        | returned u => exact ⟨keep a hy u, by rw [← Act.put_comm a v u h2]; exact he⟩
        | panicked c => exact hQ _ _ _ he
        | outgrown => exact he
      case row row args => exact ⟨h.1, RowsIn.mono h.2 fun u w'' he => ⟨keep a hy u, by rw [← Act.put_comm a v u h2]; exact he⟩⟩
      case round l f tmps assign body =>
        refine ⟨h.1, RoundIn.mono h.2 fun e w'' he => ?_⟩
        cases e with
        | returned u => exact ⟨keep a hy u, by rw [← Act.put_comm a v u h2]; exact he⟩
        | panicked c => exact hQ _ _ _ he
        | outgrown => exact he
    | halt x w' =>
      cases x <;> simp only [Oper.uponIn] at h ⊢
      case panic u => exact hQ _ _ _ h
  · rename_i hw
    simp only [hw] at h
    exact ⟨h.1, keep a hy _, by rw [← Act.put_comm a v undef h2]; exact h.2⟩
/-- Whatever order comes, and S stands behind each operation ahead of z. -/
def AnyS (F : Fence) (n : Nat) (P : Program) (md : Region.Mode) (ops : Array Oper) (Q : Exit → Act → World → Prop) (S : World → Prop) (z : Nat) : Nat → Array Bool → Act → World → Prop
  | 0, l, a, w => Region.ready md ops l = [] ∧ Q .normal a w
  | f + 1, l, a, w => (Region.ready md ops l = [] → Q .normal a w) ∧ ∀ i ∈ Region.ready md ops l, wpOpIn F n P ops Q i (fun a' w' => (i < z → S w') ∧ AnyS F n P md ops Q S z f (l.setIfInBounds i true) a' w') a w
theorem AnyS.any : ∀ (f : Nat) (l : Array Bool) (a : Act) (w : World), AnyS F n P md ops Q S z f l a w → wpAnyIn F n P md ops Q f l a w
  | 0, _, _, _, h => h
  | f + 1, _, _, _, h => ⟨h.1, fun i hi => wpOpIn_mono (fun a' w' h' => AnyS.any f _ a' w' h'.2) (h.2 i hi)⟩
theorem AnyS.first {i : Nat} {oi : Oper} {v : Value} (hn : noDefer ops = true) (hi : ops[i]? = some oi) (hiz : tied md ops z i = true) (hsel : ∀ (j : Nat) (o : Oper) cs b, ops[j]? = some o → o.op ≠ .select cs b)
    (hQ : ∀ c a w, Q (.panic c) (a.put oi.dst v) w → Q (.panic c) a w) :
    ∀ (f : Nat) (l : Array Bool) (a : Act) (w : World),
      (∀ j oj, ops[j]? = some oj → j ≠ i → l.getD j true = false → (∀ e ∈ oj.after, Region.binds md e = true → e.on ≠ i) → oi.apart ops oj = true) →
      i ∈ Region.ready md ops l → Gives P ops S oi v a → S w →
      AnyS F n P md ops Q S z f (l.setIfInBounds i true) (a.put oi.dst v) w → AnyS F n P md ops Q S z (f + 1) l a w := by
  intro f
  induction f with
  | zero =>
    intro l a w _ hr hy hS H
    refine ⟨fun h => (by rw [h] at hr; cases hr), fun j hj => ?_⟩
    by_cases hji : j = i
    · subst hji; exact hy.op hn hi hS ⟨fun _ => hS, H⟩
    · have := ready_mono hj hji
      rw [H.1] at this
      cases this
  | succ f ih =>
    intro l a w hfree hr hy hS H
    refine ⟨fun h => (by rw [h] at hr; cases hr), fun j hj => ?_⟩
    by_cases hji : j = i
    · subst hji; exact hy.op hn hi hS ⟨fun _ => hS, H⟩
    · have h1 := H.2 j (ready_mono hj hji)
      obtain ⟨hjun, oj, hoj, hall⟩ := mem_ready.1 hj
      have hnot : ∀ e ∈ oj.after, Region.binds md e = true → e.on ≠ i := fun e he hb heq => by
        have h1 := hall e he hb
        have h0 := (mem_ready.1 hr).1
        rw [heq] at h1
        rcases Nat.lt_or_ge i l.size with h' | h'
        · simp [h'] at h0 h1; rw [h0] at h1; cases h1
        · simp [Array.getElem?_eq_none h'] at h1
      have hjz : j < z := by
        refine Nat.lt_of_not_le fun e => ?_
        unfold tied at hiz
        rw [List.all_eq_true] at hiz
        have hiz := hiz j (List.mem_range.2 (Array.getElem?_eq_some_iff.1 hoj).1)
        rw [hoj, decide_eq_false (Nat.not_lt.2 e), Bool.false_or] at hiz
        obtain ⟨x, hx, hb⟩ := Array.any_eq_true'.1 hiz
        simp only [Bool.and_eq_true, beq_iff_eq] at hb
        exact hnot x hx hb.1 hb.2
      have h2 := Gives.past hn hoj (hfree j oj hoj hji hjun hnot) (fun cs b => hsel i oi cs b hi) (fun cs b => hsel j oj cs b hoj) hQ hy h1
      have hfree' : ∀ k ok, ops[k]? = some ok → k ≠ i → (l.setIfInBounds j true).getD k true = false →
          (∀ e ∈ ok.after, Region.binds md e = true → e.on ≠ i) → oi.apart ops ok = true := fun k ok hk hki hun hno => by
        refine hfree k ok hk hki ?_ hno
        by_cases hjk : j = k
        · subst hjk; exact hjun
        · rw [getD_set_ne true hjk] at hun; exact hun
      refine wpOpIn_mono (fun a' w' h3 => ⟨h3.2.1, ih (l.setIfInBounds j true) a' w' hfree' (ready_mono hr (Ne.symm hji)) h3.1 (h3.2.1 hjz) ?_⟩) h2
      rw [Array.setIfInBounds_comm _ _ hji]
      exact h3.2.2
theorem at_drop {i : Nat} {o : Oper} {tl : List Oper} (h : ops.toList.drop i = o :: tl) : ops[i]? = some o := by
  rw [← Array.getElem?_toList, ← Nat.add_zero i, ← List.getElem?_drop, h]; rfl
/-- A reading is taken first. -/
theorem AnyS.take {i : Nat} {oi : Oper} {tl : List Oper} {v : Value} {f : Nat} {l : Array Bool} {a : Act} {w : World} (hi : ops.toList.drop i = oi :: tl) (hc : (noDefer ops && Region.noSelect ops && tied md ops z i && Region.free md ops l i && (Region.ready md ops l).contains i) = true)
    (hQ : ∀ c a w, Q (.panic c) (a.put oi.dst v) w → Q (.panic c) a w) (hw : Region.wanted oi (yielded ops a.tmps) = true) (ha : ∀ w, oi.about P w a.eval = none) (hy : ∀ w, S w → (execOp a.eval oi).run P w = .ok (.value v) w) (hS : S w)
    (h : AnyS F n P md ops Q S z f (l.setIfInBounds i true) (a.put oi.dst v) w) : AnyS F n P md ops Q S z (f + 1) l a w := by
  simp only [Bool.and_eq_true] at hc
  obtain ⟨⟨⟨⟨h1, h2⟩, h3⟩, h4⟩, h5⟩ := hc
  have hi' : ops[i]? = some oi := at_drop hi
  exact AnyS.first h1 hi' h3 (Region.noSelect_spec h2) hQ f l a w (Region.free_spec hi' h4) (by simpa using h5) (.inl ⟨hw, fun w hS => ⟨hy w hS, ha w⟩⟩) hS h
/-- A guarded one that is let out. -/
theorem AnyS.skip {i : Nat} {oi : Oper} {tl : List Oper} {f : Nat} {l : Array Bool} {a : Act} {w : World} (hi : ops.toList.drop i = oi :: tl) (hc : (noDefer ops && Region.noSelect ops && tied md ops z i && Region.free md ops l i && (Region.ready md ops l).contains i) = true)
    (hQ : ∀ c a w, Q (.panic c) (a.put oi.dst undef) w → Q (.panic c) a w) (hw : Region.wanted oi (yielded ops a.tmps) = false) (ha : ∀ w, oi.about P w a.eval = none) (hS : S w)
    (h : AnyS F n P md ops Q S z f (l.setIfInBounds i true) (a.put oi.dst undef) w) : AnyS F n P md ops Q S z (f + 1) l a w := by
  simp only [Bool.and_eq_true] at hc
  obtain ⟨⟨⟨⟨h1, h2⟩, h3⟩, h4⟩, h5⟩ := hc
  have hi' : ops[i]? = some oi := at_drop hi
  exact AnyS.first h1 hi' h3 (Region.noSelect_spec h2) hQ f l a w (Region.free_spec hi' h4) (by simpa using h5) (.inr ⟨hw, rfl, ha⟩) hS h
/-- One operation alone may come up. -/
theorem AnyS.step {i : Nat} {o : Oper} {tl : List Oper} {f : Nat} {l : Array Bool} {a : Act} {w : World} (ho : ops.toList.drop i = o :: tl) (hr : Region.ready md ops l = [i]) (hw : Region.wanted o (yielded ops a.tmps) = true)
    (h : ∀ K : Act → World → Prop, Hid (∀ a' w', (i < z → S w') → AnyS F n P md ops Q S z f (l.setIfInBounds i true) a' w' → K a' w') → o.wpIn F n P a w K Q) : AnyS F n P md ops Q S z (f + 1) l a w := by
  refine ⟨fun h0 => absurd (hr ▸ h0) (by simp), fun j hj => ?_⟩
  rw [hr] at hj
  obtain rfl := List.mem_singleton.1 hj
  unfold wpOpIn
  simp only [at_drop ho, hw, if_true]
  exact h _ (fun a' w' h1 h2 => ⟨h1, h2⟩ : Hid _)
/-- One of two may come up. -/
theorem AnyS.step2 {i j : Nat} {o o' : Oper} {tl tl' : List Oper} {f : Nat} {l : Array Bool} {a : Act} {w : World} (ho : ops.toList.drop i = o :: tl) (ho' : ops.toList.drop j = o' :: tl') (hr : Region.ready md ops l = [i, j]) (hw : Region.wanted o (yielded ops a.tmps) = true) (hw' : Region.wanted o' (yielded ops a.tmps) = true)
    (h : ∀ K : Act → World → Prop, Hid (∀ a' w', (i < z → S w') → AnyS F n P md ops Q S z f (l.setIfInBounds i true) a' w' → K a' w') → o.wpIn F n P a w K Q)
    (h' : ∀ K : Act → World → Prop, Hid (∀ a' w', (j < z → S w') → AnyS F n P md ops Q S z f (l.setIfInBounds j true) a' w' → K a' w') → o'.wpIn F n P a w K Q) : AnyS F n P md ops Q S z (f + 1) l a w := by
  refine ⟨fun h0 => absurd (hr ▸ h0) (by simp), fun k hk => ?_⟩
  rw [hr] at hk
  unfold wpOpIn
  rcases List.mem_cons.1 hk with rfl | hk
  · simp only [at_drop ho, hw, if_true]
    exact h _ (fun a' w' h1 h2 => ⟨h1, h2⟩ : Hid _)
  · obtain rfl := List.mem_singleton.1 hk
    simp only [at_drop ho', hw', if_true]
    exact h' _ (fun a' w' h1 h2 => ⟨h1, h2⟩ : Hid _)
theorem AnyS.done {l : Array Bool} {a : Act} {w : World} (hr : Region.ready md ops l = []) (h : Q .normal a w) : ∀ f, AnyS F n P md ops Q S z f l a w
  | 0 => by unfold AnyS; exact ⟨hr, h⟩
  | _ + 1 => ⟨fun _ => h, by rw [hr]; simp⟩
/-- The beginning. -/
theorem region {id : Nat} {a : Act} {w : World} (z : Nat) (S : World → Prop) (hm : P.follows .mixedOrders = true) (h : AnyS F n P .any ops Q S z ops.size (Array.replicate ops.size false) a w.drew) : (Code.region id ops true).wpIn F n P Q a w :=
  wpIn_region_any hm (AnyS.any _ _ _ _ h)
/-- An append as one operation. -/
theorem append_at {P : Program} {w : World} {o : Oper} {a : Act} {K : Act → World → Prop} (s x : Operand) (t : TypeId)
    (ho : o.op = .call { callee := .builtin .append, args := #[s, x], argTypes := #[t, t] })
    (base : Nat) (e : TypeId) (z : Value) (size bytes : Nat) (ht : P.underlying t = some (.slice e)) (hinfo : (P.info? e).map (fun i => (i.zero, i.size, i.bytes)) = some (some z, size, bytes))
    (hzs : z.cells.size = size) (hsz : 0 < size)
    (v : Value) (k : Nat) (xs : List Value) (hs : a.eval s = v) (hown : w.ownsRow base e size v k xs)
    (ad : Addr) (m c : Nat) (news : List Value) (hx : a.eval x = .slice (some ad) m c) (hl : news.length = m * size) (hnews : ∀ j u, news[j]? = some u → w.cell? (ad.add j) = some u) (h1 : ∀ u ∈ news, u.oneCell' = true)
    (h63 : k + m ≤ maxLen) (hbytes : (k + m) * bytes ≤ 140737488355328) (hbase : base ≤ w.heap.size)
    (h : ∀ v' w', w'.ownsRow base e size v' (k + m) (xs ++ news) → w.grownBy w' v.ownBlock → (v'.ownBlock = v.ownBlock ∨ v'.ownBlock = some w.heap.size) → K (a.put o.dst v') w') :
    o.wpIn F n P a w K Q := by
  obtain ⟨i0, hi, hzz⟩ := Option.map_eq_some_iff.1 hinfo
  simp only [Prod.mk.injEq] at hzz
  obtain ⟨hz0, hz1, hz2⟩ := hzz
  obtain ⟨v', w', hr, h2, h3, h4, h5⟩ := run_append_own_at (P := P) w base t o.type e i0 z size bytes ht hi hz0 hz1 hz2 hzs hsz v k xs hown ad m c news hl hnews h1 h63 hbytes hbase
  unfold Oper.wpIn
  refine ⟨by simp [Oper.about, ho, resolve, Target.leads, Sem.run_pure], ?_⟩
  rw [Oper.semAt_eq _ _ _ (by rw [ho]; intro c hc'; cases hc')]
  simp [execOp, ho, resolve, invoke, builtin, hs, hx, hr, Result.andThen]
  exact h v' w' h2 h3 h5
/-- The same, of a slice that may be nil. -/
theorem append_any {P : Program} {w : World} {o : Oper} {a : Act} {K : Act → World → Prop} (s x : Operand) (t : TypeId)
    (ho : o.op = .call { callee := .builtin .append, args := #[s, x], argTypes := #[t, t] })
    (base : Nat) (e : TypeId) (z : Value) (size bytes : Nat) (ht : P.underlying t = some (.slice e)) (hinfo : (P.info? e).map (fun i => (i.zero, i.size, i.bytes)) = some (some z, size, bytes))
    (hzs : z.cells.size = size) (hsz : 0 < size)
    (v : Value) (k : Nat) (xs : List Value) (hs : a.eval s = v) (hown : w.ownsRow base e size v k xs)
    (X : Option Addr) (m c : Nat) (news : List Value) (hx : a.eval x = .slice X m c) (hl : news.length = m * size) (hnews : (X = none ∧ m = 0) ∨ ∃ ad, X = some ad ∧ ∀ j u, news[j]? = some u → w.cell? (ad.add j) = some u) (h1 : ∀ u ∈ news, u.oneCell' = true)
    (h63 : k + m ≤ maxLen) (hbytes : (k + m) * bytes ≤ 140737488355328) (hbase : base ≤ w.heap.size)
    (h : ∀ v' w', w'.ownsRow base e size v' (k + m) (xs ++ news) → w.grownBy w' v.ownBlock → (v'.ownBlock = v.ownBlock ∨ v'.ownBlock = some w.heap.size) → K (a.put o.dst v') w') :
    o.wpIn F n P a w K Q := by
  rcases hnews with ⟨rfl, rfl⟩ | ⟨ad, rfl, hc⟩
  · obtain ⟨i0, hi, hzz⟩ := Option.map_eq_some_iff.1 hinfo
    simp only [Prod.mk.injEq] at hzz
    obtain ⟨hz0, hz1, hz2⟩ := hzz
    obtain rfl : news = [] := List.eq_nil_of_length_eq_zero (by omega)
    have hr : (Builtin.append_ #[t, t] o.type #[v, .slice none 0 c]).run P w = .ok v w := by
      rcases hown.2 with ⟨rfl, hn⟩ | ⟨g, cap, cur, rfl, _, _, hnc, _⟩
      · simp [Builtin.append_, run_underlying ht, sizeOf, typeInfo, hi, Builtin.lenOf, Builtin.firstCells]
      · simp [Builtin.append_, run_underlying ht, sizeOf, typeInfo, hi, Builtin.lenOf, Builtin.firstCells, hnc, storeCells]
    unfold Oper.wpIn
    refine ⟨by simp [Oper.about, ho, resolve, Target.leads, Sem.run_pure], ?_⟩
    rw [Oper.semAt_eq _ _ _ (by rw [ho]; intro c hc'; cases hc')]
    simp [execOp, ho, resolve, invoke, builtin, hs, hx, hr, Result.andThen]
    exact h v w (by simpa using hown) (World.grownBy.refl _ _) (.inl rfl)
  · exact append_at s x t ho base e z size bytes ht hinfo hzs hsz v k xs hs hown ad m c news hx hl hc h1 h63 hbytes hbase h
end
/-- These blocks are as they were. -/
def Same (Z : World) (bs : List Nat) (w : World) : Prop := ∀ b ∈ bs, w.heap[b]? = Z.heap[b]?
theorem Same.refl (Z : World) (bs : List Nat) : Same Z bs Z := fun _ _ => rfl
theorem Same.cell {Z w : World} {bs : List Nat} (h : Same Z bs w) {b o : Nat} {v : Value} (hc : Z.cell? ⟨b, o, none⟩ = some v) (hb : b ∈ bs) : w.cell? ⟨b, o, none⟩ = some v := by
  rw [← hc]
  simp only [World.cell?, h b hb]
theorem Same.below {Z w w' : World} {bs : List Nat} (h : Same Z bs w) (hb : Below w.heap.size w w') (hz : ∀ b ∈ bs, b < Z.heap.size) : Same Z bs w' := fun b hm => by
  have h1 := h b hm
  have : b < w.heap.size := by
    have h2 : Z.heap[b]? = some (Z.heap[b]'(hz b hm)) := Array.getElem?_eq_getElem (hz b hm)
    rw [h2] at h1
    exact (Array.getElem?_eq_some_iff.1 h1).1
  rw [hb.block b this, h1]
theorem Same.grown {Z w w' : World} {bs : List Nat} {row : Option Nat} (h : Same Z bs w) (hg : w.grownBy w' row) (hz : ∀ b ∈ bs, b < Z.heap.size ∧ some b ≠ row) : Same Z bs w' := fun b hm => by
  have h1 := h b hm
  have : b < w.heap.size := by
    have h2 : Z.heap[b]? = some (Z.heap[b]'(hz b hm).1) := Array.getElem?_eq_getElem (hz b hm).1
    rw [h2] at h1
    exact (Array.getElem?_eq_some_iff.1 h1).1
  rw [hg.block b this (hz b hm).2, h1]
theorem Same.cells {Z w : World} {bs : List Nat} (h : Same Z bs w) : ∀ b o, b ∈ bs → w.cell? ⟨b, o, none⟩ = Z.cell? ⟨b, o, none⟩ := fun b o hb => by simp only [World.cell?, h b hb]
/-- A reading is taken first, its side conditions by rote. -/
theorem tk {F : Fence} {n : Nat} {P : Program} {ops : Array Oper} {Q : Exit → Act → World → Prop} {md : Region.Mode} {z : Nat} {Z : World} {bs : List Nat} {i : Nat} {oi : Oper} {tl : List Oper} {v : Value} {f : Nat} {l : Array Bool} {a : Act} {w : World}
    (hi : ops.toList.drop i = oi :: tl) (hS : Same Z bs w) (h : AnyS F n P md ops Q (Same Z bs) z f (l.setIfInBounds i true) (a.put oi.dst v) w)
    (hy : ∀ w, Same Z bs w → (execOp a.eval oi).run P w = .ok (.value v) w := by intro w' hw'; have hc_ := Held.Same.cells hw'; go_simp; try (with_reducible rfl))
    (hc : (noDefer ops && Region.noSelect ops && tied md ops z i && Region.free md ops l i && (Region.ready md ops l).contains i) = true := by kernel_rfl)
    (hQ : ∀ c a w, Q (.panic c) (a.put oi.dst v) w → Q (.panic c) a w := by exact fun _ _ _ h => h) (hw : Region.wanted oi (yielded ops a.tmps) = true := by rfl) (ha : ∀ w, oi.about P w a.eval = none := by exact fun _ => rfl) : AnyS F n P md ops Q (Same Z bs) z (f + 1) l a w :=
  AnyS.take hi hc hQ hw ha hy hS h
end Go.Proofs.Ytcgnkbdfoaiaiaa.Held
end
section
/-
  DERIVED: THE SHELF's CONTRACTS AT THIS DUMP, IN PLAIN WORDS (tools/lay-plain.mjs out of 'TryShelf.lean', which tools/lay-shelf.mjs wrote): THE SAME DECLARATIONS UNDER THE SAME NAMES: 'import', 'namespace', 'open', 'def', 'theorem' AND NOTHING ELSE: no command of the shelf's: FOR A HAND-IN. Each laying: the table of numbers ('.._ren') and one theorem, a field a fact of the dump's own or the kernel's comparison; each contract: ONE APPLICATION.
-/
namespace Go.Proofs
open Go.Shelf
def Try.lays143_ren : Go.Shelf.Ren := ⟨fun | 143 => 58 | 219 => 70 | 217 => 76 | 225 => 77 | 224 => 78 | 267 => 79 | 266 => 81 | 314 => 82 | n => n, fun | 9 => 9 | 3 => 3 | 4 => 4 | 5 => 5 | 46 => 82 | 146 => 112 | 51 => 97 | n => n, fun | 1 => 0 | n => n⟩
theorem Try.lays143 : Go.Proofs.Lays.n143 Try.prog Try.lays143_ren := {
  mixed := by kernel_rfl
  f143 := Try.func58.trans (congrArg some (by kernel_rfl))
  f217 := Try.func76.trans (congrArg some (by kernel_rfl))
  f219 := Try.func70.trans (congrArg some (by kernel_rfl))
  f224 := Try.func78.trans (congrArg some (by kernel_rfl))
  f225 := Try.func77.trans (congrArg some (by kernel_rfl))
  f266 := Try.func81.trans (congrArg some (by kernel_rfl))
  f267 := Try.func79.trans (congrArg some (by kernel_rfl))
  f314 := Try.func82.trans (congrArg some (by kernel_rfl))
  t3 := Try.underlying3
  a3 := Try.isAgg3
  z3 := Try.sizeOf3
  v3 := Try.zeroValue3
  t4 := Try.underlying4
  a4 := Try.isAgg4
  z4 := Try.sizeOf4
  v4 := Try.zeroValue4
  t5 := Try.underlying5
  a5 := Try.isAgg5
  z5 := Try.sizeOf5
  v5 := Try.zeroValue5
  t9 := Try.underlying9
  a9 := Try.isAgg9
  z9 := Try.sizeOf9
  v9 := Try.zeroValue9
  t46 := Try.underlying82
  a46 := Try.isAgg82
  z46 := Try.sizeOf82
  v46 := Try.zeroValue82
  t51 := Try.underlying97
  a51 := Try.isAgg97
  z51 := Try.sizeOf97
  v51 := Try.zeroValue97
  t146 := Try.underlying112
  a146 := Try.isAgg112
  z146 := Try.sizeOf112
  v146 := Try.zeroValue112
  g1 := by kernel_rfl }
open Go.RowKit Go.Lib in
/-- strings.Index: "Index returns the index of the first instance of substr in s, or -1 if substr is not present in s.": AT A substr OF ONE BYTE c: IT RETURNS 'Lib.indexByte s c'; the world is as it was. (LAID: no walk: one application.) -/
theorem Try.strings_Index_one (s : ByteArray) (c : UInt8) (w : World) :
    Calls Try.prog 58 #[.string s, .string ⟨#[c]⟩] w fun e w' => e = .returned (.int .i64 (Lib.indexByte s.data.toList c)) ∧ w' = w := Any.strings_Index_one Try.lays143 s c w
def Try.sortPair_ren : Go.Shelf.Ren := ⟨fun | 6 => 36 | 15 => 50 | 14 => 49 | 28 => 67 | 29 => 68 | 20 => 59 | 21 => 60 | 22 => 61 | 23 => 62 | 24 => 63 | 25 => 64 | 26 => 65 | 27 => 66 | 46 => 71 | 47 => 72 | 48 => 73 | 49 => 74 | 50 => 75 | 57 => 80 | n => n, fun | 22 => 29 | 24 => 35 | 25 => 48 | 3 => 3 | 39 => 82 | 0 => 0 | 53 => 97 | 55 => 99 | 4 => 4 | 46 => 90 | 45 => 89 | 50 => 94 | 5 => 5 | 9 => 9 | 66 => 101 | 70 => 105 | 76 => 109 | 77 => 110 | n => n, fun | n => n⟩
theorem Try.sortPair : Go.Proofs.SlLaysF0.n6 Try.prog Try.sortPair_ren := {
  mixed := by kernel_rfl
  f6 := ⟨Try.f36.name, by decide, Try.func36.trans (congrArg some (by kernel_rfl))⟩
  f14 := ⟨Try.f49.name, by decide, Try.func49.trans (congrArg some (by kernel_rfl))⟩
  f15 := Try.func50.trans (congrArg some (by kernel_rfl))
  f20 := ⟨Try.f59.name, by decide, Try.func59.trans (congrArg some (by kernel_rfl))⟩
  f21 := ⟨Try.f60.name, by decide, Try.func60.trans (congrArg some (by kernel_rfl))⟩
  f22 := ⟨Try.f61.name, by decide, Try.func61.trans (congrArg some (by kernel_rfl))⟩
  f23 := ⟨Try.f62.name, by decide, Try.func62.trans (congrArg some (by kernel_rfl))⟩
  f24 := ⟨Try.f63.name, by decide, Try.func63.trans (congrArg some (by kernel_rfl))⟩
  f25 := ⟨Try.f64.name, by decide, Try.func64.trans (congrArg some (by kernel_rfl))⟩
  f26 := ⟨Try.f65.name, by decide, Try.func65.trans (congrArg some (by kernel_rfl))⟩
  f27 := ⟨Try.f66.name, by decide, Try.func66.trans (congrArg some (by kernel_rfl))⟩
  f28 := Try.func67.trans (congrArg some (by kernel_rfl))
  f29 := Try.func68.trans (congrArg some (by kernel_rfl))
  f46 := ⟨Try.f71.name, by decide, Try.func71.trans (congrArg some (by kernel_rfl))⟩
  f47 := Try.func72.trans (congrArg some (by kernel_rfl))
  f48 := Try.func73.trans (congrArg some (by kernel_rfl))
  f49 := ⟨Try.f74.name, by decide, Try.func74.trans (congrArg some (by kernel_rfl))⟩
  f50 := ⟨Try.f75.name, by decide, Try.func75.trans (congrArg some (by kernel_rfl))⟩
  f57 := ⟨Try.f80.name, by decide, Try.func80.trans (congrArg some (by kernel_rfl))⟩
  t0 := Try.underlying0
  a0 := Try.isAgg0
  z0 := Try.sizeOf0
  v0 := Try.zeroValue0
  t3 := Try.underlying3
  a3 := Try.isAgg3
  z3 := Try.sizeOf3
  v3 := Try.zeroValue3
  t4 := Try.underlying4
  a4 := Try.isAgg4
  z4 := Try.sizeOf4
  v4 := Try.zeroValue4
  t5 := Try.underlying5
  a5 := Try.isAgg5
  z5 := Try.sizeOf5
  v5 := Try.zeroValue5
  t9 := Try.underlying9
  a9 := Try.isAgg9
  z9 := Try.sizeOf9
  v9 := Try.zeroValue9
  t22 := Try.underlying29
  a22 := Try.isAgg29
  z22 := Try.sizeOf29
  v22 := Try.zeroValue29
  t25 := Try.underlying48
  a25 := Try.isAgg48
  z25 := Try.sizeOf48
  v25 := Try.zeroValue48
  t39 := Try.underlying82
  a39 := Try.isAgg82
  z39 := Try.sizeOf82
  v39 := Try.zeroValue82
  t45 := Try.underlying89
  a45 := Try.isAgg89
  z45 := Try.sizeOf89
  v45 := Try.zeroValue89
  t46 := Try.underlying90
  a46 := Try.isAgg90
  z46 := Try.sizeOf90
  v46 := Try.zeroValue90
  t50 := Try.underlying94
  a50 := Try.isAgg94
  z50 := Try.sizeOf94
  v50 := Try.zeroValue94
  t53 := Try.underlying97
  a53 := Try.isAgg97
  z53 := Try.sizeOf97
  v53 := Try.zeroValue97
  t55 := Try.underlying99
  a55 := Try.isAgg99
  z55 := Try.sizeOf99
  v55 := Try.zeroValue99
  t66 := Try.underlying101
  a66 := Try.isAgg101
  z66 := Try.sizeOf101
  v66 := Try.zeroValue101
  t70 := Try.underlying105
  a70 := Try.isAgg105
  z70 := Try.sizeOf105
  v70 := Try.zeroValue105
  t76 := Try.underlying109
  a76 := Try.isAgg109
  z76 := Try.sizeOf109
  v76 := Try.zeroValue109
  t77 := Try.underlying110
  a77 := Try.isAgg110
  z77 := Try.sizeOf110
  v77 := Try.zeroValue110 }
end Go.Proofs
end
section
/- (order).sort of the program's rename: pairs sorted by any comparison, by the kit's contract of slices.SortFunc; and the closure that it hands on. -/
set_option linter.unusedVariables false
set_option linter.unusedSimpArgs false
namespace Go.Proofs.Ytcgnkbdfoaiaiaa.P
open Go Go.RowKit Go.Sort Go.Lib Go.Proofs Go.Proofs.YtcgnkbdfoaiaiaaW.PrintWords Go.Proofs.YtcgnkbdfoaiaiaaW.PrintLast Go.Proofs.YtcgnkbdfoaiaiaaW.PrintMore
theorem eqPair (d : Nat) (w : World) (x0 y0 : ByteArray) (x1 y1 : ByteArray) (x2 y2 : Int) :
    (Op.equalIn (d + 2) 35 (.agg #[.string x0, .string x1, .int .i64 x2]) (.agg #[.string y0, .string y1, .int .i64 y2])).run Try.prog w = .ok (x0.toList == y0.toList && (x1.toList == y1.toList && (x2 == y2))) w := by
  refine eqA_of Try.underlying35 (by kernel_rfl) ?_
  refine eqf_cons (by rfl) (by go_simp; rfl) (by go_simp; rfl) (by go_simp) ?_
  refine eqf_cons (by rfl) (by go_simp; rfl) (by go_simp; rfl) (by go_simp) ?_
  exact eqf_last (by rfl) (by go_simp; rfl) (by go_simp; rfl) (by go_simp)
/-- Pairs whose texts are not too long. -/
def Pr := { p : S35 // p.f0.size ≤ 4000000 ∧ p.f1.size ≤ 4000000 }
instance : Inhabited Pr := ⟨⟨⟨ByteArray.empty, ByteArray.empty, 0⟩, by decide, by decide⟩⟩
instance : DecidableEq S35 := fun a b => if h : a.f0 = b.f0 ∧ a.f1 = b.f1 ∧ a.f2 = b.f2 then isTrue (by cases a; cases b; simp at h; obtain ⟨h1, h2, h3⟩ := h; subst h1 h2 h3; rfl) else isFalse (fun e => h (by rw [e]; exact ⟨rfl, rfl, rfl⟩))
instance : DecidableEq Pr := fun a b => if h : a.val = b.val then isTrue (Subtype.ext h) else isFalse (fun e => h (congrArg _ e))
def encP (x : Pr) : List Value := [.string x.val.f0, .string x.val.f1, .int .i64 x.val.f2]
def pflat (l : List Pr) : List Value := l.flatMap encP
theorem pflat_length (l : List Pr) : (pflat l).length = l.length * 3 := by
  induction l with
  | nil => rfl
  | cons e l ih => simp only [pflat, List.flatMap_cons, List.length_append, List.length_cons] at ih ⊢; rw [ih]; simp [encP]; omega
theorem pflat_snoc (l : List Pr) (e : Pr) : pflat (l ++ [e]) = pflat l ++ encP e := by simp [pflat]
theorem pflat_get (l : List Pr) : ∀ (t : Nat), t < l.length * 3 → (pflat l)[t]? = some ((encP l[t / 3]!)[t % 3]!) := by
  induction l with
  | nil => intro t h; simp at h
  | cons x l ih =>
    intro t h
    have e0 : pflat (x :: l) = encP x ++ pflat l := by simp [pflat]
    rw [e0]
    by_cases h3 : t < 3
    · rw [List.getElem?_append_left (by simp [encP]; exact h3), Nat.div_eq_of_lt h3, Nat.mod_eq_of_lt h3]
      have : t = 0 ∨ t = 1 ∨ t = 2 := by omega
      rcases this with rfl | rfl | rfl <;> simp [encP]
    · obtain ⟨u, rfl⟩ : ∃ u, t = u + 3 := ⟨t - 3, by omega⟩
      rw [List.getElem?_append_right (by simp [encP])]
      have e1 : u + 3 - (encP x).length = u := by simp [encP]
      have e2 : (u + 3) / 3 = u / 3 + 1 := by omega
      have e3 : (u + 3) % 3 = u % 3 := by omega
      rw [e1, e2, e3, ih u (by simp at h; omega)]
      simp
theorem flatK_eq (l : List Pr) : (flatK encP 3 l.toArray).toList = pflat l := by
  apply List.ext_getElem?
  intro t
  by_cases h : t < l.length * 3
  · rw [pflat_get l t h]
    have := get_flatK encP 3 l.toArray t (by simpa using h)
    rw [Array.getElem?_toList, Array.getElem?_eq_getElem (by simpa using h)]
    rw [getElem!_pos _ t (by simpa using h)] at this
    rw [this]
    simp
  · rw [List.getElem?_eq_none (by simp; omega), List.getElem?_eq_none (by rw [pflat_length]; omega)]
theorem take_put (F : Array Value) (cur : Array Value) (n : Nat) (hn : F.size = n) (h : n ≤ cur.size) : (putCells id 0 F cur).toList.take n = F.toList := by
  apply List.ext_getElem?
  intro j
  by_cases hj : j < n
  · rw [List.getElem?_take_of_lt hj, Array.getElem?_toList, Array.getElem?_toList]
    simp [putCells, hn, hj, show j < cur.size by omega]
  · rw [List.getElem?_take_eq_none (by omega), List.getElem?_eq_none (by simp; omega)]
theorem heap_sortedK {w : World} {g n : Nat} {os : Array Obj} {cur : Array Value} {e : TypeId} {fr : Nat × Nat} (l : List Pr) (hb : w.heap[g]? = some (.cells cur e fr)) :
    (sortWorldK encP 3 w g 0 n l.toArray os).heap[g]? = some (.cells (putCells id 0 (flatK encP 3 l.toArray) cur) e fr) := by
  have hg : g < w.heap.size := (Array.getElem?_eq_some_iff.1 hb).1
  unfold sortWorldK putRowK
  rw [Sort.heap_grow_old _ _ (by simpa using hg)]
  simp [putRow, mapBlock, Sort.ahead, Array.getElem?_modify, hb, onCells]
theorem grownBy_sortedK {w : World} {g n : Nat} {os : Array Obj} (l : List Pr) : w.grownBy (sortWorldK encP 3 w g 0 n l.toArray os) (some g) := by
  unfold sortWorldK putRowK
  refine ⟨rfl, rfl, rfl, by simp, fun k hk hne => ?_⟩
  rw [Sort.heap_grow_old _ _ (by simpa using hk)]
  have : g ≠ k := fun e => hne (by rw [e])
  simp [putRow, mapBlock, Sort.ahead, Array.getElem?_modify, this]
theorem holdsK_of {w : World} {g : Nat} {cur : Array Value} {e : TypeId} {l : List Pr} (hb : w.heap[g]? = some (.cells cur e (0, 0))) (ht : cur.toList.take (l.length * 3) = pflat l) : HoldsK encP 3 w g 0 l.toArray := by
  intro j hj
  have hj' : j < l.length * 3 := by simpa using hj
  refine ⟨?_, by simp [World.frozen?, hb]⟩
  have h1 : (cur.toList.take (l.length * 3))[j]? = (pflat l)[j]? := by rw [ht]
  rw [List.getElem?_take_of_lt hj'] at h1
  simp only [World.cell?, hb, Nat.zero_add]
  simp only [Option.isSome_none, Bool.false_eq_true, if_false]
  rw [← Array.getElem?_toList, h1, ← flatK_eq, Array.getElem?_toList, Array.getElem?_eq_getElem (by simpa using hj'), getElem!_pos _ j (by simpa using hj')]
  rfl
/-- A comparison, as the code asks it: of one and itself nothing is told. -/
def cmpOf (by_ : Pr → Pr → Int) (x y : Pr) : Int := if x = y then 0 else by_ x y
def CmpCalls (g : Nat) (by_ : Pr → Pr → Int) : Prop :=
  ∀ (x y : Pr) (W : World), Calls Try.prog g #[.agg #[.string x.val.f0, .string x.val.f1, .int .i64 x.val.f2], .agg #[.string y.val.f0, .string y.val.f1, .int .i64 y.val.f2]] W fun e w' => e = .returned (.int .i64 (by_ x y)) ∧ ∃ q os', w' = grow (W.drewN q) os'
theorem pr_eq (x y : Pr) : (x.val.f0.toList == y.val.f0.toList && (x.val.f1.toList == y.val.f1.toList && (x.val.f2 == y.val.f2))) = decide (x = y) := by
  have hb : ∀ a b : ByteArray, (a.toList == b.toList) = decide (a = b) := fun a b => by
    rw [Bool.eq_iff_iff, beq_iff_eq, decide_eq_true_eq]
    refine ⟨fun h => ?_, fun h => by rw [h]⟩
    rw [ByteArray.toList_eq, ByteArray.toList_eq] at h
    cases a; cases b
    exact congrArg ByteArray.mk (Array.toList_inj.1 h)
  rw [hb, hb, Bool.eq_iff_iff]
  simp only [Bool.and_eq_true, decide_eq_true_eq, beq_iff_eq]
  refine ⟨fun ⟨h1, h2, h3⟩ => Subtype.ext ?_, fun h => by rw [h]; exact ⟨rfl, rfl, rfl⟩⟩
  cases x with | mk x _ => cases y with | mk y _ =>
  cases x; cases y
  simp at h1 h2 h3
  subst h1 h2 h3
  rfl
theorem drewN_grow_ (w : World) (os : Array Obj) (q : Nat) : (grow w os).drewN q = grow (w.drewN q) os := rfl
section
attribute [local go_sem high] eqPair
set_option maxRecDepth 100000 in
set_option maxHeartbeats 4000000 in
theorem sort1_run (g : Nat) (eg : ∀ args w, (callFunc g args).run Try.prog w = .ok (.enter g args) w) (by_ : Pr → Pr → Int) (hg : CmpCalls g by_) (B : Nat) (x y : Pr) (W : World) (hB : W.cell? ⟨B, 0, none⟩ = some (.func (.func g) #[] #[])) :
    Calls Try.prog 37 #[.agg #[.string x.val.f0, .string x.val.f1, .int .i64 x.val.f2], .agg #[.string y.val.f0, .string y.val.f1, .int .i64 y.val.f2], .pointer (some ⟨B, 0, none⟩)] W fun e w' => e = .returned (.int .i64 (cmpOf by_ x y)) ∧ ∃ q os', w' = grow (W.drewN q) os' := by
  have hBl : B < W.heap.size := World.block_lt_of_cell? W _ hB
  have hpe := pr_eq x y
  by_cases hxy : x = y
  · subst hxy
    have h1 : (x.val.f2 == x.val.f2) = true := beq_self_eq_true _
    unfold cmpOf
    rw [if_pos rfl]
    clear hpe
    go_enter Try.func37, Try.ntmps37
    go_wp2
    go_ret
    exact ⟨rfl, 0, _, by rw [alloc_eq_grow, alloc_eq_grow, grow_grow]; rfl⟩
  · have hc : cmpOf by_ x y = by_ x y := if_neg hxy
    rw [hc]
    rw [decide_eq_false hxy] at hpe
    have HG := Lib.hid (hg x y)
    clear hxy hg hc
    go_enter Try.func37, Try.ntmps37
    go_wp2_with (first | (go_at_fn g; refine (HG.out _).mono ?_; rintro e w' ⟨rfl, q, os', rfl⟩))
    go_ret
    exact ⟨rfl, q, (#[Obj.cells #[Value.string x.val.f0, Value.string x.val.f1, Value.int IntKind.i64 x.val.f2] 35] ++ #[Obj.cells #[Value.string y.val.f0, Value.string y.val.f1, Value.int IntKind.i64 y.val.f2] 35]) ++ os', by rw [alloc_eq_grow, alloc_eq_grow, grow_grow, drewN_grow_, grow_grow]⟩
end
theorem perm_of {d d' : Array Pr} (h : PermIn 0 d.size d d') : d'.toList.Perm d.toList := by
  obtain ⟨h1, _, h3⟩ := h
  have e1 : d'.extract 0 d.size = d' := by rw [← h1]; simp
  have e2 : d.extract 0 d.size = d := by simp
  rwa [e1, e2] at h3
theorem sorted_of {lt : Pr → Pr → Bool} {d : Array Pr} (h : SortedIn lt 0 d.size d) : d.toList.Pairwise (fun x y => lt y x = false) := by
  rw [List.pairwise_iff_getElem]
  intro i j hi hj hij
  have := h i j (Nat.zero_le _) hij (by simpa using hj)
  rw [getElem!_pos d j (by simpa using hj), getElem!_pos d i (by simpa using hi)] at this
  simpa using this
set_option maxRecDepth 100000 in
set_option maxHeartbeats 4000000 in
/-- Pairs of the call's own, sorted. -/
theorem sort_run (g : Nat) (eg : ∀ args w, (callFunc g args).run Try.prog w = .ok (.enter g args) w) (by_ : Pr → Pr → Int) (hg : CmpCalls g by_) (hO : SWO (ltOf (cmpOf by_))) (base : Nat) (v : Value) (l : List Pr) (w : World) (hown : w.ownsRow base 35 3 v l.length (pflat l)) (hl : l.length ≤ 1000000000000) :
    Calls Try.prog 18 #[.agg #[.func (.func g) #[] #[]], v] w fun e w' => e = .returned (.tuple #[]) ∧ ∃ l' : List Pr, l'.Perm l ∧ l'.Pairwise (fun x y => ltOf (cmpOf by_) y x = false) ∧ w'.ownsRow base 35 3 v l'.length (pflat l') ∧ ∃ w1, Below w.heap.size w w1 ∧ w1.grownBy w' v.ownBlock := by
  obtain ⟨hx, hf⟩ := hown
  have e37 : ∀ args w, (callFunc 37 args).run Try.prog w = .ok (.enter 37 args) w := enters_of Try.func37 (by kernel_rfl) rfl
  obtain ⟨X, hX⟩ : ∃ X, X = w.alloc (.cells #[.func (.func g) #[] #[]] 50) := ⟨_, rfl⟩
  have bX : Below w.heap.size w X := by rw [hX]; exact (Below.refl _ _).alloc (Nat.le_refl _) _
  rcases hf with ⟨rfl, hn⟩ | ⟨b, cap, cur, rfl, hb, hh, hnc, hcm, hsz, htk⟩
  · have HN := Lib.hid (AnyF.slices_SortFunc_none (P := Try.prog) Try.sortPair none 0 (.func (.func 37) #[] #[.pointer (some ⟨w.heap.size, 0, none⟩)]) X)
    have hl0 : l = [] := List.eq_nil_of_length_eq_zero hn
    subst hl0
    have HX := Lib.hid hX
    have HBX := Lib.hid bX
    have HXX := Lib.hid hx
    clear hX bX hx hn
    go_enter Try.func18, Try.ntmps18
    go_wp2_with (first | rw [← HX.out] | (go_at_call 36; refine HN.out.mono ?_; rintro e w' ⟨rfl, rfl⟩))
    go_end0
    exact ⟨rfl, [], .nil, .nil, own_nil _ _ _ _, w', HBX.out, World.grownBy.refl _ _⟩
  · have hbl := blk_lt hh
    have hXb : X.heap[b]? = some (.cells cur 35 (0, 0)) := (bX.block b hbl).trans hh
    have hB : X.cell? ⟨w.heap.size, 0, none⟩ = some (.func (.func g) #[] #[]) := by rw [hX]; exact (blk_cell (heap_alloc_new w _) 0)
    have hH : HoldsK encP 3 X b 0 l.toArray := holdsK_of hXb htk
    have hbX : b < X.heap.size := blk_lt hXb
    have hcmp : CmpLays Try.prog 37 #[.pointer (some ⟨w.heap.size, 0, none⟩)] encP 3 (cmpOf by_) b 0 l.toArray.size X := fun m os dk hs x y => by
      refine sort1_run g eg by_ hg w.heap.size x y _ ?_
      have h1 := cell?_putRowK_other encP 3 (Sort.ahead X m) b 0 dk ⟨w.heap.size, 0, none⟩ (by show w.heap.size ≠ b; omega)
      have h2 : (putRowK encP 3 (Sort.ahead X m) b 0 dk).cell? ⟨w.heap.size, 0, none⟩ = some (.func (.func g) #[] #[]) := h1.trans hB
      unfold sortWorldK
      have h3 := World.block_lt_of_cell? _ _ h2
      refine (World.cell?_of_block (Sort.heap_grow_old _ os h3)).trans h2
    have hcon := AnyQ.slices_SortFunc Try.sortPair 3 Try.isAgg35 Try.sizeOf35 encP (fun _ => rfl) (fun x v hv => by simp [encP] at hv; rcases hv with rfl | rfl | rfl <;> rfl) (cmpOf by_) hO 37 #[.pointer (some ⟨w.heap.size, 0, none⟩)] b 0 cap l.toArray X e37 hcmp hH hbX (by simp; omega)
    change Calls Try.prog 36 _ _ _ at hcon
    rw [List.size_toArray] at hcon
    have HC := Lib.hid hcon
    have HX := Lib.hid hX
    have HBX := Lib.hid bX
    have HXB := Lib.hid hXb
    have HF := Lib.hid (And.intro hb (And.intro hnc (And.intro hcm hsz)))
    clear hX bX hXb hB hH hcmp hcon hx hb hh hnc hcm hsz htk e37 hbX hbl
    go_enter Try.func18, Try.ntmps18
    go_wp2_with (first | rw [← HX.out] | (go_at_call 36; refine HC.out.mono ?_; rintro e w' ⟨rfl, d', n, os, hp, hs, rfl⟩; have HP := Lib.hid hp; have HS := Lib.hid hs; clear hp hs))
    go_end0
    obtain ⟨hb, hnc, hcm, hsz⟩ := HF.out
    have hp := HP.out
    have hss : d'.size = l.length := by have := hp.1; simpa using this
    have hsd : SortedIn (ltOf (cmpOf by_)) 0 d'.size d' := by have := HS.out; rw [hss]; exact this
    have hl' : d'.toList.length = l.length := by simpa using hss
    have hdd : d'.toList.toArray = d' := by simp
    have hpm : d'.toList.Perm l := by have := perm_of (d := l.toArray) (d' := d') (by simpa using hp); simpa using this
    refine ⟨rfl, d'.toList, hpm, sorted_of hsd, ⟨pflat_length _, .inr ⟨b, cap, putCells id 0 (flatK encP 3 d'.toList.toArray) cur, by rw [hl'], hb, ?_, by omega, hcm, ?_, ?_⟩⟩, X, HBX.out, ?_⟩
    · have := heap_sortedK (n := n) (os := os) d'.toList HXB.out
      rw [hdd] at this ⊢
      exact this
    · simp [putCells, hsz]
    · rw [← flatK_eq]
      exact take_put _ _ _ (by simp) (by omega)
    · have := grownBy_sortedK (w := X) (g := b) (n := n) (os := os) d'.toList
      rw [hdd] at this
      exact this
end Go.Proofs.Ytcgnkbdfoaiaiaa.P
end
section
/- Laid for this claim by hp.py, this session's program round the kit's print: functions of the program as plain Lean functions, the proofs that the code comes to their answers, and the rows of the laws. Not trusted: Lean checks it. -/
namespace Go.Proofs.Ytcgnkbdfoaiaiaa.P
open Go.RowKit Go.Proofs.YtcgnkbdfoaiaiaaW.PrintWords Go.Proofs.YtcgnkbdfoaiaiaaW.PrintLast Go.Proofs.YtcgnkbdfoaiaiaaW.PrintMore
attribute [local go_sem] max2_int min2_int max_two min_two max_three min_three max_four min_four   -- for this text's walks alone
set_option linter.unusedVariables false
set_option linter.unusedSimpArgs false

/-! ### cmp_isNaN_int: function 47 -/
def cmp_isNaN_int.f (a0 : Int) : Option (Bool) := some (a0 != a0)
set_option maxHeartbeats 8000000 in
set_option maxRecDepth 100000 in
theorem cmp_isNaN_int.calls (a0 : Int) (r : Bool) (w : World) (h : cmp_isNaN_int.f a0 = some r) :
  Calls Try.prog 47 #[.int .i64 a0] w fun e w' => e = .returned (.bool r) ∧ Drawn0 w w' := by
 have H : (some (a0 != a0)) = some r := h
 clear h
 obtain rfl := Option.some.inj H
 go_enter Try.func47, Try.ntmps47
 go_wp2
 go_ret
 exact ⟨by first | rfl | (simp; done) | (simp [*]; done), by repeat (first | exact Drawn0.refl _ | apply Drawn0.step)⟩

end Go.Proofs.Ytcgnkbdfoaiaiaa.P
end
section
/- Laid for this claim by hp.py, this session's program round the kit's print: functions of the program as plain Lean functions, the proofs that the code comes to their answers, and the rows of the laws. Not trusted: Lean checks it. -/
namespace Go.Proofs.Ytcgnkbdfoaiaiaa.P
open Go.RowKit Go.Proofs.YtcgnkbdfoaiaiaaW.PrintWords Go.Proofs.YtcgnkbdfoaiaiaaW.PrintLast Go.Proofs.YtcgnkbdfoaiaiaaW.PrintMore
attribute [local go_sem] max2_int min2_int max_two min_two max_three min_three max_four min_four   -- for this text's walks alone
set_option linter.unusedVariables false
set_option linter.unusedSimpArgs false

/-! ### cmp_Compare_int: function 34 -/
def cmp_Compare_int.f (a0 : Int) (a1 : Int) : Option (Int) := (cmp_isNaN_int.f a0).bind fun t477 => ((cmp_isNaN_int.f a1).bind fun t478 => (if t477 = true then (if t478 = true then (some 0) else (some (-1))) else (if t478 = true then (some 1) else (if a0 < a1 then (some (-1)) else (if a0 > a1 then (some 1) else (some 0))))))
set_option maxHeartbeats 8000000 in
set_option maxRecDepth 100000 in
theorem cmp_Compare_int.calls (a0 : Int) (a1 : Int) (r : Int) (w : World) (h : cmp_Compare_int.f a0 a1 = some r) :
  Calls Try.prog 34 #[.int .i64 a0, .int .i64 a1] w fun e w' => e = .returned (.int .i64 r) ∧ Drawn0 w w' := by
 have H : ((cmp_isNaN_int.f a0).bind fun t477 => ((cmp_isNaN_int.f a1).bind fun t478 => (if t477 = true then (if t478 = true then (some 0) else (some (-1))) else (if t478 = true then (some 1) else (if a0 < a1 then (some (-1)) else (if a0 > a1 then (some 1) else (some 0))))))) = some r := h
 clear h
 replace H := Option.bind_eq_some_iff.mp H
 obtain ⟨t477, A30, H⟩ := H
 replace H : ((cmp_isNaN_int.f a1).bind fun t478 => (if t477 = true then (if t478 = true then (some 0) else (some (-1))) else (if t478 = true then (some 1) else (if a0 < a1 then (some (-1)) else (if a0 > a1 then (some 1) else (some 0)))))) = some r := H
 have A3 := Aside0.mk A30
 clear A30
 replace H := Option.bind_eq_some_iff.mp H
 obtain ⟨t478, A40, H⟩ := H
 replace H : (if t477 = true then (if t478 = true then (some 0) else (some (-1))) else (if t478 = true then (some 1) else (if a0 < a1 then (some (-1)) else (if a0 > a1 then (some 1) else (some 0))))) = some r := H
 have A4 := Aside0.mk A40
 clear A40
 by_cases c5 : t477 = true
 ·subst c5
  have H1 : (if t478 = true then (some 0) else (some (-1))) = some r := by rw [if_pos rfl] at H; exact H
  clear H
  have H := H1
  clear H1
  by_cases c6 : t478 = true
  ·subst c6
   have H1 : (some 0) = some r := by rw [if_pos rfl] at H; exact H
   clear H
   have H := H1
   clear H1
   obtain rfl := Option.some.inj H
   go_enter Try.func34, Try.ntmps34
   go_wp2_with (first | ((with_reducible refine gate_callee (f := 47) rfl ?_); refine goesL_ _ rfl rfl Try.func47 (by kernel_rfl) rfl #[.int .i64 a0] rfl (by (try simp only [List.map_toArray, List.map_cons, List.map_nil]); first | done | rfl | (simp only [List.length_drop, List.length_take]; rfl)) ?_; (with_reducible refine (cmp_isNaN_int.calls a0 true _ A3.out).mono ?_); rintro e w' ⟨rfl, ⟨nd, rfl⟩⟩; refine ⟨_, rfl, ?_⟩) | ((with_reducible refine gate_callee (f := 47) rfl ?_); refine goesL_ _ rfl rfl Try.func47 (by kernel_rfl) rfl #[.int .i64 a1] rfl (by (try simp only [List.map_toArray, List.map_cons, List.map_nil]); first | done | rfl | (simp only [List.length_drop, List.length_take]; rfl)) ?_; (with_reducible refine (cmp_isNaN_int.calls a1 true _ A4.out).mono ?_); rintro e w' ⟨rfl, ⟨nd, rfl⟩⟩; refine ⟨_, rfl, ?_⟩))
   go_ret
   exact ⟨by first | rfl | (simp; done) | (simp [*]; done), by repeat (first | exact Drawn0.refl _ | apply Drawn0.step)⟩
  ·replace c6 := Bool.eq_false_iff.mpr c6
   subst c6
   have H1 : (some (-1)) = some r := by rw [if_neg (show ¬ (false = true) by decide)] at H; exact H
   clear H
   have H := H1
   clear H1
   obtain rfl := Option.some.inj H
   go_enter Try.func34, Try.ntmps34
   go_wp2_with (first | ((with_reducible refine gate_callee (f := 47) rfl ?_); refine goesL_ _ rfl rfl Try.func47 (by kernel_rfl) rfl #[.int .i64 a0] rfl (by (try simp only [List.map_toArray, List.map_cons, List.map_nil]); first | done | rfl | (simp only [List.length_drop, List.length_take]; rfl)) ?_; (with_reducible refine (cmp_isNaN_int.calls a0 true _ A3.out).mono ?_); rintro e w' ⟨rfl, ⟨nd, rfl⟩⟩; refine ⟨_, rfl, ?_⟩) | ((with_reducible refine gate_callee (f := 47) rfl ?_); refine goesL_ _ rfl rfl Try.func47 (by kernel_rfl) rfl #[.int .i64 a1] rfl (by (try simp only [List.map_toArray, List.map_cons, List.map_nil]); first | done | rfl | (simp only [List.length_drop, List.length_take]; rfl)) ?_; (with_reducible refine (cmp_isNaN_int.calls a1 false _ A4.out).mono ?_); rintro e w' ⟨rfl, ⟨nd, rfl⟩⟩; refine ⟨_, rfl, ?_⟩))
   go_ret
   exact ⟨by first | rfl | (simp; done) | (simp [*]; done), by repeat (first | exact Drawn0.refl _ | apply Drawn0.step)⟩
 ·replace c5 := Bool.eq_false_iff.mpr c5
  subst c5
  have H1 : (if t478 = true then (some 1) else (if a0 < a1 then (some (-1)) else (if a0 > a1 then (some 1) else (some 0)))) = some r := by rw [if_neg (show ¬ (false = true) by decide)] at H; exact H
  clear H
  have H := H1
  clear H1
  by_cases c7 : t478 = true
  ·subst c7
   have H1 : (some 1) = some r := by rw [if_pos rfl] at H; exact H
   clear H
   have H := H1
   clear H1
   obtain rfl := Option.some.inj H
   go_enter Try.func34, Try.ntmps34
   go_wp2_with (first | ((with_reducible refine gate_callee (f := 47) rfl ?_); refine goesL_ _ rfl rfl Try.func47 (by kernel_rfl) rfl #[.int .i64 a0] rfl (by (try simp only [List.map_toArray, List.map_cons, List.map_nil]); first | done | rfl | (simp only [List.length_drop, List.length_take]; rfl)) ?_; (with_reducible refine (cmp_isNaN_int.calls a0 false _ A3.out).mono ?_); rintro e w' ⟨rfl, ⟨nd, rfl⟩⟩; refine ⟨_, rfl, ?_⟩) | ((with_reducible refine gate_callee (f := 47) rfl ?_); refine goesL_ _ rfl rfl Try.func47 (by kernel_rfl) rfl #[.int .i64 a1] rfl (by (try simp only [List.map_toArray, List.map_cons, List.map_nil]); first | done | rfl | (simp only [List.length_drop, List.length_take]; rfl)) ?_; (with_reducible refine (cmp_isNaN_int.calls a1 true _ A4.out).mono ?_); rintro e w' ⟨rfl, ⟨nd, rfl⟩⟩; refine ⟨_, rfl, ?_⟩))
   go_ret
   exact ⟨by first | rfl | (simp; done) | (simp [*]; done), by repeat (first | exact Drawn0.refl _ | apply Drawn0.step)⟩
  ·replace c7 := Bool.eq_false_iff.mpr c7
   subst c7
   have H1 : (if a0 < a1 then (some (-1)) else (if a0 > a1 then (some 1) else (some 0))) = some r := by rw [if_neg (show ¬ (false = true) by decide)] at H; exact H
   clear H
   have H := H1
   clear H1
   by_cases c8 : a0 < a1
   ·rw [if_pos c8] at H
    have c8b0 : decide (a0 < a1) = true := decide_eq_true c8
    clear c8
    obtain rfl := Option.some.inj H
    go_enter Try.func34, Try.ntmps34
    go_wp2_with (first | ((with_reducible refine gate_callee (f := 47) rfl ?_); refine goesL_ _ rfl rfl Try.func47 (by kernel_rfl) rfl #[.int .i64 a0] rfl (by (try simp only [List.map_toArray, List.map_cons, List.map_nil]); first | done | rfl | (simp only [List.length_drop, List.length_take]; rfl)) ?_; (with_reducible refine (cmp_isNaN_int.calls a0 false _ A3.out).mono ?_); rintro e w' ⟨rfl, ⟨nd, rfl⟩⟩; refine ⟨_, rfl, ?_⟩) | ((with_reducible refine gate_callee (f := 47) rfl ?_); refine goesL_ _ rfl rfl Try.func47 (by kernel_rfl) rfl #[.int .i64 a1] rfl (by (try simp only [List.map_toArray, List.map_cons, List.map_nil]); first | done | rfl | (simp only [List.length_drop, List.length_take]; rfl)) ?_; (with_reducible refine (cmp_isNaN_int.calls a1 false _ A4.out).mono ?_); rintro e w' ⟨rfl, ⟨nd, rfl⟩⟩; refine ⟨_, rfl, ?_⟩))
    go_ret
    exact ⟨by first | rfl | (simp; done) | (simp [*]; done), by repeat (first | exact Drawn0.refl _ | apply Drawn0.step)⟩
   ·rw [if_neg c8] at H
    have c8b0 : decide (a0 < a1) = false := decide_eq_false c8
    clear c8
    by_cases c9 : a0 > a1
    ·rw [if_pos c9] at H
     have c9b0 : decide (a1 < a0) = true := decide_eq_true c9
     clear c9
     obtain rfl := Option.some.inj H
     go_enter Try.func34, Try.ntmps34
     go_wp2_with (first | ((with_reducible refine gate_callee (f := 47) rfl ?_); refine goesL_ _ rfl rfl Try.func47 (by kernel_rfl) rfl #[.int .i64 a0] rfl (by (try simp only [List.map_toArray, List.map_cons, List.map_nil]); first | done | rfl | (simp only [List.length_drop, List.length_take]; rfl)) ?_; (with_reducible refine (cmp_isNaN_int.calls a0 false _ A3.out).mono ?_); rintro e w' ⟨rfl, ⟨nd, rfl⟩⟩; refine ⟨_, rfl, ?_⟩) | ((with_reducible refine gate_callee (f := 47) rfl ?_); refine goesL_ _ rfl rfl Try.func47 (by kernel_rfl) rfl #[.int .i64 a1] rfl (by (try simp only [List.map_toArray, List.map_cons, List.map_nil]); first | done | rfl | (simp only [List.length_drop, List.length_take]; rfl)) ?_; (with_reducible refine (cmp_isNaN_int.calls a1 false _ A4.out).mono ?_); rintro e w' ⟨rfl, ⟨nd, rfl⟩⟩; refine ⟨_, rfl, ?_⟩))
     go_ret
     exact ⟨by first | rfl | (simp; done) | (simp [*]; done), by repeat (first | exact Drawn0.refl _ | apply Drawn0.step)⟩
    ·rw [if_neg c9] at H
     have c9b0 : decide (a1 < a0) = false := decide_eq_false c9
     clear c9
     obtain rfl := Option.some.inj H
     go_enter Try.func34, Try.ntmps34
     go_wp2_with (first | ((with_reducible refine gate_callee (f := 47) rfl ?_); refine goesL_ _ rfl rfl Try.func47 (by kernel_rfl) rfl #[.int .i64 a0] rfl (by (try simp only [List.map_toArray, List.map_cons, List.map_nil]); first | done | rfl | (simp only [List.length_drop, List.length_take]; rfl)) ?_; (with_reducible refine (cmp_isNaN_int.calls a0 false _ A3.out).mono ?_); rintro e w' ⟨rfl, ⟨nd, rfl⟩⟩; refine ⟨_, rfl, ?_⟩) | ((with_reducible refine gate_callee (f := 47) rfl ?_); refine goesL_ _ rfl rfl Try.func47 (by kernel_rfl) rfl #[.int .i64 a1] rfl (by (try simp only [List.map_toArray, List.map_cons, List.map_nil]); first | done | rfl | (simp only [List.length_drop, List.length_take]; rfl)) ?_; (with_reducible refine (cmp_isNaN_int.calls a1 false _ A4.out).mono ?_); rintro e w' ⟨rfl, ⟨nd, rfl⟩⟩; refine ⟨_, rfl, ?_⟩))
     go_ret
     exact ⟨by first | rfl | (simp; done) | (simp [*]; done), by repeat (first | exact Drawn0.refl _ | apply Drawn0.step)⟩

end Go.Proofs.Ytcgnkbdfoaiaiaa.P
end
section
/- paths.Compare: an order's number, by a walk of its text; and the two comparisons of the program's rename. -/
set_option linter.unusedVariables false
set_option linter.unusedSimpArgs false
namespace Go.Proofs.Ytcgnkbdfoaiaiaa.P
open Go Go.RowKit Go.Proofs.YtcgnkbdfoaiaiaaW.PrintWords Go.Proofs.YtcgnkbdfoaiaiaaW.PrintLast Go.Proofs.YtcgnkbdfoaiaiaaW.PrintMore Go.Proofs.Ytcgnkbdfoaiaiaa.Q
def rkI (s : ByteArray) (i : Nat) : Int := match (tl s)[i]? with
  | some c => (rkb c : Int)
  | none => 0
theorem rank_f (s : ByteArray) (i : Nat) : paths_rank.f s (i : Int) = some (rkI s i) := by
  unfold rkI
  cases h : (tl s)[i]? with
  | none => exact rank_end (by have := List.getElem?_eq_none_iff.1 h; rwa [tl_size] at this)
  | some c => exact rank_at h
def ci (x y : Int) : Int := if x < y then -1 else if y < x then 1 else 0
theorem cmp_f (x y : Int) : cmp_Compare_int.f x y = some (ci x y) := by
  unfold cmp_Compare_int.f ci
  simp only [cmp_isNaN_int.f, Option.bind_some]
  by_cases h : x < y
  · simp [h]
  · by_cases h2 : y < x <;> simp [h, h2]
theorem ci_lt {x y : Int} (h : x < y) : ci x y = -1 := if_pos h
theorem ci_gt {x y : Int} (h : y < x) : ci x y = 1 := by unfold ci; rw [if_neg (by omega), if_pos h]
theorem ci_eq {x y : Int} (h : x = y) : ci x y = 0 := by unfold ci; rw [if_neg (by omega), if_neg (by omega)]
theorem rank_run (s : ByteArray) (i : Nat) (w : World) : Calls Try.prog 48 #[.string s, .int .i64 (i : Int)] w fun e w' => e = .returned (.int .i64 (rkI s i)) ∧ Drawn0 w w' := paths_rank.calls s i _ w (rank_f s i)
theorem cmp_run (x y : Int) (w : World) : Calls Try.prog 34 #[.int .i64 x, .int .i64 y] w fun e w' => e = .returned (.int .i64 (ci x y)) ∧ Drawn0 w w' := cmp_Compare_int.calls x y _ w (cmp_f x y)
theorem rk_drop (s : ByteArray) (i : Nat) (h : i < s.size) : ∃ c : Nat, 1 ≤ c ∧ rkI s i = c ∧ (rks (tl s)).drop i = c :: (rks (tl s)).drop (i + 1) := by
  have hl : i < (tl s).length := by rw [tl_size]; exact h
  refine ⟨rkb (tl s)[i], rkb_pos _, ?_, ?_⟩
  · unfold rkI; rw [List.getElem?_eq_getElem hl]
  · rw [List.drop_eq_getElem_cons (by unfold rks; rw [List.length_map]; exact hl)]
    congr 1
    unfold rks
    rw [List.getElem_map]
theorem rk_past (s : ByteArray) (i : Nat) (h : s.size ≤ i) : rkI s i = 0 ∧ (rks (tl s)).drop i = [] := by
  refine ⟨?_, List.drop_eq_nil_of_le (by unfold rks; rw [List.length_map, tl_size]; exact h)⟩
  unfold rkI
  rw [List.getElem?_eq_none (by rw [tl_size]; exact h)]
/-- One sign more. -/
theorem lex_step (a b : ByteArray) (i : Nat) (h : i < max a.size b.size) : lex ((rks (tl a)).drop i) ((rks (tl b)).drop i) = if ci (rkI a i) (rkI b i) = 0 then lex ((rks (tl a)).drop (i + 1)) ((rks (tl b)).drop (i + 1)) else ci (rkI a i) (rkI b i) := by
  by_cases ca : i < a.size
  · obtain ⟨x, hx, ex, dx⟩ := rk_drop a i ca
    by_cases cb : i < b.size
    · obtain ⟨y, hy, ey, dy⟩ := rk_drop b i cb
      rw [ex, ey, dx, dy, lex_cons]
      by_cases c1 : x < y
      · rw [if_pos c1, ci_lt (by omega), if_neg (by decide)]
      · by_cases c2 : y < x
        · rw [if_neg c1, if_pos c2, ci_gt (by omega), if_neg (by decide)]
        · rw [if_neg c1, if_neg c2, ci_eq (by omega), if_pos rfl]
    · obtain ⟨ey, dy⟩ := rk_past b i (by omega)
      rw [ex, ey, dx, dy, ci_gt (by omega), if_neg (by decide)]
      rfl
  · obtain ⟨ex, dx⟩ := rk_past a i (by omega)
    obtain ⟨y, hy, ey, dy⟩ := rk_drop b i (by omega)
    rw [ex, ey, dx, dy, ci_lt (by omega), if_neg (by decide)]
    rfl
section
attribute [local go_sem] Go.Proofs.Ytcgnkbdfoaiaiaa.HMin.max2_mx Go.Proofs.Ytcgnkbdfoaiaiaa.HMin.min2_mn max_two min_two
set_option maxRecDepth 100000 in
set_option maxHeartbeats 4000000 in
theorem compare_run (a b : ByteArray) (ha : a.size ≤ 1000000000000) (hb : b.size ≤ 1000000000000) (w : World) : Calls Try.prog 35 #[.string a, .string b] w fun e w' => e = .returned (.int .i64 (pcmp (tl a) (tl b))) ∧ Drawn0 w w' := by
  obtain ⟨M, hM⟩ : ∃ M, M = max a.size b.size := ⟨_, rfl⟩
  have hmx : mx (a.size : Int) (b.size : Int) = (M : Int) := by unfold mx; split <;> omega
  have hMl : M ≤ 1000000000000 := by omega
  have HM := Lib.hid hM
  obtain ⟨r, hr⟩ : ∃ r, r = pcmp (tl a) (tl b) := ⟨_, rfl⟩
  rw [← hr]
  have HR := Lib.hid (show lex ((rks (tl a)).drop 0) ((rks (tl b)).drop 0) = r by rw [hr]; rfl)
  clear hM hr
  go_enter Try.func35, Try.ntmps35
  go_wp2
  go_loopw [12] (fun v12 wr => ∃ i : Nat, v12 = .int .i64 (i : Int) ∧ i ≤ M ∧ Hid (lex ((rks (tl a)).drop i) ((rks (tl b)).drop i) = r) ∧ Hid (Drawn0 w wr)) (fun v12 _ => M - (intOf v12).toNat)
  case atStart => exact ⟨0, rfl, Nat.zero_le _, HR, Lib.hid (Drawn0.refl w)⟩
  case round =>
    obtain ⟨i, rfl, hi, HL, HD⟩ := hrel
    by_cases ci_ : i < M
    · have cb : decide ((i : Int) < (M : Int)) = true := decide_eq_true (by omega)
      have cb' : decide (i < M) = true := decide_eq_true ci_
      have hs := lex_step a b i (by have := HM.out; omega)
      rw [HL.out] at hs
      by_cases hz : ci (rkI a i) (rkI b i) = 0
      · rw [if_pos hz] at hs
        have kz : (ci (rkI a i) (rkI b i) != 0) = false := by rw [hz]; rfl
        have HL2 := Lib.hid hs.symm
        clear hz hs
        go_wp2_with (first | (go_at_call 48; refine (rank_run _ _ _).mono ?_; rintro e w' ⟨rfl, ⟨n1, rfl⟩⟩) | (go_at_call 34; refine (cmp_run _ _ _).mono ?_; rintro e w' ⟨rfl, ⟨n2, rfl⟩⟩))
        exact ⟨⟨i + 1, by simp, ci_, HL2, Lib.hid (by repeat (first | exact HD.out | refine Drawn0.step ?_ _))⟩, by simp [intOf]; omega⟩
      · rw [if_neg hz] at hs
        have kz : (ci (rkI a i) (rkI b i) != 0) = true := bne_iff_ne.2 hz
        have HL2 := Lib.hid hs
        clear hz hs
        go_wp2_with (first | (go_at_call 48; refine (rank_run _ _ _).mono ?_; rintro e w' ⟨rfl, ⟨n1, rfl⟩⟩) | (go_at_call 34; refine (cmp_run _ _ _).mono ?_; rintro e w' ⟨rfl, ⟨n2, rfl⟩⟩))
        go_ret
        exact ⟨by rw [HL2.out]; rfl, by repeat (first | exact HD.out | refine Drawn0.step ?_ _)⟩
    · have cb : decide ((i : Int) < (M : Int)) = false := decide_eq_false (by omega)
      have cb' : decide (i < M) = false := decide_eq_false ci_
      obtain rfl : i = M := by omega
      have HL2 := Lib.hid (show r = 0 by
        have h := HL.out
        rw [(rk_past a i (by have := HM.out; omega)).2, (rk_past b i (by have := HM.out; omega)).2] at h
        exact h.symm)
      clear HL
      go_wp2
      go_ret
      exact ⟨by rw [HL2.out]; rfl, HD.out⟩
end
end Go.Proofs.Ytcgnkbdfoaiaiaa.P
end
section
/- The two comparisons of the program's rename: which candidate is better, which To is less. -/
set_option linter.unusedVariables false
set_option linter.unusedSimpArgs false
namespace Go.Proofs.Ytcgnkbdfoaiaiaa.P
open Go Go.RowKit Go.Sort Go.Proofs.YtcgnkbdfoaiaiaaW.PrintWords Go.Proofs.YtcgnkbdfoaiaiaaW.PrintLast Go.Proofs.YtcgnkbdfoaiaiaaW.PrintMore Go.Proofs.Ytcgnkbdfoaiaiaa.Q
/-- The first number that is none of nought. -/
def or3 (x y z : Int) : Int := if x ≠ 0 then x else if y ≠ 0 then y else z
set_option maxRecDepth 100000 in
set_option maxHeartbeats 4000000 in
theorem or_run (b : Nat) (x y z : Int) (w : World) (h0 : w.cell? ⟨b, 0, none⟩ = some (.int .i64 x)) (h1 : w.cell? ⟨b, 1, none⟩ = some (.int .i64 y)) (h2 : w.cell? ⟨b, 2, none⟩ = some (.int .i64 z)) :
    Calls Try.prog 33 #[.slice (some ⟨b, 0, none⟩) 3 3] w fun e w' => e = .returned (.int .i64 (or3 x y z)) ∧ w' = w := by
  obtain ⟨r, hr⟩ : ∃ r, r = or3 x y z := ⟨_, rfl⟩
  rw [← hr]
  have HR := Lib.hid hr
  clear hr
  go_enter Try.func33, Try.ntmps33
  go_wp2
  go_loop [8] (fun v8 => ∃ i : Nat, v8 = .int .i64 (i : Int) ∧ i ≤ 3 ∧ Hid ((1 ≤ i → x = 0) ∧ (2 ≤ i → y = 0) ∧ (3 ≤ i → z = 0))) (fun v8 => 3 - (intOf v8).toNat)
  case atStart => exact ⟨0, rfl, by omega, Lib.hid ⟨by omega, by omega, by omega⟩⟩
  case round =>
    obtain ⟨i, rfl, hi, HZ⟩ := hrel
    have hh : i = 0 ∨ i = 1 ∨ i = 2 ∨ i = 3 := by omega
    rcases hh with rfl | rfl | rfl | rfl
    · by_cases hz : x = 0
      · have kz : (x != 0) = false := by rw [hz]; rfl
        have HX := Lib.hid hz
        clear hz
        go_wp2
        exact ⟨⟨1, by simp, by omega, Lib.hid ⟨fun _ => HX.out, by omega, by omega⟩⟩, by simp [intOf]⟩
      · have kz : (x != 0) = true := bne_iff_ne.2 hz
        have HX := Lib.hid (show r = x by rw [HR.out]; unfold or3; rw [if_pos hz])
        clear hz
        go_wp2
        go_ret
        exact ⟨by rw [HX.out]; rfl, rfl⟩
    · by_cases hz : y = 0
      · have kz : (y != 0) = false := by rw [hz]; rfl
        have HX := Lib.hid hz
        clear hz
        go_wp2
        exact ⟨⟨2, by simp, by omega, Lib.hid ⟨fun _ => HZ.out.1 (by omega), fun _ => HX.out, by omega⟩⟩, by simp [intOf]⟩
      · have kz : (y != 0) = true := bne_iff_ne.2 hz
        have HX := Lib.hid (show r = y by rw [HR.out]; unfold or3; rw [if_neg (by simp [HZ.out.1 (by omega)]), if_pos hz])
        clear hz
        go_wp2
        go_ret
        exact ⟨by rw [HX.out]; rfl, rfl⟩
    · by_cases hz : z = 0
      · have kz : (z != 0) = false := by rw [hz]; rfl
        have HX := Lib.hid hz
        clear hz
        go_wp2
        exact ⟨⟨3, by simp, by omega, Lib.hid ⟨fun _ => HZ.out.1 (by omega), fun _ => HZ.out.2.1 (by omega), fun _ => HX.out⟩⟩, by simp [intOf]⟩
      · have kz : (z != 0) = true := bne_iff_ne.2 hz
        have HX := Lib.hid (show r = z by rw [HR.out]; unfold or3; rw [if_neg (by simp [HZ.out.1 (by omega)]), if_neg (by simp [HZ.out.2.1 (by omega)])])
        clear hz
        go_wp2
        go_ret
        exact ⟨by rw [HX.out]; rfl, rfl⟩
    · have HX := Lib.hid (show r = 0 by rw [HR.out]; unfold or3; rw [if_neg (by simp [HZ.out.1 (by omega)]), if_neg (by simp [HZ.out.2.1 (by omega)])]; exact HZ.out.2.2 (by omega))
      go_wp2
      go_ret
      exact ⟨by rw [HX.out]; rfl, rfl⟩
def firstC (x y : Pr) : Int := pcmp (tl x.val.f1) (tl y.val.f1)
def betterC (x y : Pr) : Int := or3 (ci y.val.f2 x.val.f2) (pcmp (tl x.val.f0) (tl y.val.f0)) (pcmp (tl x.val.f1) (tl y.val.f1))
set_option maxRecDepth 100000 in
set_option maxHeartbeats 4000000 in
theorem first_run : CmpCalls 19 firstC := by
  intro x y W
  have hx := x.property
  have hy := y.property
  have HC := Lib.hid (fun W' => compare_run x.val.f1 y.val.f1 (by omega) (by omega) W')
  unfold firstC
  clear hx hy
  go_enter Try.func19, Try.ntmps19
  go_wp2_with (first | (go_at_call 35; refine (HC.out _).mono ?_; rintro e w' ⟨rfl, ⟨n, rfl⟩⟩))
  go_ret
  exact ⟨rfl, n, (#[Obj.cells #[Value.string x.val.f0, Value.string x.val.f1, Value.int IntKind.i64 x.val.f2] 35] ++ #[Obj.cells #[Value.string y.val.f0, Value.string y.val.f1, Value.int IntKind.i64 y.val.f2] 35]), by rw [alloc_eq_grow, alloc_eq_grow, grow_grow, drewN_grow_]⟩
set_option maxRecDepth 100000 in
set_option maxHeartbeats 4000000 in
theorem better_run : CmpCalls 17 betterC := by
  intro x y W
  have hx := x.property
  have hy := y.property
  have HC := Lib.hid (fun W' => compare_run x.val.f0 y.val.f0 (by omega) (by omega) W')
  have HD := Lib.hid (fun W' => compare_run x.val.f1 y.val.f1 (by omega) (by omega) W')
  unfold betterC
  clear hx hy
  obtain ⟨X, hX⟩ : ∃ X, X = (W.alloc (.cells #[.string x.val.f0, .string x.val.f1, .int .i64 x.val.f2] 35)).alloc (.cells #[.string y.val.f0, .string y.val.f1, .int .i64 y.val.f2] 35) := ⟨_, rfl⟩
  have q0 : X.heap[W.heap.size]? = some (.cells #[.string x.val.f0, .string x.val.f1, .int .i64 x.val.f2] 35 (0, 0)) := by rw [hX]; exact ((World.grownBy_alloc _ _ none).block _ (by simp) (by simp)).trans (heap_alloc_new W _)
  have q1 : X.heap[W.heap.size + 1]? = some (.cells #[.string y.val.f0, .string y.val.f1, .int .i64 y.val.f2] 35 (0, 0)) := by
    rw [hX]
    have := heap_alloc_new (W.alloc (.cells #[.string x.val.f0, .string x.val.f1, .int .i64 x.val.f2] 35)) (.cells #[.string y.val.f0, .string y.val.f1, .int .i64 y.val.f2] 35)
    simpa using this
  obtain ⟨Z, hZ⟩ : ∃ Z, Z = X.drew := ⟨_, rfl⟩
  have HZX := Lib.hid hZ
  have qz0 : Z.heap[W.heap.size]? = some (.cells #[.string x.val.f0, .string x.val.f1, .int .i64 x.val.f2] 35 (0, 0)) := by rw [hZ]; exact q0
  have qz1 : Z.heap[W.heap.size + 1]? = some (.cells #[.string y.val.f0, .string y.val.f1, .int .i64 y.val.f2] 35 (0, 0)) := by rw [hZ]; exact q1
  have m00 : Z.cell? ⟨W.heap.size, 0, none⟩ = some (.string x.val.f0) := by simp [World.cell?, qz0]
  have m01 : Z.cell? ⟨W.heap.size, 1, none⟩ = some (.string x.val.f1) := by simp [World.cell?, qz0]
  have m02 : Z.cell? ⟨W.heap.size, 2, none⟩ = some (.int .i64 x.val.f2) := by simp [World.cell?, qz0]
  have m10 : Z.cell? ⟨W.heap.size + 1, 0, none⟩ = some (.string y.val.f0) := by simp [World.cell?, qz1]
  have m11 : Z.cell? ⟨W.heap.size + 1, 1, none⟩ = some (.string y.val.f1) := by simp [World.cell?, qz1]
  have m12 : Z.cell? ⟨W.heap.size + 1, 2, none⟩ = some (.int .i64 y.val.f2) := by simp [World.cell?, qz1]
  have HZ8 := Lib.hid (show ∀ b ∈ [W.heap.size, W.heap.size + 1], b < Z.heap.size by intro b hb; simp at hb; rcases hb with rfl | rfl; exact blk_lt qz0; exact blk_lt qz1)
  have HX := Lib.hid hX
  clear hX hZ q0 q1 qz0 qz1
  go_enter Try.func17, Try.ntmps17
  go_wp2_with (first | rw [← HX.out])
  refine (wpIn_wide (n := 9)).1 ?_
  refine Held.region 17 (Held.Same Z [W.heap.size, W.heap.size + 1]) (by kernel_rfl) ?_
  first | rw [← HZX.out] | rw [← HX.out, ← HZX.out]
  have hT := Held.Same.refl Z [W.heap.size, W.heap.size + 1]
  refine Held.tk (i := 0) rfl hT ?_
  try simp only [Act.put, List.setIfInBounds_toArray, List.set_cons_zero, List.set_cons_succ]
  refine Held.tk (i := 1) rfl hT ?_
  try simp only [Act.put, List.setIfInBounds_toArray, List.set_cons_zero, List.set_cons_succ]
  refine Held.tk (i := 2) rfl hT ?_
  try simp only [Act.put, List.setIfInBounds_toArray, List.set_cons_zero, List.set_cons_succ]
  refine Held.tk (i := 3) rfl hT ?_
  try simp only [Act.put, List.setIfInBounds_toArray, List.set_cons_zero, List.set_cons_succ]
  refine Held.tk (i := 5) rfl hT ?_
  try simp only [Act.put, List.setIfInBounds_toArray, List.set_cons_zero, List.set_cons_succ]
  refine Held.tk (i := 6) rfl hT ?_
  try simp only [Act.put, List.setIfInBounds_toArray, List.set_cons_zero, List.set_cons_succ]
  refine Held.tk (i := 7) rfl hT ?_
  try simp only [Act.put, List.setIfInBounds_toArray, List.set_cons_zero, List.set_cons_succ]
  refine Held.tk (i := 8) rfl hT ?_
  try simp only [Act.put, List.setIfInBounds_toArray, List.set_cons_zero, List.set_cons_succ]
  refine Held.tk (i := 10) rfl hT ?_
  try simp only [Act.put, List.setIfInBounds_toArray, List.set_cons_zero, List.set_cons_succ]
  refine Held.tk (i := 11) rfl hT ?_
  try simp only [Act.put, List.setIfInBounds_toArray, List.set_cons_zero, List.set_cons_succ]
  refine Held.tk (i := 12) rfl hT ?_
  try simp only [Act.put, List.setIfInBounds_toArray, List.set_cons_zero, List.set_cons_succ]
  refine Held.tk (i := 13) rfl hT ?_
  try simp only [Act.put, List.setIfInBounds_toArray, List.set_cons_zero, List.set_cons_succ]
  refine Held.AnyS.step (i := 4) rfl (by kernel_rfl) rfl (fun K hK => ?_)
  go_simp
  first | refine ⟨trivial, ?_⟩ | skip
  refine (callsIn_wide.2 (cmp_run y.val.f2 x.val.f2 Z)).mono ?_
  rintro e w1 ⟨rfl, ⟨n1, rfl⟩⟩
  have hT1 : Held.Same Z [W.heap.size, W.heap.size + 1] (Z.drewN n1) := hT
  refine hK.out _ _ (fun _ => hT1) ?_
  clear hK K
  try simp only [Act.put, List.setIfInBounds_toArray, List.set_cons_zero, List.set_cons_succ]
  refine Held.AnyS.step (i := 9) rfl (by kernel_rfl) rfl (fun K hK => ?_)
  go_simp
  first | refine ⟨trivial, ?_⟩ | skip
  refine (callsIn_wide.2 (HC.out (Z.drewN n1))).mono ?_
  rintro e w1 ⟨rfl, ⟨n2, rfl⟩⟩
  have hT2 : Held.Same Z [W.heap.size, W.heap.size + 1] ((Z.drewN n1).drewN n2) := hT
  refine hK.out _ _ (fun _ => hT2) ?_
  clear hK K
  try simp only [Act.put, List.setIfInBounds_toArray, List.set_cons_zero, List.set_cons_succ]
  refine Held.AnyS.step (i := 14) rfl (by kernel_rfl) rfl (fun K hK => ?_)
  go_simp
  first | refine ⟨trivial, ?_⟩ | skip
  refine (callsIn_wide.2 (HD.out (Z.drewN (n1 + n2)))).mono ?_
  rintro e w1 ⟨rfl, ⟨n3, rfl⟩⟩
  have hT3 : Held.Same Z [W.heap.size, W.heap.size + 1] ((Z.drewN (n1 + n2)).drewN n3) := hT
  refine hK.out _ _ (fun _ => hT3) ?_
  clear hK K
  try simp only [Act.put, List.setIfInBounds_toArray, List.set_cons_zero, List.set_cons_succ]
  refine Held.AnyS.step (i := 15) rfl (by kernel_rfl) rfl (fun K hK => ?_)
  go_simp
  obtain ⟨V, hV⟩ : ∃ V, V = (Z.drewN (n1 + n2 + n3)).alloc (.cells #[.int .i64 (ci y.val.f2 x.val.f2), .int .i64 (pcmp (tl x.val.f0) (tl y.val.f0)), .int .i64 (pcmp (tl x.val.f1) (tl y.val.f1))] 3) := ⟨_, rfl⟩
  have qv : V.heap[Z.heap.size]? = some (.cells #[.int .i64 (ci y.val.f2 x.val.f2), .int .i64 (pcmp (tl x.val.f0) (tl y.val.f0)), .int .i64 (pcmp (tl x.val.f1) (tl y.val.f1))] 3 (0, 0)) := by rw [hV]; exact heap_alloc_new (Z.drewN (n1 + n2 + n3)) _
  have hT4 : Held.Same Z [W.heap.size, W.heap.size + 1] V := by
    rw [hV]
    exact Held.Same.grown (w := Z.drewN (n1 + n2 + n3)) hT (World.grownBy_alloc _ _ none) (fun b hb => ⟨HZ8.out b hb, by simp⟩)
  have HO := Lib.hid (or_run Z.heap.size (ci y.val.f2 x.val.f2) (pcmp (tl x.val.f0) (tl y.val.f0)) (pcmp (tl x.val.f1) (tl y.val.f1)) V ((blk_cell qv 0).trans rfl) ((blk_cell qv 1).trans rfl) ((blk_cell qv 2).trans rfl))
  try rw [← hV]
  refine hK.out _ _ (fun _ => hT4) ?_
  clear hK K
  try simp only [Act.put, List.setIfInBounds_toArray, List.set_cons_zero, List.set_cons_succ]
  refine Held.AnyS.step (i := 16) rfl (by kernel_rfl) rfl (fun K hK => ?_)
  clear qv
  have HV := Lib.hid hV
  clear hV
  go_simp
  first | refine ⟨trivial, ?_⟩ | skip
  refine (callsIn_wide.2 HO.out).mono ?_
  rintro e w1 ⟨rfl, rfl⟩
  refine hK.out _ _ (fun _ => hT4) ?_
  clear hK K
  try simp only [Act.put, List.setIfInBounds_toArray, List.set_cons_zero, List.set_cons_succ]
  refine Held.AnyS.step (i := 17) rfl (by kernel_rfl) rfl (fun K hK => ?_)
  go_simp
  refine hK.out _ _ (fun h => absurd h (by omega)) ?_
  clear hK K hT hT1 hT2 hT3 hT4
  refine Held.AnyS.done (by kernel_rfl) ?_ _
  go_simp
  go_wp2
  go_ret
  refine ⟨rfl, 1 + (n1 + n2 + n3), (#[Obj.cells #[Value.string x.val.f0, Value.string x.val.f1, Value.int IntKind.i64 x.val.f2] 35] ++ #[Obj.cells #[Value.string y.val.f0, Value.string y.val.f1, Value.int IntKind.i64 y.val.f2] 35]) ++ #[.cells #[.int .i64 (ci y.val.f2 x.val.f2), .int .i64 (pcmp (tl x.val.f0) (tl y.val.f0)), .int .i64 (pcmp (tl x.val.f1) (tl y.val.f1))] 3], ?_⟩
  rw [HV.out, HZX.out, HX.out, alloc_eq_grow, alloc_eq_grow, alloc_eq_grow, grow_grow, World.drewN_drew, drewN_grow_, grow_grow]
end Go.Proofs.Ytcgnkbdfoaiaiaa.P
end
section
/- Words of this session: a range over a function whose iterator keeps state of its own in one block of cells. -/
set_option linter.unusedVariables false
namespace Go.Proofs.Ytcgnkbdfoaiaiaa.Rng
open Go Go.RowKit
/-- I minds neither new blocks, nor a turn of the iterator's block st, nor of a block from B on that holds no cells. -/
def Bides {β : Type} (B st : Nat) (I : β → World → Prop) : Prop :=
  ∀ s X Y row, I s X → X.grownBy Y row → (∀ r, row = some r → r = st ∨ (B ≤ r ∧ ∃ o : Obj, X.heap[r]? = some o ∧ o.isCells = false)) → I s Y
theorem Bides.alloc {β : Type} {B st : Nat} {I : β → World → Prop} (h : Bides B st I) {s : β} {W : World} (o : Obj) (hs : I s W) : I s (W.alloc o) :=
  h s W _ none hs (World.grownBy_alloc W o none) (fun r e => by cases e)
theorem Bides.put {β : Type} {B st : Nat} {I : β → World → Prop} (h : Bides B st I) {s : β} {W : World} {l : Nat} {o : Obj} (o' : Obj) (hs : I s W) (hB : B ≤ l) (hl : W.heap[l]? = some o) (ho : o.isCells = false) : I s (W.putObj l o') :=
  h s W _ (some l) hs (grownBy_putObj' W l o') (fun r e => by cases e; exact .inr ⟨hB, o, hl, ho⟩)
/-- What an iterator promises: all comes, in its order, or the rounds have said 'no more'. st: its own block, by the heap's size at its call. -/
def Seq {α : Type} (F : Fence) (n : Nat) (P : Program) (g : Nat) (lb : Array Value) (encs : α → Array Value) (st : Nat → Nat) (Kp : Nat → World → World → Prop) (all : List α) (w : World) : Prop :=
  ∀ (l : Nat) (J Jx : List α → World → Prop) (W : World), Below w.heap.size w W →
    (∀ s X Y row, J s X → X.grownBy Y row → (∀ r, row = some r → r = st W.heap.size) → J s Y) →
    (∀ s X Y row, Jx s X → X.grownBy Y row → (∀ r, row = some r → r = st W.heap.size) → Jx s Y) →
    (∀ pre x post X, all = pre ++ x :: post → J pre X → YieldAt F (n - 1) P l (encs x) X fun e Y =>
      (e = .returned (.bool true) ∧ J (pre ++ [x]) Y ∧ Kp W.heap.size X Y) ∨ (e = .returned (.bool false) ∧ Jx (pre ++ [x]) Y)) →
    J [] W →
    CallsIn F n P g (#[.func (.yield l) #[] #[]] ++ lb) W fun e Y => (∃ v, e = .returned v) ∧ (J all Y ∨ ∃ pre, pre <+: all ∧ Jx pre Y)
/-- How a round's body may be left. -/
def Left {α : Type} (B : Nat) (Kp : World → World → Prop) (I : List α → World → Prop) (Ix : Code → List α → World → Prop) (xs : List α) (W : World) : Exit → Act → World → Prop
  | .normal, _, Y => KeepsFrom B W Y ∧ Kp W Y ∧ I xs Y
  | .ret, _, Y => KeepsFrom B W Y ∧ Ix .ret xs Y
  | .exit id, _, Y => KeepsFrom B W Y ∧ Ix (.exit id) xs Y
  | .goto t, _, Y => KeepsFrom B W Y ∧ Ix (.goto t) xs Y
  | .panic _, _, _ => False
  | .outgrown, _, _ => False
variable {F : Fence} {n : Nat} {P : Program}
set_option maxHeartbeats 1000000 in
/-- The statement: by the iterator's promise, an invariant I between two rounds, Ix behind a jump, and one walk of the body. -/
theorem range {α : Type} {g : Operand} {ps : Array Tmp} {assign body : Code} {Q : Exit → Act → World → Prop} {a : Act} {w w0 : World} {gf : Nat} {lb : Array Value} {encs : α → Array Value} {st : Nat → Nat} {Kp : Nat → World → World → Prop} {all : List α}
    (hro : F.round = none) (h1 : 1 ≤ n) (hg : a.eval g = .func (.func gf) #[] lb) (hFg : F.fn gf) (eg : ∀ args w, (callFunc gf args).run P w = .ok (.enter gf args) w)
    (hseq : Seq F (n - 1) P gf lb encs st Kp all w0) (hb0 : Below w0.heap.size w0 w) (hps : ∀ x, (encs x).size = ps.size)
    (hst : st (w.heap.size + 2) ≠ w.heap.size ∧ st (w.heap.size + 2) ≠ w.heap.size + 1)
    (hKt : ∀ {X Y Z : World}, Kp (w.heap.size + 2) X Y → Kp (w.heap.size + 2) Y Z → Kp (w.heap.size + 2) X Z)
    (hKb : ∀ (W : World) (l : Nat) (o' : Obj), (l = w.heap.size ∨ l = w.heap.size + 1) → l < W.heap.size → Kp (w.heap.size + 2) W (W.putObj l o'))
    (I : List α → World → Prop) (Ix : Code → List α → World → Prop) (hI : Bides w.heap.size (st (w.heap.size + 2)) I) (hIx : ∀ c, Bides w.heap.size (st (w.heap.size + 2)) (Ix c)) (h0 : I [] w)
    (Ax : α → Act → World → Prop) (hAx : ∀ x a', Bides w.heap.size (st (w.heap.size + 2)) (fun (_ : Unit) W => Ax x a' W))
    (hassign : ∀ (l : Nat) (pre : List α) (x : α) (post : List α) (W : World) (K : Act → World → Prop), all = pre ++ x :: post → I pre W →
      (∀ a' Y, KeepsFrom w.heap.size W Y → Kp (w.heap.size + 2) W Y → I pre Y → Ax x a' Y → K a' Y) →
      assign.wpIn (F.inRound l) (n - 1 - 1) P (Exit.then K (fun _ _ _ => False)) { tmps := (ps.zip (encs x)).foldl (fun t (p, v) => t.setIfInBounds p v) a.tmps, defers := [] } W)
    (hbody : ∀ (l : Nat) (pre : List α) (x : α) (post : List α) (a' : Act) (W : World), w.heap.size ≤ l → (∃ r, W.heap[l]? = some (.loop r)) → w.heap.size + 1 < W.heap.size → all = pre ++ x :: post → I pre W → Ax x a' W →
      body.wpIn (F.inRound l) (n - 1 - 1) P (Left w.heap.size (Kp (w.heap.size + 2)) I Ix (pre ++ [x]) W) a' W)
    (hdone : ∀ (W : World), I all W → W.heap[w.heap.size]? = some (.deferred (some [])) → Q .normal { a with defers := { target := .collected w.heap.size, args := #[] } :: a.defers } W)
    (hstop : ∀ (c : Code) (pre : List α) (W : World), pre <+: all → Ix c pre W → W.heap[w.heap.size]? = some (.deferred (some [])) → c.wpIn F n P Q { a with defers := { target := .collected w.heap.size, args := #[] } :: a.defers } W) :
    (Code.rangeFunc g ps assign body).wpIn F n P Q a w := by
  refine wpIn_rangeFunc fun fn hfn => ?_
  rw [hro]
  obtain ⟨B, hB⟩ : ∃ B, B = w.heap.size := ⟨_, rfl⟩
  rw [← hB] at hst hKb hI hIx hAx hassign hbody hdone hstop
  obtain ⟨rc, hrc⟩ : ∃ rc : LoopState → Option Code → Loop, rc = fun s p => { state := s, pending := p, fn, tmps := a.tmps, params := ps, assign, body, defers := B } := ⟨_, rfl⟩
  obtain ⟨V, hV⟩ : ∃ V, (w.alloc (.deferred (some []))).alloc (.loop (rc .ready none)) = V := ⟨_, rfl⟩
  have sz : V.heap.size = B + 2 := by rw [← hV, hB]; simp
  have loopV : V.heap[B + 1]? = some (.loop (rc .ready none)) := by
    have h := World.alloc_heap_new (w.alloc (.deferred (some []))) (.loop (rc .ready none))
    rw [World.size_alloc, ← hB, hV] at h
    exact h
  have defV : V.heap[B]? = some (.deferred (some [])) := by
    rw [← hV, hB]
    exact (Below.heap_alloc _ _ _ (by simp)).trans (World.alloc_heap_new w _)
  have belV : Below w0.heap.size w0 V := by
    rw [← hV]
    exact hb0.trans ((((Below.refl _ w).alloc (Nat.le_refl _) _).alloc (by simp) _).mono hb0.size)
  have IV : I [] V := by rw [← hV]; exact hI.alloc _ (hI.alloc _ h0)
  have ctr := hseq (B + 1)
    (fun pre W => I pre W ∧ W.heap[B + 1]? = some (.loop (rc .ready none)) ∧ W.heap[B]? = some (.deferred (some [])))
    (fun pre W => ∃ c, Ix c pre W ∧ W.heap[B + 1]? = some (.loop (rc .done (some c))) ∧ W.heap[B]? = some (.deferred (some []))) V belV
  rw [sz] at ctr
  have stay : ∀ {X Y : World} {row : Option Nat} {k : Nat} {o : Obj}, (k = B ∨ k = B + 1) → X.grownBy Y row → (∀ r, row = some r → r = st (B + 2)) → X.heap[k]? = some o → Y.heap[k]? = some o := by
    intro X Y row k o hk hg hr ho
    refine (hg.block k (Array.getElem?_eq_some_iff.1 ho).1 fun e => ?_).trans ho
    have h2 := hr k e.symm
    rcases hk with rfl | rfl
    · exact hst.1 h2.symm
    · exact hst.2 h2.symm
  have hlB : B ≤ B + 1 := Nat.le_succ _
  refine ⟨B + 1, [{ target := .collected B, args := #[] }], V, { target := .fn (.func gf) lb, args := #[.func (.yield (B + 1)) #[] #[]] }, V, gf, #[.func (.yield (B + 1)) #[] #[]] ++ lb, V, ?_, ?_, ?_, ?_, fun _ => h1, ?_⟩
  · rw [← hV, hrc, hB]
    exact run_enterLoop_outer _ _ _ _ _
  · simp only [resolve, hg]
    simp [go_sem]
  · intro f' hf'
    simp [Target.leads] at hf'
    subst hf'
    exact hFg
  · simp [invoke, go_sem, eg]
  refine (ctr ?_ ?_ ?_ ⟨IV, loopV, defV⟩).mono ?_
  · rintro s X Y row ⟨hi, hl, hd⟩ hg hr
    exact ⟨hI s X Y row hi hg (fun r e => .inl (hr r e)), stay (.inr rfl) hg hr hl, stay (.inl rfl) hg hr hd⟩
  · rintro s X Y row ⟨c, hi, hl, hd⟩ hg hr
    exact ⟨c, hIx c s X Y row hi hg (fun r e => .inl (hr r e)), stay (.inr rfl) hg hr hl, stay (.inl rfl) hg hr hd⟩
  · rintro pre x post X hall ⟨hi, hl, hd⟩
    have hy := run_yield (P := P) (args := encs x) hl (by rw [hrc]; exact hps x)
    rw [hrc] at hy
    refine ⟨fn, _, assign, body, hy, roundIn_of_wpIn hfn (hassign _ pre x post X _ hall hi ?_)⟩
    intro a' Y kf kp hi' hax
    have hlY := kf.same _ _ (by omega) hl rfl
    have hdY := kf.same _ _ (by omega) hd rfl
    have ltY : B + 1 < Y.heap.size := (Array.getElem?_eq_some_iff.1 hlY).1
    refine ⟨_, run_beginRound hlY (by rw [hrc]), ?_⟩
    obtain ⟨Z, hZ⟩ : ∃ Z, Y.putObj (B + 1) (.loop { rc .ready none with state := .busy }) = Z := ⟨_, rfl⟩
    rw [hZ]
    have hlZ : Z.heap[B + 1]? = some (.loop { rc .ready none with state := .busy }) := by rw [← hZ]; exact World.putObj_heap_same ltY
    have hdZ : Z.heap[B]? = some (.deferred (some [])) := by rw [← hZ]; exact (World.putObj_heap_other (by omega)).trans hdY
    have iZ : I pre Z := by rw [← hZ]; exact hI.put _ hi' hlB hlY rfl
    have aZ : Ax x a' Z := by rw [← hZ]; exact (hAx x a').put (s := ()) _ hax hlB hlY rfl
    have kZ : Kp (B + 2) X Z := by rw [← hZ, hB]; exact hKt (by rw [← hB]; exact kp) (by rw [← hB]; exact hKb Y _ _ (.inr rfl) ltY)
    have ltZ : B + 1 < Z.heap.size := (Array.getElem?_eq_some_iff.1 hlZ).1
    refine wpIn_mono (hbody _ pre x post a' Z hlB ⟨_, hlZ⟩ ltZ hall iZ aZ) ?_
    have fin : ∀ (j : Option Code) (U : World), KeepsFrom B Z U → U.heap[B + 1]? = some (.loop { rc .ready none with state := .busy }) ∧
        (Instr.endRound (B + 1) j).run P U = .ok (.bool j.isNone) (U.putObj (B + 1) (.loop (rc (if j.isNone then .ready else .done) j))) ∧
        (U.putObj (B + 1) (.loop (rc (if j.isNone then .ready else .done) j))).heap[B + 1]? = some (.loop (rc (if j.isNone then .ready else .done) j)) ∧
        (U.putObj (B + 1) (.loop (rc (if j.isNone then .ready else .done) j))).heap[B]? = some (.deferred (some [])) := by
      intro j U kU
      have hlU := kU.same _ _ (by omega) hlZ rfl
      have hdU := kU.same _ _ (by omega) hdZ rfl
      have he := run_endRound (P := P) j hlU
      refine ⟨hlU, ?_, World.putObj_heap_same (Array.getElem?_eq_some_iff.1 hlU).1, (World.putObj_heap_other (by omega)).trans hdU⟩
      rw [hrc] at he ⊢
      exact he
    rintro e a3 U hp
    cases e with
    | normal =>
      obtain ⟨k3, kp3, i3⟩ := hp
      obtain ⟨hlU, he, h5, h6⟩ := fin none U k3
      refine ⟨_, _, he, .inl ⟨rfl, ⟨hI.put _ i3 hlB hlU rfl, h5, h6⟩, ?_⟩⟩
      rw [hB] at kZ kp3 ⊢
      exact hKt (hKt kZ kp3) (by rw [← hB]; exact hKb U _ _ (.inr rfl) (Array.getElem?_eq_some_iff.1 hlU).1)
    | ret =>
      obtain ⟨k3, i3⟩ := hp
      obtain ⟨hlU, he, h5, h6⟩ := fin (some .ret) U k3
      exact ⟨_, _, he, .inr ⟨rfl, .ret, (hIx _).put _ i3 hlB hlU rfl, h5, h6⟩⟩
    | exit id =>
      obtain ⟨k3, i3⟩ := hp
      obtain ⟨hlU, he, h5, h6⟩ := fin (some (.exit id)) U k3
      exact ⟨_, _, he, .inr ⟨rfl, .exit id, (hIx _).put _ i3 hlB hlU rfl, h5, h6⟩⟩
    | goto t =>
      obtain ⟨k3, i3⟩ := hp
      obtain ⟨hlU, he, h5, h6⟩ := fin (some (.goto t)) U k3
      exact ⟨_, _, he, .inr ⟨rfl, .goto t, (hIx _).put _ i3 hlB hlU rfl, h5, h6⟩⟩
    | panic ch => exact hp.elim
    | outgrown => exact hp.elim
  · rintro e U ⟨⟨v, rfl⟩, h⟩
    rcases h with ⟨hi, hl, hd⟩ | ⟨pre, hpre, c, hi, hl, hd⟩
    · have he := run_endLoop (P := P) hl (by rw [hrc]; simp)
      rw [hrc] at he
      exact ⟨none, _, he, hdone _ (hI.put _ hi hlB hl rfl) ((World.putObj_heap_other (by omega)).trans hd)⟩
    · have he := run_endLoop (P := P) hl (by rw [hrc]; simp)
      rw [hrc] at he
      exact ⟨some c, _, he, hstop c pre _ hpre ((hIx c).put _ hi hlB hl rfl) ((World.putObj_heap_other (by omega)).trans hd)⟩
end Go.Proofs.Ytcgnkbdfoaiaiaa.Rng
end
section
/- Lines of a text: plain lists. -/
set_option linter.unusedVariables false
set_option linter.unusedSimpArgs false
namespace Go.Proofs.Ytcgnkbdfoaiaiaa.Q
open Go
/-- The lines of some bytes: each ends with its line feed, but for the last one. -/
def lnL : List UInt8 → List (List UInt8)
  | [] => []
  | c :: cs => if c = 10 then [c] :: lnL cs else match lnL cs with
    | [] => [[c]]
    | l :: ls => (c :: l) :: ls
def bts (l : List UInt8) : ByteArray := ⟨l.toArray⟩
def lines (s : ByteArray) : List ByteArray := (lnL s.data.toList).map bts
/-- How many bytes the first line has, by where the first line feed stands. -/
def firstLen (l : List UInt8) : Nat := if Lib.indexByte l 10 = -1 then l.length else (Lib.indexByte l 10 + 1).toNat
theorem lnL_cons (c : UInt8) (cs : List UInt8) : lnL (c :: cs) = if c = 10 then [c] :: lnL cs else match lnL cs with
    | [] => [[c]]
    | l :: ls => (c :: l) :: ls := rfl
theorem lnL_step (l : List UInt8) (h : l ≠ []) : lnL l = l.take (firstLen l) :: lnL (l.drop (firstLen l)) ∧ 1 ≤ firstLen l ∧ firstLen l ≤ l.length := by
  induction l with
  | nil => exact absurd rfl h
  | cons c cs ih =>
    have hge := Lib.indexByte_ge cs 10
    rw [lnL_cons]
    by_cases hc : c = 10
    · have e : firstLen (c :: cs) = 1 := by simp [firstLen, Lib.indexByte, hc]
      rw [if_pos hc, e]
      simp
    · have hx : Lib.indexByte (c :: cs) 10 = if Lib.indexByte cs 10 == -1 then -1 else Lib.indexByte cs 10 + 1 := by
        rw [Lib.indexByte]
        simp [hc]
      rw [if_neg hc]
      cases cs with
      | nil =>
        have e : firstLen [c] = 1 := by simp [firstLen, Lib.indexByte, hc]
        rw [e]
        simp [lnL]
      | cons d ds =>
        obtain ⟨h1, h2, h3⟩ := ih (by simp)
        have e : firstLen (c :: d :: ds) = firstLen (d :: ds) + 1 := by
          unfold firstLen at h2 h3 ⊢
          rw [hx]
          by_cases h4 : Lib.indexByte (d :: ds) 10 = -1
          · simp [h4]
          · have h5 : (Lib.indexByte (d :: ds) 10 == -1) = false := by simpa using h4
            rw [h5, if_neg h4]
            simp only [Bool.false_eq_true, if_false]
            rw [if_neg (by omega)]
            omega
        rw [h1, e]
        refine ⟨by simp, by omega, by simp at h3 ⊢; omega⟩
theorem bts_extract (s : ByteArray) (a b : Nat) : s.extract a b = bts ((s.data.toList.drop a).take (b - a)) := by
  unfold bts
  apply ByteArray.ext
  apply Array.toList_inj.1
  rw [ByteArray.data_extract, Array.toList_extract, List.extract_eq_take_drop]
theorem bts_data (s : ByteArray) : bts s.data.toList = s := rfl
theorem data_bts (l : List UInt8) : (bts l).data.toList = l := rfl
theorem lines_step (s : ByteArray) (h : s.data.toList ≠ []) :
    lines s = s.extract 0 (firstLen s.data.toList) :: lines (s.extract (firstLen s.data.toList) s.size) ∧ 1 ≤ firstLen s.data.toList ∧ firstLen s.data.toList ≤ s.size := by
  obtain ⟨h1, h2, h3⟩ := lnL_step _ h
  have h4 : s.data.toList.length = s.size := rfl
  refine ⟨?_, h2, by rw [← h4]; exact h3⟩
  unfold lines
  rw [bts_extract, bts_extract, data_bts, h1, List.map_cons, List.drop_zero, Nat.sub_zero]
  congr 2
  rw [List.take_of_length_le (by rw [List.length_drop, h4]; exact Nat.le_refl _)]
theorem lines_empty (s : ByteArray) (h : s.data.toList = []) : lines s = [] := by unfold lines; rw [h]; rfl
theorem lnL_length_le (l : List UInt8) : (lnL l).length ≤ l.length := by
  induction l with
  | nil => simp [lnL]
  | cons c cs ih =>
    rw [lnL_cons]
    split
    · simp; exact ih
    · split <;> rename_i h <;> simp [h] at ih ⊢
      omega
theorem lines_length_le (s : ByteArray) : (lines s).length ≤ s.size := by
  unfold lines
  rw [List.length_map]
  exact lnL_length_le _
end Go.Proofs.Ytcgnkbdfoaiaiaa.Q
end
