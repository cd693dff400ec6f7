/- rows.lines: an iterator that keeps what is left of a text in a variable of its own: its promise. -/
import Derived.Test.YthjihdfgamdhmaaRng
import Derived.Test.YthjihdfgamdhmaaQRows
import Derived.Test.YthjihdfgamdhmaaProg
import Derived.RangeFuncCalls
import Derived.RangeFuncLeaves
import Derived.Shelf.Abstract
import Derived.Shelf.RegionOpen
import Derived.WalkKit
import Derived.OwnWalkIn
import Derived.TacticsInMore
import Derived.LoopNIn
import Derived.LoopIn
import Derived.Maps.AppendAt
import Derived.RangeFuncBox
import Derived.IntWalk
import Derived.Lib.Hide
import Derived.Outline
set_option linter.unusedVariables false
set_option linter.unusedSimpArgs false
namespace Go.Proofs.Ythjihdfgamdhmaa.Iter
open Go Go.RowKit Go.Shelf Go.Proofs.Ythjihdfgamdhmaa.Rng Go.Proofs.Ythjihdfgamdhmaa.Q
attribute [local go_sem] Oper.semAt_some
set_option maxHeartbeats 1000000 in
theorem lines_in (F : Fence) (n : Nat) (hF : F.fn 15) (hro : F.round = none) (s : ByteArray) (w : World) :
    CallsIn F n Try.prog 15 #[.string s] w fun e w' => e = .returned (.func (.func 17) #[] #[.pointer (some ⟨w.heap.size, 0, none⟩)]) ∧ w' = w.alloc (.cells #[.string s] 9) := by
  refine callsIn_of_wp Try.func15 rfl hF ?_ hro
  simp only [Try.ntmps15, List.size_toArray, List.length_cons, List.length_nil, Nat.reduceAdd, Nat.reduceSub, Array.replicate_succ, Array.replicate_zero, List.push_toArray, List.append_toArray, List.nil_append, List.cons_append]
  gi_wp2
  go_ret
  exact ⟨rfl, rfl⟩
/-- What is left, read off the world. -/
def left (Bs : Nat) (W : World) : Nat := match W.cell? ⟨Bs, 0, none⟩ with
  | some (.string r) => r.size
  | _ => 0
theorem left_eq {W : World} {Bs : Nat} {t : TypeId} {r : ByteArray} (h : Boxed W Bs t (.string r)) : left Bs W = r.size := by
  unfold left
  rw [h.cell]
set_option maxRecDepth 100000 in
set_option maxHeartbeats 2000000 in
theorem lines1_seq (F : Fence) (n : Nat) (hF : F.fn 17) (hI : F.fn 18) (hro : F.round = none) (hn : 1 ≤ n) (hix : ∀ (x : ByteArray) (w : World), CallsIn F (n - 1) Try.prog 18 #[.string x, .string ⟨#[10]⟩] w fun e w' => e = .returned (.int .i64 (Lib.indexByte x.data.toList 10)) ∧ w' = w) (Bs : Nat) (s : ByteArray) (hs : s.size ≤ 9223372036854775807) (w : World) (hb : Boxed w Bs 9 (.string s)) :
    Rng.Seq F n Try.prog 17 #[.pointer (some ⟨Bs, 0, none⟩)] (fun x : ByteArray => #[Value.string x]) (fun _ => Bs) (fun _ W W' => W'.heap[Bs]? = W.heap[Bs]?) (lines s) w := by
  intro l J Jx W hW hJ hJx hY h0
  have hbW : Boxed W Bs 9 (.string s) := (hW.block Bs hb.lt).trans hb
  refine callsIn_of_wp Try.func17 rfl hF ?_ hro
  simp only [Try.ntmps17, List.size_toArray, List.length_cons, List.length_nil, Nat.reduceAdd, Nat.reduceSub, Array.replicate_succ, Array.replicate_zero, List.push_toArray, List.append_toArray, List.nil_append, List.cons_append]
  gi_wp2
  gi_loopw [3] (fun _ wr => ∃ (pre : List ByteArray) (rest : ByteArray), lines s = pre ++ lines rest ∧ rest.size ≤ s.size ∧ Boxed wr Bs 9 (.string rest) ∧ J pre wr) (fun _ wr => left Bs wr)
  case atStart => exact ⟨[], s, rfl, Nat.le_refl _, hbW, h0⟩
  case round =>
    obtain ⟨pre, rest, hall, hle, hbr, hJr⟩ := hrel
    have hc := hbr.cell
    by_cases he : rest.data.toList = []
    · have h1 : rest.toList = [] := by rw [ByteArray.toList_eq]; exact he
      have h2 : (!rest.toList.isEmpty) = false := by rw [h1]; rfl
      gi_wp2
      go_end0
      rw [lines_empty _ he, List.append_nil] at hall
      exact ⟨⟨_, rfl⟩, .inl (by rw [hall]; exact hJr)⟩
    · have h1 : rest.toList.isEmpty = false := by rw [ByteArray.toList_eq]; simpa using he
      obtain ⟨hst, h2, h3⟩ := lines_step rest he
      have hge := Lib.indexByte_ge rest.data.toList 10
      have ct := hix rest wr
      obtain ⟨k, hk⟩ : ∃ k, k = firstLen rest.data.toList := ⟨_, rfl⟩
      have hk' := hk
      unfold firstLen at hk'
      rw [← hk] at h2 h3 hst
      obtain ⟨ix, hx⟩ : ∃ ix, ix = Lib.indexByte rest.data.toList 10 := ⟨_, rfl⟩
      rw [← hx] at hge ct hk'
      have hall' : lines s = pre ++ rest.extract 0 k :: lines (rest.extract k rest.size) := by rw [hall, hst]
      obtain ⟨fn, tmps, assign, body, hy, hR⟩ := hY pre _ _ wr hall' hJr
      have hl4 : rest.data.toList.length = rest.size := rfl
      have HS := Lib.hid hst
      have HX := Lib.hid hx
      have H1 := Lib.hid h1
      have HL := Lib.hid hall
      have HK2 := Lib.hid hk
      have HB := Lib.hid hbr
      by_cases h4 : ix = -1
      · rw [if_pos h4, hl4] at hk'
        have e1 : rest.extract 0 k = rest := by rw [hk']; simp
        rw [e1] at hall' hy hR
        have HK := Lib.hid hk'
        have HA := Lib.hid hall'
        clear hk' hall' hst hx hall hk hl4 e1 hbr
        subst h4
        gi_wp2_with (gi_at_call 18; refine ct.mono ?_; rintro e w' ⟨rfl, rfl⟩)
        refine hR.mono ?_
        rintro e W3 (⟨rfl, hJ3, hk3⟩ | ⟨rfl, hJx3⟩)
        · have hb3 : Boxed W3 Bs 9 (.string rest) := hk3.trans HB.out
          have hc3 := hb3.cell
          have hf3 := hb3.frozen
          gi_wp2
          have hl1 : lines ByteArray.empty = [] := rfl
          have hE : rest.extract k rest.size = ByteArray.empty := by rw [HK.out]; simp
          have HA2 := HA.out
          rw [hE] at HA2
          refine ⟨⟨pre ++ [rest], ByteArray.empty, by rw [HA2]; simp, Nat.zero_le _, hb3.set _, hJ _ _ _ (some Bs) hJ3 (grownBy_setCell' W3 Bs _) (fun r e => by cases e; rfl)⟩, ?_⟩
          rw [left_eq (hb3.set _), left_eq HB.out]
          exact Nat.lt_of_lt_of_le h2 h3
        · gi_wp2
          refine bodyPost_ret (results_none rfl _ _ _) rfl ?_
          exact ⟨⟨_, rfl⟩, .inr ⟨pre ++ [rest], ⟨lines (rest.extract k rest.size), by rw [HA.out]; simp⟩, hJx3⟩⟩
      · have hix0 : 0 ≤ ix := by omega
        rw [if_neg h4] at hk'
        obtain ⟨j, rfl⟩ := Int.eq_ofNat_of_zero_le hix0
        have hkj : k = j + 1 := by omega
        subst hkj
        have HA := Lib.hid hall'
        clear hk' hall' hst hx hall hk hl4 hbr
        gi_wp2_with (gi_at_call 18; refine ct.mono ?_; rintro e w' ⟨rfl, rfl⟩)
        refine hR.mono ?_
        rintro e W3 (⟨rfl, hJ3, hk3⟩ | ⟨rfl, hJx3⟩)
        · have hb3 : Boxed W3 Bs 9 (.string rest) := hk3.trans HB.out
          have hc3 := hb3.cell
          have hf3 := hb3.frozen
          gi_wp2
          refine ⟨⟨pre ++ [rest.extract 0 (j + 1)], rest.extract (j + 1) rest.size, by rw [HA.out]; simp, ?_, hb3.set _, hJ _ _ _ (some Bs) hJ3 (grownBy_setCell' W3 Bs _) (fun r e => by cases e; rfl)⟩, ?_⟩
          · rw [ByteArray.size_extract]; omega
          · rw [left_eq (hb3.set _), left_eq HB.out, ByteArray.size_extract]
            omega
        · gi_wp2
          refine bodyPost_ret (results_none rfl _ _ _) rfl ?_
          exact ⟨⟨_, rfl⟩, .inr ⟨pre ++ [rest.extract 0 (j + 1)], ⟨lines (rest.extract (j + 1) rest.size), by rw [HA.out]; simp⟩, hJx3⟩⟩
end Go.Proofs.Ythjihdfgamdhmaa.Iter
