/- hunks.Script in plain words. · hunks.joined: its contract over a script of the call's own; by a walk of its text. · hunks.Script: its contract; by a walk of its text. -/
import Derived.Test.YtgobidmfbjmpkaaGHk
import Derived.Test.YtgobidmfbjmpkaaPxf26
import Derived.Test.YtgobidmfbjmpkaaPxf16
import Derived.Test.YtgobidmfbjmpkaaGHeld
import Derived.Test.YtgobidmfbjmpkaaPxf34
import Derived.Shelf.Abstract
import Derived.WalkKit
import Derived.OwnWalkIn
import Derived.TacticsInMore
import Derived.LoopNIn
import Derived.LoopIn
import Derived.IntWalk
import Derived.Lib.Hide
import Derived.Outline
import Derived.RangeFuncBox
import Derived.RangeFuncNested
import Derived.Test.YtgobidmfbjmpkaaGMake
import Derived.WalkMore
section
set_option linter.unusedVariables false
namespace Go.Proofs.Ytgobidmfbjmpkaa.P
open Go Go.RowKit Go.Proofs.YtgobidmfbjmpkaaW.PrintWords Go.Proofs.YtgobidmfbjmpkaaW.PrintLast Go.Proofs.YtgobidmfbjmpkaaW.PrintMore Go.Proofs.Ytgobidmfbjmpkaa.HEdits
def kpL (n : Int) : List S31 := if n < 1 then [] else [⟨1, n, []⟩]
/-- The hunks from here on: what is made so far, and how many lines that took. -/
def scrL (k : Nat) : List S28 → List S31 → Int → Option (List S31 × Int)
 | [], s, a => some (s, a)
 | x :: xs, s, a => (script_Spans.f k x.f2).bind fun t =>
  if (0 ≤ x.f0 ∧ x.f0 ≤ 1099511627776) ∧ (0 ≤ a ∧ a ≤ 1099511627776) ∧ (0 ≤ t.1 ∧ t.1 ≤ 549755813888) ∧ wt s + (x.f0 - a).natAbs + 2 + wt x.f2 ≤ 1000000000000 then scrL k xs (joinL (joinL s (kpL (x.f0 - a))) x.f2) (x.f0 + t.1) else none
def hunks_Script.f (k : Nat) (h : List S28) (n : Int) : Option (List S31 × Int) := (hunks_Right.f k h).bind fun r =>
 if r = true ∧ 0 ≤ n ∧ n ≤ 1048576 then (if h.length ≤ 1000000000 then (scrL k h [] 0).bind fun q => if q.2 > n then some ([], 11) else (if 0 ≤ q.2 ∧ wt q.1 + n.natAbs + q.2.natAbs + 2 ≤ 1000000000000 then some (joinL q.1 (kpL (n - q.2)), 0) else none) else none)
 else some ([], 1)
theorem scrL_mono (k : Nat) : ∀ (h : List S28) (s : List S31) (a : Int), LeO (scrL k h s a) (scrL (k + 1) h s a)
 | [], s, a => fun r h => h
 | x :: xs, s, a => fun r h => by
  unfold scrL at h ⊢
  obtain ⟨t, ht, h⟩ := Option.bind_eq_some_iff.1 h
  rw [script_Spans.mono _ _ _ ht]
  show (if _ then _ else none) = some r
  split at h
  ·rename_i hc
   rw [if_pos hc]
   exact scrL_mono k xs _ _ r h
  ·cases h
theorem hunks_Script.mono (a0 : List S28) (a1 : Int) (k : Nat) : LeO (hunks_Script.f k a0 a1) (hunks_Script.f (k + 1) a0 a1) := by
 intro r h
 unfold hunks_Script.f at h ⊢
 obtain ⟨t, ht, h⟩ := Option.bind_eq_some_iff.1 h
 rw [hunks_Right.mono a0 k t ht]
 show (if _ then _ else some _) = some r
 split at h
 ·rename_i hc
  rw [if_pos hc]
  split at h
  ·rename_i hl
   rw [if_pos hl]
   obtain ⟨q, hq, h⟩ := Option.bind_eq_some_iff.1 h
   rw [scrL_mono k _ _ _ q hq]
   exact h
  ·cases h
 ·rename_i hc
  rw [if_neg hc]
  exact h
theorem scrL_cons {k : Nat} {x : S28} {xs : List S28} {s : List S31} {a : Int} {r : List S31 × Int} (h : scrL k (x :: xs) s a = some r) :
  ∃ t, script_Spans.f k x.f2 = some t ∧ ((0 ≤ x.f0 ∧ x.f0 ≤ 1099511627776) ∧ (0 ≤ a ∧ a ≤ 1099511627776) ∧ (0 ≤ t.1 ∧ t.1 ≤ 549755813888) ∧ wt s + (x.f0 - a).natAbs + 2 + wt x.f2 ≤ 1000000000000) ∧ scrL k xs (joinL (joinL s (kpL (x.f0 - a))) x.f2) (x.f0 + t.1) = some r := by
 unfold scrL at h
 obtain ⟨t, ht, h⟩ := Option.bind_eq_some_iff.1 h
 split at h
 ·rename_i hc
  exact ⟨t, ht, hc, h⟩
 ·cases h
theorem wt_kpL (n : Int) : wt (kpL n) ≤ n.natAbs + 1 := by
 unfold kpL
 split
 ·exact Nat.zero_le _
 ·rw [wt_cons, wt_nil]; exact Nat.le_refl _
end Go.Proofs.Ytgobidmfbjmpkaa.P
end
section
set_option linter.unusedVariables false
set_option linter.unusedSimpArgs false
namespace Go.Proofs.Ytgobidmfbjmpkaa.P
open Go Go.RowKit Go.Shelf Go.Proofs.YtgobidmfbjmpkaaW.PrintWords Go.Proofs.YtgobidmfbjmpkaaW.PrintLast Go.Proofs.YtgobidmfbjmpkaaW.PrintMore Go.Proofs.Ytgobidmfbjmpkaa.HEdits Go.Proofs.Ytgobidmfbjmpkaa.HHunks
attribute [local go_sem] Oper.semAt_some
theorem jw64 {x : Int} (h0 : -9223372036854775808 ≤ x) (h1 : x ≤ 9223372036854775807) : wrap64 x = x := by unfold wrap64; omega
def jtogo (n : Nat) : Value → Nat
 | .int _ i => n - i.toNat
 | _ => 0
/-- Between two rounds. -/
structure JInv (B : Nat) (v : Value) (es : List Ed) (ms : List S31) (w : World) (i : Nat) (v' : Value) (es' : List Ed) (wr : World) : Prop where
 scr : Scr B wr v' es'
 pl : es'.map Ed.plain = joinL (es.map Ed.plain) (ms.take i)
 bel : Below B w wr
 ag : Agree v es w wr
 only : ∀ k, hasS v' es' k → hasS v es k ∨ w.heap.size ≤ k
theorem JInv.typed {B : Nat} {v : Value} {es : List Ed} {ms : List S31} {w : World} {i : Nat} {v' : Value} {es' : List Ed} {wr : World} (h : JInv B v es ms w i v' es' wr) {k : Nat} (hk : hasS v' es' k) : B ≤ k ∧ k < wr.heap.size := by
 obtain ⟨a, b, _⟩ := Scr.has_typed h.scr hk
 exact ⟨a, b⟩
def JEnd (B : Nat) (v : Value) (es : List Ed) (ms : List S31) (w : World) (e : Ending) (w' : World) : Prop := ∃ v' es', e = .returned v' ∧ JInv B v es ms w ms.length v' es' w'
theorem grown_drew (w : World) (row : Option Nat) : w.grownBy w.drew row := ⟨rfl, rfl, rfl, Nat.le_refl _, fun _ _ _ => rfl⟩
theorem JInv.keep {B : Nat} {v : Value} {es : List Ed} {ms : List S31} {w : World} {i : Nat} {v' v1 : Value} {es0 : List Ed} {e0 : Ed} {wr Z Z7 w1 : World} {g cap n : Nat} {E : S31}
  (J : JInv B v es ms w i v' (es0 ++ [e0]) wr) (hB : B ≤ w.heap.size) (hi : i < ms.length) (hE : E = rd_T31 ms (i : Int)) (hop : e0.op = E.f0) (hv : v' = .slice (some ⟨g, 0, none⟩) n cap)
  (g0 : wr.grownBy Z none) (g1 : (Z.setCell ⟨g, es0.length * 3 + 1, none⟩ (.int .i64 (e0.n + E.f1))).grownBy Z7 none)
  (hown : w1.ownsRow B 9 1 v1 (e0.l.length + E.f2.length) (encs Value.string e0.l ++ encs Value.string E.f2)) (hgr : Z7.grownBy w1 e0.v.ownBlock) (hat : v1.ownBlock = e0.v.ownBlock ∨ v1.ownBlock = some Z7.heap.size) :
  JInv B v es ms w (i + 1) v' (es0 ++ [⟨e0.op, e0.n + E.f1, v1, e0.l ++ E.f2⟩]) (w1.setCell ⟨g, es0.length * 3 + 2, none⟩ v1) ∧ w1.cell? ⟨g, es0.length * 3 + 2, none⟩ = some e0.v ∧ w1.frozen? ⟨g, es0.length * 3 + 2, none⟩ = false := by
 have nil_ : ∀ {u : Value}, u.ownBlock = none ∨ u.ownBlock ≠ none := fun {u} => by cases u.ownBlock with
  | none => exact .inl rfl
  | some k => exact .inr (fun e => by cases e)
 have up : ∀ {a b : World} {vv : Value} {ee : List Ed}, Scr B a vv ee → a.grownBy b none → Scr B b vv ee := fun hs hg => ⟨own_other hs.1 hg nil_, fun e he => own_other (hs.2.1 e he) hg nil_, hs.2.2⟩
 have SZ := up J.scr g0
 obtain ⟨g', cap', hv', hgb, hglt, hblk, _⟩ := SZ.last
 have hgg : g' = g := by
  rw [hv] at hv'
  injection hv' with h1 h2 h3
  injection h1 with h1
  injection h1 with h1
  exact h1.symm
 subst hgg
 have S6 : Scr B (Z.setCell ⟨g', es0.length * 3 + 1, none⟩ (.int .i64 (e0.n + E.f1))) v' (es0 ++ [⟨e0.op, e0.n + E.f1, e0.v, e0.l⟩]) :=
  SZ.set hv hblk 1 (by omega) _ ⟨e0.op, e0.n + E.f1, e0.v, e0.l⟩ rfl (SZ.2.1 e0 (by simp)) (fun p hp => (List.pairwise_append.1 SZ.2.2).2.2 p hp e0 (by simp))
 have S7 := up S6 g1
 have s0 := g0.size
 have s1 := g1.size
 have s1' : Z.heap.size ≤ Z7.heap.size := by simpa [World.setCell] using s1
 have s2 := hgr.size
 have sw := J.ag.size
 have hlen : (e0.l ++ E.f2).length = e0.l.length + E.f2.length := List.length_append
 have henc : encs Value.string (e0.l ++ E.f2) = encs Value.string e0.l ++ encs Value.string E.f2 := by simp [encs]
 have HL : Lns B w1 v1 (e0.l ++ E.f2) := by
  show w1.ownsRow B 9 1 v1 (e0.l ++ E.f2).length (encs Value.string (e0.l ++ E.f2))
  rw [hlen, henc]; exact hown
 have hat' : v1.ownBlock = e0.v.ownBlock ∨ ∃ b, v1.ownBlock = some b ∧ Z7.heap.size ≤ b := hat.imp id (fun h => ⟨_, h, Nat.le_refl _⟩)
 obtain ⟨S8, c1, f1⟩ := S7.later (v1 := v1) (w1 := w1) hv hgr HL (fun p hp => ne_append' ((List.pairwise_append.1 S7.2.2).2.2 p hp ⟨e0.op, e0.n + E.f1, e0.v, e0.l⟩ (by simp)) hat' (S7.2.1 p (List.mem_append_left _ hp)))
 have hvb : v'.ownBlock = some g' := by rw [hv]; rfl
 have hasg : hasS v' (es0 ++ [e0]) g' := .inl hvb
 have hase : ∀ k, e0.v.ownBlock = some k → hasS v' (es0 ++ [e0]) k := fun k hk => .inr ⟨e0, by simp, hk⟩
 have hge : ∀ k, hasS v' (es0 ++ [e0]) k → B ≤ k := fun k hk => (J.typed hk).1
 refine ⟨⟨S8, ?_, ?_, ?_, ?_⟩, c1, f1⟩
 ·rw [joinL_take _ _ _ hi, ← J.pl, ← hE, List.map_append, List.map_singleton, List.map_append, List.map_singleton, join1_snoc, if_pos (show (Ed.plain e0).f0 = E.f0 from hop)]
  rfl
 ·have b1 := (J.bel.grown g0 (Nat.le_trans hB sw) (fun k e => by cases e)).setCell (p := ⟨g', es0.length * 3 + 1, none⟩) hgb (.int .i64 (e0.n + E.f1))
  have b2 := b1.grown g1 (by simp [World.setCell]; omega) (fun k e => by cases e)
  have b3 := b2.grown hgr (by omega) (fun k e => hge k (hase k e))
  exact b3.setCell (p := ⟨g', es0.length * 3 + 2, none⟩) hgb _
 ·have a1 := (J.ag.grown g0 (fun k e => by cases e)).set ⟨g', es0.length * 3 + 1, none⟩ (.int .i64 (e0.n + E.f1)) (J.only _ hasg)
  have a2 := a1.grown g1 (fun k e => by cases e)
  have a3 := a2.grown hgr (fun k e => J.only _ (hase k e))
  exact a3.set ⟨g', es0.length * 3 + 2, none⟩ v1 (J.only _ hasg)
 ·rintro k (hk | ⟨e, he, hk⟩)
  ·exact J.only k (.inl hk)
  ·rcases List.mem_append.1 he with he | he
   ·exact J.only k (.inr ⟨e, List.mem_append_left _ he, hk⟩)
   ·rw [List.mem_singleton.1 he] at hk
    replace hk : v1.ownBlock = some k := hk
    rcases hat with h1 | h1
    ·exact J.only k (hase k (h1.symm.trans hk))
    ·rw [h1] at hk
     injection hk with hk
     exact .inr (by omega)
theorem JInv.push {B : Nat} {v : Value} {es : List Ed} {ms : List S31} {w : World} {i : Nat} {v' v1 vL : Value} {es' : List Ed} {wr Y w1 : World} {E : S31}
  (J : JInv B v es ms w i v' es' wr) (hB : B ≤ w.heap.size) (hi : i < ms.length) (hE : E = rd_T31 ms (i : Int)) (hop : ∀ e0, es'.getLast? = some e0 → e0.op ≠ E.f0) (bY : Below wr.heap.size wr Y)
  (hown : w1.ownsRow B 31 3 v1 (es'.length + 1) (flat es' ++ [.int .i64 E.f0, .int .i64 E.f1, vL])) (hgr : Y.grownBy w1 v'.ownBlock) (hat : v1.ownBlock = v'.ownBlock ∨ v1.ownBlock = some Y.heap.size)
  (hl : Lns B Y vL E.f2) (hf : ∀ k, vL.ownBlock = some k → wr.heap.size ≤ k) :
  JInv B v es ms w (i + 1) v1 (es' ++ [⟨E.f0, E.f1, vL, E.f2⟩]) w1 := by
 have SY := J.scr.below bY
 have sw := J.ag.size
 have sY := bY.size
 have S1 : Scr B w1 v1 (es' ++ [⟨E.f0, E.f1, vL, E.f2⟩]) := Scr.add SY hown hgr (fun e he => by rw [List.mem_singleton.1 he]; exact hl) (fun p hp e he k hk hk' => by
  rw [List.mem_singleton.1 he] at hk'
  have h1 := hf k hk'
  have h2 := (J.typed (.inr ⟨p, hp, hk⟩)).2
  omega) (List.pairwise_singleton _ _)
 have hge : ∀ k, v'.ownBlock = some k → B ≤ k := fun k hk => (J.typed (.inl hk)).1
 refine ⟨S1, ?_, ?_, ?_, ?_⟩
 ·rw [joinL_take _ _ _ hi, ← J.pl, ← hE, List.map_append, List.map_singleton]
  rcases List.eq_nil_or_concat es' with h0 | ⟨t, x, h0⟩
  ·subst h0; rfl
  ·rw [List.concat_eq_append] at h0
   subst h0
   rw [List.map_append, List.map_singleton, join1_snoc, if_neg (show ¬ (Ed.plain x).f0 = E.f0 from hop x (by simp))]
   rfl
 ·exact (J.bel.trans (bY.mono (Nat.le_trans hB sw))).grown hgr (by omega) hge
 ·exact (J.ag.below bY).grown hgr (fun k e => J.only _ (.inl e))
 ·rintro k (hk | ⟨e, he, hk⟩)
  ·rcases hat with h1 | h1
   ·exact J.only k (.inl (h1.symm.trans hk))
   ·rw [h1] at hk
    injection hk with hk
    exact .inr (by omega)
  ·rcases List.mem_append.1 he with he | he
   ·exact J.only k (.inr ⟨e, he, hk⟩)
   ·rw [List.mem_singleton.1 he] at hk
    exact .inr (Nat.le_trans sw (hf k hk))
set_option maxRecDepth 100000 in
set_option maxHeartbeats 4000000 in
theorem joined_run (B : Nat) (v : Value) (es : List Ed) (A2 : Option Addr) (c2 : Nat) (ms : List S31) (w : World) (hB : B ≤ w.heap.size) (HS : Scr B w v es) (hm : More v es A2 ms w) (hc2 : ms.length ≤ c2) (hW : wt (es.map Ed.plain) + wt ms ≤ 1000000000000) :
  Calls Try.prog 42 #[v, .slice A2 ms.length c2] w (JEnd B v es ms w) := by
 refine (callsIn_wide (n := 9)).1 ?_
 refine callsIn_of_wp Try.func42 rfl trivial ?_ rfl
 simp only [Try.ntmps42, List.size_toArray, List.length_cons, List.length_nil, Nat.reduceAdd, Nat.reduceSub, Array.replicate_succ, Array.replicate_zero, List.push_toArray, List.append_toArray, List.nil_append, List.cons_append]
 have hml : ms.length ≤ 1000000000000 := by have := wt_len ms; omega
 have J0 : JInv B v es ms w 0 v es w := ⟨HS, rfl, Below.refl _ _, Agree.refl _ _ _, fun k hk => .inl hk⟩
 obtain ⟨Ao0, co0, hv0⟩ := own_slice HS.1
 have HJ0 := Lib.hid J0
 have HM := Lib.hid hm
 have HW := Lib.hid hW
 have HB := Lib.hid hB
 clear J0 hm hW hB HS
 gi_wp2
 gi_loopw [0, 10] (fun v' x wr => ∃ (i : Nat) (es' : List Ed), x = .int .i64 (i : Int) ∧ i ≤ ms.length ∧ Hid (JInv B v es ms w i v' es' wr)) (fun _ x _ => jtogo ms.length x)
 case atStart => exact ⟨0, es, rfl, Nat.zero_le _, HJ0⟩
 case round =>
  obtain ⟨i, es', rfl, hi, HJ⟩ := hrel
  by_cases ci : i < ms.length
  ·have ci' : decide ((i : Int) < (ms.length : Int)) = true := decide_eq_true (by omega)
   obtain ⟨Ao, co, rfl⟩ := own_slice HJ.out.scr.1
   obtain ⟨ad, A2', c2', rfl, hl2, hat⟩ := HM.out.at i ci
   have hwt := wt_step ms i ci
   have hwj := wt_joinL (ms.take i) (es.map Ed.plain)
   rw [← HJ.out.pl] at hwj
   obtain ⟨E, hE⟩ : ∃ E, E = rd_T31 ms (i : Int) := ⟨_, rfl⟩
   rw [← hE] at hat hl2 hwt
   have HWT := Lib.hid (show wt (es'.map Ed.plain) + wt1 E ≤ 1000000000000 by have := HW.out; omega)
   have HE := Lib.hid hE
   have p1 := eq_true (show 0 ≤ (i : Int) by omega)
   have q1 := eq_true (show (i : Int) < (ms.length : Int) by omega)
   obtain ⟨x0, x1, x2, _⟩ := hat wr HJ.out.ag
   have HAT := Lib.hid hat
   obtain ⟨X, hX⟩ : ∃ X, X = wr.alloc (.cells #[.int .i64 E.f0, .int .i64 E.f1, .slice A2' E.f2.length c2'] 31) := ⟨_, rfl⟩
   have qX : X.heap[wr.heap.size]? = some (.cells #[.int .i64 E.f0, .int .i64 E.f1, .slice A2' E.f2.length c2'] 31) := by rw [hX]; exact World.alloc_heap_new wr _
   have a0 : X.cell? ⟨wr.heap.size, 0, none⟩ = some (.int .i64 E.f0) := by simp [World.cell?, qX]
   have a1 : X.cell? ⟨wr.heap.size, 1, none⟩ = some (.int .i64 E.f1) := by simp [World.cell?, qX]
   have a2 : X.cell? ⟨wr.heap.size, 2, none⟩ = some (.slice A2' E.f2.length c2') := by simp [World.cell?, qX]
   have bX : Below wr.heap.size wr X := by rw [hX]; exact (Below.refl _ _).alloc (Nat.le_refl _) _
   have gX : wr.grownBy X none := by rw [hX]; exact World.grownBy_alloc _ _ _
   have HQX := Lib.hid (blk_lt qX)
   have HX := Lib.hid hX
   have HBX := Lib.hid bX
   have HGX := Lib.hid gX
   clear hX hat hwt hwj hE qX bX gX
   obtain ⟨Z5, hZ5⟩ : ∃ Z5, Z5 = X.drew := ⟨_, rfl⟩
   have H5H := Lib.hid (show Z5.heap = X.heap by rw [hZ5]; rfl)
   have HB5 := Lib.hid (show Below wr.heap.size wr Z5 by rw [hZ5]; exact HBX.out.drew)
   have HG5 := Lib.hid (show wr.grownBy Z5 none by rw [hZ5]; exact HGX.out.trans (grown_drew X none))
   have n0 : Z5.cell? ⟨wr.heap.size, 0, none⟩ = some (.int .i64 E.f0) := (World.cell?_of_block (w := X) (by rw [H5H.out])).trans a0
   have HZ5 := Lib.hid hZ5
   clear hZ5
   by_cases cn : 0 < es'.length
   ·obtain ⟨es0, e0, hes⟩ : ∃ es0 e0, es' = es0 ++ [e0] := by
     rcases List.eq_nil_or_concat es' with h0 | ⟨t, x, h0⟩
     ·rw [h0] at cn; exact absurd cn (by simp)
     ·exact ⟨t, x, by rw [h0, List.concat_eq_append]⟩
    have hJ' := HJ.out
    rw [hes] at hJ'
    obtain ⟨g, cap, hv', hgB, hgl, hblk, g0, g1, g2, gf1, gf2⟩ := hJ'.scr.last
    have hl0 : (es0 ++ [e0]).length = es0.length + 1 := by simp
    obtain ⟨rfl, hcap⟩ : Ao = some ⟨g, 0, none⟩ ∧ co = cap := by
     injection hv' with h1 h2 h3
     exact ⟨h1, h3⟩
    have hlen : es'.length = es0.length + 1 := by rw [hes]; exact hl0
    have hel0 : es'.length ≤ 1000000000000 := by have := HWT.out; have h1 := wt_len (es'.map Ed.plain); rw [List.length_map] at h1; omega
    obtain ⟨Av, nv, cv, hvE⟩ : ∃ A n c, e0.v = .slice A n c := by
     obtain ⟨A, c, h⟩ := own_slice (hJ'.scr.2.1 e0 (by simp))
     exact ⟨A, _, c, h⟩
    rw [hvE] at g2
    obtain ⟨ji, hji⟩ : ∃ ji : Int, ji = (es'.length : Int) - 1 := ⟨_, rfl⟩
    have s1 : IntKind.i64.wrap ((es'.length : Int) - 1) = ji := by rw [hji, i64_w]; exact jw64 (by omega) (by omega)
    have s1' : wrap64 ((es'.length : Int) - 1) = ji := by rw [hji]; exact jw64 (by omega) (by omega)
    have jh2 : (0 ≤ ji) = True := eq_true (by omega)
    have jh3 : (ji < (es'.length : Int)) = True := eq_true (by omega)
    have hjn : ji.toNat = es0.length := by omega
    have cn1 : decide (0 < es'.length) = true := decide_eq_true cn
    have cn2 : decide ((0 : Int) < (es'.length : Int)) = true := decide_eq_true (by omega)
    have hgX : g < X.heap.size := Nat.lt_of_lt_of_le hgl (by have := HBX.out.size; omega)
    have e1 : Z5.cell? ⟨g, es0.length * 3, none⟩ = some (.int .i64 e0.op) := (World.cell?_of_block (w := wr) (HB5.out.block g hgl)).trans g0
    have HJJ := Lib.hid hJ'
    have HES := Lib.hid hes
    have HLEN := Lib.hid hlen
    have HJI := Lib.hid hji
    have HGX := Lib.hid hgX
    have HG1 := Lib.hid g1
    have HG2 := Lib.hid g2
    have HGF1 := Lib.hid gf1
    have HGF2 := Lib.hid gf2
    have HVE := Lib.hid hvE
    have HBLK := Lib.hid hblk
    clear hJ' hes hlen hl0 hv' hji cn g1 g2 g0 gf1 gf2 hvE hblk hgX hcap
    by_cases hop : e0.op = E.f0
    ·have kb : (e0.op == E.f0) = true := beq_iff_eq.2 hop
     have HOPE := Lib.hid hop
     clear hop
     gi_wp2_with (first | rw [← HX.out])
     refine Held.region 13 (Held.Same Z5 [wr.heap.size, g]) (by kernel_rfl) ?_
     rw [← HZ5.out]
     have hS := Held.Same.refl Z5 [wr.heap.size, g]
     refine Held.tk (i := 0) rfl hS ?_
     try simp only [Act.put, List.setIfInBounds_toArray, List.set_cons_zero, List.set_cons_succ]
     refine Held.tk (i := 1) rfl hS ?_
     try simp only [Act.put, List.setIfInBounds_toArray, List.set_cons_zero, List.set_cons_succ]
     refine Held.tk (i := 2) rfl hS ?_
     try simp only [Act.put, List.setIfInBounds_toArray, List.set_cons_zero, List.set_cons_succ]
     refine Held.tk (i := 3) rfl hS ?_
     try simp only [Act.put, List.setIfInBounds_toArray, List.set_cons_zero, List.set_cons_succ]
     refine Held.tk (i := 4) rfl hS ?_
     try simp only [Act.put, List.setIfInBounds_toArray, List.set_cons_zero, List.set_cons_succ]
     refine Held.tk (i := 5) rfl hS ?_
     try simp only [Act.put, List.setIfInBounds_toArray, List.set_cons_zero, List.set_cons_succ]
     refine Held.tk (i := 6) rfl hS ?_
     try simp only [Act.put, List.setIfInBounds_toArray, List.set_cons_zero, List.set_cons_succ]
     refine Held.tk (i := 7) rfl hS ?_
     try simp only [Act.put, List.setIfInBounds_toArray, List.set_cons_zero, List.set_cons_succ]
     refine Held.tk (i := 8) rfl hS ?_
     try simp only [Act.put, List.setIfInBounds_toArray, List.set_cons_zero, List.set_cons_succ]
     refine Held.tk (i := 9) rfl hS ?_
     try simp only [Act.put, List.setIfInBounds_toArray, List.set_cons_zero, List.set_cons_succ]
     refine Held.tk (i := 10) rfl hS ?_
     try simp only [Act.put, List.setIfInBounds_toArray, List.set_cons_zero, List.set_cons_succ]
     refine Held.tk (i := 11) rfl hS ?_
     try simp only [Act.put, List.setIfInBounds_toArray, List.set_cons_zero, List.set_cons_succ]
     refine Held.tk (i := 12) rfl hS ?_
     try simp only [Act.put, List.setIfInBounds_toArray, List.set_cons_zero, List.set_cons_succ]
     refine Held.AnyS.done (by kernel_rfl) ?_ _
     clear hS
     go_simp
     gi_wp2
     obtain ⟨Z6, hZ6⟩ : ∃ Z6, Z6 = Z5.drew := ⟨_, rfl⟩
     have h6 : Z6.heap = X.heap := by rw [hZ6]; exact H5H.out
     have hbw : ∀ k, k < wr.heap.size → Z6.heap[k]? = wr.heap[k]? := fun k hk => by rw [h6]; exact HBX.out.block k hk
     have m1 : Z6.cell? ⟨wr.heap.size, 1, none⟩ = some (.int .i64 E.f1) := (World.cell?_of_block (w := X) (by rw [h6])).trans a1
     have k1 : Z6.cell? ⟨g, es0.length * 3 + 1, none⟩ = some (.int .i64 e0.n) := (World.cell?_of_block (w := wr) (hbw g hgl)).trans HG1.out
     have k2 : Z6.frozen? ⟨g, es0.length * 3 + 1, none⟩ = false := (World.frozen?_of_block (w := wr) (hbw g hgl)).trans HGF1.out
     have hw0 : e0.n.natAbs + E.f1.natAbs ≤ 1000000000000 := by
      have h1 := HWT.out
      rw [HES.out, List.map_append, List.map_singleton, wt_app, wt_cons] at h1
      unfold wt1 at h1
      have h2 : (Ed.plain e0).f1 = e0.n := rfl
      rw [h2] at h1
      omega
     have hwl : e0.l.length + E.f2.length ≤ 1000000000000 := by
      have h1 := HWT.out
      rw [HES.out, List.map_append, List.map_singleton, wt_app, wt_cons] at h1
      unfold wt1 at h1
      have h2 : (Ed.plain e0).f2 = e0.l := rfl
      rw [h2] at h1
      omega
     have s2 : IntKind.i64.wrap (e0.n + E.f1) = e0.n + E.f1 := by rw [i64_w]; exact jw64 (by omega) (by omega)
     have s2' : wrap64 (e0.n + E.f1) = e0.n + E.f1 := jw64 (by omega) (by omega)
     have hz6 : ∀ b ∈ [wr.heap.size, g], b < Z6.heap.size := by
      intro b hb
      rw [h6]
      simp only [List.mem_cons, List.not_mem_nil, or_false] at hb
      rcases hb with rfl | rfl
      ·exact HQX.out
      ·exact HGX.out
     have HZ6 := Lib.hid hZ6
     have H6H := Lib.hid h6
     have HG6 := Lib.hid (show wr.grownBy Z6 none by rw [hZ6]; exact HG5.out.trans (grown_drew Z5 none))
     have HBW := Lib.hid hbw
     have HZZ6 := Lib.hid hz6
     have HWL := Lib.hid hwl
     clear hZ6 h6 hbw hz6 hw0 hwl
     refine Held.region 9 (Held.Same Z6 [wr.heap.size, g]) (by kernel_rfl) ?_
     rw [← HZ6.out]
     have hS := Held.Same.refl Z6 [wr.heap.size, g]
     refine Held.tk (i := 0) rfl hS ?_
     try simp only [Act.put, List.setIfInBounds_toArray, List.set_cons_zero, List.set_cons_succ]
     refine Held.tk (i := 1) rfl hS ?_
     try simp only [Act.put, List.setIfInBounds_toArray, List.set_cons_zero, List.set_cons_succ]
     refine Held.tk (i := 2) rfl hS ?_
     try simp only [Act.put, List.setIfInBounds_toArray, List.set_cons_zero, List.set_cons_succ]
     refine Held.tk (i := 3) rfl hS ?_
     try simp only [Act.put, List.setIfInBounds_toArray, List.set_cons_zero, List.set_cons_succ]
     refine Held.tk (i := 4) rfl hS ?_
     try simp only [Act.put, List.setIfInBounds_toArray, List.set_cons_zero, List.set_cons_succ]
     refine Held.tk (i := 5) rfl hS ?_
     try simp only [Act.put, List.setIfInBounds_toArray, List.set_cons_zero, List.set_cons_succ]
     refine Held.tk (i := 6) rfl hS ?_
     try simp only [Act.put, List.setIfInBounds_toArray, List.set_cons_zero, List.set_cons_succ]
     refine Held.tk (i := 7) rfl hS ?_
     try simp only [Act.put, List.setIfInBounds_toArray, List.set_cons_zero, List.set_cons_succ]
     refine Held.tk (i := 8) rfl hS ?_
     try simp only [Act.put, List.setIfInBounds_toArray, List.set_cons_zero, List.set_cons_succ]
     refine Held.AnyS.step (i := 9) rfl (by kernel_rfl) rfl (fun K hK => ?_)
     go_simp
     refine hK.out _ _ (fun h => absurd h (by omega)) ?_
     clear hK K
     try simp only [Act.put, List.setIfInBounds_toArray, List.set_cons_zero, List.set_cons_succ]
     refine Held.AnyS.step (i := 10) rfl (by kernel_rfl) rfl (fun K hK => ?_)
     go_simp
     refine hK.out _ _ (fun h => absurd h (by omega)) ?_
     clear hK K
     try simp only [Act.put, List.setIfInBounds_toArray, List.set_cons_zero, List.set_cons_succ]
     refine Held.AnyS.step (i := 11) rfl (by kernel_rfl) rfl (fun K hK => ?_)
     go_simp
     refine hK.out _ _ (fun h => absurd h (by omega)) ?_
     clear hK K hS
     refine Held.AnyS.done (by kernel_rfl) ?_ _
     go_simp
     obtain ⟨Y6, hY6⟩ : ∃ Y6, Y6 = Z6.setCell ⟨g, es0.length * 3 + 1, none⟩ (.int .i64 (e0.n + E.f1)) := ⟨_, rfl⟩
     obtain ⟨Z7, hZ7⟩ : ∃ Z7, Z7 = Y6.drew := ⟨_, rfl⟩
     have h7 : Z7.heap = Y6.heap := by rw [hZ7]; rfl
     have w7 : Z7.heap.size = Z6.heap.size := by rw [h7, hY6]; simp [World.setCell]
     have k3 : Z7.cell? ⟨g, es0.length * 3 + 2, none⟩ = some (.slice Av nv cv) := by
      refine (World.cell?_of_block (w := Y6) (by rw [h7])).trans ?_
      rw [hY6, World.cell?_setCell_other _ _ _ _ (by intro h; injection h with _ h; omega)]
      exact (World.cell?_of_block (w := wr) (HBW.out g hgl)).trans HG2.out
     have ngq : g ≠ wr.heap.size := by omega
     have m2 : Z7.cell? ⟨wr.heap.size, 2, none⟩ = some (.slice A2' E.f2.length c2') := by
      refine (World.cell?_of_block (w := Y6) (by rw [h7])).trans ?_
      rw [hY6, World.cell?_setCell_far _ _ _ _ (by simpa using ngq)]
      exact (World.cell?_of_block (w := X) (by rw [H6H.out])).trans a2
     have ag7 : Agree v es w Z7 := by
      rw [hZ7, hY6]
      exact ((HJ.out.ag.grown HG6.out (fun k e => by cases e)).set ⟨g, es0.length * 3 + 1, none⟩ _ (HJ.out.only _ (.inl rfl))).grown (grown_drew _ none) (fun k e => by cases e)
     have C7 := (HAT.out Z7 ag7).2.2.2
     have O7 : Z7.ownsRow B 9 1 (.slice Av nv cv) e0.l.length (encs Value.string e0.l) := by
      have h1 := HJJ.out.scr.2.1 e0 (by simp)
      have h2 : Lns B Z6 e0.v e0.l := own_other h1 HG6.out (by
       cases e0.v.ownBlock with
       | none => exact .inl rfl
       | some k => exact .inr (fun e => by cases e))
      obtain ⟨cur, hcur⟩ := HBLK.out
      have h3 : Lns B Y6 e0.v e0.l := by
       rw [hY6]
       exact own_setCell h2 (own_ne h2 ((HBW.out g hgl).trans hcur) (by decide)) _
      have h4 : Lns B Z7 e0.v e0.l := by rw [hZ7]; exact h3
      rw [HVE.out] at h4
      exact h4
     have hz7 : ∀ b ∈ [wr.heap.size, g], b < Z7.heap.size := fun b hb => by rw [w7]; exact HZZ6.out b hb
     have ne7 : ∀ b ∈ [wr.heap.size, g], some b ≠ (Value.slice Av nv cv).ownBlock := by
      intro b hb e
      simp only [List.mem_cons, List.not_mem_nil, or_false] at hb
      rcases hb with rfl | rfl
      ·have := (HJJ.out.typed (.inr ⟨e0, by simp, by rw [HVE.out]; exact e.symm⟩)).2
       omega
      ·obtain ⟨cur, hcur⟩ := HBLK.out
       obtain ⟨cs, hcs⟩ := own_typed (HJJ.out.scr.2.1 e0 (by simp)) b (by rw [HVE.out]; exact e.symm)
       rw [hcur] at hcs
       injection hcs with hcs
       injection hcs with _ hcs _
       exact absurd hcs (by decide)
     have hs7 := src_of C7
     have hen : (encs Value.string E.f2).length = E.f2.length * 1 := by simp [encs]
     have hone : ∀ u ∈ encs Value.string E.f2, u.oneCell' = true := by
      intro u hu
      simp only [encs, List.mem_map] at hu
      obtain ⟨b, _, rfl⟩ := hu
      rfl
     have hge7 : B ≤ Z7.heap.size := by rw [w7]; have := HG6.out.size; have := HJ.out.ag.size; have := HB.out; omega
     have G67 := Lib.hid (show (Z6.setCell ⟨g, es0.length * 3 + 1, none⟩ (.int .i64 (e0.n + E.f1))).grownBy Z7 none by rw [hZ7, hY6]; exact grown_drew _ none)
     have HY6 := Lib.hid hY6
     have HZ7 := Lib.hid hZ7
     have HZZ7 := Lib.hid hz7
     clear hY6 hZ7 h7 w7 ag7 C7 hz7
     rw [← HY6.out]
     gi_wp2
     refine Held.region 12 (Held.Same Z7 [wr.heap.size, g]) (by kernel_rfl) ?_
     rw [← HZ7.out]
     have hS := Held.Same.refl Z7 [wr.heap.size, g]
     refine Held.tk (i := 0) rfl hS ?_
     try simp only [Act.put, List.setIfInBounds_toArray, List.set_cons_zero, List.set_cons_succ]
     refine Held.tk (i := 1) rfl hS ?_
     try simp only [Act.put, List.setIfInBounds_toArray, List.set_cons_zero, List.set_cons_succ]
     refine Held.tk (i := 2) rfl hS ?_
     try simp only [Act.put, List.setIfInBounds_toArray, List.set_cons_zero, List.set_cons_succ]
     refine Held.tk (i := 3) rfl hS ?_
     try simp only [Act.put, List.setIfInBounds_toArray, List.set_cons_zero, List.set_cons_succ]
     refine Held.tk (i := 4) rfl hS ?_
     try simp only [Act.put, List.setIfInBounds_toArray, List.set_cons_zero, List.set_cons_succ]
     refine Held.tk (i := 5) rfl hS ?_
     try simp only [Act.put, List.setIfInBounds_toArray, List.set_cons_zero, List.set_cons_succ]
     refine Held.tk (i := 6) rfl hS ?_
     try simp only [Act.put, List.setIfInBounds_toArray, List.set_cons_zero, List.set_cons_succ]
     refine Held.tk (i := 7) rfl hS ?_
     try simp only [Act.put, List.setIfInBounds_toArray, List.set_cons_zero, List.set_cons_succ]
     refine Held.tk (i := 8) rfl hS ?_
     try simp only [Act.put, List.setIfInBounds_toArray, List.set_cons_zero, List.set_cons_succ]
     refine Held.tk (i := 9) rfl hS ?_
     try simp only [Act.put, List.setIfInBounds_toArray, List.set_cons_zero, List.set_cons_succ]
     refine Held.tk (i := 10) rfl hS ?_
     try simp only [Act.put, List.setIfInBounds_toArray, List.set_cons_zero, List.set_cons_succ]
     refine Held.AnyS.step (i := 11) rfl (by kernel_rfl) rfl (fun K hK => ?_)
     refine Held.append_any (.tmp 48) (.tmp 50) 29 rfl B 9 (.string ⟨#[]⟩) 1 16 Try.underlying29 info9 rfl (by omega) (.slice Av nv cv) e0.l.length (encs Value.string e0.l) rfl O7 A2' E.f2.length c2' (encs Value.string E.f2) rfl hen hs7 hone ?_ ?_ hge7 ?_
     ·simp only [maxLen]; have := HWL.out; omega
     ·have := HWL.out; omega
     intro v1 w1 hown hgr hat1
     obtain ⟨A5, c5, rfl⟩ := own_slice hown
     have hS4 : Held.Same Z7 [wr.heap.size, g] w1 := hS.grown hgr (fun b hb => ⟨HZZ7.out b hb, ne7 b hb⟩)
     obtain ⟨KEEP, cw, fw⟩ := HJJ.out.keep HB.out ci HE.out HOPE.out rfl HG6.out G67.out hown (by rw [HVE.out]; exact hgr) (by rw [HVE.out]; exact hat1)
     rw [← HES.out] at KEEP
     have PUSH := Lib.hid KEEP
     rw [HVE.out] at cw
     clear KEEP hown hgr hat1
     refine hK.out _ _ (fun _ => hS4) ?_
     clear hK K hS4 hS O7 ne7 hs7 hen hone
     try simp only [Act.put, List.setIfInBounds_toArray, List.set_cons_zero, List.set_cons_succ]
     refine Held.AnyS.step (i := 12) rfl (by kernel_rfl) rfl (fun K hK => ?_)
     go_simp
     refine hK.out _ _ (fun h => absurd h (by omega)) ?_
     clear hK K
     try simp only [Act.put, List.setIfInBounds_toArray, List.set_cons_zero, List.set_cons_succ]
     refine Held.AnyS.step (i := 13) rfl (by kernel_rfl) rfl (fun K hK => ?_)
     go_simp
     refine hK.out _ _ (fun h => absurd h (by omega)) ?_
     clear hK K
     try simp only [Act.put, List.setIfInBounds_toArray, List.set_cons_zero, List.set_cons_succ]
     refine Held.AnyS.step (i := 14) rfl (by kernel_rfl) rfl (fun K hK => ?_)
     go_simp
     refine hK.out _ _ (fun h => absurd h (by omega)) ?_
     clear hK K
     refine Held.AnyS.done (by kernel_rfl) ?_ _
     go_simp
     gi_wp2
     refine ⟨⟨i + 1, _, by simp, ci, PUSH⟩, ?_⟩
     simp only [jtogo]
     omega
    ·have kb : (e0.op == E.f0) = false := by simp [hop]
     have HOP := Lib.hid (show ∀ e1, es'.getLast? = some e1 → e1.op ≠ E.f0 by intro e1 h0; rw [HES.out, List.getLast?_concat] at h0; rw [← Option.some.inj h0]; exact hop)
     clear hop
     gi_wp2_with (first | rw [← HX.out])
     refine Held.region 13 (Held.Same Z5 [wr.heap.size, g]) (by kernel_rfl) ?_
     rw [← HZ5.out]
     have hS := Held.Same.refl Z5 [wr.heap.size, g]
     refine Held.tk (i := 0) rfl hS ?_
     try simp only [Act.put, List.setIfInBounds_toArray, List.set_cons_zero, List.set_cons_succ]
     refine Held.tk (i := 1) rfl hS ?_
     try simp only [Act.put, List.setIfInBounds_toArray, List.set_cons_zero, List.set_cons_succ]
     refine Held.tk (i := 2) rfl hS ?_
     try simp only [Act.put, List.setIfInBounds_toArray, List.set_cons_zero, List.set_cons_succ]
     refine Held.tk (i := 3) rfl hS ?_
     try simp only [Act.put, List.setIfInBounds_toArray, List.set_cons_zero, List.set_cons_succ]
     refine Held.tk (i := 4) rfl hS ?_
     try simp only [Act.put, List.setIfInBounds_toArray, List.set_cons_zero, List.set_cons_succ]
     refine Held.tk (i := 5) rfl hS ?_
     try simp only [Act.put, List.setIfInBounds_toArray, List.set_cons_zero, List.set_cons_succ]
     refine Held.tk (i := 6) rfl hS ?_
     try simp only [Act.put, List.setIfInBounds_toArray, List.set_cons_zero, List.set_cons_succ]
     refine Held.tk (i := 7) rfl hS ?_
     try simp only [Act.put, List.setIfInBounds_toArray, List.set_cons_zero, List.set_cons_succ]
     refine Held.tk (i := 8) rfl hS ?_
     try simp only [Act.put, List.setIfInBounds_toArray, List.set_cons_zero, List.set_cons_succ]
     refine Held.tk (i := 9) rfl hS ?_
     try simp only [Act.put, List.setIfInBounds_toArray, List.set_cons_zero, List.set_cons_succ]
     refine Held.tk (i := 10) rfl hS ?_
     try simp only [Act.put, List.setIfInBounds_toArray, List.set_cons_zero, List.set_cons_succ]
     refine Held.tk (i := 11) rfl hS ?_
     try simp only [Act.put, List.setIfInBounds_toArray, List.set_cons_zero, List.set_cons_succ]
     refine Held.tk (i := 12) rfl hS ?_
     try simp only [Act.put, List.setIfInBounds_toArray, List.set_cons_zero, List.set_cons_succ]
     refine Held.AnyS.done (by kernel_rfl) ?_ _
     clear hS
     go_simp
     gi_wp2
     obtain ⟨Z8, hZ8⟩ : ∃ Z8, Z8 = Z5.drew := ⟨_, rfl⟩
     have h8 : Z8.heap = X.heap := by rw [hZ8]; exact H5H.out
     have m0 : Z8.cell? ⟨wr.heap.size, 0, none⟩ = some (.int .i64 E.f0) := (World.cell?_of_block (w := X) (by rw [h8])).trans a0
     have m1 : Z8.cell? ⟨wr.heap.size, 1, none⟩ = some (.int .i64 E.f1) := (World.cell?_of_block (w := X) (by rw [h8])).trans a1
     have m2 : Z8.cell? ⟨wr.heap.size, 2, none⟩ = some (.slice A2' E.f2.length c2') := (World.cell?_of_block (w := X) (by rw [h8])).trans a2
     have b8 : Below wr.heap.size wr Z8 := by rw [hZ8]; exact HB5.out.drew
     have hz8 : ∀ b ∈ [wr.heap.size], b < Z8.heap.size := by
      intro b hb
      rw [List.mem_singleton.1 hb, h8]; exact HQX.out
     have C8 := (HAT.out Z8 (HJ.out.ag.below b8)).2.2.2
     have hEl : E.f2.length ≤ 1000000000000 := by have := HWT.out; unfold wt1 at this; omega
     have hfo : hunks_owned_string.f E.f2 = some E.f2 := by unfold hunks_owned_string.f; rw [if_pos (by simp; omega)]; rfl
     have CO := Lib.hid (hunks_owned_string.calls A2' c2' E.f2 E.f2 Z8 C8 hl2 hfo)
     have HZ8 := Lib.hid hZ8
     have H8B := Lib.hid b8
     have H8Z := Lib.hid hz8
     clear hZ8 h8 b8 hz8 C8 hfo
     refine Held.region 11 (Held.Same Z8 [wr.heap.size]) (by kernel_rfl) ?_
     rw [← HZ8.out]
     have hT := Held.Same.refl Z8 [wr.heap.size]
     refine Held.tk (i := 0) rfl hT ?_
     try simp only [Act.put, List.setIfInBounds_toArray, List.set_cons_zero, List.set_cons_succ]
     refine Held.tk (i := 1) rfl hT ?_
     try simp only [Act.put, List.setIfInBounds_toArray, List.set_cons_zero, List.set_cons_succ]
     refine Held.tk (i := 2) rfl hT ?_
     try simp only [Act.put, List.setIfInBounds_toArray, List.set_cons_zero, List.set_cons_succ]
     refine Held.tk (i := 3) rfl hT ?_
     try simp only [Act.put, List.setIfInBounds_toArray, List.set_cons_zero, List.set_cons_succ]
     refine Held.tk (i := 4) rfl hT ?_
     try simp only [Act.put, List.setIfInBounds_toArray, List.set_cons_zero, List.set_cons_succ]
     refine Held.tk (i := 5) rfl hT ?_
     try simp only [Act.put, List.setIfInBounds_toArray, List.set_cons_zero, List.set_cons_succ]
     refine Held.tk (i := 6) rfl hT ?_
     try simp only [Act.put, List.setIfInBounds_toArray, List.set_cons_zero, List.set_cons_succ]
     refine Held.AnyS.step (i := 7) rfl (by kernel_rfl) rfl (fun K hK => ?_)
     go_simp
     first | refine ⟨trivial, ?_⟩ | skip
     refine (callsIn_wide.2 CO.out).mono ?_
     rintro e Y5 ⟨vL, rfl, hRL, hbY5⟩
     obtain ⟨AL, cL, rfl⟩ := Kd.R_slice hRL
     have hT2 := hT.below hbY5 H8Z.out
     have HRL := Lib.hid hRL
     have HBY5 := Lib.hid hbY5
     clear hRL hbY5
     refine hK.out _ _ (fun _ => hT2) ?_
     clear hK K
     try simp only [Act.put, List.setIfInBounds_toArray, List.set_cons_zero, List.set_cons_succ]
     refine Held.tk (i := 8) rfl hT2 ?_
     try simp only [Act.put, List.setIfInBounds_toArray, List.set_cons_zero, List.set_cons_succ]
     refine Held.AnyS.step (i := 9) rfl (by kernel_rfl) rfl (fun K hK => ?_)
     go_simp
     have hT3 := hT2.grown (World.grownBy_alloc Y5 (.cells #[.int .i64 E.f0, .int .i64 E.f1, .slice AL E.f2.length cL] 31) none) (fun b hb => ⟨H8Z.out b hb, by simp⟩)
     refine hK.out _ _ (fun _ => hT3) ?_
     clear hK K
     try simp only [Act.put, List.setIfInBounds_toArray, List.set_cons_zero, List.set_cons_succ]
     obtain ⟨w2, hw2⟩ : ∃ w2, w2 = Y5.alloc (.cells #[.int .i64 E.f0, .int .i64 E.f1, .slice AL E.f2.length cL] 31) := ⟨_, rfl⟩
     have b82 : Below Z8.heap.size Z8 w2 := by rw [hw2]; exact HBY5.out.alloc HBY5.out.size _
     have s8 := H8B.out.size
     have s82 := b82.size
     have swr := HJ.out.ag.size
     have hBw := HB.out
     have bw2 : Below wr.heap.size wr w2 := H8B.out.trans (b82.mono s8)
     have nw : ∀ j u, [Value.int .i64 E.f0, .int .i64 E.f1, .slice AL E.f2.length cL][j]? = some u → w2.cell? ((⟨Y5.heap.size, 0, none⟩ : Addr).add j) = some u := by
      rw [hw2]
      simpa using World.news_of_block (cs := #[Value.int .i64 E.f0, .int .i64 E.f1, .slice AL E.f2.length cL]) (t := 31) (fr := (0, 0)) (World.alloc_heap_new Y5 _)
     have lns : Lns B w2 (.slice AL E.f2.length cL) E.f2 := by
      rw [hw2]
      exact own_alloc (own_less (Kd.own_of_R HRL.out) (by omega)) _
     have S2 : w2.ownsRow B 31 3 (.slice (some ⟨g, 0, none⟩) es'.length co) es'.length (flat es') := (HJ.out.scr.below bw2).1
     have ne8 : ∀ b ∈ [wr.heap.size], some b ≠ (Value.slice (some ⟨g, 0, none⟩) es'.length co).ownBlock := by
      intro b hb e
      have h0 := List.mem_singleton.1 hb
      have h1 := (HJ.out.typed (.inl e.symm)).2
      omega
     have hel : es'.length ≤ 1000000000000 := by have := HWT.out; have h1 := wt_len (es'.map Ed.plain); rw [List.length_map] at h1; omega
     rw [← hw2] at hT3 ⊢
     clear hw2
     refine Held.AnyS.step (i := 10) rfl (by kernel_rfl) rfl (fun K hK => ?_)
     refine Held.append_at (.tmp 54) (.tmp 63) 26 rfl B 31 (.agg #[.int .i64 0, .int .i64 0, .slice none 0 0]) 3 40 Try.underlying26 info31 rfl (by omega) (.slice (some ⟨g, 0, none⟩) es'.length co) es'.length (flat es') rfl S2 ⟨Y5.heap.size, 0, none⟩ 1 1 [.int .i64 E.f0, .int .i64 E.f1, .slice AL E.f2.length cL] rfl rfl nw ?_ ?_ ?_ ?_ ?_
     ·intro u hu; simp at hu; rcases hu with rfl | rfl | rfl <;> rfl
     ·simp only [maxLen]; omega
     ·omega
     ·omega
     intro v1 w1 hown hgr hat1
     obtain ⟨A5, c5, rfl⟩ := own_slice hown
     have hT4 : Held.Same Z8 [wr.heap.size] w1 := hT3.grown hgr (fun b hb => ⟨H8Z.out b hb, ne8 b hb⟩)
     have PUSH := Lib.hid (HJ.out.push hBw ci HE.out HOP.out bw2 hown hgr hat1 lns (fun k hk => Nat.le_trans s8 (own_base (Kd.own_of_R HRL.out) k hk)))
     clear hown hgr hat1 S2 nw lns bw2 b82 ne8
     refine hK.out _ _ (fun _ => hT4) ?_
     clear hK K hT hT2 hT3 hT4
     try simp only [Act.put, List.setIfInBounds_toArray, List.set_cons_zero, List.set_cons_succ]
     refine Held.AnyS.step (i := 11) rfl (by kernel_rfl) rfl (fun K hK => ?_)
     go_simp
     refine hK.out _ _ (fun h => absurd h (by omega)) ?_
     clear hK K
     refine Held.AnyS.done (by kernel_rfl) ?_ _
     go_simp
     gi_wp2
     refine ⟨⟨i + 1, _, by simp, ci, PUSH⟩, ?_⟩
     simp only [jtogo]
     omega
   ·have HOP := Lib.hid (show ∀ e0, es'.getLast? = some e0 → e0.op ≠ E.f0 by intro e0 h0; rw [List.eq_nil_of_length_eq_zero (Nat.eq_zero_of_not_pos cn)] at h0; cases h0)
    have cn1 : decide (0 < es'.length) = false := decide_eq_false cn
    have cn2 : decide ((0 : Int) < (es'.length : Int)) = false := decide_eq_false (by omega)
    clear cn
    gi_wp2_with (first | rw [← HX.out])
    refine Held.region 13 (Held.Same Z5 [wr.heap.size]) (by kernel_rfl) ?_
    rw [← HZ5.out]
    have hS := Held.Same.refl Z5 [wr.heap.size]
    refine Held.tk (i := 0) rfl hS ?_
    try simp only [Act.put, List.setIfInBounds_toArray, List.set_cons_zero, List.set_cons_succ]
    refine Held.tk (i := 1) rfl hS ?_
    try simp only [Act.put, List.setIfInBounds_toArray, List.set_cons_zero, List.set_cons_succ]
    refine Held.tk (i := 2) rfl hS ?_
    try simp only [Act.put, List.setIfInBounds_toArray, List.set_cons_zero, List.set_cons_succ]
    refine Held.AnyS.skip (i := 3) rfl (by kernel_rfl) (fun _ _ _ h => h) rfl (fun _ => rfl) hS ?_
    try simp only [Act.put, List.setIfInBounds_toArray, List.set_cons_zero, List.set_cons_succ]
    refine Held.AnyS.skip (i := 4) rfl (by kernel_rfl) (fun _ _ _ h => h) rfl (fun _ => rfl) hS ?_
    try simp only [Act.put, List.setIfInBounds_toArray, List.set_cons_zero, List.set_cons_succ]
    refine Held.AnyS.skip (i := 5) rfl (by kernel_rfl) (fun _ _ _ h => h) rfl (fun _ => rfl) hS ?_
    try simp only [Act.put, List.setIfInBounds_toArray, List.set_cons_zero, List.set_cons_succ]
    refine Held.AnyS.skip (i := 6) rfl (by kernel_rfl) (fun _ _ _ h => h) rfl (fun _ => rfl) hS ?_
    try simp only [Act.put, List.setIfInBounds_toArray, List.set_cons_zero, List.set_cons_succ]
    refine Held.AnyS.skip (i := 7) rfl (by kernel_rfl) (fun _ _ _ h => h) rfl (fun _ => rfl) hS ?_
    try simp only [Act.put, List.setIfInBounds_toArray, List.set_cons_zero, List.set_cons_succ]
    refine Held.AnyS.skip (i := 8) rfl (by kernel_rfl) (fun _ _ _ h => h) rfl (fun _ => rfl) hS ?_
    try simp only [Act.put, List.setIfInBounds_toArray, List.set_cons_zero, List.set_cons_succ]
    refine Held.AnyS.skip (i := 9) rfl (by kernel_rfl) (fun _ _ _ h => h) rfl (fun _ => rfl) hS ?_
    try simp only [Act.put, List.setIfInBounds_toArray, List.set_cons_zero, List.set_cons_succ]
    refine Held.AnyS.skip (i := 10) rfl (by kernel_rfl) (fun _ _ _ h => h) rfl (fun _ => rfl) hS ?_
    try simp only [Act.put, List.setIfInBounds_toArray, List.set_cons_zero, List.set_cons_succ]
    refine Held.AnyS.skip (i := 11) rfl (by kernel_rfl) (fun _ _ _ h => h) rfl (fun _ => rfl) hS ?_
    try simp only [Act.put, List.setIfInBounds_toArray, List.set_cons_zero, List.set_cons_succ]
    refine Held.tk (i := 12) rfl hS ?_
    try simp only [Act.put, List.setIfInBounds_toArray, List.set_cons_zero, List.set_cons_succ]
    refine Held.AnyS.done (by kernel_rfl) ?_ _
    clear hS
    go_simp
    gi_wp2
    obtain ⟨Z8, hZ8⟩ : ∃ Z8, Z8 = Z5.drew := ⟨_, rfl⟩
    have h8 : Z8.heap = X.heap := by rw [hZ8]; exact H5H.out
    have m0 : Z8.cell? ⟨wr.heap.size, 0, none⟩ = some (.int .i64 E.f0) := (World.cell?_of_block (w := X) (by rw [h8])).trans a0
    have m1 : Z8.cell? ⟨wr.heap.size, 1, none⟩ = some (.int .i64 E.f1) := (World.cell?_of_block (w := X) (by rw [h8])).trans a1
    have m2 : Z8.cell? ⟨wr.heap.size, 2, none⟩ = some (.slice A2' E.f2.length c2') := (World.cell?_of_block (w := X) (by rw [h8])).trans a2
    have b8 : Below wr.heap.size wr Z8 := by rw [hZ8]; exact HB5.out.drew
    have hz8 : ∀ b ∈ [wr.heap.size], b < Z8.heap.size := by
     intro b hb
     rw [List.mem_singleton.1 hb, h8]; exact HQX.out
    have C8 := (HAT.out Z8 (HJ.out.ag.below b8)).2.2.2
    have hEl : E.f2.length ≤ 1000000000000 := by have := HWT.out; unfold wt1 at this; omega
    have hfo : hunks_owned_string.f E.f2 = some E.f2 := by unfold hunks_owned_string.f; rw [if_pos (by simp; omega)]; rfl
    have CO := Lib.hid (hunks_owned_string.calls A2' c2' E.f2 E.f2 Z8 C8 hl2 hfo)
    have HZ8 := Lib.hid hZ8
    have H8B := Lib.hid b8
    have H8Z := Lib.hid hz8
    clear hZ8 h8 b8 hz8 C8 hfo
    refine Held.region 11 (Held.Same Z8 [wr.heap.size]) (by kernel_rfl) ?_
    rw [← HZ8.out]
    have hT := Held.Same.refl Z8 [wr.heap.size]
    refine Held.tk (i := 0) rfl hT ?_
    try simp only [Act.put, List.setIfInBounds_toArray, List.set_cons_zero, List.set_cons_succ]
    refine Held.tk (i := 1) rfl hT ?_
    try simp only [Act.put, List.setIfInBounds_toArray, List.set_cons_zero, List.set_cons_succ]
    refine Held.tk (i := 2) rfl hT ?_
    try simp only [Act.put, List.setIfInBounds_toArray, List.set_cons_zero, List.set_cons_succ]
    refine Held.tk (i := 3) rfl hT ?_
    try simp only [Act.put, List.setIfInBounds_toArray, List.set_cons_zero, List.set_cons_succ]
    refine Held.tk (i := 4) rfl hT ?_
    try simp only [Act.put, List.setIfInBounds_toArray, List.set_cons_zero, List.set_cons_succ]
    refine Held.tk (i := 5) rfl hT ?_
    try simp only [Act.put, List.setIfInBounds_toArray, List.set_cons_zero, List.set_cons_succ]
    refine Held.tk (i := 6) rfl hT ?_
    try simp only [Act.put, List.setIfInBounds_toArray, List.set_cons_zero, List.set_cons_succ]
    refine Held.AnyS.step (i := 7) rfl (by kernel_rfl) rfl (fun K hK => ?_)
    go_simp
    first | refine ⟨trivial, ?_⟩ | skip
    refine (callsIn_wide.2 CO.out).mono ?_
    rintro e Y5 ⟨vL, rfl, hRL, hbY5⟩
    obtain ⟨AL, cL, rfl⟩ := Kd.R_slice hRL
    have hT2 := hT.below hbY5 H8Z.out
    have HRL := Lib.hid hRL
    have HBY5 := Lib.hid hbY5
    clear hRL hbY5
    refine hK.out _ _ (fun _ => hT2) ?_
    clear hK K
    try simp only [Act.put, List.setIfInBounds_toArray, List.set_cons_zero, List.set_cons_succ]
    refine Held.tk (i := 8) rfl hT2 ?_
    try simp only [Act.put, List.setIfInBounds_toArray, List.set_cons_zero, List.set_cons_succ]
    refine Held.AnyS.step (i := 9) rfl (by kernel_rfl) rfl (fun K hK => ?_)
    go_simp
    have hT3 := hT2.grown (World.grownBy_alloc Y5 (.cells #[.int .i64 E.f0, .int .i64 E.f1, .slice AL E.f2.length cL] 31) none) (fun b hb => ⟨H8Z.out b hb, by simp⟩)
    refine hK.out _ _ (fun _ => hT3) ?_
    clear hK K
    try simp only [Act.put, List.setIfInBounds_toArray, List.set_cons_zero, List.set_cons_succ]
    obtain ⟨w2, hw2⟩ : ∃ w2, w2 = Y5.alloc (.cells #[.int .i64 E.f0, .int .i64 E.f1, .slice AL E.f2.length cL] 31) := ⟨_, rfl⟩
    have b82 : Below Z8.heap.size Z8 w2 := by rw [hw2]; exact HBY5.out.alloc HBY5.out.size _
    have s8 := H8B.out.size
    have s82 := b82.size
    have swr := HJ.out.ag.size
    have hBw := HB.out
    have bw2 : Below wr.heap.size wr w2 := H8B.out.trans (b82.mono s8)
    have nw : ∀ j u, [Value.int .i64 E.f0, .int .i64 E.f1, .slice AL E.f2.length cL][j]? = some u → w2.cell? ((⟨Y5.heap.size, 0, none⟩ : Addr).add j) = some u := by
     rw [hw2]
     simpa using World.news_of_block (cs := #[Value.int .i64 E.f0, .int .i64 E.f1, .slice AL E.f2.length cL]) (t := 31) (fr := (0, 0)) (World.alloc_heap_new Y5 _)
    have lns : Lns B w2 (.slice AL E.f2.length cL) E.f2 := by
     rw [hw2]
     exact own_alloc (own_less (Kd.own_of_R HRL.out) (by omega)) _
    have S2 : w2.ownsRow B 31 3 (.slice Ao es'.length co) es'.length (flat es') := (HJ.out.scr.below bw2).1
    have ne8 : ∀ b ∈ [wr.heap.size], some b ≠ (Value.slice Ao es'.length co).ownBlock := by
     intro b hb e
     have h0 := List.mem_singleton.1 hb
     have h1 := (HJ.out.typed (.inl e.symm)).2
     omega
    have hel : es'.length ≤ 1000000000000 := by have := HWT.out; have h1 := wt_len (es'.map Ed.plain); rw [List.length_map] at h1; omega
    rw [← hw2] at hT3 ⊢
    clear hw2
    refine Held.AnyS.step (i := 10) rfl (by kernel_rfl) rfl (fun K hK => ?_)
    refine Held.append_at (.tmp 54) (.tmp 63) 26 rfl B 31 (.agg #[.int .i64 0, .int .i64 0, .slice none 0 0]) 3 40 Try.underlying26 info31 rfl (by omega) (.slice Ao es'.length co) es'.length (flat es') rfl S2 ⟨Y5.heap.size, 0, none⟩ 1 1 [.int .i64 E.f0, .int .i64 E.f1, .slice AL E.f2.length cL] rfl rfl nw ?_ ?_ ?_ ?_ ?_
    ·intro u hu; simp at hu; rcases hu with rfl | rfl | rfl <;> rfl
    ·simp only [maxLen]; omega
    ·omega
    ·omega
    intro v1 w1 hown hgr hat1
    obtain ⟨A5, c5, rfl⟩ := own_slice hown
    have hT4 : Held.Same Z8 [wr.heap.size] w1 := hT3.grown hgr (fun b hb => ⟨H8Z.out b hb, ne8 b hb⟩)
    have PUSH := Lib.hid (HJ.out.push hBw ci HE.out HOP.out bw2 hown hgr hat1 lns (fun k hk => Nat.le_trans s8 (own_base (Kd.own_of_R HRL.out) k hk)))
    clear hown hgr hat1 S2 nw lns bw2 b82 ne8
    refine hK.out _ _ (fun _ => hT4) ?_
    clear hK K hT hT2 hT3 hT4
    try simp only [Act.put, List.setIfInBounds_toArray, List.set_cons_zero, List.set_cons_succ]
    refine Held.AnyS.step (i := 11) rfl (by kernel_rfl) rfl (fun K hK => ?_)
    go_simp
    refine hK.out _ _ (fun h => absurd h (by omega)) ?_
    clear hK K
    refine Held.AnyS.done (by kernel_rfl) ?_ _
    go_simp
    gi_wp2
    refine ⟨⟨i + 1, _, by simp, ci, PUSH⟩, ?_⟩
    simp only [jtogo]
    omega
  ·have cb : decide ((i : Int) < (ms.length : Int)) = false := decide_eq_false (by omega)
   obtain rfl : i = ms.length := by omega
   gi_wp2
   go_ret
   exact ⟨_, _, rfl, HJ.out⟩
end Go.Proofs.Ytgobidmfbjmpkaa.P
end
section
set_option linter.unusedVariables false
set_option linter.unusedSimpArgs false
namespace Go.Proofs.Ytgobidmfbjmpkaa.P
open Go Go.RowKit Go.Proofs.YtgobidmfbjmpkaaW.PrintWords Go.Proofs.YtgobidmfbjmpkaaW.PrintLast Go.Proofs.YtgobidmfbjmpkaaW.PrintMore Go.Proofs.Ytgobidmfbjmpkaa.HEdits Go.Proofs.Ytgobidmfbjmpkaa.HHunks
def SEnd (B : Nat) (r : List S31 × Int) (w : World) (e : Ending) (w' : World) : Prop := ∃ v es, e = .returned (.tuple #[v, .int .i64 r.2]) ∧ Scr B w' v es ∧ es.map Ed.plain = r.1 ∧ Below B w w'
theorem kpL_keptE (n : Int) : (Iter.keptE n).map Ed.plain = kpL n := Iter.keptE_plain n
theorem kept_len (n : Int) : (Iter.keptE n).length = (kpL n).length := by rw [← kpL_keptE, List.length_map]
/-- What kept hands back is read beside a script. -/
theorem more_kept {v : Value} {es : List Ed} {B : Nat} {W W2 : World} {n : Int} {X : Option Addr} {c : Nat} (HS : Scr B W v es) (hK : Scr W.heap.size W2 (.slice X (Iter.keptE n).length c) (Iter.keptE n)) : More v es X (kpL n) W2 := by
 have h := More.of_scr (v := v) (es := es) hK (fun k hk hh => by
  have h1 := (HHunks.Scr.has_typed HS hh).2.1
  have h2 := (HHunks.Scr.has_typed hK hk).1
  omega)
 rw [kpL_keptE] at h
 exact h
theorem kept2 (n : Int) (w : World) : Calls Try.prog 33 #[.int .i64 n] w fun e w' => ∃ X c, e = .returned (.slice X (kpL n).length c) ∧ (kpL n).length ≤ c ∧ Scr w.heap.size w' (.slice X (Iter.keptE n).length c) (Iter.keptE n) ∧ Below w.heap.size w w' :=
 (Iter.kept_calls n w).mono fun e w' ⟨X, c, he, hs, _, hb⟩ => ⟨X, c, by rw [he, kept_len], by rw [← kept_len]; exact own_cap hs.1, hs, hb⟩
set_option maxRecDepth 100000 in
set_option maxHeartbeats 4000000 in
theorem script_run (k : Nat) (A0 : Option Addr) (c0 : Nat) (h : List S28) (n : Int) (r : List S31 × Int) (w : World) (hr0 : Kd.C k28 w A0 h.length h) (hc0 : h.length ≤ c0) (hf : hunks_Script.f k h n = some r) :
  Calls Try.prog 18 #[.slice A0 h.length c0, .int .i64 n] w (SEnd w.heap.size r w) := by
 unfold hunks_Script.f at hf
 obtain ⟨rt, hrt, hf⟩ := Option.bind_eq_some_iff.1 hf
 have HR0 := Lib.hid hr0
 have CR := Lib.hid (hunks_Right.calls k A0 c0 h rt w hr0 hc0 hrt)
 clear hr0 hrt
 by_cases hcond : rt = true ∧ 0 ≤ n ∧ n ≤ 1048576
 ·rw [if_pos hcond] at hf
  obtain ⟨rfl, hn0, hn1⟩ := hcond
  split at hf
  ·rename_i hl
   obtain ⟨q, hq, hf⟩ := Option.bind_eq_some_iff.1 hf
   have HQ := Lib.hid hq
   have HF := Lib.hid hf
   clear hq hf
   have d1 : decide (n < 0) = false := decide_eq_false (by omega)
   have d2 : decide (1048576 < n) = false := decide_eq_false (by omega)
   go_enter Try.func18, Try.ntmps18
   go_wp2_with (first | (go_at_call 16; refine CR.out.mono ?_; rintro e w1 ⟨rfl, hb1⟩))
   have HB1 := Lib.hid hb1
   have hs1 := hb1.size
   clear hb1
   go_loopw [4, 6, 24] (fun v4 v6 v24 wr => ∃ (i : Nat) (es : List Ed) (a : Int), v24 = .int .i64 (i : Int) ∧ v6 = .int .i64 a ∧ i ≤ h.length ∧ Hid (Scr w.heap.size wr v4 es) ∧ Hid (scrL k (h.drop i) (es.map Ed.plain) a = some q) ∧ Hid (Below w.heap.size w wr)) (fun _ _ v24 _ => h.length - (intOf v24).toNat)
   case atStart => exact ⟨0, [], 0, rfl, rfl, Nat.zero_le _, Scr.nil _ _, HQ, HB1⟩
   case round =>
    obtain ⟨i, es, a, rfl, rfl, hi, HS, HL, HB⟩ := hrel
    by_cases ci : i < h.length
    ·have cb : decide ((i : Int) < (h.length : Int)) = true := decide_eq_true (by omega)
     have cb' : decide (i < h.length) = true := decide_eq_true ci
     obtain ⟨ad, A2, c2, rfl, hx0, hx1, hx2, hl2, hC2⟩ := at_T28 HR0.out (i : Int) (by omega) (by omega)
     have HL' := HL.out
     rw [List.drop_eq_getElem_cons ci] at HL'
     have hE0 : h[i] = rd_T28 h (i : Int) := by simp [rd_T28, List.getD_eq_getElem?_getD, List.getElem?_eq_getElem ci]
     rw [hE0] at HL'
     obtain ⟨x, hx⟩ : ∃ x, x = rd_T28 h (i : Int) := ⟨_, rfl⟩
     rw [← hx] at hx0 hx1 hx2 hl2 hC2 HL'
     rw [Int.toNat_natCast] at hx0 hx1 hx2
     obtain ⟨t, hsp, ⟨⟨hf0, hf1⟩, ⟨ha0, ha1⟩, ⟨ht0, ht1⟩, hwt⟩, hnext⟩ := scrL_cons HL'
     have y0 := (HB.out.cell (World.block_lt_of_cell? w _ hx0)).trans hx0
     have y1 := (HB.out.cell (World.block_lt_of_cell? w _ hx1)).trans hx1
     have y2 := (HB.out.cell (World.block_lt_of_cell? w _ hx2)).trans hx2
     have p1 := eq_true (show 0 ≤ (i : Int) by omega)
     have q1 := eq_true (show (i : Int) < (h.length : Int) by omega)
     obtain ⟨t1, t2⟩ := t
     obtain ⟨d, hd⟩ : ∃ d, d = x.f0 - a := ⟨_, rfl⟩
     have s1 : IntKind.i64.wrap (x.f0 - a) = d := by rw [hd, i64_w]; exact jw64 (by omega) (by omega)
     have s1' : wrap64 (x.f0 - a) = d := by rw [hd]; exact jw64 (by omega) (by omega)
     obtain ⟨u, hu⟩ : ∃ u, u = x.f0 + t1 := ⟨_, rfl⟩
     have s2 : IntKind.i64.wrap (x.f0 + t1) = u := by rw [hu, i64_w]; exact jw64 (by simp at ht0; omega) (by simp at ht1; omega)
     have s2' : wrap64 (x.f0 + t1) = u := by rw [hu]; exact jw64 (by simp at ht0; omega) (by simp at ht1; omega)
     rw [← hd] at hwt hnext
     simp only [] at hnext
     rw [← hu] at hnext
     have HN := Lib.hid hnext
     have HW := Lib.hid hwt
     have HSP := Lib.hid hsp
     have HC2 := Lib.hid hC2
     have HX := Lib.hid hx
     clear hnext hwt hsp hC2 hx hx0 hx1 hx2 hE0 HL' HL hd hu hf0 hf1 ha0 ha1 ht0 ht1
     have hsb := HB.out.size
     obtain ⟨X0, hX0⟩ : ∃ X0, X0 = wr.alloc (.cells #[.int .i64 x.f0, .int .i64 x.f1, .slice A2 x.f2.length c2] 28) := ⟨_, rfl⟩
     have qX : X0.heap[wr.heap.size]? = some (.cells #[.int .i64 x.f0, .int .i64 x.f1, .slice A2 x.f2.length c2] 28) := by rw [hX0]; exact World.alloc_heap_new wr _
     have bX : Below wr.heap.size wr X0 := by rw [hX0]; exact (Below.refl _ _).alloc (Nat.le_refl _) _
     have z0 : X0.cell? ⟨wr.heap.size, 0, none⟩ = some (.int .i64 x.f0) := by simp [World.cell?, qX]
     have HSX0 := Lib.hid (HS.out.below bX)
     have hqn := Lib.hid (fun hh : hasS u4 es wr.heap.size => Nat.lt_irrefl _ (HHunks.Scr.has_typed HS.out hh).2.1)
     have hsX := bX.size
     have HX0 := Lib.hid hX0
     have HQX := Lib.hid qX
     have HBX := Lib.hid bX
     have W1b := Lib.hid (show wt (es.map Ed.plain) + wt (kpL d) ≤ 1000000000000 by have := HW.out; have := wt_kpL d; omega)
     clear hX0 qX bX
     go_wp2_with (first | rw [← HX0.out])
     refine (kept2 d X0).mono ?_
     rintro e W2 ⟨X, cX, rfl, hcX, hSX, hbK⟩
     have hs2 := hbK.size
     have HS2 := Lib.hid (HSX0.out.below hbK)
     have HQ2 := Lib.hid ((hbK.block _ (blk_lt HQX.out)).trans HQX.out)
     have J1 := Lib.hid (joined_run w.heap.size u4 es X cX (kpL d) W2 (by omega) HS2.out (more_kept HSX0.out hSX) hcX W1b.out)
     have HBK := Lib.hid hbK
     clear hcX hSX hbK
     go_wp2_with (first | rw [← HX0.out])
     refine J1.out.mono ?_
     rintro e W3 ⟨v3, es3, rfl, hJ3⟩
     have hs3 := hJ3.bel.size
     have HQ3 := Lib.hid ((hJ3.ag.block _ (blk_lt HQ2.out) hqn.out).trans HQ2.out)
     have z2 : W3.cell? ⟨wr.heap.size, 2, none⟩ = some (.slice A2 x.f2.length c2) := by simp [World.cell?, HQ3.out]
     have P3 := Lib.hid (show es3.map Ed.plain = joinL (es.map Ed.plain) (kpL d) by have := hJ3.pl; rwa [List.take_length] at this)
     have BW3 := Lib.hid (((HB.out.trans (HBX.out.mono hsb)).trans (HBK.out.mono (by omega))).trans hJ3.bel)
     have W3b : wt (es3.map Ed.plain) + wt x.f2 ≤ 1000000000000 := by rw [P3.out]; have := HW.out; have := wt_kpL d; have := wt_joinL (kpL d) (es.map Ed.plain); omega
     have J2 := Lib.hid (joined_run w.heap.size v3 es3 A2 c2 x.f2 W3 (by omega) hJ3.scr (More.of_below hJ3.scr (Nat.le_refl _) BW3.out HC2.out) hl2 W3b)
     have hqn3 := Lib.hid (fun hh : hasS v3 es3 wr.heap.size => (hJ3.only _ hh).elim hqn.out (fun h1 => by have := blk_lt HQ2.out; omega))
     clear W3b hJ3 J1
     go_wp2_with (first | rw [← HX0.out])
     refine J2.out.mono ?_
     rintro e W4 ⟨v4, es4, rfl, hJ4⟩
     have hs4 := hJ4.bel.size
     have HQ4 := Lib.hid ((hJ4.ag.block _ (blk_lt HQ3.out) hqn3.out).trans HQ3.out)
     have z3 : W4.cell? ⟨wr.heap.size, 2, none⟩ = some (.slice A2 x.f2.length c2) := by simp [World.cell?, HQ4.out]
     have P4 := Lib.hid (show es4.map Ed.plain = joinL (joinL (es.map Ed.plain) (kpL d)) x.f2 by have := hJ4.pl; rwa [List.take_length, P3.out] at this)
     have BW4 := Lib.hid (BW3.out.trans hJ4.bel)
     have HS4 := Lib.hid hJ4.scr
     have CS := Lib.hid (script_Spans.calls k A2 c2 x.f2 t1 t2 W4 (Kd.C_below HC2.out BW4.out) hl2 HSP.out)
     clear hJ4 J2
     go_wp2_with (first | rw [← HX0.out])
     refine CS.out.mono ?_
     rintro e W5 ⟨rfl, hb5⟩
     have z4 : W5.cell? ⟨wr.heap.size, 0, none⟩ = some (.int .i64 x.f0) := by
      have h5 := (hb5.block _ (blk_lt HQ4.out)).trans HQ4.out
      simp [World.cell?, h5]
     have HS5 := Lib.hid (HS4.out.below hb5)
     have BW5 := Lib.hid (BW4.out.trans (hb5.mono (by have := BW4.out.size; omega)))
     have HN5 := Lib.hid (show scrL k (h.drop (i + 1)) (es4.map Ed.plain) u = some q by rw [P4.out]; exact HN.out)
     clear hb5
     go_wp2_with (first | rw [← HX0.out])
     exact ⟨⟨i + 1, es4, u, by simp, rfl, ci, HS5, HN5, BW5⟩, by simp [intOf]; omega⟩
    ·have cb : decide ((i : Int) < (h.length : Int)) = false := decide_eq_false (by omega)
     have cb' : decide (i < h.length) = false := decide_eq_false ci
     obtain rfl : i = h.length := by omega
     have HL' := HL.out
     rw [List.drop_length] at HL'
     obtain rfl := Option.some.inj HL'
     clear HL' HL
     have HF' := HF.out
     have hsb := HB.out.size
     by_cases cq : a > n
     ·have cq1 : decide (n < a) = true := decide_eq_true cq
      simp only [] at HF'
      rw [if_pos cq] at HF'
      obtain rfl := Option.some.inj HF'
      clear HF' cq HF
      go_wp2
      go_ret2
      exact ⟨_, [], rfl, Scr.nil _ _, rfl, HB.out⟩
     ·have cq1 : decide (n < a) = false := decide_eq_false cq
      simp only [] at HF'
      rw [if_neg cq] at HF'
      split at HF'
      ·rename_i hg
       obtain ⟨hg0, hg1⟩ := hg
       obtain rfl := Option.some.inj HF'
       obtain ⟨d, hd⟩ : ∃ d, d = n - a := ⟨_, rfl⟩
       have s1 : IntKind.i64.wrap (n - a) = d := by rw [hd, i64_w]; exact jw64 (by omega) (by omega)
       have s1' : wrap64 (n - a) = d := by rw [hd]; exact jw64 (by omega) (by omega)
       have W1b := Lib.hid (show wt (es.map Ed.plain) + wt (kpL d) ≤ 1000000000000 by have := wt_kpL d; omega)
       have HD := Lib.hid hd
       clear HF' cq HF hg1 hd
       go_wp2_with (first | rw [← HD.out])
       refine (kept2 d wr).mono ?_
       rintro e W2 ⟨X, cX, rfl, hcX, hSX, hbK⟩
       have hs2 := hbK.size
       have J1 := Lib.hid (joined_run w.heap.size u4 es X cX (kpL d) W2 (by omega) (HS.out.below hbK) (more_kept HS.out hSX) hcX W1b.out)
       have HB2 := Lib.hid (HB.out.trans (hbK.mono hsb))
       clear hcX hSX hbK
       go_wp2_with (first | rw [← HD.out])
       refine J1.out.mono ?_
       rintro e W3 ⟨v3, es3, rfl, hJ3⟩
       have P3 := Lib.hid (show es3.map Ed.plain = joinL (es.map Ed.plain) (kpL d) by have := hJ3.pl; rwa [List.take_length] at this)
       have HS3 := Lib.hid hJ3.scr
       have HB3 := Lib.hid (HB2.out.trans hJ3.bel)
       clear hJ3 J1
       go_wp2_with (first | rw [← HD.out])
       go_ret2
       exact ⟨_, es3, rfl, HS3.out, P3.out, HB3.out⟩
      ·cases HF'
  ·cases hf
 ·rw [if_neg hcond] at hf
  obtain rfl := Option.some.inj hf
  cases rt with
  | false =>
   clear hcond hf
   go_enter Try.func18, Try.ntmps18
   go_wp2_with (first | (go_at_call 16; refine CR.out.mono ?_; rintro e w1 ⟨rfl, hb1⟩; have HB1 := Lib.hid hb1; clear hb1))
   go_ret2
   exact ⟨_, [], rfl, Scr.nil _ _, rfl, HB1.out⟩
  | true =>
   by_cases c1 : n < 0
   ·have d1 : decide (n < 0) = true := decide_eq_true c1
    clear hcond hf c1
    go_enter Try.func18, Try.ntmps18
    go_wp2_with (first | (go_at_call 16; refine CR.out.mono ?_; rintro e w1 ⟨rfl, hb1⟩; have HB1 := Lib.hid hb1; clear hb1))
    go_ret2
    exact ⟨_, [], rfl, Scr.nil _ _, rfl, HB1.out⟩
   ·have d1 : decide (n < 0) = false := decide_eq_false c1
    have d2 : decide (1048576 < n) = true := decide_eq_true (Int.not_le.1 (fun hle => hcond ⟨rfl, by omega, hle⟩))
    clear hcond hf c1
    go_enter Try.func18, Try.ntmps18
    go_wp2_with (first | (go_at_call 16; refine CR.out.mono ?_; rintro e w1 ⟨rfl, hb1⟩; have HB1 := Lib.hid hb1; clear hb1))
    go_ret2
    exact ⟨_, [], rfl, Scr.nil _ _, rfl, HB1.out⟩
theorem hunks_Script.calls (k : Nat) (A0 : Option Addr) (c0 : Nat) (l0 : List S28) (a1 : Int) (r1 : List S31) (r2 : Int) (w : World) (hr0 : Kd.C k28 w A0 l0.length l0) (hc0 : l0.length ≤ c0) (h : hunks_Script.f k l0 a1 = some (r1, r2)) :
  Calls Try.prog 18 #[.slice A0 l0.length c0, .int .i64 a1] w fun e w' => ∃ v0_ : Value, e = .returned (.tuple #[v0_, .int .i64 r2]) ∧ Kd.S k31 31 w' w.heap.size (fun _ => True) v0_ r1 ∧ Below w.heap.size w w' := by
 refine (script_run k A0 c0 l0 a1 (r1, r2) w hr0 hc0 h).mono ?_
 rintro e w' ⟨v, es, he, hk, hp, hb⟩
 exact ⟨v, he, by have := hk.toS; rw [hp] at this; exact this, hb⟩
end Go.Proofs.Ytgobidmfbjmpkaa.P
end
