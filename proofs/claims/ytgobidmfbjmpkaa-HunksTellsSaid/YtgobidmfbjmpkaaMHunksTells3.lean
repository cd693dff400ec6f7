/- Texts of this claim, joined: GMake. -/
import Derived.Test.YtgobidmfbjmpkaaMHunksTells2
import Derived.Test.YtgobidmfbjmpkaaMHunksTells1
import Derived.WalkMore
section
/- hunks.Make: what it answers in plain words, and what stands between two rounds. · hunks.Make: by the iterator's promise. · hunks.Make: its contract. -/
section
set_option linter.unusedVariables false
set_option linter.unusedSimpArgs false
namespace Go.Proofs.Ytgobidmfbjmpkaa.Iter
open Go Go.RowKit Go.Shelf Go.Proofs.Ytgobidmfbjmpkaa.Rng2 Go.Proofs.Ytgobidmfbjmpkaa.P Go.Proofs.YtgobidmfbjmpkaaW.PrintWords Go.Proofs.YtgobidmfbjmpkaaW.PrintLast Go.Proofs.YtgobidmfbjmpkaaW.PrintMore Go.Proofs.Ytgobidmfbjmpkaa.HEdits Go.Proofs.Ytgobidmfbjmpkaa.HHunks
attribute [local go_sem] Oper.semAt_some
abbrev Ed0 := S31
abbrev Hk0 := S28
structure MkS where
 ahead : Int
 opn : Bool
 out : List Hk0
def upLast (out : List Hk0) (more : List Ed0) : List Hk0 := match out.getLast? with
 | some h => out.dropLast ++ [⟨h.f0, h.f1, h.f2 ++ more⟩]
 | none => []
def keptL (n : Int) : List Ed0 := if n < 1 then [] else [⟨1, n, []⟩]
def mkStep (l : List Ed0) (ctx : Int) (st : MkS) (i : Nat) : MkS :=
 if (rd_T31 l (i : Int)).f0 = 1 ∧ st.opn = false then { st with ahead := mn (rd_T31 l (i : Int)).f1 ctx }
 else if (rd_T31 l (i : Int)).f0 = 1 ∧ ((rd_T31 l (i : Int)).f1 > 2 * ctx ∨ i + 1 = l.length) then ⟨mn (rd_T31 l (i : Int)).f1 ctx, false, upLast st.out (keptL (mn (rd_T31 l (i : Int)).f1 ctx))⟩
 else if st.opn = true then { st with out := upLast st.out [rd_T31 l (i : Int)] }
 else ⟨st.ahead, true, st.out ++ [⟨ahead1 l i - st.ahead, ahead2 l i - st.ahead, keptL st.ahead ++ [rd_T31 l (i : Int)]⟩]⟩
def mkAll (l : List Ed0) (ctx : Int) (is : List Nat) : MkS := is.foldl (mkStep l ctx) ⟨0, false, []⟩
def Fits (l : List Ed0) : Prop := l.length ≤ 1000000 ∧ ∀ x ∈ l, 0 ≤ x.f1 ∧ x.f1 ≤ 1048576 ∧ x.f2.length ≤ 1048576
instance (l : List Ed0) : Decidable (Fits l) := inferInstanceAs (Decidable (_ ∧ _))
def hunks_Make.f (k : Nat) (l : List Ed0) (ctx : Int) : Option (List Hk0 × Int) := (script_Right.f k l).bind fun r =>
 if r = true ∧ 0 ≤ ctx ∧ ctx ≤ 100 then (if Fits l then some ((mkAll l ctx (List.range l.length)).out, 0) else none) else some ([], 1)
theorem upLast_snoc (out : List Hk0) (h : Hk0) (more : List Ed0) : upLast (out ++ [h]) more = out ++ [⟨h.f0, h.f1, h.f2 ++ more⟩] := by
 unfold upLast
 rw [List.getLast?_concat, List.dropLast_concat]
theorem keptL_len (n : Int) : (keptL n).length ≤ 1 := by unfold keptL; split <;> simp
/-- While the last hunk is open there is one; there are no more hunks than edits seen, and each holds no more than twice as many edits. -/
def MkOk (st : MkS) (n : Nat) : Prop := (st.opn = true → st.out ≠ []) ∧ st.out.length ≤ n ∧ ∀ h ∈ st.out, h.f2.length ≤ 2 * n
theorem upLast_ok {out : List Hk0} {more : List Ed0} {n : Nat} (hm : more.length ≤ 1) (h2 : out.length ≤ n) (h3 : ∀ h ∈ out, h.f2.length ≤ 2 * n) : (out ≠ [] → upLast out more ≠ []) ∧ (upLast out more).length ≤ n + 1 ∧ ∀ h ∈ upLast out more, h.f2.length ≤ 2 * (n + 1) := by
 rcases List.eq_nil_or_concat out with h0 | ⟨o, h, h0⟩
 ·subst h0
  exact ⟨fun h => absurd rfl h, by simp [upLast], by simp [upLast]⟩
 ·rw [List.concat_eq_append] at h0
  subst h0
  rw [upLast_snoc]
  refine ⟨fun _ => by simp, by simp at h2 ⊢; omega, fun q hq => ?_⟩
  rcases List.mem_append.1 hq with hq | hq
  ·have := h3 q (List.mem_append_left _ hq); omega
  ·rw [List.mem_singleton.1 hq]
   have := h3 h (by simp)
   show (h.f2 ++ more).length ≤ _
   rw [List.length_append]; omega
theorem mkStep_ok (l : List Ed0) (ctx : Int) {st : MkS} {n : Nat} (h : MkOk st n) (i : Nat) : MkOk (mkStep l ctx st i) (n + 1) := by
 obtain ⟨h1, h2, h3⟩ := h
 unfold mkStep
 split
 ·exact ⟨h1, Nat.le_succ_of_le h2, fun q hq => by have := h3 q hq; omega⟩
 ·split
  ·obtain ⟨a, b, c⟩ := upLast_ok (keptL_len (mn (rd_T31 l (i : Int)).f1 ctx)) h2 h3
   exact ⟨fun e => Bool.noConfusion e, b, c⟩
  ·split
   ·rename_i ho
    obtain ⟨a, b, c⟩ := upLast_ok (more := [rd_T31 l (i : Int)]) (by simp) h2 h3
    exact ⟨fun _ => a (h1 ho), b, c⟩
   ·refine ⟨fun _ => by simp, by simp; omega, fun q hq => ?_⟩
    rcases List.mem_append.1 hq with hq | hq
    ·have := h3 q hq; omega
    ·rw [List.mem_singleton.1 hq]
     have := keptL_len st.ahead
     show (keptL st.ahead ++ [rd_T31 l (i : Int)]).length ≤ _
     rw [List.length_append, List.length_singleton]; omega
theorem mkAll_ok (l : List Ed0) (ctx : Int) (is : List Nat) : MkOk (mkAll l ctx is) is.length := by
 have gen : ∀ (is : List Nat) (st : MkS) (n : Nat), MkOk st n → MkOk (is.foldl (mkStep l ctx) st) (n + is.length) := by
  intro is
  induction is with
  | nil => intro st n h; exact h
  | cons i is ih =>
   intro st n h
   have := ih _ _ (mkStep_ok l ctx h i)
   rw [List.length_cons, show n + (is.length + 1) = n + 1 + is.length by omega]
   exact this
 have := gen is ⟨0, false, []⟩ 0 ⟨fun e => Bool.noConfusion e, Nat.le_refl _, fun q hq => by cases hq⟩
 rw [Nat.zero_add] at this
 exact this
theorem rd_fits {l : List Ed0} (h : Fits l) (i : Nat) : 0 ≤ (rd_T31 l (i : Int)).f1 := by
 by_cases hi : i < l.length
 ·exact (h.2 _ (by rw [show rd_T31 l (i : Int) = l[i] by simp [rd_T31, List.getD_eq_getElem?_getD, List.getElem?_eq_getElem hi]]; exact List.getElem_mem hi)).1
 ·rw [show rd_T31 l (i : Int) = _ by simp only [rd_T31, Int.toNat_natCast, List.getD_eq_getElem?_getD, List.getElem?_eq_none (Nat.le_of_not_lt hi)]; rfl]
  decide
theorem mkAll_ahead {l : List Ed0} (h : Fits l) {ctx : Int} (hc : 0 ≤ ctx) (is : List Nat) : 0 ≤ (mkAll l ctx is).ahead ∧ (mkAll l ctx is).ahead ≤ ctx := by
 have gen : ∀ (is : List Nat) (st : MkS), (0 ≤ st.ahead ∧ st.ahead ≤ ctx) → 0 ≤ (is.foldl (mkStep l ctx) st).ahead ∧ (is.foldl (mkStep l ctx) st).ahead ≤ ctx := by
  intro is
  induction is with
  | nil => intro st h; exact h
  | cons i is ih =>
   intro st hs
   refine ih _ ?_
   have hf := rd_fits h i
   have hm : 0 ≤ mn (rd_T31 l (i : Int)).f1 ctx ∧ mn (rd_T31 l (i : Int)).f1 ctx ≤ ctx := by unfold mn; split <;> omega
   unfold mkStep
   split
   ·exact hm
   ·split
    ·exact hm
    ·split
     ·exact hs
     ·exact hs
 exact gen is _ ⟨Int.le_refl _, hc⟩
/-- Between two rounds. -/
structure Inv (l : List Ed0) (ctx : Int) (n0 n2 : Nat) (A0 : Option Addr) (c0 : Nat) (w : World) (pre : List Nat) (W : World) (hs : List Hd) (v : Value) : Prop where
 bS : Boxed W n0 26 (.slice A0 l.length c0)
 bC : Boxed W (n0 + 1) 3 (.int .i64 ctx)
 bO : Boxed W (n0 + 1 + 1) 22 v
 bA : Boxed W n2 3 (.int .i64 (mkAll l ctx pre).ahead)
 bP : Boxed W (n2 + 1) 4 (.bool (mkAll l ctx pre).opn)
 bI : Boxed W (n2 + 1 + 1) 3 (.int .i64 (pre.length : Int))
 bB : Boxed W (n2 + 1 + 1 + 1) 26 (.slice A0 l.length c0)
 hk : Hks (n2 + 7) W v hs
 pl : hs.map Hd.plain = (mkAll l ctx pre).out
 bel : Below w.heap.size w W
 sz : n2 + 4 ≤ W.heap.size
theorem Inv.grown {l : List Ed0} {ctx : Int} {n0 n2 : Nat} {A0 : Option Addr} {c0 : Nat} {w : World} {pre : List Nat} {W Y : World} {hs : List Hd} {v : Value} (h : Inv l ctx n0 n2 A0 c0 w pre W hs v) (h3 : n0 + 3 ≤ n2) (hw : w.heap.size ≤ n2) {row : Option Nat} (hg : W.grownBy Y row) (hr : ∀ r, row = some r → n2 + 4 ≤ r ∧ ¬ has v hs r) : Inv l ctx n0 n2 A0 c0 w pre Y hs v := by
 have nb : ∀ b, b < n2 + 4 → some b ≠ row := fun b hb e => by have := (hr b e.symm).1; omega
 exact ⟨h.bS.kept hg (nb _ (by omega)), h.bC.kept hg (nb _ (by omega)), h.bO.kept hg (nb _ (by omega)), h.bA.kept hg (nb _ (by omega)), h.bP.kept hg (nb _ (by omega)), h.bI.kept hg (nb _ (by omega)), h.bB.kept hg (nb _ (by omega)), h.hk.other hg (fun k e => (hr k e).2), h.pl, h.bel.grown hg (by have := h.sz; omega) (fun k e => by have := (hr k e).1; omega), Nat.le_trans h.sz hg.size⟩
theorem Inv.bides {l : List Ed0} {ctx : Int} {n0 n2 : Nat} {A0 : Option Addr} {c0 : Nat} {w : World} {pre : List Nat} {W Y : World} {hs : List Hd} {v : Value} (h : Inv l ctx n0 n2 A0 c0 w pre W hs v) (h3 : n0 + 3 ≤ n2) (hw : w.heap.size ≤ n2) {row : Option Nat} (hg : W.grownBy Y row) (hr : ∀ r, row = some r → r = n2 + 6 ∨ (n2 + 4 ≤ r ∧ ∃ o : Obj, W.heap[r]? = some o ∧ o.isCells = false)) : Inv l ctx n0 n2 A0 c0 w pre Y hs v := by
 refine h.grown h3 hw hg (fun r e => ?_)
 rcases hr r e with rfl | ⟨h1, o, ho, hc⟩
 ·exact ⟨by omega, fun hh => by have := (h.hk.typed hh).1; omega⟩
 ·refine ⟨h1, fun hh => ?_⟩
  obtain ⟨_, _, q, cells, _, hq⟩ := h.hk.typed hh
  rw [ho] at hq; cases hq; cases hc
/-- The end of a round: what was written are the boxes of out, ahead, open, i, and blocks of the hunks' own. -/
theorem leave {l : List Ed0} {ctx : Int} {n0 n2 : Nat} {A0 : Option Addr} {c0 : Nat} {w : World} {pre : List Nat} {x : Nat} {W Y : World} {hs hs' : List Hd} {v v' : Value} {b : Nat} {a : Act} (hI : Inv l ctx n0 n2 A0 c0 w pre W hs v) (hn : ¬ has v hs b) (hb : n2 + 6 ≤ b) (hbW : b < W.heap.size) (h3 : n0 + 3 ≤ n2)
  (same : ∀ k, k < W.heap.size → k ≠ n0 + 1 + 1 → k ≠ n2 → k ≠ n2 + 1 → k ≠ n2 + 1 + 1 → ¬ has v hs k → Y.heap[k]? = W.heap[k]?) (hbel : Below w.heap.size W Y) (hsz : W.heap.size ≤ Y.heap.size) (hI' : Inv l ctx n0 n2 A0 c0 w (pre ++ [x]) Y hs' v') :
  Rng2.Left (n2 + 3 + 1) (Kp w.heap.size (n2 + 1 + 1 + 1) (n2 + 3 + 1 + 2) b) (fun pre W => ∃ hs v, Inv l ctx n0 n2 A0 c0 w pre W hs v) (fun _ _ _ => False) (pre ++ [x]) W .normal a Y := by
 have low : ∀ k, k < n2 + 7 → ¬ has v hs k := fun k hk hh => by have := (hI.hk.typed hh).1; omega
 refine ⟨⟨hsz, fun i o hB hi ho => ?_⟩, ⟨?_, ?_, hbel, ?_⟩, hs', v', hI'⟩
 ·refine (same i (Array.getElem?_eq_some_iff.1 hi).1 (by omega) (by omega) (by omega) (by omega) (fun hh => ?_)).trans hi
  obtain ⟨_, _, q, cells, _, hq⟩ := hI.hk.typed hh
  rw [hi] at hq; cases hq; cases ho
 ·exact same _ (by omega) (by omega) (by omega) (by omega) (by omega) (low _ (by omega))
 ·exact same _ hI.bB.lt (by omega) (by omega) (by omega) (by omega) (low _ (by omega))
 ·exact same _ hbW (by omega) (by omega) (by omega) (by omega) hn
/-- What kept hands back. -/
def keptE (n : Int) : List Ed := if n < 1 then [] else [⟨1, n, .slice none 0 0, []⟩]
theorem keptE_plain (n : Int) : (keptE n).map Ed.plain = keptL n := by unfold keptE keptL; split <;> rfl
theorem keptE_len (n : Int) : (keptE n).length ≤ 1 := by unfold keptE; split <;> simp
theorem keptE_own (n : Int) : ∀ e ∈ keptE n, e.v = .slice none 0 0 ∧ e.l = [] := by
 unfold keptE; split
 ·intro e he; cases he
 ·intro e he; rw [List.mem_singleton.1 he]; exact ⟨rfl, rfl⟩
theorem keptE_one (n : Int) : ∀ u ∈ flat (keptE n), u.oneCell' = true := by
 unfold keptE; split
 ·intro u hu; cases hu
 ·intro u hu; simp [flat, Ed.cells] at hu; rcases hu with rfl | rfl | rfl <;> rfl
theorem keptE_pair (n : Int) : (keptE n).Pairwise fun p q => NeRow p.v q.v := by
 unfold keptE; split
 ·exact .nil
 ·exact List.pairwise_singleton _ _
set_option maxHeartbeats 1000000 in
theorem kept_calls (n : Int) (w : World) : Calls Try.prog 33 #[.int .i64 n] w fun e w' => ∃ X c, e = .returned (.slice X (keptE n).length c) ∧ Scr w.heap.size w' (.slice X (keptE n).length c) (keptE n) ∧
  ((X = none ∧ (keptE n).length = 0) ∨ ∃ ad, X = some ad ∧ ∀ j u, (flat (keptE n))[j]? = some u → w'.cell? (ad.add j) = some u) ∧ Below w.heap.size w w' := by
 by_cases h : n < 1
 ·have hb : decide (n < 1) = true := decide_eq_true h
  have hk : keptE n = [] := by unfold keptE; rw [if_pos h]
  rw [hk]
  clear h hk
  go_enter Try.func33, Try.ntmps33
  go_wp2
  go_ret
  exact ⟨none, 0, rfl, Scr.nil _ _, .inl (by simp), Below.refl _ _⟩
 ·have hb : decide (n < 1) = false := decide_eq_false h
  have hk : keptE n = [⟨1, n, .slice none 0 0, []⟩] := by unfold keptE; rw [if_neg h]
  rw [hk]
  clear h hk
  go_enter Try.func33, Try.ntmps33
  go_wp2
  go_ret
  refine ⟨some ⟨w.heap.size, 0, none⟩, 1, rfl, ⟨?_, ?_, List.pairwise_singleton _ _⟩, .inr ⟨_, rfl, ?_⟩, (Below.refl _ _).alloc (Nat.le_refl _) _⟩
  ·exact World.ownsRow_lit (base := w.heap.size) (e := 31) (size := 3) w #[.int .i64 1, .int .i64 n, .slice none 0 0] 1 (Nat.le_refl _) (by simp [maxLen]) rfl
  ·intro e he
   rw [List.mem_singleton.1 he]
   exact own_nil _ _ _ _
  ·have h := World.news_of_block (cs := #[Value.int .i64 1, .int .i64 n, .slice none 0 0]) (t := 31) (fr := (0, 0)) (World.alloc_heap_new w (.cells #[Value.int .i64 1, .int .i64 n, .slice none 0 0] 31))
   exact h
/-- In a round, behind the store of the last hunk's edits. -/
structure Mid (n0 n2 : Nat) (w W Y : World) (hs hs' : List Hd) (v : Value) (m : Nat) : Prop where
 hk : Hks (n2 + 7) Y v hs'
 same : ∀ k, k < W.heap.size → k ≠ n2 + 1 + 1 → ¬ has v hs k → Y.heap[k]? = W.heap[k]?
 bel : Below w.heap.size W Y
 bI : Boxed Y (n2 + 1 + 1) 3 (.int .i64 (m : Int))
theorem mid_last {l : List Ed0} {ctx : Int} {n0 n2 : Nat} {A0 : Option Addr} {c0 : Nat} {w : World} {pre : List Nat} {W Z w1 w2 : World} {hs : List Hd} {h : Hd} {v v1 : Value} {g cap n m : Nat} {more : List Ed}
  (hI : Inv l ctx n0 n2 A0 c0 w pre W (hs ++ [h]) v) (h3 : n0 + 3 ≤ n2) (hw : w.heap.size ≤ n2) (hv : v = .slice (some ⟨g, 0, none⟩) n cap)
  (gZ : W.grownBy Z (some (n2 + 1 + 1))) (bI : Boxed Z (n2 + 1 + 1) 3 (.int .i64 (m : Int))) (bZ : Below Z.heap.size Z w2)
  (hn : w1.ownsRow (n2 + 7) 31 3 v1 (h.es.length + more.length) (flat h.es ++ flat more)) (hg : w2.grownBy w1 h.v.ownBlock) (hat : v1.ownBlock = h.v.ownBlock ∨ v1.ownBlock = some w2.heap.size)
  (hl : ∀ e ∈ more, Lns (n2 + 7) w2 e.v e.l) (hf : ∀ e ∈ more, ∀ k, e.v.ownBlock = some k → Z.heap.size ≤ k) (hp : more.Pairwise fun p q => NeRow p.v q.v) :
  Mid n0 n2 w W (w1.setCell ⟨g, hs.length * 3 + 2, none⟩ v1) (hs ++ [h]) (hs ++ [⟨h.fr, h.tt, v1, h.es ++ more⟩]) v m ∧ w1.cell? ⟨g, hs.length * 3 + 2, none⟩ = some h.v ∧ w1.frozen? ⟨g, hs.length * 3 + 2, none⟩ = false := by
 have kW := hI.hk
 have kZ : Hks (n2 + 7) Z v (hs ++ [h]) := kW.other gZ (fun k e hh => by cases e; have := (kW.typed hh).1; omega)
 have k2 : Hks (n2 + 7) w2 v (hs ++ [h]) := kZ.below bZ
 obtain ⟨a1, a2, a3⟩ := k2.addLast hv hn hg (hat.imp id fun h1 => ⟨_, h1, Nat.le_refl _⟩) hl (fun e he k hk hh => by
  have h1 := hf e he k hk
  have h2 := (kZ.typed hh).2.1
  omega) hp
 have hgb : n2 + 7 ≤ g := by
  obtain ⟨g', cap', _, e, hg', _⟩ := kW.form
  rw [hv] at e
  injection e with e
  injection e with e
  injection e with e
  omega
 have hvo : v.ownBlock = some g := by rw [hv]; rfl
 have hhb : ∀ k, h.v.ownBlock = some k → n2 + 7 ≤ k := fun k hk => (kW.has_typed (h := h) (by simp) (.inl hk)).1
 have s1 := gZ.size
 have s2 := bZ.size
 have s3 := hg.size
 refine ⟨⟨a1, fun k hk h1 h2 => ?_, ?_, ?_⟩, a2, a3⟩
 ·refine (Below.heap_setCell _ _ _ k (fun e => h2 (.inl (by rw [hvo]; exact congrArg some e.symm)))).trans ?_
  refine (hg.block k (by omega) (fun e => h2 (.inr ⟨h, by simp, .inl e.symm⟩))).trans ?_
  exact (bZ.block k (by omega)).trans (gZ.block k hk (by simp; omega))
 ·have hsz := hI.bel.size
  have b1 : Below w.heap.size W Z := (Below.refl _ _).grown gZ hsz (fun k e => by cases e; omega)
  have b2 := b1.trans (bZ.mono (Nat.le_trans hsz s1))
  have b3 := b2.grown hg (by omega) (fun k e => by have := hhb k e; omega)
  exact b3.setCell (by simp; omega) _
 ·have lt := bI.lt
  refine (Below.heap_setCell _ _ _ _ (by simp; omega)).trans ((hg.block _ (by omega) (fun e => by have := hhb _ e.symm; omega)).trans ((bZ.block _ lt).trans bI))
theorem fin_grow {l : List Ed0} {ctx : Int} {n0 n2 : Nat} {A0 : Option Addr} {c0 : Nat} {w : World} {pre : List Nat} {x : Nat} {W Y : World} {hs hs' : List Hd} {v : Value} {b : Nat}
  (hI : Inv l ctx n0 n2 A0 c0 w pre W hs v) (hn : ¬ has v hs b) (hb : n2 + 6 ≤ b) (hbW : b < W.heap.size) (h3 : n0 + 3 ≤ n2) (M : Mid n0 n2 w W Y hs hs' v (pre ++ [x]).length)
  (hst : mkAll l ctx (pre ++ [x]) = { mkAll l ctx pre with out := hs'.map Hd.plain }) (a : Act) :
  Rng2.Left (n2 + 3 + 1) (Kp w.heap.size (n2 + 1 + 1 + 1) (n2 + 3 + 1 + 2) b) (fun pre W => ∃ hs v, Inv l ctx n0 n2 A0 c0 w pre W hs v) (fun _ _ _ => False) (pre ++ [x]) W .normal a Y := by
 have low : ∀ k, k < n2 + 7 → ¬ has v hs k := fun k hk hh => by have := (hI.hk.typed hh).1; omega
 have kp : ∀ {B t u}, B < n2 + 4 → B ≠ n2 + 1 + 1 → Boxed W B t u → Boxed Y B t u := fun h1 h2 hB => (M.same _ hB.lt h2 (low _ (by omega))).trans hB
 refine leave hI hn hb hbW h3 (fun k hk _ _ _ h4 hh => M.same k hk h4 hh) M.bel M.bel.size
  ⟨kp (by omega) (by omega) hI.bS, kp (by omega) (by omega) hI.bC, kp (by omega) (by omega) hI.bO, ?_, ?_, M.bI, kp (by omega) (by omega) hI.bB, M.hk, ?_, hI.bel.trans M.bel, Nat.le_trans hI.sz M.bel.size⟩
 ·rw [hst]; exact kp (by omega) (by omega) hI.bA
 ·rw [hst]; exact kp (by omega) (by omega) hI.bP
 ·rw [hst]
theorem fin_shut {l : List Ed0} {ctx : Int} {n0 n2 : Nat} {A0 : Option Addr} {c0 : Nat} {w : World} {pre : List Nat} {x : Nat} {W Y : World} {hs hs' : List Hd} {v : Value} {b : Nat} {ah : Int}
  (hI : Inv l ctx n0 n2 A0 c0 w pre W hs v) (hn : ¬ has v hs b) (hb : n2 + 6 ≤ b) (hbW : b < W.heap.size) (h3 : n0 + 3 ≤ n2) (hw : w.heap.size ≤ n2) (M : Mid n0 n2 w W Y hs hs' v (pre ++ [x]).length)
  (hst : mkAll l ctx (pre ++ [x]) = ⟨ah, false, hs'.map Hd.plain⟩) (a : Act) :
  Rng2.Left (n2 + 3 + 1) (Kp w.heap.size (n2 + 1 + 1 + 1) (n2 + 3 + 1 + 2) b) (fun pre W => ∃ hs v, Inv l ctx n0 n2 A0 c0 w pre W hs v) (fun _ _ _ => False) (pre ++ [x]) W .normal a ((Y.setCell ⟨n2, 0, none⟩ (.int .i64 ah)).setCell ⟨n2 + 1, 0, none⟩ (.bool false)) := by
 have low : ∀ k, k < n2 + 7 → ¬ has v hs k := fun k hk hh => by have := (hI.hk.typed hh).1; omega
 have low' : ∀ k, k < n2 + 7 → ¬ has v hs' k := fun k hk hh => by have := (M.hk.typed hh).1; omega
 obtain ⟨Y1, hY1⟩ : ∃ Y1, Y1 = Y.setCell ⟨n2, 0, none⟩ (.int .i64 ah) := ⟨_, rfl⟩
 have g1 : Y.grownBy Y1 (some n2) := by rw [hY1]; exact grownBy_setCell' Y _ _
 have g2 := grownBy_setCell' Y1 (n2 + 1) (.bool false)
 rw [← hY1]
 have s0 := M.bel.size
 have s1 := g1.size
 have s2 := g2.size
 have kp : ∀ {B t u}, B < n2 + 4 → B ≠ n2 + 1 + 1 → Boxed W B t u → Boxed Y B t u := fun h1 h2 hB => (M.same _ hB.lt h2 (low _ (by omega))).trans hB
 have kq : ∀ {B t u}, B ≠ n2 → B ≠ n2 + 1 → Boxed Y B t u → Boxed (Y1.setCell ⟨n2 + 1, 0, none⟩ (.bool false)) B t u := fun h1 h2 hB => (hB.kept g1 (by simp; omega)).kept g2 (by simp; omega)
 have k1 := M.hk.other g1 (fun k e hh => by cases e; exact low' _ (by omega) hh)
 have k2 := k1.other g2 (fun k e hh => by cases e; exact low' _ (by omega) hh)
 have hsz := hI.bel.size
 have b1 := M.bel.grown g1 (by omega) (fun k e => by cases e; omega)
 have b2 := b1.grown g2 (by omega) (fun k e => by cases e; omega)
 refine leave hI hn hb hbW h3 (fun k hk _ h2 h2' h4 hh => (g2.block k (by omega) (by simp; omega)).trans ((g1.block k (by omega) (by simp; omega)).trans (M.same k hk h4 hh))) b2 b2.size
  ⟨kq (by omega) (by omega) (kp (by omega) (by omega) hI.bS), kq (by omega) (by omega) (kp (by omega) (by omega) hI.bC), kq (by omega) (by omega) (kp (by omega) (by omega) hI.bO), ?_, ?_, kq (by omega) (by omega) M.bI, kq (by omega) (by omega) (kp (by omega) (by omega) hI.bB), k2, ?_, hI.bel.trans b2, Nat.le_trans hI.sz b2.size⟩
 ·rw [hst]
  have h1 := (kp (by omega) (by omega) hI.bA).set (.int .i64 ah)
  rw [← hY1] at h1
  exact h1.kept g2 (by simp)
 ·rw [hst]
  exact ((kp (by omega) (by omega) hI.bP).kept g1 (by simp)).set (.bool false)
 ·rw [hst]
theorem scr_far {base : Nat} {w : World} {v : Value} {es : List Ed} (h : Scr base w v es) {q : Nat} {cs : Array Value} (hq : w.heap[q]? = some (.cells cs 28 (0, 0))) (i : Nat) (u : Value) : Scr base (w.setCell ⟨q, i, none⟩ u) v es :=
 ⟨own_setCell h.1 (own_ne h.1 hq (by decide)) u, fun e he => own_setCell (h.2.1 e he) (own_ne (h.2.1 e he) hq (by decide)) u, h.2.2⟩
theorem fin_push {l : List Ed0} {ctx : Int} {n0 n2 : Nat} {A0 : Option Addr} {c0 : Nat} {w : World} {pre : List Nat} {x : Nat} {W Z Y7 w7 : World} {hs : List Hd} {h : Hd} {v v' : Value} {b : Nat}
  (hI : Inv l ctx n0 n2 A0 c0 w pre W hs v) (hn : ¬ has v hs b) (hb : n2 + 6 ≤ b) (hbW : b < W.heap.size) (h3 : n0 + 3 ≤ n2) (hw : w.heap.size ≤ n0)
  (gZ : W.grownBy Z (some (n2 + 1 + 1))) (bI : Boxed Z (n2 + 1 + 1) 3 (.int .i64 ((pre ++ [x]).length : Int))) (bZ : Below Z.heap.size Z Y7)
  (hS : Scr (n2 + 7) Y7 h.v h.es) (hfr : ∀ k, h.has k → Z.heap.size ≤ k)
  (hrow : w7.ownsRow (n2 + 7) 28 3 v' (hs.length + 1) (hflat hs ++ h.cells)) (hg : Y7.grownBy w7 v.ownBlock)
  (hst : mkAll l ctx (pre ++ [x]) = ⟨(mkAll l ctx pre).ahead, true, (mkAll l ctx pre).out ++ [h.plain]⟩) (a : Act) :
  Rng2.Left (n2 + 3 + 1) (Kp w.heap.size (n2 + 1 + 1 + 1) (n2 + 3 + 1 + 2) b) (fun pre W => ∃ hs v, Inv l ctx n0 n2 A0 c0 w pre W hs v) (fun _ _ _ => False) (pre ++ [x]) W .normal a ((w7.setCell ⟨n0 + 1 + 1, 0, none⟩ v').setCell ⟨n2 + 1, 0, none⟩ (.bool true)) := by
 have kW := hI.hk
 have kZ : Hks (n2 + 7) Z v hs := kW.other gZ (fun k e hh => by cases e; have := (kW.typed hh).1; omega)
 have k7 : Hks (n2 + 7) w7 v' (hs ++ [h]) := (kZ.below bZ).push hrow hg hS (fun p hp k hk hk' => by
  have h1 := (kZ.has_typed hp hk).2.1
  have h2 := hfr k hk'
  omega)
 have low : ∀ k, k < n2 + 7 → ¬ has v hs k := fun k hk hh => by have := (hI.hk.typed hh).1; omega
 have low' : ∀ k, k < n2 + 7 → ¬ has v' (hs ++ [h]) k := fun k hk hh => by have := (k7.typed hh).1; omega
 obtain ⟨U, hU⟩ : ∃ U, U = w7.setCell ⟨n0 + 1 + 1, 0, none⟩ v' := ⟨_, rfl⟩
 have g1 : w7.grownBy U (some (n0 + 1 + 1)) := by rw [hU]; exact grownBy_setCell' _ _ _
 have g2 := grownBy_setCell' U (n2 + 1) (.bool true)
 rw [← hU]
 have s0 := gZ.size
 have s1 := bZ.size
 have s2 := hg.size
 have s3 := g1.size
 have s4 := g2.size
 have hsz := hI.bel.size
 have hWs := hI.sz
 have vb : ∀ k, v.ownBlock = some k → n2 + 7 ≤ k := fun k hk => (kW.typed (.inl hk)).1
 have sm : ∀ k, k < W.heap.size → k ≠ n2 + 1 + 1 → ¬ has v hs k → w7.heap[k]? = W.heap[k]? := fun k hk h1 h2 =>
  (hg.block k (by omega) (fun e => h2 (.inl e.symm))).trans ((bZ.block k (by omega)).trans (gZ.block k hk (by simp; omega)))
 have kp : ∀ {B t u}, B < n2 + 4 → B ≠ n2 + 1 + 1 → Boxed W B t u → Boxed w7 B t u := fun h1 h2 hB => (sm _ hB.lt h2 (low _ (by omega))).trans hB
 have kq : ∀ {B t u}, B ≠ n0 + 1 + 1 → B ≠ n2 + 1 → Boxed w7 B t u → Boxed (U.setCell ⟨n2 + 1, 0, none⟩ (.bool true)) B t u := fun h1 h2 hB => (hB.kept g1 (by simp; omega)).kept g2 (by simp; omega)
 have bI7 : Boxed w7 (n2 + 1 + 1) 3 (.int .i64 ((pre ++ [x]).length : Int)) := (hg.block _ (by have := bI.lt; omega) (fun e => by have := vb _ e.symm; omega)).trans ((bZ.block _ bI.lt).trans bI)
 have b1 : Below w.heap.size W Z := (Below.refl _ _).grown gZ hsz (fun k e => by cases e; omega)
 have b2 := b1.trans (bZ.mono (Nat.le_trans hsz s0))
 have b3 := b2.grown hg (by omega) (fun k e => by have := vb k e; omega)
 have b4 := b3.grown g1 (by omega) (fun k e => by cases e; omega)
 have b5 := b4.grown g2 (by omega) (fun k e => by cases e; omega)
 have k8 := k7.other g1 (fun k e hh => by cases e; exact low' _ (by omega) hh)
 have k9 := k8.other g2 (fun k e hh => by cases e; exact low' _ (by omega) hh)
 refine leave hI hn hb hbW h3 (fun k hk h1 _ h2' h4 hh => (g2.block k (by omega) (by simp; omega)).trans ((g1.block k (by omega) (by simp; omega)).trans (sm k hk h4 hh))) b5 b5.size
  ⟨kq (by omega) (by omega) (kp (by omega) (by omega) hI.bS), kq (by omega) (by omega) (kp (by omega) (by omega) hI.bC), ?_, ?_, ?_, kq (by omega) (by omega) bI7, kq (by omega) (by omega) (kp (by omega) (by omega) hI.bB), k9, ?_, hI.bel.trans b5, Nat.le_trans hI.sz b5.size⟩
 ·have h1 := (kp (by omega) (by omega) hI.bO).set v'
  rw [← hU] at h1
  exact h1.kept g2 (by simp; omega)
 ·rw [hst]; exact kq (by omega) (by omega) (kp (by omega) (by omega) hI.bA)
 ·rw [hst]; exact ((kp (by omega) (by omega) hI.bP).kept g1 (by simp; omega)).set (.bool true)
 ·rw [hst, plain_snoc, hI.pl]
end Go.Proofs.Ytgobidmfbjmpkaa.Iter
end
section
set_option linter.unusedVariables false
set_option linter.unusedSimpArgs false
namespace Go.Proofs.Ytgobidmfbjmpkaa.Iter
open Go Go.RowKit Go.Shelf Go.Proofs.Ytgobidmfbjmpkaa.Rng2 Go.Proofs.Ytgobidmfbjmpkaa.P Go.Proofs.YtgobidmfbjmpkaaW.PrintWords Go.Proofs.YtgobidmfbjmpkaaW.PrintLast Go.Proofs.YtgobidmfbjmpkaaW.PrintMore Go.Proofs.Ytgobidmfbjmpkaa.HEdits Go.Proofs.Ytgobidmfbjmpkaa.HHunks
attribute [local go_sem] Oper.semAt_some min_two HMin.min2_mn
set_option maxRecDepth 100000 in
set_option maxHeartbeats 2000000 in
theorem make_run (k : Nat) (A0 : Option Addr) (c0 : Nat) (l : List Ed0) (ctx : Int) (r : List Hk0 × Int) (w : World) (hr0 : Kd.C k31 w A0 l.length l) (hc0 : l.length ≤ c0) (h : hunks_Make.f k l ctx = some r) :
  Calls Try.prog 12 #[.slice A0 l.length c0, .int .i64 ctx] w fun e w' => ∃ v hs, e = .returned (.tuple #[v, .int .i64 r.2]) ∧ Hks w.heap.size w' v hs ∧ hs.map Hd.plain = r.1 ∧ Below w.heap.size w w' := by
 unfold hunks_Make.f at h
 obtain ⟨rt, hrt, h⟩ := Option.bind_eq_some_iff.1 h
 refine (callsIn_wide (n := 9)).1 ?_
 refine callsIn_of_wp_marks Try.func12 rfl trivial ?_ rfl
 simp only [Try.ntmps12, List.size_toArray, List.length_cons, List.length_nil, Nat.reduceAdd, Nat.reduceSub, Array.replicate_succ, Array.replicate_zero, List.push_toArray, List.append_toArray, List.nil_append, List.cons_append]
 obtain ⟨W1, hW1⟩ : ∃ W1, W1 = ((w.alloc (.cells #[.slice A0 l.length c0] 26)).alloc (.cells #[.int .i64 ctx] 3)).alloc (.cells #[.slice none 0 0] 22) := ⟨_, rfl⟩
 have z1 : W1.heap.size = w.heap.size + 3 := by rw [hW1]; simp
 have bel1 : Below w.heap.size w W1 := by rw [hW1]; exact (((Below.refl _ w).alloc (Nat.le_refl _) _).alloc (by simp) _).alloc (by simp; omega) _
 have bS1 : Boxed W1 w.heap.size 26 (.slice A0 l.length c0) := by rw [hW1]; exact ((Boxed.new w _ _).alloc _).alloc _
 have bC1 : Boxed W1 (w.heap.size + 1) 3 (.int .i64 ctx) := by
  have h1 := (Boxed.new (w.alloc (.cells #[.slice A0 l.length c0] 26)) 3 (.int .i64 ctx)).alloc (.cells #[.slice none 0 0] 22)
  rw [World.size_alloc] at h1; rw [hW1]; exact h1
 have bO1 : Boxed W1 (w.heap.size + 1 + 1) 22 (.slice none 0 0) := by
  have h1 := Boxed.new ((w.alloc (.cells #[.slice A0 l.length c0] 26)).alloc (.cells #[.int .i64 ctx] 3)) 22 (.slice none 0 0)
  rw [World.size_alloc, World.size_alloc] at h1; rw [hW1]; exact h1
 have HR := Lib.hid (Kd.C_below hr0 bel1)
 have CT := Lib.hid ((callsIn_wide (n := 8)).2 (script_Right.calls k A0 c0 l rt W1 (Kd.C_below hr0 bel1) hc0 hrt))
 have hc1 := bS1.cell
 have HW1 := Lib.hid hW1
 clear hW1
 have key : ∀ W2 : World, Below W1.heap.size W1 W2 → Boxed W2 w.heap.size 26 (.slice A0 l.length c0) ∧ Boxed W2 (w.heap.size + 1) 3 (.int .i64 ctx) ∧ Boxed W2 (w.heap.size + 1 + 1) 22 (.slice none 0 0) := fun W2 hb =>
  ⟨(hb.block _ bS1.lt).trans bS1, (hb.block _ bC1.lt).trans bC1, (hb.block _ bO1.lt).trans bO1⟩
 have KEY := Lib.hid key
 clear key
 by_cases hcond : rt = true ∧ 0 ≤ ctx ∧ ctx ≤ 100
 ·rw [if_pos hcond] at h
  obtain ⟨rfl, hc0', hc1'⟩ := hcond
  split at h
  ·rename_i hfit
   obtain rfl := Option.some.inj h
   have d1 : decide (ctx < 0) = false := decide_eq_false (by omega)
   have d2 : decide (100 < ctx) = false := decide_eq_false (by omega)
   have d3 : decide (ctx > 100) = false := decide_eq_false (by omega)
   obtain ⟨ad, had⟩ : ∃ ad : Addr, ∀ a, A0 = some a → ad = a := by
    cases A0 with
    | none => exact ⟨⟨0, 0, none⟩, fun a e => by cases e⟩
    | some a => exact ⟨a, fun b e => by injection e⟩
   gi_wp2_with (first | rw [← HW1.out] | (refine ⟨trivial, ?_⟩; gi_at_call 31; refine CT.out.mono ?_; rintro e W2 ⟨rfl, hb2⟩; obtain ⟨kS, kC, kO⟩ := KEY.out W2 hb2; have qS := kS.cell; have qC := kC.cell; have qO := kO.cell; have qS3 := (((kS.alloc (.cells #[.int .i64 0] 3)).alloc (.cells #[.bool false] 4)).alloc (.cells #[.int .i64 0] 3)).cell) | (refine ⟨trivial, ?_⟩; gi_at_call 32; refine (parts_in Fence.wide _ trivial rfl _ _ _ _).mono ?_; rintro e w' ⟨rfl, rfl⟩))
   obtain ⟨n2, hn2⟩ : ∃ n2, n2 = W2.heap.size := ⟨_, rfl⟩
   have hz2 : w.heap.size + 3 ≤ n2 := by have := hb2.size; omega
   have cS := ((kS.alloc (.cells #[.int .i64 0] 3)).alloc (.cells #[.bool false] 4)).alloc (.cells #[.int .i64 0] 3)
   have cC := ((kC.alloc (.cells #[.int .i64 0] 3)).alloc (.cells #[.bool false] 4)).alloc (.cells #[.int .i64 0] 3)
   have cO := ((kO.alloc (.cells #[.int .i64 0] 3)).alloc (.cells #[.bool false] 4)).alloc (.cells #[.int .i64 0] 3)
   have cA := ((Boxed.new W2 3 (.int .i64 0)).alloc (.cells #[.bool false] 4)).alloc (.cells #[.int .i64 0] 3)
   have cP := (Boxed.new (W2.alloc (.cells #[.int .i64 0] 3)) 4 (.bool false)).alloc (.cells #[.int .i64 0] 3)
   have cI := Boxed.new ((W2.alloc (.cells #[.int .i64 0] 3)).alloc (.cells #[.bool false] 4)) 3 (.int .i64 0)
   have belW : Below w.heap.size w W2 := bel1.trans (hb2.mono (by omega))
   have belX : Below w.heap.size w (((W2.alloc (.cells #[.int .i64 0] 3)).alloc (.cells #[.bool false] 4)).alloc (.cells #[.int .i64 0] 3)) := ((belW.alloc (by omega) _).alloc (by simp; omega) _).alloc (by simp; omega) _
   rw [World.size_alloc] at cP
   rw [World.size_alloc, World.size_alloc] at cI
   obtain ⟨W3, hW3⟩ : ∃ W3, W3 = ((W2.alloc (.cells #[.int .i64 0] 3)).alloc (.cells #[.bool false] 4)).alloc (.cells #[.int .i64 0] 3) := ⟨_, rfl⟩
   have z3 : W3.heap.size = n2 + 3 := by rw [hW3, hn2]; simp
   rw [← hW3] at cS cC cO cA cP cI belX ⊢
   rw [← hn2] at cA cP cI ⊢
   clear hW3 qS3
   have HN2 := Lib.hid hn2
   clear hn2
   have dB := Boxed.new W3 26 (.slice A0 l.length c0)
   obtain ⟨W4, hW4⟩ : ∃ W4, W4 = W3.alloc (.cells #[.slice A0 l.length c0] 26) := ⟨_, rfl⟩
   have hz2' : w.heap.size + 3 ≤ n2 := hz2
   have z4 : W4.heap.size = n2 + 4 := by rw [hW4]; simp [z3]
   have INV0 : Inv l ctx w.heap.size n2 A0 c0 w [] W4 [] (.slice none 0 0) := by
    rw [← hW4, z3] at dB
    rw [hW4]
    exact ⟨cS.alloc _, cC.alloc _, cO.alloc _, cA.alloc _, cP.alloc _, cI.alloc _, by rw [← hW4]; exact dB, Hks.nil _ _, rfl, belX.alloc (by rw [z3]; omega) _, by rw [← hW4, z4]; exact Nat.le_refl _⟩
   rw [← hW4]
   have hC0 := hr0
   refine Rng2.range (gf := 55) (lb := #[.pointer (some ⟨n2 + 1 + 1 + 1, 0, none⟩)]) rfl (by decide) rfl trivial (enters_of Try.func55 (by kernel_rfl) rfl)
    (parts1_seq Fence.wide _ trivial rfl (by decide) w.heap.size (n2 + 1 + 1 + 1) w rfl A0 ad had c0 l hC0 hfit.1 (fun x hx => ⟨(hfit.2 x hx).1, (hfit.2 x hx).2.1⟩) W4 INV0.bel INV0.bB) (Below.refl _ _) (fun _ => rfl) ⟨by simp only [z4]; omega, by simp only [z4]; omega⟩
    ?kt ?kb
    (fun pre W => ∃ hs v, Inv l ctx w.heap.size n2 A0 c0 w pre W hs v)
    (fun b pre W => b < W.heap.size ∧ ∃ hs v, Inv l ctx w.heap.size n2 A0 c0 w pre W hs v ∧ ∀ k, has v hs k → k < b)
    (fun _ _ _ => False) ?bides ?bidese ?fresh (fun _ _ _ _ _ h _ _ => h) ⟨[], _, INV0⟩
    (fun b x a' W => ∃ p, (n2 + 7 ≤ p ∧ b < p) ∧ W.heap[p]? = some (.cells #[.int .i64 (ahead1 l x), .int .i64 (ahead2 l x)] 63) ∧ W.heap[p + 1]? = some (.cells #[.int .i64 (rd_T31 l (x : Int)).f0, .int .i64 (rd_T31 l (x : Int)).f1, lnv w ad x] 31) ∧
     a' = { tmps := #[.slice A0 l.length c0, .int .i64 ctx, .pointer (some ⟨w.heap.size, 0, none⟩), .pointer (some ⟨w.heap.size + 1, 0, none⟩), .pointer (some ⟨w.heap.size + 1 + 1, 0, none⟩), .int .i64 0, .pointer (some ⟨n2, 0, none⟩), .pointer (some ⟨n2 + 1, 0, none⟩), .pointer (some ⟨n2 + 1 + 1, 0, none⟩), .pointer (some ⟨p, 0, none⟩), .pointer (some ⟨p + 1, 0, none⟩), undef, undef, undef, .slice A0 l.length c0, .bool true, .bool false, .bool false, .int .i64 ctx, .bool false, .bool false, .bool false, .int .i64 ctx, .bool false, .bool false, .slice A0 l.length c0, .func (.func 55) #[] #[.pointer (some ⟨n2 + 1 + 1 + 1, 0, none⟩)], .agg #[.int .i64 (ahead1 l x), .int .i64 (ahead2 l x)], .agg #[.int .i64 (rd_T31 l (x : Int)).f0, .int .i64 (rd_T31 l (x : Int)).f1, lnv w ad x], undef, undef, undef, undef, undef, undef, undef, undef, undef, undef, undef, undef, undef, undef, undef, undef, undef, undef, undef, undef, undef, undef, undef, undef, undef, undef, undef, undef, undef, undef, undef, undef, undef, undef, undef, undef, undef, undef, undef, undef, undef, undef, undef, undef, undef, undef, undef, undef, undef, undef, undef, undef, undef, undef, undef, undef, undef, undef, undef, undef, undef, undef, undef, undef, undef, undef, undef, undef, undef, undef, undef, undef, undef, undef, undef, undef, undef, undef, undef, undef, undef, undef, undef, undef, undef, undef, undef, undef, undef, undef, undef, undef, undef, undef, undef, undef, undef, undef, undef, undef, undef, undef, undef, undef, undef, undef], defers := [] })
    ?ax ?assign ?body ?done ?stop
   case kt =>
    rintro b X Y Z ⟨h1, h2, h3, h4⟩ ⟨g1, g2, g3, g4⟩
    exact ⟨g1.trans h1, g2.trans h2, h3.trans g3, g4.trans h4⟩
   case kb =>
    intro b W l' o' hb hl hlt
    rw [z4] at hb hl ⊢
    exact ⟨World.putObj_heap_other (by omega), World.putObj_heap_other (by omega), (Below.refl _ _).grown (grownBy_putObj' W l' o') (by omega) (fun k e => by cases e; omega), World.putObj_heap_other (by omega)⟩
   case bides =>
    rintro pre X Y row ⟨hs, v, hI⟩ hg hr
    refine ⟨hs, v, hI.bides (by omega) (by omega) hg (fun r e => ?_)⟩
    have := hr r e
    rw [z4] at this
    exact this
   case bidese =>
    rintro b pre X Y row ⟨hb, hs, v, hI, hn⟩ hg hr
    refine ⟨Nat.lt_of_lt_of_le hb hg.size, hs, v, hI.bides (by omega) (by omega) hg (fun r e => ?_), hn⟩
    have := hr r e
    rw [z4] at this
    exact this
   case fresh =>
    rintro pre X Y b ⟨hs, v, hI⟩ hg h1 h2
    refine ⟨h2, hs, v, hI.bides (by omega) (by omega) hg (fun r e => by cases e), fun k hh => ?_⟩
    have := (hI.hk.typed hh).2.1
    omega
   case stop =>
    rintro c pre W _ h _
    exact h.elim
   case ax =>
    rintro b x a' s X Y row ⟨p, hp, h1, h2, h3⟩ hg hr
    have nr : ∀ k o, n2 + 7 ≤ k → X.heap[k]? = some o → o.isCells = true → some k ≠ row := by
     intro k o hk ho hc e
     have := hr k e.symm
     rw [z4] at this
     rcases this with h | ⟨_, o', ho', hc'⟩
     ·omega
     ·rw [ho] at ho'; cases ho'; rw [hc] at hc'; cases hc'
    exact ⟨p, hp, (hg.block p (Array.getElem?_eq_some_iff.1 h1).1 (nr p _ hp.1 h1 rfl)).trans h1, (hg.block (p + 1) (Array.getElem?_eq_some_iff.1 h2).1 (nr (p + 1) _ (by have := hp.1; omega) h2 rfl)).trans h2, h3⟩
   case assign =>
    intro b l' pre x post W K hb hall hI hK
    have hxl : x < l.length := by
     have : x ∈ List.range l.length := by rw [hall]; simp
     exact List.mem_range.1 this
    obtain ⟨ad', A2, c2, e1, _, _, hy2, hl2, hi2⟩ := at_T31 hr0 (x : Int) (by omega) (by omega)
    obtain rfl : ad = ad' := had _ e1
    rw [Int.toNat_natCast] at hy2
    have hlv : lnv w ad x = .slice A2 (rd_T31 l (x : Int)).f2.length c2 := by unfold lnv; rw [hy2]; rfl
    obtain ⟨E, hE⟩ : ∃ E, E = rd_T31 l (x : Int) := ⟨_, rfl⟩
    obtain ⟨p1, hp1⟩ : ∃ p1, p1 = ahead1 l x := ⟨_, rfl⟩
    obtain ⟨p2, hp2⟩ : ∃ p2, p2 = ahead2 l x := ⟨_, rfl⟩
    have hen : enc w ad l x = #[.agg #[.int .i64 p1, .int .i64 p2], .agg #[.int .i64 E.f0, .int .i64 E.f1, .slice A2 E.f2.length c2]] := by unfold enc; rw [hlv, ← hE, ← hp1, ← hp2]
    rw [hen]
    have HALL := Lib.hid hall
    have HE := Lib.hid hE
    have H1 := Lib.hid hp1
    have H2 := Lib.hid hp2
    have HLV := Lib.hid hlv
    clear hall hE hp1 hp2 hen hlv hy2 hl2 hi2 e1
    gi_wp2
    obtain ⟨hbW, hs, v, hI, hn⟩ := hI
    rw [z4] at hb
    obtain ⟨Y, hY⟩ : ∃ Y, Y = (W.alloc (.cells #[.int .i64 p1, .int .i64 p2] 63)).alloc (.cells #[.int .i64 E.f0, .int .i64 E.f1, .slice A2 E.f2.length c2] 31) := ⟨_, rfl⟩
    have hg : W.grownBy Y none := by rw [hY]; exact (World.grownBy_alloc W _ none).trans (World.grownBy_alloc _ _ none)
    have y1 : Y.heap[W.heap.size]? = some (.cells #[.int .i64 p1, .int .i64 p2] 63) := by rw [hY]; exact (Below.heap_alloc _ _ _ (by simp)).trans (World.alloc_heap_new W _)
    have y2 : Y.heap[W.heap.size + 1]? = some (.cells #[.int .i64 E.f0, .int .i64 E.f1, .slice A2 E.f2.length c2] 31) := by
     have h1 := World.alloc_heap_new (W.alloc (.cells #[.int .i64 p1, .int .i64 p2] 63)) (.cells #[.int .i64 E.f0, .int .i64 E.f1, .slice A2 E.f2.length c2] 31)
     rw [World.size_alloc] at h1; rw [hY]; exact h1
    rw [← hY]
    have same : ∀ q, q < W.heap.size → Y.heap[q]? = W.heap[q]? := fun q hq => hg.block q hq (by simp)
    refine hK _ Y (KeepsFrom.of_grownBy hg (fun j e => by cases e)) ⟨same _ (by rw [z4]; omega), same _ hI.bB.lt, (Below.refl _ _).grown hg (by have := hI.bel.size; omega) (fun k e => by cases e), same _ hbW⟩
     ⟨Nat.lt_of_lt_of_le hbW hg.size, hs, v, hI.bides (by omega) (by omega) hg (fun r e => by cases e), hn⟩ ⟨W.heap.size, ⟨by omega, hbW⟩, by rw [← H1.out, ← H2.out]; exact y1, by rw [← HE.out, HLV.out, ← HE.out]; exact y2, ?_⟩
    rw [HLV.out, ← H1.out, ← H2.out, ← HE.out]
   case done =>
    rintro W ⟨hs, v, hI⟩ hd
    obtain ⟨A, m, c, rfl⟩ : ∃ A m c, v = .slice A m c := by
     rcases hI.hk.1.2 with ⟨rfl, _⟩ | ⟨g, cap, cur, rfl, _⟩
     ·exact ⟨_, _, _, rfl⟩
     ·exact ⟨_, _, _, rfl⟩
    have hc := hI.bO.cell
    have hf := hI.bO.frozen
    have HI := Lib.hid hI
    have hd1 : (W.setCell ⟨w.heap.size + 1 + 1, 0, none⟩ (.slice A m c)).heap[W4.heap.size]? = some (.deferred (some [])) := (Below.heap_setCell W _ _ _ (by simp; rw [z4]; omega)).trans hd
    have e4 : W4.heap.size = n2 + 3 + 1 := z4
    rw [e4] at hd1
    have HD := Lib.hid hd1
    have HZ4 := Lib.hid z4
    clear e4
    clear hI hd hd1 z4
    gi_wp2
    have hI := HI.out
    have hv1 := hI.bO.set (.slice A m c)
    have hgs : W.grownBy (W.setCell ⟨w.heap.size + 1 + 1, 0, none⟩ (.slice A m c)) (some (w.heap.size + 1 + 1)) := grownBy_setCell' W _ _
    have hgp := grownBy_putObj' (W.setCell ⟨w.heap.size + 1 + 1, 0, none⟩ (.slice A m c)) (n2 + 3 + 1) (.deferred none)
    have hk1 := hI.hk.other hgs (fun k e hh => by cases e; have := (hI.hk.typed hh).1; omega)
    have hk2 := hk1.other hgp (fun k e hh => by cases e; have := (hk1.typed hh).1; have := HZ4.out; omega)
    have hv2 := hv1.kept hgp (by simp; have := HZ4.out; omega)
    have hcell := hv2.cell
    have hb1 := hI.bel.grown hgs (by have := hI.bel.size; omega) (fun k e => by cases e; omega)
    have hb3 := hb1.grown hgp hb1.size (fun k e => by cases e; omega)
    refine ⟨by simp, .inl ⟨_, _, rfl, run_takeDeferred HD.out, ?_⟩⟩
    refine ⟨.tuple #[.slice A m c, .int .i64 0], by simp [results, Try.results12, go_sem, hcell], _, rfl, hs, hk2.low (by omega), hI.pl, hb3⟩
   case body =>
    rintro b l' pre x post a' W hb hl hlr hlt hall ⟨hbW, hs, v, hI, hlow⟩ ⟨p, ⟨hp, hbp⟩, hp1, hp2, rfl⟩
    have hn : ¬ has v hs b := fun hh => Nat.lt_irrefl _ (hlow b hh)
    rw [z4] at hb hl hlt
    have hxl : x < l.length := by
     have : x ∈ List.range l.length := by rw [hall]; simp
     exact List.mem_range.1 this
    have hxp : x = pre.length := by
     have h1 : (List.range l.length)[pre.length]? = some x := by rw [hall]; simp
     rw [List.getElem?_range (by have h2 := congrArg List.length hall; simp at h2; omega)] at h1
     exact (Option.some.inj h1).symm
    obtain ⟨ad', A2, c2, e1, _, _, hy2, hl2, hi2⟩ := at_T31 hr0 (x : Int) (by omega) (by omega)
    obtain rfl : ad = ad' := had _ e1
    rw [Int.toNat_natCast] at hy2
    have hlv : lnv w ad x = .slice A2 (rd_T31 l (x : Int)).f2.length c2 := by unfold lnv; rw [hy2]; rfl
    obtain ⟨E, hE⟩ : ∃ E, E = rd_T31 l (x : Int) := ⟨_, rfl⟩
    rw [hlv, ← hE] at hp2 ⊢
    rw [← hE] at hl2 hi2
    obtain ⟨st, hst⟩ : ∃ st, st = mkAll l ctx pre := ⟨_, rfl⟩
    have hA := hI.bA
    have hP := hI.bP
    rw [← hst] at hA hP
    have q0 := hI.bS.cell
    have q1 := hI.bC.cell
    have q2 := hI.bO.cell
    have q3 := hA.cell
    have q4 := hP.cell
    have q5 := hI.bI.cell
    have f5 := hI.bI.frozen
    have f3 := hA.frozen
    have f4 := hP.frozen
    have f2 := hI.bO.frozen
    have r0 : W.cell? ⟨p + 1, 0, none⟩ = some (.int .i64 E.f0) := by simp [World.cell?, hp2]
    have r1 : W.cell? ⟨p + 1, 1, none⟩ = some (.int .i64 E.f1) := by simp [World.cell?, hp2]
    have r2 : W.cell? ⟨p + 1, 2, none⟩ = some (.slice A2 E.f2.length c2) := by simp [World.cell?, hp2]
    have HALL := Lib.hid hall
    have HI := Lib.hid hI
    have HST := Lib.hid hst
    have HEE := Lib.hid hE
    have HP1 := Lib.hid hp1
    have HP2 := Lib.hid hp2
    have HX := Lib.hid hxp
    clear hall hI hst hE hp1 hp2 hlv hy2 e1 hxp
    by_cases k1 : E.f0 = 1
    ·cases ho : st.opn with
     | false =>
      rw [ho] at q4
      have kb : (E.f0 == 1) = true := by simp [k1]
      have K1 := Lib.hid k1
      clear k1
      have hwc : wrap64 ((pre.length : Int) + 1) = ((pre ++ [x]).length : Int) := by
       have : pre.length < l.length := by rw [← HX.out]; exact hxl
       have := hfit.1
       rw [w64 (by omega) (by omega)]; simp
      have hstep : mkAll l ctx (pre ++ [x]) = { st with ahead := mn E.f1 ctx } := by
       have e0 : mkAll l ctx (pre ++ [x]) = mkStep l ctx (mkAll l ctx pre) x := by unfold mkAll; rw [List.foldl_append]; rfl
       rw [e0, ← HST.out]
       unfold mkStep
       rw [← HEE.out, if_pos ⟨K1.out, ho⟩]
      have fin : ∀ u : Int, u = mn E.f1 ctx → ∀ a, Rng2.Left (n2 + 3 + 1) (Kp w.heap.size (n2 + 1 + 1 + 1) (n2 + 3 + 1 + 2) b) (fun pre W => ∃ hs v, Inv l ctx w.heap.size n2 A0 c0 w pre W hs v) (fun _ _ _ => False) (pre ++ [x]) W .normal a ((W.setCell ⟨n2 + 1 + 1, 0, none⟩ (.int .i64 (wrap64 ((pre.length : Int) + 1)))).setCell ⟨n2, 0, none⟩ (.int .i64 u)) := by
       intro u hu a
       have hI := HI.out
       obtain ⟨Y1, hY1⟩ : ∃ Y1, Y1 = W.setCell ⟨n2 + 1 + 1, 0, none⟩ (.int .i64 (wrap64 ((pre.length : Int) + 1))) := ⟨_, rfl⟩
       have g1 : W.grownBy Y1 (some (n2 + 1 + 1)) := by rw [hY1]; exact grownBy_setCell' W _ _
       have g2 := grownBy_setCell' Y1 n2 (.int .i64 u)
       have t1 : Boxed Y1 (n2 + 1 + 1) 3 (.int .i64 (wrap64 ((pre.length : Int) + 1))) := by rw [hY1]; exact hI.bI.set _
       have s1 : W.heap.size ≤ Y1.heap.size := g1.size
       rw [← hY1]
       have k1 : Hks (n2 + 7) Y1 v hs := hI.hk.other g1 (fun k e hh => by cases e; have := (hI.hk.typed hh).1; omega)
       have k2 := k1.other g2 (fun k e hh => by cases e; have := (k1.typed hh).1; omega)
       have b1 : Below w.heap.size W Y1 := (Below.refl _ _).grown g1 (by have := hI.bel.size; omega) (fun k e => by cases e; omega)
       have b2 := b1.grown g2 (by have := b1.size; have := hI.bel.size; omega) (fun k e => by cases e; omega)
       have keep : ∀ {B t u'}, B ≠ n2 + 1 + 1 → B ≠ n2 → Boxed W B t u' → Boxed (Y1.setCell ⟨n2, 0, none⟩ (.int .i64 u)) B t u' := fun h1 h2 hb => (hb.kept g1 (by simp; omega)).kept g2 (by simp; omega)
       refine leave hI hn hb hbW (by omega) (fun k hk _ h2 _ h4 _ => (g2.block k (by omega) (by simp; omega)).trans (g1.block k hk (by simp; omega))) b2 (Nat.le_trans s1 g2.size)
        ⟨keep (by omega) (by omega) hI.bS, keep (by omega) (by omega) hI.bC, keep (by omega) (by omega) hI.bO, ?_, ?_, ?_, keep (by omega) (by omega) hI.bB, k2, ?_, hI.bel.trans b2, Nat.le_trans hI.sz (Nat.le_trans s1 g2.size)⟩
       ·rw [hstep]
        have := (hI.bA.kept g1 (by simp; omega)).set (.int .i64 u)
        rw [hu] at this ⊢
        exact this
       ·rw [hstep, show ({ st with ahead := mn E.f1 ctx } : MkS).opn = st.opn from rfl]
        have := hI.bP
        rw [← HST.out] at this
        exact keep (by omega) (by omega) this
       ·rw [← hwc]
        exact t1.kept g2 (by simp; omega)
       ·rw [hI.pl, hstep, HST.out]
      have FIN := Lib.hid fin
      clear fin hwc hstep
      gi_wp2
      have FF := fun a => FIN.out _ rfl a
      rw [show n2 + 3 + 1 = W4.heap.size by omega] at FF
      exact FF _
     | true =>
      by_cases k2 : 2 * ctx < E.f1 ∨ x + 1 = l.length
      ·rw [ho] at q4
       have kb : (E.f0 == 1) = true := by simp [k1]
       have K1 := Lib.hid k1
       have K2 := Lib.hid k2
       have t2 : decide (2 * ctx < E.f1) = true ∨ (decide (2 * ctx < E.f1) = false ∧ (wrap64 ((pre.length : Int) + 1) == (l.length : Int)) = true ∧ ((pre.length : Int) + 1 == (l.length : Int)) = true) := by
        by_cases hh : 2 * ctx < E.f1
        ·exact .inl (decide_eq_true hh)
        ·refine .inr ⟨decide_eq_false hh, ?_⟩
         have h1 : pre.length < l.length := by rw [← HX.out]; exact hxl
         have h2 := hfit.1
         have h3 := k2.resolve_left hh
         rw [HX.out] at h3
         rw [w64 (by omega) (by omega), beq_iff_eq]
         exact ⟨by omega, by omega⟩
       have T2 := Lib.hid t2
       clear k1 k2 t2
       have hok := mkAll_ok l ctx pre
       rw [← HST.out] at hok
       obtain ⟨hs0, h, rfl⟩ : ∃ hs0 h, hs = hs0 ++ [h] := by
        rcases List.eq_nil_or_concat hs with h0 | ⟨o, h, h0⟩
        ·exfalso
         have := HI.out.pl
         rw [h0, ← HST.out] at this
         exact hok.1 ho this.symm
        ·exact ⟨o, h, by rw [h0, List.concat_eq_append]⟩
       obtain ⟨g, cap, rfl, hg0, hgl, hblk, g0, g1, g2, gf2⟩ := HI.out.hk.last
       have gne : g ≠ n2 + 1 + 1 := by omega
       have gne' : n2 + 1 + 1 ≠ g := by omega
       obtain ⟨Av, nv, cv, hvE⟩ : ∃ A n c, h.v = .slice A n c := by
        rcases (HI.out.hk.2.1 h (by simp)).1.2 with ⟨e, _⟩ | ⟨g', cap', cur, e, _⟩
        ·exact ⟨_, _, _, e⟩
        ·exact ⟨_, _, _, e⟩
       rw [hvE] at g2
       obtain ⟨ji, hji⟩ : ∃ ji : Int, ji = ((hs0.length + 1 : Nat) : Int) - 1 := ⟨_, rfl⟩
       have hlen : hs0.length + 1 ≤ 1000000 := by
        have h1 := hok.2.1
        have h2 := congrArg List.length HI.out.pl
        rw [← HST.out] at h2
        simp at h2
        have : pre.length < l.length := by rw [← HX.out]; exact hxl
        have := hfit.1
        omega
       have s1 : IntKind.i64.wrap (((hs0.length + 1 : Nat) : Int) - 1) = ji := by rw [hji, i64_w]; exact w64 (by omega) (by omega)
       have s1' : wrap64 (((hs0.length + 1 : Nat) : Int) - 1) = ji := by rw [hji]; exact w64 (by omega) (by omega)
       have jh2 : (0 ≤ ji) = True := eq_true (by omega)
       have jh3 : (ji < ((hs0.length + 1 : Nat) : Int)) = True := eq_true (by omega)
       have hjn : ji.toNat = hs0.length := by omega
       have HJ := Lib.hid hji
       clear hji
       have sht : ∀ (Y : World) (hs' : List Hd), Mid w.heap.size n2 w W Y (hs0 ++ [h]) hs' (.slice (some ⟨g, 0, none⟩) (hs0.length + 1) cap) (pre ++ [x]).length → hs'.map Hd.plain = hs0.map Hd.plain ++ [⟨h.fr, h.tt, h.es.map Ed.plain ++ keptL (mn E.f1 ctx)⟩] → ∀ a, Rng2.Left (n2 + 3 + 1) (Kp w.heap.size (n2 + 1 + 1 + 1) (n2 + 3 + 1 + 2) b) (fun pre W => ∃ hs v, Inv l ctx w.heap.size n2 A0 c0 w pre W hs v) (fun _ _ _ => False) (pre ++ [x]) W .normal a ((Y.setCell ⟨n2, 0, none⟩ (.int .i64 (mn E.f1 ctx))).setCell ⟨n2 + 1, 0, none⟩ (.bool false)) := by
        intro Y hs' M hpl a
        refine fin_shut HI.out hn hb hbW (by omega) (by omega) M ?_ a
        rw [hpl]
        have e0 : mkAll l ctx (pre ++ [x]) = mkStep l ctx (mkAll l ctx pre) x := by unfold mkAll; rw [List.foldl_append]; rfl
        have e1 : upLast st.out (keptL (mn E.f1 ctx)) = hs0.map Hd.plain ++ [⟨h.fr, h.tt, h.es.map Ed.plain ++ keptL (mn E.f1 ctx)⟩] := by
         have h1 := HI.out.pl
         rw [plain_snoc, ← HST.out] at h1
         rw [← h1, upLast_snoc]
         rfl
        rw [e0, ← HST.out, ← e1]
        unfold mkStep
        rw [← HEE.out, if_neg (fun hh => by rw [ho] at hh; cases hh.2), if_pos ⟨K1.out, K2.out⟩]
       have SHUT := Lib.hid sht
       clear sht
       have hwc : wrap64 ((pre.length : Int) + 1) = ((pre ++ [x]).length : Int) := by
        have : pre.length < l.length := by rw [← HX.out]; exact hxl
        have := hfit.1
        rw [w64 (by omega) (by omega)]; simp
       have HWC := Lib.hid hwc
       clear hwc
       obtain ⟨Z, hZ⟩ : ∃ Z, Z = (W.setCell ⟨n2 + 1 + 1, 0, none⟩ (.int .i64 (wrap64 ((pre.length : Int) + 1)))).drew := ⟨_, rfl⟩
       have hZb : Below w.heap.size w Z := by rw [hZ]; exact below_drew (HI.out.bel.trans ((Below.refl _ _).setCell (by simp; omega) _))
       have ZW : ∀ b o, b ≠ n2 + 1 + 1 → Z.cell? ⟨b, o, none⟩ = W.cell? ⟨b, o, none⟩ := by
        intro b o hb'; rw [hZ]; exact World.cell?_setCell_far _ _ _ _ (fun e => hb' e.symm)
       have z2 : Z.cell? ⟨g, hs0.length * 3 + 2, none⟩ = some (.slice Av nv cv) := (ZW _ _ gne).trans g2
       have y1 : Z.cell? ⟨p + 1, 1, none⟩ = some (.int .i64 E.f1) := (ZW _ _ (by omega)).trans r1
       have y3 : Z.cell? ⟨w.heap.size + 1, 0, none⟩ = some (.int .i64 ctx) := (ZW _ _ (by omega)).trans q1
       have gZ : W.grownBy Z (some (n2 + 1 + 1)) := by
        rw [hZ]
        have g0 := grownBy_setCell' W (n2 + 1 + 1) (.int .i64 (wrap64 ((pre.length : Int) + 1)))
        exact ⟨g0.os, g0.tape, g0.output, g0.size, g0.block⟩
       have bIZ : Boxed Z (n2 + 1 + 1) 3 (.int .i64 ((pre ++ [x]).length : Int)) := by
        rw [hZ, ← HWC.out]
        exact HI.out.bI.set _
       have hp1lt : p + 1 < W.heap.size := (Array.getElem?_eq_some_iff.1 HP2.out).1
       have hz : ∀ b ∈ [g, p + 1, w.heap.size + 1], b < Z.heap.size := by
        intro b hb'
        have := gZ.size
        simp at hb'
        rcases hb' with rfl | rfl | rfl <;> omega
       have SZ : Scr (n2 + 7) Z h.v h.es := (HI.out.hk.other gZ (fun k e hh => by cases e; have := (HI.out.hk.typed hh).1; omega)).2.1 h (by simp)
       have hel : h.es.length ≤ 2 * pre.length := by
        have h1 := hok.2.2 h.plain (by have h2 := HI.out.pl; rw [← HST.out] at h2; rw [← h2]; simp)
        simpa [Hd.plain] using h1
       have hple : pre.length < l.length := by rw [← HX.out]; exact hxl
       have hle2 := hfit.1
       have CK := Lib.hid (kept_calls (mn E.f1 ctx) Z)
       have HZ := Lib.hid hZ
       have HGZ := Lib.hid gZ
       have HBZ := Lib.hid bIZ
       have HSZ := Lib.hid SZ
       have HHZ := Lib.hid hz
       have HLE := Lib.hid hel
       have HPLE := Lib.hid hple
       have HLE2 := Lib.hid hle2
       clear hZ ZW gZ bIZ SZ hz hel hple hle2 hp1lt
       rcases T2.out with t1 | ⟨t1, t2, t3⟩
       ·gi_wp2
        all_goals (try (have hdead_ := ‹some undef = some (Value.bool _)›; cases hdead_; done))
        have hple := HPLE.out
        have hle2 := HLE2.out
        have hp1lt : p + 1 < W.heap.size := (Array.getElem?_eq_some_iff.1 HP2.out).1
        refine Held.region 11 (Held.Same Z [g, p + 1, w.heap.size + 1]) (by kernel_rfl) ?_
        rw [← HZ.out]
        have hS := Held.Same.refl Z [g, p + 1, w.heap.size + 1]
        refine Held.tk (i := 0) rfl hS ?_
        try simp only [Act.put, List.setIfInBounds_toArray, List.set_cons_zero, List.set_cons_succ]
        refine Held.tk (i := 1) rfl hS ?_
        try simp only [Act.put, List.setIfInBounds_toArray, List.set_cons_zero, List.set_cons_succ]
        refine Held.tk (i := 2) rfl hS ?_
        try simp only [Act.put, List.setIfInBounds_toArray, List.set_cons_zero, List.set_cons_succ]
        refine Held.tk (i := 3) rfl hS ?_
        try simp only [Act.put, List.setIfInBounds_toArray, List.set_cons_zero, List.set_cons_succ]
        refine Held.tk (i := 4) rfl hS ?_
        try simp only [Act.put, List.setIfInBounds_toArray, List.set_cons_zero, List.set_cons_succ]
        refine Held.tk (i := 5) rfl hS ?_
        try simp only [Act.put, List.setIfInBounds_toArray, List.set_cons_zero, List.set_cons_succ]
        refine Held.tk (i := 6) rfl hS ?_
        try simp only [Act.put, List.setIfInBounds_toArray, List.set_cons_zero, List.set_cons_succ]
        refine Held.tk (i := 7) rfl hS ?_
        try simp only [Act.put, List.setIfInBounds_toArray, List.set_cons_zero, List.set_cons_succ]
        refine Held.tk (i := 8) rfl hS ?_
        try simp only [Act.put, List.setIfInBounds_toArray, List.set_cons_zero, List.set_cons_succ]
        refine Held.AnyS.step (i := 9) rfl (by kernel_rfl) rfl (fun K hK => ?_)
        go_simp
        refine ⟨trivial, ?_⟩
        refine ((callsIn_wide.2 CK.out).inRound l').mono ?_
        rintro e Y ⟨X, cX, rfl, hSX, hsrc, hbY⟩
        have hS2 := hS.below hbY HHZ.out
        have HSX := Lib.hid hSX
        have HSRC := Lib.hid hsrc
        have HBY := Lib.hid hbY
        clear hSX hsrc hbY
        refine hK.out _ _ (fun _ => hS2) ?_
        clear hK K
        try simp only [Act.put, List.setIfInBounds_toArray, List.set_cons_zero, List.set_cons_succ]
        have o2 := (Scr.below HSZ.out HBY.out).1
        rw [hvE] at o2
        have own3 : ∀ b ∈ [g, p + 1, w.heap.size + 1], some b ≠ (Value.slice Av nv cv).ownBlock := by
         intro b hb' e
         have h1 : has (Value.slice (some ⟨g, 0, none⟩) (hs0.length + 1) cap) (hs0 ++ [h]) b := .inr ⟨h, by simp, .inl (by rw [hvE]; exact e.symm)⟩
         simp at hb'
         rcases hb' with rfl | rfl | rfl
         ·obtain ⟨cur, hcur⟩ := hblk
          obtain ⟨cs, hcs⟩ := own_typed (HI.out.hk.2.1 h (by simp)).1 b (by rw [hvE]; exact e.symm)
          rw [hcur] at hcs
          injection hcs with hcs
          injection hcs with _ hcs _
          exact absurd hcs (by decide)
         ·have := hlow _ h1
          omega
         ·have := (HI.out.hk.typed h1).1
          omega
        have hgY : g < Y.heap.size := Nat.lt_of_lt_of_le (HHZ.out g (by simp)) HBY.out.size
        have hbYZ := HBY.out.size
        have hkl := keptE_len (mn E.f1 ctx)
        have hflen := flat_length (keptE (mn E.f1 ctx))
        refine Held.AnyS.step (i := 10) rfl (by kernel_rfl) rfl (fun K hK => ?_)
        refine Held.append_any (.tmp 97) (.tmp 102) 26 rfl (n2 + 7) 31 (.agg #[.int .i64 0, .int .i64 0, .slice none 0 0]) 3 40 Try.underlying26 info31 rfl (by omega) (.slice Av nv cv) h.es.length (flat h.es) rfl o2 X (keptE (mn E.f1 ctx)).length cX (flat (keptE (mn E.f1 ctx))) rfl hflen HSRC.out (keptE_one _) ?_ ?_ ?_ ?_
        ·simp only [maxLen]; have := HLE.out; omega
        ·have := HLE.out; omega
        ·omega
        intro v1 w1 hown hgr hat
        obtain ⟨A5, c5, rfl⟩ := own_slice hown
        have hS4 : Held.Same Z [g, p + 1, w.heap.size + 1] w1 := hS2.grown hgr (fun b hb => ⟨HHZ.out b hb, own3 b hb⟩)
        obtain ⟨MID, cw, fw⟩ := mid_last (more := keptE (mn E.f1 ctx)) HI.out (by omega) (by omega) rfl HGZ.out HBZ.out HBY.out hown (by rw [hvE]; exact hgr) (by rw [hvE]; exact hat) (fun e he => by rw [(keptE_own _ e he).1, (keptE_own _ e he).2]; exact own_nil _ _ _ _) (fun e he k hk => by rw [(keptE_own _ e he).1] at hk; cases hk) (keptE_pair _)
        rw [hvE] at cw
        have HMID := Lib.hid MID
        clear MID hown hgr hat
        refine hK.out _ _ (fun _ => hS4) ?_
        clear hK K
        try simp only [Act.put, List.setIfInBounds_toArray, List.set_cons_zero, List.set_cons_succ]
        refine Held.AnyS.step (i := 11) rfl (by kernel_rfl) rfl (fun K hK => ?_)
        go_simp
        refine hK.out _ _ (fun h => absurd h (by omega)) ?_
        clear hK K
        try simp only [Act.put, List.setIfInBounds_toArray, List.set_cons_zero, List.set_cons_succ]
        refine Held.AnyS.step (i := 12) rfl (by kernel_rfl) rfl (fun K hK => ?_)
        go_simp
        refine hK.out _ _ (fun h => absurd h (by omega)) ?_
        clear hK K
        try simp only [Act.put, List.setIfInBounds_toArray, List.set_cons_zero, List.set_cons_succ]
        refine Held.AnyS.step (i := 13) rfl (by kernel_rfl) rfl (fun K hK => ?_)
        go_simp
        refine hK.out _ _ (fun h => absurd h (by omega)) ?_
        clear hK K
        try simp only [Act.put, List.setIfInBounds_toArray, List.set_cons_zero, List.set_cons_succ]
        refine Held.AnyS.done (by kernel_rfl) ?_ _
        go_simp
        have MID := HMID.out
        obtain ⟨Y5, hY5⟩ : ∃ Y5, Y5 = w1.setCell ⟨g, hs0.length * 3 + 2, none⟩ (.slice A5 (h.es.length + (keptE (mn E.f1 ctx)).length) c5) := ⟨_, rfl⟩
        rw [← hY5] at MID ⊢
        have sm : ∀ k, k < W.heap.size → k ≠ n2 + 1 + 1 → ¬ has (Value.slice (some ⟨g, 0, none⟩) (hs0.length + 1) cap) (hs0 ++ [h]) k → Y5.heap[k]? = W.heap[k]? := MID.same
        have low : ∀ k, k < n2 + 7 → ¬ has (Value.slice (some ⟨g, 0, none⟩) (hs0.length + 1) cap) (hs0 ++ [h]) k := fun k hk hh => by have := (HI.out.hk.typed hh).1; omega
        have nW := HI.out.sz
        have d1 : Y5.cell? ⟨p + 1, 1, none⟩ = some (.int .i64 E.f1) := (World.cell?_of_block (w := W) (sm (p + 1) hp1lt (by omega) (fun hh => by have := hlow _ hh; omega))).trans r1
        have d2 : Y5.cell? ⟨w.heap.size + 1, 0, none⟩ = some (.int .i64 ctx) := (World.cell?_of_block (w := W) (sm (w.heap.size + 1) (by omega) (by omega) (low _ (by omega)))).trans q1
        have d3 : Y5.frozen? ⟨n2, 0, none⟩ = false := (World.frozen?_of_block (w := W) (sm n2 (by omega) (by omega) (low _ (by omega)))).trans f3
        have d4 : Y5.frozen? ⟨n2 + 1, 0, none⟩ = false := (World.frozen?_of_block (w := W) (sm (n2 + 1) (by omega) (by omega) (low _ (by omega)))).trans f4
        have d5 : Y5.cell? ⟨n2, 0, none⟩ = some (.int .i64 st.ahead) := (World.cell?_of_block (w := W) (sm n2 (by omega) (by omega) (low _ (by omega)))).trans q3
        have d6 : Y5.cell? ⟨n2 + 1, 0, none⟩ = some (.bool true) := (World.cell?_of_block (w := W) (sm (n2 + 1) (by omega) (by omega) (low _ (by omega)))).trans q4
        have HMM := Lib.hid MID
        clear MID HMID hY5 sm low nW hS hS2 hkl hflen cw fw own3 o2
        gi_wp2
        have FF := fun a => SHUT.out _ _ HMM.out (by rw [plain_snoc]; simp [Hd.plain, keptE_plain]) a
        rw [show n2 + 3 + 1 = W4.heap.size by omega] at FF
        exact FF _
       ·gi_wp2
        all_goals (try (have hdead_ := ‹some undef = some (Value.bool _)›; cases hdead_; done))
        have hple := HPLE.out
        have hle2 := HLE2.out
        have hp1lt : p + 1 < W.heap.size := (Array.getElem?_eq_some_iff.1 HP2.out).1
        refine Held.region 11 (Held.Same Z [g, p + 1, w.heap.size + 1]) (by kernel_rfl) ?_
        rw [← HZ.out]
        have hS := Held.Same.refl Z [g, p + 1, w.heap.size + 1]
        refine Held.tk (i := 0) rfl hS ?_
        try simp only [Act.put, List.setIfInBounds_toArray, List.set_cons_zero, List.set_cons_succ]
        refine Held.tk (i := 1) rfl hS ?_
        try simp only [Act.put, List.setIfInBounds_toArray, List.set_cons_zero, List.set_cons_succ]
        refine Held.tk (i := 2) rfl hS ?_
        try simp only [Act.put, List.setIfInBounds_toArray, List.set_cons_zero, List.set_cons_succ]
        refine Held.tk (i := 3) rfl hS ?_
        try simp only [Act.put, List.setIfInBounds_toArray, List.set_cons_zero, List.set_cons_succ]
        refine Held.tk (i := 4) rfl hS ?_
        try simp only [Act.put, List.setIfInBounds_toArray, List.set_cons_zero, List.set_cons_succ]
        refine Held.tk (i := 5) rfl hS ?_
        try simp only [Act.put, List.setIfInBounds_toArray, List.set_cons_zero, List.set_cons_succ]
        refine Held.tk (i := 6) rfl hS ?_
        try simp only [Act.put, List.setIfInBounds_toArray, List.set_cons_zero, List.set_cons_succ]
        refine Held.tk (i := 7) rfl hS ?_
        try simp only [Act.put, List.setIfInBounds_toArray, List.set_cons_zero, List.set_cons_succ]
        refine Held.tk (i := 8) rfl hS ?_
        try simp only [Act.put, List.setIfInBounds_toArray, List.set_cons_zero, List.set_cons_succ]
        refine Held.AnyS.step (i := 9) rfl (by kernel_rfl) rfl (fun K hK => ?_)
        go_simp
        refine ⟨trivial, ?_⟩
        refine ((callsIn_wide.2 CK.out).inRound l').mono ?_
        rintro e Y ⟨X, cX, rfl, hSX, hsrc, hbY⟩
        have hS2 := hS.below hbY HHZ.out
        have HSX := Lib.hid hSX
        have HSRC := Lib.hid hsrc
        have HBY := Lib.hid hbY
        clear hSX hsrc hbY
        refine hK.out _ _ (fun _ => hS2) ?_
        clear hK K
        try simp only [Act.put, List.setIfInBounds_toArray, List.set_cons_zero, List.set_cons_succ]
        have o2 := (Scr.below HSZ.out HBY.out).1
        rw [hvE] at o2
        have own3 : ∀ b ∈ [g, p + 1, w.heap.size + 1], some b ≠ (Value.slice Av nv cv).ownBlock := by
         intro b hb' e
         have h1 : has (Value.slice (some ⟨g, 0, none⟩) (hs0.length + 1) cap) (hs0 ++ [h]) b := .inr ⟨h, by simp, .inl (by rw [hvE]; exact e.symm)⟩
         simp at hb'
         rcases hb' with rfl | rfl | rfl
         ·obtain ⟨cur, hcur⟩ := hblk
          obtain ⟨cs, hcs⟩ := own_typed (HI.out.hk.2.1 h (by simp)).1 b (by rw [hvE]; exact e.symm)
          rw [hcur] at hcs
          injection hcs with hcs
          injection hcs with _ hcs _
          exact absurd hcs (by decide)
         ·have := hlow _ h1
          omega
         ·have := (HI.out.hk.typed h1).1
          omega
        have hgY : g < Y.heap.size := Nat.lt_of_lt_of_le (HHZ.out g (by simp)) HBY.out.size
        have hbYZ := HBY.out.size
        have hkl := keptE_len (mn E.f1 ctx)
        have hflen := flat_length (keptE (mn E.f1 ctx))
        refine Held.AnyS.step (i := 10) rfl (by kernel_rfl) rfl (fun K hK => ?_)
        refine Held.append_any (.tmp 97) (.tmp 102) 26 rfl (n2 + 7) 31 (.agg #[.int .i64 0, .int .i64 0, .slice none 0 0]) 3 40 Try.underlying26 info31 rfl (by omega) (.slice Av nv cv) h.es.length (flat h.es) rfl o2 X (keptE (mn E.f1 ctx)).length cX (flat (keptE (mn E.f1 ctx))) rfl hflen HSRC.out (keptE_one _) ?_ ?_ ?_ ?_
        ·simp only [maxLen]; have := HLE.out; omega
        ·have := HLE.out; omega
        ·omega
        intro v1 w1 hown hgr hat
        obtain ⟨A5, c5, rfl⟩ := own_slice hown
        have hS4 : Held.Same Z [g, p + 1, w.heap.size + 1] w1 := hS2.grown hgr (fun b hb => ⟨HHZ.out b hb, own3 b hb⟩)
        obtain ⟨MID, cw, fw⟩ := mid_last (more := keptE (mn E.f1 ctx)) HI.out (by omega) (by omega) rfl HGZ.out HBZ.out HBY.out hown (by rw [hvE]; exact hgr) (by rw [hvE]; exact hat) (fun e he => by rw [(keptE_own _ e he).1, (keptE_own _ e he).2]; exact own_nil _ _ _ _) (fun e he k hk => by rw [(keptE_own _ e he).1] at hk; cases hk) (keptE_pair _)
        rw [hvE] at cw
        have HMID := Lib.hid MID
        clear MID hown hgr hat
        refine hK.out _ _ (fun _ => hS4) ?_
        clear hK K
        try simp only [Act.put, List.setIfInBounds_toArray, List.set_cons_zero, List.set_cons_succ]
        refine Held.AnyS.step (i := 11) rfl (by kernel_rfl) rfl (fun K hK => ?_)
        go_simp
        refine hK.out _ _ (fun h => absurd h (by omega)) ?_
        clear hK K
        try simp only [Act.put, List.setIfInBounds_toArray, List.set_cons_zero, List.set_cons_succ]
        refine Held.AnyS.step (i := 12) rfl (by kernel_rfl) rfl (fun K hK => ?_)
        go_simp
        refine hK.out _ _ (fun h => absurd h (by omega)) ?_
        clear hK K
        try simp only [Act.put, List.setIfInBounds_toArray, List.set_cons_zero, List.set_cons_succ]
        refine Held.AnyS.step (i := 13) rfl (by kernel_rfl) rfl (fun K hK => ?_)
        go_simp
        refine hK.out _ _ (fun h => absurd h (by omega)) ?_
        clear hK K
        try simp only [Act.put, List.setIfInBounds_toArray, List.set_cons_zero, List.set_cons_succ]
        refine Held.AnyS.done (by kernel_rfl) ?_ _
        go_simp
        have MID := HMID.out
        obtain ⟨Y5, hY5⟩ : ∃ Y5, Y5 = w1.setCell ⟨g, hs0.length * 3 + 2, none⟩ (.slice A5 (h.es.length + (keptE (mn E.f1 ctx)).length) c5) := ⟨_, rfl⟩
        rw [← hY5] at MID ⊢
        have sm : ∀ k, k < W.heap.size → k ≠ n2 + 1 + 1 → ¬ has (Value.slice (some ⟨g, 0, none⟩) (hs0.length + 1) cap) (hs0 ++ [h]) k → Y5.heap[k]? = W.heap[k]? := MID.same
        have low : ∀ k, k < n2 + 7 → ¬ has (Value.slice (some ⟨g, 0, none⟩) (hs0.length + 1) cap) (hs0 ++ [h]) k := fun k hk hh => by have := (HI.out.hk.typed hh).1; omega
        have nW := HI.out.sz
        have d1 : Y5.cell? ⟨p + 1, 1, none⟩ = some (.int .i64 E.f1) := (World.cell?_of_block (w := W) (sm (p + 1) hp1lt (by omega) (fun hh => by have := hlow _ hh; omega))).trans r1
        have d2 : Y5.cell? ⟨w.heap.size + 1, 0, none⟩ = some (.int .i64 ctx) := (World.cell?_of_block (w := W) (sm (w.heap.size + 1) (by omega) (by omega) (low _ (by omega)))).trans q1
        have d3 : Y5.frozen? ⟨n2, 0, none⟩ = false := (World.frozen?_of_block (w := W) (sm n2 (by omega) (by omega) (low _ (by omega)))).trans f3
        have d4 : Y5.frozen? ⟨n2 + 1, 0, none⟩ = false := (World.frozen?_of_block (w := W) (sm (n2 + 1) (by omega) (by omega) (low _ (by omega)))).trans f4
        have d5 : Y5.cell? ⟨n2, 0, none⟩ = some (.int .i64 st.ahead) := (World.cell?_of_block (w := W) (sm n2 (by omega) (by omega) (low _ (by omega)))).trans q3
        have d6 : Y5.cell? ⟨n2 + 1, 0, none⟩ = some (.bool true) := (World.cell?_of_block (w := W) (sm (n2 + 1) (by omega) (by omega) (low _ (by omega)))).trans q4
        have HMM := Lib.hid MID
        clear MID HMID hY5 sm low nW hS hS2 hkl hflen cw fw own3 o2
        gi_wp2
        have FF := fun a => SHUT.out _ _ HMM.out (by rw [plain_snoc]; simp [Hd.plain, keptE_plain]) a
        rw [show n2 + 3 + 1 = W4.heap.size by omega] at FF
        exact FF _
      ·rw [ho] at q4
       have kb : (E.f0 == 1) = true := by simp [k1]
       have K1 := Lib.hid k1
       have K2 := Lib.hid k2
       have t1 : decide (2 * ctx < E.f1) = false := decide_eq_false (fun hh => k2 (.inl hh))
       have t2 : (wrap64 ((pre.length : Int) + 1) == (l.length : Int)) = false := by
        have h1 : pre.length < l.length := by rw [← HX.out]; exact hxl
        have h2 := hfit.1
        have h3 : ¬ x + 1 = l.length := fun hh => k2 (.inr hh)
        rw [HX.out] at h3
        rw [w64 (by omega) (by omega)]
        simp only [beq_eq_false_iff_ne]; omega
       clear k1 k2
       have hok := mkAll_ok l ctx pre
       rw [← HST.out] at hok
       obtain ⟨hs0, h, rfl⟩ : ∃ hs0 h, hs = hs0 ++ [h] := by
        rcases List.eq_nil_or_concat hs with h0 | ⟨o, h, h0⟩
        ·exfalso
         have := HI.out.pl
         rw [h0, ← HST.out] at this
         exact hok.1 ho this.symm
        ·exact ⟨o, h, by rw [h0, List.concat_eq_append]⟩
       obtain ⟨g, cap, rfl, hg0, hgl, hblk, g0, g1, g2, gf2⟩ := HI.out.hk.last
       have gne : g ≠ n2 + 1 + 1 := by omega
       have gne' : n2 + 1 + 1 ≠ g := by omega
       obtain ⟨Av, nv, cv, hvE⟩ : ∃ A n c, h.v = .slice A n c := by
        rcases (HI.out.hk.2.1 h (by simp)).1.2 with ⟨e, _⟩ | ⟨g', cap', cur, e, _⟩
        ·exact ⟨_, _, _, e⟩
        ·exact ⟨_, _, _, e⟩
       rw [hvE] at g2
       obtain ⟨ji, hji⟩ : ∃ ji : Int, ji = ((hs0.length + 1 : Nat) : Int) - 1 := ⟨_, rfl⟩
       have hlen : hs0.length + 1 ≤ 1000000 := by
        have h1 := hok.2.1
        have h2 := congrArg List.length HI.out.pl
        rw [← HST.out] at h2
        simp at h2
        have : pre.length < l.length := by rw [← HX.out]; exact hxl
        have := hfit.1
        omega
       have s1 : IntKind.i64.wrap (((hs0.length + 1 : Nat) : Int) - 1) = ji := by rw [hji, i64_w]; exact w64 (by omega) (by omega)
       have s1' : wrap64 (((hs0.length + 1 : Nat) : Int) - 1) = ji := by rw [hji]; exact w64 (by omega) (by omega)
       have jh2 : (0 ≤ ji) = True := eq_true (by omega)
       have jh3 : (ji < ((hs0.length + 1 : Nat) : Int)) = True := eq_true (by omega)
       have hjn : ji.toNat = hs0.length := by omega
       have HJ := Lib.hid hji
       clear hji
       have grw : ∀ (Y : World) (hs' : List Hd), Mid w.heap.size n2 w W Y (hs0 ++ [h]) hs' (.slice (some ⟨g, 0, none⟩) (hs0.length + 1) cap) (pre ++ [x]).length → hs'.map Hd.plain = hs0.map Hd.plain ++ [⟨h.fr, h.tt, h.es.map Ed.plain ++ [E]⟩] → ∀ a, Rng2.Left (n2 + 3 + 1) (Kp w.heap.size (n2 + 1 + 1 + 1) (n2 + 3 + 1 + 2) b) (fun pre W => ∃ hs v, Inv l ctx w.heap.size n2 A0 c0 w pre W hs v) (fun _ _ _ => False) (pre ++ [x]) W .normal a Y := by
        intro Y hs' M hpl a
        refine fin_grow HI.out hn hb hbW (by omega) M ?_ a
        rw [hpl]
        have e0 : mkAll l ctx (pre ++ [x]) = mkStep l ctx (mkAll l ctx pre) x := by unfold mkAll; rw [List.foldl_append]; rfl
        have e1 : upLast st.out [E] = hs0.map Hd.plain ++ [⟨h.fr, h.tt, h.es.map Ed.plain ++ [E]⟩] := by
         have h1 := HI.out.pl
         rw [plain_snoc, ← HST.out] at h1
         rw [← h1, upLast_snoc]
         rfl
        rw [e0, ← HST.out, ← e1, HEE.out]
        unfold mkStep
        rw [← HEE.out, if_neg (fun hh => by rw [ho] at hh; cases hh.2), if_neg (fun hh => K2.out hh.2), if_pos ho]
       have GROW := Lib.hid grw
       clear grw
       have hwc : wrap64 ((pre.length : Int) + 1) = ((pre ++ [x]).length : Int) := by
        have : pre.length < l.length := by rw [← HX.out]; exact hxl
        have := hfit.1
        rw [w64 (by omega) (by omega)]; simp
       have HWC := Lib.hid hwc
       clear hwc
       obtain ⟨Z, hZ⟩ : ∃ Z, Z = (W.setCell ⟨n2 + 1 + 1, 0, none⟩ (.int .i64 (wrap64 ((pre.length : Int) + 1)))).drew := ⟨_, rfl⟩
       have hZb : Below w.heap.size w Z := by rw [hZ]; exact below_drew (HI.out.bel.trans ((Below.refl _ _).setCell (by simp; omega) _))
       have hCZ := Kd.C_below hi2 hZb
       have hEl : E.f2.length ≤ 1048576 := by
        have := hfit.2 E (by rw [HEE.out]; simp [rd_T31, List.getD_eq_getElem?_getD, List.getElem?_eq_getElem hxl])
        exact this.2.2
       have hfo : hunks_owned_string.f E.f2 = some E.f2 := by unfold hunks_owned_string.f; rw [if_pos (by simp; omega)]; rfl
       have CO := Lib.hid (hunks_owned_string.calls A2 c2 E.f2 E.f2 Z hCZ hl2 hfo)
       have HZ := Lib.hid hZ
       clear hZ hfo
       gi_wp2
       all_goals (try (have hdead_ := ‹some undef = some (Value.bool _)›; cases hdead_; done))
       have ZW : ∀ b o, b ≠ n2 + 1 + 1 → Z.cell? ⟨b, o, none⟩ = W.cell? ⟨b, o, none⟩ := by
        intro b o hb'; rw [HZ.out]; exact World.cell?_setCell_far _ _ _ _ (fun e => hb' e.symm)
       have z2 : Z.cell? ⟨g, hs0.length * 3 + 2, none⟩ = some (.slice Av nv cv) := (ZW _ _ gne).trans g2
       have y0 : Z.cell? ⟨p + 1, 0, none⟩ = some (.int .i64 E.f0) := (ZW _ _ (by omega)).trans r0
       have y1 : Z.cell? ⟨p + 1, 1, none⟩ = some (.int .i64 E.f1) := (ZW _ _ (by omega)).trans r1
       have y2 : Z.cell? ⟨p + 1, 2, none⟩ = some (.slice A2 E.f2.length c2) := (ZW _ _ (by omega)).trans r2
       have gZ : W.grownBy Z (some (n2 + 1 + 1)) := by
        rw [HZ.out]
        have g0 := grownBy_setCell' W (n2 + 1 + 1) (.int .i64 (wrap64 ((pre.length : Int) + 1)))
        exact ⟨g0.os, g0.tape, g0.output, g0.size, g0.block⟩
       have bIZ : Boxed Z (n2 + 1 + 1) 3 (.int .i64 ((pre ++ [x]).length : Int)) := by
        rw [HZ.out, ← HWC.out]
        exact HI.out.bI.set _
       have hp1lt : p + 1 < W.heap.size := (Array.getElem?_eq_some_iff.1 HP2.out).1
       have hz : ∀ b ∈ [g, p + 1], b < Z.heap.size := by
        intro b hb'
        have := gZ.size
        simp at hb'
        rcases hb' with rfl | rfl <;> omega
       have SZ : Scr (n2 + 7) Z h.v h.es := (HI.out.hk.other gZ (fun k e hh => by cases e; have := (HI.out.hk.typed hh).1; omega)).2.1 h (by simp)
       have hel : h.es.length ≤ 2 * pre.length := by
        have h1 := hok.2.2 h.plain (by have h2 := HI.out.pl; rw [← HST.out] at h2; rw [← h2]; simp)
        simpa [Hd.plain] using h1
       have hple : pre.length < l.length := by rw [← HX.out]; exact hxl
       have hle2 := hfit.1
       have HGZ := Lib.hid gZ
       have HBZ := Lib.hid bIZ
       have HSZ := Lib.hid SZ
       have HHZ := Lib.hid hz
       have HLE := Lib.hid hel
       clear ZW gZ bIZ SZ hz hel
       refine Held.region 15 (Held.Same Z [g, p + 1]) (by kernel_rfl) ?_
       rw [← HZ.out]
       have hS := Held.Same.refl Z [g, p + 1]
       refine Held.tk (i := 0) rfl hS ?_
       try simp only [Act.put, List.setIfInBounds_toArray, List.set_cons_zero, List.set_cons_succ]
       refine Held.tk (i := 1) rfl hS ?_
       try simp only [Act.put, List.setIfInBounds_toArray, List.set_cons_zero, List.set_cons_succ]
       refine Held.tk (i := 2) rfl hS ?_
       try simp only [Act.put, List.setIfInBounds_toArray, List.set_cons_zero, List.set_cons_succ]
       refine Held.tk (i := 3) rfl hS ?_
       try simp only [Act.put, List.setIfInBounds_toArray, List.set_cons_zero, List.set_cons_succ]
       refine Held.tk (i := 4) rfl hS ?_
       try simp only [Act.put, List.setIfInBounds_toArray, List.set_cons_zero, List.set_cons_succ]
       refine Held.tk (i := 5) rfl hS ?_
       try simp only [Act.put, List.setIfInBounds_toArray, List.set_cons_zero, List.set_cons_succ]
       refine Held.tk (i := 6) rfl hS ?_
       try simp only [Act.put, List.setIfInBounds_toArray, List.set_cons_zero, List.set_cons_succ]
       refine Held.tk (i := 7) rfl hS ?_
       try simp only [Act.put, List.setIfInBounds_toArray, List.set_cons_zero, List.set_cons_succ]
       refine Held.tk (i := 8) rfl hS ?_
       try simp only [Act.put, List.setIfInBounds_toArray, List.set_cons_zero, List.set_cons_succ]
       refine Held.tk (i := 9) rfl hS ?_
       try simp only [Act.put, List.setIfInBounds_toArray, List.set_cons_zero, List.set_cons_succ]
       refine Held.tk (i := 10) rfl hS ?_
       try simp only [Act.put, List.setIfInBounds_toArray, List.set_cons_zero, List.set_cons_succ]
       refine Held.AnyS.step (i := 11) rfl (by kernel_rfl) rfl (fun K hK => ?_)
       go_simp
       refine ⟨trivial, ?_⟩
       refine ((callsIn_wide.2 CO.out).inRound l').mono ?_
       rintro e Y ⟨vL, rfl, hRL, hbY⟩
       obtain ⟨AL, cL, rfl⟩ := Kd.R_slice hRL
       have hS2 := hS.below hbY HHZ.out
       have HRL := Lib.hid hRL
       have HBY := Lib.hid hbY
       clear hRL hbY
       refine hK.out _ _ (fun _ => hS2) ?_
       clear hK K
       try simp only [Act.put, List.setIfInBounds_toArray, List.set_cons_zero, List.set_cons_succ]
       refine Held.tk (i := 12) rfl hS2 ?_
       try simp only [Act.put, List.setIfInBounds_toArray, List.set_cons_zero, List.set_cons_succ]
       refine Held.AnyS.step (i := 13) rfl (by kernel_rfl) rfl (fun K hK => ?_)
       go_simp
       have hS3 := hS2.grown (World.grownBy_alloc Y (.cells #[.int .i64 E.f0, .int .i64 E.f1, .slice AL E.f2.length cL] 31) none) (fun b hb => ⟨HHZ.out b hb, by simp⟩)
       refine hK.out _ _ (fun _ => hS3) ?_
       clear hK K
       try simp only [Act.put, List.setIfInBounds_toArray, List.set_cons_zero, List.set_cons_succ]
       obtain ⟨w2, hw2⟩ : ∃ w2, w2 = Y.alloc (.cells #[.int .i64 E.f0, .int .i64 E.f1, .slice AL E.f2.length cL] 31) := ⟨_, rfl⟩
       have bZ2 : Below Z.heap.size Z w2 := by rw [hw2]; exact HBY.out.alloc HBY.out.size _
       have nw : ∀ j u, [Value.int .i64 E.f0, .int .i64 E.f1, .slice AL E.f2.length cL][j]? = some u → w2.cell? ((⟨Y.heap.size, 0, none⟩ : Addr).add j) = some u := by
        rw [hw2]
        simpa using World.news_of_block (cs := #[Value.int .i64 E.f0, .int .i64 E.f1, .slice AL E.f2.length cL]) (t := 31) (fr := (0, 0)) (World.alloc_heap_new Y _)
       have lns : Lns (n2 + 7) w2 (.slice AL E.f2.length cL) E.f2 := by
        rw [hw2]
        have := HBZ.out.lt
        exact own_alloc (own_less (Kd.own_of_R HRL.out) (by have := HHZ.out g (by simp); omega)) _
       have o2 := (Scr.below HSZ.out bZ2).1
       rw [hvE] at o2
       have own3 : ∀ b ∈ [g, p + 1], some b ≠ (Value.slice Av nv cv).ownBlock := by
        intro b hb' e
        have h1 : has (Value.slice (some ⟨g, 0, none⟩) (hs0.length + 1) cap) (hs0 ++ [h]) b := .inr ⟨h, by simp, .inl (by rw [hvE]; exact e.symm)⟩
        simp at hb'
        rcases hb' with rfl | rfl
        ·obtain ⟨cur, hcur⟩ := hblk
         obtain ⟨cs, hcs⟩ := own_typed (HI.out.hk.2.1 h (by simp)).1 b (by rw [hvE]; exact e.symm)
         rw [hcur] at hcs
         injection hcs with hcs
         injection hcs with _ hcs _
         exact absurd hcs (by decide)
        ·have := hlow _ h1
         omega
       rw [← hw2] at hS3 ⊢
       have hY2 : Y.heap.size < w2.heap.size := by rw [hw2]; simp
       have hgY : g < Y.heap.size := Nat.lt_of_lt_of_le (HHZ.out g (by simp)) HBY.out.size
       clear hw2
       refine Held.AnyS.step (i := 14) rfl (by kernel_rfl) rfl (fun K hK => ?_)
       refine Held.append_at (.tmp 121) (.tmp 130) 26 rfl (n2 + 7) 31 (.agg #[.int .i64 0, .int .i64 0, .slice none 0 0]) 3 40 Try.underlying26 info31 rfl (by omega) (.slice Av nv cv) h.es.length (flat h.es) rfl o2 ⟨Y.heap.size, 0, none⟩ 1 1 [.int .i64 E.f0, .int .i64 E.f1, .slice AL E.f2.length cL] rfl rfl nw ?_ ?_ ?_ ?_ ?_
       ·intro u hu; simp at hu; rcases hu with rfl | rfl | rfl <;> rfl
       ·simp only [maxLen]; have := HLE.out; omega
       ·have := HLE.out; omega
       ·omega
       intro v1 w1 hown hgr hat
       obtain ⟨A5, c5, rfl⟩ := own_slice hown
       have hS4 : Held.Same Z [g, p + 1] w1 := hS3.grown hgr (fun b hb => ⟨HHZ.out b hb, own3 b hb⟩)
       obtain ⟨MID, cw, fw⟩ := mid_last (more := [⟨E.f0, E.f1, .slice AL E.f2.length cL, E.f2⟩]) HI.out (by omega) (by omega) rfl HGZ.out HBZ.out bZ2 hown (by rw [hvE]; exact hgr) (by rw [hvE]; exact hat) (by intro e he; rw [List.mem_singleton.1 he]; exact lns) (by intro e he k hk; rw [List.mem_singleton.1 he] at hk; exact own_base (Kd.own_of_R HRL.out) k hk) (List.pairwise_singleton _ _)
       rw [hvE] at cw
       have HMID := Lib.hid MID
       clear MID hown hgr hat
       refine hK.out _ _ (fun _ => hS4) ?_
       clear hK K
       try simp only [Act.put, List.setIfInBounds_toArray, List.set_cons_zero, List.set_cons_succ]
       refine Held.AnyS.step (i := 15) rfl (by kernel_rfl) rfl (fun K hK => ?_)
       go_simp
       refine hK.out _ _ (fun h => absurd h (by omega)) ?_
       clear hK K
       try simp only [Act.put, List.setIfInBounds_toArray, List.set_cons_zero, List.set_cons_succ]
       refine Held.AnyS.step (i := 16) rfl (by kernel_rfl) rfl (fun K hK => ?_)
       go_simp
       refine hK.out _ _ (fun h => absurd h (by omega)) ?_
       clear hK K
       try simp only [Act.put, List.setIfInBounds_toArray, List.set_cons_zero, List.set_cons_succ]
       refine Held.AnyS.step (i := 17) rfl (by kernel_rfl) rfl (fun K hK => ?_)
       go_simp
       refine hK.out _ _ (fun h => absurd h (by omega)) ?_
       clear hK K
       try simp only [Act.put, List.setIfInBounds_toArray, List.set_cons_zero, List.set_cons_succ]
       refine Held.AnyS.done (by kernel_rfl) ?_ _
       go_simp
       have FF := fun a => GROW.out _ _ HMID.out (by simp [Hd.plain, Ed.plain]) a
       rw [show n2 + 3 + 1 = W4.heap.size by omega] at FF
       exact FF _
    ·cases ho : st.opn with
     | true =>
      rw [ho] at q4
      have kb : (E.f0 == 1) = false := by simp [k1]
      have K1 := Lib.hid k1
      clear k1
      have hok := mkAll_ok l ctx pre
      rw [← HST.out] at hok
      obtain ⟨hs0, h, rfl⟩ : ∃ hs0 h, hs = hs0 ++ [h] := by
       rcases List.eq_nil_or_concat hs with h0 | ⟨o, h, h0⟩
       ·exfalso
        have := HI.out.pl
        rw [h0, ← HST.out] at this
        exact hok.1 ho this.symm
       ·exact ⟨o, h, by rw [h0, List.concat_eq_append]⟩
      obtain ⟨g, cap, rfl, hg0, hgl, hblk, g0, g1, g2, gf2⟩ := HI.out.hk.last
      have gne : g ≠ n2 + 1 + 1 := by omega
      have gne' : n2 + 1 + 1 ≠ g := by omega
      obtain ⟨Av, nv, cv, hvE⟩ : ∃ A n c, h.v = .slice A n c := by
       rcases (HI.out.hk.2.1 h (by simp)).1.2 with ⟨e, _⟩ | ⟨g', cap', cur, e, _⟩
       ·exact ⟨_, _, _, e⟩
       ·exact ⟨_, _, _, e⟩
      rw [hvE] at g2
      obtain ⟨ji, hji⟩ : ∃ ji : Int, ji = ((hs0.length + 1 : Nat) : Int) - 1 := ⟨_, rfl⟩
      have hlen : hs0.length + 1 ≤ 1000000 := by
       have h1 := hok.2.1
       have h2 := congrArg List.length HI.out.pl
       rw [← HST.out] at h2
       simp at h2
       have : pre.length < l.length := by rw [← HX.out]; exact hxl
       have := hfit.1
       omega
      have s1 : IntKind.i64.wrap (((hs0.length + 1 : Nat) : Int) - 1) = ji := by rw [hji, i64_w]; exact w64 (by omega) (by omega)
      have s1' : wrap64 (((hs0.length + 1 : Nat) : Int) - 1) = ji := by rw [hji]; exact w64 (by omega) (by omega)
      have jh2 : (0 ≤ ji) = True := eq_true (by omega)
      have jh3 : (ji < ((hs0.length + 1 : Nat) : Int)) = True := eq_true (by omega)
      have hjn : ji.toNat = hs0.length := by omega
      have HJ := Lib.hid hji
      clear hji
      have grw : ∀ (Y : World) (hs' : List Hd), Mid w.heap.size n2 w W Y (hs0 ++ [h]) hs' (.slice (some ⟨g, 0, none⟩) (hs0.length + 1) cap) (pre ++ [x]).length → hs'.map Hd.plain = hs0.map Hd.plain ++ [⟨h.fr, h.tt, h.es.map Ed.plain ++ [E]⟩] → ∀ a, Rng2.Left (n2 + 3 + 1) (Kp w.heap.size (n2 + 1 + 1 + 1) (n2 + 3 + 1 + 2) b) (fun pre W => ∃ hs v, Inv l ctx w.heap.size n2 A0 c0 w pre W hs v) (fun _ _ _ => False) (pre ++ [x]) W .normal a Y := by
       intro Y hs' M hpl a
       refine fin_grow HI.out hn hb hbW (by omega) M ?_ a
       rw [hpl]
       have e0 : mkAll l ctx (pre ++ [x]) = mkStep l ctx (mkAll l ctx pre) x := by unfold mkAll; rw [List.foldl_append]; rfl
       have e1 : upLast st.out [E] = hs0.map Hd.plain ++ [⟨h.fr, h.tt, h.es.map Ed.plain ++ [E]⟩] := by
        have h1 := HI.out.pl
        rw [plain_snoc, ← HST.out] at h1
        rw [← h1, upLast_snoc]
        rfl
       rw [e0, ← HST.out, ← e1, HEE.out]
       unfold mkStep
       rw [← HEE.out, if_neg (fun hh => K1.out hh.1), if_neg (fun hh => K1.out hh.1), if_pos ho]
      have GROW := Lib.hid grw
      clear grw
      have hwc : wrap64 ((pre.length : Int) + 1) = ((pre ++ [x]).length : Int) := by
       have : pre.length < l.length := by rw [← HX.out]; exact hxl
       have := hfit.1
       rw [w64 (by omega) (by omega)]; simp
      have HWC := Lib.hid hwc
      clear hwc
      obtain ⟨Z, hZ⟩ : ∃ Z, Z = (W.setCell ⟨n2 + 1 + 1, 0, none⟩ (.int .i64 (wrap64 ((pre.length : Int) + 1)))).drew := ⟨_, rfl⟩
      have hZb : Below w.heap.size w Z := by rw [hZ]; exact below_drew (HI.out.bel.trans ((Below.refl _ _).setCell (by simp; omega) _))
      have hCZ := Kd.C_below hi2 hZb
      have hEl : E.f2.length ≤ 1048576 := by
       have := hfit.2 E (by rw [HEE.out]; simp [rd_T31, List.getD_eq_getElem?_getD, List.getElem?_eq_getElem hxl])
       exact this.2.2
      have hfo : hunks_owned_string.f E.f2 = some E.f2 := by unfold hunks_owned_string.f; rw [if_pos (by simp; omega)]; rfl
      have CO := Lib.hid (hunks_owned_string.calls A2 c2 E.f2 E.f2 Z hCZ hl2 hfo)
      have HZ := Lib.hid hZ
      clear hZ hfo
      gi_wp2
      all_goals (try (have hdead_ := ‹some undef = some (Value.bool _)›; cases hdead_; done))
      have ZW : ∀ b o, b ≠ n2 + 1 + 1 → Z.cell? ⟨b, o, none⟩ = W.cell? ⟨b, o, none⟩ := by
       intro b o hb'; rw [HZ.out]; exact World.cell?_setCell_far _ _ _ _ (fun e => hb' e.symm)
      have z2 : Z.cell? ⟨g, hs0.length * 3 + 2, none⟩ = some (.slice Av nv cv) := (ZW _ _ gne).trans g2
      have y0 : Z.cell? ⟨p + 1, 0, none⟩ = some (.int .i64 E.f0) := (ZW _ _ (by omega)).trans r0
      have y1 : Z.cell? ⟨p + 1, 1, none⟩ = some (.int .i64 E.f1) := (ZW _ _ (by omega)).trans r1
      have y2 : Z.cell? ⟨p + 1, 2, none⟩ = some (.slice A2 E.f2.length c2) := (ZW _ _ (by omega)).trans r2
      have gZ : W.grownBy Z (some (n2 + 1 + 1)) := by
       rw [HZ.out]
       have g0 := grownBy_setCell' W (n2 + 1 + 1) (.int .i64 (wrap64 ((pre.length : Int) + 1)))
       exact ⟨g0.os, g0.tape, g0.output, g0.size, g0.block⟩
      have bIZ : Boxed Z (n2 + 1 + 1) 3 (.int .i64 ((pre ++ [x]).length : Int)) := by
       rw [HZ.out, ← HWC.out]
       exact HI.out.bI.set _
      have hp1lt : p + 1 < W.heap.size := (Array.getElem?_eq_some_iff.1 HP2.out).1
      have hz : ∀ b ∈ [g, p + 1], b < Z.heap.size := by
       intro b hb'
       have := gZ.size
       simp at hb'
       rcases hb' with rfl | rfl <;> omega
      have SZ : Scr (n2 + 7) Z h.v h.es := (HI.out.hk.other gZ (fun k e hh => by cases e; have := (HI.out.hk.typed hh).1; omega)).2.1 h (by simp)
      have hel : h.es.length ≤ 2 * pre.length := by
       have h1 := hok.2.2 h.plain (by have h2 := HI.out.pl; rw [← HST.out] at h2; rw [← h2]; simp)
       simpa [Hd.plain] using h1
      have hple : pre.length < l.length := by rw [← HX.out]; exact hxl
      have hle2 := hfit.1
      have HGZ := Lib.hid gZ
      have HBZ := Lib.hid bIZ
      have HSZ := Lib.hid SZ
      have HHZ := Lib.hid hz
      have HLE := Lib.hid hel
      clear ZW gZ bIZ SZ hz hel
      refine Held.region 15 (Held.Same Z [g, p + 1]) (by kernel_rfl) ?_
      rw [← HZ.out]
      have hS := Held.Same.refl Z [g, p + 1]
      refine Held.tk (i := 0) rfl hS ?_
      try simp only [Act.put, List.setIfInBounds_toArray, List.set_cons_zero, List.set_cons_succ]
      refine Held.tk (i := 1) rfl hS ?_
      try simp only [Act.put, List.setIfInBounds_toArray, List.set_cons_zero, List.set_cons_succ]
      refine Held.tk (i := 2) rfl hS ?_
      try simp only [Act.put, List.setIfInBounds_toArray, List.set_cons_zero, List.set_cons_succ]
      refine Held.tk (i := 3) rfl hS ?_
      try simp only [Act.put, List.setIfInBounds_toArray, List.set_cons_zero, List.set_cons_succ]
      refine Held.tk (i := 4) rfl hS ?_
      try simp only [Act.put, List.setIfInBounds_toArray, List.set_cons_zero, List.set_cons_succ]
      refine Held.tk (i := 5) rfl hS ?_
      try simp only [Act.put, List.setIfInBounds_toArray, List.set_cons_zero, List.set_cons_succ]
      refine Held.tk (i := 6) rfl hS ?_
      try simp only [Act.put, List.setIfInBounds_toArray, List.set_cons_zero, List.set_cons_succ]
      refine Held.tk (i := 7) rfl hS ?_
      try simp only [Act.put, List.setIfInBounds_toArray, List.set_cons_zero, List.set_cons_succ]
      refine Held.tk (i := 8) rfl hS ?_
      try simp only [Act.put, List.setIfInBounds_toArray, List.set_cons_zero, List.set_cons_succ]
      refine Held.tk (i := 9) rfl hS ?_
      try simp only [Act.put, List.setIfInBounds_toArray, List.set_cons_zero, List.set_cons_succ]
      refine Held.tk (i := 10) rfl hS ?_
      try simp only [Act.put, List.setIfInBounds_toArray, List.set_cons_zero, List.set_cons_succ]
      refine Held.AnyS.step (i := 11) rfl (by kernel_rfl) rfl (fun K hK => ?_)
      go_simp
      refine ⟨trivial, ?_⟩
      refine ((callsIn_wide.2 CO.out).inRound l').mono ?_
      rintro e Y ⟨vL, rfl, hRL, hbY⟩
      obtain ⟨AL, cL, rfl⟩ := Kd.R_slice hRL
      have hS2 := hS.below hbY HHZ.out
      have HRL := Lib.hid hRL
      have HBY := Lib.hid hbY
      clear hRL hbY
      refine hK.out _ _ (fun _ => hS2) ?_
      clear hK K
      try simp only [Act.put, List.setIfInBounds_toArray, List.set_cons_zero, List.set_cons_succ]
      refine Held.tk (i := 12) rfl hS2 ?_
      try simp only [Act.put, List.setIfInBounds_toArray, List.set_cons_zero, List.set_cons_succ]
      refine Held.AnyS.step (i := 13) rfl (by kernel_rfl) rfl (fun K hK => ?_)
      go_simp
      have hS3 := hS2.grown (World.grownBy_alloc Y (.cells #[.int .i64 E.f0, .int .i64 E.f1, .slice AL E.f2.length cL] 31) none) (fun b hb => ⟨HHZ.out b hb, by simp⟩)
      refine hK.out _ _ (fun _ => hS3) ?_
      clear hK K
      try simp only [Act.put, List.setIfInBounds_toArray, List.set_cons_zero, List.set_cons_succ]
      obtain ⟨w2, hw2⟩ : ∃ w2, w2 = Y.alloc (.cells #[.int .i64 E.f0, .int .i64 E.f1, .slice AL E.f2.length cL] 31) := ⟨_, rfl⟩
      have bZ2 : Below Z.heap.size Z w2 := by rw [hw2]; exact HBY.out.alloc HBY.out.size _
      have nw : ∀ j u, [Value.int .i64 E.f0, .int .i64 E.f1, .slice AL E.f2.length cL][j]? = some u → w2.cell? ((⟨Y.heap.size, 0, none⟩ : Addr).add j) = some u := by
       rw [hw2]
       simpa using World.news_of_block (cs := #[Value.int .i64 E.f0, .int .i64 E.f1, .slice AL E.f2.length cL]) (t := 31) (fr := (0, 0)) (World.alloc_heap_new Y _)
      have lns : Lns (n2 + 7) w2 (.slice AL E.f2.length cL) E.f2 := by
       rw [hw2]
       have := HBZ.out.lt
       exact own_alloc (own_less (Kd.own_of_R HRL.out) (by have := HHZ.out g (by simp); omega)) _
      have o2 := (Scr.below HSZ.out bZ2).1
      rw [hvE] at o2
      have own3 : ∀ b ∈ [g, p + 1], some b ≠ (Value.slice Av nv cv).ownBlock := by
       intro b hb' e
       have h1 : has (Value.slice (some ⟨g, 0, none⟩) (hs0.length + 1) cap) (hs0 ++ [h]) b := .inr ⟨h, by simp, .inl (by rw [hvE]; exact e.symm)⟩
       simp at hb'
       rcases hb' with rfl | rfl
       ·obtain ⟨cur, hcur⟩ := hblk
        obtain ⟨cs, hcs⟩ := own_typed (HI.out.hk.2.1 h (by simp)).1 b (by rw [hvE]; exact e.symm)
        rw [hcur] at hcs
        injection hcs with hcs
        injection hcs with _ hcs _
        exact absurd hcs (by decide)
       ·have := hlow _ h1
        omega
      rw [← hw2] at hS3 ⊢
      have hY2 : Y.heap.size < w2.heap.size := by rw [hw2]; simp
      have hgY : g < Y.heap.size := Nat.lt_of_lt_of_le (HHZ.out g (by simp)) HBY.out.size
      clear hw2
      refine Held.AnyS.step (i := 14) rfl (by kernel_rfl) rfl (fun K hK => ?_)
      refine Held.append_at (.tmp 121) (.tmp 130) 26 rfl (n2 + 7) 31 (.agg #[.int .i64 0, .int .i64 0, .slice none 0 0]) 3 40 Try.underlying26 info31 rfl (by omega) (.slice Av nv cv) h.es.length (flat h.es) rfl o2 ⟨Y.heap.size, 0, none⟩ 1 1 [.int .i64 E.f0, .int .i64 E.f1, .slice AL E.f2.length cL] rfl rfl nw ?_ ?_ ?_ ?_ ?_
      ·intro u hu; simp at hu; rcases hu with rfl | rfl | rfl <;> rfl
      ·simp only [maxLen]; have := HLE.out; omega
      ·have := HLE.out; omega
      ·omega
      intro v1 w1 hown hgr hat
      obtain ⟨A5, c5, rfl⟩ := own_slice hown
      have hS4 : Held.Same Z [g, p + 1] w1 := hS3.grown hgr (fun b hb => ⟨HHZ.out b hb, own3 b hb⟩)
      obtain ⟨MID, cw, fw⟩ := mid_last (more := [⟨E.f0, E.f1, .slice AL E.f2.length cL, E.f2⟩]) HI.out (by omega) (by omega) rfl HGZ.out HBZ.out bZ2 hown (by rw [hvE]; exact hgr) (by rw [hvE]; exact hat) (by intro e he; rw [List.mem_singleton.1 he]; exact lns) (by intro e he k hk; rw [List.mem_singleton.1 he] at hk; exact own_base (Kd.own_of_R HRL.out) k hk) (List.pairwise_singleton _ _)
      rw [hvE] at cw
      have HMID := Lib.hid MID
      clear MID hown hgr hat
      refine hK.out _ _ (fun _ => hS4) ?_
      clear hK K
      try simp only [Act.put, List.setIfInBounds_toArray, List.set_cons_zero, List.set_cons_succ]
      refine Held.AnyS.step (i := 15) rfl (by kernel_rfl) rfl (fun K hK => ?_)
      go_simp
      refine hK.out _ _ (fun h => absurd h (by omega)) ?_
      clear hK K
      try simp only [Act.put, List.setIfInBounds_toArray, List.set_cons_zero, List.set_cons_succ]
      refine Held.AnyS.step (i := 16) rfl (by kernel_rfl) rfl (fun K hK => ?_)
      go_simp
      refine hK.out _ _ (fun h => absurd h (by omega)) ?_
      clear hK K
      try simp only [Act.put, List.setIfInBounds_toArray, List.set_cons_zero, List.set_cons_succ]
      refine Held.AnyS.step (i := 17) rfl (by kernel_rfl) rfl (fun K hK => ?_)
      go_simp
      refine hK.out _ _ (fun h => absurd h (by omega)) ?_
      clear hK K
      try simp only [Act.put, List.setIfInBounds_toArray, List.set_cons_zero, List.set_cons_succ]
      refine Held.AnyS.done (by kernel_rfl) ?_ _
      go_simp
      have FF := fun a => GROW.out _ _ HMID.out (by simp [Hd.plain, Ed.plain]) a
      rw [show n2 + 3 + 1 = W4.heap.size by omega] at FF
      exact FF _
     | false =>
      obtain ⟨A9, c9, rfl⟩ : ∃ A c, v = .slice A hs.length c := own_slice HI.out.hk.1
      rw [ho] at q4
      have kb : (E.f0 == 1) = false := by simp [k1]
      have K1 := Lib.hid k1
      clear k1
      have hah := mkAll_ahead hfit hc0' pre
      have hr1 := ahead_range l hfit.1 (fun y hy => ⟨(hfit.2 y hy).1, (hfit.2 y hy).2.1⟩) x
      rw [← HST.out] at hah
      obtain ⟨p1, hp1e⟩ : ∃ p1, p1 = ahead1 l x := ⟨_, rfl⟩
      obtain ⟨p2, hp2e⟩ : ∃ p2, p2 = ahead2 l x := ⟨_, rfl⟩
      obtain ⟨ah, hahe⟩ : ∃ ah, ah = st.ahead := ⟨_, rfl⟩
      obtain ⟨fr, hfr⟩ : ∃ fr, fr = p1 - ah := ⟨_, rfl⟩
      obtain ⟨tt, htt⟩ : ∃ tt, tt = p2 - ah := ⟨_, rfl⟩
      have HP1' := HP1.out
      rw [← hp1e, ← hp2e] at hr1 HP1' ⊢
      rw [← hahe] at hah q3
      have s1 : IntKind.i64.wrap (p1 - ah) = fr := by rw [hfr, i64_w]; exact w64 (by omega) (by omega)
      have s2 : IntKind.i64.wrap (p2 - ah) = tt := by rw [htt, i64_w]; exact w64 (by omega) (by omega)
      have s1' : wrap64 (p1 - ah) = fr := by rw [hfr]; exact w64 (by omega) (by omega)
      have s2' : wrap64 (p2 - ah) = tt := by rw [htt]; exact w64 (by omega) (by omega)
      have HEP1 := Lib.hid hp1e
      have HEP2 := Lib.hid hp2e
      have HAH := Lib.hid hahe
      have HFR := Lib.hid hfr
      have HTT := Lib.hid htt
      have HAB := Lib.hid hah
      have HP1P := Lib.hid HP1'
      clear hp1e hp2e hahe hfr htt hah hr1 HP1'
      have hwc : wrap64 ((pre.length : Int) + 1) = ((pre ++ [x]).length : Int) := by
       have : pre.length < l.length := by rw [← HX.out]; exact hxl
       have := hfit.1
       rw [w64 (by omega) (by omega)]; simp
      have HWC := Lib.hid hwc
      clear hwc
      obtain ⟨Z, hZ⟩ : ∃ Z, Z = (W.setCell ⟨n2 + 1 + 1, 0, none⟩ (.int .i64 (wrap64 ((pre.length : Int) + 1)))).drew := ⟨_, rfl⟩
      have ZW : ∀ b o, b ≠ n2 + 1 + 1 → Z.cell? ⟨b, o, none⟩ = W.cell? ⟨b, o, none⟩ := by
       intro b o hb'; rw [hZ]; exact World.cell?_setCell_far _ _ _ _ (fun e => hb' e.symm)
      have y0 : Z.cell? ⟨p, 0, none⟩ = some (.int .i64 p1) := (ZW _ _ (by omega)).trans (by simp [World.cell?, HP1P.out])
      have y1 : Z.cell? ⟨p, 1, none⟩ = some (.int .i64 p2) := (ZW _ _ (by omega)).trans (by simp [World.cell?, HP1P.out])
      have y2 : Z.cell? ⟨n2, 0, none⟩ = some (.int .i64 ah) := (ZW _ _ (by omega)).trans q3
      have gZ : W.grownBy Z (some (n2 + 1 + 1)) := by
       rw [hZ]
       have g0 := grownBy_setCell' W (n2 + 1 + 1) (.int .i64 (wrap64 ((pre.length : Int) + 1)))
       exact ⟨g0.os, g0.tape, g0.output, g0.size, g0.block⟩
      have bIZ : Boxed Z (n2 + 1 + 1) 3 (.int .i64 ((pre ++ [x]).length : Int)) := by
       rw [hZ, ← HWC.out]
       exact HI.out.bI.set _
      have hplt : p < W.heap.size := (Array.getElem?_eq_some_iff.1 HP1.out).1
      have hz : ∀ b ∈ [n2, p], b < Z.heap.size := by
       intro b hb'
       have := gZ.size
       simp at hb'
       rcases hb' with rfl | rfl <;> omega
      have CK := Lib.hid (kept_calls ah Z)
      have HZ := Lib.hid hZ
      have HGZ := Lib.hid gZ
      have HBZ := Lib.hid bIZ
      have HHZ := Lib.hid hz
      clear hZ ZW gZ bIZ hz
      gi_wp2
      all_goals (try (have hdead_ := ‹some undef = some (Value.bool _)›; cases hdead_; done))
      refine Held.region 12 (Held.Same Z [n2, p]) (by kernel_rfl) ?_
      rw [← HZ.out]
      have hS := Held.Same.refl Z [n2, p]
      refine Held.tk (i := 0) rfl hS ?_
      try simp only [Act.put, List.setIfInBounds_toArray, List.set_cons_zero, List.set_cons_succ]
      refine Held.tk (i := 1) rfl hS ?_
      try simp only [Act.put, List.setIfInBounds_toArray, List.set_cons_zero, List.set_cons_succ]
      refine Held.tk (i := 2) rfl hS ?_
      try simp only [Act.put, List.setIfInBounds_toArray, List.set_cons_zero, List.set_cons_succ]
      refine Held.tk (i := 3) rfl hS ?_
      try simp only [Act.put, List.setIfInBounds_toArray, List.set_cons_zero, List.set_cons_succ]
      refine Held.tk (i := 4) rfl hS ?_
      try simp only [Act.put, List.setIfInBounds_toArray, List.set_cons_zero, List.set_cons_succ]
      refine Held.tk (i := 5) rfl hS ?_
      try simp only [Act.put, List.setIfInBounds_toArray, List.set_cons_zero, List.set_cons_succ]
      refine Held.tk (i := 6) rfl hS ?_
      try simp only [Act.put, List.setIfInBounds_toArray, List.set_cons_zero, List.set_cons_succ]
      refine Held.tk (i := 7) rfl hS ?_
      try simp only [Act.put, List.setIfInBounds_toArray, List.set_cons_zero, List.set_cons_succ]
      refine Held.tk (i := 8) rfl hS ?_
      try simp only [Act.put, List.setIfInBounds_toArray, List.set_cons_zero, List.set_cons_succ]
      have CK2 := Lib.hid (kept_calls ah (Z.alloc (.cells #[.int .i64 0, .int .i64 0, .slice none 0 0] 28)))
      refine Held.AnyS.step2 (i := 9) (j := 11) rfl rfl (by kernel_rfl) rfl rfl (fun K hK => ?_) (fun K hK => ?_)
      ·go_simp
       refine ⟨trivial, ?_⟩
       refine ((callsIn_wide.2 CK.out).inRound l').mono ?_
       rintro e Y ⟨X, cX, rfl, hSX, hsrc, hbY⟩
       have hS2 := hS.below hbY HHZ.out
       refine hK.out _ _ (fun _ => hS2) ?_
       clear hK K
       try simp only [Act.put, List.setIfInBounds_toArray, List.set_cons_zero, List.set_cons_succ]
       refine Held.tk (i := 10) rfl hS2 ?_
       try simp only [Act.put, List.setIfInBounds_toArray, List.set_cons_zero, List.set_cons_succ]
       refine Held.AnyS.step (i := 11) rfl (by kernel_rfl) rfl (fun K hK => ?_)
       go_simp
       have hS3 := hS2.grown (World.grownBy_alloc Y (.cells #[.int .i64 0, .int .i64 0, .slice none 0 0] 28) none) (fun b hb => ⟨HHZ.out b hb, by simp⟩)
       refine hK.out _ _ (fun _ => hS3) ?_
       clear hK K
       try simp only [Act.put, List.setIfInBounds_toArray, List.set_cons_zero, List.set_cons_succ]
       obtain ⟨q, hq⟩ : ∃ q, q = Y.heap.size := ⟨_, rfl⟩
       obtain ⟨Y2, hY2⟩ : ∃ Y2, Y2 = Y.alloc (.cells #[.int .i64 0, .int .i64 0, .slice none 0 0] 28) := ⟨_, rfl⟩
       have hqY : Y2.heap[q]? = some (.cells #[.int .i64 0, .int .i64 0, .slice none 0 0] 28) := by rw [hY2, hq]; exact World.alloc_heap_new Y _
       have bZ2 : Below Z.heap.size Z Y2 := by rw [hY2]; exact hbY.alloc hbY.size _
       have hqZ : Z.heap.size ≤ q := by rw [hq]; exact hbY.size
       have SX : Scr Z.heap.size Y2 (.slice X (keptE ah).length cX) (keptE ah) := by rw [hY2]; exact Scr.below hSX ((Below.refl _ _).alloc (Nat.le_refl _) _)
       rw [← hY2] at hS3 ⊢
       rw [← hq]
       clear hbY hSX hsrc hq hY2 hS2
       have u0 : Y2.cell? ⟨q, 0, none⟩ = some (.int .i64 0) := by simp [World.cell?, hqY]
       have u1 : Y2.cell? ⟨q, 1, none⟩ = some (.int .i64 0) := by simp [World.cell?, hqY]
       have u2 : Y2.cell? ⟨q, 2, none⟩ = some (.slice none 0 0) := by simp [World.cell?, hqY]
       have u3 : Y2.frozen? ⟨q, 0, none⟩ = false := by simp [World.frozen?, hqY]
       have u4 : Y2.frozen? ⟨q, 1, none⟩ = false := by simp [World.frozen?, hqY]
       have u5 : Y2.frozen? ⟨q, 2, none⟩ = false := by simp [World.frozen?, hqY]
       obtain ⟨Y4, hY4⟩ : ∃ Y4, Y4 = ((Y2.setCell ⟨q, 0, none⟩ (.int .i64 fr)).setCell ⟨q, 1, none⟩ (.int .i64 tt)).setCell ⟨q, 2, none⟩ (.slice X (keptE ah).length cX) := ⟨_, rfl⟩
       have e1 := blk_set hqY 0 (.int .i64 fr)
       have e2 := blk_set e1 1 (.int .i64 tt)
       have e3 := blk_set e2 2 (.slice X (keptE ah).length cX)
       rw [← hY4] at e3
       have q4' : Y4.heap[q]? = some (.cells #[.int .i64 fr, .int .i64 tt, .slice X (keptE ah).length cX] 28) := e3
       have SX4 : Scr Z.heap.size Y4 (.slice X (keptE ah).length cX) (keptE ah) := by rw [hY4]; exact scr_far (scr_far (scr_far SX hqY 0 _) e1 1 _) e2 2 _
       have bZ4 : Below Z.heap.size Z Y4 := by rw [hY4]; exact ((bZ2.setCell hqZ _).setCell hqZ _).setCell hqZ _
       have HY4 := Lib.hid hY4
       have HQ4 := Lib.hid q4'
       have HSX4 := Lib.hid SX4
       have HBZ4 := Lib.hid bZ4
       clear e1 e2 e3 hY4 q4' SX4 bZ4 hqY SX bZ2
       refine Held.AnyS.step (i := 12) rfl (by kernel_rfl) rfl (fun K hK => ?_)
       go_simp
       rw [← HY4.out]
       refine hK.out _ _ (fun h => absurd h (by omega)) ?_
       clear hK K u0 u1 u2 u3 u4 u5 hS3 hS
       refine Held.AnyS.done (by kernel_rfl) ?_ _
       go_simp
       gi_wp2
       obtain ⟨Z2, hZ2⟩ : ∃ Z2, Z2 = Y4.drew := ⟨_, rfl⟩
       have hZh : Z2.heap = Y4.heap := by rw [hZ2]; rfl
       have q5 : Z2.heap[q]? = some (.cells #[.int .i64 fr, .int .i64 tt, .slice X (keptE ah).length cX] 28) := by rw [hZh]; exact HQ4.out
       have bZ5 : Below Z.heap.size Z Z2 := by rw [hZ2]; exact HBZ4.out.drew
       have SX5 : Scr Z.heap.size Z2 (.slice X (keptE ah).length cX) (keptE ah) := by rw [hZ2]; exact HSX4.out
       have hp1lt : p + 1 < W.heap.size := (Array.getElem?_eq_some_iff.1 HP2.out).1
       have sWZ := HGZ.out.size
       have sZ5 := bZ5.size
       have hcell : ∀ o, Z2.cell? ⟨p + 1, o, none⟩ = W.cell? ⟨p + 1, o, none⟩ := fun o => World.cell?_of_block (w := W) ((bZ5.block (p + 1) (by omega)).trans (HGZ.out.block (p + 1) hp1lt (by simp; omega)))
       have x0 : Z2.cell? ⟨q, 2, none⟩ = some (.slice X (keptE ah).length cX) := by simp [World.cell?, q5]
       have x1 : Z2.cell? ⟨p + 1, 0, none⟩ = some (.int .i64 E.f0) := (hcell 0).trans r0
       have x2 : Z2.cell? ⟨p + 1, 1, none⟩ = some (.int .i64 E.f1) := (hcell 1).trans r1
       have x3 : Z2.cell? ⟨p + 1, 2, none⟩ = some (.slice A2 E.f2.length c2) := (hcell 2).trans r2
       have hzz : ∀ b ∈ [q, p + 1], b < Z2.heap.size := by
        intro b hb'
        simp at hb'
        rcases hb' with rfl | rfl
        ·exact blk_lt q5
        ·omega
       have hsz := HI.out.bel.size
       have bWZ : Below w.heap.size w Z2 := (HI.out.bel.grown HGZ.out hsz (fun k e => by cases e; omega)).trans (bZ5.mono (by omega))
       have hCZ := Kd.C_below hi2 bWZ
       have hEl : E.f2.length ≤ 1048576 := by
        have := hfit.2 E (by rw [HEE.out]; simp [rd_T31, List.getD_eq_getElem?_getD, List.getElem?_eq_getElem hxl])
        exact this.2.2
       have hfo : hunks_owned_string.f E.f2 = some E.f2 := by unfold hunks_owned_string.f; rw [if_pos (by simp; omega)]; rfl
       have CO := Lib.hid (hunks_owned_string.calls A2 c2 E.f2 E.f2 Z2 hCZ hl2 hfo)
       have HZ2 := Lib.hid hZ2
       have HHZZ := Lib.hid hzz
       have HSX5 := Lib.hid SX5
       have HBZ5 := Lib.hid bZ5
       have HQ5 := Lib.hid q5
       have hkl := keptE_len ah
       clear hZ2 hZh hcell hfo hCZ bWZ hzz SX5 bZ5 q5 HQ4 HSX4 HBZ4
       refine Held.region 12 (Held.Same Z2 [q, p + 1]) (by kernel_rfl) ?_
       rw [← HZ2.out]
       have hT := Held.Same.refl Z2 [q, p + 1]
       refine Held.tk (i := 0) rfl hT ?_
       try simp only [Act.put, List.setIfInBounds_toArray, List.set_cons_zero, List.set_cons_succ]
       refine Held.tk (i := 1) rfl hT ?_
       try simp only [Act.put, List.setIfInBounds_toArray, List.set_cons_zero, List.set_cons_succ]
       refine Held.tk (i := 2) rfl hT ?_
       try simp only [Act.put, List.setIfInBounds_toArray, List.set_cons_zero, List.set_cons_succ]
       refine Held.tk (i := 3) rfl hT ?_
       try simp only [Act.put, List.setIfInBounds_toArray, List.set_cons_zero, List.set_cons_succ]
       refine Held.tk (i := 4) rfl hT ?_
       try simp only [Act.put, List.setIfInBounds_toArray, List.set_cons_zero, List.set_cons_succ]
       refine Held.tk (i := 5) rfl hT ?_
       try simp only [Act.put, List.setIfInBounds_toArray, List.set_cons_zero, List.set_cons_succ]
       refine Held.tk (i := 6) rfl hT ?_
       try simp only [Act.put, List.setIfInBounds_toArray, List.set_cons_zero, List.set_cons_succ]
       refine Held.tk (i := 7) rfl hT ?_
       try simp only [Act.put, List.setIfInBounds_toArray, List.set_cons_zero, List.set_cons_succ]
       refine Held.AnyS.step (i := 8) rfl (by kernel_rfl) rfl (fun K hK => ?_)
       go_simp
       refine ⟨trivial, ?_⟩
       refine ((callsIn_wide.2 CO.out).inRound l').mono ?_
       rintro e Y5 ⟨vL, rfl, hRL, hbY5⟩
       obtain ⟨AL, cL, rfl⟩ := Kd.R_slice hRL
       have hT2 := hT.below hbY5 HHZZ.out
       have HRL := Lib.hid hRL
       have HBY5 := Lib.hid hbY5
       clear hRL hbY5
       refine hK.out _ _ (fun _ => hT2) ?_
       clear hK K
       try simp only [Act.put, List.setIfInBounds_toArray, List.set_cons_zero, List.set_cons_succ]
       refine Held.tk (i := 9) rfl hT2 ?_
       try simp only [Act.put, List.setIfInBounds_toArray, List.set_cons_zero, List.set_cons_succ]
       refine Held.AnyS.step (i := 10) rfl (by kernel_rfl) rfl (fun K hK => ?_)
       go_simp
       have hT3 := hT2.grown (World.grownBy_alloc Y5 (.cells #[.int .i64 E.f0, .int .i64 E.f1, .slice AL E.f2.length cL] 31) none) (fun b hb => ⟨HHZZ.out b hb, by simp⟩)
       refine hK.out _ _ (fun _ => hT3) ?_
       clear hK K
       try simp only [Act.put, List.setIfInBounds_toArray, List.set_cons_zero, List.set_cons_succ]
       obtain ⟨w2, hw2⟩ : ∃ w2, w2 = Y5.alloc (.cells #[.int .i64 E.f0, .int .i64 E.f1, .slice AL E.f2.length cL] 31) := ⟨_, rfl⟩
       have b52 : Below Z2.heap.size Z2 w2 := by rw [hw2]; exact HBY5.out.alloc HBY5.out.size _
       have nw : ∀ j u, [Value.int .i64 E.f0, .int .i64 E.f1, .slice AL E.f2.length cL][j]? = some u → w2.cell? ((⟨Y5.heap.size, 0, none⟩ : Addr).add j) = some u := by
        rw [hw2]
        simpa using World.news_of_block (cs := #[Value.int .i64 E.f0, .int .i64 E.f1, .slice AL E.f2.length cL]) (t := 31) (fr := (0, 0)) (World.alloc_heap_new Y5 _)
       have bIlt := HBZ.out.lt
       have nZ7 : n2 + 7 ≤ Z.heap.size := by omega
       have lns : Lns (n2 + 7) w2 (.slice AL E.f2.length cL) E.f2 := by
        rw [hw2]
        exact own_alloc (own_less (Kd.own_of_R HRL.out) (by omega)) _
       have S2 : Scr (n2 + 7) w2 (.slice X (keptE ah).length cX) (keptE ah) := Scr.low (Scr.below HSX5.out b52) nZ7
       have own3 : ∀ b ∈ [q, p + 1], some b ≠ (Value.slice X (keptE ah).length cX).ownBlock := by
        intro b hb' e
        simp at hb'
        rcases hb' with rfl | rfl
        ·obtain ⟨cs, hcs⟩ := own_typed HSX5.out.1 b e.symm
         rw [HQ5.out] at hcs
         injection hcs with hcs
         injection hcs with _ hcs _
         exact absurd hcs (by decide)
        ·have := own_base HSX5.out.1 _ e.symm
         omega
       rw [← hw2] at hT3 ⊢
       have s52 := b52.size
       clear hw2
       refine Held.AnyS.step (i := 11) rfl (by kernel_rfl) rfl (fun K hK => ?_)
       refine Held.append_at (.tmp 43) (.tmp 52) 26 rfl (n2 + 7) 31 (.agg #[.int .i64 0, .int .i64 0, .slice none 0 0]) 3 40 Try.underlying26 info31 rfl (by omega) (.slice X (keptE ah).length cX) (keptE ah).length (flat (keptE ah)) rfl S2.1 ⟨Y5.heap.size, 0, none⟩ 1 1 [.int .i64 E.f0, .int .i64 E.f1, .slice AL E.f2.length cL] rfl rfl nw ?_ ?_ ?_ ?_ ?_
       ·intro u hu; simp at hu; rcases hu with rfl | rfl | rfl <;> rfl
       ·simp only [maxLen]; omega
       ·omega
       ·omega
       intro v1 w1 hown hgr hat
       obtain ⟨A5, c5, rfl⟩ := own_slice hown
       have hT4 : Held.Same Z2 [q, p + 1] w1 := hT3.grown hgr (fun b hb => ⟨HHZZ.out b hb, own3 b hb⟩)
       have q6 : w1.heap[q]? = some (.cells #[.int .i64 fr, .int .i64 tt, .slice X (keptE ah).length cX] 28) := (hT4 q (by simp)).trans HQ5.out
       have S9 : Scr (n2 + 7) w1 (.slice A5 ((keptE ah).length + 1) c5) (keptE ah ++ [⟨E.f0, E.f1, .slice AL E.f2.length cL, E.f2⟩]) := Scr.add S2 hown hgr (fun e he => by rw [List.mem_singleton.1 he]; exact lns) (fun e' he' e he k hk => by rw [(keptE_own _ e' he').1] at hk; cases hk) (List.pairwise_singleton _ _)
       have fr9 : ∀ k, Hd.has ⟨fr, tt, .slice A5 ((keptE ah).length + 1) c5, keptE ah ++ [⟨E.f0, E.f1, .slice AL E.f2.length cL, E.f2⟩]⟩ k → Z.heap.size ≤ k := by
        rintro k (hk | ⟨e, he, hk⟩)
        ·rcases hat with h1 | h1
         ·exact own_base HSX5.out.1 k (h1.symm.trans hk)
         ·have h2 := h1.symm.trans hk
          injection h2 with h2
          omega
        ·rcases List.mem_append.1 he with he | he
         ·rw [(keptE_own _ e he).1] at hk; cases hk
         ·rw [List.mem_singleton.1 he] at hk
          have := own_base (Kd.own_of_R HRL.out) k hk
          omega
       obtain ⟨Y6, hY6⟩ : ∃ Y6, Y6 = w1.setCell ⟨q, 2, none⟩ (.slice A5 ((keptE ah).length + 1) c5) := ⟨_, rfl⟩
       have q8 : Y6.heap[q]? = some (.cells #[.int .i64 fr, .int .i64 tt, .slice A5 ((keptE ah).length + 1) c5] 28) := by rw [hY6]; exact blk_set q6 2 _
       have S10 : Scr (n2 + 7) Y6 (.slice A5 ((keptE ah).length + 1) c5) (keptE ah ++ [⟨E.f0, E.f1, .slice AL E.f2.length cL, E.f2⟩]) := by rw [hY6]; exact scr_far S9 q6 2 _
       have bZ6 : Below Z.heap.size Z Y6 := by
        rw [hY6]
        exact (((HBZ5.out.trans (b52.mono sZ5)).grown hgr (by omega) (fun k e => own_base HSX5.out.1 k e)).setCell (p := ⟨q, 2, none⟩) hqZ _)
       have cw : w1.cell? ⟨q, 2, none⟩ = some (.slice X (keptE ah).length cX) := by simp [World.cell?, q6]
       have fw : w1.frozen? ⟨q, 2, none⟩ = false := by simp [World.frozen?, q6]
       have HY6 := Lib.hid hY6
       have HQ8 := Lib.hid q8
       have HS10 := Lib.hid S10
       have HBZ6 := Lib.hid bZ6
       have HFR9 := Lib.hid fr9
       clear hY6 q8 S10 bZ6 fr9 S9 q6 hown hgr hat S2 own3 nw lns b52
       refine hK.out _ _ (fun _ => hT4) ?_
       clear hK K
       try simp only [Act.put, List.setIfInBounds_toArray, List.set_cons_zero, List.set_cons_succ]
       refine Held.AnyS.step (i := 12) rfl (by kernel_rfl) rfl (fun K hK => ?_)
       go_simp
       refine hK.out _ _ (fun h => absurd h (by omega)) ?_
       clear hK K
       try simp only [Act.put, List.setIfInBounds_toArray, List.set_cons_zero, List.set_cons_succ]
       refine Held.AnyS.step (i := 13) rfl (by kernel_rfl) rfl (fun K hK => ?_)
       go_simp
       rw [← HY6.out]
       refine hK.out _ _ (fun h => absurd h (by omega)) ?_
       clear hK K hT hT2 hT3 hT4 cw fw
       refine Held.AnyS.done (by kernel_rfl) ?_ _
       go_simp
       have kZ6 : Hks (n2 + 7) Y6 (.slice A9 hs.length c9) hs := (HI.out.hk.other HGZ.out (fun k e hh => by cases e; have := (HI.out.hk.typed hh).1; omega)).below HBZ6.out
       have vb : ∀ k, (Value.slice A9 hs.length c9).ownBlock = some k → n2 + 7 ≤ k := fun k hk => (HI.out.hk.typed (.inl hk)).1
       have nW := HI.out.sz
       have up : ∀ {B t u}, B < n2 + 4 → B ≠ n2 + 1 + 1 → Boxed W B t u → Boxed Y6 B t u := fun h1 h2 hB => (HBZ6.out.block _ (by omega)).trans ((HGZ.out.block _ hB.lt (by simp; omega)).trans hB)
       have bO6 := up (by omega) (by omega) HI.out.bO
       have bP6 : Boxed Y6 (n2 + 1) 4 (.bool false) := by
        have h1 := up (by omega) (by omega) HI.out.bP
        rw [← HST.out, ho] at h1
        exact h1
       have j0 := bO6.cell
       have j1 : Y6.cell? ⟨q, 0, none⟩ = some (.int .i64 fr) := by simp [World.cell?, HQ8.out]
       have j2 : Y6.cell? ⟨q, 1, none⟩ = some (.int .i64 tt) := by simp [World.cell?, HQ8.out]
       have j3 : Y6.cell? ⟨q, 2, none⟩ = some (.slice A5 ((keptE ah).length + 1) c5) := by simp [World.cell?, HQ8.out]
       obtain ⟨Y7, hY7⟩ : ∃ Y7, Y7 = Y6.alloc (.cells #[.int .i64 fr, .int .i64 tt, .slice A5 ((keptE ah).length + 1) c5] 28) := ⟨_, rfl⟩
       have g67 : Y6.grownBy Y7 none := by rw [hY7]; exact World.grownBy_alloc _ _ _
       have nw7 : ∀ j u, [Value.int .i64 fr, .int .i64 tt, .slice A5 ((keptE ah).length + 1) c5][j]? = some u → Y7.cell? ((⟨Y6.heap.size, 0, none⟩ : Addr).add j) = some u := by
        rw [hY7]
        simpa using World.news_of_block (cs := #[Value.int .i64 fr, .int .i64 tt, .slice A5 ((keptE ah).length + 1) c5]) (t := 28) (fr := (0, 0)) (World.alloc_heap_new Y6 _)
       have s67 := g67.size
       have s6 := HBZ6.out.size
       have r7 : Y7.ownsRow (n2 + 7) 28 3 (.slice A9 hs.length c9) hs.length (hflat hs) := by rw [hY7]; exact own_alloc kZ6.1 _
       have bO7 := bO6.kept g67 (by simp)
       have bP7 := bP6.kept g67 (by simp)
       have hhl : hs.length ≤ 1000000 := by
        have h1 := (mkAll_ok l ctx pre).2.1
        have h2 := congrArg List.length HI.out.pl
        rw [List.length_map] at h2
        have := hfit.1
        have h5 := congrArg List.length HALL.out
        simp at h5
        omega
       have HY7 := Lib.hid hY7
       have HR7 := Lib.hid r7
       have HNW := Lib.hid nw7
       have HBO := Lib.hid bO7
       have HBP := Lib.hid bP7
       have HVB := Lib.hid vb
       have HG67 := Lib.hid g67
       clear hY7 r7 nw7 bO7 bP7 vb g67 kZ6 up bO6 bP6
       gi_wp2_with (first | rw [← HY7.out] | (gi_at_builtin; refine wpListIn_plain rfl fun K hK => ?_; refine Held.append_at (.tmp 55) (.tmp 57) 22 rfl (n2 + 7) 28 (.agg #[.int .i64 0, .int .i64 0, .slice none 0 0]) 3 40 Try.underlying22 info28 rfl (by omega) (.slice A9 hs.length c9) hs.length (hflat hs) rfl HR7.out ⟨Y6.heap.size, 0, none⟩ 1 1 [.int .i64 fr, .int .i64 tt, .slice A5 ((keptE ah).length + 1) c5] rfl rfl HNW.out ?oc ?o63 ?oby ?oba ?_; (case oc => intro u hu; simp at hu; rcases hu with rfl | rfl | rfl <;> rfl); (case o63 => simp only [maxLen]; omega); (case oby => omega); (case oba => omega); intro v9 w7 hown9 hgr9 hat9; obtain ⟨A10, c10, rfl⟩ := own_slice hown9; have b7 := HBO.out.kept hgr9 (fun e => by have := HVB.out _ e.symm; omega); have b8 := HBP.out.kept hgr9 (fun e => by have := HVB.out _ e.symm; omega); have l0 := b7.cell; have l1 := b7.frozen; have l2 := b8.cell; have l3 := b8.frozen; have HO9 := Lib.hid hown9; have HG9 := Lib.hid hgr9; clear hown9 hgr9 hat9; refine hK _ _ ?_; clear hK K))
       have FF := fun a => fin_push (x := x) (h := ⟨fr, tt, .slice A5 ((keptE ah).length + 1) c5, keptE ah ++ [⟨E.f0, E.f1, .slice AL E.f2.length cL, E.f2⟩]⟩) HI.out hn hb hbW (by omega) (Nat.le_refl _) HGZ.out HBZ.out ((HBZ6.out.grown HG67.out s6 (fun k e => by cases e))) (Scr.other HS10.out HG67.out (fun k _ e => by cases e) (fun _ _ k _ e => by cases e)) HFR9.out HO9.out HG9.out (by
        have e0 : mkAll l ctx (pre ++ [x]) = mkStep l ctx (mkAll l ctx pre) x := by unfold mkAll; rw [List.foldl_append]; rfl
        rw [e0, ← HST.out]
        unfold mkStep
        rw [← HEE.out, if_neg (fun hh => K1.out hh.1), if_neg (fun hh => K1.out hh.1), if_neg (by rw [ho]; simp), ← HEP1.out, ← HEP2.out, ← HAH.out, ← HFR.out, ← HTT.out]
        simp [Hd.plain, keptE_plain, Ed.plain]) a
       rw [show n2 + 3 + 1 = W4.heap.size by omega] at FF
       exact FF _
      ·go_simp
       have hS2 := hS.grown (World.grownBy_alloc Z (.cells #[.int .i64 0, .int .i64 0, .slice none 0 0] 28) none) (fun b hb => ⟨HHZ.out b hb, by simp⟩)
       refine hK.out _ _ (fun _ => hS2) ?_
       clear hK K
       try simp only [Act.put, List.setIfInBounds_toArray, List.set_cons_zero, List.set_cons_succ]
       refine Held.AnyS.step (i := 9) rfl (by kernel_rfl) rfl (fun K hK => ?_)
       go_simp
       refine ⟨trivial, ?_⟩
       refine ((callsIn_wide.2 CK2.out).inRound l').mono ?_
       rintro e Y ⟨X, cX, rfl, hSX, hsrc, hbY⟩
       have hS3 := hS2.below hbY HHZ.out
       refine hK.out _ _ (fun _ => hS3) ?_
       clear hK K
       try simp only [Act.put, List.setIfInBounds_toArray, List.set_cons_zero, List.set_cons_succ]
       refine Held.tk (i := 10) rfl hS3 ?_
       try simp only [Act.put, List.setIfInBounds_toArray, List.set_cons_zero, List.set_cons_succ]
       obtain ⟨q, hq⟩ : ∃ q, q = Z.heap.size := ⟨_, rfl⟩
       obtain ⟨Y2, hY2⟩ : ∃ Y2, Y2 = Y := ⟨_, rfl⟩
       have hqY : Y2.heap[q]? = some (.cells #[.int .i64 0, .int .i64 0, .slice none 0 0] 28) := by rw [hY2, hq]; exact (hbY.block _ (by simp)).trans (World.alloc_heap_new Z _)
       have bZ2 : Below Z.heap.size Z Y2 := by rw [hY2]; exact ((Below.refl _ _).alloc (Nat.le_refl _) _).trans (hbY.mono (by simp))
       have hqZ : Z.heap.size ≤ q := by rw [hq]; exact Nat.le_refl _
       have SX : Scr Z.heap.size Y2 (.slice X (keptE ah).length cX) (keptE ah) := by rw [hY2]; exact Scr.low hSX (by simp)
       rw [← hY2] at hS3 ⊢
       rw [← hq]
       clear hbY hSX hsrc hq hY2 hS2
       have u0 : Y2.cell? ⟨q, 0, none⟩ = some (.int .i64 0) := by simp [World.cell?, hqY]
       have u1 : Y2.cell? ⟨q, 1, none⟩ = some (.int .i64 0) := by simp [World.cell?, hqY]
       have u2 : Y2.cell? ⟨q, 2, none⟩ = some (.slice none 0 0) := by simp [World.cell?, hqY]
       have u3 : Y2.frozen? ⟨q, 0, none⟩ = false := by simp [World.frozen?, hqY]
       have u4 : Y2.frozen? ⟨q, 1, none⟩ = false := by simp [World.frozen?, hqY]
       have u5 : Y2.frozen? ⟨q, 2, none⟩ = false := by simp [World.frozen?, hqY]
       obtain ⟨Y4, hY4⟩ : ∃ Y4, Y4 = ((Y2.setCell ⟨q, 0, none⟩ (.int .i64 fr)).setCell ⟨q, 1, none⟩ (.int .i64 tt)).setCell ⟨q, 2, none⟩ (.slice X (keptE ah).length cX) := ⟨_, rfl⟩
       have e1 := blk_set hqY 0 (.int .i64 fr)
       have e2 := blk_set e1 1 (.int .i64 tt)
       have e3 := blk_set e2 2 (.slice X (keptE ah).length cX)
       rw [← hY4] at e3
       have q4' : Y4.heap[q]? = some (.cells #[.int .i64 fr, .int .i64 tt, .slice X (keptE ah).length cX] 28) := e3
       have SX4 : Scr Z.heap.size Y4 (.slice X (keptE ah).length cX) (keptE ah) := by rw [hY4]; exact scr_far (scr_far (scr_far SX hqY 0 _) e1 1 _) e2 2 _
       have bZ4 : Below Z.heap.size Z Y4 := by rw [hY4]; exact ((bZ2.setCell hqZ _).setCell hqZ _).setCell hqZ _
       have HY4 := Lib.hid hY4
       have HQ4 := Lib.hid q4'
       have HSX4 := Lib.hid SX4
       have HBZ4 := Lib.hid bZ4
       clear e1 e2 e3 hY4 q4' SX4 bZ4 hqY SX bZ2
       refine Held.AnyS.step (i := 12) rfl (by kernel_rfl) rfl (fun K hK => ?_)
       go_simp
       rw [← HY4.out]
       refine hK.out _ _ (fun h => absurd h (by omega)) ?_
       clear hK K u0 u1 u2 u3 u4 u5 hS3 hS
       refine Held.AnyS.done (by kernel_rfl) ?_ _
       go_simp
       gi_wp2
       obtain ⟨Z2, hZ2⟩ : ∃ Z2, Z2 = Y4.drew := ⟨_, rfl⟩
       have hZh : Z2.heap = Y4.heap := by rw [hZ2]; rfl
       have q5 : Z2.heap[q]? = some (.cells #[.int .i64 fr, .int .i64 tt, .slice X (keptE ah).length cX] 28) := by rw [hZh]; exact HQ4.out
       have bZ5 : Below Z.heap.size Z Z2 := by rw [hZ2]; exact HBZ4.out.drew
       have SX5 : Scr Z.heap.size Z2 (.slice X (keptE ah).length cX) (keptE ah) := by rw [hZ2]; exact HSX4.out
       have hp1lt : p + 1 < W.heap.size := (Array.getElem?_eq_some_iff.1 HP2.out).1
       have sWZ := HGZ.out.size
       have sZ5 := bZ5.size
       have hcell : ∀ o, Z2.cell? ⟨p + 1, o, none⟩ = W.cell? ⟨p + 1, o, none⟩ := fun o => World.cell?_of_block (w := W) ((bZ5.block (p + 1) (by omega)).trans (HGZ.out.block (p + 1) hp1lt (by simp; omega)))
       have x0 : Z2.cell? ⟨q, 2, none⟩ = some (.slice X (keptE ah).length cX) := by simp [World.cell?, q5]
       have x1 : Z2.cell? ⟨p + 1, 0, none⟩ = some (.int .i64 E.f0) := (hcell 0).trans r0
       have x2 : Z2.cell? ⟨p + 1, 1, none⟩ = some (.int .i64 E.f1) := (hcell 1).trans r1
       have x3 : Z2.cell? ⟨p + 1, 2, none⟩ = some (.slice A2 E.f2.length c2) := (hcell 2).trans r2
       have hzz : ∀ b ∈ [q, p + 1], b < Z2.heap.size := by
        intro b hb'
        simp at hb'
        rcases hb' with rfl | rfl
        ·exact blk_lt q5
        ·omega
       have hsz := HI.out.bel.size
       have bWZ : Below w.heap.size w Z2 := (HI.out.bel.grown HGZ.out hsz (fun k e => by cases e; omega)).trans (bZ5.mono (by omega))
       have hCZ := Kd.C_below hi2 bWZ
       have hEl : E.f2.length ≤ 1048576 := by
        have := hfit.2 E (by rw [HEE.out]; simp [rd_T31, List.getD_eq_getElem?_getD, List.getElem?_eq_getElem hxl])
        exact this.2.2
       have hfo : hunks_owned_string.f E.f2 = some E.f2 := by unfold hunks_owned_string.f; rw [if_pos (by simp; omega)]; rfl
       have CO := Lib.hid (hunks_owned_string.calls A2 c2 E.f2 E.f2 Z2 hCZ hl2 hfo)
       have HZ2 := Lib.hid hZ2
       have HHZZ := Lib.hid hzz
       have HSX5 := Lib.hid SX5
       have HBZ5 := Lib.hid bZ5
       have HQ5 := Lib.hid q5
       have hkl := keptE_len ah
       clear hZ2 hZh hcell hfo hCZ bWZ hzz SX5 bZ5 q5 HQ4 HSX4 HBZ4
       refine Held.region 12 (Held.Same Z2 [q, p + 1]) (by kernel_rfl) ?_
       rw [← HZ2.out]
       have hT := Held.Same.refl Z2 [q, p + 1]
       refine Held.tk (i := 0) rfl hT ?_
       try simp only [Act.put, List.setIfInBounds_toArray, List.set_cons_zero, List.set_cons_succ]
       refine Held.tk (i := 1) rfl hT ?_
       try simp only [Act.put, List.setIfInBounds_toArray, List.set_cons_zero, List.set_cons_succ]
       refine Held.tk (i := 2) rfl hT ?_
       try simp only [Act.put, List.setIfInBounds_toArray, List.set_cons_zero, List.set_cons_succ]
       refine Held.tk (i := 3) rfl hT ?_
       try simp only [Act.put, List.setIfInBounds_toArray, List.set_cons_zero, List.set_cons_succ]
       refine Held.tk (i := 4) rfl hT ?_
       try simp only [Act.put, List.setIfInBounds_toArray, List.set_cons_zero, List.set_cons_succ]
       refine Held.tk (i := 5) rfl hT ?_
       try simp only [Act.put, List.setIfInBounds_toArray, List.set_cons_zero, List.set_cons_succ]
       refine Held.tk (i := 6) rfl hT ?_
       try simp only [Act.put, List.setIfInBounds_toArray, List.set_cons_zero, List.set_cons_succ]
       refine Held.tk (i := 7) rfl hT ?_
       try simp only [Act.put, List.setIfInBounds_toArray, List.set_cons_zero, List.set_cons_succ]
       refine Held.AnyS.step (i := 8) rfl (by kernel_rfl) rfl (fun K hK => ?_)
       go_simp
       refine ⟨trivial, ?_⟩
       refine ((callsIn_wide.2 CO.out).inRound l').mono ?_
       rintro e Y5 ⟨vL, rfl, hRL, hbY5⟩
       obtain ⟨AL, cL, rfl⟩ := Kd.R_slice hRL
       have hT2 := hT.below hbY5 HHZZ.out
       have HRL := Lib.hid hRL
       have HBY5 := Lib.hid hbY5
       clear hRL hbY5
       refine hK.out _ _ (fun _ => hT2) ?_
       clear hK K
       try simp only [Act.put, List.setIfInBounds_toArray, List.set_cons_zero, List.set_cons_succ]
       refine Held.tk (i := 9) rfl hT2 ?_
       try simp only [Act.put, List.setIfInBounds_toArray, List.set_cons_zero, List.set_cons_succ]
       refine Held.AnyS.step (i := 10) rfl (by kernel_rfl) rfl (fun K hK => ?_)
       go_simp
       have hT3 := hT2.grown (World.grownBy_alloc Y5 (.cells #[.int .i64 E.f0, .int .i64 E.f1, .slice AL E.f2.length cL] 31) none) (fun b hb => ⟨HHZZ.out b hb, by simp⟩)
       refine hK.out _ _ (fun _ => hT3) ?_
       clear hK K
       try simp only [Act.put, List.setIfInBounds_toArray, List.set_cons_zero, List.set_cons_succ]
       obtain ⟨w2, hw2⟩ : ∃ w2, w2 = Y5.alloc (.cells #[.int .i64 E.f0, .int .i64 E.f1, .slice AL E.f2.length cL] 31) := ⟨_, rfl⟩
       have b52 : Below Z2.heap.size Z2 w2 := by rw [hw2]; exact HBY5.out.alloc HBY5.out.size _
       have nw : ∀ j u, [Value.int .i64 E.f0, .int .i64 E.f1, .slice AL E.f2.length cL][j]? = some u → w2.cell? ((⟨Y5.heap.size, 0, none⟩ : Addr).add j) = some u := by
        rw [hw2]
        simpa using World.news_of_block (cs := #[Value.int .i64 E.f0, .int .i64 E.f1, .slice AL E.f2.length cL]) (t := 31) (fr := (0, 0)) (World.alloc_heap_new Y5 _)
       have bIlt := HBZ.out.lt
       have nZ7 : n2 + 7 ≤ Z.heap.size := by omega
       have lns : Lns (n2 + 7) w2 (.slice AL E.f2.length cL) E.f2 := by
        rw [hw2]
        exact own_alloc (own_less (Kd.own_of_R HRL.out) (by omega)) _
       have S2 : Scr (n2 + 7) w2 (.slice X (keptE ah).length cX) (keptE ah) := Scr.low (Scr.below HSX5.out b52) nZ7
       have own3 : ∀ b ∈ [q, p + 1], some b ≠ (Value.slice X (keptE ah).length cX).ownBlock := by
        intro b hb' e
        simp at hb'
        rcases hb' with rfl | rfl
        ·obtain ⟨cs, hcs⟩ := own_typed HSX5.out.1 b e.symm
         rw [HQ5.out] at hcs
         injection hcs with hcs
         injection hcs with _ hcs _
         exact absurd hcs (by decide)
        ·have := own_base HSX5.out.1 _ e.symm
         omega
       rw [← hw2] at hT3 ⊢
       have s52 := b52.size
       clear hw2
       refine Held.AnyS.step (i := 11) rfl (by kernel_rfl) rfl (fun K hK => ?_)
       refine Held.append_at (.tmp 43) (.tmp 52) 26 rfl (n2 + 7) 31 (.agg #[.int .i64 0, .int .i64 0, .slice none 0 0]) 3 40 Try.underlying26 info31 rfl (by omega) (.slice X (keptE ah).length cX) (keptE ah).length (flat (keptE ah)) rfl S2.1 ⟨Y5.heap.size, 0, none⟩ 1 1 [.int .i64 E.f0, .int .i64 E.f1, .slice AL E.f2.length cL] rfl rfl nw ?_ ?_ ?_ ?_ ?_
       ·intro u hu; simp at hu; rcases hu with rfl | rfl | rfl <;> rfl
       ·simp only [maxLen]; omega
       ·omega
       ·omega
       intro v1 w1 hown hgr hat
       obtain ⟨A5, c5, rfl⟩ := own_slice hown
       have hT4 : Held.Same Z2 [q, p + 1] w1 := hT3.grown hgr (fun b hb => ⟨HHZZ.out b hb, own3 b hb⟩)
       have q6 : w1.heap[q]? = some (.cells #[.int .i64 fr, .int .i64 tt, .slice X (keptE ah).length cX] 28) := (hT4 q (by simp)).trans HQ5.out
       have S9 : Scr (n2 + 7) w1 (.slice A5 ((keptE ah).length + 1) c5) (keptE ah ++ [⟨E.f0, E.f1, .slice AL E.f2.length cL, E.f2⟩]) := Scr.add S2 hown hgr (fun e he => by rw [List.mem_singleton.1 he]; exact lns) (fun e' he' e he k hk => by rw [(keptE_own _ e' he').1] at hk; cases hk) (List.pairwise_singleton _ _)
       have fr9 : ∀ k, Hd.has ⟨fr, tt, .slice A5 ((keptE ah).length + 1) c5, keptE ah ++ [⟨E.f0, E.f1, .slice AL E.f2.length cL, E.f2⟩]⟩ k → Z.heap.size ≤ k := by
        rintro k (hk | ⟨e, he, hk⟩)
        ·rcases hat with h1 | h1
         ·exact own_base HSX5.out.1 k (h1.symm.trans hk)
         ·have h2 := h1.symm.trans hk
          injection h2 with h2
          omega
        ·rcases List.mem_append.1 he with he | he
         ·rw [(keptE_own _ e he).1] at hk; cases hk
         ·rw [List.mem_singleton.1 he] at hk
          have := own_base (Kd.own_of_R HRL.out) k hk
          omega
       obtain ⟨Y6, hY6⟩ : ∃ Y6, Y6 = w1.setCell ⟨q, 2, none⟩ (.slice A5 ((keptE ah).length + 1) c5) := ⟨_, rfl⟩
       have q8 : Y6.heap[q]? = some (.cells #[.int .i64 fr, .int .i64 tt, .slice A5 ((keptE ah).length + 1) c5] 28) := by rw [hY6]; exact blk_set q6 2 _
       have S10 : Scr (n2 + 7) Y6 (.slice A5 ((keptE ah).length + 1) c5) (keptE ah ++ [⟨E.f0, E.f1, .slice AL E.f2.length cL, E.f2⟩]) := by rw [hY6]; exact scr_far S9 q6 2 _
       have bZ6 : Below Z.heap.size Z Y6 := by
        rw [hY6]
        exact (((HBZ5.out.trans (b52.mono sZ5)).grown hgr (by omega) (fun k e => own_base HSX5.out.1 k e)).setCell (p := ⟨q, 2, none⟩) hqZ _)
       have cw : w1.cell? ⟨q, 2, none⟩ = some (.slice X (keptE ah).length cX) := by simp [World.cell?, q6]
       have fw : w1.frozen? ⟨q, 2, none⟩ = false := by simp [World.frozen?, q6]
       have HY6 := Lib.hid hY6
       have HQ8 := Lib.hid q8
       have HS10 := Lib.hid S10
       have HBZ6 := Lib.hid bZ6
       have HFR9 := Lib.hid fr9
       clear hY6 q8 S10 bZ6 fr9 S9 q6 hown hgr hat S2 own3 nw lns b52
       refine hK.out _ _ (fun _ => hT4) ?_
       clear hK K
       try simp only [Act.put, List.setIfInBounds_toArray, List.set_cons_zero, List.set_cons_succ]
       refine Held.AnyS.step (i := 12) rfl (by kernel_rfl) rfl (fun K hK => ?_)
       go_simp
       refine hK.out _ _ (fun h => absurd h (by omega)) ?_
       clear hK K
       try simp only [Act.put, List.setIfInBounds_toArray, List.set_cons_zero, List.set_cons_succ]
       refine Held.AnyS.step (i := 13) rfl (by kernel_rfl) rfl (fun K hK => ?_)
       go_simp
       rw [← HY6.out]
       refine hK.out _ _ (fun h => absurd h (by omega)) ?_
       clear hK K hT hT2 hT3 hT4 cw fw
       refine Held.AnyS.done (by kernel_rfl) ?_ _
       go_simp
       have kZ6 : Hks (n2 + 7) Y6 (.slice A9 hs.length c9) hs := (HI.out.hk.other HGZ.out (fun k e hh => by cases e; have := (HI.out.hk.typed hh).1; omega)).below HBZ6.out
       have vb : ∀ k, (Value.slice A9 hs.length c9).ownBlock = some k → n2 + 7 ≤ k := fun k hk => (HI.out.hk.typed (.inl hk)).1
       have nW := HI.out.sz
       have up : ∀ {B t u}, B < n2 + 4 → B ≠ n2 + 1 + 1 → Boxed W B t u → Boxed Y6 B t u := fun h1 h2 hB => (HBZ6.out.block _ (by omega)).trans ((HGZ.out.block _ hB.lt (by simp; omega)).trans hB)
       have bO6 := up (by omega) (by omega) HI.out.bO
       have bP6 : Boxed Y6 (n2 + 1) 4 (.bool false) := by
        have h1 := up (by omega) (by omega) HI.out.bP
        rw [← HST.out, ho] at h1
        exact h1
       have j0 := bO6.cell
       have j1 : Y6.cell? ⟨q, 0, none⟩ = some (.int .i64 fr) := by simp [World.cell?, HQ8.out]
       have j2 : Y6.cell? ⟨q, 1, none⟩ = some (.int .i64 tt) := by simp [World.cell?, HQ8.out]
       have j3 : Y6.cell? ⟨q, 2, none⟩ = some (.slice A5 ((keptE ah).length + 1) c5) := by simp [World.cell?, HQ8.out]
       obtain ⟨Y7, hY7⟩ : ∃ Y7, Y7 = Y6.alloc (.cells #[.int .i64 fr, .int .i64 tt, .slice A5 ((keptE ah).length + 1) c5] 28) := ⟨_, rfl⟩
       have g67 : Y6.grownBy Y7 none := by rw [hY7]; exact World.grownBy_alloc _ _ _
       have nw7 : ∀ j u, [Value.int .i64 fr, .int .i64 tt, .slice A5 ((keptE ah).length + 1) c5][j]? = some u → Y7.cell? ((⟨Y6.heap.size, 0, none⟩ : Addr).add j) = some u := by
        rw [hY7]
        simpa using World.news_of_block (cs := #[Value.int .i64 fr, .int .i64 tt, .slice A5 ((keptE ah).length + 1) c5]) (t := 28) (fr := (0, 0)) (World.alloc_heap_new Y6 _)
       have s67 := g67.size
       have s6 := HBZ6.out.size
       have r7 : Y7.ownsRow (n2 + 7) 28 3 (.slice A9 hs.length c9) hs.length (hflat hs) := by rw [hY7]; exact own_alloc kZ6.1 _
       have bO7 := bO6.kept g67 (by simp)
       have bP7 := bP6.kept g67 (by simp)
       have hhl : hs.length ≤ 1000000 := by
        have h1 := (mkAll_ok l ctx pre).2.1
        have h2 := congrArg List.length HI.out.pl
        rw [List.length_map] at h2
        have := hfit.1
        have h5 := congrArg List.length HALL.out
        simp at h5
        omega
       have HY7 := Lib.hid hY7
       have HR7 := Lib.hid r7
       have HNW := Lib.hid nw7
       have HBO := Lib.hid bO7
       have HBP := Lib.hid bP7
       have HVB := Lib.hid vb
       have HG67 := Lib.hid g67
       clear hY7 r7 nw7 bO7 bP7 vb g67 kZ6 up bO6 bP6
       gi_wp2_with (first | rw [← HY7.out] | (gi_at_builtin; refine wpListIn_plain rfl fun K hK => ?_; refine Held.append_at (.tmp 55) (.tmp 57) 22 rfl (n2 + 7) 28 (.agg #[.int .i64 0, .int .i64 0, .slice none 0 0]) 3 40 Try.underlying22 info28 rfl (by omega) (.slice A9 hs.length c9) hs.length (hflat hs) rfl HR7.out ⟨Y6.heap.size, 0, none⟩ 1 1 [.int .i64 fr, .int .i64 tt, .slice A5 ((keptE ah).length + 1) c5] rfl rfl HNW.out ?oc ?o63 ?oby ?oba ?_; (case oc => intro u hu; simp at hu; rcases hu with rfl | rfl | rfl <;> rfl); (case o63 => simp only [maxLen]; omega); (case oby => omega); (case oba => omega); intro v9 w7 hown9 hgr9 hat9; obtain ⟨A10, c10, rfl⟩ := own_slice hown9; have b7 := HBO.out.kept hgr9 (fun e => by have := HVB.out _ e.symm; omega); have b8 := HBP.out.kept hgr9 (fun e => by have := HVB.out _ e.symm; omega); have l0 := b7.cell; have l1 := b7.frozen; have l2 := b8.cell; have l3 := b8.frozen; have HO9 := Lib.hid hown9; have HG9 := Lib.hid hgr9; clear hown9 hgr9 hat9; refine hK _ _ ?_; clear hK K))
       have FF := fun a => fin_push (x := x) (h := ⟨fr, tt, .slice A5 ((keptE ah).length + 1) c5, keptE ah ++ [⟨E.f0, E.f1, .slice AL E.f2.length cL, E.f2⟩]⟩) HI.out hn hb hbW (by omega) (Nat.le_refl _) HGZ.out HBZ.out ((HBZ6.out.grown HG67.out s6 (fun k e => by cases e))) (Scr.other HS10.out HG67.out (fun k _ e => by cases e) (fun _ _ k _ e => by cases e)) HFR9.out HO9.out HG9.out (by
        have e0 : mkAll l ctx (pre ++ [x]) = mkStep l ctx (mkAll l ctx pre) x := by unfold mkAll; rw [List.foldl_append]; rfl
        rw [e0, ← HST.out]
        unfold mkStep
        rw [← HEE.out, if_neg (fun hh => K1.out hh.1), if_neg (fun hh => K1.out hh.1), if_neg (by rw [ho]; simp), ← HEP1.out, ← HEP2.out, ← HAH.out, ← HFR.out, ← HTT.out]
        simp [Hd.plain, keptE_plain, Ed.plain]) a
       rw [show n2 + 3 + 1 = W4.heap.size by omega] at FF
       exact FF _
  ·cases h
 ·rw [if_neg hcond] at h
  obtain rfl := Option.some.inj h
  cases rt with
  | false =>
   gi_wp2_with (first | rw [← HW1.out] | (refine ⟨trivial, ?_⟩; gi_at_call 31; refine CT.out.mono ?_; rintro e W2 ⟨rfl, hb2⟩; obtain ⟨kS, kC, kO⟩ := KEY.out W2 hb2; have qS := kS.cell; have qC := kC.cell; have qO := kO.cell; have qF := kO.frozen))
   have hv1 := kO.set (.slice none 0 0)
   have hcell := hv1.cell
   have belW : Below w.heap.size w W2 := bel1.trans (hb2.mono (by omega))
   refine ⟨.tuple #[.slice none 0 0, .int .i64 1], by simp [results, Try.results12, go_sem, hcell], _, rfl, [], Hks.nil _ _, rfl, belW.setCell (by simp; omega) _⟩
  | true =>
   by_cases c1 : ctx < 0
   ·have d1 : decide (ctx < 0) = true := decide_eq_true c1
    clear hcond
    gi_wp2_with (first | rw [← HW1.out] | (refine ⟨trivial, ?_⟩; gi_at_call 31; refine CT.out.mono ?_; rintro e W2 ⟨rfl, hb2⟩; obtain ⟨kS, kC, kO⟩ := KEY.out W2 hb2; have qS := kS.cell; have qC := kC.cell; have qO := kO.cell; have qF := kO.frozen))
    have hv1 := kO.set (.slice none 0 0)
    have hcell := hv1.cell
    have belW : Below w.heap.size w W2 := bel1.trans (hb2.mono (by omega))
    refine ⟨.tuple #[.slice none 0 0, .int .i64 1], by simp [results, Try.results12, go_sem, hcell], _, rfl, [], Hks.nil _ _, rfl, belW.setCell (by simp; omega) _⟩
   ·have d1 : decide (ctx < 0) = false := decide_eq_false c1
    have c2 : 100 < ctx := Int.not_le.1 (fun hle => hcond ⟨rfl, by omega, hle⟩)
    have d2 : decide (100 < ctx) = true := decide_eq_true c2
    have d3 : decide (ctx > 100) = true := d2
    clear hcond
    gi_wp2_with (first | rw [← HW1.out] | (refine ⟨trivial, ?_⟩; gi_at_call 31; refine CT.out.mono ?_; rintro e W2 ⟨rfl, hb2⟩; obtain ⟨kS, kC, kO⟩ := KEY.out W2 hb2; have qS := kS.cell; have qC := kC.cell; have qO := kO.cell; have qF := kO.frozen))
    have hv1 := kO.set (.slice none 0 0)
    have hcell := hv1.cell
    have belW : Below w.heap.size w W2 := bel1.trans (hb2.mono (by omega))
    refine ⟨.tuple #[.slice none 0 0, .int .i64 1], by simp [results, Try.results12, go_sem, hcell], _, rfl, [], Hks.nil _ _, rfl, belW.setCell (by simp; omega) _⟩
end Go.Proofs.Ytgobidmfbjmpkaa.Iter
end
section
set_option linter.unusedVariables false
namespace Go.Proofs.Ytgobidmfbjmpkaa.P
open Go Go.RowKit Go.Proofs.YtgobidmfbjmpkaaW.PrintWords Go.Proofs.YtgobidmfbjmpkaaW.PrintLast Go.Proofs.YtgobidmfbjmpkaaW.PrintMore Go.Proofs.Ytgobidmfbjmpkaa.HEdits Go.Proofs.Ytgobidmfbjmpkaa.HHunks
def hunks_Make.f (k : Nat) (l : List S31) (ctx : Int) : Option (List S28 × Int) := Iter.hunks_Make.f k l ctx
theorem hunks_Make.calls (k : Nat) (A0 : Option Addr) (c0 : Nat) (l0 : List S31) (a1 : Int) (r1 : List S28) (r2 : Int) (w : World) (hr0 : Kd.C k31 w A0 l0.length l0) (hc0 : l0.length ≤ c0) (h : hunks_Make.f k l0 a1 = some (r1, r2)) :
  Calls Try.prog 12 #[.slice A0 l0.length c0, .int .i64 a1] w fun e w' => ∃ v0_ : Value, e = .returned (.tuple #[v0_, .int .i64 r2]) ∧ Kd.R k28 28 w' w.heap.size (fun _ => True) v0_ r1 ∧ Below w.heap.size w w' := by
 refine (Iter.make_run k A0 c0 l0 a1 (r1, r2) w hr0 hc0 h).mono ?_
 rintro e w' ⟨v, hs, he, hk, hp, hb⟩
 exact ⟨v, he, by have := hk.toS; rw [hp] at this; exact Kd.S_R this, hb⟩
end Go.Proofs.Ytgobidmfbjmpkaa.P
end
end
