/- Texts of this claim, joined: GRng, GHk, EDef6, ERightS, HShr, Pxf34. -/
import Derived.RangeFuncNested
import Derived.RangeFuncBound
import Derived.Test.YtgobidmfbjmpkaaMHunksTells1
import Derived.RangeFuncCalls
import Derived.RangeFuncLeaves
import Derived.Shelf.Abstract
import Derived.Shelf.RegionOpen
import Derived.WalkKit
import Derived.OwnWalkIn
import Derived.TacticsInMore
import Derived.LoopNIn
import Derived.LoopIn
import Derived.Maps.AppendAt
import Derived.RangeFuncBox
import Derived.IntWalk
import Derived.Lib.Hide
import Derived.Outline
section
/- A range over a function whose iterator keeps state of its own in one block of cells, and lays a new block ahead of each round (e), which the round must leave as it is. · hunks.parts: the iterator over a script's edits, with how many lines stand ahead on both sides: its promise. -/
section
set_option linter.unusedVariables false
namespace Go.Proofs.Ytgobidmfbjmpkaa.Rng2
open Go Go.RowKit
/-- I minds neither new blocks, nor a turn of the iterator's block st, nor of a block from B on that holds no cells. -/
def Bides {β : Type} (B st : Nat) (I : β → World → Prop) : Prop :=
 ∀ s X Y row, I s X → X.grownBy Y row → (∀ r, row = some r → r = st ∨ (B ≤ r ∧ ∃ o : Obj, X.heap[r]? = some o ∧ o.isCells = false)) → I s Y
theorem Bides.alloc {β : Type} {B st : Nat} {I : β → World → Prop} (h : Bides B st I) {s : β} {W : World} (o : Obj) (hs : I s W) : I s (W.alloc o) :=
 h s W _ none hs (World.grownBy_alloc W o none) (fun r e => by cases e)
theorem Bides.put {β : Type} {B st : Nat} {I : β → World → Prop} (h : Bides B st I) {s : β} {W : World} {l : Nat} {o : Obj} (o' : Obj) (hs : I s W) (hB : B ≤ l) (hl : W.heap[l]? = some o) (ho : o.isCells = false) : I s (W.putObj l o') :=
 h s W _ (some l) hs (grownBy_putObj' W l o') (fun r e => by cases e; exact .inr ⟨hB, o, hl, ho⟩)
/-- What an iterator promises: all comes, in its order, or the rounds have said 'no more'. st: its own block, by the heap's size at its call. -/
def Seq {α : Type} (F : Fence) (n : Nat) (P : Program) (g : Nat) (lb : Array Value) (encs : α → Array Value) (st : Nat → Nat) (Kp : Nat → Nat → World → World → Prop) (all : List α) (w : World) : Prop :=
 ∀ (l : Nat) (J Jx : List α → World → Prop) (W : World), Below w.heap.size w W →
  (∀ s X Y row, J s X → X.grownBy Y row → (∀ r, row = some r → r = st W.heap.size) → J s Y) →
  (∀ s X Y row, Jx s X → X.grownBy Y row → (∀ r, row = some r → r = st W.heap.size) → Jx s Y) →
  (∀ pre x post X0 X b, all = pre ++ x :: post → J pre X0 → X0.grownBy X none → X0.heap.size ≤ b → b < X.heap.size → YieldAt F (n - 1) P l (encs x) X fun e Y =>
   (e = .returned (.bool true) ∧ J (pre ++ [x]) Y ∧ Kp W.heap.size b X Y) ∨ (e = .returned (.bool false) ∧ Jx (pre ++ [x]) Y)) →
  J [] W →
  CallsIn F n P g (#[.func (.yield l) #[] #[]] ++ lb) W fun e Y => (∃ v, e = .returned v) ∧ (J all Y ∨ ∃ pre, pre <+: all ∧ Jx pre Y)
/-- How a round's body may be left. -/
def Left {α : Type} (B : Nat) (Kp : World → World → Prop) (I : List α → World → Prop) (Ix : Code → List α → World → Prop) (xs : List α) (W : World) : Exit → Act → World → Prop
 | .normal, _, Y => KeepsFrom B W Y ∧ Kp W Y ∧ I xs Y
 | .ret, _, Y => KeepsFrom B W Y ∧ Ix .ret xs Y
 | .exit id, _, Y => KeepsFrom B W Y ∧ Ix (.exit id) xs Y
 | .goto t, _, Y => KeepsFrom B W Y ∧ Ix (.goto t) xs Y
 | .panic _, _, _ => False
 | .outgrown, _, _ => False
variable {F : Fence} {n : Nat} {P : Program}
set_option maxHeartbeats 1000000 in
/-- The statement: by the iterator's promise, an invariant I between two rounds, Ix behind a jump, and one walk of the body. -/
theorem range {α : Type} {g : Operand} {ps : Array Tmp} {assign body : Code} {Q : Exit → Act → World → Prop} {a : Act} {w w0 : World} {gf : Nat} {lb : Array Value} {encs : α → Array Value} {st : Nat → Nat} {Kp : Nat → Nat → World → World → Prop} {all : List α}
  (hro : F.round = none) (h1 : 1 ≤ n) (hg : a.eval g = .func (.func gf) #[] lb) (hFg : F.fn gf) (eg : ∀ args w, (callFunc gf args).run P w = .ok (.enter gf args) w)
  (hseq : Seq F (n - 1) P gf lb encs st Kp all w0) (hb0 : Below w0.heap.size w0 w) (hps : ∀ x, (encs x).size = ps.size)
  (hst : st (w.heap.size + 2) ≠ w.heap.size ∧ st (w.heap.size + 2) ≠ w.heap.size + 1)
  (hKt : ∀ {b : Nat} {X Y Z : World}, Kp (w.heap.size + 2) b X Y → Kp (w.heap.size + 2) b Y Z → Kp (w.heap.size + 2) b X Z)
  (hKb : ∀ (b : Nat) (W : World) (l : Nat) (o' : Obj), w.heap.size + 2 ≤ b → (l = w.heap.size ∨ l = w.heap.size + 1) → l < W.heap.size → Kp (w.heap.size + 2) b W (W.putObj l o'))
  (I : List α → World → Prop) (Ie : Nat → List α → World → Prop) (Ix : Code → List α → World → Prop) (hI : Bides w.heap.size (st (w.heap.size + 2)) I) (hIe : ∀ b, Bides w.heap.size (st (w.heap.size + 2)) (Ie b)) (hfresh : ∀ pre X Y b, I pre X → X.grownBy Y none → X.heap.size ≤ b → b < Y.heap.size → Ie b pre Y) (hIx : ∀ c, Bides w.heap.size (st (w.heap.size + 2)) (Ix c)) (h0 : I [] w)
  (Ax : Nat → α → Act → World → Prop) (hAx : ∀ b x a', Bides w.heap.size (st (w.heap.size + 2)) (fun (_ : Unit) W => Ax b x a' W))
  (hassign : ∀ (b l : Nat) (pre : List α) (x : α) (post : List α) (W : World) (K : Act → World → Prop), w.heap.size + 2 ≤ b → all = pre ++ x :: post → Ie b pre W →
   (∀ a' Y, KeepsFrom w.heap.size W Y → Kp (w.heap.size + 2) b W Y → Ie b pre Y → Ax b x a' Y → K a' Y) →
   assign.wpIn (F.inRound l) (n - 1 - 1) P (Exit.then K (fun _ _ _ => False)) { tmps := (ps.zip (encs x)).foldl (fun t (p, v) => t.setIfInBounds p v) a.tmps, defers := [] } W)
  (hbody : ∀ (b l : Nat) (pre : List α) (x : α) (post : List α) (a' : Act) (W : World), w.heap.size + 2 ≤ b → w.heap.size ≤ l → (∃ r, W.heap[l]? = some (.loop r)) → w.heap.size + 1 < W.heap.size → all = pre ++ x :: post → Ie b pre W → Ax b x a' W →
   body.wpIn (F.inRound l) (n - 1 - 1) P (Left w.heap.size (Kp (w.heap.size + 2) b) I Ix (pre ++ [x]) W) a' W)
  (hdone : ∀ (W : World), I all W → W.heap[w.heap.size]? = some (.deferred (some [])) → Q .normal { a with defers := { target := .collected w.heap.size, args := #[] } :: a.defers } W)
  (hstop : ∀ (c : Code) (pre : List α) (W : World), pre <+: all → Ix c pre W → W.heap[w.heap.size]? = some (.deferred (some [])) → c.wpIn F n P Q { a with defers := { target := .collected w.heap.size, args := #[] } :: a.defers } W) :
  (Code.rangeFunc g ps assign body).wpIn F n P Q a w := by
 refine wpIn_rangeFunc fun fn hfn => ?_
 rw [hro]
 obtain ⟨B, hB⟩ : ∃ B, B = w.heap.size := ⟨_, rfl⟩
 rw [← hB] at hst hI hIx hAx hdone hstop
 simp only [← hB] at hKt hKb hIe hassign hbody
 obtain ⟨rc, hrc⟩ : ∃ rc : LoopState → Option Code → Loop, rc = fun s p => { state := s, pending := p, fn, tmps := a.tmps, params := ps, assign, body, defers := B } := ⟨_, rfl⟩
 obtain ⟨V, hV⟩ : ∃ V, (w.alloc (.deferred (some []))).alloc (.loop (rc .ready none)) = V := ⟨_, rfl⟩
 have sz : V.heap.size = B + 2 := by rw [← hV, hB]; simp
 have loopV : V.heap[B + 1]? = some (.loop (rc .ready none)) := by
  have h := World.alloc_heap_new (w.alloc (.deferred (some []))) (.loop (rc .ready none))
  rw [World.size_alloc, ← hB, hV] at h
  exact h
 have defV : V.heap[B]? = some (.deferred (some [])) := by
  rw [← hV, hB]
  exact (Below.heap_alloc _ _ _ (by simp)).trans (World.alloc_heap_new w _)
 have belV : Below w0.heap.size w0 V := by
  rw [← hV]
  exact hb0.trans ((((Below.refl _ w).alloc (Nat.le_refl _) _).alloc (by simp) _).mono hb0.size)
 have IV : I [] V := by rw [← hV]; exact hI.alloc _ (hI.alloc _ h0)
 have ctr := hseq (B + 1)
  (fun pre W => I pre W ∧ W.heap[B + 1]? = some (.loop (rc .ready none)) ∧ W.heap[B]? = some (.deferred (some [])))
  (fun pre W => ∃ c, Ix c pre W ∧ W.heap[B + 1]? = some (.loop (rc .done (some c))) ∧ W.heap[B]? = some (.deferred (some []))) V belV
 rw [sz] at ctr
 have stay : ∀ {X Y : World} {row : Option Nat} {k : Nat} {o : Obj}, (k = B ∨ k = B + 1) → X.grownBy Y row → (∀ r, row = some r → r = st (B + 2)) → X.heap[k]? = some o → Y.heap[k]? = some o := by
  intro X Y row k o hk hg hr ho
  refine (hg.block k (Array.getElem?_eq_some_iff.1 ho).1 fun e => ?_).trans ho
  have h2 := hr k e.symm
  rcases hk with rfl | rfl
  ·exact hst.1 h2.symm
  ·exact hst.2 h2.symm
 have hlB : B ≤ B + 1 := Nat.le_succ _
 refine ⟨B + 1, [{ target := .collected B, args := #[] }], V, { target := .fn (.func gf) lb, args := #[.func (.yield (B + 1)) #[] #[]] }, V, gf, #[.func (.yield (B + 1)) #[] #[]] ++ lb, V, ?_, ?_, ?_, ?_, fun _ => h1, ?_⟩
 ·rw [← hV, hrc, hB]
  exact run_enterLoop_outer _ _ _ _ _
 ·simp only [resolve, hg]
  simp [go_sem]
 ·intro f' hf'
  simp [Target.leads] at hf'
  subst hf'
  exact hFg
 ·simp [invoke, go_sem, eg]
 refine (ctr ?_ ?_ ?_ ⟨IV, loopV, defV⟩).mono ?_
 ·rintro s X Y row ⟨hi, hl, hd⟩ hg hr
  exact ⟨hI s X Y row hi hg (fun r e => .inl (hr r e)), stay (.inr rfl) hg hr hl, stay (.inl rfl) hg hr hd⟩
 ·rintro s X Y row ⟨c, hi, hl, hd⟩ hg hr
  exact ⟨c, hIx c s X Y row hi hg (fun r e => .inl (hr r e)), stay (.inr rfl) hg hr hl, stay (.inl rfl) hg hr hd⟩
 ·rintro pre x post X0 X b hall ⟨hi0, hl0, hd0⟩ hgX hb1 hb2
  have hi : Ie b pre X := hfresh pre X0 X b hi0 hgX hb1 hb2
  have hl := stay (.inr rfl) hgX (fun r e => by cases e) hl0
  have hd := stay (.inl rfl) hgX (fun r e => by cases e) hd0
  have hbB : B + 2 ≤ b := by have := (Array.getElem?_eq_some_iff.1 hl0).1; omega
  have hy := run_yield (P := P) (args := encs x) hl (by rw [hrc]; exact hps x)
  rw [hrc] at hy
  refine ⟨fn, _, assign, body, hy, roundIn_of_wpIn hfn (hassign b _ pre x post X _ hbB hall hi ?_)⟩
  intro a' Y kf kp hi' hax
  have hlY := kf.same _ _ (by omega) hl rfl
  have hdY := kf.same _ _ (by omega) hd rfl
  have ltY : B + 1 < Y.heap.size := (Array.getElem?_eq_some_iff.1 hlY).1
  refine ⟨_, run_beginRound hlY (by rw [hrc]), ?_⟩
  obtain ⟨Z, hZ⟩ : ∃ Z, Y.putObj (B + 1) (.loop { rc .ready none with state := .busy }) = Z := ⟨_, rfl⟩
  rw [hZ]
  have hlZ : Z.heap[B + 1]? = some (.loop { rc .ready none with state := .busy }) := by rw [← hZ]; exact World.putObj_heap_same ltY
  have hdZ : Z.heap[B]? = some (.deferred (some [])) := by rw [← hZ]; exact (World.putObj_heap_other (by omega)).trans hdY
  have iZ : Ie b pre Z := by rw [← hZ]; exact (hIe b).put _ hi' hlB hlY rfl
  have aZ : Ax b x a' Z := by rw [← hZ]; exact (hAx b x a').put (s := ()) _ hax hlB hlY rfl
  have kZ : Kp (B + 2) b X Z := by rw [← hZ]; exact hKt kp (hKb b Y _ _ hbB (.inr rfl) ltY)
  have ltZ : B + 1 < Z.heap.size := (Array.getElem?_eq_some_iff.1 hlZ).1
  refine wpIn_mono (hbody b _ pre x post a' Z hbB hlB ⟨_, hlZ⟩ ltZ hall iZ aZ) ?_
  have fin : ∀ (j : Option Code) (U : World), KeepsFrom B Z U → U.heap[B + 1]? = some (.loop { rc .ready none with state := .busy }) ∧
    (Instr.endRound (B + 1) j).run P U = .ok (.bool j.isNone) (U.putObj (B + 1) (.loop (rc (if j.isNone then .ready else .done) j))) ∧
    (U.putObj (B + 1) (.loop (rc (if j.isNone then .ready else .done) j))).heap[B + 1]? = some (.loop (rc (if j.isNone then .ready else .done) j)) ∧
    (U.putObj (B + 1) (.loop (rc (if j.isNone then .ready else .done) j))).heap[B]? = some (.deferred (some [])) := by
   intro j U kU
   have hlU := kU.same _ _ (by omega) hlZ rfl
   have hdU := kU.same _ _ (by omega) hdZ rfl
   have he := run_endRound (P := P) j hlU
   refine ⟨hlU, ?_, World.putObj_heap_same (Array.getElem?_eq_some_iff.1 hlU).1, (World.putObj_heap_other (by omega)).trans hdU⟩
   rw [hrc] at he ⊢
   exact he
  rintro e a3 U hp
  cases e with
  | normal =>
   obtain ⟨k3, kp3, i3⟩ := hp
   obtain ⟨hlU, he, h5, h6⟩ := fin none U k3
   refine ⟨_, _, he, .inl ⟨rfl, ⟨hI.put _ i3 hlB hlU rfl, h5, h6⟩, ?_⟩⟩
   exact hKt (hKt kZ kp3) (hKb b U _ _ hbB (.inr rfl) (Array.getElem?_eq_some_iff.1 hlU).1)
  | ret =>
   obtain ⟨k3, i3⟩ := hp
   obtain ⟨hlU, he, h5, h6⟩ := fin (some .ret) U k3
   exact ⟨_, _, he, .inr ⟨rfl, .ret, (hIx _).put _ i3 hlB hlU rfl, h5, h6⟩⟩
  | exit id =>
   obtain ⟨k3, i3⟩ := hp
   obtain ⟨hlU, he, h5, h6⟩ := fin (some (.exit id)) U k3
   exact ⟨_, _, he, .inr ⟨rfl, .exit id, (hIx _).put _ i3 hlB hlU rfl, h5, h6⟩⟩
  | goto t =>
   obtain ⟨k3, i3⟩ := hp
   obtain ⟨hlU, he, h5, h6⟩ := fin (some (.goto t)) U k3
   exact ⟨_, _, he, .inr ⟨rfl, .goto t, (hIx _).put _ i3 hlB hlU rfl, h5, h6⟩⟩
  | panic ch => exact hp.elim
  | outgrown => exact hp.elim
 ·rintro e U ⟨⟨v, rfl⟩, h⟩
  rcases h with ⟨hi, hl, hd⟩ | ⟨pre, hpre, c, hi, hl, hd⟩
  ·have he := run_endLoop (P := P) hl (by rw [hrc]; simp)
   rw [hrc] at he
   exact ⟨none, _, he, hdone _ (hI.put _ hi hlB hl rfl) ((World.putObj_heap_other (by omega)).trans hd)⟩
  ·have he := run_endLoop (P := P) hl (by rw [hrc]; simp)
   rw [hrc] at he
   exact ⟨some c, _, he, hstop c pre _ hpre ((hIx c).put _ hi hlB hl rfl) ((World.putObj_heap_other (by omega)).trans hd)⟩
end Go.Proofs.Ytgobidmfbjmpkaa.Rng2
end
section
set_option linter.unusedVariables false
set_option linter.unusedSimpArgs false
namespace Go.Proofs.Ytgobidmfbjmpkaa.Iter
open Go Go.RowKit Go.Shelf Go.Proofs.Ytgobidmfbjmpkaa.Rng2 Go.Proofs.Ytgobidmfbjmpkaa.P Go.Proofs.YtgobidmfbjmpkaaW.PrintWords Go.Proofs.YtgobidmfbjmpkaaW.PrintLast Go.Proofs.YtgobidmfbjmpkaaW.PrintMore
attribute [local go_sem] Oper.semAt_some
theorem w64 {x : Int} (h0 : -9223372036854775808 ≤ x) (h1 : x ≤ 9223372036854775807) : wrap64 x = x := by unfold wrap64; omega
set_option maxHeartbeats 1000000 in
theorem parts_in (F : Fence) (n : Nat) (hF : F.fn 32) (hro : F.round = none) (A : Option Addr) (m c : Nat) (w : World) :
  CallsIn F n Try.prog 32 #[.slice A m c] w fun e w' => e = .returned (.func (.func 55) #[] #[.pointer (some ⟨w.heap.size, 0, none⟩)]) ∧ w' = w.alloc (.cells #[.slice A m c] 26) := by
 refine callsIn_of_wp Try.func32 rfl hF ?_ hro
 simp only [Try.ntmps32, List.size_toArray, List.length_cons, List.length_nil, Nat.reduceAdd, Nat.reduceSub, Array.replicate_succ, Array.replicate_zero, List.push_toArray, List.append_toArray, List.nil_append, List.cons_append]
 gi_wp2
 go_ret
 exact ⟨rfl, rfl⟩
/-- How many lines the first edits stand for on the one side, and on the other. -/
def ahead1 (l : List S31) (i : Nat) : Int := ((l.take i).map fun x => if x.f0 = 3 then 0 else x.f1).sum
def ahead2 (l : List S31) (i : Nat) : Int := ((l.take i).map fun x => if x.f0 = 2 then 0 else x.f1).sum
/-- The lines' value of an edit, read off a world. -/
def lnv (w : World) (ad : Addr) (i : Nat) : Value := (w.cell? ⟨(ad.add (i * 3)).block, (ad.add (i * 3)).off + 2, none⟩).getD undef
def enc (w : World) (ad : Addr) (l : List S31) (i : Nat) : Array Value :=
 #[.agg #[.int .i64 (ahead1 l i), .int .i64 (ahead2 l i)], .agg #[.int .i64 (rd_T31 l (i : Int)).f0, .int .i64 (rd_T31 l (i : Int)).f1, lnv w ad i]]
def Kp (B0 Bs : Nat) (n e : Nat) (X Y : World) : Prop := Y.heap[n]? = X.heap[n]? ∧ Y.heap[Bs]? = X.heap[Bs]? ∧ Below B0 X Y ∧ Y.heap[e]? = X.heap[e]?
def togo (n : Nat) : Value → Nat
 | .int _ i => n - i.toNat
 | _ => 0
theorem ahead_step (l : List S31) (i : Nat) (h : i < l.length) : ahead1 l (i + 1) = ahead1 l i + (if (rd_T31 l (i : Int)).f0 = 3 then 0 else (rd_T31 l (i : Int)).f1) ∧ ahead2 l (i + 1) = ahead2 l i + (if (rd_T31 l (i : Int)).f0 = 2 then 0 else (rd_T31 l (i : Int)).f1) := by
 have e : l[i]? = some (rd_T31 l (i : Int)) := by simp [rd_T31, List.getD_eq_getElem?_getD, List.getElem?_eq_getElem h]
 unfold ahead1 ahead2
 rw [List.take_add_one, e]
 simp
theorem cellOf {B : Nat} {w w' : World} (h : Below B w w') {a : Addr} {v : Value} (hc : w.cell? a = some v) (hB : w.heap.size ≤ B) : w'.cell? a = some v := by
 rw [h.cell (Nat.lt_of_lt_of_le (World.block_lt_of_cell? (w := w) (a := a) hc) hB)]
 exact hc
theorem gset (w : World) (b i : Nat) (v : Value) : w.grownBy (w.setCell ⟨b, i, none⟩ v) (some b) :=
 ⟨rfl, rfl, rfl, by simp [World.setCell], fun k _ hk => Below.heap_setCell _ _ _ _ (fun e => hk (by simp [e]))⟩
theorem set_0 {Y : World} {n t : Nat} {a b : Value} (v : Value) (h : Y.heap[n]? = some (.cells #[a, b] t)) : (Y.setCell ⟨n, 0, none⟩ v).heap[n]? = some (.cells #[v, b] t) := by
 obtain ⟨h1, h2⟩ := Array.getElem?_eq_some_iff.1 h
 simp [World.setCell, h1, Array.getElem_modify, h2]
theorem set_1 {Y : World} {n t : Nat} {a b : Value} (v : Value) (h : Y.heap[n]? = some (.cells #[a, b] t)) : (Y.setCell ⟨n, 1, none⟩ v).heap[n]? = some (.cells #[a, v] t) := by
 obtain ⟨h1, h2⟩ := Array.getElem?_eq_some_iff.1 h
 simp [World.setCell, h1, Array.getElem_modify, h2]
theorem sum_range (l : List Int) (M : Int) (h : ∀ x ∈ l, 0 ≤ x ∧ x ≤ M) : 0 ≤ l.sum ∧ l.sum ≤ l.length * M := by
 induction l with
 | nil => simp
 | cons x l ih =>
  have := h x (by simp)
  have := ih (fun y hy => h y (List.mem_cons_of_mem _ hy))
  rw [List.sum_cons, List.length_cons]
  rw [show ((l.length + 1 : Nat) : Int) * M = l.length * M + M by rw [Int.natCast_add, Int.add_mul]; simp]
  omega
theorem ahead_range (l : List S31) (hl : l.length ≤ 1000000) (hN : ∀ x ∈ l, 0 ≤ x.f1 ∧ x.f1 ≤ 1048576) (i : Nat) : (0 ≤ ahead1 l i ∧ ahead1 l i ≤ 1048576000000) ∧ (0 ≤ ahead2 l i ∧ ahead2 l i ≤ 1048576000000) := by
 have gen : ∀ f : S31 → Int, (∀ x ∈ l, 0 ≤ f x ∧ f x ≤ 1048576) → 0 ≤ ((l.take i).map f).sum ∧ ((l.take i).map f).sum ≤ 1048576000000 := by
  intro f hf
  have h := sum_range ((l.take i).map f) 1048576 (fun x hx => by
   obtain ⟨y, hy, rfl⟩ := List.mem_map.1 hx
   exact hf y (List.mem_of_mem_take hy))
  rw [List.length_map, List.length_take] at h
  have : ((min i l.length : Nat) : Int) ≤ 1000000 := by omega
  omega
 exact ⟨gen _ (fun x hx => by have := hN x hx; split <;> omega), gen _ (fun x hx => by have := hN x hx; split <;> omega)⟩
set_option maxRecDepth 100000 in
set_option maxHeartbeats 2000000 in
theorem parts1_seq (F : Fence) (n : Nat) (hF : F.fn 55) (hro : F.round = none) (hn : 1 ≤ n) (B0 Bs : Nat) (w0 : World) (hB0 : B0 = w0.heap.size) (A : Option Addr) (ad : Addr) (had : ∀ a, A = some a → ad = a) (c : Nat) (l : List S31)
  (hC : Kd.C k31 w0 A l.length l) (hl : l.length ≤ 1000000) (hN : ∀ x ∈ l, 0 ≤ x.f1 ∧ x.f1 ≤ 1048576) (w : World) (hw : Below B0 w0 w) (hb : Boxed w Bs 26 (.slice A l.length c)) :
  Rng2.Seq F n Try.prog 55 #[.pointer (some ⟨Bs, 0, none⟩)] (enc w0 ad l) (fun k => k) (Kp B0 Bs) (List.range l.length) w := by
 intro lp J Jx W hW hJ hJx hY h0
 have hbW : Boxed W Bs 26 (.slice A l.length c) := (hW.block Bs hb.lt).trans hb
 have hwW : Below B0 w0 W := hw.trans (hW.mono (by rw [hB0]; exact hw.size))
 obtain ⟨nB, hnB⟩ : ∃ nB, nB = W.heap.size := ⟨_, rfl⟩
 refine callsIn_of_wp Try.func55 rfl hF ?_ hro
 simp only [Try.ntmps55, List.size_toArray, List.length_cons, List.length_nil, Nat.reduceAdd, Nat.reduceSub, Array.replicate_succ, Array.replicate_zero, List.push_toArray, List.append_toArray, List.nil_append, List.cons_append]
 have hc := (hbW.alloc (.cells #[.int .i64 0, .int .i64 0] 63)).cell
 have gA : ∀ X : World, W.grownBy X none → Below B0 w0 X := fun X hg => hwW.grown hg (by rw [hB0]; exact hwW.size) (fun k e => by cases e)
 gi_wp2
 gi_loopw [8] (fun v wr => ∃ i : Nat, v = .int .i64 (i : Int) ∧ i ≤ l.length ∧ wr.heap[nB]? = some (.cells #[.int .i64 (ahead1 l i), .int .i64 (ahead2 l i)] 63) ∧ Boxed wr Bs 26 (.slice A l.length c) ∧ Below B0 w0 wr ∧ J (List.range i) wr) (fun v wr => togo l.length v)
 case atStart =>
  refine ⟨0, rfl, Nat.zero_le _, ?_, hbW.alloc _, hwW.alloc (by rw [hB0]; exact hwW.size) _, hJ _ _ _ none h0 (World.grownBy_alloc W _ none) (fun r e => by cases e)⟩
  rw [hnB]
  exact World.alloc_heap_new W _
 case round =>
  obtain ⟨i, rfl, hi, hat, hbx, hbel, hJi⟩ := hrel
  by_cases ci : i < l.length
  ·have cb : decide ((i : Int) < (l.length : Int)) = true := decide_eq_true (by omega)
   have p1 : 0 ≤ (i : Int) := by omega
   have q1 : (i : Int) < (l.length : Int) := by omega
   obtain ⟨ad', A2, c2, e1, hy0, hy1, hy2, hl2, hi2⟩ := at_T31 hC (i : Int) p1 q1
   obtain rfl : ad = ad' := had _ e1
   subst e1
   rw [Int.toNat_natCast] at hy0 hy1 hy2
   have hlv : lnv w0 ad i = .slice A2 (rd_T31 l (i : Int)).f2.length c2 := by unfold lnv; rw [hy2]; rfl
   have hx0 := cellOf hbel hy0 (Nat.le_of_eq hB0.symm)
   have hx1 := cellOf hbel hy1 (Nat.le_of_eq hB0.symm)
   have hx2 := cellOf hbel hy2 (Nat.le_of_eq hB0.symm)
   clear hy0 hy1 hy2
   obtain ⟨x, hx⟩ : ∃ x, x = rd_T31 l (i : Int) := ⟨_, rfl⟩
   have hen : enc w0 ad l i = #[.agg #[.int .i64 (ahead1 l i), .int .i64 (ahead2 l i)], .agg #[.int .i64 x.f0, .int .i64 x.f1, .slice A2 x.f2.length c2]] := by unfold enc; rw [hlv, ← hx]
   have hst := ahead_step l i ci
   have hrg := ahead_range l hl hN i
   have hrg1 := ahead_range l hl hN (i + 1)
   rw [← hx] at hx0 hx1 hx2 hl2 hi2 hst
   have HX := Lib.hid hx
   clear hx hl2 hi2
   replace p1 := eq_true p1
   replace q1 := eq_true q1
   have ltn : nB < wr.heap.size := (Array.getElem?_eq_some_iff.1 hat).1
   have HAT := Lib.hid hat
   have HBX := Lib.hid hbx
   clear hat hbx
   obtain ⟨X, hX⟩ : ∃ X, X = wr.alloc (.cells #[.int .i64 x.f0, .int .i64 x.f1, .slice A2 x.f2.length c2] 31) := ⟨_, rfl⟩
   have hgX : wr.grownBy X none := by rw [hX]; exact World.grownBy_alloc wr _ none
   have szX : X.heap.size = wr.heap.size + 1 := by rw [hX]; simp
   have atX : X.heap[nB]? = some (.cells #[.int .i64 (ahead1 l i), .int .i64 (ahead2 l i)] 63) := (hgX.block nB ltn (by simp)).trans HAT.out
   have eX : X.heap[wr.heap.size]? = some (.cells #[.int .i64 x.f0, .int .i64 x.f1, .slice A2 x.f2.length c2] 31) := by rw [hX]; exact World.alloc_heap_new wr _
   have a0 : X.cell? ⟨W.heap.size, 0, none⟩ = some (.int .i64 (ahead1 l i)) := by rw [← hnB]; simp [World.cell?, atX]
   have a1 : X.cell? ⟨W.heap.size, 1, none⟩ = some (.int .i64 (ahead2 l i)) := by rw [← hnB]; simp [World.cell?, atX]
   have a2 : X.cell? ⟨wr.heap.size, 0, none⟩ = some (.int .i64 x.f0) := by simp [World.cell?, eX]
   have a3 : X.cell? ⟨wr.heap.size, 1, none⟩ = some (.int .i64 x.f1) := by simp [World.cell?, eX]
   have a4 : X.cell? ⟨wr.heap.size, 2, none⟩ = some (.slice A2 x.f2.length c2) := by simp [World.cell?, eX]
   have hall : List.range l.length = List.range i ++ i :: (List.range l.length).drop (i + 1) := by
    have h := (List.take_append_drop i (List.range l.length)).symm
    rw [List.drop_eq_getElem_cons (by simpa using ci), List.getElem_range, List.take_range, Nat.min_eq_left (by omega)] at h
    exact h
   obtain ⟨fn, tmps, assign, body, hy, hR⟩ := hY (List.range i) i _ wr X wr.heap.size hall hJi hgX (Nat.le_refl _) (by rw [szX]; omega)
   rw [hen] at hy
   have HALL := Lib.hid hall
   have HS := Lib.hid hst
   have HR1 := Lib.hid hrg
   have HR2 := Lib.hid hrg1
   clear hall hst hrg hrg1 hen hlv
   have HXX := Lib.hid hX
   have HATX := Lib.hid atX
   have HEX := Lib.hid eX
   have HG := Lib.hid hgX
   have HNB := Lib.hid hnB
   clear hX atX eX hgX hnB
   gi_wp2_with (rw [← HXX.out])
   refine hR.mono ?_
   rintro e Y (⟨rfl, hJ3, k1, k2, k3, k4⟩ | ⟨rfl, hJx3⟩)
   ·have yat : Y.heap[W.heap.size]? = some (.cells #[.int .i64 (ahead1 l i), .int .i64 (ahead2 l i)] 63) := by rw [k1, ← HNB.out]; exact HATX.out
    have yeX := k4.trans HEX.out
    have b0 : Y.cell? ⟨W.heap.size, 0, none⟩ = some (.int .i64 (ahead1 l i)) := by simp [World.cell?, yat]
    have b1 : Y.cell? ⟨W.heap.size, 1, none⟩ = some (.int .i64 (ahead2 l i)) := by simp [World.cell?, yat]
    have f0 : Y.frozen? ⟨W.heap.size, 0, none⟩ = false := by simp [World.frozen?, yat]
    have f1 : Y.frozen? ⟨W.heap.size, 1, none⟩ = false := by simp [World.frozen?, yat]
    have b2 : Y.cell? ⟨wr.heap.size, 0, none⟩ = some (.int .i64 x.f0) := by simp [World.cell?, yeX]
    have b3 : Y.cell? ⟨wr.heap.size, 1, none⟩ = some (.int .i64 x.f1) := by simp [World.cell?, yeX]
    have BSlt := hbW.lt
    have B0le : B0 ≤ W.heap.size := by rw [hB0]; exact hwW.size
    have yb : Boxed Y Bs 26 (.slice (some ad) l.length c) := k2.trans ((HG.out.block Bs HBX.out.lt (by simp)).trans HBX.out)
    have ybel : Below B0 w0 Y := (hbel.grown HG.out (by rw [hB0]; exact hbel.size) (fun k e => by cases e)).trans k3
    have FIN := Lib.hid (show ∀ Z : World, Z.heap[W.heap.size]? = some (.cells #[.int .i64 (ahead1 l (i + 1)), .int .i64 (ahead2 l (i + 1))] 63) → Y.grownBy Z (some W.heap.size) →
      (∃ i_1 : Nat, Value.int .i64 ((i : Int) + 1) = Value.int .i64 (i_1 : Int) ∧ i_1 ≤ l.length ∧ Z.heap[nB]? = some (.cells #[.int .i64 (ahead1 l i_1), .int .i64 (ahead2 l i_1)] 63) ∧ Boxed Z Bs 26 (.slice (some ad) l.length c) ∧ Below B0 w0 Z ∧ J (List.range i_1) Z) ∧ togo l.length (Value.int .i64 ((i : Int) + 1)) < togo l.length (Value.int .i64 (i : Int)) from fun Z hz hg => by
     refine ⟨⟨i + 1, by simp, ci, by rw [HNB.out]; exact hz, yb.kept hg (by simp; omega), ybel.grown hg (by rw [hB0]; exact ybel.size) (fun k e => by cases e; exact B0le), ?_⟩, ?_⟩
     ·rw [List.range_succ]
      exact hJ _ _ _ _ hJ3 hg (fun r e => by cases e; rfl)
     ·simp only [togo]
      rw [show ((i : Int) + 1).toNat = i + 1 by omega, Int.toNat_natCast]
      omega)
    have ne1 : W.heap.size ≠ wr.heap.size := by rw [← HNB.out]; omega
    have ne2 : wr.heap.size ≠ W.heap.size := ne1.symm
    have YAT := Lib.hid yat
    have YEX := Lib.hid yeX
    have hw1 : wrap64 (ahead1 l i + x.f1) = ahead1 l i + x.f1 := by
     have := HR1.out; have := hN x (by rw [HX.out]; simp [rd_T31, List.getD_eq_getElem?_getD, List.getElem?_eq_getElem ci]); exact w64 (by omega) (by omega)
    have hw2 : wrap64 (ahead2 l i + x.f1) = ahead2 l i + x.f1 := by
     have := HR1.out; have := hN x (by rw [HX.out]; simp [rd_T31, List.getD_eq_getElem?_getD, List.getElem?_eq_getElem ci]); exact w64 (by omega) (by omega)
    clear yat yeX k1 k2 k4
    have SS := Lib.hid HS.out
    by_cases d3 : x.f0 = 3
    ·have db : (x.f0 != 3) = false := by simp [d3]
     have db2 : (x.f0 != 2) = true := by simp [d3]
     have D := Lib.hid d3
     clear d3
     gi_wp2
     refine FIN.out _ ?_ (gset Y _ _ _)
     have e1 := SS.out.1
     have e2 := SS.out.2
     rw [if_pos D.out] at e1
     rw [if_neg (by rw [D.out]; decide)] at e2
     rw [e1, e2, Int.add_zero]
     exact set_1 _ YAT.out
    ·have db : (x.f0 != 3) = true := by simp [d3]
     by_cases d2 : x.f0 = 2
     ·have db2 : (x.f0 != 2) = false := by simp [d2]
      have D := Lib.hid d2
      clear d2 d3
      gi_wp2
      refine FIN.out _ ?_ (gset Y _ _ _)
      have e1 := SS.out.1
      have e2 := SS.out.2
      rw [if_neg (by rw [D.out]; decide)] at e1
      rw [if_pos D.out] at e2
      rw [e1, e2, Int.add_zero]
      exact set_0 _ YAT.out
     ·have db2 : (x.f0 != 2) = true := by simp [d2]
      have D2 := Lib.hid d2
      have D3 := Lib.hid d3
      clear d2 d3
      gi_wp2
      refine FIN.out _ ?_ ((gset Y _ _ _).trans (gset _ _ _ _))
      have e1 := SS.out.1
      have e2 := SS.out.2
      rw [if_neg D3.out] at e1
      rw [if_neg D2.out] at e2
      rw [e1, e2]
      exact set_1 _ (set_0 _ YAT.out)
   ·gi_wp2
    refine bodyPost_ret (results_none rfl _ _ _) rfl ?_
    exact ⟨⟨_, rfl⟩, .inr ⟨List.range i ++ [i], ⟨_, by rw [List.append_assoc]; exact HALL.out.symm⟩, hJx3⟩⟩
  ·have cb : decide ((i : Int) < (l.length : Int)) = false := decide_eq_false (by omega)
   obtain rfl : i = l.length := by omega
   gi_wp2
   go_end0
   exact ⟨⟨_, rfl⟩, .inl hJi⟩
end Go.Proofs.Ytgobidmfbjmpkaa.Iter
end
end
section
/- Words of this session: a script of the call's own, each of whose edits has its lines in a block of its own. · Words of this session: hunks of the call's own, each of whose scripts, and whose lines, have blocks of their own. · Words of this session: the last hunk's script grows by some edits; a hunk more. · hunks.joined in plain words: edits put behind a script, those of one kind as one; a measure that bounds all. -/
section
set_option linter.unusedVariables false
set_option linter.unusedSimpArgs false
namespace Go.Proofs.Ytgobidmfbjmpkaa.HEdits
open Go Go.RowKit Go.Proofs.YtgobidmfbjmpkaaW.PrintWords Go.Proofs.YtgobidmfbjmpkaaW.PrintLast Go.Proofs.YtgobidmfbjmpkaaW.PrintMore Go.Proofs.Ytgobidmfbjmpkaa.P

structure Ed where
 op : Int
 n : Int
 v : Value
 l : List ByteArray
def Ed.cells (e : Ed) : List Value := [.int .i64 e.op, .int .i64 e.n, e.v]
def Ed.plain (e : Ed) : S31 := ⟨e.op, e.n, e.l⟩
def flat (es : List Ed) : List Value := es.flatMap Ed.cells
theorem flat_length (es : List Ed) : (flat es).length = es.length * 3 := by
 induction es with
 | nil => rfl
 | cons e es ih => simp only [flat, List.flatMap_cons, List.length_append, List.length_cons] at ih ⊢; rw [ih]; simp [Ed.cells]; omega
theorem flat_snoc (es : List Ed) (e : Ed) : flat (es ++ [e]) = flat es ++ e.cells := by simp [flat]
abbrev Lns (base : Nat) (w : World) (v : Value) (l : List ByteArray) : Prop := w.ownsRow base 9 1 v l.length (encs Value.string l)
/-- v is a script of the edits es, from base on. -/
def Scr (base : Nat) (w : World) (v : Value) (es : List Ed) : Prop :=
 w.ownsRow base 31 3 v es.length (flat es) ∧ (∀ e ∈ es, Lns base w e.v e.l) ∧ es.Pairwise (fun p q => NeRow p.v q.v)
section
variable {base : Nat} {w w' w1 w2 : World} {v v1 : Value} {es : List Ed} {e : Ed}
theorem ne_of {u u' : Value} (h : u.ownBlock = none ∨ u.ownBlock ≠ u'.ownBlock) : NeRow u u' := fun k hk hk' => by
 rcases h with h | h
 ·rw [h] at hk; cases hk
 ·exact h (hk.trans hk'.symm)
theorem Scr.nil (base : Nat) (w : World) : Scr base w (.slice none 0 0) [] := ⟨own_nil _ _ _ _, by simp, .nil⟩
theorem Scr.below (h : Scr base w v es) (hb : Below w.heap.size w w') : Scr base w' v es := ⟨pw_own_below h.1 hb, fun e he => pw_own_below (h.2.1 e he) hb, h.2.2⟩
theorem Scr.drewN (h : Scr base w v es) (m : Nat) : Scr base (w.drewN m) v es := h
theorem Scr.lines_ne (h : Scr base w v es) (he : e ∈ es) : NeRow e.v v := ne_of (own_type_ne (h.2.1 e he) h.1 (by decide))
theorem Scr.form (h : Scr base w v (es ++ [e])) : ∃ g cap cur, v = .slice (some ⟨g, 0, none⟩) (es ++ [e]).length cap ∧ base ≤ g ∧ w.heap[g]? = some (.cells cur 31 (0, 0)) ∧ (es ++ [e]).length ≤ cap ∧ cap ≤ maxLen ∧ cur.size = cap * 3 ∧ cur.toList.take ((es ++ [e]).length * 3) = flat (es ++ [e]) := by
 rcases h.1.2 with ⟨_, h0⟩ | h0
 ·simp at h0
 ·exact h0
theorem cur_get {cur : Array Value} {es : List Ed} {e : Ed} (ht : cur.toList.take ((es ++ [e]).length * 3) = flat (es ++ [e])) (j : Nat) (hj : j < 3) : cur[es.length * 3 + j]? = e.cells[j]? := by
 have hlen : (es ++ [e]).length * 3 = es.length * 3 + 3 := by simp; omega
 have h1 : (cur.toList.take ((es ++ [e]).length * 3))[es.length * 3 + j]? = cur[es.length * 3 + j]? := by
  rw [List.getElem?_take, if_pos (by omega)]
  simp
 rw [← h1, ht, flat_snoc, List.getElem?_append_right (by rw [flat_length]; omega), flat_length]
 congr 1
 omega
/-- What the last edit's cells hold. -/
theorem Scr.last (h : Scr base w v (es ++ [e])) : ∃ g cap, v = .slice (some ⟨g, 0, none⟩) (es.length + 1) cap ∧ base ≤ g ∧ g < w.heap.size ∧ (∃ cur, w.heap[g]? = some (.cells cur 31 (0, 0))) ∧
  w.cell? ⟨g, es.length * 3, none⟩ = some (.int .i64 e.op) ∧ w.cell? ⟨g, es.length * 3 + 1, none⟩ = some (.int .i64 e.n) ∧ w.cell? ⟨g, es.length * 3 + 2, none⟩ = some e.v ∧
  w.frozen? ⟨g, es.length * 3 + 1, none⟩ = false ∧ w.frozen? ⟨g, es.length * 3 + 2, none⟩ = false := by
 obtain ⟨g, cap, cur, rfl, hg, hh, hc1, hc2, hc3, ht⟩ := h.form
 refine ⟨g, cap, by simp, hg, blk_lt hh, ⟨cur, hh⟩, ?_, ?_, ?_, blk_frozen hh _, blk_frozen hh _⟩
 ·exact (blk_cell hh _).trans (cur_get ht 0 (by omega))
 ·exact (blk_cell hh _).trans (cur_get ht 1 (by omega))
 ·exact (blk_cell hh _).trans (cur_get ht 2 (by omega))
theorem set_take {cur : Array Value} {es : List Ed} {e e' : Ed} (ht : cur.toList.take ((es ++ [e]).length * 3) = flat (es ++ [e])) (j : Nat) (u : Value) (hu : e.cells.set j u = e'.cells) (hj : j < 3) :
  (cur.setIfInBounds (es.length * 3 + j) u).toList.take ((es ++ [e']).length * 3) = flat (es ++ [e']) := by
 have hlen : (es ++ [e']).length = (es ++ [e]).length := by simp
 rw [Array.toList_setIfInBounds, List.take_set, hlen, ht, flat_snoc, flat_snoc, List.set_append_right _ _ (by rw [flat_length]; omega), flat_length]
 rw [← hu]
 congr 2
 omega
theorem own_set (h : w.ownsRow base 31 3 v (es ++ [e]).length (flat (es ++ [e]))) {g cap : Nat} {n : Nat} (hv : v = .slice (some ⟨g, 0, none⟩) n cap) (j : Nat) (hj : j < 3) (u : Value) (e' : Ed) (hu : e.cells.set j u = e'.cells) :
  (w.setCell ⟨g, es.length * 3 + j, none⟩ u).ownsRow base 31 3 v (es ++ [e']).length (flat (es ++ [e'])) := by
 refine ⟨flat_length _, ?_⟩
 rcases h.2 with ⟨_, h0⟩ | ⟨g', cap', cur, hv', hg, hh, hc1, hc2, hc3, ht⟩
 ·simp at h0
 ·rw [hv'] at hv
  injection hv with h1 h2 h3
  injection h1 with h1
  injection h1 with h1
  subst h1
  have hlen : (es ++ [e']).length = (es ++ [e]).length := by simp
  exact .inr ⟨g', cap', cur.setIfInBounds (es.length * 3 + j) u, by rw [hlen]; exact hv', hg, blk_set hh _ u, by rw [hlen]; exact hc1, hc2, by rw [Array.size_setIfInBounds]; exact hc3, set_take ht j u hu hj⟩
theorem Scr.set (h : Scr base w v (es ++ [e])) {g cap n : Nat} (hv : v = .slice (some ⟨g, 0, none⟩) n cap) (hb : ∃ cur, w.heap[g]? = some (.cells cur 31 (0, 0))) (j : Nat) (hj : j < 3) (u : Value) (e' : Ed) (hu : e.cells.set j u = e'.cells)
  (hl : Lns base w e'.v e'.l) (hp : ∀ p ∈ es, NeRow p.v e'.v) : Scr base (w.setCell ⟨g, es.length * 3 + j, none⟩ u) v (es ++ [e']) := by
 obtain ⟨cur, hb⟩ := hb
 refine ⟨own_set h.1 hv j hj u e' hu, fun p hp' => ?_, List.pairwise_append.2 ⟨(List.pairwise_append.1 h.2.2).1, List.pairwise_singleton _ _, fun q hq r hr => by rw [List.mem_singleton.1 hr]; exact hp q hq⟩⟩
 have hL : Lns base w p.v p.l := by
  rcases List.mem_append.1 hp' with hp' | hp'
  ·exact h.2.1 p (List.mem_append_left _ hp')
  ·rw [List.mem_singleton.1 hp']; exact hl
 exact own_setCell hL (own_ne hL hb (by decide)) u
/-- The last edit's lines have grown: ahead of the store. -/
theorem Scr.grown (h : Scr base w v (es ++ [e])) (hg : w.grownBy w1 e.v.ownBlock) :
  w1.ownsRow base 31 3 v (es ++ [e]).length (flat (es ++ [e])) ∧ (∀ p ∈ es, Lns base w1 p.v p.l) := by
 have hm : e ∈ es ++ [e] := by simp
 refine ⟨own_other h.1 hg ?_, fun p hp => own_other (h.2.1 p (List.mem_append_left _ hp)) hg ?_⟩
 ·exact own_type_ne h.1 (h.2.1 e hm) (by decide)
 ·exact ne_other (ne_symm ((List.pairwise_append.1 h.2.2).2.2 p hp e (by simp)))
/-- An edit more. -/
theorem Scr.push (h : Scr base w v es) (hn : w1.ownsRow base 31 3 v1 (es.length + 1) (flat es ++ e.cells)) (hg : w.grownBy w1 v.ownBlock) (hl : Lns base w e.v e.l) (hp : ∀ p ∈ es, NeRow p.v e.v) : Scr base w1 v1 (es ++ [e]) := by
 refine ⟨by rw [flat_snoc, List.length_append]; exact hn, fun p hp' => ?_, List.pairwise_append.2 ⟨h.2.2, List.pairwise_singleton _ _, fun q hq r hr => by rw [List.mem_singleton.1 hr]; exact hp q hq⟩⟩
 have hL : Lns base w p.v p.l := by
  rcases List.mem_append.1 hp' with hp' | hp'
  ·exact h.2.1 p hp'
  ·rw [List.mem_singleton.1 hp']; exact hl
 exact own_other hL hg (own_type_ne hL h.1 (by decide))
/-- The last edit's lines have grown, and are stored. -/
theorem Scr.later (h : Scr base w v (es ++ [e])) {g cap n : Nat} (hv : v = .slice (some ⟨g, 0, none⟩) n cap) (hg : w.grownBy w1 e.v.ownBlock) {l1 : List ByteArray} (hl : Lns base w1 v1 l1) (hp : ∀ p ∈ es, NeRow p.v v1) :
  Scr base (w1.setCell ⟨g, es.length * 3 + 2, none⟩ v1) v (es ++ [⟨e.op, e.n, v1, l1⟩]) ∧ w1.cell? ⟨g, es.length * 3 + 2, none⟩ = some e.v ∧ w1.frozen? ⟨g, es.length * 3 + 2, none⟩ = false := by
 obtain ⟨h1, h2⟩ := h.grown hg
 obtain ⟨g', cap', cur, hv', hg', hh, hc1, hc2, hc3, ht⟩ := h.form
 have hgg : g' = g := by
  rw [hv'] at hv
  injection hv with h1 h2 h3
  injection h1 with h1
  injection h1 with h1
 subst hgg
 have hne : some g' ≠ e.v.ownBlock := own_ne (h.2.1 e (by simp)) hh (by decide)
 have hh1 := blk_grown hh hg hne
 refine ⟨?_, (blk_cell hh1 _).trans (cur_get ht 2 (by omega)), blk_frozen hh1 _⟩
 refine ⟨own_set h1 hv 2 (by omega) v1 _ rfl, fun p hp' => ?_, List.pairwise_append.2 ⟨(List.pairwise_append.1 h.2.2).1, List.pairwise_singleton _ _, fun q hq r hr => by rw [List.mem_singleton.1 hr]; exact hp q hq⟩⟩
 have hL : Lns base w1 p.v p.l := by
  rcases List.mem_append.1 hp' with hp' | hp'
  ·exact h2 p hp'
  ·rw [List.mem_singleton.1 hp']; exact hl
 exact own_setCell hL (own_ne hL hh1 (by decide)) v1
theorem Scr.place (h : Scr base w v es) : ∃ f : Nat → Nat, ∀ j e k, es[j]? = some e → e.v.ownBlock = some k → f k = j := by
 classical
 have hi : ∀ (i j : Nat) (p q : Ed) (k : Nat), es[i]? = some p → es[j]? = some q → p.v.ownBlock = some k → q.v.ownBlock = some k → i = j := by
  intro i j p q k hp hq hk hk'
  obtain ⟨h1, rfl⟩ := List.getElem?_eq_some_iff.1 hp
  obtain ⟨h2, rfl⟩ := List.getElem?_eq_some_iff.1 hq
  have hpw := List.pairwise_iff_getElem.1 h.2.2
  rcases Nat.lt_trichotomy i j with hlt | heq | hlt
  ·exact absurd hk' (hpw i j h1 h2 hlt k hk)
  ·exact heq
  ·exact absurd hk (hpw j i h2 h1 hlt k hk')
 refine ⟨fun k => if hk : ∃ j : Nat, ∃ e : Ed, es[j]? = some e ∧ e.v.ownBlock = some k then hk.choose else 0, fun j e k hj hk => ?_⟩
 have hh : ∃ j' : Nat, ∃ e' : Ed, es[j']? = some e' ∧ e'.v.ownBlock = some k := ⟨j, e, hj, hk⟩
 show (if hk : ∃ j' : Nat, ∃ e' : Ed, es[j']? = some e' ∧ e'.v.ownBlock = some k then hk.choose else 0) = j
 rw [dif_pos hh]
 obtain ⟨e', h1, h2⟩ := hh.choose_spec
 exact hi _ _ _ _ _ h1 hj h2 hk
theorem flat_seg (es : List Ed) : ∀ (j : Nat) (e : Ed), es[j]? = some e → ((flat es).drop (j * 3)).take 3 = e.cells := by
 induction es with
 | nil => intro j e h; simp at h
 | cons x es ih =>
  intro j e h
  cases j with
  | zero =>
   simp at h
   subst h
   simp [flat, Ed.cells]
  | succ j =>
   have h1 := ih j e (by simpa using h)
   rw [← h1]
   have e1 : (j + 1) * 3 = 3 + j * 3 := by omega
   rw [e1, ← List.drop_drop]
   congr 1
/-- At the end: as edits that lie apart. -/
theorem Scr.toS (h : Scr base w v es) : Kd.S k31 31 w base (fun _ => True) v (es.map Ed.plain) := by
 obtain ⟨f, hf⟩ := h.place
 refine ⟨f, fun _ _ => trivial, flat es, ?_, ?_⟩
 ·rw [List.length_zipIdx, List.length_map]; exact h.1
 ·refine ⟨by rw [List.length_zipIdx, List.length_map]; exact flat_length es, fun j pj hj => ?_⟩
  rw [List.getElem?_zipIdx, List.getElem?_map] at hj
  obtain ⟨r, hr, rfl⟩ := Option.map_eq_some_iff.1 hj
  obtain ⟨q, hq, rfl⟩ := Option.map_eq_some_iff.1 hr
  have hqm : q ∈ es := List.mem_of_getElem? hq
  show Kd.M k31 w base _ q.plain (((flat es).drop (j * 3)).take 3)
  rw [flat_seg es j q hq]
  refine k31_mkM w base _ q.plain (Kd.R_of_own (h.2.1 q hqm) (fun k hk => ⟨⟨trivial, ?_⟩, ?_⟩))
  ·intro he
   exact h.lines_ne hqm k hk he.symm
  ·rw [hf j q k hq hk]; simp
end
end Go.Proofs.Ytgobidmfbjmpkaa.HEdits
end
section
set_option linter.unusedVariables false
namespace Go.Proofs.Ytgobidmfbjmpkaa.HHunks
open Go Go.RowKit Go.Proofs.YtgobidmfbjmpkaaW.PrintWords Go.Proofs.YtgobidmfbjmpkaaW.PrintLast Go.Proofs.YtgobidmfbjmpkaaW.PrintMore Go.Proofs.Ytgobidmfbjmpkaa.P Go.Proofs.Ytgobidmfbjmpkaa.HEdits

structure Hd where
 fr : Int
 tt : Int
 v : Value
 es : List Ed
def Hd.cells (h : Hd) : List Value := [.int .i64 h.fr, .int .i64 h.tt, h.v]
def Hd.plain (h : Hd) : S28 := ⟨h.fr, h.tt, h.es.map Ed.plain⟩
def hflat (hs : List Hd) : List Value := hs.flatMap Hd.cells
theorem hflat_length (hs : List Hd) : (hflat hs).length = hs.length * 3 := by
 induction hs with
 | nil => rfl
 | cons e es ih => simp only [hflat, List.flatMap_cons, List.length_append, List.length_cons] at ih ⊢; rw [ih]; simp [Hd.cells]; omega
theorem hflat_snoc (hs : List Hd) (e : Hd) : hflat (hs ++ [e]) = hflat hs ++ e.cells := by simp [hflat]
def Hd.has (h : Hd) (k : Nat) : Prop := h.v.ownBlock = some k ∨ ∃ e ∈ h.es, e.v.ownBlock = some k
/-- Two hunks share no block. -/
def Ap (p q : Hd) : Prop := ∀ k, p.has k → ¬ q.has k
theorem Ap.symm {p q : Hd} (h : Ap p q) : Ap q p := fun k hq hp => h k hp hq
/-- v is the hunks hs, from base on. -/
def Hks (base : Nat) (w : World) (v : Value) (hs : List Hd) : Prop :=
 w.ownsRow base 28 3 v hs.length (hflat hs) ∧ (∀ h ∈ hs, Scr base w h.v h.es) ∧ hs.Pairwise Ap
section
variable {base : Nat} {w w' w1 w2 : World} {v v1 : Value} {hs : List Hd} {h : Hd} {es : List Ed}
theorem Hks.nil (base : Nat) (w : World) : Hks base w (.slice none 0 0) [] := ⟨own_nil _ _ _ _, by simp, .nil⟩
theorem Hks.below (h : Hks base w v hs) (hb : Below w.heap.size w w') : Hks base w' v hs := ⟨pw_own_below h.1 hb, fun e he => (h.2.1 e he).below hb, h.2.2⟩
theorem own_low {b b' e sz n : Nat} {xs : List Value} (h : w.ownsRow b e sz v n xs) (hb : b' ≤ b) : w.ownsRow b' e sz v n xs := ⟨h.1, h.2.imp id fun ⟨g, a, c, h1, h2, h3⟩ => ⟨g, a, c, h1, Nat.le_trans hb h2, h3⟩⟩
theorem Scr.low (h : Scr base w v es) {b' : Nat} (hb : b' ≤ base) : Scr b' w v es := ⟨own_low h.1 hb, fun e he => own_low (h.2.1 e he) hb, h.2.2⟩
theorem Hks.low (h : Hks base w v hs) {b' : Nat} (hb : b' ≤ base) : Hks b' w v hs := ⟨own_low h.1 hb, fun e he => Scr.low (h.2.1 e he) hb, h.2.2⟩
/-- A script whose blocks are not the row that was written. -/
theorem Scr.other (h : Scr base w v es) {row : Option Nat} (hg : w.grownBy w1 row) (h1 : ∀ k, v.ownBlock = some k → row ≠ some k) (h2 : ∀ e ∈ es, ∀ k, e.v.ownBlock = some k → row ≠ some k) : Scr base w1 v es := by
 have ne : ∀ {u : Value}, (∀ k, u.ownBlock = some k → row ≠ some k) → u.ownBlock = none ∨ u.ownBlock ≠ row := by
  intro u hu
  cases hv : u.ownBlock with
  | none => exact .inl rfl
  | some k => exact .inr (fun e => hu k hv e.symm)
 exact ⟨own_other h.1 hg (ne h1), fun e he => own_other (h.2.1 e he) hg (ne (h2 e he)), h.2.2⟩
theorem Scr.has_typed (h : Scr base w v es) {k : Nat} (hk : v.ownBlock = some k ∨ ∃ e ∈ es, e.v.ownBlock = some k) : base ≤ k ∧ k < w.heap.size ∧ ∃ q cells, (q = 31 ∨ q = 9) ∧ w.heap[k]? = some (.cells cells q (0, 0)) := by
 rcases hk with hk | ⟨e, he, hk⟩
 ·obtain ⟨cells, hc⟩ := own_typed h.1 k hk
  exact ⟨own_base h.1 k hk, (Array.getElem?_eq_some_iff.1 hc).1, _, cells, .inl rfl, hc⟩
 ·obtain ⟨cells, hc⟩ := own_typed (h.2.1 e he) k hk
  exact ⟨own_base (h.2.1 e he) k hk, (Array.getElem?_eq_some_iff.1 hc).1, _, cells, .inr rfl, hc⟩
theorem Hks.has_typed (H : Hks base w v hs) (hm : h ∈ hs) {k : Nat} (hk : h.has k) : base ≤ k ∧ k < w.heap.size ∧ ∃ q cells, (q = 31 ∨ q = 9) ∧ w.heap[k]? = some (.cells cells q (0, 0)) := Scr.has_typed (H.2.1 h hm) hk
/-- Its blocks: the row's, and each hunk's. -/
def has (v : Value) (hs : List Hd) (k : Nat) : Prop := v.ownBlock = some k ∨ ∃ h ∈ hs, h.has k
theorem Hks.typed (H : Hks base w v hs) {k : Nat} (hk : has v hs k) : base ≤ k ∧ k < w.heap.size ∧ ∃ q cells, (q = 28 ∨ q = 31 ∨ q = 9) ∧ w.heap[k]? = some (.cells cells q (0, 0)) := by
 rcases hk with hk | ⟨h, hm, hk⟩
 ·obtain ⟨cells, hc⟩ := own_typed H.1 k hk
  exact ⟨own_base H.1 k hk, (Array.getElem?_eq_some_iff.1 hc).1, _, cells, .inl rfl, hc⟩
 ·obtain ⟨a, b, q, cells, c, d⟩ := H.has_typed hm hk
  exact ⟨a, b, q, cells, .inr c, d⟩
/-- Another block was written, or none. -/
theorem Hks.other (H : Hks base w v hs) {row : Option Nat} (hg : w.grownBy w1 row) (hn : ∀ k, row = some k → ¬ has v hs k) : Hks base w1 v hs := by
 refine ⟨own_other H.1 hg ?_, fun e he => Scr.other (H.2.1 e he) hg (fun k hk e' => hn k e' (.inr ⟨e, he, .inl hk⟩)) (fun d hd k hk e' => hn k e' (.inr ⟨e, he, .inr ⟨d, hd, hk⟩⟩)), H.2.2⟩
 cases hv : v.ownBlock with
 | none => exact .inl rfl
 | some k => exact .inr (fun e => hn k e.symm (.inl hv))
/-- A hunk more. -/
theorem Hks.push (H : Hks base w v hs) (hn : w1.ownsRow base 28 3 v1 (hs.length + 1) (hflat hs ++ h.cells)) (hg : w.grownBy w1 v.ownBlock) (hl : Scr base w h.v h.es) (hp : ∀ p ∈ hs, Ap p h) : Hks base w1 v1 (hs ++ [h]) := by
 have ne : ∀ q ∈ hs ++ [h], ∀ k, q.has k → v.ownBlock ≠ some k := by
  intro q hq k hk e
  obtain ⟨c1, h1⟩ := own_typed H.1 k e
  have : ∃ t cells, (t = 31 ∨ t = 9) ∧ w.heap[k]? = some (.cells cells t (0, 0)) := by
   rcases List.mem_append.1 hq with hq | hq
   ·exact (H.has_typed hq hk).2.2
   ·rw [List.mem_singleton.1 hq] at hk; exact (Scr.has_typed hl hk).2.2
  obtain ⟨t, c2, ht, h2⟩ := this
  rw [h1] at h2
  injection h2 with h2
  injection h2 with _ h2 _
  rcases ht with ht | ht <;> rw [ht] at h2 <;> exact absurd h2 (by decide)
 refine ⟨by rw [hflat_snoc, List.length_append]; exact hn, fun p hp' => ?_, List.pairwise_append.2 ⟨H.2.2, List.pairwise_singleton _ _, fun q hq r hr => by rw [List.mem_singleton.1 hr]; exact hp q hq⟩⟩
 have hL : Scr base w p.v p.es := by
  rcases List.mem_append.1 hp' with hp' | hp'
  ·exact H.2.1 p hp'
  ·rw [List.mem_singleton.1 hp']; exact hl
 exact Scr.other hL hg (fun k hk e => ne p hp' k (.inl hk) e) (fun d hd k hk e => ne p hp' k (.inr ⟨d, hd, hk⟩) e)
theorem Hks.form (H : Hks base w v (hs ++ [h])) : ∃ g cap cur, v = .slice (some ⟨g, 0, none⟩) (hs ++ [h]).length cap ∧ base ≤ g ∧ w.heap[g]? = some (.cells cur 28 (0, 0)) ∧ (hs ++ [h]).length ≤ cap ∧ cap ≤ maxLen ∧ cur.size = cap * 3 ∧ cur.toList.take ((hs ++ [h]).length * 3) = hflat (hs ++ [h]) := by
 rcases H.1.2 with ⟨_, h0⟩ | h0
 ·simp at h0
 ·exact h0
theorem hcur_get {cur : Array Value} {es : List Hd} {e : Hd} (ht : cur.toList.take ((es ++ [e]).length * 3) = hflat (es ++ [e])) (j : Nat) (hj : j < 3) : cur[es.length * 3 + j]? = e.cells[j]? := by
 have hlen : (es ++ [e]).length * 3 = es.length * 3 + 3 := by simp; omega
 have h1 : (cur.toList.take ((es ++ [e]).length * 3))[es.length * 3 + j]? = cur[es.length * 3 + j]? := by
  rw [List.getElem?_take, if_pos (by omega)]
  simp
 rw [← h1, ht, hflat_snoc, List.getElem?_append_right (by rw [hflat_length]; omega), hflat_length]
 congr 1
 omega
/-- What the last hunk's cells hold. -/
theorem Hks.last (H : Hks base w v (hs ++ [h])) : ∃ g cap, v = .slice (some ⟨g, 0, none⟩) (hs.length + 1) cap ∧ base ≤ g ∧ g < w.heap.size ∧ (∃ cur, w.heap[g]? = some (.cells cur 28 (0, 0))) ∧
  w.cell? ⟨g, hs.length * 3, none⟩ = some (.int .i64 h.fr) ∧ w.cell? ⟨g, hs.length * 3 + 1, none⟩ = some (.int .i64 h.tt) ∧ w.cell? ⟨g, hs.length * 3 + 2, none⟩ = some h.v ∧ w.frozen? ⟨g, hs.length * 3 + 2, none⟩ = false := by
 obtain ⟨g, cap, cur, rfl, hg, hh, hc1, hc2, hc3, ht⟩ := H.form
 refine ⟨g, cap, by simp, hg, blk_lt hh, ⟨cur, hh⟩, ?_, ?_, ?_, blk_frozen hh _⟩
 ·exact (blk_cell hh _).trans (hcur_get ht 0 (by omega))
 ·exact (blk_cell hh _).trans (hcur_get ht 1 (by omega))
 ·exact (blk_cell hh _).trans (hcur_get ht 2 (by omega))
theorem hset_take {cur : Array Value} {es : List Hd} {e e' : Hd} (ht : cur.toList.take ((es ++ [e]).length * 3) = hflat (es ++ [e])) (j : Nat) (u : Value) (hu : e.cells.set j u = e'.cells) (hj : j < 3) :
  (cur.setIfInBounds (es.length * 3 + j) u).toList.take ((es ++ [e']).length * 3) = hflat (es ++ [e']) := by
 have hlen : (es ++ [e']).length = (es ++ [e]).length := by simp
 rw [Array.toList_setIfInBounds, List.take_set, hlen, ht, hflat_snoc, hflat_snoc, List.set_append_right _ _ (by rw [hflat_length]; omega), hflat_length]
 rw [← hu]
 congr 2
 omega
/-- The last hunk's edits have grown (w to w1), and are stored. -/
theorem Hks.later (H : Hks base w v (hs ++ [h])) {g cap n : Nat} (hv : v = .slice (some ⟨g, 0, none⟩) n cap) (hg : w.grownBy w1 h.v.ownBlock) (hl : Scr base w1 v1 es) (hp : ∀ p ∈ hs, Ap p ⟨h.fr, h.tt, v1, es⟩) :
  Hks base (w1.setCell ⟨g, hs.length * 3 + 2, none⟩ v1) v (hs ++ [⟨h.fr, h.tt, v1, es⟩]) ∧ w1.cell? ⟨g, hs.length * 3 + 2, none⟩ = some h.v ∧ w1.frozen? ⟨g, hs.length * 3 + 2, none⟩ = false := by
 obtain ⟨g', cap', cur, hv', hg', hh, hc1, hc2, hc3, ht⟩ := H.form
 have hgg : g' = g := by
  rw [hv'] at hv
  injection hv with h1 h2 h3
  injection h1 with h1
  injection h1 with h1
 subst hgg
 have hne : some g' ≠ h.v.ownBlock := own_ne (H.2.1 h (by simp)).1 hh (by decide)
 have hh1 := blk_grown hh hg hne
 refine ⟨⟨?_, fun p hp' => ?_, List.pairwise_append.2 ⟨(List.pairwise_append.1 H.2.2).1, List.pairwise_singleton _ _, fun q hq r hr => by rw [List.mem_singleton.1 hr]; exact hp q hq⟩⟩, (blk_cell hh1 _).trans (hcur_get ht 2 (by omega)), blk_frozen hh1 _⟩
 ·refine ⟨hflat_length _, .inr ⟨g', cap', cur.setIfInBounds (hs.length * 3 + 2) v1, ?_, hg', blk_set hh1 _ v1, ?_, hc2, by rw [Array.size_setIfInBounds]; exact hc3, hset_take ht 2 v1 rfl (by omega)⟩⟩
  ·rw [hv']; simp
  ·simpa using hc1
 ·have hL : Scr base w1 p.v p.es := by
   rcases List.mem_append.1 hp' with hp' | hp'
   ·have ap := (List.pairwise_append.1 H.2.2).2.2 p hp' h (by simp)
    exact Scr.other (H.2.1 p (List.mem_append_left _ hp')) hg (fun k hk e => ap k (.inl hk) (.inl e)) (fun d hd k hk e => ap k (.inr ⟨d, hd, hk⟩) (.inl e))
   ·rw [List.mem_singleton.1 hp']; exact hl
  exact ⟨own_setCell hL.1 (own_ne hL.1 hh1 (by decide)) v1, fun e he => own_setCell (hL.2.1 e he) (own_ne (hL.2.1 e he) hh1 (by decide)) v1, hL.2.2⟩
theorem Hks.place (H : Hks base w v hs) : ∃ f : Nat → Nat, ∀ j h k, hs[j]? = some h → h.has k → f k = j := by
 classical
 have hi : ∀ (i j : Nat) (p q : Hd) (k : Nat), hs[i]? = some p → hs[j]? = some q → p.has k → q.has k → i = j := by
  intro i j p q k hp hq hk hk'
  obtain ⟨h1, rfl⟩ := List.getElem?_eq_some_iff.1 hp
  obtain ⟨h2, rfl⟩ := List.getElem?_eq_some_iff.1 hq
  have hpw := List.pairwise_iff_getElem.1 H.2.2
  rcases Nat.lt_trichotomy i j with hlt | heq | hlt
  ·exact absurd hk' (hpw i j h1 h2 hlt k hk)
  ·exact heq
  ·exact absurd hk (hpw j i h2 h1 hlt k hk')
 refine ⟨fun k => if hk : ∃ j : Nat, ∃ e : Hd, hs[j]? = some e ∧ e.has k then hk.choose else 0, fun j e k hj hk => ?_⟩
 have hh : ∃ j' : Nat, ∃ e' : Hd, hs[j']? = some e' ∧ e'.has k := ⟨j, e, hj, hk⟩
 show (if hk : ∃ j' : Nat, ∃ e' : Hd, hs[j']? = some e' ∧ e'.has k then hk.choose else 0) = j
 rw [dif_pos hh]
 obtain ⟨e', h1, h2⟩ := hh.choose_spec
 exact hi _ _ _ _ _ h1 hj h2 hk
theorem hflat_seg (es : List Hd) : ∀ (j : Nat) (e : Hd), es[j]? = some e → ((hflat es).drop (j * 3)).take 3 = e.cells := by
 induction es with
 | nil => intro j e h; simp at h
 | cons x es ih =>
  intro j e h
  cases j with
  | zero =>
   simp at h
   subst h
   simp [hflat, Hd.cells]
  | succ j =>
   have h1 := ih j e (by simpa using h)
   rw [← h1]
   have e1 : (j + 1) * 3 = 3 + j * 3 := by omega
   rw [e1, ← List.drop_drop]
   congr 1
theorem Scr.toR (h : Scr base w v es) {ok : Nat → Prop} (h1 : ∀ k, v.ownBlock = some k → ok k) (h2 : ∀ e ∈ es, ∀ k, e.v.ownBlock = some k → ok k) : Kd.R k31 31 w base ok v (es.map Ed.plain) := by
 refine ⟨h1, flat es, ?_, ?_⟩
 ·rw [List.length_map]; exact h.1
 ·refine ⟨by rw [List.length_map]; exact flat_length es, fun j pj hj => ?_⟩
  rw [List.getElem?_map] at hj
  obtain ⟨q, hq, rfl⟩ := Option.map_eq_some_iff.1 hj
  have hqm : q ∈ es := List.mem_of_getElem? hq
  show Kd.M k31 w base _ q.plain (((flat es).drop (j * 3)).take 3)
  rw [flat_seg es j q hq]
  exact k31_mkM w base _ q.plain (Kd.R_of_own (h.2.1 q hqm) (fun k hk => ⟨h2 q hqm k hk, fun he => h.lines_ne hqm k hk he.symm⟩))
/-- At the end: as hunks that lie apart. -/
theorem Hks.toS (H : Hks base w v hs) : Kd.S k28 28 w base (fun _ => True) v (hs.map Hd.plain) := by
 obtain ⟨f, hf⟩ := H.place
 refine ⟨f, fun _ _ => trivial, hflat hs, ?_, ?_⟩
 ·rw [List.length_zipIdx, List.length_map]; exact H.1
 ·refine ⟨by rw [List.length_zipIdx, List.length_map]; exact hflat_length hs, fun j pj hj => ?_⟩
  rw [List.getElem?_zipIdx, List.getElem?_map] at hj
  obtain ⟨r, hr, rfl⟩ := Option.map_eq_some_iff.1 hj
  obtain ⟨q, hq, rfl⟩ := Option.map_eq_some_iff.1 hr
  have hqm : q ∈ hs := List.mem_of_getElem? hq
  have nv : ∀ k, q.has k → some k ≠ v.ownBlock := by
   intro k hk e
   obtain ⟨c1, h1⟩ := own_typed H.1 k e.symm
   obtain ⟨t, c2, ht, h2⟩ := (H.has_typed hqm hk).2.2
   rw [h1] at h2
   injection h2 with h2
   injection h2 with _ h2 _
   rcases ht with ht | ht <;> rw [ht] at h2 <;> exact absurd h2 (by decide)
  show Kd.M k28 w base _ q.plain (((hflat hs).drop (j * 3)).take 3)
  rw [hflat_seg hs j q hq]
  refine k28_mkM w base _ q.plain (Scr.toR (H.2.1 q hqm) (fun k hk => ⟨⟨trivial, nv k (.inl hk)⟩, ?_⟩) (fun e he k hk => ⟨⟨trivial, nv k (.inr ⟨e, he, hk⟩)⟩, ?_⟩))
  ·rw [hf j q k hq (.inl hk)]; simp
  ·rw [hf j q k hq (.inr ⟨e, he, hk⟩)]; simp
end
end Go.Proofs.Ytgobidmfbjmpkaa.HHunks
end
section
set_option linter.unusedVariables false
namespace Go.Proofs.Ytgobidmfbjmpkaa.HHunks
open Go Go.RowKit Go.Proofs.YtgobidmfbjmpkaaW.PrintWords Go.Proofs.YtgobidmfbjmpkaaW.PrintLast Go.Proofs.YtgobidmfbjmpkaaW.PrintMore Go.Proofs.Ytgobidmfbjmpkaa.P Go.Proofs.Ytgobidmfbjmpkaa.HEdits
section
variable {base : Nat} {w w' w1 w2 : World} {v v1 : Value} {hs : List Hd} {h : Hd} {es : List Ed}
theorem flat_app (es more : List Ed) : flat (es ++ more) = flat es ++ flat more := by simp [flat]
/-- A script that has grown by some edits. -/
theorem Scr.add (H : Scr base w2 v es) {more : List Ed} (hn : w1.ownsRow base 31 3 v1 (es.length + more.length) (flat es ++ flat more)) (hg : w2.grownBy w1 v.ownBlock)
  (hl : ∀ e ∈ more, Lns base w2 e.v e.l) (hf : ∀ p ∈ es, ∀ e ∈ more, NeRow p.v e.v) (hp : more.Pairwise fun p q => NeRow p.v q.v) : Scr base w1 v1 (es ++ more) := by
 refine ⟨by rw [flat_app, List.length_append]; exact hn, fun p hp' => ?_, List.pairwise_append.2 ⟨H.2.2, hp, hf⟩⟩
 have hL : Lns base w2 p.v p.l := by
  rcases List.mem_append.1 hp' with hp' | hp'
  ·exact H.2.1 p hp'
  ·exact hl p hp'
 exact own_other hL hg (own_type_ne hL H.1 (by decide))
/-- The last hunk's edits have grown, and are stored. -/
theorem Hks.addLast (H : Hks base w2 v (hs ++ [h])) {g cap n : Nat} (hv : v = .slice (some ⟨g, 0, none⟩) n cap) {more : List Ed}
  (hn : w1.ownsRow base 31 3 v1 (h.es.length + more.length) (flat h.es ++ flat more)) (hg : w2.grownBy w1 h.v.ownBlock) (hat : v1.ownBlock = h.v.ownBlock ∨ ∃ b, v1.ownBlock = some b ∧ w2.heap.size ≤ b)
  (hl : ∀ e ∈ more, Lns base w2 e.v e.l) (hf : ∀ e ∈ more, ∀ k, e.v.ownBlock = some k → ¬ has v (hs ++ [h]) k) (hp : more.Pairwise fun p q => NeRow p.v q.v) :
  Hks base (w1.setCell ⟨g, hs.length * 3 + 2, none⟩ v1) v (hs ++ [⟨h.fr, h.tt, v1, h.es ++ more⟩]) ∧ w1.cell? ⟨g, hs.length * 3 + 2, none⟩ = some h.v ∧ w1.frozen? ⟨g, hs.length * 3 + 2, none⟩ = false := by
 have hm : h ∈ hs ++ [h] := by simp
 have S1 : Scr base w1 v1 (h.es ++ more) := Scr.add (H.2.1 h hm) hn hg hl (fun p hp' e he k hk hk' => hf e he k hk' (.inr ⟨h, hm, .inr ⟨p, hp', hk⟩⟩)) hp
 refine H.later hv hg S1 (fun p hp' k hk hk' => ?_)
 have ap := (List.pairwise_append.1 H.2.2).2.2 p hp' h (by simp)
 have hpm : p ∈ hs ++ [h] := List.mem_append_left _ hp'
 have hlt : k < w2.heap.size := (H.has_typed hpm hk).2.1
 rcases hk' with hk' | ⟨e, he, hk'⟩
 ·replace hk' : v1.ownBlock = some k := hk'
  rcases hat with h1 | ⟨b, h1, h2⟩
  ·exact ap k hk (.inl (h1.symm.trans hk'))
  ·rw [h1] at hk'; cases hk'; omega
 ·replace he : e ∈ h.es ++ more := he
  rcases List.mem_append.1 he with he | he
  ·exact ap k hk (.inr ⟨e, he, hk'⟩)
  ·exact hf e he k hk' (.inr ⟨p, hpm, hk⟩)
theorem plain_snoc (hs : List Hd) (h : Hd) : (hs ++ [h]).map Hd.plain = hs.map Hd.plain ++ [h.plain] := by simp
end
end Go.Proofs.Ytgobidmfbjmpkaa.HHunks
end
section
set_option linter.unusedVariables false
namespace Go.Proofs.Ytgobidmfbjmpkaa.P
open Go Go.RowKit Go.Proofs.YtgobidmfbjmpkaaW.PrintWords Go.Proofs.YtgobidmfbjmpkaaW.PrintLast Go.Proofs.YtgobidmfbjmpkaaW.PrintMore Go.Proofs.Ytgobidmfbjmpkaa.HEdits
/-- A script with an edit more. -/
def join1 (s : List S31) (e : S31) : List S31 := match s.getLast? with
 | some x => if x.f0 = e.f0 then s.dropLast ++ [⟨x.f0, x.f1 + e.f1, x.f2 ++ e.f2⟩] else s ++ [e]
 | none => [e]
def joinL (s ms : List S31) : List S31 := ms.foldl join1 s
theorem join1_nil (e : S31) : join1 [] e = [e] := rfl
theorem join1_snoc (s : List S31) (x e : S31) : join1 (s ++ [x]) e = if x.f0 = e.f0 then s ++ [⟨x.f0, x.f1 + e.f1, x.f2 ++ e.f2⟩] else s ++ [x] ++ [e] := by
 unfold join1
 rw [List.getLast?_concat, List.dropLast_concat]
/-- How much an edit weighs. -/
def wt1 (e : S31) : Nat := e.f1.natAbs + e.f2.length + 1
def wt (s : List S31) : Nat := (s.map wt1).sum
theorem wt_nil : wt [] = 0 := rfl
theorem wt_cons (e : S31) (s : List S31) : wt (e :: s) = wt1 e + wt s := by simp [wt]
theorem wt_app (s t : List S31) : wt (s ++ t) = wt s + wt t := by simp [wt]
theorem wt_len (s : List S31) : s.length ≤ wt s := by
 induction s with
 | nil => exact Nat.le_refl _
 | cons e s ih => rw [wt_cons, List.length_cons]; unfold wt1; omega
theorem wt_mem {s : List S31} {e : S31} (h : e ∈ s) : wt1 e ≤ wt s := by
 induction s with
 | nil => cases h
 | cons x s ih =>
  rw [wt_cons]
  rcases List.mem_cons.1 h with rfl | h
  ·omega
  ·have := ih h; omega
theorem wt_join1 (s : List S31) (e : S31) : wt (join1 s e) ≤ wt s + wt1 e := by
 rcases List.eq_nil_or_concat s with h0 | ⟨t, x, h0⟩
 ·subst h0; rw [join1_nil, wt_cons, wt_nil]; omega
 ·rw [List.concat_eq_append] at h0
  subst h0
  rw [join1_snoc]
  split
  ·rw [wt_app, wt_app, wt_cons, wt_cons, wt_nil]
   unfold wt1
   simp only [List.length_append]
   omega
  ·rw [wt_app _ [e], wt_cons, wt_nil]; omega
theorem wt_joinL (ms : List S31) : ∀ s, wt (joinL s ms) ≤ wt s + wt ms := by
 induction ms with
 | nil => intro s; exact Nat.le_add_right _ _
 | cons e ms ih =>
  intro s
  have := ih (join1 s e)
  have := wt_join1 s e
  rw [wt_cons]
  show wt (joinL (join1 s e) ms) ≤ _
  omega
theorem joinL_snoc (s ms : List S31) (e : S31) : joinL s (ms ++ [e]) = join1 (joinL s ms) e := by unfold joinL; rw [List.foldl_append]; rfl
theorem joinL_take (s ms : List S31) (i : Nat) (h : i < ms.length) : joinL s (ms.take (i + 1)) = join1 (joinL s (ms.take i)) (rd_T31 ms (i : Int)) := by
 have e : ms[i]? = some (rd_T31 ms (i : Int)) := by simp [rd_T31, List.getD_eq_getElem?_getD, List.getElem?_eq_getElem h]
 rw [List.take_add_one, e]
 exact joinL_snoc _ _ _
theorem wt_take (ms : List S31) (i : Nat) : wt (ms.take i) ≤ wt ms := by
 have h : wt ms = wt (ms.take i) + wt (ms.drop i) := by rw [← wt_app, List.take_append_drop]
 omega
theorem wt_step (ms : List S31) (i : Nat) (h : i < ms.length) : wt (ms.take i) + wt1 (rd_T31 ms (i : Int)) ≤ wt ms := by
 have e : ms[i]? = some (rd_T31 ms (i : Int)) := by simp [rd_T31, List.getD_eq_getElem?_getD, List.getElem?_eq_getElem h]
 have h1 := wt_take ms (i + 1)
 rw [List.take_add_one, e, wt_app] at h1
 simp only [Option.toList, wt_cons, wt_nil] at h1
 omega
/-! ### What stays -/
/-- The blocks of a script. -/
def hasS (v : Value) (es : List Ed) (k : Nat) : Prop := v.ownBlock = some k ∨ ∃ e ∈ es, e.v.ownBlock = some k
/-- All but the script's blocks is as it was. -/
structure Agree (v : Value) (es : List Ed) (w w1 : World) : Prop where
 os : w1.os = w.os
 tape : w1.tape = w.tape
 output : w1.output = w.output
 size : w.heap.size ≤ w1.heap.size
 block : ∀ k, k < w.heap.size → ¬ hasS v es k → w1.heap[k]? = w.heap[k]?
theorem Agree.refl (v : Value) (es : List Ed) (w : World) : Agree v es w w := ⟨rfl, rfl, rfl, Nat.le_refl _, fun _ _ _ => rfl⟩
theorem Agree.grown {v : Value} {es : List Ed} {w w1 w2 : World} {row : Option Nat} (h : Agree v es w w1) (hg : w1.grownBy w2 row) (hr : ∀ k, row = some k → hasS v es k ∨ w.heap.size ≤ k) : Agree v es w w2 :=
 ⟨hg.os.trans h.os, hg.tape.trans h.tape, hg.output.trans h.output, Nat.le_trans h.size hg.size, fun k hk hn => (hg.block k (Nat.lt_of_lt_of_le hk h.size) (fun e => by
  rcases hr k e.symm with h1 | h1
  ·exact hn h1
  ·omega)).trans (h.block k hk hn)⟩
theorem Agree.below {v : Value} {es : List Ed} {w w1 w2 : World} (h : Agree v es w w1) (hb : Below w1.heap.size w1 w2) : Agree v es w w2 :=
 ⟨hb.os.trans h.os, hb.tape.trans h.tape, hb.output.trans h.output, Nat.le_trans h.size hb.size, fun k hk hn => (hb.block k (Nat.lt_of_lt_of_le hk h.size)).trans (h.block k hk hn)⟩
theorem Agree.set {v : Value} {es : List Ed} {w w1 : World} (h : Agree v es w w1) (p : Addr) (u : Value) (hr : hasS v es p.block ∨ w.heap.size ≤ p.block) : Agree v es w (w1.setCell p u) :=
 ⟨h.os, h.tape, h.output, by simpa [World.setCell] using h.size, fun k hk hn => (Below.heap_setCell _ _ _ _ (fun e => by
  subst e
  rcases hr with h1 | h1
  ·exact hn h1
  ·omega)).trans (h.block k hk hn)⟩
/-- Edits that are read, whatever becomes of the script's blocks. -/
structure More (v : Value) (es : List Ed) (A : Option Addr) (ms : List S31) (w : World) : Prop where
 rd : ∀ w1, Agree v es w w1 → Kd.C k31 w1 A ms.length ms
 off : ∀ ad, A = some ad → 0 < ms.length → ad.block < w.heap.size ∧ ¬ hasS v es ad.block
theorem add_block (ad : Addr) (n : Nat) : (ad.add n).block = ad.block := by unfold Addr.add; split <;> rfl
theorem More.at {v : Value} {es : List Ed} {A : Option Addr} {ms : List S31} {w : World} (h : More v es A ms w) (i : Nat) (hi : i < ms.length) :
  ∃ ad A2 c2, A = some ad ∧ (rd_T31 ms (i : Int)).f2.length ≤ c2 ∧ ∀ w1, Agree v es w w1 → w1.cell? (ad.add (i * 3)) = some (.int .i64 (rd_T31 ms (i : Int)).f0) ∧ w1.cell? ⟨(ad.add (i * 3)).block, (ad.add (i * 3)).off + 1, none⟩ = some (.int .i64 (rd_T31 ms (i : Int)).f1) ∧
   w1.cell? ⟨(ad.add (i * 3)).block, (ad.add (i * 3)).off + 2, none⟩ = some (.slice A2 (rd_T31 ms (i : Int)).f2.length c2) ∧ Kd.C Kd.string w1 A2 (rd_T31 ms (i : Int)).f2.length (rd_T31 ms (i : Int)).f2 := by
 obtain ⟨ad, A2, c2, e1, _, _, hy2, hl2, _⟩ := at_T31 (h.rd w (Agree.refl _ _ _)) (i : Int) (by omega) (by omega)
 refine ⟨ad, A2, c2, e1, hl2, fun w1 ha => ?_⟩
 obtain ⟨ad', A2', c2', e1', h0, h1, h2, _, hC⟩ := at_T31 (h.rd w1 ha) (i : Int) (by omega) (by omega)
 rw [e1] at e1'
 obtain rfl := Option.some.inj e1'
 rw [Int.toNat_natCast] at hy2 h0 h1 h2
 obtain ⟨ho1, ho2⟩ := h.off ad e1 (by omega)
 have hcell : w1.cell? ⟨(ad.add (i * 3)).block, (ad.add (i * 3)).off + 2, none⟩ = w.cell? ⟨(ad.add (i * 3)).block, (ad.add (i * 3)).off + 2, none⟩ :=
  World.cell?_of_block (w := w) (by rw [add_block]; exact ha.block _ ho1 ho2)
 rw [hy2, h2] at hcell
 injection hcell with hcell
 injection hcell with q1 q2 q3
 subst q1 q3
 exact ⟨h0, h1, h2, hC⟩
/-- The lines of an edit, as what an append takes. -/
theorem src_of {w : World} {A : Option Addr} {l : List ByteArray} (h : Kd.C Kd.string w A l.length l) : (A = none ∧ l.length = 0) ∨ ∃ ad, A = some ad ∧ ∀ j u, (encs Value.string l)[j]? = some u → w.cell? (ad.add j) = some u := by
 have hr := Kd.reads_of_C (enc := Value.string) (d := ByteArray.empty) (h1 := fun _ => rfl) h
 cases A with
 | none =>
  refine .inl ⟨rfl, ?_⟩
  rcases Nat.eq_zero_or_pos l.length with h0 | h0
  ·exact h0
  ·obtain ⟨ad, e, _⟩ := hr.2.2 h0
   cases e
 | some ad =>
  refine .inr ⟨ad, rfl, fun j u hu => ?_⟩
  have hj : j < l.length := by
   have := (List.getElem?_eq_some_iff.1 hu).1
   simpa [encs] using this
  obtain ⟨ad', e, hc⟩ := hr.2.2 (by omega)
  obtain rfl := Option.some.inj e
  rw [hc j hj]
  simp [encs, List.getElem?_eq_getElem hj] at hu
  rw [← hu, List.getD_eq_getElem?_getD, List.getElem?_eq_getElem hj]
  rfl
/-- What lies below the script is read as it was. -/
theorem More.of_below {v : Value} {es : List Ed} {B : Nat} {w0 w : World} {A : Option Addr} {ms : List S31} (HS : Scr B w v es) (hB : w0.heap.size ≤ B) (hb : Below w0.heap.size w0 w) (hC : Kd.C k31 w0 A ms.length ms) : More v es A ms w := by
 have hn : ∀ k, k < w0.heap.size → ¬ hasS v es k := fun k hk hh => by
  have := (HHunks.Scr.has_typed HS hh).1
  omega
 have sz := hb.size
 refine ⟨fun w1 ha => Kd.C_below hC ⟨ha.os.trans hb.os, ha.tape.trans hb.tape, ha.output.trans hb.output, Nat.le_trans sz ha.size, fun k hk => (ha.block k (by omega) (hn k hk)).trans (hb.block k hk)⟩, fun ad e hp => ?_⟩
 have : ad.block < w0.heap.size := by
  obtain ⟨ad', _, _, e', h0, _⟩ := at_T31 hC 0 (Int.le_refl _) (by omega)
  rw [e] at e'
  obtain rfl := Option.some.inj e'
  have := World.block_lt_of_cell? (w := w0) _ h0
  rwa [add_block] at this
 exact ⟨by omega, hn _ this⟩
theorem Scr.move {base : Nat} {w w1 : World} {v : Value} {es : List Ed} (h : Scr base w v es) (hm : ∀ k, hasS v es k → w1.heap[k]? = w.heap[k]?) : Scr base w1 v es :=
 ⟨own_move h.1 (fun k hk => hm k (.inl hk)), fun e he => own_move (h.2.1 e he) (fun k hk => hm k (.inr ⟨e, he, hk⟩)), h.2.2⟩
/-- A script that lies apart. -/
theorem More.of_scr {v : Value} {es ks : List Ed} {b0 m c : Nat} {X : Option Addr} {w : World} (hS : Scr b0 w (.slice X m c) ks) (hd : ∀ k, hasS (.slice X m c) ks k → ¬ hasS v es k) : More v es X (ks.map Ed.plain) w := by
 have hm : m = ks.length := by
  obtain ⟨A', c', h⟩ := own_slice hS.1
  injection h
 subst hm
 refine ⟨fun w1 ha => ?_, fun ad e _ => ?_⟩
 ·have h1 : Scr b0 w1 (.slice X ks.length c) ks := Scr.move hS (fun k hk => ha.block k (HHunks.Scr.has_typed hS hk).2.1 (hd k hk))
  obtain ⟨A', c', e, _, hC⟩ := Kd.S_reads h1.toS
  rw [List.length_map] at e ⊢
  rw [List.length_map] at hC
  injection e with e1 _ e3
  rw [e1]
  exact hC
 ·have ho : (Value.slice X ks.length c).ownBlock = some ad.block := by rw [e]; rfl
  exact ⟨(HHunks.Scr.has_typed hS (.inl ho)).2.1, hd _ (.inl ho)⟩
end Go.Proofs.Ytgobidmfbjmpkaa.P
end
end
section
/- What scripts and hunks may be, and how many lines they take and make: plain. -/
set_option linter.unusedVariables false
namespace Go.Proofs.Ytgobidmfbjmpkaa.Q
open Go Go.RowKit Go.Proofs.Ytgobidmfbjmpkaa.P Go.Proofs.YtgobidmfbjmpkaaW.PrintWords
abbrev EdS := S31
abbrev HkS := S28
def mayB (op n : Int) (ls : List ByteArray) : Bool := if n < 1 then false else if n > 1048576 then false else if op = 1 then ((ls.length : Int) == 0) else if op = 2 then ((ls.length : Int) == 0) else if op = 3 then ((ls.length : Int) == n) else false
def rightB : Int → List EdS → Bool
 | _, [] => true
 | last, x :: s => if mayB x.f0 x.f1 x.f2 = true then (if x.f0 = last then false else if last = 3 then (if x.f0 = 2 then false else rightB x.f0 s) else rightB x.f0 s) else false
def takes : List EdS → Int
 | [] => 0
 | x :: s => (if x.f0 = 3 then 0 else x.f1) + takes s
def makes : List EdS → Int
 | [] => 0
 | x :: s => (if x.f0 = 2 then 0 else x.f1) + makes s
def chB (s : List EdS) : Bool := s.any (fun x => x.f0 != 1)
def rightH : Bool → Int → Int → List HkS → Bool
 | _, _, _, [] => true
 | f, a, b, x :: t => rightB 0 x.f2 && (chB x.f2 && (decide (0 ≤ x.f0) && (decide (x.f0 ≤ 1048576) && ((if f = true then decide (x.f1 = x.f0) else decide (1 ≤ x.f0 - a) && decide (x.f1 - b = x.f0 - a)) && rightH false (x.f0 + takes x.f2) (x.f1 + makes x.f2) t))))
theorem may_op {op n : Int} {ls : List ByteArray} (h : mayB op n ls = true) : op = 1 ∨ op = 2 ∨ op = 3 := by
 unfold mayB at h
 split at h
 ·cases h
 ·split at h
  ·cases h
  ·split at h
   ·exact .inl (by assumption)
   ·split at h
    ·exact .inr (.inl (by assumption))
    ·split at h
     ·exact .inr (.inr (by assumption))
     ·cases h
theorem rdT {s : List EdS} {i : Nat} {x : EdS} (h : s[i]? = some x) : rd_T31 s (i : Int) = x := by
 unfold rd_T31
 rw [Int.toNat_natCast, List.getD_eq_getElem?_getD, h]; rfl
theorem drop_rd {s : List EdS} {i : Nat} (h : i < s.length) : s.drop i = rd_T31 s (i : Int) :: s.drop (i + 1) := by rw [List.drop_eq_getElem_cons h, rdT (List.getElem?_eq_getElem h)]
theorem drop_rdH {s : List HkS} {i : Nat} (h : i < s.length) : s.drop i = rd_T28 s (i : Int) :: s.drop (i + 1) := by
 rw [List.drop_eq_getElem_cons h]
 congr 1
 unfold rd_T28
 rw [Int.toNat_natCast, List.getD_eq_getElem?_getD, List.getElem?_eq_getElem h]; rfl
end Go.Proofs.Ytgobidmfbjmpkaa.Q
end
section
/- script.may and script.Right: by a walk of their text. -/
set_option linter.unusedVariables false
set_option linter.unusedSimpArgs false
namespace Go.Proofs.Ytgobidmfbjmpkaa.P
open Go Go.RowKit Go.Proofs.YtgobidmfbjmpkaaW.PrintWords Go.Proofs.YtgobidmfbjmpkaaW.PrintLast Go.Proofs.YtgobidmfbjmpkaaW.PrintMore Go.Proofs.Ytgobidmfbjmpkaa.Q
set_option maxHeartbeats 2000000 in
theorem smay_run (op n : Int) (A : Option Addr) (c : Nat) (ls : List ByteArray) (w : World) : Calls Try.prog 54 #[.agg #[.int .i64 op, .int .i64 n, .slice A ls.length c]] w fun e w' => e = .returned (.bool (mayB op n ls)) ∧ Below w.heap.size w w' := by
 go_enter Try.func54, Try.ntmps54
 obtain ⟨W, hW⟩ : ∃ W, W = w.alloc (.cells #[.int .i64 op, .int .i64 n, .slice A ls.length c] 31) := ⟨_, rfl⟩
 have hb : W.heap[w.heap.size]? = some (.cells #[.int .i64 op, .int .i64 n, .slice A ls.length c] 31 (0, 0)) := by rw [hW]; exact heap_alloc_new w _
 have HB := Lib.hid (show Below w.heap.size w W by rw [hW]; exact (Below.refl _ _).alloc (Nat.le_refl _) _)
 have g0 := (blk_cell hb 0).trans (rfl : _ = some (Value.int .i64 op))
 have g1 := (blk_cell hb 1).trans (rfl : _ = some (Value.int .i64 n))
 have g2 := (blk_cell hb 2).trans (rfl : _ = some (Value.slice A ls.length c))
 have HW := Lib.hid hW
 obtain ⟨r, hr⟩ : ∃ r, r = mayB op n ls := ⟨_, rfl⟩
 rw [← hr]
 have HR := Lib.hid hr
 clear hW hb hr
 go_wp2_with (first | rw [← HW.out])
 all_goals
  go_ret
  refine ⟨?_, HB.out⟩
  rw [HR.out]
  congr 2
  unfold mayB
  (repeat' split) <;> first | rfl | (exfalso; simp_all; omega) | (simp_all; done) | (simp_all; omega)
set_option maxRecDepth 100000 in
set_option maxHeartbeats 4000000 in
theorem rights_run (A0 : Option Addr) (c0 : Nat) (l0 : List S31) (w : World) (hr0 : Kd.C k31 w A0 l0.length l0) (hc0 : l0.length ≤ c0) (hl : l0.length ≤ 1000000) : Calls Try.prog 31 #[.slice A0 l0.length c0] w fun e w' => e = .returned (.bool (rightB 0 l0)) ∧ Below w.heap.size w w' := by
 have HR0 := Lib.hid hr0
 have HL := Lib.hid hl
 obtain ⟨r, hr⟩ : ∃ r, r = rightB 0 l0 := ⟨_, rfl⟩
 rw [← hr]
 have HR := Lib.hid hr
 clear hr0 hl hr
 go_enter Try.func31, Try.ntmps31
 go_wp2
 go_loopw [3, 8] (fun v3 v_ wr => ∃ (p : Int) (i : Nat), v3 = .int .i64 p ∧ v_ = .int .i64 (i : Int) ∧ i ≤ l0.length ∧ Hid (r = rightB p (l0.drop i)) ∧ Hid (Below w.heap.size w wr)) (fun _ v_ _ => l0.length - (intOf v_).toNat)
 case atStart => exact ⟨0, 0, rfl, rfl, Nat.zero_le _, HR, Below.refl _ _⟩
 case round =>
  clear HR
  obtain ⟨p, i, rfl, rfl, hi, HI, HB⟩ := hrel
  by_cases ci : i < l0.length
  ·have b0 : decide ((i : Int) < (l0.length : Int)) = true := decide_eq_true (by omega)
   have b1 : decide (i < l0.length) = true := decide_eq_true ci
   have h1 := HI.out
   rw [drop_rd ci] at h1
   obtain ⟨ad, A2, d2, e0, hx0, hx1, hx2, hxl, hxc⟩ := at_T31 HR0.out (i : Int) (by omega) (by omega)
   subst e0
   rw [Int.toNat_natCast] at hx0 hx1 hx2
   obtain ⟨x, hx⟩ : ∃ x, x = rd_T31 l0 (i : Int) := ⟨_, rfl⟩
   rw [← hx] at hx0 hx1 hx2 h1
   have hn := HL.out
   have p0 := eq_true (show 0 ≤ (i : Int) by omega)
   have p1 := eq_true (show (i : Int) < (l0.length : Int) by omega)
   have hin : wrap64 ((i : Int) + 1) = ((i + 1 : Nat) : Int) := by unfold wrap64; omega
   have g0 := (HB.out.cell (World.block_lt_of_cell? _ _ hx0)).trans hx0
   have g1 := (HB.out.cell (World.block_lt_of_cell? _ _ hx1)).trans hx1
   have g2 := (HB.out.cell (World.block_lt_of_cell? _ _ hx2)).trans hx2
   obtain ⟨b, hb⟩ : ∃ b, b = mayB x.f0 x.f1 x.f2 := ⟨_, rfl⟩
   have HM := Lib.hid hb
   have key : ∃ c1 c2 c3, (x.f0 == p) = c1 ∧ (p == 3) = c2 ∧ (x.f0 == 2) = c3 ∧ ((b = false ∧ r = false) ∨ (b = true ∧ c1 = true ∧ r = false) ∨ (b = true ∧ c1 = false ∧ c2 = true ∧ c3 = true ∧ r = false) ∨ (b = true ∧ c1 = false ∧ c2 = true ∧ c3 = false ∧ Hid (r = rightB x.f0 (l0.drop (i + 1)))) ∨ (b = true ∧ c1 = false ∧ c2 = false ∧ Hid (r = rightB x.f0 (l0.drop (i + 1))))) := by
    refine ⟨_, _, _, rfl, rfl, rfl, ?_⟩
    unfold rightB at h1
    rw [← hb] at h1
    cases b with
    | false => exact .inl ⟨rfl, h1⟩
    | true =>
     rw [if_pos rfl] at h1
     by_cases k1 : x.f0 = p
     ·rw [if_pos k1] at h1
      exact .inr (.inl ⟨rfl, by simp [k1], h1⟩)
     ·rw [if_neg k1] at h1
      by_cases k2 : p = 3
      ·rw [if_pos k2] at h1
       by_cases k3 : x.f0 = 2
       ·rw [if_pos k3] at h1
        exact .inr (.inr (.inl ⟨rfl, by simp [k1], by simp [k2], by simp [k3], h1⟩))
       ·rw [if_neg k3] at h1
        exact .inr (.inr (.inr (.inl ⟨rfl, by simp [k1], by simp [k2], by simp [k3], Lib.hid h1⟩)))
      ·rw [if_neg k2] at h1
       exact .inr (.inr (.inr (.inr ⟨rfl, by simp [k1], by simp [k2], Lib.hid h1⟩)))
   clear hx h1 hx0 hx1 hx2 hxl hxc HI hb
   obtain ⟨c1, c2, c3, k1, k2, k3, hk⟩ := key
   obtain ⟨X, hX⟩ : ∃ X, X = wr.alloc (.cells #[.int .i64 x.f0, .int .i64 x.f1, .slice A2 x.f2.length d2] 31) := ⟨_, rfl⟩
   have hbx : X.heap[wr.heap.size]? = some (.cells #[.int .i64 x.f0, .int .i64 x.f1, .slice A2 x.f2.length d2] 31 (0, 0)) := by rw [hX]; exact heap_alloc_new wr _
   have HX := Lib.hid hX
   have n_ := Lib.hid (below_step HB.out (show Below wr.heap.size wr X by rw [hX]; exact (Below.refl _ _).alloc (Nat.le_refl _) _))
   clear HB hX
   have HB := n_
   clear n_
   have HBX := Lib.hid hbx
   have q0 := (blk_cell HBX.out 0).trans (rfl : _ = some (Value.int .i64 x.f0))
   have q1 := (blk_cell HBX.out 1).trans (rfl : _ = some (Value.int .i64 x.f1))
   have q2 := (blk_cell HBX.out 2).trans (rfl : _ = some (Value.slice A2 x.f2.length d2))
   clear hbx
   rcases hk with ⟨rfl, rfl⟩ | ⟨rfl, rfl, rfl⟩ | ⟨rfl, rfl, rfl, rfl, rfl⟩ | ⟨rfl, rfl, rfl, rfl, HN⟩ | ⟨rfl, rfl, rfl, HN⟩
   all_goals go_wp2_with (first | rw [← HX.out] | (go_at_call 54; refine (smay_run x.f0 x.f1 A2 d2 x.f2 _).mono ?_; rintro e W1 ⟨rfl, hb⟩; rw [← HM.out]; have n_ := Lib.hid (below_step HB.out hb); clear HB; have HB := n_; clear n_; have n_ := Lib.hid (blk_below HBX.out hb); clear HBX; have HBX := n_; clear n_ hb q0 q1 q2; have q0 := (blk_cell HBX.out 0).trans (rfl : _ = some (Value.int .i64 x.f0)); have q1 := (blk_cell HBX.out 1).trans (rfl : _ = some (Value.int .i64 x.f1)); have q2 := (blk_cell HBX.out 2).trans (rfl : _ = some (Value.slice A2 x.f2.length d2))))
   all_goals first | (go_ret; exact ⟨rfl, HB.out⟩) | (rw [hin]; exact ⟨⟨x.f0, i + 1, rfl, rfl, ci, HN, HB⟩, by simp [intOf]; omega⟩) | exact ⟨⟨x.f0, i + 1, rfl, rfl, ci, HN, HB⟩, by simp [intOf]; omega⟩
  ·have b0 : decide ((i : Int) < (l0.length : Int)) = false := decide_eq_false (by omega)
   have b1 : decide (i < l0.length) = false := decide_eq_false ci
   have hn : r = true := by have := HI.out; rw [List.drop_of_length_le (by omega)] at this; exact this
   go_wp2
   go_ret
   exact ⟨by rw [hn]; rfl, HB.out⟩
def script_Right.f (k : Nat) (l0 : List S31) : Option Bool := if l0.length ≤ 1000000 then some (rightB 0 l0) else none
theorem script_Right.calls (k : Nat) (A0 : Option Addr) (c0 : Nat) (l0 : List S31) (r : Bool) (w : World) (hr0 : Kd.C k31 w A0 l0.length l0) (hc0 : l0.length ≤ c0) (h : script_Right.f k l0 = some r) :
  Calls Try.prog 31 #[.slice A0 l0.length c0] w fun e w' => e = .returned (.bool r) ∧ Below w.heap.size w w' := by
 unfold script_Right.f at h
 split at h
 ·obtain rfl := Option.some.inj h
  exact rights_run A0 c0 l0 w hr0 hc0 (by assumption)
 ·cases h
end Go.Proofs.Ytgobidmfbjmpkaa.P
namespace Go.Proofs.Ytgobidmfbjmpkaa.Q
open Go Go.RowKit Go.Proofs.Ytgobidmfbjmpkaa.P Go.Proofs.YtgobidmfbjmpkaaW.PrintWords
theorem right_ev (s : List EdS) (hs : s.length ≤ 1000000) : Ev (fun k => script_Right.f k s) (rightB 0 s) := ⟨0, fun k _ => if_pos hs⟩
end Go.Proofs.Ytgobidmfbjmpkaa.Q
end
section
/- Words of this session that make printed walks shorter: side conditions by rote. -/
set_option linter.unusedVariables false
namespace Go.Proofs.Ytgobidmfbjmpkaa.P
open Go Go.RowKit Go.Proofs.YtgobidmfbjmpkaaW.PrintWords Go.Proofs.YtgobidmfbjmpkaaW.PrintLast Go.Proofs.YtgobidmfbjmpkaaW.PrintMore
section
variable {P : Program} {ops : Array Oper} {Q : Exit → Act → World → Prop} {md : Region.Mode} {S : World → Prop} {ds : List Nat}
/-- pure_, its side conditions by rote. -/
theorem pu_ {i : Nat} {N : Option Tmp} {oi : Oper} {v : Value} {fuel : Nat} {l : Array Bool} {a : Act} {w : World} {a' : Act} (hc : anyB md ops l (l.setIfInBounds i true) i = true)
    (h : wpAnyLast P md ops Q S ds fuel (l.setIfInBounds i true) a' w)
    (hi : ops[i]? = some oi := by rfl) (hN : oi.dst = N := by rfl) (hQ : ∀ c a w, Q (.panic c) (a.put oi.dst v) w → Q (.panic c) a w := by exact fun _ _ _ h => h)
    (hw : Region.wanted oi (yielded ops a.tmps) = true := by rfl) (hy : ∀ w, (execOp a.eval oi).run P w = .ok (.value v) w := by intro w'; go_simp; with_reducible rfl)
    (ha : a.put N v = a' := by simp only [Act.put, List.setIfInBounds_toArray, List.set_cons_zero, List.set_cons_succ, i64_w, i32_w]; rfl) : wpAnyLast P md ops Q S ds (fuel + 1) l a w :=
  pure_ _ hi hN hc hQ (.inl ⟨hw, hy⟩) ha h
/-- pure_ of one that its guard lets out. -/
theorem ps_ {i : Nat} {N : Option Tmp} {oi : Oper} {fuel : Nat} {l : Array Bool} {a : Act} {w : World} {a' : Act} (hc : anyB md ops l (l.setIfInBounds i true) i = true)
    (h : wpAnyLast P md ops Q S ds fuel (l.setIfInBounds i true) a' w)
    (hi : ops[i]? = some oi := by rfl) (hN : oi.dst = N := by rfl) (hQ : ∀ c a w, Q (.panic c) (a.put oi.dst undef) w → Q (.panic c) a w := by exact fun _ _ _ h => h)
    (hw : Region.wanted oi (yielded ops a.tmps) = false := by rfl)
    (ha : a.put N undef = a' := by simp only [Act.put, List.setIfInBounds_toArray, List.set_cons_zero, List.set_cons_succ, i64_w, i32_w]; rfl) : wpAnyLast P md ops Q S ds (fuel + 1) l a w :=
  pure_ _ hi hN hc hQ (.inr ⟨hw, rfl⟩) ha h
/-- take_, its side conditions by rote. -/
theorem ta_ {i : Nat} {N : Option Tmp} {oi : Oper} {v : Value} {fuel : Nat} {l : Array Bool} {a : Act} {w : World} {a' : Act} (hc : takeB md ops ds l (l.setIfInBounds i true) i = true) (hS : S w)
    (h : wpAnyLast P md ops Q S ds fuel (l.setIfInBounds i true) a' w)
    (hi : ops[i]? = some oi := by rfl) (hN : oi.dst = N := by rfl) (hQ : ∀ c a w, Q (.panic c) (a.put oi.dst v) w → Q (.panic c) a w := by exact fun _ _ _ h => h)
    (hw : Region.wanted oi (yielded ops a.tmps) = true := by rfl) (hy : ∀ w, S w → (execOp a.eval oi).run P w = .ok (.value v) w := by intro w' hs_; (try dsimp only at hs_); go_simp; with_reducible rfl)
    (ha : a.put N v = a' := by simp only [Act.put, List.setIfInBounds_toArray, List.set_cons_zero, List.set_cons_succ, i64_w, i32_w]; rfl) : wpAnyLast P md ops Q S ds (fuel + 1) l a w :=
  take_ _ hi hN hc hQ (.inl ⟨hw, hy⟩) hS ha h
end
theorem hb_ {p : Prop} (h : p := by repeat (first | (with_reducible first | exact HB.out | apply below_alloc | apply pw_below_drewN | apply below_drew1) | exact HB.out)) : p := h
theorem as_ {p : Prop} (h : p := by first | (with_reducible assumption) | assumption) : p := h
theorem mp_ {p : Prop} (h : p := by (try simp only [List.map_toArray, List.map_cons, List.map_nil]); first | done | rfl | (simp only [List.length_drop, List.length_take]; rfl)) : p := h
theorem kr_ {p : Prop} (h : p := by kernel_rfl) : p := h
theorem rf_ {p : Prop} (h : p := by first | rfl | (simp; done) | (simp [*]; done)) : p := h
end Go.Proofs.Ytgobidmfbjmpkaa.P
end
section
/- Laid for this claim by hp.py, this session's program round the kit's print: functions of the program as plain Lean functions, the proofs that the code comes to their answers, and the rows of the laws. Not trusted: Lean checks it. -/
namespace Go.Proofs.Ytgobidmfbjmpkaa.P
open Go.RowKit Go.Proofs.YtgobidmfbjmpkaaW.PrintWords Go.Proofs.YtgobidmfbjmpkaaW.PrintLast Go.Proofs.YtgobidmfbjmpkaaW.PrintMore
attribute [local go_sem] max2_int min2_int max_two min_two max_three min_three max_four min_four   -- for this text's walks alone
set_option linter.unusedVariables false
set_option linter.unusedSimpArgs false

/-! ### hunks_owned_string: function 34 -/
def hunks_owned_string.f (l0 : List ByteArray) : Option (List ByteArray) := if ([] : List ByteArray).length + l0.length < 8796093022208 then (some (([] : List ByteArray) ++ l0)) else (none)
set_option maxHeartbeats 8000000 in
set_option maxRecDepth 100000 in
theorem hunks_owned_string.calls (A0 : Option Addr) (c0 : Nat) (l0 : List ByteArray) (r : List ByteArray) (w : World) (hr0 : Kd.C Kd.string w A0 l0.length l0) (hc0 : l0.length ≤ c0) (h : hunks_owned_string.f l0 = some r) :
  Calls Try.prog 34 #[.slice A0 l0.length c0] w fun e w' => ∃ v0_ : Value, e = .returned (v0_) ∧ Kd.R Kd.string 9 w' w.heap.size (fun _ => True) v0_ r ∧ Below w.heap.size w w' := by
 have HR0 := Aside0.mk hr0
 have HC0 := Aside0.mk hc0
 clear hr0 hc0
 have HB := Aside0.mk (Below.refl w.heap.size w)
 have H : (if ([] : List ByteArray).length + l0.length < 8796093022208 then (some (([] : List ByteArray) ++ l0)) else (none)) = some r := h
 clear h
 by_cases c2 : ([] : List ByteArray).length + l0.length < 8796093022208
 ·rw [if_pos c2] at H
  have LMc2 := Aside0.mk c2
  clear c2
  obtain ⟨y426, hy426⟩ : ∃ y_ : List ByteArray, y_ = (([] : List ByteArray) ++ l0) := ⟨_, rfl⟩
  replace H : (some y426) = some r := by first | (rw [hy426]; with_reducible exact H) | (have H2_ := (Option.bind_some _ _).symm.trans H; rw [hy426]; with_reducible exact H2_) | (have H2_ := (Option.bind_some _ _).symm.trans H; with_reducible exact H2_) | with_reducible exact H | (rw [hy426]; exact H) | exact H
  have Ny426 := Aside0.mk hy426
  clear hy426
  obtain rfl := Option.some.inj H
  go_enter Try.func34, Try.ntmps34
  go_wp2_with (first | ((with_reducible refine gate_builtin (b := .append) (xs := #[.const (.slice none 0 0), .tmp 3]) rfl ?_); at_builtin; refine Kd.R_append_rows Kd.string (w0 := w) w.heap.size rfl (.const (.slice none 0 0)) (.tmp 3) 29 9 (.string ⟨#[]⟩) 16 rfl Try.underlying29 info9 rfl (by decide) (by omega) (.slice none 0 0) ([] : List ByteArray) l0 _ _ _ (fun _ => True) (fun _ => False) rfl rfl ?aO ?aR (fun _ _ h => h) (fun _ h => h.elim) ?aF ?aB ?aS ?aL ?_; (case aR => repeat (first | exact HR0.out | (with_reducible refine Kd.C_alloc ?_ _) | (with_reducible refine Kd.C_drewN ?_ _) | (with_reducible refine Kd.C_drew ?_))); (case aB => exact hb_); (case aF => exact (fun _ _ => trivial)); (case aO => exact ((Kd.R_nil _ _ _ _ (fun _ => True)))); (case aS => exact (below_size hb_)); (case aL => have := LMc2.out; omega); intro v427 w3 ho hb hg hat; rw [← Ny426.out] at ho; have n0_ := Aside0.mk (hb); have n1_ := Aside0.mk (ho); clear HB; have HB := n0_; have HO428 := n1_; clear n0_ n1_; clear ho hb hg hat))
  go_ret
  exact ⟨_, by first | rfl | (simp [errW_none, errW_some] <;> rfl) | (simp [*, errW_none, errW_some] <;> rfl), by (with_reducible repeat (first | apply Kd.R_alloc | apply Kd.R_drewN | apply Kd.R_drew)); exact HO428.out, by repeat (first | (with_reducible first | exact HB.out | apply below_alloc | apply pw_below_drewN | apply below_drew1) | exact HB.out)⟩
 ·rw [if_neg c2] at H
  exact absurd H (by simp)

end Go.Proofs.Ytgobidmfbjmpkaa.P
end
