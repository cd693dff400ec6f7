/- A range over a function whose iterator keeps state of its own in one block of cells, and lays a new block ahead of each round (e), which the round must leave as it is. · hunks.parts: the iterator over a script's edits, with how many lines stand ahead on both sides: its promise. -/
import Derived.RangeFuncNested
import Derived.RangeFuncBound
import Derived.Test.YtgobidmfbjmpkaaPx0
import Derived.RangeFuncCalls
import Derived.RangeFuncLeaves
import Derived.Shelf.Abstract
import Derived.Shelf.RegionOpen
import Derived.WalkKit
import Derived.OwnWalkIn
import Derived.TacticsInMore
import Derived.LoopNIn
import Derived.LoopIn
import Derived.Maps.AppendAt
import Derived.RangeFuncBox
import Derived.IntWalk
import Derived.Lib.Hide
import Derived.Outline
section
set_option linter.unusedVariables false
namespace Go.Proofs.Ytgobidmfbjmpkaa.Rng2
open Go Go.RowKit
/-- I minds neither new blocks, nor a turn of the iterator's block st, nor of a block from B on that holds no cells. -/
def Bides {β : Type} (B st : Nat) (I : β → World → Prop) : Prop :=
 ∀ s X Y row, I s X → X.grownBy Y row → (∀ r, row = some r → r = st ∨ (B ≤ r ∧ ∃ o : Obj, X.heap[r]? = some o ∧ o.isCells = false)) → I s Y
theorem Bides.alloc {β : Type} {B st : Nat} {I : β → World → Prop} (h : Bides B st I) {s : β} {W : World} (o : Obj) (hs : I s W) : I s (W.alloc o) :=
 h s W _ none hs (World.grownBy_alloc W o none) (fun r e => by cases e)
theorem Bides.put {β : Type} {B st : Nat} {I : β → World → Prop} (h : Bides B st I) {s : β} {W : World} {l : Nat} {o : Obj} (o' : Obj) (hs : I s W) (hB : B ≤ l) (hl : W.heap[l]? = some o) (ho : o.isCells = false) : I s (W.putObj l o') :=
 h s W _ (some l) hs (grownBy_putObj' W l o') (fun r e => by cases e; exact .inr ⟨hB, o, hl, ho⟩)
/-- What an iterator promises: all comes, in its order, or the rounds have said 'no more'. st: its own block, by the heap's size at its call. -/
def Seq {α : Type} (F : Fence) (n : Nat) (P : Program) (g : Nat) (lb : Array Value) (encs : α → Array Value) (st : Nat → Nat) (Kp : Nat → Nat → World → World → Prop) (all : List α) (w : World) : Prop :=
 ∀ (l : Nat) (J Jx : List α → World → Prop) (W : World), Below w.heap.size w W →
  (∀ s X Y row, J s X → X.grownBy Y row → (∀ r, row = some r → r = st W.heap.size) → J s Y) →
  (∀ s X Y row, Jx s X → X.grownBy Y row → (∀ r, row = some r → r = st W.heap.size) → Jx s Y) →
  (∀ pre x post X0 X b, all = pre ++ x :: post → J pre X0 → X0.grownBy X none → X0.heap.size ≤ b → b < X.heap.size → YieldAt F (n - 1) P l (encs x) X fun e Y =>
   (e = .returned (.bool true) ∧ J (pre ++ [x]) Y ∧ Kp W.heap.size b X Y) ∨ (e = .returned (.bool false) ∧ Jx (pre ++ [x]) Y)) →
  J [] W →
  CallsIn F n P g (#[.func (.yield l) #[] #[]] ++ lb) W fun e Y => (∃ v, e = .returned v) ∧ (J all Y ∨ ∃ pre, pre <+: all ∧ Jx pre Y)
/-- How a round's body may be left. -/
def Left {α : Type} (B : Nat) (Kp : World → World → Prop) (I : List α → World → Prop) (Ix : Code → List α → World → Prop) (xs : List α) (W : World) : Exit → Act → World → Prop
 | .normal, _, Y => KeepsFrom B W Y ∧ Kp W Y ∧ I xs Y
 | .ret, _, Y => KeepsFrom B W Y ∧ Ix .ret xs Y
 | .exit id, _, Y => KeepsFrom B W Y ∧ Ix (.exit id) xs Y
 | .goto t, _, Y => KeepsFrom B W Y ∧ Ix (.goto t) xs Y
 | .panic _, _, _ => False
 | .outgrown, _, _ => False
variable {F : Fence} {n : Nat} {P : Program}
set_option maxHeartbeats 1000000 in
/-- The statement: by the iterator's promise, an invariant I between two rounds, Ix behind a jump, and one walk of the body. -/
theorem range {α : Type} {g : Operand} {ps : Array Tmp} {assign body : Code} {Q : Exit → Act → World → Prop} {a : Act} {w w0 : World} {gf : Nat} {lb : Array Value} {encs : α → Array Value} {st : Nat → Nat} {Kp : Nat → Nat → World → World → Prop} {all : List α}
  (hro : F.round = none) (h1 : 1 ≤ n) (hg : a.eval g = .func (.func gf) #[] lb) (hFg : F.fn gf) (eg : ∀ args w, (callFunc gf args).run P w = .ok (.enter gf args) w)
  (hseq : Seq F (n - 1) P gf lb encs st Kp all w0) (hb0 : Below w0.heap.size w0 w) (hps : ∀ x, (encs x).size = ps.size)
  (hst : st (w.heap.size + 2) ≠ w.heap.size ∧ st (w.heap.size + 2) ≠ w.heap.size + 1)
  (hKt : ∀ {b : Nat} {X Y Z : World}, Kp (w.heap.size + 2) b X Y → Kp (w.heap.size + 2) b Y Z → Kp (w.heap.size + 2) b X Z)
  (hKb : ∀ (b : Nat) (W : World) (l : Nat) (o' : Obj), w.heap.size + 2 ≤ b → (l = w.heap.size ∨ l = w.heap.size + 1) → l < W.heap.size → Kp (w.heap.size + 2) b W (W.putObj l o'))
  (I : List α → World → Prop) (Ie : Nat → List α → World → Prop) (Ix : Code → List α → World → Prop) (hI : Bides w.heap.size (st (w.heap.size + 2)) I) (hIe : ∀ b, Bides w.heap.size (st (w.heap.size + 2)) (Ie b)) (hfresh : ∀ pre X Y b, I pre X → X.grownBy Y none → X.heap.size ≤ b → b < Y.heap.size → Ie b pre Y) (hIx : ∀ c, Bides w.heap.size (st (w.heap.size + 2)) (Ix c)) (h0 : I [] w)
  (Ax : Nat → α → Act → World → Prop) (hAx : ∀ b x a', Bides w.heap.size (st (w.heap.size + 2)) (fun (_ : Unit) W => Ax b x a' W))
  (hassign : ∀ (b l : Nat) (pre : List α) (x : α) (post : List α) (W : World) (K : Act → World → Prop), w.heap.size + 2 ≤ b → all = pre ++ x :: post → Ie b pre W →
   (∀ a' Y, KeepsFrom w.heap.size W Y → Kp (w.heap.size + 2) b W Y → Ie b pre Y → Ax b x a' Y → K a' Y) →
   assign.wpIn (F.inRound l) (n - 1 - 1) P (Exit.then K (fun _ _ _ => False)) { tmps := (ps.zip (encs x)).foldl (fun t (p, v) => t.setIfInBounds p v) a.tmps, defers := [] } W)
  (hbody : ∀ (b l : Nat) (pre : List α) (x : α) (post : List α) (a' : Act) (W : World), w.heap.size + 2 ≤ b → w.heap.size ≤ l → (∃ r, W.heap[l]? = some (.loop r)) → w.heap.size + 1 < W.heap.size → all = pre ++ x :: post → Ie b pre W → Ax b x a' W →
   body.wpIn (F.inRound l) (n - 1 - 1) P (Left w.heap.size (Kp (w.heap.size + 2) b) I Ix (pre ++ [x]) W) a' W)
  (hdone : ∀ (W : World), I all W → W.heap[w.heap.size]? = some (.deferred (some [])) → Q .normal { a with defers := { target := .collected w.heap.size, args := #[] } :: a.defers } W)
  (hstop : ∀ (c : Code) (pre : List α) (W : World), pre <+: all → Ix c pre W → W.heap[w.heap.size]? = some (.deferred (some [])) → c.wpIn F n P Q { a with defers := { target := .collected w.heap.size, args := #[] } :: a.defers } W) :
  (Code.rangeFunc g ps assign body).wpIn F n P Q a w := by
 refine wpIn_rangeFunc fun fn hfn => ?_
 rw [hro]
 obtain ⟨B, hB⟩ : ∃ B, B = w.heap.size := ⟨_, rfl⟩
 rw [← hB] at hst hI hIx hAx hdone hstop
 simp only [← hB] at hKt hKb hIe hassign hbody
 obtain ⟨rc, hrc⟩ : ∃ rc : LoopState → Option Code → Loop, rc = fun s p => { state := s, pending := p, fn, tmps := a.tmps, params := ps, assign, body, defers := B } := ⟨_, rfl⟩
 obtain ⟨V, hV⟩ : ∃ V, (w.alloc (.deferred (some []))).alloc (.loop (rc .ready none)) = V := ⟨_, rfl⟩
 have sz : V.heap.size = B + 2 := by rw [← hV, hB]; simp
 have loopV : V.heap[B + 1]? = some (.loop (rc .ready none)) := by
  have h := World.alloc_heap_new (w.alloc (.deferred (some []))) (.loop (rc .ready none))
  rw [World.size_alloc, ← hB, hV] at h
  exact h
 have defV : V.heap[B]? = some (.deferred (some [])) := by
  rw [← hV, hB]
  exact (Below.heap_alloc _ _ _ (by simp)).trans (World.alloc_heap_new w _)
 have belV : Below w0.heap.size w0 V := by
  rw [← hV]
  exact hb0.trans ((((Below.refl _ w).alloc (Nat.le_refl _) _).alloc (by simp) _).mono hb0.size)
 have IV : I [] V := by rw [← hV]; exact hI.alloc _ (hI.alloc _ h0)
 have ctr := hseq (B + 1)
  (fun pre W => I pre W ∧ W.heap[B + 1]? = some (.loop (rc .ready none)) ∧ W.heap[B]? = some (.deferred (some [])))
  (fun pre W => ∃ c, Ix c pre W ∧ W.heap[B + 1]? = some (.loop (rc .done (some c))) ∧ W.heap[B]? = some (.deferred (some []))) V belV
 rw [sz] at ctr
 have stay : ∀ {X Y : World} {row : Option Nat} {k : Nat} {o : Obj}, (k = B ∨ k = B + 1) → X.grownBy Y row → (∀ r, row = some r → r = st (B + 2)) → X.heap[k]? = some o → Y.heap[k]? = some o := by
  intro X Y row k o hk hg hr ho
  refine (hg.block k (Array.getElem?_eq_some_iff.1 ho).1 fun e => ?_).trans ho
  have h2 := hr k e.symm
  rcases hk with rfl | rfl
  ·exact hst.1 h2.symm
  ·exact hst.2 h2.symm
 have hlB : B ≤ B + 1 := Nat.le_succ _
 refine ⟨B + 1, [{ target := .collected B, args := #[] }], V, { target := .fn (.func gf) lb, args := #[.func (.yield (B + 1)) #[] #[]] }, V, gf, #[.func (.yield (B + 1)) #[] #[]] ++ lb, V, ?_, ?_, ?_, ?_, fun _ => h1, ?_⟩
 ·rw [← hV, hrc, hB]
  exact run_enterLoop_outer _ _ _ _ _
 ·simp only [resolve, hg]
  simp [go_sem]
 ·intro f' hf'
  simp [Target.leads] at hf'
  subst hf'
  exact hFg
 ·simp [invoke, go_sem, eg]
 refine (ctr ?_ ?_ ?_ ⟨IV, loopV, defV⟩).mono ?_
 ·rintro s X Y row ⟨hi, hl, hd⟩ hg hr
  exact ⟨hI s X Y row hi hg (fun r e => .inl (hr r e)), stay (.inr rfl) hg hr hl, stay (.inl rfl) hg hr hd⟩
 ·rintro s X Y row ⟨c, hi, hl, hd⟩ hg hr
  exact ⟨c, hIx c s X Y row hi hg (fun r e => .inl (hr r e)), stay (.inr rfl) hg hr hl, stay (.inl rfl) hg hr hd⟩
 ·rintro pre x post X0 X b hall ⟨hi0, hl0, hd0⟩ hgX hb1 hb2
  have hi : Ie b pre X := hfresh pre X0 X b hi0 hgX hb1 hb2
  have hl := stay (.inr rfl) hgX (fun r e => by cases e) hl0
  have hd := stay (.inl rfl) hgX (fun r e => by cases e) hd0
  have hbB : B + 2 ≤ b := by have := (Array.getElem?_eq_some_iff.1 hl0).1; omega
  have hy := run_yield (P := P) (args := encs x) hl (by rw [hrc]; exact hps x)
  rw [hrc] at hy
  refine ⟨fn, _, assign, body, hy, roundIn_of_wpIn hfn (hassign b _ pre x post X _ hbB hall hi ?_)⟩
  intro a' Y kf kp hi' hax
  have hlY := kf.same _ _ (by omega) hl rfl
  have hdY := kf.same _ _ (by omega) hd rfl
  have ltY : B + 1 < Y.heap.size := (Array.getElem?_eq_some_iff.1 hlY).1
  refine ⟨_, run_beginRound hlY (by rw [hrc]), ?_⟩
  obtain ⟨Z, hZ⟩ : ∃ Z, Y.putObj (B + 1) (.loop { rc .ready none with state := .busy }) = Z := ⟨_, rfl⟩
  rw [hZ]
  have hlZ : Z.heap[B + 1]? = some (.loop { rc .ready none with state := .busy }) := by rw [← hZ]; exact World.putObj_heap_same ltY
  have hdZ : Z.heap[B]? = some (.deferred (some [])) := by rw [← hZ]; exact (World.putObj_heap_other (by omega)).trans hdY
  have iZ : Ie b pre Z := by rw [← hZ]; exact (hIe b).put _ hi' hlB hlY rfl
  have aZ : Ax b x a' Z := by rw [← hZ]; exact (hAx b x a').put (s := ()) _ hax hlB hlY rfl
  have kZ : Kp (B + 2) b X Z := by rw [← hZ]; exact hKt kp (hKb b Y _ _ hbB (.inr rfl) ltY)
  have ltZ : B + 1 < Z.heap.size := (Array.getElem?_eq_some_iff.1 hlZ).1
  refine wpIn_mono (hbody b _ pre x post a' Z hbB hlB ⟨_, hlZ⟩ ltZ hall iZ aZ) ?_
  have fin : ∀ (j : Option Code) (U : World), KeepsFrom B Z U → U.heap[B + 1]? = some (.loop { rc .ready none with state := .busy }) ∧
    (Instr.endRound (B + 1) j).run P U = .ok (.bool j.isNone) (U.putObj (B + 1) (.loop (rc (if j.isNone then .ready else .done) j))) ∧
    (U.putObj (B + 1) (.loop (rc (if j.isNone then .ready else .done) j))).heap[B + 1]? = some (.loop (rc (if j.isNone then .ready else .done) j)) ∧
    (U.putObj (B + 1) (.loop (rc (if j.isNone then .ready else .done) j))).heap[B]? = some (.deferred (some [])) := by
   intro j U kU
   have hlU := kU.same _ _ (by omega) hlZ rfl
   have hdU := kU.same _ _ (by omega) hdZ rfl
   have he := run_endRound (P := P) j hlU
   refine ⟨hlU, ?_, World.putObj_heap_same (Array.getElem?_eq_some_iff.1 hlU).1, (World.putObj_heap_other (by omega)).trans hdU⟩
   rw [hrc] at he ⊢
   exact he
  rintro e a3 U hp
  cases e with
  | normal =>
   obtain ⟨k3, kp3, i3⟩ := hp
   obtain ⟨hlU, he, h5, h6⟩ := fin none U k3
   refine ⟨_, _, he, .inl ⟨rfl, ⟨hI.put _ i3 hlB hlU rfl, h5, h6⟩, ?_⟩⟩
   exact hKt (hKt kZ kp3) (hKb b U _ _ hbB (.inr rfl) (Array.getElem?_eq_some_iff.1 hlU).1)
  | ret =>
   obtain ⟨k3, i3⟩ := hp
   obtain ⟨hlU, he, h5, h6⟩ := fin (some .ret) U k3
   exact ⟨_, _, he, .inr ⟨rfl, .ret, (hIx _).put _ i3 hlB hlU rfl, h5, h6⟩⟩
  | exit id =>
   obtain ⟨k3, i3⟩ := hp
   obtain ⟨hlU, he, h5, h6⟩ := fin (some (.exit id)) U k3
   exact ⟨_, _, he, .inr ⟨rfl, .exit id, (hIx _).put _ i3 hlB hlU rfl, h5, h6⟩⟩
  | goto t =>
   obtain ⟨k3, i3⟩ := hp
   obtain ⟨hlU, he, h5, h6⟩ := fin (some (.goto t)) U k3
   exact ⟨_, _, he, .inr ⟨rfl, .goto t, (hIx _).put _ i3 hlB hlU rfl, h5, h6⟩⟩
  | panic ch => exact hp.elim
  | outgrown => exact hp.elim
 ·rintro e U ⟨⟨v, rfl⟩, h⟩
  rcases h with ⟨hi, hl, hd⟩ | ⟨pre, hpre, c, hi, hl, hd⟩
  ·have he := run_endLoop (P := P) hl (by rw [hrc]; simp)
   rw [hrc] at he
   exact ⟨none, _, he, hdone _ (hI.put _ hi hlB hl rfl) ((World.putObj_heap_other (by omega)).trans hd)⟩
  ·have he := run_endLoop (P := P) hl (by rw [hrc]; simp)
   rw [hrc] at he
   exact ⟨some c, _, he, hstop c pre _ hpre ((hIx c).put _ hi hlB hl rfl) ((World.putObj_heap_other (by omega)).trans hd)⟩
end Go.Proofs.Ytgobidmfbjmpkaa.Rng2
end
section
set_option linter.unusedVariables false
set_option linter.unusedSimpArgs false
namespace Go.Proofs.Ytgobidmfbjmpkaa.Iter
open Go Go.RowKit Go.Shelf Go.Proofs.Ytgobidmfbjmpkaa.Rng2 Go.Proofs.Ytgobidmfbjmpkaa.P Go.Proofs.YtgobidmfbjmpkaaW.PrintWords Go.Proofs.YtgobidmfbjmpkaaW.PrintLast Go.Proofs.YtgobidmfbjmpkaaW.PrintMore
attribute [local go_sem] Oper.semAt_some
theorem w64 {x : Int} (h0 : -9223372036854775808 ≤ x) (h1 : x ≤ 9223372036854775807) : wrap64 x = x := by unfold wrap64; omega
set_option maxHeartbeats 1000000 in
theorem parts_in (F : Fence) (n : Nat) (hF : F.fn 32) (hro : F.round = none) (A : Option Addr) (m c : Nat) (w : World) :
  CallsIn F n Try.prog 32 #[.slice A m c] w fun e w' => e = .returned (.func (.func 55) #[] #[.pointer (some ⟨w.heap.size, 0, none⟩)]) ∧ w' = w.alloc (.cells #[.slice A m c] 26) := by
 refine callsIn_of_wp Try.func32 rfl hF ?_ hro
 simp only [Try.ntmps32, List.size_toArray, List.length_cons, List.length_nil, Nat.reduceAdd, Nat.reduceSub, Array.replicate_succ, Array.replicate_zero, List.push_toArray, List.append_toArray, List.nil_append, List.cons_append]
 gi_wp2
 go_ret
 exact ⟨rfl, rfl⟩
/-- How many lines the first edits stand for on the one side, and on the other. -/
def ahead1 (l : List S31) (i : Nat) : Int := ((l.take i).map fun x => if x.f0 = 3 then 0 else x.f1).sum
def ahead2 (l : List S31) (i : Nat) : Int := ((l.take i).map fun x => if x.f0 = 2 then 0 else x.f1).sum
/-- The lines' value of an edit, read off a world. -/
def lnv (w : World) (ad : Addr) (i : Nat) : Value := (w.cell? ⟨(ad.add (i * 3)).block, (ad.add (i * 3)).off + 2, none⟩).getD undef
def enc (w : World) (ad : Addr) (l : List S31) (i : Nat) : Array Value :=
 #[.agg #[.int .i64 (ahead1 l i), .int .i64 (ahead2 l i)], .agg #[.int .i64 (rd_T31 l (i : Int)).f0, .int .i64 (rd_T31 l (i : Int)).f1, lnv w ad i]]
def Kp (B0 Bs : Nat) (n e : Nat) (X Y : World) : Prop := Y.heap[n]? = X.heap[n]? ∧ Y.heap[Bs]? = X.heap[Bs]? ∧ Below B0 X Y ∧ Y.heap[e]? = X.heap[e]?
def togo (n : Nat) : Value → Nat
 | .int _ i => n - i.toNat
 | _ => 0
theorem ahead_step (l : List S31) (i : Nat) (h : i < l.length) : ahead1 l (i + 1) = ahead1 l i + (if (rd_T31 l (i : Int)).f0 = 3 then 0 else (rd_T31 l (i : Int)).f1) ∧ ahead2 l (i + 1) = ahead2 l i + (if (rd_T31 l (i : Int)).f0 = 2 then 0 else (rd_T31 l (i : Int)).f1) := by
 have e : l[i]? = some (rd_T31 l (i : Int)) := by simp [rd_T31, List.getD_eq_getElem?_getD, List.getElem?_eq_getElem h]
 unfold ahead1 ahead2
 rw [List.take_add_one, e]
 simp
theorem cellOf {B : Nat} {w w' : World} (h : Below B w w') {a : Addr} {v : Value} (hc : w.cell? a = some v) (hB : w.heap.size ≤ B) : w'.cell? a = some v := by
 rw [h.cell (Nat.lt_of_lt_of_le (World.block_lt_of_cell? (w := w) (a := a) hc) hB)]
 exact hc
theorem gset (w : World) (b i : Nat) (v : Value) : w.grownBy (w.setCell ⟨b, i, none⟩ v) (some b) :=
 ⟨rfl, rfl, rfl, by simp [World.setCell], fun k _ hk => Below.heap_setCell _ _ _ _ (fun e => hk (by simp [e]))⟩
theorem set_0 {Y : World} {n t : Nat} {a b : Value} (v : Value) (h : Y.heap[n]? = some (.cells #[a, b] t)) : (Y.setCell ⟨n, 0, none⟩ v).heap[n]? = some (.cells #[v, b] t) := by
 obtain ⟨h1, h2⟩ := Array.getElem?_eq_some_iff.1 h
 simp [World.setCell, h1, Array.getElem_modify, h2]
theorem set_1 {Y : World} {n t : Nat} {a b : Value} (v : Value) (h : Y.heap[n]? = some (.cells #[a, b] t)) : (Y.setCell ⟨n, 1, none⟩ v).heap[n]? = some (.cells #[a, v] t) := by
 obtain ⟨h1, h2⟩ := Array.getElem?_eq_some_iff.1 h
 simp [World.setCell, h1, Array.getElem_modify, h2]
theorem sum_range (l : List Int) (M : Int) (h : ∀ x ∈ l, 0 ≤ x ∧ x ≤ M) : 0 ≤ l.sum ∧ l.sum ≤ l.length * M := by
 induction l with
 | nil => simp
 | cons x l ih =>
  have := h x (by simp)
  have := ih (fun y hy => h y (List.mem_cons_of_mem _ hy))
  rw [List.sum_cons, List.length_cons]
  rw [show ((l.length + 1 : Nat) : Int) * M = l.length * M + M by rw [Int.natCast_add, Int.add_mul]; simp]
  omega
theorem ahead_range (l : List S31) (hl : l.length ≤ 1000000) (hN : ∀ x ∈ l, 0 ≤ x.f1 ∧ x.f1 ≤ 1048576) (i : Nat) : (0 ≤ ahead1 l i ∧ ahead1 l i ≤ 1048576000000) ∧ (0 ≤ ahead2 l i ∧ ahead2 l i ≤ 1048576000000) := by
 have gen : ∀ f : S31 → Int, (∀ x ∈ l, 0 ≤ f x ∧ f x ≤ 1048576) → 0 ≤ ((l.take i).map f).sum ∧ ((l.take i).map f).sum ≤ 1048576000000 := by
  intro f hf
  have h := sum_range ((l.take i).map f) 1048576 (fun x hx => by
   obtain ⟨y, hy, rfl⟩ := List.mem_map.1 hx
   exact hf y (List.mem_of_mem_take hy))
  rw [List.length_map, List.length_take] at h
  have : ((min i l.length : Nat) : Int) ≤ 1000000 := by omega
  omega
 exact ⟨gen _ (fun x hx => by have := hN x hx; split <;> omega), gen _ (fun x hx => by have := hN x hx; split <;> omega)⟩
set_option maxRecDepth 100000 in
set_option maxHeartbeats 2000000 in
theorem parts1_seq (F : Fence) (n : Nat) (hF : F.fn 55) (hro : F.round = none) (hn : 1 ≤ n) (B0 Bs : Nat) (w0 : World) (hB0 : B0 = w0.heap.size) (A : Option Addr) (ad : Addr) (had : ∀ a, A = some a → ad = a) (c : Nat) (l : List S31)
  (hC : Kd.C k31 w0 A l.length l) (hl : l.length ≤ 1000000) (hN : ∀ x ∈ l, 0 ≤ x.f1 ∧ x.f1 ≤ 1048576) (w : World) (hw : Below B0 w0 w) (hb : Boxed w Bs 26 (.slice A l.length c)) :
  Rng2.Seq F n Try.prog 55 #[.pointer (some ⟨Bs, 0, none⟩)] (enc w0 ad l) (fun k => k) (Kp B0 Bs) (List.range l.length) w := by
 intro lp J Jx W hW hJ hJx hY h0
 have hbW : Boxed W Bs 26 (.slice A l.length c) := (hW.block Bs hb.lt).trans hb
 have hwW : Below B0 w0 W := hw.trans (hW.mono (by rw [hB0]; exact hw.size))
 obtain ⟨nB, hnB⟩ : ∃ nB, nB = W.heap.size := ⟨_, rfl⟩
 refine callsIn_of_wp Try.func55 rfl hF ?_ hro
 simp only [Try.ntmps55, List.size_toArray, List.length_cons, List.length_nil, Nat.reduceAdd, Nat.reduceSub, Array.replicate_succ, Array.replicate_zero, List.push_toArray, List.append_toArray, List.nil_append, List.cons_append]
 have hc := (hbW.alloc (.cells #[.int .i64 0, .int .i64 0] 63)).cell
 have gA : ∀ X : World, W.grownBy X none → Below B0 w0 X := fun X hg => hwW.grown hg (by rw [hB0]; exact hwW.size) (fun k e => by cases e)
 gi_wp2
 gi_loopw [8] (fun v wr => ∃ i : Nat, v = .int .i64 (i : Int) ∧ i ≤ l.length ∧ wr.heap[nB]? = some (.cells #[.int .i64 (ahead1 l i), .int .i64 (ahead2 l i)] 63) ∧ Boxed wr Bs 26 (.slice A l.length c) ∧ Below B0 w0 wr ∧ J (List.range i) wr) (fun v wr => togo l.length v)
 case atStart =>
  refine ⟨0, rfl, Nat.zero_le _, ?_, hbW.alloc _, hwW.alloc (by rw [hB0]; exact hwW.size) _, hJ _ _ _ none h0 (World.grownBy_alloc W _ none) (fun r e => by cases e)⟩
  rw [hnB]
  exact World.alloc_heap_new W _
 case round =>
  obtain ⟨i, rfl, hi, hat, hbx, hbel, hJi⟩ := hrel
  by_cases ci : i < l.length
  ·have cb : decide ((i : Int) < (l.length : Int)) = true := decide_eq_true (by omega)
   have p1 : 0 ≤ (i : Int) := by omega
   have q1 : (i : Int) < (l.length : Int) := by omega
   obtain ⟨ad', A2, c2, e1, hy0, hy1, hy2, hl2, hi2⟩ := at_T31 hC (i : Int) p1 q1
   obtain rfl : ad = ad' := had _ e1
   subst e1
   rw [Int.toNat_natCast] at hy0 hy1 hy2
   have hlv : lnv w0 ad i = .slice A2 (rd_T31 l (i : Int)).f2.length c2 := by unfold lnv; rw [hy2]; rfl
   have hx0 := cellOf hbel hy0 (Nat.le_of_eq hB0.symm)
   have hx1 := cellOf hbel hy1 (Nat.le_of_eq hB0.symm)
   have hx2 := cellOf hbel hy2 (Nat.le_of_eq hB0.symm)
   clear hy0 hy1 hy2
   obtain ⟨x, hx⟩ : ∃ x, x = rd_T31 l (i : Int) := ⟨_, rfl⟩
   have hen : enc w0 ad l i = #[.agg #[.int .i64 (ahead1 l i), .int .i64 (ahead2 l i)], .agg #[.int .i64 x.f0, .int .i64 x.f1, .slice A2 x.f2.length c2]] := by unfold enc; rw [hlv, ← hx]
   have hst := ahead_step l i ci
   have hrg := ahead_range l hl hN i
   have hrg1 := ahead_range l hl hN (i + 1)
   rw [← hx] at hx0 hx1 hx2 hl2 hi2 hst
   have HX := Lib.hid hx
   clear hx hl2 hi2
   replace p1 := eq_true p1
   replace q1 := eq_true q1
   have ltn : nB < wr.heap.size := (Array.getElem?_eq_some_iff.1 hat).1
   have HAT := Lib.hid hat
   have HBX := Lib.hid hbx
   clear hat hbx
   obtain ⟨X, hX⟩ : ∃ X, X = wr.alloc (.cells #[.int .i64 x.f0, .int .i64 x.f1, .slice A2 x.f2.length c2] 31) := ⟨_, rfl⟩
   have hgX : wr.grownBy X none := by rw [hX]; exact World.grownBy_alloc wr _ none
   have szX : X.heap.size = wr.heap.size + 1 := by rw [hX]; simp
   have atX : X.heap[nB]? = some (.cells #[.int .i64 (ahead1 l i), .int .i64 (ahead2 l i)] 63) := (hgX.block nB ltn (by simp)).trans HAT.out
   have eX : X.heap[wr.heap.size]? = some (.cells #[.int .i64 x.f0, .int .i64 x.f1, .slice A2 x.f2.length c2] 31) := by rw [hX]; exact World.alloc_heap_new wr _
   have a0 : X.cell? ⟨W.heap.size, 0, none⟩ = some (.int .i64 (ahead1 l i)) := by rw [← hnB]; simp [World.cell?, atX]
   have a1 : X.cell? ⟨W.heap.size, 1, none⟩ = some (.int .i64 (ahead2 l i)) := by rw [← hnB]; simp [World.cell?, atX]
   have a2 : X.cell? ⟨wr.heap.size, 0, none⟩ = some (.int .i64 x.f0) := by simp [World.cell?, eX]
   have a3 : X.cell? ⟨wr.heap.size, 1, none⟩ = some (.int .i64 x.f1) := by simp [World.cell?, eX]
   have a4 : X.cell? ⟨wr.heap.size, 2, none⟩ = some (.slice A2 x.f2.length c2) := by simp [World.cell?, eX]
   have hall : List.range l.length = List.range i ++ i :: (List.range l.length).drop (i + 1) := by
    have h := (List.take_append_drop i (List.range l.length)).symm
    rw [List.drop_eq_getElem_cons (by simpa using ci), List.getElem_range, List.take_range, Nat.min_eq_left (by omega)] at h
    exact h
   obtain ⟨fn, tmps, assign, body, hy, hR⟩ := hY (List.range i) i _ wr X wr.heap.size hall hJi hgX (Nat.le_refl _) (by rw [szX]; omega)
   rw [hen] at hy
   have HALL := Lib.hid hall
   have HS := Lib.hid hst
   have HR1 := Lib.hid hrg
   have HR2 := Lib.hid hrg1
   clear hall hst hrg hrg1 hen hlv
   have HXX := Lib.hid hX
   have HATX := Lib.hid atX
   have HEX := Lib.hid eX
   have HG := Lib.hid hgX
   have HNB := Lib.hid hnB
   clear hX atX eX hgX hnB
   gi_wp2_with (rw [← HXX.out])
   refine hR.mono ?_
   rintro e Y (⟨rfl, hJ3, k1, k2, k3, k4⟩ | ⟨rfl, hJx3⟩)
   ·have yat : Y.heap[W.heap.size]? = some (.cells #[.int .i64 (ahead1 l i), .int .i64 (ahead2 l i)] 63) := by rw [k1, ← HNB.out]; exact HATX.out
    have yeX := k4.trans HEX.out
    have b0 : Y.cell? ⟨W.heap.size, 0, none⟩ = some (.int .i64 (ahead1 l i)) := by simp [World.cell?, yat]
    have b1 : Y.cell? ⟨W.heap.size, 1, none⟩ = some (.int .i64 (ahead2 l i)) := by simp [World.cell?, yat]
    have f0 : Y.frozen? ⟨W.heap.size, 0, none⟩ = false := by simp [World.frozen?, yat]
    have f1 : Y.frozen? ⟨W.heap.size, 1, none⟩ = false := by simp [World.frozen?, yat]
    have b2 : Y.cell? ⟨wr.heap.size, 0, none⟩ = some (.int .i64 x.f0) := by simp [World.cell?, yeX]
    have b3 : Y.cell? ⟨wr.heap.size, 1, none⟩ = some (.int .i64 x.f1) := by simp [World.cell?, yeX]
    have BSlt := hbW.lt
    have B0le : B0 ≤ W.heap.size := by rw [hB0]; exact hwW.size
    have yb : Boxed Y Bs 26 (.slice (some ad) l.length c) := k2.trans ((HG.out.block Bs HBX.out.lt (by simp)).trans HBX.out)
    have ybel : Below B0 w0 Y := (hbel.grown HG.out (by rw [hB0]; exact hbel.size) (fun k e => by cases e)).trans k3
    have FIN := Lib.hid (show ∀ Z : World, Z.heap[W.heap.size]? = some (.cells #[.int .i64 (ahead1 l (i + 1)), .int .i64 (ahead2 l (i + 1))] 63) → Y.grownBy Z (some W.heap.size) →
      (∃ i_1 : Nat, Value.int .i64 ((i : Int) + 1) = Value.int .i64 (i_1 : Int) ∧ i_1 ≤ l.length ∧ Z.heap[nB]? = some (.cells #[.int .i64 (ahead1 l i_1), .int .i64 (ahead2 l i_1)] 63) ∧ Boxed Z Bs 26 (.slice (some ad) l.length c) ∧ Below B0 w0 Z ∧ J (List.range i_1) Z) ∧ togo l.length (Value.int .i64 ((i : Int) + 1)) < togo l.length (Value.int .i64 (i : Int)) from fun Z hz hg => by
     refine ⟨⟨i + 1, by simp, ci, by rw [HNB.out]; exact hz, yb.kept hg (by simp; omega), ybel.grown hg (by rw [hB0]; exact ybel.size) (fun k e => by cases e; exact B0le), ?_⟩, ?_⟩
     ·rw [List.range_succ]
      exact hJ _ _ _ _ hJ3 hg (fun r e => by cases e; rfl)
     ·simp only [togo]
      rw [show ((i : Int) + 1).toNat = i + 1 by omega, Int.toNat_natCast]
      omega)
    have ne1 : W.heap.size ≠ wr.heap.size := by rw [← HNB.out]; omega
    have ne2 : wr.heap.size ≠ W.heap.size := ne1.symm
    have YAT := Lib.hid yat
    have YEX := Lib.hid yeX
    have hw1 : wrap64 (ahead1 l i + x.f1) = ahead1 l i + x.f1 := by
     have := HR1.out; have := hN x (by rw [HX.out]; simp [rd_T31, List.getD_eq_getElem?_getD, List.getElem?_eq_getElem ci]); exact w64 (by omega) (by omega)
    have hw2 : wrap64 (ahead2 l i + x.f1) = ahead2 l i + x.f1 := by
     have := HR1.out; have := hN x (by rw [HX.out]; simp [rd_T31, List.getD_eq_getElem?_getD, List.getElem?_eq_getElem ci]); exact w64 (by omega) (by omega)
    clear yat yeX k1 k2 k4
    have SS := Lib.hid HS.out
    by_cases d3 : x.f0 = 3
    ·have db : (x.f0 != 3) = false := by simp [d3]
     have db2 : (x.f0 != 2) = true := by simp [d3]
     have D := Lib.hid d3
     clear d3
     gi_wp2
     refine FIN.out _ ?_ (gset Y _ _ _)
     have e1 := SS.out.1
     have e2 := SS.out.2
     rw [if_pos D.out] at e1
     rw [if_neg (by rw [D.out]; decide)] at e2
     rw [e1, e2, Int.add_zero]
     exact set_1 _ YAT.out
    ·have db : (x.f0 != 3) = true := by simp [d3]
     by_cases d2 : x.f0 = 2
     ·have db2 : (x.f0 != 2) = false := by simp [d2]
      have D := Lib.hid d2
      clear d2 d3
      gi_wp2
      refine FIN.out _ ?_ (gset Y _ _ _)
      have e1 := SS.out.1
      have e2 := SS.out.2
      rw [if_neg (by rw [D.out]; decide)] at e1
      rw [if_pos D.out] at e2
      rw [e1, e2, Int.add_zero]
      exact set_0 _ YAT.out
     ·have db2 : (x.f0 != 2) = true := by simp [d2]
      have D2 := Lib.hid d2
      have D3 := Lib.hid d3
      clear d2 d3
      gi_wp2
      refine FIN.out _ ?_ ((gset Y _ _ _).trans (gset _ _ _ _))
      have e1 := SS.out.1
      have e2 := SS.out.2
      rw [if_neg D3.out] at e1
      rw [if_neg D2.out] at e2
      rw [e1, e2]
      exact set_1 _ (set_0 _ YAT.out)
   ·gi_wp2
    refine bodyPost_ret (results_none rfl _ _ _) rfl ?_
    exact ⟨⟨_, rfl⟩, .inr ⟨List.range i ++ [i], ⟨_, by rw [List.append_assoc]; exact HALL.out.symm⟩, hJx3⟩⟩
  ·have cb : decide ((i : Int) < (l.length : Int)) = false := decide_eq_false (by omega)
   obtain rfl : i = l.length := by omega
   gi_wp2
   go_end0
   exact ⟨⟨_, rfl⟩, .inl hJi⟩
end Go.Proofs.Ytgobidmfbjmpkaa.Iter
end
