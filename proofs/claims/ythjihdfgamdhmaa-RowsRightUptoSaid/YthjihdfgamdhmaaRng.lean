/- Words of this session: a range over a function whose iterator keeps state of its own in one block of cells. -/
import Derived.RangeFuncNested
import Derived.RangeFuncBound
set_option linter.unusedVariables false
namespace Go.Proofs.Ythjihdfgamdhmaa.Rng
open Go Go.RowKit
/-- I minds neither new blocks, nor a turn of the iterator's block st, nor of a block from B on that holds no cells. -/
def Bides {β : Type} (B st : Nat) (I : β → World → Prop) : Prop :=
  ∀ s X Y row, I s X → X.grownBy Y row → (∀ r, row = some r → r = st ∨ (B ≤ r ∧ ∃ o : Obj, X.heap[r]? = some o ∧ o.isCells = false)) → I s Y
theorem Bides.alloc {β : Type} {B st : Nat} {I : β → World → Prop} (h : Bides B st I) {s : β} {W : World} (o : Obj) (hs : I s W) : I s (W.alloc o) :=
  h s W _ none hs (World.grownBy_alloc W o none) (fun r e => by cases e)
theorem Bides.put {β : Type} {B st : Nat} {I : β → World → Prop} (h : Bides B st I) {s : β} {W : World} {l : Nat} {o : Obj} (o' : Obj) (hs : I s W) (hB : B ≤ l) (hl : W.heap[l]? = some o) (ho : o.isCells = false) : I s (W.putObj l o') :=
  h s W _ (some l) hs (grownBy_putObj' W l o') (fun r e => by cases e; exact .inr ⟨hB, o, hl, ho⟩)
/-- What an iterator promises: all comes, in its order, or the rounds have said 'no more'. st: its own block, by the heap's size at its call. -/
def Seq {α : Type} (F : Fence) (n : Nat) (P : Program) (g : Nat) (lb : Array Value) (encs : α → Array Value) (st : Nat → Nat) (Kp : Nat → World → World → Prop) (all : List α) (w : World) : Prop :=
  ∀ (l : Nat) (J Jx : List α → World → Prop) (W : World), Below w.heap.size w W →
    (∀ s X Y row, J s X → X.grownBy Y row → (∀ r, row = some r → r = st W.heap.size) → J s Y) →
    (∀ s X Y row, Jx s X → X.grownBy Y row → (∀ r, row = some r → r = st W.heap.size) → Jx s Y) →
    (∀ pre x post X, all = pre ++ x :: post → J pre X → YieldAt F (n - 1) P l (encs x) X fun e Y =>
      (e = .returned (.bool true) ∧ J (pre ++ [x]) Y ∧ Kp W.heap.size X Y) ∨ (e = .returned (.bool false) ∧ Jx (pre ++ [x]) Y)) →
    J [] W →
    CallsIn F n P g (#[.func (.yield l) #[] #[]] ++ lb) W fun e Y => (∃ v, e = .returned v) ∧ (J all Y ∨ ∃ pre, pre <+: all ∧ Jx pre Y)
/-- How a round's body may be left. -/
def Left {α : Type} (B : Nat) (Kp : World → World → Prop) (I : List α → World → Prop) (Ix : Code → List α → World → Prop) (xs : List α) (W : World) : Exit → Act → World → Prop
  | .normal, _, Y => KeepsFrom B W Y ∧ Kp W Y ∧ I xs Y
  | .ret, _, Y => KeepsFrom B W Y ∧ Ix .ret xs Y
  | .exit id, _, Y => KeepsFrom B W Y ∧ Ix (.exit id) xs Y
  | .goto t, _, Y => KeepsFrom B W Y ∧ Ix (.goto t) xs Y
  | .panic _, _, _ => False
  | .outgrown, _, _ => False
variable {F : Fence} {n : Nat} {P : Program}
set_option maxHeartbeats 1000000 in
/-- The statement: by the iterator's promise, an invariant I between two rounds, Ix behind a jump, and one walk of the body. -/
theorem range {α : Type} {g : Operand} {ps : Array Tmp} {assign body : Code} {Q : Exit → Act → World → Prop} {a : Act} {w w0 : World} {gf : Nat} {lb : Array Value} {encs : α → Array Value} {st : Nat → Nat} {Kp : Nat → World → World → Prop} {all : List α}
    (hro : F.round = none) (h1 : 1 ≤ n) (hg : a.eval g = .func (.func gf) #[] lb) (hFg : F.fn gf) (eg : ∀ args w, (callFunc gf args).run P w = .ok (.enter gf args) w)
    (hseq : Seq F (n - 1) P gf lb encs st Kp all w0) (hb0 : Below w0.heap.size w0 w) (hps : ∀ x, (encs x).size = ps.size)
    (hst : st (w.heap.size + 2) ≠ w.heap.size ∧ st (w.heap.size + 2) ≠ w.heap.size + 1)
    (hKt : ∀ {X Y Z : World}, Kp (w.heap.size + 2) X Y → Kp (w.heap.size + 2) Y Z → Kp (w.heap.size + 2) X Z)
    (hKb : ∀ (W : World) (l : Nat) (o' : Obj), (l = w.heap.size ∨ l = w.heap.size + 1) → l < W.heap.size → Kp (w.heap.size + 2) W (W.putObj l o'))
    (I : List α → World → Prop) (Ix : Code → List α → World → Prop) (hI : Bides w.heap.size (st (w.heap.size + 2)) I) (hIx : ∀ c, Bides w.heap.size (st (w.heap.size + 2)) (Ix c)) (h0 : I [] w)
    (Ax : α → Act → World → Prop) (hAx : ∀ x a', Bides w.heap.size (st (w.heap.size + 2)) (fun (_ : Unit) W => Ax x a' W))
    (hassign : ∀ (l : Nat) (pre : List α) (x : α) (post : List α) (W : World) (K : Act → World → Prop), all = pre ++ x :: post → I pre W →
      (∀ a' Y, KeepsFrom w.heap.size W Y → Kp (w.heap.size + 2) W Y → I pre Y → Ax x a' Y → K a' Y) →
      assign.wpIn (F.inRound l) (n - 1 - 1) P (Exit.then K (fun _ _ _ => False)) { tmps := (ps.zip (encs x)).foldl (fun t (p, v) => t.setIfInBounds p v) a.tmps, defers := [] } W)
    (hbody : ∀ (l : Nat) (pre : List α) (x : α) (post : List α) (a' : Act) (W : World), w.heap.size ≤ l → (∃ r, W.heap[l]? = some (.loop r)) → w.heap.size + 1 < W.heap.size → all = pre ++ x :: post → I pre W → Ax x a' W →
      body.wpIn (F.inRound l) (n - 1 - 1) P (Left w.heap.size (Kp (w.heap.size + 2)) I Ix (pre ++ [x]) W) a' W)
    (hdone : ∀ (W : World), I all W → W.heap[w.heap.size]? = some (.deferred (some [])) → Q .normal { a with defers := { target := .collected w.heap.size, args := #[] } :: a.defers } W)
    (hstop : ∀ (c : Code) (pre : List α) (W : World), pre <+: all → Ix c pre W → W.heap[w.heap.size]? = some (.deferred (some [])) → c.wpIn F n P Q { a with defers := { target := .collected w.heap.size, args := #[] } :: a.defers } W) :
    (Code.rangeFunc g ps assign body).wpIn F n P Q a w := by
  refine wpIn_rangeFunc fun fn hfn => ?_
  rw [hro]
  obtain ⟨B, hB⟩ : ∃ B, B = w.heap.size := ⟨_, rfl⟩
  rw [← hB] at hst hKb hI hIx hAx hassign hbody hdone hstop
  obtain ⟨rc, hrc⟩ : ∃ rc : LoopState → Option Code → Loop, rc = fun s p => { state := s, pending := p, fn, tmps := a.tmps, params := ps, assign, body, defers := B } := ⟨_, rfl⟩
  obtain ⟨V, hV⟩ : ∃ V, (w.alloc (.deferred (some []))).alloc (.loop (rc .ready none)) = V := ⟨_, rfl⟩
  have sz : V.heap.size = B + 2 := by rw [← hV, hB]; simp
  have loopV : V.heap[B + 1]? = some (.loop (rc .ready none)) := by
    have h := World.alloc_heap_new (w.alloc (.deferred (some []))) (.loop (rc .ready none))
    rw [World.size_alloc, ← hB, hV] at h
    exact h
  have defV : V.heap[B]? = some (.deferred (some [])) := by
    rw [← hV, hB]
    exact (Below.heap_alloc _ _ _ (by simp)).trans (World.alloc_heap_new w _)
  have belV : Below w0.heap.size w0 V := by
    rw [← hV]
    exact hb0.trans ((((Below.refl _ w).alloc (Nat.le_refl _) _).alloc (by simp) _).mono hb0.size)
  have IV : I [] V := by rw [← hV]; exact hI.alloc _ (hI.alloc _ h0)
  have ctr := hseq (B + 1)
    (fun pre W => I pre W ∧ W.heap[B + 1]? = some (.loop (rc .ready none)) ∧ W.heap[B]? = some (.deferred (some [])))
    (fun pre W => ∃ c, Ix c pre W ∧ W.heap[B + 1]? = some (.loop (rc .done (some c))) ∧ W.heap[B]? = some (.deferred (some []))) V belV
  rw [sz] at ctr
  have stay : ∀ {X Y : World} {row : Option Nat} {k : Nat} {o : Obj}, (k = B ∨ k = B + 1) → X.grownBy Y row → (∀ r, row = some r → r = st (B + 2)) → X.heap[k]? = some o → Y.heap[k]? = some o := by
    intro X Y row k o hk hg hr ho
    refine (hg.block k (Array.getElem?_eq_some_iff.1 ho).1 fun e => ?_).trans ho
    have h2 := hr k e.symm
    rcases hk with rfl | rfl
    · exact hst.1 h2.symm
    · exact hst.2 h2.symm
  have hlB : B ≤ B + 1 := Nat.le_succ _
  refine ⟨B + 1, [{ target := .collected B, args := #[] }], V, { target := .fn (.func gf) lb, args := #[.func (.yield (B + 1)) #[] #[]] }, V, gf, #[.func (.yield (B + 1)) #[] #[]] ++ lb, V, ?_, ?_, ?_, ?_, fun _ => h1, ?_⟩
  · rw [← hV, hrc, hB]
    exact run_enterLoop_outer _ _ _ _ _
  · simp only [resolve, hg]
    simp [go_sem]
  · intro f' hf'
    simp [Target.leads] at hf'
    subst hf'
    exact hFg
  · simp [invoke, go_sem, eg]
  refine (ctr ?_ ?_ ?_ ⟨IV, loopV, defV⟩).mono ?_
  · rintro s X Y row ⟨hi, hl, hd⟩ hg hr
    exact ⟨hI s X Y row hi hg (fun r e => .inl (hr r e)), stay (.inr rfl) hg hr hl, stay (.inl rfl) hg hr hd⟩
  · rintro s X Y row ⟨c, hi, hl, hd⟩ hg hr
    exact ⟨c, hIx c s X Y row hi hg (fun r e => .inl (hr r e)), stay (.inr rfl) hg hr hl, stay (.inl rfl) hg hr hd⟩
  · rintro pre x post X hall ⟨hi, hl, hd⟩
    have hy := run_yield (P := P) (args := encs x) hl (by rw [hrc]; exact hps x)
    rw [hrc] at hy
    refine ⟨fn, _, assign, body, hy, roundIn_of_wpIn hfn (hassign _ pre x post X _ hall hi ?_)⟩
    intro a' Y kf kp hi' hax
    have hlY := kf.same _ _ (by omega) hl rfl
    have hdY := kf.same _ _ (by omega) hd rfl
    have ltY : B + 1 < Y.heap.size := (Array.getElem?_eq_some_iff.1 hlY).1
    refine ⟨_, run_beginRound hlY (by rw [hrc]), ?_⟩
    obtain ⟨Z, hZ⟩ : ∃ Z, Y.putObj (B + 1) (.loop { rc .ready none with state := .busy }) = Z := ⟨_, rfl⟩
    rw [hZ]
    have hlZ : Z.heap[B + 1]? = some (.loop { rc .ready none with state := .busy }) := by rw [← hZ]; exact World.putObj_heap_same ltY
    have hdZ : Z.heap[B]? = some (.deferred (some [])) := by rw [← hZ]; exact (World.putObj_heap_other (by omega)).trans hdY
    have iZ : I pre Z := by rw [← hZ]; exact hI.put _ hi' hlB hlY rfl
    have aZ : Ax x a' Z := by rw [← hZ]; exact (hAx x a').put (s := ()) _ hax hlB hlY rfl
    have kZ : Kp (B + 2) X Z := by rw [← hZ, hB]; exact hKt (by rw [← hB]; exact kp) (by rw [← hB]; exact hKb Y _ _ (.inr rfl) ltY)
    have ltZ : B + 1 < Z.heap.size := (Array.getElem?_eq_some_iff.1 hlZ).1
    refine wpIn_mono (hbody _ pre x post a' Z hlB ⟨_, hlZ⟩ ltZ hall iZ aZ) ?_
    have fin : ∀ (j : Option Code) (U : World), KeepsFrom B Z U → U.heap[B + 1]? = some (.loop { rc .ready none with state := .busy }) ∧
        (Instr.endRound (B + 1) j).run P U = .ok (.bool j.isNone) (U.putObj (B + 1) (.loop (rc (if j.isNone then .ready else .done) j))) ∧
        (U.putObj (B + 1) (.loop (rc (if j.isNone then .ready else .done) j))).heap[B + 1]? = some (.loop (rc (if j.isNone then .ready else .done) j)) ∧
        (U.putObj (B + 1) (.loop (rc (if j.isNone then .ready else .done) j))).heap[B]? = some (.deferred (some [])) := by
      intro j U kU
      have hlU := kU.same _ _ (by omega) hlZ rfl
      have hdU := kU.same _ _ (by omega) hdZ rfl
      have he := run_endRound (P := P) j hlU
      refine ⟨hlU, ?_, World.putObj_heap_same (Array.getElem?_eq_some_iff.1 hlU).1, (World.putObj_heap_other (by omega)).trans hdU⟩
      rw [hrc] at he ⊢
      exact he
    rintro e a3 U hp
    cases e with
    | normal =>
      obtain ⟨k3, kp3, i3⟩ := hp
      obtain ⟨hlU, he, h5, h6⟩ := fin none U k3
      refine ⟨_, _, he, .inl ⟨rfl, ⟨hI.put _ i3 hlB hlU rfl, h5, h6⟩, ?_⟩⟩
      rw [hB] at kZ kp3 ⊢
      exact hKt (hKt kZ kp3) (by rw [← hB]; exact hKb U _ _ (.inr rfl) (Array.getElem?_eq_some_iff.1 hlU).1)
    | ret =>
      obtain ⟨k3, i3⟩ := hp
      obtain ⟨hlU, he, h5, h6⟩ := fin (some .ret) U k3
      exact ⟨_, _, he, .inr ⟨rfl, .ret, (hIx _).put _ i3 hlB hlU rfl, h5, h6⟩⟩
    | exit id =>
      obtain ⟨k3, i3⟩ := hp
      obtain ⟨hlU, he, h5, h6⟩ := fin (some (.exit id)) U k3
      exact ⟨_, _, he, .inr ⟨rfl, .exit id, (hIx _).put _ i3 hlB hlU rfl, h5, h6⟩⟩
    | goto t =>
      obtain ⟨k3, i3⟩ := hp
      obtain ⟨hlU, he, h5, h6⟩ := fin (some (.goto t)) U k3
      exact ⟨_, _, he, .inr ⟨rfl, .goto t, (hIx _).put _ i3 hlB hlU rfl, h5, h6⟩⟩
    | panic ch => exact hp.elim
    | outgrown => exact hp.elim
  · rintro e U ⟨⟨v, rfl⟩, h⟩
    rcases h with ⟨hi, hl, hd⟩ | ⟨pre, hpre, c, hi, hl, hd⟩
    · have he := run_endLoop (P := P) hl (by rw [hrc]; simp)
      rw [hrc] at he
      exact ⟨none, _, he, hdone _ (hI.put _ hi hlB hl rfl) ((World.putObj_heap_other (by omega)).trans hd)⟩
    · have he := run_endLoop (P := P) hl (by rw [hrc]; simp)
      rw [hrc] at he
      exact ⟨some c, _, he, hstop c pre _ hpre ((hIx c).put _ hi hlB hl rfl) ((World.putObj_heap_other (by omega)).trans hd)⟩
end Go.Proofs.Ythjihdfgamdhmaa.Rng
