/- Texts of this claim, joined: GHeld, Px0, EWith6. -/
import Derived.Test.YtgobidmfbjmpkaaWMore
import Derived.OrdersIn
import Derived.OwnWalkIn
import Derived.Maps.OwnIn
import Derived.Below
import Derived.RowKit
import Derived.Test.YtgobidmfbjmpkaaProg
import Derived.Deep.Draws
import Derived.Deep.AppendLies
import Derived.Maps.AppendAt
import Derived.OwnWalk
import Derived.Laws.BytesArg
import Derived.Laws.MakeOwn
import Derived.Laws.OwnMore
import Derived.Deep.OwnRows
import Derived.Tactics
import Derived.Lib.ConvBytes
import Derived.Laws.Slices
import Derived.WalkKit
import Derived.KernelRfl
import Derived.RowKit3
import Derived.Deep.LoopGhost
import Derived.Deep.QuietTactic
import Derived.BigQuiet
import Derived.WideLaws
import Derived.Deep.DeepCutAuto
import Derived.Deep.CutBlock
import Derived.Deep.RegionHeld3
import Derived.Laws.Rows
import Derived.Lib.AppendStr
import Derived.ArgAppend
import Derived.Laws.IdiomCopy
import Derived.OrdersHeld
import Derived.Laws.BitsLemmas
import Derived.Test.YtgobidmfbjmpkaaWWords
import Derived.Test.YtgobidmfbjmpkaaWLast
import Derived.Test.YtgobidmfbjmpkaaWTab
import Derived.Test.YtgobidmfbjmpkaaWQPut
import Derived.Test.YtgobidmfbjmpkaaWApart
import Derived.Test.YtgobidmfbjmpkaaWArr
import Derived.Test.YtgobidmfbjmpkaaWZeros
import Derived.Test.YtgobidmfbjmpkaaWFoot
import Derived.Test.YtgobidmfbjmpkaaWKept
import Derived.Test.YtgobidmfbjmpkaaWShare
import Derived.Test.YtgobidmfbjmpkaaWN
import Derived.Test.YtgobidmfbjmpkaaWRepsOne
import Derived.Test.YtgobidmfbjmpkaaWGuard
import Derived.Test.YtgobidmfbjmpkaaWNEv
import Derived.Lib.Hide
section
/- Words of this session: min and max of two whole numbers, in the walk under one name. · A region that draws its order, inside a round too: reads are taken first, by a condition S on the world that stands till the operations from z on have come up. · A region that draws its order: the condition on worlds may be made stronger on the way; bytes that were made become a string. · Readings in a region that draws its order, under cells that stand. -/
section
set_option linter.unusedVariables false
namespace Go.Proofs.Ytgobidmfbjmpkaa.HMin
open Go Go.Proofs.YtgobidmfbjmpkaaW.PrintWords Go.Proofs.YtgobidmfbjmpkaaW.PrintMore
theorem min2_mn (k k' : IntKind) (x y : Int) : Builtin.min2 (.int k x) (.int k' y) = pure (.int k (mn x y)) := min2_int k k' x y
end Go.Proofs.Ytgobidmfbjmpkaa.HMin
end
section
set_option linter.unusedVariables false
namespace Go.Proofs.Ytgobidmfbjmpkaa.Held
open Go Go.RowKit
/-- No defer statement among them. -/
def noDefer (ops : Array Oper) : Bool := ops.all fun o => match o.op with
 | .defer _ => false
 | _ => true
/-- Whoever stands from z on waits for i. -/
def tied (md : Region.Mode) (ops : Array Oper) (z i : Nat) : Bool := (List.range ops.size).all fun j => decide (j < z) || (match ops[j]? with
 | some o => o.after.any fun e => Region.binds md e && e.on == i
 | none => true)
section
variable {F : Fence} {n : Nat} {P : Program} {ops : Array Oper} {Q : Exit → Act → World → Prop} {md : Region.Mode} {S : World → Prop} {z : Nat}
theorem noDefer_spec (h : noDefer ops = true) {j : Nat} {o : Oper} (ho : ops[j]? = some o) : ∀ c, o.op ≠ .defer c := by
 intro c hc
 have := Array.all_eq_true_iff_forall_mem.1 h o (Array.mem_of_getElem? ho)
 simp [hc] at this
/-- In every world that meets S the operation leaves v, and nothing else; or its guard lets it out. -/
def Gives (P : Program) (ops : Array Oper) (S : World → Prop) (o : Oper) (v : Value) (a : Act) : Prop :=
 (Region.wanted o (yielded ops a.tmps) = true ∧ ∀ w, S w → (execOp a.eval o).run P w = .ok (.value v) w ∧ o.about P w a.eval = none) ∨
 (Region.wanted o (yielded ops a.tmps) = false ∧ v = undef ∧ ∀ w, o.about P w a.eval = none)
theorem Gives.op {i : Nat} {o : Oper} {v : Value} {a : Act} (hn : noDefer ops = true) (hi : ops[i]? = some o) (hy : Gives P ops S o v a) {K : Act → World → Prop} {w : World} (hS : S w) (h : K (a.put o.dst v) w) : wpOpIn F n P ops Q i K a w := by
 unfold wpOpIn
 rcases hy with hy | ⟨hw, rfl, hb⟩
 ·simp only [hi, hy.1, if_true, Oper.wpIn]
  refine ⟨fun f hf => ?_, ?_⟩
  ·rw [(hy.2 w hS).2] at hf; cases hf
  ·rw [Oper.semAt_eq _ _ _ (noDefer_spec hn hi), (hy.2 w hS).1]; exact h
 ·simp only [hi, hw, Bool.false_eq_true, if_false]
  exact ⟨fun f hf => (by rw [hb w] at hf; cases hf), h⟩
theorem Gives.same {o : Oper} {v : Value} {a a' : Act} (hy : Gives P ops S o v a) (he : execOp a'.eval o = execOp a.eval o)
  (hw : Region.wanted o (yielded ops a'.tmps) = Region.wanted o (yielded ops a.tmps)) (hb : ∀ w, o.about P w a'.eval = o.about P w a.eval) : Gives P ops S o v a' :=
 hy.imp (fun hy => ⟨hw.trans hy.1, fun w hS => by rw [he, hb w]; exact hy.2 w hS⟩) (fun ⟨h1, h2, h3⟩ => ⟨hw.trans h1, h2, fun w => by rw [hb w]; exact h3 w⟩)
/-- What comes up in between does not mind whether the reading has come up. -/
theorem Gives.past {j : Nat} {oi oj : Oper} {v : Value} (hn : noDefer ops = true) (hj : ops[j]? = some oj) (hap : oi.apart ops oj = true)
  (hsi : ∀ cs b, oi.op ≠ .select cs b) (hsj : ∀ cs b, oj.op ≠ .select cs b)
  (hQ : ∀ c a w, Q (.panic c) (a.put oi.dst v) w → Q (.panic c) a w) {K : Act → World → Prop} {a : Act} {w : World}
  (hy : Gives P ops S oi v a) (h : wpOpIn F n P ops Q j K (a.put oi.dst v) w) : wpOpIn F n P ops Q j (fun a' w' => Gives P ops S oi v a' ∧ K (a'.put oi.dst v) w') a w := by
 obtain ⟨h1, h2, h3⟩ := Oper.apart_spec hap
 have keep : ∀ (a : Act), Gives P ops S oi v a → ∀ u, Gives P ops S oi v (a.put oj.dst u) := fun a hy u =>
  hy.same (execOp_put oi hsi a oj.dst u h3) (wanted_put oi a oj.dst u h3) (fun w => about_put oi w a oj.dst u h3)
 have nd := noDefer_spec hn hj
 unfold wpOpIn at *
 simp only [hj] at *
 rw [wanted_put oj a oi.dst v h1, about_put oj w a oi.dst v h1] at h
 split
 ·rename_i hw
  simp only [hw, if_true] at h
  unfold Oper.wpIn at *
  rw [about_put oj w a oi.dst v h1, Oper.semAt_eq _ _ _ nd, execOp_put oj hsj a oi.dst v h1] at h
  rw [Oper.semAt_eq _ _ _ nd]
  refine ⟨h.1, ?_⟩
  replace h := h.2
  generalize (execOp a.eval oj).run P w = r at *
  cases r with
  | ok x w' =>
   cases x <;> simp only [Oper.uponIn] at h ⊢
   case value u => exact ⟨keep a hy u, by rw [← Act.put_comm a v u h2]; exact h⟩
   case skip => exact ⟨keep a hy _, by rw [← Act.put_comm a v undef h2]; exact h⟩
   case defer d =>
    refine ⟨keep { a with defers := d :: a.defers } (hy.same rfl rfl (fun _ => rfl)) _, ?_⟩
    rw [← Act.put_comm _ v undef h2, ← Act.put_defers]
    exact h
   case enter f args =>
    refine ⟨h.1, CallsIn.mono h.2 fun e w'' he => ?_⟩
    cases e with
    | returned u => exact ⟨keep a hy u, by rw [← Act.put_comm a v u h2]; exact he⟩
    | panicked c => exact hQ _ _ _ he
    | outgrown => exact he
   case row row args => exact ⟨h.1, RowsIn.mono h.2 fun u w'' he => ⟨keep a hy u, by rw [← Act.put_comm a v u h2]; exact he⟩⟩
   case round l f tmps assign body =>
    refine ⟨h.1, RoundIn.mono h.2 fun e w'' he => ?_⟩
    cases e with
    | returned u => exact ⟨keep a hy u, by rw [← Act.put_comm a v u h2]; exact he⟩
    | panicked c => exact hQ _ _ _ he
    | outgrown => exact he
  | halt x w' =>
   cases x <;> simp only [Oper.uponIn] at h ⊢
   case panic u => exact hQ _ _ _ h
 ·rename_i hw
  simp only [hw] at h
  exact ⟨h.1, keep a hy _, by rw [← Act.put_comm a v undef h2]; exact h.2⟩
/-- Whatever order comes, and S stands behind each operation ahead of z. -/
def AnyS (F : Fence) (n : Nat) (P : Program) (md : Region.Mode) (ops : Array Oper) (Q : Exit → Act → World → Prop) (S : World → Prop) (z : Nat) : Nat → Array Bool → Act → World → Prop
 | 0, l, a, w => Region.ready md ops l = [] ∧ Q .normal a w
 | f + 1, l, a, w => (Region.ready md ops l = [] → Q .normal a w) ∧ ∀ i ∈ Region.ready md ops l, wpOpIn F n P ops Q i (fun a' w' => (i < z → S w') ∧ AnyS F n P md ops Q S z f (l.setIfInBounds i true) a' w') a w
theorem AnyS.any : ∀ (f : Nat) (l : Array Bool) (a : Act) (w : World), AnyS F n P md ops Q S z f l a w → wpAnyIn F n P md ops Q f l a w
 | 0, _, _, _, h => h
 | f + 1, _, _, _, h => ⟨h.1, fun i hi => wpOpIn_mono (fun a' w' h' => AnyS.any f _ a' w' h'.2) (h.2 i hi)⟩
theorem AnyS.first {i : Nat} {oi : Oper} {v : Value} (hn : noDefer ops = true) (hi : ops[i]? = some oi) (hiz : tied md ops z i = true) (hsel : ∀ (j : Nat) (o : Oper) cs b, ops[j]? = some o → o.op ≠ .select cs b)
  (hQ : ∀ c a w, Q (.panic c) (a.put oi.dst v) w → Q (.panic c) a w) :
  ∀ (f : Nat) (l : Array Bool) (a : Act) (w : World),
   (∀ j oj, ops[j]? = some oj → j ≠ i → l.getD j true = false → (∀ e ∈ oj.after, Region.binds md e = true → e.on ≠ i) → oi.apart ops oj = true) →
   i ∈ Region.ready md ops l → Gives P ops S oi v a → S w →
   AnyS F n P md ops Q S z f (l.setIfInBounds i true) (a.put oi.dst v) w → AnyS F n P md ops Q S z (f + 1) l a w := by
 intro f
 induction f with
 | zero =>
  intro l a w _ hr hy hS H
  refine ⟨fun h => (by rw [h] at hr; cases hr), fun j hj => ?_⟩
  by_cases hji : j = i
  ·subst hji; exact hy.op hn hi hS ⟨fun _ => hS, H⟩
  ·have := ready_mono hj hji
   rw [H.1] at this
   cases this
 | succ f ih =>
  intro l a w hfree hr hy hS H
  refine ⟨fun h => (by rw [h] at hr; cases hr), fun j hj => ?_⟩
  by_cases hji : j = i
  ·subst hji; exact hy.op hn hi hS ⟨fun _ => hS, H⟩
  ·have h1 := H.2 j (ready_mono hj hji)
   obtain ⟨hjun, oj, hoj, hall⟩ := mem_ready.1 hj
   have hnot : ∀ e ∈ oj.after, Region.binds md e = true → e.on ≠ i := fun e he hb heq => by
    have h1 := hall e he hb
    have h0 := (mem_ready.1 hr).1
    rw [heq] at h1
    rcases Nat.lt_or_ge i l.size with h' | h'
    ·simp [h'] at h0 h1; rw [h0] at h1; cases h1
    ·simp [Array.getElem?_eq_none h'] at h1
   have hjz : j < z := by
    refine Nat.lt_of_not_le fun e => ?_
    unfold tied at hiz
    rw [List.all_eq_true] at hiz
    have hiz := hiz j (List.mem_range.2 (Array.getElem?_eq_some_iff.1 hoj).1)
    rw [hoj, decide_eq_false (Nat.not_lt.2 e), Bool.false_or] at hiz
    obtain ⟨x, hx, hb⟩ := Array.any_eq_true'.1 hiz
    simp only [Bool.and_eq_true, beq_iff_eq] at hb
    exact hnot x hx hb.1 hb.2
   have h2 := Gives.past hn hoj (hfree j oj hoj hji hjun hnot) (fun cs b => hsel i oi cs b hi) (fun cs b => hsel j oj cs b hoj) hQ hy h1
   have hfree' : ∀ k ok, ops[k]? = some ok → k ≠ i → (l.setIfInBounds j true).getD k true = false →
     (∀ e ∈ ok.after, Region.binds md e = true → e.on ≠ i) → oi.apart ops ok = true := fun k ok hk hki hun hno => by
    refine hfree k ok hk hki ?_ hno
    by_cases hjk : j = k
    ·subst hjk; exact hjun
    ·rw [getD_set_ne true hjk] at hun; exact hun
   refine wpOpIn_mono (fun a' w' h3 => ⟨h3.2.1, ih (l.setIfInBounds j true) a' w' hfree' (ready_mono hr (Ne.symm hji)) h3.1 (h3.2.1 hjz) ?_⟩) h2
   rw [Array.setIfInBounds_comm _ _ hji]
   exact h3.2.2
theorem at_drop {i : Nat} {o : Oper} {tl : List Oper} (h : ops.toList.drop i = o :: tl) : ops[i]? = some o := by
 rw [← Array.getElem?_toList, ← Nat.add_zero i, ← List.getElem?_drop, h]; rfl
/-- A reading is taken first. -/
theorem AnyS.take {i : Nat} {oi : Oper} {tl : List Oper} {v : Value} {f : Nat} {l : Array Bool} {a : Act} {w : World} (hi : ops.toList.drop i = oi :: tl) (hc : (noDefer ops && Region.noSelect ops && tied md ops z i && Region.free md ops l i && (Region.ready md ops l).contains i) = true)
  (hQ : ∀ c a w, Q (.panic c) (a.put oi.dst v) w → Q (.panic c) a w) (hw : Region.wanted oi (yielded ops a.tmps) = true) (ha : ∀ w, oi.about P w a.eval = none) (hy : ∀ w, S w → (execOp a.eval oi).run P w = .ok (.value v) w) (hS : S w)
  (h : AnyS F n P md ops Q S z f (l.setIfInBounds i true) (a.put oi.dst v) w) : AnyS F n P md ops Q S z (f + 1) l a w := by
 simp only [Bool.and_eq_true] at hc
 obtain ⟨⟨⟨⟨h1, h2⟩, h3⟩, h4⟩, h5⟩ := hc
 have hi' : ops[i]? = some oi := at_drop hi
 exact AnyS.first h1 hi' h3 (Region.noSelect_spec h2) hQ f l a w (Region.free_spec hi' h4) (by simpa using h5) (.inl ⟨hw, fun w hS => ⟨hy w hS, ha w⟩⟩) hS h
/-- A guarded one that is let out. -/
theorem AnyS.skip {i : Nat} {oi : Oper} {tl : List Oper} {f : Nat} {l : Array Bool} {a : Act} {w : World} (hi : ops.toList.drop i = oi :: tl) (hc : (noDefer ops && Region.noSelect ops && tied md ops z i && Region.free md ops l i && (Region.ready md ops l).contains i) = true)
  (hQ : ∀ c a w, Q (.panic c) (a.put oi.dst undef) w → Q (.panic c) a w) (hw : Region.wanted oi (yielded ops a.tmps) = false) (ha : ∀ w, oi.about P w a.eval = none) (hS : S w)
  (h : AnyS F n P md ops Q S z f (l.setIfInBounds i true) (a.put oi.dst undef) w) : AnyS F n P md ops Q S z (f + 1) l a w := by
 simp only [Bool.and_eq_true] at hc
 obtain ⟨⟨⟨⟨h1, h2⟩, h3⟩, h4⟩, h5⟩ := hc
 have hi' : ops[i]? = some oi := at_drop hi
 exact AnyS.first h1 hi' h3 (Region.noSelect_spec h2) hQ f l a w (Region.free_spec hi' h4) (by simpa using h5) (.inr ⟨hw, rfl, ha⟩) hS h
/-- One operation alone may come up. -/
theorem AnyS.step {i : Nat} {o : Oper} {tl : List Oper} {f : Nat} {l : Array Bool} {a : Act} {w : World} (ho : ops.toList.drop i = o :: tl) (hr : Region.ready md ops l = [i]) (hw : Region.wanted o (yielded ops a.tmps) = true)
  (h : ∀ K : Act → World → Prop, Hid (∀ a' w', (i < z → S w') → AnyS F n P md ops Q S z f (l.setIfInBounds i true) a' w' → K a' w') → o.wpIn F n P a w K Q) : AnyS F n P md ops Q S z (f + 1) l a w := by
 refine ⟨fun h0 => absurd (hr ▸ h0) (by simp), fun j hj => ?_⟩
 rw [hr] at hj
 obtain rfl := List.mem_singleton.1 hj
 unfold wpOpIn
 simp only [at_drop ho, hw, if_true]
 exact h _ (fun a' w' h1 h2 => ⟨h1, h2⟩ : Hid _)
/-- One of two may come up. -/
theorem AnyS.step2 {i j : Nat} {o o' : Oper} {tl tl' : List Oper} {f : Nat} {l : Array Bool} {a : Act} {w : World} (ho : ops.toList.drop i = o :: tl) (ho' : ops.toList.drop j = o' :: tl') (hr : Region.ready md ops l = [i, j]) (hw : Region.wanted o (yielded ops a.tmps) = true) (hw' : Region.wanted o' (yielded ops a.tmps) = true)
  (h : ∀ K : Act → World → Prop, Hid (∀ a' w', (i < z → S w') → AnyS F n P md ops Q S z f (l.setIfInBounds i true) a' w' → K a' w') → o.wpIn F n P a w K Q)
  (h' : ∀ K : Act → World → Prop, Hid (∀ a' w', (j < z → S w') → AnyS F n P md ops Q S z f (l.setIfInBounds j true) a' w' → K a' w') → o'.wpIn F n P a w K Q) : AnyS F n P md ops Q S z (f + 1) l a w := by
 refine ⟨fun h0 => absurd (hr ▸ h0) (by simp), fun k hk => ?_⟩
 rw [hr] at hk
 unfold wpOpIn
 rcases List.mem_cons.1 hk with rfl | hk
 ·simp only [at_drop ho, hw, if_true]
  exact h _ (fun a' w' h1 h2 => ⟨h1, h2⟩ : Hid _)
 ·obtain rfl := List.mem_singleton.1 hk
  simp only [at_drop ho', hw', if_true]
  exact h' _ (fun a' w' h1 h2 => ⟨h1, h2⟩ : Hid _)
theorem AnyS.done {l : Array Bool} {a : Act} {w : World} (hr : Region.ready md ops l = []) (h : Q .normal a w) : ∀ f, AnyS F n P md ops Q S z f l a w
 | 0 => by unfold AnyS; exact ⟨hr, h⟩
 | _ + 1 => ⟨fun _ => h, by rw [hr]; simp⟩
/-- The beginning. -/
theorem region {id : Nat} {a : Act} {w : World} (z : Nat) (S : World → Prop) (hm : P.follows .mixedOrders = true) (h : AnyS F n P .any ops Q S z ops.size (Array.replicate ops.size false) a w.drew) : (Code.region id ops true).wpIn F n P Q a w :=
 wpIn_region_any hm (AnyS.any _ _ _ _ h)
/-- An append as one operation. -/
theorem append_at {P : Program} {w : World} {o : Oper} {a : Act} {K : Act → World → Prop} (s x : Operand) (t : TypeId)
  (ho : o.op = .call { callee := .builtin .append, args := #[s, x], argTypes := #[t, t] })
  (base : Nat) (e : TypeId) (z : Value) (size bytes : Nat) (ht : P.underlying t = some (.slice e)) (hinfo : (P.info? e).map (fun i => (i.zero, i.size, i.bytes)) = some (some z, size, bytes))
  (hzs : z.cells.size = size) (hsz : 0 < size)
  (v : Value) (k : Nat) (xs : List Value) (hs : a.eval s = v) (hown : w.ownsRow base e size v k xs)
  (ad : Addr) (m c : Nat) (news : List Value) (hx : a.eval x = .slice (some ad) m c) (hl : news.length = m * size) (hnews : ∀ j u, news[j]? = some u → w.cell? (ad.add j) = some u) (h1 : ∀ u ∈ news, u.oneCell' = true)
  (h63 : k + m ≤ maxLen) (hbytes : (k + m) * bytes ≤ 140737488355328) (hbase : base ≤ w.heap.size)
  (h : ∀ v' w', w'.ownsRow base e size v' (k + m) (xs ++ news) → w.grownBy w' v.ownBlock → (v'.ownBlock = v.ownBlock ∨ v'.ownBlock = some w.heap.size) → K (a.put o.dst v') w') :
  o.wpIn F n P a w K Q := by
 obtain ⟨i0, hi, hzz⟩ := Option.map_eq_some_iff.1 hinfo
 simp only [Prod.mk.injEq] at hzz
 obtain ⟨hz0, hz1, hz2⟩ := hzz
 obtain ⟨v', w', hr, h2, h3, h4, h5⟩ := run_append_own_at (P := P) w base t o.type e i0 z size bytes ht hi hz0 hz1 hz2 hzs hsz v k xs hown ad m c news hl hnews h1 h63 hbytes hbase
 unfold Oper.wpIn
 refine ⟨by simp [Oper.about, ho, resolve, Target.leads, Sem.run_pure], ?_⟩
 rw [Oper.semAt_eq _ _ _ (by rw [ho]; intro c hc'; cases hc')]
 simp [execOp, ho, resolve, invoke, builtin, hs, hx, hr, Result.andThen]
 exact h v' w' h2 h3 h5
/-- The same, of a slice that may be nil. -/
theorem append_any {P : Program} {w : World} {o : Oper} {a : Act} {K : Act → World → Prop} (s x : Operand) (t : TypeId)
  (ho : o.op = .call { callee := .builtin .append, args := #[s, x], argTypes := #[t, t] })
  (base : Nat) (e : TypeId) (z : Value) (size bytes : Nat) (ht : P.underlying t = some (.slice e)) (hinfo : (P.info? e).map (fun i => (i.zero, i.size, i.bytes)) = some (some z, size, bytes))
  (hzs : z.cells.size = size) (hsz : 0 < size)
  (v : Value) (k : Nat) (xs : List Value) (hs : a.eval s = v) (hown : w.ownsRow base e size v k xs)
  (X : Option Addr) (m c : Nat) (news : List Value) (hx : a.eval x = .slice X m c) (hl : news.length = m * size) (hnews : (X = none ∧ m = 0) ∨ ∃ ad, X = some ad ∧ ∀ j u, news[j]? = some u → w.cell? (ad.add j) = some u) (h1 : ∀ u ∈ news, u.oneCell' = true)
  (h63 : k + m ≤ maxLen) (hbytes : (k + m) * bytes ≤ 140737488355328) (hbase : base ≤ w.heap.size)
  (h : ∀ v' w', w'.ownsRow base e size v' (k + m) (xs ++ news) → w.grownBy w' v.ownBlock → (v'.ownBlock = v.ownBlock ∨ v'.ownBlock = some w.heap.size) → K (a.put o.dst v') w') :
  o.wpIn F n P a w K Q := by
 rcases hnews with ⟨rfl, rfl⟩ | ⟨ad, rfl, hc⟩
 ·obtain ⟨i0, hi, hzz⟩ := Option.map_eq_some_iff.1 hinfo
  simp only [Prod.mk.injEq] at hzz
  obtain ⟨hz0, hz1, hz2⟩ := hzz
  obtain rfl : news = [] := List.eq_nil_of_length_eq_zero (by omega)
  have hr : (Builtin.append_ #[t, t] o.type #[v, .slice none 0 c]).run P w = .ok v w := by
   rcases hown.2 with ⟨rfl, hn⟩ | ⟨g, cap, cur, rfl, _, _, hnc, _⟩
   ·simp [Builtin.append_, run_underlying ht, sizeOf, typeInfo, hi, Builtin.lenOf, Builtin.firstCells]
   ·simp [Builtin.append_, run_underlying ht, sizeOf, typeInfo, hi, Builtin.lenOf, Builtin.firstCells, hnc, storeCells]
  unfold Oper.wpIn
  refine ⟨by simp [Oper.about, ho, resolve, Target.leads, Sem.run_pure], ?_⟩
  rw [Oper.semAt_eq _ _ _ (by rw [ho]; intro c hc'; cases hc')]
  simp [execOp, ho, resolve, invoke, builtin, hs, hx, hr, Result.andThen]
  exact h v w (by simpa using hown) (World.grownBy.refl _ _) (.inl rfl)
 ·exact append_at s x t ho base e z size bytes ht hinfo hzs hsz v k xs hs hown ad m c news hx hl hc h1 h63 hbytes hbase h
end
/-- These blocks are as they were. -/
def Same (Z : World) (bs : List Nat) (w : World) : Prop := ∀ b ∈ bs, w.heap[b]? = Z.heap[b]?
theorem Same.refl (Z : World) (bs : List Nat) : Same Z bs Z := fun _ _ => rfl
theorem Same.below {Z w w' : World} {bs : List Nat} (h : Same Z bs w) (hb : Below w.heap.size w w') (hz : ∀ b ∈ bs, b < Z.heap.size) : Same Z bs w' := fun b hm => by
 have h1 := h b hm
 have : b < w.heap.size := by
  have h2 : Z.heap[b]? = some (Z.heap[b]'(hz b hm)) := Array.getElem?_eq_getElem (hz b hm)
  rw [h2] at h1
  exact (Array.getElem?_eq_some_iff.1 h1).1
 rw [hb.block b this, h1]
theorem Same.grown {Z w w' : World} {bs : List Nat} {row : Option Nat} (h : Same Z bs w) (hg : w.grownBy w' row) (hz : ∀ b ∈ bs, b < Z.heap.size ∧ some b ≠ row) : Same Z bs w' := fun b hm => by
 have h1 := h b hm
 have : b < w.heap.size := by
  have h2 : Z.heap[b]? = some (Z.heap[b]'(hz b hm).1) := Array.getElem?_eq_getElem (hz b hm).1
  rw [h2] at h1
  exact (Array.getElem?_eq_some_iff.1 h1).1
 rw [hg.block b this (hz b hm).2, h1]
theorem Same.cells {Z w : World} {bs : List Nat} (h : Same Z bs w) : ∀ b o, b ∈ bs → w.cell? ⟨b, o, none⟩ = Z.cell? ⟨b, o, none⟩ := fun b o hb => by simp only [World.cell?, h b hb]
/-- A reading is taken first, its side conditions by rote. -/
theorem tk {F : Fence} {n : Nat} {P : Program} {ops : Array Oper} {Q : Exit → Act → World → Prop} {md : Region.Mode} {z : Nat} {Z : World} {bs : List Nat} {i : Nat} {oi : Oper} {tl : List Oper} {v : Value} {f : Nat} {l : Array Bool} {a : Act} {w : World}
  (hi : ops.toList.drop i = oi :: tl) (hS : Same Z bs w) (h : AnyS F n P md ops Q (Same Z bs) z f (l.setIfInBounds i true) (a.put oi.dst v) w)
  (hy : ∀ w, Same Z bs w → (execOp a.eval oi).run P w = .ok (.value v) w := by intro w' hw'; have hc_ := Held.Same.cells hw'; go_simp; try (with_reducible rfl))
  (hc : (noDefer ops && Region.noSelect ops && tied md ops z i && Region.free md ops l i && (Region.ready md ops l).contains i) = true := by kernel_rfl)
  (hQ : ∀ c a w, Q (.panic c) (a.put oi.dst v) w → Q (.panic c) a w := by exact fun _ _ _ h => h) (hw : Region.wanted oi (yielded ops a.tmps) = true := by rfl) (ha : ∀ w, oi.about P w a.eval = none := by exact fun _ => rfl) : AnyS F n P md ops Q (Same Z bs) z (f + 1) l a w :=
 AnyS.take hi hc hQ hw ha hy hS h
end Go.Proofs.Ytgobidmfbjmpkaa.Held
end
section
set_option linter.unusedVariables false
namespace Go.Proofs.Ytgobidmfbjmpkaa.Held
open Go Go.RowKit Go.Proofs.YtgobidmfbjmpkaaW.PrintWords
end Go.Proofs.Ytgobidmfbjmpkaa.Held
end
section
set_option linter.unusedVariables false
namespace Go.Proofs.Ytgobidmfbjmpkaa.P
open Go Go.RowKit
def S2 (p : Addr) (u : Value) (q : Addr) (v : Value) (w : World) : Prop := w.cell? p = some u ∧ w.cell? q = some v
theorem tkc {F : Fence} {n : Nat} {P : Program} {ops : Array Oper} {Q : Exit → Act → World → Prop} {md : Region.Mode} {z : Nat} {p q : Addr} {c1 c2 : Value} {i : Nat} {oi : Oper} {tl : List Oper} {v : Value} {f : Nat} {l : Array Bool} {a : Act} {w : World}
  (hi : ops.toList.drop i = oi :: tl) (hS : S2 p c1 q c2 w) (h : Held.AnyS F n P md ops Q (S2 p c1 q c2) z f (l.setIfInBounds i true) (a.put oi.dst v) w)
  (hy : ∀ w, S2 p c1 q c2 w → (execOp a.eval oi).run P w = .ok (.value v) w := by intro w' hw'; obtain ⟨s0, s1⟩ := hw'; go_simp; try (with_reducible rfl))
  (hc : (Held.noDefer ops && Region.noSelect ops && Held.tied md ops z i && Region.free md ops l i && (Region.ready md ops l).contains i) = true := by kernel_rfl)
  (hQ : ∀ c a w, Q (.panic c) (a.put oi.dst v) w → Q (.panic c) a w := by exact fun _ _ _ h => h) (hw : Region.wanted oi (yielded ops a.tmps) = true := by rfl) (ha : ∀ w, oi.about P w a.eval = none := by exact fun _ => rfl) : Held.AnyS F n P md ops Q (S2 p c1 q c2) z (f + 1) l a w :=
 Held.AnyS.take hi hc hQ hw ha hy hS h
def S3 (p : Addr) (u : Value) (q : Addr) (v : Value) (r : Addr) (t : Value) (w : World) : Prop := w.cell? p = some u ∧ w.cell? q = some v ∧ w.cell? r = some t
theorem tkd {F : Fence} {n : Nat} {P : Program} {ops : Array Oper} {Q : Exit → Act → World → Prop} {md : Region.Mode} {z : Nat} {p q r : Addr} {c1 c2 c3 : Value} {i : Nat} {oi : Oper} {tl : List Oper} {v : Value} {f : Nat} {l : Array Bool} {a : Act} {w : World}
  (hi : ops.toList.drop i = oi :: tl) (hS : S3 p c1 q c2 r c3 w) (h : Held.AnyS F n P md ops Q (S3 p c1 q c2 r c3) z f (l.setIfInBounds i true) (a.put oi.dst v) w)
  (hy : ∀ w, S3 p c1 q c2 r c3 w → (execOp a.eval oi).run P w = .ok (.value v) w := by intro w' hw'; obtain ⟨s0, s1, s2⟩ := hw'; go_simp; try (with_reducible rfl))
  (hc : (Held.noDefer ops && Region.noSelect ops && Held.tied md ops z i && Region.free md ops l i && (Region.ready md ops l).contains i) = true := by kernel_rfl)
  (hQ : ∀ c a w, Q (.panic c) (a.put oi.dst v) w → Q (.panic c) a w := by exact fun _ _ _ h => h) (hw : Region.wanted oi (yielded ops a.tmps) = true := by rfl) (ha : ∀ w, oi.about P w a.eval = none := by exact fun _ => rfl) : Held.AnyS F n P md ops Q (S3 p c1 q c2 r c3) z (f + 1) l a w :=
 Held.AnyS.take hi hc hQ hw ha hy hS h
theorem tk1 {F : Fence} {n : Nat} {P : Program} {ops : Array Oper} {Q : Exit → Act → World → Prop} {md : Region.Mode} {z : Nat} {i : Nat} {oi : Oper} {tl : List Oper} {v : Value} {f : Nat} {l : Array Bool} {a : Act} {w : World}
  (hi : ops.toList.drop i = oi :: tl) (h : Held.AnyS F n P md ops Q (fun _ => True) z f (l.setIfInBounds i true) (a.put oi.dst v) w)
  (hy : ∀ w, (fun _ => True) w → (execOp a.eval oi).run P w = .ok (.value v) w := by intro w' _; go_simp; try (with_reducible rfl))
  (hc : (Held.noDefer ops && Region.noSelect ops && Held.tied md ops z i && Region.free md ops l i && (Region.ready md ops l).contains i) = true := by kernel_rfl)
  (hQ : ∀ c a w, Q (.panic c) (a.put oi.dst v) w → Q (.panic c) a w := by exact fun _ _ _ h => h) (hw : Region.wanted oi (yielded ops a.tmps) = true := by rfl) (ha : ∀ w, oi.about P w a.eval = none := by exact fun _ => rfl) : Held.AnyS F n P md ops Q (fun _ => True) z (f + 1) l a w :=
 Held.AnyS.take hi hc hQ hw ha hy trivial h
/-- A guarded one that is let out. -/
theorem skc {F : Fence} {n : Nat} {P : Program} {ops : Array Oper} {Q : Exit → Act → World → Prop} {md : Region.Mode} {z : Nat} {S : World → Prop} {i : Nat} {oi : Oper} {tl : List Oper} {f : Nat} {l : Array Bool} {a : Act} {w : World}
  (hi : ops.toList.drop i = oi :: tl) (hS : S w) (h : Held.AnyS F n P md ops Q S z f (l.setIfInBounds i true) (a.put oi.dst undef) w)
  (hc : (Held.noDefer ops && Region.noSelect ops && Held.tied md ops z i && Region.free md ops l i && (Region.ready md ops l).contains i) = true := by kernel_rfl)
  (hQ : ∀ c a w, Q (.panic c) (a.put oi.dst undef) w → Q (.panic c) a w := by exact fun _ _ _ h => h) (hw : Region.wanted oi (yielded ops a.tmps) = false := by rfl) (ha : ∀ w, oi.about P w a.eval = none := by exact fun _ => rfl) : Held.AnyS F n P md ops Q S z (f + 1) l a w :=
 Held.AnyS.skip hi hc hQ hw ha hS h
end Go.Proofs.Ytgobidmfbjmpkaa.P
end
end
section
/- Laid for this claim by hp.py, this session's program round the kit's print: functions of the program as plain Lean functions, the proofs that the code comes to their answers, and the rows of the laws. Not trusted: Lean checks it. -/
namespace Go.Proofs.Ytgobidmfbjmpkaa.P
open Go.RowKit Go.Proofs.YtgobidmfbjmpkaaW.PrintWords Go.Proofs.YtgobidmfbjmpkaaW.PrintLast Go.Proofs.YtgobidmfbjmpkaaW.PrintMore
attribute [local go_sem] max2_int min2_int max_two min_two max_three min_three max_four min_four   -- for this text's walks alone
set_option linter.unusedVariables false
set_option linter.unusedSimpArgs false



def errW : Option Int → Value
 | none => .nilIface
 | some c => .iface 0 (.int .i64 c)
theorem errW_none : errW none = .nilIface := rfl
theorem errW_some (c : Int) : errW (some c) = .iface 0 (.int .i64 c) := rfl

theorem info3 : (Try.prog.info? 3).map (fun i => (i.zero, i.size, i.bytes)) = some (some (.int .i64 0), 1, 8) := by kernel_rfl
theorem info9 : (Try.prog.info? 9).map (fun i => (i.zero, i.size, i.bytes)) = some (some (.string ⟨#[]⟩), 1, 16) := by kernel_rfl
theorem info28 : (Try.prog.info? 28).map (fun i => (i.zero, i.size, i.bytes)) = some (some (.agg #[(.int .i64 0), (.int .i64 0), (.slice none 0 0)]), 3, 40) := by kernel_rfl
theorem info31 : (Try.prog.info? 31).map (fun i => (i.zero, i.size, i.bytes)) = some (some (.agg #[(.int .i64 0), (.int .i64 0), (.slice none 0 0)]), 3, 40) := by kernel_rfl
-- the values' own types
def rd_L3 (xs : List (List ByteArray)) (i : Int) : (List ByteArray) := xs.getD i.toNat ([] : List ByteArray)
theorem at_L3 {w : World} {A : Option Addr} {n : Nat} {xs : List (List ByteArray)} (h : Kd.C (Kd.slice 9 Kd.string) w A n xs) (i : Int) (h0 : 0 ≤ i) (h1 : i < n) : ∃ ad A0 c0, A = some ad ∧ w.cell? (ad.add i.toNat) = some (.slice A0 (rd_L3 xs i).length c0) ∧ (rd_L3 xs i).length ≤ c0 ∧ Kd.string.C w A0 (rd_L3 xs i).length (rd_L3 xs i) := by
 obtain ⟨ad, c, e, _, hK, hc0⟩ := Kd.C_get h ([] : List ByteArray) i h0 h1
 have hc : ∀ j u, c[j]? = some u → w.cell? (ad.add (i.toNat * 1 + j)) = some u := hc0
 obtain ⟨A0, c0, rfl, l0, g0⟩ := hK
 exact ⟨ad, A0, c0, e, by have hq := hc 0 _ rfl; rwa [Nat.mul_one, Nat.add_zero] at hq, l0, g0⟩

/-! #### struct type 31 -/
structure S31 where
 f0 : Int
 f1 : Int
 f2 : (List ByteArray)
def z31 : S31 := ⟨(0 : Int), (0 : Int), ([] : List ByteArray)⟩
def k31 : Kd S31 := Kd.iso (Kd.pair (Kd.int .i64) (Kd.pair (Kd.int .i64) (Kd.slice 9 Kd.string))) (fun x : S31 => (x.f0, x.f1, x.f2))
theorem k31_heap : Kd.Heap k31 := Kd.heap_iso _ (Kd.heap_pair (Kd.heap_int .i64) (Kd.heap_pair (Kd.heap_int .i64) (Kd.heap_slice 9 Kd.heap_string)))
theorem k31_open {w : World} {x : S31} {cs : List Value} (h : k31.K w x cs) : ∃ A2 c2, cs = [.int .i64 x.f0, .int .i64 x.f1, .slice A2 x.f2.length c2] ∧ x.f2.length ≤ c2 ∧ Kd.string.C w A2 x.f2.length x.f2 := by
 obtain ⟨_, _, rfl, rfl, ⟨_, _, rfl, rfl, ⟨A2, c2, rfl, l2, g2⟩⟩⟩ := h
 exact ⟨A2, c2, rfl, l2, g2⟩
theorem k31_openM {w : World} {base : Nat} {ok : Nat → Prop} {x : S31} {cs : List Value} (h : k31.M w base ok x cs) : ∃ v2, cs = [.int .i64 x.f0, .int .i64 x.f1, v2] ∧ Kd.string.R 9 w base ok v2 x.f2 := by
 obtain ⟨_, _, rfl, rfl, ⟨_, _, rfl, rfl, ⟨v2, rfl, g2⟩⟩⟩ := h
 exact ⟨v2, rfl, g2⟩
theorem k31_mk (w : World) (x : S31) {A2 : Option Addr} {c2 : Nat} (l2 : x.f2.length ≤ c2) (g2 : Kd.string.C w A2 x.f2.length x.f2) : k31.K w x [.int .i64 x.f0, .int .i64 x.f1, .slice A2 x.f2.length c2] := ⟨[.int .i64 x.f0], [.int .i64 x.f1, .slice A2 x.f2.length c2], rfl, rfl, ⟨[.int .i64 x.f1], [.slice A2 x.f2.length c2], rfl, rfl, ⟨A2, c2, rfl, l2, g2⟩⟩⟩
theorem k31_mkM (w : World) (base : Nat) (ok : Nat → Prop) (x : S31) {v2 : Value} (g2 : Kd.string.R 9 w base ok v2 x.f2) : k31.M w base ok x [.int .i64 x.f0, .int .i64 x.f1, v2] := ⟨[.int .i64 x.f0], [.int .i64 x.f1, v2], rfl, rfl, ⟨[.int .i64 x.f1], [v2], rfl, rfl, ⟨v2, rfl, g2⟩⟩⟩
theorem k31_openF {W : World} {ok : Nat → Prop} {x : S31} {cs : List Value} (h : Kd.FK k31 W ok x cs) : ∃ A2 c2, cs = [.int .i64 x.f0, .int .i64 x.f1, .slice A2 x.f2.length c2] ∧ x.f2.length ≤ c2 ∧ Kd.F Kd.string W ok A2 x.f2.length x.f2 := by
 obtain ⟨A2, c2, rfl, l2, _⟩ := k31_open (Kd.FK_now h)
 exact ⟨A2, c2, rfl, l2, (fun W' hW => by obtain ⟨A2_, c2_, he, l2_, g2_⟩ := k31_open (h W' hW); injection (Option.some.inj (show some (Value.slice A2 x.f2.length c2) = some (Value.slice A2_ x.f2.length c2_) from congrArg (fun l => l[2]?) he)) with ha_ _ _; rw [ha_]; exact g2_)⟩
theorem k31_mkF (W : World) (ok : Nat → Prop) (x : S31) {A2 : Option Addr} {c2 : Nat} (l2 : x.f2.length ≤ c2) (g2 : Kd.F Kd.string W ok A2 x.f2.length x.f2) : Kd.FK k31 W ok x [.int .i64 x.f0, .int .i64 x.f1, .slice A2 x.f2.length c2] := fun W2 hW => k31_mk W2 x l2 (g2 W2 hW)
def rd_T31 (xs : List S31) (i : Int) : S31 := xs.getD i.toNat z31
theorem at_T31 {w : World} {A : Option Addr} {n : Nat} {xs : List S31} (h : Kd.C k31 w A n xs) (i : Int) (h0 : 0 ≤ i) (h1 : i < n) : ∃ ad A2 c2, A = some ad ∧ w.cell? (ad.add (i.toNat * 3)) = some (.int .i64 (rd_T31 xs i).f0) ∧ w.cell? ⟨(ad.add (i.toNat * 3)).block, (ad.add (i.toNat * 3)).off + 1, none⟩ = some (.int .i64 (rd_T31 xs i).f1) ∧ w.cell? ⟨(ad.add (i.toNat * 3)).block, (ad.add (i.toNat * 3)).off + 2, none⟩ = some (.slice A2 (rd_T31 xs i).f2.length c2) ∧ (rd_T31 xs i).f2.length ≤ c2 ∧ Kd.string.C w A2 (rd_T31 xs i).f2.length (rd_T31 xs i).f2 := by
 obtain ⟨ad, c, e, _, hK, hc0⟩ := Kd.C_get h z31 i h0 h1
 have hc : ∀ j u, c[j]? = some u → w.cell? (ad.add (i.toNat * 3 + j)) = some u := hc0
 obtain ⟨A2, c2, rfl, l2, g2⟩ := k31_open hK
 exact ⟨ad, A2, c2, e, hc 0 _ rfl, by rw [← add_field _ _ 1 (by omega)]; exact hc 1 _ rfl, by rw [← add_field _ _ 2 (by omega)]; exact hc 2 _ rfl, l2, g2⟩

def rd_L5 (xs : List (List S31)) (i : Int) : (List S31) := xs.getD i.toNat ([] : List S31)
theorem at_L5 {w : World} {A : Option Addr} {n : Nat} {xs : List (List S31)} (h : Kd.C (Kd.slice 31 k31) w A n xs) (i : Int) (h0 : 0 ≤ i) (h1 : i < n) : ∃ ad A0 c0, A = some ad ∧ w.cell? (ad.add i.toNat) = some (.slice A0 (rd_L5 xs i).length c0) ∧ (rd_L5 xs i).length ≤ c0 ∧ k31.C w A0 (rd_L5 xs i).length (rd_L5 xs i) := by
 obtain ⟨ad, c, e, _, hK, hc0⟩ := Kd.C_get h ([] : List S31) i h0 h1
 have hc : ∀ j u, c[j]? = some u → w.cell? (ad.add (i.toNat * 1 + j)) = some u := hc0
 obtain ⟨A0, c0, rfl, l0, g0⟩ := hK
 exact ⟨ad, A0, c0, e, by have hq := hc 0 _ rfl; rwa [Nat.mul_one, Nat.add_zero] at hq, l0, g0⟩

/-! #### struct type 28 -/
structure S28 where
 f0 : Int
 f1 : Int
 f2 : (List S31)
def z28 : S28 := ⟨(0 : Int), (0 : Int), ([] : List S31)⟩
def k28 : Kd S28 := Kd.iso (Kd.pair (Kd.int .i64) (Kd.pair (Kd.int .i64) (Kd.slice 31 k31))) (fun x : S28 => (x.f0, x.f1, x.f2))
theorem k28_heap : Kd.Heap k28 := Kd.heap_iso _ (Kd.heap_pair (Kd.heap_int .i64) (Kd.heap_pair (Kd.heap_int .i64) (Kd.heap_slice 31 k31_heap)))
theorem k28_open {w : World} {x : S28} {cs : List Value} (h : k28.K w x cs) : ∃ A2 c2, cs = [.int .i64 x.f0, .int .i64 x.f1, .slice A2 x.f2.length c2] ∧ x.f2.length ≤ c2 ∧ k31.C w A2 x.f2.length x.f2 := by
 obtain ⟨_, _, rfl, rfl, ⟨_, _, rfl, rfl, ⟨A2, c2, rfl, l2, g2⟩⟩⟩ := h
 exact ⟨A2, c2, rfl, l2, g2⟩
theorem k28_openM {w : World} {base : Nat} {ok : Nat → Prop} {x : S28} {cs : List Value} (h : k28.M w base ok x cs) : ∃ v2, cs = [.int .i64 x.f0, .int .i64 x.f1, v2] ∧ k31.R 31 w base ok v2 x.f2 := by
 obtain ⟨_, _, rfl, rfl, ⟨_, _, rfl, rfl, ⟨v2, rfl, g2⟩⟩⟩ := h
 exact ⟨v2, rfl, g2⟩
theorem k28_mk (w : World) (x : S28) {A2 : Option Addr} {c2 : Nat} (l2 : x.f2.length ≤ c2) (g2 : k31.C w A2 x.f2.length x.f2) : k28.K w x [.int .i64 x.f0, .int .i64 x.f1, .slice A2 x.f2.length c2] := ⟨[.int .i64 x.f0], [.int .i64 x.f1, .slice A2 x.f2.length c2], rfl, rfl, ⟨[.int .i64 x.f1], [.slice A2 x.f2.length c2], rfl, rfl, ⟨A2, c2, rfl, l2, g2⟩⟩⟩
theorem k28_mkM (w : World) (base : Nat) (ok : Nat → Prop) (x : S28) {v2 : Value} (g2 : k31.R 31 w base ok v2 x.f2) : k28.M w base ok x [.int .i64 x.f0, .int .i64 x.f1, v2] := ⟨[.int .i64 x.f0], [.int .i64 x.f1, v2], rfl, rfl, ⟨[.int .i64 x.f1], [v2], rfl, rfl, ⟨v2, rfl, g2⟩⟩⟩
theorem k28_openF {W : World} {ok : Nat → Prop} {x : S28} {cs : List Value} (h : Kd.FK k28 W ok x cs) : ∃ A2 c2, cs = [.int .i64 x.f0, .int .i64 x.f1, .slice A2 x.f2.length c2] ∧ x.f2.length ≤ c2 ∧ Kd.F k31 W ok A2 x.f2.length x.f2 := by
 obtain ⟨A2, c2, rfl, l2, _⟩ := k28_open (Kd.FK_now h)
 exact ⟨A2, c2, rfl, l2, (fun W' hW => by obtain ⟨A2_, c2_, he, l2_, g2_⟩ := k28_open (h W' hW); injection (Option.some.inj (show some (Value.slice A2 x.f2.length c2) = some (Value.slice A2_ x.f2.length c2_) from congrArg (fun l => l[2]?) he)) with ha_ _ _; rw [ha_]; exact g2_)⟩
theorem k28_mkF (W : World) (ok : Nat → Prop) (x : S28) {A2 : Option Addr} {c2 : Nat} (l2 : x.f2.length ≤ c2) (g2 : Kd.F k31 W ok A2 x.f2.length x.f2) : Kd.FK k28 W ok x [.int .i64 x.f0, .int .i64 x.f1, .slice A2 x.f2.length c2] := fun W2 hW => k28_mk W2 x l2 (g2 W2 hW)
def rd_T28 (xs : List S28) (i : Int) : S28 := xs.getD i.toNat z28
theorem at_T28 {w : World} {A : Option Addr} {n : Nat} {xs : List S28} (h : Kd.C k28 w A n xs) (i : Int) (h0 : 0 ≤ i) (h1 : i < n) : ∃ ad A2 c2, A = some ad ∧ w.cell? (ad.add (i.toNat * 3)) = some (.int .i64 (rd_T28 xs i).f0) ∧ w.cell? ⟨(ad.add (i.toNat * 3)).block, (ad.add (i.toNat * 3)).off + 1, none⟩ = some (.int .i64 (rd_T28 xs i).f1) ∧ w.cell? ⟨(ad.add (i.toNat * 3)).block, (ad.add (i.toNat * 3)).off + 2, none⟩ = some (.slice A2 (rd_T28 xs i).f2.length c2) ∧ (rd_T28 xs i).f2.length ≤ c2 ∧ k31.C w A2 (rd_T28 xs i).f2.length (rd_T28 xs i).f2 := by
 obtain ⟨ad, c, e, _, hK, hc0⟩ := Kd.C_get h z28 i h0 h1
 have hc : ∀ j u, c[j]? = some u → w.cell? (ad.add (i.toNat * 3 + j)) = some u := hc0
 obtain ⟨A2, c2, rfl, l2, g2⟩ := k28_open hK
 exact ⟨ad, A2, c2, e, hc 0 _ rfl, by rw [← add_field _ _ 1 (by omega)]; exact hc 1 _ rfl, by rw [← add_field _ _ 2 (by omega)]; exact hc 2 _ rfl, l2, g2⟩

def rd_L7 (xs : List (List S28)) (i : Int) : (List S28) := xs.getD i.toNat ([] : List S28)
theorem at_L7 {w : World} {A : Option Addr} {n : Nat} {xs : List (List S28)} (h : Kd.C (Kd.slice 28 k28) w A n xs) (i : Int) (h0 : 0 ≤ i) (h1 : i < n) : ∃ ad A0 c0, A = some ad ∧ w.cell? (ad.add i.toNat) = some (.slice A0 (rd_L7 xs i).length c0) ∧ (rd_L7 xs i).length ≤ c0 ∧ k28.C w A0 (rd_L7 xs i).length (rd_L7 xs i) := by
 obtain ⟨ad, c, e, _, hK, hc0⟩ := Kd.C_get h ([] : List S28) i h0 h1
 have hc : ∀ j u, c[j]? = some u → w.cell? (ad.add (i.toNat * 1 + j)) = some u := hc0
 obtain ⟨A0, c0, rfl, l0, g0⟩ := hK
 exact ⟨ad, A0, c0, e, by have hq := hc 0 _ rfl; rwa [Nat.mul_one, Nat.add_zero] at hq, l0, g0⟩

/-! #### struct type 71 -/
structure S71 where
 f0 : Int
 f1 : ByteArray
 f2 : Int
 f3 : Int
def z71 : S71 := ⟨(0 : Int), (⟨#[]⟩ : ByteArray), (0 : Int), (0 : Int)⟩
def k71 : Kd S71 := Kd.iso (Kd.pair (Kd.int .i64) (Kd.pair Kd.string (Kd.pair (Kd.int .i64) (Kd.int .i64)))) (fun x : S71 => (x.f0, x.f1, x.f2, x.f3))
theorem k71_heap : Kd.Heap k71 := Kd.heap_iso _ (Kd.heap_pair (Kd.heap_int .i64) (Kd.heap_pair Kd.heap_string (Kd.heap_pair (Kd.heap_int .i64) (Kd.heap_int .i64))))
theorem k71_open {w : World} {x : S71} {cs : List Value} (h : k71.K w x cs) : cs = [.int .i64 x.f0, .string x.f1, .int .i64 x.f2, .int .i64 x.f3] := by
 obtain ⟨_, _, rfl, rfl, ⟨_, _, rfl, rfl, ⟨_, _, rfl, rfl, rfl⟩⟩⟩ := h
 exact rfl
theorem k71_openM {w : World} {base : Nat} {ok : Nat → Prop} {x : S71} {cs : List Value} (h : k71.M w base ok x cs) : cs = [.int .i64 x.f0, .string x.f1, .int .i64 x.f2, .int .i64 x.f3] := by
 obtain ⟨_, _, rfl, rfl, ⟨_, _, rfl, rfl, ⟨_, _, rfl, rfl, rfl⟩⟩⟩ := h
 exact rfl
theorem k71_mk (w : World) (x : S71)  : k71.K w x [.int .i64 x.f0, .string x.f1, .int .i64 x.f2, .int .i64 x.f3] := ⟨[.int .i64 x.f0], [.string x.f1, .int .i64 x.f2, .int .i64 x.f3], rfl, rfl, ⟨[.string x.f1], [.int .i64 x.f2, .int .i64 x.f3], rfl, rfl, ⟨[.int .i64 x.f2], [.int .i64 x.f3], rfl, rfl, rfl⟩⟩⟩
theorem k71_mkM (w : World) (base : Nat) (ok : Nat → Prop) (x : S71)  : k71.M w base ok x [.int .i64 x.f0, .string x.f1, .int .i64 x.f2, .int .i64 x.f3] := ⟨[.int .i64 x.f0], [.string x.f1, .int .i64 x.f2, .int .i64 x.f3], rfl, rfl, ⟨[.string x.f1], [.int .i64 x.f2, .int .i64 x.f3], rfl, rfl, ⟨[.int .i64 x.f2], [.int .i64 x.f3], rfl, rfl, rfl⟩⟩⟩
theorem k71_mkF (W : World) (ok : Nat → Prop) (x : S71) : Kd.FK k71 W ok x [.int .i64 x.f0, .string x.f1, .int .i64 x.f2, .int .i64 x.f3] := fun W2 _ => k71_mk W2 x
def rd_T71 (xs : List S71) (i : Int) : S71 := xs.getD i.toNat z71
theorem at_T71 {w : World} {A : Option Addr} {n : Nat} {xs : List S71} (h : Kd.C k71 w A n xs) (i : Int) (h0 : 0 ≤ i) (h1 : i < n) : ∃ ad , A = some ad ∧ w.cell? (ad.add (i.toNat * 4)) = some (.int .i64 (rd_T71 xs i).f0) ∧ w.cell? ⟨(ad.add (i.toNat * 4)).block, (ad.add (i.toNat * 4)).off + 1, none⟩ = some (.string (rd_T71 xs i).f1) ∧ w.cell? ⟨(ad.add (i.toNat * 4)).block, (ad.add (i.toNat * 4)).off + 2, none⟩ = some (.int .i64 (rd_T71 xs i).f2) ∧ w.cell? ⟨(ad.add (i.toNat * 4)).block, (ad.add (i.toNat * 4)).off + 3, none⟩ = some (.int .i64 (rd_T71 xs i).f3) := by
 obtain ⟨ad, c, e, _, hK, hc0⟩ := Kd.C_get h z71 i h0 h1
 have hc : ∀ j u, c[j]? = some u → w.cell? (ad.add (i.toNat * 4 + j)) = some u := hc0
 obtain rfl := k71_open hK
 exact ⟨ad, e, hc 0 _ rfl, by rw [← add_field _ _ 1 (by omega)]; exact hc 1 _ rfl, by rw [← add_field _ _ 2 (by omega)]; exact hc 2 _ rfl, by rw [← add_field _ _ 3 (by omega)]; exact hc 3 _ rfl⟩

def rd_L9 (xs : List (List S71)) (i : Int) : (List S71) := xs.getD i.toNat ([] : List S71)
theorem at_L9 {w : World} {A : Option Addr} {n : Nat} {xs : List (List S71)} (h : Kd.C (Kd.slice 71 k71) w A n xs) (i : Int) (h0 : 0 ≤ i) (h1 : i < n) : ∃ ad A0 c0, A = some ad ∧ w.cell? (ad.add i.toNat) = some (.slice A0 (rd_L9 xs i).length c0) ∧ (rd_L9 xs i).length ≤ c0 ∧ k71.C w A0 (rd_L9 xs i).length (rd_L9 xs i) := by
 obtain ⟨ad, c, e, _, hK, hc0⟩ := Kd.C_get h ([] : List S71) i h0 h1
 have hc : ∀ j u, c[j]? = some u → w.cell? (ad.add (i.toNat * 1 + j)) = some u := hc0
 obtain ⟨A0, c0, rfl, l0, g0⟩ := hK
 exact ⟨ad, A0, c0, e, by have hq := hc 0 _ rfl; rwa [Nat.mul_one, Nat.add_zero] at hq, l0, g0⟩

def rd_L10 (xs : List (List Int)) (i : Int) : (List Int) := xs.getD i.toNat ([] : List Int)
theorem at_L10 {w : World} {A : Option Addr} {n : Nat} {xs : List (List Int)} (h : Kd.C (Kd.slice 3 (Kd.int .i64)) w A n xs) (i : Int) (h0 : 0 ≤ i) (h1 : i < n) : ∃ ad A0 c0, A = some ad ∧ w.cell? (ad.add i.toNat) = some (.slice A0 (rd_L10 xs i).length c0) ∧ (rd_L10 xs i).length ≤ c0 ∧ (Kd.int .i64).C w A0 (rd_L10 xs i).length (rd_L10 xs i) := by
 obtain ⟨ad, c, e, _, hK, hc0⟩ := Kd.C_get h ([] : List Int) i h0 h1
 have hc : ∀ j u, c[j]? = some u → w.cell? (ad.add (i.toNat * 1 + j)) = some u := hc0
 obtain ⟨A0, c0, rfl, l0, g0⟩ := hK
 exact ⟨ad, A0, c0, e, by have hq := hc 0 _ rfl; rwa [Nat.mul_one, Nat.add_zero] at hq, l0, g0⟩

end Go.Proofs.Ytgobidmfbjmpkaa.P
end
section
/- collatorref06.with: a script, and one step more: by a walk of its text. -/
set_option linter.unusedVariables false
set_option linter.unusedSimpArgs false
namespace Go.Proofs.Ytgobidmfbjmpkaa.P
open Go Go.RowKit Go.Proofs.YtgobidmfbjmpkaaW.PrintWords Go.Proofs.YtgobidmfbjmpkaaW.PrintLast Go.Proofs.YtgobidmfbjmpkaaW.PrintMore
/-- A row of the call's own, out of its cells: what its elements lead to is only read. -/
theorem N_of_cells {α : Type} {d : Kd α} {w : World} {base e : Nat} {v : Value} {xs : List α} {cells : List Value} {ok : Nat → Prop} (hok : ∀ k, v.ownBlock = some k → ok k) (ho : w.ownsRow base e d.sz v xs.length cells) (hr : Reps (fun x c => Kd.FK d w (fun k => ok k ∧ some k ≠ v.ownBlock) x c) d.sz xs cells) : Kd.N d e w base ok v xs :=
 ⟨hok, Kd.chunks d.sz xs.length cells, Kd.chunks_length _ _ _, ⟨fun k hk => hk.symm, cells, by rw [Kd.chunks_length]; exact ho, Kd.reps_raw hr (fun x c h => ⟨d.K_len (Kd.FK_now h), d.K_one (Kd.FK_now h)⟩)⟩, fun j x c hx hc => by rw [Kd.chunks_get hc]; exact hr.2 j x hx⟩
/-- Cells of what came in, in a later world, beside a row that was made since. -/
theorem FK_later {α : Type} {d : Kd α} {w w' : World} {v : Value} {P0 : Nat → Prop} {x : α} {c : List Value} (h : Kd.FK d w P0 x c) (hb : Below w.heap.size w w') (hv : ∀ k, v.ownBlock = some k → w.heap.size ≤ k) : Kd.FK d w' (fun k => (P0 k ∨ w.heap.size ≤ k) ∧ some k ≠ v.ownBlock) x c :=
 Kd.FK_mono (Kd.FK_step (Kd.FK_bound h) (fun k _ hk => hb.block k hk)) (fun k hk => ⟨.inl hk.1, fun e => by have := hv k e.symm; omega⟩)
def withP (l : List S31) (op : Int) (line : ByteArray) : List S31 := match l.getLast? with
 | some e => if e.f0 = op then l.dropLast ++ [⟨op, e.f1 + 1, e.f2 ++ (if op = 3 then [line] else [])⟩] else l ++ [⟨op, 1, if op = 3 then [line] else []⟩]
 | none => [⟨op, 1, if op = 3 then [line] else []⟩]
def WithOk (l : List S31) : Prop := l.length ≤ 1000000 ∧ ∀ x ∈ l, (-1000000000 ≤ x.f1 ∧ x.f1 ≤ 1000000000) ∧ x.f2.length ≤ 1000000
theorem R_later {w W w' : World} {v u : Value} {ls : List ByteArray} (h : Kd.R Kd.string 9 W w.heap.size (fun k => w.heap.size ≤ k) u ls) (hb : Below W.heap.size W w') (hv : ∀ k, v.ownBlock = some k → W.heap.size ≤ k) (P0 : Nat → Prop) : Kd.R Kd.string 9 w' w.heap.size (fun k => (P0 k ∨ w.heap.size ≤ k) ∧ some k ≠ v.ownBlock) u ls :=
 Kd.R_mono (Kd.R_step (Kd.R_bound h) (fun k _ hk => hb.block k hk)) (fun k hk => ⟨.inr hk.1, fun e => by
  have h1 := hv k e.symm
  have h2 := hk.2.2.1
  omega⟩)
/-- What is left of a body behind its first n parts. -/
def sndN : Nat → Code → Code
 | 0, c => c
 | n + 1, .seq _ b => sndN n b
 | _ + 1, c => c
/-- The cells of what came in. -/
theorem cells_of_F {w : World} {P0 : Nat → Prop} {A0 : Option Addr} {l0 : List S31} (hF : Kd.F k31 w P0 A0 l0.length l0) : ∃ ic, Reps (fun x c => Kd.FK k31 w P0 x c) 3 l0 ic ∧ ((A0 = none ∧ l0.length = 0) ∨ ∃ ad, A0 = some ad ∧ ∀ j u, ic[j]? = some u → w.cell? (ad.add j) = some u) := by
 have h := Kd.F_rows hF
 by_cases c : l0.length = 0
 ·obtain rfl : l0 = [] := List.eq_nil_of_length_eq_zero c
  refine ⟨[], Reps.none _ _, ?_⟩
  cases A0 with
  | none => exact .inl ⟨rfl, rfl⟩
  | some ad => exact .inr ⟨ad, rfl, fun j u hu => by simp at hu⟩
 ·obtain ⟨ad, rfl, _⟩ := h.2.2 (by omega)
  obtain ⟨ic, h1, h2⟩ := ReadsRow.inner_ h
  exact ⟨ic, h1, .inr ⟨ad, rfl, h2⟩⟩
theorem cells_at {w W Z y : World} {A0 : Option Addr} {n : Nat} {ic : List Value} (h : (A0 = none ∧ n = 0) ∨ ∃ ad, A0 = some ad ∧ ∀ j u, ic[j]? = some u → w.cell? (ad.add j) = some u) (h1 : Below w.heap.size w W) (h2 : Below W.heap.size W Z) (h3 : Below Z.heap.size Z y) : (A0 = none ∧ n = 0) ∨ ∃ ad, A0 = some ad ∧ ∀ j u, ic[j]? = some u → y.cell? (ad.add j) = some u := by
 rcases h with h | ⟨ad, e, h⟩
 ·exact .inl h
 ·refine .inr ⟨ad, e, fun j u hu => ?_⟩
  have c1 := pw_cell_below h1 (h j u hu)
  exact pw_cell_below h3 (pw_cell_below h2 c1)
theorem Kd.R_one {w : World} {base : Nat} {ok : Nat → Prop} {v : Value} {ls : List ByteArray} (h : Kd.R Kd.string 9 w base ok v ls) : v.oneCell' = true := by
 obtain ⟨A, c, rfl⟩ := Kd.R_slice h
 rfl
/-- The end of a road: some of what came in, and an edit behind. -/
theorem with_end {P0_ : Nat → Prop} {l0 l1 : List S31} {op : Int} {line : ByteArray} {ed : S31} {w W Z V : World} {lv : Value} {ic : List Value} {A : Option Addr} {c : Nat} (hp : withP l0 op line = l1 ++ [ed]) (hr : Reps (fun x c => Kd.FK k31 w P0_ x c) 3 l1 ic)
  (hB : Below w.heap.size w W) (hL : Kd.R Kd.string 9 W w.heap.size (fun k => w.heap.size ≤ k) lv ed.f2) (hZ : Below W.heap.size W Z) (hD : Below Z.heap.size Z V) (ho : V.ownsRow Z.heap.size 31 3 (.slice A (l1.length + 1) c) (l1.length + 1) (ic ++ [.int .i64 ed.f0, .int .i64 ed.f1, lv])) :
  ∃ v0_ : Value, Ending.returned (.slice A (l1.length + 1) c) = .returned v0_ ∧ Kd.N k31 31 V w.heap.size (fun k_ => (P0_ k_ ∨ w.heap.size ≤ k_)) v0_ (withP l0 op line) ∧ Below w.heap.size w V := by
 have hWV : Below W.heap.size W V := hZ.trans (hD.mono hZ.size)
 have hwV : Below w.heap.size w V := below_step hB hWV
 have s1 := hB.size
 have s2 := hZ.size
 have hv : ∀ k, (Value.slice A (l1.length + 1) c).ownBlock = some k → Z.heap.size ≤ k := fun k hk => own_base ho k hk
 refine ⟨_, rfl, ?_, hwV⟩
 rw [hp]
 refine N_of_cells (fun k hk => .inr (by have := hv k hk; omega)) (by rw [List.length_append, List.length_singleton]; exact own_less ho (by omega)) ?_
 refine Reps.snoc (hr.imp_ (fun x c h => FK_later h hwV (fun k hk => by have := hv k hk; omega))) ?_ rfl
 have hR := R_later (v := .slice A (l1.length + 1) c) hL hWV (fun k hk => by have := hv k hk; omega) P0_
 exact Kd.FK_of_M (k31_mkM V w.heap.size _ ed hR)
theorem with_new_end {P0_ : Nat → Prop} {A0 : Option Addr} {l0 : List S31} {op : Int} {line : ByteArray} {w W Z V : World} {ls : List ByteArray} {lv : Value} {ic : List Value} {A : Option Addr} {c : Nat} (hF : Kd.F k31 w P0_ A0 l0.length l0) (hlo : ls = if op = 3 then [line] else []) (hp : withP l0 op line = l0 ++ [⟨op, 1, ls⟩]) (hr : Reps (fun x c => Kd.FK k31 w P0_ x c) 3 l0 ic)
  (hB : Below w.heap.size w W) (hL : Kd.R Kd.string 9 W w.heap.size (fun k => w.heap.size ≤ k) lv ls) (hZ : Below W.heap.size W Z) (hD : Below Z.heap.size Z V) (ho : V.ownsRow Z.heap.size 31 3 (.slice A (l0.length + 1) c) (l0.length + 1) (ic ++ [.int .i64 op, .int .i64 1, lv])) :
  ∃ v0_ : Value, Ending.returned (.slice A (l0.length + 1) c) = .returned v0_ ∧ Kd.N k31 31 V w.heap.size (fun k_ => (P0_ k_ ∨ w.heap.size ≤ k_)) v0_ (withP l0 op line) ∧ Below w.heap.size w V :=
 with_end (ed := ⟨op, 1, ls⟩) hp hr hB hL hZ hD ho
theorem own_news {w : World} {base : Nat} {e : TypeId} {size n c : Nat} {A : Option Addr} {xs : List Value} (h : w.ownsRow base e size (.slice A n c) n xs) : (A = none ∧ n = 0) ∨ ∃ ad, A = some ad ∧ ∀ j u, xs[j]? = some u → w.cell? (ad.add j) = some u := by
 rcases h.2 with ⟨e1, e2⟩ | ⟨g, cap, cur, e1, _⟩
 ·injection e1 with e1
  exact .inl ⟨e1, e2⟩
 ·injection e1 with e1
  subst e1
  exact .inr ⟨_, rfl, fun j u hu => h.cells (g := g) rfl j u hu⟩
/-- The cells of strings that are read. -/
theorem cells_of_strs {w : World} {A : Option Addr} {l : List ByteArray} (h : Kd.C Kd.string w A l.length l) : (A = none ∧ l.length = 0) ∨ ∃ ad, A = some ad ∧ ∀ j u, (encs Value.string l)[j]? = some u → w.cell? (ad.add j) = some u := by
 by_cases c : l.length = 0
 ·obtain rfl : l = [] := List.eq_nil_of_length_eq_zero c
  cases A with
  | none => exact .inl ⟨rfl, rfl⟩
  | some ad => exact .inr ⟨ad, rfl, fun j u hu => by simp [encs] at hu⟩
 ·obtain ⟨ad, rfl, hc⟩ := h.2.2 (by omega)
  refine .inr ⟨ad, rfl, fun j u hu => ?_⟩
  unfold encs at hu
  rw [List.getElem?_map] at hu
  obtain ⟨p, hp, rfl⟩ := Option.map_eq_some_iff.1 hu
  obtain ⟨cs, _, hk, hcell⟩ := hc j p hp
  have hk : cs = [.string p] := hk
  subst hk
  have := hcell 0 _ rfl
  rw [show j * Kd.string.sz + 0 = j from by show j * 1 + 0 = j; omega] at this
  exact this
theorem set3 {w : World} {b : Nat} {a0 a1 a2 : Value} {t : TypeId} (h : w.heap[b]? = some (.cells #[a0, a1, a2] t (0, 0))) (v0 v1 v2 : Value) : ∃ w', ((w.setCell ⟨b, 0, none⟩ v0).setCell ⟨b, 1, none⟩ v1).setCell ⟨b, 2, none⟩ v2 = w' ∧ w'.heap[b]? = some (.cells #[v0, v1, v2] t (0, 0)) ∧ (∀ c, c ≠ b → w'.heap[c]? = w.heap[c]?) ∧ ∀ (W : World), Below W.heap.size W w → W.heap.size ≤ b → Below W.heap.size W w' :=
 ⟨_, rfl, blk_set (blk_set (blk_set h 0 v0) 1 v1) 2 v2, fun c hc => by
  rw [Below.heap_setCell _ ⟨b, 2, none⟩ v2 c hc, Below.heap_setCell _ ⟨b, 1, none⟩ v1 c hc, Below.heap_setCell _ ⟨b, 0, none⟩ v0 c hc], fun W hW hb => below_set (below_set (below_set hW hb) hb) hb⟩
set_option maxRecDepth 100000 in
set_option maxHeartbeats 4000000 in
theorem with_r8 (P0_ : Nat → Prop) (ad : Addr) (c0 : Nat) (l0 : List S31) (op : Int) (line : ByteArray) (ed : S31) (m : Nat) (w W : World) (hF : Kd.F k31 w P0_ (some ad) l0.length l0) (hc0 : l0.length ≤ c0) (hok : WithOk l0) (hm : l0.length = m + 1) (hp : withP l0 op line = l0.take m ++ [ed]) (lv : Value) (eb : Nat) (x1 x2 x3 x4 x6 x8 x9 x10 x11 x12 x13 x14 x15 x16 x17 x18 x19 x20 x21 x22 x23 x24 x25 x26 x27 x28 x29 x30 x31 x32 x33 x34 x35 x36 x37 x38 x39 x40 x41 x42 x43 x44 x45 x46 x47 x48 x49 x50 x51 x52 x53 x54 x55 x56 x57 x58 x59 x60 x61 x62 x63 : Value)
  (hL : Kd.R Kd.string 9 W w.heap.size (fun k => w.heap.size ≤ k) lv ed.f2) (hB : Below w.heap.size w W) (hE : W.heap[eb]? = some (.cells #[.int .i64 ed.f0, .int .i64 ed.f1, lv] 31 (0, 0))) :
  Code.wp Try.prog (sndN 6 (Try.f38.body.getD .skip)) (bodyPost Try.prog Try.f38 fun e w' => ∃ v0_ : Value, e = .returned (v0_) ∧ Kd.N k31 31 w' w.heap.size (fun k_ => (P0_ k_ ∨ w.heap.size ≤ k_)) v0_ (withP l0 op line) ∧ Below w.heap.size w w') ⟨#[.slice (some ad) l0.length c0, x1, x2, x3, x4, .int .i64 (l0.length : Int), x6, .pointer (some ⟨eb, 0, none⟩), x8, x9, x10, x11, x12, x13, x14, x15, x16, x17, x18, x19, x20, x21, x22, x23, x24, x25, x26, x27, x28, x29, x30, x31, x32, x33, x34, x35, x36, x37, x38, x39, x40, x41, x42, x43, x44, x45, x46, x47, x48, x49, x50, x51, x52, x53, x54, x55, x56, x57, x58, x59, x60, x61, x62, x63], []⟩ W := by
 obtain ⟨AL, cL, rfl⟩ := Kd.R_slice hL
 conv in sndN 6 _ => whnf
 have HF := Lib.hid hF
 have HOK := Lib.hid hok
 have HL := Lib.hid hL
 have HB := Lib.hid hB
 have HE := Lib.hid hE
 have HP := Lib.hid hp
 have HM := Lib.hid hm
 have HC0 := Lib.hid hc0
 have p3 : IntKind.i64.wrap ((l0.length : Int) - 1) = (m : Int) := by rw [i64_w, show (l0.length : Int) - 1 = (m : Int) by omega]; have := HOK.out.1; unfold wrap64; omega
 have p4 := eq_true (show 0 ≤ (m : Int) by omega)
 have p5 := eq_true (show (m : Int) ≤ (l0.length : Int) by omega)
 have p6 := eq_true (show m ≤ c0 by omega)
 have p7 := eq_true (show (m : Int) ≤ (c0 : Int) by omega)
 clear hF hok hL hB hE hp hm hc0
 go_wp2
 rename_i K8 hEND8
 have HEND8 := Lib.hid hEND8
 clear hEND8
 obtain ⟨Z8, hZ8⟩ : ∃ Z8, Z8 = W.drew := ⟨_, rfl⟩
 have HW8 := Lib.hid (show Below W.heap.size W Z8 by rw [hZ8]; exact (Below.refl _ _).drew)
 have HE8 := Lib.hid (blk_below HE.out HW8.out)
 refine (wpIn_wide (n := 9)).1 ?_
 refine Held.region 8 (Held.Same Z8 [eb]) (by kernel_rfl) ?_
 rw [← hZ8]
 clear hZ8
 have hT := Held.Same.refl Z8 [eb]
 have m0 : Z8.cell? ⟨eb, 0, none⟩ = some (#[.int .i64 ed.f0, .int .i64 ed.f1, .slice AL ed.f2.length cL][0]) := (blk_cell HE8.out 0).trans rfl
 have m1 : Z8.cell? ⟨eb, 1, none⟩ = some (#[.int .i64 ed.f0, .int .i64 ed.f1, .slice AL ed.f2.length cL][1]) := (blk_cell HE8.out 1).trans rfl
 have m2 : Z8.cell? ⟨eb, 2, none⟩ = some (#[.int .i64 ed.f0, .int .i64 ed.f1, .slice AL ed.f2.length cL][2]) := (blk_cell HE8.out 2).trans rfl
 refine Held.tk (i := 0) rfl hT ?_
 try simp only [Act.put, List.setIfInBounds_toArray, List.set_cons_zero, List.set_cons_succ]
 refine Held.tk (i := 1) rfl hT ?_
 try simp only [Act.put, List.setIfInBounds_toArray, List.set_cons_zero, List.set_cons_succ]
 refine Held.tk (i := 2) rfl hT ?_
 try simp only [Act.put, List.setIfInBounds_toArray, List.set_cons_zero, List.set_cons_succ]
 refine Held.tk (i := 3) rfl hT ?_
 try simp only [Act.put, List.setIfInBounds_toArray, List.set_cons_zero, List.set_cons_succ]
 refine Held.tk (i := 5) rfl hT ?_
 try simp only [Act.put, List.setIfInBounds_toArray, List.set_cons_zero, List.set_cons_succ]
 clear m0 m1 m2 hT p3 p4 p5 p6 p7
 obtain ⟨ic, hrc, hcc⟩ := cells_of_F HF.out
 have HRC := Lib.hid (show Reps (fun x c => Kd.FK k31 w P0_ x c) 3 (l0.take m) (ic.take (m * 3)) from Kd.reps_take hrc (by have := HM.out; omega))
 have HCC := Lib.hid (show ((some ad : Option Addr) = none ∧ m = 0) ∨ ∃ a, some ad = some a ∧ ∀ j u, (ic.take (m * 3))[j]? = some u → w.cell? (a.add j) = some u from by rcases hcc with ⟨h, _⟩ | ⟨a, h, hc⟩; cases h; exact .inr ⟨a, h, fun j u hu => hc j u (by rw [List.getElem?_take] at hu; split at hu; exact hu; cases hu)⟩)
 have HLT := Lib.hid (show (l0.take m).length = m by rw [List.length_take]; have := HM.out; omega)
 clear hrc hcc
 have HD := Lib.hid (Below.refl Z8.heap.size Z8)
 have HS := Lib.hid (fun w' (h : Below Z8.heap.size Z8 w') => (show Held.Same Z8 [eb] w' from fun b hb => h.block b (by simp at hb; rcases hb with rfl; exact blk_lt HE8.out)))
 refine Held.AnyS.step2 (i := 4) (j := 6) rfl rfl (by kernel_rfl) rfl rfl (fun K hK => ?_) (fun K hK => ?_)
 ·refine Held.append_any (.const (.slice none 0 0)) (.tmp 59) 26 rfl Z8.heap.size 31 (.agg #[.int .i64 0, .int .i64 0, .slice none 0 0]) 3 40 Try.underlying26 (by kernel_rfl) rfl (by omega) (.slice none 0 0) 0 ([]) rfl (own_nil _ _ _ _) (some ad) m c0 (ic.take (m * 3)) rfl (by rw [HRC.out.1, HLT.out]) (cells_at HCC.out HB.out HW8.out HD.out) ?_ ?_ ?_ ?_ ?_
  ·exact Kd.reps_one HRC.out (by decide) (fun p c h => k31.K_one (Kd.FK_now h))
  ·have := HOK.out.1; have := HM.out; simp only [maxLen]; omega
  ·have := HOK.out.1; have := HM.out; omega
  ·have := HD.out.size; omega
  intro v y1 hown hgr hat
  have hown : y1.ownsRow Z8.heap.size 31 3 v (m) (ic.take (m * 3)) := by rw [Nat.zero_add, List.nil_append] at hown; exact hown
  obtain ⟨A2, c2, rfl⟩ := own_slice hown
  have hD : Below Z8.heap.size Z8 y1 := HD.out.grown hgr HD.out.size (fun k hk => by simp [Value.ownBlock] at hk)
  refine hK.out _ _ (fun _ => HS.out _ hD) ?_
  have HO_ := Lib.hid hown
  have HD_ := Lib.hid hD
  clear HD
  have HD := HD_
  have HO8 := HO_
  clear HO_ HD_ hK K hown hgr hat hD 
  try simp only [Act.put, List.setIfInBounds_toArray, List.set_cons_zero, List.set_cons_succ]
  refine Held.AnyS.step (i := 6) rfl (by kernel_rfl) rfl (fun K hK => ?_)
  go_simp
  first | refine ⟨trivial, ?_⟩ | skip
  obtain ⟨y2, hy⟩ : ∃ V, V = y1.alloc (.cells #[.int .i64 ed.f0, .int .i64 ed.f1, .slice AL ed.f2.length cL] 31) := ⟨_, rfl⟩
  have hD : Below Z8.heap.size Z8 y2 := by rw [hy]; exact HD.out.alloc HD.out.size _
  have hw : Below y1.heap.size y1 y2 := by rw [hy]; exact (Below.refl _ _).alloc (Nat.le_refl _) _
  have hN : y2.heap[y1.heap.size]? = some (.cells #[.int .i64 ed.f0, .int .i64 ed.f1, .slice AL ed.f2.length cL] 31 (0, 0)) := by rw [hy]; exact heap_alloc_new y1 _
  rw [← hy]
  refine hK.out _ _ (fun _ => HS.out _ hD) ?_
  obtain ⟨b6, hbn⟩ : ∃ b, y1.heap.size = b := ⟨_, rfl⟩
  have HO_ := Lib.hid (pw_own_below HO8.out hw)
  have HNE := Lib.hid (show some b6 ≠ (Value.slice A2 (m) c2).ownBlock from fun e => by have := own_lt HO8.out b6 e.symm; omega)
  clear HO8
  have HO8 := HO_
  clear HO_
  rw [hbn] at hN ⊢
  have HBX := Lib.hid hN
  have HGE := Lib.hid (show Z8.heap.size ≤ b6 by rw [← hbn]; exact HD.out.size)
  have HD_ := Lib.hid hD
  clear HD
  have HD := HD_
  clear hK K hbn hw hD hN hy HD_
  try simp only [Act.put, List.setIfInBounds_toArray, List.set_cons_zero, List.set_cons_succ]
  refine Held.AnyS.step (i := 7) rfl (by kernel_rfl) rfl (fun K hK => ?_)
  have nw : ∀ j u, [.int .i64 ed.f0, .int .i64 ed.f1, .slice AL ed.f2.length cL][j]? = some u → y2.cell? ((⟨b6, 0, none⟩ : Addr).add j) = some u := by simpa using World.news_of_block (cs := #[.int .i64 ed.f0, .int .i64 ed.f1, .slice AL ed.f2.length cL]) (t := 31) (fr := (0, 0)) HBX.out
  refine Held.append_any (.tmp 60) (.tmp 62) 26 rfl Z8.heap.size 31 (.agg #[.int .i64 0, .int .i64 0, .slice none 0 0]) 3 40 Try.underlying26 (by kernel_rfl) rfl (by omega) (.slice A2 (m) c2) m (ic.take (m * 3)) rfl HO8.out (some ⟨b6, 0, none⟩) 1 1 ([.int .i64 ed.f0, .int .i64 ed.f1, .slice AL ed.f2.length cL]) rfl rfl (.inr ⟨_, rfl, nw⟩) ?_ ?_ ?_ ?_ ?_
  ·intro u hu; simp at hu; rcases hu with rfl | rfl | rfl <;> rfl
  ·have := HOK.out.1; have := HM.out; simp only [maxLen]; omega
  ·have := HOK.out.1; have := HM.out; omega
  ·have := HD.out.size; omega
  intro v y3 hown hgr hat
  have hown : y3.ownsRow Z8.heap.size 31 3 v (m + 1) (ic.take (m * 3) ++ [.int .i64 ed.f0, .int .i64 ed.f1, .slice AL ed.f2.length cL]) := hown
  obtain ⟨A4, c4, rfl⟩ := own_slice hown
  have hD : Below Z8.heap.size Z8 y3 := HD.out.grown hgr HD.out.size (fun k hk => own_base HO8.out k hk)
  refine hK.out _ _ (fun _ => HS.out _ hD) ?_
  have HO_ := Lib.hid hown
  have HD_ := Lib.hid hD
  clear HD
  have HD := HD_
  clear HO8
  have HO8 := HO_
  clear HO_ HD_ hK K hown hgr hat hD nw
  try simp only [Act.put, List.setIfInBounds_toArray, List.set_cons_zero, List.set_cons_succ]
  refine Held.AnyS.step (i := 8) rfl (by kernel_rfl) rfl (fun K hK => ?_)
  go_simp
  refine hK.out _ _ (fun h => absurd h (by omega)) ?_
  clear hK K
  refine Held.AnyS.done (by kernel_rfl) ?_ _
  go_simp
  refine HEND8.out _ _ ?_
  go_wp2
  go_ret
  have hlt := HLT.out
  have ho := HO8.out
  have hq := with_end (A := A4) (c := c4) HP.out HRC.out HB.out HL.out HW8.out HD.out (by rw [hlt]; exact ho)
  rw [hlt] at hq
  exact hq
 ·go_simp
  first | refine ⟨trivial, ?_⟩ | skip
  obtain ⟨y1, hy⟩ : ∃ V, V = Z8.alloc (.cells #[.int .i64 ed.f0, .int .i64 ed.f1, .slice AL ed.f2.length cL] 31) := ⟨_, rfl⟩
  have hD : Below Z8.heap.size Z8 y1 := by rw [hy]; exact HD.out.alloc HD.out.size _
  have hw : Below Z8.heap.size Z8 y1 := by rw [hy]; exact (Below.refl _ _).alloc (Nat.le_refl _) _
  have hN : y1.heap[Z8.heap.size]? = some (.cells #[.int .i64 ed.f0, .int .i64 ed.f1, .slice AL ed.f2.length cL] 31 (0, 0)) := by rw [hy]; exact heap_alloc_new Z8 _
  rw [← hy]
  refine hK.out _ _ (fun _ => HS.out _ hD) ?_
  obtain ⟨b6, hbn⟩ : ∃ b, Z8.heap.size = b := ⟨_, rfl⟩
  rw [hbn] at hN ⊢
  have HBX := Lib.hid hN
  have HGE := Lib.hid (show Z8.heap.size ≤ b6 by rw [← hbn]; exact HD.out.size)
  have HD_ := Lib.hid hD
  clear HD
  have HD := HD_
  clear hK K hbn hw hD hN hy HD_
  try simp only [Act.put, List.setIfInBounds_toArray, List.set_cons_zero, List.set_cons_succ]
  refine Held.AnyS.step (i := 4) rfl (by kernel_rfl) rfl (fun K hK => ?_)
  refine Held.append_any (.const (.slice none 0 0)) (.tmp 59) 26 rfl Z8.heap.size 31 (.agg #[.int .i64 0, .int .i64 0, .slice none 0 0]) 3 40 Try.underlying26 (by kernel_rfl) rfl (by omega) (.slice none 0 0) 0 ([]) rfl (own_nil _ _ _ _) (some ad) m c0 (ic.take (m * 3)) rfl (by rw [HRC.out.1, HLT.out]) (cells_at HCC.out HB.out HW8.out HD.out) ?_ ?_ ?_ ?_ ?_
  ·exact Kd.reps_one HRC.out (by decide) (fun p c h => k31.K_one (Kd.FK_now h))
  ·have := HOK.out.1; have := HM.out; simp only [maxLen]; omega
  ·have := HOK.out.1; have := HM.out; omega
  ·have := HD.out.size; omega
  intro v y2 hown hgr hat
  have hown : y2.ownsRow Z8.heap.size 31 3 v (m) (ic.take (m * 3)) := by rw [Nat.zero_add, List.nil_append] at hown; exact hown
  obtain ⟨A2, c2, rfl⟩ := own_slice hown
  have hD : Below Z8.heap.size Z8 y2 := HD.out.grown hgr HD.out.size (fun k hk => by simp [Value.ownBlock] at hk)
  refine hK.out _ _ (fun _ => HS.out _ hD) ?_
  have HB_ := Lib.hid ((hgr.block _ (blk_lt HBX.out) (by simp [Value.ownBlock])).trans HBX.out)
  have HNE_ := Lib.hid (show some b6 ≠ (Value.slice A2 (m) c2).ownBlock from by rcases hat with hat | hat <;> rw [hat]; exact (by simp [Value.ownBlock]); exact fun e => by injection e with e; have := blk_lt HBX.out; omega)
  clear HBX
  have HBX := HB_
  have HNE := HNE_
  clear HB_ HNE_
  have HO_ := Lib.hid hown
  have HD_ := Lib.hid hD
  clear HD
  have HD := HD_
  have HO8 := HO_
  clear HO_ HD_ hK K hown hgr hat hD 
  try simp only [Act.put, List.setIfInBounds_toArray, List.set_cons_zero, List.set_cons_succ]
  refine Held.AnyS.step (i := 7) rfl (by kernel_rfl) rfl (fun K hK => ?_)
  have nw : ∀ j u, [.int .i64 ed.f0, .int .i64 ed.f1, .slice AL ed.f2.length cL][j]? = some u → y2.cell? ((⟨b6, 0, none⟩ : Addr).add j) = some u := by simpa using World.news_of_block (cs := #[.int .i64 ed.f0, .int .i64 ed.f1, .slice AL ed.f2.length cL]) (t := 31) (fr := (0, 0)) HBX.out
  refine Held.append_any (.tmp 60) (.tmp 62) 26 rfl Z8.heap.size 31 (.agg #[.int .i64 0, .int .i64 0, .slice none 0 0]) 3 40 Try.underlying26 (by kernel_rfl) rfl (by omega) (.slice A2 (m) c2) m (ic.take (m * 3)) rfl HO8.out (some ⟨b6, 0, none⟩) 1 1 ([.int .i64 ed.f0, .int .i64 ed.f1, .slice AL ed.f2.length cL]) rfl rfl (.inr ⟨_, rfl, nw⟩) ?_ ?_ ?_ ?_ ?_
  ·intro u hu; simp at hu; rcases hu with rfl | rfl | rfl <;> rfl
  ·have := HOK.out.1; have := HM.out; simp only [maxLen]; omega
  ·have := HOK.out.1; have := HM.out; omega
  ·have := HD.out.size; omega
  intro v y3 hown hgr hat
  have hown : y3.ownsRow Z8.heap.size 31 3 v (m + 1) (ic.take (m * 3) ++ [.int .i64 ed.f0, .int .i64 ed.f1, .slice AL ed.f2.length cL]) := hown
  obtain ⟨A4, c4, rfl⟩ := own_slice hown
  have hD : Below Z8.heap.size Z8 y3 := HD.out.grown hgr HD.out.size (fun k hk => own_base HO8.out k hk)
  refine hK.out _ _ (fun _ => HS.out _ hD) ?_
  have HO_ := Lib.hid hown
  have HD_ := Lib.hid hD
  clear HD
  have HD := HD_
  clear HO8
  have HO8 := HO_
  clear HO_ HD_ hK K hown hgr hat hD nw
  try simp only [Act.put, List.setIfInBounds_toArray, List.set_cons_zero, List.set_cons_succ]
  refine Held.AnyS.step (i := 8) rfl (by kernel_rfl) rfl (fun K hK => ?_)
  go_simp
  refine hK.out _ _ (fun h => absurd h (by omega)) ?_
  clear hK K
  refine Held.AnyS.done (by kernel_rfl) ?_ _
  go_simp
  refine HEND8.out _ _ ?_
  go_wp2
  go_ret
  have hlt := HLT.out
  have ho := HO8.out
  have hq := with_end (A := A4) (c := c4) HP.out HRC.out HB.out HL.out HW8.out HD.out (by rw [hlt]; exact ho)
  rw [hlt] at hq
  exact hq
set_option maxRecDepth 100000 in
set_option maxHeartbeats 4000000 in
theorem with_r5 (P0_ : Nat → Prop) (A0 : Option Addr) (c0 : Nat) (l0 : List S31) (op : Int) (line : ByteArray) (fr tt : Int) (w W : World) (hF : Kd.F k31 w P0_ A0 l0.length l0) (hc0 : l0.length ≤ c0) (hok : WithOk l0) (ls : List ByteArray) (hls : ls.length ≤ 1) (hlo : ls = if op = 3 then [line] else []) (lv : Value) (xb : Nat) (x1 x2 x7 x8 x9 x10 x11 x12 x13 x14 x15 x16 x17 x18 x19 x20 x21 x22 x23 x24 x25 x26 x27 x28 x29 x30 x31 x32 x33 x34 x35 x36 x37 x38 x39 x40 x41 x42 x43 x44 x45 x46 x47 x48 x49 x50 x51 x52 x53 x54 x55 x56 x57 x58 x59 x60 x61 x62 x63 : Value)
  (hL : Kd.R Kd.string 9 W w.heap.size (fun k => w.heap.size ≤ k) lv ls) (hB : Below w.heap.size w W) (hX : W.heap[xb]? = some (.cells #[.int .i64 op, .string line, .int .i64 fr, .int .i64 tt] 71 (0, 0))) (hxb : w.heap.size ≤ xb) :
  Code.wp Try.prog (sndN 4 (Try.f38.body.getD .skip)) (bodyPost Try.prog Try.f38 fun e w' => ∃ v0_ : Value, e = .returned (v0_) ∧ Kd.N k31 31 w' w.heap.size (fun k_ => (P0_ k_ ∨ w.heap.size ≤ k_)) v0_ (withP l0 op line) ∧ Below w.heap.size w w') ⟨#[.slice A0 l0.length c0, x1, x2, .pointer (some ⟨xb, 0, none⟩), .slice none 0 0, .int .i64 (l0.length : Int), lv, x7, x8, x9, x10, x11, x12, x13, x14, x15, x16, x17, x18, x19, x20, x21, x22, x23, x24, x25, x26, x27, x28, x29, x30, x31, x32, x33, x34, x35, x36, x37, x38, x39, x40, x41, x42, x43, x44, x45, x46, x47, x48, x49, x50, x51, x52, x53, x54, x55, x56, x57, x58, x59, x60, x61, x62, x63], []⟩ W := by
 obtain ⟨AL, cL, rfl⟩ := Kd.R_slice hL
 conv in sndN 4 _ => whnf
 have HLO := Lib.hid hlo
 have HLS := Lib.hid hls
 clear hlo hls
 have HF := Lib.hid hF
 have HOK := Lib.hid hok
 have HL := Lib.hid hL
 have HB := Lib.hid hB
 have HX := Lib.hid hX
 have HXB := Lib.hid hxb
 have HC0 := Lib.hid hc0
 clear hF hok hL hB hX hxb hc0
 go_wp2
 rename_i K7 hEND7 K5 hEND5
 have HEND7 := Lib.hid hEND7
 have HEND5 := Lib.hid hEND5
 clear hEND7 hEND5
 obtain ⟨Z, hZ⟩ : ∃ Z, Z = W.drew := ⟨_, rfl⟩
 have HU0 := Lib.hid (show Below W.heap.size W Z by rw [hZ]; exact (Below.refl _ _).drew)
 by_cases cn : l0.length = 0
 ·have HP := Lib.hid (show withP l0 op line = l0 ++ [⟨op, 1, ls⟩] by obtain rfl := List.eq_nil_of_length_eq_zero cn; rw [HLO.out]; rfl)
  have p0 : ((l0.length : Int) == 0) = true := by rw [cn]; rfl
  have p1 : ((l0.length : Int) = 0) = True := eq_true (by omega)
  have p2 : (l0.length == 0) = true := by rw [cn]; rfl
  clear cn
  refine (wpIn_wide (n := 9)).1 ?_
  refine Held.region 13 (fun _ => True) (by kernel_rfl) ?_
  rw [← hZ]
  clear hZ
  refine tk1 (i := 0) rfl ?_
  try simp only [Act.put, List.setIfInBounds_toArray, List.set_cons_zero, List.set_cons_succ]
  refine tk1 (i := 1) rfl ?_
  try simp only [Act.put, List.setIfInBounds_toArray, List.set_cons_zero, List.set_cons_succ]
  refine tk1 (i := 2) rfl ?_
  try simp only [Act.put, List.setIfInBounds_toArray, List.set_cons_zero, List.set_cons_succ]
  refine skc (i := 3) rfl trivial ?_
  try simp only [Act.put, List.setIfInBounds_toArray, List.set_cons_zero, List.set_cons_succ]
  refine skc (i := 4) rfl trivial ?_
  try simp only [Act.put, List.setIfInBounds_toArray, List.set_cons_zero, List.set_cons_succ]
  refine skc (i := 5) rfl trivial ?_
  try simp only [Act.put, List.setIfInBounds_toArray, List.set_cons_zero, List.set_cons_succ]
  refine skc (i := 6) rfl trivial ?_
  try simp only [Act.put, List.setIfInBounds_toArray, List.set_cons_zero, List.set_cons_succ]
  refine skc (i := 7) rfl trivial ?_
  try simp only [Act.put, List.setIfInBounds_toArray, List.set_cons_zero, List.set_cons_succ]
  refine skc (i := 8) rfl trivial ?_
  try simp only [Act.put, List.setIfInBounds_toArray, List.set_cons_zero, List.set_cons_succ]
  refine skc (i := 9) rfl trivial ?_
  try simp only [Act.put, List.setIfInBounds_toArray, List.set_cons_zero, List.set_cons_succ]
  refine skc (i := 10) rfl trivial ?_
  try simp only [Act.put, List.setIfInBounds_toArray, List.set_cons_zero, List.set_cons_succ]
  refine skc (i := 11) rfl trivial ?_
  try simp only [Act.put, List.setIfInBounds_toArray, List.set_cons_zero, List.set_cons_succ]
  refine tk1 (i := 12) rfl ?_
  try simp only [Act.put, List.setIfInBounds_toArray, List.set_cons_zero, List.set_cons_succ]
  refine Held.AnyS.done (by kernel_rfl) ?_ _
  go_simp
  refine HEND5.out _ _ ?_
  clear HEND5 p0 p1 p2
  go_wp2
  rename_i K6 hEND6
  have HEND6 := Lib.hid hEND6
  clear hEND6
  obtain ⟨U, hU⟩ : ∃ U, U = Z := ⟨_, rfl⟩
  subst hU
  have HU := HU0
  obtain ⟨Z6, hZ6⟩ : ∃ Z6, Z6 = U.drew := ⟨_, rfl⟩
  have HW6 := Lib.hid (show Below W.heap.size W Z6 by rw [hZ6]; exact HU.out.drew)
  have hS : (S2 ⟨xb, 0, none⟩ (.int .i64 op) ⟨xb, 0, none⟩ (.int .i64 op)) Z6 := ⟨(blk_cell (blk_below HX.out HW6.out) 0).trans rfl, (blk_cell (blk_below HX.out HW6.out) 0).trans rfl⟩
  refine (wpIn_wide (n := 9)).1 ?_
  refine Held.region 8 (S2 ⟨xb, 0, none⟩ (.int .i64 op) ⟨xb, 0, none⟩ (.int .i64 op)) (by kernel_rfl) ?_
  rw [← hZ6]
  clear hZ6
  refine tkc (i := 0) rfl hS ?_
  try simp only [Act.put, List.setIfInBounds_toArray, List.set_cons_zero, List.set_cons_succ]
  refine tkc (i := 2) rfl hS ?_
  try simp only [Act.put, List.setIfInBounds_toArray, List.set_cons_zero, List.set_cons_succ]
  refine tkc (i := 3) rfl hS ?_
  try simp only [Act.put, List.setIfInBounds_toArray, List.set_cons_zero, List.set_cons_succ]
  refine tkc (i := 4) rfl hS ?_
  try simp only [Act.put, List.setIfInBounds_toArray, List.set_cons_zero, List.set_cons_succ]
  refine tkc (i := 5) rfl hS ?_
  try simp only [Act.put, List.setIfInBounds_toArray, List.set_cons_zero, List.set_cons_succ]
  obtain ⟨ic, hrc, hcc⟩ := cells_of_F HF.out
  have HRC := Lib.hid hrc
  have HCC := Lib.hid hcc
  clear hrc hcc
  have HD := Lib.hid (Below.refl Z6.heap.size Z6)
  have HS := Lib.hid (fun w' (h : Below Z6.heap.size Z6 w') => (show (S2 ⟨xb, 0, none⟩ (.int .i64 op) ⟨xb, 0, none⟩ (.int .i64 op)) w' from ⟨(h.cell (World.block_lt_of_cell? Z6 _ hS.1)).trans hS.1, (h.cell (World.block_lt_of_cell? Z6 _ hS.1)).trans hS.1⟩))
  clear hS
  refine Held.AnyS.step2 (i := 1) (j := 6) rfl rfl (by kernel_rfl) rfl rfl (fun K hK => ?_) (fun K hK => ?_)
  ·refine Held.append_any (.const (.slice none 0 0)) (.tmp 29) 26 rfl Z6.heap.size 31 (.agg #[.int .i64 0, .int .i64 0, .slice none 0 0]) 3 40 Try.underlying26 (by kernel_rfl) rfl (by omega) (.slice none 0 0) 0 ([]) rfl (own_nil _ _ _ _) A0 l0.length c0 (ic) rfl HRC.out.1 (cells_at HCC.out HB.out HW6.out HD.out) ?_ ?_ ?_ ?_ ?_
   ·exact Kd.reps_one HRC.out (by decide) (fun p c h => k31.K_one (Kd.FK_now h))
   ·have := HOK.out.1; simp only [maxLen]; omega
   ·have := HOK.out.1; omega
   ·have := HD.out.size; omega
   intro v y1 hown hgr hat
   have hown : y1.ownsRow Z6.heap.size 31 3 v (l0.length) (ic) := by rw [Nat.zero_add, List.nil_append] at hown; exact hown
   obtain ⟨A2, c2, rfl⟩ := own_slice hown
   have hD : Below Z6.heap.size Z6 y1 := HD.out.grown hgr HD.out.size (fun k hk => by simp [Value.ownBlock] at hk)
   refine hK.out _ _ (fun _ => HS.out _ hD) ?_
   have HO_ := Lib.hid hown
   have HD_ := Lib.hid hD
   clear HD
   have HD := HD_
   have HO8 := HO_
   clear HO_ HD_ hK K hown hgr hat hD 
   try simp only [Act.put, List.setIfInBounds_toArray, List.set_cons_zero, List.set_cons_succ]
   refine Held.AnyS.step (i := 6) rfl (by kernel_rfl) rfl (fun K hK => ?_)
   go_simp
   first | refine ⟨trivial, ?_⟩ | skip
   obtain ⟨y2, hy⟩ : ∃ V, V = y1.alloc (.cells #[.int .i64 op, .int .i64 1, .slice AL ls.length cL] 31) := ⟨_, rfl⟩
   have hD : Below Z6.heap.size Z6 y2 := by rw [hy]; exact HD.out.alloc HD.out.size _
   have hw : Below y1.heap.size y1 y2 := by rw [hy]; exact (Below.refl _ _).alloc (Nat.le_refl _) _
   have hN : y2.heap[y1.heap.size]? = some (.cells #[.int .i64 op, .int .i64 1, .slice AL ls.length cL] 31 (0, 0)) := by rw [hy]; exact heap_alloc_new y1 _
   rw [← hy]
   refine hK.out _ _ (fun _ => HS.out _ hD) ?_
   obtain ⟨b6, hbn⟩ : ∃ b, y1.heap.size = b := ⟨_, rfl⟩
   have HO_ := Lib.hid (pw_own_below HO8.out hw)
   have HNE := Lib.hid (show some b6 ≠ (Value.slice A2 (l0.length) c2).ownBlock from fun e => by have := own_lt HO8.out b6 e.symm; omega)
   clear HO8
   have HO8 := HO_
   clear HO_
   rw [hbn] at hN ⊢
   have HBX := Lib.hid hN
   have HGE := Lib.hid (show Z6.heap.size ≤ b6 by rw [← hbn]; exact HD.out.size)
   have HD_ := Lib.hid hD
   clear HD
   have HD := HD_
   clear hK K hbn hw hD hN hy HD_
   try simp only [Act.put, List.setIfInBounds_toArray, List.set_cons_zero, List.set_cons_succ]
   refine Held.AnyS.step (i := 7) rfl (by kernel_rfl) rfl (fun K hK => ?_)
   have nw : ∀ j u, [.int .i64 op, .int .i64 1, .slice AL ls.length cL][j]? = some u → y2.cell? ((⟨b6, 0, none⟩ : Addr).add j) = some u := by simpa using World.news_of_block (cs := #[.int .i64 op, .int .i64 1, .slice AL ls.length cL]) (t := 31) (fr := (0, 0)) HBX.out
   refine Held.append_any (.tmp 30) (.tmp 35) 26 rfl Z6.heap.size 31 (.agg #[.int .i64 0, .int .i64 0, .slice none 0 0]) 3 40 Try.underlying26 (by kernel_rfl) rfl (by omega) (.slice A2 (l0.length) c2) l0.length (ic) rfl HO8.out (some ⟨b6, 0, none⟩) 1 1 ([.int .i64 op, .int .i64 1, .slice AL ls.length cL]) rfl rfl (.inr ⟨_, rfl, nw⟩) ?_ ?_ ?_ ?_ ?_
   ·intro u hu; simp at hu; rcases hu with rfl | rfl | rfl <;> rfl
   ·have := HOK.out.1; simp only [maxLen]; omega
   ·have := HOK.out.1; omega
   ·have := HD.out.size; omega
   intro v y3 hown hgr hat
   have hown : y3.ownsRow Z6.heap.size 31 3 v (l0.length + 1) (ic ++ [.int .i64 op, .int .i64 1, .slice AL ls.length cL]) := hown
   obtain ⟨A4, c4, rfl⟩ := own_slice hown
   have hD : Below Z6.heap.size Z6 y3 := HD.out.grown hgr HD.out.size (fun k hk => own_base HO8.out k hk)
   refine hK.out _ _ (fun _ => HS.out _ hD) ?_
   have HO_ := Lib.hid hown
   have HD_ := Lib.hid hD
   clear HD
   have HD := HD_
   clear HO8
   have HO8 := HO_
   clear HO_ HD_ hK K hown hgr hat hD nw
   try simp only [Act.put, List.setIfInBounds_toArray, List.set_cons_zero, List.set_cons_succ]
   refine Held.AnyS.step (i := 8) rfl (by kernel_rfl) rfl (fun K hK => ?_)
   go_simp
   refine hK.out _ _ (fun h => absurd h (by omega)) ?_
   clear hK K
   refine Held.AnyS.done (by kernel_rfl) ?_ _
   go_simp
   refine HEND6.out _ _ ?_
   go_wp2
   go_ret
   exact with_new_end HF.out HLO.out HP.out HRC.out HB.out HL.out HW6.out HD.out HO8.out
  ·go_simp
   first | refine ⟨trivial, ?_⟩ | skip
   obtain ⟨y1, hy⟩ : ∃ V, V = Z6.alloc (.cells #[.int .i64 op, .int .i64 1, .slice AL ls.length cL] 31) := ⟨_, rfl⟩
   have hD : Below Z6.heap.size Z6 y1 := by rw [hy]; exact HD.out.alloc HD.out.size _
   have hw : Below Z6.heap.size Z6 y1 := by rw [hy]; exact (Below.refl _ _).alloc (Nat.le_refl _) _
   have hN : y1.heap[Z6.heap.size]? = some (.cells #[.int .i64 op, .int .i64 1, .slice AL ls.length cL] 31 (0, 0)) := by rw [hy]; exact heap_alloc_new Z6 _
   rw [← hy]
   refine hK.out _ _ (fun _ => HS.out _ hD) ?_
   obtain ⟨b6, hbn⟩ : ∃ b, Z6.heap.size = b := ⟨_, rfl⟩
   rw [hbn] at hN ⊢
   have HBX := Lib.hid hN
   have HGE := Lib.hid (show Z6.heap.size ≤ b6 by rw [← hbn]; exact HD.out.size)
   have HD_ := Lib.hid hD
   clear HD
   have HD := HD_
   clear hK K hbn hw hD hN hy HD_
   try simp only [Act.put, List.setIfInBounds_toArray, List.set_cons_zero, List.set_cons_succ]
   refine Held.AnyS.step (i := 1) rfl (by kernel_rfl) rfl (fun K hK => ?_)
   refine Held.append_any (.const (.slice none 0 0)) (.tmp 29) 26 rfl Z6.heap.size 31 (.agg #[.int .i64 0, .int .i64 0, .slice none 0 0]) 3 40 Try.underlying26 (by kernel_rfl) rfl (by omega) (.slice none 0 0) 0 ([]) rfl (own_nil _ _ _ _) A0 l0.length c0 (ic) rfl HRC.out.1 (cells_at HCC.out HB.out HW6.out HD.out) ?_ ?_ ?_ ?_ ?_
   ·exact Kd.reps_one HRC.out (by decide) (fun p c h => k31.K_one (Kd.FK_now h))
   ·have := HOK.out.1; simp only [maxLen]; omega
   ·have := HOK.out.1; omega
   ·have := HD.out.size; omega
   intro v y2 hown hgr hat
   have hown : y2.ownsRow Z6.heap.size 31 3 v (l0.length) (ic) := by rw [Nat.zero_add, List.nil_append] at hown; exact hown
   obtain ⟨A2, c2, rfl⟩ := own_slice hown
   have hD : Below Z6.heap.size Z6 y2 := HD.out.grown hgr HD.out.size (fun k hk => by simp [Value.ownBlock] at hk)
   refine hK.out _ _ (fun _ => HS.out _ hD) ?_
   have HB_ := Lib.hid ((hgr.block _ (blk_lt HBX.out) (by simp [Value.ownBlock])).trans HBX.out)
   have HNE_ := Lib.hid (show some b6 ≠ (Value.slice A2 (l0.length) c2).ownBlock from by rcases hat with hat | hat <;> rw [hat]; exact (by simp [Value.ownBlock]); exact fun e => by injection e with e; have := blk_lt HBX.out; omega)
   clear HBX
   have HBX := HB_
   have HNE := HNE_
   clear HB_ HNE_
   have HO_ := Lib.hid hown
   have HD_ := Lib.hid hD
   clear HD
   have HD := HD_
   have HO8 := HO_
   clear HO_ HD_ hK K hown hgr hat hD 
   try simp only [Act.put, List.setIfInBounds_toArray, List.set_cons_zero, List.set_cons_succ]
   refine Held.AnyS.step (i := 7) rfl (by kernel_rfl) rfl (fun K hK => ?_)
   have nw : ∀ j u, [.int .i64 op, .int .i64 1, .slice AL ls.length cL][j]? = some u → y2.cell? ((⟨b6, 0, none⟩ : Addr).add j) = some u := by simpa using World.news_of_block (cs := #[.int .i64 op, .int .i64 1, .slice AL ls.length cL]) (t := 31) (fr := (0, 0)) HBX.out
   refine Held.append_any (.tmp 30) (.tmp 35) 26 rfl Z6.heap.size 31 (.agg #[.int .i64 0, .int .i64 0, .slice none 0 0]) 3 40 Try.underlying26 (by kernel_rfl) rfl (by omega) (.slice A2 (l0.length) c2) l0.length (ic) rfl HO8.out (some ⟨b6, 0, none⟩) 1 1 ([.int .i64 op, .int .i64 1, .slice AL ls.length cL]) rfl rfl (.inr ⟨_, rfl, nw⟩) ?_ ?_ ?_ ?_ ?_
   ·intro u hu; simp at hu; rcases hu with rfl | rfl | rfl <;> rfl
   ·have := HOK.out.1; simp only [maxLen]; omega
   ·have := HOK.out.1; omega
   ·have := HD.out.size; omega
   intro v y3 hown hgr hat
   have hown : y3.ownsRow Z6.heap.size 31 3 v (l0.length + 1) (ic ++ [.int .i64 op, .int .i64 1, .slice AL ls.length cL]) := hown
   obtain ⟨A4, c4, rfl⟩ := own_slice hown
   have hD : Below Z6.heap.size Z6 y3 := HD.out.grown hgr HD.out.size (fun k hk => own_base HO8.out k hk)
   refine hK.out _ _ (fun _ => HS.out _ hD) ?_
   have HO_ := Lib.hid hown
   have HD_ := Lib.hid hD
   clear HD
   have HD := HD_
   clear HO8
   have HO8 := HO_
   clear HO_ HD_ hK K hown hgr hat hD nw
   try simp only [Act.put, List.setIfInBounds_toArray, List.set_cons_zero, List.set_cons_succ]
   refine Held.AnyS.step (i := 8) rfl (by kernel_rfl) rfl (fun K hK => ?_)
   go_simp
   refine hK.out _ _ (fun h => absurd h (by omega)) ?_
   clear hK K
   refine Held.AnyS.done (by kernel_rfl) ?_ _
   go_simp
   refine HEND6.out _ _ ?_
   go_wp2
   go_ret
   exact with_new_end HF.out HLO.out HP.out HRC.out HB.out HL.out HW6.out HD.out HO8.out
 ·obtain ⟨m, hm⟩ : ∃ m, l0.length = m + 1 := ⟨l0.length - 1, by omega⟩
  obtain ⟨ad, A2, c2, rfl, hx0, hx1, hx2, hxl, hxC⟩ := at_T31 (Kd.F_now HF.out) (m : Int) (by omega) (by omega)
  rw [Int.toNat_natCast] at hx0 hx1 hx2
  have hxm : l0[m]? = some l0[m] := List.getElem?_eq_getElem (by omega)
  have hrd : rd_T31 l0 (m : Int) = l0[m] := by unfold rd_T31; rw [Int.toNat_natCast, List.getD_eq_getElem?_getD, hxm]; rfl
  rw [hrd] at hx0 hx1 hx2 hxl hxC
  obtain ⟨x, hx⟩ : ∃ x, x = l0[m] := ⟨_, rfl⟩
  rw [← hx] at hx0 hx1 hx2 hxl hxC
  have HLX := Lib.hid (show l0.getLast? = some x by rw [List.getLast?_eq_getElem?, show l0.length - 1 = m by omega, hxm, hx])
  have HXO := Lib.hid (HOK.out.2 x (by rw [hx]; exact List.getElem_mem _))
  have HX0 := Lib.hid hx0
  have HX1 := Lib.hid hx1
  have HX2 := Lib.hid hx2
  have HXL := Lib.hid hxl
  have HXC := Lib.hid hxC
  have HM := Lib.hid hm
  have hS : (S2 (ad.add (m * 3)) (.int .i64 x.f0) ⟨xb, 0, none⟩ (.int .i64 op)) Z := ⟨pw_cell_below HU0.out (pw_cell_below HB.out hx0), (blk_cell (blk_below HX.out HU0.out) 0).trans rfl⟩
  have p0 : ((l0.length : Int) == 0) = false := by rw [hm]; exact beq_eq_false_iff_ne.2 (by omega)
  have p1 : ((l0.length : Int) = 0) = False := eq_false (by omega)
  have p2 : (l0.length == 0) = false := beq_eq_false_iff_ne.2 cn
  have p22 : (l0.length = 0) = False := eq_false cn
  have p23 : (l0 = []) = False := eq_false (fun h => cn (by rw [h]; rfl))
  have p3 : IntKind.i64.wrap ((l0.length : Int) - 1) = (m : Int) := by rw [i64_w, show (l0.length : Int) - 1 = (m : Int) by omega]; have := HOK.out.1; unfold wrap64; omega
  have p4 := eq_true (show 0 ≤ (m : Int) by omega)
  have p5 := eq_true (show (m : Int) < (l0.length : Int) by omega)
  clear cn hm hx hxm hrd hx0 hx1 hx2 hxl hxC
  refine (wpIn_wide (n := 9)).1 ?_
  refine Held.region 13 (S2 (ad.add (m * 3)) (.int .i64 x.f0) ⟨xb, 0, none⟩ (.int .i64 op)) (by kernel_rfl) ?_
  rw [← hZ]
  clear hZ
  refine tkc (i := 0) rfl hS ?_
  try simp only [Act.put, List.setIfInBounds_toArray, List.set_cons_zero, List.set_cons_succ]
  refine tkc (i := 1) rfl hS ?_
  try simp only [Act.put, List.setIfInBounds_toArray, List.set_cons_zero, List.set_cons_succ]
  refine tkc (i := 2) rfl hS ?_
  try simp only [Act.put, List.setIfInBounds_toArray, List.set_cons_zero, List.set_cons_succ]
  refine tkc (i := 3) rfl hS ?_
  try simp only [Act.put, List.setIfInBounds_toArray, List.set_cons_zero, List.set_cons_succ]
  refine tkc (i := 4) rfl hS ?_
  try simp only [Act.put, List.setIfInBounds_toArray, List.set_cons_zero, List.set_cons_succ]
  refine tkc (i := 5) rfl hS ?_
  try simp only [Act.put, List.setIfInBounds_toArray, List.set_cons_zero, List.set_cons_succ]
  refine tkc (i := 6) rfl hS ?_
  try simp only [Act.put, List.setIfInBounds_toArray, List.set_cons_zero, List.set_cons_succ]
  refine tkc (i := 7) rfl hS ?_
  try simp only [Act.put, List.setIfInBounds_toArray, List.set_cons_zero, List.set_cons_succ]
  refine tkc (i := 8) rfl hS ?_
  try simp only [Act.put, List.setIfInBounds_toArray, List.set_cons_zero, List.set_cons_succ]
  refine tkc (i := 9) rfl hS ?_
  try simp only [Act.put, List.setIfInBounds_toArray, List.set_cons_zero, List.set_cons_succ]
  refine tkc (i := 10) rfl hS ?_
  try simp only [Act.put, List.setIfInBounds_toArray, List.set_cons_zero, List.set_cons_succ]
  refine tkc (i := 11) rfl hS ?_
  try simp only [Act.put, List.setIfInBounds_toArray, List.set_cons_zero, List.set_cons_succ]
  refine tkc (i := 12) rfl hS ?_
  try simp only [Act.put, List.setIfInBounds_toArray, List.set_cons_zero, List.set_cons_succ]
  clear hS
  refine Held.AnyS.done (by kernel_rfl) ?_ _
  go_simp
  refine HEND5.out _ _ ?_
  clear HEND5
  by_cases cx : x.f0 = op
  ·have c1 : (x.f0 == op) = true := beq_iff_eq.2 cx
   have c2_ : (x.f0 = op) = True := eq_true cx
   have HP := Lib.hid (show withP l0 op line = l0.take m ++ [⟨op, x.f1 + 1, x.f2 ++ ls⟩] by unfold withP; rw [HLX.out]; simp only []; rw [if_pos cx, HLO.out, List.dropLast_eq_take, show l0.length - 1 = m by have := HM.out; omega])
   clear cx
   go_wp2
   clear c1 c2_
   refine HEND7.out _ _ ?_
   clear HEND7
   go_wp2
   rename_i K8 hEND8
   have HEND8 := Lib.hid hEND8
   clear hEND8
   obtain ⟨Z7, hZ7⟩ : ∃ Z7, Z7 = Z.drew := ⟨_, rfl⟩
   have HW7 := Lib.hid (show Below W.heap.size W Z7 by rw [hZ7]; exact HU0.out.drew)
   have hS : (S3 ⟨(ad.add (m * 3)).block, (ad.add (m * 3)).off + 1, none⟩ (.int .i64 x.f1) ⟨(ad.add (m * 3)).block, (ad.add (m * 3)).off + 2, none⟩ (.slice A2 x.f2.length c2) ⟨xb, 0, none⟩ (.int .i64 op)) Z7 := ⟨pw_cell_below HW7.out (pw_cell_below HB.out HX1.out), pw_cell_below HW7.out (pw_cell_below HB.out HX2.out), (blk_cell (blk_below HX.out HW7.out) 0).trans rfl⟩
   have p6 : IntKind.i64.wrap (x.f1 + 1) = x.f1 + 1 := by rw [i64_w]; have := HXO.out.1; unfold wrap64; omega
   refine (wpIn_wide (n := 9)).1 ?_
   refine Held.region 20 (S3 ⟨(ad.add (m * 3)).block, (ad.add (m * 3)).off + 1, none⟩ (.int .i64 x.f1) ⟨(ad.add (m * 3)).block, (ad.add (m * 3)).off + 2, none⟩ (.slice A2 x.f2.length c2) ⟨xb, 0, none⟩ (.int .i64 op)) (by kernel_rfl) ?_
   rw [← hZ7]
   clear hZ7
   refine tkd (i := 0) rfl hS ?_
   try simp only [Act.put, List.setIfInBounds_toArray, List.set_cons_zero, List.set_cons_succ]
   refine tkd (i := 1) rfl hS ?_
   try simp only [Act.put, List.setIfInBounds_toArray, List.set_cons_zero, List.set_cons_succ]
   refine tkd (i := 2) rfl hS ?_
   try simp only [Act.put, List.setIfInBounds_toArray, List.set_cons_zero, List.set_cons_succ]
   refine tkd (i := 3) rfl hS ?_
   try simp only [Act.put, List.setIfInBounds_toArray, List.set_cons_zero, List.set_cons_succ]
   refine tkd (i := 4) rfl hS ?_
   try simp only [Act.put, List.setIfInBounds_toArray, List.set_cons_zero, List.set_cons_succ]
   refine tkd (i := 5) rfl hS ?_
   try simp only [Act.put, List.setIfInBounds_toArray, List.set_cons_zero, List.set_cons_succ]
   refine tkd (i := 6) rfl hS ?_
   try simp only [Act.put, List.setIfInBounds_toArray, List.set_cons_zero, List.set_cons_succ]
   refine tkd (i := 7) rfl hS ?_
   try simp only [Act.put, List.setIfInBounds_toArray, List.set_cons_zero, List.set_cons_succ]
   refine tkd (i := 8) rfl hS ?_
   try simp only [Act.put, List.setIfInBounds_toArray, List.set_cons_zero, List.set_cons_succ]
   refine tkd (i := 9) rfl hS ?_
   try simp only [Act.put, List.setIfInBounds_toArray, List.set_cons_zero, List.set_cons_succ]
   refine tkd (i := 10) rfl hS ?_
   try simp only [Act.put, List.setIfInBounds_toArray, List.set_cons_zero, List.set_cons_succ]
   refine tkd (i := 11) rfl hS ?_
   try simp only [Act.put, List.setIfInBounds_toArray, List.set_cons_zero, List.set_cons_succ]
   refine tkd (i := 12) rfl hS ?_
   try simp only [Act.put, List.setIfInBounds_toArray, List.set_cons_zero, List.set_cons_succ]
   refine tkd (i := 13) rfl hS ?_
   try simp only [Act.put, List.setIfInBounds_toArray, List.set_cons_zero, List.set_cons_succ]
   refine tkd (i := 14) rfl hS ?_
   try simp only [Act.put, List.setIfInBounds_toArray, List.set_cons_zero, List.set_cons_succ]
   refine tkd (i := 16) rfl hS ?_
   try simp only [Act.put, List.setIfInBounds_toArray, List.set_cons_zero, List.set_cons_succ]
   have HD := Lib.hid (Below.refl Z7.heap.size Z7)
   have HS := Lib.hid (fun w' (h : Below Z7.heap.size Z7 w') => (show (S3 ⟨(ad.add (m * 3)).block, (ad.add (m * 3)).off + 1, none⟩ (.int .i64 x.f1) ⟨(ad.add (m * 3)).block, (ad.add (m * 3)).off + 2, none⟩ (.slice A2 x.f2.length c2) ⟨xb, 0, none⟩ (.int .i64 op)) w' from ⟨(h.cell (World.block_lt_of_cell? Z7 _ hS.1)).trans hS.1, (h.cell (World.block_lt_of_cell? Z7 _ hS.2.1)).trans hS.2.1, (h.cell (World.block_lt_of_cell? Z7 _ hS.2.2)).trans hS.2.2⟩))
   clear hS p0 p1 p2 p22 p23 p3 p4 p5 p6
   refine Held.AnyS.step2 (i := 15) (j := 19) rfl rfl (by kernel_rfl) rfl rfl (fun K hK => ?_) (fun K hK => ?_)
   ·refine Held.append_any (.const (.slice none 0 0)) (.tmp 51) 29 rfl Z7.heap.size 9 (.string ⟨#[]⟩) 1 16 Try.underlying29 (by kernel_rfl) rfl (by omega) (.slice none 0 0) 0 ([]) rfl (own_nil _ _ _ _) A2 x.f2.length c2 (encs Value.string x.f2) rfl (by simp [encs]) (cells_at (cells_of_strs HXC.out) HB.out HW7.out HD.out) ?_ ?_ ?_ ?_ ?_
    ·intro u hu; unfold encs at hu; obtain ⟨q, _, rfl⟩ := List.mem_map.1 hu; rfl
    ·have := HXO.out.2; have := HLS.out; simp only [maxLen]; omega
    ·have := HXO.out.2; have := HLS.out; omega
    ·have := HD.out.size; omega
    intro v y1 hown hgr hat
    have hown : y1.ownsRow Z7.heap.size 9 1 v (x.f2.length) (encs Value.string x.f2) := by rw [Nat.zero_add, List.nil_append] at hown; exact hown
    obtain ⟨A6, c6, rfl⟩ := own_slice hown
    have hD : Below Z7.heap.size Z7 y1 := HD.out.grown hgr HD.out.size (fun k hk => by simp [Value.ownBlock] at hk)
    refine hK.out _ _ (fun _ => HS.out _ hD) ?_
    have HO_ := Lib.hid hown
    have HD_ := Lib.hid hD
    clear HD
    have HD := HD_
    have HO8 := HO_
    clear HO_ HD_ hK K hown hgr hat hD 
    try simp only [Act.put, List.setIfInBounds_toArray, List.set_cons_zero, List.set_cons_succ]
    refine Held.AnyS.step2 (i := 17) (j := 19) rfl rfl (by kernel_rfl) rfl rfl (fun K hK => ?_) (fun K hK => ?_)
    ·refine Held.append_any (.tmp 52) (.tmp 53) 29 rfl Z7.heap.size 9 (.string ⟨#[]⟩) 1 16 Try.underlying29 (by kernel_rfl) rfl (by omega) (.slice A6 (x.f2.length) c6) x.f2.length (encs Value.string x.f2) rfl HO8.out AL ls.length cL (encs Value.string ls) rfl (by simp [encs]) (cells_at (own_news (Kd.own_of_R HL.out)) (Below.refl W.heap.size W) HW7.out HD.out) ?_ ?_ ?_ ?_ ?_
     ·intro u hu; unfold encs at hu; obtain ⟨q, _, rfl⟩ := List.mem_map.1 hu; rfl
     ·have := HXO.out.2; have := HLS.out; simp only [maxLen]; omega
     ·have := HXO.out.2; have := HLS.out; omega
     ·have := HD.out.size; omega
     intro v y2 hown hgr hat
     have hown : y2.ownsRow Z7.heap.size 9 1 v (x.f2.length + ls.length) (encs Value.string x.f2 ++ encs Value.string ls) := hown
     obtain ⟨A7, c7, rfl⟩ := own_slice hown
     have hD : Below Z7.heap.size Z7 y2 := HD.out.grown hgr HD.out.size (fun k hk => own_base HO8.out k hk)
     refine hK.out _ _ (fun _ => HS.out _ hD) ?_
     have HO_ := Lib.hid hown
     have HD_ := Lib.hid hD
     clear HD
     have HD := HD_
     clear HO8
     have HO8 := HO_
     clear HO_ HD_ hK K hown hgr hat hD 
     try simp only [Act.put, List.setIfInBounds_toArray, List.set_cons_zero, List.set_cons_succ]
     have hS18 := HS.out _ HD.out
     refine tkd (i := 18) rfl hS18 ?_
     try simp only [Act.put, List.setIfInBounds_toArray, List.set_cons_zero, List.set_cons_succ]
     clear hS18
     refine Held.AnyS.step (i := 19) rfl (by kernel_rfl) rfl (fun K hK => ?_)
     go_simp
     first | refine ⟨trivial, ?_⟩ | skip
     obtain ⟨y3, hy⟩ : ∃ V, V = y2.alloc (.cells #[.int .i64 0, .int .i64 0, .slice none 0 0] 31) := ⟨_, rfl⟩
     have hD : Below Z7.heap.size Z7 y3 := by rw [hy]; exact HD.out.alloc HD.out.size _
     have hw : Below y2.heap.size y2 y3 := by rw [hy]; exact (Below.refl _ _).alloc (Nat.le_refl _) _
     have hN : y3.heap[y2.heap.size]? = some (.cells #[.int .i64 0, .int .i64 0, .slice none 0 0] 31 (0, 0)) := by rw [hy]; exact heap_alloc_new y2 _
     rw [← hy]
     refine hK.out _ _ (fun _ => HS.out _ hD) ?_
     obtain ⟨eb, hbn⟩ : ∃ b, y2.heap.size = b := ⟨_, rfl⟩
     have HO_ := Lib.hid (pw_own_below HO8.out hw)
     have HNE := Lib.hid (show some eb ≠ (Value.slice A7 (x.f2.length + ls.length) c7).ownBlock from fun e => by have := own_lt HO8.out eb e.symm; omega)
     clear HO8
     have HO8 := HO_
     clear HO_
     rw [hbn] at hN ⊢
     have HBX := Lib.hid hN
     have HGE := Lib.hid (show Z7.heap.size ≤ eb by rw [← hbn]; exact HD.out.size)
     have HD_ := Lib.hid hD
     clear HD
     have HD := HD_
     clear hK K hbn hw hD hN hy HD_
     try simp only [Act.put, List.setIfInBounds_toArray, List.set_cons_zero, List.set_cons_succ]
     refine Held.AnyS.step (i := 20) rfl (by kernel_rfl) rfl (fun K hK => ?_)
     have g0 : y3.cell? ⟨eb, 0, none⟩ = some (#[.int .i64 0, .int .i64 0, .slice none 0 0][0]) := (blk_cell HBX.out 0).trans rfl
     have g1 : y3.cell? ⟨eb, 1, none⟩ = some (#[.int .i64 0, .int .i64 0, .slice none 0 0][1]) := (blk_cell HBX.out 1).trans rfl
     have g2 : y3.cell? ⟨eb, 2, none⟩ = some (#[.int .i64 0, .int .i64 0, .slice none 0 0][2]) := (blk_cell HBX.out 2).trans rfl
     have e0 : y3.frozen? ⟨eb, 0, none⟩ = false := by simp [World.frozen?, HBX.out]
     have e1 : y3.frozen? ⟨eb, 1, none⟩ = false := by simp [World.frozen?, HBX.out]
     have e2 : y3.frozen? ⟨eb, 2, none⟩ = false := by simp [World.frozen?, HBX.out]
     go_simp
     clear g0 g1 g2 e0 e1 e2
     obtain ⟨V, hV, kb, ko, kB⟩ := set3 HBX.out (.int .i64 op) (.int .i64 (x.f1 + 1)) (.slice A7 (x.f2.length + ls.length) c7)
     rw [hV]
     refine hK.out _ _ (fun h => absurd h (by omega)) ?_
     clear hK K
     refine Held.AnyS.done (by kernel_rfl) ?_ _
     go_simp
     refine HEND8.out _ _ ?_
     have hVZ := kB Z7 HD.out HGE.out
     have hVW : Below W.heap.size W V := HW7.out.trans (hVZ.mono HW7.out.size)
     have hq := own_move HO8.out (fun k hk => ko k (fun h => HNE.out (by rw [← h]; exact hk.symm)))
     have hR : Kd.R Kd.string 9 V w.heap.size (fun k => w.heap.size ≤ k) (.slice A7 (x.f2.length + ls.length) c7) (x.f2 ++ ls) := Kd.R_of_own (by have h1 := own_less hq (show w.heap.size ≤ Z7.heap.size by have := HB.out.size; have := HW7.out.size; omega); rw [List.length_append]; unfold encs at h1 ⊢; rw [List.map_append]; exact h1) (fun k hk => by have h1 := own_base hq k hk; have := HB.out.size; have := HW7.out.size; omega)
     exact with_r8 P0_ ad c0 l0 op line ⟨op, x.f1 + 1, x.f2 ++ ls⟩ m w V HF.out HC0.out HOK.out HM.out HP.out (.slice A7 (x.f2.length + ls.length) c7) eb _ _ _ _ _ _ _ _ _ _ _ _ _ _ _ _ _ _ _ _ _ _ _ _ _ _ _ _ _ _ _ _ _ _ _ _ _ _ _ _ _ _ _ _ _ _ _ _ _ _ _ _ _ _ _ _ _ _ _ _ _ hR (below_step HB.out hVW) kb
    ·go_simp
     first | refine ⟨trivial, ?_⟩ | skip
     obtain ⟨y2, hy⟩ : ∃ V, V = y1.alloc (.cells #[.int .i64 0, .int .i64 0, .slice none 0 0] 31) := ⟨_, rfl⟩
     have hD : Below Z7.heap.size Z7 y2 := by rw [hy]; exact HD.out.alloc HD.out.size _
     have hw : Below y1.heap.size y1 y2 := by rw [hy]; exact (Below.refl _ _).alloc (Nat.le_refl _) _
     have hN : y2.heap[y1.heap.size]? = some (.cells #[.int .i64 0, .int .i64 0, .slice none 0 0] 31 (0, 0)) := by rw [hy]; exact heap_alloc_new y1 _
     rw [← hy]
     refine hK.out _ _ (fun _ => HS.out _ hD) ?_
     obtain ⟨eb, hbn⟩ : ∃ b, y1.heap.size = b := ⟨_, rfl⟩
     have HO_ := Lib.hid (pw_own_below HO8.out hw)
     have HNE := Lib.hid (show some eb ≠ (Value.slice A6 (x.f2.length) c6).ownBlock from fun e => by have := own_lt HO8.out eb e.symm; omega)
     clear HO8
     have HO8 := HO_
     clear HO_
     rw [hbn] at hN ⊢
     have HBX := Lib.hid hN
     have HGE := Lib.hid (show Z7.heap.size ≤ eb by rw [← hbn]; exact HD.out.size)
     have HD_ := Lib.hid hD
     clear HD
     have HD := HD_
     clear hK K hbn hw hD hN hy HD_
     try simp only [Act.put, List.setIfInBounds_toArray, List.set_cons_zero, List.set_cons_succ]
     refine Held.AnyS.step (i := 17) rfl (by kernel_rfl) rfl (fun K hK => ?_)
     refine Held.append_any (.tmp 52) (.tmp 53) 29 rfl Z7.heap.size 9 (.string ⟨#[]⟩) 1 16 Try.underlying29 (by kernel_rfl) rfl (by omega) (.slice A6 (x.f2.length) c6) x.f2.length (encs Value.string x.f2) rfl HO8.out AL ls.length cL (encs Value.string ls) rfl (by simp [encs]) (cells_at (own_news (Kd.own_of_R HL.out)) (Below.refl W.heap.size W) HW7.out HD.out) ?_ ?_ ?_ ?_ ?_
     ·intro u hu; unfold encs at hu; obtain ⟨q, _, rfl⟩ := List.mem_map.1 hu; rfl
     ·have := HXO.out.2; have := HLS.out; simp only [maxLen]; omega
     ·have := HXO.out.2; have := HLS.out; omega
     ·have := HD.out.size; omega
     intro v y3 hown hgr hat
     have hown : y3.ownsRow Z7.heap.size 9 1 v (x.f2.length + ls.length) (encs Value.string x.f2 ++ encs Value.string ls) := hown
     obtain ⟨A7, c7, rfl⟩ := own_slice hown
     have hD : Below Z7.heap.size Z7 y3 := HD.out.grown hgr HD.out.size (fun k hk => own_base HO8.out k hk)
     refine hK.out _ _ (fun _ => HS.out _ hD) ?_
     have HB_ := Lib.hid ((hgr.block _ (blk_lt HBX.out) HNE.out).trans HBX.out)
     have HNE_ := Lib.hid (show some eb ≠ (Value.slice A7 (x.f2.length + ls.length) c7).ownBlock from by rcases hat with hat | hat <;> rw [hat]; exact HNE.out; exact fun e => by injection e with e; have := blk_lt HBX.out; omega)
     clear HBX HNE
     have HBX := HB_
     have HNE := HNE_
     clear HB_ HNE_
     have HO_ := Lib.hid hown
     have HD_ := Lib.hid hD
     clear HD
     have HD := HD_
     clear HO8
     have HO8 := HO_
     clear HO_ HD_ hK K hown hgr hat hD 
     try simp only [Act.put, List.setIfInBounds_toArray, List.set_cons_zero, List.set_cons_succ]
     have hS18 := HS.out _ HD.out
     refine tkd (i := 18) rfl hS18 ?_
     try simp only [Act.put, List.setIfInBounds_toArray, List.set_cons_zero, List.set_cons_succ]
     clear hS18
     refine Held.AnyS.step (i := 20) rfl (by kernel_rfl) rfl (fun K hK => ?_)
     have g0 : y3.cell? ⟨eb, 0, none⟩ = some (#[.int .i64 0, .int .i64 0, .slice none 0 0][0]) := (blk_cell HBX.out 0).trans rfl
     have g1 : y3.cell? ⟨eb, 1, none⟩ = some (#[.int .i64 0, .int .i64 0, .slice none 0 0][1]) := (blk_cell HBX.out 1).trans rfl
     have g2 : y3.cell? ⟨eb, 2, none⟩ = some (#[.int .i64 0, .int .i64 0, .slice none 0 0][2]) := (blk_cell HBX.out 2).trans rfl
     have e0 : y3.frozen? ⟨eb, 0, none⟩ = false := by simp [World.frozen?, HBX.out]
     have e1 : y3.frozen? ⟨eb, 1, none⟩ = false := by simp [World.frozen?, HBX.out]
     have e2 : y3.frozen? ⟨eb, 2, none⟩ = false := by simp [World.frozen?, HBX.out]
     go_simp
     clear g0 g1 g2 e0 e1 e2
     obtain ⟨V, hV, kb, ko, kB⟩ := set3 HBX.out (.int .i64 op) (.int .i64 (x.f1 + 1)) (.slice A7 (x.f2.length + ls.length) c7)
     rw [hV]
     refine hK.out _ _ (fun h => absurd h (by omega)) ?_
     clear hK K
     refine Held.AnyS.done (by kernel_rfl) ?_ _
     go_simp
     refine HEND8.out _ _ ?_
     have hVZ := kB Z7 HD.out HGE.out
     have hVW : Below W.heap.size W V := HW7.out.trans (hVZ.mono HW7.out.size)
     have hq := own_move HO8.out (fun k hk => ko k (fun h => HNE.out (by rw [← h]; exact hk.symm)))
     have hR : Kd.R Kd.string 9 V w.heap.size (fun k => w.heap.size ≤ k) (.slice A7 (x.f2.length + ls.length) c7) (x.f2 ++ ls) := Kd.R_of_own (by have h1 := own_less hq (show w.heap.size ≤ Z7.heap.size by have := HB.out.size; have := HW7.out.size; omega); rw [List.length_append]; unfold encs at h1 ⊢; rw [List.map_append]; exact h1) (fun k hk => by have h1 := own_base hq k hk; have := HB.out.size; have := HW7.out.size; omega)
     exact with_r8 P0_ ad c0 l0 op line ⟨op, x.f1 + 1, x.f2 ++ ls⟩ m w V HF.out HC0.out HOK.out HM.out HP.out (.slice A7 (x.f2.length + ls.length) c7) eb _ _ _ _ _ _ _ _ _ _ _ _ _ _ _ _ _ _ _ _ _ _ _ _ _ _ _ _ _ _ _ _ _ _ _ _ _ _ _ _ _ _ _ _ _ _ _ _ _ _ _ _ _ _ _ _ _ _ _ _ _ hR (below_step HB.out hVW) kb
   ·go_simp
    first | refine ⟨trivial, ?_⟩ | skip
    obtain ⟨y1, hy⟩ : ∃ V, V = Z7.alloc (.cells #[.int .i64 0, .int .i64 0, .slice none 0 0] 31) := ⟨_, rfl⟩
    have hD : Below Z7.heap.size Z7 y1 := by rw [hy]; exact HD.out.alloc HD.out.size _
    have hw : Below Z7.heap.size Z7 y1 := by rw [hy]; exact (Below.refl _ _).alloc (Nat.le_refl _) _
    have hN : y1.heap[Z7.heap.size]? = some (.cells #[.int .i64 0, .int .i64 0, .slice none 0 0] 31 (0, 0)) := by rw [hy]; exact heap_alloc_new Z7 _
    rw [← hy]
    refine hK.out _ _ (fun _ => HS.out _ hD) ?_
    obtain ⟨eb, hbn⟩ : ∃ b, Z7.heap.size = b := ⟨_, rfl⟩
    rw [hbn] at hN ⊢
    have HBX := Lib.hid hN
    have HGE := Lib.hid (show Z7.heap.size ≤ eb by rw [← hbn]; exact HD.out.size)
    have HD_ := Lib.hid hD
    clear HD
    have HD := HD_
    clear hK K hbn hw hD hN hy HD_
    try simp only [Act.put, List.setIfInBounds_toArray, List.set_cons_zero, List.set_cons_succ]
    refine Held.AnyS.step (i := 15) rfl (by kernel_rfl) rfl (fun K hK => ?_)
    refine Held.append_any (.const (.slice none 0 0)) (.tmp 51) 29 rfl Z7.heap.size 9 (.string ⟨#[]⟩) 1 16 Try.underlying29 (by kernel_rfl) rfl (by omega) (.slice none 0 0) 0 ([]) rfl (own_nil _ _ _ _) A2 x.f2.length c2 (encs Value.string x.f2) rfl (by simp [encs]) (cells_at (cells_of_strs HXC.out) HB.out HW7.out HD.out) ?_ ?_ ?_ ?_ ?_
    ·intro u hu; unfold encs at hu; obtain ⟨q, _, rfl⟩ := List.mem_map.1 hu; rfl
    ·have := HXO.out.2; have := HLS.out; simp only [maxLen]; omega
    ·have := HXO.out.2; have := HLS.out; omega
    ·have := HD.out.size; omega
    intro v y2 hown hgr hat
    have hown : y2.ownsRow Z7.heap.size 9 1 v (x.f2.length) (encs Value.string x.f2) := by rw [Nat.zero_add, List.nil_append] at hown; exact hown
    obtain ⟨A6, c6, rfl⟩ := own_slice hown
    have hD : Below Z7.heap.size Z7 y2 := HD.out.grown hgr HD.out.size (fun k hk => by simp [Value.ownBlock] at hk)
    refine hK.out _ _ (fun _ => HS.out _ hD) ?_
    have HB_ := Lib.hid ((hgr.block _ (blk_lt HBX.out) (by simp [Value.ownBlock])).trans HBX.out)
    have HNE_ := Lib.hid (show some eb ≠ (Value.slice A6 (x.f2.length) c6).ownBlock from by rcases hat with hat | hat <;> rw [hat]; exact (by simp [Value.ownBlock]); exact fun e => by injection e with e; have := blk_lt HBX.out; omega)
    clear HBX
    have HBX := HB_
    have HNE := HNE_
    clear HB_ HNE_
    have HO_ := Lib.hid hown
    have HD_ := Lib.hid hD
    clear HD
    have HD := HD_
    have HO8 := HO_
    clear HO_ HD_ hK K hown hgr hat hD 
    try simp only [Act.put, List.setIfInBounds_toArray, List.set_cons_zero, List.set_cons_succ]
    refine Held.AnyS.step (i := 17) rfl (by kernel_rfl) rfl (fun K hK => ?_)
    refine Held.append_any (.tmp 52) (.tmp 53) 29 rfl Z7.heap.size 9 (.string ⟨#[]⟩) 1 16 Try.underlying29 (by kernel_rfl) rfl (by omega) (.slice A6 (x.f2.length) c6) x.f2.length (encs Value.string x.f2) rfl HO8.out AL ls.length cL (encs Value.string ls) rfl (by simp [encs]) (cells_at (own_news (Kd.own_of_R HL.out)) (Below.refl W.heap.size W) HW7.out HD.out) ?_ ?_ ?_ ?_ ?_
    ·intro u hu; unfold encs at hu; obtain ⟨q, _, rfl⟩ := List.mem_map.1 hu; rfl
    ·have := HXO.out.2; have := HLS.out; simp only [maxLen]; omega
    ·have := HXO.out.2; have := HLS.out; omega
    ·have := HD.out.size; omega
    intro v y3 hown hgr hat
    have hown : y3.ownsRow Z7.heap.size 9 1 v (x.f2.length + ls.length) (encs Value.string x.f2 ++ encs Value.string ls) := hown
    obtain ⟨A7, c7, rfl⟩ := own_slice hown
    have hD : Below Z7.heap.size Z7 y3 := HD.out.grown hgr HD.out.size (fun k hk => own_base HO8.out k hk)
    refine hK.out _ _ (fun _ => HS.out _ hD) ?_
    have HB_ := Lib.hid ((hgr.block _ (blk_lt HBX.out) HNE.out).trans HBX.out)
    have HNE_ := Lib.hid (show some eb ≠ (Value.slice A7 (x.f2.length + ls.length) c7).ownBlock from by rcases hat with hat | hat <;> rw [hat]; exact HNE.out; exact fun e => by injection e with e; have := blk_lt HBX.out; omega)
    clear HBX HNE
    have HBX := HB_
    have HNE := HNE_
    clear HB_ HNE_
    have HO_ := Lib.hid hown
    have HD_ := Lib.hid hD
    clear HD
    have HD := HD_
    clear HO8
    have HO8 := HO_
    clear HO_ HD_ hK K hown hgr hat hD 
    try simp only [Act.put, List.setIfInBounds_toArray, List.set_cons_zero, List.set_cons_succ]
    have hS18 := HS.out _ HD.out
    refine tkd (i := 18) rfl hS18 ?_
    try simp only [Act.put, List.setIfInBounds_toArray, List.set_cons_zero, List.set_cons_succ]
    clear hS18
    refine Held.AnyS.step (i := 20) rfl (by kernel_rfl) rfl (fun K hK => ?_)
    have g0 : y3.cell? ⟨eb, 0, none⟩ = some (#[.int .i64 0, .int .i64 0, .slice none 0 0][0]) := (blk_cell HBX.out 0).trans rfl
    have g1 : y3.cell? ⟨eb, 1, none⟩ = some (#[.int .i64 0, .int .i64 0, .slice none 0 0][1]) := (blk_cell HBX.out 1).trans rfl
    have g2 : y3.cell? ⟨eb, 2, none⟩ = some (#[.int .i64 0, .int .i64 0, .slice none 0 0][2]) := (blk_cell HBX.out 2).trans rfl
    have e0 : y3.frozen? ⟨eb, 0, none⟩ = false := by simp [World.frozen?, HBX.out]
    have e1 : y3.frozen? ⟨eb, 1, none⟩ = false := by simp [World.frozen?, HBX.out]
    have e2 : y3.frozen? ⟨eb, 2, none⟩ = false := by simp [World.frozen?, HBX.out]
    go_simp
    clear g0 g1 g2 e0 e1 e2
    obtain ⟨V, hV, kb, ko, kB⟩ := set3 HBX.out (.int .i64 op) (.int .i64 (x.f1 + 1)) (.slice A7 (x.f2.length + ls.length) c7)
    rw [hV]
    refine hK.out _ _ (fun h => absurd h (by omega)) ?_
    clear hK K
    refine Held.AnyS.done (by kernel_rfl) ?_ _
    go_simp
    refine HEND8.out _ _ ?_
    have hVZ := kB Z7 HD.out HGE.out
    have hVW : Below W.heap.size W V := HW7.out.trans (hVZ.mono HW7.out.size)
    have hq := own_move HO8.out (fun k hk => ko k (fun h => HNE.out (by rw [← h]; exact hk.symm)))
    have hR : Kd.R Kd.string 9 V w.heap.size (fun k => w.heap.size ≤ k) (.slice A7 (x.f2.length + ls.length) c7) (x.f2 ++ ls) := Kd.R_of_own (by have h1 := own_less hq (show w.heap.size ≤ Z7.heap.size by have := HB.out.size; have := HW7.out.size; omega); rw [List.length_append]; unfold encs at h1 ⊢; rw [List.map_append]; exact h1) (fun k hk => by have h1 := own_base hq k hk; have := HB.out.size; have := HW7.out.size; omega)
    exact with_r8 P0_ ad c0 l0 op line ⟨op, x.f1 + 1, x.f2 ++ ls⟩ m w V HF.out HC0.out HOK.out HM.out HP.out (.slice A7 (x.f2.length + ls.length) c7) eb _ _ _ _ _ _ _ _ _ _ _ _ _ _ _ _ _ _ _ _ _ _ _ _ _ _ _ _ _ _ _ _ _ _ _ _ _ _ _ _ _ _ _ _ _ _ _ _ _ _ _ _ _ _ _ _ _ _ _ _ _ hR (below_step HB.out hVW) kb
  ·have c1 : (x.f0 == op) = false := beq_eq_false_iff_ne.2 cx
   have c2_ : (x.f0 = op) = False := eq_false cx
   have HP := Lib.hid (show withP l0 op line = l0 ++ [⟨op, 1, ls⟩] by unfold withP; rw [HLX.out]; simp only []; rw [if_neg cx, HLO.out])
   clear cx
   go_wp2
   clear c1 c2_ p0 p1 p2 p22 p23 p3 p4 p5
   rename_i K6 hEND6
   have HEND6 := Lib.hid hEND6
   clear hEND6
   obtain ⟨U, hU⟩ : ∃ U, U = Z := ⟨_, rfl⟩
   subst hU
   have HU := HU0
   obtain ⟨Z6, hZ6⟩ : ∃ Z6, Z6 = U.drew := ⟨_, rfl⟩
   have HW6 := Lib.hid (show Below W.heap.size W Z6 by rw [hZ6]; exact HU.out.drew)
   have hS : (S2 ⟨xb, 0, none⟩ (.int .i64 op) ⟨xb, 0, none⟩ (.int .i64 op)) Z6 := ⟨(blk_cell (blk_below HX.out HW6.out) 0).trans rfl, (blk_cell (blk_below HX.out HW6.out) 0).trans rfl⟩
   refine (wpIn_wide (n := 9)).1 ?_
   refine Held.region 8 (S2 ⟨xb, 0, none⟩ (.int .i64 op) ⟨xb, 0, none⟩ (.int .i64 op)) (by kernel_rfl) ?_
   rw [← hZ6]
   clear hZ6
   refine tkc (i := 0) rfl hS ?_
   try simp only [Act.put, List.setIfInBounds_toArray, List.set_cons_zero, List.set_cons_succ]
   refine tkc (i := 2) rfl hS ?_
   try simp only [Act.put, List.setIfInBounds_toArray, List.set_cons_zero, List.set_cons_succ]
   refine tkc (i := 3) rfl hS ?_
   try simp only [Act.put, List.setIfInBounds_toArray, List.set_cons_zero, List.set_cons_succ]
   refine tkc (i := 4) rfl hS ?_
   try simp only [Act.put, List.setIfInBounds_toArray, List.set_cons_zero, List.set_cons_succ]
   refine tkc (i := 5) rfl hS ?_
   try simp only [Act.put, List.setIfInBounds_toArray, List.set_cons_zero, List.set_cons_succ]
   obtain ⟨ic, hrc, hcc⟩ := cells_of_F HF.out
   have HRC := Lib.hid hrc
   have HCC := Lib.hid hcc
   clear hrc hcc
   have HD := Lib.hid (Below.refl Z6.heap.size Z6)
   have HS := Lib.hid (fun w' (h : Below Z6.heap.size Z6 w') => (show (S2 ⟨xb, 0, none⟩ (.int .i64 op) ⟨xb, 0, none⟩ (.int .i64 op)) w' from ⟨(h.cell (World.block_lt_of_cell? Z6 _ hS.1)).trans hS.1, (h.cell (World.block_lt_of_cell? Z6 _ hS.1)).trans hS.1⟩))
   clear hS
   refine Held.AnyS.step2 (i := 1) (j := 6) rfl rfl (by kernel_rfl) rfl rfl (fun K hK => ?_) (fun K hK => ?_)
   ·refine Held.append_any (.const (.slice none 0 0)) (.tmp 29) 26 rfl Z6.heap.size 31 (.agg #[.int .i64 0, .int .i64 0, .slice none 0 0]) 3 40 Try.underlying26 (by kernel_rfl) rfl (by omega) (.slice none 0 0) 0 ([]) rfl (own_nil _ _ _ _) (some ad) l0.length c0 (ic) rfl HRC.out.1 (cells_at HCC.out HB.out HW6.out HD.out) ?_ ?_ ?_ ?_ ?_
    ·exact Kd.reps_one HRC.out (by decide) (fun p c h => k31.K_one (Kd.FK_now h))
    ·have := HOK.out.1; simp only [maxLen]; omega
    ·have := HOK.out.1; omega
    ·have := HD.out.size; omega
    intro v y1 hown hgr hat
    have hown : y1.ownsRow Z6.heap.size 31 3 v (l0.length) (ic) := by rw [Nat.zero_add, List.nil_append] at hown; exact hown
    obtain ⟨A2, c2, rfl⟩ := own_slice hown
    have hD : Below Z6.heap.size Z6 y1 := HD.out.grown hgr HD.out.size (fun k hk => by simp [Value.ownBlock] at hk)
    refine hK.out _ _ (fun _ => HS.out _ hD) ?_
    have HO_ := Lib.hid hown
    have HD_ := Lib.hid hD
    clear HD
    have HD := HD_
    have HO8 := HO_
    clear HO_ HD_ hK K hown hgr hat hD 
    try simp only [Act.put, List.setIfInBounds_toArray, List.set_cons_zero, List.set_cons_succ]
    refine Held.AnyS.step (i := 6) rfl (by kernel_rfl) rfl (fun K hK => ?_)
    go_simp
    first | refine ⟨trivial, ?_⟩ | skip
    obtain ⟨y2, hy⟩ : ∃ V, V = y1.alloc (.cells #[.int .i64 op, .int .i64 1, .slice AL ls.length cL] 31) := ⟨_, rfl⟩
    have hD : Below Z6.heap.size Z6 y2 := by rw [hy]; exact HD.out.alloc HD.out.size _
    have hw : Below y1.heap.size y1 y2 := by rw [hy]; exact (Below.refl _ _).alloc (Nat.le_refl _) _
    have hN : y2.heap[y1.heap.size]? = some (.cells #[.int .i64 op, .int .i64 1, .slice AL ls.length cL] 31 (0, 0)) := by rw [hy]; exact heap_alloc_new y1 _
    rw [← hy]
    refine hK.out _ _ (fun _ => HS.out _ hD) ?_
    obtain ⟨b6, hbn⟩ : ∃ b, y1.heap.size = b := ⟨_, rfl⟩
    have HO_ := Lib.hid (pw_own_below HO8.out hw)
    have HNE := Lib.hid (show some b6 ≠ (Value.slice A2 (l0.length) c2).ownBlock from fun e => by have := own_lt HO8.out b6 e.symm; omega)
    clear HO8
    have HO8 := HO_
    clear HO_
    rw [hbn] at hN ⊢
    have HBX := Lib.hid hN
    have HGE := Lib.hid (show Z6.heap.size ≤ b6 by rw [← hbn]; exact HD.out.size)
    have HD_ := Lib.hid hD
    clear HD
    have HD := HD_
    clear hK K hbn hw hD hN hy HD_
    try simp only [Act.put, List.setIfInBounds_toArray, List.set_cons_zero, List.set_cons_succ]
    refine Held.AnyS.step (i := 7) rfl (by kernel_rfl) rfl (fun K hK => ?_)
    have nw : ∀ j u, [.int .i64 op, .int .i64 1, .slice AL ls.length cL][j]? = some u → y2.cell? ((⟨b6, 0, none⟩ : Addr).add j) = some u := by simpa using World.news_of_block (cs := #[.int .i64 op, .int .i64 1, .slice AL ls.length cL]) (t := 31) (fr := (0, 0)) HBX.out
    refine Held.append_any (.tmp 30) (.tmp 35) 26 rfl Z6.heap.size 31 (.agg #[.int .i64 0, .int .i64 0, .slice none 0 0]) 3 40 Try.underlying26 (by kernel_rfl) rfl (by omega) (.slice A2 (l0.length) c2) l0.length (ic) rfl HO8.out (some ⟨b6, 0, none⟩) 1 1 ([.int .i64 op, .int .i64 1, .slice AL ls.length cL]) rfl rfl (.inr ⟨_, rfl, nw⟩) ?_ ?_ ?_ ?_ ?_
    ·intro u hu; simp at hu; rcases hu with rfl | rfl | rfl <;> rfl
    ·have := HOK.out.1; simp only [maxLen]; omega
    ·have := HOK.out.1; omega
    ·have := HD.out.size; omega
    intro v y3 hown hgr hat
    have hown : y3.ownsRow Z6.heap.size 31 3 v (l0.length + 1) (ic ++ [.int .i64 op, .int .i64 1, .slice AL ls.length cL]) := hown
    obtain ⟨A4, c4, rfl⟩ := own_slice hown
    have hD : Below Z6.heap.size Z6 y3 := HD.out.grown hgr HD.out.size (fun k hk => own_base HO8.out k hk)
    refine hK.out _ _ (fun _ => HS.out _ hD) ?_
    have HO_ := Lib.hid hown
    have HD_ := Lib.hid hD
    clear HD
    have HD := HD_
    clear HO8
    have HO8 := HO_
    clear HO_ HD_ hK K hown hgr hat hD nw
    try simp only [Act.put, List.setIfInBounds_toArray, List.set_cons_zero, List.set_cons_succ]
    refine Held.AnyS.step (i := 8) rfl (by kernel_rfl) rfl (fun K hK => ?_)
    go_simp
    refine hK.out _ _ (fun h => absurd h (by omega)) ?_
    clear hK K
    refine Held.AnyS.done (by kernel_rfl) ?_ _
    go_simp
    refine HEND6.out _ _ ?_
    go_wp2
    go_ret
    exact with_new_end HF.out HLO.out HP.out HRC.out HB.out HL.out HW6.out HD.out HO8.out
   ·go_simp
    first | refine ⟨trivial, ?_⟩ | skip
    obtain ⟨y1, hy⟩ : ∃ V, V = Z6.alloc (.cells #[.int .i64 op, .int .i64 1, .slice AL ls.length cL] 31) := ⟨_, rfl⟩
    have hD : Below Z6.heap.size Z6 y1 := by rw [hy]; exact HD.out.alloc HD.out.size _
    have hw : Below Z6.heap.size Z6 y1 := by rw [hy]; exact (Below.refl _ _).alloc (Nat.le_refl _) _
    have hN : y1.heap[Z6.heap.size]? = some (.cells #[.int .i64 op, .int .i64 1, .slice AL ls.length cL] 31 (0, 0)) := by rw [hy]; exact heap_alloc_new Z6 _
    rw [← hy]
    refine hK.out _ _ (fun _ => HS.out _ hD) ?_
    obtain ⟨b6, hbn⟩ : ∃ b, Z6.heap.size = b := ⟨_, rfl⟩
    rw [hbn] at hN ⊢
    have HBX := Lib.hid hN
    have HGE := Lib.hid (show Z6.heap.size ≤ b6 by rw [← hbn]; exact HD.out.size)
    have HD_ := Lib.hid hD
    clear HD
    have HD := HD_
    clear hK K hbn hw hD hN hy HD_
    try simp only [Act.put, List.setIfInBounds_toArray, List.set_cons_zero, List.set_cons_succ]
    refine Held.AnyS.step (i := 1) rfl (by kernel_rfl) rfl (fun K hK => ?_)
    refine Held.append_any (.const (.slice none 0 0)) (.tmp 29) 26 rfl Z6.heap.size 31 (.agg #[.int .i64 0, .int .i64 0, .slice none 0 0]) 3 40 Try.underlying26 (by kernel_rfl) rfl (by omega) (.slice none 0 0) 0 ([]) rfl (own_nil _ _ _ _) (some ad) l0.length c0 (ic) rfl HRC.out.1 (cells_at HCC.out HB.out HW6.out HD.out) ?_ ?_ ?_ ?_ ?_
    ·exact Kd.reps_one HRC.out (by decide) (fun p c h => k31.K_one (Kd.FK_now h))
    ·have := HOK.out.1; simp only [maxLen]; omega
    ·have := HOK.out.1; omega
    ·have := HD.out.size; omega
    intro v y2 hown hgr hat
    have hown : y2.ownsRow Z6.heap.size 31 3 v (l0.length) (ic) := by rw [Nat.zero_add, List.nil_append] at hown; exact hown
    obtain ⟨A2, c2, rfl⟩ := own_slice hown
    have hD : Below Z6.heap.size Z6 y2 := HD.out.grown hgr HD.out.size (fun k hk => by simp [Value.ownBlock] at hk)
    refine hK.out _ _ (fun _ => HS.out _ hD) ?_
    have HB_ := Lib.hid ((hgr.block _ (blk_lt HBX.out) (by simp [Value.ownBlock])).trans HBX.out)
    have HNE_ := Lib.hid (show some b6 ≠ (Value.slice A2 (l0.length) c2).ownBlock from by rcases hat with hat | hat <;> rw [hat]; exact (by simp [Value.ownBlock]); exact fun e => by injection e with e; have := blk_lt HBX.out; omega)
    clear HBX
    have HBX := HB_
    have HNE := HNE_
    clear HB_ HNE_
    have HO_ := Lib.hid hown
    have HD_ := Lib.hid hD
    clear HD
    have HD := HD_
    have HO8 := HO_
    clear HO_ HD_ hK K hown hgr hat hD 
    try simp only [Act.put, List.setIfInBounds_toArray, List.set_cons_zero, List.set_cons_succ]
    refine Held.AnyS.step (i := 7) rfl (by kernel_rfl) rfl (fun K hK => ?_)
    have nw : ∀ j u, [.int .i64 op, .int .i64 1, .slice AL ls.length cL][j]? = some u → y2.cell? ((⟨b6, 0, none⟩ : Addr).add j) = some u := by simpa using World.news_of_block (cs := #[.int .i64 op, .int .i64 1, .slice AL ls.length cL]) (t := 31) (fr := (0, 0)) HBX.out
    refine Held.append_any (.tmp 30) (.tmp 35) 26 rfl Z6.heap.size 31 (.agg #[.int .i64 0, .int .i64 0, .slice none 0 0]) 3 40 Try.underlying26 (by kernel_rfl) rfl (by omega) (.slice A2 (l0.length) c2) l0.length (ic) rfl HO8.out (some ⟨b6, 0, none⟩) 1 1 ([.int .i64 op, .int .i64 1, .slice AL ls.length cL]) rfl rfl (.inr ⟨_, rfl, nw⟩) ?_ ?_ ?_ ?_ ?_
    ·intro u hu; simp at hu; rcases hu with rfl | rfl | rfl <;> rfl
    ·have := HOK.out.1; simp only [maxLen]; omega
    ·have := HOK.out.1; omega
    ·have := HD.out.size; omega
    intro v y3 hown hgr hat
    have hown : y3.ownsRow Z6.heap.size 31 3 v (l0.length + 1) (ic ++ [.int .i64 op, .int .i64 1, .slice AL ls.length cL]) := hown
    obtain ⟨A4, c4, rfl⟩ := own_slice hown
    have hD : Below Z6.heap.size Z6 y3 := HD.out.grown hgr HD.out.size (fun k hk => own_base HO8.out k hk)
    refine hK.out _ _ (fun _ => HS.out _ hD) ?_
    have HO_ := Lib.hid hown
    have HD_ := Lib.hid hD
    clear HD
    have HD := HD_
    clear HO8
    have HO8 := HO_
    clear HO_ HD_ hK K hown hgr hat hD nw
    try simp only [Act.put, List.setIfInBounds_toArray, List.set_cons_zero, List.set_cons_succ]
    refine Held.AnyS.step (i := 8) rfl (by kernel_rfl) rfl (fun K hK => ?_)
    go_simp
    refine hK.out _ _ (fun h => absurd h (by omega)) ?_
    clear hK K
    refine Held.AnyS.done (by kernel_rfl) ?_ _
    go_simp
    refine HEND6.out _ _ ?_
    go_wp2
    go_ret
    exact with_new_end HF.out HLO.out HP.out HRC.out HB.out HL.out HW6.out HD.out HO8.out
set_option maxRecDepth 100000 in
set_option maxHeartbeats 2000000 in
theorem with_run (P0_ : Nat → Prop) (A0 : Option Addr) (c0 : Nat) (l0 : List S31) (op : Int) (line : ByteArray) (fr tt : Int) (w : World) (hs0 : Kd.V k31 31 w w.heap.size (fun k_ => P0_ k_) (.slice A0 l0.length c0) l0) (hok : WithOk l0) :
  Calls Try.prog 38 #[.slice A0 l0.length c0, .agg #[.int .i64 op, .string line, .int .i64 fr, .int .i64 tt]] w fun e w' => ∃ v0_ : Value, e = .returned (v0_) ∧ Kd.N k31 31 w' w.heap.size (fun k_ => (P0_ k_ ∨ w.heap.size ≤ k_)) v0_ (withP l0 op line) ∧ Below w.heap.size w w' := by
 obtain ⟨_, hc0, hF⟩ := Kd.V_at hs0
 have HF := Lib.hid hF
 have HOK := Lib.hid hok
 have HC0 := Lib.hid hc0
 obtain ⟨X, hX⟩ : ∃ X, X = w.alloc (.cells #[.int .i64 op, .string line, .int .i64 fr, .int .i64 tt] 71) := ⟨_, rfl⟩
 have qX : X.heap[w.heap.size]? = some (.cells #[.int .i64 op, .string line, .int .i64 fr, .int .i64 tt] 71 (0, 0)) := by rw [hX]; exact heap_alloc_new w _
 have z0 : X.cell? ⟨w.heap.size, 0, none⟩ = some (.int .i64 op) := (blk_cell qX 0).trans rfl
 have z1 : X.cell? ⟨w.heap.size, 1, none⟩ = some (.string line) := (blk_cell qX 1).trans rfl
 have bX : Below w.heap.size w X := by rw [hX]; exact (Below.refl _ _).alloc (Nat.le_refl _) _
 have HX := Lib.hid hX
 have HQ := Lib.hid qX
 have HB := Lib.hid bX
 clear hs0 hF hok hc0 hX qX bX
 go_enter Try.func38, Try.ntmps38
 refine wp_seq_k (fun K0 h0 => ?_)
 have H0 := Lib.hid h0
 clear h0
 go_wp2_with (first | rw [← HX.out])
 refine H0.out _ _ ?_
 refine wp_seq_k (fun K1 h1 => ?_)
 have H1 := Lib.hid h1
 clear h1 H0
 go_wp2
 refine H1.out _ _ ?_
 refine wp_seq_k (fun K2 h2 => ?_)
 have H2 := Lib.hid h2
 clear h2 H1
 go_wp2
 refine H2.out _ _ ?_
 refine wp_seq_k (fun K3 h3 => ?_)
 have H3 := Lib.hid h3
 clear h3 H2
 by_cases co : op = 3
 ·have c1 : (op == 3) = true := beq_iff_eq.2 co
  have HCO := Lib.hid co
  clear co
  go_wp2
  refine H3.out _ _ ?_
  have hsz : w.heap.size + 1 = X.heap.size := by rw [HX.out]; simp
  rw [← HX.out, hsz]
  clear hsz
  obtain ⟨Y, hY⟩ : ∃ Y, Y = X.alloc (.cells #[.string line] 9) := ⟨_, rfl⟩
  rw [← hY]
  have bY : Below X.heap.size X Y := by rw [hY]; exact (Below.refl _ _).alloc (Nat.le_refl _) _
  have hR : Kd.R Kd.string 9 Y w.heap.size (fun k => w.heap.size ≤ k) (.slice (some ⟨X.heap.size, 0, none⟩) 1 1) [line] := by
   have h := World.ownsRow_lit (base := w.heap.size) (e := 9) (size := 1) X #[.string line] 1 HB.out.size (by decide) (by rfl)
   rw [← hY] at h
   exact Kd.R_of_own h (fun k hk => own_base h k hk)
  exact with_r5 P0_ A0 c0 l0 op line fr tt w Y HF.out HC0.out HOK.out [line] (Nat.le_refl 1) (by rw [if_pos HCO.out]) _ w.heap.size _ _ _ _ _ _ _ _ _ _ _ _ _ _ _ _ _ _ _ _ _ _ _ _ _ _ _ _ _ _ _ _ _ _ _ _ _ _ _ _ _ _ _ _ _ _ _ _ _ _ _ _ _ _ _ _ _ _ _ hR (below_step HB.out bY) (blk_below HQ.out bY) (Nat.le_refl _)
 ·have c1 : (op == 3) = false := beq_eq_false_iff_ne.2 co
  have HCO := Lib.hid co
  clear co
  go_wp2
  refine H3.out _ _ ?_
  rw [← HX.out]
  exact with_r5 P0_ A0 c0 l0 op line fr tt w X HF.out HC0.out HOK.out [] (Nat.zero_le 1) (by rw [if_neg HCO.out]) _ w.heap.size _ _ _ _ _ _ _ _ _ _ _ _ _ _ _ _ _ _ _ _ _ _ _ _ _ _ _ _ _ _ _ _ _ _ _ _ _ _ _ _ _ _ _ _ _ _ _ _ _ _ _ _ _ _ _ _ _ _ _ (Kd.R_nil _ _ _ _ _) HB.out HQ.out (Nat.le_refl _)
instance (l : List S31) : Decidable (WithOk l) := by unfold WithOk; infer_instance
def collatorref06_with.f (l0 : List S31) (a1_0 : Int) (a1_1 : ByteArray) (a1_2 : Int) (a1_3 : Int) : Option (List S31) := if WithOk l0 then some (withP l0 a1_0 a1_1) else none
theorem collatorref06_with.calls (P0_ : Nat → Prop) (A0 : Option Addr) (c0 : Nat) (l0 : List S31) (a1_0 : Int) (a1_1 : ByteArray) (a1_2 : Int) (a1_3 : Int) (r : List S31) (w : World) (hs0 : Kd.V k31 31 w w.heap.size (fun k_ => P0_ k_) (.slice A0 l0.length c0) l0) (h : collatorref06_with.f l0 a1_0 a1_1 a1_2 a1_3 = some r) :
  Calls Try.prog 38 #[.slice A0 l0.length c0, .agg #[.int .i64 a1_0, .string a1_1, .int .i64 a1_2, .int .i64 a1_3]] w fun e w' => ∃ v0_ : Value, e = .returned (v0_) ∧ Kd.N k31 31 w' w.heap.size (fun k_ => (P0_ k_ ∨ w.heap.size ≤ k_)) v0_ r ∧ Below w.heap.size w w' := by
 unfold collatorref06_with.f at h
 split at h
 ·rename_i hh
  obtain rfl := Option.some.inj h
  exact with_run P0_ A0 c0 l0 a1_0 a1_1 a1_2 a1_3 w hs0 hh
 ·cases h
end Go.Proofs.Ytgobidmfbjmpkaa.P
end
