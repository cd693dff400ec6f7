/- Words of this session: min and max of two whole numbers, in the walk under one name. · A region that draws its order, inside a round too: reads are taken first, by a condition S on the world that stands till the operations from z on have come up. -/
import Derived.Test.YtgobidmfbjmpkaaWMore
import Derived.OrdersIn
import Derived.OwnWalkIn
import Derived.Maps.OwnIn
import Derived.Below
import Derived.RowKit
section
set_option linter.unusedVariables false
namespace Go.Proofs.Ytgobidmfbjmpkaa.HMin
open Go Go.Proofs.YtgobidmfbjmpkaaW.PrintWords Go.Proofs.YtgobidmfbjmpkaaW.PrintMore
theorem min2_mn (k k' : IntKind) (x y : Int) : Builtin.min2 (.int k x) (.int k' y) = pure (.int k (mn x y)) := min2_int k k' x y
theorem max2_mx (k k' : IntKind) (x y : Int) : Builtin.max2 (.int k x) (.int k' y) = pure (.int k (mx x y)) := max2_int k k' x y
end Go.Proofs.Ytgobidmfbjmpkaa.HMin
end
section
set_option linter.unusedVariables false
namespace Go.Proofs.Ytgobidmfbjmpkaa.Held
open Go Go.RowKit
/-- No defer statement among them. -/
def noDefer (ops : Array Oper) : Bool := ops.all fun o => match o.op with
 | .defer _ => false
 | _ => true
/-- Whoever stands from z on waits for i. -/
def tied (md : Region.Mode) (ops : Array Oper) (z i : Nat) : Bool := (List.range ops.size).all fun j => decide (j < z) || (match ops[j]? with
 | some o => o.after.any fun e => Region.binds md e && e.on == i
 | none => true)
section
variable {F : Fence} {n : Nat} {P : Program} {ops : Array Oper} {Q : Exit → Act → World → Prop} {md : Region.Mode} {S : World → Prop} {z : Nat}
theorem noDefer_spec (h : noDefer ops = true) {j : Nat} {o : Oper} (ho : ops[j]? = some o) : ∀ c, o.op ≠ .defer c := by
 intro c hc
 have := Array.all_eq_true_iff_forall_mem.1 h o (Array.mem_of_getElem? ho)
 simp [hc] at this
/-- In every world that meets S the operation leaves v, and nothing else; or its guard lets it out. -/
def Gives (P : Program) (ops : Array Oper) (S : World → Prop) (o : Oper) (v : Value) (a : Act) : Prop :=
 (Region.wanted o (yielded ops a.tmps) = true ∧ ∀ w, S w → (execOp a.eval o).run P w = .ok (.value v) w ∧ o.about P w a.eval = none) ∨
 (Region.wanted o (yielded ops a.tmps) = false ∧ v = undef ∧ ∀ w, o.about P w a.eval = none)
theorem Gives.op {i : Nat} {o : Oper} {v : Value} {a : Act} (hn : noDefer ops = true) (hi : ops[i]? = some o) (hy : Gives P ops S o v a) {K : Act → World → Prop} {w : World} (hS : S w) (h : K (a.put o.dst v) w) : wpOpIn F n P ops Q i K a w := by
 unfold wpOpIn
 rcases hy with hy | ⟨hw, rfl, hb⟩
 ·simp only [hi, hy.1, if_true, Oper.wpIn]
  refine ⟨fun f hf => ?_, ?_⟩
  ·rw [(hy.2 w hS).2] at hf; cases hf
  ·rw [Oper.semAt_eq _ _ _ (noDefer_spec hn hi), (hy.2 w hS).1]; exact h
 ·simp only [hi, hw, Bool.false_eq_true, if_false]
  exact ⟨fun f hf => (by rw [hb w] at hf; cases hf), h⟩
theorem Gives.same {o : Oper} {v : Value} {a a' : Act} (hy : Gives P ops S o v a) (he : execOp a'.eval o = execOp a.eval o)
  (hw : Region.wanted o (yielded ops a'.tmps) = Region.wanted o (yielded ops a.tmps)) (hb : ∀ w, o.about P w a'.eval = o.about P w a.eval) : Gives P ops S o v a' :=
 hy.imp (fun hy => ⟨hw.trans hy.1, fun w hS => by rw [he, hb w]; exact hy.2 w hS⟩) (fun ⟨h1, h2, h3⟩ => ⟨hw.trans h1, h2, fun w => by rw [hb w]; exact h3 w⟩)
/-- What comes up in between does not mind whether the reading has come up. -/
theorem Gives.past {j : Nat} {oi oj : Oper} {v : Value} (hn : noDefer ops = true) (hj : ops[j]? = some oj) (hap : oi.apart ops oj = true)
  (hsi : ∀ cs b, oi.op ≠ .select cs b) (hsj : ∀ cs b, oj.op ≠ .select cs b)
  (hQ : ∀ c a w, Q (.panic c) (a.put oi.dst v) w → Q (.panic c) a w) {K : Act → World → Prop} {a : Act} {w : World}
  (hy : Gives P ops S oi v a) (h : wpOpIn F n P ops Q j K (a.put oi.dst v) w) : wpOpIn F n P ops Q j (fun a' w' => Gives P ops S oi v a' ∧ K (a'.put oi.dst v) w') a w := by
 obtain ⟨h1, h2, h3⟩ := Oper.apart_spec hap
 have keep : ∀ (a : Act), Gives P ops S oi v a → ∀ u, Gives P ops S oi v (a.put oj.dst u) := fun a hy u =>
  hy.same (execOp_put oi hsi a oj.dst u h3) (wanted_put oi a oj.dst u h3) (fun w => about_put oi w a oj.dst u h3)
 have nd := noDefer_spec hn hj
 unfold wpOpIn at *
 simp only [hj] at *
 rw [wanted_put oj a oi.dst v h1, about_put oj w a oi.dst v h1] at h
 split
 ·rename_i hw
  simp only [hw, if_true] at h
  unfold Oper.wpIn at *
  rw [about_put oj w a oi.dst v h1, Oper.semAt_eq _ _ _ nd, execOp_put oj hsj a oi.dst v h1] at h
  rw [Oper.semAt_eq _ _ _ nd]
  refine ⟨h.1, ?_⟩
  replace h := h.2
  generalize (execOp a.eval oj).run P w = r at *
  cases r with
  | ok x w' =>
   cases x <;> simp only [Oper.uponIn] at h ⊢
   case value u => exact ⟨keep a hy u, by rw [← Act.put_comm a v u h2]; exact h⟩
   case skip => exact ⟨keep a hy _, by rw [← Act.put_comm a v undef h2]; exact h⟩
   case defer d =>
    refine ⟨keep { a with defers := d :: a.defers } (hy.same rfl rfl (fun _ => rfl)) _, ?_⟩
    rw [← Act.put_comm _ v undef h2, ← Act.put_defers]
    exact h
   case enter f args =>
    refine ⟨h.1, CallsIn.mono h.2 fun e w'' he => ?_⟩
    cases e with
    | returned u => exact ⟨keep a hy u, by rw [← Act.put_comm a v u h2]; exact he⟩
    | panicked c => exact hQ _ _ _ he
    | outgrown => exact he
   case row row args => exact ⟨h.1, RowsIn.mono h.2 fun u w'' he => ⟨keep a hy u, by rw [← Act.put_comm a v u h2]; exact he⟩⟩
   case round l f tmps assign body =>
    refine ⟨h.1, RoundIn.mono h.2 fun e w'' he => ?_⟩
    cases e with
    | returned u => exact ⟨keep a hy u, by rw [← Act.put_comm a v u h2]; exact he⟩
    | panicked c => exact hQ _ _ _ he
    | outgrown => exact he
  | halt x w' =>
   cases x <;> simp only [Oper.uponIn] at h ⊢
   case panic u => exact hQ _ _ _ h
 ·rename_i hw
  simp only [hw] at h
  exact ⟨h.1, keep a hy _, by rw [← Act.put_comm a v undef h2]; exact h.2⟩
/-- Whatever order comes, and S stands behind each operation ahead of z. -/
def AnyS (F : Fence) (n : Nat) (P : Program) (md : Region.Mode) (ops : Array Oper) (Q : Exit → Act → World → Prop) (S : World → Prop) (z : Nat) : Nat → Array Bool → Act → World → Prop
 | 0, l, a, w => Region.ready md ops l = [] ∧ Q .normal a w
 | f + 1, l, a, w => (Region.ready md ops l = [] → Q .normal a w) ∧ ∀ i ∈ Region.ready md ops l, wpOpIn F n P ops Q i (fun a' w' => (i < z → S w') ∧ AnyS F n P md ops Q S z f (l.setIfInBounds i true) a' w') a w
theorem AnyS.any : ∀ (f : Nat) (l : Array Bool) (a : Act) (w : World), AnyS F n P md ops Q S z f l a w → wpAnyIn F n P md ops Q f l a w
 | 0, _, _, _, h => h
 | f + 1, _, _, _, h => ⟨h.1, fun i hi => wpOpIn_mono (fun a' w' h' => AnyS.any f _ a' w' h'.2) (h.2 i hi)⟩
theorem AnyS.first {i : Nat} {oi : Oper} {v : Value} (hn : noDefer ops = true) (hi : ops[i]? = some oi) (hiz : tied md ops z i = true) (hsel : ∀ (j : Nat) (o : Oper) cs b, ops[j]? = some o → o.op ≠ .select cs b)
  (hQ : ∀ c a w, Q (.panic c) (a.put oi.dst v) w → Q (.panic c) a w) :
  ∀ (f : Nat) (l : Array Bool) (a : Act) (w : World),
   (∀ j oj, ops[j]? = some oj → j ≠ i → l.getD j true = false → (∀ e ∈ oj.after, Region.binds md e = true → e.on ≠ i) → oi.apart ops oj = true) →
   i ∈ Region.ready md ops l → Gives P ops S oi v a → S w →
   AnyS F n P md ops Q S z f (l.setIfInBounds i true) (a.put oi.dst v) w → AnyS F n P md ops Q S z (f + 1) l a w := by
 intro f
 induction f with
 | zero =>
  intro l a w _ hr hy hS H
  refine ⟨fun h => (by rw [h] at hr; cases hr), fun j hj => ?_⟩
  by_cases hji : j = i
  ·subst hji; exact hy.op hn hi hS ⟨fun _ => hS, H⟩
  ·have := ready_mono hj hji
   rw [H.1] at this
   cases this
 | succ f ih =>
  intro l a w hfree hr hy hS H
  refine ⟨fun h => (by rw [h] at hr; cases hr), fun j hj => ?_⟩
  by_cases hji : j = i
  ·subst hji; exact hy.op hn hi hS ⟨fun _ => hS, H⟩
  ·have h1 := H.2 j (ready_mono hj hji)
   obtain ⟨hjun, oj, hoj, hall⟩ := mem_ready.1 hj
   have hnot : ∀ e ∈ oj.after, Region.binds md e = true → e.on ≠ i := fun e he hb heq => by
    have h1 := hall e he hb
    have h0 := (mem_ready.1 hr).1
    rw [heq] at h1
    rcases Nat.lt_or_ge i l.size with h' | h'
    ·simp [h'] at h0 h1; rw [h0] at h1; cases h1
    ·simp [Array.getElem?_eq_none h'] at h1
   have hjz : j < z := by
    refine Nat.lt_of_not_le fun e => ?_
    unfold tied at hiz
    rw [List.all_eq_true] at hiz
    have hiz := hiz j (List.mem_range.2 (Array.getElem?_eq_some_iff.1 hoj).1)
    rw [hoj, decide_eq_false (Nat.not_lt.2 e), Bool.false_or] at hiz
    obtain ⟨x, hx, hb⟩ := Array.any_eq_true'.1 hiz
    simp only [Bool.and_eq_true, beq_iff_eq] at hb
    exact hnot x hx hb.1 hb.2
   have h2 := Gives.past hn hoj (hfree j oj hoj hji hjun hnot) (fun cs b => hsel i oi cs b hi) (fun cs b => hsel j oj cs b hoj) hQ hy h1
   have hfree' : ∀ k ok, ops[k]? = some ok → k ≠ i → (l.setIfInBounds j true).getD k true = false →
     (∀ e ∈ ok.after, Region.binds md e = true → e.on ≠ i) → oi.apart ops ok = true := fun k ok hk hki hun hno => by
    refine hfree k ok hk hki ?_ hno
    by_cases hjk : j = k
    ·subst hjk; exact hjun
    ·rw [getD_set_ne true hjk] at hun; exact hun
   refine wpOpIn_mono (fun a' w' h3 => ⟨h3.2.1, ih (l.setIfInBounds j true) a' w' hfree' (ready_mono hr (Ne.symm hji)) h3.1 (h3.2.1 hjz) ?_⟩) h2
   rw [Array.setIfInBounds_comm _ _ hji]
   exact h3.2.2
theorem at_drop {i : Nat} {o : Oper} {tl : List Oper} (h : ops.toList.drop i = o :: tl) : ops[i]? = some o := by
 rw [← Array.getElem?_toList, ← Nat.add_zero i, ← List.getElem?_drop, h]; rfl
/-- A reading is taken first. -/
theorem AnyS.take {i : Nat} {oi : Oper} {tl : List Oper} {v : Value} {f : Nat} {l : Array Bool} {a : Act} {w : World} (hi : ops.toList.drop i = oi :: tl) (hc : (noDefer ops && Region.noSelect ops && tied md ops z i && Region.free md ops l i && (Region.ready md ops l).contains i) = true)
  (hQ : ∀ c a w, Q (.panic c) (a.put oi.dst v) w → Q (.panic c) a w) (hw : Region.wanted oi (yielded ops a.tmps) = true) (ha : ∀ w, oi.about P w a.eval = none) (hy : ∀ w, S w → (execOp a.eval oi).run P w = .ok (.value v) w) (hS : S w)
  (h : AnyS F n P md ops Q S z f (l.setIfInBounds i true) (a.put oi.dst v) w) : AnyS F n P md ops Q S z (f + 1) l a w := by
 simp only [Bool.and_eq_true] at hc
 obtain ⟨⟨⟨⟨h1, h2⟩, h3⟩, h4⟩, h5⟩ := hc
 have hi' : ops[i]? = some oi := at_drop hi
 exact AnyS.first h1 hi' h3 (Region.noSelect_spec h2) hQ f l a w (Region.free_spec hi' h4) (by simpa using h5) (.inl ⟨hw, fun w hS => ⟨hy w hS, ha w⟩⟩) hS h
/-- A guarded one that is let out. -/
theorem AnyS.skip {i : Nat} {oi : Oper} {tl : List Oper} {f : Nat} {l : Array Bool} {a : Act} {w : World} (hi : ops.toList.drop i = oi :: tl) (hc : (noDefer ops && Region.noSelect ops && tied md ops z i && Region.free md ops l i && (Region.ready md ops l).contains i) = true)
  (hQ : ∀ c a w, Q (.panic c) (a.put oi.dst undef) w → Q (.panic c) a w) (hw : Region.wanted oi (yielded ops a.tmps) = false) (ha : ∀ w, oi.about P w a.eval = none) (hS : S w)
  (h : AnyS F n P md ops Q S z f (l.setIfInBounds i true) (a.put oi.dst undef) w) : AnyS F n P md ops Q S z (f + 1) l a w := by
 simp only [Bool.and_eq_true] at hc
 obtain ⟨⟨⟨⟨h1, h2⟩, h3⟩, h4⟩, h5⟩ := hc
 have hi' : ops[i]? = some oi := at_drop hi
 exact AnyS.first h1 hi' h3 (Region.noSelect_spec h2) hQ f l a w (Region.free_spec hi' h4) (by simpa using h5) (.inr ⟨hw, rfl, ha⟩) hS h
/-- One operation alone may come up. -/
theorem AnyS.step {i : Nat} {o : Oper} {tl : List Oper} {f : Nat} {l : Array Bool} {a : Act} {w : World} (ho : ops.toList.drop i = o :: tl) (hr : Region.ready md ops l = [i]) (hw : Region.wanted o (yielded ops a.tmps) = true)
  (h : ∀ K : Act → World → Prop, Hid (∀ a' w', (i < z → S w') → AnyS F n P md ops Q S z f (l.setIfInBounds i true) a' w' → K a' w') → o.wpIn F n P a w K Q) : AnyS F n P md ops Q S z (f + 1) l a w := by
 refine ⟨fun h0 => absurd (hr ▸ h0) (by simp), fun j hj => ?_⟩
 rw [hr] at hj
 obtain rfl := List.mem_singleton.1 hj
 unfold wpOpIn
 simp only [at_drop ho, hw, if_true]
 exact h _ (fun a' w' h1 h2 => ⟨h1, h2⟩ : Hid _)
/-- One of two may come up. -/
theorem AnyS.step2 {i j : Nat} {o o' : Oper} {tl tl' : List Oper} {f : Nat} {l : Array Bool} {a : Act} {w : World} (ho : ops.toList.drop i = o :: tl) (ho' : ops.toList.drop j = o' :: tl') (hr : Region.ready md ops l = [i, j]) (hw : Region.wanted o (yielded ops a.tmps) = true) (hw' : Region.wanted o' (yielded ops a.tmps) = true)
  (h : ∀ K : Act → World → Prop, Hid (∀ a' w', (i < z → S w') → AnyS F n P md ops Q S z f (l.setIfInBounds i true) a' w' → K a' w') → o.wpIn F n P a w K Q)
  (h' : ∀ K : Act → World → Prop, Hid (∀ a' w', (j < z → S w') → AnyS F n P md ops Q S z f (l.setIfInBounds j true) a' w' → K a' w') → o'.wpIn F n P a w K Q) : AnyS F n P md ops Q S z (f + 1) l a w := by
 refine ⟨fun h0 => absurd (hr ▸ h0) (by simp), fun k hk => ?_⟩
 rw [hr] at hk
 unfold wpOpIn
 rcases List.mem_cons.1 hk with rfl | hk
 ·simp only [at_drop ho, hw, if_true]
  exact h _ (fun a' w' h1 h2 => ⟨h1, h2⟩ : Hid _)
 ·obtain rfl := List.mem_singleton.1 hk
  simp only [at_drop ho', hw', if_true]
  exact h' _ (fun a' w' h1 h2 => ⟨h1, h2⟩ : Hid _)
theorem AnyS.done {l : Array Bool} {a : Act} {w : World} (hr : Region.ready md ops l = []) (h : Q .normal a w) : ∀ f, AnyS F n P md ops Q S z f l a w
 | 0 => by unfold AnyS; exact ⟨hr, h⟩
 | _ + 1 => ⟨fun _ => h, by rw [hr]; simp⟩
/-- The beginning. -/
theorem region {id : Nat} {a : Act} {w : World} (z : Nat) (S : World → Prop) (hm : P.follows .mixedOrders = true) (h : AnyS F n P .any ops Q S z ops.size (Array.replicate ops.size false) a w.drew) : (Code.region id ops true).wpIn F n P Q a w :=
 wpIn_region_any hm (AnyS.any _ _ _ _ h)
/-- An append as one operation. -/
theorem append_at {P : Program} {w : World} {o : Oper} {a : Act} {K : Act → World → Prop} (s x : Operand) (t : TypeId)
  (ho : o.op = .call { callee := .builtin .append, args := #[s, x], argTypes := #[t, t] })
  (base : Nat) (e : TypeId) (z : Value) (size bytes : Nat) (ht : P.underlying t = some (.slice e)) (hinfo : (P.info? e).map (fun i => (i.zero, i.size, i.bytes)) = some (some z, size, bytes))
  (hzs : z.cells.size = size) (hsz : 0 < size)
  (v : Value) (k : Nat) (xs : List Value) (hs : a.eval s = v) (hown : w.ownsRow base e size v k xs)
  (ad : Addr) (m c : Nat) (news : List Value) (hx : a.eval x = .slice (some ad) m c) (hl : news.length = m * size) (hnews : ∀ j u, news[j]? = some u → w.cell? (ad.add j) = some u) (h1 : ∀ u ∈ news, u.oneCell' = true)
  (h63 : k + m ≤ maxLen) (hbytes : (k + m) * bytes ≤ 140737488355328) (hbase : base ≤ w.heap.size)
  (h : ∀ v' w', w'.ownsRow base e size v' (k + m) (xs ++ news) → w.grownBy w' v.ownBlock → (v'.ownBlock = v.ownBlock ∨ v'.ownBlock = some w.heap.size) → K (a.put o.dst v') w') :
  o.wpIn F n P a w K Q := by
 obtain ⟨i0, hi, hzz⟩ := Option.map_eq_some_iff.1 hinfo
 simp only [Prod.mk.injEq] at hzz
 obtain ⟨hz0, hz1, hz2⟩ := hzz
 obtain ⟨v', w', hr, h2, h3, h4, h5⟩ := run_append_own_at (P := P) w base t o.type e i0 z size bytes ht hi hz0 hz1 hz2 hzs hsz v k xs hown ad m c news hl hnews h1 h63 hbytes hbase
 unfold Oper.wpIn
 refine ⟨by simp [Oper.about, ho, resolve, Target.leads, Sem.run_pure], ?_⟩
 rw [Oper.semAt_eq _ _ _ (by rw [ho]; intro c hc'; cases hc')]
 simp [execOp, ho, resolve, invoke, builtin, hs, hx, hr, Result.andThen]
 exact h v' w' h2 h3 h5
/-- The same, of a slice that may be nil. -/
theorem append_any {P : Program} {w : World} {o : Oper} {a : Act} {K : Act → World → Prop} (s x : Operand) (t : TypeId)
  (ho : o.op = .call { callee := .builtin .append, args := #[s, x], argTypes := #[t, t] })
  (base : Nat) (e : TypeId) (z : Value) (size bytes : Nat) (ht : P.underlying t = some (.slice e)) (hinfo : (P.info? e).map (fun i => (i.zero, i.size, i.bytes)) = some (some z, size, bytes))
  (hzs : z.cells.size = size) (hsz : 0 < size)
  (v : Value) (k : Nat) (xs : List Value) (hs : a.eval s = v) (hown : w.ownsRow base e size v k xs)
  (X : Option Addr) (m c : Nat) (news : List Value) (hx : a.eval x = .slice X m c) (hl : news.length = m * size) (hnews : (X = none ∧ m = 0) ∨ ∃ ad, X = some ad ∧ ∀ j u, news[j]? = some u → w.cell? (ad.add j) = some u) (h1 : ∀ u ∈ news, u.oneCell' = true)
  (h63 : k + m ≤ maxLen) (hbytes : (k + m) * bytes ≤ 140737488355328) (hbase : base ≤ w.heap.size)
  (h : ∀ v' w', w'.ownsRow base e size v' (k + m) (xs ++ news) → w.grownBy w' v.ownBlock → (v'.ownBlock = v.ownBlock ∨ v'.ownBlock = some w.heap.size) → K (a.put o.dst v') w') :
  o.wpIn F n P a w K Q := by
 rcases hnews with ⟨rfl, rfl⟩ | ⟨ad, rfl, hc⟩
 ·obtain ⟨i0, hi, hzz⟩ := Option.map_eq_some_iff.1 hinfo
  simp only [Prod.mk.injEq] at hzz
  obtain ⟨hz0, hz1, hz2⟩ := hzz
  obtain rfl : news = [] := List.eq_nil_of_length_eq_zero (by omega)
  have hr : (Builtin.append_ #[t, t] o.type #[v, .slice none 0 c]).run P w = .ok v w := by
   rcases hown.2 with ⟨rfl, hn⟩ | ⟨g, cap, cur, rfl, _, _, hnc, _⟩
   ·simp [Builtin.append_, run_underlying ht, sizeOf, typeInfo, hi, Builtin.lenOf, Builtin.firstCells]
   ·simp [Builtin.append_, run_underlying ht, sizeOf, typeInfo, hi, Builtin.lenOf, Builtin.firstCells, hnc, storeCells]
  unfold Oper.wpIn
  refine ⟨by simp [Oper.about, ho, resolve, Target.leads, Sem.run_pure], ?_⟩
  rw [Oper.semAt_eq _ _ _ (by rw [ho]; intro c hc'; cases hc')]
  simp [execOp, ho, resolve, invoke, builtin, hs, hx, hr, Result.andThen]
  exact h v w (by simpa using hown) (World.grownBy.refl _ _) (.inl rfl)
 ·exact append_at s x t ho base e z size bytes ht hinfo hzs hsz v k xs hs hown ad m c news hx hl hc h1 h63 hbytes hbase h
end
/-- These blocks are as they were. -/
def Same (Z : World) (bs : List Nat) (w : World) : Prop := ∀ b ∈ bs, w.heap[b]? = Z.heap[b]?
theorem Same.refl (Z : World) (bs : List Nat) : Same Z bs Z := fun _ _ => rfl
theorem Same.cell {Z w : World} {bs : List Nat} (h : Same Z bs w) {b o : Nat} {v : Value} (hc : Z.cell? ⟨b, o, none⟩ = some v) (hb : b ∈ bs) : w.cell? ⟨b, o, none⟩ = some v := by
 rw [← hc]
 simp only [World.cell?, h b hb]
theorem Same.below {Z w w' : World} {bs : List Nat} (h : Same Z bs w) (hb : Below w.heap.size w w') (hz : ∀ b ∈ bs, b < Z.heap.size) : Same Z bs w' := fun b hm => by
 have h1 := h b hm
 have : b < w.heap.size := by
  have h2 : Z.heap[b]? = some (Z.heap[b]'(hz b hm)) := Array.getElem?_eq_getElem (hz b hm)
  rw [h2] at h1
  exact (Array.getElem?_eq_some_iff.1 h1).1
 rw [hb.block b this, h1]
theorem Same.grown {Z w w' : World} {bs : List Nat} {row : Option Nat} (h : Same Z bs w) (hg : w.grownBy w' row) (hz : ∀ b ∈ bs, b < Z.heap.size ∧ some b ≠ row) : Same Z bs w' := fun b hm => by
 have h1 := h b hm
 have : b < w.heap.size := by
  have h2 : Z.heap[b]? = some (Z.heap[b]'(hz b hm).1) := Array.getElem?_eq_getElem (hz b hm).1
  rw [h2] at h1
  exact (Array.getElem?_eq_some_iff.1 h1).1
 rw [hg.block b this (hz b hm).2, h1]
theorem Same.cells {Z w : World} {bs : List Nat} (h : Same Z bs w) : ∀ b o, b ∈ bs → w.cell? ⟨b, o, none⟩ = Z.cell? ⟨b, o, none⟩ := fun b o hb => by simp only [World.cell?, h b hb]
/-- A reading is taken first, its side conditions by rote. -/
theorem tk {F : Fence} {n : Nat} {P : Program} {ops : Array Oper} {Q : Exit → Act → World → Prop} {md : Region.Mode} {z : Nat} {Z : World} {bs : List Nat} {i : Nat} {oi : Oper} {tl : List Oper} {v : Value} {f : Nat} {l : Array Bool} {a : Act} {w : World}
  (hi : ops.toList.drop i = oi :: tl) (hS : Same Z bs w) (h : AnyS F n P md ops Q (Same Z bs) z f (l.setIfInBounds i true) (a.put oi.dst v) w)
  (hy : ∀ w, Same Z bs w → (execOp a.eval oi).run P w = .ok (.value v) w := by intro w' hw'; have hc_ := Held.Same.cells hw'; go_simp; try (with_reducible rfl))
  (hc : (noDefer ops && Region.noSelect ops && tied md ops z i && Region.free md ops l i && (Region.ready md ops l).contains i) = true := by kernel_rfl)
  (hQ : ∀ c a w, Q (.panic c) (a.put oi.dst v) w → Q (.panic c) a w := by exact fun _ _ _ h => h) (hw : Region.wanted oi (yielded ops a.tmps) = true := by rfl) (ha : ∀ w, oi.about P w a.eval = none := by exact fun _ => rfl) : AnyS F n P md ops Q (Same Z bs) z (f + 1) l a w :=
 AnyS.take hi hc hQ hw ha hy hS h
end Go.Proofs.Ytgobidmfbjmpkaa.Held
end
