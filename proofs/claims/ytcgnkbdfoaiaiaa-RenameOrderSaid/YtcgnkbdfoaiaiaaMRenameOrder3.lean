/- Texts of this claim, joined: Held, HMin, Pxf45, Pxf29, Pxf30, EItem, Pxf13. -/
import Derived.OrdersIn
import Derived.OwnWalkIn
import Derived.Maps.OwnIn
import Derived.Below
import Derived.RowKit
import Derived.Test.YtcgnkbdfoaiaiaaWMore
import Derived.Test.YtcgnkbdfoaiaiaaMRenameOrder1
import Derived.Lib.Hide
import Derived.Test.YtcgnkbdfoaiaiaaMRenameOrder2
section
/- A region that draws its order, inside a round too: reads are taken first, by a condition S on the world that stands till the operations from z on have come up. -/
set_option linter.unusedVariables false
namespace Go.Proofs.Ytcgnkbdfoaiaiaa.Held
open Go Go.RowKit
/-- No defer statement among them. -/
def noDefer (ops : Array Oper) : Bool := ops.all fun o => match o.op with
  | .defer _ => false
  | _ => true
/-- Whoever stands from z on waits for i. -/
def tied (md : Region.Mode) (ops : Array Oper) (z i : Nat) : Bool := (List.range ops.size).all fun j => decide (j < z) || (match ops[j]? with
  | some o => o.after.any fun e => Region.binds md e && e.on == i
  | none => true)
section
variable {F : Fence} {n : Nat} {P : Program} {ops : Array Oper} {Q : Exit → Act → World → Prop} {md : Region.Mode} {S : World → Prop} {z : Nat}
theorem noDefer_spec (h : noDefer ops = true) {j : Nat} {o : Oper} (ho : ops[j]? = some o) : ∀ c, o.op ≠ .defer c := by
  intro c hc
  have := Array.all_eq_true_iff_forall_mem.1 h o (Array.mem_of_getElem? ho)
  simp [hc] at this
/-- In every world that meets S the operation leaves v, and nothing else; or its guard lets it out. -/
def Gives (P : Program) (ops : Array Oper) (S : World → Prop) (o : Oper) (v : Value) (a : Act) : Prop :=
  (Region.wanted o (yielded ops a.tmps) = true ∧ ∀ w, S w → (execOp a.eval o).run P w = .ok (.value v) w ∧ o.about P w a.eval = none) ∨
  (Region.wanted o (yielded ops a.tmps) = false ∧ v = undef ∧ ∀ w, o.about P w a.eval = none)
theorem Gives.op {i : Nat} {o : Oper} {v : Value} {a : Act} (hn : noDefer ops = true) (hi : ops[i]? = some o) (hy : Gives P ops S o v a) {K : Act → World → Prop} {w : World} (hS : S w) (h : K (a.put o.dst v) w) : wpOpIn F n P ops Q i K a w := by
  unfold wpOpIn
  rcases hy with hy | ⟨hw, rfl, hb⟩
  · simp only [hi, hy.1, if_true, Oper.wpIn]
    refine ⟨fun f hf => ?_, ?_⟩
    · rw [(hy.2 w hS).2] at hf; cases hf
    · rw [Oper.semAt_eq _ _ _ (noDefer_spec hn hi), (hy.2 w hS).1]; exact h
  · simp only [hi, hw, Bool.false_eq_true, if_false]
    exact ⟨fun f hf => (by rw [hb w] at hf; cases hf), h⟩
theorem Gives.same {o : Oper} {v : Value} {a a' : Act} (hy : Gives P ops S o v a) (he : execOp a'.eval o = execOp a.eval o)
    (hw : Region.wanted o (yielded ops a'.tmps) = Region.wanted o (yielded ops a.tmps)) (hb : ∀ w, o.about P w a'.eval = o.about P w a.eval) : Gives P ops S o v a' :=
  hy.imp (fun hy => ⟨hw.trans hy.1, fun w hS => by rw [he, hb w]; exact hy.2 w hS⟩) (fun ⟨h1, h2, h3⟩ => ⟨hw.trans h1, h2, fun w => by rw [hb w]; exact h3 w⟩)
/-- What comes up in between does not mind whether the reading has come up. -/
theorem Gives.past {j : Nat} {oi oj : Oper} {v : Value} (hn : noDefer ops = true) (hj : ops[j]? = some oj) (hap : oi.apart ops oj = true)
    (hsi : ∀ cs b, oi.op ≠ .select cs b) (hsj : ∀ cs b, oj.op ≠ .select cs b)
    (hQ : ∀ c a w, Q (.panic c) (a.put oi.dst v) w → Q (.panic c) a w) {K : Act → World → Prop} {a : Act} {w : World}
    (hy : Gives P ops S oi v a) (h : wpOpIn F n P ops Q j K (a.put oi.dst v) w) : wpOpIn F n P ops Q j (fun a' w' => Gives P ops S oi v a' ∧ K (a'.put oi.dst v) w') a w := by
  obtain ⟨h1, h2, h3⟩ := Oper.apart_spec hap
  have keep : ∀ (a : Act), Gives P ops S oi v a → ∀ u, Gives P ops S oi v (a.put oj.dst u) := fun a hy u =>
    hy.same (execOp_put oi hsi a oj.dst u h3) (wanted_put oi a oj.dst u h3) (fun w => about_put oi w a oj.dst u h3)
  have nd := noDefer_spec hn hj
  unfold wpOpIn at *
  simp only [hj] at *
  rw [wanted_put oj a oi.dst v h1, about_put oj w a oi.dst v h1] at h
  split
  · rename_i hw
    simp only [hw, if_true] at h
    unfold Oper.wpIn at *
    rw [about_put oj w a oi.dst v h1, Oper.semAt_eq _ _ _ nd, execOp_put oj hsj a oi.dst v h1] at h
    rw [Oper.semAt_eq _ _ _ nd]
    refine ⟨h.1, ?_⟩
    replace h := h.2
    generalize (execOp a.eval oj).run P w = r at *
    cases r with
    | ok x w' =>
      cases x <;> simp only [Oper.uponIn] at h ⊢
      case value u => exact ⟨keep a hy u, by rw [← Act.put_comm a v u h2]; exact h⟩
      case skip => exact ⟨keep a hy _, by rw [← Act.put_comm a v undef h2]; exact h⟩
      case defer d =>
        refine ⟨keep { a with defers := d :: a.defers } (hy.same rfl rfl (fun _ => rfl)) _, ?_⟩
        rw [← Act.put_comm _ v undef h2, ← Act.put_defers]
        exact h
      case enter f args =>
        refine ⟨h.1, CallsIn.mono h.2 fun e w'' he => ?_⟩
        cases e with
        | returned u => exact ⟨keep a hy u, by rw [← Act.put_comm a v u h2]; exact he⟩
        | panicked c => exact hQ _ _ _ he
        | outgrown => exact he
      case row row args => exact ⟨h.1, RowsIn.mono h.2 fun u w'' he => ⟨keep a hy u, by rw [← Act.put_comm a v u h2]; exact he⟩⟩
      case round l f tmps assign body =>
        refine ⟨h.1, RoundIn.mono h.2 fun e w'' he => ?_⟩
        cases e with
        | returned u => exact ⟨keep a hy u, by rw [← Act.put_comm a v u h2]; exact he⟩
        | panicked c => exact hQ _ _ _ he
        | outgrown => exact he
    | halt x w' =>
      cases x <;> simp only [Oper.uponIn] at h ⊢
      case panic u => exact hQ _ _ _ h
  · rename_i hw
    simp only [hw] at h
    exact ⟨h.1, keep a hy _, by rw [← Act.put_comm a v undef h2]; exact h.2⟩
/-- Whatever order comes, and S stands behind each operation ahead of z. -/
def AnyS (F : Fence) (n : Nat) (P : Program) (md : Region.Mode) (ops : Array Oper) (Q : Exit → Act → World → Prop) (S : World → Prop) (z : Nat) : Nat → Array Bool → Act → World → Prop
  | 0, l, a, w => Region.ready md ops l = [] ∧ Q .normal a w
  | f + 1, l, a, w => (Region.ready md ops l = [] → Q .normal a w) ∧ ∀ i ∈ Region.ready md ops l, wpOpIn F n P ops Q i (fun a' w' => (i < z → S w') ∧ AnyS F n P md ops Q S z f (l.setIfInBounds i true) a' w') a w
theorem AnyS.any : ∀ (f : Nat) (l : Array Bool) (a : Act) (w : World), AnyS F n P md ops Q S z f l a w → wpAnyIn F n P md ops Q f l a w
  | 0, _, _, _, h => h
  | f + 1, _, _, _, h => ⟨h.1, fun i hi => wpOpIn_mono (fun a' w' h' => AnyS.any f _ a' w' h'.2) (h.2 i hi)⟩
theorem AnyS.first {i : Nat} {oi : Oper} {v : Value} (hn : noDefer ops = true) (hi : ops[i]? = some oi) (hiz : tied md ops z i = true) (hsel : ∀ (j : Nat) (o : Oper) cs b, ops[j]? = some o → o.op ≠ .select cs b)
    (hQ : ∀ c a w, Q (.panic c) (a.put oi.dst v) w → Q (.panic c) a w) :
    ∀ (f : Nat) (l : Array Bool) (a : Act) (w : World),
      (∀ j oj, ops[j]? = some oj → j ≠ i → l.getD j true = false → (∀ e ∈ oj.after, Region.binds md e = true → e.on ≠ i) → oi.apart ops oj = true) →
      i ∈ Region.ready md ops l → Gives P ops S oi v a → S w →
      AnyS F n P md ops Q S z f (l.setIfInBounds i true) (a.put oi.dst v) w → AnyS F n P md ops Q S z (f + 1) l a w := by
  intro f
  induction f with
  | zero =>
    intro l a w _ hr hy hS H
    refine ⟨fun h => (by rw [h] at hr; cases hr), fun j hj => ?_⟩
    by_cases hji : j = i
    · subst hji; exact hy.op hn hi hS ⟨fun _ => hS, H⟩
    · have := ready_mono hj hji
      rw [H.1] at this
      cases this
  | succ f ih =>
    intro l a w hfree hr hy hS H
    refine ⟨fun h => (by rw [h] at hr; cases hr), fun j hj => ?_⟩
    by_cases hji : j = i
    · subst hji; exact hy.op hn hi hS ⟨fun _ => hS, H⟩
    · have h1 := H.2 j (ready_mono hj hji)
      obtain ⟨hjun, oj, hoj, hall⟩ := mem_ready.1 hj
      have hnot : ∀ e ∈ oj.after, Region.binds md e = true → e.on ≠ i := fun e he hb heq => by
        have h1 := hall e he hb
        have h0 := (mem_ready.1 hr).1
        rw [heq] at h1
        rcases Nat.lt_or_ge i l.size with h' | h'
        · simp [h'] at h0 h1; rw [h0] at h1; cases h1
        · simp [Array.getElem?_eq_none h'] at h1
      have hjz : j < z := by
        refine Nat.lt_of_not_le fun e => ?_
        unfold tied at hiz
        rw [List.all_eq_true] at hiz
        have hiz := hiz j (List.mem_range.2 (Array.getElem?_eq_some_iff.1 hoj).1)
        rw [hoj, decide_eq_false (Nat.not_lt.2 e), Bool.false_or] at hiz
        obtain ⟨x, hx, hb⟩ := Array.any_eq_true'.1 hiz
        simp only [Bool.and_eq_true, beq_iff_eq] at hb
        exact hnot x hx hb.1 hb.2
      have h2 := Gives.past hn hoj (hfree j oj hoj hji hjun hnot) (fun cs b => hsel i oi cs b hi) (fun cs b => hsel j oj cs b hoj) hQ hy h1
      have hfree' : ∀ k ok, ops[k]? = some ok → k ≠ i → (l.setIfInBounds j true).getD k true = false →
          (∀ e ∈ ok.after, Region.binds md e = true → e.on ≠ i) → oi.apart ops ok = true := fun k ok hk hki hun hno => by
        refine hfree k ok hk hki ?_ hno
        by_cases hjk : j = k
        · subst hjk; exact hjun
        · rw [getD_set_ne true hjk] at hun; exact hun
      refine wpOpIn_mono (fun a' w' h3 => ⟨h3.2.1, ih (l.setIfInBounds j true) a' w' hfree' (ready_mono hr (Ne.symm hji)) h3.1 (h3.2.1 hjz) ?_⟩) h2
      rw [Array.setIfInBounds_comm _ _ hji]
      exact h3.2.2
theorem at_drop {i : Nat} {o : Oper} {tl : List Oper} (h : ops.toList.drop i = o :: tl) : ops[i]? = some o := by
  rw [← Array.getElem?_toList, ← Nat.add_zero i, ← List.getElem?_drop, h]; rfl
/-- A reading is taken first. -/
theorem AnyS.take {i : Nat} {oi : Oper} {tl : List Oper} {v : Value} {f : Nat} {l : Array Bool} {a : Act} {w : World} (hi : ops.toList.drop i = oi :: tl) (hc : (noDefer ops && Region.noSelect ops && tied md ops z i && Region.free md ops l i && (Region.ready md ops l).contains i) = true)
    (hQ : ∀ c a w, Q (.panic c) (a.put oi.dst v) w → Q (.panic c) a w) (hw : Region.wanted oi (yielded ops a.tmps) = true) (ha : ∀ w, oi.about P w a.eval = none) (hy : ∀ w, S w → (execOp a.eval oi).run P w = .ok (.value v) w) (hS : S w)
    (h : AnyS F n P md ops Q S z f (l.setIfInBounds i true) (a.put oi.dst v) w) : AnyS F n P md ops Q S z (f + 1) l a w := by
  simp only [Bool.and_eq_true] at hc
  obtain ⟨⟨⟨⟨h1, h2⟩, h3⟩, h4⟩, h5⟩ := hc
  have hi' : ops[i]? = some oi := at_drop hi
  exact AnyS.first h1 hi' h3 (Region.noSelect_spec h2) hQ f l a w (Region.free_spec hi' h4) (by simpa using h5) (.inl ⟨hw, fun w hS => ⟨hy w hS, ha w⟩⟩) hS h
/-- A guarded one that is let out. -/
theorem AnyS.skip {i : Nat} {oi : Oper} {tl : List Oper} {f : Nat} {l : Array Bool} {a : Act} {w : World} (hi : ops.toList.drop i = oi :: tl) (hc : (noDefer ops && Region.noSelect ops && tied md ops z i && Region.free md ops l i && (Region.ready md ops l).contains i) = true)
    (hQ : ∀ c a w, Q (.panic c) (a.put oi.dst undef) w → Q (.panic c) a w) (hw : Region.wanted oi (yielded ops a.tmps) = false) (ha : ∀ w, oi.about P w a.eval = none) (hS : S w)
    (h : AnyS F n P md ops Q S z f (l.setIfInBounds i true) (a.put oi.dst undef) w) : AnyS F n P md ops Q S z (f + 1) l a w := by
  simp only [Bool.and_eq_true] at hc
  obtain ⟨⟨⟨⟨h1, h2⟩, h3⟩, h4⟩, h5⟩ := hc
  have hi' : ops[i]? = some oi := at_drop hi
  exact AnyS.first h1 hi' h3 (Region.noSelect_spec h2) hQ f l a w (Region.free_spec hi' h4) (by simpa using h5) (.inr ⟨hw, rfl, ha⟩) hS h
/-- One operation alone may come up. -/
theorem AnyS.step {i : Nat} {o : Oper} {tl : List Oper} {f : Nat} {l : Array Bool} {a : Act} {w : World} (ho : ops.toList.drop i = o :: tl) (hr : Region.ready md ops l = [i]) (hw : Region.wanted o (yielded ops a.tmps) = true)
    (h : ∀ K : Act → World → Prop, Hid (∀ a' w', (i < z → S w') → AnyS F n P md ops Q S z f (l.setIfInBounds i true) a' w' → K a' w') → o.wpIn F n P a w K Q) : AnyS F n P md ops Q S z (f + 1) l a w := by
  refine ⟨fun h0 => absurd (hr ▸ h0) (by simp), fun j hj => ?_⟩
  rw [hr] at hj
  obtain rfl := List.mem_singleton.1 hj
  unfold wpOpIn
  simp only [at_drop ho, hw, if_true]
  exact h _ (fun a' w' h1 h2 => ⟨h1, h2⟩ : Hid _)
/-- One of two may come up. -/
theorem AnyS.step2 {i j : Nat} {o o' : Oper} {tl tl' : List Oper} {f : Nat} {l : Array Bool} {a : Act} {w : World} (ho : ops.toList.drop i = o :: tl) (ho' : ops.toList.drop j = o' :: tl') (hr : Region.ready md ops l = [i, j]) (hw : Region.wanted o (yielded ops a.tmps) = true) (hw' : Region.wanted o' (yielded ops a.tmps) = true)
    (h : ∀ K : Act → World → Prop, Hid (∀ a' w', (i < z → S w') → AnyS F n P md ops Q S z f (l.setIfInBounds i true) a' w' → K a' w') → o.wpIn F n P a w K Q)
    (h' : ∀ K : Act → World → Prop, Hid (∀ a' w', (j < z → S w') → AnyS F n P md ops Q S z f (l.setIfInBounds j true) a' w' → K a' w') → o'.wpIn F n P a w K Q) : AnyS F n P md ops Q S z (f + 1) l a w := by
  refine ⟨fun h0 => absurd (hr ▸ h0) (by simp), fun k hk => ?_⟩
  rw [hr] at hk
  unfold wpOpIn
  rcases List.mem_cons.1 hk with rfl | hk
  · simp only [at_drop ho, hw, if_true]
    exact h _ (fun a' w' h1 h2 => ⟨h1, h2⟩ : Hid _)
  · obtain rfl := List.mem_singleton.1 hk
    simp only [at_drop ho', hw', if_true]
    exact h' _ (fun a' w' h1 h2 => ⟨h1, h2⟩ : Hid _)
theorem AnyS.done {l : Array Bool} {a : Act} {w : World} (hr : Region.ready md ops l = []) (h : Q .normal a w) : ∀ f, AnyS F n P md ops Q S z f l a w
  | 0 => by unfold AnyS; exact ⟨hr, h⟩
  | _ + 1 => ⟨fun _ => h, by rw [hr]; simp⟩
/-- The beginning. -/
theorem region {id : Nat} {a : Act} {w : World} (z : Nat) (S : World → Prop) (hm : P.follows .mixedOrders = true) (h : AnyS F n P .any ops Q S z ops.size (Array.replicate ops.size false) a w.drew) : (Code.region id ops true).wpIn F n P Q a w :=
  wpIn_region_any hm (AnyS.any _ _ _ _ h)
/-- An append as one operation. -/
theorem append_at {P : Program} {w : World} {o : Oper} {a : Act} {K : Act → World → Prop} (s x : Operand) (t : TypeId)
    (ho : o.op = .call { callee := .builtin .append, args := #[s, x], argTypes := #[t, t] })
    (base : Nat) (e : TypeId) (z : Value) (size bytes : Nat) (ht : P.underlying t = some (.slice e)) (hinfo : (P.info? e).map (fun i => (i.zero, i.size, i.bytes)) = some (some z, size, bytes))
    (hzs : z.cells.size = size) (hsz : 0 < size)
    (v : Value) (k : Nat) (xs : List Value) (hs : a.eval s = v) (hown : w.ownsRow base e size v k xs)
    (ad : Addr) (m c : Nat) (news : List Value) (hx : a.eval x = .slice (some ad) m c) (hl : news.length = m * size) (hnews : ∀ j u, news[j]? = some u → w.cell? (ad.add j) = some u) (h1 : ∀ u ∈ news, u.oneCell' = true)
    (h63 : k + m ≤ maxLen) (hbytes : (k + m) * bytes ≤ 140737488355328) (hbase : base ≤ w.heap.size)
    (h : ∀ v' w', w'.ownsRow base e size v' (k + m) (xs ++ news) → w.grownBy w' v.ownBlock → (v'.ownBlock = v.ownBlock ∨ v'.ownBlock = some w.heap.size) → K (a.put o.dst v') w') :
    o.wpIn F n P a w K Q := by
  obtain ⟨i0, hi, hzz⟩ := Option.map_eq_some_iff.1 hinfo
  simp only [Prod.mk.injEq] at hzz
  obtain ⟨hz0, hz1, hz2⟩ := hzz
  obtain ⟨v', w', hr, h2, h3, h4, h5⟩ := run_append_own_at (P := P) w base t o.type e i0 z size bytes ht hi hz0 hz1 hz2 hzs hsz v k xs hown ad m c news hl hnews h1 h63 hbytes hbase
  unfold Oper.wpIn
  refine ⟨by simp [Oper.about, ho, resolve, Target.leads, Sem.run_pure], ?_⟩
  rw [Oper.semAt_eq _ _ _ (by rw [ho]; intro c hc'; cases hc')]
  simp [execOp, ho, resolve, invoke, builtin, hs, hx, hr, Result.andThen]
  exact h v' w' h2 h3 h5
/-- The same, of a slice that may be nil. -/
theorem append_any {P : Program} {w : World} {o : Oper} {a : Act} {K : Act → World → Prop} (s x : Operand) (t : TypeId)
    (ho : o.op = .call { callee := .builtin .append, args := #[s, x], argTypes := #[t, t] })
    (base : Nat) (e : TypeId) (z : Value) (size bytes : Nat) (ht : P.underlying t = some (.slice e)) (hinfo : (P.info? e).map (fun i => (i.zero, i.size, i.bytes)) = some (some z, size, bytes))
    (hzs : z.cells.size = size) (hsz : 0 < size)
    (v : Value) (k : Nat) (xs : List Value) (hs : a.eval s = v) (hown : w.ownsRow base e size v k xs)
    (X : Option Addr) (m c : Nat) (news : List Value) (hx : a.eval x = .slice X m c) (hl : news.length = m * size) (hnews : (X = none ∧ m = 0) ∨ ∃ ad, X = some ad ∧ ∀ j u, news[j]? = some u → w.cell? (ad.add j) = some u) (h1 : ∀ u ∈ news, u.oneCell' = true)
    (h63 : k + m ≤ maxLen) (hbytes : (k + m) * bytes ≤ 140737488355328) (hbase : base ≤ w.heap.size)
    (h : ∀ v' w', w'.ownsRow base e size v' (k + m) (xs ++ news) → w.grownBy w' v.ownBlock → (v'.ownBlock = v.ownBlock ∨ v'.ownBlock = some w.heap.size) → K (a.put o.dst v') w') :
    o.wpIn F n P a w K Q := by
  rcases hnews with ⟨rfl, rfl⟩ | ⟨ad, rfl, hc⟩
  · obtain ⟨i0, hi, hzz⟩ := Option.map_eq_some_iff.1 hinfo
    simp only [Prod.mk.injEq] at hzz
    obtain ⟨hz0, hz1, hz2⟩ := hzz
    obtain rfl : news = [] := List.eq_nil_of_length_eq_zero (by omega)
    have hr : (Builtin.append_ #[t, t] o.type #[v, .slice none 0 c]).run P w = .ok v w := by
      rcases hown.2 with ⟨rfl, hn⟩ | ⟨g, cap, cur, rfl, _, _, hnc, _⟩
      · simp [Builtin.append_, run_underlying ht, sizeOf, typeInfo, hi, Builtin.lenOf, Builtin.firstCells]
      · simp [Builtin.append_, run_underlying ht, sizeOf, typeInfo, hi, Builtin.lenOf, Builtin.firstCells, hnc, storeCells]
    unfold Oper.wpIn
    refine ⟨by simp [Oper.about, ho, resolve, Target.leads, Sem.run_pure], ?_⟩
    rw [Oper.semAt_eq _ _ _ (by rw [ho]; intro c hc'; cases hc')]
    simp [execOp, ho, resolve, invoke, builtin, hs, hx, hr, Result.andThen]
    exact h v w (by simpa using hown) (World.grownBy.refl _ _) (.inl rfl)
  · exact append_at s x t ho base e z size bytes ht hinfo hzs hsz v k xs hs hown ad m c news hx hl hc h1 h63 hbytes hbase h
end
/-- These blocks are as they were. -/
def Same (Z : World) (bs : List Nat) (w : World) : Prop := ∀ b ∈ bs, w.heap[b]? = Z.heap[b]?
theorem Same.refl (Z : World) (bs : List Nat) : Same Z bs Z := fun _ _ => rfl
theorem Same.cell {Z w : World} {bs : List Nat} (h : Same Z bs w) {b o : Nat} {v : Value} (hc : Z.cell? ⟨b, o, none⟩ = some v) (hb : b ∈ bs) : w.cell? ⟨b, o, none⟩ = some v := by
  rw [← hc]
  simp only [World.cell?, h b hb]
theorem Same.below {Z w w' : World} {bs : List Nat} (h : Same Z bs w) (hb : Below w.heap.size w w') (hz : ∀ b ∈ bs, b < Z.heap.size) : Same Z bs w' := fun b hm => by
  have h1 := h b hm
  have : b < w.heap.size := by
    have h2 : Z.heap[b]? = some (Z.heap[b]'(hz b hm)) := Array.getElem?_eq_getElem (hz b hm)
    rw [h2] at h1
    exact (Array.getElem?_eq_some_iff.1 h1).1
  rw [hb.block b this, h1]
theorem Same.grown {Z w w' : World} {bs : List Nat} {row : Option Nat} (h : Same Z bs w) (hg : w.grownBy w' row) (hz : ∀ b ∈ bs, b < Z.heap.size ∧ some b ≠ row) : Same Z bs w' := fun b hm => by
  have h1 := h b hm
  have : b < w.heap.size := by
    have h2 : Z.heap[b]? = some (Z.heap[b]'(hz b hm).1) := Array.getElem?_eq_getElem (hz b hm).1
    rw [h2] at h1
    exact (Array.getElem?_eq_some_iff.1 h1).1
  rw [hg.block b this (hz b hm).2, h1]
theorem Same.cells {Z w : World} {bs : List Nat} (h : Same Z bs w) : ∀ b o, b ∈ bs → w.cell? ⟨b, o, none⟩ = Z.cell? ⟨b, o, none⟩ := fun b o hb => by simp only [World.cell?, h b hb]
/-- A reading is taken first, its side conditions by rote. -/
theorem tk {F : Fence} {n : Nat} {P : Program} {ops : Array Oper} {Q : Exit → Act → World → Prop} {md : Region.Mode} {z : Nat} {Z : World} {bs : List Nat} {i : Nat} {oi : Oper} {tl : List Oper} {v : Value} {f : Nat} {l : Array Bool} {a : Act} {w : World}
    (hi : ops.toList.drop i = oi :: tl) (hS : Same Z bs w) (h : AnyS F n P md ops Q (Same Z bs) z f (l.setIfInBounds i true) (a.put oi.dst v) w)
    (hy : ∀ w, Same Z bs w → (execOp a.eval oi).run P w = .ok (.value v) w := by intro w' hw'; have hc_ := Held.Same.cells hw'; go_simp; try (with_reducible rfl))
    (hc : (noDefer ops && Region.noSelect ops && tied md ops z i && Region.free md ops l i && (Region.ready md ops l).contains i) = true := by kernel_rfl)
    (hQ : ∀ c a w, Q (.panic c) (a.put oi.dst v) w → Q (.panic c) a w := by exact fun _ _ _ h => h) (hw : Region.wanted oi (yielded ops a.tmps) = true := by rfl) (ha : ∀ w, oi.about P w a.eval = none := by exact fun _ => rfl) : AnyS F n P md ops Q (Same Z bs) z (f + 1) l a w :=
  AnyS.take hi hc hQ hw ha hy hS h
end Go.Proofs.Ytcgnkbdfoaiaiaa.Held
end
section
/- Words of this session: min and max of two whole numbers, in the walk under one name. -/
set_option linter.unusedVariables false
namespace Go.Proofs.Ytcgnkbdfoaiaiaa.HMin
open Go Go.Proofs.YtcgnkbdfoaiaiaaW.PrintWords Go.Proofs.YtcgnkbdfoaiaiaaW.PrintMore
theorem min2_mn (k k' : IntKind) (x y : Int) : Builtin.min2 (.int k x) (.int k' y) = pure (.int k (mn x y)) := min2_int k k' x y
theorem max2_mx (k k' : IntKind) (x y : Int) : Builtin.max2 (.int k x) (.int k' y) = pure (.int k (mx x y)) := max2_int k k' x y
end Go.Proofs.Ytcgnkbdfoaiaiaa.HMin
end
section
/- Laid for this claim by hp.py, this session's program round the kit's print: functions of the program as plain Lean functions, the proofs that the code comes to their answers, and the rows of the laws. Not trusted: Lean checks it. -/
namespace Go.Proofs.Ytcgnkbdfoaiaiaa.P
open Go.RowKit Go.Proofs.YtcgnkbdfoaiaiaaW.PrintWords Go.Proofs.YtcgnkbdfoaiaiaaW.PrintLast Go.Proofs.YtcgnkbdfoaiaiaaW.PrintMore
attribute [local go_sem] max2_int min2_int max_two min_two max_three min_three max_four min_four   -- for this text's walks alone
set_option linter.unusedVariables false
set_option linter.unusedSimpArgs false

/-! ### collatorlaw01_pick: function 45 -/
def collatorlaw01_pick.f (a0 : Int) (a1 : Int) : Option (Int) := if a0 < 0 then (if a1 = 0 then (none) else (some (Int.tmod (wrap64 (-(wrap64 (a0 + 1)))) a1))) else (if a1 = 0 then (none) else (some (Int.tmod a0 a1)))
set_option maxHeartbeats 8000000 in
set_option maxRecDepth 100000 in
theorem collatorlaw01_pick.calls (a0 : Int) (a1 : Int) (r : Int) (w : World) (h : collatorlaw01_pick.f a0 a1 = some r) :
  Calls Try.prog 45 #[.int .i64 a0, .int .i64 a1] w fun e w' => e = .returned (.int .i64 r) ∧ Drawn0 w w' := by
 have H : (if a0 < 0 then (if a1 = 0 then (none) else (some (Int.tmod (wrap64 (-(wrap64 (a0 + 1)))) a1))) else (if a1 = 0 then (none) else (some (Int.tmod a0 a1)))) = some r := h
 clear h
 by_cases c3 : a0 < 0
 ·rw [if_pos c3] at H
  have c3b0 : decide (a0 < 0) = true := decide_eq_true c3
  clear c3
  by_cases c4 : a1 = 0
  ·rw [if_pos c4] at H
   exact absurd H (by simp)
  ·rw [if_neg c4] at H
   have c4b0 : (a1 == 0) = false := beq_eq_false_iff_ne.mpr c4
   have c4b1 : (a1 != 0) = true := bne_iff_ne.mpr c4
   obtain rfl := Option.some.inj H
   go_enter Try.func45, Try.ntmps45
   go_wp2
   go_ret
   exact ⟨by first | rfl | (simp; done) | (simp [*]; done), by repeat (first | exact Drawn0.refl _ | apply Drawn0.step)⟩
 ·rw [if_neg c3] at H
  have c3b0 : decide (a0 < 0) = false := decide_eq_false c3
  clear c3
  by_cases c5 : a1 = 0
  ·rw [if_pos c5] at H
   exact absurd H (by simp)
  ·rw [if_neg c5] at H
   have c5b0 : (a1 == 0) = false := beq_eq_false_iff_ne.mpr c5
   have c5b1 : (a1 != 0) = true := bne_iff_ne.mpr c5
   obtain rfl := Option.some.inj H
   go_enter Try.func45, Try.ntmps45
   go_wp2
   go_ret
   exact ⟨by first | rfl | (simp; done) | (simp [*]; done), by repeat (first | exact Drawn0.refl _ | apply Drawn0.step)⟩

end Go.Proofs.Ytcgnkbdfoaiaiaa.P
end
section
/- Laid for this claim by hp.py, this session's program round the kit's print: functions of the program as plain Lean functions, the proofs that the code comes to their answers, and the rows of the laws. Not trusted: Lean checks it. -/
namespace Go.Proofs.Ytcgnkbdfoaiaiaa.P
open Go.RowKit Go.Proofs.YtcgnkbdfoaiaiaaW.PrintWords Go.Proofs.YtcgnkbdfoaiaiaaW.PrintLast Go.Proofs.YtcgnkbdfoaiaiaaW.PrintMore
attribute [local go_sem] max2_int min2_int max_two min_two max_three min_three max_four min_four   -- for this text's walks alone
set_option linter.unusedVariables false
set_option linter.unusedSimpArgs false

/-! ### collatorlaw01_Path: function 29 -/
mutual
def collatorlaw01_Path.l0 : Nat → List Int → List ByteArray → ByteArray → Int → Option (ByteArray)
 | 0, _, _, _, _ => none
 | k + 1, x0, x3, x4, x5 => if x5 < (x0.length : Int) then (collatorlaw01_Path.j1 k x0 x3 x4 x5 (decide (x5 < 8))) else (collatorlaw01_Path.j1 k x0 x3 x4 x5 false)
def collatorlaw01_Path.j1 : Nat → List Int → List ByteArray → ByteArray → Int → Bool → Option (ByteArray)
 | 0, _, _, _, _, _ => none
 | k + 1, x0, x3, x4, x5, x14 => if x14 = true then (if 0 ≤ x5 then (if x5 < (x0.length : Int) then ((collatorlaw01_pick.f (rd x0 x5) 8).bind fun t490 => (if 0 ≤ t490 then (if t490 < (x3.length : Int) then ((collatorref01_Join.f x4 (rdOf ByteArray.empty x3 t490)).bind fun t492 => (collatorlaw01_Path.l0 k x0 x3 t492 (wrap64 (x5 + 1)))) else (none)) else (none))) else (none)) else (none)) else (if x4.toList = ([] : List UInt8) then (some (⟨#[97]⟩ : ByteArray)) else (some x4))
end
def collatorlaw01_Path.f (k : Nat) (l0 : List Int) : Option (ByteArray) := collatorlaw01_Path.l0 k l0 (([(⟨#[97]⟩ : ByteArray), (⟨#[98]⟩ : ByteArray), (⟨#[97, 98]⟩ : ByteArray), (⟨#[97, 33]⟩ : ByteArray), (⟨#[97, 46, 98]⟩ : ByteArray), (⟨#[46, 46, 46]⟩ : ByteArray), (⟨#[90]⟩ : ByteArray), (⟨#[255]⟩ : ByteArray)] : List ByteArray)) (⟨#[]⟩ : ByteArray) 0
theorem collatorlaw01_Path.mono_l : ∀ k, (∀ y0 y1 y2 y3, LeO (collatorlaw01_Path.l0 k y0 y1 y2 y3) (collatorlaw01_Path.l0 (k + 1) y0 y1 y2 y3)) ∧ (∀ y0 y1 y2 y3 y4, LeO (collatorlaw01_Path.j1 k y0 y1 y2 y3 y4) (collatorlaw01_Path.j1 (k + 1) y0 y1 y2 y3 y4))
 | 0 => ⟨fun _ _ _ _ r h => by simp [collatorlaw01_Path.l0] at h, fun _ _ _ _ _ r h => by simp [collatorlaw01_Path.j1] at h⟩
 | k + 1 => by
  obtain ⟨ih0, ih1⟩ := collatorlaw01_Path.mono_l k
  refine ⟨?_, ?_⟩
  ·intro y0 y1 y2 y3
   unfold collatorlaw01_Path.l0
   repeat' first
   | (with_reducible exact ih0 _ _ _ _)
   | (with_reducible exact ih1 _ _ _ _ _)
   | (with_reducible exact LeO.refl _)
   | (with_reducible exact LeO.none _)
   | (with_reducible refine LeO.ite ?_ ?_)
   | (with_reducible refine LeO.bind ?_ (fun _ => ?_))
   | exact ih0 _ _ _ _
   | exact ih1 _ _ _ _ _
   | exact LeO.none _
   | refine LeO.ite ?_ ?_
   | refine LeO.bind ?_ (fun _ => ?_)
  ·intro y0 y1 y2 y3 y4
   unfold collatorlaw01_Path.j1
   repeat' first
   | (with_reducible exact ih0 _ _ _ _)
   | (with_reducible exact ih1 _ _ _ _ _)
   | (with_reducible exact LeO.refl _)
   | (with_reducible exact LeO.none _)
   | (with_reducible refine LeO.ite ?_ ?_)
   | (with_reducible refine LeO.bind ?_ (fun _ => ?_))
   | exact ih0 _ _ _ _
   | exact ih1 _ _ _ _ _
   | exact LeO.none _
   | refine LeO.ite ?_ ?_
   | refine LeO.bind ?_ (fun _ => ?_)
theorem collatorlaw01_Path.mono : ∀ a0 k, LeO (collatorlaw01_Path.f k a0) (collatorlaw01_Path.f (k + 1) a0) := by
 intro a0 k
 obtain ⟨ih0, ih1⟩ := collatorlaw01_Path.mono_l k
 unfold collatorlaw01_Path.f
 repeat' first
   | (with_reducible exact ih0 _ _ _ _)
   | (with_reducible exact ih1 _ _ _ _ _)
   | (with_reducible exact LeO.refl _)
   | (with_reducible exact LeO.none _)
   | (with_reducible refine LeO.ite ?_ ?_)
   | (with_reducible refine LeO.bind ?_ (fun _ => ?_))
   | exact ih0 _ _ _ _
   | exact ih1 _ _ _ _ _
   | exact LeO.none _
   | refine LeO.ite ?_ ?_
   | refine LeO.bind ?_ (fun _ => ?_)
set_option maxHeartbeats 8000000 in
set_option maxRecDepth 100000 in
theorem collatorlaw01_Path.calls (k : Nat) (A0 : Option Addr) (c0 : Nat) (l0 : List Int) (r : ByteArray) (w : World) (hr0 : Kd.C (Kd.int .i64) w A0 l0.length l0) (hc0 : l0.length ≤ c0) (h : collatorlaw01_Path.f k l0 = some r) :
  Calls Try.prog 29 #[.slice A0 l0.length c0] w fun e w' => e = .returned (.string r) ∧ Below w.heap.size w w' := by
 have HR0 := Aside0.mk hr0
 have HC0 := Aside0.mk hc0
 clear hr0 hc0
 have HB := Aside0.mk (Below.refl w.heap.size w)
 have H : (collatorlaw01_Path.l0 k l0 (([(⟨#[97]⟩ : ByteArray), (⟨#[98]⟩ : ByteArray), (⟨#[97, 98]⟩ : ByteArray), (⟨#[97, 33]⟩ : ByteArray), (⟨#[97, 46, 98]⟩ : ByteArray), (⟨#[46, 46, 46]⟩ : ByteArray), (⟨#[90]⟩ : ByteArray), (⟨#[255]⟩ : ByteArray)] : List ByteArray)) (⟨#[]⟩ : ByteArray) 0) = some r := h
 clear h
 obtain ⟨y486, hy486⟩ : ∃ y_ : List ByteArray, y_ = (([(⟨#[97]⟩ : ByteArray), (⟨#[98]⟩ : ByteArray), (⟨#[97, 98]⟩ : ByteArray), (⟨#[97, 33]⟩ : ByteArray), (⟨#[97, 46, 98]⟩ : ByteArray), (⟨#[46, 46, 46]⟩ : ByteArray), (⟨#[90]⟩ : ByteArray), (⟨#[255]⟩ : ByteArray)] : List ByteArray)) := ⟨_, rfl⟩
 replace H : (collatorlaw01_Path.l0 k l0 y486 (⟨#[]⟩ : ByteArray) 0) = some r := by first | (rw [hy486]; with_reducible exact H) | (have H2_ := (Option.bind_some _ _).symm.trans H; rw [hy486]; with_reducible exact H2_) | (have H2_ := (Option.bind_some _ _).symm.trans H; with_reducible exact H2_) | with_reducible exact H | (rw [hy486]; exact H) | exact H
 have Ny486 := Aside0.mk hy486
 clear hy486
 have H' := Aside0.mk H
 clear H
 go_enter Try.func29, Try.ntmps29
 go_wp2_with (first | ((with_reducible refine gate_dst (N := 6) rfl ?_); refine Kd.R_lit Kd.string _ 9 ?hg (N := 6) ?hd (xs := ([(⟨#[97]⟩ : ByteArray), (⟨#[98]⟩ : ByteArray), (⟨#[97, 98]⟩ : ByteArray), (⟨#[97, 33]⟩ : ByteArray), (⟨#[97, 46, 98]⟩ : ByteArray), (⟨#[46, 46, 46]⟩ : ByteArray), (⟨#[90]⟩ : ByteArray), (⟨#[255]⟩ : ByteArray)] : List ByteArray)) (inner := [.string (⟨#[97]⟩ : ByteArray), .string (⟨#[98]⟩ : ByteArray), .string (⟨#[97, 98]⟩ : ByteArray), .string (⟨#[97, 33]⟩ : ByteArray), .string (⟨#[97, 46, 98]⟩ : ByteArray), .string (⟨#[46, 46, 46]⟩ : ByteArray), .string (⟨#[90]⟩ : ByteArray), .string (⟨#[255]⟩ : ByteArray)]) (ok := fun _ => True) (okp := fun _ => True) ?hr ?hp (fun _ hk => hk) trivial (Below.refl _ _) (Nat.le_refl _) (by simp) ?_; (case hd => rfl); (case hg => rfl); (case hr => first | (go_simp; done) | (go_simp; rfl)); (case hp => exact (Reps.one (show Kd.M Kd.string _ _ _ (⟨#[97]⟩ : ByteArray) [.string (⟨#[97]⟩ : ByteArray)] from rfl) (Reps.one (show Kd.M Kd.string _ _ _ (⟨#[98]⟩ : ByteArray) [.string (⟨#[98]⟩ : ByteArray)] from rfl) (Reps.one (show Kd.M Kd.string _ _ _ (⟨#[97, 98]⟩ : ByteArray) [.string (⟨#[97, 98]⟩ : ByteArray)] from rfl) (Reps.one (show Kd.M Kd.string _ _ _ (⟨#[97, 33]⟩ : ByteArray) [.string (⟨#[97, 33]⟩ : ByteArray)] from rfl) (Reps.one (show Kd.M Kd.string _ _ _ (⟨#[97, 46, 98]⟩ : ByteArray) [.string (⟨#[97, 46, 98]⟩ : ByteArray)] from rfl) (Reps.one (show Kd.M Kd.string _ _ _ (⟨#[46, 46, 46]⟩ : ByteArray) [.string (⟨#[46, 46, 46]⟩ : ByteArray)] from rfl) (Reps.one (show Kd.M Kd.string _ _ _ (⟨#[90]⟩ : ByteArray) [.string (⟨#[90]⟩ : ByteArray)] from rfl) (Reps.one (show Kd.M Kd.string _ _ _ (⟨#[255]⟩ : ByteArray) [.string (⟨#[255]⟩ : ByteArray)] from rfl) (Reps.none _ _)))))))))); intro v487 w2 ho3 hb hg_ hnew_; clear hg_ hnew_; (first | rw [← Ny486.out] at ho3 | (simp only [Int.reduceToNat] at ho3; rw [← Ny486.out] at ho3)); have n0_ := Aside0.mk (Kd.R_lower ho3 (below_size (by repeat (first | (with_reducible first | exact HB.out | apply below_alloc | apply pw_below_drewN | apply below_drew1) | exact HB.out)))); have n1_ := Aside0.mk (below_step (by repeat (first | (with_reducible first | exact HB.out | apply below_alloc | apply pw_below_drewN | apply below_drew1) | exact HB.out)) hb); clear HB; have HO488 := n0_; have HB := n1_; clear n0_ n1_; clear hb ho3))
 go_loopg [4, 5] k (fun kq v4 v5 w' => ∃ (x4_1 : ByteArray) (x5_1 : Int), v4 = .string x4_1 ∧ v5 = .int .i64 x5_1 ∧ Aside0 (collatorlaw01_Path.l0 kq l0 y486 x4_1 x5_1 = some r) ∧ Aside0 (kq ≤ k) ∧ Aside0 (Kd.R Kd.string 9 w' w.heap.size (fun _ => True) v487 y486) ∧ Aside0 (Below w.heap.size w w'))
 case atStart => exact ⟨((⟨#[]⟩ : ByteArray)), (0), (by first | rfl | (simp; done) | (simp [bne]; done) | (simp [*]; done)), (by first | rfl | (simp; done) | (simp [bne]; done) | (simp [*]; done)), H', ⟨Nat.le_refl _⟩, ⟨by (with_reducible repeat (first | apply Kd.R_alloc | apply Kd.R_drewN | apply Kd.R_drew)); exact HO488.out⟩, ⟨by repeat (first | (with_reducible first | exact HB.out | apply below_alloc | apply pw_below_drewN | apply below_drew1) | exact HB.out)⟩⟩
 case round =>
  clear H'
  (try clear c2);(try clear p2)
  obtain ⟨x4_1, x5_1, rfl, rfl, HA, HK1, HO_3, HB⟩ := hrel
  cases gk with
  | zero => exact absurd HA.out (by simp [collatorlaw01_Path.l0])
  | succ k1 =>
   have H := HA.out
   clear HA
   simp only [collatorlaw01_Path.l0] at H
   have HC4 := Aside0.mk H
   clear H
   go_upto_region 4 with (fail)
   go_cut [14] (fun v14 wc => ∃ (kq : Nat) (x14_3 : Bool), v14 = .bool x14_3 ∧ Aside0 (collatorlaw01_Path.j1 kq l0 y486 x4_1 x5_1 x14_3 = some r) ∧ Aside0 (kq ≤ k1) ∧ Aside0 (Kd.R Kd.string 9 wc w.heap.size (fun _ => True) v487 y486) ∧ Aside0 (Below w.heap.size w wc))
   case first =>
    have H := HC4.out
    clear HC4
    by_cases c5 : x5_1 < (l0.length : Int)
    ·rw [if_pos c5] at H
     have c5b0 : decide (x5_1 < (l0.length : Int)) = true := decide_eq_true c5
     clear c5
     (first | rw [c5b0] | rw [c5b1] | (simp only [i64_w, i32_w]; rw [c5b0]) | skip)
     have H' := Aside0.mk H
     clear H
     go_wp2
     go_meet
     case rel => exact ⟨_, (decide (x5_1 < 8)), (by first | rfl | (simp; done) | (simp [bne]; done) | (simp [*]; done)), H', ⟨by have := HK1.out; first | omega | exact Nat.le_refl _⟩, ⟨by (with_reducible repeat (first | apply Kd.R_alloc | apply Kd.R_drewN | apply Kd.R_drew)); exact HO_3.out⟩, ⟨by repeat (first | (with_reducible first | exact HB.out | apply below_alloc | apply pw_below_drewN | apply below_drew1) | exact HB.out)⟩⟩
    ·rw [if_neg c5] at H
     have c5b0 : decide (x5_1 < (l0.length : Int)) = false := decide_eq_false c5
     clear c5
     (first | rw [c5b0] | rw [c5b1] | (simp only [i64_w, i32_w]; rw [c5b0]) | skip)
     have H' := Aside0.mk H
     clear H
     go_wp2
     go_meet
     case rel => exact ⟨_, (false), (by first | rfl | (simp; done) | (simp [bne]; done) | (simp [*]; done)), H', ⟨by have := HK1.out; first | omega | exact Nat.le_refl _⟩, ⟨by (with_reducible repeat (first | apply Kd.R_alloc | apply Kd.R_drewN | apply Kd.R_drew)); exact HO_3.out⟩, ⟨by repeat (first | (with_reducible first | exact HB.out | apply below_alloc | apply pw_below_drewN | apply below_drew1) | exact HB.out)⟩⟩
   case rest =>
    clear HC4
    (try clear c2);(try clear p2);(try clear c5);(try clear c5b0);(try clear p2)
    obtain ⟨kq, x14_3, rfl, HA, HJ3, HO_3, HB⟩ := hcut
    cases kq with
    | zero => exact absurd HA.out (by simp [collatorlaw01_Path.j1])
    | succ kj3 =>
     have H := HA.out
     clear HA
     simp only [collatorlaw01_Path.j1] at H
     by_cases c6 : x14_3 = true
     ·subst c6
      have H1 : (if 0 ≤ x5_1 then (if x5_1 < (l0.length : Int) then ((collatorlaw01_pick.f (rd l0 x5_1) 8).bind fun t490 => (if 0 ≤ t490 then (if t490 < (y486.length : Int) then ((collatorref01_Join.f x4_1 (rdOf ByteArray.empty y486 t490)).bind fun t492 => (collatorlaw01_Path.l0 kj3 l0 y486 t492 (wrap64 (x5_1 + 1)))) else (none)) else (none))) else (none)) else (none)) = some r := by rw [if_pos rfl] at H; exact H
      clear H
      have H := H1
      clear H1
      by_cases c7 : 0 ≤ x5_1
      ·rw [if_pos c7] at H
       have c7b0 : decide (0 ≤ x5_1) = true := decide_eq_true c7
       clear c7
       by_cases c8 : x5_1 < (l0.length : Int)
       ·rw [if_pos c8] at H
        have c8b0 : decide (x5_1 < (l0.length : Int)) = true := decide_eq_true c8
        clear c8
        replace H := Option.bind_eq_some_iff.mp H
        obtain ⟨t490, A90, H⟩ := H
        replace H : (if 0 ≤ t490 then (if t490 < (y486.length : Int) then ((collatorref01_Join.f x4_1 (rdOf ByteArray.empty y486 t490)).bind fun t492 => (collatorlaw01_Path.l0 kj3 l0 y486 t492 (wrap64 (x5_1 + 1)))) else (none)) else (none)) = some r := H
        have A9 := Aside0.mk A90
        clear A90
        by_cases c10 : 0 ≤ t490
        ·rw [if_pos c10] at H
         have c10b0 : decide (0 ≤ t490) = true := decide_eq_true c10
         clear c10
         by_cases c11 : t490 < (y486.length : Int)
         ·rw [if_pos c11] at H
          have c11b0 : decide (t490 < (y486.length : Int)) = true := decide_eq_true c11
          clear c11
          replace H := Option.bind_eq_some_iff.mp H
          obtain ⟨t492, A120, H⟩ := H
          replace H : (collatorlaw01_Path.l0 kj3 l0 y486 t492 (wrap64 (x5_1 + 1))) = some r := H
          have A12 := Aside0.mk A120
          clear A120
          have H' := Aside0.mk H
          clear H
          have p489 : 0 ≤ (x5_1 : Int) := of_decide_eq_true (by first | (with_reducible assumption) | assumption)
          have q489 : x5_1 < (l0.length : Int) := of_decide_eq_true (by first | (with_reducible assumption) | assumption)
          obtain ⟨ad489, e489, hx489_0⟩ := Kd.at_int HR0.out x5_1 p489 q489
          cases e489
          replace hx489_0 := (HB.out.cell (World.block_lt_of_cell? w _ hx489_0)).trans hx489_0
          replace p489 := eq_true p489
          replace q489 := eq_true q489
          go_wp2_with (first | ((with_reducible refine gate_callee (f := 45) rfl ?_); refine goesL_ _ rfl rfl Try.func45 (by kernel_rfl) rfl #[.int .i64 (rd l0 x5_1), .int .i64 8] rfl (by (try simp only [List.map_toArray, List.map_cons, List.map_nil]); first | done | rfl | (simp only [List.length_drop, List.length_take]; rfl)) ?_; (with_reducible refine (collatorlaw01_pick.calls (rd l0 x5_1) 8 t490 _ A9.out).mono ?_); rintro e w' ⟨rfl, ⟨nd, rfl⟩⟩; refine ⟨_, rfl, ?_⟩; (try (obtain ⟨Ao13, co13, eo13⟩ := Kd.R_slice HO_3.out; subst eo13)); have p491 : 0 ≤ (t490 : Int) := of_decide_eq_true (by first | (with_reducible assumption) | assumption); have q491 : t490 < (y486.length : Int) := of_decide_eq_true (by first | (with_reducible assumption) | assumption); obtain ⟨ad491, e491, hx491_0⟩ := Kd.at_string (Kd.R_reads' HO_3.out).2.2 t490 p491 q491; cases e491; replace p491 := eq_true p491; replace q491 := eq_true q491) | ((with_reducible refine gate_callee (f := 25) rfl ?_); refine goesL_ _ rfl rfl Try.func25 (by kernel_rfl) rfl #[.string x4_1, .string (rdOf ByteArray.empty y486 t490)] rfl (by (try simp only [List.map_toArray, List.map_cons, List.map_nil]); first | done | rfl | (simp only [List.length_drop, List.length_take]; rfl)) ?_; (with_reducible refine (collatorref01_Join.calls x4_1 (rdOf ByteArray.empty y486 t490) t492 _ A12.out).mono ?_); rintro e w' ⟨rfl, ⟨nd, rfl⟩⟩; refine ⟨_, rfl, ?_⟩))
          go_roundg kj3
          case measure => have := HK1.out; have := HJ3.out; omega
          case rel => exact ⟨(t492), (wrap64 (x5_1 + 1)), (by first | rfl | (simp; done) | (simp [bne]; done) | (simp [*]; done)), (by first | rfl | (simp; done) | (simp [bne]; done) | (simp [*]; done)), H', ⟨by have := HK1.out; have := HJ3.out; omega⟩, ⟨by (with_reducible repeat (first | apply Kd.R_alloc | apply Kd.R_drewN | apply Kd.R_drew)); exact HO_3.out⟩, ⟨by repeat (first | (with_reducible first | exact HB.out | apply below_alloc | apply pw_below_drewN | apply below_drew1) | exact HB.out)⟩⟩
         ·rw [if_neg c11] at H
          exact absurd H (by simp)
        ·rw [if_neg c10] at H
         exact absurd H (by simp)
       ·rw [if_neg c8] at H
        exact absurd H (by simp)
      ·rw [if_neg c7] at H
       exact absurd H (by simp)
     ·replace c6 := Bool.eq_false_iff.mpr c6
      subst c6
      have H1 : (if x4_1.toList = ([] : List UInt8) then (some (⟨#[97]⟩ : ByteArray)) else (some x4_1)) = some r := by rw [if_neg (show ¬ (false = true) by decide)] at H; exact H
      clear H
      have H := H1
      clear H1
      by_cases c14 : x4_1.toList = ([] : List UInt8)
      ·rw [if_pos c14] at H
       have c14b0 : (x4_1.toList == ([] : List UInt8)) = true := beq_iff_eq.mpr c14
       have c14b1 : (x4_1.toList != ([] : List UInt8)) = false := bne_eq_false_iff_eq.mpr c14
       clear c14
       obtain rfl := Option.some.inj H
       go_wp2
       go_ret
       exact ⟨by first | rfl | (simp [errW_none, errW_some] <;> rfl) | (simp [bne]; done) | (simp [*, errW_none, errW_some] <;> rfl), by repeat (first | (with_reducible first | exact HB.out | apply below_alloc | apply pw_below_drewN | apply below_drew1) | exact HB.out)⟩
      ·rw [if_neg c14] at H
       have c14b0 : (x4_1.toList == ([] : List UInt8)) = false := beq_eq_false_iff_ne.mpr c14
       have c14b1 : (x4_1.toList != ([] : List UInt8)) = true := bne_iff_ne.mpr c14
       obtain rfl := Option.some.inj H
       go_wp2
       go_ret
       exact ⟨by first | rfl | (simp [errW_none, errW_some] <;> rfl) | (simp [bne]; done) | (simp [*, errW_none, errW_some] <;> rfl), by repeat (first | (with_reducible first | exact HB.out | apply below_alloc | apply pw_below_drewN | apply below_drew1) | exact HB.out)⟩

end Go.Proofs.Ytcgnkbdfoaiaiaa.P
end
section
/- Laid for this claim by hp.py, this session's program round the kit's print: functions of the program as plain Lean functions, the proofs that the code comes to their answers, and the rows of the laws. Not trusted: Lean checks it. -/
namespace Go.Proofs.Ytcgnkbdfoaiaiaa.P
open Go.RowKit Go.Proofs.YtcgnkbdfoaiaiaaW.PrintWords Go.Proofs.YtcgnkbdfoaiaiaaW.PrintLast Go.Proofs.YtcgnkbdfoaiaiaaW.PrintMore
attribute [local go_sem] max2_int min2_int max_two min_two max_three min_three max_four min_four   -- for this text's walks alone
set_option linter.unusedVariables false
set_option linter.unusedSimpArgs false

/-! ### collatorlaw02_pick: function 30 -/
def collatorlaw02_pick.f (a0 : Int) (a1 : Int) : Option (Int) := if a0 < 0 then (if a1 = 0 then (none) else (some (Int.tmod (wrap64 (-(wrap64 (a0 + 1)))) a1))) else (if a1 = 0 then (none) else (some (Int.tmod a0 a1)))
set_option maxHeartbeats 8000000 in
set_option maxRecDepth 100000 in
theorem collatorlaw02_pick.calls (a0 : Int) (a1 : Int) (r : Int) (w : World) (h : collatorlaw02_pick.f a0 a1 = some r) :
  Calls Try.prog 30 #[.int .i64 a0, .int .i64 a1] w fun e w' => e = .returned (.int .i64 r) ∧ Drawn0 w w' := by
 have H : (if a0 < 0 then (if a1 = 0 then (none) else (some (Int.tmod (wrap64 (-(wrap64 (a0 + 1)))) a1))) else (if a1 = 0 then (none) else (some (Int.tmod a0 a1)))) = some r := h
 clear h
 by_cases c3 : a0 < 0
 ·rw [if_pos c3] at H
  have c3b0 : decide (a0 < 0) = true := decide_eq_true c3
  clear c3
  by_cases c4 : a1 = 0
  ·rw [if_pos c4] at H
   exact absurd H (by simp)
  ·rw [if_neg c4] at H
   have c4b0 : (a1 == 0) = false := beq_eq_false_iff_ne.mpr c4
   have c4b1 : (a1 != 0) = true := bne_iff_ne.mpr c4
   obtain rfl := Option.some.inj H
   go_enter Try.func30, Try.ntmps30
   go_wp2
   go_ret
   exact ⟨by first | rfl | (simp; done) | (simp [*]; done), by repeat (first | exact Drawn0.refl _ | apply Drawn0.step)⟩
 ·rw [if_neg c3] at H
  have c3b0 : decide (a0 < 0) = false := decide_eq_false c3
  clear c3
  by_cases c5 : a1 = 0
  ·rw [if_pos c5] at H
   exact absurd H (by simp)
  ·rw [if_neg c5] at H
   have c5b0 : (a1 == 0) = false := beq_eq_false_iff_ne.mpr c5
   have c5b1 : (a1 != 0) = true := bne_iff_ne.mpr c5
   obtain rfl := Option.some.inj H
   go_enter Try.func30, Try.ntmps30
   go_wp2
   go_ret
   exact ⟨by first | rfl | (simp; done) | (simp [*]; done), by repeat (first | exact Drawn0.refl _ | apply Drawn0.step)⟩

end Go.Proofs.Ytcgnkbdfoaiaiaa.P
end
section
/- The raw item made an item: collatorlaw02.Item, by hand. -/
set_option linter.unusedVariables false
set_option linter.unusedSimpArgs false
namespace Go.Proofs.Ytcgnkbdfoaiaiaa.P
open Go Go.RowKit Go.Proofs.YtcgnkbdfoaiaiaaW.PrintWords Go.Proofs.YtcgnkbdfoaiaiaaW.PrintLast Go.Proofs.YtcgnkbdfoaiaiaaW.PrintMore
def collatorlaw02_Item.f (k : Nat) (l0_0 : List Int) (a0_1 : Int) (a0_2 : ByteArray) (a0_3 : Int) : Option (ByteArray × Int × ByteArray × Bool) := (collatorlaw01_Path.f k l0_0).bind fun t131 => ((collatorlaw02_pick.f a0_1 3).bind fun t132 => ((collatorlaw02_pick.f a0_3 12).bind fun t133 => some (t131, wrap64 (1 + t132), (if wrap64 (1 + t132) = 1 then (⟨#[]⟩ : ByteArray) else a0_2.extract 0 ((mn (a0_2.size : Int) 60) : Int).toNat), (t133 == 0))))
theorem collatorlaw02_Item.mono : ∀ a0 a1 a2 a3 k, LeO (collatorlaw02_Item.f k a0 a1 a2 a3) (collatorlaw02_Item.f (k + 1) a0 a1 a2 a3) := by
  intro a0 a1 a2 a3 k
  unfold collatorlaw02_Item.f
  refine LeO.bind (collatorlaw01_Path.mono _ _) (fun _ => LeO.refl _)
theorem set_blk {w : World} {b : Nat} {cs : Array Value} {t : TypeId} (h : w.heap[b]? = some (.cells cs t (0, 0))) (j : Nat) (v : Value) : (w.setCell ⟨b, j, none⟩ v).heap[b]? = some (.cells (cs.setIfInBounds j v) t (0, 0)) := blk_set h j v
theorem set_blk_ne {w : World} {b c : Nat} (h : c ≠ b) (j : Nat) (v : Value) : (w.setCell ⟨b, j, none⟩ v).heap[c]? = w.heap[c]? := Below.heap_setCell w ⟨b, j, none⟩ v c h
theorem set4 {w : World} {b : Nat} {a0 a1 a2 a3 : Value} {t : TypeId} (h : w.heap[b]? = some (.cells #[a0, a1, a2, a3] t (0, 0))) (v0 v1 v2 v3 : Value) : ∃ w', (((w.setCell ⟨b, 0, none⟩ v0).setCell ⟨b, 1, none⟩ v1).setCell ⟨b, 2, none⟩ v2).setCell ⟨b, 3, none⟩ v3 = w' ∧ w'.heap[b]? = some (.cells #[v0, v1, v2, v3] t (0, 0)) ∧ (∀ c, c ≠ b → w'.heap[c]? = w.heap[c]?) ∧ ∀ (W : World), Below W.heap.size W w → W.heap.size ≤ b → Below W.heap.size W w' :=
  ⟨_, rfl, set_blk (set_blk (set_blk (set_blk h 0 v0) 1 v1) 2 v2) 3 v3, fun c hc => by rw [set_blk_ne hc, set_blk_ne hc, set_blk_ne hc, set_blk_ne hc], fun W hW hb => below_set (below_set (below_set (below_set hW hb) hb) hb) hb⟩
theorem set1 {w : World} {b : Nat} {a0 a1 a2 a3 : Value} {t : TypeId} (h : w.heap[b]? = some (.cells #[a0, a1, a2, a3] t (0, 0))) (v : Value) : ∃ w', w.setCell ⟨b, 2, none⟩ v = w' ∧ w'.heap[b]? = some (.cells #[a0, a1, v, a3] t (0, 0)) ∧ (∀ c, c ≠ b → w'.heap[c]? = w.heap[c]?) ∧ ∀ (W : World), Below W.heap.size W w → W.heap.size ≤ b → Below W.heap.size W w' :=
  ⟨_, rfl, set_blk h 2 v, fun c hc => set_blk_ne hc _ _, fun W hW hb => below_set hW hb⟩
section
attribute [local go_sem] HMin.max2_mx HMin.min2_mn max_two min_two
set_option maxHeartbeats 8000000 in
set_option maxRecDepth 100000 in
theorem item_run (k : Nat) (A : Option Addr) (c : Nat) (l : List Int) (x : Int) (s : ByteArray) (y : Int) (p : ByteArray) (t u : Int) (W : World) (hr : Kd.C (Kd.int .i64) W A l.length l) (hc : l.length ≤ c)
    (hp : collatorlaw01_Path.f k l = some p) (ht : collatorlaw02_pick.f x 3 = some t) (hu : collatorlaw02_pick.f y 12 = some u) :
    Calls Try.prog 14 #[.agg #[.slice A l.length c, .int .i64 x, .string s, .int .i64 y]] W fun e w' => e = .returned (.agg #[.string p, .int .i64 (wrap64 (1 + t)), .string (if wrap64 (1 + t) = 1 then (⟨#[]⟩ : ByteArray) else s.extract 0 ((mn (s.size : Int) 60) : Int).toNat), .bool (u == 0)]) ∧ Below W.heap.size W w' := by
  obtain ⟨q0, hq0⟩ : ∃ q0, wrap64 (1 + t) = q0 := ⟨_, rfl⟩
  rw [hq0]
  obtain ⟨an, han⟩ : ∃ an, (if q0 = 1 then (⟨#[]⟩ : ByteArray) else s.extract 0 ((mn (s.size : Int) 60) : Int).toNat) = an := ⟨_, rfl⟩
  rw [han]
  have HAN := Lib.hid han
  have HQ0 := Lib.hid hq0
  clear han hq0
  obtain ⟨rb, hrb⟩ : ∃ rb, W.heap.size + 1 = rb := ⟨_, rfl⟩
  obtain ⟨X, hX⟩ : ∃ X, X = (W.alloc (.cells #[.slice A l.length c, .int .i64 x, .string s, .int .i64 y] 41)).alloc (.cells #[.string (⟨#[]⟩ : ByteArray), .int .i64 0, .string (⟨#[]⟩ : ByteArray), .bool false] 33) := ⟨_, rfl⟩
  have q0 : X.heap[W.heap.size]? = some (.cells #[.slice A l.length c, .int .i64 x, .string s, .int .i64 y] 41 (0, 0)) := by rw [hX]; exact ((World.grownBy_alloc _ _ none).block _ (by simp) (by simp)).trans (heap_alloc_new W _)
  have q1 : X.heap[rb]? = some (.cells #[.string (⟨#[]⟩ : ByteArray), .int .i64 0, .string (⟨#[]⟩ : ByteArray), .bool false] 33 (0, 0)) := by
    rw [hX, ← hrb]
    have := heap_alloc_new (W.alloc (.cells #[.slice A l.length c, .int .i64 x, .string s, .int .i64 y] 41)) (.cells #[.string (⟨#[]⟩ : ByteArray), .int .i64 0, .string (⟨#[]⟩ : ByteArray), .bool false] 33)
    simpa using this
  obtain ⟨Z, hZ⟩ : ∃ Z, Z = X.drew := ⟨_, rfl⟩
  have HZX := Lib.hid hZ
  have qz0 : Z.heap[W.heap.size]? = some (.cells #[.slice A l.length c, .int .i64 x, .string s, .int .i64 y] 41 (0, 0)) := by rw [hZ]; exact q0
  have qz1 : Z.heap[rb]? = some (.cells #[.string (⟨#[]⟩ : ByteArray), .int .i64 0, .string (⟨#[]⟩ : ByteArray), .bool false] 33 (0, 0)) := by rw [hZ]; exact q1
  have m00 : Z.cell? ⟨W.heap.size, 0, none⟩ = some (.slice A l.length c) := by simp [World.cell?, qz0]
  have m01 : Z.cell? ⟨W.heap.size, 1, none⟩ = some (.int .i64 x) := by simp [World.cell?, qz0]
  have m02 : Z.cell? ⟨W.heap.size, 2, none⟩ = some (.string s) := by simp [World.cell?, qz0]
  have m03 : Z.cell? ⟨W.heap.size, 3, none⟩ = some (.int .i64 y) := by simp [World.cell?, qz0]
  have HZ8 := Lib.hid (show ∀ b ∈ [W.heap.size, rb], b < Z.heap.size by intro b hb; simp at hb; rcases hb with rfl | rfl; exact blk_lt qz0; exact blk_lt qz1)
  have hBX : Below W.heap.size W X := by rw [hX]; exact below_alloc (below_alloc (Below.refl _ _) _) _
  have HB0 := Lib.hid (show Below W.heap.size W Z by rw [hZ]; exact below_drew1 hBX)
  have HR := Lib.hid hr
  have HQ := Lib.hid qz1
  have HX := Lib.hid hX
  have HP := Lib.hid hp
  have HT := Lib.hid ht
  have HU := Lib.hid hu
  have HC := Lib.hid hc
  obtain ⟨m, hm⟩ : ∃ m, mn (s.size : Int) 60 = m := ⟨_, rfl⟩
  have hm0 : (0 ≤ m) = True := eq_true (by rw [← hm]; unfold mn; (repeat' split) <;> omega)
  have hm1 : (m ≤ (s.size : Int)) = True := eq_true (by rw [← hm]; unfold mn; (repeat' split) <;> omega)
  have hm_ : (if 60 < (s.size : Int) then 60 else (s.size : Int)) = m := hm
  have HMM := Lib.hid hm
  clear hX hZ q0 q1 qz0 qz1 hr hc hp ht hu hBX
  go_enter Try.func14, Try.ntmps14
  go_wp2_with (first | rw [← HX.out])
  rename_i Q0 K0 hEND
  try rw [hrb]
  have HRB := Lib.hid hrb
  clear hrb
  refine (wpIn_wide (n := 9)).1 ?_
  refine Held.region 20 (Held.Same Z [W.heap.size, rb]) (by kernel_rfl) ?_
  first | rw [← HZX.out] | rw [← HX.out, ← HZX.out]
  have hT := Held.Same.refl Z [W.heap.size, rb]
  refine Held.tk (i := 0) rfl hT ?_
  try simp only [Act.put, List.setIfInBounds_toArray, List.set_cons_zero, List.set_cons_succ]
  refine Held.tk (i := 1) rfl hT ?_
  try simp only [Act.put, List.setIfInBounds_toArray, List.set_cons_zero, List.set_cons_succ]
  refine Held.tk (i := 3) rfl hT ?_
  try simp only [Act.put, List.setIfInBounds_toArray, List.set_cons_zero, List.set_cons_succ]
  refine Held.tk (i := 4) rfl hT ?_
  try simp only [Act.put, List.setIfInBounds_toArray, List.set_cons_zero, List.set_cons_succ]
  refine Held.tk (i := 7) rfl hT ?_
  try simp only [Act.put, List.setIfInBounds_toArray, List.set_cons_zero, List.set_cons_succ]
  refine Held.tk (i := 8) rfl hT ?_
  try simp only [Act.put, List.setIfInBounds_toArray, List.set_cons_zero, List.set_cons_succ]
  refine Held.tk (i := 9) rfl hT ?_
  try simp only [Act.put, List.setIfInBounds_toArray, List.set_cons_zero, List.set_cons_succ]
  refine Held.tk (i := 10) rfl hT ?_
  try simp only [Act.put, List.setIfInBounds_toArray, List.set_cons_zero, List.set_cons_succ]
  refine Held.tk (i := 11) rfl hT ?_
  try simp only [Act.put, List.setIfInBounds_toArray, List.set_cons_zero, List.set_cons_succ]
  refine Held.tk (i := 12) rfl hT ?_
  try simp only [Act.put, List.setIfInBounds_toArray, List.set_cons_zero, List.set_cons_succ]
  refine Held.tk (i := 13) rfl hT ?_
  try simp only [Act.put, List.setIfInBounds_toArray, List.set_cons_zero, List.set_cons_succ]
  refine Held.tk (i := 14) rfl hT ?_
  try simp only [Act.put, List.setIfInBounds_toArray, List.set_cons_zero, List.set_cons_succ]
  refine Held.tk (i := 15) rfl hT ?_
  try simp only [Act.put, List.setIfInBounds_toArray, List.set_cons_zero, List.set_cons_succ]
  -- STEPS
  have hT0 := hT
  refine Held.AnyS.step2 (i := 2) (j := 19) rfl rfl (by kernel_rfl) rfl rfl (fun K hK => ?_) (fun K hK => ?_)
  · go_simp
    first | refine ⟨trivial, ?_⟩ | skip
    refine (callsIn_wide.2 (collatorlaw01_Path.calls k A c l p Z (Kd.C_below HR.out HB0.out) HC.out HP.out)).mono ?_
    rintro e w1 ⟨rfl, hb⟩
    have HB1 := Lib.hid (below_step HB0.out hb)
    have hT1 : Held.Same Z [W.heap.size, rb] w1 := Held.Same.below hT0 hb HZ8.out
    have hk := Lib.hid hb
    refine hK.out _ _ (fun _ => hT1) ?_
    clear hK K hb
    try simp only [Act.put, List.setIfInBounds_toArray, List.set_cons_zero, List.set_cons_succ]
    clear hk
    refine Held.AnyS.step2 (i := 5) (j := 19) rfl rfl (by kernel_rfl) rfl rfl (fun K hK => ?_) (fun K hK => ?_)
    · go_simp
      first | refine ⟨trivial, ?_⟩ | skip
      refine (callsIn_wide.2 (collatorlaw02_pick.calls x 3 t w1 HT.out)).mono ?_
      rintro e w2 ⟨rfl, hb⟩
      have hb := hb.below
      have HB2 := Lib.hid (below_step HB1.out hb)
      have hT2 : Held.Same Z [W.heap.size, rb] w2 := Held.Same.below hT1 hb HZ8.out
      have hk := Lib.hid hb
      refine hK.out _ _ (fun _ => hT2) ?_
      clear hK K hb
      try simp only [Act.put, List.setIfInBounds_toArray, List.set_cons_zero, List.set_cons_succ]
      clear hk
      refine Held.tk (i := 6) rfl hT2 ?_
      try simp only [Act.put, List.setIfInBounds_toArray, List.set_cons_zero, List.set_cons_succ]
      generalize hq : IntKind.i64.wrap (1 + t) = q
      have HQQ := Lib.hid hq
      clear hq
      refine Held.AnyS.step2 (i := 16) (j := 19) rfl rfl (by kernel_rfl) rfl rfl (fun K hK => ?_) (fun K hK => ?_)
      · go_simp
        first | refine ⟨trivial, ?_⟩ | skip
        refine (callsIn_wide.2 (collatorlaw02_pick.calls y 12 u w2 HU.out)).mono ?_
        rintro e w3 ⟨rfl, hb⟩
        have hb := hb.below
        have HB3 := Lib.hid (below_step HB2.out hb)
        have hT3 : Held.Same Z [W.heap.size, rb] w3 := Held.Same.below hT2 hb HZ8.out
        have hk := Lib.hid hb
        refine hK.out _ _ (fun _ => hT3) ?_
        clear hK K hb
        try simp only [Act.put, List.setIfInBounds_toArray, List.set_cons_zero, List.set_cons_succ]
        clear hk
        refine Held.tk (i := 17) rfl hT3 ?_
        try simp only [Act.put, List.setIfInBounds_toArray, List.set_cons_zero, List.set_cons_succ]
        refine Held.tk (i := 18) rfl hT3 ?_
        try simp only [Act.put, List.setIfInBounds_toArray, List.set_cons_zero, List.set_cons_succ]
        refine Held.AnyS.step (i := 19) rfl (by kernel_rfl) rfl (fun K hK => ?_)
        go_simp
        first | refine ⟨trivial, ?_⟩ | skip
        obtain ⟨w4, hw⟩ : ∃ V, V = w3.alloc (.cells #[.string (⟨#[]⟩ : ByteArray), .int .i64 0, .string (⟨#[]⟩ : ByteArray), .bool false] 33) := ⟨_, rfl⟩
        have HK := Lib.hid (show w4.heap[w3.heap.size]? = some (.cells #[.string (⟨#[]⟩ : ByteArray), .int .i64 0, .string (⟨#[]⟩ : ByteArray), .bool false] 33 (0, 0)) by rw [hw]; exact heap_alloc_new w3 _)
        have HG := Lib.hid (below_size HB3.out)
        have HB4 := Lib.hid (show Below W.heap.size W w4 by rw [hw]; exact below_alloc HB3.out _)
        have hT4 : Held.Same Z [W.heap.size, rb] w4 := Held.Same.grown hT3 (by rw [hw]; exact World.grownBy_alloc _ _ none) (fun b hb => ⟨HZ8.out b hb, by simp⟩)
        try rw [← hw]
        refine hK.out _ _ (fun _ => hT4) ?_
        clear hK K
        have HN := Lib.hid (show w3.heap.size ≠ rb by have := blk_lt ((hT3 rb (by simp)).trans HQ.out); omega)
        generalize w3.heap.size = b at HK HG HN ⊢
        clear hw
        try simp only [Act.put, List.setIfInBounds_toArray, List.set_cons_zero, List.set_cons_succ]
        refine Held.AnyS.step (i := 20) rfl (by kernel_rfl) rfl (fun K hK => ?_)
        have g0 : w4.cell? ⟨b, 0, none⟩ = some (#[.string (⟨#[]⟩ : ByteArray), .int .i64 0, .string (⟨#[]⟩ : ByteArray), .bool false][0]) := (blk_cell HK.out 0).trans rfl
        have g1 : w4.cell? ⟨b, 1, none⟩ = some (#[.string (⟨#[]⟩ : ByteArray), .int .i64 0, .string (⟨#[]⟩ : ByteArray), .bool false][1]) := (blk_cell HK.out 1).trans rfl
        have g2 : w4.cell? ⟨b, 2, none⟩ = some (#[.string (⟨#[]⟩ : ByteArray), .int .i64 0, .string (⟨#[]⟩ : ByteArray), .bool false][2]) := (blk_cell HK.out 2).trans rfl
        have g3 : w4.cell? ⟨b, 3, none⟩ = some (#[.string (⟨#[]⟩ : ByteArray), .int .i64 0, .string (⟨#[]⟩ : ByteArray), .bool false][3]) := (blk_cell HK.out 3).trans rfl
        have e0 : w4.frozen? ⟨b, 0, none⟩ = false := by simp [World.frozen?, HK.out]
        have e1 : w4.frozen? ⟨b, 1, none⟩ = false := by simp [World.frozen?, HK.out]
        have e2 : w4.frozen? ⟨b, 2, none⟩ = false := by simp [World.frozen?, HK.out]
        have e3 : w4.frozen? ⟨b, 3, none⟩ = false := by simp [World.frozen?, HK.out]
        have HQ1 := Lib.hid ((hT4 rb (by simp)).trans HQ.out)
        clear hT0 hT
        clear hT1
        clear hT2
        clear hT3
        clear hT4
        go_simp
        clear g0 g1 g2 g3 e0 e1 e2 e3
        obtain ⟨V, hV, kb, ko, kB⟩ := set4 HK.out (.string p) (.int .i64 (q)) (.string (s.extract 0 m.toNat)) (.bool (u == 0))
        rw [hV]
        have HV := Lib.hid (kB _ HB4.out HG.out)
        have HQ2 := Lib.hid ((ko _ (Ne.symm HN.out)).trans HQ1.out)
        have HKb := Lib.hid kb
        refine hK.out _ _ (fun h => absurd h (by omega)) ?_
        clear hK K hV kB ko kb
        refine Held.AnyS.done (by kernel_rfl) ?_ _
        go_simp
        by_cases hc1 : q = 1
        · have HC1 := Lib.hid hc1
          have g0 : V.cell? ⟨b, 0, none⟩ = some (#[.string p, .int .i64 (q), .string (s.extract 0 m.toNat), .bool (u == 0)][0]) := (blk_cell HKb.out 0).trans rfl
          have gf0 : V.frozen? ⟨b, 0, none⟩ = false := by simp [World.frozen?, HKb.out]
          have g1 : V.cell? ⟨b, 1, none⟩ = some (#[.string p, .int .i64 (q), .string (s.extract 0 m.toNat), .bool (u == 0)][1]) := (blk_cell HKb.out 1).trans rfl
          have gf1 : V.frozen? ⟨b, 1, none⟩ = false := by simp [World.frozen?, HKb.out]
          have g2 : V.cell? ⟨b, 2, none⟩ = some (#[.string p, .int .i64 (q), .string (s.extract 0 m.toNat), .bool (u == 0)][2]) := (blk_cell HKb.out 2).trans rfl
          have gf2 : V.frozen? ⟨b, 2, none⟩ = false := by simp [World.frozen?, HKb.out]
          have g3 : V.cell? ⟨b, 3, none⟩ = some (#[.string p, .int .i64 (q), .string (s.extract 0 m.toNat), .bool (u == 0)][3]) := (blk_cell HKb.out 3).trans rfl
          have gf3 : V.frozen? ⟨b, 3, none⟩ = false := by simp [World.frozen?, HKb.out]
          have hc2 : (q == 1) = true := beq_iff_eq.2 hc1
          obtain ⟨V1, hV1, kb, ko, kB⟩ := set1 HKb.out (.string (⟨#[]⟩ : ByteArray))
          have HV1 := Lib.hid (kB _ HV.out HG.out)
          have HQ3 := Lib.hid ((ko _ (Ne.symm HN.out)).trans HQ2.out)
          have HV2 := Lib.hid hV1
          have i0 : V1.cell? ⟨b, 0, none⟩ = some (#[.string p, .int .i64 (q), .string (⟨#[]⟩ : ByteArray), .bool (u == 0)][0]) := (blk_cell kb 0).trans rfl
          have if0 : V1.frozen? ⟨b, 0, none⟩ = false := by simp [World.frozen?, kb]
          have i1 : V1.cell? ⟨b, 1, none⟩ = some (#[.string p, .int .i64 (q), .string (⟨#[]⟩ : ByteArray), .bool (u == 0)][1]) := (blk_cell kb 1).trans rfl
          have if1 : V1.frozen? ⟨b, 1, none⟩ = false := by simp [World.frozen?, kb]
          have i2 : V1.cell? ⟨b, 2, none⟩ = some (#[.string p, .int .i64 (q), .string (⟨#[]⟩ : ByteArray), .bool (u == 0)][2]) := (blk_cell kb 2).trans rfl
          have if2 : V1.frozen? ⟨b, 2, none⟩ = false := by simp [World.frozen?, kb]
          have i3 : V1.cell? ⟨b, 3, none⟩ = some (#[.string p, .int .i64 (q), .string (⟨#[]⟩ : ByteArray), .bool (u == 0)][3]) := (blk_cell kb 3).trans rfl
          have if3 : V1.frozen? ⟨b, 3, none⟩ = false := by simp [World.frozen?, kb]
          have r0 : V1.cell? ⟨rb, 0, none⟩ = some (#[.string (⟨#[]⟩ : ByteArray), .int .i64 0, .string (⟨#[]⟩ : ByteArray), .bool false][0]) := (blk_cell HQ3.out 0).trans rfl
          have rf0 : V1.frozen? ⟨rb, 0, none⟩ = false := by simp [World.frozen?, HQ3.out]
          have r1 : V1.cell? ⟨rb, 1, none⟩ = some (#[.string (⟨#[]⟩ : ByteArray), .int .i64 0, .string (⟨#[]⟩ : ByteArray), .bool false][1]) := (blk_cell HQ3.out 1).trans rfl
          have rf1 : V1.frozen? ⟨rb, 1, none⟩ = false := by simp [World.frozen?, HQ3.out]
          have r2 : V1.cell? ⟨rb, 2, none⟩ = some (#[.string (⟨#[]⟩ : ByteArray), .int .i64 0, .string (⟨#[]⟩ : ByteArray), .bool false][2]) := (blk_cell HQ3.out 2).trans rfl
          have rf2 : V1.frozen? ⟨rb, 2, none⟩ = false := by simp [World.frozen?, HQ3.out]
          have r3 : V1.cell? ⟨rb, 3, none⟩ = some (#[.string (⟨#[]⟩ : ByteArray), .int .i64 0, .string (⟨#[]⟩ : ByteArray), .bool false][3]) := (blk_cell HQ3.out 3).trans rfl
          have rf3 : V1.frozen? ⟨rb, 3, none⟩ = false := by simp [World.frozen?, HQ3.out]
          obtain ⟨U, hU, lb, lo, lB⟩ := set4 HQ3.out (.string p) (.int .i64 (q)) (.string (⟨#[]⟩ : ByteArray)) (.bool (u == 0))
          have x0 : U.cell? ⟨rb, 0, none⟩ = some (#[.string p, .int .i64 (q), .string (⟨#[]⟩ : ByteArray), .bool (u == 0)][0]) := (blk_cell lb 0).trans rfl
          have xf0 : U.frozen? ⟨rb, 0, none⟩ = false := by simp [World.frozen?, lb]
          have x1 : U.cell? ⟨rb, 1, none⟩ = some (#[.string p, .int .i64 (q), .string (⟨#[]⟩ : ByteArray), .bool (u == 0)][1]) := (blk_cell lb 1).trans rfl
          have xf1 : U.frozen? ⟨rb, 1, none⟩ = false := by simp [World.frozen?, lb]
          have x2 : U.cell? ⟨rb, 2, none⟩ = some (#[.string p, .int .i64 (q), .string (⟨#[]⟩ : ByteArray), .bool (u == 0)][2]) := (blk_cell lb 2).trans rfl
          have xf2 : U.frozen? ⟨rb, 2, none⟩ = false := by simp [World.frozen?, lb]
          have x3 : U.cell? ⟨rb, 3, none⟩ = some (#[.string p, .int .i64 (q), .string (⟨#[]⟩ : ByteArray), .bool (u == 0)][3]) := (blk_cell lb 3).trans rfl
          have xf3 : U.frozen? ⟨rb, 3, none⟩ = false := by simp [World.frozen?, lb]
          have HU1 := Lib.hid (lB _ HV1.out (by have := HRB.out; omega))
          have HU2 := Lib.hid hU
          clear hV1 kb ko kB hU lo lB hc1
          refine hEND _ _ ?_
          clear hEND
          go_wp2_with (first | (rw [HU2.out]) | (rw [HV2.out]))
          refine bodyPost_ret (results_cell_row rfl _ _ rb 33 #[.string p, .int .i64 (q), .string (⟨#[]⟩ : ByteArray), .bool (u == 0)] (0, 0) _ rfl lb Try.underlying33 rfl (by kernel_rfl)) rfl ?_
          have hq := HQQ.out
          rw [i64_w] at hq
          exact ⟨by rw [← HAN.out, ← HQ0.out, hq, if_pos HC1.out], HU1.out⟩
        · have HC1 := Lib.hid hc1
          have g0 : V.cell? ⟨b, 0, none⟩ = some (#[.string p, .int .i64 (q), .string (s.extract 0 m.toNat), .bool (u == 0)][0]) := (blk_cell HKb.out 0).trans rfl
          have gf0 : V.frozen? ⟨b, 0, none⟩ = false := by simp [World.frozen?, HKb.out]
          have g1 : V.cell? ⟨b, 1, none⟩ = some (#[.string p, .int .i64 (q), .string (s.extract 0 m.toNat), .bool (u == 0)][1]) := (blk_cell HKb.out 1).trans rfl
          have gf1 : V.frozen? ⟨b, 1, none⟩ = false := by simp [World.frozen?, HKb.out]
          have g2 : V.cell? ⟨b, 2, none⟩ = some (#[.string p, .int .i64 (q), .string (s.extract 0 m.toNat), .bool (u == 0)][2]) := (blk_cell HKb.out 2).trans rfl
          have gf2 : V.frozen? ⟨b, 2, none⟩ = false := by simp [World.frozen?, HKb.out]
          have g3 : V.cell? ⟨b, 3, none⟩ = some (#[.string p, .int .i64 (q), .string (s.extract 0 m.toNat), .bool (u == 0)][3]) := (blk_cell HKb.out 3).trans rfl
          have gf3 : V.frozen? ⟨b, 3, none⟩ = false := by simp [World.frozen?, HKb.out]
          have hc2 : (q == 1) = false := beq_eq_false_iff_ne.2 hc1
          have HV1 := HV
          have HQ3 := HQ2
          have r0 : V.cell? ⟨rb, 0, none⟩ = some (#[.string (⟨#[]⟩ : ByteArray), .int .i64 0, .string (⟨#[]⟩ : ByteArray), .bool false][0]) := (blk_cell HQ3.out 0).trans rfl
          have rf0 : V.frozen? ⟨rb, 0, none⟩ = false := by simp [World.frozen?, HQ3.out]
          have r1 : V.cell? ⟨rb, 1, none⟩ = some (#[.string (⟨#[]⟩ : ByteArray), .int .i64 0, .string (⟨#[]⟩ : ByteArray), .bool false][1]) := (blk_cell HQ3.out 1).trans rfl
          have rf1 : V.frozen? ⟨rb, 1, none⟩ = false := by simp [World.frozen?, HQ3.out]
          have r2 : V.cell? ⟨rb, 2, none⟩ = some (#[.string (⟨#[]⟩ : ByteArray), .int .i64 0, .string (⟨#[]⟩ : ByteArray), .bool false][2]) := (blk_cell HQ3.out 2).trans rfl
          have rf2 : V.frozen? ⟨rb, 2, none⟩ = false := by simp [World.frozen?, HQ3.out]
          have r3 : V.cell? ⟨rb, 3, none⟩ = some (#[.string (⟨#[]⟩ : ByteArray), .int .i64 0, .string (⟨#[]⟩ : ByteArray), .bool false][3]) := (blk_cell HQ3.out 3).trans rfl
          have rf3 : V.frozen? ⟨rb, 3, none⟩ = false := by simp [World.frozen?, HQ3.out]
          obtain ⟨U, hU, lb, lo, lB⟩ := set4 HQ3.out (.string p) (.int .i64 (q)) (.string (s.extract 0 m.toNat)) (.bool (u == 0))
          have x0 : U.cell? ⟨rb, 0, none⟩ = some (#[.string p, .int .i64 (q), .string (s.extract 0 m.toNat), .bool (u == 0)][0]) := (blk_cell lb 0).trans rfl
          have xf0 : U.frozen? ⟨rb, 0, none⟩ = false := by simp [World.frozen?, lb]
          have x1 : U.cell? ⟨rb, 1, none⟩ = some (#[.string p, .int .i64 (q), .string (s.extract 0 m.toNat), .bool (u == 0)][1]) := (blk_cell lb 1).trans rfl
          have xf1 : U.frozen? ⟨rb, 1, none⟩ = false := by simp [World.frozen?, lb]
          have x2 : U.cell? ⟨rb, 2, none⟩ = some (#[.string p, .int .i64 (q), .string (s.extract 0 m.toNat), .bool (u == 0)][2]) := (blk_cell lb 2).trans rfl
          have xf2 : U.frozen? ⟨rb, 2, none⟩ = false := by simp [World.frozen?, lb]
          have x3 : U.cell? ⟨rb, 3, none⟩ = some (#[.string p, .int .i64 (q), .string (s.extract 0 m.toNat), .bool (u == 0)][3]) := (blk_cell lb 3).trans rfl
          have xf3 : U.frozen? ⟨rb, 3, none⟩ = false := by simp [World.frozen?, lb]
          have HU1 := Lib.hid (lB _ HV1.out (by have := HRB.out; omega))
          have HU2 := Lib.hid hU
          clear hU lo lB hc1
          refine hEND _ _ ?_
          clear hEND
          go_wp2_with (first | (rw [HU2.out]))
          refine bodyPost_ret (results_cell_row rfl _ _ rb 33 #[.string p, .int .i64 (q), .string (s.extract 0 m.toNat), .bool (u == 0)] (0, 0) _ rfl lb Try.underlying33 rfl (by kernel_rfl)) rfl ?_
          have hq := HQQ.out
          rw [i64_w] at hq
          exact ⟨by rw [← HAN.out, ← HQ0.out, hq, if_neg HC1.out, HMM.out], HU1.out⟩
      · go_simp
        first | refine ⟨trivial, ?_⟩ | skip
        obtain ⟨w3, hw⟩ : ∃ V, V = w2.alloc (.cells #[.string (⟨#[]⟩ : ByteArray), .int .i64 0, .string (⟨#[]⟩ : ByteArray), .bool false] 33) := ⟨_, rfl⟩
        have HK := Lib.hid (show w3.heap[w2.heap.size]? = some (.cells #[.string (⟨#[]⟩ : ByteArray), .int .i64 0, .string (⟨#[]⟩ : ByteArray), .bool false] 33 (0, 0)) by rw [hw]; exact heap_alloc_new w2 _)
        have HG := Lib.hid (below_size HB2.out)
        have HB3 := Lib.hid (show Below W.heap.size W w3 by rw [hw]; exact below_alloc HB2.out _)
        have hT3 : Held.Same Z [W.heap.size, rb] w3 := Held.Same.grown hT2 (by rw [hw]; exact World.grownBy_alloc _ _ none) (fun b hb => ⟨HZ8.out b hb, by simp⟩)
        try rw [← hw]
        refine hK.out _ _ (fun _ => hT3) ?_
        clear hK K
        have HN := Lib.hid (show w2.heap.size ≠ rb by have := blk_lt ((hT2 rb (by simp)).trans HQ.out); omega)
        generalize w2.heap.size = b at HK HG HN ⊢
        clear hw
        try simp only [Act.put, List.setIfInBounds_toArray, List.set_cons_zero, List.set_cons_succ]
        refine Held.AnyS.step (i := 16) rfl (by kernel_rfl) rfl (fun K hK => ?_)
        go_simp
        first | refine ⟨trivial, ?_⟩ | skip
        refine (callsIn_wide.2 (collatorlaw02_pick.calls y 12 u w3 HU.out)).mono ?_
        rintro e w4 ⟨rfl, hb⟩
        have hb := hb.below
        have HB4 := Lib.hid (below_step HB3.out hb)
        have hT4 : Held.Same Z [W.heap.size, rb] w4 := Held.Same.below hT3 hb HZ8.out
        have hk := Lib.hid hb
        refine hK.out _ _ (fun _ => hT4) ?_
        clear hK K hb
        try simp only [Act.put, List.setIfInBounds_toArray, List.set_cons_zero, List.set_cons_succ]
        have HK := Lib.hid (blk_below HK.out hk.out)
        clear hk
        refine Held.tk (i := 17) rfl hT4 ?_
        try simp only [Act.put, List.setIfInBounds_toArray, List.set_cons_zero, List.set_cons_succ]
        refine Held.tk (i := 18) rfl hT4 ?_
        try simp only [Act.put, List.setIfInBounds_toArray, List.set_cons_zero, List.set_cons_succ]
        refine Held.AnyS.step (i := 20) rfl (by kernel_rfl) rfl (fun K hK => ?_)
        have g0 : w4.cell? ⟨b, 0, none⟩ = some (#[.string (⟨#[]⟩ : ByteArray), .int .i64 0, .string (⟨#[]⟩ : ByteArray), .bool false][0]) := (blk_cell HK.out 0).trans rfl
        have g1 : w4.cell? ⟨b, 1, none⟩ = some (#[.string (⟨#[]⟩ : ByteArray), .int .i64 0, .string (⟨#[]⟩ : ByteArray), .bool false][1]) := (blk_cell HK.out 1).trans rfl
        have g2 : w4.cell? ⟨b, 2, none⟩ = some (#[.string (⟨#[]⟩ : ByteArray), .int .i64 0, .string (⟨#[]⟩ : ByteArray), .bool false][2]) := (blk_cell HK.out 2).trans rfl
        have g3 : w4.cell? ⟨b, 3, none⟩ = some (#[.string (⟨#[]⟩ : ByteArray), .int .i64 0, .string (⟨#[]⟩ : ByteArray), .bool false][3]) := (blk_cell HK.out 3).trans rfl
        have e0 : w4.frozen? ⟨b, 0, none⟩ = false := by simp [World.frozen?, HK.out]
        have e1 : w4.frozen? ⟨b, 1, none⟩ = false := by simp [World.frozen?, HK.out]
        have e2 : w4.frozen? ⟨b, 2, none⟩ = false := by simp [World.frozen?, HK.out]
        have e3 : w4.frozen? ⟨b, 3, none⟩ = false := by simp [World.frozen?, HK.out]
        have HQ1 := Lib.hid ((hT4 rb (by simp)).trans HQ.out)
        clear hT0 hT
        clear hT1
        clear hT2
        clear hT3
        clear hT4
        go_simp
        clear g0 g1 g2 g3 e0 e1 e2 e3
        obtain ⟨V, hV, kb, ko, kB⟩ := set4 HK.out (.string p) (.int .i64 (q)) (.string (s.extract 0 m.toNat)) (.bool (u == 0))
        rw [hV]
        have HV := Lib.hid (kB _ HB4.out HG.out)
        have HQ2 := Lib.hid ((ko _ (Ne.symm HN.out)).trans HQ1.out)
        have HKb := Lib.hid kb
        refine hK.out _ _ (fun h => absurd h (by omega)) ?_
        clear hK K hV kB ko kb
        refine Held.AnyS.done (by kernel_rfl) ?_ _
        go_simp
        by_cases hc1 : q = 1
        · have HC1 := Lib.hid hc1
          have g0 : V.cell? ⟨b, 0, none⟩ = some (#[.string p, .int .i64 (q), .string (s.extract 0 m.toNat), .bool (u == 0)][0]) := (blk_cell HKb.out 0).trans rfl
          have gf0 : V.frozen? ⟨b, 0, none⟩ = false := by simp [World.frozen?, HKb.out]
          have g1 : V.cell? ⟨b, 1, none⟩ = some (#[.string p, .int .i64 (q), .string (s.extract 0 m.toNat), .bool (u == 0)][1]) := (blk_cell HKb.out 1).trans rfl
          have gf1 : V.frozen? ⟨b, 1, none⟩ = false := by simp [World.frozen?, HKb.out]
          have g2 : V.cell? ⟨b, 2, none⟩ = some (#[.string p, .int .i64 (q), .string (s.extract 0 m.toNat), .bool (u == 0)][2]) := (blk_cell HKb.out 2).trans rfl
          have gf2 : V.frozen? ⟨b, 2, none⟩ = false := by simp [World.frozen?, HKb.out]
          have g3 : V.cell? ⟨b, 3, none⟩ = some (#[.string p, .int .i64 (q), .string (s.extract 0 m.toNat), .bool (u == 0)][3]) := (blk_cell HKb.out 3).trans rfl
          have gf3 : V.frozen? ⟨b, 3, none⟩ = false := by simp [World.frozen?, HKb.out]
          have hc2 : (q == 1) = true := beq_iff_eq.2 hc1
          obtain ⟨V1, hV1, kb, ko, kB⟩ := set1 HKb.out (.string (⟨#[]⟩ : ByteArray))
          have HV1 := Lib.hid (kB _ HV.out HG.out)
          have HQ3 := Lib.hid ((ko _ (Ne.symm HN.out)).trans HQ2.out)
          have HV2 := Lib.hid hV1
          have i0 : V1.cell? ⟨b, 0, none⟩ = some (#[.string p, .int .i64 (q), .string (⟨#[]⟩ : ByteArray), .bool (u == 0)][0]) := (blk_cell kb 0).trans rfl
          have if0 : V1.frozen? ⟨b, 0, none⟩ = false := by simp [World.frozen?, kb]
          have i1 : V1.cell? ⟨b, 1, none⟩ = some (#[.string p, .int .i64 (q), .string (⟨#[]⟩ : ByteArray), .bool (u == 0)][1]) := (blk_cell kb 1).trans rfl
          have if1 : V1.frozen? ⟨b, 1, none⟩ = false := by simp [World.frozen?, kb]
          have i2 : V1.cell? ⟨b, 2, none⟩ = some (#[.string p, .int .i64 (q), .string (⟨#[]⟩ : ByteArray), .bool (u == 0)][2]) := (blk_cell kb 2).trans rfl
          have if2 : V1.frozen? ⟨b, 2, none⟩ = false := by simp [World.frozen?, kb]
          have i3 : V1.cell? ⟨b, 3, none⟩ = some (#[.string p, .int .i64 (q), .string (⟨#[]⟩ : ByteArray), .bool (u == 0)][3]) := (blk_cell kb 3).trans rfl
          have if3 : V1.frozen? ⟨b, 3, none⟩ = false := by simp [World.frozen?, kb]
          have r0 : V1.cell? ⟨rb, 0, none⟩ = some (#[.string (⟨#[]⟩ : ByteArray), .int .i64 0, .string (⟨#[]⟩ : ByteArray), .bool false][0]) := (blk_cell HQ3.out 0).trans rfl
          have rf0 : V1.frozen? ⟨rb, 0, none⟩ = false := by simp [World.frozen?, HQ3.out]
          have r1 : V1.cell? ⟨rb, 1, none⟩ = some (#[.string (⟨#[]⟩ : ByteArray), .int .i64 0, .string (⟨#[]⟩ : ByteArray), .bool false][1]) := (blk_cell HQ3.out 1).trans rfl
          have rf1 : V1.frozen? ⟨rb, 1, none⟩ = false := by simp [World.frozen?, HQ3.out]
          have r2 : V1.cell? ⟨rb, 2, none⟩ = some (#[.string (⟨#[]⟩ : ByteArray), .int .i64 0, .string (⟨#[]⟩ : ByteArray), .bool false][2]) := (blk_cell HQ3.out 2).trans rfl
          have rf2 : V1.frozen? ⟨rb, 2, none⟩ = false := by simp [World.frozen?, HQ3.out]
          have r3 : V1.cell? ⟨rb, 3, none⟩ = some (#[.string (⟨#[]⟩ : ByteArray), .int .i64 0, .string (⟨#[]⟩ : ByteArray), .bool false][3]) := (blk_cell HQ3.out 3).trans rfl
          have rf3 : V1.frozen? ⟨rb, 3, none⟩ = false := by simp [World.frozen?, HQ3.out]
          obtain ⟨U, hU, lb, lo, lB⟩ := set4 HQ3.out (.string p) (.int .i64 (q)) (.string (⟨#[]⟩ : ByteArray)) (.bool (u == 0))
          have x0 : U.cell? ⟨rb, 0, none⟩ = some (#[.string p, .int .i64 (q), .string (⟨#[]⟩ : ByteArray), .bool (u == 0)][0]) := (blk_cell lb 0).trans rfl
          have xf0 : U.frozen? ⟨rb, 0, none⟩ = false := by simp [World.frozen?, lb]
          have x1 : U.cell? ⟨rb, 1, none⟩ = some (#[.string p, .int .i64 (q), .string (⟨#[]⟩ : ByteArray), .bool (u == 0)][1]) := (blk_cell lb 1).trans rfl
          have xf1 : U.frozen? ⟨rb, 1, none⟩ = false := by simp [World.frozen?, lb]
          have x2 : U.cell? ⟨rb, 2, none⟩ = some (#[.string p, .int .i64 (q), .string (⟨#[]⟩ : ByteArray), .bool (u == 0)][2]) := (blk_cell lb 2).trans rfl
          have xf2 : U.frozen? ⟨rb, 2, none⟩ = false := by simp [World.frozen?, lb]
          have x3 : U.cell? ⟨rb, 3, none⟩ = some (#[.string p, .int .i64 (q), .string (⟨#[]⟩ : ByteArray), .bool (u == 0)][3]) := (blk_cell lb 3).trans rfl
          have xf3 : U.frozen? ⟨rb, 3, none⟩ = false := by simp [World.frozen?, lb]
          have HU1 := Lib.hid (lB _ HV1.out (by have := HRB.out; omega))
          have HU2 := Lib.hid hU
          clear hV1 kb ko kB hU lo lB hc1
          refine hEND _ _ ?_
          clear hEND
          go_wp2_with (first | (rw [HU2.out]) | (rw [HV2.out]))
          refine bodyPost_ret (results_cell_row rfl _ _ rb 33 #[.string p, .int .i64 (q), .string (⟨#[]⟩ : ByteArray), .bool (u == 0)] (0, 0) _ rfl lb Try.underlying33 rfl (by kernel_rfl)) rfl ?_
          have hq := HQQ.out
          rw [i64_w] at hq
          exact ⟨by rw [← HAN.out, ← HQ0.out, hq, if_pos HC1.out], HU1.out⟩
        · have HC1 := Lib.hid hc1
          have g0 : V.cell? ⟨b, 0, none⟩ = some (#[.string p, .int .i64 (q), .string (s.extract 0 m.toNat), .bool (u == 0)][0]) := (blk_cell HKb.out 0).trans rfl
          have gf0 : V.frozen? ⟨b, 0, none⟩ = false := by simp [World.frozen?, HKb.out]
          have g1 : V.cell? ⟨b, 1, none⟩ = some (#[.string p, .int .i64 (q), .string (s.extract 0 m.toNat), .bool (u == 0)][1]) := (blk_cell HKb.out 1).trans rfl
          have gf1 : V.frozen? ⟨b, 1, none⟩ = false := by simp [World.frozen?, HKb.out]
          have g2 : V.cell? ⟨b, 2, none⟩ = some (#[.string p, .int .i64 (q), .string (s.extract 0 m.toNat), .bool (u == 0)][2]) := (blk_cell HKb.out 2).trans rfl
          have gf2 : V.frozen? ⟨b, 2, none⟩ = false := by simp [World.frozen?, HKb.out]
          have g3 : V.cell? ⟨b, 3, none⟩ = some (#[.string p, .int .i64 (q), .string (s.extract 0 m.toNat), .bool (u == 0)][3]) := (blk_cell HKb.out 3).trans rfl
          have gf3 : V.frozen? ⟨b, 3, none⟩ = false := by simp [World.frozen?, HKb.out]
          have hc2 : (q == 1) = false := beq_eq_false_iff_ne.2 hc1
          have HV1 := HV
          have HQ3 := HQ2
          have r0 : V.cell? ⟨rb, 0, none⟩ = some (#[.string (⟨#[]⟩ : ByteArray), .int .i64 0, .string (⟨#[]⟩ : ByteArray), .bool false][0]) := (blk_cell HQ3.out 0).trans rfl
          have rf0 : V.frozen? ⟨rb, 0, none⟩ = false := by simp [World.frozen?, HQ3.out]
          have r1 : V.cell? ⟨rb, 1, none⟩ = some (#[.string (⟨#[]⟩ : ByteArray), .int .i64 0, .string (⟨#[]⟩ : ByteArray), .bool false][1]) := (blk_cell HQ3.out 1).trans rfl
          have rf1 : V.frozen? ⟨rb, 1, none⟩ = false := by simp [World.frozen?, HQ3.out]
          have r2 : V.cell? ⟨rb, 2, none⟩ = some (#[.string (⟨#[]⟩ : ByteArray), .int .i64 0, .string (⟨#[]⟩ : ByteArray), .bool false][2]) := (blk_cell HQ3.out 2).trans rfl
          have rf2 : V.frozen? ⟨rb, 2, none⟩ = false := by simp [World.frozen?, HQ3.out]
          have r3 : V.cell? ⟨rb, 3, none⟩ = some (#[.string (⟨#[]⟩ : ByteArray), .int .i64 0, .string (⟨#[]⟩ : ByteArray), .bool false][3]) := (blk_cell HQ3.out 3).trans rfl
          have rf3 : V.frozen? ⟨rb, 3, none⟩ = false := by simp [World.frozen?, HQ3.out]
          obtain ⟨U, hU, lb, lo, lB⟩ := set4 HQ3.out (.string p) (.int .i64 (q)) (.string (s.extract 0 m.toNat)) (.bool (u == 0))
          have x0 : U.cell? ⟨rb, 0, none⟩ = some (#[.string p, .int .i64 (q), .string (s.extract 0 m.toNat), .bool (u == 0)][0]) := (blk_cell lb 0).trans rfl
          have xf0 : U.frozen? ⟨rb, 0, none⟩ = false := by simp [World.frozen?, lb]
          have x1 : U.cell? ⟨rb, 1, none⟩ = some (#[.string p, .int .i64 (q), .string (s.extract 0 m.toNat), .bool (u == 0)][1]) := (blk_cell lb 1).trans rfl
          have xf1 : U.frozen? ⟨rb, 1, none⟩ = false := by simp [World.frozen?, lb]
          have x2 : U.cell? ⟨rb, 2, none⟩ = some (#[.string p, .int .i64 (q), .string (s.extract 0 m.toNat), .bool (u == 0)][2]) := (blk_cell lb 2).trans rfl
          have xf2 : U.frozen? ⟨rb, 2, none⟩ = false := by simp [World.frozen?, lb]
          have x3 : U.cell? ⟨rb, 3, none⟩ = some (#[.string p, .int .i64 (q), .string (s.extract 0 m.toNat), .bool (u == 0)][3]) := (blk_cell lb 3).trans rfl
          have xf3 : U.frozen? ⟨rb, 3, none⟩ = false := by simp [World.frozen?, lb]
          have HU1 := Lib.hid (lB _ HV1.out (by have := HRB.out; omega))
          have HU2 := Lib.hid hU
          clear hU lo lB hc1
          refine hEND _ _ ?_
          clear hEND
          go_wp2_with (first | (rw [HU2.out]))
          refine bodyPost_ret (results_cell_row rfl _ _ rb 33 #[.string p, .int .i64 (q), .string (s.extract 0 m.toNat), .bool (u == 0)] (0, 0) _ rfl lb Try.underlying33 rfl (by kernel_rfl)) rfl ?_
          have hq := HQQ.out
          rw [i64_w] at hq
          exact ⟨by rw [← HAN.out, ← HQ0.out, hq, if_neg HC1.out, HMM.out], HU1.out⟩
    · go_simp
      first | refine ⟨trivial, ?_⟩ | skip
      obtain ⟨w2, hw⟩ : ∃ V, V = w1.alloc (.cells #[.string (⟨#[]⟩ : ByteArray), .int .i64 0, .string (⟨#[]⟩ : ByteArray), .bool false] 33) := ⟨_, rfl⟩
      have HK := Lib.hid (show w2.heap[w1.heap.size]? = some (.cells #[.string (⟨#[]⟩ : ByteArray), .int .i64 0, .string (⟨#[]⟩ : ByteArray), .bool false] 33 (0, 0)) by rw [hw]; exact heap_alloc_new w1 _)
      have HG := Lib.hid (below_size HB1.out)
      have HB2 := Lib.hid (show Below W.heap.size W w2 by rw [hw]; exact below_alloc HB1.out _)
      have hT2 : Held.Same Z [W.heap.size, rb] w2 := Held.Same.grown hT1 (by rw [hw]; exact World.grownBy_alloc _ _ none) (fun b hb => ⟨HZ8.out b hb, by simp⟩)
      try rw [← hw]
      refine hK.out _ _ (fun _ => hT2) ?_
      clear hK K
      have HN := Lib.hid (show w1.heap.size ≠ rb by have := blk_lt ((hT1 rb (by simp)).trans HQ.out); omega)
      generalize w1.heap.size = b at HK HG HN ⊢
      clear hw
      try simp only [Act.put, List.setIfInBounds_toArray, List.set_cons_zero, List.set_cons_succ]
      refine Held.AnyS.step (i := 5) rfl (by kernel_rfl) rfl (fun K hK => ?_)
      go_simp
      first | refine ⟨trivial, ?_⟩ | skip
      refine (callsIn_wide.2 (collatorlaw02_pick.calls x 3 t w2 HT.out)).mono ?_
      rintro e w3 ⟨rfl, hb⟩
      have hb := hb.below
      have HB3 := Lib.hid (below_step HB2.out hb)
      have hT3 : Held.Same Z [W.heap.size, rb] w3 := Held.Same.below hT2 hb HZ8.out
      have hk := Lib.hid hb
      refine hK.out _ _ (fun _ => hT3) ?_
      clear hK K hb
      try simp only [Act.put, List.setIfInBounds_toArray, List.set_cons_zero, List.set_cons_succ]
      have HK := Lib.hid (blk_below HK.out hk.out)
      clear hk
      refine Held.tk (i := 6) rfl hT3 ?_
      try simp only [Act.put, List.setIfInBounds_toArray, List.set_cons_zero, List.set_cons_succ]
      generalize hq : IntKind.i64.wrap (1 + t) = q
      have HQQ := Lib.hid hq
      clear hq
      refine Held.AnyS.step (i := 16) rfl (by kernel_rfl) rfl (fun K hK => ?_)
      go_simp
      first | refine ⟨trivial, ?_⟩ | skip
      refine (callsIn_wide.2 (collatorlaw02_pick.calls y 12 u w3 HU.out)).mono ?_
      rintro e w4 ⟨rfl, hb⟩
      have hb := hb.below
      have HB4 := Lib.hid (below_step HB3.out hb)
      have hT4 : Held.Same Z [W.heap.size, rb] w4 := Held.Same.below hT3 hb HZ8.out
      have hk := Lib.hid hb
      refine hK.out _ _ (fun _ => hT4) ?_
      clear hK K hb
      try simp only [Act.put, List.setIfInBounds_toArray, List.set_cons_zero, List.set_cons_succ]
      have HK := Lib.hid (blk_below HK.out hk.out)
      clear hk
      refine Held.tk (i := 17) rfl hT4 ?_
      try simp only [Act.put, List.setIfInBounds_toArray, List.set_cons_zero, List.set_cons_succ]
      refine Held.tk (i := 18) rfl hT4 ?_
      try simp only [Act.put, List.setIfInBounds_toArray, List.set_cons_zero, List.set_cons_succ]
      refine Held.AnyS.step (i := 20) rfl (by kernel_rfl) rfl (fun K hK => ?_)
      have g0 : w4.cell? ⟨b, 0, none⟩ = some (#[.string (⟨#[]⟩ : ByteArray), .int .i64 0, .string (⟨#[]⟩ : ByteArray), .bool false][0]) := (blk_cell HK.out 0).trans rfl
      have g1 : w4.cell? ⟨b, 1, none⟩ = some (#[.string (⟨#[]⟩ : ByteArray), .int .i64 0, .string (⟨#[]⟩ : ByteArray), .bool false][1]) := (blk_cell HK.out 1).trans rfl
      have g2 : w4.cell? ⟨b, 2, none⟩ = some (#[.string (⟨#[]⟩ : ByteArray), .int .i64 0, .string (⟨#[]⟩ : ByteArray), .bool false][2]) := (blk_cell HK.out 2).trans rfl
      have g3 : w4.cell? ⟨b, 3, none⟩ = some (#[.string (⟨#[]⟩ : ByteArray), .int .i64 0, .string (⟨#[]⟩ : ByteArray), .bool false][3]) := (blk_cell HK.out 3).trans rfl
      have e0 : w4.frozen? ⟨b, 0, none⟩ = false := by simp [World.frozen?, HK.out]
      have e1 : w4.frozen? ⟨b, 1, none⟩ = false := by simp [World.frozen?, HK.out]
      have e2 : w4.frozen? ⟨b, 2, none⟩ = false := by simp [World.frozen?, HK.out]
      have e3 : w4.frozen? ⟨b, 3, none⟩ = false := by simp [World.frozen?, HK.out]
      have HQ1 := Lib.hid ((hT4 rb (by simp)).trans HQ.out)
      clear hT0 hT
      clear hT1
      clear hT2
      clear hT3
      clear hT4
      go_simp
      clear g0 g1 g2 g3 e0 e1 e2 e3
      obtain ⟨V, hV, kb, ko, kB⟩ := set4 HK.out (.string p) (.int .i64 (q)) (.string (s.extract 0 m.toNat)) (.bool (u == 0))
      rw [hV]
      have HV := Lib.hid (kB _ HB4.out HG.out)
      have HQ2 := Lib.hid ((ko _ (Ne.symm HN.out)).trans HQ1.out)
      have HKb := Lib.hid kb
      refine hK.out _ _ (fun h => absurd h (by omega)) ?_
      clear hK K hV kB ko kb
      refine Held.AnyS.done (by kernel_rfl) ?_ _
      go_simp
      by_cases hc1 : q = 1
      · have HC1 := Lib.hid hc1
        have g0 : V.cell? ⟨b, 0, none⟩ = some (#[.string p, .int .i64 (q), .string (s.extract 0 m.toNat), .bool (u == 0)][0]) := (blk_cell HKb.out 0).trans rfl
        have gf0 : V.frozen? ⟨b, 0, none⟩ = false := by simp [World.frozen?, HKb.out]
        have g1 : V.cell? ⟨b, 1, none⟩ = some (#[.string p, .int .i64 (q), .string (s.extract 0 m.toNat), .bool (u == 0)][1]) := (blk_cell HKb.out 1).trans rfl
        have gf1 : V.frozen? ⟨b, 1, none⟩ = false := by simp [World.frozen?, HKb.out]
        have g2 : V.cell? ⟨b, 2, none⟩ = some (#[.string p, .int .i64 (q), .string (s.extract 0 m.toNat), .bool (u == 0)][2]) := (blk_cell HKb.out 2).trans rfl
        have gf2 : V.frozen? ⟨b, 2, none⟩ = false := by simp [World.frozen?, HKb.out]
        have g3 : V.cell? ⟨b, 3, none⟩ = some (#[.string p, .int .i64 (q), .string (s.extract 0 m.toNat), .bool (u == 0)][3]) := (blk_cell HKb.out 3).trans rfl
        have gf3 : V.frozen? ⟨b, 3, none⟩ = false := by simp [World.frozen?, HKb.out]
        have hc2 : (q == 1) = true := beq_iff_eq.2 hc1
        obtain ⟨V1, hV1, kb, ko, kB⟩ := set1 HKb.out (.string (⟨#[]⟩ : ByteArray))
        have HV1 := Lib.hid (kB _ HV.out HG.out)
        have HQ3 := Lib.hid ((ko _ (Ne.symm HN.out)).trans HQ2.out)
        have HV2 := Lib.hid hV1
        have i0 : V1.cell? ⟨b, 0, none⟩ = some (#[.string p, .int .i64 (q), .string (⟨#[]⟩ : ByteArray), .bool (u == 0)][0]) := (blk_cell kb 0).trans rfl
        have if0 : V1.frozen? ⟨b, 0, none⟩ = false := by simp [World.frozen?, kb]
        have i1 : V1.cell? ⟨b, 1, none⟩ = some (#[.string p, .int .i64 (q), .string (⟨#[]⟩ : ByteArray), .bool (u == 0)][1]) := (blk_cell kb 1).trans rfl
        have if1 : V1.frozen? ⟨b, 1, none⟩ = false := by simp [World.frozen?, kb]
        have i2 : V1.cell? ⟨b, 2, none⟩ = some (#[.string p, .int .i64 (q), .string (⟨#[]⟩ : ByteArray), .bool (u == 0)][2]) := (blk_cell kb 2).trans rfl
        have if2 : V1.frozen? ⟨b, 2, none⟩ = false := by simp [World.frozen?, kb]
        have i3 : V1.cell? ⟨b, 3, none⟩ = some (#[.string p, .int .i64 (q), .string (⟨#[]⟩ : ByteArray), .bool (u == 0)][3]) := (blk_cell kb 3).trans rfl
        have if3 : V1.frozen? ⟨b, 3, none⟩ = false := by simp [World.frozen?, kb]
        have r0 : V1.cell? ⟨rb, 0, none⟩ = some (#[.string (⟨#[]⟩ : ByteArray), .int .i64 0, .string (⟨#[]⟩ : ByteArray), .bool false][0]) := (blk_cell HQ3.out 0).trans rfl
        have rf0 : V1.frozen? ⟨rb, 0, none⟩ = false := by simp [World.frozen?, HQ3.out]
        have r1 : V1.cell? ⟨rb, 1, none⟩ = some (#[.string (⟨#[]⟩ : ByteArray), .int .i64 0, .string (⟨#[]⟩ : ByteArray), .bool false][1]) := (blk_cell HQ3.out 1).trans rfl
        have rf1 : V1.frozen? ⟨rb, 1, none⟩ = false := by simp [World.frozen?, HQ3.out]
        have r2 : V1.cell? ⟨rb, 2, none⟩ = some (#[.string (⟨#[]⟩ : ByteArray), .int .i64 0, .string (⟨#[]⟩ : ByteArray), .bool false][2]) := (blk_cell HQ3.out 2).trans rfl
        have rf2 : V1.frozen? ⟨rb, 2, none⟩ = false := by simp [World.frozen?, HQ3.out]
        have r3 : V1.cell? ⟨rb, 3, none⟩ = some (#[.string (⟨#[]⟩ : ByteArray), .int .i64 0, .string (⟨#[]⟩ : ByteArray), .bool false][3]) := (blk_cell HQ3.out 3).trans rfl
        have rf3 : V1.frozen? ⟨rb, 3, none⟩ = false := by simp [World.frozen?, HQ3.out]
        obtain ⟨U, hU, lb, lo, lB⟩ := set4 HQ3.out (.string p) (.int .i64 (q)) (.string (⟨#[]⟩ : ByteArray)) (.bool (u == 0))
        have x0 : U.cell? ⟨rb, 0, none⟩ = some (#[.string p, .int .i64 (q), .string (⟨#[]⟩ : ByteArray), .bool (u == 0)][0]) := (blk_cell lb 0).trans rfl
        have xf0 : U.frozen? ⟨rb, 0, none⟩ = false := by simp [World.frozen?, lb]
        have x1 : U.cell? ⟨rb, 1, none⟩ = some (#[.string p, .int .i64 (q), .string (⟨#[]⟩ : ByteArray), .bool (u == 0)][1]) := (blk_cell lb 1).trans rfl
        have xf1 : U.frozen? ⟨rb, 1, none⟩ = false := by simp [World.frozen?, lb]
        have x2 : U.cell? ⟨rb, 2, none⟩ = some (#[.string p, .int .i64 (q), .string (⟨#[]⟩ : ByteArray), .bool (u == 0)][2]) := (blk_cell lb 2).trans rfl
        have xf2 : U.frozen? ⟨rb, 2, none⟩ = false := by simp [World.frozen?, lb]
        have x3 : U.cell? ⟨rb, 3, none⟩ = some (#[.string p, .int .i64 (q), .string (⟨#[]⟩ : ByteArray), .bool (u == 0)][3]) := (blk_cell lb 3).trans rfl
        have xf3 : U.frozen? ⟨rb, 3, none⟩ = false := by simp [World.frozen?, lb]
        have HU1 := Lib.hid (lB _ HV1.out (by have := HRB.out; omega))
        have HU2 := Lib.hid hU
        clear hV1 kb ko kB hU lo lB hc1
        refine hEND _ _ ?_
        clear hEND
        go_wp2_with (first | (rw [HU2.out]) | (rw [HV2.out]))
        refine bodyPost_ret (results_cell_row rfl _ _ rb 33 #[.string p, .int .i64 (q), .string (⟨#[]⟩ : ByteArray), .bool (u == 0)] (0, 0) _ rfl lb Try.underlying33 rfl (by kernel_rfl)) rfl ?_
        have hq := HQQ.out
        rw [i64_w] at hq
        exact ⟨by rw [← HAN.out, ← HQ0.out, hq, if_pos HC1.out], HU1.out⟩
      · have HC1 := Lib.hid hc1
        have g0 : V.cell? ⟨b, 0, none⟩ = some (#[.string p, .int .i64 (q), .string (s.extract 0 m.toNat), .bool (u == 0)][0]) := (blk_cell HKb.out 0).trans rfl
        have gf0 : V.frozen? ⟨b, 0, none⟩ = false := by simp [World.frozen?, HKb.out]
        have g1 : V.cell? ⟨b, 1, none⟩ = some (#[.string p, .int .i64 (q), .string (s.extract 0 m.toNat), .bool (u == 0)][1]) := (blk_cell HKb.out 1).trans rfl
        have gf1 : V.frozen? ⟨b, 1, none⟩ = false := by simp [World.frozen?, HKb.out]
        have g2 : V.cell? ⟨b, 2, none⟩ = some (#[.string p, .int .i64 (q), .string (s.extract 0 m.toNat), .bool (u == 0)][2]) := (blk_cell HKb.out 2).trans rfl
        have gf2 : V.frozen? ⟨b, 2, none⟩ = false := by simp [World.frozen?, HKb.out]
        have g3 : V.cell? ⟨b, 3, none⟩ = some (#[.string p, .int .i64 (q), .string (s.extract 0 m.toNat), .bool (u == 0)][3]) := (blk_cell HKb.out 3).trans rfl
        have gf3 : V.frozen? ⟨b, 3, none⟩ = false := by simp [World.frozen?, HKb.out]
        have hc2 : (q == 1) = false := beq_eq_false_iff_ne.2 hc1
        have HV1 := HV
        have HQ3 := HQ2
        have r0 : V.cell? ⟨rb, 0, none⟩ = some (#[.string (⟨#[]⟩ : ByteArray), .int .i64 0, .string (⟨#[]⟩ : ByteArray), .bool false][0]) := (blk_cell HQ3.out 0).trans rfl
        have rf0 : V.frozen? ⟨rb, 0, none⟩ = false := by simp [World.frozen?, HQ3.out]
        have r1 : V.cell? ⟨rb, 1, none⟩ = some (#[.string (⟨#[]⟩ : ByteArray), .int .i64 0, .string (⟨#[]⟩ : ByteArray), .bool false][1]) := (blk_cell HQ3.out 1).trans rfl
        have rf1 : V.frozen? ⟨rb, 1, none⟩ = false := by simp [World.frozen?, HQ3.out]
        have r2 : V.cell? ⟨rb, 2, none⟩ = some (#[.string (⟨#[]⟩ : ByteArray), .int .i64 0, .string (⟨#[]⟩ : ByteArray), .bool false][2]) := (blk_cell HQ3.out 2).trans rfl
        have rf2 : V.frozen? ⟨rb, 2, none⟩ = false := by simp [World.frozen?, HQ3.out]
        have r3 : V.cell? ⟨rb, 3, none⟩ = some (#[.string (⟨#[]⟩ : ByteArray), .int .i64 0, .string (⟨#[]⟩ : ByteArray), .bool false][3]) := (blk_cell HQ3.out 3).trans rfl
        have rf3 : V.frozen? ⟨rb, 3, none⟩ = false := by simp [World.frozen?, HQ3.out]
        obtain ⟨U, hU, lb, lo, lB⟩ := set4 HQ3.out (.string p) (.int .i64 (q)) (.string (s.extract 0 m.toNat)) (.bool (u == 0))
        have x0 : U.cell? ⟨rb, 0, none⟩ = some (#[.string p, .int .i64 (q), .string (s.extract 0 m.toNat), .bool (u == 0)][0]) := (blk_cell lb 0).trans rfl
        have xf0 : U.frozen? ⟨rb, 0, none⟩ = false := by simp [World.frozen?, lb]
        have x1 : U.cell? ⟨rb, 1, none⟩ = some (#[.string p, .int .i64 (q), .string (s.extract 0 m.toNat), .bool (u == 0)][1]) := (blk_cell lb 1).trans rfl
        have xf1 : U.frozen? ⟨rb, 1, none⟩ = false := by simp [World.frozen?, lb]
        have x2 : U.cell? ⟨rb, 2, none⟩ = some (#[.string p, .int .i64 (q), .string (s.extract 0 m.toNat), .bool (u == 0)][2]) := (blk_cell lb 2).trans rfl
        have xf2 : U.frozen? ⟨rb, 2, none⟩ = false := by simp [World.frozen?, lb]
        have x3 : U.cell? ⟨rb, 3, none⟩ = some (#[.string p, .int .i64 (q), .string (s.extract 0 m.toNat), .bool (u == 0)][3]) := (blk_cell lb 3).trans rfl
        have xf3 : U.frozen? ⟨rb, 3, none⟩ = false := by simp [World.frozen?, lb]
        have HU1 := Lib.hid (lB _ HV1.out (by have := HRB.out; omega))
        have HU2 := Lib.hid hU
        clear hU lo lB hc1
        refine hEND _ _ ?_
        clear hEND
        go_wp2_with (first | (rw [HU2.out]))
        refine bodyPost_ret (results_cell_row rfl _ _ rb 33 #[.string p, .int .i64 (q), .string (s.extract 0 m.toNat), .bool (u == 0)] (0, 0) _ rfl lb Try.underlying33 rfl (by kernel_rfl)) rfl ?_
        have hq := HQQ.out
        rw [i64_w] at hq
        exact ⟨by rw [← HAN.out, ← HQ0.out, hq, if_neg HC1.out, HMM.out], HU1.out⟩
  · go_simp
    first | refine ⟨trivial, ?_⟩ | skip
    obtain ⟨w1, hw⟩ : ∃ V, V = Z.alloc (.cells #[.string (⟨#[]⟩ : ByteArray), .int .i64 0, .string (⟨#[]⟩ : ByteArray), .bool false] 33) := ⟨_, rfl⟩
    have HK := Lib.hid (show w1.heap[Z.heap.size]? = some (.cells #[.string (⟨#[]⟩ : ByteArray), .int .i64 0, .string (⟨#[]⟩ : ByteArray), .bool false] 33 (0, 0)) by rw [hw]; exact heap_alloc_new Z _)
    have HG := Lib.hid (below_size HB0.out)
    have HB1 := Lib.hid (show Below W.heap.size W w1 by rw [hw]; exact below_alloc HB0.out _)
    have hT1 : Held.Same Z [W.heap.size, rb] w1 := Held.Same.grown hT0 (by rw [hw]; exact World.grownBy_alloc _ _ none) (fun b hb => ⟨HZ8.out b hb, by simp⟩)
    try rw [← hw]
    refine hK.out _ _ (fun _ => hT1) ?_
    clear hK K
    have HN := Lib.hid (show Z.heap.size ≠ rb by have := blk_lt ((hT0 rb (by simp)).trans HQ.out); omega)
    generalize Z.heap.size = b at HK HG HN ⊢
    clear hw
    try simp only [Act.put, List.setIfInBounds_toArray, List.set_cons_zero, List.set_cons_succ]
    refine Held.AnyS.step (i := 2) rfl (by kernel_rfl) rfl (fun K hK => ?_)
    go_simp
    first | refine ⟨trivial, ?_⟩ | skip
    refine (callsIn_wide.2 (collatorlaw01_Path.calls k A c l p w1 (Kd.C_below HR.out HB1.out) HC.out HP.out)).mono ?_
    rintro e w2 ⟨rfl, hb⟩
    have HB2 := Lib.hid (below_step HB1.out hb)
    have hT2 : Held.Same Z [W.heap.size, rb] w2 := Held.Same.below hT1 hb HZ8.out
    have hk := Lib.hid hb
    refine hK.out _ _ (fun _ => hT2) ?_
    clear hK K hb
    try simp only [Act.put, List.setIfInBounds_toArray, List.set_cons_zero, List.set_cons_succ]
    have HK := Lib.hid (blk_below HK.out hk.out)
    clear hk
    refine Held.AnyS.step (i := 5) rfl (by kernel_rfl) rfl (fun K hK => ?_)
    go_simp
    first | refine ⟨trivial, ?_⟩ | skip
    refine (callsIn_wide.2 (collatorlaw02_pick.calls x 3 t w2 HT.out)).mono ?_
    rintro e w3 ⟨rfl, hb⟩
    have hb := hb.below
    have HB3 := Lib.hid (below_step HB2.out hb)
    have hT3 : Held.Same Z [W.heap.size, rb] w3 := Held.Same.below hT2 hb HZ8.out
    have hk := Lib.hid hb
    refine hK.out _ _ (fun _ => hT3) ?_
    clear hK K hb
    try simp only [Act.put, List.setIfInBounds_toArray, List.set_cons_zero, List.set_cons_succ]
    have HK := Lib.hid (blk_below HK.out hk.out)
    clear hk
    refine Held.tk (i := 6) rfl hT3 ?_
    try simp only [Act.put, List.setIfInBounds_toArray, List.set_cons_zero, List.set_cons_succ]
    generalize hq : IntKind.i64.wrap (1 + t) = q
    have HQQ := Lib.hid hq
    clear hq
    refine Held.AnyS.step (i := 16) rfl (by kernel_rfl) rfl (fun K hK => ?_)
    go_simp
    first | refine ⟨trivial, ?_⟩ | skip
    refine (callsIn_wide.2 (collatorlaw02_pick.calls y 12 u w3 HU.out)).mono ?_
    rintro e w4 ⟨rfl, hb⟩
    have hb := hb.below
    have HB4 := Lib.hid (below_step HB3.out hb)
    have hT4 : Held.Same Z [W.heap.size, rb] w4 := Held.Same.below hT3 hb HZ8.out
    have hk := Lib.hid hb
    refine hK.out _ _ (fun _ => hT4) ?_
    clear hK K hb
    try simp only [Act.put, List.setIfInBounds_toArray, List.set_cons_zero, List.set_cons_succ]
    have HK := Lib.hid (blk_below HK.out hk.out)
    clear hk
    refine Held.tk (i := 17) rfl hT4 ?_
    try simp only [Act.put, List.setIfInBounds_toArray, List.set_cons_zero, List.set_cons_succ]
    refine Held.tk (i := 18) rfl hT4 ?_
    try simp only [Act.put, List.setIfInBounds_toArray, List.set_cons_zero, List.set_cons_succ]
    refine Held.AnyS.step (i := 20) rfl (by kernel_rfl) rfl (fun K hK => ?_)
    have g0 : w4.cell? ⟨b, 0, none⟩ = some (#[.string (⟨#[]⟩ : ByteArray), .int .i64 0, .string (⟨#[]⟩ : ByteArray), .bool false][0]) := (blk_cell HK.out 0).trans rfl
    have g1 : w4.cell? ⟨b, 1, none⟩ = some (#[.string (⟨#[]⟩ : ByteArray), .int .i64 0, .string (⟨#[]⟩ : ByteArray), .bool false][1]) := (blk_cell HK.out 1).trans rfl
    have g2 : w4.cell? ⟨b, 2, none⟩ = some (#[.string (⟨#[]⟩ : ByteArray), .int .i64 0, .string (⟨#[]⟩ : ByteArray), .bool false][2]) := (blk_cell HK.out 2).trans rfl
    have g3 : w4.cell? ⟨b, 3, none⟩ = some (#[.string (⟨#[]⟩ : ByteArray), .int .i64 0, .string (⟨#[]⟩ : ByteArray), .bool false][3]) := (blk_cell HK.out 3).trans rfl
    have e0 : w4.frozen? ⟨b, 0, none⟩ = false := by simp [World.frozen?, HK.out]
    have e1 : w4.frozen? ⟨b, 1, none⟩ = false := by simp [World.frozen?, HK.out]
    have e2 : w4.frozen? ⟨b, 2, none⟩ = false := by simp [World.frozen?, HK.out]
    have e3 : w4.frozen? ⟨b, 3, none⟩ = false := by simp [World.frozen?, HK.out]
    have HQ1 := Lib.hid ((hT4 rb (by simp)).trans HQ.out)
    clear hT0 hT
    clear hT1
    clear hT2
    clear hT3
    clear hT4
    go_simp
    clear g0 g1 g2 g3 e0 e1 e2 e3
    obtain ⟨V, hV, kb, ko, kB⟩ := set4 HK.out (.string p) (.int .i64 (q)) (.string (s.extract 0 m.toNat)) (.bool (u == 0))
    rw [hV]
    have HV := Lib.hid (kB _ HB4.out HG.out)
    have HQ2 := Lib.hid ((ko _ (Ne.symm HN.out)).trans HQ1.out)
    have HKb := Lib.hid kb
    refine hK.out _ _ (fun h => absurd h (by omega)) ?_
    clear hK K hV kB ko kb
    refine Held.AnyS.done (by kernel_rfl) ?_ _
    go_simp
    by_cases hc1 : q = 1
    · have HC1 := Lib.hid hc1
      have g0 : V.cell? ⟨b, 0, none⟩ = some (#[.string p, .int .i64 (q), .string (s.extract 0 m.toNat), .bool (u == 0)][0]) := (blk_cell HKb.out 0).trans rfl
      have gf0 : V.frozen? ⟨b, 0, none⟩ = false := by simp [World.frozen?, HKb.out]
      have g1 : V.cell? ⟨b, 1, none⟩ = some (#[.string p, .int .i64 (q), .string (s.extract 0 m.toNat), .bool (u == 0)][1]) := (blk_cell HKb.out 1).trans rfl
      have gf1 : V.frozen? ⟨b, 1, none⟩ = false := by simp [World.frozen?, HKb.out]
      have g2 : V.cell? ⟨b, 2, none⟩ = some (#[.string p, .int .i64 (q), .string (s.extract 0 m.toNat), .bool (u == 0)][2]) := (blk_cell HKb.out 2).trans rfl
      have gf2 : V.frozen? ⟨b, 2, none⟩ = false := by simp [World.frozen?, HKb.out]
      have g3 : V.cell? ⟨b, 3, none⟩ = some (#[.string p, .int .i64 (q), .string (s.extract 0 m.toNat), .bool (u == 0)][3]) := (blk_cell HKb.out 3).trans rfl
      have gf3 : V.frozen? ⟨b, 3, none⟩ = false := by simp [World.frozen?, HKb.out]
      have hc2 : (q == 1) = true := beq_iff_eq.2 hc1
      obtain ⟨V1, hV1, kb, ko, kB⟩ := set1 HKb.out (.string (⟨#[]⟩ : ByteArray))
      have HV1 := Lib.hid (kB _ HV.out HG.out)
      have HQ3 := Lib.hid ((ko _ (Ne.symm HN.out)).trans HQ2.out)
      have HV2 := Lib.hid hV1
      have i0 : V1.cell? ⟨b, 0, none⟩ = some (#[.string p, .int .i64 (q), .string (⟨#[]⟩ : ByteArray), .bool (u == 0)][0]) := (blk_cell kb 0).trans rfl
      have if0 : V1.frozen? ⟨b, 0, none⟩ = false := by simp [World.frozen?, kb]
      have i1 : V1.cell? ⟨b, 1, none⟩ = some (#[.string p, .int .i64 (q), .string (⟨#[]⟩ : ByteArray), .bool (u == 0)][1]) := (blk_cell kb 1).trans rfl
      have if1 : V1.frozen? ⟨b, 1, none⟩ = false := by simp [World.frozen?, kb]
      have i2 : V1.cell? ⟨b, 2, none⟩ = some (#[.string p, .int .i64 (q), .string (⟨#[]⟩ : ByteArray), .bool (u == 0)][2]) := (blk_cell kb 2).trans rfl
      have if2 : V1.frozen? ⟨b, 2, none⟩ = false := by simp [World.frozen?, kb]
      have i3 : V1.cell? ⟨b, 3, none⟩ = some (#[.string p, .int .i64 (q), .string (⟨#[]⟩ : ByteArray), .bool (u == 0)][3]) := (blk_cell kb 3).trans rfl
      have if3 : V1.frozen? ⟨b, 3, none⟩ = false := by simp [World.frozen?, kb]
      have r0 : V1.cell? ⟨rb, 0, none⟩ = some (#[.string (⟨#[]⟩ : ByteArray), .int .i64 0, .string (⟨#[]⟩ : ByteArray), .bool false][0]) := (blk_cell HQ3.out 0).trans rfl
      have rf0 : V1.frozen? ⟨rb, 0, none⟩ = false := by simp [World.frozen?, HQ3.out]
      have r1 : V1.cell? ⟨rb, 1, none⟩ = some (#[.string (⟨#[]⟩ : ByteArray), .int .i64 0, .string (⟨#[]⟩ : ByteArray), .bool false][1]) := (blk_cell HQ3.out 1).trans rfl
      have rf1 : V1.frozen? ⟨rb, 1, none⟩ = false := by simp [World.frozen?, HQ3.out]
      have r2 : V1.cell? ⟨rb, 2, none⟩ = some (#[.string (⟨#[]⟩ : ByteArray), .int .i64 0, .string (⟨#[]⟩ : ByteArray), .bool false][2]) := (blk_cell HQ3.out 2).trans rfl
      have rf2 : V1.frozen? ⟨rb, 2, none⟩ = false := by simp [World.frozen?, HQ3.out]
      have r3 : V1.cell? ⟨rb, 3, none⟩ = some (#[.string (⟨#[]⟩ : ByteArray), .int .i64 0, .string (⟨#[]⟩ : ByteArray), .bool false][3]) := (blk_cell HQ3.out 3).trans rfl
      have rf3 : V1.frozen? ⟨rb, 3, none⟩ = false := by simp [World.frozen?, HQ3.out]
      obtain ⟨U, hU, lb, lo, lB⟩ := set4 HQ3.out (.string p) (.int .i64 (q)) (.string (⟨#[]⟩ : ByteArray)) (.bool (u == 0))
      have x0 : U.cell? ⟨rb, 0, none⟩ = some (#[.string p, .int .i64 (q), .string (⟨#[]⟩ : ByteArray), .bool (u == 0)][0]) := (blk_cell lb 0).trans rfl
      have xf0 : U.frozen? ⟨rb, 0, none⟩ = false := by simp [World.frozen?, lb]
      have x1 : U.cell? ⟨rb, 1, none⟩ = some (#[.string p, .int .i64 (q), .string (⟨#[]⟩ : ByteArray), .bool (u == 0)][1]) := (blk_cell lb 1).trans rfl
      have xf1 : U.frozen? ⟨rb, 1, none⟩ = false := by simp [World.frozen?, lb]
      have x2 : U.cell? ⟨rb, 2, none⟩ = some (#[.string p, .int .i64 (q), .string (⟨#[]⟩ : ByteArray), .bool (u == 0)][2]) := (blk_cell lb 2).trans rfl
      have xf2 : U.frozen? ⟨rb, 2, none⟩ = false := by simp [World.frozen?, lb]
      have x3 : U.cell? ⟨rb, 3, none⟩ = some (#[.string p, .int .i64 (q), .string (⟨#[]⟩ : ByteArray), .bool (u == 0)][3]) := (blk_cell lb 3).trans rfl
      have xf3 : U.frozen? ⟨rb, 3, none⟩ = false := by simp [World.frozen?, lb]
      have HU1 := Lib.hid (lB _ HV1.out (by have := HRB.out; omega))
      have HU2 := Lib.hid hU
      clear hV1 kb ko kB hU lo lB hc1
      refine hEND _ _ ?_
      clear hEND
      go_wp2_with (first | (rw [HU2.out]) | (rw [HV2.out]))
      refine bodyPost_ret (results_cell_row rfl _ _ rb 33 #[.string p, .int .i64 (q), .string (⟨#[]⟩ : ByteArray), .bool (u == 0)] (0, 0) _ rfl lb Try.underlying33 rfl (by kernel_rfl)) rfl ?_
      have hq := HQQ.out
      rw [i64_w] at hq
      exact ⟨by rw [← HAN.out, ← HQ0.out, hq, if_pos HC1.out], HU1.out⟩
    · have HC1 := Lib.hid hc1
      have g0 : V.cell? ⟨b, 0, none⟩ = some (#[.string p, .int .i64 (q), .string (s.extract 0 m.toNat), .bool (u == 0)][0]) := (blk_cell HKb.out 0).trans rfl
      have gf0 : V.frozen? ⟨b, 0, none⟩ = false := by simp [World.frozen?, HKb.out]
      have g1 : V.cell? ⟨b, 1, none⟩ = some (#[.string p, .int .i64 (q), .string (s.extract 0 m.toNat), .bool (u == 0)][1]) := (blk_cell HKb.out 1).trans rfl
      have gf1 : V.frozen? ⟨b, 1, none⟩ = false := by simp [World.frozen?, HKb.out]
      have g2 : V.cell? ⟨b, 2, none⟩ = some (#[.string p, .int .i64 (q), .string (s.extract 0 m.toNat), .bool (u == 0)][2]) := (blk_cell HKb.out 2).trans rfl
      have gf2 : V.frozen? ⟨b, 2, none⟩ = false := by simp [World.frozen?, HKb.out]
      have g3 : V.cell? ⟨b, 3, none⟩ = some (#[.string p, .int .i64 (q), .string (s.extract 0 m.toNat), .bool (u == 0)][3]) := (blk_cell HKb.out 3).trans rfl
      have gf3 : V.frozen? ⟨b, 3, none⟩ = false := by simp [World.frozen?, HKb.out]
      have hc2 : (q == 1) = false := beq_eq_false_iff_ne.2 hc1
      have HV1 := HV
      have HQ3 := HQ2
      have r0 : V.cell? ⟨rb, 0, none⟩ = some (#[.string (⟨#[]⟩ : ByteArray), .int .i64 0, .string (⟨#[]⟩ : ByteArray), .bool false][0]) := (blk_cell HQ3.out 0).trans rfl
      have rf0 : V.frozen? ⟨rb, 0, none⟩ = false := by simp [World.frozen?, HQ3.out]
      have r1 : V.cell? ⟨rb, 1, none⟩ = some (#[.string (⟨#[]⟩ : ByteArray), .int .i64 0, .string (⟨#[]⟩ : ByteArray), .bool false][1]) := (blk_cell HQ3.out 1).trans rfl
      have rf1 : V.frozen? ⟨rb, 1, none⟩ = false := by simp [World.frozen?, HQ3.out]
      have r2 : V.cell? ⟨rb, 2, none⟩ = some (#[.string (⟨#[]⟩ : ByteArray), .int .i64 0, .string (⟨#[]⟩ : ByteArray), .bool false][2]) := (blk_cell HQ3.out 2).trans rfl
      have rf2 : V.frozen? ⟨rb, 2, none⟩ = false := by simp [World.frozen?, HQ3.out]
      have r3 : V.cell? ⟨rb, 3, none⟩ = some (#[.string (⟨#[]⟩ : ByteArray), .int .i64 0, .string (⟨#[]⟩ : ByteArray), .bool false][3]) := (blk_cell HQ3.out 3).trans rfl
      have rf3 : V.frozen? ⟨rb, 3, none⟩ = false := by simp [World.frozen?, HQ3.out]
      obtain ⟨U, hU, lb, lo, lB⟩ := set4 HQ3.out (.string p) (.int .i64 (q)) (.string (s.extract 0 m.toNat)) (.bool (u == 0))
      have x0 : U.cell? ⟨rb, 0, none⟩ = some (#[.string p, .int .i64 (q), .string (s.extract 0 m.toNat), .bool (u == 0)][0]) := (blk_cell lb 0).trans rfl
      have xf0 : U.frozen? ⟨rb, 0, none⟩ = false := by simp [World.frozen?, lb]
      have x1 : U.cell? ⟨rb, 1, none⟩ = some (#[.string p, .int .i64 (q), .string (s.extract 0 m.toNat), .bool (u == 0)][1]) := (blk_cell lb 1).trans rfl
      have xf1 : U.frozen? ⟨rb, 1, none⟩ = false := by simp [World.frozen?, lb]
      have x2 : U.cell? ⟨rb, 2, none⟩ = some (#[.string p, .int .i64 (q), .string (s.extract 0 m.toNat), .bool (u == 0)][2]) := (blk_cell lb 2).trans rfl
      have xf2 : U.frozen? ⟨rb, 2, none⟩ = false := by simp [World.frozen?, lb]
      have x3 : U.cell? ⟨rb, 3, none⟩ = some (#[.string p, .int .i64 (q), .string (s.extract 0 m.toNat), .bool (u == 0)][3]) := (blk_cell lb 3).trans rfl
      have xf3 : U.frozen? ⟨rb, 3, none⟩ = false := by simp [World.frozen?, lb]
      have HU1 := Lib.hid (lB _ HV1.out (by have := HRB.out; omega))
      have HU2 := Lib.hid hU
      clear hU lo lB hc1
      refine hEND _ _ ?_
      clear hEND
      go_wp2_with (first | (rw [HU2.out]))
      refine bodyPost_ret (results_cell_row rfl _ _ rb 33 #[.string p, .int .i64 (q), .string (s.extract 0 m.toNat), .bool (u == 0)] (0, 0) _ rfl lb Try.underlying33 rfl (by kernel_rfl)) rfl ?_
      have hq := HQQ.out
      rw [i64_w] at hq
      exact ⟨by rw [← HAN.out, ← HQ0.out, hq, if_neg HC1.out, HMM.out], HU1.out⟩
end
theorem collatorlaw02_Item.calls (k : Nat) (A0_0 : Option Addr) (c0_0 : Nat) (l0_0 : List Int) (a0_1 : Int) (a0_2 : ByteArray) (a0_3 : Int) (r1 : ByteArray) (r2 : Int) (r3 : ByteArray) (r4 : Bool) (w : World) (hr0_0 : Kd.C (Kd.int .i64) w A0_0 l0_0.length l0_0) (hc0_0 : l0_0.length ≤ c0_0) (h : collatorlaw02_Item.f k l0_0 a0_1 a0_2 a0_3 = some (r1, r2, r3, r4)) :
    Calls Try.prog 14 #[.agg #[.slice A0_0 l0_0.length c0_0, .int .i64 a0_1, .string a0_2, .int .i64 a0_3]] w fun e w' => e = .returned (.agg #[.string r1, .int .i64 r2, .string r3, .bool r4]) ∧ Below w.heap.size w w' := by
  unfold collatorlaw02_Item.f at h
  obtain ⟨p, hp, h⟩ := Option.bind_eq_some_iff.1 h
  obtain ⟨t, ht, h⟩ := Option.bind_eq_some_iff.1 h
  obtain ⟨u, hu, h⟩ := Option.bind_eq_some_iff.1 h
  simp only [Option.some.injEq, Prod.mk.injEq] at h
  obtain ⟨rfl, rfl, rfl, rfl⟩ := h
  exact item_run k A0_0 c0_0 l0_0 a0_1 a0_2 a0_3 p t u w hr0_0 hc0_0 hp ht hu
theorem field_fault (s : ByteArray) (n : Int) (w : World) : (Instr.field 62 (.agg #[.string s, .int .i64 n]) 1).run Try.prog w = .ok (.int .i64 n) w := by kernel_rfl
attribute [go_sem] field_fault
end Go.Proofs.Ytcgnkbdfoaiaiaa.P
end
section
/- Laid for this claim by hp.py, this session's program round the kit's print: functions of the program as plain Lean functions, the proofs that the code comes to their answers, and the rows of the laws. Not trusted: Lean checks it. -/
namespace Go.Proofs.Ytcgnkbdfoaiaiaa.P
open Go.RowKit Go.Proofs.YtcgnkbdfoaiaiaaW.PrintWords Go.Proofs.YtcgnkbdfoaiaiaaW.PrintLast Go.Proofs.YtcgnkbdfoaiaiaaW.PrintMore
attribute [local go_sem] max2_int min2_int max_two min_two max_three min_three max_four min_four   -- for this text's walks alone
set_option linter.unusedVariables false
set_option linter.unusedSimpArgs false

/-! ### collatorlaw02_Tree: function 13 -/
mutual
def collatorlaw02_Tree.l0 : Nat → List (S41) → List (S33) → Int → Option ((List (S33)))
 | 0, _, _, _ => none
 | k + 1, x0, x3, x4 => if x4 < (x0.length : Int) then (collatorlaw02_Tree.j1 k x0 x3 x4 (decide (x4 < 14))) else (collatorlaw02_Tree.j1 k x0 x3 x4 false)
def collatorlaw02_Tree.j1 : Nat → List (S41) → List (S33) → Int → Bool → Option ((List (S33)))
 | 0, _, _, _, _ => none
 | k + 1, x0, x3, x4, x19 => if x19 = true then (if 0 ≤ x4 then (if x4 < (x0.length : Int) then ((collatorlaw02_Item.f k ((rd_T41 x0 x4).f0) ((rd_T41 x0 x4).f1) ((rd_T41 x0 x4).f2) ((rd_T41 x0 x4).f3)).bind fun bt314 => ((collatorref01_Parts.f k bt314.1).bind fun t319 => (if ([] : List (S33)).length + x3.length < 2932031007402 then (collatorlaw02_Tree.l1 k x0 x3 x4 t319 (([] : List (S33)) ++ x3) (⟨#[]⟩ : ByteArray) 0 bt314.1 bt314.2.1 bt314.2.2.1 false) else (none)))) else (none)) else (none)) else (some x3)
def collatorlaw02_Tree.l1 : Nat → List (S41) → List (S33) → Int → List ByteArray → List (S33) → ByteArray → Int → ByteArray → Int → ByteArray → Bool → Option ((List (S33)))
 | 0, _, _, _, _, _, _, _, _, _, _, _ => none
 | k + 1, x0, x3, x4, x6, x7, x8, x9, x319000, x319001, x319002, x319003 => if (wrap64 (x9 + 1)) < (x6.length : Int) then (if 0 ≤ x9 then (if x9 < (x6.length : Int) then ((collatorref01_Join.f x8 (rdOf ByteArray.empty x6 x9)).bind fun t326 => ((collatorref02_Find.f k x7 t326).bind fun bt327 => (if bt327.2.2.2.2 = true then (collatorlaw02_Tree.l1 k x0 x3 x4 x6 x7 t326 (wrap64 (x9 + 1)) x319000 x319001 x319002 x319003) else (if x7.length < 2932031007402 then (collatorlaw02_Tree.l1 k x0 x3 x4 x6 (x7 ++ [(⟨t326, 1, (⟨#[]⟩ : ByteArray), false⟩ : S33)]) t326 (wrap64 (x9 + 1)) x319000 x319001 x319002 x319003) else (none))))) else (none)) else (none)) else (if x7.length < 2932031007402 then ((some (x7 ++ [(⟨x319000, x319001, x319002, x319003⟩ : S33)] : List (S33))).bind fun y336 => ((collatorlaw02_Wide.f).bind fun bt339 => ((collatorref02_Check.f k y336 bt339.1 bt339.2.1 bt339.2.2).bind fun bt342 => (if bt342.2 = 0 then (collatorlaw02_Tree.l0 k x0 y336 (wrap64 (x4 + 1))) else (collatorlaw02_Tree.l0 k x0 x3 (wrap64 (x4 + 1))))))) else (none))
end
def collatorlaw02_Tree.f (k : Nat) (l0 : List (S41)) : Option ((List (S33))) := collatorlaw02_Tree.l0 k l0 ([] : List (S33)) 0
theorem collatorlaw02_Tree.mono_l : ∀ k, (∀ y0 y1 y2, LeO (collatorlaw02_Tree.l0 k y0 y1 y2) (collatorlaw02_Tree.l0 (k + 1) y0 y1 y2)) ∧ (∀ y0 y1 y2 y3, LeO (collatorlaw02_Tree.j1 k y0 y1 y2 y3) (collatorlaw02_Tree.j1 (k + 1) y0 y1 y2 y3)) ∧ (∀ y0 y1 y2 y3 y4 y5 y6 y7 y8 y9 y10, LeO (collatorlaw02_Tree.l1 k y0 y1 y2 y3 y4 y5 y6 y7 y8 y9 y10) (collatorlaw02_Tree.l1 (k + 1) y0 y1 y2 y3 y4 y5 y6 y7 y8 y9 y10))
 | 0 => ⟨fun _ _ _ r h => by simp [collatorlaw02_Tree.l0] at h, fun _ _ _ _ r h => by simp [collatorlaw02_Tree.j1] at h, fun _ _ _ _ _ _ _ _ _ _ _ r h => by simp [collatorlaw02_Tree.l1] at h⟩
 | k + 1 => by
  obtain ⟨ih0, ih1, ih2⟩ := collatorlaw02_Tree.mono_l k
  refine ⟨?_, ?_, ?_⟩
  ·intro y0 y1 y2
   unfold collatorlaw02_Tree.l0
   repeat' first
   | (with_reducible exact ih0 _ _ _)
   | (with_reducible exact ih1 _ _ _ _)
   | (with_reducible exact ih2 _ _ _ _ _ _ _ _ _ _ _)
   | (with_reducible exact collatorlaw02_Item.mono _ _ _ _ _)
   | (with_reducible exact collatorref01_Parts.mono _ _)
   | (with_reducible exact collatorref02_Check.mono _ _ _ _ _)
   | (with_reducible exact collatorref02_Find.mono _ _ _)
   | (with_reducible exact LeO.refl _)
   | (with_reducible exact LeO.none _)
   | (with_reducible refine LeO.ite ?_ ?_)
   | (with_reducible refine LeO.bind ?_ (fun _ => ?_))
   | exact ih0 _ _ _
   | exact ih1 _ _ _ _
   | exact ih2 _ _ _ _ _ _ _ _ _ _ _
   | exact collatorlaw02_Item.mono _ _ _ _ _
   | exact collatorref01_Parts.mono _ _
   | exact collatorref02_Check.mono _ _ _ _ _
   | exact collatorref02_Find.mono _ _ _
   | exact LeO.none _
   | refine LeO.ite ?_ ?_
   | refine LeO.bind ?_ (fun _ => ?_)
  ·intro y0 y1 y2 y3
   unfold collatorlaw02_Tree.j1
   repeat' first
   | (with_reducible exact ih0 _ _ _)
   | (with_reducible exact ih1 _ _ _ _)
   | (with_reducible exact ih2 _ _ _ _ _ _ _ _ _ _ _)
   | (with_reducible exact collatorlaw02_Item.mono _ _ _ _ _)
   | (with_reducible exact collatorref01_Parts.mono _ _)
   | (with_reducible exact collatorref02_Check.mono _ _ _ _ _)
   | (with_reducible exact collatorref02_Find.mono _ _ _)
   | (with_reducible exact LeO.refl _)
   | (with_reducible exact LeO.none _)
   | (with_reducible refine LeO.ite ?_ ?_)
   | (with_reducible refine LeO.bind ?_ (fun _ => ?_))
   | exact ih0 _ _ _
   | exact ih1 _ _ _ _
   | exact ih2 _ _ _ _ _ _ _ _ _ _ _
   | exact collatorlaw02_Item.mono _ _ _ _ _
   | exact collatorref01_Parts.mono _ _
   | exact collatorref02_Check.mono _ _ _ _ _
   | exact collatorref02_Find.mono _ _ _
   | exact LeO.none _
   | refine LeO.ite ?_ ?_
   | refine LeO.bind ?_ (fun _ => ?_)
  ·intro y0 y1 y2 y3 y4 y5 y6 y7 y8 y9 y10
   unfold collatorlaw02_Tree.l1
   repeat' first
   | (with_reducible exact ih0 _ _ _)
   | (with_reducible exact ih1 _ _ _ _)
   | (with_reducible exact ih2 _ _ _ _ _ _ _ _ _ _ _)
   | (with_reducible exact collatorlaw02_Item.mono _ _ _ _ _)
   | (with_reducible exact collatorref01_Parts.mono _ _)
   | (with_reducible exact collatorref02_Check.mono _ _ _ _ _)
   | (with_reducible exact collatorref02_Find.mono _ _ _)
   | (with_reducible exact LeO.refl _)
   | (with_reducible exact LeO.none _)
   | (with_reducible refine LeO.ite ?_ ?_)
   | (with_reducible refine LeO.bind ?_ (fun _ => ?_))
   | exact ih0 _ _ _
   | exact ih1 _ _ _ _
   | exact ih2 _ _ _ _ _ _ _ _ _ _ _
   | exact collatorlaw02_Item.mono _ _ _ _ _
   | exact collatorref01_Parts.mono _ _
   | exact collatorref02_Check.mono _ _ _ _ _
   | exact collatorref02_Find.mono _ _ _
   | exact LeO.none _
   | refine LeO.ite ?_ ?_
   | refine LeO.bind ?_ (fun _ => ?_)
theorem collatorlaw02_Tree.mono : ∀ a0 k, LeO (collatorlaw02_Tree.f k a0) (collatorlaw02_Tree.f (k + 1) a0) := by
 intro a0 k
 obtain ⟨ih0, ih1, ih2⟩ := collatorlaw02_Tree.mono_l k
 unfold collatorlaw02_Tree.f
 repeat' first
   | (with_reducible exact ih0 _ _ _)
   | (with_reducible exact ih1 _ _ _ _)
   | (with_reducible exact ih2 _ _ _ _ _ _ _ _ _ _ _)
   | (with_reducible exact collatorlaw02_Item.mono _ _ _ _ _)
   | (with_reducible exact collatorref01_Parts.mono _ _)
   | (with_reducible exact collatorref02_Check.mono _ _ _ _ _)
   | (with_reducible exact collatorref02_Find.mono _ _ _)
   | (with_reducible exact LeO.refl _)
   | (with_reducible exact LeO.none _)
   | (with_reducible refine LeO.ite ?_ ?_)
   | (with_reducible refine LeO.bind ?_ (fun _ => ?_))
   | exact ih0 _ _ _
   | exact ih1 _ _ _ _
   | exact ih2 _ _ _ _ _ _ _ _ _ _ _
   | exact collatorlaw02_Item.mono _ _ _ _ _
   | exact collatorref01_Parts.mono _ _
   | exact collatorref02_Check.mono _ _ _ _ _
   | exact collatorref02_Find.mono _ _ _
   | exact LeO.none _
   | refine LeO.ite ?_ ?_
   | refine LeO.bind ?_ (fun _ => ?_)
set_option maxHeartbeats 8000000 in
set_option maxRecDepth 100000 in
theorem collatorlaw02_Tree.calls (k : Nat) (A0 : Option Addr) (c0 : Nat) (l0 : List (S41)) (r : List (S33)) (w : World) (hr0 : Kd.C k41 w A0 l0.length l0) (hc0 : l0.length ≤ c0) (h : collatorlaw02_Tree.f k l0 = some r) :
  Calls Try.prog 13 #[.slice A0 l0.length c0] w fun e w' => ∃ v0_ : Value, e = .returned (v0_) ∧ Kd.R k33 33 w' w.heap.size (fun _ => True) v0_ r ∧ Below w.heap.size w w' := by
 have hu41 := Try.underlying41
 have hu33 := Try.underlying33
 have HR0 := Aside0.mk hr0
 have HC0 := Aside0.mk hc0
 clear hr0 hc0
 have HB := Aside0.mk (Below.refl w.heap.size w)
 have H : (collatorlaw02_Tree.l0 k l0 ([] : List (S33)) 0) = some r := h
 clear h
 have H' := Aside0.mk H
 clear H
 go_enter Try.func13, Try.ntmps13
 go_wp2
 go_loopg [3, 4] k (fun kq v3 v4 w' => ∃ (x3_1 : List (S33)) (x4_1 : Int), v4 = .int .i64 x4_1 ∧ Aside0 (collatorlaw02_Tree.l0 kq l0 x3_1 x4_1 = some r) ∧ Aside0 (kq ≤ k) ∧ Aside0 (Kd.R k33 33 w' w.heap.size (fun _ => True) v3 x3_1) ∧ Aside0 (Below w.heap.size w w'))
 case atStart => exact ⟨(([] : List (S33))), (0), (by first | rfl | (simp; done) | (simp [*]; done)), H', ⟨Nat.le_refl _⟩, ⟨by first | exact Kd.R_nil _ _ _ _ _ | exact Kd.N_nil _ _ _ _ _ | exact Kd.V_nil _ _ _ _ _ | exact Kd.Q_nil _ _ _ _ _ | exact Kd.S_nil _ _ _ _ _⟩, ⟨by repeat (first | (with_reducible first | exact HB.out | apply below_alloc | apply pw_below_drewN | apply below_drew1) | exact HB.out)⟩⟩
 case round =>
  clear H'
  (try clear c1)
  obtain ⟨x3_1, x4_1, rfl, HA, HK1, HO_3, HB⟩ := hrel
  cases gk with
  | zero => exact absurd HA.out (by simp [collatorlaw02_Tree.l0])
  | succ k1 =>
   have H := HA.out
   clear HA
   simp only [collatorlaw02_Tree.l0] at H
   have HC2 := Aside0.mk H
   clear H
   go_upto_region 3 with (fail)
   go_cut [19] (fun v19 wc => ∃ (kq : Nat) (x19_1 : Bool), v19 = .bool x19_1 ∧ Aside0 (collatorlaw02_Tree.j1 kq l0 x3_1 x4_1 x19_1 = some r) ∧ Aside0 (kq ≤ k1) ∧ Aside0 (Kd.R k33 33 wc w.heap.size (fun _ => True) u3 x3_1) ∧ Aside0 (Below w.heap.size w wc))
   case first =>
    have H := HC2.out
    clear HC2
    by_cases c3 : x4_1 < (l0.length : Int)
    ·rw [if_pos c3] at H
     have c3b0 : decide (x4_1 < (l0.length : Int)) = true := decide_eq_true c3
     clear c3
     (first | rw [c3b0] | rw [c3b1] | (simp only [i64_w, i32_w]; rw [c3b0]) | skip)
     have H' := Aside0.mk H
     clear H
     go_wp2
     go_meet
     case rel => exact ⟨_, (decide (x4_1 < 14)), (by first | rfl | (simp; done) | (simp [*]; done)), H', ⟨by have := HK1.out; first | omega | exact Nat.le_refl _⟩, ⟨by (with_reducible repeat (first | apply Kd.R_alloc | apply Kd.R_drewN | apply Kd.R_drew)); exact HO_3.out⟩, ⟨by repeat (first | (with_reducible first | exact HB.out | apply below_alloc | apply pw_below_drewN | apply below_drew1) | exact HB.out)⟩⟩
    ·rw [if_neg c3] at H
     have c3b0 : decide (x4_1 < (l0.length : Int)) = false := decide_eq_false c3
     clear c3
     (first | rw [c3b0] | rw [c3b1] | (simp only [i64_w, i32_w]; rw [c3b0]) | skip)
     have H' := Aside0.mk H
     clear H
     go_wp2
     go_meet
     case rel => exact ⟨_, (false), (by first | rfl | (simp; done) | (simp [*]; done)), H', ⟨by have := HK1.out; first | omega | exact Nat.le_refl _⟩, ⟨by (with_reducible repeat (first | apply Kd.R_alloc | apply Kd.R_drewN | apply Kd.R_drew)); exact HO_3.out⟩, ⟨by repeat (first | (with_reducible first | exact HB.out | apply below_alloc | apply pw_below_drewN | apply below_drew1) | exact HB.out)⟩⟩
   case rest =>
    clear HC2
    (try clear c1);(try clear p2);(try clear c3);(try clear c3b0)
    obtain ⟨kq, x19_1, rfl, HA, HJ1, HO_3, HB⟩ := hcut
    cases kq with
    | zero => exact absurd HA.out (by simp [collatorlaw02_Tree.j1])
    | succ kj1 =>
     have H := HA.out
     clear HA
     simp only [collatorlaw02_Tree.j1] at H
     by_cases c4 : x19_1 = true
     ·subst c4
      have H1 : (if 0 ≤ x4_1 then (if x4_1 < (l0.length : Int) then ((collatorlaw02_Item.f kj1 ((rd_T41 l0 x4_1).f0) ((rd_T41 l0 x4_1).f1) ((rd_T41 l0 x4_1).f2) ((rd_T41 l0 x4_1).f3)).bind fun bt314 => ((collatorref01_Parts.f kj1 bt314.1).bind fun t319 => (if ([] : List (S33)).length + x3_1.length < 2932031007402 then (collatorlaw02_Tree.l1 kj1 l0 x3_1 x4_1 t319 (([] : List (S33)) ++ x3_1) (⟨#[]⟩ : ByteArray) 0 bt314.1 bt314.2.1 bt314.2.2.1 false) else (none)))) else (none)) else (none)) = some r := by rw [if_pos rfl] at H; exact H
      clear H
      have H := H1
      clear H1
      by_cases c5 : 0 ≤ x4_1
      ·rw [if_pos c5] at H
       have c5b0 : decide (0 ≤ x4_1) = true := decide_eq_true c5
       clear c5
       by_cases c6 : x4_1 < (l0.length : Int)
       ·rw [if_pos c6] at H
        have c6b0 : decide (x4_1 < (l0.length : Int)) = true := decide_eq_true c6
        clear c6
        replace H := Option.bind_eq_some_iff.mp H
        obtain ⟨⟨t314, t315, t316, t317⟩, A70, H⟩ := H
        replace H : ((collatorref01_Parts.f kj1 t314).bind fun t319 => (if ([] : List (S33)).length + x3_1.length < 2932031007402 then (collatorlaw02_Tree.l1 kj1 l0 x3_1 x4_1 t319 (([] : List (S33)) ++ x3_1) (⟨#[]⟩ : ByteArray) 0 t314 t315 t316 false) else (none))) = some r := H
        have A7 := Aside0.mk A70
        clear A70
        replace H := Option.bind_eq_some_iff.mp H
        obtain ⟨t319, A80, H⟩ := H
        replace H : (if ([] : List (S33)).length + x3_1.length < 2932031007402 then (collatorlaw02_Tree.l1 kj1 l0 x3_1 x4_1 t319 (([] : List (S33)) ++ x3_1) (⟨#[]⟩ : ByteArray) 0 t314 t315 t316 false) else (none)) = some r := H
        have A8 := Aside0.mk A80
        clear A80
        by_cases c9 : ([] : List (S33)).length + x3_1.length < 2932031007402
        ·rw [if_pos c9] at H
         have LMc9 := Aside0.mk c9
         clear c9
         obtain ⟨y322, hy322⟩ : ∃ y_ : List (S33), y_ = (([] : List (S33)) ++ x3_1) := ⟨_, rfl⟩
         replace H : (collatorlaw02_Tree.l1 kj1 l0 x3_1 x4_1 t319 y322 (⟨#[]⟩ : ByteArray) 0 t314 t315 t316 false) = some r := by first | (rw [hy322]; with_reducible exact H) | (have H2_ := (Option.bind_some _ _).symm.trans H; rw [hy322]; with_reducible exact H2_) | (have H2_ := (Option.bind_some _ _).symm.trans H; with_reducible exact H2_) | with_reducible exact H | (rw [hy322]; exact H) | exact H
         have Ny322 := Aside0.mk hy322
         clear hy322
         have H' := Aside0.mk H
         clear H
         have p313 : 0 ≤ (x4_1 : Int) := of_decide_eq_true (by first | (with_reducible assumption) | assumption)
         have q313 : x4_1 < (l0.length : Int) := of_decide_eq_true (by first | (with_reducible assumption) | assumption)
         obtain ⟨ad313, A313_0, c313_0, e313, hx313_0, hx313_1, hx313_2, hx313_3, hl313_0, hi313_0⟩ := at_T41 HR0.out x4_1 p313 q313
         cases e313
         replace hx313_0 := (HB.out.cell (World.block_lt_of_cell? w _ hx313_0)).trans hx313_0
         replace hx313_1 := (HB.out.cell (World.block_lt_of_cell? w _ hx313_1)).trans hx313_1
         replace hx313_2 := (HB.out.cell (World.block_lt_of_cell? w _ hx313_2)).trans hx313_2
         replace hx313_3 := (HB.out.cell (World.block_lt_of_cell? w _ hx313_3)).trans hx313_3
         have HR313_0 := Aside0.mk hi313_0
         have HC313_0 := Aside0.mk hl313_0
         clear hi313_0 hl313_0
         replace p313 := eq_true p313
         replace q313 := eq_true q313
         go_wp2_with (first | ((with_reducible refine gate_callee (f := 14) rfl ?_); refine goesL_ _ rfl rfl Try.func14 (by kernel_rfl) rfl #[.agg #[.slice A313_0 ((rd_T41 l0 x4_1).f0).length c313_0, .int .i64 ((rd_T41 l0 x4_1).f1), .string ((rd_T41 l0 x4_1).f2), .int .i64 ((rd_T41 l0 x4_1).f3)]] rfl (by (try simp only [List.map_toArray, List.map_cons, List.map_nil]); first | done | rfl | (simp only [List.length_drop, List.length_take]; rfl)) ?_; (with_reducible refine (collatorlaw02_Item.calls kj1 _ _ ((rd_T41 l0 x4_1).f0) ((rd_T41 l0 x4_1).f1) ((rd_T41 l0 x4_1).f2) ((rd_T41 l0 x4_1).f3) t314 t315 t316 t317 _ ?side1 ?side2 A7.out).mono ?_); (case side1 => repeat (first | exact (Kd.C_below HR313_0.out HB.out) | (with_reducible refine Kd.C_alloc ?_ _) | (with_reducible refine Kd.C_drewN ?_ _) | (with_reducible refine Kd.C_drew ?_))); (case side2 => exact HC313_0.out); rintro e w10 ⟨rfl, hb⟩; refine ⟨_, rfl, ?_⟩; have n0_ := Aside0.mk (Kd.R_below (by (with_reducible repeat (first | apply Kd.R_alloc | apply Kd.R_drewN | apply Kd.R_drew)); exact HO_3.out) hb); have n1_ := Aside0.mk (below_step (by repeat (first | (with_reducible first | exact HB.out | apply below_alloc | apply pw_below_drewN | apply below_drew1) | exact HB.out)) hb); clear HO_3; clear HB; have HO_3 := n0_; have HB := n1_; clear n0_ n1_; (try clear hb); (try clear hb2); (try clear hk); (try clear hi)) | ((with_reducible refine gate_dst (N := 5) rfl ?_); refine box_event ?hg (N := 5) ?hd (cs := #[.string (⟨#[]⟩ : ByteArray), .int .i64 0, .string (⟨#[]⟩ : ByteArray), .bool false]) (t := 33) ?hr ?_; (case hd => rfl); (case hg => rfl); (case hr => first | (go_simp; done) | (go_simp; rfl)); intro gb318 hg w11 hbox hb; have n0_ := Aside0.mk (Kd.R_below (Kd.R_elderB (by (with_reducible repeat (first | apply Kd.R_alloc | apply Kd.R_drewN | apply Kd.R_drew)); exact HO_3.out) gb318 (Nat.le_of_eq hg.symm)) hb); have n1_ := Aside0.mk (below_step (by repeat (first | (with_reducible first | exact HB.out | apply below_alloc | apply pw_below_drewN | apply below_drew1) | exact HB.out)) hb); have n2_ := Aside0.mk (hbox); have n3_ := Aside0.mk ((by rw [hg]; exact (below_size (by repeat (first | (with_reducible first | exact HB.out | apply below_alloc | apply pw_below_drewN | apply below_drew1) | exact HB.out))) : w.heap.size ≤ gb318)); have n4_ := Aside0.mk ((by rw [hg]; exact (below_size (by repeat (first | (with_reducible first | exact HB.out | apply below_alloc | apply pw_below_drewN | apply below_drew1) | exact HB.out))) : w.heap.size ≤ gb318)); clear HO_3; clear HB; have HO_3 := n0_; have HB := n1_; have BK318 := n2_; have GW318 := n3_; have GE318 := n4_; clear n0_ n1_ n2_ n3_ n4_; clear hb hbox hg; have hcz12_0 : w11.cell? ⟨gb318, 0, none⟩ = some (.string (⟨#[]⟩ : ByteArray)) := (blk_cell BK318.out 0).trans rfl; have hcz12_1 : w11.cell? ⟨gb318, 1, none⟩ = some (.int .i64 0) := (blk_cell BK318.out 1).trans rfl; have hcz12_2 : w11.cell? ⟨gb318, 2, none⟩ = some (.string (⟨#[]⟩ : ByteArray)) := (blk_cell BK318.out 2).trans rfl; have hcz12_3 : w11.cell? ⟨gb318, 3, none⟩ = some (.bool false) := (blk_cell BK318.out 3).trans rfl; have hfz12_0 := blk_frozen BK318.out 0; have hfz12_1 := blk_frozen BK318.out 1; have hfz12_2 := blk_frozen BK318.out 2; have hfz12_3 := blk_frozen BK318.out 3) | ((with_reducible refine gate_callee (f := 24) rfl ?_); refine goesL_ _ rfl rfl Try.func24 (by kernel_rfl) rfl #[.string t314] rfl (by (try simp only [List.map_toArray, List.map_cons, List.map_nil]); first | done | rfl | (simp only [List.length_drop, List.length_take]; rfl)) ?_; (with_reducible refine (collatorref01_Parts.calls kj1 t314 t319 _ A8.out).mono ?_); rintro e w13 ⟨v320, rfl, ho0, hb⟩; refine ⟨_, rfl, ?_⟩; have n0_ := Aside0.mk (Kd.R_below (by (with_reducible repeat (first | apply Kd.R_alloc | apply Kd.R_drewN | apply Kd.R_drew)); exact (Kd.R_mono (Kd.R_far (p := ⟨gb318, 3, none⟩) (Kd.R_far (p := ⟨gb318, 3, none⟩) (Kd.R_far (p := ⟨gb318, 2, none⟩) (Kd.R_far (p := ⟨gb318, 1, none⟩) (Kd.R_far (p := ⟨gb318, 0, none⟩) (Kd.R_mono HO_3.out (fun k_ hk => (⟨hk, hk.2⟩ : _ ∧ k_ ≠ gb318))) (fun _ hk => hk.2) (.string t314)) (fun _ hk => hk.2) (.int .i64 t315)) (fun _ hk => hk.2) (.string t316)) (fun _ hk => hk.2) (.bool t317)) (fun _ hk => hk.2) (.bool false)) (fun _ h_ => h_.1))) hb); have n1_ := Aside0.mk (Kd.R_lower ho0 (below_size (by repeat (first | (with_reducible first | exact HB.out | apply below_alloc | apply pw_below_drewN | apply below_drew1 | refine below_set ?_ GE318.out) | exact HB.out)))); have n2_ := Aside0.mk (blk_below (g := gb318) (o := .cells #[.string t314, .int .i64 t315, .string t316, .bool false] 33 (0, 0)) (by (with_reducible repeat (first | refine blk_drewN ?_ _ | refine blk_drew ?_ | refine blk_alloc ?_ _)); refine blk_put (cs := #[.string t314, .int .i64 t315, .string t316, .bool t317]) ?_ 3 _ rfl; (with_reducible repeat (first | refine blk_drewN ?_ _ | refine blk_drew ?_ | refine blk_alloc ?_ _)); refine blk_put (cs := #[.string t314, .int .i64 t315, .string t316, .bool false]) ?_ 3 _ rfl; (with_reducible repeat (first | refine blk_drewN ?_ _ | refine blk_drew ?_ | refine blk_alloc ?_ _)); refine blk_put (cs := #[.string t314, .int .i64 t315, .string (⟨#[]⟩ : ByteArray), .bool false]) ?_ 2 _ rfl; (with_reducible repeat (first | refine blk_drewN ?_ _ | refine blk_drew ?_ | refine blk_alloc ?_ _)); refine blk_put (cs := #[.string t314, .int .i64 0, .string (⟨#[]⟩ : ByteArray), .bool false]) ?_ 1 _ rfl; (with_reducible repeat (first | refine blk_drewN ?_ _ | refine blk_drew ?_ | refine blk_alloc ?_ _)); refine blk_put (cs := #[.string (⟨#[]⟩ : ByteArray), .int .i64 0, .string (⟨#[]⟩ : ByteArray), .bool false]) ?_ 0 _ rfl; (with_reducible repeat (first | refine blk_drewN ?_ _ | refine blk_drew ?_ | refine blk_alloc ?_ _)); exact BK318.out) hb); have n3_ := Aside0.mk (below_step (by repeat (first | (with_reducible first | exact HB.out | apply below_alloc | apply pw_below_drewN | apply below_drew1 | refine below_set ?_ GE318.out) | exact HB.out)) hb); clear HO_3; clear BK318; clear HB; have HO_3 := n0_; have HO321 := n1_; have BK318 := n2_; have HB := n3_; clear n0_ n1_ n2_ n3_; (try clear hb); (try clear hb2); (try clear hk); (try clear hi); (try clear ho0); (try (obtain ⟨Ao15, co15, eo15⟩ := Kd.R_slice HO_3.out; subst eo15))) | ((with_reducible refine gate_builtin (b := .append) (xs := #[.const (.slice none 0 0), .tmp 31]) rfl ?_); at_builtin; refine Kd.R_append_rows k33 (w0 := w) w.heap.size rfl (.const (.slice none 0 0)) (.tmp 31) 23 33 (.agg #[(.string ⟨#[]⟩), (.int .i64 0), (.string ⟨#[]⟩), (.bool false)]) 48 rfl Try.underlying23 info33 rfl (by decide) (by omega) (.slice none 0 0) ([] : List (S33)) x3_1 _ _ _ (fun k_ => some k_ ≠ (.slice Ao15 x3_1.length co15 : Value).ownBlock ∧ k_ ≠ gb318) (fun _ => False) rfl rfl ?aO ?aR (fun _ _ h => h) (fun _ h => h.elim) ?aF ?aB ?aS ?aL ?_; (case aR => repeat (first | exact (Kd.R_reads' HO_3.out).2.2 | (with_reducible refine Kd.C_alloc ?_ _) | (with_reducible refine Kd.C_drewN ?_ _) | (with_reducible refine Kd.C_drew ?_))); (case aB => exact (by repeat (first | (with_reducible first | exact HB.out | apply below_alloc | apply pw_below_drewN | apply below_drew1 | refine below_set ?_ GE318.out) | exact HB.out))); (case aF => exact (fun k_ hk => ⟨Kd.fresh' (Kd.R_lt (by (with_reducible repeat (first | apply Kd.R_alloc | apply Kd.R_drewN | apply Kd.R_drew)); exact HO_3.out)) k_ hk, Kd.freshB (g := gb318) (o := .cells #[.string t314, .int .i64 t315, .string t316, .bool false] 33 (0, 0)) (by (with_reducible repeat (first | refine blk_drewN ?_ _ | refine blk_drew ?_ | refine blk_alloc ?_ _)); exact BK318.out) k_ hk⟩)); (case aO => exact ((Kd.R_nil _ _ _ _ (fun k_ => some k_ ≠ (.slice Ao15 x3_1.length co15 : Value).ownBlock ∧ k_ ≠ gb318)))); (case aS => exact (below_size (by repeat (first | (with_reducible first | exact HB.out | apply below_alloc | apply pw_below_drewN | apply below_drew1 | refine below_set ?_ GE318.out) | exact HB.out)))); (case aL => have := LMc9.out; omega); intro v323 w14 ho hb hg hat; rw [← Ny322.out] at ho; have n0_ := Aside0.mk (Kd.R_after (Kd.R_apart_nil (by (with_reducible repeat (first | apply Kd.R_alloc | apply Kd.R_drewN | apply Kd.R_drew)); exact HO_3.out)) hg hat); have n1_ := Aside0.mk (blk_grown (g := gb318) (o := .cells #[.string t314, .int .i64 t315, .string t316, .bool false] 33 (0, 0)) (by (with_reducible repeat (first | refine blk_drewN ?_ _ | refine blk_drew ?_ | refine blk_alloc ?_ _)); exact BK318.out) hg (by simp [Value.ownBlock])); have n2_ := Aside0.mk (Kd.R_grown (by (with_reducible repeat (first | apply Kd.R_alloc | apply Kd.R_drewN | apply Kd.R_drew)); exact HO321.out) hg (fun _ _ => by simp [Value.ownBlock])); have n3_ := Aside0.mk (hb); have n4_ := Aside0.mk (ho); clear HO_3; clear BK318; clear HO321; clear HB; have HO_3 := n0_; have BK318 := n1_; have HO321 := n2_; have HB := n3_; have HO324 := n4_; clear n0_ n1_ n2_ n3_ n4_; clear ho hb hg hat))
         go_loopg [7, 8, 9] kj1 (fun kq v7 v8 v9 w' => ∃ (x7_3 : List (S33)) (x8_3 : ByteArray) (x9_3 : Int), v8 = .string x8_3 ∧ v9 = .int .i64 x9_3 ∧ Aside0 (collatorlaw02_Tree.l1 kq l0 x3_1 x4_1 t319 x7_3 x8_3 x9_3 t314 t315 t316 false = some r) ∧ Aside0 (kq ≤ kj1) ∧ Aside0 (Kd.R k33 33 w' w.heap.size (fun k_ => some k_ ≠ (v7 : Value).ownBlock ∧ k_ ≠ gb318) (.slice Ao15 x3_1.length co15) x3_1) ∧ Aside0 (Kd.R Kd.string 9 w' w.heap.size (fun _ => True) v320 t319) ∧ Aside0 (Kd.R k33 33 w' w.heap.size (fun k_ => some k_ ≠ ((.slice Ao15 x3_1.length co15) : Value).ownBlock ∧ k_ ≠ gb318) v7 x7_3) ∧ Aside0 (w'.heap[gb318]? = some (.cells #[.string t314, .int .i64 t315, .string t316, .bool false] 33 (0, 0))) ∧ Aside0 (Below w.heap.size w w'))
         case atStart => exact ⟨(y322), ((⟨#[]⟩ : ByteArray)), (0), (by first | rfl | (simp; done) | (simp [*]; done)), (by first | rfl | (simp; done) | (simp [*]; done)), H', ⟨Nat.le_refl _⟩, ⟨by (with_reducible repeat (first | apply Kd.R_alloc | apply Kd.R_drewN | apply Kd.R_drew)); exact Kd.R_mono HO_3.out (fun _ hk => by first | exact ⟨hk.2, hk.1.2⟩ | simp_all)⟩, ⟨by (with_reducible repeat (first | apply Kd.R_alloc | apply Kd.R_drewN | apply Kd.R_drew)); exact HO321.out⟩, ⟨by (with_reducible repeat (first | apply Kd.R_alloc | apply Kd.R_drewN | apply Kd.R_drew)); exact HO324.out⟩, ⟨by (with_reducible repeat (first | refine blk_drewN ?_ _ | refine blk_drew ?_ | refine blk_alloc ?_ _)); exact BK318.out⟩, ⟨by repeat (first | (with_reducible first | exact HB.out | apply below_alloc | apply pw_below_drewN | apply below_drew1 | refine below_set ?_ GE318.out) | exact HB.out)⟩⟩
         case round =>
          clear H'
          (try clear c1);(try clear c2);(try clear p2);(try clear c3);(try clear c3b0);(try clear p3);(try clear q3);(try clear hx3);(try clear c4);(try clear c5);(try clear c5b0);(try clear c6);(try clear c6b0);(try clear c9);(try clear c13);(try clear c14);(try clear hcz12_0);(try clear hcz12_1);(try clear hcz12_2);(try clear hcz12_3);(try clear hfz12_0);(try clear hfz12_1);(try clear hfz12_2);(try clear hfz12_3);(try clear hx313_0);(try clear hx313_1);(try clear hx313_2);(try clear hx313_3);(try clear p2);(try clear p313);(try clear q313)
          obtain ⟨x7_3, x8_3, x9_3, rfl, rfl, HA, HK3, HO_3, HO_6, HO_7, BK318, HB⟩ := hrel
          cases gk with
          | zero => exact absurd HA.out (by simp [collatorlaw02_Tree.l1])
          | succ k3 =>
           have H := HA.out
           clear HA
           simp only [collatorlaw02_Tree.l1] at H
           by_cases c16 : (wrap64 (x9_3 + 1)) < (t319.length : Int)
           ·rw [if_pos c16] at H
            have c16b0 : decide ((wrap64 (x9_3 + 1)) < (t319.length : Int)) = true := decide_eq_true c16
            clear c16
            by_cases c17 : 0 ≤ x9_3
            ·rw [if_pos c17] at H
             have c17b0 : decide (0 ≤ x9_3) = true := decide_eq_true c17
             clear c17
             by_cases c18 : x9_3 < (t319.length : Int)
             ·rw [if_pos c18] at H
              have c18b0 : decide (x9_3 < (t319.length : Int)) = true := decide_eq_true c18
              clear c18
              replace H := Option.bind_eq_some_iff.mp H
              obtain ⟨t326, A190, H⟩ := H
              replace H : ((collatorref02_Find.f k3 x7_3 t326).bind fun bt327 => (if bt327.2.2.2.2 = true then (collatorlaw02_Tree.l1 k3 l0 x3_1 x4_1 t319 x7_3 t326 (wrap64 (x9_3 + 1)) t314 t315 t316 false) else (if x7_3.length < 2932031007402 then (collatorlaw02_Tree.l1 k3 l0 x3_1 x4_1 t319 (x7_3 ++ [(⟨t326, 1, (⟨#[]⟩ : ByteArray), false⟩ : S33)]) t326 (wrap64 (x9_3 + 1)) t314 t315 t316 false) else (none)))) = some r := H
              have A19 := Aside0.mk A190
              clear A190
              replace H := Option.bind_eq_some_iff.mp H
              obtain ⟨⟨t327, t328, t329, t330, t331⟩, A200, H⟩ := H
              replace H : (if t331 = true then (collatorlaw02_Tree.l1 k3 l0 x3_1 x4_1 t319 x7_3 t326 (wrap64 (x9_3 + 1)) t314 t315 t316 false) else (if x7_3.length < 2932031007402 then (collatorlaw02_Tree.l1 k3 l0 x3_1 x4_1 t319 (x7_3 ++ [(⟨t326, 1, (⟨#[]⟩ : ByteArray), false⟩ : S33)]) t326 (wrap64 (x9_3 + 1)) t314 t315 t316 false) else (none))) = some r := H
              have A20 := Aside0.mk A200
              clear A200
              by_cases c21 : t331 = true
              ·subst c21
               have H1 : (collatorlaw02_Tree.l1 k3 l0 x3_1 x4_1 t319 x7_3 t326 (wrap64 (x9_3 + 1)) t314 t315 t316 false) = some r := by rw [if_pos rfl] at H; exact H
               clear H
               have H := H1
               clear H1
               have H' := Aside0.mk H
               clear H
               obtain ⟨Ao22, co22, eo22⟩ := Kd.R_slice HO_6.out
               subst eo22
               have p325 : 0 ≤ (x9_3 : Int) := of_decide_eq_true (by first | (with_reducible assumption) | assumption)
               have q325 : x9_3 < (t319.length : Int) := of_decide_eq_true (by first | (with_reducible assumption) | assumption)
               obtain ⟨ad325, e325, hx325_0⟩ := Kd.at_string (Kd.R_reads' HO_6.out).2.2 x9_3 p325 q325
               cases e325
               replace p325 := eq_true p325
               replace q325 := eq_true q325
               go_wp2_with (first | ((with_reducible refine gate_callee (f := 25) rfl ?_); refine goesL_ _ rfl rfl Try.func25 (by kernel_rfl) rfl #[.string x8_3, .string (rdOf ByteArray.empty t319 x9_3)] rfl (by (try simp only [List.map_toArray, List.map_cons, List.map_nil]); first | done | rfl | (simp only [List.length_drop, List.length_take]; rfl)) ?_; (with_reducible refine (collatorref01_Join.calls x8_3 (rdOf ByteArray.empty t319 x9_3) t326 _ A19.out).mono ?_); rintro e w' ⟨rfl, ⟨nd, rfl⟩⟩; refine ⟨_, rfl, ?_⟩; (try (rw [drewN_self wr]; generalize hq_ : World.drewN wr _ = wr; have n0_ : Aside0 (Kd.R k33 33 wr w.heap.size (fun k_ => some k_ ≠ (u7 : Value).ownBlock ∧ k_ ≠ gb318) (.slice Ao15 x3_1.length co15) x3_1) := ⟨by rw [← hq_]; exact (by (with_reducible repeat (first | apply Kd.R_alloc | apply Kd.R_drewN | apply Kd.R_drew)); exact HO_3.out)⟩; have n1_ : Aside0 (Kd.R Kd.string 9 wr w.heap.size (fun _ => True) (.slice (some ad325) t319.length co22) t319) := ⟨by rw [← hq_]; exact (by (with_reducible repeat (first | apply Kd.R_alloc | apply Kd.R_drewN | apply Kd.R_drew)); exact HO_6.out)⟩; have n2_ : Aside0 (Kd.R k33 33 wr w.heap.size (fun k_ => some k_ ≠ (.slice Ao15 x3_1.length co15 : Value).ownBlock ∧ k_ ≠ gb318) u7 x7_3) := ⟨by rw [← hq_]; exact (by (with_reducible repeat (first | apply Kd.R_alloc | apply Kd.R_drewN | apply Kd.R_drew)); exact HO_7.out)⟩; have n3_ : Aside0 (wr.heap[gb318]? = some (.cells #[.string t314, .int .i64 t315, .string t316, .bool false] 33 (0, 0))) := ⟨by rw [← hq_]; exact (by (with_reducible repeat (first | refine blk_drewN ?_ _ | refine blk_drew ?_ | refine blk_alloc ?_ _)); exact BK318.out)⟩; have n4_ : Aside0 (Below w.heap.size w wr) := ⟨by rw [← hq_]; exact (by repeat (first | (with_reducible first | exact HB.out | apply below_alloc | apply pw_below_drewN | apply below_drew1 | refine below_set ?_ GE318.out) | exact HB.out))⟩; clear HO_3 HO_6 HO_7 BK318 HB hq_; have HO_3 := n0_; have HO_6 := n1_; have HO_7 := n2_; have BK318 := n3_; have HB := n4_; clear n0_ n1_ n2_ n3_ n4_)); (try (obtain ⟨Ao23, co23, eo23⟩ := Kd.R_slice HO_7.out; subst eo23))) | ((with_reducible refine gate_callee (f := 26) rfl ?_); refine goesL_ _ rfl rfl Try.func26 (by kernel_rfl) rfl #[.slice Ao23 x7_3.length co23, .string t326] rfl (by (try simp only [List.map_toArray, List.map_cons, List.map_nil]); first | done | rfl | (simp only [List.length_drop, List.length_take]; rfl)) ?_; (with_reducible refine (collatorref02_Find.calls k3 _ _ x7_3 t326 t327 t328 t329 t330 true _ ?side1 ?side2 A20.out).mono ?_); (case side1 => repeat (first | exact (Kd.R_reads' HO_7.out).2.2 | (with_reducible refine Kd.C_alloc ?_ _) | (with_reducible refine Kd.C_drewN ?_ _) | (with_reducible refine Kd.C_drew ?_))); (case side2 => exact (Kd.R_reads' HO_7.out).2.1); rintro e w24 ⟨rfl, hb⟩; refine ⟨_, rfl, ?_⟩; have n0_ := Aside0.mk (Kd.R_below (by (with_reducible repeat (first | apply Kd.R_alloc | apply Kd.R_drewN | apply Kd.R_drew)); exact HO_3.out) hb); have n1_ := Aside0.mk (Kd.R_below (by (with_reducible repeat (first | apply Kd.R_alloc | apply Kd.R_drewN | apply Kd.R_drew)); exact HO_6.out) hb); have n2_ := Aside0.mk (Kd.R_below (by (with_reducible repeat (first | apply Kd.R_alloc | apply Kd.R_drewN | apply Kd.R_drew)); exact HO_7.out) hb); have n3_ := Aside0.mk (blk_below (g := gb318) (o := .cells #[.string t314, .int .i64 t315, .string t316, .bool false] 33 (0, 0)) (by (with_reducible repeat (first | refine blk_drewN ?_ _ | refine blk_drew ?_ | refine blk_alloc ?_ _)); exact BK318.out) hb); have n4_ := Aside0.mk (below_step (by repeat (first | (with_reducible first | exact HB.out | apply below_alloc | apply pw_below_drewN | apply below_drew1 | refine below_set ?_ GE318.out) | exact HB.out)) hb); clear HO_3; clear HO_6; clear HO_7; clear BK318; clear HB; have HO_3 := n0_; have HO_6 := n1_; have HO_7 := n2_; have BK318 := n3_; have HB := n4_; clear n0_ n1_ n2_ n3_ n4_; (try clear hb); (try clear hb2); (try clear hk); (try clear hi)) | ((with_reducible refine gate_dst (N := 10) rfl ?_); refine box_event ?hg (N := 10) ?hd (cs := #[.string (⟨#[]⟩ : ByteArray), .int .i64 0, .string (⟨#[]⟩ : ByteArray), .bool false]) (t := 33) ?hr ?_; (case hd => rfl); (case hg => rfl); (case hr => first | (go_simp; done) | (go_simp; rfl)); intro gb332 hg w25 hbox hb; have n0_ := Aside0.mk (Kd.R_below (Kd.R_elderB (by (with_reducible repeat (first | apply Kd.R_alloc | apply Kd.R_drewN | apply Kd.R_drew)); exact HO_3.out) gb332 (Nat.le_of_eq hg.symm)) hb); have n1_ := Aside0.mk (Kd.R_below (by (with_reducible repeat (first | apply Kd.R_alloc | apply Kd.R_drewN | apply Kd.R_drew)); exact HO_6.out) hb); have n2_ := Aside0.mk (Kd.R_below (Kd.R_elderB (by (with_reducible repeat (first | apply Kd.R_alloc | apply Kd.R_drewN | apply Kd.R_drew)); exact HO_7.out) gb332 (Nat.le_of_eq hg.symm)) hb); have n3_ := Aside0.mk (blk_below (g := gb318) (o := .cells #[.string t314, .int .i64 t315, .string t316, .bool false] 33 (0, 0)) (by (with_reducible repeat (first | refine blk_drewN ?_ _ | refine blk_drew ?_ | refine blk_alloc ?_ _)); exact BK318.out) hb); have n4_ := Aside0.mk (below_step (by repeat (first | (with_reducible first | exact HB.out | apply below_alloc | apply pw_below_drewN | apply below_drew1 | refine below_set ?_ GE318.out) | exact HB.out)) hb); have n5_ := Aside0.mk (hbox); have n6_ := Aside0.mk ((by rw [hg]; exact (below_size (by repeat (first | (with_reducible first | exact HB.out | apply below_alloc | apply pw_below_drewN | apply below_drew1 | refine below_set ?_ GE318.out) | exact HB.out))) : w.heap.size ≤ gb332)); have n7_ := Aside0.mk ((by rw [hg]; exact (below_size (by repeat (first | (with_reducible first | exact HB.out | apply below_alloc | apply pw_below_drewN | apply below_drew1 | refine below_set ?_ GE318.out) | exact HB.out))) : w.heap.size ≤ gb332)); have n8_ := Aside0.mk ((by rw [hg]; exact Nat.ne_of_lt (blk_lt (g := gb318) (o := .cells #[.string t314, .int .i64 t315, .string t316, .bool false] 33 (0, 0)) (by (with_reducible repeat (first | refine blk_drewN ?_ _ | refine blk_drew ?_ | refine blk_alloc ?_ _)); exact BK318.out)) : gb318 ≠ gb332)); have n9_ := Aside0.mk ((by rw [hg]; exact Nat.ne_of_gt (blk_lt (g := gb318) (o := .cells #[.string t314, .int .i64 t315, .string t316, .bool false] 33 (0, 0)) (by (with_reducible repeat (first | refine blk_drewN ?_ _ | refine blk_drew ?_ | refine blk_alloc ?_ _)); exact BK318.out)) : gb332 ≠ gb318)); clear HO_3; clear HO_6; clear HO_7; clear BK318; clear HB; have HO_3 := n0_; have HO_6 := n1_; have HO_7 := n2_; have BK318 := n3_; have HB := n4_; have BK332 := n5_; have GW332 := n6_; have GE332 := n7_; have NB318_332 := n8_; have NB332_318 := n9_; clear n0_ n1_ n2_ n3_ n4_ n5_ n6_ n7_ n8_ n9_; clear hb hbox hg; have hnb26 := NB332_318.out; have hnc26 := NB318_332.out; have hcz27_0 : w25.cell? ⟨gb332, 0, none⟩ = some (.string (⟨#[]⟩ : ByteArray)) := (blk_cell BK332.out 0).trans rfl; have hcz27_1 : w25.cell? ⟨gb332, 1, none⟩ = some (.int .i64 0) := (blk_cell BK332.out 1).trans rfl; have hcz27_2 : w25.cell? ⟨gb332, 2, none⟩ = some (.string (⟨#[]⟩ : ByteArray)) := (blk_cell BK332.out 2).trans rfl; have hcz27_3 : w25.cell? ⟨gb332, 3, none⟩ = some (.bool false) := (blk_cell BK332.out 3).trans rfl; have hfz27_0 := blk_frozen BK332.out 0; have hfz27_1 := blk_frozen BK332.out 1; have hfz27_2 := blk_frozen BK332.out 2; have hfz27_3 := blk_frozen BK332.out 3))
               go_roundg k3
               case measure => have := HK1.out; have := HJ1.out; have := HK3.out; omega
               case rel => exact ⟨(x7_3), (t326), (wrap64 (x9_3 + 1)), (by first | rfl | (simp; done) | (simp [*]; done)), (by first | rfl | (simp; done) | (simp [*]; done)), H', ⟨by have := HK1.out; have := HJ1.out; have := HK3.out; omega⟩, ⟨by (with_reducible repeat (first | apply Kd.R_alloc | apply Kd.R_drewN | apply Kd.R_drew)); exact Kd.R_mono (Kd.R_far (p := ⟨gb332, 3, none⟩) (Kd.R_far (p := ⟨gb332, 2, none⟩) (Kd.R_far (p := ⟨gb332, 1, none⟩) (Kd.R_far (p := ⟨gb332, 0, none⟩) (Kd.R_mono HO_3.out (fun k_ hk => (⟨hk, hk.2⟩ : _ ∧ k_ ≠ gb332))) (fun _ hk => hk.2) (.string t327)) (fun _ hk => hk.2) (.int .i64 t328)) (fun _ hk => hk.2) (.string t329)) (fun _ hk => hk.2) (.bool t330)) (fun _ hk => by first | exact ⟨hk.1.1.1, hk.1.1.2⟩ | simp_all)⟩, ⟨by (with_reducible repeat (first | apply Kd.R_alloc | apply Kd.R_drewN | apply Kd.R_drew)); exact Kd.R_mono (Kd.R_far (p := ⟨gb332, 3, none⟩) (Kd.R_far (p := ⟨gb332, 2, none⟩) (Kd.R_far (p := ⟨gb332, 1, none⟩) (Kd.R_far (p := ⟨gb332, 0, none⟩) (Kd.R_types HO_6.out BK332.out (by decide)) (fun _ hk => hk.2) (.string t327)) (fun _ hk => hk.2) (.int .i64 t328)) (fun _ hk => hk.2) (.string t329)) (fun _ hk => hk.2) (.bool t330)) (fun _ hk => trivial)⟩, ⟨by (with_reducible repeat (first | apply Kd.R_alloc | apply Kd.R_drewN | apply Kd.R_drew)); exact Kd.R_mono (Kd.R_far (p := ⟨gb332, 3, none⟩) (Kd.R_far (p := ⟨gb332, 2, none⟩) (Kd.R_far (p := ⟨gb332, 1, none⟩) (Kd.R_far (p := ⟨gb332, 0, none⟩) (Kd.R_mono HO_7.out (fun k_ hk => (⟨hk, hk.2⟩ : _ ∧ k_ ≠ gb332))) (fun _ hk => hk.2) (.string t327)) (fun _ hk => hk.2) (.int .i64 t328)) (fun _ hk => hk.2) (.string t329)) (fun _ hk => hk.2) (.bool t330)) (fun _ hk => by first | exact ⟨hk.1.1.1, hk.1.1.2⟩ | simp_all)⟩, ⟨by (with_reducible repeat (first | refine blk_drewN ?_ _ | refine blk_drew ?_ | refine blk_alloc ?_ _)); refine blk_far ?_ NB318_332.out _; (with_reducible repeat (first | refine blk_drewN ?_ _ | refine blk_drew ?_ | refine blk_alloc ?_ _)); refine blk_far ?_ NB318_332.out _; (with_reducible repeat (first | refine blk_drewN ?_ _ | refine blk_drew ?_ | refine blk_alloc ?_ _)); refine blk_far ?_ NB318_332.out _; (with_reducible repeat (first | refine blk_drewN ?_ _ | refine blk_drew ?_ | refine blk_alloc ?_ _)); refine blk_far ?_ NB318_332.out _; (with_reducible repeat (first | refine blk_drewN ?_ _ | refine blk_drew ?_ | refine blk_alloc ?_ _)); exact BK318.out⟩, ⟨by repeat (first | (with_reducible first | exact HB.out | apply below_alloc | apply pw_below_drewN | apply below_drew1 | refine below_set ?_ GE318.out | refine below_set ?_ GE332.out) | exact HB.out)⟩⟩
              ·replace c21 := Bool.eq_false_iff.mpr c21
               subst c21
               have H1 : (if x7_3.length < 2932031007402 then (collatorlaw02_Tree.l1 k3 l0 x3_1 x4_1 t319 (x7_3 ++ [(⟨t326, 1, (⟨#[]⟩ : ByteArray), false⟩ : S33)]) t326 (wrap64 (x9_3 + 1)) t314 t315 t316 false) else (none)) = some r := by rw [if_neg (show ¬ (false = true) by decide)] at H; exact H
               clear H
               have H := H1
               clear H1
               by_cases c28 : x7_3.length < 2932031007402
               ·rw [if_pos c28] at H
                have LMc28 := Aside0.mk c28
                clear c28
                obtain ⟨y333, hy333⟩ : ∃ y_ : List (S33), y_ = (x7_3 ++ [(⟨t326, 1, (⟨#[]⟩ : ByteArray), false⟩ : S33)]) := ⟨_, rfl⟩
                replace H : (collatorlaw02_Tree.l1 k3 l0 x3_1 x4_1 t319 y333 t326 (wrap64 (x9_3 + 1)) t314 t315 t316 false) = some r := by first | (rw [hy333]; with_reducible exact H) | (have H2_ := (Option.bind_some _ _).symm.trans H; rw [hy333]; with_reducible exact H2_) | (have H2_ := (Option.bind_some _ _).symm.trans H; with_reducible exact H2_) | with_reducible exact H | (rw [hy333]; exact H) | exact H
                have Ny333 := Aside0.mk hy333
                clear hy333
                have H' := Aside0.mk H
                clear H
                obtain ⟨Ao29, co29, eo29⟩ := Kd.R_slice HO_6.out
                subst eo29
                have p325 : 0 ≤ (x9_3 : Int) := of_decide_eq_true (by first | (with_reducible assumption) | assumption)
                have q325 : x9_3 < (t319.length : Int) := of_decide_eq_true (by first | (with_reducible assumption) | assumption)
                obtain ⟨ad325, e325, hx325_0⟩ := Kd.at_string (Kd.R_reads' HO_6.out).2.2 x9_3 p325 q325
                cases e325
                replace p325 := eq_true p325
                replace q325 := eq_true q325
                go_wp2_with (first | ((with_reducible refine gate_callee (f := 25) rfl ?_); refine goesL_ _ rfl rfl Try.func25 (by kernel_rfl) rfl #[.string x8_3, .string (rdOf ByteArray.empty t319 x9_3)] rfl (by (try simp only [List.map_toArray, List.map_cons, List.map_nil]); first | done | rfl | (simp only [List.length_drop, List.length_take]; rfl)) ?_; (with_reducible refine (collatorref01_Join.calls x8_3 (rdOf ByteArray.empty t319 x9_3) t326 _ A19.out).mono ?_); rintro e w' ⟨rfl, ⟨nd, rfl⟩⟩; refine ⟨_, rfl, ?_⟩; (try (rw [drewN_self wr]; generalize hq_ : World.drewN wr _ = wr; have n0_ : Aside0 (Kd.R k33 33 wr w.heap.size (fun k_ => some k_ ≠ (u7 : Value).ownBlock ∧ k_ ≠ gb318) (.slice Ao15 x3_1.length co15) x3_1) := ⟨by rw [← hq_]; exact (by (with_reducible repeat (first | apply Kd.R_alloc | apply Kd.R_drewN | apply Kd.R_drew)); exact HO_3.out)⟩; have n1_ : Aside0 (Kd.R Kd.string 9 wr w.heap.size (fun _ => True) (.slice (some ad325) t319.length co29) t319) := ⟨by rw [← hq_]; exact (by (with_reducible repeat (first | apply Kd.R_alloc | apply Kd.R_drewN | apply Kd.R_drew)); exact HO_6.out)⟩; have n2_ : Aside0 (Kd.R k33 33 wr w.heap.size (fun k_ => some k_ ≠ (.slice Ao15 x3_1.length co15 : Value).ownBlock ∧ k_ ≠ gb318) u7 x7_3) := ⟨by rw [← hq_]; exact (by (with_reducible repeat (first | apply Kd.R_alloc | apply Kd.R_drewN | apply Kd.R_drew)); exact HO_7.out)⟩; have n3_ : Aside0 (wr.heap[gb318]? = some (.cells #[.string t314, .int .i64 t315, .string t316, .bool false] 33 (0, 0))) := ⟨by rw [← hq_]; exact (by (with_reducible repeat (first | refine blk_drewN ?_ _ | refine blk_drew ?_ | refine blk_alloc ?_ _)); exact BK318.out)⟩; have n4_ : Aside0 (Below w.heap.size w wr) := ⟨by rw [← hq_]; exact (by repeat (first | (with_reducible first | exact HB.out | apply below_alloc | apply pw_below_drewN | apply below_drew1 | refine below_set ?_ GE318.out) | exact HB.out))⟩; clear HO_3 HO_6 HO_7 BK318 HB hq_; have HO_3 := n0_; have HO_6 := n1_; have HO_7 := n2_; have BK318 := n3_; have HB := n4_; clear n0_ n1_ n2_ n3_ n4_)); (try (obtain ⟨Ao30, co30, eo30⟩ := Kd.R_slice HO_7.out; subst eo30))) | ((with_reducible refine gate_callee (f := 26) rfl ?_); refine goesL_ _ rfl rfl Try.func26 (by kernel_rfl) rfl #[.slice Ao30 x7_3.length co30, .string t326] rfl (by (try simp only [List.map_toArray, List.map_cons, List.map_nil]); first | done | rfl | (simp only [List.length_drop, List.length_take]; rfl)) ?_; (with_reducible refine (collatorref02_Find.calls k3 _ _ x7_3 t326 t327 t328 t329 t330 false _ ?side1 ?side2 A20.out).mono ?_); (case side1 => repeat (first | exact (Kd.R_reads' HO_7.out).2.2 | (with_reducible refine Kd.C_alloc ?_ _) | (with_reducible refine Kd.C_drewN ?_ _) | (with_reducible refine Kd.C_drew ?_))); (case side2 => exact (Kd.R_reads' HO_7.out).2.1); rintro e w31 ⟨rfl, hb⟩; refine ⟨_, rfl, ?_⟩; have n0_ := Aside0.mk (Kd.R_below (by (with_reducible repeat (first | apply Kd.R_alloc | apply Kd.R_drewN | apply Kd.R_drew)); exact HO_3.out) hb); have n1_ := Aside0.mk (Kd.R_below (by (with_reducible repeat (first | apply Kd.R_alloc | apply Kd.R_drewN | apply Kd.R_drew)); exact HO_6.out) hb); have n2_ := Aside0.mk (Kd.R_below (by (with_reducible repeat (first | apply Kd.R_alloc | apply Kd.R_drewN | apply Kd.R_drew)); exact HO_7.out) hb); have n3_ := Aside0.mk (blk_below (g := gb318) (o := .cells #[.string t314, .int .i64 t315, .string t316, .bool false] 33 (0, 0)) (by (with_reducible repeat (first | refine blk_drewN ?_ _ | refine blk_drew ?_ | refine blk_alloc ?_ _)); exact BK318.out) hb); have n4_ := Aside0.mk (below_step (by repeat (first | (with_reducible first | exact HB.out | apply below_alloc | apply pw_below_drewN | apply below_drew1 | refine below_set ?_ GE318.out) | exact HB.out)) hb); clear HO_3; clear HO_6; clear HO_7; clear BK318; clear HB; have HO_3 := n0_; have HO_6 := n1_; have HO_7 := n2_; have BK318 := n3_; have HB := n4_; clear n0_ n1_ n2_ n3_ n4_; (try clear hb); (try clear hb2); (try clear hk); (try clear hi)) | ((with_reducible refine gate_dst (N := 10) rfl ?_); refine box_event ?hg (N := 10) ?hd (cs := #[.string (⟨#[]⟩ : ByteArray), .int .i64 0, .string (⟨#[]⟩ : ByteArray), .bool false]) (t := 33) ?hr ?_; (case hd => rfl); (case hg => rfl); (case hr => first | (go_simp; done) | (go_simp; rfl)); intro gb332 hg w32 hbox hb; have n0_ := Aside0.mk (Kd.R_below (Kd.R_elderB (by (with_reducible repeat (first | apply Kd.R_alloc | apply Kd.R_drewN | apply Kd.R_drew)); exact HO_3.out) gb332 (Nat.le_of_eq hg.symm)) hb); have n1_ := Aside0.mk (Kd.R_below (by (with_reducible repeat (first | apply Kd.R_alloc | apply Kd.R_drewN | apply Kd.R_drew)); exact HO_6.out) hb); have n2_ := Aside0.mk (Kd.R_below (Kd.R_elderB (by (with_reducible repeat (first | apply Kd.R_alloc | apply Kd.R_drewN | apply Kd.R_drew)); exact HO_7.out) gb332 (Nat.le_of_eq hg.symm)) hb); have n3_ := Aside0.mk (blk_below (g := gb318) (o := .cells #[.string t314, .int .i64 t315, .string t316, .bool false] 33 (0, 0)) (by (with_reducible repeat (first | refine blk_drewN ?_ _ | refine blk_drew ?_ | refine blk_alloc ?_ _)); exact BK318.out) hb); have n4_ := Aside0.mk (below_step (by repeat (first | (with_reducible first | exact HB.out | apply below_alloc | apply pw_below_drewN | apply below_drew1 | refine below_set ?_ GE318.out) | exact HB.out)) hb); have n5_ := Aside0.mk (hbox); have n6_ := Aside0.mk ((by rw [hg]; exact (below_size (by repeat (first | (with_reducible first | exact HB.out | apply below_alloc | apply pw_below_drewN | apply below_drew1 | refine below_set ?_ GE318.out) | exact HB.out))) : w.heap.size ≤ gb332)); have n7_ := Aside0.mk ((by rw [hg]; exact (below_size (by repeat (first | (with_reducible first | exact HB.out | apply below_alloc | apply pw_below_drewN | apply below_drew1 | refine below_set ?_ GE318.out) | exact HB.out))) : w.heap.size ≤ gb332)); have n8_ := Aside0.mk ((by rw [hg]; exact Nat.ne_of_lt (blk_lt (g := gb318) (o := .cells #[.string t314, .int .i64 t315, .string t316, .bool false] 33 (0, 0)) (by (with_reducible repeat (first | refine blk_drewN ?_ _ | refine blk_drew ?_ | refine blk_alloc ?_ _)); exact BK318.out)) : gb318 ≠ gb332)); have n9_ := Aside0.mk ((by rw [hg]; exact Nat.ne_of_gt (blk_lt (g := gb318) (o := .cells #[.string t314, .int .i64 t315, .string t316, .bool false] 33 (0, 0)) (by (with_reducible repeat (first | refine blk_drewN ?_ _ | refine blk_drew ?_ | refine blk_alloc ?_ _)); exact BK318.out)) : gb332 ≠ gb318)); clear HO_3; clear HO_6; clear HO_7; clear BK318; clear HB; have HO_3 := n0_; have HO_6 := n1_; have HO_7 := n2_; have BK318 := n3_; have HB := n4_; have BK332 := n5_; have GW332 := n6_; have GE332 := n7_; have NB318_332 := n8_; have NB332_318 := n9_; clear n0_ n1_ n2_ n3_ n4_ n5_ n6_ n7_ n8_ n9_; clear hb hbox hg; have hnb33 := NB332_318.out; have hnc33 := NB318_332.out; have hcz34_0 : w32.cell? ⟨gb332, 0, none⟩ = some (.string (⟨#[]⟩ : ByteArray)) := (blk_cell BK332.out 0).trans rfl; have hcz34_1 : w32.cell? ⟨gb332, 1, none⟩ = some (.int .i64 0) := (blk_cell BK332.out 1).trans rfl; have hcz34_2 : w32.cell? ⟨gb332, 2, none⟩ = some (.string (⟨#[]⟩ : ByteArray)) := (blk_cell BK332.out 2).trans rfl; have hcz34_3 : w32.cell? ⟨gb332, 3, none⟩ = some (.bool false) := (blk_cell BK332.out 3).trans rfl; have hfz34_0 := blk_frozen BK332.out 0; have hfz34_1 := blk_frozen BK332.out 1; have hfz34_2 := blk_frozen BK332.out 2; have hfz34_3 := blk_frozen BK332.out 3) | ((with_reducible refine gate_builtin (b := .append) (xs := #[.tmp 54, .tmp 57]) rfl ?_); at_builtin; refine Kd.R_append k33 (w0 := w) w.heap.size rfl (.tmp 54) (.tmp 57) 23 33 (.agg #[(.string ⟨#[]⟩), (.int .i64 0), (.string ⟨#[]⟩), (.bool false)]) 48 rfl Try.underlying23 info33 rfl (by decide) (by omega) (.slice Ao30 x7_3.length co30) x7_3 (⟨t326, 1, (⟨#[]⟩ : ByteArray), false⟩ : S33) [.string t326, .int .i64 1, .string (⟨#[]⟩ : ByteArray), .bool false] (fun k_ => some k_ ≠ (.slice Ao15 x3_1.length co15 : Value).ownBlock ∧ k_ ≠ gb318 ∧ k_ ≠ gb332) (fun _ => False) rfl (by first | (go_simp; done) | (go_simp; rfl)) ?aP (fun _ hk => hk.elim) ?aF ?aO ?aB ?aS ?aL ?_; (case aP => exact k33_mkM _ _ _ (⟨t326, 1, (⟨#[]⟩ : ByteArray), false⟩ : S33)); (case aB => exact (by repeat (first | (with_reducible first | exact HB.out | apply below_alloc | apply pw_below_drewN | apply below_drew1 | refine below_set ?_ GE318.out | refine below_set ?_ GE332.out) | exact HB.out))); (case aF => exact (fun k_ hk => ⟨Kd.fresh' (Kd.R_lt (by (with_reducible repeat (first | apply Kd.R_alloc | apply Kd.R_drewN | apply Kd.R_drew)); exact (Kd.R_mono (Kd.R_far (p := ⟨gb332, 3, none⟩) (Kd.R_far (p := ⟨gb332, 2, none⟩) (Kd.R_far (p := ⟨gb332, 1, none⟩) (Kd.R_far (p := ⟨gb332, 0, none⟩) (Kd.R_mono HO_3.out (fun k_ hk => (⟨hk, hk.2⟩ : _ ∧ k_ ≠ gb332))) (fun _ hk => hk.2) (.string t327)) (fun _ hk => hk.2) (.int .i64 t328)) (fun _ hk => hk.2) (.string t329)) (fun _ hk => hk.2) (.bool t330)) (fun _ h_ => h_.1)))) k_ hk, Kd.freshB (g := gb318) (o := .cells #[.string t314, .int .i64 t315, .string t316, .bool false] 33 (0, 0)) (by (with_reducible repeat (first | refine blk_drewN ?_ _ | refine blk_drew ?_ | refine blk_alloc ?_ _)); refine blk_far ?_ NB318_332.out _; (with_reducible repeat (first | refine blk_drewN ?_ _ | refine blk_drew ?_ | refine blk_alloc ?_ _)); refine blk_far ?_ NB318_332.out _; (with_reducible repeat (first | refine blk_drewN ?_ _ | refine blk_drew ?_ | refine blk_alloc ?_ _)); refine blk_far ?_ NB318_332.out _; (with_reducible repeat (first | refine blk_drewN ?_ _ | refine blk_drew ?_ | refine blk_alloc ?_ _)); refine blk_far ?_ NB318_332.out _; (with_reducible repeat (first | refine blk_drewN ?_ _ | refine blk_drew ?_ | refine blk_alloc ?_ _)); exact BK318.out) k_ hk, Kd.freshB (g := gb332) (o := .cells #[.string t327, .int .i64 t328, .string t329, .bool t330] 33 (0, 0)) (by (with_reducible repeat (first | refine blk_drewN ?_ _ | refine blk_drew ?_ | refine blk_alloc ?_ _)); refine blk_put (cs := #[.string t327, .int .i64 t328, .string t329, .bool false]) ?_ 3 _ rfl; (with_reducible repeat (first | refine blk_drewN ?_ _ | refine blk_drew ?_ | refine blk_alloc ?_ _)); refine blk_put (cs := #[.string t327, .int .i64 t328, .string (⟨#[]⟩ : ByteArray), .bool false]) ?_ 2 _ rfl; (with_reducible repeat (first | refine blk_drewN ?_ _ | refine blk_drew ?_ | refine blk_alloc ?_ _)); refine blk_put (cs := #[.string t327, .int .i64 0, .string (⟨#[]⟩ : ByteArray), .bool false]) ?_ 1 _ rfl; (with_reducible repeat (first | refine blk_drewN ?_ _ | refine blk_drew ?_ | refine blk_alloc ?_ _)); refine blk_put (cs := #[.string (⟨#[]⟩ : ByteArray), .int .i64 0, .string (⟨#[]⟩ : ByteArray), .bool false]) ?_ 0 _ rfl; (with_reducible repeat (first | refine blk_drewN ?_ _ | refine blk_drew ?_ | refine blk_alloc ?_ _)); exact BK332.out) k_ hk⟩)); (case aO => exact (by (with_reducible repeat (first | apply Kd.R_alloc | apply Kd.R_drewN | apply Kd.R_drew)); exact Kd.R_mono (Kd.R_far (p := ⟨gb332, 3, none⟩) (Kd.R_far (p := ⟨gb332, 2, none⟩) (Kd.R_far (p := ⟨gb332, 1, none⟩) (Kd.R_far (p := ⟨gb332, 0, none⟩) (Kd.R_mono HO_7.out (fun k_ hk => (⟨hk, hk.2⟩ : _ ∧ k_ ≠ gb332))) (fun _ hk => hk.2) (.string t327)) (fun _ hk => hk.2) (.int .i64 t328)) (fun _ hk => hk.2) (.string t329)) (fun _ hk => hk.2) (.bool t330)) (fun _ hk => ⟨hk.1.1.1, ⟨hk.1.1.2, hk.1.2⟩⟩))); (case aS => exact (below_size (by repeat (first | (with_reducible first | exact HB.out | apply below_alloc | apply pw_below_drewN | apply below_drew1 | refine below_set ?_ GE318.out | refine below_set ?_ GE332.out) | exact HB.out)))); (case aL => have := LMc28.out; omega); intro v334 w35 ho hb hg hat; rw [← Ny333.out] at ho; have n0_ := Aside0.mk (Kd.R_after (ok := (fun k_ => k_ ≠ gb318 ∧ k_ ≠ gb332)) (by (with_reducible repeat (first | apply Kd.R_alloc | apply Kd.R_drewN | apply Kd.R_drew)); exact Kd.R_mono (Kd.R_far (p := ⟨gb332, 3, none⟩) (Kd.R_far (p := ⟨gb332, 2, none⟩) (Kd.R_far (p := ⟨gb332, 1, none⟩) (Kd.R_far (p := ⟨gb332, 0, none⟩) (Kd.R_mono HO_3.out (fun k_ hk => (⟨hk, hk.2⟩ : _ ∧ k_ ≠ gb332))) (fun _ hk => hk.2) (.string t327)) (fun _ hk => hk.2) (.int .i64 t328)) (fun _ hk => hk.2) (.string t329)) (fun _ hk => hk.2) (.bool t330)) (fun _ hk => ⟨⟨hk.1.1.2, hk.1.2⟩, hk.1.1.1⟩)) hg hat); have n1_ := Aside0.mk (Kd.R_over' (by (with_reducible repeat (first | apply Kd.R_alloc | apply Kd.R_drewN | apply Kd.R_drew)); exact (Kd.R_mono (Kd.R_far (p := ⟨gb332, 3, none⟩) (Kd.R_far (p := ⟨gb332, 2, none⟩) (Kd.R_far (p := ⟨gb332, 1, none⟩) (Kd.R_far (p := ⟨gb332, 0, none⟩) (Kd.R_types HO_6.out BK332.out (by decide)) (fun _ hk => hk.2) (.string t327)) (fun _ hk => hk.2) (.int .i64 t328)) (fun _ hk => hk.2) (.string t329)) (fun _ hk => hk.2) (.bool t330)) (fun _ h_ => h_.1))) (Kd.R_typed (by (with_reducible repeat (first | apply Kd.R_alloc | apply Kd.R_drewN | apply Kd.R_drew)); exact (Kd.R_mono (Kd.R_far (p := ⟨gb332, 3, none⟩) (Kd.R_far (p := ⟨gb332, 2, none⟩) (Kd.R_far (p := ⟨gb332, 1, none⟩) (Kd.R_far (p := ⟨gb332, 0, none⟩) (Kd.R_mono HO_7.out (fun k_ hk => (⟨hk, hk.2⟩ : _ ∧ k_ ≠ gb332))) (fun _ hk => hk.2) (.string t327)) (fun _ hk => hk.2) (.int .i64 t328)) (fun _ hk => hk.2) (.string t329)) (fun _ hk => hk.2) (.bool t330)) (fun _ h_ => h_.1)))) (by decide) hg); have n2_ := Aside0.mk (blk_grown (g := gb318) (o := .cells #[.string t314, .int .i64 t315, .string t316, .bool false] 33 (0, 0)) (by (with_reducible repeat (first | refine blk_drewN ?_ _ | refine blk_drew ?_ | refine blk_alloc ?_ _)); refine blk_far ?_ NB318_332.out _; (with_reducible repeat (first | refine blk_drewN ?_ _ | refine blk_drew ?_ | refine blk_alloc ?_ _)); refine blk_far ?_ NB318_332.out _; (with_reducible repeat (first | refine blk_drewN ?_ _ | refine blk_drew ?_ | refine blk_alloc ?_ _)); refine blk_far ?_ NB318_332.out _; (with_reducible repeat (first | refine blk_drewN ?_ _ | refine blk_drew ?_ | refine blk_alloc ?_ _)); refine blk_far ?_ NB318_332.out _; (with_reducible repeat (first | refine blk_drewN ?_ _ | refine blk_drew ?_ | refine blk_alloc ?_ _)); exact BK318.out) hg (Kd.R_away HO_7.out (fun _ hk => hk.1.2))); have n3_ := Aside0.mk (blk_grown (g := gb332) (o := .cells #[.string t327, .int .i64 t328, .string t329, .bool t330] 33 (0, 0)) (by (with_reducible repeat (first | refine blk_drewN ?_ _ | refine blk_drew ?_ | refine blk_alloc ?_ _)); refine blk_put (cs := #[.string t327, .int .i64 t328, .string t329, .bool false]) ?_ 3 _ rfl; (with_reducible repeat (first | refine blk_drewN ?_ _ | refine blk_drew ?_ | refine blk_alloc ?_ _)); refine blk_put (cs := #[.string t327, .int .i64 t328, .string (⟨#[]⟩ : ByteArray), .bool false]) ?_ 2 _ rfl; (with_reducible repeat (first | refine blk_drewN ?_ _ | refine blk_drew ?_ | refine blk_alloc ?_ _)); refine blk_put (cs := #[.string t327, .int .i64 0, .string (⟨#[]⟩ : ByteArray), .bool false]) ?_ 1 _ rfl; (with_reducible repeat (first | refine blk_drewN ?_ _ | refine blk_drew ?_ | refine blk_alloc ?_ _)); refine blk_put (cs := #[.string (⟨#[]⟩ : ByteArray), .int .i64 0, .string (⟨#[]⟩ : ByteArray), .bool false]) ?_ 0 _ rfl; (with_reducible repeat (first | refine blk_drewN ?_ _ | refine blk_drew ?_ | refine blk_alloc ?_ _)); exact BK332.out) hg (Kd.R_away HO_7.out (fun _ hk => hk.2))); have n4_ := Aside0.mk (hb); have n5_ := Aside0.mk (ho); clear HO_3; clear HO_6; clear BK318; clear BK332; clear HB; clear HO_7; have HO_3 := n0_; have HO_6 := n1_; have BK318 := n2_; have BK332 := n3_; have HB := n4_; have HO335 := n5_; clear n0_ n1_ n2_ n3_ n4_ n5_; clear ho hb hg hat))
                go_roundg k3
                case measure => have := HK1.out; have := HJ1.out; have := HK3.out; omega
                case rel => exact ⟨(y333), (t326), (wrap64 (x9_3 + 1)), (by first | rfl | (simp; done) | (simp [*]; done)), (by first | rfl | (simp; done) | (simp [*]; done)), H', ⟨by have := HK1.out; have := HJ1.out; have := HK3.out; omega⟩, ⟨by (with_reducible repeat (first | apply Kd.R_alloc | apply Kd.R_drewN | apply Kd.R_drew)); exact Kd.R_mono HO_3.out (fun _ hk => by first | exact ⟨hk.2, hk.1.1⟩ | simp_all)⟩, ⟨by (with_reducible repeat (first | apply Kd.R_alloc | apply Kd.R_drewN | apply Kd.R_drew)); exact HO_6.out⟩, ⟨by (with_reducible repeat (first | apply Kd.R_alloc | apply Kd.R_drewN | apply Kd.R_drew)); exact Kd.R_mono HO335.out (fun _ hk => by first | exact ⟨hk.1, hk.2.1⟩ | simp_all)⟩, ⟨by (with_reducible repeat (first | refine blk_drewN ?_ _ | refine blk_drew ?_ | refine blk_alloc ?_ _)); exact BK318.out⟩, ⟨by repeat (first | (with_reducible first | exact HB.out | apply below_alloc | apply pw_below_drewN | apply below_drew1 | refine below_set ?_ GE318.out | refine below_set ?_ GE332.out) | exact HB.out)⟩⟩
               ·rw [if_neg c28] at H
                exact absurd H (by simp)
             ·rw [if_neg c18] at H
              exact absurd H (by simp)
            ·rw [if_neg c17] at H
             exact absurd H (by simp)
           ·rw [if_neg c16] at H
            have c16b0 : decide ((wrap64 (x9_3 + 1)) < (t319.length : Int)) = false := decide_eq_false c16
            clear c16
            by_cases c36 : x7_3.length < 2932031007402
            ·rw [if_pos c36] at H
             have LMc36 := Aside0.mk c36
             clear c36
             obtain ⟨y336, hy336⟩ : ∃ y_ : List (S33), y_ = (x7_3 ++ [(⟨t314, t315, t316, false⟩ : S33)]) := ⟨_, rfl⟩
             replace H : ((collatorlaw02_Wide.f).bind fun bt339 => ((collatorref02_Check.f k3 y336 bt339.1 bt339.2.1 bt339.2.2).bind fun bt342 => (if bt342.2 = 0 then (collatorlaw02_Tree.l0 k3 l0 y336 (wrap64 (x4_1 + 1))) else (collatorlaw02_Tree.l0 k3 l0 x3_1 (wrap64 (x4_1 + 1)))))) = some r := by first | (rw [hy336]; with_reducible exact H) | (have H2_ := (Option.bind_some _ _).symm.trans H; rw [hy336]; with_reducible exact H2_) | (have H2_ := (Option.bind_some _ _).symm.trans H; with_reducible exact H2_) | with_reducible exact H | (rw [hy336]; exact H) | exact H
             have Ny336 := Aside0.mk hy336
             clear hy336
             replace H := Option.bind_eq_some_iff.mp H
             obtain ⟨⟨t339, t340, t341⟩, A370, H⟩ := H
             replace H : ((collatorref02_Check.f k3 y336 t339 t340 t341).bind fun bt342 => (if bt342.2 = 0 then (collatorlaw02_Tree.l0 k3 l0 y336 (wrap64 (x4_1 + 1))) else (collatorlaw02_Tree.l0 k3 l0 x3_1 (wrap64 (x4_1 + 1))))) = some r := H
             have A37 := Aside0.mk A370
             clear A370
             replace H := Option.bind_eq_some_iff.mp H
             obtain ⟨⟨t342, t343⟩, A380, H⟩ := H
             replace H : (if t343 = 0 then (collatorlaw02_Tree.l0 k3 l0 y336 (wrap64 (x4_1 + 1))) else (collatorlaw02_Tree.l0 k3 l0 x3_1 (wrap64 (x4_1 + 1)))) = some r := H
             have A38 := Aside0.mk A380
             clear A380
             by_cases c39 : t343 = 0
             ·rw [if_pos c39] at H
              have c39b0 : (t343 == 0) = true := beq_iff_eq.mpr c39
              have c39b1 : (t343 != 0) = false := bne_eq_false_iff_eq.mpr c39
              clear c39
              have H' := Aside0.mk H
              clear H
              obtain ⟨Ao40, co40, eo40⟩ := Kd.R_slice HO_6.out
              subst eo40
              have hcz41_0 : wr.cell? ⟨gb318, 0, none⟩ = some (.string t314) := (blk_cell BK318.out 0).trans rfl
              have hcz41_1 : wr.cell? ⟨gb318, 1, none⟩ = some (.int .i64 t315) := (blk_cell BK318.out 1).trans rfl
              have hcz41_2 : wr.cell? ⟨gb318, 2, none⟩ = some (.string t316) := (blk_cell BK318.out 2).trans rfl
              have hcz41_3 : wr.cell? ⟨gb318, 3, none⟩ = some (.bool false) := (blk_cell BK318.out 3).trans rfl
              have hfz41_0 := blk_frozen BK318.out 0
              have hfz41_1 := blk_frozen BK318.out 1
              have hfz41_2 := blk_frozen BK318.out 2
              have hfz41_3 := blk_frozen BK318.out 3
              go_wp2_with (first | ((with_reducible refine gate_builtin (b := .append) (xs := #[.tmp 59, .tmp 61]) rfl ?_); at_builtin; refine Kd.R_append k33 (w0 := w) w.heap.size rfl (.tmp 59) (.tmp 61) 23 33 (.agg #[(.string ⟨#[]⟩), (.int .i64 0), (.string ⟨#[]⟩), (.bool false)]) 48 rfl Try.underlying23 info33 rfl (by decide) (by omega) u7 x7_3 (⟨t314, t315, t316, false⟩ : S33) [.string t314, .int .i64 t315, .string t316, .bool false] (fun k_ => some k_ ≠ (.slice Ao15 x3_1.length co15 : Value).ownBlock ∧ k_ ≠ gb318) (fun _ => False) rfl rfl ?aP (fun _ hk => hk.elim) ?aF ?aO ?aB ?aS ?aL ?_; (case aP => exact k33_mkM _ _ _ (⟨t314, t315, t316, false⟩ : S33)); (case aB => exact (by repeat (first | (with_reducible first | exact HB.out | apply below_alloc | apply pw_below_drewN | apply below_drew1 | refine below_set ?_ GE318.out) | exact HB.out))); (case aF => exact (fun k_ hk => ⟨Kd.fresh' (Kd.R_lt (by (with_reducible repeat (first | apply Kd.R_alloc | apply Kd.R_drewN | apply Kd.R_drew)); exact HO_3.out)) k_ hk, Kd.freshB (g := gb318) (o := .cells #[.string t314, .int .i64 t315, .string t316, .bool false] 33 (0, 0)) (by (with_reducible repeat (first | refine blk_drewN ?_ _ | refine blk_drew ?_ | refine blk_alloc ?_ _)); exact BK318.out) k_ hk⟩)); (case aO => exact (by (with_reducible repeat (first | apply Kd.R_alloc | apply Kd.R_drewN | apply Kd.R_drew)); exact HO_7.out)); (case aS => exact (below_size (by repeat (first | (with_reducible first | exact HB.out | apply below_alloc | apply pw_below_drewN | apply below_drew1 | refine below_set ?_ GE318.out) | exact HB.out)))); (case aL => have := LMc36.out; omega); intro v337 w42 ho hb hg hat; rw [← Ny336.out] at ho; have n0_ := Aside0.mk (Kd.R_after (ok := (fun k_ => k_ ≠ gb318)) (by (with_reducible repeat (first | apply Kd.R_alloc | apply Kd.R_drewN | apply Kd.R_drew)); exact Kd.R_mono HO_3.out (fun _ hk => by first | exact ⟨hk.2, hk.1⟩ | simp_all)) hg hat); have n1_ := Aside0.mk (Kd.R_over' (by (with_reducible repeat (first | apply Kd.R_alloc | apply Kd.R_drewN | apply Kd.R_drew)); exact HO_6.out) (Kd.R_typed (by (with_reducible repeat (first | apply Kd.R_alloc | apply Kd.R_drewN | apply Kd.R_drew)); exact HO_7.out)) (by decide) hg); have n2_ := Aside0.mk (blk_grown (g := gb318) (o := .cells #[.string t314, .int .i64 t315, .string t316, .bool false] 33 (0, 0)) (by (with_reducible repeat (first | refine blk_drewN ?_ _ | refine blk_drew ?_ | refine blk_alloc ?_ _)); exact BK318.out) hg (Kd.R_away HO_7.out (fun _ hk => hk.2))); have n3_ := Aside0.mk (hb); have n4_ := Aside0.mk (ho); clear HO_3; clear HO_6; clear BK318; clear HB; clear HO_7; have HO_3 := n0_; have HO_6 := n1_; have BK318 := n2_; have HB := n3_; have HO338 := n4_; clear n0_ n1_ n2_ n3_ n4_; clear ho hb hg hat) | ((with_reducible refine gate_callee (f := 28) rfl ?_); refine goesL_ _ rfl rfl Try.func28 (by kernel_rfl) rfl #[] rfl (by (try simp only [List.map_toArray, List.map_cons, List.map_nil]); first | done | rfl | (simp only [List.length_drop, List.length_take]; rfl)) ?_; (with_reducible refine (collatorlaw02_Wide.calls  t339 t340 t341 _ A37.out).mono ?_); rintro e w43 ⟨rfl, hb⟩; refine ⟨_, rfl, ?_⟩; have n0_ := Aside0.mk (Kd.R_below (by (with_reducible repeat (first | apply Kd.R_alloc | apply Kd.R_drewN | apply Kd.R_drew)); exact HO_3.out) hb); have n1_ := Aside0.mk (Kd.R_below (by (with_reducible repeat (first | apply Kd.R_alloc | apply Kd.R_drewN | apply Kd.R_drew)); exact HO_6.out) hb); have n2_ := Aside0.mk (Kd.R_below (by (with_reducible repeat (first | apply Kd.R_alloc | apply Kd.R_drewN | apply Kd.R_drew)); exact HO338.out) hb); have n3_ := Aside0.mk (blk_below (g := gb318) (o := .cells #[.string t314, .int .i64 t315, .string t316, .bool false] 33 (0, 0)) (by (with_reducible repeat (first | refine blk_drewN ?_ _ | refine blk_drew ?_ | refine blk_alloc ?_ _)); exact BK318.out) hb); have n4_ := Aside0.mk (below_step (by repeat (first | (with_reducible first | exact HB.out | apply below_alloc | apply pw_below_drewN | apply below_drew1 | refine below_set ?_ GE318.out) | exact HB.out)) hb); clear HO_3; clear HO_6; clear HO338; clear BK318; clear HB; have HO_3 := n0_; have HO_6 := n1_; have HO338 := n2_; have BK318 := n3_; have HB := n4_; clear n0_ n1_ n2_ n3_ n4_; (try clear hb); (try clear hb2); (try clear hk); (try clear hi); (try (obtain ⟨Ao44, co44, eo44⟩ := Kd.R_slice HO338.out; subst eo44))) | ((with_reducible refine gate_callee (f := 27) rfl ?_); refine goesL_ _ rfl rfl Try.func27 (by kernel_rfl) rfl #[.slice Ao44 y336.length co44, .agg #[.int .i64 t339, .int .i64 t340, .int .i64 t341]] rfl (by (try simp only [List.map_toArray, List.map_cons, List.map_nil]); first | done | rfl | (simp only [List.length_drop, List.length_take]; rfl)) ?_; (with_reducible refine (collatorref02_Check.calls k3 _ _ y336 t339 t340 t341 t342 t343 _ ?side1 ?side2 A38.out).mono ?_); (case side1 => repeat (first | exact (Kd.R_reads' HO338.out).2.2 | (with_reducible refine Kd.C_alloc ?_ _) | (with_reducible refine Kd.C_drewN ?_ _) | (with_reducible refine Kd.C_drew ?_))); (case side2 => exact (Kd.R_reads' HO338.out).2.1); rintro e w45 ⟨rfl, hb⟩; refine ⟨_, rfl, ?_⟩; have n0_ := Aside0.mk (Kd.R_below (by (with_reducible repeat (first | apply Kd.R_alloc | apply Kd.R_drewN | apply Kd.R_drew)); exact HO_3.out) hb); have n1_ := Aside0.mk (Kd.R_below (by (with_reducible repeat (first | apply Kd.R_alloc | apply Kd.R_drewN | apply Kd.R_drew)); exact HO_6.out) hb); have n2_ := Aside0.mk (Kd.R_below (by (with_reducible repeat (first | apply Kd.R_alloc | apply Kd.R_drewN | apply Kd.R_drew)); exact HO338.out) hb); have n3_ := Aside0.mk (blk_below (g := gb318) (o := .cells #[.string t314, .int .i64 t315, .string t316, .bool false] 33 (0, 0)) (by (with_reducible repeat (first | refine blk_drewN ?_ _ | refine blk_drew ?_ | refine blk_alloc ?_ _)); exact BK318.out) hb); have n4_ := Aside0.mk (below_step (by repeat (first | (with_reducible first | exact HB.out | apply below_alloc | apply pw_below_drewN | apply below_drew1 | refine below_set ?_ GE318.out) | exact HB.out)) hb); clear HO_3; clear HO_6; clear HO338; clear BK318; clear HB; have HO_3 := n0_; have HO_6 := n1_; have HO338 := n2_; have BK318 := n3_; have HB := n4_; clear n0_ n1_ n2_ n3_ n4_; (try clear hb); (try clear hb2); (try clear hk); (try clear hi)))
              go_roundg k3
              case measure => have := HK1.out; have := HJ1.out; have := HK3.out; omega
              case rel => exact ⟨(y336), (wrap64 (x4_1 + 1)), (by first | rfl | (simp; done) | (simp [*]; done)), H', ⟨by have := HK1.out; have := HJ1.out; have := HK3.out; omega⟩, ⟨by (with_reducible repeat (first | apply Kd.R_alloc | apply Kd.R_drewN | apply Kd.R_drew)); exact Kd.R_mono HO338.out (fun _ hk => trivial)⟩, ⟨by repeat (first | (with_reducible first | exact HB.out | apply below_alloc | apply pw_below_drewN | apply below_drew1 | refine below_set ?_ GE318.out) | exact HB.out)⟩⟩
             ·rw [if_neg c39] at H
              have c39b0 : (t343 == 0) = false := beq_eq_false_iff_ne.mpr c39
              have c39b1 : (t343 != 0) = true := bne_iff_ne.mpr c39
              have H' := Aside0.mk H
              clear H
              obtain ⟨Ao46, co46, eo46⟩ := Kd.R_slice HO_6.out
              subst eo46
              have hcz47_0 : wr.cell? ⟨gb318, 0, none⟩ = some (.string t314) := (blk_cell BK318.out 0).trans rfl
              have hcz47_1 : wr.cell? ⟨gb318, 1, none⟩ = some (.int .i64 t315) := (blk_cell BK318.out 1).trans rfl
              have hcz47_2 : wr.cell? ⟨gb318, 2, none⟩ = some (.string t316) := (blk_cell BK318.out 2).trans rfl
              have hcz47_3 : wr.cell? ⟨gb318, 3, none⟩ = some (.bool false) := (blk_cell BK318.out 3).trans rfl
              have hfz47_0 := blk_frozen BK318.out 0
              have hfz47_1 := blk_frozen BK318.out 1
              have hfz47_2 := blk_frozen BK318.out 2
              have hfz47_3 := blk_frozen BK318.out 3
              go_wp2_with (first | ((with_reducible refine gate_builtin (b := .append) (xs := #[.tmp 59, .tmp 61]) rfl ?_); at_builtin; refine Kd.R_append k33 (w0 := w) w.heap.size rfl (.tmp 59) (.tmp 61) 23 33 (.agg #[(.string ⟨#[]⟩), (.int .i64 0), (.string ⟨#[]⟩), (.bool false)]) 48 rfl Try.underlying23 info33 rfl (by decide) (by omega) u7 x7_3 (⟨t314, t315, t316, false⟩ : S33) [.string t314, .int .i64 t315, .string t316, .bool false] (fun k_ => some k_ ≠ (.slice Ao15 x3_1.length co15 : Value).ownBlock ∧ k_ ≠ gb318) (fun _ => False) rfl rfl ?aP (fun _ hk => hk.elim) ?aF ?aO ?aB ?aS ?aL ?_; (case aP => exact k33_mkM _ _ _ (⟨t314, t315, t316, false⟩ : S33)); (case aB => exact (by repeat (first | (with_reducible first | exact HB.out | apply below_alloc | apply pw_below_drewN | apply below_drew1 | refine below_set ?_ GE318.out) | exact HB.out))); (case aF => exact (fun k_ hk => ⟨Kd.fresh' (Kd.R_lt (by (with_reducible repeat (first | apply Kd.R_alloc | apply Kd.R_drewN | apply Kd.R_drew)); exact HO_3.out)) k_ hk, Kd.freshB (g := gb318) (o := .cells #[.string t314, .int .i64 t315, .string t316, .bool false] 33 (0, 0)) (by (with_reducible repeat (first | refine blk_drewN ?_ _ | refine blk_drew ?_ | refine blk_alloc ?_ _)); exact BK318.out) k_ hk⟩)); (case aO => exact (by (with_reducible repeat (first | apply Kd.R_alloc | apply Kd.R_drewN | apply Kd.R_drew)); exact HO_7.out)); (case aS => exact (below_size (by repeat (first | (with_reducible first | exact HB.out | apply below_alloc | apply pw_below_drewN | apply below_drew1 | refine below_set ?_ GE318.out) | exact HB.out)))); (case aL => have := LMc36.out; omega); intro v337 w48 ho hb hg hat; rw [← Ny336.out] at ho; have n0_ := Aside0.mk (Kd.R_after (ok := (fun k_ => k_ ≠ gb318)) (by (with_reducible repeat (first | apply Kd.R_alloc | apply Kd.R_drewN | apply Kd.R_drew)); exact Kd.R_mono HO_3.out (fun _ hk => by first | exact ⟨hk.2, hk.1⟩ | simp_all)) hg hat); have n1_ := Aside0.mk (Kd.R_over' (by (with_reducible repeat (first | apply Kd.R_alloc | apply Kd.R_drewN | apply Kd.R_drew)); exact HO_6.out) (Kd.R_typed (by (with_reducible repeat (first | apply Kd.R_alloc | apply Kd.R_drewN | apply Kd.R_drew)); exact HO_7.out)) (by decide) hg); have n2_ := Aside0.mk (blk_grown (g := gb318) (o := .cells #[.string t314, .int .i64 t315, .string t316, .bool false] 33 (0, 0)) (by (with_reducible repeat (first | refine blk_drewN ?_ _ | refine blk_drew ?_ | refine blk_alloc ?_ _)); exact BK318.out) hg (Kd.R_away HO_7.out (fun _ hk => hk.2))); have n3_ := Aside0.mk (hb); have n4_ := Aside0.mk (ho); clear HO_3; clear HO_6; clear BK318; clear HB; clear HO_7; have HO_3 := n0_; have HO_6 := n1_; have BK318 := n2_; have HB := n3_; have HO338 := n4_; clear n0_ n1_ n2_ n3_ n4_; clear ho hb hg hat) | ((with_reducible refine gate_callee (f := 28) rfl ?_); refine goesL_ _ rfl rfl Try.func28 (by kernel_rfl) rfl #[] rfl (by (try simp only [List.map_toArray, List.map_cons, List.map_nil]); first | done | rfl | (simp only [List.length_drop, List.length_take]; rfl)) ?_; (with_reducible refine (collatorlaw02_Wide.calls  t339 t340 t341 _ A37.out).mono ?_); rintro e w49 ⟨rfl, hb⟩; refine ⟨_, rfl, ?_⟩; have n0_ := Aside0.mk (Kd.R_below (by (with_reducible repeat (first | apply Kd.R_alloc | apply Kd.R_drewN | apply Kd.R_drew)); exact HO_3.out) hb); have n1_ := Aside0.mk (Kd.R_below (by (with_reducible repeat (first | apply Kd.R_alloc | apply Kd.R_drewN | apply Kd.R_drew)); exact HO_6.out) hb); have n2_ := Aside0.mk (Kd.R_below (by (with_reducible repeat (first | apply Kd.R_alloc | apply Kd.R_drewN | apply Kd.R_drew)); exact HO338.out) hb); have n3_ := Aside0.mk (blk_below (g := gb318) (o := .cells #[.string t314, .int .i64 t315, .string t316, .bool false] 33 (0, 0)) (by (with_reducible repeat (first | refine blk_drewN ?_ _ | refine blk_drew ?_ | refine blk_alloc ?_ _)); exact BK318.out) hb); have n4_ := Aside0.mk (below_step (by repeat (first | (with_reducible first | exact HB.out | apply below_alloc | apply pw_below_drewN | apply below_drew1 | refine below_set ?_ GE318.out) | exact HB.out)) hb); clear HO_3; clear HO_6; clear HO338; clear BK318; clear HB; have HO_3 := n0_; have HO_6 := n1_; have HO338 := n2_; have BK318 := n3_; have HB := n4_; clear n0_ n1_ n2_ n3_ n4_; (try clear hb); (try clear hb2); (try clear hk); (try clear hi); (try (obtain ⟨Ao50, co50, eo50⟩ := Kd.R_slice HO338.out; subst eo50))) | ((with_reducible refine gate_callee (f := 27) rfl ?_); refine goesL_ _ rfl rfl Try.func27 (by kernel_rfl) rfl #[.slice Ao50 y336.length co50, .agg #[.int .i64 t339, .int .i64 t340, .int .i64 t341]] rfl (by (try simp only [List.map_toArray, List.map_cons, List.map_nil]); first | done | rfl | (simp only [List.length_drop, List.length_take]; rfl)) ?_; (with_reducible refine (collatorref02_Check.calls k3 _ _ y336 t339 t340 t341 t342 t343 _ ?side1 ?side2 A38.out).mono ?_); (case side1 => repeat (first | exact (Kd.R_reads' HO338.out).2.2 | (with_reducible refine Kd.C_alloc ?_ _) | (with_reducible refine Kd.C_drewN ?_ _) | (with_reducible refine Kd.C_drew ?_))); (case side2 => exact (Kd.R_reads' HO338.out).2.1); rintro e w51 ⟨rfl, hb⟩; refine ⟨_, rfl, ?_⟩; have n0_ := Aside0.mk (Kd.R_below (by (with_reducible repeat (first | apply Kd.R_alloc | apply Kd.R_drewN | apply Kd.R_drew)); exact HO_3.out) hb); have n1_ := Aside0.mk (Kd.R_below (by (with_reducible repeat (first | apply Kd.R_alloc | apply Kd.R_drewN | apply Kd.R_drew)); exact HO_6.out) hb); have n2_ := Aside0.mk (Kd.R_below (by (with_reducible repeat (first | apply Kd.R_alloc | apply Kd.R_drewN | apply Kd.R_drew)); exact HO338.out) hb); have n3_ := Aside0.mk (blk_below (g := gb318) (o := .cells #[.string t314, .int .i64 t315, .string t316, .bool false] 33 (0, 0)) (by (with_reducible repeat (first | refine blk_drewN ?_ _ | refine blk_drew ?_ | refine blk_alloc ?_ _)); exact BK318.out) hb); have n4_ := Aside0.mk (below_step (by repeat (first | (with_reducible first | exact HB.out | apply below_alloc | apply pw_below_drewN | apply below_drew1 | refine below_set ?_ GE318.out) | exact HB.out)) hb); clear HO_3; clear HO_6; clear HO338; clear BK318; clear HB; have HO_3 := n0_; have HO_6 := n1_; have HO338 := n2_; have BK318 := n3_; have HB := n4_; clear n0_ n1_ n2_ n3_ n4_; (try clear hb); (try clear hb2); (try clear hk); (try clear hi)))
              go_roundg k3
              case measure => have := HK1.out; have := HJ1.out; have := HK3.out; omega
              case rel => exact ⟨(x3_1), (wrap64 (x4_1 + 1)), (by first | rfl | (simp; done) | (simp [*]; done)), H', ⟨by have := HK1.out; have := HJ1.out; have := HK3.out; omega⟩, ⟨by (with_reducible repeat (first | apply Kd.R_alloc | apply Kd.R_drewN | apply Kd.R_drew)); exact Kd.R_mono HO_3.out (fun _ hk => trivial)⟩, ⟨by repeat (first | (with_reducible first | exact HB.out | apply below_alloc | apply pw_below_drewN | apply below_drew1 | refine below_set ?_ GE318.out) | exact HB.out)⟩⟩
            ·rw [if_neg c36] at H
             exact absurd H (by simp)
        ·rw [if_neg c9] at H
         exact absurd H (by simp)
       ·rw [if_neg c6] at H
        exact absurd H (by simp)
      ·rw [if_neg c5] at H
       exact absurd H (by simp)
     ·replace c4 := Bool.eq_false_iff.mpr c4
      subst c4
      have H1 : (some x3_1) = some r := by rw [if_neg (show ¬ (false = true) by decide)] at H; exact H
      clear H
      have H := H1
      clear H1
      obtain rfl := Option.some.inj H
      go_wp2
      go_ret
      exact ⟨_, by first | rfl | (simp [errW_none, errW_some] <;> rfl) | (simp [*, errW_none, errW_some] <;> rfl), by (with_reducible repeat (first | apply Kd.R_alloc | apply Kd.R_drewN | apply Kd.R_drew)); exact HO_3.out, by repeat (first | (with_reducible first | exact HB.out | apply below_alloc | apply pw_below_drewN | apply below_drew1) | exact HB.out)⟩

end Go.Proofs.Ytcgnkbdfoaiaiaa.P
end
