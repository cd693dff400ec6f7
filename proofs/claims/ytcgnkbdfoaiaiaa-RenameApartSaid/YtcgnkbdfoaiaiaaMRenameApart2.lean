/- Texts of this claim, joined: ERows, ESplitC, HSet, EFiles, HMap, ECommon, Pxf16, EPairs, EPairsR, EPairsW, EPairsC, Pxe1, Pxf10, Pxf7, Pxf9, Pxf43, Pxf52, Pxf42. -/
import Derived.Test.YtcgnkbdfoaiaiaaMRenameApart1
import Derived.Maps.OwnSet
import Derived.Maps.OwnOps
import Derived.Maps.Views
import Derived.Below
import Derived.WalkMore
import Derived.IntWalk
import Derived.Lib.Hide
section
/- rows.Split: by the iterator's promise. -/
set_option linter.unusedVariables false
set_option linter.unusedSimpArgs false
namespace Go.Proofs.Ytcgnkbdfoaiaiaa.Iter
open Go Go.RowKit Go.Shelf Go.Proofs.Ytcgnkbdfoaiaiaa.Rng Go.Proofs.Ytcgnkbdfoaiaiaa.Q
attribute [local go_sem] Oper.semAt_some
theorem info_str : (Try.prog.info? 9).map (fun i => (i.zero, i.size, i.bytes)) = some (some (.string ByteArray.empty), 1, 16) := by kernel_rfl
theorem index_in (F : Fence) (hw : F = Fence.wide) (n : Nat) (x : ByteArray) (w : World) : CallsIn F n Try.prog 58 #[.string x, .string ⟨#[10]⟩] w fun e w' => e = .returned (.int .i64 (Lib.indexByte x.data.toList 10)) ∧ w' = w := by
  subst hw
  exact callsIn_wide.2 (Try.strings_Index_one x 10 w)
theorem kp_t (Bs : Nat) {X Y Z : World} (h : Y.heap[Bs]? = X.heap[Bs]?) (k : Z.heap[Bs]? = Y.heap[Bs]?) : Z.heap[Bs]? = X.heap[Bs]? := k.trans h
set_option maxRecDepth 100000 in
set_option maxHeartbeats 2000000 in
theorem split_run (s : ByteArray) (hs : s.size ≤ 4294967296) (w : World) :
    Calls Try.prog 31 #[.string s] w fun e w' => ∃ v, e = .returned v ∧ w'.ownsRow w.heap.size 9 1 v (lines s).length ((lines s).map Value.string) ∧ Below w.heap.size w w' := by
  obtain ⟨i0, hi, hz0, hz1, hz2⟩ := info_parts info_str
  have hll := lines_length_le s
  refine (callsIn_wide (n := 9)).1 ?_
  refine callsIn_of_wp_marks Try.func31 rfl trivial ?_ rfl
  simp only [Try.ntmps31, List.size_toArray, List.length_cons, List.length_nil, Nat.reduceAdd, Nat.reduceSub, Array.replicate_succ, Array.replicate_zero, List.push_toArray, List.append_toArray, List.nil_append, List.cons_append]
  gi_wp2_with (refine ⟨trivial, ?_⟩; gi_at_call 46; refine (lines_in Fence.wide _ trivial rfl _ _).mono ?_; rintro e w' ⟨rfl, rfl⟩)
  have bO := (Boxed.new w 44 (.slice none 0 0)).alloc (.cells #[.string s] 9)
  have bS := Boxed.new (w.alloc (.cells #[.slice none 0 0] 44)) 9 (.string s)
  rw [World.size_alloc] at bS
  have hB0 : Below w.heap.size w ((w.alloc (.cells #[.slice none 0 0] 44)).alloc (.cells #[.string s] 9)) := ((Below.refl _ w).alloc (Nat.le_refl _) _).alloc (by simp) _
  obtain ⟨W0, hW0⟩ : ∃ W0, (w.alloc (.cells #[.slice none 0 0] 44)).alloc (.cells #[.string s] 9) = W0 := ⟨_, rfl⟩
  have hz : W0.heap.size = w.heap.size + 2 := by rw [← hW0]; simp
  rw [hW0] at bO bS hB0 ⊢
  refine Rng.range (gf := 57) (lb := #[.pointer (some ⟨w.heap.size + 1, 0, none⟩)]) rfl (by decide) rfl trivial (enters_of Try.func57 (by kernel_rfl) rfl)
    (lines1_seq Fence.wide _ trivial trivial rfl (by decide) (index_in _ rfl _) (w.heap.size + 1) s (by omega) W0 bS) (Below.refl _ _) (fun _ => rfl) ⟨by simp only [hz]; omega, by rw [hz]; omega⟩
    (fun h k => kp_t _ h k) (fun W l o' hl _ => World.putObj_heap_other (by rw [hz] at hl; omega))
    (fun pre W => (∃ v, Boxed W w.heap.size 44 v ∧ W.ownsRow (w.heap.size + 2) 9 1 v pre.length (pre.map Value.string)) ∧ Below w.heap.size w W ∧ w.heap.size + 2 ≤ W.heap.size)
    (fun _ _ _ => False) ?bides (fun _ _ _ _ _ h _ _ => h) ⟨⟨_, bO, World.ownsRow_nil _ _ _ _⟩, hB0, by omega⟩
    (fun x a' _ => a' = { tmps := #[.string s, undef, .pointer (some ⟨w.heap.size, 0, none⟩), .string x, .string s, .func (.func 57) #[] #[.pointer (some ⟨w.heap.size + 1, 0, none⟩)], .string x, undef, undef, undef, undef, undef], defers := [] })
    (fun _ _ _ _ _ _ h _ _ => h) ?assign ?body ?done ?stop
  case bides =>
    rintro pre X Y row ⟨⟨v, hv, hr⟩, hB, hsz⟩ hg hrow
    rw [hz] at hrow
    refine ⟨⟨v, hv.kept hg (fun e => ?_), hr.kept hg ?_⟩, hB.grown hg (by omega) (fun k e => ?_), Nat.le_trans hsz hg.size⟩
    · rcases hrow _ e.symm with h | h
      · omega
      · omega
    · rcases hr.2 with ⟨rfl, _⟩ | ⟨g, cap, cur, rfl, hgb, hh, _⟩
      · exact .inl rfl
      · refine .inr fun e => ?_
        rcases hrow g (by simpa [Value.ownBlock] using e.symm) with h | ⟨_, o, ho, hc⟩
        · omega
        · rw [hh] at ho; cases ho; cases hc
    · rcases hrow k e with h | h
      · omega
      · omega
  case assign =>
    intro l pre x post W K _ hi hK
    gi_wp2
    exact hK _ _ (KeepsFrom.refl _ _) rfl hi rfl
  case body =>
    rintro l pre x post a' W hl hlr hlt hall ⟨⟨v, hv, hrow⟩, hB, hsz⟩ rfl
    have hc := hv.cell
    have hpl : pre.length + 1 ≤ (lines s).length := by rw [hall]; simp
    have HALL := Lib.hid hall
    clear hall
    gi_wp2_with (gi_at_builtin; refine wpListIn_append_own _ rfl _ _ 44 rfl (w.heap.size + 2) 9 i0 (.string ByteArray.empty) 1 16 Try.underlying44 hi hz0 hz1 hz2 rfl (by decide) _ _ _ rfl (hrow.alloc _) ⟨W.heap.size, 0, none⟩ 1 1 [.string x] rfl rfl (cell_one_new _ _ _) (by simp [Value.oneCell']) (by unfold maxLen; omega) (by omega) (by simp; omega) ?_; intro v' w1 hown' hgrow _; obtain ⟨g', cap', rfl⟩ := ownsRow_succ hown'; obtain ⟨hv1, hv2, hr2, hk2, hb2⟩ := hv.appended (n₀ := w.heap.size) (by decide) ⟨hrow.1, hrow.2.imp id fun ⟨g, a, b, h1, h2, h3⟩ => ⟨g, a, b, h1, by omega, h3⟩⟩ (by omega) (Nat.le_refl _) ⟨hown'.1, hown'.2.imp id fun ⟨g, a, b, h1, h2, h3⟩ => ⟨g, a, b, h1, by omega, h3⟩⟩ hgrow; have hc1 := hv1.cell; have hf1 := hv1.frozen)
    have hgB : ∀ k, v.ownBlock = some k → w.heap.size + 2 ≤ k := fun k e => by
      rcases hrow.2 with ⟨rfl, _⟩ | ⟨g, cap, cur, rfl, h1, _⟩
      · simp [Value.ownBlock] at e
      · obtain rfl : g = k := by simpa [Value.ownBlock] using e
        exact h1
    have hown2 := hown'.kept (grownBy_setCell' w1 w.heap.size (.slice (some ⟨g', 0, none⟩) (pre.length + 1) cap')) (.inr (hv1.not_row (by decide) hown').symm)
    refine ⟨hk2.from _, ?_, ⟨_, hv2, by simpa using hown2⟩, hB.trans hb2, Nat.le_trans hsz hb2.size⟩
    refine (Below.heap_setCell w1 _ _ _ (by simp)).trans ((hgrow.block _ (by simp; omega) (fun e => by have := hgB _ e.symm; omega)).trans (Below.heap_alloc W _ _ (by omega)))
  case done =>
    rintro W ⟨⟨v, hv, hrow⟩, hB, hsz⟩ hK
    obtain ⟨A, m, c, rfl⟩ : ∃ A m c, v = .slice A m c := by
      rcases hrow.2 with ⟨rfl, _⟩ | ⟨g, cap, cur, rfl, _⟩
      · exact ⟨_, _, _, rfl⟩
      · exact ⟨_, _, _, rfl⟩
    have hc := hv.cell
    have hf := hv.frozen
    gi_wp2
    have hv1 := hv.set (.slice A m c)
    have hK1 : (W.setCell ⟨w.heap.size, 0, none⟩ (.slice A m c)).heap[W0.heap.size]? = some (.deferred (some [])) := (Below.heap_setCell W _ _ _ (by simp; omega)).trans hK
    have hrow1 := hrow.kept (grownBy_setCell' W w.heap.size (.slice A m c)) (.inr (hv.not_row (by decide) hrow).symm)
    have hv2 := hv1.kept (grownBy_putObj' _ W0.heap.size (.deferred none)) (by simp; omega)
    have hcell := hv2.cell
    have hB1 := hB.setCell (p := ⟨w.heap.size, 0, none⟩) (Nat.le_refl _) (.slice A m c)
    refine ⟨by simp, .inl ⟨_, _, rfl, run_takeDeferred hK1, ?_⟩⟩
    refine ⟨.slice A m c, by simp [results, Try.results31, go_sem, hcell], _, rfl, ownsRow_putObj (⟨hrow1.1, hrow1.2.imp id fun ⟨g, a, b, h1, h2, h3⟩ => ⟨g, a, b, h1, by omega, h3⟩⟩) _ hK1 rfl, hB1.grown (grownBy_putObj' _ _ _) hB1.size (fun k e => by cases e; omega)⟩
  case stop =>
    rintro c pre W _ h _
    exact h.elim
end Go.Proofs.Ytcgnkbdfoaiaiaa.Iter
end
section
/- rows.Split: its contract, as the print asks for it. -/
set_option linter.unusedVariables false
set_option linter.unusedSimpArgs false
namespace Go.Proofs.Ytcgnkbdfoaiaiaa.P
open Go Go.RowKit Go.Shelf Go.Proofs.YtcgnkbdfoaiaiaaW.PrintWords Go.Proofs.YtcgnkbdfoaiaiaaW.PrintLast Go.Proofs.YtcgnkbdfoaiaiaaW.PrintMore Go.Proofs.Ytcgnkbdfoaiaiaa.Rng Go.Proofs.Ytcgnkbdfoaiaiaa.Q Go.Proofs.Ytcgnkbdfoaiaiaa.Iter
def rows_Split.f (s : ByteArray) : Option (List ByteArray) := if s.size ≤ 4294967296 then some (Q.lines s) else none
theorem rows_Split.calls (a0 : ByteArray) (r : List ByteArray) (w : World) (h : rows_Split.f a0 = some r) :
    Calls Try.prog 31 #[.string a0] w fun e w' => ∃ v0_ : Value, e = .returned (v0_) ∧ Kd.R Kd.string 9 w' w.heap.size (fun _ => True) v0_ r ∧ Below w.heap.size w w' := by
  unfold rows_Split.f at h
  split at h
  · rename_i hh
    obtain rfl := Option.some.inj h
    refine (split_run a0 hh w).mono ?_
    rintro e w' ⟨v, rfl, hown, hb⟩
    exact ⟨v, rfl, Kd.R_of_own (h1 := fun _ => rfl) (ok := fun _ => True) hown (fun _ _ => trivial), hb⟩
  · cases h
end Go.Proofs.Ytcgnkbdfoaiaiaa.P
end
section
/- Words of this session: a set of texts that a call makes (a map from texts to bools), told by the list of those laid in. -/
set_option linter.unusedVariables false
set_option linter.unusedSimpArgs false
namespace Go.Proofs.Ytcgnkbdfoaiaiaa.HSet
open Go Go.RowKit Go.Maps Go.WideMaps
/-- Block b is a set of texts, at most n times written, that holds those of S. -/
def Has (P : Program) (k e : TypeId) (w : World) (b n : Nat) (S : List ByteArray) : Prop :=
  ∃ D : DataW Unit, w.ownsMap P k (plainElem P e) b n D ∧ IsMap D ∧ ∀ s : ByteArray, s.size ≤ maxLen → D.atKey (.string s.data.toList) (.lit (.bool false)) = .lit (.bool (decide (s ∈ S)))
section
variable {P : Program} {k e t : TypeId} {w w' : World} {b n : Nat} {S : List ByteArray}
theorem isKeyLit_string (l : List UInt8) : WideAt.IsKeyLit (.string l) := by trivial
theorem string_lit_ne {s s' : ByteArray} (h : s ≠ s') : (Lit.string s'.data.toList) ≠ (Lit.string s.data.toList) := by
  intro hl
  injection hl with hl
  apply h
  cases s with | mk a => cases s' with | mk a' =>
  congr 1
  exact (Array.toList_inj.1 hl).symm
theorem Has.made (w : World) (P : Program) (k e : TypeId) : Has P k e (w.alloc (.map #[] 0)) w.heap.size 0 [] :=
  ⟨.map [], World.ownsMap_made _ _ _ _, isMap_empty, fun s _ => rfl⟩
theorem Has.mono {n' : Nat} (h : Has P k e w b n S) (hn : n ≤ n') : Has P k e w b n' S := by
  obtain ⟨D, h1, h2⟩ := h
  exact ⟨D, h1.mono hn, h2⟩
theorem Has.lt (h : Has P k e w b n S) : b < w.heap.size := by
  obtain ⟨D, h1, _⟩ := h
  exact h1.lt
theorem Has.grown {row : Option Nat} (h : Has P k e w b n S) (hg : w.grownBy w' row) (hne : some b ≠ row) : Has P k e w' b n S := by
  obtain ⟨D, h1, h2⟩ := h
  exact ⟨D, h1.kept hg hne, h2⟩
theorem Has.block (h : Has P k e w b n S) (hb : w'.heap[b]? = w.heap[b]?) : Has P k e w' b n S := by
  obtain ⟨D, ⟨es, clock, h1, h3⟩, h2⟩ := h
  exact ⟨D, ⟨es, clock, hb.trans h1, h3⟩, h2⟩
theorem Has.below (h : Has P k e w b n S) (hb : Below w.heap.size w w') : Has P k e w' b n S := h.block (hb.block b h.lt)
theorem plainElem_bool_inv {H : Type} (he : P.underlying e = some .bool) {v : Value} {z : DataW H × List MemPlace} (h : plainElem P e v = some z) : ∃ x, v = .bool x ∧ z = (.lit (.bool x), []) := by
  unfold plainElem at h
  rw [he] at h
  cases v <;> simp at h
  exact ⟨_, rfl, h.symm⟩
/-- 'm[s]': its run. -/
theorem Has.look (h : Has P k e w b n S) (hk : P.underlying k = some .string) (ht : P.underlying t = some (.map k e)) (he : P.underlying e = some .bool) (hz : (zeroValue e).run P w = .ok (.bool false) w) {s : ByteArray} (hs : s.size ≤ maxLen) :
    (Instr.lookup t (.map (some b)) (.string s) false).run P w = .ok (.bool (decide (s ∈ S))) w := by
  obtain ⟨D, h1, h2, h3⟩ := h
  obtain ⟨v, ps, hrun, hv⟩ := h1.lookup (string_keyed hk) ht hz (plainElem_bool he false) (keyOf_string_mk hk hs)
  obtain ⟨x, rfl, hx⟩ := plainElem_bool_inv he hv
  rw [h3 s hs] at hx
  simp only [Prod.mk.injEq] at hx
  injection hx.1 with hx
  injection hx with hx
  rw [hrun, hx]
/-- 'm[s] = true': its run. -/
theorem Has.put (h : Has P k e w b n S) (hk : P.underlying k = some .string) (ht : P.underlying t = some (.map k e)) (he : P.underlying e = some .bool) (hn : n < maxLen) {s : ByteArray} (hs : s.size ≤ maxLen) :
    ∃ w', (Instr.mapUpdate t (.map (some b)) (.string s) (.bool true)).run P w = .ok () w' ∧ Has P k e w' b (n + 1) (s :: S) ∧ w.grownBy w' (some b) := by
  obtain ⟨D, h1, h2, h3⟩ := h
  obtain ⟨w', hrun, hown, hgr⟩ := h1.update (string_keyed hk) ht hn (keyOf_string_mk hk hs) (plainElem_bool he true)
  refine ⟨w', hrun, ⟨_, hown, h2.put _ _, fun s' hs' => ?_⟩, hgr⟩
  by_cases heq : s' = s
  · subst heq
    rw [atKey_put_same h2 (isKeyLit_string _) _ _]
    simp
  · rw [atKey_put_other (string_lit_ne (fun h => heq h.symm)), h3 s' hs']
    simp [heq]
variable {ops : Array Oper} {rest : List Oper} {o : Oper} {a : Act} {Q : Exit → Act → World → Prop}
/-- 'm[s] = true' at the operation. -/
theorem wp_set_update (hg : o.guard = none) (m x v : Operand) (t : TypeId) (hop : o.op = Op.mapUpdate t m x v)
    (hk : P.underlying k = some .string) (ht : P.underlying t = some (.map k e)) (he : P.underlying e = some .bool) (b n : Nat) (S : List ByteArray)
    (hm : a.eval m = .map (some b)) (h : Has P k e w b n S) (hn : n < maxLen) (s : ByteArray) (hs : s.size ≤ maxLen) (hx : a.eval x = .string s) (hv : a.eval v = .bool true)
    (hK : ∀ w', Has P k e w' b (n + 1) (s :: S) → w.grownBy w' (some b) → wpList P ops Q rest (a.put o.dst undef) w') : wpList P ops Q (o :: rest) a w := by
  refine wpList_plain hg fun K' hK' => ?_
  obtain ⟨w', hrun, r1, r2⟩ := h.put hk ht he hn hs
  unfold Oper.wp
  simp [execOp, hop, hm, hx, hv, hrun, Result.andThen]
  exact hK' _ _ (hK w' r1 r2)
end
end Go.Proofs.Ytcgnkbdfoaiaiaa.HSet
end
section
/- rename.files: its contract; by a walk of its text. -/
set_option linter.unusedVariables false
set_option linter.unusedSimpArgs false
namespace Go.Proofs.Ytcgnkbdfoaiaiaa.P
open Go Go.RowKit Go.Proofs.YtcgnkbdfoaiaiaaW.PrintWords Go.Proofs.YtcgnkbdfoaiaiaaW.PrintLast Go.Proofs.YtcgnkbdfoaiaiaaW.PrintMore Go.Proofs.Ytcgnkbdfoaiaiaa.HSet
structure Fe where
  p : ByteArray
  v : Value
  l : List ByteArray
def Fe.cells (e : Fe) : List Value := [.string e.p, e.v]
def Fe.plain (e : Fe) : ByteArray × List ByteArray := (e.p, e.l)
def fflat (es : List Fe) : List Value := es.flatMap Fe.cells
theorem fflat_length (es : List Fe) : (fflat es).length = es.length * 2 := by
  induction es with
  | nil => rfl
  | cons e es ih => simp only [fflat, List.flatMap_cons, List.length_append, List.length_cons] at ih ⊢; rw [ih]; simp [Fe.cells]; omega
theorem fflat_snoc (es : List Fe) (e : Fe) : fflat (es ++ [e]) = fflat es ++ e.cells := by simp [fflat]
/-- v is the files es, from base on. -/
def Fls (base : Nat) (w : World) (v : Value) (es : List Fe) : Prop :=
  w.ownsRow base 46 2 v es.length (fflat es) ∧ ∀ e ∈ es, w.ownsRow base 9 1 e.v e.l.length (encs Value.string e.l)
theorem Fls.nil (base : Nat) (w : World) : Fls base w (.slice none 0 0) [] := ⟨own_nil _ _ _ _, by simp⟩
theorem Fls.below {base : Nat} {w w' : World} {v : Value} {es : List Fe} (h : Fls base w v es) (hb : Below w.heap.size w w') : Fls base w' v es := ⟨pw_own_below h.1 hb, fun e he => pw_own_below (h.2 e he) hb⟩
theorem Fls.drewN {base : Nat} {w : World} {v : Value} {es : List Fe} (h : Fls base w v es) (m : Nat) : Fls base (w.drewN m) v es := h
theorem own_not_map {base e size n : Nat} {w : World} {v : Value} {xs : List Value} (h : w.ownsRow base e size v n xs) {b : Nat} {es : Array MapEntry} {c : Nat} (hb : w.heap[b]? = some (.map es c)) : some b ≠ v.ownBlock := by
  rcases h.2 with ⟨rfl, _⟩ | ⟨g, cap, cur, rfl, _, hh, _⟩
  · simp [Value.ownBlock]
  · intro he
    have : b = g := by simpa [Value.ownBlock] using he
    subst this
    rw [hb] at hh
    cases hh
theorem has_ne_own {P : Program} {k e b n : Nat} {w : World} {S : List ByteArray} (h : Has P k e w b n S) {base t size m : Nat} {v : Value} {xs : List Value} (ho : w.ownsRow base t size v m xs) : some b ≠ v.ownBlock := by
  obtain ⟨D, ⟨es, clock, h1, _⟩, _⟩ := h
  exact own_not_map ho h1
theorem Fls.turned {base : Nat} {w w' : World} {v : Value} {es : List Fe} (h : Fls base w v es) {b : Nat} (hg : w.grownBy w' (some b)) (hne : ∀ v' e' s' n' xs', w.ownsRow base e' s' v' n' xs' → some b ≠ v'.ownBlock) : Fls base w' v es :=
  ⟨h.1.kept hg (.inr (fun e => hne _ _ _ _ _ h.1 e.symm)), fun e he => (h.2 e he).kept hg (.inr (fun e' => hne _ _ _ _ _ (h.2 e he) e'.symm))⟩
def stepF (st : List ByteArray × List (ByteArray × List ByteArray)) (x : S33) : List ByteArray × List (ByteArray × List ByteArray) :=
  if x.f1 = 2 ∧ x.f0 ∉ st.1 then (x.f0 :: st.1, st.2 ++ [(x.f0, Q.lines x.f2)]) else st
def filesL (l : List S33) : List (ByteArray × List ByteArray) := (l.foldl stepF ([], [])).2
/-- Items of which one can tell. -/
def ItemsOk (l : List S33) : Prop := l.length ≤ 1000000 ∧ ∀ x ∈ l, x.f0.size ≤ 4294967296 ∧ x.f2.size ≤ 4294967296
instance (l : List S33) : Decidable (ItemsOk l) := by unfold ItemsOk; infer_instance
set_option maxRecDepth 100000 in
set_option maxHeartbeats 4000000 in
theorem files_run (A0 : Option Addr) (c0 : Nat) (l0 : List S33) (w : World) (hr0 : Kd.C k33 w A0 l0.length l0) (hc0 : l0.length ≤ c0) (hok : ItemsOk l0) :
    Calls Try.prog 15 #[.slice A0 l0.length c0] w fun e w' => ∃ v es, e = .returned v ∧ Fls w.heap.size w' v es ∧ es.map Fe.plain = filesL l0 ∧ Below w.heap.size w w' := by
  obtain ⟨hl, hsz⟩ := hok
  have HR0 := Lib.hid hr0
  have HSZ := Lib.hid hsz
  have hmm := @run_makeMap Try.prog
  clear hr0 hsz
  go_enter Try.func15, Try.ntmps15
  go_wp2
  go_loopw [2, 9] (fun v2 v9 wr => ∃ (i : Nat) (es : List Fe) (S : List ByteArray), v9 = .int .i64 (i : Int) ∧ i ≤ l0.length ∧ es.length ≤ i ∧ Hid (Has Try.prog 9 4 wr w.heap.size i S) ∧ Hid (Fls w.heap.size wr v2 es) ∧ Hid ((l0.take i).foldl stepF ([], []) = (S, es.map Fe.plain)) ∧ Hid (Below w.heap.size w wr)) (fun _ v9 _ => l0.length - (intOf v9).toNat)
  case atStart => exact ⟨0, [], [], rfl, Nat.zero_le _, Nat.zero_le _, Has.made _ _ _ _, Fls.nil _ _, rfl, (Below.refl _ _).alloc (Nat.le_refl _) _⟩
  case round =>
    obtain ⟨i, es, S, rfl, hi, hes, HM, HF, HL, HB⟩ := hrel
    by_cases ci : i < l0.length
    · have cb : decide ((i : Int) < (l0.length : Int)) = true := decide_eq_true (by omega)
      have cb' : decide (i < l0.length) = true := decide_eq_true ci
      obtain ⟨ad, rfl, hx0, hx1, hx2, hx3⟩ := at_T33 HR0.out (i : Int) (by omega) (by omega)
      have hE0 : l0[i] = rd_T33 l0 (i : Int) := by simp [rd_T33, List.getD_eq_getElem?_getD, List.getElem?_eq_getElem ci]
      obtain ⟨x, hx⟩ : ∃ x, x = rd_T33 l0 (i : Int) := ⟨_, rfl⟩
      rw [← hx] at hx0 hx1 hx2 hx3 hE0
      have HTK := Lib.hid (show (l0.take (i + 1)).foldl stepF ([], []) = stepF (S, es.map Fe.plain) x by rw [List.take_succ_eq_append_getElem ci, List.foldl_append, HL.out, hE0]; rfl)
      have HXS := Lib.hid (HSZ.out x (by rw [← hE0]; exact List.getElem_mem ci))
      rw [Int.toNat_natCast] at hx0 hx1 hx2 hx3
      have y0 := (HB.out.cell (World.block_lt_of_cell? w _ hx0)).trans hx0
      have y1 := (HB.out.cell (World.block_lt_of_cell? w _ hx1)).trans hx1
      have y2 := (HB.out.cell (World.block_lt_of_cell? w _ hx2)).trans hx2
      have y3 := (HB.out.cell (World.block_lt_of_cell? w _ hx3)).trans hx3
      have p1 := eq_true (show 0 ≤ (i : Int) by omega)
      have q1 := eq_true (show (i : Int) < (l0.length : Int) by omega)
      obtain ⟨Ao, co, rfl⟩ := own_slice HF.out.1
      obtain ⟨X, hX⟩ : ∃ X, X = wr.alloc (.cells #[.string x.f0, .int .i64 x.f1, .string x.f2, .bool x.f3] 33) := ⟨_, rfl⟩
      have qX : X.heap[wr.heap.size]? = some (.cells #[.string x.f0, .int .i64 x.f1, .string x.f2, .bool x.f3] 33 (0, 0)) := by rw [hX]; exact heap_alloc_new wr _
      have bX : Below wr.heap.size wr X := by rw [hX]; exact (Below.refl _ _).alloc (Nat.le_refl _) _
      have z0 : X.cell? ⟨wr.heap.size, 0, none⟩ = some (.string x.f0) := by simp [World.cell?, qX]
      have z1 : X.cell? ⟨wr.heap.size, 1, none⟩ = some (.int .i64 x.f1) := by simp [World.cell?, qX]
      have z2 : X.cell? ⟨wr.heap.size, 2, none⟩ = some (.string x.f2) := by simp [World.cell?, qX]
      have HMX := Lib.hid (HM.out.below bX)
      have HFX := Lib.hid (HF.out.below bX)
      have HBX := Lib.hid (HB.out.trans (bX.mono HB.out.size))
      have HQX := Lib.hid qX
      have HXX := Lib.hid hX
      have HSX := Lib.hid bX.size
      have HLT := Lib.hid HM.out.lt
      clear hx hx0 hx1 hx2 hx3 hE0 hX qX bX
      by_cases k1 : x.f1 = 2
      · have kb1 : (x.f1 == 2) = true := beq_iff_eq.2 k1
        have hlk := HMX.out.look (t := 52) Try.underlying9 Try.underlying52 Try.underlying4 (by kernel_rfl) (s := x.f0) (by have := HXS.out.1; unfold maxLen; omega)
        by_cases k2 : x.f0 ∈ S
        · have hk2 : decide (x.f0 ∈ S) = true := decide_eq_true k2
          rw [hk2] at hlk
          have HST := Lib.hid (show (l0.take (i + 1)).foldl stepF ([], []) = (S, es.map Fe.plain) by rw [HTK.out]; unfold stepF; rw [if_neg (fun h => h.2 k2)])
          clear k1 k2 hk2
          go_wp2_with (first | rw [← HXX.out])
          exact ⟨⟨i + 1, es, S, by simp, ci, by omega, HMX.out.mono (by omega), HFX, HST, HBX⟩, by simp [intOf]; omega⟩
        · have hk2 : decide (x.f0 ∈ S) = false := decide_eq_false k2
          rw [hk2] at hlk
          have HST := Lib.hid (show (l0.take (i + 1)).foldl stepF ([], []) = (x.f0 :: S, es.map Fe.plain ++ [(x.f0, Q.lines x.f2)]) by rw [HTK.out]; unfold stepF; rw [if_pos ⟨k1, k2⟩])
          clear k1 k2 hk2
          go_wp2_with (first | rw [← HXX.out] | (at_mapUpdate; refine wp_set_update rfl _ _ _ 52 rfl Try.underlying9 Try.underlying52 Try.underlying4 w.heap.size i S rfl HMX.out (by unfold maxLen; omega) x.f0 (by have := HXS.out.1; unfold maxLen; omega) rfl rfl ?_; intro w1 hm1 hg1; have HM1 := Lib.hid hm1; have HG1 := Lib.hid hg1; clear hm1 hg1))
          have hbl : ∀ v' e' s' n' xs', X.ownsRow w.heap.size e' s' v' n' xs' → some w.heap.size ≠ v'.ownBlock := fun v' e' s' n' xs' ho => has_ne_own HMX.out ho
          have HF1 := Lib.hid (HFX.out.turned HG1.out hbl)
          have q1' : w1.heap[wr.heap.size]? = some (.cells #[.string x.f0, .int .i64 x.f1, .string x.f2, .bool x.f3] 33 (0, 0)) := (HG1.out.block _ (blk_lt HQX.out) (by have := HLT.out; simp; omega)).trans HQX.out
          have HB1 := Lib.hid (HBX.out.grown HG1.out HBX.out.size (fun k hk => by injection hk with hk; omega))
          obtain ⟨Z, hZ⟩ : ∃ Z, Z = w1.drew := ⟨_, rfl⟩
          have qZ : Z.heap[wr.heap.size]? = some (.cells #[.string x.f0, .int .i64 x.f1, .string x.f2, .bool x.f3] 33 (0, 0)) := by rw [hZ]; exact q1'
          have m0 : Z.cell? ⟨wr.heap.size, 0, none⟩ = some (.string x.f0) := by simp [World.cell?, qZ]
          have m2 : Z.cell? ⟨wr.heap.size, 2, none⟩ = some (.string x.f2) := by simp [World.cell?, qZ]
          have HZ8 := Lib.hid (show ∀ b ∈ [wr.heap.size], b < Z.heap.size by intro b hb; rw [List.mem_singleton.1 hb]; exact blk_lt qZ)
          have bZ : Below w1.heap.size w1 Z := by rw [hZ]; exact (Below.refl _ _).drew
          have HMZ := Lib.hid (HM1.out.below bZ)
          have HFZ := Lib.hid (HF1.out.below bZ)
          have HBZ := Lib.hid (HB1.out.trans (bZ.mono HB1.out.size))
          have HZZ := Lib.hid hZ
          have HNX := Lib.hid (own_ne HF1.out.1 q1' (by decide))
          have CO := Lib.hid (Iter.split_run x.f2 HXS.out.2 Z)
          clear hZ qZ bZ q1' hbl
          refine (wpIn_wide (n := 9)).1 ?_
          refine Held.region 9 (Held.Same Z [wr.heap.size]) (by kernel_rfl) ?_
          rw [← HZZ.out]
          have hT := Held.Same.refl Z [wr.heap.size]
          refine Held.tk (i := 0) rfl hT ?_
          try simp only [Act.put, List.setIfInBounds_toArray, List.set_cons_zero, List.set_cons_succ]
          refine Held.tk (i := 1) rfl hT ?_
          try simp only [Act.put, List.setIfInBounds_toArray, List.set_cons_zero, List.set_cons_succ]
          refine Held.tk (i := 2) rfl hT ?_
          try simp only [Act.put, List.setIfInBounds_toArray, List.set_cons_zero, List.set_cons_succ]
          refine Held.tk (i := 3) rfl hT ?_
          try simp only [Act.put, List.setIfInBounds_toArray, List.set_cons_zero, List.set_cons_succ]
          refine Held.tk (i := 4) rfl hT ?_
          try simp only [Act.put, List.setIfInBounds_toArray, List.set_cons_zero, List.set_cons_succ]
          refine Held.AnyS.step (i := 5) rfl (by kernel_rfl) rfl (fun K hK => ?_)
          go_simp
          first | refine ⟨trivial, ?_⟩ | skip
          refine (callsIn_wide.2 CO.out).mono ?_
          rintro e Y5 ⟨vL, rfl, hRL, hbY5⟩
          have hT2 := hT.below hbY5 HZ8.out
          have HRL := Lib.hid hRL
          have HBY5 := Lib.hid hbY5
          obtain ⟨AL, cL, rfl⟩ := own_slice hRL
          clear hRL hbY5
          refine hK.out _ _ (fun _ => hT2) ?_
          clear hK K
          try simp only [Act.put, List.setIfInBounds_toArray, List.set_cons_zero, List.set_cons_succ]
          refine Held.tk (i := 6) rfl hT2 ?_
          try simp only [Act.put, List.setIfInBounds_toArray, List.set_cons_zero, List.set_cons_succ]
          refine Held.AnyS.step (i := 7) rfl (by kernel_rfl) rfl (fun K hK => ?_)
          go_simp
          have hT3 := hT2.grown (World.grownBy_alloc Y5 (.cells #[.string x.f0, .slice AL (Q.lines x.f2).length cL] 46) none) (fun b hb => ⟨HZ8.out b hb, by simp⟩)
          refine hK.out _ _ (fun _ => hT3) ?_
          clear hK K
          try simp only [Act.put, List.setIfInBounds_toArray, List.set_cons_zero, List.set_cons_succ]
          obtain ⟨w2, hw2⟩ : ∃ w2, w2 = Y5.alloc (.cells #[.string x.f0, .slice AL (Q.lines x.f2).length cL] 46) := ⟨_, rfl⟩
          have b82 : Below Z.heap.size Z w2 := by rw [hw2]; exact HBY5.out.alloc HBY5.out.size _
          have sZ := HBZ.out.size
          have nw : ∀ j u, [Value.string x.f0, .slice AL (Q.lines x.f2).length cL][j]? = some u → w2.cell? ((⟨Y5.heap.size, 0, none⟩ : Addr).add j) = some u := by
            rw [hw2]
            simpa using World.news_of_block (cs := #[Value.string x.f0, .slice AL (Q.lines x.f2).length cL]) (t := 46) (fr := (0, 0)) (heap_alloc_new Y5 _)
          have lns : w2.ownsRow w.heap.size 9 1 (.slice AL (Q.lines x.f2).length cL) (Q.lines x.f2).length (encs Value.string (Q.lines x.f2)) := by
            rw [hw2]
            exact own_alloc (own_less HRL.out (by omega)) _
          have SY := HFZ.out.below b82
          have MY := HMZ.out.below b82
          have S2 := SY.1
          have ne8 : ∀ b ∈ [wr.heap.size], some b ≠ (Value.slice Ao es.length co).ownBlock := fun b hb => by
            rw [List.mem_singleton.1 hb]; exact HNX.out
          rw [← hw2] at hT3 ⊢
          clear hw2
          refine Held.AnyS.step (i := 8) rfl (by kernel_rfl) rfl (fun K hK => ?_)
          refine Held.append_at (.tmp 26) (.tmp 33) 42 rfl w.heap.size 46 (.agg #[.string ⟨#[]⟩, .slice none 0 0]) 2 40 Try.underlying42 (by kernel_rfl) rfl (by omega) (.slice Ao es.length co) es.length (fflat es) rfl S2 ⟨Y5.heap.size, 0, none⟩ 1 1 [.string x.f0, .slice AL (Q.lines x.f2).length cL] rfl rfl nw ?_ ?_ ?_ ?_ ?_
          · intro u hu; simp at hu; rcases hu with rfl | rfl <;> rfl
          · simp only [maxLen]; omega
          · omega
          · have := b82.size; omega
          intro v1 w3 hown hgr hat1
          obtain ⟨A5, c5, rfl⟩ := own_slice hown
          have hT4 : Held.Same Z [wr.heap.size] w3 := hT3.grown hgr (fun b hb => ⟨HZ8.out b hb, ne8 b hb⟩)
          have HM3 := Lib.hid (MY.grown hgr (has_ne_own MY S2))
          have HF3 := Lib.hid (show Fls w.heap.size w3 (.slice A5 (es.length + 1) c5) (es ++ [⟨x.f0, .slice AL (Q.lines x.f2).length cL, Q.lines x.f2⟩]) from ⟨by rw [fflat_snoc, List.length_append]; exact hown, fun e he => by
            rcases List.mem_append.1 he with he | he
            · exact own_other (SY.2 e he) hgr (own_type_ne (SY.2 e he) S2 (by decide))
            · rw [List.mem_singleton.1 he]; exact own_other lns hgr (own_type_ne lns S2 (by decide))⟩)
          have HB3 := Lib.hid ((HBZ.out.trans (b82.mono sZ)).grown hgr (by have := b82.size; omega) (own_base S2))
          clear hown hgr hat1 S2 SY MY nw lns b82 ne8
          refine hK.out _ _ (fun _ => hT4) ?_
          clear hK K hT hT2 hT3 hT4
          try simp only [Act.put, List.setIfInBounds_toArray, List.set_cons_zero, List.set_cons_succ]
          refine Held.AnyS.step (i := 9) rfl (by kernel_rfl) rfl (fun K hK => ?_)
          go_simp
          refine hK.out _ _ (fun h => absurd h (by omega)) ?_
          clear hK K
          refine Held.AnyS.done (by kernel_rfl) ?_ _
          go_simp
          go_wp2
          exact ⟨⟨i + 1, _, _, by simp, ci, by simp; omega, HM3, HF3, Lib.hid (by rw [HST.out, List.map_append]; rfl), HB3⟩, by simp [intOf]; omega⟩
      · have kb1 : (x.f1 == 2) = false := beq_eq_false_iff_ne.2 k1
        have HST := Lib.hid (show (l0.take (i + 1)).foldl stepF ([], []) = (S, es.map Fe.plain) by rw [HTK.out]; unfold stepF; rw [if_neg (fun h => k1 h.1)])
        clear k1
        go_wp2_with (first | rw [← HXX.out])
        exact ⟨⟨i + 1, es, S, by simp, ci, by omega, HMX.out.mono (by omega), HFX, HST, HBX⟩, by simp [intOf]; omega⟩
    · have cb : decide ((i : Int) < (l0.length : Int)) = false := decide_eq_false (by omega)
      have cb' : decide (i < l0.length) = false := decide_eq_false ci
      obtain rfl : i = l0.length := by omega
      have HP := Lib.hid (show es.map Fe.plain = filesL l0 by have h := HL.out; rw [List.take_length] at h; unfold filesL; rw [h])
      clear HL
      go_wp2
      go_ret
      exact ⟨_, es, rfl, HF.out, HP.out, HB.out⟩
end Go.Proofs.Ytcgnkbdfoaiaiaa.P
end
section
/- Words of this session: a map from texts to numbers (or bools) that a call makes, told by a plain function. -/
set_option linter.unusedVariables false
set_option linter.unusedSimpArgs false
namespace Go.Proofs.Ytcgnkbdfoaiaiaa.HMap
open Go Go.RowKit Go.Maps Go.WideMaps

/-- Block b is a map of at most n entries, from texts to whole numbers, whose value at s is f s (0 where there is none). -/
def Cnt (P : Program) (k e : TypeId) (w : World) (b n : Nat) (f : ByteArray → Int) : Prop :=
  ∃ D : DataW Unit, w.ownsMap P k (plainElem P e) b n D ∧ IsMap D ∧ ∀ s : ByteArray, s.size ≤ maxLen → D.atKey (.string s.data.toList) (.lit (.int .i64 0)) = .lit (.int .i64 (f s))

section
variable {P : Program} {k e t : TypeId} {w w' : World} {b n : Nat} {f : ByteArray → Int}

theorem isKeyLit_string (l : List UInt8) : WideAt.IsKeyLit (.string l) := by trivial

theorem string_lit_ne {s s' : ByteArray} (h : s ≠ s') : (Lit.string s'.data.toList) ≠ (Lit.string s.data.toList) := by
  intro hl
  injection hl with hl
  apply h
  cases s with | mk a => cases s' with | mk a' =>
  congr 1
  exact (Array.toList_inj.1 hl).symm

theorem Cnt.made (w : World) (P : Program) (k e : TypeId) : Cnt P k e (w.alloc (.map #[] 0)) w.heap.size 0 (fun _ => 0) :=
  ⟨.map [], World.ownsMap_made _ _ _ _, isMap_empty, fun s _ => rfl⟩

theorem Cnt.mono {n' : Nat} (h : Cnt P k e w b n f) (hn : n ≤ n') : Cnt P k e w b n' f := by
  obtain ⟨D, h1, h2⟩ := h
  exact ⟨D, h1.mono hn, h2⟩

theorem Cnt.congr {f' : ByteArray → Int} (h : Cnt P k e w b n f) (hf : ∀ s, f s = f' s) : Cnt P k e w b n f' := by
  have : f = f' := funext hf
  rwa [← this]

theorem Cnt.lt (h : Cnt P k e w b n f) : b < w.heap.size := by
  obtain ⟨D, h1, _⟩ := h
  exact h1.lt

theorem Cnt.grown {row : Option Nat} (h : Cnt P k e w b n f) (hg : w.grownBy w' row) (hne : some b ≠ row) : Cnt P k e w' b n f := by
  obtain ⟨D, h1, h2⟩ := h
  exact ⟨D, h1.kept hg hne, h2⟩

theorem Cnt.block (h : Cnt P k e w b n f) (hb : w'.heap[b]? = w.heap[b]?) : Cnt P k e w' b n f := by
  obtain ⟨D, ⟨es, clock, h1, h3⟩, h2⟩ := h
  exact ⟨D, ⟨es, clock, hb.trans h1, h3⟩, h2⟩

theorem Cnt.below (h : Cnt P k e w b n f) (hb : Below w.heap.size w w') : Cnt P k e w' b n f := h.block (hb.block b h.lt)

theorem turned_below {B : Nat} {w0 w w' : World} (hB : Below B w0 w) (h : w.mapTurned w' b) (hb : B ≤ b) : Below B w0 w' := by
  obtain ⟨es, clock, es', clock', h1, rfl⟩ := h
  refine hB.trans ⟨rfl, rfl, rfl, by simp [ChangeMaps.setBlock], fun i hi => ?_⟩
  exact ChangeMaps.heap_setBlock_other h1 _ (by omega)

theorem turned_block {w w' : World} (h : w.mapTurned w' b) {i : Nat} (hi : i ≠ b) : w'.heap[i]? = w.heap[i]? := by
  obtain ⟨es, clock, es', clock', h1, rfl⟩ := h
  exact ChangeMaps.heap_setBlock_other h1 _ hi

theorem grown_block {w w' : World} {row : Option Nat} (h : w.grownBy w' row) {i : Nat} (hl : i < w.heap.size) (hi : some i ≠ row) : w'.heap[i]? = w.heap[i]? := h.block i hl hi

variable {ops : Array Oper} {rest : List Oper} {o : Oper} {a : Act} {Q : Exit → Act → World → Prop}

/-- 'm[s]' at the operation. -/
theorem wp_cnt_lookup (hg : o.guard = none) (m x : Operand) (t : TypeId) (hop : o.op = Op.lookup t m x false)
    (hk : P.underlying k = some .string) (ht : P.underlying t = some (.map k e)) (he : P.underlying e = some (.int .i64)) (hz : (zeroValue e).run P w = .ok (.int .i64 0) w) (b n : Nat) (f : ByteArray → Int)
    (hm : a.eval m = .map (some b)) (h : Cnt P k e w b n f) (s : ByteArray) (hs : s.size ≤ maxLen) (hx : a.eval x = .string s)
    (hK : wpList P ops Q rest (a.put o.dst (.int .i64 (f s))) w) : wpList P ops Q (o :: rest) a w := by
  obtain ⟨D, h1, h2, h3⟩ := h
  refine wpList_lookup_own_int (H := Unit) w hg m x t hop k e .i64 (string_keyed hk) ht he hz b n D hm h1 (.string s) _ hx (keyOf_string_mk hk hs) ?_
  intro c hat hwc
  rw [h3 s hs] at hat
  injection hat with hat
  injection hat with _ hat
  subst hat
  exact hK

/-- 'm[s] = v' at the operation. -/
theorem wp_cnt_update (hg : o.guard = none) (m x v : Operand) (t : TypeId) (hop : o.op = Op.mapUpdate t m x v)
    (hk : P.underlying k = some .string) (ht : P.underlying t = some (.map k e)) (he : P.underlying e = some (.int .i64)) (b n : Nat) (f : ByteArray → Int)
    (hm : a.eval m = .map (some b)) (h : Cnt P k e w b n f) (hn : n < maxLen) (s : ByteArray) (hs : s.size ≤ maxLen) (hx : a.eval x = .string s) (z : Int) (hv : a.eval v = .int .i64 z) (hz : (Lit.int .i64 z).wf = true)
    (hK : ∀ w', Cnt P k e w' b (n + 1) (fun s' => if s' = s then z else f s') → w.grownBy w' (some b) → wpList P ops Q rest (a.put o.dst undef) w') : wpList P ops Q (o :: rest) a w := by
  obtain ⟨D, h1, h2, h3⟩ := h
  refine wpList_mapUpdate_own (H := Unit) w hg m x v t hop k e (string_keyed hk) ht (plainElem P e) b n D hm h1 hn (.string s) (.int .i64 z) _ hx hv (keyOf_string_mk hk hs) _ [] (plainElem_int he hz) ?_
  intro w' hown hgr
  refine hK w' ⟨_, hown, h2.put _ _, fun s' hs' => ?_⟩ hgr
  by_cases heq : s' = s
  · subst heq
    simp only [if_pos]
    exact atKey_put_same h2 (isKeyLit_string _) _ _
  · simp only [if_neg heq]
    rw [atKey_put_other (string_lit_ne (fun h => heq h.symm))]
    exact h3 s' hs'

/-- 'delete(m, s)' at the operation. -/
theorem wp_cnt_delete (hg : o.guard = none) (m x : Operand) (t kt : TypeId) (hop : o.op = Op.call { callee := Callee.builtin Builtin.delete, args := #[m, x], argTypes := #[t, k] })
    (hk : P.underlying k = some .string) (ht : P.underlying t = some (.map k e)) (b n : Nat) (f : ByteArray → Int)
    (hm : a.eval m = .map (some b)) (h : Cnt P k e w b n f) (s : ByteArray) (hs : s.size ≤ maxLen) (hx : a.eval x = .string s)
    (hK : ∀ w', Cnt P k e w' b n (fun s' => if s' = s then 0 else f s') → w.mapTurned w' b → wpList P ops Q rest (a.put o.dst (.tuple #[])) w') : wpList P ops Q (o :: rest) a w := by
  obtain ⟨D, h1, h2, h3⟩ := h
  refine wpList_delete_own (H := Unit) w hg m x t k hop e (string_keyed hk) ht (plainElem P e) b n D hm h1 (.string s) _ hx (keyOf_string_mk hk hs) ?_
  intro w' hown htu
  refine hK w' ⟨_, hown, h2.del _, fun s' hs' => ?_⟩ htu
  by_cases heq : s' = s
  · subst heq
    simp only [if_pos]
    exact atKey_del_same _
  · simp only [if_neg heq]
    rw [atKey_del_other (string_lit_ne (fun h => heq h.symm))]
    exact h3 s' hs'
end
end Go.Proofs.Ytcgnkbdfoaiaiaa.HMap
end
section
/- What alike.Common answers: how many lines are in both, by a walk of its text (its counts stand in a map). -/
set_option linter.unusedVariables false
set_option linter.unusedSimpArgs false
namespace Go.Proofs.Ytcgnkbdfoaiaiaa.P
open Go.RowKit Go.Proofs.YtcgnkbdfoaiaiaaW.PrintWords Go.Proofs.YtcgnkbdfoaiaiaaW.PrintLast Go.Proofs.YtcgnkbdfoaiaiaaW.PrintMore Go.Proofs.Ytcgnkbdfoaiaiaa.HMap Go.Proofs.Ytcgnkbdfoaiaiaa.Q

def alike_Common.f (a b : List ByteArray) : Option Int :=
  if ((∀ s ∈ a, s.size ≤ 9223372036854775807) ∧ (∀ s ∈ b, s.size ≤ 9223372036854775807)) ∧ a.length ≤ 4611686018427387903 ∧ b.length ≤ 4611686018427387903 then some ((comm a b : Nat) : Int) else none

theorem rdOf_nat (xs : List ByteArray) (j : Nat) (h : j < xs.length) : rdOf ByteArray.empty xs (j : Int) = xs[j] := by
  simp [rdOf, List.getD_eq_getElem?_getD, List.getElem?_eq_getElem h]
theorem count_take_succ (xs : List ByteArray) (j : Nat) (h : j < xs.length) (s : ByteArray) :
    (((xs.take (j + 1)).count s : Nat) : Int) = if s = xs[j] then ((xs.take j).count xs[j] : Int) + 1 else ((xs.take j).count s : Int) := by
  rw [List.take_succ_eq_append_getElem h, List.count_append]
  by_cases hs : s = xs[j]
  · rw [if_pos hs, hs]; simp
  · rw [if_neg hs]
    have : List.count s [xs[j]] = 0 := by
      rw [List.count_eq_zero]; simpa using hs
    simp [this]
theorem wf_small (z : Int) (h0 : 0 ≤ z) (h1 : z ≤ 9223372036854775807) : (Lit.int .i64 z).wf = true := WalkArith.wf_i64 (by omega)

set_option maxHeartbeats 1000000 in
set_option maxRecDepth 100000 in
theorem alike_Common.calls (A0 : Option Addr) (c0 : Nat) (l0 : List ByteArray) (A1 : Option Addr) (c1 : Nat) (l1 : List ByteArray) (r : Int) (w : World) (hr0 : Kd.C Kd.string w A0 l0.length l0) (hc0 : l0.length ≤ c0) (hr1 : Kd.C Kd.string w A1 l1.length l1) (hc1 : l1.length ≤ c1) (h : alike_Common.f l0 l1 = some r) :
    Calls Try.prog 32 #[.slice A0 l0.length c0, .slice A1 l1.length c1] w fun e w' => e = .returned (.int .i64 r) ∧ Below w.heap.size w w' := by
  have hk9 : Try.prog.underlying 9 = some .string := Try.underlying9
  unfold alike_Common.f at h
  split at h
  · rename_i hsz
    obtain ⟨⟨hs0, hs1⟩, hm0, hm1⟩ := hsz
    obtain rfl := Option.some.inj h
    clear h
    have HS0 := Aside0.mk hs0
    have HS1 := Aside0.mk hs1
    have HR0 := Aside0.mk hr0
    have HR1 := Aside0.mk hr1
    have HC0 := Aside0.mk hc0
    have HC1 := Aside0.mk hc1
    clear hs0 hs1 hr0 hr1 hc0 hc1
    have hmm := @run_makeMap Try.prog
    go_enter Try.func32, Try.ntmps32
    go_wp2
    go_loopw [13] (fun v13 wr => ∃ j : Nat, j ≤ l0.length ∧ v13 = .int .i64 j ∧ Aside0 (Cnt Try.prog 9 3 wr w.heap.size j (fun s => ((l0.take j).count s : Nat))) ∧ Aside0 (Below w.heap.size w wr)) (fun v13 _ => l0.length - (intOf v13).toNat)
    case atStart => exact ⟨0, Nat.zero_le _, rfl, ⟨(Cnt.made _ _ _ _).congr (fun s => by simp)⟩, ⟨(Below.refl _ _).alloc (Nat.le_refl _) _⟩⟩
    case round =>
      obtain ⟨j, hj, rfl, HCN, HB⟩ := hrel
      by_cases hlt : j < l0.length
      · obtain ⟨ad, e1, hx⟩ := Kd.at_string HR0.out (j : Int) (by omega) (by omega)
        cases e1
        rw [Int.toNat_natCast, rdOf_nat _ _ hlt] at hx
        have hsz : (l0[j]).size ≤ maxLen := HS0.out _ (List.getElem_mem hlt)
        replace hx := (HB.out.cell (World.block_lt_of_cell? w _ hx)).trans hx
        have HSN := Aside0.mk (count_take_succ l0 j hlt)
        have HCL := Aside0.mk (List.count_le_length (a := l0[j]) (l := l0.take j))
        have HSZ := Aside0.mk hsz
        clear hsz
        generalize l0[j] = s at hx HSZ HSN HCL
        have HLEN : Aside0 ((l0.take j).length = j) := ⟨by simp; omega⟩
        have hc0 : (0 : Int) ≤ ((l0.take j).count s : Nat) := by omega
        have hc1 : (((l0.take j).count s : Nat) : Int) < 9223372036854775807 := by have := HCL.out; have := HLEN.out; omega
        have hj1 : j < 9223372036854775807 := by omega
        go_wp2_with (first
          | (at_lookup; refine wp_cnt_lookup rfl _ _ 77 rfl Try.underlying9 Try.underlying77 Try.underlying3 (by kernel_rfl) w.heap.size j _ rfl HCN.out s HSZ.out rfl ?_)
          | (at_mapUpdate; refine wp_cnt_update rfl _ _ _ 77 rfl Try.underlying9 Try.underlying77 Try.underlying3 w.heap.size j _ rfl HCN.out (by unfold maxLen; omega) s HSZ.out rfl _ rfl (wf_small _ (by omega) (by omega)) ?_; intro w1 hc1' hg1; have HC1' := Aside0.mk hc1'; have HG1 := Aside0.mk hg1; clear hc1' hg1))
        go_roundw
        case rel => exact ⟨j + 1, by omega, by go_num, ⟨HC1'.out.congr (fun s' => (HSN.out s').symm)⟩, ⟨HB.out.grown HG1.out HB.out.size (fun k hk => by cases hk; exact Nat.le_refl _)⟩⟩
        case measure => simp [intOf]; omega
      · have hfull : l0.take j = l0 := List.take_of_length_le (by omega)
        rw [hfull] at HCN
        have HB1 := HB
        clear HB hfull
        go_wp2
        have HJ := Aside0.mk hj
        clear hlt hj
        go_loopw [4, 24] (fun v4 v24 wr => ∃ (j : Nat) (n : Int) (rem : List ByteArray) (f : ByteArray → Int), j ≤ l1.length ∧ v24 = .int .i64 j ∧ v4 = .int .i64 n ∧ Aside0 (0 ≤ n ∧ n ≤ j) ∧ Aside0 (n + (comm rem (l1.drop j) : Nat) = (comm l0 l1 : Nat)) ∧ Aside0 (rem.length ≤ l0.length) ∧ Aside0 (∀ s, f s = (rem.count s : Nat)) ∧ Aside0 (Cnt Try.prog 9 3 wr w.heap.size (l0.length + j) f) ∧ Aside0 (Below w.heap.size w wr)) (fun _ v24 _ => l1.length - (intOf v24).toNat)
        case atStart => exact ⟨0, 0, l0, _, Nat.zero_le _, rfl, rfl, ⟨by omega, by omega⟩, ⟨by simp⟩, ⟨Nat.le_refl _⟩, ⟨fun _ => rfl⟩, ⟨HCN.out.mono (by have := HJ.out; omega)⟩, ⟨HB1.out⟩⟩
        case round =>
          clear HCN HB1
          obtain ⟨j, n, rem, f, hj, rfl, rfl, HN, HCM, HRL, HF, HCN, HB⟩ := hrel
          have hn0 : 0 ≤ n := HN.out.1
          have hn1 : n < 9223372036854775807 ∨ ¬ j < l1.length := by have := HN.out.2; omega
          by_cases hlt : j < l1.length
          · obtain ⟨ad, e1, hx⟩ := Kd.at_string HR1.out (j : Int) (by omega) (by omega)
            cases e1
            rw [Int.toNat_natCast, rdOf_nat _ _ hlt] at hx
            have hsz : (l1[j]).size ≤ maxLen := HS1.out _ (List.getElem_mem hlt)
            replace hx := (HB.out.cell (World.block_lt_of_cell? w _ hx)).trans hx
            have HDR := Aside0.mk (List.drop_eq_getElem_cons hlt)
            have HSZ := Aside0.mk hsz
            clear hsz
            generalize l1[j] = s at hx HSZ HDR
            have HCL := Aside0.mk (List.count_le_length (a := s) (l := rem))
            have hf0 : 0 ≤ f s := by rw [HF.out]; omega
            have hf1 : f s ≤ 9223372036854775807 := by rw [HF.out]; have := HCL.out; have := HRL.out; omega
            have hj1 : j < 9223372036854775807 := by omega
            have hn2 : n < 9223372036854775807 := by omega
            clear hn1
            by_cases hz0 : f s = 0
            · have hb0 : (f s == 0) = true := beq_iff_eq.mpr hz0
              have HNM : Aside0 (s ∉ rem) := ⟨List.count_eq_zero.1 (by have := HF.out s; omega)⟩
              clear hz0
              go_wp2_with (first
                | (at_lookup; refine wp_cnt_lookup rfl _ _ 77 rfl Try.underlying9 Try.underlying77 Try.underlying3 (by kernel_rfl) w.heap.size _ _ rfl HCN.out s HSZ.out rfl ?_))
              go_roundw
              case rel => exact ⟨j + 1, n, rem, f, by omega, by go_num, rfl, ⟨by omega, by have := HN.out; omega⟩, ⟨by have := HCM.out; rw [HDR.out, comm_cons, if_neg HNM.out] at this; exact this⟩, HRL, HF, ⟨HCN.out.mono (by omega)⟩, HB⟩
              case measure => simp [intOf]; omega
            · have hb0 : (f s == 0) = false := beq_eq_false_iff_ne.mpr hz0
              have hf2 : 1 ≤ f s := by omega
              have HMM : Aside0 (s ∈ rem) := ⟨List.count_pos_iff.1 (by have := HF.out s; omega)⟩
              have HRE : Aside0 ((rem.erase s).length + 1 = rem.length) := ⟨by have := List.length_erase_of_mem HMM.out; have := List.length_pos_of_mem HMM.out; omega⟩
              have HFE : Aside0 (∀ s', (if s' = s then f s - 1 else f s') = ((rem.erase s).count s' : Nat)) := ⟨fun s' => by
                by_cases hs : s' = s
                · subst hs; rw [if_pos rfl, HF.out, List.count_erase_self]; have : 0 < rem.count s' := List.count_pos_iff.2 HMM.out; omega
                · rw [if_neg hs, HF.out, List.count_erase_of_ne hs]⟩
              have HCM' : Aside0 (n + 1 + (comm (rem.erase s) (l1.drop (j + 1)) : Nat) = (comm l0 l1 : Nat)) := ⟨by have := HCM.out; rw [HDR.out, comm_cons, if_pos HMM.out] at this; omega⟩
              clear hz0
              by_cases hz1 : f s = 1
              · have hb1 : (f s == 1) = true := beq_iff_eq.mpr hz1
                have HFE' : Aside0 (∀ s', (if s' = s then 0 else f s') = ((rem.erase s).count s' : Nat)) := ⟨fun s' => by
                  have := HFE.out s'; rw [hz1] at this; exact this⟩
                clear hz1
                go_wp2_with (first
                  | (at_lookup; refine wp_cnt_lookup rfl _ _ 77 rfl Try.underlying9 Try.underlying77 Try.underlying3 (by kernel_rfl) w.heap.size _ _ rfl HCN.out s HSZ.out rfl ?_)
                  | (at_delete; refine wp_cnt_delete rfl _ _ 77 9 rfl Try.underlying9 Try.underlying77 w.heap.size _ _ rfl HCN.out s HSZ.out rfl ?_; intro w1 hc1' hg1; have HC1' := Aside0.mk hc1'; have HG1 := Aside0.mk hg1; clear hc1' hg1))
                go_roundw
                case rel => exact ⟨j + 1, n + 1, rem.erase s, _, by omega, by go_num, rfl, ⟨by omega, by have := HN.out; omega⟩, HCM', ⟨by have := HRE.out; have := HRL.out; omega⟩, HFE', ⟨HC1'.out.mono (by omega)⟩, ⟨turned_below HB.out HG1.out (Nat.le_refl _)⟩⟩
                case measure => simp [intOf]; omega
              · have hb1 : (f s == 1) = false := beq_eq_false_iff_ne.mpr hz1
                clear hz1
                go_wp2_with (first
                  | (at_lookup; refine wp_cnt_lookup rfl _ _ 77 rfl Try.underlying9 Try.underlying77 Try.underlying3 (by kernel_rfl) w.heap.size _ _ rfl HCN.out s HSZ.out rfl ?_)
                  | (at_mapUpdate; refine wp_cnt_update rfl _ _ _ 77 rfl Try.underlying9 Try.underlying77 Try.underlying3 w.heap.size _ _ rfl HCN.out (by unfold maxLen; omega) s HSZ.out rfl _ rfl (wf_small _ (by omega) (by omega)) ?_; intro w1 hc1' hg1; have HC1' := Aside0.mk hc1'; have HG1 := Aside0.mk hg1; clear hc1' hg1))
                go_roundw
                case rel => exact ⟨j + 1, n + 1, rem.erase s, _, by omega, by go_num, rfl, ⟨by omega, by have := HN.out; omega⟩, HCM', ⟨by have := HRE.out; have := HRL.out; omega⟩, HFE, ⟨HC1'.out⟩, ⟨HB.out.grown HG1.out HB.out.size (fun k hk => by cases hk; exact Nat.le_refl _)⟩⟩
                case measure => simp [intOf]; omega
          · go_wp2
            go_ret
            exact ⟨by have := HCM.out; rw [List.drop_eq_nil_of_le (by omega)] at this; have h0 : comm rem [] = 0 := rfl; rw [h0] at this; exact congrArg (fun z : Int => Ending.returned (.int .i64 z)) (show n = (comm l0 l1 : Nat) by omega), HB.out⟩
  · cases h
end Go.Proofs.Ytcgnkbdfoaiaiaa.P
end
section
/- Laid for this claim by hp.py, this session's program round the kit's print: functions of the program as plain Lean functions, the proofs that the code comes to their answers, and the rows of the laws. Not trusted: Lean checks it. -/
namespace Go.Proofs.Ytcgnkbdfoaiaiaa.P
open Go.RowKit Go.Proofs.YtcgnkbdfoaiaiaaW.PrintWords Go.Proofs.YtcgnkbdfoaiaiaaW.PrintLast Go.Proofs.YtcgnkbdfoaiaiaaW.PrintMore
attribute [local go_sem] max2_int min2_int max_two min_two max_three min_three max_four min_four   -- for this text's walks alone
set_option linter.unusedVariables false
set_option linter.unusedSimpArgs false

/-! ### alike_Score: function 16 -/
def alike_Score.f (l0 : List ByteArray) (l1 : List ByteArray) : Option (Int) := if (wrap64 ((l0.length : Int) + (l1.length : Int))) = 0 then (some 100) else ((alike_Common.f l0 l1).bind fun t485 => (some (wrap64 (Int.tdiv (wrap64 (200 * t485)) (wrap64 ((l0.length : Int) + (l1.length : Int)))))))
set_option maxHeartbeats 8000000 in
set_option maxRecDepth 100000 in
theorem alike_Score.calls (A0 : Option Addr) (c0 : Nat) (l0 : List ByteArray) (A1 : Option Addr) (c1 : Nat) (l1 : List ByteArray) (r : Int) (w : World) (hr0 : Kd.C Kd.string w A0 l0.length l0) (hc0 : l0.length ≤ c0) (hr1 : Kd.C Kd.string w A1 l1.length l1) (hc1 : l1.length ≤ c1) (h : alike_Score.f l0 l1 = some r) :
  Calls Try.prog 16 #[.slice A0 l0.length c0, .slice A1 l1.length c1] w fun e w' => e = .returned (.int .i64 r) ∧ Below w.heap.size w w' := by
 have HR0 := Aside0.mk hr0
 have HC0 := Aside0.mk hc0
 clear hr0 hc0
 have HR1 := Aside0.mk hr1
 have HC1 := Aside0.mk hc1
 clear hr1 hc1
 have HB := Aside0.mk (Below.refl w.heap.size w)
 have H : (if (wrap64 ((l0.length : Int) + (l1.length : Int))) = 0 then (some 100) else ((alike_Common.f l0 l1).bind fun t485 => (some (wrap64 (Int.tdiv (wrap64 (200 * t485)) (wrap64 ((l0.length : Int) + (l1.length : Int)))))))) = some r := h
 clear h
 by_cases c3 : (wrap64 ((l0.length : Int) + (l1.length : Int))) = 0
 ·rw [if_pos c3] at H
  have c3b0 : ((wrap64 ((l0.length : Int) + (l1.length : Int))) == 0) = true := beq_iff_eq.mpr c3
  have c3b1 : ((wrap64 ((l0.length : Int) + (l1.length : Int))) != 0) = false := bne_eq_false_iff_eq.mpr c3
  clear c3
  obtain rfl := Option.some.inj H
  go_enter Try.func16, Try.ntmps16
  go_wp2
  go_ret
  exact ⟨by first | rfl | (simp [errW_none, errW_some] <;> rfl) | (simp [*, errW_none, errW_some] <;> rfl), by repeat (first | (with_reducible first | exact HB.out | apply below_alloc | apply pw_below_drewN | apply below_drew1) | exact HB.out)⟩
 ·rw [if_neg c3] at H
  have c3b0 : ((wrap64 ((l0.length : Int) + (l1.length : Int))) == 0) = false := beq_eq_false_iff_ne.mpr c3
  have c3b1 : ((wrap64 ((l0.length : Int) + (l1.length : Int))) != 0) = true := bne_iff_ne.mpr c3
  replace H := Option.bind_eq_some_iff.mp H
  obtain ⟨t485, A40, H⟩ := H
  replace H : (some (wrap64 (Int.tdiv (wrap64 (200 * t485)) (wrap64 ((l0.length : Int) + (l1.length : Int)))))) = some r := H
  have A4 := Aside0.mk A40
  clear A40
  obtain rfl := Option.some.inj H
  go_enter Try.func16, Try.ntmps16
  go_wp2_with (first | ((with_reducible refine gate_callee (f := 32) rfl ?_); refine goesL_ _ rfl rfl Try.func32 (by kernel_rfl) rfl #[.slice A0 l0.length c0, .slice A1 l1.length c1] rfl (by (try simp only [List.map_toArray, List.map_cons, List.map_nil]); first | done | rfl | (simp only [List.length_drop, List.length_take]; rfl)) ?_; (with_reducible refine (alike_Common.calls _ _ l0 _ _ l1 t485 _ ?side1 ?side2 ?side3 ?side4 A4.out).mono ?_); (case side1 => repeat (first | exact HR0.out | (with_reducible refine Kd.C_alloc ?_ _) | (with_reducible refine Kd.C_drewN ?_ _) | (with_reducible refine Kd.C_drew ?_))); (case side2 => exact HC0.out); (case side3 => repeat (first | exact HR1.out | (with_reducible refine Kd.C_alloc ?_ _) | (with_reducible refine Kd.C_drewN ?_ _) | (with_reducible refine Kd.C_drew ?_))); (case side4 => exact HC1.out); rintro e w5 ⟨rfl, hb⟩; refine ⟨_, rfl, ?_⟩; have n0_ := Aside0.mk (below_step (by repeat (first | (with_reducible first | exact HB.out | apply below_alloc | apply pw_below_drewN | apply below_drew1) | exact HB.out)) hb); clear HB; have HB := n0_; clear n0_; (try clear hb); (try clear hb2); (try clear hk); (try clear hi)))
  go_ret
  exact ⟨by first | rfl | (simp [errW_none, errW_some] <;> rfl) | (simp [*, errW_none, errW_some] <;> rfl), by repeat (first | (with_reducible first | exact HB.out | apply below_alloc | apply pw_below_drewN | apply below_drew1) | exact HB.out)⟩

end Go.Proofs.Ytcgnkbdfoaiaiaa.P
end
section
/- rename.Pairs: what it answers; by a walk of its text. -/
set_option linter.unusedVariables false
set_option linter.unusedSimpArgs false
namespace Go.Proofs.Ytcgnkbdfoaiaiaa.P
open Go Go.RowKit Go.Sort Go.Proofs.YtcgnkbdfoaiaiaaW.PrintWords Go.Proofs.YtcgnkbdfoaiaiaaW.PrintLast Go.Proofs.YtcgnkbdfoaiaiaaW.PrintMore Go.Proofs.Ytcgnkbdfoaiaiaa.Q Go.Proofs.Ytcgnkbdfoaiaiaa.HSet
abbrev PrS := S35
/-- The candidates of one file. -/
def cand1 (a : ByteArray × List ByteArray) (fresh : List (ByteArray × List ByteArray)) (t : Int) : List PrS :=
  fresh.filterMap fun b => if mx t 1 ≤ score a.2 b.2 then some ⟨a.1, b.1, score a.2 b.2⟩ else none
def candL (old fresh : List (ByteArray × List ByteArray)) (t : Int) : List PrS := old.flatMap fun a => cand1 a fresh t
/-- Who is better. -/
def cB (x y : PrS) : Int := or3 (ci y.f2 x.f2) (pcmp (tl x.f0) (tl y.f0)) (pcmp (tl x.f1) (tl y.f1))
/-- Whose To is less; else who is better. -/
def cT (x y : PrS) : Int := if pcmp (tl x.f1) (tl y.f1) ≠ 0 then pcmp (tl x.f1) (tl y.f1) else cB x y
def sortB (l : List PrS) : List PrS := l.mergeSort (fun x y => decide (cB x y ≤ 0))
def sortT (l : List PrS) : List PrS := l.mergeSort (fun x y => decide (cT x y ≤ 0))
/-- A candidate is taken, if both its files are free. -/
def take1 (st : List ByteArray × List ByteArray × List PrS) (p : PrS) : List ByteArray × List ByteArray × List PrS :=
  if p.f0 ∉ st.1 ∧ p.f1 ∉ st.2.1 then (p.f0 :: st.1, p.f1 :: st.2.1, st.2.2 ++ [p]) else st
def greedy (l : List PrS) : List PrS := (l.foldl take1 ([], [], [])).2.2
def pairsL (old fresh : List S33) (t : Int) : List PrS := sortT (greedy (sortB (candL (filesL old) (filesL fresh) t)))
def PairsOk (l : List S33) : Prop := l.length ≤ 1000 ∧ ∀ x ∈ l, x.f0.size ≤ 4000000 ∧ x.f2.size ≤ 4000000
instance (l : List S33) : Decidable (PairsOk l) := by unfold PairsOk; infer_instance
theorem PairsOk.items {l : List S33} (h : PairsOk l) : ItemsOk l := ⟨by have := h.1; omega, fun x hx => by have := h.2 x hx; omega⟩
/-! ### The orders -/
structure CmpOk {α : Type} (c : α → α → Int) : Prop where
  neg : ∀ x y, c y x = - c x y
  tr : ∀ x y z, c x y ≤ 0 → c y z ≤ 0 → c x z ≤ 0 ∧ (c x y < 0 ∨ c y z < 0 → c x z < 0)
theorem CmpOk.self {α : Type} {c : α → α → Int} (h : CmpOk c) (x : α) : c x x = 0 := by have := h.neg x x; omega
theorem CmpOk.or {α : Type} {c d : α → α → Int} (hc : CmpOk c) (hd : CmpOk d) : CmpOk (fun x y => if c x y ≠ 0 then c x y else d x y) := by
  refine ⟨fun x y => ?_, fun x y z h1 h2 => ?_⟩
  · have := hc.neg x y
    have := hd.neg x y
    by_cases h : c x y = 0
    · rw [if_neg (by omega), if_neg (by omega)]; omega
    · rw [if_pos (by omega), if_pos (by omega)]; omega
  · have t1 := hc.tr x y z
    have t2 := hd.tr x y z
    by_cases a : c x y = 0
    · rw [if_neg (by omega)] at h1
      by_cases b : c y z = 0
      · rw [if_neg (by omega)] at h2
        have n1 := hc.tr z y x (by have := hc.neg y z; omega) (by have := hc.neg x y; omega)
        have n2 := hc.neg x z
        have : c x z = 0 := by have := (t1 (by omega) (by omega)).1; omega
        simp only [a, b, this, ne_eq, not_true_eq_false, if_false]
        exact t2 h1 h2
      · rw [if_pos (by omega)] at h2
        have := (t1 (by omega) (by omega)).2 (.inr (by omega))
        rw [if_pos (show c x z ≠ 0 by omega)]
        exact ⟨by omega, fun _ => this⟩
    · rw [if_pos (by omega)] at h1
      have hb : c y z ≤ 0 := by
        by_cases b : c y z = 0
        · omega
        · rw [if_pos (by omega)] at h2; exact h2
      have := (t1 h1 hb).2 (.inl (by omega))
      rw [if_pos (show c x z ≠ 0 by omega)]
      exact ⟨by omega, fun _ => this⟩
theorem pcmp_cmp {α : Type} (f : α → ByteArray) : CmpOk (fun x y => pcmp (tl (f x)) (tl (f y))) := ⟨fun x y => pcmp_neg _ _, fun x y z h1 h2 => pcmp_trans _ _ _ h1 h2⟩
theorem ci_cmp {α : Type} (f : α → Int) : CmpOk (fun x y => ci (f y) (f x)) := by
  refine ⟨fun x y => ?_, fun x y z h1 h2 => ?_⟩
  · unfold ci; split <;> split <;> omega
  · unfold ci at *
    split at h1 <;> split at h2 <;> (try split at h1) <;> (try split at h2) <;> (split <;> (try split) <;> omega)
theorem cB_cmp : CmpOk cB := by
  have h := (ci_cmp (fun x : PrS => x.f2)).or ((pcmp_cmp (fun x : PrS => x.f0)).or (pcmp_cmp (fun x : PrS => x.f1)))
  have e : (fun x y : PrS => if ci y.f2 x.f2 ≠ 0 then ci y.f2 x.f2 else if pcmp (tl x.f0) (tl y.f0) ≠ 0 then pcmp (tl x.f0) (tl y.f0) else pcmp (tl x.f1) (tl y.f1)) = cB := rfl
  rw [← e]; exact h
theorem cT_cmp : CmpOk cT := (pcmp_cmp (fun x : PrS => x.f1)).or cB_cmp
theorem cB_zero {x y : PrS} (h : cB x y = 0) : x = y := by
  unfold cB or3 at h
  split at h
  · rename_i h1; exact absurd h h1
  · rename_i h1
    have h1 : ci y.f2 x.f2 = 0 := by omega
    split at h
    · rename_i h2; exact absurd h h2
    · rename_i h2
      have e0 := tl_inj ((pcmp_zero _ _).1 (show pcmp (tl x.f0) (tl y.f0) = 0 by omega))
      have e1 := tl_inj ((pcmp_zero _ _).1 h)
      have e2 : x.f2 = y.f2 := by unfold ci at h1; split at h1 <;> (try split at h1) <;> omega
      cases x; cases y
      simp at e0 e1 e2
      subst e0 e1 e2
      rfl
theorem cT_zero {x y : PrS} (h : cT x y = 0) : x = y := by
  unfold cT at h
  split at h
  · rename_i h1; exact absurd h h1
  · exact cB_zero h
/-- A list in order is the one list in order. -/
theorem sort_uniq {c : PrS → PrS → Int} (hc : CmpOk c) (h0 : ∀ x y, c x y = 0 → x = y) {l l' : List PrS} (hp : l'.Perm l) (hs : l'.Pairwise (fun x y => c x y ≤ 0)) : l' = l.mergeSort (fun x y => decide (c x y ≤ 0)) := by
  have hm : (l.mergeSort (fun x y => decide (c x y ≤ 0))).Pairwise (fun x y => c x y ≤ 0) := by
    have := List.pairwise_mergeSort (le := fun x y => decide (c x y ≤ 0)) (fun x y z h1 h2 => by
      simp only [decide_eq_true_eq] at *
      exact (hc.tr x y z h1 h2).1) (fun x y => by
      have := hc.neg x y
      by_cases h : c x y ≤ 0
      · simp [h]
      · have : c y x ≤ 0 := by omega
        simp [this]) l
    exact this.imp (fun h => by simpa using h)
  exact List.Perm.eq_of_pairwise (le := fun x y => c x y ≤ 0) (fun a b _ _ h1 h2 => h0 a b (by have := hc.neg a b; omega)) hs hm (hp.trans (List.mergeSort_perm _ _).symm)
theorem swo_of {c : Pr → Pr → Int} (hc : CmpOk c) : Go.Sort.SWO (Go.Proofs.ltOf (cmpOf c)) := by
  have e : ∀ x y, cmpOf c x y = c x y := fun x y => by
    unfold cmpOf
    split
    · rename_i h; rw [h, hc.self]
    · rfl
  refine ⟨fun x => ?_, fun x y z h1 h2 => ?_, fun x y z h1 h2 => ?_⟩
  · simp [Go.Proofs.ltOf, e, hc.self]
  · simp only [Go.Proofs.ltOf, e, decide_eq_true_eq] at *
    exact (hc.tr x y z (by omega) (by omega)).2 (.inl h1)
  · simp only [Go.Proofs.ltOf, e, decide_eq_false_iff_not] at *
    have n1 := hc.neg x y
    have n2 := hc.neg y z
    have n3 := hc.neg x z
    have := (hc.tr z y x (by omega) (by omega)).1
    omega
end Go.Proofs.Ytcgnkbdfoaiaiaa.P
end
section
/- rename.Pairs: the walk of its text. -/
set_option linter.unusedVariables false
set_option linter.unusedSimpArgs false
namespace Go.Proofs.Ytcgnkbdfoaiaiaa.P
open Go Go.RowKit Go.Sort Go.Proofs.YtcgnkbdfoaiaiaaW.PrintWords Go.Proofs.YtcgnkbdfoaiaiaaW.PrintLast Go.Proofs.YtcgnkbdfoaiaiaaW.PrintMore Go.Proofs.Ytcgnkbdfoaiaiaa.Q Go.Proofs.Ytcgnkbdfoaiaiaa.HSet
/-! ### Reading files, pairs -/
theorem Fls.less {b base : Nat} {w : World} {v : Value} {es : List Fe} (h : Fls b w v es) (hle : base ≤ b) : Fls base w v es := ⟨own_less h.1 hle, fun e he => own_less (h.2 e he) hle⟩
theorem Fls.other {base : Nat} {w w' : World} {v u : Value} {es : List Fe} {b n s : Nat} {e : TypeId} {xs : List Value} (h : Fls base w v es) (ho : w.ownsRow b e s u n xs) (hg : w.grownBy w' u.ownBlock) (h1 : 46 ≠ e) (h2 : 9 ≠ e) : Fls base w' v es :=
  ⟨own_other h.1 hg (own_type_ne h.1 ho h1), fun x hx => own_other (h.2 x hx) hg (own_type_ne (h.2 x hx) ho h2)⟩
theorem fflat_seg (es : List Fe) : ∀ (j : Nat) (e : Fe), es[j]? = some e → (fflat es)[j * 2]? = some (.string e.p) ∧ (fflat es)[j * 2 + 1]? = some e.v := by
  induction es with
  | nil => intro j e h; simp at h
  | cons x es ih =>
    intro j e h
    have e0 : fflat (x :: es) = x.cells ++ fflat es := by simp [fflat]
    rw [e0]
    cases j with
    | zero => simp at h; subst h; exact ⟨rfl, rfl⟩
    | succ j =>
      obtain ⟨h1, h2⟩ := ih j e (by simpa using h)
      rw [List.getElem?_append_right (by simp [Fe.cells]; omega), List.getElem?_append_right (by simp [Fe.cells]; omega)]
      have e1 : (j + 1) * 2 - x.cells.length = j * 2 := by simp [Fe.cells]; omega
      have e2 : (j + 1) * 2 + 1 - x.cells.length = j * 2 + 1 := by simp [Fe.cells]; omega
      rw [e1, e2]
      exact ⟨h1, h2⟩
theorem own_at {base e size n : Nat} {w : World} {v : Value} {xs : List Value} (h : w.ownsRow base e size v n xs) (hn : 0 < n) (hs : 0 < size) : ∃ g cap, v = .slice (some ⟨g, 0, none⟩) n cap ∧ ∀ j u, xs[j]? = some u → w.cell? ⟨g, j, none⟩ = some u := by
  rcases h.2 with ⟨_, h0⟩ | ⟨g, cap, cur, rfl, _, hh, _, _, _, ht⟩
  · omega
  · refine ⟨g, cap, rfl, fun j u hj => (blk_cell hh j).trans ?_⟩
    have hl := (List.getElem?_eq_some_iff.1 hj).1
    rw [← ht, List.getElem?_take, if_pos (by have := h.1; omega), Array.getElem?_toList] at hj
    exact hj
/-- File i: its cells, and its lines. -/
theorem Fls.at {base : Nat} {w : World} {A : Option Addr} {n c : Nat} {es : List Fe} (h : Fls base w (.slice A n c) es) (i : Nat) (e : Fe) (hi : es[i]? = some e) :
    ∃ g Ae ce, A = some ⟨g, 0, none⟩ ∧ e.v = .slice Ae e.l.length ce ∧ e.l.length ≤ ce ∧ w.cell? ⟨g, i * 2, none⟩ = some (.string e.p) ∧ w.cell? ⟨g, i * 2 + 1, none⟩ = some (.slice Ae e.l.length ce) ∧ Kd.C Kd.string w Ae e.l.length e.l := by
  have hl := (List.getElem?_eq_some_iff.1 hi).1
  obtain ⟨g, cap, hv, hc⟩ := own_at h.1 (by omega) (by decide)
  obtain ⟨f1, f2⟩ := fflat_seg es i e hi
  have hm : e ∈ es := List.mem_of_getElem? hi
  have hR := Kd.R_of_own (h1 := fun _ => rfl) (ok := fun _ => True) (h.2 e hm) (fun _ _ => trivial)
  obtain ⟨Ae, ce, he, hle, hC⟩ := Kd.R_reads hR
  injection hv with h1 h2 h3
  exact ⟨g, Ae, ce, h1, he, hle, hc _ _ f1, by rw [← he]; exact hc _ _ f2, hC⟩
theorem Fls.reads {base : Nat} {w : World} {v : Value} {es : List Fe} (h : Fls base w v es) {e : Fe} (hm : e ∈ es) {A : Option Addr} {n c : Nat} (he : e.v = .slice A n c) : Kd.C Kd.string w A e.l.length e.l := by
  have hR := Kd.R_of_own (h1 := fun _ => rfl) (ok := fun _ => True) (h.2 e hm) (fun _ _ => trivial)
  obtain ⟨Ae, ce, he', hle, hC⟩ := Kd.R_reads hR
  rw [he] at he'
  injection he' with h1 h2 h3
  rw [h1]
  exact hC
def mkPr (p : S35) (h0 : p.f0.size ≤ 4000000) (h1 : p.f1.size ≤ 4000000) : Pr := ⟨p, h0, h1⟩
theorem pflat_at {base : Nat} {w : World} {A : Option Addr} {n c : Nat} {l : List Pr} (h : w.ownsRow base 35 3 (.slice A n c) l.length (pflat l)) (i : Nat) (x : Pr) (hi : l[i]? = some x) :
    ∃ g, A = some ⟨g, 0, none⟩ ∧ w.cell? ⟨g, i * 3, none⟩ = some (.string x.val.f0) ∧ w.cell? ⟨g, i * 3 + 1, none⟩ = some (.string x.val.f1) ∧ w.cell? ⟨g, i * 3 + 2, none⟩ = some (.int .i64 x.val.f2) := by
  have hl := (List.getElem?_eq_some_iff.1 hi).1
  obtain ⟨g, cap, hv, hc⟩ := own_at h (by omega) (by decide)
  have hg : ∀ r, r < 3 → (pflat l)[i * 3 + r]? = some ((encP x)[r]!) := fun r hr => by
    rw [pflat_get l _ (by omega), show (i * 3 + r) / 3 = i by omega, show (i * 3 + r) % 3 = r by omega, getElem!_pos l i hl]
    rw [List.getElem?_eq_getElem hl] at hi
    injection hi with hi
    rw [hi]
  injection hv with h1 h2 h3
  exact ⟨g, h1, hc _ _ (hg 0 (by omega)), hc _ _ (hg 1 (by omega)), hc _ _ (hg 2 (by omega))⟩
/-! ### What the files are -/
theorem filesL_mem (l : List S33) : ∀ q ∈ filesL l, ∃ x ∈ l, q.1 = x.f0 ∧ q.2 = Q.lines x.f2 ∧ x.f1 = 2 := by
  have gen : ∀ (t : List S33) (st : List ByteArray × List (ByteArray × List ByteArray)), (∀ q ∈ st.2, ∃ x ∈ l, q.1 = x.f0 ∧ q.2 = Q.lines x.f2 ∧ x.f1 = 2) → (∀ x ∈ t, x ∈ l) → ∀ q ∈ (t.foldl stepF st).2, ∃ x ∈ l, q.1 = x.f0 ∧ q.2 = Q.lines x.f2 ∧ x.f1 = 2 := by
    intro t
    induction t with
    | nil => intro st h _; exact h
    | cons x t ih =>
      intro st h ht
      refine ih _ ?_ (fun y hy => ht y (List.mem_cons_of_mem _ hy))
      unfold stepF
      split
      · rename_i hx
        intro q hq
        rcases List.mem_append.1 hq with hq | hq
        · exact h q hq
        · rw [List.mem_singleton.1 hq]; exact ⟨x, ht x List.mem_cons_self, rfl, rfl, hx.1⟩
      · exact h
  exact gen l ([], []) (by simp) (fun x hx => hx)
theorem filesL_len (l : List S33) : (filesL l).length ≤ l.length := by
  have gen : ∀ (t : List S33) (st : List ByteArray × List (ByteArray × List ByteArray)), (t.foldl stepF st).2.length ≤ st.2.length + t.length := by
    intro t
    induction t with
    | nil => intro st; simp
    | cons x t ih =>
      intro st
      have h := ih (stepF st x)
      have h2 : (stepF st x).2.length ≤ st.2.length + 1 := by unfold stepF; split <;> simp
      rw [List.foldl_cons, List.length_cons]
      omega
  have := gen l ([], [])
  unfold filesL
  simpa using this
theorem lnL_size (l : List UInt8) : ∀ q ∈ lnL l, q.length ≤ l.length := by
  intro q hq
  induction l generalizing q with
  | nil => simp [lnL] at hq
  | cons c cs ih =>
    rw [lnL_cons] at hq
    split at hq
    · rcases List.mem_cons.1 hq with rfl | hq
      · rw [List.length_cons, List.length_cons, List.length_nil]; omega
      · have := ih q hq; rw [List.length_cons]; omega
    · split at hq
      · rw [List.mem_singleton.1 hq, List.length_cons, List.length_cons, List.length_nil]; omega
      · rename_i p ps hp
        rcases List.mem_cons.1 hq with rfl | hq
        · have := ih p (by rw [hp]; exact List.mem_cons_self); rw [List.length_cons, List.length_cons]; omega
        · have := ih q (by rw [hp]; exact List.mem_cons_of_mem _ hq); rw [List.length_cons]; omega
theorem lines_size (s : ByteArray) : ∀ q ∈ Q.lines s, q.size ≤ s.size := by
  intro q hq
  unfold Q.lines at hq
  obtain ⟨r, hr, rfl⟩ := List.mem_map.1 hq
  have h1 := lnL_size _ r hr
  have h2 : (bts r).size = r.length := List.size_toArray
  have h3 : s.data.toList.length = s.size := Array.length_toList
  omega
/-- Files of items of which one can tell. -/
def FeOk (e : Fe) : Prop := e.p.size ≤ 4000000 ∧ e.l.length ≤ 4000000 ∧ ∀ s ∈ e.l, s.size ≤ 4000000
theorem feOk_of {l : List S33} (h : PairsOk l) {es : List Fe} (he : es.map Fe.plain = filesL l) : (∀ e ∈ es, FeOk e) ∧ es.length ≤ 1000 := by
  refine ⟨fun e hm => ?_, ?_⟩
  · have h1 : e.plain ∈ filesL l := by rw [← he]; exact List.mem_map_of_mem hm
    obtain ⟨x, hx, h2, h3, _⟩ := filesL_mem l _ h1
    have h4 := h.2 x hx
    have h2' : e.p = x.f0 := h2
    have h3' : e.l = Q.lines x.f2 := h3
    refine ⟨by rw [h2']; exact h4.1, by rw [h3']; have := lines_length_le x.f2; omega, fun s hs => ?_⟩
    rw [h3'] at hs
    have := lines_size x.f2 s hs
    omega
  · have := filesL_len l
    rw [← he, List.length_map] at this
    have := h.1
    omega
theorem score_run (A0 : Option Addr) (c0 : Nat) (l0 : List ByteArray) (A1 : Option Addr) (c1 : Nat) (l1 : List ByteArray) (w : World) (hr0 : Kd.C Kd.string w A0 l0.length l0) (hc0 : l0.length ≤ c0) (hr1 : Kd.C Kd.string w A1 l1.length l1) (hc1 : l1.length ≤ c1)
    (h0 : l0.length ≤ 4000000 ∧ ∀ s ∈ l0, s.size ≤ 4000000) (h1 : l1.length ≤ 4000000 ∧ ∀ s ∈ l1, s.size ≤ 4000000) :
    Calls Try.prog 16 #[.slice A0 l0.length c0, .slice A1 l1.length c1] w fun e w' => e = .returned (.int .i64 (score l0 l1)) ∧ Below w.heap.size w w' := by
  refine alike_Score.calls A0 c0 l0 A1 c1 l1 (score l0 l1) w hr0 hc0 hr1 hc1 ?_
  have h3 := comm_le l1 l0
  obtain ⟨h0, g0⟩ := h0
  obtain ⟨h1, g1⟩ := h1
  have hcm : alike_Common.f l0 l1 = some ((comm l0 l1 : Nat) : Int) := by
    unfold alike_Common.f
    exact if_pos ⟨⟨fun s hs => by have := g0 s hs; omega, fun s hs => by have := g1 s hs; omega⟩, by omega, by omega⟩
  unfold alike_Score.f score
  rw [w64 (x := (l0.length : Int) + (l1.length : Int)) (by omega) (by omega)]
  by_cases h : l0.length + l1.length = 0
  · rw [if_pos (by omega), if_pos h]
  · rw [if_neg (by omega), if_neg h, hcm, Option.bind_some, w64 (x := 200 * (comm l0 l1 : Int)) (by omega) (by omega), Int.tdiv_eq_ediv_of_nonneg (by omega)]
    have h4 := score_range l0 l1
    unfold score at h4
    rw [if_neg h] at h4
    have h5 : (l0.length : Int) + (l1.length : Int) = ((l0.length + l1.length : Nat) : Int) := by omega
    rw [h5, w64 (by omega) (by omega)]
theorem candL_take (old fresh : List (ByteArray × List ByteArray)) (t : Int) (i : Nat) (a : ByteArray × List ByteArray) (h : old[i]? = some a) : candL (old.take (i + 1)) fresh t = candL (old.take i) fresh t ++ cand1 a fresh t := by
  obtain ⟨hi, rfl⟩ := List.getElem?_eq_some_iff.1 h
  rw [List.take_succ_eq_append_getElem hi]
  unfold candL
  rw [List.flatMap_append, List.flatMap_cons, List.flatMap_nil, List.append_nil]
theorem cand1_take (a : ByteArray × List ByteArray) (fresh : List (ByteArray × List ByteArray)) (t : Int) (j : Nat) (b : ByteArray × List ByteArray) (h : fresh[j]? = some b) : cand1 a (fresh.take (j + 1)) t = cand1 a (fresh.take j) t ++ if mx t 1 ≤ score a.2 b.2 then [⟨a.1, b.1, score a.2 b.2⟩] else [] := by
  obtain ⟨hj, rfl⟩ := List.getElem?_eq_some_iff.1 h
  rw [List.take_succ_eq_append_getElem hj]
  unfold cand1
  rw [List.filterMap_append]
  congr 1
  split
  · rename_i h1; simp [h1]
  · rename_i h1; simp [h1]
theorem CmpOk.comap {α β : Type} {c : α → α → Int} (h : CmpOk c) (f : β → α) : CmpOk (fun x y => c (f x) (f y)) := ⟨fun x y => h.neg _ _, fun x y z => h.tr _ _ _⟩
theorem better_ok : CmpOk betterC := cB_cmp.comap Subtype.val
theorem first_ok : CmpOk firstC := (pcmp_cmp (fun x : PrS => x.f1)).comap Subtype.val
theorem lt_le {c : Pr → Pr → Int} (hc : CmpOk c) {x y : Pr} (h : Go.Proofs.ltOf (cmpOf c) y x = false) : c x y ≤ 0 := by
  have e : cmpOf c y x = c y x := by
    unfold cmpOf
    split
    · rename_i h; rw [h, hc.self]
    · rfl
  simp only [Go.Proofs.ltOf, e, decide_eq_false_iff_not] at h
  have := hc.neg y x
  omega
/-- What the better-sort leaves. -/
theorem sortB_of {ps ps' : List Pr} (hp : ps'.Perm ps) (hs : ps'.Pairwise (fun x y => Go.Proofs.ltOf (cmpOf betterC) y x = false)) : ps'.map Subtype.val = sortB (ps.map Subtype.val) :=
  sort_uniq cB_cmp (fun x y => cB_zero) (hp.map _) (List.pairwise_map.2 (hs.imp (fun h => lt_le better_ok h)))
theorem take1_inv : ∀ (l : List PrS) (st : List ByteArray × List ByteArray × List PrS), (st.2.1 = (st.2.2.map (fun p => p.f1)).reverse ∧ (st.2.2.map (fun p => p.f1)).Nodup) →
    ((l.foldl take1 st).2.1 = ((l.foldl take1 st).2.2.map (fun p => p.f1)).reverse ∧ ((l.foldl take1 st).2.2.map (fun p => p.f1)).Nodup) := by
  intro l
  induction l with
  | nil => intro st h; exact h
  | cons p l ih =>
    intro st h
    refine ih _ ?_
    unfold take1
    split
    · rename_i hc
      refine ⟨by simp [h.1], ?_⟩
      rw [List.map_append]
      refine List.nodup_append.2 ⟨h.2, by simp, fun a ha b hb e => ?_⟩
      subst e
      refine hc.2 ?_
      rw [h.1, List.mem_reverse]
      have : a = p.f1 := by simpa using hb
      rw [← this]
      exact ha
    · exact h
theorem greedy_nodup (l : List PrS) : ((greedy l).map (fun p => p.f1)).Nodup := (take1_inv l ([], [], []) ⟨rfl, by simp⟩).2
/-- What the To-sort leaves, where no To stands twice. -/
theorem sortT_of {ps ps' : List Pr} (hp : ps'.Perm ps) (hs : ps'.Pairwise (fun x y => Go.Proofs.ltOf (cmpOf firstC) y x = false)) (hn : ((ps.map Subtype.val).map (fun p => p.f1)).Nodup) : ps'.map Subtype.val = sortT (ps.map Subtype.val) := by
  refine sort_uniq cT_cmp (fun x y => cT_zero) (hp.map _) (List.pairwise_map.2 ?_)
  have hn' : ((ps'.map Subtype.val).map (fun p => p.f1)).Nodup := ((hp.map _).map _).nodup_iff.2 hn
  have hn3 := List.pairwise_map.1 (List.nodup_iff_pairwise_ne.1 hn')
  have hn2 : ps'.Pairwise (fun x y => x.val.f1 ≠ y.val.f1) := (List.pairwise_map (R := fun a b : PrS => a.f1 ≠ b.f1) (f := Subtype.val)).1 hn3
  refine (hs.and hn2).imp ?_
  rintro x y ⟨h1, h2⟩
  have h3 := lt_le first_ok h1
  have h4 : pcmp (tl x.val.f1) (tl y.val.f1) ≠ 0 := fun e => h2 (tl_inj ((pcmp_zero _ _).1 e))
  unfold cT
  rw [if_pos h4]
  exact h3
theorem greedy_take (l : List PrS) (k : Nat) (p : PrS) (h : l[k]? = some p) (st : List ByteArray × List ByteArray × List PrS) (hst : (l.take k).foldl take1 ([], [], []) = st) : (l.take (k + 1)).foldl take1 ([], [], []) = take1 st p := by
  obtain ⟨hk, rfl⟩ := List.getElem?_eq_some_iff.1 h
  rw [List.take_succ_eq_append_getElem hk, List.foldl_append, hst]
  rfl
end Go.Proofs.Ytcgnkbdfoaiaiaa.P
end
section
/- rename.Pairs: the walk of its text. -/
set_option linter.unusedVariables false
set_option linter.unusedSimpArgs false
namespace Go.Proofs.Ytcgnkbdfoaiaiaa.P
open Go Go.RowKit Go.Sort Go.Proofs.YtcgnkbdfoaiaiaaW.PrintWords Go.Proofs.YtcgnkbdfoaiaiaaW.PrintLast Go.Proofs.YtcgnkbdfoaiaiaaW.PrintMore Go.Proofs.Ytcgnkbdfoaiaiaa.Q Go.Proofs.Ytcgnkbdfoaiaiaa.HSet
def vals (ps : List Pr) : List PrS := ps.map Subtype.val
theorem vals_app (a b : List Pr) : vals (a ++ b) = vals a ++ vals b := List.map_append
theorem vals_length (qs : List Pr) : (vals qs).length = qs.length := List.length_map _
theorem vals_get {qs : List Pr} {k : Nat} {p : Pr} (h : qs[k]? = some p) : (vals qs)[k]? = some p.val := by
  show (List.map (fun x : Pr => x.val) qs)[k]? = _
  rw [List.getElem?_map, h]
  rfl
def PEnd (B : Nat) (r : List PrS) (w : World) (e : Ending) (w' : World) : Prop := ∃ v ps, e = .returned v ∧ vals ps = r ∧ w'.ownsRow B 35 3 v ps.length (pflat ps) ∧ Below B w w'
section
attribute [local go_sem] Go.Proofs.Ytcgnkbdfoaiaiaa.HMin.max2_mx Go.Proofs.Ytcgnkbdfoaiaiaa.HMin.min2_mn max_two min_two
set_option maxRecDepth 100000 in
set_option maxHeartbeats 8000000 in
theorem pairs_run (A0 : Option Addr) (c0 : Nat) (l0 : List S33) (A1 : Option Addr) (c1 : Nat) (l1 : List S33) (t : Int) (w : World) (hr0 : Kd.C k33 w A0 l0.length l0) (hc0 : l0.length ≤ c0) (hr1 : Kd.C k33 w A1 l1.length l1) (hc1 : l1.length ≤ c1) (h0 : PairsOk l0) (h1 : PairsOk l1) :
    Calls Try.prog 11 #[.slice A0 l0.length c0, .slice A1 l1.length c1, .int .i64 t] w (PEnd w.heap.size (pairsL l0 l1 t) w) := by
  have CF1 := Lib.hid (files_run A1 c1 l1 w hr1 hc1 h1.items)
  have HR0 := Lib.hid hr0
  have HC0 := Lib.hid hc0
  have H0 := Lib.hid h0
  have H1 := Lib.hid h1
  have hmm := @run_makeMap Try.prog
  obtain ⟨T, hT⟩ : ∃ T, T = mx t 1 := ⟨_, rfl⟩
  obtain ⟨R, hR⟩ : ∃ R, R = pairsL l0 l1 t := ⟨_, rfl⟩
  rw [← hR]
  have HRR := Lib.hid hR
  clear hr0 hr1 hc0 hc1 h0 h1 hR
  go_enter Try.func11, Try.ntmps11
  go_wp2_with fail
  refine CF1.out.mono ?_
  rintro e w1 ⟨v1, es1, rfl, hF1, hp1, hb1⟩
  obtain ⟨Af, cf, rfl⟩ := own_slice hF1.1
  have CF0 := Lib.hid (files_run A0 c0 l0 w1 (Kd.C_below HR0.out hb1) HC0.out H0.out.items)
  have HF1 := Lib.hid hF1
  have HP1 := Lib.hid hp1
  have HB1 := Lib.hid hb1
  clear hF1 hp1 hb1 CF1
  go_wp2_with fail
  refine CF0.out.mono ?_
  rintro e w2 ⟨v0, es0, rfl, hF0, hp0, hb2⟩
  obtain ⟨Ao, co, rfl⟩ := own_slice hF0.1
  have HFF := Lib.hid (HF1.out.below hb2)
  have HFO := Lib.hid (hF0.less HB1.out.size)
  have HB2 := Lib.hid (HB1.out.trans (hb2.mono HB1.out.size))
  have HP0 := Lib.hid hp0
  have HE1 := Lib.hid (feOk_of H1.out HP1.out)
  have HE0 := Lib.hid (feOk_of H0.out hp0)
  have he1 := HE1.out.2
  have he0 := HE0.out.2
  clear hF0 hp0 hb2 CF0
  go_wp2_with fail
  go_loopw [7, 23] (fun v7 v23 wr => ∃ (i : Nat) (ps : List Pr), v23 = .int .i64 (i : Int) ∧ i ≤ es0.length ∧ ps.length ≤ i * 1000 ∧ Hid (wr.ownsRow w.heap.size 35 3 v7 ps.length (pflat ps)) ∧ Hid (Fls w.heap.size wr (.slice Ao es0.length co) es0) ∧ Hid (Fls w.heap.size wr (.slice Af es1.length cf) es1) ∧ Hid (vals ps = candL ((es0.map Fe.plain).take i) (es1.map Fe.plain) t) ∧ Hid (Below w.heap.size w wr)) (fun _ v23 _ => es0.length - (intOf v23).toNat)
  case atStart => exact ⟨0, [], rfl, Nat.zero_le _, Nat.zero_le _, own_nil _ _ _ _, HFO, HFF, rfl, HB2⟩
  case round =>
    clear HFO HFF HB2
    obtain ⟨i, ps, rfl, hi, hps, HO, HFO, HFF, HV, HB⟩ := hrel
    obtain ⟨wo, hwo⟩ : ∃ wo, wo = wr := ⟨_, rfl⟩
    subst hwo
    by_cases ci_ : i < es0.length
    · have cb : decide ((i : Int) < (es0.length : Int)) = true := decide_eq_true (by omega)
      have cb' : decide (i < es0.length) = true := decide_eq_true ci_
      obtain ⟨a, ha⟩ : ∃ a, es0[i]? = some a := ⟨es0[i], List.getElem?_eq_getElem ci_⟩
      obtain ⟨g, Aa, ca, rfl, hav, hac, x0, x1, hCa⟩ := HFO.out.at i a ha
      obtain ⟨Ap, cp, rfl⟩ := own_slice HO.out
      have hOa := HE0.out.1 a (List.mem_of_getElem? ha)
      have p1 := eq_true (show 0 ≤ (i : Int) by omega)
      have q1 := eq_true (show (i : Int) < (es0.length : Int) by omega)
      obtain ⟨X, hX⟩ : ∃ X, X = wo.alloc (.cells #[.string a.p, .slice Aa a.l.length ca] 46) := ⟨_, rfl⟩
      have qX : X.heap[wo.heap.size]? = some (.cells #[.string a.p, .slice Aa a.l.length ca] 46 (0, 0)) := by rw [hX]; exact heap_alloc_new wo _
      have bX : Below wo.heap.size wo X := by rw [hX]; exact (Below.refl _ _).alloc (Nat.le_refl _) _
      have HTA := Lib.hid (candL_take (es0.map Fe.plain) (es1.map Fe.plain) t i a.plain (by rw [List.getElem?_map, ha]; rfl))
      have HOX := Lib.hid (pw_own_below HO.out bX)
      have HFOX := Lib.hid (HFO.out.below bX)
      have HFFX := Lib.hid (HFF.out.below bX)
      have HBX := Lib.hid (HB.out.trans (bX.mono HB.out.size))
      have HQX := Lib.hid qX
      have HXX := Lib.hid hX
      have HOA := Lib.hid hOa
      have HAV := Lib.hid hav
      have HAC := Lib.hid hac
      have HAA := Lib.hid ha
      have HCA := Lib.hid (Kd.C_below hCa bX)
      have hwb := HB.out.size
      clear hX qX bX ha hav hac hCa hOa
      go_wp2_with (first | rw [← HXX.out])
      go_loopw [7, 29] (fun v7 v29 wr => ∃ (j : Nat) (qs : List Pr), v29 = .int .i64 (j : Int) ∧ j ≤ es1.length ∧ qs.length ≤ ps.length + j ∧ Hid (wr.ownsRow w.heap.size 35 3 v7 qs.length (pflat qs)) ∧ Hid (Fls w.heap.size wr (.slice (some ⟨g, 0, none⟩) es0.length co) es0) ∧ Hid (Fls w.heap.size wr (.slice Af es1.length cf) es1) ∧ Hid (vals qs = vals ps ++ cand1 a.plain ((es1.map Fe.plain).take j) t) ∧ Hid (Below w.heap.size w wr) ∧ Hid (wr.heap[wo.heap.size]? = some (.cells #[.string a.p, .slice Aa a.l.length ca] 46 (0, 0))) ) (fun _ v29 _ => es1.length - (intOf v29).toNat)
      case atStart => exact ⟨0, ps, rfl, Nat.zero_le _, by omega, HOX, HFOX, HFFX, Lib.hid (by simp [cand1]), HBX, HQX⟩
      case round =>
        clear HO HFO HFF HB HOX HFOX HFFX HBX HQX HXX HCA
        obtain ⟨j, qs, rfl, hj, hqs, HO, HFO, HFF, HW, HB, HQX⟩ := hrel
        have HCA := Lib.hid (HFO.out.reads (List.mem_of_getElem? HAA.out) HAV.out)
        obtain ⟨Aq, cq, rfl⟩ := own_slice HO.out
        by_cases cj : j < es1.length
        · have db : decide ((j : Int) < (es1.length : Int)) = true := decide_eq_true (by omega)
          have db' : decide (j < es1.length) = true := decide_eq_true cj
          obtain ⟨b, hb⟩ : ∃ b, es1[j]? = some b := ⟨es1[j], List.getElem?_eq_getElem cj⟩
          obtain ⟨g1, Ab, cb1, rfl, hbv, hbc, y0, y1, hCb⟩ := HFF.out.at j b hb
          have hOb := HE1.out.1 b (List.mem_of_getElem? hb)
          have p2 := eq_true (show 0 ≤ (j : Int) by omega)
          have q2 := eq_true (show (j : Int) < (es1.length : Int) by omega)
          obtain ⟨Y, hY⟩ : ∃ Y, Y = wr.alloc (.cells #[.string b.p, .slice Ab b.l.length cb1] 46) := ⟨_, rfl⟩
          have qY : Y.heap[wr.heap.size]? = some (.cells #[.string b.p, .slice Ab b.l.length cb1] 46 (0, 0)) := by rw [hY]; exact heap_alloc_new wr _
          have bY : Below wr.heap.size wr Y := by rw [hY]; exact (Below.refl _ _).alloc (Nat.le_refl _) _
          have qXY : Y.heap[wo.heap.size]? = some (.cells #[.string a.p, .slice Aa a.l.length ca] 46 (0, 0)) := (bY.block _ (blk_lt HQX.out)).trans HQX.out
          have ya1 : Y.cell? ⟨wo.heap.size, 1, none⟩ = some (.slice Aa a.l.length ca) := by simp [World.cell?, qXY]
          have yb1 : Y.cell? ⟨wr.heap.size, 1, none⟩ = some (.slice Ab b.l.length cb1) := by simp [World.cell?, qY]
          have CS := Lib.hid (score_run Aa ca a.l Ab cb1 b.l Y (Kd.C_below HCA.out bY) HAC.out (Kd.C_below hCb bY) hbc ⟨HOA.out.2.1, HOA.out.2.2⟩ ⟨hOb.2.1, hOb.2.2⟩)
          have HTB := Lib.hid (cand1_take a.plain (es1.map Fe.plain) t j b.plain (by rw [List.getElem?_map, hb]; rfl))
          have HOY := Lib.hid (pw_own_below HO.out bY)
          have HFOY := Lib.hid (HFO.out.below bY)
          have HFFY := Lib.hid (HFF.out.below bY)
          have HBY := Lib.hid (HB.out.trans (bY.mono HB.out.size))
          have HCY := Lib.hid (Kd.C_below HCA.out bY)
          have HQY := Lib.hid qY
          have HQXY := Lib.hid qXY
          have HYY := Lib.hid hY
          have HOB := Lib.hid hOb
          have hwb2 := HB.out.size
          have hyb2 := HBY.out.size
          clear hY qY bY qXY hb hbv hbc hCb hOb
          obtain ⟨S, hS⟩ : ∃ S, S = score a.l b.l := ⟨_, rfl⟩
          rw [← hS] at CS
          have HSS := Lib.hid hS
          clear hS
          have hmx : mx t 1 = T := hT.symm
          by_cases hc : T ≤ S
          · have kc : decide (T ≤ S) = true := decide_eq_true hc
            have HIF := Lib.hid (show vals (qs ++ [mkPr ⟨a.p, b.p, S⟩ HOA.out.1 HOB.out.1]) = vals ps ++ cand1 a.plain ((es1.map Fe.plain).take (j + 1)) t by
              rw [vals_app, HW.out, HTB.out, List.append_assoc, if_pos (show mx t 1 ≤ score a.plain.2 b.plain.2 by rw [hmx]; show T ≤ score a.l b.l; rw [← HSS.out]; exact hc), HSS.out]
              rfl)
            clear hc hT
            go_wp2_with (first | rw [← HYY.out] | (go_at_call 16; refine CS.out.mono ?_; rintro e w3 ⟨rfl, hb3⟩; have HO3 := Lib.hid (pw_own_below HOY.out hb3); have HFO3 := Lib.hid (HFOY.out.below hb3); have HFF3 := Lib.hid (HFFY.out.below hb3); have HB3 := Lib.hid (HBY.out.trans (hb3.mono hyb2)); have HQ3 := Lib.hid ((hb3.block _ (blk_lt HQXY.out)).trans HQXY.out); have HR3 := Lib.hid ((hb3.block _ (blk_lt HQY.out)).trans HQY.out); have za0 : w3.cell? ⟨wo.heap.size, 0, none⟩ = some (.string a.p) := (blk_cell HQ3.out 0).trans rfl; have zb0 : w3.cell? ⟨wr.heap.size, 0, none⟩ = some (.string b.p) := (blk_cell HR3.out 0).trans rfl; clear hb3) | (at_builtin; refine print_append_cells (w0 := w) w.heap.size rfl (.tmp 42) (.tmp 49) 29 35 (.agg #[(.string ⟨#[]⟩), (.string ⟨#[]⟩), (.int .i64 0)]) 3 40 rfl Try.underlying29 (by kernel_rfl) rfl (by omega) (by omega) (.slice Aq qs.length cq) qs.length (pflat qs) [.string a.p, .string b.p, .int .i64 S] rfl (by first | (go_simp; done) | (go_simp; rfl)) rfl ?h1 ?hO ?hB ?hs ?hl ?_; (case h1 => intro u hu; simp at hu; rcases hu with rfl | rfl | rfl <;> rfl); (case hO => exact HO3.out); (case hB => exact HB3.out); (case hs => exact HB3.out.size); (case hl => omega); intro v5 w5 hown hb5 hgr hat; have HO5 := Lib.hid hown; have HB5 := Lib.hid hb5; have HFO5 := Lib.hid (HFO3.out.other HO3.out hgr (by decide) (by decide)); have HFF5 := Lib.hid (HFF3.out.other HO3.out hgr (by decide) (by decide)); have HQ5 := Lib.hid (blk_grown HQ3.out hgr (own_ne HO3.out HQ3.out (by decide))); clear hown hb5 hgr hat))
            exact ⟨⟨j + 1, qs ++ [mkPr ⟨a.p, b.p, S⟩ HOA.out.1 HOB.out.1], by simp, cj, by simp; omega, Lib.hid (by rw [List.length_append, pflat_snoc]; exact HO5.out), HFO5, HFF5, HIF, HB5, HQ5⟩, by simp [intOf]; omega⟩
          · have kc : decide (T ≤ S) = false := decide_eq_false hc
            have HIF := Lib.hid (show vals qs = vals ps ++ cand1 a.plain ((es1.map Fe.plain).take (j + 1)) t by
              rw [HW.out, HTB.out, if_neg (show ¬ mx t 1 ≤ score a.plain.2 b.plain.2 by rw [hmx]; show ¬ T ≤ score a.l b.l; rw [← HSS.out]; exact hc), List.append_nil])
            clear hc hT
            go_wp2_with (first | rw [← HYY.out] | (go_at_call 16; refine CS.out.mono ?_; rintro e w3 ⟨rfl, hb3⟩; have HO3 := Lib.hid (pw_own_below HOY.out hb3); have HFO3 := Lib.hid (HFOY.out.below hb3); have HFF3 := Lib.hid (HFFY.out.below hb3); have HB3 := Lib.hid (HBY.out.trans (hb3.mono hyb2)); have HQ3 := Lib.hid ((hb3.block _ (blk_lt HQXY.out)).trans HQXY.out); clear hb3))
            exact ⟨⟨j + 1, qs, by simp, cj, by omega, HO3, HFO3, HFF3, HIF, HB3, HQ3⟩, by simp [intOf]; omega⟩
        · have db : decide ((j : Int) < (es1.length : Int)) = false := decide_eq_false (by omega)
          have db' : decide (j < es1.length) = false := decide_eq_false cj
          obtain rfl : j = es1.length := by omega
          have HIF := Lib.hid (show vals qs = candL ((es0.map Fe.plain).take (i + 1)) (es1.map Fe.plain) t by
            have h1 := HW.out
            rw [List.take_of_length_le (by simp)] at h1
            rw [HTA.out, h1, HV.out])
          have hq2 : qs.length ≤ (i + 1) * 1000 := by omega
          clear HW
          go_wp2
          exact ⟨⟨i + 1, qs, by simp, ci_, hq2, HO, HFO, HFF, HIF, HB⟩, by simp [intOf]; omega⟩
    · have cb : decide ((i : Int) < (es0.length : Int)) = false := decide_eq_false (by omega)
      have cb' : decide (i < es0.length) = false := decide_eq_false ci_
      obtain rfl : i = es0.length := by omega
      have HVF := Lib.hid (show vals ps = candL (filesL l0) (filesL l1) t by
        have h1 := HV.out
        rw [List.take_of_length_le (by simp), HP0.out, HP1.out] at h1
        exact h1)
      have eg17 : ∀ args w, (callFunc 17 args).run Try.prog w = .ok (.enter 17 args) w := enters_of Try.func17 (by kernel_rfl) rfl
      obtain ⟨Ap, cp, rfl⟩ := own_slice HO.out
      have SR := Lib.hid (sort_run 17 eg17 betterC better_run (swo_of better_ok) w.heap.size (.slice Ap ps.length cp) ps wo HO.out (by omega))
      have hwo := HB.out.size
      have hpsl : ps.length ≤ 1000000 := by omega
      clear HV ci_ eg17 HFO HFF HE0 HE1
      go_wp2_with fail
      refine SR.out.mono ?_
      rintro e w3 ⟨rfl, qs, hperm, hsort, hown, w3', hb3, hg3⟩
      have hql := hperm.length_eq
      have HB3 := Lib.hid ((HB.out.trans (hb3.mono hwo)).grown hg3 (by have := hb3.size; omega) (own_base HO.out))
      have HSQ := Lib.hid (show vals qs = sortB (candL (filesL l0) (filesL l1) t) by rw [← HVF.out]; exact sortB_of hperm hsort)
      have HO3 := Lib.hid hown
      clear hperm hsort hown hb3 hg3 SR HO HB
      obtain ⟨M1, hM1⟩ : ∃ M1, M1 = w3.alloc (.map #[] 0) := ⟨_, rfl⟩
      obtain ⟨M2, hM2⟩ : ∃ M2, M2 = M1.alloc (.map #[] 0) := ⟨_, rfl⟩
      have bM1 : Below w3.heap.size w3 M1 := by rw [hM1]; exact (Below.refl _ _).alloc (Nat.le_refl _) _
      have bM2 : Below M1.heap.size M1 M2 := by rw [hM2]; exact (Below.refl _ _).alloc (Nat.le_refl _) _
      have sM1 : M1.heap.size = w3.heap.size + 1 := by rw [hM1]; simp
      have HA1 := Lib.hid (show Has Try.prog 9 4 M2 w3.heap.size 0 [] from (show Has Try.prog 9 4 M1 w3.heap.size 0 [] by rw [hM1]; exact Has.made w3 _ _ _).below bM2)
      have HA2 := Lib.hid (show Has Try.prog 9 4 M2 M1.heap.size 0 [] by rw [hM2]; exact Has.made M1 _ _ _)
      have hm1 : w3.heap.size < M1.heap.size := by omega
      have HO4 := Lib.hid (pw_own_below (pw_own_below HO3.out bM1) bM2)
      have HB4 := Lib.hid (bM1.trans (bM2.mono (by omega)))
      have HM1 := Lib.hid hM1
      have HM2 := Lib.hid hM2
      have hb3s := HB3.out.size
      have HLT := Lib.hid (show ∀ k, (Value.slice Ap ps.length cp).ownBlock = some k → k < w3.heap.size from fun k hk => own_lt HO3.out k hk)
      clear hM1 hM2 bM1 bM2 sM1
      go_wp2_with (first | rw [← HM1.out] | rw [← HM2.out])
      go_loopw [6, 60] (fun v6 v60 wr => ∃ (k : Nat) (rs : List Pr) (S1 S2 : List ByteArray), v60 = .int .i64 (k : Int) ∧ k ≤ ps.length ∧ rs.length ≤ k ∧ Hid (Has Try.prog 9 4 wr w3.heap.size k S1) ∧ Hid (Has Try.prog 9 4 wr M1.heap.size k S2) ∧ Hid (wr.ownsRow w3.heap.size 35 3 v6 rs.length (pflat rs)) ∧ Hid (wr.ownsRow w.heap.size 35 3 (.slice Ap ps.length cp) qs.length (pflat qs)) ∧ Hid (((vals qs).take k).foldl take1 ([], [], []) = (S1, S2, vals rs)) ∧ Hid (Below w3.heap.size w3 wr)) (fun _ v60 _ => ps.length - (intOf v60).toNat)
      case atStart => exact ⟨0, [], [], [], rfl, Nat.zero_le _, Nat.zero_le _, HA1, HA2, own_nil _ _ _ _, HO4, rfl, HB4⟩
      case round =>
        clear HA1 HA2 HO4 HB4 HM1 HM2
        obtain ⟨k, rs, S1, S2, rfl, hk, hrs, HA1, HA2, HOR, HOQ, HG, HB⟩ := hrel
        obtain ⟨Ar, cr, rfl⟩ := own_slice HOR.out
        by_cases ck : k < ps.length
        · have db : decide ((k : Int) < (ps.length : Int)) = true := decide_eq_true (by omega)
          have db' : decide (k < ps.length) = true := decide_eq_true ck
          obtain ⟨p, hp⟩ : ∃ p, qs[k]? = some p := ⟨qs[k], List.getElem?_eq_getElem (by omega)⟩
          obtain ⟨g, rfl, x0, x1, x2⟩ := pflat_at HOQ.out k p hp
          have p2 := eq_true (show 0 ≤ (k : Int) by omega)
          have q2 := eq_true (show (k : Int) < (ps.length : Int) by omega)
          have HTK := Lib.hid (greedy_take (vals qs) k p.val (vals_get hp) _ HG.out)
          obtain ⟨Y, hY⟩ : ∃ Y, Y = wr.alloc (.cells #[.string p.val.f0, .string p.val.f1, .int .i64 p.val.f2] 35) := ⟨_, rfl⟩
          have qY : Y.heap[wr.heap.size]? = some (.cells #[.string p.val.f0, .string p.val.f1, .int .i64 p.val.f2] 35 (0, 0)) := by rw [hY]; exact heap_alloc_new wr _
          have bY : Below wr.heap.size wr Y := by rw [hY]; exact (Below.refl _ _).alloc (Nat.le_refl _) _
          have z0 : Y.cell? ⟨wr.heap.size, 0, none⟩ = some (.string p.val.f0) := by simp [World.cell?, qY]
          have z1 : Y.cell? ⟨wr.heap.size, 1, none⟩ = some (.string p.val.f1) := by simp [World.cell?, qY]
          have HA1Y := Lib.hid (HA1.out.below bY)
          have HA2Y := Lib.hid (HA2.out.below bY)
          have HORY := Lib.hid (pw_own_below HOR.out bY)
          have HOQY := Lib.hid (pw_own_below HOQ.out bY)
          have HBY := Lib.hid (HB.out.trans (bY.mono HB.out.size))
          have HQY := Lib.hid qY
          have HYY := Lib.hid hY
          have hsb := HB.out.size
          have HPS := Lib.hid p.property
          have hl1 := HA1.out.lt
          have hl2 := HA2.out.lt
          have lk1 := HA1Y.out.look (t := 52) Try.underlying9 Try.underlying52 Try.underlying4 (by kernel_rfl) (s := p.val.f0) (by have := HPS.out.1; unfold maxLen; omega)
          have lk2 := HA2Y.out.look (t := 52) Try.underlying9 Try.underlying52 Try.underlying4 (by kernel_rfl) (s := p.val.f1) (by have := HPS.out.2; unfold maxLen; omega)
          clear hY qY bY hp
          by_cases m1 : p.val.f0 ∈ S1
          · have dm : decide (p.val.f0 ∈ S1) = true := decide_eq_true m1
            rw [dm] at lk1
            have HST := Lib.hid (show ((vals qs).take (k + 1)).foldl take1 ([], [], []) = (S1, S2, vals rs) by rw [HTK.out]; unfold take1; rw [if_neg (fun h => h.1 m1)])
            clear dm m1 lk2
            go_wp2_with (first | rw [← HYY.out])
            exact ⟨⟨k + 1, rs, S1, S2, by simp, ck, by omega, HA1Y.out.mono (by omega), HA2Y.out.mono (by omega), HORY, HOQY, HST, HBY⟩, by simp [intOf]; omega⟩
          · have dm : decide (p.val.f0 ∈ S1) = false := decide_eq_false m1
            rw [dm] at lk1
            by_cases m2 : p.val.f1 ∈ S2
            · have dm2 : decide (p.val.f1 ∈ S2) = true := decide_eq_true m2
              rw [dm2] at lk2
              have HST := Lib.hid (show ((vals qs).take (k + 1)).foldl take1 ([], [], []) = (S1, S2, vals rs) by rw [HTK.out]; unfold take1; rw [if_neg (fun h => h.2 m2)])
              clear dm m1 dm2 m2
              go_wp2_with (first | rw [← HYY.out])
              exact ⟨⟨k + 1, rs, S1, S2, by simp, ck, by omega, HA1Y.out.mono (by omega), HA2Y.out.mono (by omega), HORY, HOQY, HST, HBY⟩, by simp [intOf]; omega⟩
            · have dm2 : decide (p.val.f1 ∈ S2) = false := decide_eq_false m2
              rw [dm2] at lk2
              have HST := Lib.hid (show ((vals qs).take (k + 1)).foldl take1 ([], [], []) = (p.val.f0 :: S1, p.val.f1 :: S2, vals (rs ++ [p])) by rw [HTK.out]; unfold take1; rw [if_pos ⟨m1, m2⟩, vals_app]; rfl)
              obtain ⟨Z, hZ⟩ : ∃ Z, Z = Y.drew := ⟨_, rfl⟩
              have bZ : Below Y.heap.size Y Z := by rw [hZ]; exact (Below.refl _ _).drew
              have qZ : Z.heap[wr.heap.size]? = some (.cells #[.string p.val.f0, .string p.val.f1, .int .i64 p.val.f2] 35 (0, 0)) := by rw [hZ]; exact HQY.out
              have m0 : Z.cell? ⟨wr.heap.size, 0, none⟩ = some (.string p.val.f0) := by simp [World.cell?, qZ]
              have m1' : Z.cell? ⟨wr.heap.size, 1, none⟩ = some (.string p.val.f1) := by simp [World.cell?, qZ]
              obtain ⟨w4, hr4, hh4, hg4⟩ := Has.put (t := 52) (HA1Y.out.below bZ) Try.underlying9 Try.underlying52 Try.underlying4 (by unfold maxLen; omega) (s := p.val.f0) (by have := HPS.out.1; unfold maxLen; omega)
              obtain ⟨w5, hr5, hh5, hg5⟩ := Has.put (t := 52) ((HA2Y.out.below bZ).grown hg4 (by simp; omega)) Try.underlying9 Try.underlying52 Try.underlying4 (by unfold maxLen; omega) (s := p.val.f1) (by have := HPS.out.2; unfold maxLen; omega)
              have HH4 := Lib.hid (hh4.grown hg5 (by simp; omega))
              have HH5 := Lib.hid hh5
              have HZ8 := Lib.hid (show ∀ b ∈ [wr.heap.size], b < Z.heap.size by intro b hb; rw [List.mem_singleton.1 hb]; exact blk_lt qZ)
              have q4 : w4.heap[wr.heap.size]? = some (.cells #[.string p.val.f0, .string p.val.f1, .int .i64 p.val.f2] 35 (0, 0)) := blk_grown qZ hg4 (by simp; omega)
              have q5 : w5.heap[wr.heap.size]? = some (.cells #[.string p.val.f0, .string p.val.f1, .int .i64 p.val.f2] 35 (0, 0)) := blk_grown q4 hg5 (by simp; omega)
              have e0 : w5.cell? ⟨wr.heap.size, 0, none⟩ = some (.string p.val.f0) := by simp [World.cell?, q5]
              have e1 : w5.cell? ⟨wr.heap.size, 1, none⟩ = some (.string p.val.f1) := by simp [World.cell?, q5]
              have e2 : w5.cell? ⟨wr.heap.size, 2, none⟩ = some (.int .i64 p.val.f2) := by simp [World.cell?, q5]
              have HQ5 := Lib.hid q5
              have hasZ := HA1Y.out.below bZ
              have hasZ2 := (HA2Y.out.below bZ).grown hg4 (by simp; omega)
              have keep : ∀ {base e s n : Nat} {v : Value} {xs : List Value}, Y.ownsRow base e s v n xs → w5.ownsRow base e s v n xs := fun h => by
                have h1 := pw_own_below h bZ
                have h2 := h1.kept hg4 (.inr (fun e' => has_ne_own hasZ h1 e'.symm))
                exact h2.kept hg5 (.inr (fun e' => has_ne_own hasZ2 h2 e'.symm))
              have HOR5 := Lib.hid (keep HORY.out)
              have HOQ5 := Lib.hid (keep HOQY.out)
              have HB5 := Lib.hid (((HBY.out.trans (bZ.mono HBY.out.size)).grown hg4 (by have := bZ.size; have := HBY.out.size; omega) (fun k hk => by injection hk with hk; omega)).grown hg5 (by have := bZ.size; have := HBY.out.size; have := hg4.size; omega) (fun k hk => by injection hk with hk; omega))
              have HZZ := Lib.hid hZ
              have hT0 := Held.Same.refl Z [wr.heap.size]
              have hT4 : Held.Same Z [wr.heap.size] w4 := fun b hb => by rw [List.mem_singleton.1 hb, q4, qZ]
              have HT4 := Lib.hid hT4
              clear hZ bZ qZ q4 q5 hh4 hh5 hg4 hg5 hasZ hasZ2 keep dm m1 dm2 m2 hT4
              go_wp2_with (first | rw [← HYY.out])
              refine (wpIn_wide (n := 9)).1 ?_
              refine Held.region 7 (Held.Same Z [wr.heap.size]) (by kernel_rfl) ?_
              rw [← HZZ.out]
              refine Held.tk (i := 0) rfl hT0 ?_
              try simp only [Act.put, List.setIfInBounds_toArray, List.set_cons_zero, List.set_cons_succ]
              refine Held.tk (i := 1) rfl hT0 ?_
              try simp only [Act.put, List.setIfInBounds_toArray, List.set_cons_zero, List.set_cons_succ]
              refine Held.tk (i := 2) rfl hT0 ?_
              try simp only [Act.put, List.setIfInBounds_toArray, List.set_cons_zero, List.set_cons_succ]
              refine Held.tk (i := 3) rfl hT0 ?_
              try simp only [Act.put, List.setIfInBounds_toArray, List.set_cons_zero, List.set_cons_succ]
              refine Held.tk (i := 4) rfl hT0 ?_
              try simp only [Act.put, List.setIfInBounds_toArray, List.set_cons_zero, List.set_cons_succ]
              refine Held.tk (i := 5) rfl hT0 ?_
              try simp only [Act.put, List.setIfInBounds_toArray, List.set_cons_zero, List.set_cons_succ]
              refine Held.AnyS.step (i := 6) rfl (by kernel_rfl) rfl (fun K hK => ?_)
              go_simp
              refine hK.out _ _ (fun _ => HT4.out) ?_
              clear hK K
              try simp only [Act.put, List.setIfInBounds_toArray, List.set_cons_zero, List.set_cons_succ]
              refine Held.AnyS.step (i := 7) rfl (by kernel_rfl) rfl (fun K hK => ?_)
              go_simp
              refine hK.out _ _ (fun h => absurd h (by omega)) ?_
              clear hK K hT0
              refine Held.AnyS.done (by kernel_rfl) ?_ _
              have hb5s := HB5.out.size
              have HNE6 := Lib.hid (show (Value.slice (some ⟨g, 0, none⟩) ps.length cp).ownBlock ≠ (Value.slice Ar rs.length cr).ownBlock from fun e' => by
                have hz : ∃ z, (Value.slice (some ⟨g, 0, none⟩) ps.length cp).ownBlock = some z := ⟨g, rfl⟩
                obtain ⟨z, hz⟩ := hz
                have h1 := HLT.out z hz
                have h2 := own_base HOR5.out z (e'.symm.trans hz)
                omega)
              go_simp
              go_wp2_with (first | (at_builtin; refine print_append_cells (w0 := w3) w3.heap.size rfl (.tmp 82) (.tmp 84) 29 35 (.agg #[(.string ⟨#[]⟩), (.string ⟨#[]⟩), (.int .i64 0)]) 3 40 rfl Try.underlying29 (by kernel_rfl) rfl (by omega) (by omega) (.slice Ar rs.length cr) rs.length (pflat rs) [.string p.val.f0, .string p.val.f1, .int .i64 p.val.f2] rfl (by first | (go_simp; done) | (go_simp; rfl)) rfl ?h1 ?hO ?hB ?hs ?hl ?_; (case h1 => intro u hu; simp at hu; rcases hu with rfl | rfl | rfl <;> rfl); (case hO => exact HOR5.out); (case hB => exact HB5.out); (case hs => exact HB5.out.size); (case hl => omega); intro v6 w6 hown hb6 hgr hat; have HO6 := Lib.hid hown; have HB6 := Lib.hid hb6; have HA16 := Lib.hid (HH4.out.grown hgr (has_ne_own HH4.out HOR5.out)); have HA26 := Lib.hid (HH5.out.grown hgr (has_ne_own HH5.out HOR5.out)); have HOQ6 := Lib.hid (HOQ5.out.kept hgr (.inr HNE6.out)); clear hown hb6 hgr hat))
              exact ⟨⟨k + 1, rs ++ [p], _, _, by simp, ck, by simp; omega, HA16, HA26, Lib.hid (by rw [List.length_append, pflat_snoc]; exact HO6.out), HOQ6, HST, HB6⟩, by simp [intOf]; omega⟩
        · have db : decide ((k : Int) < (ps.length : Int)) = false := decide_eq_false (by omega)
          have db' : decide (k < ps.length) = false := decide_eq_false ck
          obtain rfl : k = ps.length := by omega
          have HGR := Lib.hid (show vals rs = greedy (sortB (candL (filesL l0) (filesL l1) t)) by
            have h1 := HG.out
            rw [List.take_of_length_le (by rw [vals_length]; omega), HSQ.out] at h1
            unfold greedy
            rw [h1])
          have eg19 : ∀ args w, (callFunc 19 args).run Try.prog w = .ok (.enter 19 args) w := enters_of Try.func19 (by kernel_rfl) rfl
          have SR := Lib.hid (sort_run 19 eg19 firstC first_run (swo_of first_ok) w3.heap.size (.slice Ar rs.length cr) rs wr HOR.out (by omega))
          have hsb := HB.out.size
          clear HG eg19 HA1 HA2 HOQ
          go_wp2_with fail
          refine SR.out.mono ?_
          rintro e w7 ⟨rfl, ts, hperm, hsort, hown, w7', hb7, hg7⟩
          have HT7 := Lib.hid (show vals ts = R by
            rw [HRR.out]
            unfold pairsL
            rw [← HGR.out]
            exact sortT_of hperm hsort (by have := greedy_nodup (sortB (candL (filesL l0) (filesL l1) t)); rw [← HGR.out] at this; exact this))
          have hb7s := hb7.size
          have HB7 := Lib.hid ((HB3.out.trans ((HB.out.trans (hb7.mono hsb)).mono hb3s)).grown hg7 (by omega) (fun k hk => Nat.le_trans hb3s (own_base HOR.out k hk)))
          have HO7 := Lib.hid (own_less hown hb3s)
          have hln := hperm.length_eq
          clear hperm hsort hown hb7 hg7
          go_wp2_with fail
          go_ret
          exact ⟨_, ts, rfl, HT7.out, HO7.out, HB7.out⟩
end
end Go.Proofs.Ytcgnkbdfoaiaiaa.P
end
section
/- rename.Pairs: its contract, as the print asks for it. -/
set_option linter.unusedVariables false
set_option linter.unusedSimpArgs false
namespace Go.Proofs.Ytcgnkbdfoaiaiaa.P
open Go Go.RowKit Go.Proofs.YtcgnkbdfoaiaiaaW.PrintWords Go.Proofs.YtcgnkbdfoaiaiaaW.PrintLast Go.Proofs.YtcgnkbdfoaiaiaaW.PrintMore Go.Proofs.Ytcgnkbdfoaiaiaa.Q
def rename_Pairs.f (l0 l1 : List S33) (t : Int) : Option (List S35) := if PairsOk l0 ∧ PairsOk l1 then some (pairsL l0 l1 t) else none
theorem reps_pflat (w : World) (base : Nat) (ok : Nat → Prop) (ps : List Pr) : Reps (k35.M w base ok) 3 (vals ps) (pflat ps) := by
  induction ps with
  | nil => exact Reps.none _ _
  | cons p ps ih =>
    have h1 : Reps (k35.M w base ok) 3 [p.val] (encP p) := Reps.snoc (Reps.none _ _) (k35_mkM w base ok p.val) rfl
    have h2 := Kd.reps_append h1 ih
    have e : pflat (p :: ps) = encP p ++ pflat ps := by simp [pflat]
    rw [e]
    exact h2
theorem rename_Pairs.calls (A0 : Option Addr) (c0 : Nat) (l0 : List S33) (A1 : Option Addr) (c1 : Nat) (l1 : List S33) (t : Int) (r : List S35) (w : World) (hr0 : Kd.C k33 w A0 l0.length l0) (hc0 : l0.length ≤ c0) (hr1 : Kd.C k33 w A1 l1.length l1) (hc1 : l1.length ≤ c1) (h : rename_Pairs.f l0 l1 t = some r) :
    Calls Try.prog 11 #[.slice A0 l0.length c0, .slice A1 l1.length c1, .int .i64 t] w fun e w' => ∃ v0_ : Value, e = .returned (v0_) ∧ Kd.R k35 35 w' w.heap.size (fun _ => True) v0_ r ∧ Below w.heap.size w w' := by
  unfold rename_Pairs.f at h
  split at h
  · rename_i hh
    obtain rfl := Option.some.inj h
    refine (pairs_run A0 c0 l0 A1 c1 l1 t w hr0 hc0 hr1 hc1 hh.1 hh.2).mono ?_
    rintro e w' ⟨v, ps, rfl, hv, ho, hb⟩
    refine ⟨v, rfl, ⟨fun _ _ => trivial, pflat ps, ?_, ?_⟩, hb⟩
    · rw [← hv, vals_length]; exact ho
    · rw [← hv]; exact reps_pflat _ _ _ ps
  · cases h
end Go.Proofs.Ytcgnkbdfoaiaiaa.P
end
section
/- Laid for this claim by hp.py, this session's program round the kit's print: functions of the program as plain Lean functions, the proofs that the code comes to their answers, and the rows of the laws. Not trusted: Lean checks it. -/
namespace Go.Proofs.Ytcgnkbdfoaiaiaa.P
open Go.RowKit Go.Proofs.YtcgnkbdfoaiaiaaW.PrintWords Go.Proofs.YtcgnkbdfoaiaiaaW.PrintLast Go.Proofs.YtcgnkbdfoaiaiaaW.PrintMore
attribute [local go_sem] max2_int min2_int max_two min_two max_three min_three max_four min_four   -- for this text's walks alone
set_option linter.unusedVariables false
set_option linter.unusedSimpArgs false

theorem eqA35 (d : Nat) (w : World) (x0 y0 : ByteArray) (x1 y1 : ByteArray) (x2 y2 : Int) :
  (Op.equalIn (d + 2) 35 (.agg #[.string x0, .string x1, .int .i64 x2]) (.agg #[.string y0, .string y1, .int .i64 y2])).run Try.prog w = .ok (x0.toList == y0.toList && (x1.toList == y1.toList && (x2 == y2))) w := by
 refine eqA_of Try.underlying35 (by kernel_rfl) ?_
 refine eqf_cons (by rfl) (by go_simp; rfl) (by go_simp; rfl) (by go_simp) ?_
 refine eqf_cons (by rfl) (by go_simp; rfl) (by go_simp; rfl) (by go_simp) ?_
 exact eqf_last (by rfl) (by go_simp; rfl) (by go_simp; rfl) (by go_simp)
end Go.Proofs.Ytcgnkbdfoaiaiaa.P
end
section
/- Laid for this claim by hp.py, this session's program round the kit's print: functions of the program as plain Lean functions, the proofs that the code comes to their answers, and the rows of the laws. Not trusted: Lean checks it. -/
namespace Go.Proofs.Ytcgnkbdfoaiaiaa.P
open Go.RowKit Go.Proofs.YtcgnkbdfoaiaiaaW.PrintWords Go.Proofs.YtcgnkbdfoaiaiaaW.PrintLast Go.Proofs.YtcgnkbdfoaiaiaaW.PrintMore
attribute [local go_sem] max2_int min2_int max_two min_two max_three min_three max_four min_four   -- for this text's walks alone
set_option linter.unusedVariables false
set_option linter.unusedSimpArgs false

attribute [local go_sem high] eqA35
/-! ### collatorref08_Same: function 10 -/
def collatorref08_Same.l0 : Nat → List (S35) → List (S35) → Int → Option (Bool)
 | 0, _, _, _ => none
 | k + 1, x0, x1, x5 => if x5 < (x0.length : Int) then (if 0 ≤ x5 then (if x5 < (x1.length : Int) then (if (!((((rd_T35 x0 x5).f0).toList) == (((rd_T35 x1 x5).f0).toList)) || (!((((rd_T35 x0 x5).f1).toList) == (((rd_T35 x1 x5).f1).toList)) || (!(((rd_T35 x0 x5).f2) == ((rd_T35 x1 x5).f2))))) = true then (some false) else (collatorref08_Same.l0 k x0 x1 (wrap64 (x5 + 1)))) else (none)) else (none)) else (some true)
def collatorref08_Same.f (k : Nat) (l0 : List (S35)) (l1 : List (S35)) : Option (Bool) := if (l0.length : Int) = (l1.length : Int) then (collatorref08_Same.l0 k l0 l1 0) else (some false)
theorem collatorref08_Same.mono_l : ∀ k, (∀ y0 y1 y2, LeO (collatorref08_Same.l0 k y0 y1 y2) (collatorref08_Same.l0 (k + 1) y0 y1 y2))
 | 0 => fun _ _ _ r h => by simp [collatorref08_Same.l0] at h
 | k + 1 => by
  have ih0 := collatorref08_Same.mono_l k
  ·intro y0 y1 y2
   unfold collatorref08_Same.l0
   repeat' first
   | (with_reducible exact ih0 _ _ _)
   | (with_reducible exact LeO.refl _)
   | (with_reducible exact LeO.none _)
   | (with_reducible refine LeO.ite ?_ ?_)
   | (with_reducible refine LeO.bind ?_ (fun _ => ?_))
   | exact ih0 _ _ _
   | exact LeO.none _
   | refine LeO.ite ?_ ?_
   | refine LeO.bind ?_ (fun _ => ?_)
theorem collatorref08_Same.mono : ∀ a0 a1 k, LeO (collatorref08_Same.f k a0 a1) (collatorref08_Same.f (k + 1) a0 a1) := by
 intro a0 a1 k
 have ih0 := collatorref08_Same.mono_l k
 unfold collatorref08_Same.f
 repeat' first
   | (with_reducible exact ih0 _ _ _)
   | (with_reducible exact LeO.refl _)
   | (with_reducible exact LeO.none _)
   | (with_reducible refine LeO.ite ?_ ?_)
   | (with_reducible refine LeO.bind ?_ (fun _ => ?_))
   | exact ih0 _ _ _
   | exact LeO.none _
   | refine LeO.ite ?_ ?_
   | refine LeO.bind ?_ (fun _ => ?_)
set_option maxHeartbeats 8000000 in
set_option maxRecDepth 100000 in
theorem collatorref08_Same.calls (k : Nat) (A0 : Option Addr) (c0 : Nat) (l0 : List (S35)) (A1 : Option Addr) (c1 : Nat) (l1 : List (S35)) (r : Bool) (w : World) (hr0 : Kd.C k35 w A0 l0.length l0) (hc0 : l0.length ≤ c0) (hr1 : Kd.C k35 w A1 l1.length l1) (hc1 : l1.length ≤ c1) (h : collatorref08_Same.f k l0 l1 = some r) :
  Calls Try.prog 10 #[.slice A0 l0.length c0, .slice A1 l1.length c1] w fun e w' => e = .returned (.bool r) ∧ Drawn0 w w' := by
 have hu35 := Try.underlying35
 have HR0 := Aside0.mk hr0
 have HC0 := Aside0.mk hc0
 clear hr0 hc0
 have HR1 := Aside0.mk hr1
 have HC1 := Aside0.mk hc1
 clear hr1 hc1
 have H : (if (l0.length : Int) = (l1.length : Int) then (collatorref08_Same.l0 k l0 l1 0) else (some false)) = some r := h
 clear h
 by_cases c3 : (l0.length : Int) = (l1.length : Int)
 ·rw [if_pos c3] at H
  have c3b0 : ((l0.length : Int) == (l1.length : Int)) = true := beq_iff_eq.mpr c3
  have c3b1 : ((l0.length : Int) != (l1.length : Int)) = false := bne_eq_false_iff_eq.mpr c3
  have c3b2 : (l0.length == l1.length) = true := by first | simpa using c3 | (simp at c3 ⊢; omega)
  clear c3
  have H' := Aside0.mk H
  clear H
  go_enter Try.func10, Try.ntmps10
  go_wp2
  repeat (go_quiet (fail); try go_wp2)
  go_loopg [5] k (fun kq v5 w' => ∃ (x5_1 : Int), v5 = .int .i64 x5_1 ∧ Aside0 (collatorref08_Same.l0 kq l0 l1 x5_1 = some r) ∧ Aside0 (kq ≤ k) ∧ Drawn0 w w')
  case atStart => exact ⟨(0), (by first | rfl | (simp; done) | (simp [*]; done)), H', ⟨Nat.le_refl _⟩, by repeat (first | exact Drawn0.refl _ | apply Drawn0.step)⟩
  case round =>
   clear H'
   (try clear c1);(try clear p2);(try clear c3);(try clear c3b0);(try clear c3b1);(try clear c3b2)
   obtain ⟨x5_1, rfl, HA, HK1, ⟨m1, rfl⟩⟩ := hrel
   cases gk with
   | zero => exact absurd HA.out (by simp [collatorref08_Same.l0])
   | succ k1 =>
    have H := HA.out
    clear HA
    simp only [collatorref08_Same.l0] at H
    by_cases c4 : x5_1 < (l0.length : Int)
    ·rw [if_pos c4] at H
     have c4b0 : decide (x5_1 < (l0.length : Int)) = true := decide_eq_true c4
     clear c4
     by_cases c5 : 0 ≤ x5_1
     ·rw [if_pos c5] at H
      have c5b0 : decide (0 ≤ x5_1) = true := decide_eq_true c5
      clear c5
      by_cases c6 : x5_1 < (l1.length : Int)
      ·rw [if_pos c6] at H
       have c6b0 : decide (x5_1 < (l1.length : Int)) = true := decide_eq_true c6
       clear c6
       by_cases c7 : (!((((rd_T35 l0 x5_1).f0).toList) == (((rd_T35 l1 x5_1).f0).toList)) || (!((((rd_T35 l0 x5_1).f1).toList) == (((rd_T35 l1 x5_1).f1).toList)) || (!(((rd_T35 l0 x5_1).f2) == ((rd_T35 l1 x5_1).f2))))) = true
       ·rw [if_pos c7] at H
        have c7b0 : (!((((rd_T35 l0 x5_1).f0).toList) == (((rd_T35 l1 x5_1).f0).toList)) || (!((((rd_T35 l0 x5_1).f1).toList) == (((rd_T35 l1 x5_1).f1).toList)) || (!(((rd_T35 l0 x5_1).f2) == ((rd_T35 l1 x5_1).f2))))) = true := c7
        clear c7
        obtain rfl := Option.some.inj H
        have p101 : 0 ≤ (x5_1 : Int) := of_decide_eq_true (by first | (with_reducible assumption) | assumption)
        have q101 : x5_1 < (l0.length : Int) := of_decide_eq_true (by first | (with_reducible assumption) | assumption)
        obtain ⟨ad101, e101, hx101_0, hx101_1, hx101_2⟩ := at_T35 HR0.out x5_1 p101 q101
        cases e101
        replace p101 := eq_true p101
        replace q101 := eq_true q101
        have p102 : 0 ≤ (x5_1 : Int) := of_decide_eq_true (by first | (with_reducible assumption) | assumption)
        have q102 : x5_1 < (l1.length : Int) := of_decide_eq_true (by first | (with_reducible assumption) | assumption)
        obtain ⟨ad102, e102, hx102_0, hx102_1, hx102_2⟩ := at_T35 HR1.out x5_1 p102 q102
        cases e102
        replace p102 := eq_true p102
        replace q102 := eq_true q102
        go_wp2
        repeat (go_quiet (fail); try go_wp2)
        go_ret
        exact ⟨by first | rfl | (simp; done) | (simp [*]; done), by repeat (first | exact Drawn0.refl _ | apply Drawn0.step)⟩
       ·rw [if_neg c7] at H
        have c7b0 : (!((((rd_T35 l0 x5_1).f0).toList) == (((rd_T35 l1 x5_1).f0).toList)) || (!((((rd_T35 l0 x5_1).f1).toList) == (((rd_T35 l1 x5_1).f1).toList)) || (!(((rd_T35 l0 x5_1).f2) == ((rd_T35 l1 x5_1).f2))))) = false := by simpa using c7
        clear c7
        have H' := Aside0.mk H
        clear H
        have p101 : 0 ≤ (x5_1 : Int) := of_decide_eq_true (by first | (with_reducible assumption) | assumption)
        have q101 : x5_1 < (l0.length : Int) := of_decide_eq_true (by first | (with_reducible assumption) | assumption)
        obtain ⟨ad101, e101, hx101_0, hx101_1, hx101_2⟩ := at_T35 HR0.out x5_1 p101 q101
        cases e101
        replace p101 := eq_true p101
        replace q101 := eq_true q101
        have p102 : 0 ≤ (x5_1 : Int) := of_decide_eq_true (by first | (with_reducible assumption) | assumption)
        have q102 : x5_1 < (l1.length : Int) := of_decide_eq_true (by first | (with_reducible assumption) | assumption)
        obtain ⟨ad102, e102, hx102_0, hx102_1, hx102_2⟩ := at_T35 HR1.out x5_1 p102 q102
        cases e102
        replace p102 := eq_true p102
        replace q102 := eq_true q102
        go_wp2
        repeat (go_quiet (fail); try go_wp2)
        go_roundg k1
        case measure => have := HK1.out; omega
        case rel => exact ⟨(wrap64 (x5_1 + 1)), (by first | rfl | (simp; done) | (simp [*]; done)), H', ⟨by have := HK1.out; omega⟩, by repeat (first | exact Drawn0.refl _ | apply Drawn0.step)⟩
      ·rw [if_neg c6] at H
       exact absurd H (by simp)
     ·rw [if_neg c5] at H
      exact absurd H (by simp)
    ·rw [if_neg c4] at H
     have c4b0 : decide (x5_1 < (l0.length : Int)) = false := decide_eq_false c4
     clear c4
     obtain rfl := Option.some.inj H
     go_wp2
     repeat (go_quiet (fail); try go_wp2)
     go_ret
     exact ⟨by first | rfl | (simp; done) | (simp [*]; done), by repeat (first | exact Drawn0.refl _ | apply Drawn0.step)⟩
 ·rw [if_neg c3] at H
  have c3b0 : ((l0.length : Int) == (l1.length : Int)) = false := beq_eq_false_iff_ne.mpr c3
  have c3b1 : ((l0.length : Int) != (l1.length : Int)) = true := bne_iff_ne.mpr c3
  have c3b2 : (l0.length == l1.length) = false := by first | simpa using c3 | (simp at c3 ⊢; omega)
  obtain rfl := Option.some.inj H
  go_enter Try.func10, Try.ntmps10
  go_wp2
  repeat (go_quiet (fail); try go_wp2)
  go_ret
  exact ⟨by first | rfl | (simp; done) | (simp [*]; done), by repeat (first | exact Drawn0.refl _ | apply Drawn0.step)⟩

end Go.Proofs.Ytcgnkbdfoaiaiaa.P
end
section
/- Laid for this claim by hp.py, this session's program round the kit's print: functions of the program as plain Lean functions, the proofs that the code comes to their answers, and the rows of the laws. Not trusted: Lean checks it. -/
namespace Go.Proofs.Ytcgnkbdfoaiaiaa.P
open Go.RowKit Go.Proofs.YtcgnkbdfoaiaiaaW.PrintWords Go.Proofs.YtcgnkbdfoaiaiaaW.PrintLast Go.Proofs.YtcgnkbdfoaiaiaaW.PrintMore
attribute [local go_sem] max2_int min2_int max_two min_two max_three min_three max_four min_four   -- for this text's walks alone
set_option linter.unusedVariables false
set_option linter.unusedSimpArgs false

/-! ### collatorlaw08_awake: function 7 -/
def collatorlaw08_awake.f (k : Nat)  : Option (Bool) := (some (([(⟨(⟨#[97]⟩ : ByteArray), 2, (⟨#[120, 10, 121, 10]⟩ : ByteArray), false⟩ : S33), (⟨(⟨#[98]⟩ : ByteArray), 2, (⟨#[120, 10]⟩ : ByteArray), false⟩ : S33)] : List (S33)) : List (S33))).bind fun y103 => ((some (([(⟨(⟨#[99]⟩ : ByteArray), 2, (⟨#[120, 10, 121, 10]⟩ : ByteArray), false⟩ : S33)] : List (S33)) : List (S33))).bind fun y106 => ((rename_Pairs.f y103 y106 50).bind fun t109 => ((collatorref08_Same.f k t109 (([(⟨(⟨#[97]⟩ : ByteArray), (⟨#[99]⟩ : ByteArray), 100⟩ : S35)] : List (S35)))).bind fun t115 => (if t115 = true then ((rename_Pairs.f y103 y106 101).bind fun t116 => (if (t116.length : Int) = 0 then ((rename_Pairs.f ([] : List (S33)) y106 0).bind fun t119 => (some ((t119.length : Int) == 0))) else (some false))) else (some false)))))
theorem collatorlaw08_awake.mono : ∀ k, LeO (collatorlaw08_awake.f k ) (collatorlaw08_awake.f (k + 1) ) := by
 intro  k
 unfold collatorlaw08_awake.f
 repeat' first
   | (with_reducible exact collatorref08_Same.mono _ _ _)
   | (with_reducible exact LeO.refl _)
   | (with_reducible exact LeO.none _)
   | (with_reducible refine LeO.ite ?_ ?_)
   | (with_reducible refine LeO.bind ?_ (fun _ => ?_))
   | exact collatorref08_Same.mono _ _ _
   | exact LeO.none _
   | refine LeO.ite ?_ ?_
   | refine LeO.bind ?_ (fun _ => ?_)
set_option maxHeartbeats 8000000 in
set_option maxRecDepth 100000 in
theorem collatorlaw08_awake.calls (k : Nat)  (r : Bool) (w : World) (h : collatorlaw08_awake.f k  = some r) :
  Calls Try.prog 7 #[] w fun e w' => e = .returned (.bool r) ∧ Below w.heap.size w w' := by
 have hu33 := Try.underlying33
 have hu35 := Try.underlying35
 have HB := Aside0.mk (Below.refl w.heap.size w)
 have H : ((some (([(⟨(⟨#[97]⟩ : ByteArray), 2, (⟨#[120, 10, 121, 10]⟩ : ByteArray), false⟩ : S33), (⟨(⟨#[98]⟩ : ByteArray), 2, (⟨#[120, 10]⟩ : ByteArray), false⟩ : S33)] : List (S33)) : List (S33))).bind fun y103 => ((some (([(⟨(⟨#[99]⟩ : ByteArray), 2, (⟨#[120, 10, 121, 10]⟩ : ByteArray), false⟩ : S33)] : List (S33)) : List (S33))).bind fun y106 => ((rename_Pairs.f y103 y106 50).bind fun t109 => ((collatorref08_Same.f k t109 (([(⟨(⟨#[97]⟩ : ByteArray), (⟨#[99]⟩ : ByteArray), 100⟩ : S35)] : List (S35)))).bind fun t115 => (if t115 = true then ((rename_Pairs.f y103 y106 101).bind fun t116 => (if (t116.length : Int) = 0 then ((rename_Pairs.f ([] : List (S33)) y106 0).bind fun t119 => (some ((t119.length : Int) == 0))) else (some false))) else (some false)))))) = some r := h
 clear h
 obtain ⟨y103, hy103⟩ : ∃ y_ : List (S33), y_ = (([(⟨(⟨#[97]⟩ : ByteArray), 2, (⟨#[120, 10, 121, 10]⟩ : ByteArray), false⟩ : S33), (⟨(⟨#[98]⟩ : ByteArray), 2, (⟨#[120, 10]⟩ : ByteArray), false⟩ : S33)] : List (S33))) := ⟨_, rfl⟩
 replace H : ((some (([(⟨(⟨#[99]⟩ : ByteArray), 2, (⟨#[120, 10, 121, 10]⟩ : ByteArray), false⟩ : S33)] : List (S33)) : List (S33))).bind fun y106 => ((rename_Pairs.f y103 y106 50).bind fun t109 => ((collatorref08_Same.f k t109 (([(⟨(⟨#[97]⟩ : ByteArray), (⟨#[99]⟩ : ByteArray), 100⟩ : S35)] : List (S35)))).bind fun t115 => (if t115 = true then ((rename_Pairs.f y103 y106 101).bind fun t116 => (if (t116.length : Int) = 0 then ((rename_Pairs.f ([] : List (S33)) y106 0).bind fun t119 => (some ((t119.length : Int) == 0))) else (some false))) else (some false))))) = some r := by first | (rw [hy103]; with_reducible exact H) | (have H2_ := (Option.bind_some _ _).symm.trans H; rw [hy103]; with_reducible exact H2_) | (have H2_ := (Option.bind_some _ _).symm.trans H; with_reducible exact H2_) | with_reducible exact H | (rw [hy103]; exact H) | exact H
 have Ny103 := Aside0.mk hy103
 clear hy103
 obtain ⟨y106, hy106⟩ : ∃ y_ : List (S33), y_ = (([(⟨(⟨#[99]⟩ : ByteArray), 2, (⟨#[120, 10, 121, 10]⟩ : ByteArray), false⟩ : S33)] : List (S33))) := ⟨_, rfl⟩
 replace H : ((rename_Pairs.f y103 y106 50).bind fun t109 => ((collatorref08_Same.f k t109 (([(⟨(⟨#[97]⟩ : ByteArray), (⟨#[99]⟩ : ByteArray), 100⟩ : S35)] : List (S35)))).bind fun t115 => (if t115 = true then ((rename_Pairs.f y103 y106 101).bind fun t116 => (if (t116.length : Int) = 0 then ((rename_Pairs.f ([] : List (S33)) y106 0).bind fun t119 => (some ((t119.length : Int) == 0))) else (some false))) else (some false)))) = some r := by first | (rw [hy106]; with_reducible exact H) | (have H2_ := (Option.bind_some _ _).symm.trans H; rw [hy106]; with_reducible exact H2_) | (have H2_ := (Option.bind_some _ _).symm.trans H; with_reducible exact H2_) | with_reducible exact H | (rw [hy106]; exact H) | exact H
 have Ny106 := Aside0.mk hy106
 clear hy106
 replace H := Option.bind_eq_some_iff.mp H
 obtain ⟨t109, A10, H⟩ := H
 replace H : ((collatorref08_Same.f k t109 (([(⟨(⟨#[97]⟩ : ByteArray), (⟨#[99]⟩ : ByteArray), 100⟩ : S35)] : List (S35)))).bind fun t115 => (if t115 = true then ((rename_Pairs.f y103 y106 101).bind fun t116 => (if (t116.length : Int) = 0 then ((rename_Pairs.f ([] : List (S33)) y106 0).bind fun t119 => (some ((t119.length : Int) == 0))) else (some false))) else (some false))) = some r := H
 have A1 := Aside0.mk A10
 clear A10
 obtain ⟨y112, hy112⟩ : ∃ y_ : List (S35), y_ = (([(⟨(⟨#[97]⟩ : ByteArray), (⟨#[99]⟩ : ByteArray), 100⟩ : S35)] : List (S35))) := ⟨_, rfl⟩
 replace H : ((collatorref08_Same.f k t109 y112).bind fun t115 => (if t115 = true then ((rename_Pairs.f y103 y106 101).bind fun t116 => (if (t116.length : Int) = 0 then ((rename_Pairs.f ([] : List (S33)) y106 0).bind fun t119 => (some ((t119.length : Int) == 0))) else (some false))) else (some false))) = some r := by first | (rw [hy112]; with_reducible exact H) | (have H2_ := (Option.bind_some _ _).symm.trans H; rw [hy112]; with_reducible exact H2_) | (have H2_ := (Option.bind_some _ _).symm.trans H; with_reducible exact H2_) | with_reducible exact H | (rw [hy112]; exact H) | exact H
 have Ny112 := Aside0.mk hy112
 clear hy112
 replace H := Option.bind_eq_some_iff.mp H
 obtain ⟨t115, A20, H⟩ := H
 replace H : (if t115 = true then ((rename_Pairs.f y103 y106 101).bind fun t116 => (if (t116.length : Int) = 0 then ((rename_Pairs.f ([] : List (S33)) y106 0).bind fun t119 => (some ((t119.length : Int) == 0))) else (some false))) else (some false)) = some r := H
 have A2 := Aside0.mk A20
 clear A20
 by_cases c3 : t115 = true
 ·subst c3
  have H1 : ((rename_Pairs.f y103 y106 101).bind fun t116 => (if (t116.length : Int) = 0 then ((rename_Pairs.f ([] : List (S33)) y106 0).bind fun t119 => (some ((t119.length : Int) == 0))) else (some false))) = some r := by rw [if_pos rfl] at H; exact H
  clear H
  have H := H1
  clear H1
  replace H := Option.bind_eq_some_iff.mp H
  obtain ⟨t116, A40, H⟩ := H
  replace H : (if (t116.length : Int) = 0 then ((rename_Pairs.f ([] : List (S33)) y106 0).bind fun t119 => (some ((t119.length : Int) == 0))) else (some false)) = some r := H
  have A4 := Aside0.mk A40
  clear A40
  by_cases c5 : (t116.length : Int) = 0
  ·rw [if_pos c5] at H
   have c5b0 : ((t116.length : Int) == 0) = true := beq_iff_eq.mpr c5
   have c5b1 : ((t116.length : Int) != 0) = false := bne_eq_false_iff_eq.mpr c5
   clear c5
   replace H := Option.bind_eq_some_iff.mp H
   obtain ⟨t119, A60, H⟩ := H
   replace H : (some ((t119.length : Int) == 0)) = some r := H
   have A6 := Aside0.mk A60
   clear A60
   obtain rfl := Option.some.inj H
   go_enter Try.func7, Try.ntmps7
   go_wp2_with (first | ((with_reducible refine gate_dst (N := 5) rfl ?_); (try (refine gate_guard (by rfl) ?_; dsimp only)); refine Kd.R_lit k33 _ 33 ?hg (N := 5) ?hd (xs := ([(⟨(⟨#[97]⟩ : ByteArray), 2, (⟨#[120, 10, 121, 10]⟩ : ByteArray), false⟩ : S33), (⟨(⟨#[98]⟩ : ByteArray), 2, (⟨#[120, 10]⟩ : ByteArray), false⟩ : S33)] : List (S33))) (inner := [.string (⟨#[97]⟩ : ByteArray), .int .i64 2, .string (⟨#[120, 10, 121, 10]⟩ : ByteArray), .bool false, .string (⟨#[98]⟩ : ByteArray), .int .i64 2, .string (⟨#[120, 10]⟩ : ByteArray), .bool false]) (ok := fun _ => True) (okp := fun _ => True) ?hr ?hp (fun _ hk => hk) trivial (Below.refl _ _) (Nat.le_refl _) (by simp) ?_; (case hd => rfl); (case hg => rfl); (case hr => first | (go_simp; done) | (go_simp; rfl)); (case hp => exact (Reps.c4 (show Kd.M k33 _ _ _ (⟨(⟨#[97]⟩ : ByteArray), 2, (⟨#[120, 10, 121, 10]⟩ : ByteArray), false⟩ : S33) [.string (⟨#[97]⟩ : ByteArray), .int .i64 2, .string (⟨#[120, 10, 121, 10]⟩ : ByteArray), .bool false] from (k33_mkM _ _ _ (⟨(⟨#[97]⟩ : ByteArray), 2, (⟨#[120, 10, 121, 10]⟩ : ByteArray), false⟩ : S33) )) (Reps.c4 (show Kd.M k33 _ _ _ (⟨(⟨#[98]⟩ : ByteArray), 2, (⟨#[120, 10]⟩ : ByteArray), false⟩ : S33) [.string (⟨#[98]⟩ : ByteArray), .int .i64 2, .string (⟨#[120, 10]⟩ : ByteArray), .bool false] from (k33_mkM _ _ _ (⟨(⟨#[98]⟩ : ByteArray), 2, (⟨#[120, 10]⟩ : ByteArray), false⟩ : S33) )) (Reps.none _ _)))); intro v104 w7 ho8 hb hg_ hnew_; clear hg_ hnew_; (first | rw [← Ny103.out] at ho8 | (simp only [Int.reduceToNat] at ho8; rw [← Ny103.out] at ho8)); have n0_ := Aside0.mk (Kd.R_lower ho8 (below_size (by repeat (first | (with_reducible first | exact HB.out | apply below_alloc | apply pw_below_drewN | apply below_drew1) | exact HB.out)))); have n1_ := Aside0.mk (below_step (by repeat (first | (with_reducible first | exact HB.out | apply below_alloc | apply pw_below_drewN | apply below_drew1) | exact HB.out)) hb); clear HB; have HO105 := n0_; have HB := n1_; clear n0_ n1_; clear hb ho8) | ((with_reducible refine gate_dst (N := 7) rfl ?_); (try (refine gate_guard (by rfl) ?_; dsimp only)); refine Kd.R_lit k33 _ 33 ?hg (N := 7) ?hd (xs := ([(⟨(⟨#[99]⟩ : ByteArray), 2, (⟨#[120, 10, 121, 10]⟩ : ByteArray), false⟩ : S33)] : List (S33))) (inner := [.string (⟨#[99]⟩ : ByteArray), .int .i64 2, .string (⟨#[120, 10, 121, 10]⟩ : ByteArray), .bool false]) (ok := fun _ => True) (okp := fun _ => True) ?hr ?hp (fun _ hk => hk) trivial (Below.refl _ _) (Nat.le_refl _) (by simp) ?_; (case hd => rfl); (case hg => rfl); (case hr => first | (go_simp; done) | (go_simp; rfl)); (case hp => exact (Reps.c4 (show Kd.M k33 _ _ _ (⟨(⟨#[99]⟩ : ByteArray), 2, (⟨#[120, 10, 121, 10]⟩ : ByteArray), false⟩ : S33) [.string (⟨#[99]⟩ : ByteArray), .int .i64 2, .string (⟨#[120, 10, 121, 10]⟩ : ByteArray), .bool false] from (k33_mkM _ _ _ (⟨(⟨#[99]⟩ : ByteArray), 2, (⟨#[120, 10, 121, 10]⟩ : ByteArray), false⟩ : S33) )) (Reps.none _ _))); intro v107 w9 ho10 hb hg_ hnew_; clear hg_ hnew_; (first | rw [← Ny106.out] at ho10 | (simp only [Int.reduceToNat] at ho10; rw [← Ny106.out] at ho10)); have n0_ := Aside0.mk (Kd.R_elder' (by (with_reducible repeat (first | apply Kd.R_alloc | apply Kd.R_drewN | apply Kd.R_drew)); exact HO105.out) (Kd.R_base ho10) hb); have n1_ := Aside0.mk (Kd.R_lower (Kd.R_new' ho10 (Kd.R_lt (by (with_reducible repeat (first | apply Kd.R_alloc | apply Kd.R_drewN | apply Kd.R_drew)); exact HO105.out))) (below_size (by repeat (first | (with_reducible first | exact HB.out | apply below_alloc | apply pw_below_drewN | apply below_drew1) | exact HB.out)))); have n2_ := Aside0.mk (below_step (by repeat (first | (with_reducible first | exact HB.out | apply below_alloc | apply pw_below_drewN | apply below_drew1) | exact HB.out)) hb); clear HO105; clear HB; have HO105 := n0_; have HO108 := n1_; have HB := n2_; clear n0_ n1_ n2_; clear hb ho10; (try (obtain ⟨Ao11, co11, eo11⟩ := Kd.R_slice HO105.out; subst eo11)); (try (obtain ⟨Ao12, co12, eo12⟩ := Kd.R_slice HO108.out; subst eo12))) | ((with_reducible refine gate_callee (f := 11) rfl ?_); refine goesL_ _ rfl rfl Try.func11 (by kernel_rfl) rfl #[.slice Ao11 y103.length co11, .slice Ao12 y106.length co12, .int .i64 50] rfl (by (try simp only [List.map_toArray, List.map_cons, List.map_nil]); first | done | rfl | (simp only [List.length_drop, List.length_take]; rfl)) ?_; (with_reducible refine (rename_Pairs.calls _ _ y103 _ _ y106 50 t109 _ ?side1 ?side2 ?side3 ?side4 A1.out).mono ?_); (case side1 => repeat (first | exact (Kd.R_reads' HO105.out).2.2 | (with_reducible refine Kd.C_alloc ?_ _) | (with_reducible refine Kd.C_drewN ?_ _) | (with_reducible refine Kd.C_drew ?_))); (case side2 => exact (Kd.R_reads' HO105.out).2.1); (case side3 => repeat (first | exact (Kd.R_reads' HO108.out).2.2 | (with_reducible refine Kd.C_alloc ?_ _) | (with_reducible refine Kd.C_drewN ?_ _) | (with_reducible refine Kd.C_drew ?_))); (case side4 => exact (Kd.R_reads' HO108.out).2.1); rintro e w13 ⟨v110, rfl, ho0, hb⟩; refine ⟨_, rfl, ?_⟩; have n0_ := Aside0.mk (Kd.R_below (by (with_reducible repeat (first | apply Kd.R_alloc | apply Kd.R_drewN | apply Kd.R_drew)); exact HO105.out) hb); have n1_ := Aside0.mk (Kd.R_below (by (with_reducible repeat (first | apply Kd.R_alloc | apply Kd.R_drewN | apply Kd.R_drew)); exact HO108.out) hb); have n2_ := Aside0.mk (Kd.R_lower ho0 (below_size (by repeat (first | (with_reducible first | exact HB.out | apply below_alloc | apply pw_below_drewN | apply below_drew1) | exact HB.out)))); have n3_ := Aside0.mk (below_step (by repeat (first | (with_reducible first | exact HB.out | apply below_alloc | apply pw_below_drewN | apply below_drew1) | exact HB.out)) hb); clear HO105; clear HO108; clear HB; have HO105 := n0_; have HO108 := n1_; have HO111 := n2_; have HB := n3_; clear n0_ n1_ n2_ n3_; (try clear hb); (try clear hb2); (try clear hk); (try clear hi); (try clear ho0)) | ((with_reducible refine gate_dst (N := 12) rfl ?_); (try (refine gate_guard (by rfl) ?_; dsimp only)); refine Kd.R_lit k35 _ 35 ?hg (N := 12) ?hd (xs := ([(⟨(⟨#[97]⟩ : ByteArray), (⟨#[99]⟩ : ByteArray), 100⟩ : S35)] : List (S35))) (inner := [.string (⟨#[97]⟩ : ByteArray), .string (⟨#[99]⟩ : ByteArray), .int .i64 100]) (ok := fun _ => True) (okp := fun _ => True) ?hr ?hp (fun _ hk => hk) trivial (Below.refl _ _) (Nat.le_refl _) (by simp) ?_; (case hd => rfl); (case hg => rfl); (case hr => first | (go_simp; done) | (go_simp; rfl)); (case hp => exact (Reps.c3 (show Kd.M k35 _ _ _ (⟨(⟨#[97]⟩ : ByteArray), (⟨#[99]⟩ : ByteArray), 100⟩ : S35) [.string (⟨#[97]⟩ : ByteArray), .string (⟨#[99]⟩ : ByteArray), .int .i64 100] from (k35_mkM _ _ _ (⟨(⟨#[97]⟩ : ByteArray), (⟨#[99]⟩ : ByteArray), 100⟩ : S35) )) (Reps.none _ _))); intro v113 w14 ho15 hb hg_ hnew_; clear hg_ hnew_; (first | rw [← Ny112.out] at ho15 | (simp only [Int.reduceToNat] at ho15; rw [← Ny112.out] at ho15)); have n0_ := Aside0.mk (Kd.R_below (by (with_reducible repeat (first | apply Kd.R_alloc | apply Kd.R_drewN | apply Kd.R_drew)); exact HO105.out) hb); have n1_ := Aside0.mk (Kd.R_below (by (with_reducible repeat (first | apply Kd.R_alloc | apply Kd.R_drewN | apply Kd.R_drew)); exact HO108.out) hb); have n2_ := Aside0.mk (Kd.R_elder' (by (with_reducible repeat (first | apply Kd.R_alloc | apply Kd.R_drewN | apply Kd.R_drew)); exact HO111.out) (Kd.R_base ho15) hb); have n3_ := Aside0.mk (Kd.R_lower (Kd.R_new' ho15 (Kd.R_lt (by (with_reducible repeat (first | apply Kd.R_alloc | apply Kd.R_drewN | apply Kd.R_drew)); exact HO111.out))) (below_size (by repeat (first | (with_reducible first | exact HB.out | apply below_alloc | apply pw_below_drewN | apply below_drew1) | exact HB.out)))); have n4_ := Aside0.mk (below_step (by repeat (first | (with_reducible first | exact HB.out | apply below_alloc | apply pw_below_drewN | apply below_drew1) | exact HB.out)) hb); clear HO105; clear HO108; clear HO111; clear HB; have HO105 := n0_; have HO108 := n1_; have HO111 := n2_; have HO114 := n3_; have HB := n4_; clear n0_ n1_ n2_ n3_ n4_; clear hb ho15; (try (obtain ⟨Ao16, co16, eo16⟩ := Kd.R_slice HO111.out; subst eo16)); (try (obtain ⟨Ao17, co17, eo17⟩ := Kd.R_slice HO114.out; subst eo17))) | ((with_reducible refine gate_callee (f := 10) rfl ?_); refine goesL_ _ rfl rfl Try.func10 (by kernel_rfl) rfl #[.slice Ao16 t109.length co16, .slice Ao17 y112.length co17] rfl (by (try simp only [List.map_toArray, List.map_cons, List.map_nil]); first | done | rfl | (simp only [List.length_drop, List.length_take]; rfl)) ?_; (with_reducible refine (collatorref08_Same.calls k _ _ t109 _ _ y112 true _ ?side1 ?side2 ?side3 ?side4 A2.out).mono ?_); (case side1 => repeat (first | exact (Kd.R_reads' HO111.out).2.2 | (with_reducible refine Kd.C_alloc ?_ _) | (with_reducible refine Kd.C_drewN ?_ _) | (with_reducible refine Kd.C_drew ?_))); (case side2 => exact (Kd.R_reads' HO111.out).2.1); (case side3 => repeat (first | exact (Kd.R_reads' HO114.out).2.2 | (with_reducible refine Kd.C_alloc ?_ _) | (with_reducible refine Kd.C_drewN ?_ _) | (with_reducible refine Kd.C_drew ?_))); (case side4 => exact (Kd.R_reads' HO114.out).2.1); rintro e w' ⟨rfl, ⟨nd, rfl⟩⟩; refine ⟨_, rfl, ?_⟩) | (go_at_call 11; (with_reducible refine (rename_Pairs.calls _ _ y103 _ _ y106 101 t116 _ ?side1 ?side2 ?side3 ?side4 A4.out).mono ?_); (case side1 => repeat (first | exact (Kd.R_reads' HO105.out).2.2 | (with_reducible refine Kd.C_alloc ?_ _) | (with_reducible refine Kd.C_drewN ?_ _) | (with_reducible refine Kd.C_drew ?_))); (case side2 => exact (Kd.R_reads' HO105.out).2.1); (case side3 => repeat (first | exact (Kd.R_reads' HO108.out).2.2 | (with_reducible refine Kd.C_alloc ?_ _) | (with_reducible refine Kd.C_drewN ?_ _) | (with_reducible refine Kd.C_drew ?_))); (case side4 => exact (Kd.R_reads' HO108.out).2.1); rintro e w18 ⟨v117, rfl, ho0, hb⟩; have n0_ := Aside0.mk (Kd.R_below (by (with_reducible repeat (first | apply Kd.R_alloc | apply Kd.R_drewN | apply Kd.R_drew)); exact HO105.out) hb); have n1_ := Aside0.mk (Kd.R_below (by (with_reducible repeat (first | apply Kd.R_alloc | apply Kd.R_drewN | apply Kd.R_drew)); exact HO108.out) hb); have n2_ := Aside0.mk (Kd.R_elder' (by (with_reducible repeat (first | apply Kd.R_alloc | apply Kd.R_drewN | apply Kd.R_drew)); exact HO111.out) (Kd.R_base ho0) hb); have n3_ := Aside0.mk (Kd.R_elder' (by (with_reducible repeat (first | apply Kd.R_alloc | apply Kd.R_drewN | apply Kd.R_drew)); exact HO114.out) (Kd.R_base ho0) hb); have n4_ := Aside0.mk (Kd.R_lower (Kd.R_new' (Kd.R_new' ho0 (Kd.R_lt (by (with_reducible repeat (first | apply Kd.R_alloc | apply Kd.R_drewN | apply Kd.R_drew)); exact HO111.out))) (Kd.R_lt (by (with_reducible repeat (first | apply Kd.R_alloc | apply Kd.R_drewN | apply Kd.R_drew)); exact HO114.out))) (below_size (by repeat (first | (with_reducible first | exact HB.out | apply below_alloc | apply pw_below_drewN | apply below_drew1) | exact HB.out)))); have n5_ := Aside0.mk (below_step (by repeat (first | (with_reducible first | exact HB.out | apply below_alloc | apply pw_below_drewN | apply below_drew1) | exact HB.out)) hb); clear HO105; clear HO108; clear HO111; clear HO114; clear HB; have HO105 := n0_; have HO108 := n1_; have HO111 := n2_; have HO114 := n3_; have HO118 := n4_; have HB := n5_; clear n0_ n1_ n2_ n3_ n4_ n5_; (try clear hb); (try clear hb2); (try clear hk); (try clear hi); (try clear ho0); (try (obtain ⟨Ao19, co19, eo19⟩ := Kd.R_slice HO118.out; subst eo19))) | (go_at_call 11; (refine (rename_Pairs.calls _ _ ([] : List (S33)) _ _ y106 0 t119 _ ?side1 ?side2 ?side3 ?side4 A6.out).mono ?_); (case side1 => exact Kd.C_nil _ _); (case side2 => exact Nat.le_refl _); (case side3 => repeat (first | exact (Kd.R_reads' HO108.out).2.2 | (with_reducible refine Kd.C_alloc ?_ _) | (with_reducible refine Kd.C_drewN ?_ _) | (with_reducible refine Kd.C_drew ?_))); (case side4 => exact (Kd.R_reads' HO108.out).2.1); rintro e w20 ⟨v120, rfl, ho0, hb⟩; have n0_ := Aside0.mk (Kd.R_below (by (with_reducible repeat (first | apply Kd.R_alloc | apply Kd.R_drewN | apply Kd.R_drew)); exact HO105.out) hb); have n1_ := Aside0.mk (Kd.R_below (by (with_reducible repeat (first | apply Kd.R_alloc | apply Kd.R_drewN | apply Kd.R_drew)); exact HO108.out) hb); have n2_ := Aside0.mk (Kd.R_elder' (by (with_reducible repeat (first | apply Kd.R_alloc | apply Kd.R_drewN | apply Kd.R_drew)); exact HO111.out) (Kd.R_base ho0) hb); have n3_ := Aside0.mk (Kd.R_elder' (by (with_reducible repeat (first | apply Kd.R_alloc | apply Kd.R_drewN | apply Kd.R_drew)); exact HO114.out) (Kd.R_base ho0) hb); have n4_ := Aside0.mk (Kd.R_elder' (by (with_reducible repeat (first | apply Kd.R_alloc | apply Kd.R_drewN | apply Kd.R_drew)); exact HO118.out) (Kd.R_base ho0) hb); have n5_ := Aside0.mk (Kd.R_lower (Kd.R_new' (Kd.R_new' (Kd.R_new' ho0 (Kd.R_lt (by (with_reducible repeat (first | apply Kd.R_alloc | apply Kd.R_drewN | apply Kd.R_drew)); exact HO111.out))) (Kd.R_lt (by (with_reducible repeat (first | apply Kd.R_alloc | apply Kd.R_drewN | apply Kd.R_drew)); exact HO114.out))) (Kd.R_lt (by (with_reducible repeat (first | apply Kd.R_alloc | apply Kd.R_drewN | apply Kd.R_drew)); exact HO118.out))) (below_size (by repeat (first | (with_reducible first | exact HB.out | apply below_alloc | apply pw_below_drewN | apply below_drew1) | exact HB.out)))); have n6_ := Aside0.mk (below_step (by repeat (first | (with_reducible first | exact HB.out | apply below_alloc | apply pw_below_drewN | apply below_drew1) | exact HB.out)) hb); clear HO105; clear HO108; clear HO111; clear HO114; clear HO118; clear HB; have HO105 := n0_; have HO108 := n1_; have HO111 := n2_; have HO114 := n3_; have HO118 := n4_; have HO121 := n5_; have HB := n6_; clear n0_ n1_ n2_ n3_ n4_ n5_ n6_; (try clear hb); (try clear hb2); (try clear hk); (try clear hi); (try clear ho0); (try (obtain ⟨Ao21, co21, eo21⟩ := Kd.R_slice HO121.out; subst eo21))))
   go_ret
   exact ⟨by first | rfl | (simp [errW_none, errW_some] <;> rfl) | (simp [*, errW_none, errW_some] <;> rfl), by repeat (first | (with_reducible first | exact HB.out | apply below_alloc | apply pw_below_drewN | apply below_drew1) | exact HB.out)⟩
  ·rw [if_neg c5] at H
   have c5b0 : ((t116.length : Int) == 0) = false := beq_eq_false_iff_ne.mpr c5
   have c5b1 : ((t116.length : Int) != 0) = true := bne_iff_ne.mpr c5
   have c5b2 : ¬ (t116 = []) := fun h_ => c5 (by rw [h_]; rfl)
   obtain rfl := Option.some.inj H
   go_enter Try.func7, Try.ntmps7
   go_wp2_with (first | ((with_reducible refine gate_dst (N := 5) rfl ?_); (try (refine gate_guard (by rfl) ?_; dsimp only)); refine Kd.R_lit k33 _ 33 ?hg (N := 5) ?hd (xs := ([(⟨(⟨#[97]⟩ : ByteArray), 2, (⟨#[120, 10, 121, 10]⟩ : ByteArray), false⟩ : S33), (⟨(⟨#[98]⟩ : ByteArray), 2, (⟨#[120, 10]⟩ : ByteArray), false⟩ : S33)] : List (S33))) (inner := [.string (⟨#[97]⟩ : ByteArray), .int .i64 2, .string (⟨#[120, 10, 121, 10]⟩ : ByteArray), .bool false, .string (⟨#[98]⟩ : ByteArray), .int .i64 2, .string (⟨#[120, 10]⟩ : ByteArray), .bool false]) (ok := fun _ => True) (okp := fun _ => True) ?hr ?hp (fun _ hk => hk) trivial (Below.refl _ _) (Nat.le_refl _) (by simp) ?_; (case hd => rfl); (case hg => rfl); (case hr => first | (go_simp; done) | (go_simp; rfl)); (case hp => exact (Reps.c4 (show Kd.M k33 _ _ _ (⟨(⟨#[97]⟩ : ByteArray), 2, (⟨#[120, 10, 121, 10]⟩ : ByteArray), false⟩ : S33) [.string (⟨#[97]⟩ : ByteArray), .int .i64 2, .string (⟨#[120, 10, 121, 10]⟩ : ByteArray), .bool false] from (k33_mkM _ _ _ (⟨(⟨#[97]⟩ : ByteArray), 2, (⟨#[120, 10, 121, 10]⟩ : ByteArray), false⟩ : S33) )) (Reps.c4 (show Kd.M k33 _ _ _ (⟨(⟨#[98]⟩ : ByteArray), 2, (⟨#[120, 10]⟩ : ByteArray), false⟩ : S33) [.string (⟨#[98]⟩ : ByteArray), .int .i64 2, .string (⟨#[120, 10]⟩ : ByteArray), .bool false] from (k33_mkM _ _ _ (⟨(⟨#[98]⟩ : ByteArray), 2, (⟨#[120, 10]⟩ : ByteArray), false⟩ : S33) )) (Reps.none _ _)))); intro v104 w22 ho23 hb hg_ hnew_; clear hg_ hnew_; (first | rw [← Ny103.out] at ho23 | (simp only [Int.reduceToNat] at ho23; rw [← Ny103.out] at ho23)); have n0_ := Aside0.mk (Kd.R_lower ho23 (below_size (by repeat (first | (with_reducible first | exact HB.out | apply below_alloc | apply pw_below_drewN | apply below_drew1) | exact HB.out)))); have n1_ := Aside0.mk (below_step (by repeat (first | (with_reducible first | exact HB.out | apply below_alloc | apply pw_below_drewN | apply below_drew1) | exact HB.out)) hb); clear HB; have HO105 := n0_; have HB := n1_; clear n0_ n1_; clear hb ho23) | ((with_reducible refine gate_dst (N := 7) rfl ?_); (try (refine gate_guard (by rfl) ?_; dsimp only)); refine Kd.R_lit k33 _ 33 ?hg (N := 7) ?hd (xs := ([(⟨(⟨#[99]⟩ : ByteArray), 2, (⟨#[120, 10, 121, 10]⟩ : ByteArray), false⟩ : S33)] : List (S33))) (inner := [.string (⟨#[99]⟩ : ByteArray), .int .i64 2, .string (⟨#[120, 10, 121, 10]⟩ : ByteArray), .bool false]) (ok := fun _ => True) (okp := fun _ => True) ?hr ?hp (fun _ hk => hk) trivial (Below.refl _ _) (Nat.le_refl _) (by simp) ?_; (case hd => rfl); (case hg => rfl); (case hr => first | (go_simp; done) | (go_simp; rfl)); (case hp => exact (Reps.c4 (show Kd.M k33 _ _ _ (⟨(⟨#[99]⟩ : ByteArray), 2, (⟨#[120, 10, 121, 10]⟩ : ByteArray), false⟩ : S33) [.string (⟨#[99]⟩ : ByteArray), .int .i64 2, .string (⟨#[120, 10, 121, 10]⟩ : ByteArray), .bool false] from (k33_mkM _ _ _ (⟨(⟨#[99]⟩ : ByteArray), 2, (⟨#[120, 10, 121, 10]⟩ : ByteArray), false⟩ : S33) )) (Reps.none _ _))); intro v107 w24 ho25 hb hg_ hnew_; clear hg_ hnew_; (first | rw [← Ny106.out] at ho25 | (simp only [Int.reduceToNat] at ho25; rw [← Ny106.out] at ho25)); have n0_ := Aside0.mk (Kd.R_elder' (by (with_reducible repeat (first | apply Kd.R_alloc | apply Kd.R_drewN | apply Kd.R_drew)); exact HO105.out) (Kd.R_base ho25) hb); have n1_ := Aside0.mk (Kd.R_lower (Kd.R_new' ho25 (Kd.R_lt (by (with_reducible repeat (first | apply Kd.R_alloc | apply Kd.R_drewN | apply Kd.R_drew)); exact HO105.out))) (below_size (by repeat (first | (with_reducible first | exact HB.out | apply below_alloc | apply pw_below_drewN | apply below_drew1) | exact HB.out)))); have n2_ := Aside0.mk (below_step (by repeat (first | (with_reducible first | exact HB.out | apply below_alloc | apply pw_below_drewN | apply below_drew1) | exact HB.out)) hb); clear HO105; clear HB; have HO105 := n0_; have HO108 := n1_; have HB := n2_; clear n0_ n1_ n2_; clear hb ho25; (try (obtain ⟨Ao26, co26, eo26⟩ := Kd.R_slice HO105.out; subst eo26)); (try (obtain ⟨Ao27, co27, eo27⟩ := Kd.R_slice HO108.out; subst eo27))) | ((with_reducible refine gate_callee (f := 11) rfl ?_); refine goesL_ _ rfl rfl Try.func11 (by kernel_rfl) rfl #[.slice Ao26 y103.length co26, .slice Ao27 y106.length co27, .int .i64 50] rfl (by (try simp only [List.map_toArray, List.map_cons, List.map_nil]); first | done | rfl | (simp only [List.length_drop, List.length_take]; rfl)) ?_; (with_reducible refine (rename_Pairs.calls _ _ y103 _ _ y106 50 t109 _ ?side1 ?side2 ?side3 ?side4 A1.out).mono ?_); (case side1 => repeat (first | exact (Kd.R_reads' HO105.out).2.2 | (with_reducible refine Kd.C_alloc ?_ _) | (with_reducible refine Kd.C_drewN ?_ _) | (with_reducible refine Kd.C_drew ?_))); (case side2 => exact (Kd.R_reads' HO105.out).2.1); (case side3 => repeat (first | exact (Kd.R_reads' HO108.out).2.2 | (with_reducible refine Kd.C_alloc ?_ _) | (with_reducible refine Kd.C_drewN ?_ _) | (with_reducible refine Kd.C_drew ?_))); (case side4 => exact (Kd.R_reads' HO108.out).2.1); rintro e w28 ⟨v110, rfl, ho0, hb⟩; refine ⟨_, rfl, ?_⟩; have n0_ := Aside0.mk (Kd.R_below (by (with_reducible repeat (first | apply Kd.R_alloc | apply Kd.R_drewN | apply Kd.R_drew)); exact HO105.out) hb); have n1_ := Aside0.mk (Kd.R_below (by (with_reducible repeat (first | apply Kd.R_alloc | apply Kd.R_drewN | apply Kd.R_drew)); exact HO108.out) hb); have n2_ := Aside0.mk (Kd.R_lower ho0 (below_size (by repeat (first | (with_reducible first | exact HB.out | apply below_alloc | apply pw_below_drewN | apply below_drew1) | exact HB.out)))); have n3_ := Aside0.mk (below_step (by repeat (first | (with_reducible first | exact HB.out | apply below_alloc | apply pw_below_drewN | apply below_drew1) | exact HB.out)) hb); clear HO105; clear HO108; clear HB; have HO105 := n0_; have HO108 := n1_; have HO111 := n2_; have HB := n3_; clear n0_ n1_ n2_ n3_; (try clear hb); (try clear hb2); (try clear hk); (try clear hi); (try clear ho0)) | ((with_reducible refine gate_dst (N := 12) rfl ?_); (try (refine gate_guard (by rfl) ?_; dsimp only)); refine Kd.R_lit k35 _ 35 ?hg (N := 12) ?hd (xs := ([(⟨(⟨#[97]⟩ : ByteArray), (⟨#[99]⟩ : ByteArray), 100⟩ : S35)] : List (S35))) (inner := [.string (⟨#[97]⟩ : ByteArray), .string (⟨#[99]⟩ : ByteArray), .int .i64 100]) (ok := fun _ => True) (okp := fun _ => True) ?hr ?hp (fun _ hk => hk) trivial (Below.refl _ _) (Nat.le_refl _) (by simp) ?_; (case hd => rfl); (case hg => rfl); (case hr => first | (go_simp; done) | (go_simp; rfl)); (case hp => exact (Reps.c3 (show Kd.M k35 _ _ _ (⟨(⟨#[97]⟩ : ByteArray), (⟨#[99]⟩ : ByteArray), 100⟩ : S35) [.string (⟨#[97]⟩ : ByteArray), .string (⟨#[99]⟩ : ByteArray), .int .i64 100] from (k35_mkM _ _ _ (⟨(⟨#[97]⟩ : ByteArray), (⟨#[99]⟩ : ByteArray), 100⟩ : S35) )) (Reps.none _ _))); intro v113 w29 ho30 hb hg_ hnew_; clear hg_ hnew_; (first | rw [← Ny112.out] at ho30 | (simp only [Int.reduceToNat] at ho30; rw [← Ny112.out] at ho30)); have n0_ := Aside0.mk (Kd.R_below (by (with_reducible repeat (first | apply Kd.R_alloc | apply Kd.R_drewN | apply Kd.R_drew)); exact HO105.out) hb); have n1_ := Aside0.mk (Kd.R_below (by (with_reducible repeat (first | apply Kd.R_alloc | apply Kd.R_drewN | apply Kd.R_drew)); exact HO108.out) hb); have n2_ := Aside0.mk (Kd.R_elder' (by (with_reducible repeat (first | apply Kd.R_alloc | apply Kd.R_drewN | apply Kd.R_drew)); exact HO111.out) (Kd.R_base ho30) hb); have n3_ := Aside0.mk (Kd.R_lower (Kd.R_new' ho30 (Kd.R_lt (by (with_reducible repeat (first | apply Kd.R_alloc | apply Kd.R_drewN | apply Kd.R_drew)); exact HO111.out))) (below_size (by repeat (first | (with_reducible first | exact HB.out | apply below_alloc | apply pw_below_drewN | apply below_drew1) | exact HB.out)))); have n4_ := Aside0.mk (below_step (by repeat (first | (with_reducible first | exact HB.out | apply below_alloc | apply pw_below_drewN | apply below_drew1) | exact HB.out)) hb); clear HO105; clear HO108; clear HO111; clear HB; have HO105 := n0_; have HO108 := n1_; have HO111 := n2_; have HO114 := n3_; have HB := n4_; clear n0_ n1_ n2_ n3_ n4_; clear hb ho30; (try (obtain ⟨Ao31, co31, eo31⟩ := Kd.R_slice HO111.out; subst eo31)); (try (obtain ⟨Ao32, co32, eo32⟩ := Kd.R_slice HO114.out; subst eo32))) | ((with_reducible refine gate_callee (f := 10) rfl ?_); refine goesL_ _ rfl rfl Try.func10 (by kernel_rfl) rfl #[.slice Ao31 t109.length co31, .slice Ao32 y112.length co32] rfl (by (try simp only [List.map_toArray, List.map_cons, List.map_nil]); first | done | rfl | (simp only [List.length_drop, List.length_take]; rfl)) ?_; (with_reducible refine (collatorref08_Same.calls k _ _ t109 _ _ y112 true _ ?side1 ?side2 ?side3 ?side4 A2.out).mono ?_); (case side1 => repeat (first | exact (Kd.R_reads' HO111.out).2.2 | (with_reducible refine Kd.C_alloc ?_ _) | (with_reducible refine Kd.C_drewN ?_ _) | (with_reducible refine Kd.C_drew ?_))); (case side2 => exact (Kd.R_reads' HO111.out).2.1); (case side3 => repeat (first | exact (Kd.R_reads' HO114.out).2.2 | (with_reducible refine Kd.C_alloc ?_ _) | (with_reducible refine Kd.C_drewN ?_ _) | (with_reducible refine Kd.C_drew ?_))); (case side4 => exact (Kd.R_reads' HO114.out).2.1); rintro e w' ⟨rfl, ⟨nd, rfl⟩⟩; refine ⟨_, rfl, ?_⟩) | (go_at_call 11; (with_reducible refine (rename_Pairs.calls _ _ y103 _ _ y106 101 t116 _ ?side1 ?side2 ?side3 ?side4 A4.out).mono ?_); (case side1 => repeat (first | exact (Kd.R_reads' HO105.out).2.2 | (with_reducible refine Kd.C_alloc ?_ _) | (with_reducible refine Kd.C_drewN ?_ _) | (with_reducible refine Kd.C_drew ?_))); (case side2 => exact (Kd.R_reads' HO105.out).2.1); (case side3 => repeat (first | exact (Kd.R_reads' HO108.out).2.2 | (with_reducible refine Kd.C_alloc ?_ _) | (with_reducible refine Kd.C_drewN ?_ _) | (with_reducible refine Kd.C_drew ?_))); (case side4 => exact (Kd.R_reads' HO108.out).2.1); rintro e w33 ⟨v117, rfl, ho0, hb⟩; have n0_ := Aside0.mk (Kd.R_below (by (with_reducible repeat (first | apply Kd.R_alloc | apply Kd.R_drewN | apply Kd.R_drew)); exact HO105.out) hb); have n1_ := Aside0.mk (Kd.R_below (by (with_reducible repeat (first | apply Kd.R_alloc | apply Kd.R_drewN | apply Kd.R_drew)); exact HO108.out) hb); have n2_ := Aside0.mk (Kd.R_elder' (by (with_reducible repeat (first | apply Kd.R_alloc | apply Kd.R_drewN | apply Kd.R_drew)); exact HO111.out) (Kd.R_base ho0) hb); have n3_ := Aside0.mk (Kd.R_elder' (by (with_reducible repeat (first | apply Kd.R_alloc | apply Kd.R_drewN | apply Kd.R_drew)); exact HO114.out) (Kd.R_base ho0) hb); have n4_ := Aside0.mk (Kd.R_lower (Kd.R_new' (Kd.R_new' ho0 (Kd.R_lt (by (with_reducible repeat (first | apply Kd.R_alloc | apply Kd.R_drewN | apply Kd.R_drew)); exact HO111.out))) (Kd.R_lt (by (with_reducible repeat (first | apply Kd.R_alloc | apply Kd.R_drewN | apply Kd.R_drew)); exact HO114.out))) (below_size (by repeat (first | (with_reducible first | exact HB.out | apply below_alloc | apply pw_below_drewN | apply below_drew1) | exact HB.out)))); have n5_ := Aside0.mk (below_step (by repeat (first | (with_reducible first | exact HB.out | apply below_alloc | apply pw_below_drewN | apply below_drew1) | exact HB.out)) hb); clear HO105; clear HO108; clear HO111; clear HO114; clear HB; have HO105 := n0_; have HO108 := n1_; have HO111 := n2_; have HO114 := n3_; have HO118 := n4_; have HB := n5_; clear n0_ n1_ n2_ n3_ n4_ n5_; (try clear hb); (try clear hb2); (try clear hk); (try clear hi); (try clear ho0); (try (obtain ⟨Ao34, co34, eo34⟩ := Kd.R_slice HO118.out; subst eo34))))
   go_ret
   exact ⟨by first | rfl | (simp [errW_none, errW_some] <;> rfl) | (simp [*, errW_none, errW_some] <;> rfl), by repeat (first | (with_reducible first | exact HB.out | apply below_alloc | apply pw_below_drewN | apply below_drew1) | exact HB.out)⟩
 ·replace c3 := Bool.eq_false_iff.mpr c3
  subst c3
  have H1 : (some false) = some r := by rw [if_neg (show ¬ (false = true) by decide)] at H; exact H
  clear H
  have H := H1
  clear H1
  obtain rfl := Option.some.inj H
  go_enter Try.func7, Try.ntmps7
  go_wp2_with (first | ((with_reducible refine gate_dst (N := 5) rfl ?_); (try (refine gate_guard (by rfl) ?_; dsimp only)); refine Kd.R_lit k33 _ 33 ?hg (N := 5) ?hd (xs := ([(⟨(⟨#[97]⟩ : ByteArray), 2, (⟨#[120, 10, 121, 10]⟩ : ByteArray), false⟩ : S33), (⟨(⟨#[98]⟩ : ByteArray), 2, (⟨#[120, 10]⟩ : ByteArray), false⟩ : S33)] : List (S33))) (inner := [.string (⟨#[97]⟩ : ByteArray), .int .i64 2, .string (⟨#[120, 10, 121, 10]⟩ : ByteArray), .bool false, .string (⟨#[98]⟩ : ByteArray), .int .i64 2, .string (⟨#[120, 10]⟩ : ByteArray), .bool false]) (ok := fun _ => True) (okp := fun _ => True) ?hr ?hp (fun _ hk => hk) trivial (Below.refl _ _) (Nat.le_refl _) (by simp) ?_; (case hd => rfl); (case hg => rfl); (case hr => first | (go_simp; done) | (go_simp; rfl)); (case hp => exact (Reps.c4 (show Kd.M k33 _ _ _ (⟨(⟨#[97]⟩ : ByteArray), 2, (⟨#[120, 10, 121, 10]⟩ : ByteArray), false⟩ : S33) [.string (⟨#[97]⟩ : ByteArray), .int .i64 2, .string (⟨#[120, 10, 121, 10]⟩ : ByteArray), .bool false] from (k33_mkM _ _ _ (⟨(⟨#[97]⟩ : ByteArray), 2, (⟨#[120, 10, 121, 10]⟩ : ByteArray), false⟩ : S33) )) (Reps.c4 (show Kd.M k33 _ _ _ (⟨(⟨#[98]⟩ : ByteArray), 2, (⟨#[120, 10]⟩ : ByteArray), false⟩ : S33) [.string (⟨#[98]⟩ : ByteArray), .int .i64 2, .string (⟨#[120, 10]⟩ : ByteArray), .bool false] from (k33_mkM _ _ _ (⟨(⟨#[98]⟩ : ByteArray), 2, (⟨#[120, 10]⟩ : ByteArray), false⟩ : S33) )) (Reps.none _ _)))); intro v104 w35 ho36 hb hg_ hnew_; clear hg_ hnew_; (first | rw [← Ny103.out] at ho36 | (simp only [Int.reduceToNat] at ho36; rw [← Ny103.out] at ho36)); have n0_ := Aside0.mk (Kd.R_lower ho36 (below_size (by repeat (first | (with_reducible first | exact HB.out | apply below_alloc | apply pw_below_drewN | apply below_drew1) | exact HB.out)))); have n1_ := Aside0.mk (below_step (by repeat (first | (with_reducible first | exact HB.out | apply below_alloc | apply pw_below_drewN | apply below_drew1) | exact HB.out)) hb); clear HB; have HO105 := n0_; have HB := n1_; clear n0_ n1_; clear hb ho36) | ((with_reducible refine gate_dst (N := 7) rfl ?_); (try (refine gate_guard (by rfl) ?_; dsimp only)); refine Kd.R_lit k33 _ 33 ?hg (N := 7) ?hd (xs := ([(⟨(⟨#[99]⟩ : ByteArray), 2, (⟨#[120, 10, 121, 10]⟩ : ByteArray), false⟩ : S33)] : List (S33))) (inner := [.string (⟨#[99]⟩ : ByteArray), .int .i64 2, .string (⟨#[120, 10, 121, 10]⟩ : ByteArray), .bool false]) (ok := fun _ => True) (okp := fun _ => True) ?hr ?hp (fun _ hk => hk) trivial (Below.refl _ _) (Nat.le_refl _) (by simp) ?_; (case hd => rfl); (case hg => rfl); (case hr => first | (go_simp; done) | (go_simp; rfl)); (case hp => exact (Reps.c4 (show Kd.M k33 _ _ _ (⟨(⟨#[99]⟩ : ByteArray), 2, (⟨#[120, 10, 121, 10]⟩ : ByteArray), false⟩ : S33) [.string (⟨#[99]⟩ : ByteArray), .int .i64 2, .string (⟨#[120, 10, 121, 10]⟩ : ByteArray), .bool false] from (k33_mkM _ _ _ (⟨(⟨#[99]⟩ : ByteArray), 2, (⟨#[120, 10, 121, 10]⟩ : ByteArray), false⟩ : S33) )) (Reps.none _ _))); intro v107 w37 ho38 hb hg_ hnew_; clear hg_ hnew_; (first | rw [← Ny106.out] at ho38 | (simp only [Int.reduceToNat] at ho38; rw [← Ny106.out] at ho38)); have n0_ := Aside0.mk (Kd.R_elder' (by (with_reducible repeat (first | apply Kd.R_alloc | apply Kd.R_drewN | apply Kd.R_drew)); exact HO105.out) (Kd.R_base ho38) hb); have n1_ := Aside0.mk (Kd.R_lower (Kd.R_new' ho38 (Kd.R_lt (by (with_reducible repeat (first | apply Kd.R_alloc | apply Kd.R_drewN | apply Kd.R_drew)); exact HO105.out))) (below_size (by repeat (first | (with_reducible first | exact HB.out | apply below_alloc | apply pw_below_drewN | apply below_drew1) | exact HB.out)))); have n2_ := Aside0.mk (below_step (by repeat (first | (with_reducible first | exact HB.out | apply below_alloc | apply pw_below_drewN | apply below_drew1) | exact HB.out)) hb); clear HO105; clear HB; have HO105 := n0_; have HO108 := n1_; have HB := n2_; clear n0_ n1_ n2_; clear hb ho38; (try (obtain ⟨Ao39, co39, eo39⟩ := Kd.R_slice HO105.out; subst eo39)); (try (obtain ⟨Ao40, co40, eo40⟩ := Kd.R_slice HO108.out; subst eo40))) | ((with_reducible refine gate_callee (f := 11) rfl ?_); refine goesL_ _ rfl rfl Try.func11 (by kernel_rfl) rfl #[.slice Ao39 y103.length co39, .slice Ao40 y106.length co40, .int .i64 50] rfl (by (try simp only [List.map_toArray, List.map_cons, List.map_nil]); first | done | rfl | (simp only [List.length_drop, List.length_take]; rfl)) ?_; (with_reducible refine (rename_Pairs.calls _ _ y103 _ _ y106 50 t109 _ ?side1 ?side2 ?side3 ?side4 A1.out).mono ?_); (case side1 => repeat (first | exact (Kd.R_reads' HO105.out).2.2 | (with_reducible refine Kd.C_alloc ?_ _) | (with_reducible refine Kd.C_drewN ?_ _) | (with_reducible refine Kd.C_drew ?_))); (case side2 => exact (Kd.R_reads' HO105.out).2.1); (case side3 => repeat (first | exact (Kd.R_reads' HO108.out).2.2 | (with_reducible refine Kd.C_alloc ?_ _) | (with_reducible refine Kd.C_drewN ?_ _) | (with_reducible refine Kd.C_drew ?_))); (case side4 => exact (Kd.R_reads' HO108.out).2.1); rintro e w41 ⟨v110, rfl, ho0, hb⟩; refine ⟨_, rfl, ?_⟩; have n0_ := Aside0.mk (Kd.R_below (by (with_reducible repeat (first | apply Kd.R_alloc | apply Kd.R_drewN | apply Kd.R_drew)); exact HO105.out) hb); have n1_ := Aside0.mk (Kd.R_below (by (with_reducible repeat (first | apply Kd.R_alloc | apply Kd.R_drewN | apply Kd.R_drew)); exact HO108.out) hb); have n2_ := Aside0.mk (Kd.R_lower ho0 (below_size (by repeat (first | (with_reducible first | exact HB.out | apply below_alloc | apply pw_below_drewN | apply below_drew1) | exact HB.out)))); have n3_ := Aside0.mk (below_step (by repeat (first | (with_reducible first | exact HB.out | apply below_alloc | apply pw_below_drewN | apply below_drew1) | exact HB.out)) hb); clear HO105; clear HO108; clear HB; have HO105 := n0_; have HO108 := n1_; have HO111 := n2_; have HB := n3_; clear n0_ n1_ n2_ n3_; (try clear hb); (try clear hb2); (try clear hk); (try clear hi); (try clear ho0)) | ((with_reducible refine gate_dst (N := 12) rfl ?_); (try (refine gate_guard (by rfl) ?_; dsimp only)); refine Kd.R_lit k35 _ 35 ?hg (N := 12) ?hd (xs := ([(⟨(⟨#[97]⟩ : ByteArray), (⟨#[99]⟩ : ByteArray), 100⟩ : S35)] : List (S35))) (inner := [.string (⟨#[97]⟩ : ByteArray), .string (⟨#[99]⟩ : ByteArray), .int .i64 100]) (ok := fun _ => True) (okp := fun _ => True) ?hr ?hp (fun _ hk => hk) trivial (Below.refl _ _) (Nat.le_refl _) (by simp) ?_; (case hd => rfl); (case hg => rfl); (case hr => first | (go_simp; done) | (go_simp; rfl)); (case hp => exact (Reps.c3 (show Kd.M k35 _ _ _ (⟨(⟨#[97]⟩ : ByteArray), (⟨#[99]⟩ : ByteArray), 100⟩ : S35) [.string (⟨#[97]⟩ : ByteArray), .string (⟨#[99]⟩ : ByteArray), .int .i64 100] from (k35_mkM _ _ _ (⟨(⟨#[97]⟩ : ByteArray), (⟨#[99]⟩ : ByteArray), 100⟩ : S35) )) (Reps.none _ _))); intro v113 w42 ho43 hb hg_ hnew_; clear hg_ hnew_; (first | rw [← Ny112.out] at ho43 | (simp only [Int.reduceToNat] at ho43; rw [← Ny112.out] at ho43)); have n0_ := Aside0.mk (Kd.R_below (by (with_reducible repeat (first | apply Kd.R_alloc | apply Kd.R_drewN | apply Kd.R_drew)); exact HO105.out) hb); have n1_ := Aside0.mk (Kd.R_below (by (with_reducible repeat (first | apply Kd.R_alloc | apply Kd.R_drewN | apply Kd.R_drew)); exact HO108.out) hb); have n2_ := Aside0.mk (Kd.R_elder' (by (with_reducible repeat (first | apply Kd.R_alloc | apply Kd.R_drewN | apply Kd.R_drew)); exact HO111.out) (Kd.R_base ho43) hb); have n3_ := Aside0.mk (Kd.R_lower (Kd.R_new' ho43 (Kd.R_lt (by (with_reducible repeat (first | apply Kd.R_alloc | apply Kd.R_drewN | apply Kd.R_drew)); exact HO111.out))) (below_size (by repeat (first | (with_reducible first | exact HB.out | apply below_alloc | apply pw_below_drewN | apply below_drew1) | exact HB.out)))); have n4_ := Aside0.mk (below_step (by repeat (first | (with_reducible first | exact HB.out | apply below_alloc | apply pw_below_drewN | apply below_drew1) | exact HB.out)) hb); clear HO105; clear HO108; clear HO111; clear HB; have HO105 := n0_; have HO108 := n1_; have HO111 := n2_; have HO114 := n3_; have HB := n4_; clear n0_ n1_ n2_ n3_ n4_; clear hb ho43; (try (obtain ⟨Ao44, co44, eo44⟩ := Kd.R_slice HO111.out; subst eo44)); (try (obtain ⟨Ao45, co45, eo45⟩ := Kd.R_slice HO114.out; subst eo45))) | ((with_reducible refine gate_callee (f := 10) rfl ?_); refine goesL_ _ rfl rfl Try.func10 (by kernel_rfl) rfl #[.slice Ao44 t109.length co44, .slice Ao45 y112.length co45] rfl (by (try simp only [List.map_toArray, List.map_cons, List.map_nil]); first | done | rfl | (simp only [List.length_drop, List.length_take]; rfl)) ?_; (with_reducible refine (collatorref08_Same.calls k _ _ t109 _ _ y112 false _ ?side1 ?side2 ?side3 ?side4 A2.out).mono ?_); (case side1 => repeat (first | exact (Kd.R_reads' HO111.out).2.2 | (with_reducible refine Kd.C_alloc ?_ _) | (with_reducible refine Kd.C_drewN ?_ _) | (with_reducible refine Kd.C_drew ?_))); (case side2 => exact (Kd.R_reads' HO111.out).2.1); (case side3 => repeat (first | exact (Kd.R_reads' HO114.out).2.2 | (with_reducible refine Kd.C_alloc ?_ _) | (with_reducible refine Kd.C_drewN ?_ _) | (with_reducible refine Kd.C_drew ?_))); (case side4 => exact (Kd.R_reads' HO114.out).2.1); rintro e w' ⟨rfl, ⟨nd, rfl⟩⟩; refine ⟨_, rfl, ?_⟩))
  go_ret
  exact ⟨by first | rfl | (simp [errW_none, errW_some] <;> rfl) | (simp [*, errW_none, errW_some] <;> rfl), by repeat (first | (with_reducible first | exact HB.out | apply below_alloc | apply pw_below_drewN | apply below_drew1) | exact HB.out)⟩

end Go.Proofs.Ytcgnkbdfoaiaiaa.P
end
section
/- Laid for this claim by hp.py, this session's program round the kit's print: functions of the program as plain Lean functions, the proofs that the code comes to their answers, and the rows of the laws. Not trusted: Lean checks it. -/
namespace Go.Proofs.Ytcgnkbdfoaiaiaa.P
open Go.RowKit Go.Proofs.YtcgnkbdfoaiaiaaW.PrintWords Go.Proofs.YtcgnkbdfoaiaiaaW.PrintLast Go.Proofs.YtcgnkbdfoaiaiaaW.PrintMore
attribute [local go_sem] max2_int min2_int max_two min_two max_three min_three max_four min_four   -- for this text's walks alone
set_option linter.unusedVariables false
set_option linter.unusedSimpArgs false

/-! ### collatorlaw08_pick: function 9 -/
def collatorlaw08_pick.f (a0 : Int) (a1 : Int) : Option (Int) := if a0 < 0 then (if a1 = 0 then (none) else (some (Int.tmod (wrap64 (-(wrap64 (a0 + 1)))) a1))) else (if a1 = 0 then (none) else (some (Int.tmod a0 a1)))
set_option maxHeartbeats 8000000 in
set_option maxRecDepth 100000 in
theorem collatorlaw08_pick.calls (a0 : Int) (a1 : Int) (r : Int) (w : World) (h : collatorlaw08_pick.f a0 a1 = some r) :
  Calls Try.prog 9 #[.int .i64 a0, .int .i64 a1] w fun e w' => e = .returned (.int .i64 r) ∧ Drawn0 w w' := by
 have H : (if a0 < 0 then (if a1 = 0 then (none) else (some (Int.tmod (wrap64 (-(wrap64 (a0 + 1)))) a1))) else (if a1 = 0 then (none) else (some (Int.tmod a0 a1)))) = some r := h
 clear h
 by_cases c3 : a0 < 0
 ·rw [if_pos c3] at H
  have c3b0 : decide (a0 < 0) = true := decide_eq_true c3
  clear c3
  by_cases c4 : a1 = 0
  ·rw [if_pos c4] at H
   exact absurd H (by simp)
  ·rw [if_neg c4] at H
   have c4b0 : (a1 == 0) = false := beq_eq_false_iff_ne.mpr c4
   have c4b1 : (a1 != 0) = true := bne_iff_ne.mpr c4
   obtain rfl := Option.some.inj H
   go_enter Try.func9, Try.ntmps9
   go_wp2
   go_ret
   exact ⟨by first | rfl | (simp; done) | (simp [*]; done), by repeat (first | exact Drawn0.refl _ | apply Drawn0.step)⟩
 ·rw [if_neg c3] at H
  have c3b0 : decide (a0 < 0) = false := decide_eq_false c3
  clear c3
  by_cases c5 : a1 = 0
  ·rw [if_pos c5] at H
   exact absurd H (by simp)
  ·rw [if_neg c5] at H
   have c5b0 : (a1 == 0) = false := beq_eq_false_iff_ne.mpr c5
   have c5b1 : (a1 != 0) = true := bne_iff_ne.mpr c5
   obtain rfl := Option.some.inj H
   go_enter Try.func9, Try.ntmps9
   go_wp2
   go_ret
   exact ⟨by first | rfl | (simp; done) | (simp [*]; done), by repeat (first | exact Drawn0.refl _ | apply Drawn0.step)⟩

end Go.Proofs.Ytcgnkbdfoaiaiaa.P
end
section
/- Laid for this claim by hp.py, this session's program round the kit's print: functions of the program as plain Lean functions, the proofs that the code comes to their answers, and the rows of the laws. Not trusted: Lean checks it. -/
namespace Go.Proofs.Ytcgnkbdfoaiaiaa.P
open Go.RowKit Go.Proofs.YtcgnkbdfoaiaiaaW.PrintWords Go.Proofs.YtcgnkbdfoaiaiaaW.PrintLast Go.Proofs.YtcgnkbdfoaiaiaaW.PrintMore
attribute [local go_sem] max2_int min2_int max_two min_two max_three min_three max_four min_four   -- for this text's walks alone
set_option linter.unusedVariables false
set_option linter.unusedSimpArgs false

/-! ### collatorref01_split: function 43 -/
def collatorref01_split.l0 : Nat → ByteArray → List ByteArray → Int → Int → Option (List ByteArray)
 | 0, _, _, _, _ => none
 | k + 1, x0, x3, x4, x5 => if x5 < (x0.size : Int) then (if 0 ≤ x5 then (if (bt x0 x5) = 47 then (if 0 ≤ x4 then (if x4 ≤ x5 then (if x5 ≤ (x0.size : Int) then (if x3.length < 8796093022208 then (collatorref01_split.l0 k x0 (x3 ++ [x0.extract (x4 : Int).toNat (x5 : Int).toNat]) (wrap64 (x5 + 1)) (wrap64 (x5 + 1))) else (none)) else (none)) else (none)) else (none)) else (collatorref01_split.l0 k x0 x3 x4 (wrap64 (x5 + 1)))) else (none)) else (if 0 ≤ x4 then (if x4 ≤ (x0.size : Int) then (if x3.length < 8796093022208 then (some (x3 ++ [x0.extract (x4 : Int).toNat x0.size])) else (none)) else (none)) else (none))
def collatorref01_split.f (k : Nat) (a0 : ByteArray) : Option (List ByteArray) := collatorref01_split.l0 k a0 ([] : List ByteArray) 0 0
theorem collatorref01_split.mono_l : ∀ k, (∀ y0 y1 y2 y3, LeO (collatorref01_split.l0 k y0 y1 y2 y3) (collatorref01_split.l0 (k + 1) y0 y1 y2 y3))
 | 0 => fun _ _ _ _ r h => by simp [collatorref01_split.l0] at h
 | k + 1 => by
  have ih0 := collatorref01_split.mono_l k
  ·intro y0 y1 y2 y3
   unfold collatorref01_split.l0
   repeat' first
   | (with_reducible exact ih0 _ _ _ _)
   | (with_reducible exact LeO.refl _)
   | (with_reducible exact LeO.none _)
   | (with_reducible refine LeO.ite ?_ ?_)
   | (with_reducible refine LeO.bind ?_ (fun _ => ?_))
   | exact ih0 _ _ _ _
   | exact LeO.none _
   | refine LeO.ite ?_ ?_
   | refine LeO.bind ?_ (fun _ => ?_)
theorem collatorref01_split.mono : ∀ a0 k, LeO (collatorref01_split.f k a0) (collatorref01_split.f (k + 1) a0) := by
 intro a0 k
 have ih0 := collatorref01_split.mono_l k
 unfold collatorref01_split.f
 repeat' first
   | (with_reducible exact ih0 _ _ _ _)
   | (with_reducible exact LeO.refl _)
   | (with_reducible exact LeO.none _)
   | (with_reducible refine LeO.ite ?_ ?_)
   | (with_reducible refine LeO.bind ?_ (fun _ => ?_))
   | exact ih0 _ _ _ _
   | exact LeO.none _
   | refine LeO.ite ?_ ?_
   | refine LeO.bind ?_ (fun _ => ?_)
set_option maxHeartbeats 8000000 in
set_option maxRecDepth 100000 in
theorem collatorref01_split.calls (k : Nat) (a0 : ByteArray) (r : List ByteArray) (w : World) (h : collatorref01_split.f k a0 = some r) :
  Calls Try.prog 43 #[.string a0] w fun e w' => ∃ v0_ : Value, e = .returned (v0_) ∧ Kd.R Kd.string 9 w' w.heap.size (fun _ => True) v0_ r ∧ Below w.heap.size w w' := by
 have HB := Aside0.mk (Below.refl w.heap.size w)
 have H : (collatorref01_split.l0 k a0 ([] : List ByteArray) 0 0) = some r := h
 clear h
 have H' := Aside0.mk H
 clear H
 go_enter Try.func43, Try.ntmps43
 go_wp2
 go_loopg [3, 4, 5] k (fun kq v3 v4 v5 w' => ∃ (x3_1 : List ByteArray) (x4_1 : Int) (x5_1 : Int), v4 = .int .i64 x4_1 ∧ v5 = .int .i64 x5_1 ∧ Aside0 (collatorref01_split.l0 kq a0 x3_1 x4_1 x5_1 = some r) ∧ Aside0 (kq ≤ k) ∧ Aside0 (Kd.R Kd.string 9 w' w.heap.size (fun _ => True) v3 x3_1) ∧ Aside0 (Below w.heap.size w w'))
 case atStart => exact ⟨(([] : List ByteArray)), (0), (0), (by first | rfl | (simp; done) | (simp [*]; done)), (by first | rfl | (simp; done) | (simp [*]; done)), H', ⟨Nat.le_refl _⟩, ⟨by first | exact Kd.R_nil _ _ _ _ _ | exact Kd.N_nil _ _ _ _ _ | exact Kd.V_nil _ _ _ _ _ | exact Kd.Q_nil _ _ _ _ _ | exact Kd.S_nil _ _ _ _ _⟩, ⟨by repeat (first | (with_reducible first | exact HB.out | apply below_alloc | apply pw_below_drewN | apply below_drew1) | exact HB.out)⟩⟩
 case round =>
  clear H'
  obtain ⟨x3_1, x4_1, x5_1, rfl, rfl, HA, HK1, HO_3, HB⟩ := hrel
  cases gk with
  | zero => exact absurd HA.out (by simp [collatorref01_split.l0])
  | succ k1 =>
   have H := HA.out
   clear HA
   simp only [collatorref01_split.l0] at H
   by_cases c2 : x5_1 < (a0.size : Int)
   ·rw [if_pos c2] at H
    have c2b0 : decide (x5_1 < (a0.size : Int)) = true := decide_eq_true c2
    clear c2
    by_cases c3 : 0 ≤ x5_1
    ·rw [if_pos c3] at H
     have c3b0 : decide (0 ≤ x5_1) = true := decide_eq_true c3
     clear c3
     by_cases c5 : (bt a0 x5_1) = 47
     ·rw [if_pos c5] at H
      have c5b0 : ((bt a0 x5_1) == 47) = true := beq_iff_eq.mpr c5
      have c5b1 : ((bt a0 x5_1) != 47) = false := bne_eq_false_iff_eq.mpr c5
      clear c5
      by_cases c6 : 0 ≤ x4_1
      ·rw [if_pos c6] at H
       have c6b0 := eq_true c6
       have c6b1 : decide (0 ≤ x4_1) = true := decide_eq_true c6
       clear c6
       by_cases c7 : x4_1 ≤ x5_1
       ·rw [if_pos c7] at H
        have c7b0 := eq_true c7
        have c7b1 : decide (x4_1 ≤ x5_1) = true := decide_eq_true c7
        clear c7
        by_cases c8 : x5_1 ≤ (a0.size : Int)
        ·rw [if_pos c8] at H
         have c8b0 := eq_true c8
         have c8b1 : decide (x5_1 ≤ (a0.size : Int)) = true := decide_eq_true c8
         clear c8
         by_cases c9 : x3_1.length < 8796093022208
         ·rw [if_pos c9] at H
          have LMc9 := Aside0.mk c9
          clear c9
          obtain ⟨y182, hy182⟩ : ∃ y_ : List ByteArray, y_ = (x3_1 ++ [a0.extract (x4_1 : Int).toNat (x5_1 : Int).toNat]) := ⟨_, rfl⟩
          replace H : (collatorref01_split.l0 k1 a0 y182 (wrap64 (x5_1 + 1)) (wrap64 (x5_1 + 1))) = some r := by first | (rw [hy182]; with_reducible exact H) | (have H2_ := (Option.bind_some _ _).symm.trans H; rw [hy182]; with_reducible exact H2_) | (have H2_ := (Option.bind_some _ _).symm.trans H; with_reducible exact H2_) | with_reducible exact H | (rw [hy182]; exact H) | exact H
          have Ny182 := Aside0.mk hy182
          clear hy182
          have H' := Aside0.mk H
          clear H
          have p4 : 0 ≤ (x5_1 : Int) := of_decide_eq_true (by first | (with_reducible assumption) | assumption)
          have q4 : x5_1 < (a0.size : Int) := of_decide_eq_true (by first | (with_reducible assumption) | assumption)
          have hx4 := bt_at a0 x5_1
          replace p4 := eq_true p4
          replace q4 := eq_true q4
          go_wp2_with (first | ((with_reducible refine gate_builtin (b := .append) (xs := #[.tmp 16, .tmp 21]) rfl ?_); at_builtin; refine Kd.R_append Kd.string (w0 := w) w.heap.size rfl (.tmp 16) (.tmp 21) 44 9 (.string ⟨#[]⟩) 16 rfl Try.underlying44 info9 rfl (by decide) (by omega) u3 x3_1 (a0.extract (x4_1 : Int).toNat (x5_1 : Int).toNat) [.string (a0.extract (x4_1 : Int).toNat (x5_1 : Int).toNat)] (fun _ => True) (fun _ => False) rfl rfl ?aP (fun _ hk => hk.elim) ?aF ?aO ?aB ?aS ?aL ?_; (case aP => exact rfl); (case aB => exact (by repeat (first | (with_reducible first | exact HB.out | apply below_alloc | apply pw_below_drewN | apply below_drew1) | exact HB.out))); (case aF => exact (fun _ _ => trivial)); (case aO => exact (by (with_reducible repeat (first | apply Kd.R_alloc | apply Kd.R_drewN | apply Kd.R_drew)); exact HO_3.out)); (case aS => exact (below_size (by repeat (first | (with_reducible first | exact HB.out | apply below_alloc | apply pw_below_drewN | apply below_drew1) | exact HB.out)))); (case aL => have := LMc9.out; omega); intro v183 w10 ho hb hg hat; rw [← Ny182.out] at ho; have n0_ := Aside0.mk (hb); have n1_ := Aside0.mk (ho); clear HB; clear HO_3; have HB := n0_; have HO184 := n1_; clear n0_ n1_; clear ho hb hg hat))
          go_roundg k1
          case measure => have := HK1.out; omega
          case rel => exact ⟨(y182), (wrap64 (x5_1 + 1)), (wrap64 (x5_1 + 1)), (by first | rfl | (simp; done) | (simp [*]; done)), (by first | rfl | (simp; done) | (simp [*]; done)), H', ⟨by have := HK1.out; omega⟩, ⟨by (with_reducible repeat (first | apply Kd.R_alloc | apply Kd.R_drewN | apply Kd.R_drew)); exact HO184.out⟩, ⟨by repeat (first | (with_reducible first | exact HB.out | apply below_alloc | apply pw_below_drewN | apply below_drew1) | exact HB.out)⟩⟩
         ·rw [if_neg c9] at H
          exact absurd H (by simp)
        ·rw [if_neg c8] at H
         exact absurd H (by simp)
       ·rw [if_neg c7] at H
        exact absurd H (by simp)
      ·rw [if_neg c6] at H
       exact absurd H (by simp)
     ·rw [if_neg c5] at H
      have c5b0 : ((bt a0 x5_1) == 47) = false := beq_eq_false_iff_ne.mpr c5
      have c5b1 : ((bt a0 x5_1) != 47) = true := bne_iff_ne.mpr c5
      have H' := Aside0.mk H
      clear H
      have p4 : 0 ≤ (x5_1 : Int) := of_decide_eq_true (by first | (with_reducible assumption) | assumption)
      have q4 : x5_1 < (a0.size : Int) := of_decide_eq_true (by first | (with_reducible assumption) | assumption)
      have hx4 := bt_at a0 x5_1
      replace p4 := eq_true p4
      replace q4 := eq_true q4
      go_wp2
      go_roundg k1
      case measure => have := HK1.out; omega
      case rel => exact ⟨(x3_1), (x4_1), (wrap64 (x5_1 + 1)), (by first | rfl | (simp; done) | (simp [*]; done)), (by first | rfl | (simp; done) | (simp [*]; done)), H', ⟨by have := HK1.out; omega⟩, ⟨by (with_reducible repeat (first | apply Kd.R_alloc | apply Kd.R_drewN | apply Kd.R_drew)); exact HO_3.out⟩, ⟨by repeat (first | (with_reducible first | exact HB.out | apply below_alloc | apply pw_below_drewN | apply below_drew1) | exact HB.out)⟩⟩
    ·rw [if_neg c3] at H
     exact absurd H (by simp)
   ·rw [if_neg c2] at H
    have c2b0 : decide (x5_1 < (a0.size : Int)) = false := decide_eq_false c2
    clear c2
    by_cases c11 : 0 ≤ x4_1
    ·rw [if_pos c11] at H
     have c11b0 := eq_true c11
     have c11b1 : decide (0 ≤ x4_1) = true := decide_eq_true c11
     clear c11
     by_cases c12 : x4_1 ≤ (a0.size : Int)
     ·rw [if_pos c12] at H
      have c12b0 := eq_true c12
      have c12b1 : decide (x4_1 ≤ (a0.size : Int)) = true := decide_eq_true c12
      clear c12
      by_cases c13 : x3_1.length < 8796093022208
      ·rw [if_pos c13] at H
       have LMc13 := Aside0.mk c13
       clear c13
       obtain ⟨y185, hy185⟩ : ∃ y_ : List ByteArray, y_ = (x3_1 ++ [a0.extract (x4_1 : Int).toNat a0.size]) := ⟨_, rfl⟩
       replace H : (some y185) = some r := by first | (rw [hy185]; with_reducible exact H) | (have H2_ := (Option.bind_some _ _).symm.trans H; rw [hy185]; with_reducible exact H2_) | (have H2_ := (Option.bind_some _ _).symm.trans H; with_reducible exact H2_) | with_reducible exact H | (rw [hy185]; exact H) | exact H
       have Ny185 := Aside0.mk hy185
       clear hy185
       obtain rfl := Option.some.inj H
       go_wp2_with (first | ((with_reducible refine gate_builtin (b := .append) (xs := #[.tmp 25, .tmp 29]) rfl ?_); at_builtin; refine Kd.R_append Kd.string (w0 := w) w.heap.size rfl (.tmp 25) (.tmp 29) 44 9 (.string ⟨#[]⟩) 16 rfl Try.underlying44 info9 rfl (by decide) (by omega) u3 x3_1 (a0.extract (x4_1 : Int).toNat a0.size) [.string (a0.extract (x4_1 : Int).toNat a0.size)] (fun _ => True) (fun _ => False) rfl rfl ?aP (fun _ hk => hk.elim) ?aF ?aO ?aB ?aS ?aL ?_; (case aP => exact rfl); (case aB => exact (by repeat (first | (with_reducible first | exact HB.out | apply below_alloc | apply pw_below_drewN | apply below_drew1) | exact HB.out))); (case aF => exact (fun _ _ => trivial)); (case aO => exact (by (with_reducible repeat (first | apply Kd.R_alloc | apply Kd.R_drewN | apply Kd.R_drew)); exact HO_3.out)); (case aS => exact (below_size (by repeat (first | (with_reducible first | exact HB.out | apply below_alloc | apply pw_below_drewN | apply below_drew1) | exact HB.out)))); (case aL => have := LMc13.out; omega); intro v186 w14 ho hb hg hat; rw [← Ny185.out] at ho; have n0_ := Aside0.mk (hb); have n1_ := Aside0.mk (ho); clear HB; clear HO_3; have HB := n0_; have HO187 := n1_; clear n0_ n1_; clear ho hb hg hat))
       go_ret
       exact ⟨_, by first | rfl | (simp [errW_none, errW_some] <;> rfl) | (simp [*, errW_none, errW_some] <;> rfl), by (with_reducible repeat (first | apply Kd.R_alloc | apply Kd.R_drewN | apply Kd.R_drew)); exact HO187.out, by repeat (first | (with_reducible first | exact HB.out | apply below_alloc | apply pw_below_drewN | apply below_drew1) | exact HB.out)⟩
      ·rw [if_neg c13] at H
       exact absurd H (by simp)
     ·rw [if_neg c12] at H
      exact absurd H (by simp)
    ·rw [if_neg c11] at H
     exact absurd H (by simp)

end Go.Proofs.Ytcgnkbdfoaiaiaa.P
end
section
/- Laid for this claim by hp.py, this session's program round the kit's print: functions of the program as plain Lean functions, the proofs that the code comes to their answers, and the rows of the laws. Not trusted: Lean checks it. -/
namespace Go.Proofs.Ytcgnkbdfoaiaiaa.P
open Go.RowKit Go.Proofs.YtcgnkbdfoaiaiaaW.PrintWords Go.Proofs.YtcgnkbdfoaiaiaaW.PrintLast Go.Proofs.YtcgnkbdfoaiaiaaW.PrintMore
attribute [local go_sem] max2_int min2_int max_two min_two max_three min_three max_four min_four   -- for this text's walks alone
set_option linter.unusedVariables false
set_option linter.unusedSimpArgs false

/-! ### collatorref01_may: function 52 -/
mutual
def collatorref01_may.j0 : Nat → ByteArray → Bool → Option (Bool)
 | 0, _, _ => none
 | k + 1, x0, x18 => if x18 = true then (some false) else (collatorref01_may.l0 k x0 0)
def collatorref01_may.l0 : Nat → ByteArray → Int → Option (Bool)
 | 0, _, _ => none
 | k + 1, x0, x3 => if x3 < (x0.size : Int) then (if 0 ≤ x3 then (if (bt x0 x3) = 0 then (some false) else (collatorref01_may.l0 k x0 (wrap64 (x3 + 1)))) else (none)) else (some true)
end
def collatorref01_may.f (k : Nat) (a0 : ByteArray) : Option (Bool) := if a0.toList = ([] : List UInt8) then (collatorref01_may.j0 k a0 true) else (if a0.toList = ([46] : List UInt8) then (collatorref01_may.j0 k a0 true) else (if a0.toList = ([46, 46] : List UInt8) then (collatorref01_may.j0 k a0 true) else (collatorref01_may.j0 k a0 (decide ((a0.size : Int) > 64)))))
theorem collatorref01_may.mono_l : ∀ k, (∀ y0 y1, LeO (collatorref01_may.j0 k y0 y1) (collatorref01_may.j0 (k + 1) y0 y1)) ∧ (∀ y0 y1, LeO (collatorref01_may.l0 k y0 y1) (collatorref01_may.l0 (k + 1) y0 y1))
 | 0 => ⟨fun _ _ r h => by simp [collatorref01_may.j0] at h, fun _ _ r h => by simp [collatorref01_may.l0] at h⟩
 | k + 1 => by
  obtain ⟨ih0, ih1⟩ := collatorref01_may.mono_l k
  refine ⟨?_, ?_⟩
  ·intro y0 y1
   unfold collatorref01_may.j0
   repeat' first
   | (with_reducible exact ih0 _ _)
   | (with_reducible exact ih1 _ _)
   | (with_reducible exact LeO.refl _)
   | (with_reducible exact LeO.none _)
   | (with_reducible refine LeO.ite ?_ ?_)
   | (with_reducible refine LeO.bind ?_ (fun _ => ?_))
   | exact ih0 _ _
   | exact ih1 _ _
   | exact LeO.none _
   | refine LeO.ite ?_ ?_
   | refine LeO.bind ?_ (fun _ => ?_)
  ·intro y0 y1
   unfold collatorref01_may.l0
   repeat' first
   | (with_reducible exact ih0 _ _)
   | (with_reducible exact ih1 _ _)
   | (with_reducible exact LeO.refl _)
   | (with_reducible exact LeO.none _)
   | (with_reducible refine LeO.ite ?_ ?_)
   | (with_reducible refine LeO.bind ?_ (fun _ => ?_))
   | exact ih0 _ _
   | exact ih1 _ _
   | exact LeO.none _
   | refine LeO.ite ?_ ?_
   | refine LeO.bind ?_ (fun _ => ?_)
theorem collatorref01_may.mono : ∀ a0 k, LeO (collatorref01_may.f k a0) (collatorref01_may.f (k + 1) a0) := by
 intro a0 k
 obtain ⟨ih0, ih1⟩ := collatorref01_may.mono_l k
 unfold collatorref01_may.f
 repeat' first
   | (with_reducible exact ih0 _ _)
   | (with_reducible exact ih1 _ _)
   | (with_reducible exact LeO.refl _)
   | (with_reducible exact LeO.none _)
   | (with_reducible refine LeO.ite ?_ ?_)
   | (with_reducible refine LeO.bind ?_ (fun _ => ?_))
   | exact ih0 _ _
   | exact ih1 _ _
   | exact LeO.none _
   | refine LeO.ite ?_ ?_
   | refine LeO.bind ?_ (fun _ => ?_)
set_option maxHeartbeats 8000000 in
set_option maxRecDepth 100000 in
theorem collatorref01_may.calls (k : Nat) (a0 : ByteArray) (r : Bool) (w : World) (h : collatorref01_may.f k a0 = some r) :
  Calls Try.prog 52 #[.string a0] w fun e w' => e = .returned (.bool r) ∧ Drawn0 w w' := by
 have H : (if a0.toList = ([] : List UInt8) then (collatorref01_may.j0 k a0 true) else (if a0.toList = ([46] : List UInt8) then (collatorref01_may.j0 k a0 true) else (if a0.toList = ([46, 46] : List UInt8) then (collatorref01_may.j0 k a0 true) else (collatorref01_may.j0 k a0 (decide ((a0.size : Int) > 64)))))) = some r := h
 clear h
 have HC2 := Aside0.mk H
 clear H
 go_enter Try.func52, Try.ntmps52
 go_upto_region 1 with (fail)
 go_cut [18] (fun v18 wc => ∃ (kq : Nat) (x18_1 : Bool), v18 = .bool x18_1 ∧ Aside0 (collatorref01_may.j0 kq a0 x18_1 = some r) ∧ Aside0 (kq ≤ k) ∧ Drawn0 w wc)
 case first =>
  have H := HC2.out
  clear HC2
  by_cases c3 : a0.toList = ([] : List UInt8)
  ·rw [if_pos c3] at H
   have c3b0 : (a0.toList == ([] : List UInt8)) = true := beq_iff_eq.mpr c3
   have c3b1 : (a0.toList != ([] : List UInt8)) = false := bne_eq_false_iff_eq.mpr c3
   clear c3
   (first | rw [c3b0] | rw [c3b1] | (simp only [i64_w, i32_w]; rw [c3b0]) | skip)
   have H' := Aside0.mk H
   clear H
   go_wp2
   go_meet
   case rel => exact ⟨_, (true), (by first | rfl | (simp; done) | (simp [bne]; done) | (simp [*]; done)), H', ⟨by first | omega | exact Nat.le_refl _⟩, by repeat (first | exact Drawn0.refl _ | apply Drawn0.step)⟩
  ·rw [if_neg c3] at H
   have c3b0 : (a0.toList == ([] : List UInt8)) = false := beq_eq_false_iff_ne.mpr c3
   have c3b1 : (a0.toList != ([] : List UInt8)) = true := bne_iff_ne.mpr c3
   (first | rw [c3b0] | rw [c3b1] | (simp only [i64_w, i32_w]; rw [c3b0]) | skip)
   by_cases c4 : a0.toList = ([46] : List UInt8)
   ·rw [if_pos c4] at H
    have c4b0 : (a0.toList == ([46] : List UInt8)) = true := beq_iff_eq.mpr c4
    have c4b1 : (a0.toList != ([46] : List UInt8)) = false := bne_eq_false_iff_eq.mpr c4
    clear c4
    have H' := Aside0.mk H
    clear H
    go_wp2
    go_meet
    case rel => exact ⟨_, (true), (by first | rfl | (simp; done) | (simp [bne]; done) | (simp [*]; done)), H', ⟨by first | omega | exact Nat.le_refl _⟩, by repeat (first | exact Drawn0.refl _ | apply Drawn0.step)⟩
   ·rw [if_neg c4] at H
    have c4b0 : (a0.toList == ([46] : List UInt8)) = false := beq_eq_false_iff_ne.mpr c4
    have c4b1 : (a0.toList != ([46] : List UInt8)) = true := bne_iff_ne.mpr c4
    by_cases c5 : a0.toList = ([46, 46] : List UInt8)
    ·rw [if_pos c5] at H
     have c5b0 : (a0.toList == ([46, 46] : List UInt8)) = true := beq_iff_eq.mpr c5
     have c5b1 : (a0.toList != ([46, 46] : List UInt8)) = false := bne_eq_false_iff_eq.mpr c5
     clear c5
     have H' := Aside0.mk H
     clear H
     go_wp2
     go_meet
     case rel => exact ⟨_, (true), (by first | rfl | (simp; done) | (simp [bne]; done) | (simp [*]; done)), H', ⟨by first | omega | exact Nat.le_refl _⟩, by repeat (first | exact Drawn0.refl _ | apply Drawn0.step)⟩
    ·rw [if_neg c5] at H
     have c5b0 : (a0.toList == ([46, 46] : List UInt8)) = false := beq_eq_false_iff_ne.mpr c5
     have c5b1 : (a0.toList != ([46, 46] : List UInt8)) = true := bne_iff_ne.mpr c5
     have H' := Aside0.mk H
     clear H
     go_wp2
     go_meet
     case rel => exact ⟨_, (decide ((a0.size : Int) > 64)), (by first | rfl | (simp; done) | (simp [bne]; done) | (simp [*]; done)), H', ⟨by first | omega | exact Nat.le_refl _⟩, by repeat (first | exact Drawn0.refl _ | apply Drawn0.step)⟩
 case rest =>
  clear HC2
  (try clear p2);(try clear c3);(try clear c3b0);(try clear c3b1);(try clear c4);(try clear c4b0);(try clear c4b1);(try clear c5);(try clear c5b0);(try clear c5b1)
  obtain ⟨kq, x18_1, rfl, HA, HJ1, ⟨mc1, rfl⟩⟩ := hcut
  cases kq with
  | zero => exact absurd HA.out (by simp [collatorref01_may.j0])
  | succ kj1 =>
   have H := HA.out
   clear HA
   simp only [collatorref01_may.j0] at H
   by_cases c6 : x18_1 = true
   ·subst c6
    have H1 : (some false) = some r := by rw [if_pos rfl] at H; exact H
    clear H
    have H := H1
    clear H1
    obtain rfl := Option.some.inj H
    go_wp2
    go_ret
    exact ⟨by first | rfl | (simp; done) | (simp [bne]; done) | (simp [*]; done), by repeat (first | exact Drawn0.refl _ | apply Drawn0.step)⟩
   ·replace c6 := Bool.eq_false_iff.mpr c6
    subst c6
    have H1 : (collatorref01_may.l0 kj1 a0 0) = some r := by rw [if_neg (show ¬ (false = true) by decide)] at H; exact H
    clear H
    have H := H1
    clear H1
    have H' := Aside0.mk H
    clear H
    go_wp2
    go_loopg [3] kj1 (fun kq v3 w' => ∃ (x3_2 : Int), v3 = .int .i64 x3_2 ∧ Aside0 (collatorref01_may.l0 kq a0 x3_2 = some r) ∧ Aside0 (kq ≤ kj1) ∧ Drawn0 w w')
    case atStart => exact ⟨(0), (by first | rfl | (simp; done) | (simp [bne]; done) | (simp [*]; done)), H', ⟨Nat.le_refl _⟩, by repeat (first | exact Drawn0.refl _ | apply Drawn0.step)⟩
    case round =>
     clear H'
     (try clear c1);(try clear p2);(try clear c3);(try clear c3b0);(try clear c3b1);(try clear c4);(try clear c4b0);(try clear c4b1);(try clear c5);(try clear c5b0);(try clear c5b1);(try clear c6);(try clear p2)
     obtain ⟨x3_2, rfl, HA, HK2, ⟨m2, rfl⟩⟩ := hrel
     cases gk with
     | zero => exact absurd HA.out (by simp [collatorref01_may.l0])
     | succ k2 =>
      have H := HA.out
      clear HA
      simp only [collatorref01_may.l0] at H
      by_cases c7 : x3_2 < (a0.size : Int)
      ·rw [if_pos c7] at H
       have c7b0 : decide (x3_2 < (a0.size : Int)) = true := decide_eq_true c7
       clear c7
       by_cases c8 : 0 ≤ x3_2
       ·rw [if_pos c8] at H
        have c8b0 : decide (0 ≤ x3_2) = true := decide_eq_true c8
        clear c8
        by_cases c10 : (bt a0 x3_2) = 0
        ·rw [if_pos c10] at H
         have c10b0 : ((bt a0 x3_2) == 0) = true := beq_iff_eq.mpr c10
         have c10b1 : ((bt a0 x3_2) != 0) = false := bne_eq_false_iff_eq.mpr c10
         clear c10
         obtain rfl := Option.some.inj H
         have p9 : 0 ≤ (x3_2 : Int) := of_decide_eq_true (by first | (with_reducible assumption) | assumption)
         have q9 : x3_2 < (a0.size : Int) := of_decide_eq_true (by first | (with_reducible assumption) | assumption)
         have hx9 := bt_at a0 x3_2
         replace p9 := eq_true p9
         replace q9 := eq_true q9
         go_wp2
         go_ret
         exact ⟨by first | rfl | (simp; done) | (simp [bne]; done) | (simp [*]; done), by repeat (first | exact Drawn0.refl _ | apply Drawn0.step)⟩
        ·rw [if_neg c10] at H
         have c10b0 : ((bt a0 x3_2) == 0) = false := beq_eq_false_iff_ne.mpr c10
         have c10b1 : ((bt a0 x3_2) != 0) = true := bne_iff_ne.mpr c10
         have H' := Aside0.mk H
         clear H
         have p9 : 0 ≤ (x3_2 : Int) := of_decide_eq_true (by first | (with_reducible assumption) | assumption)
         have q9 : x3_2 < (a0.size : Int) := of_decide_eq_true (by first | (with_reducible assumption) | assumption)
         have hx9 := bt_at a0 x3_2
         replace p9 := eq_true p9
         replace q9 := eq_true q9
         go_wp2
         go_roundg k2
         case measure => have := HJ1.out; have := HK2.out; omega
         case rel => exact ⟨(wrap64 (x3_2 + 1)), (by first | rfl | (simp; done) | (simp [bne]; done) | (simp [*]; done)), H', ⟨by have := HJ1.out; have := HK2.out; omega⟩, by repeat (first | exact Drawn0.refl _ | apply Drawn0.step)⟩
       ·rw [if_neg c8] at H
        exact absurd H (by simp)
      ·rw [if_neg c7] at H
       have c7b0 : decide (x3_2 < (a0.size : Int)) = false := decide_eq_false c7
       clear c7
       obtain rfl := Option.some.inj H
       go_wp2
       go_ret
       exact ⟨by first | rfl | (simp; done) | (simp [bne]; done) | (simp [*]; done), by repeat (first | exact Drawn0.refl _ | apply Drawn0.step)⟩

end Go.Proofs.Ytcgnkbdfoaiaiaa.P
end
section
/- Laid for this claim by hp.py, this session's program round the kit's print: functions of the program as plain Lean functions, the proofs that the code comes to their answers, and the rows of the laws. Not trusted: Lean checks it. -/
namespace Go.Proofs.Ytcgnkbdfoaiaiaa.P
open Go.RowKit Go.Proofs.YtcgnkbdfoaiaiaaW.PrintWords Go.Proofs.YtcgnkbdfoaiaiaaW.PrintLast Go.Proofs.YtcgnkbdfoaiaiaaW.PrintMore
attribute [local go_sem] max2_int min2_int max_two min_two max_three min_three max_four min_four   -- for this text's walks alone
set_option linter.unusedVariables false
set_option linter.unusedSimpArgs false

/-! ### collatorref01_Check: function 42 -/
def collatorref01_Check.l0 : Nat → List ByteArray → Int → Option (Int)
 | 0, _, _ => none
 | k + 1, x3, x4 => if x4 < (x3.length : Int) then (if 0 ≤ x4 then ((collatorref01_may.f k (rdOf ByteArray.empty x3 x4)).bind fun t277 => (if t277 = true then (collatorref01_Check.l0 k x3 (wrap64 (x4 + 1))) else (some 2))) else (none)) else (if (x3.length : Int) > 16 then (some 3) else (some 0))
def collatorref01_Check.f (k : Nat) (a0 : ByteArray) : Option (Int) := (collatorref01_split.f k a0).bind fun t273 => (collatorref01_Check.l0 k t273 0)
theorem collatorref01_Check.mono_l : ∀ k, (∀ y0 y1, LeO (collatorref01_Check.l0 k y0 y1) (collatorref01_Check.l0 (k + 1) y0 y1))
 | 0 => fun _ _ r h => by simp [collatorref01_Check.l0] at h
 | k + 1 => by
  have ih0 := collatorref01_Check.mono_l k
  ·intro y0 y1
   unfold collatorref01_Check.l0
   repeat' first
   | (with_reducible exact ih0 _ _)
   | (with_reducible exact collatorref01_may.mono _ _)
   | (with_reducible exact collatorref01_split.mono _ _)
   | (with_reducible exact LeO.refl _)
   | (with_reducible exact LeO.none _)
   | (with_reducible refine LeO.ite ?_ ?_)
   | (with_reducible refine LeO.bind ?_ (fun _ => ?_))
   | exact ih0 _ _
   | exact collatorref01_may.mono _ _
   | exact collatorref01_split.mono _ _
   | exact LeO.none _
   | refine LeO.ite ?_ ?_
   | refine LeO.bind ?_ (fun _ => ?_)
theorem collatorref01_Check.mono : ∀ a0 k, LeO (collatorref01_Check.f k a0) (collatorref01_Check.f (k + 1) a0) := by
 intro a0 k
 have ih0 := collatorref01_Check.mono_l k
 unfold collatorref01_Check.f
 repeat' first
   | (with_reducible exact ih0 _ _)
   | (with_reducible exact collatorref01_may.mono _ _)
   | (with_reducible exact collatorref01_split.mono _ _)
   | (with_reducible exact LeO.refl _)
   | (with_reducible exact LeO.none _)
   | (with_reducible refine LeO.ite ?_ ?_)
   | (with_reducible refine LeO.bind ?_ (fun _ => ?_))
   | exact ih0 _ _
   | exact collatorref01_may.mono _ _
   | exact collatorref01_split.mono _ _
   | exact LeO.none _
   | refine LeO.ite ?_ ?_
   | refine LeO.bind ?_ (fun _ => ?_)
set_option maxHeartbeats 8000000 in
set_option maxRecDepth 100000 in
theorem collatorref01_Check.calls (k : Nat) (a0 : ByteArray) (r : Int) (w : World) (h : collatorref01_Check.f k a0 = some r) :
  Calls Try.prog 42 #[.string a0] w fun e w' => e = .returned (.int .i64 r) ∧ Below w.heap.size w w' := by
 have HB := Aside0.mk (Below.refl w.heap.size w)
 have H : ((collatorref01_split.f k a0).bind fun t273 => (collatorref01_Check.l0 k t273 0)) = some r := h
 clear h
 replace H := Option.bind_eq_some_iff.mp H
 obtain ⟨t273, A20, H⟩ := H
 replace H : (collatorref01_Check.l0 k t273 0) = some r := H
 have A2 := Aside0.mk A20
 clear A20
 have H' := Aside0.mk H
 clear H
 go_enter Try.func42, Try.ntmps42
 go_wp2_with (first | ((with_reducible refine gate_callee (f := 43) rfl ?_); refine goesL_ _ rfl rfl Try.func43 (by kernel_rfl) rfl #[.string a0] rfl (by (try simp only [List.map_toArray, List.map_cons, List.map_nil]); first | done | rfl | (simp only [List.length_drop, List.length_take]; rfl)) ?_; (with_reducible refine (collatorref01_split.calls k a0 t273 _ A2.out).mono ?_); rintro e w3 ⟨v274, rfl, ho0, hb⟩; refine ⟨_, rfl, ?_⟩; have n0_ := Aside0.mk (Kd.R_lower ho0 (below_size (by repeat (first | (with_reducible first | exact HB.out | apply below_alloc | apply pw_below_drewN | apply below_drew1) | exact HB.out)))); have n1_ := Aside0.mk (below_step (by repeat (first | (with_reducible first | exact HB.out | apply below_alloc | apply pw_below_drewN | apply below_drew1) | exact HB.out)) hb); clear HB; have HO275 := n0_; have HB := n1_; clear n0_ n1_; (try clear hb); (try clear hb2); (try clear hk); (try clear hi); (try clear ho0)))
 go_loopg [4] k (fun kq v4 w' => ∃ (x4_1 : Int), v4 = .int .i64 x4_1 ∧ Aside0 (collatorref01_Check.l0 kq t273 x4_1 = some r) ∧ Aside0 (kq ≤ k) ∧ Aside0 (Kd.R Kd.string 9 w' w.heap.size (fun _ => True) v274 t273) ∧ Aside0 (Below w.heap.size w w'))
 case atStart => exact ⟨(0), (by first | rfl | (simp; done) | (simp [*]; done)), H', ⟨Nat.le_refl _⟩, ⟨by (with_reducible repeat (first | apply Kd.R_alloc | apply Kd.R_drewN | apply Kd.R_drew)); exact HO275.out⟩, ⟨by repeat (first | (with_reducible first | exact HB.out | apply below_alloc | apply pw_below_drewN | apply below_drew1) | exact HB.out)⟩⟩
 case round =>
  clear H'
  (try clear p2)
  obtain ⟨x4_1, rfl, HA, HK1, HO_3, HB⟩ := hrel
  cases gk with
  | zero => exact absurd HA.out (by simp [collatorref01_Check.l0])
  | succ k1 =>
   have H := HA.out
   clear HA
   simp only [collatorref01_Check.l0] at H
   by_cases c4 : x4_1 < (t273.length : Int)
   ·rw [if_pos c4] at H
    have c4b0 : decide (x4_1 < (t273.length : Int)) = true := decide_eq_true c4
    clear c4
    by_cases c5 : 0 ≤ x4_1
    ·rw [if_pos c5] at H
     have c5b0 : decide (0 ≤ x4_1) = true := decide_eq_true c5
     clear c5
     replace H := Option.bind_eq_some_iff.mp H
     obtain ⟨t277, A60, H⟩ := H
     replace H : (if t277 = true then (collatorref01_Check.l0 k1 t273 (wrap64 (x4_1 + 1))) else (some 2)) = some r := H
     have A6 := Aside0.mk A60
     clear A60
     by_cases c7 : t277 = true
     ·subst c7
      have H1 : (collatorref01_Check.l0 k1 t273 (wrap64 (x4_1 + 1))) = some r := by rw [if_pos rfl] at H; exact H
      clear H
      have H := H1
      clear H1
      have H' := Aside0.mk H
      clear H
      obtain ⟨Ao8, co8, eo8⟩ := Kd.R_slice HO_3.out
      subst eo8
      have p276 : 0 ≤ (x4_1 : Int) := of_decide_eq_true (by first | (with_reducible assumption) | assumption)
      have q276 : x4_1 < (t273.length : Int) := of_decide_eq_true (by first | (with_reducible assumption) | assumption)
      obtain ⟨ad276, e276, hx276_0⟩ := Kd.at_string (Kd.R_reads' HO_3.out).2.2 x4_1 p276 q276
      cases e276
      replace p276 := eq_true p276
      replace q276 := eq_true q276
      go_wp2_with (first | ((with_reducible refine gate_callee (f := 52) rfl ?_); refine goesL_ _ rfl rfl Try.func52 (by kernel_rfl) rfl #[.string (rdOf ByteArray.empty t273 x4_1)] rfl (by (try simp only [List.map_toArray, List.map_cons, List.map_nil]); first | done | rfl | (simp only [List.length_drop, List.length_take]; rfl)) ?_; (with_reducible refine (collatorref01_may.calls k1 (rdOf ByteArray.empty t273 x4_1) true _ A6.out).mono ?_); rintro e w' ⟨rfl, ⟨nd, rfl⟩⟩; refine ⟨_, rfl, ?_⟩))
      go_roundg k1
      case measure => have := HK1.out; omega
      case rel => exact ⟨(wrap64 (x4_1 + 1)), (by first | rfl | (simp; done) | (simp [*]; done)), H', ⟨by have := HK1.out; omega⟩, ⟨by (with_reducible repeat (first | apply Kd.R_alloc | apply Kd.R_drewN | apply Kd.R_drew)); exact HO_3.out⟩, ⟨by repeat (first | (with_reducible first | exact HB.out | apply below_alloc | apply pw_below_drewN | apply below_drew1) | exact HB.out)⟩⟩
     ·replace c7 := Bool.eq_false_iff.mpr c7
      subst c7
      have H1 : (some 2) = some r := by rw [if_neg (show ¬ (false = true) by decide)] at H; exact H
      clear H
      have H := H1
      clear H1
      obtain rfl := Option.some.inj H
      obtain ⟨Ao9, co9, eo9⟩ := Kd.R_slice HO_3.out
      subst eo9
      have p276 : 0 ≤ (x4_1 : Int) := of_decide_eq_true (by first | (with_reducible assumption) | assumption)
      have q276 : x4_1 < (t273.length : Int) := of_decide_eq_true (by first | (with_reducible assumption) | assumption)
      obtain ⟨ad276, e276, hx276_0⟩ := Kd.at_string (Kd.R_reads' HO_3.out).2.2 x4_1 p276 q276
      cases e276
      replace p276 := eq_true p276
      replace q276 := eq_true q276
      go_wp2_with (first | ((with_reducible refine gate_callee (f := 52) rfl ?_); refine goesL_ _ rfl rfl Try.func52 (by kernel_rfl) rfl #[.string (rdOf ByteArray.empty t273 x4_1)] rfl (by (try simp only [List.map_toArray, List.map_cons, List.map_nil]); first | done | rfl | (simp only [List.length_drop, List.length_take]; rfl)) ?_; (with_reducible refine (collatorref01_may.calls k1 (rdOf ByteArray.empty t273 x4_1) false _ A6.out).mono ?_); rintro e w' ⟨rfl, ⟨nd, rfl⟩⟩; refine ⟨_, rfl, ?_⟩))
      go_ret
      exact ⟨by first | rfl | (simp [errW_none, errW_some] <;> rfl) | (simp [*, errW_none, errW_some] <;> rfl), by repeat (first | (with_reducible first | exact HB.out | apply below_alloc | apply pw_below_drewN | apply below_drew1) | exact HB.out)⟩
    ·rw [if_neg c5] at H
     exact absurd H (by simp)
   ·rw [if_neg c4] at H
    have c4b0 : decide (x4_1 < (t273.length : Int)) = false := decide_eq_false c4
    clear c4
    by_cases c10 : (t273.length : Int) > 16
    ·rw [if_pos c10] at H
     have c10b0 : decide (16 < (t273.length : Int)) = true := decide_eq_true c10
     have c10b1 : decide (16 < t273.length) = true := decide_eq_true (by omega)
     clear c10
     obtain rfl := Option.some.inj H
     obtain ⟨Ao11, co11, eo11⟩ := Kd.R_slice HO_3.out
     subst eo11
     go_wp2
     go_ret
     exact ⟨by first | rfl | (simp [errW_none, errW_some] <;> rfl) | (simp [*, errW_none, errW_some] <;> rfl), by repeat (first | (with_reducible first | exact HB.out | apply below_alloc | apply pw_below_drewN | apply below_drew1) | exact HB.out)⟩
    ·rw [if_neg c10] at H
     have c10b0 : decide (16 < (t273.length : Int)) = false := decide_eq_false c10
     have c10b1 : decide (16 < t273.length) = false := decide_eq_false (by omega)
     clear c10
     obtain rfl := Option.some.inj H
     obtain ⟨Ao12, co12, eo12⟩ := Kd.R_slice HO_3.out
     subst eo12
     go_wp2
     go_ret
     exact ⟨by first | rfl | (simp [errW_none, errW_some] <;> rfl) | (simp [*, errW_none, errW_some] <;> rfl), by repeat (first | (with_reducible first | exact HB.out | apply below_alloc | apply pw_below_drewN | apply below_drew1) | exact HB.out)⟩

end Go.Proofs.Ytcgnkbdfoaiaiaa.P
end
