/- Words of this session: a map from texts to numbers (or bools) that a call makes, told by a plain function. -/
import Derived.Maps.OwnSet
import Derived.Maps.OwnOps
import Derived.Maps.Views
import Derived.Below
set_option linter.unusedVariables false
set_option linter.unusedSimpArgs false
namespace Go.Proofs.Ythplelgkneipjaa.HMap
open Go Go.RowKit Go.Maps Go.WideMaps

/-- Block b is a map of at most n entries, from texts to whole numbers, whose value at s is f s (0 where there is none). -/
def Cnt (P : Program) (k e : TypeId) (w : World) (b n : Nat) (f : ByteArray → Int) : Prop :=
  ∃ D : DataW Unit, w.ownsMap P k (plainElem P e) b n D ∧ IsMap D ∧ ∀ s : ByteArray, s.size ≤ maxLen → D.atKey (.string s.data.toList) (.lit (.int .i64 0)) = .lit (.int .i64 (f s))

section
variable {P : Program} {k e t : TypeId} {w w' : World} {b n : Nat} {f : ByteArray → Int}

theorem isKeyLit_string (l : List UInt8) : WideAt.IsKeyLit (.string l) := by trivial

theorem string_lit_ne {s s' : ByteArray} (h : s ≠ s') : (Lit.string s'.data.toList) ≠ (Lit.string s.data.toList) := by
  intro hl
  injection hl with hl
  apply h
  cases s with | mk a => cases s' with | mk a' =>
  congr 1
  exact (Array.toList_inj.1 hl).symm

theorem Cnt.made (w : World) (P : Program) (k e : TypeId) : Cnt P k e (w.alloc (.map #[] 0)) w.heap.size 0 (fun _ => 0) :=
  ⟨.map [], World.ownsMap_made _ _ _ _, isMap_empty, fun s _ => rfl⟩

theorem Cnt.mono {n' : Nat} (h : Cnt P k e w b n f) (hn : n ≤ n') : Cnt P k e w b n' f := by
  obtain ⟨D, h1, h2⟩ := h
  exact ⟨D, h1.mono hn, h2⟩

theorem Cnt.congr {f' : ByteArray → Int} (h : Cnt P k e w b n f) (hf : ∀ s, f s = f' s) : Cnt P k e w b n f' := by
  have : f = f' := funext hf
  rwa [← this]

theorem Cnt.lt (h : Cnt P k e w b n f) : b < w.heap.size := by
  obtain ⟨D, h1, _⟩ := h
  exact h1.lt

theorem Cnt.grown {row : Option Nat} (h : Cnt P k e w b n f) (hg : w.grownBy w' row) (hne : some b ≠ row) : Cnt P k e w' b n f := by
  obtain ⟨D, h1, h2⟩ := h
  exact ⟨D, h1.kept hg hne, h2⟩

theorem Cnt.block (h : Cnt P k e w b n f) (hb : w'.heap[b]? = w.heap[b]?) : Cnt P k e w' b n f := by
  obtain ⟨D, ⟨es, clock, h1, h3⟩, h2⟩ := h
  exact ⟨D, ⟨es, clock, hb.trans h1, h3⟩, h2⟩

theorem Cnt.below (h : Cnt P k e w b n f) (hb : Below w.heap.size w w') : Cnt P k e w' b n f := h.block (hb.block b h.lt)

theorem turned_below {B : Nat} {w0 w w' : World} (hB : Below B w0 w) (h : w.mapTurned w' b) (hb : B ≤ b) : Below B w0 w' := by
  obtain ⟨es, clock, es', clock', h1, rfl⟩ := h
  refine hB.trans ⟨rfl, rfl, rfl, by simp [ChangeMaps.setBlock], fun i hi => ?_⟩
  exact ChangeMaps.heap_setBlock_other h1 _ (by omega)

theorem turned_block {w w' : World} (h : w.mapTurned w' b) {i : Nat} (hi : i ≠ b) : w'.heap[i]? = w.heap[i]? := by
  obtain ⟨es, clock, es', clock', h1, rfl⟩ := h
  exact ChangeMaps.heap_setBlock_other h1 _ hi

theorem grown_block {w w' : World} {row : Option Nat} (h : w.grownBy w' row) {i : Nat} (hl : i < w.heap.size) (hi : some i ≠ row) : w'.heap[i]? = w.heap[i]? := h.block i hl hi

variable {ops : Array Oper} {rest : List Oper} {o : Oper} {a : Act} {Q : Exit → Act → World → Prop}

/-- 'm[s]' at the operation. -/
theorem wp_cnt_lookup (hg : o.guard = none) (m x : Operand) (t : TypeId) (hop : o.op = Op.lookup t m x false)
    (hk : P.underlying k = some .string) (ht : P.underlying t = some (.map k e)) (he : P.underlying e = some (.int .i64)) (hz : (zeroValue e).run P w = .ok (.int .i64 0) w) (b n : Nat) (f : ByteArray → Int)
    (hm : a.eval m = .map (some b)) (h : Cnt P k e w b n f) (s : ByteArray) (hs : s.size ≤ maxLen) (hx : a.eval x = .string s)
    (hK : wpList P ops Q rest (a.put o.dst (.int .i64 (f s))) w) : wpList P ops Q (o :: rest) a w := by
  obtain ⟨D, h1, h2, h3⟩ := h
  refine wpList_lookup_own_int (H := Unit) w hg m x t hop k e .i64 (string_keyed hk) ht he hz b n D hm h1 (.string s) _ hx (keyOf_string_mk hk hs) ?_
  intro c hat hwc
  rw [h3 s hs] at hat
  injection hat with hat
  injection hat with _ hat
  subst hat
  exact hK

/-- 'm[s] = v' at the operation. -/
theorem wp_cnt_update (hg : o.guard = none) (m x v : Operand) (t : TypeId) (hop : o.op = Op.mapUpdate t m x v)
    (hk : P.underlying k = some .string) (ht : P.underlying t = some (.map k e)) (he : P.underlying e = some (.int .i64)) (b n : Nat) (f : ByteArray → Int)
    (hm : a.eval m = .map (some b)) (h : Cnt P k e w b n f) (hn : n < maxLen) (s : ByteArray) (hs : s.size ≤ maxLen) (hx : a.eval x = .string s) (z : Int) (hv : a.eval v = .int .i64 z) (hz : (Lit.int .i64 z).wf = true)
    (hK : ∀ w', Cnt P k e w' b (n + 1) (fun s' => if s' = s then z else f s') → w.grownBy w' (some b) → wpList P ops Q rest (a.put o.dst undef) w') : wpList P ops Q (o :: rest) a w := by
  obtain ⟨D, h1, h2, h3⟩ := h
  refine wpList_mapUpdate_own (H := Unit) w hg m x v t hop k e (string_keyed hk) ht (plainElem P e) b n D hm h1 hn (.string s) (.int .i64 z) _ hx hv (keyOf_string_mk hk hs) _ [] (plainElem_int he hz) ?_
  intro w' hown hgr
  refine hK w' ⟨_, hown, h2.put _ _, fun s' hs' => ?_⟩ hgr
  by_cases heq : s' = s
  · subst heq
    simp only [if_pos]
    exact atKey_put_same h2 (isKeyLit_string _) _ _
  · simp only [if_neg heq]
    rw [atKey_put_other (string_lit_ne (fun h => heq h.symm))]
    exact h3 s' hs'

/-- 'delete(m, s)' at the operation. -/
theorem wp_cnt_delete (hg : o.guard = none) (m x : Operand) (t kt : TypeId) (hop : o.op = Op.call { callee := Callee.builtin Builtin.delete, args := #[m, x], argTypes := #[t, k] })
    (hk : P.underlying k = some .string) (ht : P.underlying t = some (.map k e)) (b n : Nat) (f : ByteArray → Int)
    (hm : a.eval m = .map (some b)) (h : Cnt P k e w b n f) (s : ByteArray) (hs : s.size ≤ maxLen) (hx : a.eval x = .string s)
    (hK : ∀ w', Cnt P k e w' b n (fun s' => if s' = s then 0 else f s') → w.mapTurned w' b → wpList P ops Q rest (a.put o.dst (.tuple #[])) w') : wpList P ops Q (o :: rest) a w := by
  obtain ⟨D, h1, h2, h3⟩ := h
  refine wpList_delete_own (H := Unit) w hg m x t k hop e (string_keyed hk) ht (plainElem P e) b n D hm h1 (.string s) _ hx (keyOf_string_mk hk hs) ?_
  intro w' hown htu
  refine hK w' ⟨_, hown, h2.del _, fun s' hs' => ?_⟩ htu
  by_cases heq : s' = s
  · subst heq
    simp only [if_pos]
    exact atKey_del_same _
  · simp only [if_neg heq]
    rw [atKey_del_other (string_lit_ne (fun h => heq h.symm))]
    exact h3 s' hs'
end
end Go.Proofs.Ythplelgkneipjaa.HMap
