/- Words of this session: a script of the call's own, each of whose edits has its lines in a block of its own. -/
import Derived.Test.YthplelgkneipjaaPx0
set_option linter.unusedVariables false
set_option linter.unusedSimpArgs false
namespace Go.Proofs.Ythplelgkneipjaa.HEdits
open Go Go.RowKit Go.Proofs.YthplelgkneipjaaW.PrintWords Go.Proofs.YthplelgkneipjaaW.PrintLast Go.Proofs.YthplelgkneipjaaW.PrintMore Go.Proofs.Ythplelgkneipjaa.P

structure Ed where
  op : Int
  n : Int
  v : Value
  l : List ByteArray
def Ed.cells (e : Ed) : List Value := [.int .i64 e.op, .int .i64 e.n, e.v]
def Ed.plain (e : Ed) : S49 := ⟨e.op, e.n, e.l⟩
def flat (es : List Ed) : List Value := es.flatMap Ed.cells
theorem flat_length (es : List Ed) : (flat es).length = es.length * 3 := by
  induction es with
  | nil => rfl
  | cons e es ih => simp only [flat, List.flatMap_cons, List.length_append, List.length_cons] at ih ⊢; rw [ih]; simp [Ed.cells]; omega
theorem flat_snoc (es : List Ed) (e : Ed) : flat (es ++ [e]) = flat es ++ e.cells := by simp [flat]
abbrev Lns (base : Nat) (w : World) (v : Value) (l : List ByteArray) : Prop := w.ownsRow base 9 1 v l.length (encs Value.string l)
/-- v is a script of the edits es, from base on. -/
def Scr (base : Nat) (w : World) (v : Value) (es : List Ed) : Prop :=
  w.ownsRow base 49 3 v es.length (flat es) ∧ (∀ e ∈ es, Lns base w e.v e.l) ∧ es.Pairwise (fun p q => NeRow p.v q.v)
section
variable {base : Nat} {w w' w1 w2 : World} {v v1 : Value} {es : List Ed} {e : Ed}
theorem ne_of {u u' : Value} (h : u.ownBlock = none ∨ u.ownBlock ≠ u'.ownBlock) : NeRow u u' := fun k hk hk' => by
  rcases h with h | h
  · rw [h] at hk; cases hk
  · exact h (hk.trans hk'.symm)
theorem Scr.nil (base : Nat) (w : World) : Scr base w (.slice none 0 0) [] := ⟨own_nil _ _ _ _, by simp, .nil⟩
theorem Scr.below (h : Scr base w v es) (hb : Below w.heap.size w w') : Scr base w' v es := ⟨pw_own_below h.1 hb, fun e he => pw_own_below (h.2.1 e he) hb, h.2.2⟩
theorem Scr.drewN (h : Scr base w v es) (m : Nat) : Scr base (w.drewN m) v es := h
theorem Scr.lines_ne (h : Scr base w v es) (he : e ∈ es) : NeRow e.v v := ne_of (own_type_ne (h.2.1 e he) h.1 (by decide))
theorem Scr.form (h : Scr base w v (es ++ [e])) : ∃ g cap cur, v = .slice (some ⟨g, 0, none⟩) (es ++ [e]).length cap ∧ base ≤ g ∧ w.heap[g]? = some (.cells cur 49 (0, 0)) ∧ (es ++ [e]).length ≤ cap ∧ cap ≤ maxLen ∧ cur.size = cap * 3 ∧ cur.toList.take ((es ++ [e]).length * 3) = flat (es ++ [e]) := by
  rcases h.1.2 with ⟨_, h0⟩ | h0
  · simp at h0
  · exact h0
theorem cur_get {cur : Array Value} {es : List Ed} {e : Ed} (ht : cur.toList.take ((es ++ [e]).length * 3) = flat (es ++ [e])) (j : Nat) (hj : j < 3) : cur[es.length * 3 + j]? = e.cells[j]? := by
  have hlen : (es ++ [e]).length * 3 = es.length * 3 + 3 := by simp; omega
  have h1 : (cur.toList.take ((es ++ [e]).length * 3))[es.length * 3 + j]? = cur[es.length * 3 + j]? := by
    rw [List.getElem?_take, if_pos (by omega)]
    simp
  rw [← h1, ht, flat_snoc, List.getElem?_append_right (by rw [flat_length]; omega), flat_length]
  congr 1
  omega
/-- What the last edit's cells hold. -/
theorem Scr.last (h : Scr base w v (es ++ [e])) : ∃ g cap, v = .slice (some ⟨g, 0, none⟩) (es.length + 1) cap ∧ base ≤ g ∧ g < w.heap.size ∧ (∃ cur, w.heap[g]? = some (.cells cur 49 (0, 0))) ∧
    w.cell? ⟨g, es.length * 3, none⟩ = some (.int .i64 e.op) ∧ w.cell? ⟨g, es.length * 3 + 1, none⟩ = some (.int .i64 e.n) ∧ w.cell? ⟨g, es.length * 3 + 2, none⟩ = some e.v ∧
    w.frozen? ⟨g, es.length * 3 + 1, none⟩ = false ∧ w.frozen? ⟨g, es.length * 3 + 2, none⟩ = false := by
  obtain ⟨g, cap, cur, rfl, hg, hh, hc1, hc2, hc3, ht⟩ := h.form
  refine ⟨g, cap, by simp, hg, blk_lt hh, ⟨cur, hh⟩, ?_, ?_, ?_, blk_frozen hh _, blk_frozen hh _⟩
  · exact (blk_cell hh _).trans (cur_get ht 0 (by omega))
  · exact (blk_cell hh _).trans (cur_get ht 1 (by omega))
  · exact (blk_cell hh _).trans (cur_get ht 2 (by omega))
theorem set_take {cur : Array Value} {es : List Ed} {e e' : Ed} (ht : cur.toList.take ((es ++ [e]).length * 3) = flat (es ++ [e])) (j : Nat) (u : Value) (hu : e.cells.set j u = e'.cells) (hj : j < 3) :
    (cur.setIfInBounds (es.length * 3 + j) u).toList.take ((es ++ [e']).length * 3) = flat (es ++ [e']) := by
  have hlen : (es ++ [e']).length = (es ++ [e]).length := by simp
  rw [Array.toList_setIfInBounds, List.take_set, hlen, ht, flat_snoc, flat_snoc, List.set_append_right _ _ (by rw [flat_length]; omega), flat_length]
  rw [← hu]
  congr 2
  omega
theorem own_set (h : w.ownsRow base 49 3 v (es ++ [e]).length (flat (es ++ [e]))) {g cap : Nat} {n : Nat} (hv : v = .slice (some ⟨g, 0, none⟩) n cap) (j : Nat) (hj : j < 3) (u : Value) (e' : Ed) (hu : e.cells.set j u = e'.cells) :
    (w.setCell ⟨g, es.length * 3 + j, none⟩ u).ownsRow base 49 3 v (es ++ [e']).length (flat (es ++ [e'])) := by
  refine ⟨flat_length _, ?_⟩
  rcases h.2 with ⟨_, h0⟩ | ⟨g', cap', cur, hv', hg, hh, hc1, hc2, hc3, ht⟩
  · simp at h0
  · rw [hv'] at hv
    injection hv with h1 h2 h3
    injection h1 with h1
    injection h1 with h1
    subst h1
    have hlen : (es ++ [e']).length = (es ++ [e]).length := by simp
    exact .inr ⟨g', cap', cur.setIfInBounds (es.length * 3 + j) u, by rw [hlen]; exact hv', hg, blk_set hh _ u, by rw [hlen]; exact hc1, hc2, by rw [Array.size_setIfInBounds]; exact hc3, set_take ht j u hu hj⟩
theorem Scr.set (h : Scr base w v (es ++ [e])) {g cap n : Nat} (hv : v = .slice (some ⟨g, 0, none⟩) n cap) (hb : ∃ cur, w.heap[g]? = some (.cells cur 49 (0, 0))) (j : Nat) (hj : j < 3) (u : Value) (e' : Ed) (hu : e.cells.set j u = e'.cells)
    (hl : Lns base w e'.v e'.l) (hp : ∀ p ∈ es, NeRow p.v e'.v) : Scr base (w.setCell ⟨g, es.length * 3 + j, none⟩ u) v (es ++ [e']) := by
  obtain ⟨cur, hb⟩ := hb
  refine ⟨own_set h.1 hv j hj u e' hu, fun p hp' => ?_, List.pairwise_append.2 ⟨(List.pairwise_append.1 h.2.2).1, List.pairwise_singleton _ _, fun q hq r hr => by rw [List.mem_singleton.1 hr]; exact hp q hq⟩⟩
  have hL : Lns base w p.v p.l := by
    rcases List.mem_append.1 hp' with hp' | hp'
    · exact h.2.1 p (List.mem_append_left _ hp')
    · rw [List.mem_singleton.1 hp']; exact hl
  exact own_setCell hL (own_ne hL hb (by decide)) u
/-- The last edit's lines have grown: ahead of the store. -/
theorem Scr.grown (h : Scr base w v (es ++ [e])) (hg : w.grownBy w1 e.v.ownBlock) :
    w1.ownsRow base 49 3 v (es ++ [e]).length (flat (es ++ [e])) ∧ (∀ p ∈ es, Lns base w1 p.v p.l) := by
  have hm : e ∈ es ++ [e] := by simp
  refine ⟨own_other h.1 hg ?_, fun p hp => own_other (h.2.1 p (List.mem_append_left _ hp)) hg ?_⟩
  · exact own_type_ne h.1 (h.2.1 e hm) (by decide)
  · exact ne_other (ne_symm ((List.pairwise_append.1 h.2.2).2.2 p hp e (by simp)))
/-- An edit more. -/
theorem Scr.push (h : Scr base w v es) (hn : w1.ownsRow base 49 3 v1 (es.length + 1) (flat es ++ e.cells)) (hg : w.grownBy w1 v.ownBlock) (hl : Lns base w e.v e.l) (hp : ∀ p ∈ es, NeRow p.v e.v) : Scr base w1 v1 (es ++ [e]) := by
  refine ⟨by rw [flat_snoc, List.length_append]; exact hn, fun p hp' => ?_, List.pairwise_append.2 ⟨h.2.2, List.pairwise_singleton _ _, fun q hq r hr => by rw [List.mem_singleton.1 hr]; exact hp q hq⟩⟩
  have hL : Lns base w p.v p.l := by
    rcases List.mem_append.1 hp' with hp' | hp'
    · exact h.2.1 p hp'
    · rw [List.mem_singleton.1 hp']; exact hl
  exact own_other hL hg (own_type_ne hL h.1 (by decide))
/-- The last edit's lines have grown, and are stored. -/
theorem Scr.later (h : Scr base w v (es ++ [e])) {g cap n : Nat} (hv : v = .slice (some ⟨g, 0, none⟩) n cap) (hg : w.grownBy w1 e.v.ownBlock) {l1 : List ByteArray} (hl : Lns base w1 v1 l1) (hp : ∀ p ∈ es, NeRow p.v v1) :
    Scr base (w1.setCell ⟨g, es.length * 3 + 2, none⟩ v1) v (es ++ [⟨e.op, e.n, v1, l1⟩]) ∧ w1.cell? ⟨g, es.length * 3 + 2, none⟩ = some e.v ∧ w1.frozen? ⟨g, es.length * 3 + 2, none⟩ = false := by
  obtain ⟨h1, h2⟩ := h.grown hg
  obtain ⟨g', cap', cur, hv', hg', hh, hc1, hc2, hc3, ht⟩ := h.form
  have hgg : g' = g := by
    rw [hv'] at hv
    injection hv with h1 h2 h3
    injection h1 with h1
    injection h1 with h1
  subst hgg
  have hne : some g' ≠ e.v.ownBlock := own_ne (h.2.1 e (by simp)) hh (by decide)
  have hh1 := blk_grown hh hg hne
  refine ⟨?_, (blk_cell hh1 _).trans (cur_get ht 2 (by omega)), blk_frozen hh1 _⟩
  refine ⟨own_set h1 hv 2 (by omega) v1 _ rfl, fun p hp' => ?_, List.pairwise_append.2 ⟨(List.pairwise_append.1 h.2.2).1, List.pairwise_singleton _ _, fun q hq r hr => by rw [List.mem_singleton.1 hr]; exact hp q hq⟩⟩
  have hL : Lns base w1 p.v p.l := by
    rcases List.mem_append.1 hp' with hp' | hp'
    · exact h2 p hp'
    · rw [List.mem_singleton.1 hp']; exact hl
  exact own_setCell hL (own_ne hL hh1 (by decide)) v1
theorem Scr.place (h : Scr base w v es) : ∃ f : Nat → Nat, ∀ j e k, es[j]? = some e → e.v.ownBlock = some k → f k = j := by
  classical
  have hi : ∀ (i j : Nat) (p q : Ed) (k : Nat), es[i]? = some p → es[j]? = some q → p.v.ownBlock = some k → q.v.ownBlock = some k → i = j := by
    intro i j p q k hp hq hk hk'
    obtain ⟨h1, rfl⟩ := List.getElem?_eq_some_iff.1 hp
    obtain ⟨h2, rfl⟩ := List.getElem?_eq_some_iff.1 hq
    have hpw := List.pairwise_iff_getElem.1 h.2.2
    rcases Nat.lt_trichotomy i j with hlt | heq | hlt
    · exact absurd hk' (hpw i j h1 h2 hlt k hk)
    · exact heq
    · exact absurd hk (hpw j i h2 h1 hlt k hk')
  refine ⟨fun k => if hk : ∃ j : Nat, ∃ e : Ed, es[j]? = some e ∧ e.v.ownBlock = some k then hk.choose else 0, fun j e k hj hk => ?_⟩
  have hh : ∃ j' : Nat, ∃ e' : Ed, es[j']? = some e' ∧ e'.v.ownBlock = some k := ⟨j, e, hj, hk⟩
  show (if hk : ∃ j' : Nat, ∃ e' : Ed, es[j']? = some e' ∧ e'.v.ownBlock = some k then hk.choose else 0) = j
  rw [dif_pos hh]
  obtain ⟨e', h1, h2⟩ := hh.choose_spec
  exact hi _ _ _ _ _ h1 hj h2 hk
theorem flat_seg (es : List Ed) : ∀ (j : Nat) (e : Ed), es[j]? = some e → ((flat es).drop (j * 3)).take 3 = e.cells := by
  induction es with
  | nil => intro j e h; simp at h
  | cons x es ih =>
    intro j e h
    cases j with
    | zero =>
      simp at h
      subst h
      simp [flat, Ed.cells]
    | succ j =>
      have h1 := ih j e (by simpa using h)
      rw [← h1]
      have e1 : (j + 1) * 3 = 3 + j * 3 := by omega
      rw [e1, ← List.drop_drop]
      congr 1
/-- At the end: as edits that lie apart. -/
theorem Scr.toS (h : Scr base w v es) : Kd.S k49 49 w base (fun _ => True) v (es.map Ed.plain) := by
  obtain ⟨f, hf⟩ := h.place
  refine ⟨f, fun _ _ => trivial, flat es, ?_, ?_⟩
  · rw [List.length_zipIdx, List.length_map]; exact h.1
  · refine ⟨by rw [List.length_zipIdx, List.length_map]; exact flat_length es, fun j pj hj => ?_⟩
    rw [List.getElem?_zipIdx, List.getElem?_map] at hj
    obtain ⟨r, hr, rfl⟩ := Option.map_eq_some_iff.1 hj
    obtain ⟨q, hq, rfl⟩ := Option.map_eq_some_iff.1 hr
    have hqm : q ∈ es := List.mem_of_getElem? hq
    show Kd.M k49 w base _ q.plain (((flat es).drop (j * 3)).take 3)
    rw [flat_seg es j q hq]
    refine k49_mkM w base _ q.plain (Kd.R_of_own (h.2.1 q hqm) (fun k hk => ⟨⟨trivial, ?_⟩, ?_⟩))
    · intro he
      exact h.lines_ne hqm k hk he.symm
    · rw [hf j q k hq hk]; simp
end
end Go.Proofs.Ythplelgkneipjaa.HEdits
