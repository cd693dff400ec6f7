/- Words of this session: a script of the call's own, each of whose edits has its lines in a block of its own. · Words of this session: hunks of the call's own, each of whose scripts, and whose lines, have blocks of their own. · Words of this session: the last hunk's script grows by some edits; a hunk more. · hunks.joined in plain words: edits put behind a script, those of one kind as one; a measure that bounds all. -/
import Derived.Test.YtgobidmfbjmpkaaPx0
section
set_option linter.unusedVariables false
set_option linter.unusedSimpArgs false
namespace Go.Proofs.Ytgobidmfbjmpkaa.HEdits
open Go Go.RowKit Go.Proofs.YtgobidmfbjmpkaaW.PrintWords Go.Proofs.YtgobidmfbjmpkaaW.PrintLast Go.Proofs.YtgobidmfbjmpkaaW.PrintMore Go.Proofs.Ytgobidmfbjmpkaa.P

structure Ed where
 op : Int
 n : Int
 v : Value
 l : List ByteArray
def Ed.cells (e : Ed) : List Value := [.int .i64 e.op, .int .i64 e.n, e.v]
def Ed.plain (e : Ed) : S31 := ⟨e.op, e.n, e.l⟩
def flat (es : List Ed) : List Value := es.flatMap Ed.cells
theorem flat_length (es : List Ed) : (flat es).length = es.length * 3 := by
 induction es with
 | nil => rfl
 | cons e es ih => simp only [flat, List.flatMap_cons, List.length_append, List.length_cons] at ih ⊢; rw [ih]; simp [Ed.cells]; omega
theorem flat_snoc (es : List Ed) (e : Ed) : flat (es ++ [e]) = flat es ++ e.cells := by simp [flat]
abbrev Lns (base : Nat) (w : World) (v : Value) (l : List ByteArray) : Prop := w.ownsRow base 9 1 v l.length (encs Value.string l)
/-- v is a script of the edits es, from base on. -/
def Scr (base : Nat) (w : World) (v : Value) (es : List Ed) : Prop :=
 w.ownsRow base 31 3 v es.length (flat es) ∧ (∀ e ∈ es, Lns base w e.v e.l) ∧ es.Pairwise (fun p q => NeRow p.v q.v)
section
variable {base : Nat} {w w' w1 w2 : World} {v v1 : Value} {es : List Ed} {e : Ed}
theorem ne_of {u u' : Value} (h : u.ownBlock = none ∨ u.ownBlock ≠ u'.ownBlock) : NeRow u u' := fun k hk hk' => by
 rcases h with h | h
 ·rw [h] at hk; cases hk
 ·exact h (hk.trans hk'.symm)
theorem Scr.nil (base : Nat) (w : World) : Scr base w (.slice none 0 0) [] := ⟨own_nil _ _ _ _, by simp, .nil⟩
theorem Scr.below (h : Scr base w v es) (hb : Below w.heap.size w w') : Scr base w' v es := ⟨pw_own_below h.1 hb, fun e he => pw_own_below (h.2.1 e he) hb, h.2.2⟩
theorem Scr.drewN (h : Scr base w v es) (m : Nat) : Scr base (w.drewN m) v es := h
theorem Scr.lines_ne (h : Scr base w v es) (he : e ∈ es) : NeRow e.v v := ne_of (own_type_ne (h.2.1 e he) h.1 (by decide))
theorem Scr.form (h : Scr base w v (es ++ [e])) : ∃ g cap cur, v = .slice (some ⟨g, 0, none⟩) (es ++ [e]).length cap ∧ base ≤ g ∧ w.heap[g]? = some (.cells cur 31 (0, 0)) ∧ (es ++ [e]).length ≤ cap ∧ cap ≤ maxLen ∧ cur.size = cap * 3 ∧ cur.toList.take ((es ++ [e]).length * 3) = flat (es ++ [e]) := by
 rcases h.1.2 with ⟨_, h0⟩ | h0
 ·simp at h0
 ·exact h0
theorem cur_get {cur : Array Value} {es : List Ed} {e : Ed} (ht : cur.toList.take ((es ++ [e]).length * 3) = flat (es ++ [e])) (j : Nat) (hj : j < 3) : cur[es.length * 3 + j]? = e.cells[j]? := by
 have hlen : (es ++ [e]).length * 3 = es.length * 3 + 3 := by simp; omega
 have h1 : (cur.toList.take ((es ++ [e]).length * 3))[es.length * 3 + j]? = cur[es.length * 3 + j]? := by
  rw [List.getElem?_take, if_pos (by omega)]
  simp
 rw [← h1, ht, flat_snoc, List.getElem?_append_right (by rw [flat_length]; omega), flat_length]
 congr 1
 omega
/-- What the last edit's cells hold. -/
theorem Scr.last (h : Scr base w v (es ++ [e])) : ∃ g cap, v = .slice (some ⟨g, 0, none⟩) (es.length + 1) cap ∧ base ≤ g ∧ g < w.heap.size ∧ (∃ cur, w.heap[g]? = some (.cells cur 31 (0, 0))) ∧
  w.cell? ⟨g, es.length * 3, none⟩ = some (.int .i64 e.op) ∧ w.cell? ⟨g, es.length * 3 + 1, none⟩ = some (.int .i64 e.n) ∧ w.cell? ⟨g, es.length * 3 + 2, none⟩ = some e.v ∧
  w.frozen? ⟨g, es.length * 3 + 1, none⟩ = false ∧ w.frozen? ⟨g, es.length * 3 + 2, none⟩ = false := by
 obtain ⟨g, cap, cur, rfl, hg, hh, hc1, hc2, hc3, ht⟩ := h.form
 refine ⟨g, cap, by simp, hg, blk_lt hh, ⟨cur, hh⟩, ?_, ?_, ?_, blk_frozen hh _, blk_frozen hh _⟩
 ·exact (blk_cell hh _).trans (cur_get ht 0 (by omega))
 ·exact (blk_cell hh _).trans (cur_get ht 1 (by omega))
 ·exact (blk_cell hh _).trans (cur_get ht 2 (by omega))
theorem set_take {cur : Array Value} {es : List Ed} {e e' : Ed} (ht : cur.toList.take ((es ++ [e]).length * 3) = flat (es ++ [e])) (j : Nat) (u : Value) (hu : e.cells.set j u = e'.cells) (hj : j < 3) :
  (cur.setIfInBounds (es.length * 3 + j) u).toList.take ((es ++ [e']).length * 3) = flat (es ++ [e']) := by
 have hlen : (es ++ [e']).length = (es ++ [e]).length := by simp
 rw [Array.toList_setIfInBounds, List.take_set, hlen, ht, flat_snoc, flat_snoc, List.set_append_right _ _ (by rw [flat_length]; omega), flat_length]
 rw [← hu]
 congr 2
 omega
theorem own_set (h : w.ownsRow base 31 3 v (es ++ [e]).length (flat (es ++ [e]))) {g cap : Nat} {n : Nat} (hv : v = .slice (some ⟨g, 0, none⟩) n cap) (j : Nat) (hj : j < 3) (u : Value) (e' : Ed) (hu : e.cells.set j u = e'.cells) :
  (w.setCell ⟨g, es.length * 3 + j, none⟩ u).ownsRow base 31 3 v (es ++ [e']).length (flat (es ++ [e'])) := by
 refine ⟨flat_length _, ?_⟩
 rcases h.2 with ⟨_, h0⟩ | ⟨g', cap', cur, hv', hg, hh, hc1, hc2, hc3, ht⟩
 ·simp at h0
 ·rw [hv'] at hv
  injection hv with h1 h2 h3
  injection h1 with h1
  injection h1 with h1
  subst h1
  have hlen : (es ++ [e']).length = (es ++ [e]).length := by simp
  exact .inr ⟨g', cap', cur.setIfInBounds (es.length * 3 + j) u, by rw [hlen]; exact hv', hg, blk_set hh _ u, by rw [hlen]; exact hc1, hc2, by rw [Array.size_setIfInBounds]; exact hc3, set_take ht j u hu hj⟩
theorem Scr.set (h : Scr base w v (es ++ [e])) {g cap n : Nat} (hv : v = .slice (some ⟨g, 0, none⟩) n cap) (hb : ∃ cur, w.heap[g]? = some (.cells cur 31 (0, 0))) (j : Nat) (hj : j < 3) (u : Value) (e' : Ed) (hu : e.cells.set j u = e'.cells)
  (hl : Lns base w e'.v e'.l) (hp : ∀ p ∈ es, NeRow p.v e'.v) : Scr base (w.setCell ⟨g, es.length * 3 + j, none⟩ u) v (es ++ [e']) := by
 obtain ⟨cur, hb⟩ := hb
 refine ⟨own_set h.1 hv j hj u e' hu, fun p hp' => ?_, List.pairwise_append.2 ⟨(List.pairwise_append.1 h.2.2).1, List.pairwise_singleton _ _, fun q hq r hr => by rw [List.mem_singleton.1 hr]; exact hp q hq⟩⟩
 have hL : Lns base w p.v p.l := by
  rcases List.mem_append.1 hp' with hp' | hp'
  ·exact h.2.1 p (List.mem_append_left _ hp')
  ·rw [List.mem_singleton.1 hp']; exact hl
 exact own_setCell hL (own_ne hL hb (by decide)) u
/-- The last edit's lines have grown: ahead of the store. -/
theorem Scr.grown (h : Scr base w v (es ++ [e])) (hg : w.grownBy w1 e.v.ownBlock) :
  w1.ownsRow base 31 3 v (es ++ [e]).length (flat (es ++ [e])) ∧ (∀ p ∈ es, Lns base w1 p.v p.l) := by
 have hm : e ∈ es ++ [e] := by simp
 refine ⟨own_other h.1 hg ?_, fun p hp => own_other (h.2.1 p (List.mem_append_left _ hp)) hg ?_⟩
 ·exact own_type_ne h.1 (h.2.1 e hm) (by decide)
 ·exact ne_other (ne_symm ((List.pairwise_append.1 h.2.2).2.2 p hp e (by simp)))
/-- An edit more. -/
theorem Scr.push (h : Scr base w v es) (hn : w1.ownsRow base 31 3 v1 (es.length + 1) (flat es ++ e.cells)) (hg : w.grownBy w1 v.ownBlock) (hl : Lns base w e.v e.l) (hp : ∀ p ∈ es, NeRow p.v e.v) : Scr base w1 v1 (es ++ [e]) := by
 refine ⟨by rw [flat_snoc, List.length_append]; exact hn, fun p hp' => ?_, List.pairwise_append.2 ⟨h.2.2, List.pairwise_singleton _ _, fun q hq r hr => by rw [List.mem_singleton.1 hr]; exact hp q hq⟩⟩
 have hL : Lns base w p.v p.l := by
  rcases List.mem_append.1 hp' with hp' | hp'
  ·exact h.2.1 p hp'
  ·rw [List.mem_singleton.1 hp']; exact hl
 exact own_other hL hg (own_type_ne hL h.1 (by decide))
/-- The last edit's lines have grown, and are stored. -/
theorem Scr.later (h : Scr base w v (es ++ [e])) {g cap n : Nat} (hv : v = .slice (some ⟨g, 0, none⟩) n cap) (hg : w.grownBy w1 e.v.ownBlock) {l1 : List ByteArray} (hl : Lns base w1 v1 l1) (hp : ∀ p ∈ es, NeRow p.v v1) :
  Scr base (w1.setCell ⟨g, es.length * 3 + 2, none⟩ v1) v (es ++ [⟨e.op, e.n, v1, l1⟩]) ∧ w1.cell? ⟨g, es.length * 3 + 2, none⟩ = some e.v ∧ w1.frozen? ⟨g, es.length * 3 + 2, none⟩ = false := by
 obtain ⟨h1, h2⟩ := h.grown hg
 obtain ⟨g', cap', cur, hv', hg', hh, hc1, hc2, hc3, ht⟩ := h.form
 have hgg : g' = g := by
  rw [hv'] at hv
  injection hv with h1 h2 h3
  injection h1 with h1
  injection h1 with h1
 subst hgg
 have hne : some g' ≠ e.v.ownBlock := own_ne (h.2.1 e (by simp)) hh (by decide)
 have hh1 := blk_grown hh hg hne
 refine ⟨?_, (blk_cell hh1 _).trans (cur_get ht 2 (by omega)), blk_frozen hh1 _⟩
 refine ⟨own_set h1 hv 2 (by omega) v1 _ rfl, fun p hp' => ?_, List.pairwise_append.2 ⟨(List.pairwise_append.1 h.2.2).1, List.pairwise_singleton _ _, fun q hq r hr => by rw [List.mem_singleton.1 hr]; exact hp q hq⟩⟩
 have hL : Lns base w1 p.v p.l := by
  rcases List.mem_append.1 hp' with hp' | hp'
  ·exact h2 p hp'
  ·rw [List.mem_singleton.1 hp']; exact hl
 exact own_setCell hL (own_ne hL hh1 (by decide)) v1
theorem Scr.place (h : Scr base w v es) : ∃ f : Nat → Nat, ∀ j e k, es[j]? = some e → e.v.ownBlock = some k → f k = j := by
 classical
 have hi : ∀ (i j : Nat) (p q : Ed) (k : Nat), es[i]? = some p → es[j]? = some q → p.v.ownBlock = some k → q.v.ownBlock = some k → i = j := by
  intro i j p q k hp hq hk hk'
  obtain ⟨h1, rfl⟩ := List.getElem?_eq_some_iff.1 hp
  obtain ⟨h2, rfl⟩ := List.getElem?_eq_some_iff.1 hq
  have hpw := List.pairwise_iff_getElem.1 h.2.2
  rcases Nat.lt_trichotomy i j with hlt | heq | hlt
  ·exact absurd hk' (hpw i j h1 h2 hlt k hk)
  ·exact heq
  ·exact absurd hk (hpw j i h2 h1 hlt k hk')
 refine ⟨fun k => if hk : ∃ j : Nat, ∃ e : Ed, es[j]? = some e ∧ e.v.ownBlock = some k then hk.choose else 0, fun j e k hj hk => ?_⟩
 have hh : ∃ j' : Nat, ∃ e' : Ed, es[j']? = some e' ∧ e'.v.ownBlock = some k := ⟨j, e, hj, hk⟩
 show (if hk : ∃ j' : Nat, ∃ e' : Ed, es[j']? = some e' ∧ e'.v.ownBlock = some k then hk.choose else 0) = j
 rw [dif_pos hh]
 obtain ⟨e', h1, h2⟩ := hh.choose_spec
 exact hi _ _ _ _ _ h1 hj h2 hk
theorem flat_seg (es : List Ed) : ∀ (j : Nat) (e : Ed), es[j]? = some e → ((flat es).drop (j * 3)).take 3 = e.cells := by
 induction es with
 | nil => intro j e h; simp at h
 | cons x es ih =>
  intro j e h
  cases j with
  | zero =>
   simp at h
   subst h
   simp [flat, Ed.cells]
  | succ j =>
   have h1 := ih j e (by simpa using h)
   rw [← h1]
   have e1 : (j + 1) * 3 = 3 + j * 3 := by omega
   rw [e1, ← List.drop_drop]
   congr 1
/-- At the end: as edits that lie apart. -/
theorem Scr.toS (h : Scr base w v es) : Kd.S k31 31 w base (fun _ => True) v (es.map Ed.plain) := by
 obtain ⟨f, hf⟩ := h.place
 refine ⟨f, fun _ _ => trivial, flat es, ?_, ?_⟩
 ·rw [List.length_zipIdx, List.length_map]; exact h.1
 ·refine ⟨by rw [List.length_zipIdx, List.length_map]; exact flat_length es, fun j pj hj => ?_⟩
  rw [List.getElem?_zipIdx, List.getElem?_map] at hj
  obtain ⟨r, hr, rfl⟩ := Option.map_eq_some_iff.1 hj
  obtain ⟨q, hq, rfl⟩ := Option.map_eq_some_iff.1 hr
  have hqm : q ∈ es := List.mem_of_getElem? hq
  show Kd.M k31 w base _ q.plain (((flat es).drop (j * 3)).take 3)
  rw [flat_seg es j q hq]
  refine k31_mkM w base _ q.plain (Kd.R_of_own (h.2.1 q hqm) (fun k hk => ⟨⟨trivial, ?_⟩, ?_⟩))
  ·intro he
   exact h.lines_ne hqm k hk he.symm
  ·rw [hf j q k hq hk]; simp
end
end Go.Proofs.Ytgobidmfbjmpkaa.HEdits
end
section
set_option linter.unusedVariables false
namespace Go.Proofs.Ytgobidmfbjmpkaa.HHunks
open Go Go.RowKit Go.Proofs.YtgobidmfbjmpkaaW.PrintWords Go.Proofs.YtgobidmfbjmpkaaW.PrintLast Go.Proofs.YtgobidmfbjmpkaaW.PrintMore Go.Proofs.Ytgobidmfbjmpkaa.P Go.Proofs.Ytgobidmfbjmpkaa.HEdits

structure Hd where
 fr : Int
 tt : Int
 v : Value
 es : List Ed
def Hd.cells (h : Hd) : List Value := [.int .i64 h.fr, .int .i64 h.tt, h.v]
def Hd.plain (h : Hd) : S28 := ⟨h.fr, h.tt, h.es.map Ed.plain⟩
def hflat (hs : List Hd) : List Value := hs.flatMap Hd.cells
theorem hflat_length (hs : List Hd) : (hflat hs).length = hs.length * 3 := by
 induction hs with
 | nil => rfl
 | cons e es ih => simp only [hflat, List.flatMap_cons, List.length_append, List.length_cons] at ih ⊢; rw [ih]; simp [Hd.cells]; omega
theorem hflat_snoc (hs : List Hd) (e : Hd) : hflat (hs ++ [e]) = hflat hs ++ e.cells := by simp [hflat]
def Hd.has (h : Hd) (k : Nat) : Prop := h.v.ownBlock = some k ∨ ∃ e ∈ h.es, e.v.ownBlock = some k
/-- Two hunks share no block. -/
def Ap (p q : Hd) : Prop := ∀ k, p.has k → ¬ q.has k
theorem Ap.symm {p q : Hd} (h : Ap p q) : Ap q p := fun k hq hp => h k hp hq
/-- v is the hunks hs, from base on. -/
def Hks (base : Nat) (w : World) (v : Value) (hs : List Hd) : Prop :=
 w.ownsRow base 28 3 v hs.length (hflat hs) ∧ (∀ h ∈ hs, Scr base w h.v h.es) ∧ hs.Pairwise Ap
section
variable {base : Nat} {w w' w1 w2 : World} {v v1 : Value} {hs : List Hd} {h : Hd} {es : List Ed}
theorem Hks.nil (base : Nat) (w : World) : Hks base w (.slice none 0 0) [] := ⟨own_nil _ _ _ _, by simp, .nil⟩
theorem Hks.below (h : Hks base w v hs) (hb : Below w.heap.size w w') : Hks base w' v hs := ⟨pw_own_below h.1 hb, fun e he => (h.2.1 e he).below hb, h.2.2⟩
theorem own_low {b b' e sz n : Nat} {xs : List Value} (h : w.ownsRow b e sz v n xs) (hb : b' ≤ b) : w.ownsRow b' e sz v n xs := ⟨h.1, h.2.imp id fun ⟨g, a, c, h1, h2, h3⟩ => ⟨g, a, c, h1, Nat.le_trans hb h2, h3⟩⟩
theorem Scr.low (h : Scr base w v es) {b' : Nat} (hb : b' ≤ base) : Scr b' w v es := ⟨own_low h.1 hb, fun e he => own_low (h.2.1 e he) hb, h.2.2⟩
theorem Hks.low (h : Hks base w v hs) {b' : Nat} (hb : b' ≤ base) : Hks b' w v hs := ⟨own_low h.1 hb, fun e he => Scr.low (h.2.1 e he) hb, h.2.2⟩
/-- A script whose blocks are not the row that was written. -/
theorem Scr.other (h : Scr base w v es) {row : Option Nat} (hg : w.grownBy w1 row) (h1 : ∀ k, v.ownBlock = some k → row ≠ some k) (h2 : ∀ e ∈ es, ∀ k, e.v.ownBlock = some k → row ≠ some k) : Scr base w1 v es := by
 have ne : ∀ {u : Value}, (∀ k, u.ownBlock = some k → row ≠ some k) → u.ownBlock = none ∨ u.ownBlock ≠ row := by
  intro u hu
  cases hv : u.ownBlock with
  | none => exact .inl rfl
  | some k => exact .inr (fun e => hu k hv e.symm)
 exact ⟨own_other h.1 hg (ne h1), fun e he => own_other (h.2.1 e he) hg (ne (h2 e he)), h.2.2⟩
theorem Scr.has_typed (h : Scr base w v es) {k : Nat} (hk : v.ownBlock = some k ∨ ∃ e ∈ es, e.v.ownBlock = some k) : base ≤ k ∧ k < w.heap.size ∧ ∃ q cells, (q = 31 ∨ q = 9) ∧ w.heap[k]? = some (.cells cells q (0, 0)) := by
 rcases hk with hk | ⟨e, he, hk⟩
 ·obtain ⟨cells, hc⟩ := own_typed h.1 k hk
  exact ⟨own_base h.1 k hk, (Array.getElem?_eq_some_iff.1 hc).1, _, cells, .inl rfl, hc⟩
 ·obtain ⟨cells, hc⟩ := own_typed (h.2.1 e he) k hk
  exact ⟨own_base (h.2.1 e he) k hk, (Array.getElem?_eq_some_iff.1 hc).1, _, cells, .inr rfl, hc⟩
theorem Hks.has_typed (H : Hks base w v hs) (hm : h ∈ hs) {k : Nat} (hk : h.has k) : base ≤ k ∧ k < w.heap.size ∧ ∃ q cells, (q = 31 ∨ q = 9) ∧ w.heap[k]? = some (.cells cells q (0, 0)) := Scr.has_typed (H.2.1 h hm) hk
/-- Its blocks: the row's, and each hunk's. -/
def has (v : Value) (hs : List Hd) (k : Nat) : Prop := v.ownBlock = some k ∨ ∃ h ∈ hs, h.has k
theorem Hks.typed (H : Hks base w v hs) {k : Nat} (hk : has v hs k) : base ≤ k ∧ k < w.heap.size ∧ ∃ q cells, (q = 28 ∨ q = 31 ∨ q = 9) ∧ w.heap[k]? = some (.cells cells q (0, 0)) := by
 rcases hk with hk | ⟨h, hm, hk⟩
 ·obtain ⟨cells, hc⟩ := own_typed H.1 k hk
  exact ⟨own_base H.1 k hk, (Array.getElem?_eq_some_iff.1 hc).1, _, cells, .inl rfl, hc⟩
 ·obtain ⟨a, b, q, cells, c, d⟩ := H.has_typed hm hk
  exact ⟨a, b, q, cells, .inr c, d⟩
/-- Another block was written, or none. -/
theorem Hks.other (H : Hks base w v hs) {row : Option Nat} (hg : w.grownBy w1 row) (hn : ∀ k, row = some k → ¬ has v hs k) : Hks base w1 v hs := by
 refine ⟨own_other H.1 hg ?_, fun e he => Scr.other (H.2.1 e he) hg (fun k hk e' => hn k e' (.inr ⟨e, he, .inl hk⟩)) (fun d hd k hk e' => hn k e' (.inr ⟨e, he, .inr ⟨d, hd, hk⟩⟩)), H.2.2⟩
 cases hv : v.ownBlock with
 | none => exact .inl rfl
 | some k => exact .inr (fun e => hn k e.symm (.inl hv))
/-- A hunk more. -/
theorem Hks.push (H : Hks base w v hs) (hn : w1.ownsRow base 28 3 v1 (hs.length + 1) (hflat hs ++ h.cells)) (hg : w.grownBy w1 v.ownBlock) (hl : Scr base w h.v h.es) (hp : ∀ p ∈ hs, Ap p h) : Hks base w1 v1 (hs ++ [h]) := by
 have ne : ∀ q ∈ hs ++ [h], ∀ k, q.has k → v.ownBlock ≠ some k := by
  intro q hq k hk e
  obtain ⟨c1, h1⟩ := own_typed H.1 k e
  have : ∃ t cells, (t = 31 ∨ t = 9) ∧ w.heap[k]? = some (.cells cells t (0, 0)) := by
   rcases List.mem_append.1 hq with hq | hq
   ·exact (H.has_typed hq hk).2.2
   ·rw [List.mem_singleton.1 hq] at hk; exact (Scr.has_typed hl hk).2.2
  obtain ⟨t, c2, ht, h2⟩ := this
  rw [h1] at h2
  injection h2 with h2
  injection h2 with _ h2 _
  rcases ht with ht | ht <;> rw [ht] at h2 <;> exact absurd h2 (by decide)
 refine ⟨by rw [hflat_snoc, List.length_append]; exact hn, fun p hp' => ?_, List.pairwise_append.2 ⟨H.2.2, List.pairwise_singleton _ _, fun q hq r hr => by rw [List.mem_singleton.1 hr]; exact hp q hq⟩⟩
 have hL : Scr base w p.v p.es := by
  rcases List.mem_append.1 hp' with hp' | hp'
  ·exact H.2.1 p hp'
  ·rw [List.mem_singleton.1 hp']; exact hl
 exact Scr.other hL hg (fun k hk e => ne p hp' k (.inl hk) e) (fun d hd k hk e => ne p hp' k (.inr ⟨d, hd, hk⟩) e)
theorem Hks.form (H : Hks base w v (hs ++ [h])) : ∃ g cap cur, v = .slice (some ⟨g, 0, none⟩) (hs ++ [h]).length cap ∧ base ≤ g ∧ w.heap[g]? = some (.cells cur 28 (0, 0)) ∧ (hs ++ [h]).length ≤ cap ∧ cap ≤ maxLen ∧ cur.size = cap * 3 ∧ cur.toList.take ((hs ++ [h]).length * 3) = hflat (hs ++ [h]) := by
 rcases H.1.2 with ⟨_, h0⟩ | h0
 ·simp at h0
 ·exact h0
theorem hcur_get {cur : Array Value} {es : List Hd} {e : Hd} (ht : cur.toList.take ((es ++ [e]).length * 3) = hflat (es ++ [e])) (j : Nat) (hj : j < 3) : cur[es.length * 3 + j]? = e.cells[j]? := by
 have hlen : (es ++ [e]).length * 3 = es.length * 3 + 3 := by simp; omega
 have h1 : (cur.toList.take ((es ++ [e]).length * 3))[es.length * 3 + j]? = cur[es.length * 3 + j]? := by
  rw [List.getElem?_take, if_pos (by omega)]
  simp
 rw [← h1, ht, hflat_snoc, List.getElem?_append_right (by rw [hflat_length]; omega), hflat_length]
 congr 1
 omega
/-- What the last hunk's cells hold. -/
theorem Hks.last (H : Hks base w v (hs ++ [h])) : ∃ g cap, v = .slice (some ⟨g, 0, none⟩) (hs.length + 1) cap ∧ base ≤ g ∧ g < w.heap.size ∧ (∃ cur, w.heap[g]? = some (.cells cur 28 (0, 0))) ∧
  w.cell? ⟨g, hs.length * 3, none⟩ = some (.int .i64 h.fr) ∧ w.cell? ⟨g, hs.length * 3 + 1, none⟩ = some (.int .i64 h.tt) ∧ w.cell? ⟨g, hs.length * 3 + 2, none⟩ = some h.v ∧ w.frozen? ⟨g, hs.length * 3 + 2, none⟩ = false := by
 obtain ⟨g, cap, cur, rfl, hg, hh, hc1, hc2, hc3, ht⟩ := H.form
 refine ⟨g, cap, by simp, hg, blk_lt hh, ⟨cur, hh⟩, ?_, ?_, ?_, blk_frozen hh _⟩
 ·exact (blk_cell hh _).trans (hcur_get ht 0 (by omega))
 ·exact (blk_cell hh _).trans (hcur_get ht 1 (by omega))
 ·exact (blk_cell hh _).trans (hcur_get ht 2 (by omega))
theorem hset_take {cur : Array Value} {es : List Hd} {e e' : Hd} (ht : cur.toList.take ((es ++ [e]).length * 3) = hflat (es ++ [e])) (j : Nat) (u : Value) (hu : e.cells.set j u = e'.cells) (hj : j < 3) :
  (cur.setIfInBounds (es.length * 3 + j) u).toList.take ((es ++ [e']).length * 3) = hflat (es ++ [e']) := by
 have hlen : (es ++ [e']).length = (es ++ [e]).length := by simp
 rw [Array.toList_setIfInBounds, List.take_set, hlen, ht, hflat_snoc, hflat_snoc, List.set_append_right _ _ (by rw [hflat_length]; omega), hflat_length]
 rw [← hu]
 congr 2
 omega
/-- The last hunk's edits have grown (w to w1), and are stored. -/
theorem Hks.later (H : Hks base w v (hs ++ [h])) {g cap n : Nat} (hv : v = .slice (some ⟨g, 0, none⟩) n cap) (hg : w.grownBy w1 h.v.ownBlock) (hl : Scr base w1 v1 es) (hp : ∀ p ∈ hs, Ap p ⟨h.fr, h.tt, v1, es⟩) :
  Hks base (w1.setCell ⟨g, hs.length * 3 + 2, none⟩ v1) v (hs ++ [⟨h.fr, h.tt, v1, es⟩]) ∧ w1.cell? ⟨g, hs.length * 3 + 2, none⟩ = some h.v ∧ w1.frozen? ⟨g, hs.length * 3 + 2, none⟩ = false := by
 obtain ⟨g', cap', cur, hv', hg', hh, hc1, hc2, hc3, ht⟩ := H.form
 have hgg : g' = g := by
  rw [hv'] at hv
  injection hv with h1 h2 h3
  injection h1 with h1
  injection h1 with h1
 subst hgg
 have hne : some g' ≠ h.v.ownBlock := own_ne (H.2.1 h (by simp)).1 hh (by decide)
 have hh1 := blk_grown hh hg hne
 refine ⟨⟨?_, fun p hp' => ?_, List.pairwise_append.2 ⟨(List.pairwise_append.1 H.2.2).1, List.pairwise_singleton _ _, fun q hq r hr => by rw [List.mem_singleton.1 hr]; exact hp q hq⟩⟩, (blk_cell hh1 _).trans (hcur_get ht 2 (by omega)), blk_frozen hh1 _⟩
 ·refine ⟨hflat_length _, .inr ⟨g', cap', cur.setIfInBounds (hs.length * 3 + 2) v1, ?_, hg', blk_set hh1 _ v1, ?_, hc2, by rw [Array.size_setIfInBounds]; exact hc3, hset_take ht 2 v1 rfl (by omega)⟩⟩
  ·rw [hv']; simp
  ·simpa using hc1
 ·have hL : Scr base w1 p.v p.es := by
   rcases List.mem_append.1 hp' with hp' | hp'
   ·have ap := (List.pairwise_append.1 H.2.2).2.2 p hp' h (by simp)
    exact Scr.other (H.2.1 p (List.mem_append_left _ hp')) hg (fun k hk e => ap k (.inl hk) (.inl e)) (fun d hd k hk e => ap k (.inr ⟨d, hd, hk⟩) (.inl e))
   ·rw [List.mem_singleton.1 hp']; exact hl
  exact ⟨own_setCell hL.1 (own_ne hL.1 hh1 (by decide)) v1, fun e he => own_setCell (hL.2.1 e he) (own_ne (hL.2.1 e he) hh1 (by decide)) v1, hL.2.2⟩
theorem Hks.place (H : Hks base w v hs) : ∃ f : Nat → Nat, ∀ j h k, hs[j]? = some h → h.has k → f k = j := by
 classical
 have hi : ∀ (i j : Nat) (p q : Hd) (k : Nat), hs[i]? = some p → hs[j]? = some q → p.has k → q.has k → i = j := by
  intro i j p q k hp hq hk hk'
  obtain ⟨h1, rfl⟩ := List.getElem?_eq_some_iff.1 hp
  obtain ⟨h2, rfl⟩ := List.getElem?_eq_some_iff.1 hq
  have hpw := List.pairwise_iff_getElem.1 H.2.2
  rcases Nat.lt_trichotomy i j with hlt | heq | hlt
  ·exact absurd hk' (hpw i j h1 h2 hlt k hk)
  ·exact heq
  ·exact absurd hk (hpw j i h2 h1 hlt k hk')
 refine ⟨fun k => if hk : ∃ j : Nat, ∃ e : Hd, hs[j]? = some e ∧ e.has k then hk.choose else 0, fun j e k hj hk => ?_⟩
 have hh : ∃ j' : Nat, ∃ e' : Hd, hs[j']? = some e' ∧ e'.has k := ⟨j, e, hj, hk⟩
 show (if hk : ∃ j' : Nat, ∃ e' : Hd, hs[j']? = some e' ∧ e'.has k then hk.choose else 0) = j
 rw [dif_pos hh]
 obtain ⟨e', h1, h2⟩ := hh.choose_spec
 exact hi _ _ _ _ _ h1 hj h2 hk
theorem hflat_seg (es : List Hd) : ∀ (j : Nat) (e : Hd), es[j]? = some e → ((hflat es).drop (j * 3)).take 3 = e.cells := by
 induction es with
 | nil => intro j e h; simp at h
 | cons x es ih =>
  intro j e h
  cases j with
  | zero =>
   simp at h
   subst h
   simp [hflat, Hd.cells]
  | succ j =>
   have h1 := ih j e (by simpa using h)
   rw [← h1]
   have e1 : (j + 1) * 3 = 3 + j * 3 := by omega
   rw [e1, ← List.drop_drop]
   congr 1
theorem Scr.toR (h : Scr base w v es) {ok : Nat → Prop} (h1 : ∀ k, v.ownBlock = some k → ok k) (h2 : ∀ e ∈ es, ∀ k, e.v.ownBlock = some k → ok k) : Kd.R k31 31 w base ok v (es.map Ed.plain) := by
 refine ⟨h1, flat es, ?_, ?_⟩
 ·rw [List.length_map]; exact h.1
 ·refine ⟨by rw [List.length_map]; exact flat_length es, fun j pj hj => ?_⟩
  rw [List.getElem?_map] at hj
  obtain ⟨q, hq, rfl⟩ := Option.map_eq_some_iff.1 hj
  have hqm : q ∈ es := List.mem_of_getElem? hq
  show Kd.M k31 w base _ q.plain (((flat es).drop (j * 3)).take 3)
  rw [flat_seg es j q hq]
  exact k31_mkM w base _ q.plain (Kd.R_of_own (h.2.1 q hqm) (fun k hk => ⟨h2 q hqm k hk, fun he => h.lines_ne hqm k hk he.symm⟩))
/-- At the end: as hunks that lie apart. -/
theorem Hks.toS (H : Hks base w v hs) : Kd.S k28 28 w base (fun _ => True) v (hs.map Hd.plain) := by
 obtain ⟨f, hf⟩ := H.place
 refine ⟨f, fun _ _ => trivial, hflat hs, ?_, ?_⟩
 ·rw [List.length_zipIdx, List.length_map]; exact H.1
 ·refine ⟨by rw [List.length_zipIdx, List.length_map]; exact hflat_length hs, fun j pj hj => ?_⟩
  rw [List.getElem?_zipIdx, List.getElem?_map] at hj
  obtain ⟨r, hr, rfl⟩ := Option.map_eq_some_iff.1 hj
  obtain ⟨q, hq, rfl⟩ := Option.map_eq_some_iff.1 hr
  have hqm : q ∈ hs := List.mem_of_getElem? hq
  have nv : ∀ k, q.has k → some k ≠ v.ownBlock := by
   intro k hk e
   obtain ⟨c1, h1⟩ := own_typed H.1 k e.symm
   obtain ⟨t, c2, ht, h2⟩ := (H.has_typed hqm hk).2.2
   rw [h1] at h2
   injection h2 with h2
   injection h2 with _ h2 _
   rcases ht with ht | ht <;> rw [ht] at h2 <;> exact absurd h2 (by decide)
  show Kd.M k28 w base _ q.plain (((hflat hs).drop (j * 3)).take 3)
  rw [hflat_seg hs j q hq]
  refine k28_mkM w base _ q.plain (Scr.toR (H.2.1 q hqm) (fun k hk => ⟨⟨trivial, nv k (.inl hk)⟩, ?_⟩) (fun e he k hk => ⟨⟨trivial, nv k (.inr ⟨e, he, hk⟩)⟩, ?_⟩))
  ·rw [hf j q k hq (.inl hk)]; simp
  ·rw [hf j q k hq (.inr ⟨e, he, hk⟩)]; simp
end
end Go.Proofs.Ytgobidmfbjmpkaa.HHunks
end
section
set_option linter.unusedVariables false
namespace Go.Proofs.Ytgobidmfbjmpkaa.HHunks
open Go Go.RowKit Go.Proofs.YtgobidmfbjmpkaaW.PrintWords Go.Proofs.YtgobidmfbjmpkaaW.PrintLast Go.Proofs.YtgobidmfbjmpkaaW.PrintMore Go.Proofs.Ytgobidmfbjmpkaa.P Go.Proofs.Ytgobidmfbjmpkaa.HEdits
section
variable {base : Nat} {w w' w1 w2 : World} {v v1 : Value} {hs : List Hd} {h : Hd} {es : List Ed}
theorem flat_app (es more : List Ed) : flat (es ++ more) = flat es ++ flat more := by simp [flat]
/-- A script that has grown by some edits. -/
theorem Scr.add (H : Scr base w2 v es) {more : List Ed} (hn : w1.ownsRow base 31 3 v1 (es.length + more.length) (flat es ++ flat more)) (hg : w2.grownBy w1 v.ownBlock)
  (hl : ∀ e ∈ more, Lns base w2 e.v e.l) (hf : ∀ p ∈ es, ∀ e ∈ more, NeRow p.v e.v) (hp : more.Pairwise fun p q => NeRow p.v q.v) : Scr base w1 v1 (es ++ more) := by
 refine ⟨by rw [flat_app, List.length_append]; exact hn, fun p hp' => ?_, List.pairwise_append.2 ⟨H.2.2, hp, hf⟩⟩
 have hL : Lns base w2 p.v p.l := by
  rcases List.mem_append.1 hp' with hp' | hp'
  ·exact H.2.1 p hp'
  ·exact hl p hp'
 exact own_other hL hg (own_type_ne hL H.1 (by decide))
/-- The last hunk's edits have grown, and are stored. -/
theorem Hks.addLast (H : Hks base w2 v (hs ++ [h])) {g cap n : Nat} (hv : v = .slice (some ⟨g, 0, none⟩) n cap) {more : List Ed}
  (hn : w1.ownsRow base 31 3 v1 (h.es.length + more.length) (flat h.es ++ flat more)) (hg : w2.grownBy w1 h.v.ownBlock) (hat : v1.ownBlock = h.v.ownBlock ∨ ∃ b, v1.ownBlock = some b ∧ w2.heap.size ≤ b)
  (hl : ∀ e ∈ more, Lns base w2 e.v e.l) (hf : ∀ e ∈ more, ∀ k, e.v.ownBlock = some k → ¬ has v (hs ++ [h]) k) (hp : more.Pairwise fun p q => NeRow p.v q.v) :
  Hks base (w1.setCell ⟨g, hs.length * 3 + 2, none⟩ v1) v (hs ++ [⟨h.fr, h.tt, v1, h.es ++ more⟩]) ∧ w1.cell? ⟨g, hs.length * 3 + 2, none⟩ = some h.v ∧ w1.frozen? ⟨g, hs.length * 3 + 2, none⟩ = false := by
 have hm : h ∈ hs ++ [h] := by simp
 have S1 : Scr base w1 v1 (h.es ++ more) := Scr.add (H.2.1 h hm) hn hg hl (fun p hp' e he k hk hk' => hf e he k hk' (.inr ⟨h, hm, .inr ⟨p, hp', hk⟩⟩)) hp
 refine H.later hv hg S1 (fun p hp' k hk hk' => ?_)
 have ap := (List.pairwise_append.1 H.2.2).2.2 p hp' h (by simp)
 have hpm : p ∈ hs ++ [h] := List.mem_append_left _ hp'
 have hlt : k < w2.heap.size := (H.has_typed hpm hk).2.1
 rcases hk' with hk' | ⟨e, he, hk'⟩
 ·replace hk' : v1.ownBlock = some k := hk'
  rcases hat with h1 | ⟨b, h1, h2⟩
  ·exact ap k hk (.inl (h1.symm.trans hk'))
  ·rw [h1] at hk'; cases hk'; omega
 ·replace he : e ∈ h.es ++ more := he
  rcases List.mem_append.1 he with he | he
  ·exact ap k hk (.inr ⟨e, he, hk'⟩)
  ·exact hf e he k hk' (.inr ⟨p, hpm, hk⟩)
theorem plain_snoc (hs : List Hd) (h : Hd) : (hs ++ [h]).map Hd.plain = hs.map Hd.plain ++ [h.plain] := by simp
end
end Go.Proofs.Ytgobidmfbjmpkaa.HHunks
end
section
set_option linter.unusedVariables false
namespace Go.Proofs.Ytgobidmfbjmpkaa.P
open Go Go.RowKit Go.Proofs.YtgobidmfbjmpkaaW.PrintWords Go.Proofs.YtgobidmfbjmpkaaW.PrintLast Go.Proofs.YtgobidmfbjmpkaaW.PrintMore Go.Proofs.Ytgobidmfbjmpkaa.HEdits
/-- A script with an edit more. -/
def join1 (s : List S31) (e : S31) : List S31 := match s.getLast? with
 | some x => if x.f0 = e.f0 then s.dropLast ++ [⟨x.f0, x.f1 + e.f1, x.f2 ++ e.f2⟩] else s ++ [e]
 | none => [e]
def joinL (s ms : List S31) : List S31 := ms.foldl join1 s
theorem join1_nil (e : S31) : join1 [] e = [e] := rfl
theorem join1_snoc (s : List S31) (x e : S31) : join1 (s ++ [x]) e = if x.f0 = e.f0 then s ++ [⟨x.f0, x.f1 + e.f1, x.f2 ++ e.f2⟩] else s ++ [x] ++ [e] := by
 unfold join1
 rw [List.getLast?_concat, List.dropLast_concat]
/-- How much an edit weighs. -/
def wt1 (e : S31) : Nat := e.f1.natAbs + e.f2.length + 1
def wt (s : List S31) : Nat := (s.map wt1).sum
theorem wt_nil : wt [] = 0 := rfl
theorem wt_cons (e : S31) (s : List S31) : wt (e :: s) = wt1 e + wt s := by simp [wt]
theorem wt_app (s t : List S31) : wt (s ++ t) = wt s + wt t := by simp [wt]
theorem wt_len (s : List S31) : s.length ≤ wt s := by
 induction s with
 | nil => exact Nat.le_refl _
 | cons e s ih => rw [wt_cons, List.length_cons]; unfold wt1; omega
theorem wt_mem {s : List S31} {e : S31} (h : e ∈ s) : wt1 e ≤ wt s := by
 induction s with
 | nil => cases h
 | cons x s ih =>
  rw [wt_cons]
  rcases List.mem_cons.1 h with rfl | h
  ·omega
  ·have := ih h; omega
theorem wt_join1 (s : List S31) (e : S31) : wt (join1 s e) ≤ wt s + wt1 e := by
 rcases List.eq_nil_or_concat s with h0 | ⟨t, x, h0⟩
 ·subst h0; rw [join1_nil, wt_cons, wt_nil]; omega
 ·rw [List.concat_eq_append] at h0
  subst h0
  rw [join1_snoc]
  split
  ·rw [wt_app, wt_app, wt_cons, wt_cons, wt_nil]
   unfold wt1
   simp only [List.length_append]
   omega
  ·rw [wt_app _ [e], wt_cons, wt_nil]; omega
theorem wt_joinL (ms : List S31) : ∀ s, wt (joinL s ms) ≤ wt s + wt ms := by
 induction ms with
 | nil => intro s; exact Nat.le_add_right _ _
 | cons e ms ih =>
  intro s
  have := ih (join1 s e)
  have := wt_join1 s e
  rw [wt_cons]
  show wt (joinL (join1 s e) ms) ≤ _
  omega
theorem joinL_snoc (s ms : List S31) (e : S31) : joinL s (ms ++ [e]) = join1 (joinL s ms) e := by unfold joinL; rw [List.foldl_append]; rfl
theorem joinL_take (s ms : List S31) (i : Nat) (h : i < ms.length) : joinL s (ms.take (i + 1)) = join1 (joinL s (ms.take i)) (rd_T31 ms (i : Int)) := by
 have e : ms[i]? = some (rd_T31 ms (i : Int)) := by simp [rd_T31, List.getD_eq_getElem?_getD, List.getElem?_eq_getElem h]
 rw [List.take_add_one, e]
 exact joinL_snoc _ _ _
theorem wt_take (ms : List S31) (i : Nat) : wt (ms.take i) ≤ wt ms := by
 have h : wt ms = wt (ms.take i) + wt (ms.drop i) := by rw [← wt_app, List.take_append_drop]
 omega
theorem wt_step (ms : List S31) (i : Nat) (h : i < ms.length) : wt (ms.take i) + wt1 (rd_T31 ms (i : Int)) ≤ wt ms := by
 have e : ms[i]? = some (rd_T31 ms (i : Int)) := by simp [rd_T31, List.getD_eq_getElem?_getD, List.getElem?_eq_getElem h]
 have h1 := wt_take ms (i + 1)
 rw [List.take_add_one, e, wt_app] at h1
 simp only [Option.toList, wt_cons, wt_nil] at h1
 omega
/-! ### What stays -/
/-- The blocks of a script. -/
def hasS (v : Value) (es : List Ed) (k : Nat) : Prop := v.ownBlock = some k ∨ ∃ e ∈ es, e.v.ownBlock = some k
/-- All but the script's blocks is as it was. -/
structure Agree (v : Value) (es : List Ed) (w w1 : World) : Prop where
 os : w1.os = w.os
 tape : w1.tape = w.tape
 output : w1.output = w.output
 size : w.heap.size ≤ w1.heap.size
 block : ∀ k, k < w.heap.size → ¬ hasS v es k → w1.heap[k]? = w.heap[k]?
theorem Agree.refl (v : Value) (es : List Ed) (w : World) : Agree v es w w := ⟨rfl, rfl, rfl, Nat.le_refl _, fun _ _ _ => rfl⟩
theorem Agree.grown {v : Value} {es : List Ed} {w w1 w2 : World} {row : Option Nat} (h : Agree v es w w1) (hg : w1.grownBy w2 row) (hr : ∀ k, row = some k → hasS v es k ∨ w.heap.size ≤ k) : Agree v es w w2 :=
 ⟨hg.os.trans h.os, hg.tape.trans h.tape, hg.output.trans h.output, Nat.le_trans h.size hg.size, fun k hk hn => (hg.block k (Nat.lt_of_lt_of_le hk h.size) (fun e => by
  rcases hr k e.symm with h1 | h1
  ·exact hn h1
  ·omega)).trans (h.block k hk hn)⟩
theorem Agree.below {v : Value} {es : List Ed} {w w1 w2 : World} (h : Agree v es w w1) (hb : Below w1.heap.size w1 w2) : Agree v es w w2 :=
 ⟨hb.os.trans h.os, hb.tape.trans h.tape, hb.output.trans h.output, Nat.le_trans h.size hb.size, fun k hk hn => (hb.block k (Nat.lt_of_lt_of_le hk h.size)).trans (h.block k hk hn)⟩
theorem Agree.set {v : Value} {es : List Ed} {w w1 : World} (h : Agree v es w w1) (p : Addr) (u : Value) (hr : hasS v es p.block ∨ w.heap.size ≤ p.block) : Agree v es w (w1.setCell p u) :=
 ⟨h.os, h.tape, h.output, by simpa [World.setCell] using h.size, fun k hk hn => (Below.heap_setCell _ _ _ _ (fun e => by
  subst e
  rcases hr with h1 | h1
  ·exact hn h1
  ·omega)).trans (h.block k hk hn)⟩
/-- Edits that are read, whatever becomes of the script's blocks. -/
structure More (v : Value) (es : List Ed) (A : Option Addr) (ms : List S31) (w : World) : Prop where
 rd : ∀ w1, Agree v es w w1 → Kd.C k31 w1 A ms.length ms
 off : ∀ ad, A = some ad → 0 < ms.length → ad.block < w.heap.size ∧ ¬ hasS v es ad.block
theorem add_block (ad : Addr) (n : Nat) : (ad.add n).block = ad.block := by unfold Addr.add; split <;> rfl
theorem More.at {v : Value} {es : List Ed} {A : Option Addr} {ms : List S31} {w : World} (h : More v es A ms w) (i : Nat) (hi : i < ms.length) :
  ∃ ad A2 c2, A = some ad ∧ (rd_T31 ms (i : Int)).f2.length ≤ c2 ∧ ∀ w1, Agree v es w w1 → w1.cell? (ad.add (i * 3)) = some (.int .i64 (rd_T31 ms (i : Int)).f0) ∧ w1.cell? ⟨(ad.add (i * 3)).block, (ad.add (i * 3)).off + 1, none⟩ = some (.int .i64 (rd_T31 ms (i : Int)).f1) ∧
   w1.cell? ⟨(ad.add (i * 3)).block, (ad.add (i * 3)).off + 2, none⟩ = some (.slice A2 (rd_T31 ms (i : Int)).f2.length c2) ∧ Kd.C Kd.string w1 A2 (rd_T31 ms (i : Int)).f2.length (rd_T31 ms (i : Int)).f2 := by
 obtain ⟨ad, A2, c2, e1, _, _, hy2, hl2, _⟩ := at_T31 (h.rd w (Agree.refl _ _ _)) (i : Int) (by omega) (by omega)
 refine ⟨ad, A2, c2, e1, hl2, fun w1 ha => ?_⟩
 obtain ⟨ad', A2', c2', e1', h0, h1, h2, _, hC⟩ := at_T31 (h.rd w1 ha) (i : Int) (by omega) (by omega)
 rw [e1] at e1'
 obtain rfl := Option.some.inj e1'
 rw [Int.toNat_natCast] at hy2 h0 h1 h2
 obtain ⟨ho1, ho2⟩ := h.off ad e1 (by omega)
 have hcell : w1.cell? ⟨(ad.add (i * 3)).block, (ad.add (i * 3)).off + 2, none⟩ = w.cell? ⟨(ad.add (i * 3)).block, (ad.add (i * 3)).off + 2, none⟩ :=
  World.cell?_of_block (w := w) (by rw [add_block]; exact ha.block _ ho1 ho2)
 rw [hy2, h2] at hcell
 injection hcell with hcell
 injection hcell with q1 q2 q3
 subst q1 q3
 exact ⟨h0, h1, h2, hC⟩
/-- The lines of an edit, as what an append takes. -/
theorem src_of {w : World} {A : Option Addr} {l : List ByteArray} (h : Kd.C Kd.string w A l.length l) : (A = none ∧ l.length = 0) ∨ ∃ ad, A = some ad ∧ ∀ j u, (encs Value.string l)[j]? = some u → w.cell? (ad.add j) = some u := by
 have hr := Kd.reads_of_C (enc := Value.string) (d := ByteArray.empty) (h1 := fun _ => rfl) h
 cases A with
 | none =>
  refine .inl ⟨rfl, ?_⟩
  rcases Nat.eq_zero_or_pos l.length with h0 | h0
  ·exact h0
  ·obtain ⟨ad, e, _⟩ := hr.2.2 h0
   cases e
 | some ad =>
  refine .inr ⟨ad, rfl, fun j u hu => ?_⟩
  have hj : j < l.length := by
   have := (List.getElem?_eq_some_iff.1 hu).1
   simpa [encs] using this
  obtain ⟨ad', e, hc⟩ := hr.2.2 (by omega)
  obtain rfl := Option.some.inj e
  rw [hc j hj]
  simp [encs, List.getElem?_eq_getElem hj] at hu
  rw [← hu, List.getD_eq_getElem?_getD, List.getElem?_eq_getElem hj]
  rfl
/-- What lies below the script is read as it was. -/
theorem More.of_below {v : Value} {es : List Ed} {B : Nat} {w0 w : World} {A : Option Addr} {ms : List S31} (HS : Scr B w v es) (hB : w0.heap.size ≤ B) (hb : Below w0.heap.size w0 w) (hC : Kd.C k31 w0 A ms.length ms) : More v es A ms w := by
 have hn : ∀ k, k < w0.heap.size → ¬ hasS v es k := fun k hk hh => by
  have := (HHunks.Scr.has_typed HS hh).1
  omega
 have sz := hb.size
 refine ⟨fun w1 ha => Kd.C_below hC ⟨ha.os.trans hb.os, ha.tape.trans hb.tape, ha.output.trans hb.output, Nat.le_trans sz ha.size, fun k hk => (ha.block k (by omega) (hn k hk)).trans (hb.block k hk)⟩, fun ad e hp => ?_⟩
 have : ad.block < w0.heap.size := by
  obtain ⟨ad', _, _, e', h0, _⟩ := at_T31 hC 0 (Int.le_refl _) (by omega)
  rw [e] at e'
  obtain rfl := Option.some.inj e'
  have := World.block_lt_of_cell? (w := w0) _ h0
  rwa [add_block] at this
 exact ⟨by omega, hn _ this⟩
theorem Scr.move {base : Nat} {w w1 : World} {v : Value} {es : List Ed} (h : Scr base w v es) (hm : ∀ k, hasS v es k → w1.heap[k]? = w.heap[k]?) : Scr base w1 v es :=
 ⟨own_move h.1 (fun k hk => hm k (.inl hk)), fun e he => own_move (h.2.1 e he) (fun k hk => hm k (.inr ⟨e, he, hk⟩)), h.2.2⟩
/-- A script that lies apart. -/
theorem More.of_scr {v : Value} {es ks : List Ed} {b0 m c : Nat} {X : Option Addr} {w : World} (hS : Scr b0 w (.slice X m c) ks) (hd : ∀ k, hasS (.slice X m c) ks k → ¬ hasS v es k) : More v es X (ks.map Ed.plain) w := by
 have hm : m = ks.length := by
  obtain ⟨A', c', h⟩ := own_slice hS.1
  injection h
 subst hm
 refine ⟨fun w1 ha => ?_, fun ad e _ => ?_⟩
 ·have h1 : Scr b0 w1 (.slice X ks.length c) ks := Scr.move hS (fun k hk => ha.block k (HHunks.Scr.has_typed hS hk).2.1 (hd k hk))
  obtain ⟨A', c', e, _, hC⟩ := Kd.S_reads h1.toS
  rw [List.length_map] at e ⊢
  rw [List.length_map] at hC
  injection e with e1 _ e3
  rw [e1]
  exact hC
 ·have ho : (Value.slice X ks.length c).ownBlock = some ad.block := by rw [e]; rfl
  exact ⟨(HHunks.Scr.has_typed hS (.inl ho)).2.1, hd _ (.inl ho)⟩
end Go.Proofs.Ytgobidmfbjmpkaa.P
end
