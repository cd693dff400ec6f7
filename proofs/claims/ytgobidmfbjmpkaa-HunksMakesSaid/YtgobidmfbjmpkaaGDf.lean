/- Words of this session: a list of rows of whole numbers, each in a block of its own, the last of which is still written. · How many lines two lists have in common: the plain theory of it. No program in sight. · How far one comes through two lists, how many lines may stay, the shortest script, and what is first: plain. No program in sight. · What myers.search answers: how far one comes by no change, by one, and so on; by a walk of its text. · What myers.noted answers, of a script of the call's own: one step more; by a walk of its text. · What the closure of myers.Diff answers: may one come there by so many changes; by a walk of its text. · What myers.Diff answers: the shortest script, step by step; by a walk of its text. -/
import Derived.Test.YtgobidmfbjmpkaaPx0
import Derived.Test.YtgobidmfbjmpkaaPxf61
import Derived.WalkMore
import Derived.IntWalk
import Derived.Test.YtgobidmfbjmpkaaGHk
section
set_option linter.unusedVariables false
set_option linter.unusedSimpArgs false
namespace Go.Proofs.Ytgobidmfbjmpkaa.HRows
open Go Go.RowKit Go.Proofs.YtgobidmfbjmpkaaW.PrintWords Go.Proofs.YtgobidmfbjmpkaaW.PrintLast Go.Proofs.YtgobidmfbjmpkaaW.PrintMore

def cellOf (p : Nat × List Int) : Value := .slice (some ⟨p.1, 0, none⟩) p.2.length p.2.length
def blkOf (p : Nat × List Int) : Obj := .cells (nums .i64 p.2).toArray 3 (0, 0)
/-- v is a list (elements of type e) of the rows rs, from base on. -/
def Out (e base : Nat) (w : World) (v : Value) (rs : List (Nat × List Int)) : Prop :=
 w.ownsRow base e 1 v rs.length (rs.map cellOf) ∧ (∀ p ∈ rs, base ≤ p.1 ∧ w.heap[p.1]? = some (blkOf p)) ∧ rs.Pairwise (fun p q => p.1 ≠ q.1)
section
variable {e base : Nat} {w w' : World} {v : Value} {rs : List (Nat × List Int)} {p : Nat × List Int}
theorem Out.nil (e base : Nat) (w : World) : Out e base w (.slice none 0 0) [] := ⟨own_nil _ _ _ _, by simp, .nil⟩
theorem Out.lt (h : Out e base w v rs) (hp : p ∈ rs) : p.1 < w.heap.size := blk_lt (h.2.1 p hp).2
theorem Out.below (h : Out e base w v rs) (hb : Below w.heap.size w w') : Out e base w' v rs :=
 ⟨pw_own_below h.1 hb, fun p hp => ⟨(h.2.1 p hp).1, (hb.block _ (h.lt hp)).trans (h.2.1 p hp).2⟩, h.2.2⟩
theorem Out.drewN (h : Out e base w v rs) (m : Nat) : Out e base (w.drewN m) v rs := h
theorem Out.ne (h : Out e base w v rs) (he : e ≠ 3) (hp : p ∈ rs) : some p.1 ≠ v.ownBlock := own_ne h.1 (h.2.1 p hp).2 he
/-- A row more: the list grown, the row's block as it was. -/
theorem Out.snoc (he : e ≠ 3) (h : Out e base w v rs) {v' : Value} (hn : w'.ownsRow base e 1 v' (rs.map cellOf ++ [cellOf p]).length (rs.map cellOf ++ [cellOf p])) (hg : w.grownBy w' v.ownBlock)
  (hb : base ≤ p.1) (hp : w.heap[p.1]? = some (blkOf p)) (hd : ∀ q ∈ rs, q.1 ≠ p.1) : Out e base w' v' (rs ++ [p]) := by
 have hv : some p.1 ≠ v.ownBlock := own_ne h.1 hp he
 refine ⟨?_, fun q hq => ?_, List.pairwise_append.2 ⟨h.2.2, List.pairwise_singleton _ _, fun q hq r hr => by rw [List.mem_singleton.1 hr]; exact hd q hq⟩⟩
 ·have e1 : (rs.map cellOf ++ [cellOf p]).length = (rs ++ [p]).length := by simp
  rw [← e1, List.map_append]
  exact hn
 ·rcases List.mem_append.1 hq with hq | hq
  ·exact ⟨(h.2.1 q hq).1, (hg.block _ (h.lt hq) (h.ne he hq)).trans (h.2.1 q hq).2⟩
  ·rw [List.mem_singleton.1 hq]
   exact ⟨hb, (hg.block _ (blk_lt hp) hv).trans hp⟩
/-- A number stored into the last row. -/
theorem Out.store (he : e ≠ 3) {g : Nat} {row : List Int} (h : Out e base w v (rs ++ [(g, row)])) (hd : ∀ q ∈ rs, q.1 ≠ g) (i : Nat) (x : Int) :
  Out e base (w.setCell ⟨g, i, none⟩ (.int .i64 x)) v (rs ++ [(g, row.set i x)]) := by
 have hm : (g, row) ∈ rs ++ [(g, row)] := by simp
 have hv : some g ≠ v.ownBlock := h.ne he hm
 refine ⟨?_, fun q hq => ?_, List.pairwise_append.2 ⟨(List.pairwise_append.1 h.2.2).1, List.pairwise_singleton _ _, fun q hq r hr => by rw [List.mem_singleton.1 hr]; exact hd q hq⟩⟩
 ·have h1 := own_setCell h.1 (p := ⟨g, i, none⟩) hv (.int .i64 x)
  have e1 : (rs ++ [(g, row.set i x)]).map cellOf = (rs ++ [(g, row)]).map cellOf := by simp [cellOf]
  have e2 : (rs ++ [(g, row.set i x)]).length = (rs ++ [(g, row)]).length := by simp
  rw [e1, e2]
  exact h1
 ·rcases List.mem_append.1 hq with hq | hq
  ·have h2 := h.2.1 q (List.mem_append_left _ hq)
   exact ⟨h2.1, blk_far h2.2 (hd q hq) _⟩
  ·rw [List.mem_singleton.1 hq]
   refine ⟨(h.2.1 _ hm).1, ?_⟩
   have h2 := blk_set (h.2.1 _ hm).2 i (.int .i64 x)
   refine h2.trans ?_
   unfold blkOf
   congr 2
   apply Array.toList_inj.1
   simp [nums, List.map_set]
theorem Out.cell {g : Nat} {row : List Int} (h : Out e base w v rs) (hm : (g, row) ∈ rs) (i : Nat) (hi : i < row.length) : w.cell? ⟨g, i, none⟩ = some (.int .i64 row[i]) ∧ w.frozen? ⟨g, i, none⟩ = false := by
 have hb := (h.2.1 _ hm).2
 refine ⟨(blk_cell hb i).trans ?_, blk_frozen hb i⟩
 simp [nums, List.getElem?_eq_getElem hi]
def lastA (rs : List (Nat × List Int)) : Option Addr := rs.getLast?.map fun p => ⟨p.1, 0, none⟩
def lastR (rs : List (Nat × List Int)) : List Int := (rs.getLast?.map (·.2)).getD []
theorem lastA_snoc (rs : List (Nat × List Int)) (p : Nat × List Int) : lastA (rs ++ [p]) = some ⟨p.1, 0, none⟩ := by simp [lastA]
theorem lastR_snoc (rs : List (Nat × List Int)) (p : Nat × List Int) : lastR (rs ++ [p]) = p.2 := by simp [lastR]
theorem row_reads {g : Nat} {row : List Int} (hb : w.heap[g]? = some (blkOf (g, row))) (hl : row.length ≤ 9223372036854775807) : Kd.C (Kd.int .i64) w (some ⟨g, 0, none⟩) row.length row := by
 refine Kd.C_of_reads (enc := Value.int .i64) (d := (0 : Int)) (h1 := fun _ => rfl) ⟨rfl, hl, fun _ => ⟨_, rfl, fun j hj => ?_⟩⟩
 have h1 : (⟨g, 0, none⟩ : Addr).add j = ⟨g, j, none⟩ := add_plain g j
 rw [h1]
 refine (blk_cell hb j).trans ?_
 simp [nums, List.getElem?_eq_getElem hj, List.getD_eq_getElem?_getD]
theorem Out.last {tl : List (Nat × List Int)} (h : Out e base w v (rs ++ tl)) (hl : ∀ p ∈ rs, p.2.length ≤ 9223372036854775807) : Kd.C (Kd.int .i64) w (lastA rs) (lastR rs).length (lastR rs) := by
 rcases List.eq_nil_or_concat rs with h0 | ⟨rs', p, h0⟩
 ·subst h0
  exact Kd.C_nil _ _
 ·rw [List.concat_eq_append] at h0
  subst h0
  rw [lastA_snoc, lastR_snoc]
  exact row_reads (h.2.1 p (by simp)).2 (hl p (by simp))
theorem Out.place (h : Out e base w v rs) : ∃ f : Nat → Nat, ∀ j p, rs[j]? = some p → f p.1 = j := by
 classical
 have hi : ∀ (i j : Nat) (p q : Nat × List Int), rs[i]? = some p → rs[j]? = some q → p.1 = q.1 → i = j := by
  intro i j p q hp hq he
  obtain ⟨h1, rfl⟩ := List.getElem?_eq_some_iff.1 hp
  obtain ⟨h2, rfl⟩ := List.getElem?_eq_some_iff.1 hq
  have hpw := List.pairwise_iff_getElem.1 h.2.2
  rcases Nat.lt_trichotomy i j with hlt | heq | hlt
  ·exact absurd he (hpw i j h1 h2 hlt)
  ·exact heq
  ·exact absurd he.symm (hpw j i h2 h1 hlt)
 refine ⟨fun k => if hk : ∃ j : Nat, ∃ p : Nat × List Int, rs[j]? = some p ∧ p.1 = k then hk.choose else 0, fun j p hj => ?_⟩
 have hk : ∃ j' : Nat, ∃ p' : Nat × List Int, rs[j']? = some p' ∧ p'.1 = p.1 := ⟨j, p, hj, rfl⟩
 show (if hk : ∃ j' : Nat, ∃ p' : Nat × List Int, rs[j']? = some p' ∧ p'.1 = p.1 then hk.choose else 0) = j
 rw [dif_pos hk]
 obtain ⟨p', h1, h2⟩ := hk.choose_spec
 exact hi _ _ _ _ h1 hj h2
/-- At the end: as rows of rows that lie apart. -/
theorem Out.toS (he : e ≠ 3) (h : Out e base w v rs) (hl : ∀ p ∈ rs, p.2.length ≤ 9223372036854775807) : Kd.S (Kd.slice 3 (Kd.int .i64)) e w base (fun _ => True) v (rs.map (·.2)) := by
 obtain ⟨f, hf⟩ := h.place
 refine ⟨f, fun _ _ => trivial, rs.map cellOf, ?_, ?_⟩
 ·rw [List.length_zipIdx, List.length_map]; exact h.1
 ·refine ⟨by simp [Kd.slice, Kd.tag], fun j pj hj => ?_⟩
  rw [List.getElem?_zipIdx, List.getElem?_map] at hj
  obtain ⟨r, hr, rfl⟩ := Option.map_eq_some_iff.1 hj
  obtain ⟨q, hq, rfl⟩ := Option.map_eq_some_iff.1 hr
  have hqm : q ∈ rs := List.mem_of_getElem? hq
  have hjl := (List.getElem?_eq_some_iff.1 hq).1
  have hseg : ((rs.map cellOf).drop (j * 1)).take 1 = [cellOf q] := by
   rw [Nat.mul_one, List.drop_eq_getElem_cons (by simpa using hjl)]
   simp only [List.take_succ_cons, List.take_zero, List.getElem_map]
   rw [(List.getElem?_eq_some_iff.1 hq).2]
  show Kd.M (Kd.slice 3 (Kd.int .i64)) w base _ q.2 (((rs.map cellOf).drop (j * 1)).take 1)
  rw [hseg]
  refine ⟨_, rfl, fun k hk => ?_, nums .i64 q.2, ?_, ?_⟩
  ·have : q.1 = k := by simpa [Value.ownBlock, cellOf] using hk
   subst this
   exact ⟨⟨trivial, h.ne he hqm⟩, by rw [hf j q hq]; simp⟩
  ·have h1 := (h.2.1 q hqm).1
   have h2 := (h.2.1 q hqm).2
   refine ⟨by simp [nums, Kd.int, Kd.scalar], .inr ⟨q.1, q.2.length, (nums .i64 q.2).toArray, rfl, h1, h2, Nat.le_refl _, by have := hl q hqm; simpa [maxLen] using this, ?_, ?_⟩⟩
   ·simp [nums, Kd.int, Kd.scalar]
   ·rw [List.take_of_length_le (by simp [nums, Kd.int, Kd.scalar])]
  ·refine ⟨by simp [nums, Kd.int, Kd.scalar], fun i x hx => ?_⟩
   have hil := (List.getElem?_eq_some_iff.1 hx).1
   show ((nums .i64 q.2).drop (i * 1)).take 1 = [Value.int .i64 x]
   rw [Nat.mul_one, List.drop_eq_getElem_cons (by simpa [nums] using hil)]
   simp only [List.take_succ_cons, List.take_zero, nums, List.getElem_map]
   rw [(List.getElem?_eq_some_iff.1 hx).2]
end
end Go.Proofs.Ytgobidmfbjmpkaa.HRows
end
section
set_option linter.unusedVariables false
set_option linter.unusedSimpArgs false
instance lawfulBytes : LawfulBEq ByteArray where
 eq_of_beq := by
  intro a b h
  cases a; cases b
  exact congrArg ByteArray.mk (eq_of_beq h)
 rfl := by
  intro a
  cases a
  exact beq_self_eq_true (α := Array UInt8) _
namespace Go.Proofs.Ytgobidmfbjmpkaa.Q

/-- How many of b's lines are among a's, each of a's taken once. -/
def comm (a : List ByteArray) : List ByteArray → Nat
 | [] => 0
 | y :: ys => if y ∈ a then comm (a.erase y) ys + 1 else comm a ys

theorem comm_cons (a : List ByteArray) (y : ByteArray) (ys : List ByteArray) : comm a (y :: ys) = if y ∈ a then comm (a.erase y) ys + 1 else comm a ys := rfl
theorem comm_nil (a : List ByteArray) : comm a [] = 0 := rfl
theorem comm_nil_left (b : List ByteArray) : comm [] b = 0 := by
 induction b with
 | nil => rfl
 | cons y ys ih => rw [comm_cons, if_neg (by simp), ih]
theorem comm_le (b : List ByteArray) : ∀ a, comm a b ≤ b.length := by
 induction b with
 | nil => intro a; simp [comm]
 | cons y ys ih =>
  intro a
  rw [comm_cons]
  split
  ·have := ih (a.erase y); simp only [List.length_cons]; omega
  ·have := ih a; simp only [List.length_cons]; omega
theorem comm_perm_left (b : List ByteArray) : ∀ {a a' : List ByteArray}, a.Perm a' → comm a b = comm a' b := by
 induction b with
 | nil => intro a a' h; rfl
 | cons y ys ih =>
  intro a a' h
  rw [comm_cons, comm_cons, ih (h.erase y), ih h]
  by_cases hm : y ∈ a
  ·rw [if_pos hm, if_pos (h.mem_iff.1 hm)]
  ·rw [if_neg hm, if_neg (fun hh => hm (h.mem_iff.2 hh))]
/-- A line more on the left side. -/
theorem comm_cons_left (b : List ByteArray) : ∀ (a : List ByteArray) (y : ByteArray), comm (y :: a) b = comm a b + if a.count y < b.count y then 1 else 0 := by
 induction b with
 | nil => intro a y; simp [comm]
 | cons x xs ih =>
  intro a y
  by_cases hxy : x = y
  ·subst hxy
   rw [comm_cons, if_pos (by simp), List.erase_cons_head, comm_cons]
   by_cases hm : x ∈ a
   ·rw [if_pos hm]
    have hp : a.Perm (x :: a.erase x) := List.perm_cons_erase hm
    rw [comm_perm_left xs hp, ih]
    have hc : a.count x = (a.erase x).count x + 1 := by
     rw [List.count_erase_self]
     have := List.count_pos_iff.2 hm
     omega
    have hc2 : (x :: xs).count x = xs.count x + 1 := List.count_cons_self
    rw [hc, hc2]
    split <;> split <;> omega
   ·rw [if_neg hm]
    have h0 : a.count x = 0 := List.count_eq_zero.2 hm
    have hc2 : (x :: xs).count x = xs.count x + 1 := List.count_cons_self
    rw [h0, hc2, if_pos (by omega)]
  ·have hne : (y == x) = false := by
    rw [beq_eq_false_iff_ne]; exact fun h => hxy h.symm
   have hc : (x :: xs).count y = xs.count y := by
    rw [List.count_cons]; simp [hxy]
   rw [comm_cons, comm_cons, hc]
   by_cases hm : x ∈ a
   ·rw [if_pos (List.mem_cons_of_mem _ hm), if_pos hm, List.erase_cons_tail (by simpa using hne), ih]
    rw [List.count_erase_of_ne (fun h => hxy h.symm)]
    omega
   ·rw [if_neg (by simp only [List.mem_cons, not_or]; exact ⟨hxy, hm⟩), if_neg hm, ih]

theorem comm_self (a : List ByteArray) : comm a a = a.length := by
 induction a with
 | nil => rfl
 | cons y ys ih => rw [comm_cons, if_pos (by simp), List.erase_cons_head, ih]; rfl
theorem comm_cons_both (a b : List ByteArray) (y : ByteArray) : comm (y :: a) (y :: b) = comm a b + 1 := by
 rw [comm_cons, if_pos (by simp), List.erase_cons_head]
theorem comm_perm_right (a : List ByteArray) {b b' : List ByteArray} (h : b.Perm b') : comm a b = comm a b' := by
 induction a with
 | nil => rw [comm_nil_left, comm_nil_left]
 | cons y ys ih => rw [comm_cons_left, comm_cons_left, ih, h.count_eq]
theorem comm_symm (a b : List ByteArray) : comm a b = comm b a := by
 induction b generalizing a with
 | nil => rw [comm_nil, comm_nil_left]
 | cons y ys ih =>
  rw [comm_cons, comm_cons_left]
  by_cases hm : y ∈ a
  ·rw [if_pos hm]
   have hp : a.Perm (y :: a.erase y) := List.perm_cons_erase hm
   rw [comm_perm_right ys hp, comm_symm_aux ys (a.erase y) y, ← ih]
   have hc : a.count y = (a.erase y).count y + 1 := by
    rw [List.count_erase_self]
    have := List.count_pos_iff.2 hm
    omega
   rw [hc]
   split <;> split <;> omega
  ·rw [if_neg hm, ih]
   have h0 : a.count y = 0 := List.count_eq_zero.2 hm
   rw [h0, if_neg (by omega)]
   rfl
where
 comm_symm_aux (a b : List ByteArray) (y : ByteArray) : comm a (y :: b) = comm a b + if b.count y < a.count y then 1 else 0 := by
  induction a generalizing b with
  | nil => simp [comm_nil_left]
  | cons x xs ih =>
   rw [comm_cons_left, comm_cons_left, ih]
   by_cases hxy : x = y
   ·subst hxy
    have h1 : (x :: b).count x = b.count x + 1 := List.count_cons_self
    have h2 : (x :: xs).count x = xs.count x + 1 := List.count_cons_self
    rw [h1, h2]
    split <;> split <;> split <;> split <;> omega
   ·have hyx : ¬ y = x := fun h => hxy h.symm
    have h1 : (y :: b).count x = b.count x := by rw [List.count_cons]; simp [hyx]
    have h2 : (x :: xs).count y = xs.count y := by rw [List.count_cons]; simp [hxy]
    rw [h1, h2]
    omega
theorem comm_cons_right (a b : List ByteArray) (y : ByteArray) : comm a (y :: b) = comm a b + if b.count y < a.count y then 1 else 0 := by
 rw [comm_symm, comm_cons_left, comm_symm b a]
theorem comm_le_left (a b : List ByteArray) : comm a b ≤ a.length := by rw [comm_symm]; exact comm_le a b
theorem comm_not_mem (a b : List ByteArray) (y : ByteArray) (h : y ∉ b) : comm (y :: a) b = comm a b := by
 rw [comm_cons_left, List.count_eq_zero.2 h, if_neg (by omega)]; rfl
/-- The same lines, each as often. -/
theorem comm_full (a : List ByteArray) : ∀ b : List ByteArray, comm a b = a.length ↔ ∀ x, a.count x ≤ b.count x := by
 induction a with
 | nil => intro b; simp [comm_nil_left]
 | cons y ys ih =>
  intro b
  rw [comm_cons_left]
  have hle := comm_le_left ys b
  constructor
  ·intro h
   have h1 : comm ys b = ys.length ∧ ys.count y < b.count y := by
    simp only [List.length_cons] at h
    split at h
    ·exact ⟨by omega, by assumption⟩
    ·omega
   intro x
   have h2 := (ih b).1 h1.1 x
   by_cases hxy : y = x
   ·subst hxy; rw [List.count_cons_self]; omega
   ·rw [List.count_cons]; simp [hxy]; exact h2
  ·intro h
   have h1 : ∀ x, ys.count x ≤ b.count x := fun x => Nat.le_trans (List.count_le_count_cons) (h x)
   have h2 := h y
   rw [List.count_cons_self] at h2
   rw [(ih b).2 h1, if_pos (by omega)]
   rfl
theorem comm_zero (a : List ByteArray) : ∀ b : List ByteArray, comm a b = 0 ↔ ∀ x ∈ a, x ∉ b := by
 induction a with
 | nil => intro b; simp [comm_nil_left]
 | cons y ys ih =>
  intro b
  rw [comm_cons_left]
  constructor
  ·intro h
   have h1 := (ih b).1 (by omega)
   have h2 : ¬ ys.count y < b.count y := by intro hh; rw [if_pos hh] at h; omega
   intro x hx
   rcases List.mem_cons.1 hx with rfl | hx
   ·intro hb
    by_cases hm : x ∈ ys
    ·exact h1 x hm hb
    ·have : ys.count x = 0 := List.count_eq_zero.2 hm
     have := List.count_pos_iff.2 hb
     omega
   ·exact h1 x hx
  ·intro h
   have h1 := (ih b).2 (fun x hx => h x (List.mem_cons_of_mem _ hx))
   have h2 : b.count y = 0 := List.count_eq_zero.2 (h y (by simp))
   rw [h1, h2, if_neg (by omega)]
theorem comm_append_left (c : ByteArray) (b : List ByteArray) (h : c ∉ b) (n : Nat) (a : List ByteArray) : comm (a ++ List.replicate n c) b = comm a b := by
 rw [comm_perm_left b (List.perm_append_comm (l₁ := a) (l₂ := List.replicate n c))]
 induction n with
 | zero => rfl
 | succ n ih => rw [List.replicate_succ, List.cons_append, comm_not_mem _ _ _ h, ih]
theorem comm_snoc (a b : List ByteArray) (x : ByteArray) : comm (a ++ [x]) b = comm a b + if a.count x < b.count x then 1 else 0 := by
 rw [comm_perm_left b (List.perm_append_comm (l₁ := a) (l₂ := [x]))]
 exact comm_cons_left b a x
theorem comm_twice (a : List ByteArray) : ∀ b : List ByteArray, comm (a ++ a) (b ++ b) = 2 * comm a b := by
 induction a with
 | nil => intro b; simp [comm_nil_left]
 | cons y ys ih =>
  intro b
  have hp : ((y :: ys) ++ (y :: ys)).Perm (y :: y :: (ys ++ ys)) := by
   rw [List.cons_append]
   exact List.Perm.cons y List.perm_middle
  rw [comm_perm_left _ hp, comm_cons_left, comm_cons_left, ih, comm_cons_left]
  have h1 : (y :: (ys ++ ys)).count y = 2 * ys.count y + 1 := by rw [List.count_cons_self, List.count_append]; omega
  have h2 : (ys ++ ys).count y = 2 * ys.count y := by rw [List.count_append]; omega
  have h3 : (b ++ b).count y = 2 * b.count y := by rw [List.count_append]; omega
  rw [h1, h2, h3]
  split <;> split <;> split <;> omega

/-- The score. -/
def score (a b : List ByteArray) : Int := if a.length + b.length = 0 then 100 else 200 * (comm a b : Int) / ((a.length + b.length : Nat) : Int)
theorem score_symm (a b : List ByteArray) : score a b = score b a := by
 unfold score; rw [comm_symm a b, Nat.add_comm]
theorem score_perm {a a' b b' : List ByteArray} (ha : a.Perm a') (hb : b.Perm b') : score a b = score a' b' := by
 unfold score; rw [comm_perm_left b ha, comm_perm_right a' hb, ha.length_eq, hb.length_eq]
theorem score_range (a b : List ByteArray) : 0 ≤ score a b ∧ score a b ≤ 100 := by
 unfold score
 split
 ·omega
 ·rename_i h
  have h1 := comm_le_left a b
  have h2 := comm_le b a
  constructor
  ·exact Int.ediv_nonneg (by omega) (by omega)
  ·exact Int.le_of_lt_add_one (Int.ediv_lt_of_lt_mul (by omega) (by omega))
theorem score_full (a b : List ByteArray) : score a b = 100 ↔ ∀ x, a.count x = b.count x := by
 have h1 := comm_le_left a b
 have h2 := comm_le b a
 unfold score
 constructor
 ·intro h
  split at h
  ·rename_i h0
   have ha : a = [] := List.eq_nil_of_length_eq_zero (by omega)
   have hb : b = [] := List.eq_nil_of_length_eq_zero (by omega)
   subst ha hb; intro x; rfl
  ·rename_i h0
   have h3 : 100 * ((a.length + b.length : Nat) : Int) ≤ 200 * (comm a b : Int) := by
    have := Int.ediv_mul_le (200 * (comm a b : Int)) (b := ((a.length + b.length : Nat) : Int)) (by omega)
    rw [h] at this
    exact this
   have h4 := (comm_full a b).1 (by omega)
   have h5 := (comm_full b a).1 (by rw [comm_symm]; omega)
   intro x
   have := h4 x
   have := h5 x
   omega
 ·intro h
  have h4 := (comm_full a b).2 (fun x => Nat.le_of_eq (h x))
  have h5 := (comm_full b a).2 (fun x => Nat.le_of_eq (h x).symm)
  rw [comm_symm] at h5
  split
  ·rfl
  ·rename_i h0
   rw [h4]
   have h6 : 200 * (a.length : Int) = 100 * ((a.length + b.length : Nat) : Int) := by omega
   rw [h6, Int.mul_ediv_cancel _ (by omega)]
theorem score_twice (a b : List ByteArray) : score (a ++ a) (b ++ b) = score a b := by
 unfold score
 rw [comm_twice]
 by_cases h : a.length + b.length = 0
 ·rw [if_pos h, if_pos (by simp only [List.length_append]; omega)]
 ·rw [if_neg h, if_neg (by simp only [List.length_append]; omega)]
  have h1 : (200 * ((2 * comm a b : Nat) : Int)) = 2 * (200 * (comm a b : Int)) := by omega
  have h2 : (((a ++ a).length + (b ++ b).length : Nat) : Int) = 2 * ((a.length + b.length : Nat) : Int) := by simp only [List.length_append]; omega
  rw [h1, h2, Int.mul_ediv_mul_of_pos _ _ (by omega)]
theorem score_more (a b : List ByteArray) (c : ByteArray) (n : Nat) (h : c ∉ b) : score (a ++ List.replicate n c) b ≤ score a b := by
 have hr := score_range (a ++ List.replicate n c) b
 unfold score at *
 rw [comm_append_left c b h] at *
 by_cases h0 : a.length + b.length = 0
 ·rw [if_pos h0]; exact hr.2
 ·rw [if_neg h0]
  have h3 : ¬ ((a ++ List.replicate n c).length + b.length = 0) := by simp only [List.length_append]; omega
  rw [if_neg h3]
  have h1 : (0 : Int) < ((a.length + b.length : Nat) : Int) := by omega
  have h2 : ((a.length + b.length : Nat) : Int) ≤ (((a ++ List.replicate n c).length + b.length : Nat) : Int) := by simp only [List.length_append]; omega
  refine Int.le_ediv_of_mul_le h1 ?_
  refine Int.le_trans (Int.mul_le_mul_of_nonneg_left h2 (Int.ediv_nonneg (by omega) (by omega))) ?_
  exact Int.ediv_mul_le _ (by omega)
end Go.Proofs.Ytgobidmfbjmpkaa.Q
end
section
set_option linter.unusedVariables false
set_option linter.unusedSimpArgs false
namespace Go.Proofs.Ytgobidmfbjmpkaa.Q
section
/-- Are line x of A and line y of B the same. -/
def mtl (A B : List ByteArray) (x y : Nat) : Bool := match A[x]?, B[y]? with
 | some p, some q => p == q
 | _, _ => false
theorem mtl_iff {A B : List ByteArray} {x y : Nat} : mtl A B x y = true ↔ ∃ (hx : x < A.length) (hy : y < B.length), A[x] = B[y] := by
 unfold mtl
 by_cases hx : x < A.length
 ·by_cases hy : y < B.length
  ·rw [List.getElem?_eq_getElem hx, List.getElem?_eq_getElem hy]
   simp [hx, hy]
  ·rw [List.getElem?_eq_none (by omega : B.length ≤ y)]
   cases A[x]? <;> simp [hy]
 ·rw [List.getElem?_eq_none (by omega : A.length ≤ x)]
  simp [hx]
/-- How many lines are the same from there on. -/
def run (A B : List ByteArray) : Nat → Nat → Nat → Nat
 | 0, _, _ => 0
 | f + 1, x, y => if mtl A B x y then run A B f (x + 1) (y + 1) + 1 else 0
/-- From x on diagonal k (y = x - k) as far as lines are the same. -/
def snk (A B : List ByteArray) (x : Nat) (k : Int) : Nat := x + run A B (A.length - x) x ((x : Int) - k).toNat
/-- How far one comes on diagonal k by d changes. -/
def V (A B : List ByteArray) : Nat → Int → Nat
 | 0, k => snk A B 0 k
 | d + 1, k => snk A B (if k = -((d : Int) + 1) ∨ (k ≠ (d : Int) + 1 ∧ V A B d (k - 1) < V A B d (k + 1)) then V A B d (k + 1) else V A B d (k - 1) + 1) k
/-- Where the search on diagonal k begins, by d changes. -/
def frm (A B : List ByteArray) : Nat → Int → Nat
 | 0, _ => 0
 | d + 1, k => if k = -((d : Int) + 1) ∨ (k ≠ (d : Int) + 1 ∧ V A B d (k - 1) < V A B d (k + 1)) then V A B d (k + 1) else V A B d (k - 1) + 1
theorem V_eq (A B : List ByteArray) (d : Nat) (k : Int) : V A B d k = snk A B (frm A B d k) k := by cases d <;> rfl
/-- The row of d changes, the first e places of it written. -/
def rowV (A B : List ByteArray) (d e : Nat) : List Int := (List.range (2 * d + 1)).map fun i => if i % 2 = 0 ∧ i < e then (V A B d ((i : Int) - d) : Int) else 0
theorem rowV_length (A B : List ByteArray) (d e : Nat) : (rowV A B d e).length = 2 * d + 1 := by simp [rowV]
theorem rowV_get (A B : List ByteArray) (d e i : Nat) (hi : i < 2 * d + 1) : (rowV A B d e)[i]? = some (if i % 2 = 0 ∧ i < e then (V A B d ((i : Int) - d) : Int) else 0) := by
 unfold rowV
 rw [List.getElem?_map, List.getElem?_range hi]
 rfl
theorem rowV_zero (A B : List ByteArray) (d : Nat) : rowV A B d 0 = List.replicate (2 * d + 1) 0 := by
 apply List.ext_getElem?
 intro i
 by_cases hi : i < 2 * d + 1
 ·rw [rowV_get _ _ _ _ _ hi, if_neg (by omega), List.getElem?_replicate, if_pos hi]
 ·rw [List.getElem?_eq_none (by rw [rowV_length]; omega), List.getElem?_replicate, if_neg hi]
theorem rowV_set (A B : List ByteArray) (d j : Nat) (hj : j ≤ d) : (rowV A B d (2 * j)).set (2 * j) (V A B d ((2 * j : Nat) - d) : Int) = rowV A B d (2 * (j + 1)) := by
 apply List.ext_getElem?
 intro i
 rw [List.getElem?_set]
 by_cases hi : i < 2 * d + 1
 ·rw [rowV_get _ _ _ _ _ hi, rowV_get _ _ _ _ _ hi, rowV_length]
  by_cases h2 : 2 * j = i
  ·subst h2
   rw [if_pos rfl, if_pos hi, if_pos ⟨by omega, by omega⟩]
  ·rw [if_neg h2]
   by_cases h3 : i % 2 = 0 ∧ i < 2 * j
   ·rw [if_pos h3, if_pos ⟨h3.1, by omega⟩]
   ·rw [if_neg h3, if_neg (by omega)]
 ·rw [List.getElem?_eq_none (by rw [rowV_length]; omega), List.getElem?_eq_none (by rw [rowV_length]; omega)]
  by_cases h2 : 2 * j = i
  ·omega
  ·rw [if_neg h2]
/-- Is all gone through by d changes. -/
def stop (A B : List ByteArray) (d : Nat) : Bool :=
 decide (-(d : Int) ≤ (A.length : Int) - B.length ∧ (A.length : Int) - B.length ≤ d ∧ (d + A.length + B.length) % 2 = 0 ∧ A.length ≤ V A B d ((A.length : Int) - B.length))
/-- The fewest changes. -/
def least (A B : List ByteArray) : Option Nat := (List.range (A.length + B.length + 1)).find? (stop A B)
/-- Which places of the last row are written. -/
def rows (A B : List ByteArray) (D : Nat) : List (List Int) := (List.range D).map (fun d => rowV A B d (2 * d + 2)) ++ [rowV A B D (((A.length : Int) - B.length + D).toNat + 2)]

theorem run_le (A B : List ByteArray) (f : Nat) : ∀ x y, run A B f x y ≤ f := by
 induction f with
 | zero => intro x y; simp [run]
 | succ f ih =>
  intro x y
  unfold run
  split
  ·have := ih (x + 1) (y + 1); omega
  ·omega
theorem snk_ge (A B : List ByteArray) (x : Nat) (k : Int) : x ≤ snk A B x k := by unfold snk; omega
theorem snk_le (A B : List ByteArray) (x : Nat) (k : Int) : snk A B x k ≤ max x A.length := by
 unfold snk
 have := run_le A B (A.length - x) x ((x : Int) - k).toNat
 omega
theorem snk_step {A B : List ByteArray} {x : Nat} {k : Int} (hk : k ≤ x) (h : mtl A B x ((x : Int) - k).toNat = true) : snk A B x k = snk A B (x + 1) k := by
 obtain ⟨hx, _, _⟩ := mtl_iff.1 h
 unfold snk
 have e1 : A.length - x = (A.length - (x + 1)) + 1 := by omega
 have e2 : (((x + 1 : Nat) : Int) - k).toNat = ((x : Int) - k).toNat + 1 := by omega
 rw [e1, e2]
 simp only [run]
 rw [if_pos h]
 omega
theorem snk_stop {A B : List ByteArray} {x : Nat} {k : Int} (h : mtl A B x ((x : Int) - k).toNat = false) : snk A B x k = x := by
 unfold snk
 cases A.length - x with
 | zero => rfl
 | succ f => simp only [run]; rw [if_neg (by simp [h])]; rfl
theorem V_diag (A B : List ByteArray) (d : Nat) : ∀ k : Int, -(d : Int) ≤ k → k ≤ d → (d + k) % 2 = 0 → k ≤ V A B d k ∧ V A B d k ≤ A.length + d := by
 induction d with
 | zero =>
  intro k h1 h2 _
  have := snk_le A B 0 k
  have : V A B 0 k = snk A B 0 k := rfl
  omega
 | succ d ih =>
  intro k h1 h2 h3
  rw [V_eq]
  have hg := snk_ge A B (frm A B (d + 1) k) k
  have hl := snk_le A B (frm A B (d + 1) k) k
  have hf : k ≤ frm A B (d + 1) k ∧ frm A B (d + 1) k ≤ A.length + (d + 1) := by
   simp only [frm]
   split
   ·rename_i hc
    have := ih (k + 1) (by omega) (by rcases hc with hc | hc <;> omega) (by omega)
    omega
   ·rename_i hc
    have := ih (k - 1) (by omega) (by omega) (by omega)
    omega
  omega
theorem frm_diag (A B : List ByteArray) (d : Nat) (k : Int) (h1 : -(d : Int) ≤ k) (h2 : k ≤ d) (h3 : (d + k) % 2 = 0) : k ≤ frm A B d k ∧ frm A B d k ≤ A.length + d := by
 cases d with
 | zero => simp only [frm]; omega
 | succ d =>
  simp only [frm]
  split
  ·rename_i hc
   have := V_diag A B d (k + 1) (by omega) (by rcases hc with hc | hc <;> omega) (by omega)
   omega
  ·rename_i hc
   have := V_diag A B d (k - 1) (by omega) (by omega) (by omega)
   omega
end
section
open List
def lcsRow (a : ByteArray) (f : List ByteArray → Nat) : List ByteArray → Nat
 | [] => 0
 | b :: B => if a = b then f B + 1 else max (f (b :: B)) (lcsRow a f B)
/-- How many lines a longest common row has. -/
def lcs : List ByteArray → List ByteArray → Nat
 | [], _ => 0
 | a :: A, B => lcsRow a (lcs A) B
theorem lcs_nil (B : List ByteArray) : lcs [] B = 0 := rfl
theorem lcs_nil' (A : List ByteArray) : lcs A [] = 0 := by cases A <;> rfl
theorem lcs_cons (a b : ByteArray) (A B : List ByteArray) : lcs (a :: A) (b :: B) = if a = b then lcs A B + 1 else max (lcs A (b :: B)) (lcs (a :: A) B) := rfl
theorem sub_cases {x : ByteArray} {L A : List ByteArray} {p : ByteArray} (h : x :: L <+ p :: A) : x :: L <+ A ∨ (x = p ∧ L <+ A) := by
 rcases List.sublist_cons_iff.1 h with h | ⟨r, e, h⟩
 ·exact .inl h
 ·injection e with e1 e2
  exact .inr ⟨e1, by rw [e2]; exact h⟩
theorem sub_tail {x : ByteArray} {L A : List ByteArray} {p : ByteArray} (h : x :: L <+ p :: A) : L <+ A := by
 rcases sub_cases h with h | ⟨_, h⟩
 ·exact (List.sublist_cons_self x L).trans h
 ·exact h
theorem le_lcs : ∀ {A B L : List ByteArray}, L <+ A → L <+ B → L.length ≤ lcs A B := by
 intro A
 induction A with
 | nil => intro B L h _; rw [List.sublist_nil.1 h]; simp
 | cons a A ih =>
  intro B
  induction B with
  | nil => intro L _ h; rw [List.sublist_nil.1 h]; simp
  | cons b B ihB =>
   intro L h1 h2
   rw [lcs_cons]
   cases L with
   | nil => simp
   | cons x L =>
    split
    ·have := ih (sub_tail h1) (sub_tail h2)
     simp only [List.length_cons]; omega
    ·rename_i hne
     rcases sub_cases h1 with h | ⟨e1, h⟩
     ·have := ih h h2; omega
     ·rcases sub_cases h2 with h' | ⟨e2, h'⟩
      ·have := ihB h1 h'; omega
      ·exact absurd (e1.symm.trans e2) hne
theorem ex_lcs : ∀ (A B : List ByteArray), ∃ L, L <+ A ∧ L <+ B ∧ L.length = lcs A B := by
 intro A
 induction A with
 | nil => intro B; exact ⟨[], List.nil_sublist _, List.nil_sublist _, rfl⟩
 | cons a A ih =>
  intro B
  induction B with
  | nil => exact ⟨[], List.nil_sublist _, List.nil_sublist _, rfl⟩
  | cons b B ihB =>
   rw [lcs_cons]
   split
   ·rename_i he
    subst he
    obtain ⟨L, h1, h2, h3⟩ := ih B
    exact ⟨a :: L, h1.cons_cons a, h2.cons_cons a, by simp [h3]⟩
   ·obtain ⟨L, h1, h2, h3⟩ := ih (b :: B)
    obtain ⟨M, g1, g2, g3⟩ := ihB
    rcases Nat.le_total (lcs A (b :: B)) (lcs (a :: A) B) with hm | hm
    ·exact ⟨M, g1, g2.trans (List.sublist_cons_self b B), by omega⟩
    ·exact ⟨L, h1.trans (List.sublist_cons_self a A), h2, by omega⟩
theorem lcs_mono {A A' B B' : List ByteArray} (h1 : A <+ A') (h2 : B <+ B') : lcs A B ≤ lcs A' B' := by
 obtain ⟨L, g1, g2, g3⟩ := ex_lcs A B
 rw [← g3]
 exact le_lcs (g1.trans h1) (g2.trans h2)
theorem lcs_le_left (A B : List ByteArray) : lcs A B ≤ A.length := by
 obtain ⟨L, g1, g2, g3⟩ := ex_lcs A B
 rw [← g3]; exact g1.length_le
theorem lcs_le_right (A B : List ByteArray) : lcs A B ≤ B.length := by
 obtain ⟨L, g1, g2, g3⟩ := ex_lcs A B
 rw [← g3]; exact g2.length_le
theorem lcs_symm (A B : List ByteArray) : lcs A B = lcs B A := by
 apply Nat.le_antisymm
 ·obtain ⟨L, g1, g2, g3⟩ := ex_lcs A B
  rw [← g3]; exact le_lcs g2 g1
 ·obtain ⟨L, g1, g2, g3⟩ := ex_lcs B A
  rw [← g3]; exact le_lcs g2 g1
theorem lcs_rev (A B : List ByteArray) : lcs A.reverse B.reverse = lcs A B := by
 apply Nat.le_antisymm
 ·obtain ⟨L, g1, g2, g3⟩ := ex_lcs A.reverse B.reverse
  rw [← g3, ← List.length_reverse]; exact le_lcs (List.reverse_sublist.1 (by simpa using g1)) (List.reverse_sublist.1 (by simpa using g2))
 ·obtain ⟨L, g1, g2, g3⟩ := ex_lcs A B
  rw [← g3, ← List.length_reverse]; exact le_lcs (List.reverse_sublist.2 g1) (List.reverse_sublist.2 g2)
theorem lcs_cons_le (a : ByteArray) (A B : List ByteArray) : lcs (a :: A) B ≤ lcs A B + 1 := by
 obtain ⟨L, g1, g2, g3⟩ := ex_lcs (a :: A) B
 cases L with
 | nil => simp at g3; omega
 | cons x L =>
  have := le_lcs (sub_tail g1) ((List.sublist_cons_self x L).trans g2)
  simp only [List.length_cons] at g3; omega
theorem lcs_cons_le' (b : ByteArray) (A B : List ByteArray) : lcs A (b :: B) ≤ lcs A B + 1 := by
 rw [lcs_symm, lcs_symm A B]; exact lcs_cons_le b B A
theorem lcs_cons_cons_le (a b : ByteArray) (A B : List ByteArray) : lcs (a :: A) (b :: B) ≤ lcs A B + 1 := by
 obtain ⟨L, g1, g2, g3⟩ := ex_lcs (a :: A) (b :: B)
 cases L with
 | nil => simp at g3; omega
 | cons x L =>
  have := le_lcs (sub_tail g1) (sub_tail g2)
  simp only [List.length_cons] at g3; omega
theorem lcs_self (A : List ByteArray) : lcs A A = A.length := by
 apply Nat.le_antisymm (lcs_le_left A A)
 exact le_lcs (List.Sublist.refl _) (List.Sublist.refl _)

/-- One comes to (x, y) by d changes. -/
inductive Rch (A B : List ByteArray) : Nat → Nat → Nat → Prop
 | z : Rch A B 0 0 0
 | m {d x y : Nat} : Rch A B d x y → mtl A B x y = true → Rch A B d (x + 1) (y + 1)
 | a {d x y : Nat} : Rch A B d x y → Rch A B (d + 1) (x + 1) y
 | b {d x y : Nat} : Rch A B d x y → Rch A B (d + 1) x (y + 1)
section
variable {A B : List ByteArray}
theorem Rch.diag {d x y : Nat} (h : Rch A B d x y) : -(d : Int) ≤ (x : Int) - y ∧ (x : Int) - y ≤ d ∧ (d + x + y) % 2 = 0 := by
 induction h with
 | z => omega
 | m _ _ ih => omega
 | a _ ih => omega
 | b _ ih => omega
theorem mtl_out {x y : Nat} (h : A.length ≤ x) : mtl A B x y = false := by
 unfold mtl
 rw [List.getElem?_eq_none h]
theorem run_end : ∀ (f x y : Nat), f = A.length - x → mtl A B (x + run A B f x y) (y + run A B f x y) = false := by
 intro f
 induction f with
 | zero => intro x y h; simp only [run]; exact mtl_out (by omega)
 | succ f ih =>
  intro x y h
  unfold run
  split
  ·have h1 := ih (x + 1) (y + 1) (by omega)
   have e1 : x + (run A B f (x + 1) (y + 1) + 1) = x + 1 + run A B f (x + 1) (y + 1) := by omega
   have e2 : y + (run A B f (x + 1) (y + 1) + 1) = y + 1 + run A B f (x + 1) (y + 1) := by omega
   rw [e1, e2]; exact h1
  ·rename_i hm
   simpa using hm
theorem snk_end (x : Nat) (k : Int) (hk : k ≤ x) : mtl A B (snk A B x k) ((snk A B x k : Int) - k).toNat = false := by
 have h := run_end (A := A) (B := B) (A.length - x) x ((x : Int) - k).toNat rfl
 unfold snk
 have e : (((x + run A B (A.length - x) x ((x : Int) - k).toNat : Nat) : Int) - k).toNat = ((x : Int) - k).toNat + run A B (A.length - x) x ((x : Int) - k).toNat := by omega
 rw [e]; exact h
theorem run_rch : ∀ (f d x y : Nat), Rch A B d x y → Rch A B d (x + run A B f x y) (y + run A B f x y) := by
 intro f
 induction f with
 | zero => intro d x y h; exact h
 | succ f ih =>
  intro d x y h
  unfold run
  split
  ·rename_i hm
   have h1 := ih d (x + 1) (y + 1) (h.m hm)
   have e1 : x + (run A B f (x + 1) (y + 1) + 1) = x + 1 + run A B f (x + 1) (y + 1) := by omega
   have e2 : y + (run A B f (x + 1) (y + 1) + 1) = y + 1 + run A B f (x + 1) (y + 1) := by omega
   rw [e1, e2]; exact h1
  ·exact h
theorem snk_rch {d x y : Nat} {k : Int} (h : Rch A B d x y) (hk : (x : Int) - y = k) : Rch A B d (snk A B x k) ((snk A B x k : Int) - k).toNat := by
 have h1 := run_rch (A.length - x) d x y h
 have e : ((x : Int) - k).toNat = y := by omega
 unfold snk
 rw [e]
 have e2 : (((x + run A B (A.length - x) x y : Nat) : Int) - k).toNat = y + run A B (A.length - x) x y := by omega
 rw [e2]; exact h1
theorem V_rch : ∀ (d : Nat) (k : Int), -(d : Int) ≤ k → k ≤ d → (d + k) % 2 = 0 → Rch A B d (V A B d k) ((V A B d k : Int) - k).toNat := by
 intro d
 induction d with
 | zero =>
  intro k h1 h2 _
  have hk : k = 0 := by omega
  subst hk
  exact snk_rch (Rch.z) rfl
 | succ d ih =>
  intro k h1 h2 h3
  rw [V_eq]
  have hb := frm_diag A B (d + 1) k h1 h2 h3
  refine snk_rch (y := ((frm A B (d + 1) k : Int) - k).toNat) ?_ (by omega)
  simp only [frm] at hb ⊢
  split
  ·rename_i hc
   have hr := ih (k + 1) (by omega) (by rcases hc with hc | hc <;> omega) (by omega)
   have hv := V_diag A B d (k + 1) (by omega) (by rcases hc with hc | hc <;> omega) (by omega)
   have e : ((V A B d (k + 1) : Int) - k).toNat = ((V A B d (k + 1) : Int) - (k + 1)).toNat + 1 := by omega
   rw [e]
   exact hr.b
  ·rename_i hc
   have hr := ih (k - 1) (by omega) (by omega) (by omega)
   have hv := V_diag A B d (k - 1) (by omega) (by omega) (by omega)
   have e : (((V A B d (k - 1) + 1 : Nat) : Int) - k).toNat = ((V A B d (k - 1) : Int) - (k - 1)).toNat := by omega
   rw [e]
   exact hr.a
theorem V_top {d x y : Nat} (h : Rch A B d x y) : x ≤ V A B d ((x : Int) - y) := by
 induction h with
 | z => omega
 | @m d x y hr hm ih =>
  have hd := hr.diag
  have e : ((x + 1 : Nat) : Int) - ((y + 1 : Nat) : Int) = (x : Int) - y := by omega
  rw [e]
  rcases Nat.lt_or_ge x (V A B d ((x : Int) - y)) with hlt | hge
  ·exact hlt
  ·have hx : V A B d ((x : Int) - y) = x := by omega
   have hf := frm_diag A B d ((x : Int) - y) hd.1 hd.2.1 (by omega)
   have he := snk_end (A := A) (B := B) (frm A B d ((x : Int) - y)) ((x : Int) - y) hf.1
   rw [← V_eq, hx] at he
   have ey : ((x : Int) - ((x : Int) - y)).toNat = y := by omega
   rw [ey, hm] at he
   cases he
 | @a d x y hr ih =>
  have hd := hr.diag
  have e : ((x + 1 : Nat) : Int) - (y : Int) = (x : Int) - y + 1 := by omega
  rw [e, V_eq]
  refine Nat.le_trans ?_ (snk_ge _ _ _ _)
  simp only [frm]
  have e1 : (x : Int) - y + 1 - 1 = (x : Int) - y := by omega
  rw [e1]
  split
  ·rename_i hc
   rcases hc with hc | ⟨_, hc⟩
   ·omega
   ·omega
  ·omega
 | @b d x y hr ih =>
  have hd := hr.diag
  have e : (x : Int) - ((y + 1 : Nat) : Int) = (x : Int) - y - 1 := by omega
  rw [e, V_eq]
  refine Nat.le_trans ?_ (snk_ge _ _ _ _)
  simp only [frm]
  have e1 : (x : Int) - y - 1 + 1 = (x : Int) - y := by omega
  rw [e1]
  split
  ·exact ih
  ·rename_i hc
   have : ¬ (V A B d ((x : Int) - y - 1 - 1) < V A B d ((x : Int) - y)) := fun h => hc (.inr ⟨by omega, h⟩)
   omega
end
section
variable (a b : List ByteArray)
/-- How many may stay of the last x lines of a and the last y of b. -/
def Sh (x y : Nat) : Nat := lcs (a.drop (a.length - x)) (b.drop (b.length - y))
theorem drop_more (l : List ByteArray) (x : Nat) (hx : x < l.length) : l.drop (l.length - (x + 1)) = l[l.length - 1 - x] :: l.drop (l.length - x) := by
 have h : l.length - (x + 1) < l.length := by omega
 rw [List.drop_eq_getElem_cons h]
 have e1 : l.length - (x + 1) + 1 = l.length - x := by omega
 have e2 : l.length - (x + 1) = l.length - 1 - x := by omega
 rw [e1]
 congr 1
 congr 1
theorem drop_sub (l : List ByteArray) (x : Nat) : l.drop (l.length - x) <+ l.drop (l.length - (x + 1)) := List.drop_sublist_drop_left l (by omega)
theorem rev_get (l : List ByteArray) (x : Nat) (hx : x < l.length) : l.reverse[x]? = some l[l.length - 1 - x] := by
 rw [List.getElem?_reverse hx, List.getElem?_eq_getElem (by omega)]
theorem Sh_le (x y : Nat) : Sh a b x y ≤ x ∧ Sh a b x y ≤ y := by
 have h1 := lcs_le_left (a.drop (a.length - x)) (b.drop (b.length - y))
 have h2 := lcs_le_right (a.drop (a.length - x)) (b.drop (b.length - y))
 rw [List.length_drop] at h1 h2
 unfold Sh
 omega
theorem rch_le {d x y : Nat} (h : Rch a.reverse b.reverse d x y) : x + y ≤ d + 2 * Sh a b x y := by
 induction h with
 | z => omega
 | @m d x y hr hm ih =>
  obtain ⟨hx, hy, he⟩ := mtl_iff.1 hm
  rw [List.length_reverse] at hx hy
  have e1 := rev_get a x hx
  have e2 := rev_get b y hy
  rw [List.getElem?_eq_getElem (by rw [List.length_reverse]; exact hx)] at e1
  rw [List.getElem?_eq_getElem (by rw [List.length_reverse]; exact hy)] at e2
  rw [Option.some.inj e1, Option.some.inj e2] at he
  have : Sh a b (x + 1) (y + 1) = Sh a b x y + 1 := by
   unfold Sh
   rw [drop_more a x hx, drop_more b y hy, lcs_cons, if_pos he]
  omega
 | @a d x y hr ih =>
  have : Sh a b x y ≤ Sh a b (x + 1) y := lcs_mono (drop_sub a x) (List.Sublist.refl _)
  omega
 | @b d x y hr ih =>
  have : Sh a b x y ≤ Sh a b x (y + 1) := lcs_mono (List.Sublist.refl _) (drop_sub b y)
  omega
theorem rch_of : ∀ (n x y : Nat), x + y ≤ n → x ≤ a.length → y ≤ b.length → Rch a.reverse b.reverse (x + y - 2 * Sh a b x y) x y := by
 intro n
 induction n with
 | zero =>
  intro x y h _ _
  have hx : x = 0 := by omega
  have hy : y = 0 := by omega
  subst hx; subst hy
  simp only [Nat.zero_add, Nat.zero_sub]
  exact .z
 | succ n ih =>
  intro x y h hx hy
  have hs := Sh_le a b x y
  cases x with
  | zero =>
   cases y with
   | zero =>
    simp only [Nat.zero_add, Nat.zero_sub]
    exact .z
   | succ y =>
    have h0 := ih 0 y (by omega) (by omega) (by omega)
    have hs0 := Sh_le a b 0 y
    have e : 0 + (y + 1) - 2 * Sh a b 0 (y + 1) = (0 + y - 2 * Sh a b 0 y) + 1 := by omega
    rw [e]
    exact h0.b
  | succ x =>
   cases y with
   | zero =>
    have h0 := ih x 0 (by omega) (by omega) (by omega)
    have hs0 := Sh_le a b x 0
    have e : x + 1 + 0 - 2 * Sh a b (x + 1) 0 = (x + 0 - 2 * Sh a b x 0) + 1 := by omega
    rw [e]
    exact h0.a
   | succ y =>
    have hA := drop_more a x (by omega)
    have hB := drop_more b y (by omega)
    have hL : Sh a b (x + 1) (y + 1) = if a[a.length - 1 - x] = b[b.length - 1 - y] then Sh a b x y + 1 else max (Sh a b x (y + 1)) (Sh a b (x + 1) y) := by
     unfold Sh
     rw [hA, hB, lcs_cons]
    by_cases he : a[a.length - 1 - x] = b[b.length - 1 - y]
    ·rw [if_pos he] at hL
     have h0 := ih x y (by omega) (by omega) (by omega)
     have hs0 := Sh_le a b x y
     have hm : mtl a.reverse b.reverse x y = true := by
      unfold mtl
      rw [rev_get a x (by omega), rev_get b y (by omega), he]
      simp
     have e : x + 1 + (y + 1) - 2 * Sh a b (x + 1) (y + 1) = x + y - 2 * Sh a b x y := by omega
     rw [e]
     exact Rch.m h0 hm
    ·rw [if_neg he] at hL
     rcases Nat.le_total (Sh a b x (y + 1)) (Sh a b (x + 1) y) with hm | hm
     ·have h0 := ih (x + 1) y (by omega) (by omega) (by omega)
      have hs0 := Sh_le a b (x + 1) y
      have e : x + 1 + (y + 1) - 2 * Sh a b (x + 1) (y + 1) = (x + 1 + y - 2 * Sh a b (x + 1) y) + 1 := by omega
      rw [e]
      exact h0.b
     ·have h0 := ih x (y + 1) (by omega) (by omega) (by omega)
      have hs0 := Sh_le a b x (y + 1)
      have e : x + 1 + (y + 1) - 2 * Sh a b (x + 1) (y + 1) = (x + (y + 1) - 2 * Sh a b x (y + 1)) + 1 := by omega
      rw [e]
      exact h0.a
theorem Sh_diag (x y : Nat) : Sh a b (x + 1) (y + 1) ≤ Sh a b x y + 1 := by
 unfold Sh
 by_cases hx : x < a.length
 ·rw [drop_more a x hx]
  by_cases hy : y < b.length
  ·rw [drop_more b y hy]
   exact lcs_cons_cons_le _ _ _ _
  ·have e : b.length - (y + 1) = b.length - y := by omega
   rw [e]
   exact lcs_cons_le _ _ _
 ·have e : a.length - (x + 1) = a.length - x := by omega
  rw [e]
  by_cases hy : y < b.length
  ·rw [drop_more b y hy]
   exact lcs_cons_le' _ _ _
  ·have e : b.length - (y + 1) = b.length - y := by omega
   rw [e]
   omega
theorem Sh_diagN (t x y : Nat) : Sh a b (x + t) (y + t) ≤ Sh a b x y + t := by
 induction t with
 | zero => exact Nat.le_refl _
 | succ t ih =>
  have := Sh_diag a b (x + t) (y + t)
  have e1 : x + (t + 1) = x + t + 1 := by omega
  have e2 : y + (t + 1) = y + t + 1 := by omega
  rw [e1, e2]
  omega
theorem rch_more {A B : List ByteArray} (t : Nat) : ∀ {d x y : Nat}, Rch A B d x y → Rch A B (d + 2 * t) (x + t) (y + t) := by
 induction t with
 | zero => intro d x y h; exact h
 | succ t ih =>
  intro d x y h
  have h1 := (ih h).a.b
  have e1 : d + 2 * (t + 1) = d + 2 * t + 1 + 1 := by omega
  have e2 : x + (t + 1) = x + t + 1 := by omega
  have e3 : y + (t + 1) = y + t + 1 := by omega
  rw [e1, e2, e3]
  exact h1
/-- Does one come to the last x and y by d changes: the row of d tells it. -/
theorem comes_iff (d x y : Nat) (hx : x ≤ a.length) (hy : y ≤ b.length) (h1 : -(d : Int) ≤ (x : Int) - y) (h2 : (x : Int) - y ≤ d) (h3 : (d + x + y) % 2 = 0) :
  x ≤ V a.reverse b.reverse d ((x : Int) - y) ↔ x + y ≤ d + 2 * Sh a b x y := by
 constructor
 ·intro h
  have hr := V_rch (A := a.reverse) (B := b.reverse) d ((x : Int) - y) h1 h2 (by omega)
  have hl := rch_le a b hr
  have hv := V_diag a.reverse b.reverse d ((x : Int) - y) h1 h2 (by omega)
  obtain ⟨t, ht⟩ : ∃ t, V a.reverse b.reverse d ((x : Int) - y) = x + t := ⟨_, (Nat.add_sub_of_le h).symm⟩
  rw [ht] at hl hv
  have ey : (((x + t : Nat) : Int) - ((x : Int) - y)).toNat = y + t := by omega
  rw [ey] at hl
  have := Sh_diagN a b t x y
  omega
 ·intro h
  have hr := rch_of a b (x + y) x y (Nat.le_refl _) hx hy
  have hs := Sh_le a b x y
  have hp := hr.diag
  obtain ⟨t, ht⟩ : ∃ t, d = x + y - 2 * Sh a b x y + 2 * t := ⟨(d - (x + y - 2 * Sh a b x y)) / 2, by omega⟩
  have hv := V_top (rch_more t hr)
  rw [← ht] at hv
  have e : ((x + t : Nat) : Int) - ((y + t : Nat) : Int) = (x : Int) - y := by omega
  rw [e] at hv
  omega
theorem Sh_all : Sh a b a.length b.length = lcs a b := by
 unfold Sh
 rw [Nat.sub_self, Nat.sub_self, List.drop_zero, List.drop_zero]
/-- The fewest changes. -/
def cost : Nat := a.length + b.length - 2 * lcs a b
theorem lcs_two : lcs a b ≤ a.length ∧ lcs a b ≤ b.length := ⟨lcs_le_left a b, lcs_le_right a b⟩
theorem stop_iff (d : Nat) : stop a.reverse b.reverse d = true ↔ (-(d : Int) ≤ (a.length : Int) - b.length ∧ (a.length : Int) - b.length ≤ d ∧ (d + a.length + b.length) % 2 = 0 ∧ cost a b ≤ d) := by
 unfold stop
 rw [decide_eq_true_iff, List.length_reverse, List.length_reverse]
 constructor
 ·rintro ⟨h1, h2, h3, h4⟩
  have := (comes_iff a b d a.length b.length (Nat.le_refl _) (Nat.le_refl _) h1 h2 h3).1 h4
  rw [Sh_all] at this
  exact ⟨h1, h2, h3, by unfold cost; omega⟩
 ·rintro ⟨h1, h2, h3, h4⟩
  refine ⟨h1, h2, h3, (comes_iff a b d a.length b.length (Nat.le_refl _) (Nat.le_refl _) h1 h2 h3).2 ?_⟩
  have := lcs_two a b
  unfold cost at h4
  rw [Sh_all]
  omega
theorem least_rev : least a.reverse b.reverse = some (cost a b) := by
 unfold least
 rw [List.find?_range_eq_some]
 have h2 := lcs_two a b
 refine ⟨(stop_iff a b _).2 ?_, ?_, ?_⟩
 ·unfold cost; omega
 ·rw [List.mem_range, List.length_reverse, List.length_reverse]
  unfold cost; omega
 ·intro j hj
  have : stop a.reverse b.reverse j = false := by
   cases hs : stop a.reverse b.reverse j with
   | false => rfl
   | true => have := (stop_iff a b j).1 hs; omega
  simp [this]
theorem rows_length (A B : List ByteArray) (D : Nat) : (rows A B D).length = D + 1 := by simp [rows]
end
end
section
open List
abbrev Step := Int × List ByteArray
def pthRow (a : ByteArray) (A : List ByteArray) (f : List ByteArray → List Step) : List ByteArray → List Step
 | [] => (2, []) :: f []
 | b :: B => if a = b then (1, []) :: f B else if lcs (a :: A) B ≤ lcs A (b :: B) then (2, []) :: f (b :: B) else (3, [b]) :: pthRow a A f B
/-- The steps. -/
def pth : List ByteArray → List ByteArray → List Step
 | [], B => B.map fun b => (3, [b])
 | a :: A, B => pthRow a A (pth A) B
theorem pth_cons (a b : ByteArray) (A B : List ByteArray) : pth (a :: A) (b :: B) = if a = b then (1, []) :: pth A B else if lcs (a :: A) B ≤ lcs A (b :: B) then (2, []) :: pth A (b :: B) else (3, [b]) :: pth (a :: A) B := rfl
theorem pth_cut (a : ByteArray) (A : List ByteArray) : pth (a :: A) [] = (2, []) :: pth A [] := rfl
theorem pth_add (b : ByteArray) (B : List ByteArray) : pth [] (b :: B) = (3, [b]) :: pth [] B := rfl
theorem pth_nil : pth [] [] = [] := rfl
/-- No more steps than lines, and no more than one line each. -/
theorem pth_small : ∀ (A B : List ByteArray), (pth A B).length ≤ A.length + B.length ∧ ∀ s ∈ pth A B, s.2.length ≤ 1 := by
 intro A
 induction A with
 | nil =>
  intro B
  refine ⟨by simp [pth], fun s hs => ?_⟩
  obtain ⟨b, _, rfl⟩ := List.mem_map.1 hs
  simp
 | cons a A ih =>
  intro B
  induction B with
  | nil =>
   rw [pth_cut]
   have := ih []
   refine ⟨by simp at this ⊢; omega, fun s hs => ?_⟩
   rcases List.mem_cons.1 hs with rfl | hs
   ·simp
   ·exact this.2 s hs
  | cons b B ihB =>
   rw [pth_cons]
   split
   ·have := ih B
    refine ⟨by simp at this ⊢; omega, fun s hs => ?_⟩
    rcases List.mem_cons.1 hs with rfl | hs
    ·simp
    ·exact this.2 s hs
   ·split
    ·have := ih (b :: B)
     refine ⟨by simp at this ⊢; omega, fun s hs => ?_⟩
     rcases List.mem_cons.1 hs with rfl | hs
     ·simp
     ·exact this.2 s hs
    ·refine ⟨by simp at ihB ⊢; omega, fun s hs => ?_⟩
     rcases List.mem_cons.1 hs with rfl | hs
     ·simp
     ·exact ihB.2 s hs
/-- What stands of the two lists at a place: what the search knows of it. -/
theorem left_zero (A B : List ByteArray) (h : cost A B = 0) (hne : ∀ a A' b B', A = a :: A' → B = b :: B' → a ≠ b) : A = [] ∧ B = [] := by
 have h2 := lcs_two A B
 unfold cost at h
 cases A with
 | nil =>
  rw [lcs_nil] at h
  exact ⟨rfl, List.eq_nil_of_length_eq_zero (by simp at h; exact List.length_eq_zero_iff.2 h)⟩
 | cons a A =>
  cases B with
  | nil => rw [lcs_nil'] at h; simp at h
  | cons b B =>
   rw [lcs_cons, if_neg (hne a A b B rfl rfl)] at h
   have h3 := lcs_two A (b :: B)
   have h4 := lcs_two (a :: A) B
   simp only [List.length_cons] at h h2 h3 h4
   omega
theorem cost_keep (a : ByteArray) (A B : List ByteArray) : cost (a :: A) (a :: B) = cost A B := by
 unfold cost
 rw [lcs_cons, if_pos rfl]
 have := lcs_two A B
 simp only [List.length_cons]
 omega
/-- The last lines that are gone through, as the search asks for them: may one be cut. -/
theorem cut_iff (a : ByteArray) (A B : List ByteArray) (hne : ∀ b B', B = b :: B' → a ≠ b) :
  0 < cost (a :: A) B ∧ (A.length + B.length ≤ cost (a :: A) B - 1 + 2 * lcs A B ↔ pth (a :: A) B = (2, []) :: pth A B) ∧ (A.length + B.length ≤ cost (a :: A) B - 1 + 2 * lcs A B → cost A B = cost (a :: A) B - 1) ∧
  (¬ (A.length + B.length ≤ cost (a :: A) B - 1 + 2 * lcs A B) → ∃ b B', B = b :: B' ∧ pth (a :: A) B = (3, [b]) :: pth (a :: A) B' ∧ cost (a :: A) B' = cost (a :: A) B - 1) := by
 cases B with
 | nil =>
  unfold cost
  simp only [lcs_nil', List.length_cons, List.length_nil]
  refine ⟨by omega, ⟨fun _ => pth_cut a A, fun _ => by omega⟩, fun _ => by omega, fun h => absurd (by omega) h⟩
 | cons b B =>
  have hab := hne b B rfl
  have hl := lcs_cons a b A B
  rw [if_neg hab] at hl
  have h1 := lcs_two A (b :: B)
  have h2 := lcs_two (a :: A) B
  have h3 := lcs_two (a :: A) (b :: B)
  have hp := pth_cons a b A B
  rw [if_neg hab] at hp
  unfold cost
  simp only [List.length_cons] at h1 h2 h3 ⊢
  refine ⟨by omega, ⟨fun h => ?_, fun h => ?_⟩, fun h => by omega, fun h => ⟨b, B, rfl, ?_, by omega⟩⟩
  ·rw [hp, if_pos (by omega)]
  ·by_cases hc : lcs (a :: A) B ≤ lcs A (b :: B)
   ·omega
   ·rw [hp, if_neg hc] at h
    simp at h
  ·rw [hp, if_neg (by omega)]
theorem cost_add (b : ByteArray) (B : List ByteArray) : cost [] (b :: B) = cost [] B + 1 := by
 unfold cost
 simp only [lcs_nil, List.length_cons, List.length_nil]
 omega
end
section
open List
theorem meet {b : List ByteArray} : ∀ {S1 S2 : List ByteArray}, S1 <+ b → S2 <+ b → ∃ S, S <+ S1 ∧ S <+ S2 ∧ S1.length + S2.length ≤ b.length + S.length := by
 induction b with
 | nil =>
  intro S1 S2 h1 h2
  rw [List.sublist_nil.1 h1, List.sublist_nil.1 h2]
  exact ⟨[], .slnil, .slnil, by simp⟩
 | cons x b ih =>
  intro S1 S2 h1 h2
  rcases List.sublist_cons_iff.1 h1 with k1 | ⟨T1, rfl, k1⟩
  ·rcases List.sublist_cons_iff.1 h2 with k2 | ⟨T2, rfl, k2⟩
   ·obtain ⟨S, g1, g2, g3⟩ := ih k1 k2
    exact ⟨S, g1, g2, by simp only [List.length_cons]; omega⟩
   ·obtain ⟨S, g1, g2, g3⟩ := ih k1 k2
    exact ⟨S, g1, g2.trans (List.sublist_cons_self x T2), by simp only [List.length_cons]; omega⟩
  ·rcases List.sublist_cons_iff.1 h2 with k2 | ⟨T2, rfl, k2⟩
   ·obtain ⟨S, g1, g2, g3⟩ := ih k1 k2
    exact ⟨S, g1.trans (List.sublist_cons_self x T1), g2, by simp only [List.length_cons]; omega⟩
   ·obtain ⟨S, g1, g2, g3⟩ := ih k1 k2
    exact ⟨x :: S, g1.cons_cons x, g2.cons_cons x, by simp only [List.length_cons]; omega⟩
theorem lcs_by (a b c : List ByteArray) : lcs a b + lcs b c ≤ b.length + lcs a c := by
 obtain ⟨S1, h1, h2, h3⟩ := ex_lcs a b
 obtain ⟨S2, g1, g2, g3⟩ := ex_lcs b c
 obtain ⟨S, k1, k2, k3⟩ := meet h2 g1
 have := le_lcs (k1.trans h1) (k2.trans g2)
 omega
theorem cost_symm (a b : List ByteArray) : cost a b = cost b a := by unfold cost; rw [lcs_symm]; omega
theorem cost_rev (a b : List ByteArray) : cost a.reverse b.reverse = cost a b := by unfold cost; rw [lcs_rev, List.length_reverse, List.length_reverse]
theorem cost_self (a : List ByteArray) : cost a a = 0 := by unfold cost; rw [lcs_self]; omega
theorem cost_zero (a b : List ByteArray) : cost a b = 0 ↔ a = b := by
 constructor
 ·intro h
  obtain ⟨L, h1, h2, h3⟩ := ex_lcs a b
  have h4 := lcs_two a b
  unfold cost at h
  have e1 := h1.eq_of_length (by omega)
  have e2 := h2.eq_of_length (by omega)
  rw [← e1, ← e2]
 ·intro h; subst h; exact cost_self a
theorem cost_by (a b c : List ByteArray) : cost a c ≤ cost a b + cost b c := by
 have h1 := lcs_by a b c
 have h2 := lcs_two a b
 have h3 := lcs_two b c
 unfold cost
 omega
theorem cost_le' (a b : List ByteArray) : cost a b ≤ a.length + b.length := by unfold cost; omega
theorem cost_parity (a b : List ByteArray) : cost a b % 2 = (a.length + b.length) % 2 := by
 have h2 := lcs_two a b
 unfold cost
 omega
end
section
open List
theorem lcs_pre (p A B : List ByteArray) : lcs (p ++ A) (p ++ B) = p.length + lcs A B := by
 induction p with
 | nil => simp
 | cons x p ih => rw [List.cons_append, List.cons_append, lcs_cons, if_pos rfl, ih, List.length_cons]; omega
theorem lcs_post (q A B : List ByteArray) : lcs (A ++ q) (B ++ q) = lcs A B + q.length := by
 rw [← lcs_rev (A ++ q) (B ++ q), List.reverse_append, List.reverse_append, lcs_pre, lcs_rev, List.length_reverse]; omega
theorem lcs_app (a b c d : List ByteArray) : lcs a b + lcs c d ≤ lcs (a ++ c) (b ++ d) := by
 obtain ⟨L, h1, h2, h3⟩ := ex_lcs a b
 obtain ⟨M, g1, g2, g3⟩ := ex_lcs c d
 have := le_lcs (List.Sublist.append h1 g1) (List.Sublist.append h2 g2)
 rw [List.length_append] at this
 omega
theorem lcs_snoc (a b : List ByteArray) (l : ByteArray) : lcs a b ≤ lcs (a ++ [l]) b ∧ lcs (a ++ [l]) b ≤ lcs a b + 1 := by
 refine ⟨lcs_mono (List.sublist_append_left a [l]) (List.Sublist.refl b), ?_⟩
 rw [← lcs_rev (a ++ [l]) b, ← lcs_rev a b, List.reverse_append]
 exact lcs_cons_le l a.reverse b.reverse
theorem lcs_none {a b : List ByteArray} (h : ∀ x ∈ a, x ∉ b) : lcs a b = 0 := by
 obtain ⟨L, h1, h2, h3⟩ := ex_lcs a b
 cases L with
 | nil => simpa using h3.symm
 | cons x L => exact absurd (h2.mem List.mem_cons_self) (h x (h1.mem List.mem_cons_self))
theorem pth_pre (p A B : List ByteArray) : pth (p ++ A) (p ++ B) = List.replicate p.length (1, []) ++ pth A B := by
 induction p with
 | nil => rfl
 | cons x p ih => rw [List.cons_append, List.cons_append, pth_cons, if_pos rfl, ih]; rfl
theorem pth_self (A : List ByteArray) : pth A A = List.replicate A.length (1, []) := by
 have := pth_pre A [] []
 rw [List.append_nil] at this
 rw [this, pth_nil, List.append_nil]
theorem pth_cuts (A : List ByteArray) : pth A [] = List.replicate A.length (2, []) := by
 induction A with
 | nil => rfl
 | cons x A ih => rw [pth_cut, ih]; rfl
theorem pth_adds (B : List ByteArray) : pth [] B = B.map fun b => (3, [b]) := rfl
theorem pth_behind (a b : List ByteArray) : pth a (a ++ b) = List.replicate a.length (1, []) ++ b.map fun b => (3, [b]) := by
 have := pth_pre a [] b
 rw [List.append_nil] at this
 rw [this, pth_adds]
theorem pth_behind' (a b : List ByteArray) : pth (a ++ b) a = List.replicate a.length (1, []) ++ List.replicate b.length (2, []) := by
 have := pth_pre a b []
 rw [List.append_nil] at this
 rw [this, pth_cuts]
/-- A line that has become one that is nowhere else. -/
theorem pth_new (x z : ByteArray) (A : List ByteArray) (hx : x ≠ z) (hz : z ∉ A) : pth (x :: A) (z :: A) = (2, []) :: (3, [z]) :: List.replicate A.length (1, []) := by
 rw [pth_cons, if_neg hx]
 have h1 := lcs_le_right (x :: A) A
 have h2 : A.length ≤ lcs A (z :: A) := le_lcs (List.Sublist.refl A) (List.sublist_cons_self z A)
 rw [if_pos (by omega)]
 congr 1
 cases A with
 | nil => rw [pth_add]; rfl
 | cons c A =>
  have hc : c ≠ z := fun h => hz (by rw [h]; exact List.mem_cons_self)
  have h3 := lcs_le_left A (z :: c :: A)
  rw [pth_cons, if_neg hc, lcs_self, if_neg (by simp only [List.length_cons]; omega), pth_self]
theorem lcs_new (x z : ByteArray) (p A : List ByteArray) (hx : x ≠ z) (hz : z ∉ A) : lcs (p ++ x :: A) (p ++ z :: A) = p.length + A.length := by
 rw [lcs_pre, lcs_cons, if_neg hx]
 have h1 := lcs_le_right (x :: A) A
 have h2 : A.length ≤ lcs A (z :: A) := le_lcs (List.Sublist.refl A) (List.sublist_cons_self z A)
 have h3 := lcs_le_left A (z :: A)
 omega

/-- The kinds of the steps. -/
def ops (st : List Step) : List Int := st.map (·.1)
/-- Steps of these kinds make B of A. -/
inductive Trn : List Int → List ByteArray → List ByteArray → Prop
 | nil : Trn [] [] []
 | keep {o A B} (x : ByteArray) : Trn o A B → Trn (1 :: o) (x :: A) (x :: B)
 | cut {o A B} (x : ByteArray) : Trn o A B → Trn (2 :: o) (x :: A) B
 | add {o A B} (y : ByteArray) : Trn o A B → Trn (3 :: o) A (y :: B)
/-- How many of them change something. -/
def chg : List Int → Nat
 | [] => 0
 | x :: o => if x = 1 then chg o else chg o + 1
theorem chg_append (a b : List Int) : chg (a ++ b) = chg a + chg b := by
 induction a with
 | nil => simp [chg]
 | cons x a ih => rw [List.cons_append, chg, chg, ih]; split <;> omega
theorem chg_replicate (n : Nat) (x : Int) : chg (List.replicate n x) = if x = 1 then 0 else n := by
 induction n with
 | zero => simp [chg]
 | succ n ih => rw [List.replicate_succ, chg, ih]; split <;> rfl
theorem cost_cut_le (x : ByteArray) (A B : List ByteArray) : cost (x :: A) B ≤ cost A B + 1 := by
 have h1 : lcs A B ≤ lcs (x :: A) B := lcs_mono (List.sublist_cons_self x A) (List.Sublist.refl B)
 unfold cost
 simp only [List.length_cons]
 omega
theorem cost_add_le (y : ByteArray) (A B : List ByteArray) : cost A (y :: B) ≤ cost A B + 1 := by
 rw [cost_symm A (y :: B), cost_symm A B]
 exact cost_cut_le y B A
theorem trn_cost {o : List Int} {A B : List ByteArray} (h : Trn o A B) : cost A B ≤ chg o := by
 induction h with
 | nil => exact Nat.zero_le _
 | keep x _ ih => rw [cost_keep, chg, if_pos rfl]; exact ih
 | cut x _ ih => rw [chg, if_neg (by decide)]; have := cost_cut_le x; exact Nat.le_trans (this _ _) (by omega)
 | add y _ ih => rw [chg, if_neg (by decide)]; have := cost_add_le y; exact Nat.le_trans (this _ _) (by omega)
theorem trn_pth : ∀ (A B : List ByteArray), Trn (ops (pth A B)) A B ∧ chg (ops (pth A B)) = cost A B := by
 intro A
 induction A with
 | nil =>
  intro B
  induction B with
  | nil => exact ⟨.nil, rfl⟩
  | cons b B ih =>
   rw [pth_add, cost_add]
   refine ⟨.add b ih.1, ?_⟩
   show chg (3 :: ops (pth [] B)) = _
   rw [chg, if_neg (by decide), ih.2]
 | cons a A ih =>
  intro B
  induction B with
  | nil =>
   rw [pth_cut]
   refine ⟨.cut a (ih []).1, ?_⟩
   show chg (2 :: ops (pth A [])) = _
   rw [chg, if_neg (by decide), (ih []).2]
   unfold cost
   rw [lcs_nil', lcs_nil']
   simp only [List.length_cons, List.length_nil]
   omega
  | cons b B ihB =>
   by_cases hab : a = b
   ·subst hab
    rw [pth_cons, if_pos rfl, cost_keep]
    refine ⟨.keep a (ih B).1, ?_⟩
    show chg (1 :: ops (pth A B)) = _
    rw [chg, if_pos rfl, (ih B).2]
   ·obtain ⟨h0, h1, h2, h3⟩ := cut_iff a A (b :: B) (fun b' B' e => by injection e with e1 _; rw [← e1]; exact hab)
    by_cases hc : A.length + (b :: B).length ≤ cost (a :: A) (b :: B) - 1 + 2 * lcs A (b :: B)
    ·rw [h1.1 hc]
     refine ⟨.cut a (ih _).1, ?_⟩
     show chg (2 :: ops (pth A (b :: B))) = _
     rw [chg, if_neg (by decide), (ih _).2, h2 hc]
     omega
    ·obtain ⟨b', B', e, hp, hk⟩ := h3 hc
     injection e with e1 e2
     subst e1 e2
     rw [hp]
     refine ⟨.add b ihB.1, ?_⟩
     show chg (3 :: ops (pth (a :: A) B)) = _
     rw [chg, if_neg (by decide), ihB.2, hk]
     omega
/-- The first list of kinds is no later than the other one, at the first place in which they are unlike. -/
def lexle : List Int → List Int → Bool
 | [], [] => true
 | x :: xs, y :: ys => if x = y then lexle xs ys else decide (x < y)
 | _, _ => false
theorem trn_least {o : List Int} : ∀ {A B : List ByteArray}, Trn o A B → chg o = cost A B → lexle (ops (pth A B)) o = true := by
 induction o with
 | nil => intro A B h _; cases h; rfl
 | cons x o ih =>
  intro A B h hc
  cases h with
  | @keep _ A B z h =>
   rw [chg, if_pos rfl, cost_keep] at hc
   rw [pth_cons, if_pos rfl]
   show lexle (1 :: ops (pth A B)) (1 :: o) = true
   rw [lexle, if_pos rfl]
   exact ih h hc
  | @cut _ A B z h =>
   rw [chg, if_neg (by decide)] at hc
   have hk := trn_cost h
   cases B with
   | nil =>
    rw [pth_cut]
    show lexle (2 :: ops (pth A [])) (2 :: o) = true
    rw [lexle, if_pos rfl]
    refine ih h ?_
    have := cost_cut_le z A []
    omega
   | cons b B =>
    by_cases hab : z = b
    ·rw [pth_cons, if_pos hab]
     show lexle (1 :: ops (pth A B)) (2 :: o) = true
     rw [lexle, if_neg (by decide)]
     decide
    ·have hcc := cost_cut_le z A (b :: B)
     have h1 := lcs_two A (b :: B)
     have hl := lcs_cons z b A B
     rw [if_neg hab] at hl
     have h2 := lcs_two (z :: A) (b :: B)
     have h4 : lcs (z :: A) B ≤ lcs A (b :: B) := by
      unfold cost at hk hc
      simp only [List.length_cons] at hk hc h1 h2
      omega
     rw [pth_cons, if_neg hab, if_pos h4]
     show lexle (2 :: ops (pth A (b :: B))) (2 :: o) = true
     rw [lexle, if_pos rfl]
     exact ih h (by omega)
  | @add _ A B z h =>
   rw [chg, if_neg (by decide)] at hc
   have hk := trn_cost h
   cases A with
   | nil =>
    rw [pth_add]
    show lexle (3 :: ops (pth [] B)) (3 :: o) = true
    rw [lexle, if_pos rfl]
    refine ih h ?_
    rw [cost_add] at hc
    omega
   | cons a A =>
    rw [pth_cons]
    split
    ·show lexle (1 :: ops (pth A B)) (3 :: o) = true
     rw [lexle, if_neg (by decide)]
     decide
    ·split
     ·show lexle (2 :: ops (pth A (z :: B))) (3 :: o) = true
      rw [lexle, if_neg (by decide)]
      decide
     ·show lexle (3 :: ops (pth (a :: A) B)) (3 :: o) = true
      rw [lexle, if_pos rfl]
      refine ih h ?_
      have := cost_add_le z (a :: A) B
      omega
/-- Behind a line that is added none is cut. -/
theorem pth_right : ∀ (A B : List ByteArray) (s t : Step) (l m : List Step), pth A B = l ++ s :: t :: m → s.1 = 3 → t.1 ≠ 2 := by
 intro A
 induction A with
 | nil =>
  intro B s t l m h _
  have : t ∈ pth [] B := by rw [h]; simp
  obtain ⟨b, _, rfl⟩ := List.mem_map.1 this
  exact (by decide : (3 : Int) ≠ 2)
 | cons a A ih =>
  intro B
  induction B with
  | nil =>
   intro s t l m h hs
   rw [pth_cuts] at h
   have : s ∈ List.replicate (a :: A).length ((2 : Int), ([] : List ByteArray)) := by rw [h]; simp
   rw [List.eq_of_mem_replicate this] at hs
   exact absurd hs (by decide)
  | cons b B ihB =>
   intro s t l m h hs
   rw [pth_cons] at h
   split at h
   ·cases l with
    | nil => injection h with h1 _; rw [← h1] at hs; exact absurd hs (by decide)
    | cons y l => injection h with _ h1; exact ih B s t l m h1 hs
   ·rename_i hab
    split at h
    ·cases l with
     | nil => injection h with h1 _; rw [← h1] at hs; exact absurd hs (by decide)
     | cons y l => injection h with _ h1; exact ih _ s t l m h1 hs
    ·rename_i hl
     cases l with
     | cons y l => injection h with _ h1; exact ihB s t l m h1 hs
     | nil =>
      injection h with _ h1
      cases B with
      | nil => rw [lcs_nil'] at hl; omega
      | cons b' B =>
       rw [pth_cons] at h1
       split at h1
       ·injection h1 with h1 _; rw [← h1]; decide
       ·rename_i hab'
        split at h1
        ·rename_i hl'
         have g1 := lcs_cons a b' A B
         rw [if_neg hab'] at g1
         have g2 : lcs A (b' :: B) ≤ lcs A (b :: b' :: B) := lcs_mono (List.Sublist.refl A) (List.sublist_cons_self b _)
         omega
        ·injection h1 with h1 _; rw [← h1]; exact (by decide : (3 : Int) ≠ 2)
theorem pth_kinds : ∀ (A B : List ByteArray), ∀ s ∈ pth A B, (s = (1, []) ∨ s = (2, []) ∨ ∃ b, s = (3, [b])) := by
 intro A
 induction A with
 | nil =>
  intro B s hs
  obtain ⟨b, _, rfl⟩ := List.mem_map.1 hs
  exact .inr (.inr ⟨b, rfl⟩)
 | cons a A ih =>
  intro B
  induction B with
  | nil =>
   intro s hs
   rw [pth_cut] at hs
   rcases List.mem_cons.1 hs with rfl | hs
   ·exact .inr (.inl rfl)
   ·exact ih [] s hs
  | cons b B ihB =>
   intro s hs
   rw [pth_cons] at hs
   split at hs
   ·rcases List.mem_cons.1 hs with rfl | hs
    ·exact .inl rfl
    ·exact ih B s hs
   ·split at hs
    ·rcases List.mem_cons.1 hs with rfl | hs
     ·exact .inr (.inl rfl)
     ·exact ih _ s hs
    ·rcases List.mem_cons.1 hs with rfl | hs
     ·exact .inr (.inr ⟨b, rfl⟩)
     ·exact ihB s hs
/-- What the steps make of lines. -/
def doSteps : List Step → List ByteArray → Option (List ByteArray)
 | [], [] => some []
 | [], _ :: _ => none
 | s :: st, A => if s.1 = 3 then (doSteps st A).map (s.2 ++ ·) else match A with
  | [] => none
  | x :: A => if s.1 = 1 then (doSteps st A).map (x :: ·) else doSteps st A
theorem doSteps_cons (s : Step) (st : List Step) (A : List ByteArray) : doSteps (s :: st) A = if s.1 = 3 then (doSteps st A).map (s.2 ++ ·) else match A with
  | [] => none
  | x :: A => if s.1 = 1 then (doSteps st A).map (x :: ·) else doSteps st A := by cases A <;> rfl
theorem pth_makes : ∀ (A B : List ByteArray), doSteps (pth A B) A = some B := by
 intro A
 induction A with
 | nil =>
  intro B
  induction B with
  | nil => rfl
  | cons b B ih => rw [pth_add, doSteps, if_pos rfl, ih]; rfl
 | cons a A ih =>
  intro B
  induction B with
  | nil => rw [pth_cut, doSteps, if_neg (by show ¬ (2 : Int) = 3; decide)]; show (if (2 : Int) = 1 then _ else _) = _; rw [if_neg (by decide), ih]
  | cons b B ihB =>
   rw [pth_cons]
   split
   ·rename_i hab
    rw [doSteps, if_neg (by show ¬ (1 : Int) = 3; decide)]
    show (if (1 : Int) = 1 then _ else _) = _
    rw [if_pos rfl, ih, hab]
    rfl
   ·split
    ·rw [doSteps, if_neg (by show ¬ (2 : Int) = 3; decide)]
     show (if (2 : Int) = 1 then _ else _) = _
     rw [if_neg (by decide), ih]
    ·rw [doSteps, if_pos rfl, ihB]
     rfl
end
end Go.Proofs.Ytgobidmfbjmpkaa.Q
end
section
set_option linter.unusedVariables false
set_option linter.unusedSimpArgs false
namespace Go.Proofs.Ytgobidmfbjmpkaa.P
open Go Go.RowKit Go.Proofs.YtgobidmfbjmpkaaW.PrintWords Go.Proofs.YtgobidmfbjmpkaaW.PrintLast Go.Proofs.YtgobidmfbjmpkaaW.PrintMore Go.Proofs.Ytgobidmfbjmpkaa.Q Go.Proofs.Ytgobidmfbjmpkaa.HRows

def myers_search.f (a b : List ByteArray) : Option (List (List Int)) :=
 if a.length ≤ 1000000 ∧ b.length ≤ 1000000 then (least a.reverse b.reverse).map (rows a.reverse b.reverse) else none

theorem info_reach : (Try.prog.info? 79).map (fun i => (i.zero, i.size, i.bytes)) = some (some (.slice none 0 0), 1, 24) := by kernel_rfl
theorem w64' {x : Int} (h0 : -9223372036854775808 ≤ x) (h1 : x ≤ 9223372036854775807) : wrap64 x = x := by unfold wrap64; omega
theorem wr64 {x : Int} (h0 : -9223372036854775808 ≤ x) (h1 : x ≤ 9223372036854775807) : IntKind.i64.wrap x = x := IntWalk.i64_in _ (by omega)
theorem rd_nat (xs : List Int) (j : Nat) : rd xs (j : Int) = xs.getD j 0 := by simp [rd]
theorem bytes_inj {x y : ByteArray} (h : x.toList = y.toList) : x = y := by
 rw [ByteArray.toList_eq, ByteArray.toList_eq] at h
 cases x; cases y
 congr 1
 exact Array.toList_inj.1 h
def prevR (A B : List ByteArray) : Nat → List Int
 | 0 => []
 | d + 1 => rowV A B d (2 * d + 2)
theorem prev_get (A B : List ByteArray) (d : Nat) (i : Int) (k : Int) (hi : i = d + k) (h1 : -(d : Int) ≤ k) (h2 : k ≤ d) (h3 : (d + k) % 2 = 0) : rd (rowV A B d (2 * d + 2)) i = V A B d k := by
 obtain ⟨j, rfl⟩ := Int.eq_ofNat_of_zero_le (show 0 ≤ i by omega)
 rw [rd_nat, List.getD_eq_getElem?_getD, rowV_get _ _ _ _ _ (by omega), if_pos ⟨by omega, by omega⟩, Option.getD_some]
 congr 2
 omega
/-- from, on the row before. -/
theorem from_ok (A B : List ByteArray) (hA : A.length ≤ 1000000) (d : Nat) (hd : d ≤ 4000000) (k : Int) (h1 : -(d : Int) ≤ k) (h2 : k ≤ d) (h3 : (d + k) % 2 = 0) :
  myers_from.f (prevR A B d) (d : Int) k = some (frm A B d k : Int) := by
 cases d with
 | zero => unfold myers_from.f; rw [if_pos (by omega)]; rfl
 | succ d =>
  unfold myers_from.f
  have hl : ((prevR A B (d + 1)).length : Int) = 2 * d + 1 := by
   simp only [prevR, rowV_length]; omega
  have e1 : wrap64 (-((d + 1 : Nat) : Int)) = -((d : Int) + 1) := by rw [w64' (by omega) (by omega)]; omega
  have e2 : wrap64 (((d + 1 : Nat) : Int) + k) = (d : Int) + 1 + k := by rw [w64' (by omega) (by omega)]; omega
  have e3 : wrap64 (((d + 1 : Nat) : Int) - 1) = (d : Int) := by rw [w64' (by omega) (by omega)]; omega
  have e4 : wrap64 ((d : Int) + k) = (d : Int) + k := w64' (by omega) (by omega)
  have e5 : wrap64 ((d : Int) + k - 1) = (d : Int) + (k - 1) := by rw [w64' (by omega) (by omega)]; omega
  have e6 : wrap64 ((d : Int) + k + 1) = (d : Int) + (k + 1) := by rw [w64' (by omega) (by omega)]; omega
  have e7 : wrap64 ((d : Int) + 1 + k - 2) = (d : Int) + (k - 1) := by rw [w64' (by omega) (by omega)]; omega
  have e8 : (d : Int) + 1 + k = (d : Int) + (k + 1) := by omega
  have hd0 : ¬ (((d + 1 : Nat) : Int) = 0) := by omega
  rw [if_neg hd0]
  simp only [e1, e2, e3, e4, e5, e6, e7, hl]
  simp only [frm]
  have up : ∀ j : Int, -(d : Int) ≤ j → j ≤ d → (d + j) % 2 = 0 → rd (prevR A B (d + 1)) ((d : Int) + j) = V A B d j := fun j a b c => prev_get A B d _ j rfl a b c
  have vb : ∀ j : Int, -(d : Int) ≤ j → j ≤ d → (d + j) % 2 = 0 → V A B d j ≤ A.length + d := fun j a b c => (V_diag A B d j a b c).2
  by_cases c1 : k = -((d : Int) + 1)
  ·rw [if_pos c1, if_pos (by omega), if_pos (by omega), if_pos (.inl c1), e8, up (k + 1) (by omega) (by omega) (by omega)]
  ·rw [if_neg c1]
   by_cases c2 : k = ((d + 1 : Nat) : Int)
   ·rw [if_pos c2, if_pos (by omega), if_pos (by omega), if_neg (by rintro (h | h); exact c1 h; exact h.1 (by omega)), up (k - 1) (by omega) (by omega) (by omega)]
    have := vb (k - 1) (by omega) (by omega) (by omega)
    rw [w64' (by omega) (by omega)]
    rfl
   ·rw [if_neg c2, if_pos (by omega), if_pos (by omega), if_pos (by omega), if_pos (by omega), e8, up (k - 1) (by omega) (by omega) (by omega), up (k + 1) (by omega) (by omega) (by omega)]
    have := vb (k - 1) (by omega) (by omega) (by omega)
    by_cases c3 : V A B d (k - 1) < V A B d (k + 1)
    ·rw [if_pos (by omega), if_pos (by omega), if_pos (by omega), if_pos (.inr ⟨by omega, c3⟩)]
    ·rw [if_neg (by omega), if_pos (by omega), if_pos (by omega), if_neg (by rintro (h | h); exact c1 h; exact c3 h.2)]
     rw [w64' (by omega) (by omega)]
     rfl
theorem rd_rev (l A : List ByteArray) (hA : A = l.reverse) (x : Nat) (hx : x < l.length) (i : Int) (hi : i = (l.length : Int) - 1 - x) : A[x]? = some (rdOf ByteArray.empty l i) := by
 subst hA
 rw [List.getElem?_reverse hx]
 have e1 : i.toNat = l.length - 1 - x := by omega
 unfold rdOf
 rw [e1, List.getD_eq_getElem?_getD, List.getElem?_eq_getElem (by omega)]
 rfl
set_option maxHeartbeats 4000000 in
set_option maxRecDepth 100000 in
theorem myers_search.calls (A0 : Option Addr) (c0 : Nat) (l0 : List ByteArray) (A1 : Option Addr) (c1 : Nat) (l1 : List ByteArray) (r : List (List Int)) (w : World) (hr0 : Kd.C Kd.string w A0 l0.length l0) (hc0 : l0.length ≤ c0) (hr1 : Kd.C Kd.string w A1 l1.length l1) (hc1 : l1.length ≤ c1) (h : myers_search.f l0 l1 = some r) :
  Calls Try.prog 48 #[.slice A0 l0.length c0, .slice A1 l1.length c1] w fun e w' => ∃ v0_ : Value, e = .returned (v0_) ∧ Kd.S (Kd.slice 3 (Kd.int .i64)) 79 w' w.heap.size (fun _ => True) v0_ r ∧ Below w.heap.size w w' := by
 unfold myers_search.f at h
 split at h
 ·rename_i hsz
  obtain ⟨hm0, hm1⟩ := hsz
  obtain ⟨D, hD, rfl⟩ := Option.map_eq_some_iff.1 h
  clear h
  obtain ⟨A, hA⟩ : ∃ A, A = l0.reverse := ⟨_, rfl⟩
  obtain ⟨B, hB⟩ : ∃ B, B = l1.reverse := ⟨_, rfl⟩
  rw [← hA, ← hB] at hD
  have hlA : A.length = l0.length := by rw [hA, List.length_reverse]
  have hlB : B.length = l1.length := by rw [hB, List.length_reverse]
  have HST := Aside0.mk (List.find?_eq_some_iff_append.1 hD)
  have hDle : D ≤ 2000000 := by
   have := List.mem_of_find?_eq_some hD
   rw [List.mem_range] at this
   omega
  have HNO : Aside0 (∀ d, d < D → stop A B d = false) := ⟨fun d hd => by
   have h1 := List.find?_range_eq_some.1 hD
   have h2 := h1.2.2 d hd
   simpa using h2⟩
  have HYES : Aside0 (stop A B D = true) := ⟨(List.find?_range_eq_some.1 hD).1⟩
  have HLA := Aside0.mk hlA
  have HLB := Aside0.mk hlB
  have HREV := Aside0.mk hA
  have HREVB := Aside0.mk hB
  have HR0 := Aside0.mk hr0
  have HR1 := Aside0.mk hr1
  have HC0 := Aside0.mk hc0
  have HC1 := Aside0.mk hc1
  clear hr0 hc0 hr1 hc1 hlA hlB hA hB hD HST
  go_enter Try.func48, Try.ntmps48
  go_wp2
  go_step3
  go_wp2
  go_step3
  go_wp2
  go_loopw [4, 7, 8] (fun v4 v7 v8 wr => ∃ (d : Nat) (rs : List (Nat × List Int)), d ≤ D ∧ v8 = .int .i64 d ∧ v7 = .slice (lastA rs) (lastR rs).length (lastR rs).length ∧ Aside0 (rs.map (·.2) = (List.range d).map (fun d => rowV A B d (2 * d + 2))) ∧ Aside0 (Out 79 w.heap.size wr v4 rs) ∧ Aside0 (Below w.heap.size w wr)) (fun _ _ v8 _ => D - (intOf v8).toNat)
  case atStart => exact ⟨0, [], Nat.zero_le _, rfl, rfl, ⟨rfl⟩, ⟨Out.nil _ _ _⟩, ⟨Below.refl _ _⟩⟩
  case round =>
   obtain ⟨d, rs, hd, rfl, rfl, HRS, HO, HB⟩ := hrel
   have hmk := print_make (P := Try.prog) 79 3 .i64 8 Try.underlying79 info3 (by omega) (2 * d + 1) (by omega)
   have ec : ((2 * d + 1 : Nat) : Int) = 2 * (d : Int) + 1 := by omega
   rw [ec] at hmk
   have HD2 := Aside0.mk ec
   clear ec
   have HLEN : Aside0 (rs.length = d) := ⟨by have := congrArg List.length HRS.out; simpa using this⟩
   obtain ⟨hz1, hz2, hz3⟩ : 0 ≤ 2 * (d : Int) ∧ 2 * (d : Int) ≤ 4000000 ∧ -(d : Int) ≤ 0 := ⟨by omega, by omega, by omega⟩
   obtain ⟨wh, hwh⟩ : ∃ wh, wh = wr.heap.size := ⟨_, rfl⟩
   have HWH := Aside0.mk hwh
   clear hwh
   go_wp2_with (first
    | (at_builtin; refine print_append (w0 := w) w.heap.size rfl (.tmp 22) (.tmp 24) 77 79 (.slice none 0 0) 24 rfl Try.underlying77 info_reach rfl (by omega) u4 (rs.map cellOf) (.slice (some ⟨wr.heap.size, 0, none⟩) (2 * d + 1) (2 * d + 1)) rfl (by first | (go_simp; done) | (go_simp; rfl)) rfl ?hO ?hB ?hs ?hl ?_; (case hO => rw [List.length_map]; exact (HO.out.below (below_alloc (Below.refl _ _) _)).1); (case hB => exact below_alloc HB.out _); (case hs => exact (below_alloc HB.out _).size); (case hl => rw [List.length_map, HLEN.out]; omega); intro v1 w1 hown1 hb1 hg1 hat1; have HN1 := Aside0.mk hown1; have HB1 := Aside0.mk hb1; have HG1 := Aside0.mk hg1; clear hown1 hb1 hg1 hat1))
   have HNE : Aside0 (∀ q ∈ rs, q.1 ≠ wr.heap.size) := ⟨fun q hq => by have := HO.out.lt hq; omega⟩
   have HO2 : Aside0 (Out 79 w.heap.size w1 v1 (rs ++ [(wr.heap.size, rowV A B d 0)])) := ⟨by
    have e1 : cellOf (wr.heap.size, rowV A B d 0) = .slice (some ⟨wr.heap.size, 0, none⟩) (2 * d + 1) (2 * d + 1) := by simp only [cellOf, rowV_length]
    have e2 : (madeCells #[Value.int .i64 0] (2 * d + 1)) = (nums .i64 (rowV A B d 0)).toArray := by
     rw [rowV_zero]
     apply Array.toList_inj.1
     apply List.ext_getElem
     ·simp [nums, madeCells]
     ·intro i h1 h2
      simp [nums, madeCells, Nat.mod_one]
    refine Out.snoc (w := wr.alloc (.cells (madeCells #[Value.int .i64 0] (2 * d + 1)) 3)) (by decide) (HO.out.below (below_alloc (Below.refl _ _) _)) (p := (wr.heap.size, rowV A B d 0)) (by rw [e1]; exact HN1.out) HG1.out HB.out.size ?_ HNE.out
    rw [e2]
    exact heap_alloc_new wr _⟩
   have HPR : Aside0 (lastR rs = prevR A B d) := ⟨by
    have h1 := HRS.out
    cases d with
    | zero =>
     have : rs = [] := List.eq_nil_of_length_eq_zero HLEN.out
     rw [this]; rfl
    | succ d =>
     rw [List.range_succ, List.map_append] at h1
     rcases List.eq_nil_or_concat rs with h0 | ⟨rs', q, h0⟩
     ·subst h0; simp at h1
     ·rw [List.concat_eq_append] at h0
      subst h0
      rw [lastR_snoc]
      rw [List.map_append] at h1
      have := List.append_inj_right' h1 rfl
      simpa [prevR] using this⟩
   have HRL : Aside0 (∀ p ∈ rs, p.2.length ≤ 9223372036854775807) := ⟨fun p hp => by
    have h1 : p.2 ∈ rs.map (·.2) := List.mem_map_of_mem hp
    rw [HRS.out] at h1
    obtain ⟨d', hd', he⟩ := List.mem_map.1 h1
    rw [List.mem_range] at hd'
    rw [← he, rowV_length]
    omega⟩
   have HBASE := Aside0.mk HB.out.size
   clear HN1 HG1 HO HB HWH
   generalize wr.heap.size = g at HO2 HNE HBASE ⊢
   go_loopw [10] (fun v10 wr2 => ∃ (j : Nat) (kk : Int), v10 = .int .i64 kk ∧ Aside0 (kk = 2 * (j : Int) - d ∧ j ≤ d + 1) ∧ Aside0 (∀ i : Nat, i < j → ¬ (2 * (i : Int) - d = (A.length : Int) - B.length ∧ A.length ≤ V A B d (2 * (i : Int) - d))) ∧ Aside0 (Out 79 w.heap.size wr2 v1 (rs ++ [(g, rowV A B d (2 * j))])) ∧ Aside0 (Below w.heap.size w wr2)) (fun v10 _ => ((d : Int) + 2 - intOf v10).toNat)
   case atStart => exact ⟨0, _, rfl, ⟨by omega, by omega⟩, ⟨fun i hi => by omega⟩, HO2, HB1⟩
   case round =>
    clear HO2 HB1
    obtain ⟨j, kk, rfl, HJ, HNS, HO, HB⟩ := hrel
    obtain ⟨hk1, hk2⟩ : -(d : Int) ≤ kk ∧ kk ≤ d + 2 := by have := HJ.out; omega
    by_cases hlt : kk ≤ d
    ·have HF := Aside0.mk (from_ok A B (by have := HLA.out; omega) d (by omega) kk hk1 hlt (by have := HJ.out; omega))
     have HFD := Aside0.mk (frm_diag A B d kk hk1 hlt (by have := HJ.out; omega))
     go_wp2_with (first
      | (go_at_call 61; refine (myers_from.calls _ _ (lastR rs) (d : Int) kk (frm A B d kk) _ ?s1 ?s2 ?s3).mono ?_; (case s1 => exact HO.out.last HRL.out); (case s2 => exact Nat.le_refl _); (case s3 => rw [HPR.out]; exact HF.out); rintro e w2 ⟨rfl, ⟨nd, rfl⟩⟩))
     obtain ⟨hf1, hf2, hf3⟩ : kk ≤ (frm A B d kk : Int) ∧ (frm A B d kk : Int) ≤ l0.length + d ∧ (0 : Int) ≤ frm A B d kk := by have := HFD.out; have := HLA.out; omega
     go_loopw [11] (fun v11 wr3 => ∃ (x m : Nat), v11 = .int .i64 x ∧ Aside0 (snk A B x kk = V A B d kk) ∧ Aside0 (kk ≤ x ∧ (x : Int) ≤ l0.length + d) ∧ wr3 = wr.drewN m) (fun v11 _ => ((l0.length : Int) + d + 1 - intOf v11).toNat)
     case atStart => exact ⟨_, _, rfl, ⟨(V_eq A B d kk).symm⟩, ⟨hf1, hf2⟩, rfl⟩
     case round =>
      obtain ⟨x, m, rfl, HS, HX, rfl⟩ := hrel
      obtain ⟨hx1, hx2⟩ : kk ≤ (x : Int) ∧ (x : Int) ≤ l0.length + d := HX.out
      have HMT : Aside0 (x < l0.length → (x : Int) - kk < l1.length → mtl A B x ((x : Int) - kk).toNat = decide (rdOf ByteArray.empty l0 ((l0.length : Int) - 1 - x) = rdOf ByteArray.empty l1 ((l1.length : Int) - 1 - x + kk))) := ⟨fun c1 c2 => by
       have r1 := rd_rev l0 A HREV.out x c1 _ rfl
       have r2 := rd_rev l1 B HREVB.out ((x : Int) - kk).toNat (by omega) ((l1.length : Int) - 1 - x + kk) (by omega)
       unfold mtl
       rw [r1, r2]
       rw [Bool.eq_iff_iff, beq_iff_eq, decide_eq_true_iff]⟩
      by_cases cm : x < l0.length ∧ (x : Int) - kk < l1.length ∧ mtl A B x ((x : Int) - kk).toNat = true
      ·obtain ⟨c1, c2, c3⟩ := cm
       have b1 : decide (x < l0.length) = true := decide_eq_true c1
       have b2 : decide ((x : Int) - kk < (l1.length : Int)) = true := decide_eq_true c2
       have HSS := Aside0.mk (snk_step hx1 c3)
       have heq := HMT.out c1 c2
       rw [c3] at heq
       replace heq := of_decide_eq_true heq.symm
       have HEQ := Aside0.mk heq
       clear heq c3
       obtain ⟨ji, hji⟩ : ∃ ji : Int, ji = (l0.length : Int) - 1 - x := ⟨_, rfl⟩
       obtain ⟨jk, hjk⟩ : ∃ jk : Int, jk = (l1.length : Int) - 1 - x + kk := ⟨_, rfl⟩
       have s1 : IntKind.i64.wrap ((x : Int) - kk) = (x : Int) - kk := wr64 (by omega) (by omega)
       have s2 : IntKind.i64.wrap ((l0.length : Int) - 1) = (l0.length : Int) - 1 := wr64 (by omega) (by omega)
       have s3 : IntKind.i64.wrap ((l0.length : Int) - 1 - x) = ji := by rw [hji]; exact wr64 (by omega) (by omega)
       have s4 : IntKind.i64.wrap ((l1.length : Int) - 1) = (l1.length : Int) - 1 := wr64 (by omega) (by omega)
       have s5 : IntKind.i64.wrap ((l1.length : Int) - 1 - x) = (l1.length : Int) - 1 - x := wr64 (by omega) (by omega)
       have s6 : IntKind.i64.wrap ((l1.length : Int) - 1 - x + kk) = jk := by rw [hjk]; exact wr64 (by omega) (by omega)
       obtain ⟨ad, e1, hx⟩ := Kd.at_string (HR0.out) ji (by omega) (by omega)
       obtain ⟨ad2, e2, hy⟩ := Kd.at_string (HR1.out) jk (by omega) (by omega)
       cases e1
       cases e2
       replace hx := (HB.out.cell (World.block_lt_of_cell? w _ hx)).trans hx
       replace hy := (HB.out.cell (World.block_lt_of_cell? w _ hy)).trans hy
       have h2 : (0 ≤ ji) = True := eq_true (by omega)
       have h3 : (ji < (l0.length : Int)) = True := eq_true (by omega)
       have h4 : (0 ≤ jk) = True := eq_true (by omega)
       have h5 : (jk < (l1.length : Int)) = True := eq_true (by omega)
       have HJI := Aside0.mk hji
       have HJK := Aside0.mk hjk
       clear hji hjk
       obtain ⟨p, hp⟩ : ∃ p, p = rdOf ByteArray.empty l0 ji := ⟨_, rfl⟩
       obtain ⟨q, hq⟩ : ∃ q, q = rdOf ByteArray.empty l1 jk := ⟨_, rfl⟩
       rw [← hp] at hx
       rw [← hq] at hy
       have HP := Aside0.mk hp
       have HQ := Aside0.mk hq
       clear hp hq
       have b3 : (p.toList == q.toList) = true := beq_iff_eq.2 (by rw [HP.out, HQ.out, HJI.out, HJK.out, HEQ.out])
       clear HEQ
       go_wp2
       go_quiet (fail)
       clear s1 s2 s3 s4 s5 s6
       go_wp2
       go_roundw
       case rel => exact ⟨x + 1, m + nq, by go_num, ⟨HSS.out.symm.trans HS.out⟩, ⟨by omega, by omega⟩, rfl⟩
       case measure => simp [intOf]; omega
      ·have HV : Aside0 (V A B d kk = x) := ⟨by
        rw [← HS.out]
        refine snk_stop ?_
        cases hb : mtl A B x ((x : Int) - kk).toNat with
        | false => rfl
        | true =>
         obtain ⟨hx, hy, _⟩ := mtl_iff.1 hb
         have := HLA.out
         have := HLB.out
         exact absurd ⟨by omega, by omega, hb⟩ cm⟩
       have hcase : ¬ x < l0.length ∨ (x < l0.length ∧ ¬ (x : Int) - kk < l1.length) ∨ (x < l0.length ∧ (x : Int) - kk < l1.length ∧ mtl A B x ((x : Int) - kk).toNat = false) := by
        by_cases c1 : x < l0.length
        ·by_cases c2 : (x : Int) - kk < l1.length
         ·exact .inr (.inr ⟨c1, c2, by
           cases hb : mtl A B x ((x : Int) - kk).toNat with
           | false => rfl
           | true => exact absurd ⟨c1, c2, hb⟩ cm⟩)
         ·exact .inr (.inl ⟨c1, c2⟩)
        ·exact .inl c1
       clear cm
       obtain ⟨ds, hds⟩ : ∃ ds : Int, ds = (d : Int) + kk := ⟨_, rfl⟩
       have hds0 : 0 ≤ ds ∧ ds = 2 * j := by have := HJ.out; omega
       have hdj : 2 * j < (rowV A B d (2 * j)).length := by rw [rowV_length]; have := HJ.out; omega
       obtain ⟨hcell, hfroz⟩ := HO.out.cell (g := g) (row := rowV A B d (2 * j)) (by simp) (2 * j) hdj
       have hdt : ds.toNat = 2 * j := by omega
       generalize (rowV A B d (2 * j))[2 * j] = cv at hcell
       rw [← hdt] at hcell hfroz
       have HDT := Aside0.mk hdt
       have HDS := Aside0.mk hds
       obtain ⟨hd1, hd2⟩ : 0 ≤ (d : Int) + kk ∧ (d : Int) + kk < 2 * d + 1 := by omega
       have hsum : (d : Int) + kk = ds := hds.symm
       clear hds hdt hds0 hdj
       rcases hcase with c1 | ⟨c1, c2⟩ | ⟨c1, c2, c3⟩
       case' inl =>
        have b1 : decide (x < l0.length) = false := decide_eq_false c1
        go_wp2
        go_quiet (fail)
        go_wp2
       case' inr.inl =>
        have b1 : decide (x < l0.length) = true := decide_eq_true c1
        have b2 : decide ((x : Int) - kk < (l1.length : Int)) = false := decide_eq_false c2
        have s1 : IntKind.i64.wrap ((x : Int) - kk) = (x : Int) - kk := wr64 (by omega) (by omega)
        go_wp2
        go_quiet (fail)
        clear s1
        go_wp2
       case' inr.inr =>
        have b1 : decide (x < l0.length) = true := decide_eq_true c1
        have b2 : decide ((x : Int) - kk < (l1.length : Int)) = true := decide_eq_true c2
        have heq := HMT.out c1 c2
        rw [c3] at heq
        replace heq := of_decide_eq_false heq.symm
        have HEQ := Aside0.mk heq
        clear heq c3
        obtain ⟨ji, hji⟩ : ∃ ji : Int, ji = (l0.length : Int) - 1 - x := ⟨_, rfl⟩
        obtain ⟨jk, hjk⟩ : ∃ jk : Int, jk = (l1.length : Int) - 1 - x + kk := ⟨_, rfl⟩
        have s1 : IntKind.i64.wrap ((x : Int) - kk) = (x : Int) - kk := wr64 (by omega) (by omega)
        have s2 : IntKind.i64.wrap ((l0.length : Int) - 1) = (l0.length : Int) - 1 := wr64 (by omega) (by omega)
        have s3 : IntKind.i64.wrap ((l0.length : Int) - 1 - x) = ji := by rw [hji]; exact wr64 (by omega) (by omega)
        have s4 : IntKind.i64.wrap ((l1.length : Int) - 1) = (l1.length : Int) - 1 := wr64 (by omega) (by omega)
        have s5 : IntKind.i64.wrap ((l1.length : Int) - 1 - x) = (l1.length : Int) - 1 - x := wr64 (by omega) (by omega)
        have s6 : IntKind.i64.wrap ((l1.length : Int) - 1 - x + kk) = jk := by rw [hjk]; exact wr64 (by omega) (by omega)
        obtain ⟨ad, e1, hx⟩ := Kd.at_string (HR0.out) ji (by omega) (by omega)
        obtain ⟨ad2, e2, hy⟩ := Kd.at_string (HR1.out) jk (by omega) (by omega)
        cases e1
        cases e2
        replace hx := (HB.out.cell (World.block_lt_of_cell? w _ hx)).trans hx
        replace hy := (HB.out.cell (World.block_lt_of_cell? w _ hy)).trans hy
        have h2 : (0 ≤ ji) = True := eq_true (by omega)
        have h3 : (ji < (l0.length : Int)) = True := eq_true (by omega)
        have h4 : (0 ≤ jk) = True := eq_true (by omega)
        have h5 : (jk < (l1.length : Int)) = True := eq_true (by omega)
        have HJI := Aside0.mk hji
        have HJK := Aside0.mk hjk
        clear hji hjk
        obtain ⟨p, hp⟩ : ∃ p, p = rdOf ByteArray.empty l0 ji := ⟨_, rfl⟩
        obtain ⟨q, hq⟩ : ∃ q, q = rdOf ByteArray.empty l1 jk := ⟨_, rfl⟩
        rw [← hp] at hx
        rw [← hq] at hy
        have HP := Aside0.mk hp
        have HQ := Aside0.mk hq
        clear hp hq
        have b3 : (p.toList == q.toList) = false := beq_eq_false_iff_ne.2 (fun hh => HEQ.out (by rw [← HJI.out, ← HJK.out, ← HP.out, ← HQ.out]; exact bytes_inj hh))
        clear HEQ
        go_wp2
        go_quiet (fail)
        clear s1 s2 s3 s4 s5 s6
        go_wp2
       all_goals
        go_ways
       all_goals
        have HOS : Aside0 (Out 79 w.heap.size ((wr.drewN (m + nq)).setCell ⟨g, ds.toNat, none⟩ (.int .i64 (x : Int))) v1 (rs ++ [(g, rowV A B d (2 * (j + 1)))])) := ⟨by
         have h1 := (HO.out.drewN (m + nq)).store (by decide) HNE.out (2 * j) (x : Int)
         rw [HDT.out]
         have h2 := rowV_set A B d j (by have := HJ.out; omega)
         have h3 : ((2 * j : Nat) : Int) - d = kk := by have := HJ.out; omega
         rw [h3, HV.out] at h2
         rw [h2] at h1
         exact h1⟩
        have HBS : Aside0 (Below w.heap.size w ((wr.drewN (m + nq)).setCell ⟨g, ds.toNat, none⟩ (.int .i64 (x : Int)))) := ⟨below_set (pw_below_drewN HB.out _) (HO.out.2.1 (g, rowV A B d (2 * j)) (by simp)).1⟩
        first
         | (
           rw [Exit.noGoto_ret]
           go_ret
           have hdD : d = D := by
            rcases Nat.lt_or_ge d D with hlt2 | hge
            ·have h1 := HNO.out d hlt2
             unfold stop at h1
             have hkk : (A.length : Int) - B.length = kk := by have := HLA.out; have := HLB.out; omega
             rw [hkk, HV.out] at h1
             have h2 := of_decide_eq_false h1
             exact absurd ⟨by omega, by omega, by have := HJ.out; have := HLA.out; have := HLB.out; omega, by have := HLA.out; omega⟩ h2
            ·omega
           refine ⟨_, rfl, ?_, HBS.out⟩
           have h1 := HOS.out.toS (by decide) (fun p hp => by
            rcases List.mem_append.1 hp with hp | hp
            ·exact HRL.out p hp
            ·rw [List.mem_singleton.1 hp, rowV_length]; omega)
           have h2 : (rs ++ [(g, rowV A B d (2 * (j + 1)))]).map (·.2) = rows A B D := by
            rw [List.map_append, HRS.out]
            unfold rows
            have h3 : ((A.length : Int) - B.length + D).toNat + 2 = 2 * (j + 1) := by
             have := HJ.out
             have := HLA.out
             have := HLB.out
             omega
            rw [h3, ← hdD]
            rfl
           rw [h2] at h1
           rw [HREV.out, HREVB.out] at h1
           exact h1)
         | (
           refine ⟨⟨j + 1, _, rfl, ⟨by have := HJ.out; omega, by have := HJ.out; omega⟩, ⟨fun i hi => ?_⟩, HOS, HBS⟩, by simp [intOf]; omega⟩
           rcases Nat.lt_or_ge i j with h1 | h1
           ·exact HNS.out i h1
           ·rintro ⟨h2, h3⟩
            have h4 : 2 * (i : Int) - d = kk := by have := HJ.out; omega
            rw [h4, HV.out] at h3
            have := HLA.out
            have := HLB.out
            omega)
    ·have HLT : Aside0 (d < D) := ⟨by
      rcases Nat.lt_or_ge d D with h1 | h1
      ·exact h1
      ·have h2 : d = D := by omega
       have h3 := HYES.out
       rw [← h2] at h3
       unfold stop at h3
       have h4 := of_decide_eq_true h3
       have h5 := HJ.out
       obtain ⟨i, hi⟩ : ∃ i : Nat, ((A.length : Int) - B.length) = 2 * (i : Int) - d := ⟨(((A.length : Int) - B.length + d) / 2).toNat, by omega⟩
       exact absurd ⟨hi.symm, by rw [← hi]; exact h4.2.2.2⟩ (HNS.out i (by omega))⟩
     have HHJ : Aside0 (j = d + 1) := ⟨by have := HJ.out; omega⟩
     go_wp2
     have HHR : Aside0 (Out 79 w.heap.size wr v1 (rs ++ [(g, rowV A B d (2 * d + 2))])) := ⟨by
      have h1 := HO.out
      rw [HHJ.out] at h1
      exact h1⟩
     refine ⟨⟨d + 1, rs ++ [(g, rowV A B d (2 * d + 2))], HLT.out, rfl, by rw [lastA_snoc, lastR_snoc, rowV_length], ⟨?_⟩, HHR, HB⟩, by have := HLT.out; simp [intOf]; omega⟩
     rw [List.map_append, HRS.out, List.range_succ, List.map_append]
     rfl
 ·cases h
end Go.Proofs.Ytgobidmfbjmpkaa.P
end
section
set_option linter.unusedVariables false
set_option linter.unusedSimpArgs false
namespace Go.Proofs.Ytgobidmfbjmpkaa.P
open Go Go.RowKit Go.Proofs.YtgobidmfbjmpkaaW.PrintWords Go.Proofs.YtgobidmfbjmpkaaW.PrintLast Go.Proofs.YtgobidmfbjmpkaaW.PrintMore Go.Proofs.Ytgobidmfbjmpkaa.HEdits

/-- A script with one step more. -/
def note (s : List S31) (op : Int) (ls : List ByteArray) : List S31 := match s.getLast? with
 | some x => if x.f0 = op then s.dropLast ++ [⟨op, x.f1 + 1, x.f2 ++ ls⟩] else s ++ [⟨op, 1, ls⟩]
 | none => s ++ [⟨op, 1, ls⟩]
theorem note_nil (op : Int) (ls : List ByteArray) : note [] op ls = [⟨op, 1, ls⟩] := rfl
theorem note_snoc (s : List S31) (x : S31) (op : Int) (ls : List ByteArray) : note (s ++ [x]) op ls = if x.f0 = op then s ++ [⟨op, x.f1 + 1, x.f2 ++ ls⟩] else s ++ [x] ++ [⟨op, 1, ls⟩] := by
 unfold note
 rw [List.getLast?_concat, List.dropLast_concat]
structure Small (es : List Ed) : Prop where
 len : es.length ≤ 10000000
 n : ∀ e ∈ es, 0 ≤ e.n ∧ e.n ≤ 10000000
 l : ∀ e ∈ es, e.l.length ≤ 10000000
set_option maxHeartbeats 4000000 in
set_option maxRecDepth 100000 in
theorem myers_noted.calls (B : Nat) (es : List Ed) (v : Value) (op : Int) (A2 : Option Addr) (n2 c2 : Nat) (ls : List ByteArray) (w : World) (hB : B ≤ w.heap.size) (HS : Scr B w v es) (hl : Lns B w (.slice A2 n2 c2) ls) (hne : ∀ e ∈ es, NeRow e.v (.slice A2 n2 c2)) (hsm : Small es) (hls : ls.length ≤ 10000000) :
  Calls Try.prog 50 #[v, .int .i64 op, .slice A2 n2 c2] w fun e w' => ∃ v' es', e = .returned v' ∧ Scr B w' v' es' ∧ es'.map Ed.plain = note (es.map Ed.plain) op ls ∧ Below B w w' := by
 have hn2 : n2 = ls.length := by
  obtain ⟨A', c', h1⟩ := own_slice hl
  injection h1 with _ h1 _
 subst hn2
 have HNE := Aside0.mk hne
 clear hne
 have HSM := Aside0.mk hsm
 have HLS := Aside0.mk hl
 have HB0 := Aside0.mk (Below.refl B w)
 have HL2 := Aside0.mk hls
 clear hsm hl
 rcases List.eq_nil_or_concat es with h0 | ⟨es0, e, h0⟩
 ·subst h0
  obtain ⟨A, c, rfl⟩ := own_slice HS.1
  have HSA := Aside0.mk HS
  clear HS
  go_enter Try.func50, Try.ntmps50
  go_wp2_with (first
   | (at_builtin; refine print_append_cells (w0 := w) B rfl (.tmp 45) (.tmp 49) 26 31 (.agg #[(.int .i64 0), (.int .i64 0), (.slice none 0 0)]) 3 40 rfl Try.underlying26 info31 rfl (by omega) (by omega) (.slice A 0 c) 0 (flat ([] : List Ed)) [.int .i64 op, .int .i64 1, .slice A2 ls.length c2] rfl (by first | (go_simp; done) | (go_simp; rfl)) rfl ?h1 ?hO ?hB ?hs ?hl ?_; (case h1 => intro u hu; simp at hu; rcases hu with rfl | rfl | rfl <;> rfl); (case hO => exact HSA.out.1); (case hB => exact HB0.out); (case hs => exact hB); (case hl => omega); intro v1 w1 hown hb hgr hat; have HN1 := Aside0.mk hown; have HB1 := Aside0.mk hb; have HG1 := Aside0.mk hgr; clear hown hb hgr hat))
  go_ret
  exact ⟨v1, ([] : List Ed) ++ [⟨op, 1, .slice A2 ls.length c2, ls⟩], rfl, HSA.out.push (es := []) (e := ⟨op, 1, .slice A2 ls.length c2, ls⟩) HN1.out HG1.out HLS.out HNE.out, rfl, HB1.out⟩
 ·rw [List.concat_eq_append] at h0
  subst h0
  obtain ⟨g, cap, rfl, hg, hgl, hblk, hc0, hc1, hc2, hf1, hf2⟩ := HS.last
  have HSA := Aside0.mk HS
  clear HS
  have hlen := HSM.out.len
  rw [List.length_append, List.length_singleton] at hlen
  obtain ⟨ji, hji⟩ : ∃ ji : Int, ji = ((es0.length + 1 : Nat) : Int) - 1 := ⟨_, rfl⟩
  have s1 : IntKind.i64.wrap (((es0.length + 1 : Nat) : Int) - 1) = ji := by rw [hji]; exact wr64 (by omega) (by omega)
  have h2 : (0 ≤ ji) = True := eq_true (by omega)
  have h3 : (ji < ((es0.length + 1 : Nat) : Int)) = True := eq_true (by omega)
  have hjn : ji.toNat = es0.length := by omega
  by_cases hop : e.op = op
  ·go_enter Try.func50, Try.ntmps50
   have S2 : Scr B (w.setCell ⟨g, es0.length * 3 + 1, none⟩ (.int .i64 (e.n + 1))) (.slice (some ⟨g, 0, none⟩) (es0.length + 1) cap) (es0 ++ [⟨e.op, e.n + 1, e.v, e.l⟩]) :=
    HSA.out.set rfl hblk 1 (by omega) _ ⟨e.op, e.n + 1, e.v, e.l⟩ rfl (HSA.out.2.1 e (by simp)) (fun p hp => (List.pairwise_append.1 HSA.out.2.2).2.2 p hp e (by simp))
   have HS2 := Aside0.mk S2
   have hnote : note (List.map Ed.plain es0 ++ [e.plain]) op ls = List.map Ed.plain es0 ++ [⟨op, e.n + 1, e.l ++ ls⟩] := by rw [note_snoc, if_pos (show (Ed.plain e).f0 = op from hop)]; rfl
   have hll : ls.length ≤ 10000000 ∧ e.l.length ≤ 10000000 := ⟨HL2.out, HSM.out.l e (by simp)⟩
   have sN : IntKind.i64.wrap (e.n + 1) = e.n + 1 := wr64 (by have := HSM.out.n e (by simp); omega) (by have := HSM.out.n e (by simp); omega)
   clear S2
   go_wp2_with (first
    | (at_builtin; refine print_append_row_of (w0 := w) Value.string ByteArray.empty B rfl (.tmp 39) (.tmp 40) 29 9 (.string ⟨#[]⟩) 16 rfl Try.underlying29 info9 rfl (by omega) (fun _ => rfl) e.v e.l ls A2 ls.length c2 rfl rfl ?hO ?hR ?hB ?hs ?hl ?_; (case hO => exact HS2.out.2.1 ⟨e.op, e.n + 1, e.v, e.l⟩ (by simp)); (case hR => exact own_reads_of' (own_setCell HLS.out (own_ne HLS.out hblk.choose_spec (by decide)) _)); (case hB => exact HB0.out.setCell hg _); (case hs => simpa [World.setCell] using hB); (case hl => omega); intro v1 w1 hown hb hgr hat; obtain ⟨Av, nv, cv, rfl⟩ : ∃ A n c, v1 = .slice A n c := (by obtain ⟨A, c, h⟩ := own_slice hown; exact ⟨A, _, c, h⟩); have HN1 := Aside0.mk hown; have HB1 := Aside0.mk hb; have HG1 := Aside0.mk hgr; have HP1 : Aside0 (∀ p ∈ es0, NeRow p.v (.slice Av nv cv)) := ⟨fun p hp => ne_append' ((List.pairwise_append.1 HS2.out.2.2).2.2 p hp ⟨e.op, e.n + 1, e.v, e.l⟩ (by simp)) hat (HS2.out.2.1 p (List.mem_append_left _ hp))⟩; obtain ⟨S3, hd2, hdf⟩ := HS2.out.later rfl HG1.out HN1.out HP1.out; have HS3 := Aside0.mk S3; clear hown hb hgr hat S3))
   go_ret
   refine ⟨.slice (some ⟨g, 0, none⟩) (es0.length + 1) cap, rfl, es0 ++ [⟨e.op, e.n + 1, .slice Av nv cv, e.l ++ ls⟩], HS3.out, by first | (rw [List.map_append]; exact congrArg (fun o : Int => List.map Ed.plain es0 ++ [(⟨o, e.n + 1, e.l ++ ls⟩ : S31)]) hop) | (rw [hnote]; exact congrArg (fun o : Int => List.map Ed.plain es0 ++ [(⟨o, e.n + 1, e.l ++ ls⟩ : S31)]) hop) | (rw [List.map_append, List.map_append, List.map_singleton, List.map_singleton, hnote]; exact congrArg (fun o : Int => List.map Ed.plain es0 ++ [(⟨o, e.n + 1, e.l ++ ls⟩ : S31)]) hop), HB1.out.setCell hg _⟩
  ·go_enter Try.func50, Try.ntmps50
   go_wp2_with (first
    | (at_builtin; refine print_append_cells (w0 := w) B rfl (.tmp 45) (.tmp 49) 26 31 (.agg #[(.int .i64 0), (.int .i64 0), (.slice none 0 0)]) 3 40 rfl Try.underlying26 info31 rfl (by omega) (by omega) (.slice (some ⟨g, 0, none⟩) (es0.length + 1) cap) (es0.length + 1) (flat (es0 ++ [e])) [.int .i64 op, .int .i64 1, .slice A2 ls.length c2] rfl (by first | (go_simp; done) | (go_simp; rfl)) rfl ?h1 ?hO ?hB ?hs ?hl ?_; (case h1 => intro u hu; simp at hu; rcases hu with rfl | rfl | rfl <;> rfl); (case hO => have h1 := HSA.out.1; rw [List.length_append, List.length_singleton] at h1; exact h1); (case hB => exact HB0.out); (case hs => exact hB); (case hl => omega); intro v1 w1 hown hb hgr hat; have HN1 := Aside0.mk hown; have HB1 := Aside0.mk hb; have HG1 := Aside0.mk hgr; clear hown hb hgr hat))
   go_ret
   exact ⟨v1, (es0 ++ [e]) ++ [⟨op, 1, .slice A2 ls.length c2, ls⟩], rfl, HSA.out.push (by rw [List.length_append, List.length_singleton]; exact HN1.out) HG1.out HLS.out HNE.out, by rw [List.map_append, List.map_append, List.map_singleton, note_snoc, if_neg (show ¬ (Ed.plain e).f0 = op from hop)]; rfl, HB1.out⟩
end Go.Proofs.Ytgobidmfbjmpkaa.P
end
section
set_option linter.unusedVariables false
set_option linter.unusedSimpArgs false
namespace Go.Proofs.Ytgobidmfbjmpkaa.P
open Go Go.RowKit Go.Proofs.YtgobidmfbjmpkaaW.PrintWords Go.Proofs.YtgobidmfbjmpkaaW.PrintLast Go.Proofs.YtgobidmfbjmpkaaW.PrintMore Go.Proofs.Ytgobidmfbjmpkaa.Q

theorem rows_get (A B : List ByteArray) (D d : Nat) (hd : d < D) : rd_L9 (rows A B D) (d : Int) = rowV A B d (2 * d + 2) := by
 unfold rd_L9 rows
 rw [Int.toNat_natCast, List.getD_eq_getElem?_getD, List.getElem?_append_left (by simpa using hd), List.getElem?_map, List.getElem?_range hd]
 rfl
def comesB (a b : List ByteArray) (d x y : Nat) : Bool := decide (x + y ≤ d + 2 * Sh a b x y)
set_option maxHeartbeats 4000000 in
set_option maxRecDepth 100000 in
theorem myers_comes.calls (a b : List ByteArray) (ha : a.length ≤ 1000000) (hb : b.length ≤ 1000000) (d x y : Nat) (hd : d < cost a b) (hx : x ≤ a.length) (hy : y ≤ b.length) (hpar : (d + x + y) % 2 = 0) (p : Nat) (Af : Option Addr) (cf : Nat) (w : World)
  (hp : w.cell? ⟨p, 0, none⟩ = some (.slice Af (cost a b + 1) cf)) (hc : Kd.C (Kd.slice 3 (Kd.int .i64)) w Af (cost a b + 1) (rows a.reverse b.reverse (cost a b))) :
  Calls Try.prog 49 #[.int .i64 (d : Int), .int .i64 (x : Int), .int .i64 (y : Int), .pointer (some ⟨p, 0, none⟩)] w fun e w' => e = .returned (.bool (comesB a b d x y)) ∧ w' = w := by
 have hD : cost a b ≤ a.length + b.length := by unfold cost; omega
 have hS := Sh_le a b x y
 have s1 : IntKind.i64.wrap ((x : Int) - y) = (x : Int) - y := wr64 (by omega) (by omega)
 have s2 : IntKind.i64.wrap (-(d : Int)) = -(d : Int) := wr64 (by omega) (by omega)
 by_cases c1 : -(d : Int) ≤ (x : Int) - y
 ·by_cases c2 : (x : Int) - y ≤ d
  ·obtain ⟨ad, Ar, cr, rfl, hrow, _, hrr⟩ := at_L9 hc (d : Int) (by omega) (by omega)
   rw [rows_get _ _ _ _ hd] at hrow hrr
   have hlen : (rowV a.reverse b.reverse d (2 * d + 2)).length = 2 * d + 1 := rowV_length _ _ _ _
   have hV : rd (rowV a.reverse b.reverse d (2 * d + 2)) ((d : Int) + ((x : Int) - y)) = V a.reverse b.reverse d ((x : Int) - y) := prev_get _ _ _ _ _ rfl c1 c2 (by omega)
   rw [hlen] at hrow hrr
   obtain ⟨ad2, rfl, hcell⟩ := Kd.at_int hrr ((d : Int) + ((x : Int) - y)) (by omega) (by omega)
   rw [hV] at hcell
   have hci := comes_iff a b d x y hx hy c1 c2 hpar
   have hB : comesB a b d x y = decide ((x : Int) ≤ (V a.reverse b.reverse d ((x : Int) - y) : Int)) := by
    unfold comesB
    rw [decide_eq_decide, ← hci]
    omega
   rw [hB]
   rw [Int.toNat_natCast] at hrow
   obtain ⟨ds, hds⟩ : ∃ ds : Int, ds = (d : Int) + ((x : Int) - y) := ⟨_, rfl⟩
   have s3 : IntKind.i64.wrap ((d : Int) + ((x : Int) - y)) = ds := by rw [hds]; exact wr64 (by omega) (by omega)
   rw [← hds] at hcell
   have h2 : (0 ≤ ds) = True := eq_true (by omega)
   have h3 : (ds < ((2 * d + 1 : Nat) : Int)) = True := eq_true (by omega)
   have h3' : (ds < 2 * (d : Int) + 1) = True := eq_true (by omega)
   have HDS := Aside0.mk hds
   clear hds
   have HCI := Aside0.mk hci
   clear hci hB hc hrr hV
   generalize V a.reverse b.reverse d ((x : Int) - y) = vv at *
   generalize cost a b = D at *
   go_enter Try.func49, Try.ntmps49
   go_wp2
   go_ret
   refine ⟨?_, rfl⟩
   first | rfl | (simp; done) | (simp; trace_state; sorry)
  ·have hB : comesB a b d x y = false := by unfold comesB; exact decide_eq_false (by omega)
   rw [hB]
   go_enter Try.func49, Try.ntmps49
   go_wp2
   go_ret
   exact ⟨rfl, rfl⟩
 ·have hB : comesB a b d x y = false := by unfold comesB; exact decide_eq_false (by omega)
  rw [hB]
  go_enter Try.func49, Try.ntmps49
  go_wp2
  go_ret
  exact ⟨rfl, rfl⟩
end Go.Proofs.Ytgobidmfbjmpkaa.P
end
section
set_option linter.unusedVariables false
set_option linter.unusedSimpArgs false
namespace Go.Proofs.Ytgobidmfbjmpkaa.P
open Go Go.RowKit Go.Proofs.YtgobidmfbjmpkaaW.PrintWords Go.Proofs.YtgobidmfbjmpkaaW.PrintLast Go.Proofs.YtgobidmfbjmpkaaW.PrintMore Go.Proofs.Ytgobidmfbjmpkaa.Q Go.Proofs.Ytgobidmfbjmpkaa.HEdits

/-- A script, its steps put together. -/
def folded (st : List Step) : List S31 := st.foldl (fun s x => note s x.1 x.2) []
def script (a b : List ByteArray) : List S31 := folded (pth a b)
def myers_Diff.f (a b : List ByteArray) : Option (List S31) :=
 if a.length ≤ 1000000 ∧ b.length ≤ 1000000 then some (script a b) else none
theorem folded_snoc (st : List Step) (x : Step) : folded (st ++ [x]) = note (folded st) x.1 x.2 := by unfold folded; rw [List.foldl_append]; rfl
def Bd (k : Nat) (s : List S31) : Prop := s.length ≤ k ∧ ∀ x ∈ s, 0 ≤ x.f1 ∧ x.f1 ≤ k ∧ x.f2.length ≤ k
theorem note_bd {k : Nat} {s : List S31} (h : Bd k s) (op : Int) {ls : List ByteArray} (hl : ls.length ≤ 1) : Bd (k + 1) (note s op ls) := by
 rcases List.eq_nil_or_concat s with h0 | ⟨s0, x, h0⟩
 ·subst h0
  rw [note_nil]
  refine ⟨by simp, fun y hy => ?_⟩
  rw [List.mem_singleton.1 hy]
  exact ⟨by show (0 : Int) ≤ 1; omega, by show (1 : Int) ≤ _; omega, by show ls.length ≤ k + 1; omega⟩
 ·rw [List.concat_eq_append] at h0
  subst h0
  have hx := h.2 x (by simp)
  have hlen := h.1
  rw [List.length_append, List.length_singleton] at hlen
  rw [note_snoc]
  split
  ·refine ⟨by simp; omega, fun y hy => ?_⟩
   rcases List.mem_append.1 hy with hy | hy
   ·have := h.2 y (List.mem_append_left _ hy); omega
   ·rw [List.mem_singleton.1 hy]
    exact ⟨by show 0 ≤ x.f1 + 1; omega, by show x.f1 + 1 ≤ _; omega, by show (x.f2 ++ ls).length ≤ k + 1; rw [List.length_append]; omega⟩
  ·refine ⟨by simp; omega, fun y hy => ?_⟩
   rcases List.mem_append.1 hy with hy | hy
   ·have := h.2 y hy; omega
   ·rw [List.mem_singleton.1 hy]
    exact ⟨by show (0 : Int) ≤ 1; omega, by show (1 : Int) ≤ _; omega, by show ls.length ≤ k + 1; omega⟩
theorem folded_bd (st : List Step) (h : ∀ x ∈ st, x.2.length ≤ 1) : Bd st.length (folded st) := by
 have gen : ∀ (st : List Step) (k : Nat) (s : List S31), (∀ x ∈ st, x.2.length ≤ 1) → Bd k s → Bd (k + st.length) (st.foldl (fun s x => note s x.1 x.2) s) := by
  intro st
  induction st with
  | nil => intro k s _ h; exact h
  | cons y st ih =>
   intro k s hs h
   have h1 := ih (k + 1) (note s y.1 y.2) (fun x hx => hs x (List.mem_cons_of_mem _ hx)) (note_bd h y.1 (hs y List.mem_cons_self))
   have e : k + (y :: st).length = k + 1 + st.length := by simp; omega
   rw [e]
   exact h1
 have := gen st 0 [] h ⟨by simp, by simp⟩
 rw [Nat.zero_add] at this
 exact this
theorem small_of {es : List Ed} {st : List Step} (h : es.map Ed.plain = folded st) (hs : ∀ x ∈ st, x.2.length ≤ 1) (hl : st.length ≤ 2000000) : Small es := by
 have hb := folded_bd st hs
 rw [← h] at hb
 refine ⟨by have := hb.1; rw [List.length_map] at this; omega, fun e he => ?_, fun e he => ?_⟩
 ·have := hb.2 e.plain (List.mem_map_of_mem he)
  exact ⟨this.1, by have h2 : e.n ≤ _ := this.2.1; omega⟩
 ·have := hb.2 e.plain (List.mem_map_of_mem he)
  have h2 : e.l.length ≤ _ := this.2.2
  omega
set_option maxHeartbeats 4000000 in
set_option maxRecDepth 100000 in
theorem myers_Diff.calls (A0 : Option Addr) (c0 : Nat) (l0 : List ByteArray) (A1 : Option Addr) (c1 : Nat) (l1 : List ByteArray) (r : List S31) (w : World) (hr0 : Kd.C Kd.string w A0 l0.length l0) (hc0 : l0.length ≤ c0) (hr1 : Kd.C Kd.string w A1 l1.length l1) (hc1 : l1.length ≤ c1) (h : myers_Diff.f l0 l1 = some r) :
  Calls Try.prog 27 #[.slice A0 l0.length c0, .slice A1 l1.length c1] w fun e w' => ∃ v0_ : Value, e = .returned (v0_) ∧ Kd.S k31 31 w' w.heap.size (fun _ => True) v0_ r ∧ Below w.heap.size w w' := by
 unfold myers_Diff.f at h
 split at h
 ·rename_i hsz
  obtain ⟨hm0, hm1⟩ := hsz
  obtain rfl := Option.some.inj h
  clear h
  have hsr : myers_search.f l0 l1 = some (rows l0.reverse l1.reverse (cost l0 l1)) := by
   unfold myers_search.f
   rw [if_pos ⟨hm0, hm1⟩, least_rev]
   rfl
  have HSR := Aside0.mk hsr
  have HR0 := Aside0.mk hr0
  have HR1 := Aside0.mk hr1
  have HC0 := Aside0.mk hc0
  have HC1 := Aside0.mk hc1
  clear hr0 hc0 hr1 hc1 hsr
  have hD : cost l0 l1 ≤ 2000000 := by unfold cost; omega
  have HCD : Aside0 (cost l0 l1 ≤ l0.length + l1.length) := ⟨by unfold cost; omega⟩
  obtain ⟨D, hDe⟩ : ∃ D, D = cost l0 l1 := ⟨_, rfl⟩
  have HDE := Aside0.mk hDe
  rw [← hDe] at hD
  have hrl : (rows l0.reverse l1.reverse (cost l0 l1)).length = D + 1 := by rw [rows_length, hDe]
  generalize hrows : rows l0.reverse l1.reverse (cost l0 l1) = rs at hrl HSR
  have HROWS := Aside0.mk hrows
  clear hDe hrows
  go_enter Try.func27, Try.ntmps27
  go_wp2_with (first
   | (go_at_call 48; refine (myers_search.calls _ _ l0 _ _ l1 rs _ HR0.out HC0.out HR1.out HC1.out HSR.out).mono ?_; rintro e wF ⟨vF, rfl, hSF, hbF⟩; obtain ⟨AF, cF, rfl, hcF, hFC⟩ := Kd.S_reads hSF; rw [hrl] at hFC hcF ⊢; have HFC := Aside0.mk hFC; have HBF := Aside0.mk hbF; clear hSF hbF hFC hcF))
  obtain ⟨wb, hwb⟩ : ∃ wb, wb = wF.alloc (Obj.cells #[Value.slice AF (D + 1) cF] 77) := ⟨_, rfl⟩
  have hpc : wb.cell? ⟨wF.heap.size, 0, none⟩ = some (.slice AF (D + 1) cF) := by rw [hwb]; exact (blk_cell (heap_alloc_new wF _) 0)
  have HPL : Aside0 (wF.heap.size < wb.heap.size) := ⟨by rw [hwb]; simp⟩
  have HFB : Aside0 (Kd.C (Kd.slice 3 (Kd.int .i64)) wb AF (D + 1) rs) := ⟨by rw [hwb]; exact Kd.C_alloc HFC.out _⟩
  have HWB : Aside0 (Below w.heap.size w wb) := ⟨by rw [hwb]; exact below_alloc HBF.out _⟩
  have HPC := Aside0.mk hpc
  rw [← hwb]
  clear hwb hpc HFC HBF
  generalize wF.heap.size = g at *
  go_loopw [4, 6, 8, 9] (fun v4 v6 v8 v9 wr => ∃ (i j left : Nat) (es : List Ed) (done : List Step), v8 = .int .i64 i ∧ v9 = .int .i64 j ∧ v6 = .int .i64 left ∧ i ≤ l0.length ∧ j ≤ l1.length ∧ left ≤ D ∧ Aside0 (left = cost (l0.drop i) (l1.drop j)) ∧ Aside0 (Scr wb.heap.size wr v4 es) ∧ Aside0 (es.map Ed.plain = folded done) ∧ Aside0 (done ++ pth (l0.drop i) (l1.drop j) = pth l0 l1) ∧ Aside0 (Below wb.heap.size wb wr)) (fun _ _ v8 v9 _ => (l0.length - (intOf v8).toNat) + (l1.length - (intOf v9).toNat))
  case atStart => exact ⟨0, 0, D, [], [], rfl, rfl, rfl, Nat.zero_le _, Nat.zero_le _, Nat.le_refl _, HDE, ⟨Scr.nil _ _⟩, ⟨rfl⟩, ⟨rfl⟩, ⟨Below.refl _ _⟩⟩
  case round =>
   obtain ⟨i, j, left, es, done, rfl, rfl, rfl, hi, hj, hle, HL, HS, HP, HPT, HB⟩ := hrel
   have HSM : Aside0 (Small es) := ⟨small_of HP.out (fun x hx => (pth_small l0 l1).2 x (by rw [← HPT.out]; exact List.mem_append_left _ hx)) (by
    have h1 := congrArg List.length HPT.out
    rw [List.length_append] at h1
    have := (pth_small l0 l1).1
    omega)⟩
   have HSZ : Aside0 (wb.heap.size ≤ wr.heap.size) := ⟨HB.out.size⟩
   obtain ⟨Ao, co, rfl⟩ := own_slice HS.out.1
   by_cases hk : ∃ (h1 : i < l0.length) (h2 : j < l1.length), l0[i] = l1[j]
   ·obtain ⟨c1, c2, heq⟩ := hk
    have b1 : decide (i < l0.length) = true := decide_eq_true c1
    have b2 : decide (j < l1.length) = true := decide_eq_true c2
    have hA : l0.drop i = l0[i] :: l0.drop (i + 1) := List.drop_eq_getElem_cons c1
    have hB : l1.drop j = l1[j] :: l1.drop (j + 1) := List.drop_eq_getElem_cons c2
    have HL' : Aside0 (left = cost (l0.drop (i + 1)) (l1.drop (j + 1))) := ⟨by rw [HL.out, hA, hB, heq, cost_keep]⟩
    have HPT' : Aside0 ((done ++ [((1 : Int), [])]) ++ pth (l0.drop (i + 1)) (l1.drop (j + 1)) = pth l0 l1) := ⟨by
     rw [← HPT.out, hA, hB, pth_cons, if_pos heq, List.append_assoc]
     rfl⟩
    clear hA hB
    obtain ⟨ad, e1, hx⟩ := Kd.at_string (HR0.out) (i : Int) (by omega) (by omega)
    obtain ⟨ad2, e2, hy⟩ := Kd.at_string (HR1.out) (j : Int) (by omega) (by omega)
    cases e1
    cases e2
    replace hx := (HB.out.cell (Nat.lt_of_lt_of_le (World.block_lt_of_cell? w _ hx) HWB.out.size)).trans ((HWB.out.cell (World.block_lt_of_cell? w _ hx)).trans hx)
    replace hy := (HB.out.cell (Nat.lt_of_lt_of_le (World.block_lt_of_cell? w _ hy) HWB.out.size)).trans ((HWB.out.cell (World.block_lt_of_cell? w _ hy)).trans hy)
    have h3 : ((i : Int) < (l0.length : Int)) = True := eq_true (by omega)
    have h5 : ((j : Int) < (l1.length : Int)) = True := eq_true (by omega)
    have h3' : (i < l0.length) = True := eq_true c1
    have h5' : (j < l1.length) = True := eq_true c2
    obtain ⟨p, hp⟩ : ∃ p, p = rdOf ByteArray.empty l0 (i : Int) := ⟨_, rfl⟩
    obtain ⟨q, hq⟩ : ∃ q, q = rdOf ByteArray.empty l1 (j : Int) := ⟨_, rfl⟩
    rw [← hp, Int.toNat_natCast] at hx
    rw [← hq, Int.toNat_natCast] at hy
    have hpq : p = q := by
     rw [hp, hq]
     unfold rdOf
     rw [Int.toNat_natCast, Int.toNat_natCast, List.getD_eq_getElem?_getD, List.getD_eq_getElem?_getD, List.getElem?_eq_getElem c1, List.getElem?_eq_getElem c2, heq]
    have b3 : (p.toList == q.toList) = true := beq_iff_eq.2 (by rw [hpq])
    clear hp hq hpq heq
    go_wp2
    go_quiet (fail)
    go_wp2_with (first
     | (go_at_call 50; refine (myers_noted.calls wb.heap.size es _ 1 none 0 0 [] _ ?s1 ?s2 ?s3 ?s4 HSM.out ?s5).mono ?_; (case s1 => exact HSZ.out); (case s2 => exact HS.out); (case s3 => exact own_nil _ _ _ _); (case s4 => exact fun e _ k _ hk' => by simp [Value.ownBlock] at hk'); (case s5 => exact Nat.zero_le _); rintro e w2 ⟨v2, es2, rfl, hs2, hp2, hb2⟩; have HS2 := Aside0.mk hs2; have HP2 := Aside0.mk hp2; have HB2 := Aside0.mk hb2; clear hs2 hp2 hb2))
    exact ⟨⟨i + 1, j + 1, left, es2, done ++ [((1 : Int), [])], rfl, rfl, rfl, c1, c2, hle, HL', HS2, ⟨by rw [HP2.out, HP.out, folded_snoc]⟩, HPT', ⟨(pw_below_drewN HB.out _).trans HB2.out⟩⟩, by simp [intOf]; omega⟩
   ·have hne : ∀ a A' b B', l0.drop i = a :: A' → l1.drop j = b :: B' → a ≠ b := by
     intro a A' b B' h1 h2 he
     have e1 : i < l0.length := by have := congrArg List.length h1; simp at this; omega
     have e2 : j < l1.length := by have := congrArg List.length h2; simp at this; omega
     rw [List.drop_eq_getElem_cons e1] at h1
     rw [List.drop_eq_getElem_cons e2] at h2
     injection h1 with h1 _
     injection h2 with h2 _
     exact hk ⟨e1, e2, by rw [h1, h2, he]⟩
    have HNE := Aside0.mk hne
    have hcase : ¬ i < l0.length ∨ (i < l0.length ∧ ¬ j < l1.length) ∨ (i < l0.length ∧ j < l1.length) := by omega
    have HNK := Aside0.mk hk
    clear hk hne
    rcases hcase with c1 | ⟨c1, c2⟩ | ⟨c1, c2⟩
    ·have b1 : decide (i < l0.length) = false := decide_eq_false c1
     have hA : l0.drop i = [] := List.drop_eq_nil_of_le (by omega)
     go_wp2
     go_quiet (fail)
     by_cases hz : left = 0
     ·have HDONE : Aside0 (done = pth l0 l1) := ⟨by
       have h1 := HPT.out
       have h2 := left_zero (l0.drop i) (l1.drop j) (by rw [← HL.out, hz]) HNE.out
       rw [h2.1, h2.2, pth_nil, List.append_nil] at h1
       exact h1⟩
      subst hz
      clear hA
      go_wp2
      go_ret
      refine ⟨_, rfl, ?_, HWB.out.trans ((pw_below_drewN HB.out nq).mono HWB.out.size)⟩
      have h1 := (HS.out.drewN nq).toS
      rw [HP.out, show done = pth l0 l1 from HDONE.out] at h1
      exact Kd.S_lower h1 HWB.out.size
     ·have c2 : j < l1.length := by
       rcases Nat.lt_or_ge j l1.length with h | h
       ·exact h
       ·exact absurd (by rw [HL.out, hA, List.drop_eq_nil_of_le h]; rfl) hz
      have hB : l1.drop j = l1[j] :: l1.drop (j + 1) := List.drop_eq_getElem_cons c2
      obtain ⟨ad2, e2, hy⟩ := Kd.at_string (HR1.out) (j : Int) (by omega) (by omega)
      cases e2
      replace hy := (HB.out.cell (Nat.lt_of_lt_of_le (World.block_lt_of_cell? w _ hy) HWB.out.size)).trans ((HWB.out.cell (World.block_lt_of_cell? w _ hy)).trans hy)
      have h5 : ((j : Int) < (l1.length : Int)) = True := eq_true (by omega)
      have h5' : (j < l1.length) = True := eq_true c2
      obtain ⟨q, hq⟩ : ∃ q, q = rdOf ByteArray.empty l1 (j : Int) := ⟨_, rfl⟩
      rw [← hq, Int.toNat_natCast] at hy
      have hq' : q = l1[j] := by rw [hq]; unfold rdOf; rw [Int.toNat_natCast, List.getD_eq_getElem?_getD, List.getElem?_eq_getElem c2]; rfl
      have HQ := Aside0.mk hq'
      clear hq hq'
      obtain ⟨ld, hld⟩ : ∃ ld, left = ld + 1 := ⟨left - 1, by omega⟩
      have HL' : Aside0 (ld = cost (l0.drop i) (l1.drop (j + 1))) := ⟨by
       have h1 := HL.out
       rw [hA, hB, cost_add] at h1
       rw [hA]; omega⟩
      have HPT' : Aside0 ((done ++ [((3 : Int), [q])]) ++ pth (l0.drop i) (l1.drop (j + 1)) = pth l0 l1) := ⟨by
       rw [← HPT.out, hA, hB, pth_add, List.append_assoc, HQ.out]
       rfl⟩
      have s1 : IntKind.i64.wrap ((left : Int) - 1) = (ld : Int) := by rw [wr64 (by omega) (by omega)]; omega
      have b0 : ((left : Int) == 0) = false := beq_eq_false_iff_ne.2 (by omega)
      have hld2 : ld ≤ D := by omega
      clear hld hA hB
      have LITT : Lns wb.heap.size (wr.alloc (Obj.cells #[Value.string q] 9)) (.slice (some ⟨wr.heap.size, 0, none⟩) 1 1) [q] := own_lit_of wr _ 9 [q] HSZ.out (by simp)
      have HLT := Aside0.mk LITT
      have HNL : Aside0 (∀ e ∈ es, NeRow e.v (.slice (some ⟨wr.heap.size, 0, none⟩) 1 1)) := ⟨fun e he k hk hk' => by
       have h1 := own_lt (HS.out.2.1 e he) k hk
       have h2 : wr.heap.size = k := by simpa [Value.ownBlock] using hk'
       omega⟩
      clear LITT
      go_wp2_with (first
       | (go_at_call 50; refine (myers_noted.calls wb.heap.size es _ 3 _ 1 1 [q] _ ?s1 ?s2 ?s3 ?s4 HSM.out ?s5).mono ?_; (case s1 => exact Nat.le_trans HSZ.out (by simp)); (case s2 => first | exact HS.out.below (below_alloc (Below.refl _ _) _) | exact (HS.out.below (below_alloc (Below.refl _ _) _)).drewN _); (case s3 => first | exact HLT.out | exact pw_own_drewN HLT.out _); (case s4 => exact HNL.out); (case s5 => exact by simp); rintro e w2 ⟨v2, es2, rfl, hs2, hp2, hb2⟩; have HS2 := Aside0.mk hs2; have HP2 := Aside0.mk hp2; have HB2 := Aside0.mk hb2; clear hs2 hp2 hb2))
      exact ⟨⟨i, j + 1, ld, es2, done ++ [((3 : Int), [q])], rfl, rfl, rfl, hi, c2, hld2, HL', HS2, ⟨by rw [HP2.out, HP.out, folded_snoc]⟩, HPT', ⟨by first | exact (below_alloc (pw_below_drewN HB.out _) _).trans HB2.out | exact (pw_below_drewN (below_alloc HB.out _) _).trans HB2.out | exact (below_alloc HB.out _).trans HB2.out⟩⟩, by simp [intOf]; omega⟩
    ·have b1 : decide (i < l0.length) = true := decide_eq_true c1
     have b2 : decide (j < l1.length) = false := decide_eq_false c2
     go_wp2
     go_quiet (fail)
     obtain ⟨nx, hnx⟩ : ∃ nx, l0.length = i + nx + 1 := ⟨l0.length - i - 1, by omega⟩
     obtain ⟨my, hmy⟩ : ∃ my, l1.length = j + my := ⟨l1.length - j, by omega⟩
     have hA : l0.drop i = l0[i] :: l0.drop (i + 1) := List.drop_eq_getElem_cons c1
     have hcf := cut_iff l0[i] (l0.drop (i + 1)) (l1.drop j) (fun b B' hb => HNE.out _ _ _ _ hA hb)
     rw [← hA, ← HL.out] at hcf
     have eA : (l0.drop (i + 1)).length = nx := by rw [List.length_drop]; omega
     have eB : (l1.drop j).length = my := by rw [List.length_drop]; omega
     rw [eA, eB] at hcf
     have hSh : Sh l0 l1 nx my = lcs (l0.drop (i + 1)) (l1.drop j) := by
      unfold Sh
      have f1 : l0.length - nx = i + 1 := by omega
      have f2 : l1.length - my = j := by omega
      rw [f1, f2]
     obtain ⟨ld, hld⟩ : ∃ ld, left = ld + 1 := ⟨left - 1, by omega⟩
     have hl1 : left - 1 = ld := by omega
     rw [hl1] at hcf
     have HLD : Aside0 (ld < cost l0 l1) := ⟨by rw [← HDE.out]; omega⟩
     have HNX : Aside0 (nx ≤ l0.length) := ⟨by omega⟩
     have HMY : Aside0 (my ≤ l1.length) := ⟨by omega⟩
     have HPAR : Aside0 ((ld + nx + my) % 2 = 0) := ⟨by
      have h1 := HL.out
      have h2 := lcs_two (l0.drop i) (l1.drop j)
      unfold cost at h1
      rw [hA, List.length_cons, eA, eB] at h1
      rw [hA, List.length_cons, eA, eB] at h2
      omega⟩
     have HPW : Aside0 (wr.cell? ⟨g, 0, none⟩ = some (.slice AF (cost l0 l1 + 1) cF)) := ⟨by rw [← HDE.out]; exact (HB.out.cell HPL.out).trans HPC.out⟩
     have HCC : Aside0 (Kd.C (Kd.slice 3 (Kd.int .i64)) wr AF (cost l0 l1 + 1) (rows l0.reverse l1.reverse (cost l0 l1))) := ⟨by rw [HROWS.out, ← HDE.out]; exact Kd.C_below HFB.out HB.out⟩
     have s1 : IntKind.i64.wrap ((left : Int) - 1) = (ld : Int) := by rw [wr64 (by omega) (by omega)]; omega
     obtain ⟨z, hz⟩ : ∃ z : Int, z = (l0.length : Int) - i := ⟨_, rfl⟩
     have sA : IntKind.i64.wrap ((l0.length : Int) - i) = z := by rw [hz]; exact wr64 (by omega) (by omega)
     have sB : IntKind.i64.wrap (z - 1) = (nx : Int) := by rw [hz, wr64 (by omega) (by omega)]; omega
     have sC : IntKind.i64.wrap ((l1.length : Int) - j) = (my : Int) := by rw [wr64 (by omega) (by omega)]; omega
     have b0 : ((left : Int) == 0) = false := beq_eq_false_iff_ne.2 (by omega)
     have hld2 : ld ≤ D := by omega
     have hcf1 := hcf.2.2.1
     have hcf2 := hcf.2.2.2
     have hcf3 := hcf.2.1
     clear hz hld hl1 hnx hmy eA eB hcf
     have hcut : nx + my ≤ ld + 2 * lcs (l0.drop (i + 1)) (l1.drop j) := by
      rcases Nat.lt_or_ge (ld + 2 * lcs (l0.drop (i + 1)) (l1.drop j)) (nx + my) with h | h
      ·obtain ⟨b, B', hb, _⟩ := hcf2 (by omega)
       rw [List.drop_eq_nil_of_le (by omega)] at hb
       cases hb
      ·exact h
     have HCB : Aside0 (comesB l0 l1 ld nx my = true) := ⟨by unfold comesB; rw [hSh]; exact decide_eq_true hcut⟩
     have HL' : Aside0 (ld = cost (l0.drop (i + 1)) (l1.drop j)) := ⟨(hcf1 hcut).symm⟩
     have HPT' : Aside0 ((done ++ [((2 : Int), [])]) ++ pth (l0.drop (i + 1)) (l1.drop j) = pth l0 l1) := ⟨by
      rw [← HPT.out, hcf3.1 hcut, List.append_assoc]
      rfl⟩
     clear hcf1 hcf2 hcf3 hA hSh hcut
     go_wp2_with (first
      | (go_at_call 49; refine (myers_comes.calls l0 l1 hm0 hm1 ld nx my HLD.out HNX.out HMY.out HPAR.out g AF cF _ ?t1 ?t2).mono ?_; (case t1 => exact HPW.out); (case t2 => exact HCC.out); rw [HCB.out]; rintro e w9 ⟨rfl, rfl⟩)
      | (go_at_call 50; refine (myers_noted.calls wb.heap.size es _ 2 none 0 0 [] _ ?s1 ?s2 ?s3 ?s4 HSM.out ?s5).mono ?_; (case s1 => exact HSZ.out); (case s2 => exact HS.out); (case s3 => exact own_nil _ _ _ _); (case s4 => exact fun e _ k _ hk' => by simp [Value.ownBlock] at hk'); (case s5 => exact Nat.zero_le _); rintro e w2 ⟨v2, es2, rfl, hs2, hp2, hb2⟩; have HS2 := Aside0.mk hs2; have HP2 := Aside0.mk hp2; have HB2 := Aside0.mk hb2; clear hs2 hp2 hb2))
     exact ⟨⟨i + 1, j, ld, es2, done ++ [((2 : Int), [])], rfl, rfl, rfl, c1, hj, hld2, HL', HS2, ⟨by rw [HP2.out, HP.out, folded_snoc]⟩, HPT', ⟨(pw_below_drewN HB.out _).trans HB2.out⟩⟩, by simp [intOf]; omega⟩
    ·have b1 : decide (i < l0.length) = true := decide_eq_true c1
     have b2 : decide (j < l1.length) = true := decide_eq_true c2
     obtain ⟨ad, e1, hx⟩ := Kd.at_string (HR0.out) (i : Int) (by omega) (by omega)
     obtain ⟨ad2, e2, hy⟩ := Kd.at_string (HR1.out) (j : Int) (by omega) (by omega)
     cases e1
     cases e2
     replace hx := (HB.out.cell (Nat.lt_of_lt_of_le (World.block_lt_of_cell? w _ hx) HWB.out.size)).trans ((HWB.out.cell (World.block_lt_of_cell? w _ hx)).trans hx)
     replace hy := (HB.out.cell (Nat.lt_of_lt_of_le (World.block_lt_of_cell? w _ hy) HWB.out.size)).trans ((HWB.out.cell (World.block_lt_of_cell? w _ hy)).trans hy)
     have h3 : ((i : Int) < (l0.length : Int)) = True := eq_true (by omega)
     have h5 : ((j : Int) < (l1.length : Int)) = True := eq_true (by omega)
     have h3' : (i < l0.length) = True := eq_true c1
     have h5' : (j < l1.length) = True := eq_true c2
     obtain ⟨p, hp⟩ : ∃ p, p = rdOf ByteArray.empty l0 (i : Int) := ⟨_, rfl⟩
     obtain ⟨q, hq⟩ : ∃ q, q = rdOf ByteArray.empty l1 (j : Int) := ⟨_, rfl⟩
     rw [← hp, Int.toNat_natCast] at hx
     rw [← hq, Int.toNat_natCast] at hy
     have hp' : p = l0[i] := by rw [hp]; unfold rdOf; rw [Int.toNat_natCast, List.getD_eq_getElem?_getD, List.getElem?_eq_getElem c1]; rfl
     have hq' : q = l1[j] := by rw [hq]; unfold rdOf; rw [Int.toNat_natCast, List.getD_eq_getElem?_getD, List.getElem?_eq_getElem c2]; rfl
     have HQ := Aside0.mk hq'
     have b3 : (p.toList == q.toList) = false := beq_eq_false_iff_ne.2 (fun hh => HNK.out ⟨c1, c2, by rw [← hp', ← hq']; exact bytes_inj hh⟩)
     clear hp hq hp' hq'
     go_wp2
     go_quiet (fail)
     obtain ⟨nx, hnx⟩ : ∃ nx, l0.length = i + nx + 1 := ⟨l0.length - i - 1, by omega⟩
     obtain ⟨my, hmy⟩ : ∃ my, l1.length = j + my := ⟨l1.length - j, by omega⟩
     have hA : l0.drop i = l0[i] :: l0.drop (i + 1) := List.drop_eq_getElem_cons c1
     have hcf := cut_iff l0[i] (l0.drop (i + 1)) (l1.drop j) (fun b B' hb => HNE.out _ _ _ _ hA hb)
     rw [← hA, ← HL.out] at hcf
     have eA : (l0.drop (i + 1)).length = nx := by rw [List.length_drop]; omega
     have eB : (l1.drop j).length = my := by rw [List.length_drop]; omega
     rw [eA, eB] at hcf
     have hSh : Sh l0 l1 nx my = lcs (l0.drop (i + 1)) (l1.drop j) := by
      unfold Sh
      have f1 : l0.length - nx = i + 1 := by omega
      have f2 : l1.length - my = j := by omega
      rw [f1, f2]
     obtain ⟨ld, hld⟩ : ∃ ld, left = ld + 1 := ⟨left - 1, by omega⟩
     have hl1 : left - 1 = ld := by omega
     rw [hl1] at hcf
     have HLD : Aside0 (ld < cost l0 l1) := ⟨by rw [← HDE.out]; omega⟩
     have HNX : Aside0 (nx ≤ l0.length) := ⟨by omega⟩
     have HMY : Aside0 (my ≤ l1.length) := ⟨by omega⟩
     have HPAR : Aside0 ((ld + nx + my) % 2 = 0) := ⟨by
      have h1 := HL.out
      have h2 := lcs_two (l0.drop i) (l1.drop j)
      unfold cost at h1
      rw [hA, List.length_cons, eA, eB] at h1
      rw [hA, List.length_cons, eA, eB] at h2
      omega⟩
     have HPW : Aside0 (wr.cell? ⟨g, 0, none⟩ = some (.slice AF (cost l0 l1 + 1) cF)) := ⟨by rw [← HDE.out]; exact (HB.out.cell HPL.out).trans HPC.out⟩
     have HCC : Aside0 (Kd.C (Kd.slice 3 (Kd.int .i64)) wr AF (cost l0 l1 + 1) (rows l0.reverse l1.reverse (cost l0 l1))) := ⟨by rw [HROWS.out, ← HDE.out]; exact Kd.C_below HFB.out HB.out⟩
     have s1 : IntKind.i64.wrap ((left : Int) - 1) = (ld : Int) := by rw [wr64 (by omega) (by omega)]; omega
     obtain ⟨z, hz⟩ : ∃ z : Int, z = (l0.length : Int) - i := ⟨_, rfl⟩
     have sA : IntKind.i64.wrap ((l0.length : Int) - i) = z := by rw [hz]; exact wr64 (by omega) (by omega)
     have sB : IntKind.i64.wrap (z - 1) = (nx : Int) := by rw [hz, wr64 (by omega) (by omega)]; omega
     have sC : IntKind.i64.wrap ((l1.length : Int) - j) = (my : Int) := by rw [wr64 (by omega) (by omega)]; omega
     have b0 : ((left : Int) == 0) = false := beq_eq_false_iff_ne.2 (by omega)
     have hld2 : ld ≤ D := by omega
     have hcf1 := hcf.2.2.1
     have hcf2 := hcf.2.2.2
     have hcf3 := hcf.2.1
     clear hz hld hl1 hnx hmy eA eB hcf
     by_cases hcut : nx + my ≤ ld + 2 * lcs (l0.drop (i + 1)) (l1.drop j)
     ·have HCB : Aside0 (comesB l0 l1 ld nx my = true) := ⟨by unfold comesB; rw [hSh]; exact decide_eq_true hcut⟩
      have HL' : Aside0 (ld = cost (l0.drop (i + 1)) (l1.drop j)) := ⟨(hcf1 hcut).symm⟩
      have HPT' : Aside0 ((done ++ [((2 : Int), [])]) ++ pth (l0.drop (i + 1)) (l1.drop j) = pth l0 l1) := ⟨by
       rw [← HPT.out, hcf3.1 hcut, List.append_assoc]
       rfl⟩
      clear hcf1 hcf2 hcf3 hA hSh hcut
      go_wp2_with (first
       | (go_at_call 49; refine (myers_comes.calls l0 l1 hm0 hm1 ld nx my HLD.out HNX.out HMY.out HPAR.out g AF cF _ ?t1 ?t2).mono ?_; (case t1 => exact HPW.out); (case t2 => exact HCC.out); rw [HCB.out]; rintro e w9 ⟨rfl, rfl⟩)
       | (go_at_call 50; refine (myers_noted.calls wb.heap.size es _ 2 none 0 0 [] _ ?s1 ?s2 ?s3 ?s4 HSM.out ?s5).mono ?_; (case s1 => exact HSZ.out); (case s2 => exact HS.out); (case s3 => exact own_nil _ _ _ _); (case s4 => exact fun e _ k _ hk' => by simp [Value.ownBlock] at hk'); (case s5 => exact Nat.zero_le _); rintro e w2 ⟨v2, es2, rfl, hs2, hp2, hb2⟩; have HS2 := Aside0.mk hs2; have HP2 := Aside0.mk hp2; have HB2 := Aside0.mk hb2; clear hs2 hp2 hb2))
      exact ⟨⟨i + 1, j, ld, es2, done ++ [((2 : Int), [])], rfl, rfl, rfl, c1, hj, hld2, HL', HS2, ⟨by rw [HP2.out, HP.out, folded_snoc]⟩, HPT', ⟨(pw_below_drewN HB.out _).trans HB2.out⟩⟩, by simp [intOf]; omega⟩
     ·have HCB : Aside0 (comesB l0 l1 ld nx my = false) := ⟨by unfold comesB; rw [hSh]; exact decide_eq_false hcut⟩
      obtain ⟨b, B', hb, hp2, hc2⟩ := hcf2 hcut
      rw [List.drop_eq_getElem_cons c2] at hb
      injection hb with hb1 hb2
      subst hb1
      subst hb2
      have HL' : Aside0 (ld = cost (l0.drop i) (l1.drop (j + 1))) := ⟨hc2.symm⟩
      have HPT' : Aside0 ((done ++ [((3 : Int), [q])]) ++ pth (l0.drop i) (l1.drop (j + 1)) = pth l0 l1) := ⟨by
       rw [← HPT.out, hp2, List.append_assoc, HQ.out]
       rfl⟩
      clear hcf1 hcf2 hcf3 hA hSh hcut hp2 hc2
      have LITT : Lns wb.heap.size (wr.alloc (Obj.cells #[Value.string q] 9)) (.slice (some ⟨wr.heap.size, 0, none⟩) 1 1) [q] := own_lit_of wr _ 9 [q] HSZ.out (by simp)
      have HLT := Aside0.mk LITT
      have HNL : Aside0 (∀ e ∈ es, NeRow e.v (.slice (some ⟨wr.heap.size, 0, none⟩) 1 1)) := ⟨fun e he k hk hk' => by
       have h1 := own_lt (HS.out.2.1 e he) k hk
       have h2 : wr.heap.size = k := by simpa [Value.ownBlock] using hk'
       omega⟩
      clear LITT
      go_wp2_with (first
       | (go_at_call 49; refine (myers_comes.calls l0 l1 hm0 hm1 ld nx my HLD.out HNX.out HMY.out HPAR.out g AF cF _ ?t1 ?t2).mono ?_; (case t1 => exact HPW.out); (case t2 => exact HCC.out); rw [HCB.out]; rintro e w9 ⟨rfl, rfl⟩)
       | (go_at_call 50; refine (myers_noted.calls wb.heap.size es _ 3 _ 1 1 [q] _ ?s1 ?s2 ?s3 ?s4 HSM.out ?s5).mono ?_; (case s1 => exact Nat.le_trans HSZ.out (by simp)); (case s2 => first | exact HS.out.below (below_alloc (Below.refl _ _) _) | exact (HS.out.below (below_alloc (Below.refl _ _) _)).drewN _); (case s3 => first | exact HLT.out | exact pw_own_drewN HLT.out _); (case s4 => exact HNL.out); (case s5 => exact by simp); rintro e w2 ⟨v2, es2, rfl, hs2, hp2, hb2⟩; have HS2 := Aside0.mk hs2; have HP2 := Aside0.mk hp2; have HB2 := Aside0.mk hb2; clear hs2 hp2 hb2))
      exact ⟨⟨i, j + 1, ld, es2, done ++ [((3 : Int), [q])], rfl, rfl, rfl, hi, c2, hld2, HL', HS2, ⟨by rw [HP2.out, HP.out, folded_snoc]⟩, HPT', ⟨by first | exact (below_alloc (pw_below_drewN HB.out _) _).trans HB2.out | exact (pw_below_drewN (below_alloc HB.out _) _).trans HB2.out | exact (below_alloc HB.out _).trans HB2.out⟩⟩, by simp [intOf]; omega⟩
 ·cases h
end Go.Proofs.Ytgobidmfbjmpkaa.P
end
