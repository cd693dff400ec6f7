/- Words of this session: a list of rows of whole numbers, each in a block of its own, the last of which is still written. -/
import Derived.Test.YthplelgkneipjaaPx0
set_option linter.unusedVariables false
set_option linter.unusedSimpArgs false
namespace Go.Proofs.Ythplelgkneipjaa.HRows
open Go Go.RowKit Go.Proofs.YthplelgkneipjaaW.PrintWords Go.Proofs.YthplelgkneipjaaW.PrintLast Go.Proofs.YthplelgkneipjaaW.PrintMore

def cellOf (p : Nat × List Int) : Value := .slice (some ⟨p.1, 0, none⟩) p.2.length p.2.length
def blkOf (p : Nat × List Int) : Obj := .cells (nums .i64 p.2).toArray 3 (0, 0)
/-- v is a list (elements of type e) of the rows rs, from base on. -/
def Out (e base : Nat) (w : World) (v : Value) (rs : List (Nat × List Int)) : Prop :=
  w.ownsRow base e 1 v rs.length (rs.map cellOf) ∧ (∀ p ∈ rs, base ≤ p.1 ∧ w.heap[p.1]? = some (blkOf p)) ∧ rs.Pairwise (fun p q => p.1 ≠ q.1)
section
variable {e base : Nat} {w w' : World} {v : Value} {rs : List (Nat × List Int)} {p : Nat × List Int}
theorem Out.nil (e base : Nat) (w : World) : Out e base w (.slice none 0 0) [] := ⟨own_nil _ _ _ _, by simp, .nil⟩
theorem Out.lt (h : Out e base w v rs) (hp : p ∈ rs) : p.1 < w.heap.size := blk_lt (h.2.1 p hp).2
theorem Out.below (h : Out e base w v rs) (hb : Below w.heap.size w w') : Out e base w' v rs :=
  ⟨pw_own_below h.1 hb, fun p hp => ⟨(h.2.1 p hp).1, (hb.block _ (h.lt hp)).trans (h.2.1 p hp).2⟩, h.2.2⟩
theorem Out.drewN (h : Out e base w v rs) (m : Nat) : Out e base (w.drewN m) v rs := h
theorem Out.ne (h : Out e base w v rs) (he : e ≠ 3) (hp : p ∈ rs) : some p.1 ≠ v.ownBlock := own_ne h.1 (h.2.1 p hp).2 he
/-- A row more: the list grown, the row's block as it was. -/
theorem Out.snoc (he : e ≠ 3) (h : Out e base w v rs) {v' : Value} (hn : w'.ownsRow base e 1 v' (rs.map cellOf ++ [cellOf p]).length (rs.map cellOf ++ [cellOf p])) (hg : w.grownBy w' v.ownBlock)
    (hb : base ≤ p.1) (hp : w.heap[p.1]? = some (blkOf p)) (hd : ∀ q ∈ rs, q.1 ≠ p.1) : Out e base w' v' (rs ++ [p]) := by
  have hv : some p.1 ≠ v.ownBlock := own_ne h.1 hp he
  refine ⟨?_, fun q hq => ?_, List.pairwise_append.2 ⟨h.2.2, List.pairwise_singleton _ _, fun q hq r hr => by rw [List.mem_singleton.1 hr]; exact hd q hq⟩⟩
  · have e1 : (rs.map cellOf ++ [cellOf p]).length = (rs ++ [p]).length := by simp
    rw [← e1, List.map_append]
    exact hn
  · rcases List.mem_append.1 hq with hq | hq
    · exact ⟨(h.2.1 q hq).1, (hg.block _ (h.lt hq) (h.ne he hq)).trans (h.2.1 q hq).2⟩
    · rw [List.mem_singleton.1 hq]
      exact ⟨hb, (hg.block _ (blk_lt hp) hv).trans hp⟩
/-- A number stored into the last row. -/
theorem Out.store (he : e ≠ 3) {g : Nat} {row : List Int} (h : Out e base w v (rs ++ [(g, row)])) (hd : ∀ q ∈ rs, q.1 ≠ g) (i : Nat) (x : Int) :
    Out e base (w.setCell ⟨g, i, none⟩ (.int .i64 x)) v (rs ++ [(g, row.set i x)]) := by
  have hm : (g, row) ∈ rs ++ [(g, row)] := by simp
  have hv : some g ≠ v.ownBlock := h.ne he hm
  refine ⟨?_, fun q hq => ?_, List.pairwise_append.2 ⟨(List.pairwise_append.1 h.2.2).1, List.pairwise_singleton _ _, fun q hq r hr => by rw [List.mem_singleton.1 hr]; exact hd q hq⟩⟩
  · have h1 := own_setCell h.1 (p := ⟨g, i, none⟩) hv (.int .i64 x)
    have e1 : (rs ++ [(g, row.set i x)]).map cellOf = (rs ++ [(g, row)]).map cellOf := by simp [cellOf]
    have e2 : (rs ++ [(g, row.set i x)]).length = (rs ++ [(g, row)]).length := by simp
    rw [e1, e2]
    exact h1
  · rcases List.mem_append.1 hq with hq | hq
    · have h2 := h.2.1 q (List.mem_append_left _ hq)
      exact ⟨h2.1, blk_far h2.2 (hd q hq) _⟩
    · rw [List.mem_singleton.1 hq]
      refine ⟨(h.2.1 _ hm).1, ?_⟩
      have h2 := blk_set (h.2.1 _ hm).2 i (.int .i64 x)
      refine h2.trans ?_
      unfold blkOf
      congr 2
      apply Array.toList_inj.1
      simp [nums, List.map_set]
theorem Out.cell {g : Nat} {row : List Int} (h : Out e base w v rs) (hm : (g, row) ∈ rs) (i : Nat) (hi : i < row.length) : w.cell? ⟨g, i, none⟩ = some (.int .i64 row[i]) ∧ w.frozen? ⟨g, i, none⟩ = false := by
  have hb := (h.2.1 _ hm).2
  refine ⟨(blk_cell hb i).trans ?_, blk_frozen hb i⟩
  simp [nums, List.getElem?_eq_getElem hi]
def lastA (rs : List (Nat × List Int)) : Option Addr := rs.getLast?.map fun p => ⟨p.1, 0, none⟩
def lastR (rs : List (Nat × List Int)) : List Int := (rs.getLast?.map (·.2)).getD []
theorem lastA_snoc (rs : List (Nat × List Int)) (p : Nat × List Int) : lastA (rs ++ [p]) = some ⟨p.1, 0, none⟩ := by simp [lastA]
theorem lastR_snoc (rs : List (Nat × List Int)) (p : Nat × List Int) : lastR (rs ++ [p]) = p.2 := by simp [lastR]
theorem row_reads {g : Nat} {row : List Int} (hb : w.heap[g]? = some (blkOf (g, row))) (hl : row.length ≤ 9223372036854775807) : Kd.C (Kd.int .i64) w (some ⟨g, 0, none⟩) row.length row := by
  refine Kd.C_of_reads (enc := Value.int .i64) (d := (0 : Int)) (h1 := fun _ => rfl) ⟨rfl, hl, fun _ => ⟨_, rfl, fun j hj => ?_⟩⟩
  have h1 : (⟨g, 0, none⟩ : Addr).add j = ⟨g, j, none⟩ := add_plain g j
  rw [h1]
  refine (blk_cell hb j).trans ?_
  simp [nums, List.getElem?_eq_getElem hj, List.getD_eq_getElem?_getD]
theorem Out.last {tl : List (Nat × List Int)} (h : Out e base w v (rs ++ tl)) (hl : ∀ p ∈ rs, p.2.length ≤ 9223372036854775807) : Kd.C (Kd.int .i64) w (lastA rs) (lastR rs).length (lastR rs) := by
  rcases List.eq_nil_or_concat rs with h0 | ⟨rs', p, h0⟩
  · subst h0
    exact Kd.C_nil _ _
  · rw [List.concat_eq_append] at h0
    subst h0
    rw [lastA_snoc, lastR_snoc]
    exact row_reads (h.2.1 p (by simp)).2 (hl p (by simp))
theorem Out.place (h : Out e base w v rs) : ∃ f : Nat → Nat, ∀ j p, rs[j]? = some p → f p.1 = j := by
  classical
  have hi : ∀ (i j : Nat) (p q : Nat × List Int), rs[i]? = some p → rs[j]? = some q → p.1 = q.1 → i = j := by
    intro i j p q hp hq he
    obtain ⟨h1, rfl⟩ := List.getElem?_eq_some_iff.1 hp
    obtain ⟨h2, rfl⟩ := List.getElem?_eq_some_iff.1 hq
    have hpw := List.pairwise_iff_getElem.1 h.2.2
    rcases Nat.lt_trichotomy i j with hlt | heq | hlt
    · exact absurd he (hpw i j h1 h2 hlt)
    · exact heq
    · exact absurd he.symm (hpw j i h2 h1 hlt)
  refine ⟨fun k => if hk : ∃ j : Nat, ∃ p : Nat × List Int, rs[j]? = some p ∧ p.1 = k then hk.choose else 0, fun j p hj => ?_⟩
  have hk : ∃ j' : Nat, ∃ p' : Nat × List Int, rs[j']? = some p' ∧ p'.1 = p.1 := ⟨j, p, hj, rfl⟩
  show (if hk : ∃ j' : Nat, ∃ p' : Nat × List Int, rs[j']? = some p' ∧ p'.1 = p.1 then hk.choose else 0) = j
  rw [dif_pos hk]
  obtain ⟨p', h1, h2⟩ := hk.choose_spec
  exact hi _ _ _ _ h1 hj h2
/-- At the end: as rows of rows that lie apart. -/
theorem Out.toS (he : e ≠ 3) (h : Out e base w v rs) (hl : ∀ p ∈ rs, p.2.length ≤ 9223372036854775807) : Kd.S (Kd.slice 3 (Kd.int .i64)) e w base (fun _ => True) v (rs.map (·.2)) := by
  obtain ⟨f, hf⟩ := h.place
  refine ⟨f, fun _ _ => trivial, rs.map cellOf, ?_, ?_⟩
  · rw [List.length_zipIdx, List.length_map]; exact h.1
  · refine ⟨by simp [Kd.slice, Kd.tag], fun j pj hj => ?_⟩
    rw [List.getElem?_zipIdx, List.getElem?_map] at hj
    obtain ⟨r, hr, rfl⟩ := Option.map_eq_some_iff.1 hj
    obtain ⟨q, hq, rfl⟩ := Option.map_eq_some_iff.1 hr
    have hqm : q ∈ rs := List.mem_of_getElem? hq
    have hjl := (List.getElem?_eq_some_iff.1 hq).1
    have hseg : ((rs.map cellOf).drop (j * 1)).take 1 = [cellOf q] := by
      rw [Nat.mul_one, List.drop_eq_getElem_cons (by simpa using hjl)]
      simp only [List.take_succ_cons, List.take_zero, List.getElem_map]
      rw [(List.getElem?_eq_some_iff.1 hq).2]
    show Kd.M (Kd.slice 3 (Kd.int .i64)) w base _ q.2 (((rs.map cellOf).drop (j * 1)).take 1)
    rw [hseg]
    refine ⟨_, rfl, fun k hk => ?_, nums .i64 q.2, ?_, ?_⟩
    · have : q.1 = k := by simpa [Value.ownBlock, cellOf] using hk
      subst this
      exact ⟨⟨trivial, h.ne he hqm⟩, by rw [hf j q hq]; simp⟩
    · have h1 := (h.2.1 q hqm).1
      have h2 := (h.2.1 q hqm).2
      refine ⟨by simp [nums, Kd.int, Kd.scalar], .inr ⟨q.1, q.2.length, (nums .i64 q.2).toArray, rfl, h1, h2, Nat.le_refl _, by have := hl q hqm; simpa [maxLen] using this, ?_, ?_⟩⟩
      · simp [nums, Kd.int, Kd.scalar]
      · rw [List.take_of_length_le (by simp [nums, Kd.int, Kd.scalar])]
    · refine ⟨by simp [nums, Kd.int, Kd.scalar], fun i x hx => ?_⟩
      have hil := (List.getElem?_eq_some_iff.1 hx).1
      show ((nums .i64 q.2).drop (i * 1)).take 1 = [Value.int .i64 x]
      rw [Nat.mul_one, List.drop_eq_getElem_cons (by simpa [nums] using hil)]
      simp only [List.take_succ_cons, List.take_zero, nums, List.getElem_map]
      rw [(List.getElem?_eq_some_iff.1 hx).2]
end
end Go.Proofs.Ythplelgkneipjaa.HRows
