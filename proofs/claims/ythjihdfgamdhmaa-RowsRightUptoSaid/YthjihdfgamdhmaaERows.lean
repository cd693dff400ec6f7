/- rows.Split: by the iterator's promise. -/
import Derived.Test.YthjihdfgamdhmaaEIter
import Derived.Test.YthjihdfgamdhmaaEShelf
set_option linter.unusedVariables false
set_option linter.unusedSimpArgs false
namespace Go.Proofs.Ythjihdfgamdhmaa.Iter
open Go Go.RowKit Go.Shelf Go.Proofs.Ythjihdfgamdhmaa.Rng Go.Proofs.Ythjihdfgamdhmaa.Q
attribute [local go_sem] Oper.semAt_some
theorem info_str : (Try.prog.info? 9).map (fun i => (i.zero, i.size, i.bytes)) = some (some (.string ByteArray.empty), 1, 16) := by kernel_rfl
theorem index_in (F : Fence) (hw : F = Fence.wide) (n : Nat) (x : ByteArray) (w : World) : CallsIn F n Try.prog 18 #[.string x, .string ⟨#[10]⟩] w fun e w' => e = .returned (.int .i64 (Lib.indexByte x.data.toList 10)) ∧ w' = w := by
  subst hw
  exact callsIn_wide.2 (Try.strings_Index_one x 10 w)
theorem kp_t (Bs : Nat) {X Y Z : World} (h : Y.heap[Bs]? = X.heap[Bs]?) (k : Z.heap[Bs]? = Y.heap[Bs]?) : Z.heap[Bs]? = X.heap[Bs]? := k.trans h
set_option maxRecDepth 100000 in
set_option maxHeartbeats 2000000 in
theorem split_run (s : ByteArray) (hs : s.size ≤ 4294967296) (w : World) :
    Calls Try.prog 11 #[.string s] w fun e w' => ∃ v, e = .returned v ∧ w'.ownsRow w.heap.size 9 1 v (lines s).length ((lines s).map Value.string) ∧ Below w.heap.size w w' := by
  obtain ⟨i0, hi, hz0, hz1, hz2⟩ := info_parts info_str
  have hll := lines_length_le s
  refine (callsIn_wide (n := 9)).1 ?_
  refine callsIn_of_wp_marks Try.func11 rfl trivial ?_ rfl
  simp only [Try.ntmps11, List.size_toArray, List.length_cons, List.length_nil, Nat.reduceAdd, Nat.reduceSub, Array.replicate_succ, Array.replicate_zero, List.push_toArray, List.append_toArray, List.nil_append, List.cons_append]
  gi_wp2_with (refine ⟨trivial, ?_⟩; gi_at_call 15; refine (lines_in Fence.wide _ trivial rfl _ _).mono ?_; rintro e w' ⟨rfl, rfl⟩)
  have bO := (Boxed.new w 22 (.slice none 0 0)).alloc (.cells #[.string s] 9)
  have bS := Boxed.new (w.alloc (.cells #[.slice none 0 0] 22)) 9 (.string s)
  rw [World.size_alloc] at bS
  have hB0 : Below w.heap.size w ((w.alloc (.cells #[.slice none 0 0] 22)).alloc (.cells #[.string s] 9)) := ((Below.refl _ w).alloc (Nat.le_refl _) _).alloc (by simp) _
  obtain ⟨W0, hW0⟩ : ∃ W0, (w.alloc (.cells #[.slice none 0 0] 22)).alloc (.cells #[.string s] 9) = W0 := ⟨_, rfl⟩
  have hz : W0.heap.size = w.heap.size + 2 := by rw [← hW0]; simp
  rw [hW0] at bO bS hB0 ⊢
  refine Rng.range (gf := 17) (lb := #[.pointer (some ⟨w.heap.size + 1, 0, none⟩)]) rfl (by decide) rfl trivial (enters_of Try.func17 (by kernel_rfl) rfl)
    (lines1_seq Fence.wide _ trivial trivial rfl (by decide) (index_in _ rfl _) (w.heap.size + 1) s (by omega) W0 bS) (Below.refl _ _) (fun _ => rfl) ⟨by simp only [hz]; omega, by rw [hz]; omega⟩
    (fun h k => kp_t _ h k) (fun W l o' hl _ => World.putObj_heap_other (by rw [hz] at hl; omega))
    (fun pre W => (∃ v, Boxed W w.heap.size 22 v ∧ W.ownsRow (w.heap.size + 2) 9 1 v pre.length (pre.map Value.string)) ∧ Below w.heap.size w W ∧ w.heap.size + 2 ≤ W.heap.size)
    (fun _ _ _ => False) ?bides (fun _ _ _ _ _ h _ _ => h) ⟨⟨_, bO, World.ownsRow_nil _ _ _ _⟩, hB0, by omega⟩
    (fun x a' _ => a' = { tmps := #[.string s, undef, .pointer (some ⟨w.heap.size, 0, none⟩), .string x, .string s, .func (.func 17) #[] #[.pointer (some ⟨w.heap.size + 1, 0, none⟩)], .string x, undef, undef, undef, undef, undef], defers := [] })
    (fun _ _ _ _ _ _ h _ _ => h) ?assign ?body ?done ?stop
  case bides =>
    rintro pre X Y row ⟨⟨v, hv, hr⟩, hB, hsz⟩ hg hrow
    rw [hz] at hrow
    refine ⟨⟨v, hv.kept hg (fun e => ?_), hr.kept hg ?_⟩, hB.grown hg (by omega) (fun k e => ?_), Nat.le_trans hsz hg.size⟩
    · rcases hrow _ e.symm with h | h
      · omega
      · omega
    · rcases hr.2 with ⟨rfl, _⟩ | ⟨g, cap, cur, rfl, hgb, hh, _⟩
      · exact .inl rfl
      · refine .inr fun e => ?_
        rcases hrow g (by simpa [Value.ownBlock] using e.symm) with h | ⟨_, o, ho, hc⟩
        · omega
        · rw [hh] at ho; cases ho; cases hc
    · rcases hrow k e with h | h
      · omega
      · omega
  case assign =>
    intro l pre x post W K _ hi hK
    gi_wp2
    exact hK _ _ (KeepsFrom.refl _ _) rfl hi rfl
  case body =>
    rintro l pre x post a' W hl hlr hlt hall ⟨⟨v, hv, hrow⟩, hB, hsz⟩ rfl
    have hc := hv.cell
    have hpl : pre.length + 1 ≤ (lines s).length := by rw [hall]; simp
    have HALL := Lib.hid hall
    clear hall
    gi_wp2_with (gi_at_builtin; refine wpListIn_append_own _ rfl _ _ 22 rfl (w.heap.size + 2) 9 i0 (.string ByteArray.empty) 1 16 Try.underlying22 hi hz0 hz1 hz2 rfl (by decide) _ _ _ rfl (hrow.alloc _) ⟨W.heap.size, 0, none⟩ 1 1 [.string x] rfl rfl (cell_one_new _ _ _) (by simp [Value.oneCell']) (by unfold maxLen; omega) (by omega) (by simp; omega) ?_; intro v' w1 hown' hgrow _; obtain ⟨g', cap', rfl⟩ := ownsRow_succ hown'; obtain ⟨hv1, hv2, hr2, hk2, hb2⟩ := hv.appended (n₀ := w.heap.size) (by decide) ⟨hrow.1, hrow.2.imp id fun ⟨g, a, b, h1, h2, h3⟩ => ⟨g, a, b, h1, by omega, h3⟩⟩ (by omega) (Nat.le_refl _) ⟨hown'.1, hown'.2.imp id fun ⟨g, a, b, h1, h2, h3⟩ => ⟨g, a, b, h1, by omega, h3⟩⟩ hgrow; have hc1 := hv1.cell; have hf1 := hv1.frozen)
    have hgB : ∀ k, v.ownBlock = some k → w.heap.size + 2 ≤ k := fun k e => by
      rcases hrow.2 with ⟨rfl, _⟩ | ⟨g, cap, cur, rfl, h1, _⟩
      · simp [Value.ownBlock] at e
      · obtain rfl : g = k := by simpa [Value.ownBlock] using e
        exact h1
    have hown2 := hown'.kept (grownBy_setCell' w1 w.heap.size (.slice (some ⟨g', 0, none⟩) (pre.length + 1) cap')) (.inr (hv1.not_row (by decide) hown').symm)
    refine ⟨hk2.from _, ?_, ⟨_, hv2, by simpa using hown2⟩, hB.trans hb2, Nat.le_trans hsz hb2.size⟩
    refine (Below.heap_setCell w1 _ _ _ (by simp)).trans ((hgrow.block _ (by simp; omega) (fun e => by have := hgB _ e.symm; omega)).trans (Below.heap_alloc W _ _ (by omega)))
  case done =>
    rintro W ⟨⟨v, hv, hrow⟩, hB, hsz⟩ hK
    obtain ⟨A, m, c, rfl⟩ : ∃ A m c, v = .slice A m c := by
      rcases hrow.2 with ⟨rfl, _⟩ | ⟨g, cap, cur, rfl, _⟩
      · exact ⟨_, _, _, rfl⟩
      · exact ⟨_, _, _, rfl⟩
    have hc := hv.cell
    have hf := hv.frozen
    gi_wp2
    have hv1 := hv.set (.slice A m c)
    have hK1 : (W.setCell ⟨w.heap.size, 0, none⟩ (.slice A m c)).heap[W0.heap.size]? = some (.deferred (some [])) := (Below.heap_setCell W _ _ _ (by simp; omega)).trans hK
    have hrow1 := hrow.kept (grownBy_setCell' W w.heap.size (.slice A m c)) (.inr (hv.not_row (by decide) hrow).symm)
    have hv2 := hv1.kept (grownBy_putObj' _ W0.heap.size (.deferred none)) (by simp; omega)
    have hcell := hv2.cell
    have hB1 := hB.setCell (p := ⟨w.heap.size, 0, none⟩) (Nat.le_refl _) (.slice A m c)
    refine ⟨by simp, .inl ⟨_, _, rfl, run_takeDeferred hK1, ?_⟩⟩
    refine ⟨.slice A m c, by simp [results, Try.results11, go_sem, hcell], _, rfl, ownsRow_putObj (⟨hrow1.1, hrow1.2.imp id fun ⟨g, a, b, h1, h2, h3⟩ => ⟨g, a, b, h1, by omega, h3⟩⟩) _ hK1 rfl, hB1.grown (grownBy_putObj' _ _ _) hB1.size (fun k e => by cases e; omega)⟩
  case stop =>
    rintro c pre W _ h _
    exact h.elim
end Go.Proofs.Ythjihdfgamdhmaa.Iter
