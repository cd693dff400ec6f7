/- rows.Right: what it answers. -/
import Derived.Test.YthjihdfgamdhmaaEJoin
set_option linter.unusedVariables false
set_option linter.unusedSimpArgs false
namespace Go.Proofs.Ythjihdfgamdhmaa.P
open Go Go.RowKit Go.Shelf Go.Proofs.YthjihdfgamdhmaaW.PrintWords Go.Proofs.YthjihdfgamdhmaaW.PrintLast Go.Proofs.YthjihdfgamdhmaaW.PrintMore Go.Proofs.Ythjihdfgamdhmaa.Rng Go.Proofs.Ythjihdfgamdhmaa.Q Go.Proofs.Ythjihdfgamdhmaa.Iter
attribute [local go_sem] Oper.semAt_some
def rows_Right.f (l : List ByteArray) : Option Bool := if (Q.cat l).size ≤ 140737488355328 ∧ l.length ≤ 140737488355328 then some (decide (Q.lines (Q.cat l) = l)) else none
set_option maxRecDepth 100000 in
set_option maxHeartbeats 2000000 in
theorem rows_Right.calls (A0 : Option Addr) (c0 : Nat) (l0 : List ByteArray) (r : Bool) (w : World) (hr0 : Kd.C Kd.string w A0 l0.length l0) (hc0 : l0.length ≤ c0) (h : rows_Right.f l0 = some r) :
    Calls Try.prog 9 #[.slice A0 l0.length c0] w fun e w' => e = .returned (.bool r) ∧ Below w.heap.size w w' := by
  have hj := h
  unfold rows_Right.f at h
  split at h
  · rename_i hh
    have hN := hh.2
    have hS := hh.1
    have hJf : rows_Join.f l0 = some (Q.cat l0) := by unfold rows_Join.f; rw [if_pos hh]
    obtain rfl := Option.some.inj h
    clear h hj
    refine (callsIn_wide (n := 9)).1 ?_
    refine callsIn_of_wp_marks Try.func9 rfl trivial ?_ rfl
    simp only [Try.ntmps9, List.size_toArray, List.length_cons, List.length_nil, Nat.reduceAdd, Nat.reduceSub, Array.replicate_succ, Array.replicate_zero, List.push_toArray, List.append_toArray, List.nil_append, List.cons_append]
    have HH := Lib.hid hh
    have HJ := Lib.hid hJf
    clear hh hJf
    have b0 : Boxed (((w.alloc (.cells #[.slice A0 l0.length c0] 22)).alloc (.cells #[.bool false] 4)).alloc (.cells #[.int .i64 0] 3)) w.heap.size 22 (.slice A0 l0.length c0) := ((Boxed.new w 22 _).alloc _).alloc _
    have b1 : Boxed (((w.alloc (.cells #[.slice A0 l0.length c0] 22)).alloc (.cells #[.bool false] 4)).alloc (.cells #[.int .i64 0] 3)) (w.heap.size + 1) 4 (.bool false) := by
      have := (Boxed.new (w.alloc (.cells #[.slice A0 l0.length c0] 22)) 4 (.bool false)).alloc (.cells #[.int .i64 0] 3)
      rwa [World.size_alloc] at this
    have b2 : Boxed (((w.alloc (.cells #[.slice A0 l0.length c0] 22)).alloc (.cells #[.bool false] 4)).alloc (.cells #[.int .i64 0] 3)) (w.heap.size + 2) 3 (.int .i64 0) := by
      have := Boxed.new ((w.alloc (.cells #[.slice A0 l0.length c0] 22)).alloc (.cells #[.bool false] 4)) 3 (.int .i64 0)
      rwa [World.size_alloc, World.size_alloc] at this
    have hB0 : Below w.heap.size w (((w.alloc (.cells #[.slice A0 l0.length c0] 22)).alloc (.cells #[.bool false] 4)).alloc (.cells #[.int .i64 0] 3)) := (((Below.refl _ w).alloc (Nat.le_refl _) _).alloc (by simp) _).alloc (by simp; omega) _
    have cj := callsIn_wide (n := 8) |>.2 (rows_Join.calls A0 c0 l0 _ _ (Kd.C_below hr0 hB0) hc0 HJ.out)
    gi_wp2_with (first | (refine ⟨trivial, ?_⟩; gi_at_call 12; refine cj.mono ?_; rintro e w1 ⟨rfl, hb1⟩) | (refine ⟨trivial, ?_⟩; gi_at_call 15; refine (lines_in Fence.wide _ trivial rfl _ _).mono ?_; rintro e w' ⟨rfl, rfl⟩))
    have hz1 : w.heap.size + 3 ≤ w1.heap.size := by have := hb1.size; simp at this; omega
    replace b0 : Boxed w1 w.heap.size 22 (.slice A0 l0.length c0) := (hb1.block _ b0.lt).trans b0
    replace b1 : Boxed w1 (w.heap.size + 1) 4 (.bool false) := (hb1.block _ b1.lt).trans b1
    replace b2 : Boxed w1 (w.heap.size + 2) 3 (.int .i64 0) := (hb1.block _ b2.lt).trans b2
    replace hB0 := hB0.trans (hb1.mono (by simp; omega))
    clear hb1 cj
    have bS := Boxed.new w1 9 (.string (Q.cat l0))
    replace b0 := b0.alloc (.cells #[.string (Q.cat l0)] 9)
    replace b1 := b1.alloc (.cells #[.string (Q.cat l0)] 9)
    replace b2 := b2.alloc (.cells #[.string (Q.cat l0)] 9)
    replace hB0 := hB0.alloc (by omega) (.cells #[.string (Q.cat l0)] 9)
    obtain ⟨W0, hW0⟩ : ∃ W0, w1.alloc (.cells #[.string (Q.cat l0)] 9) = W0 := ⟨_, rfl⟩
    have hz : W0.heap.size = w1.heap.size + 1 := by rw [← hW0]; simp
    rw [hW0] at b0 b1 b2 bS hB0 ⊢
    obtain ⟨Bs, hBs⟩ : ∃ Bs, w1.heap.size = Bs := ⟨_, rfl⟩
    rw [hBs] at hz hz1 bS ⊢
    have hCS : (Q.cat l0).size ≤ 9223372036854775807 := by omega
    refine Rng.range (gf := 17) (lb := #[.pointer (some ⟨Bs, 0, none⟩)]) rfl (by decide) rfl trivial (enters_of Try.func17 (by kernel_rfl) rfl)
      (lines1_seq Fence.wide _ trivial trivial rfl (by decide) (index_in _ rfl _) Bs (Q.cat l0) hCS W0 bS) (Below.refl _ _) (fun _ => rfl) ⟨by simp only [hz]; omega, by rw [hz]; omega⟩
      (fun h k => kp_t _ h k) (fun W l o' hl _ => World.putObj_heap_other (by rw [hz] at hl; omega))
      (fun pre W => Boxed W w.heap.size 22 (.slice A0 l0.length c0) ∧ Boxed W (w.heap.size + 1) 4 (.bool false) ∧ Boxed W (w.heap.size + 2) 3 (.int .i64 pre.length) ∧ pre <+: l0 ∧ Below w.heap.size w W ∧ Bs < W.heap.size)
      (fun c _ W => c = .ret ∧ Boxed W (w.heap.size + 1) 4 (.bool false) ∧ Q.lines (Q.cat l0) ≠ l0 ∧ Below w.heap.size w W ∧ Bs < W.heap.size) ?bides ?bidesx ⟨b0, b1, b2, List.nil_prefix, hB0, by omega⟩
      (fun x a' _ => a' = { tmps := #[.slice A0 l0.length c0, .pointer (some ⟨w.heap.size, 0, none⟩), .pointer (some ⟨w.heap.size + 1, 0, none⟩), .pointer (some ⟨w.heap.size + 1 + 1, 0, none⟩), .string x, .slice A0 l0.length c0, .string (Q.cat l0), .func (.func 17) #[] #[.pointer (some ⟨Bs, 0, none⟩)], .string x, undef, undef, undef, undef, undef, undef, undef, undef, undef, undef, undef, undef, undef, undef, undef, undef, undef, undef], defers := [] })
      (fun _ _ _ _ _ _ h _ _ => h) ?assign ?body ?done ?stop
    case bides =>
      rintro pre X Y row ⟨h0, h1, h2, hp, hB, hsz⟩ hg hrow
      rw [hz] at hrow
      have ne : ∀ k, k < Bs → some k ≠ row := fun k hk e => by
        rcases hrow k e.symm with h | ⟨h, _⟩ <;> omega
      exact ⟨h0.kept hg (ne _ (by omega)), h1.kept hg (ne _ (by omega)), h2.kept hg (ne _ (by omega)), hp, hB.grown hg hB.size (fun k e => by rcases hrow k e with h | ⟨h, _⟩ <;> omega), Nat.lt_of_lt_of_le hsz hg.size⟩
    case bidesx =>
      rintro c pre X Y row ⟨hc, h1, hp, hB, hsz⟩ hg hrow
      rw [hz] at hrow
      have ne : ∀ k, k < Bs → some k ≠ row := fun k hk e => by
        rcases hrow k e.symm with h | ⟨h, _⟩ <;> omega
      exact ⟨hc, h1.kept hg (ne _ (by omega)), hp, hB.grown hg hB.size (fun k e => by rcases hrow k e with h | ⟨h, _⟩ <;> omega), Nat.lt_of_lt_of_le hsz hg.size⟩
    case assign =>
      intro l pre x post W K _ hi hK
      gi_wp2
      exact hK _ _ (KeepsFrom.refl _ _) rfl hi rfl
    case body =>
      rintro l pre x post a' W hl hlr hlt hall ⟨h0, h1, h2, hp, hB, hsz⟩ rfl
      have hC := Kd.C_below hr0 hB
      have c0' := h0.cell
      have c1' := h1.cell
      have c2' := h2.cell
      have f1' := h1.frozen
      have f2' := h2.frozen
      have hpl := hp.length_le
      have HALL := Lib.hid hall
      have HP := Lib.hid hp
      have HL := Lib.hid hlr
      clear hall hp hlr
      by_cases hlen : pre.length < l0.length
      · obtain ⟨ad, rfl, hx⟩ := Kd.at_string hC (pre.length : Int) (by omega) (by omega)
        rw [Int.toNat_natCast] at hx
        obtain ⟨y, hy⟩ : ∃ y, rdOf ByteArray.empty l0 (pre.length : Int) = y := ⟨_, rfl⟩
        rw [hy] at hx
        have hget : l0[pre.length]? = some y := by
          rw [← hy]; simp [rdOf, List.getD_eq_getElem?_getD, List.getElem?_eq_getElem hlen]
        have HG := Lib.hid hget
        clear hget hy
        have e0 : decide (l0.length ≤ pre.length) = false := by simpa using hlen
        by_cases hxy : y.toList = x.toList
        · have e1 : (y.toList == x.toList) = true := by simp [hxy]
          have HXY := Lib.hid hxy
          clear hxy
          gi_wp2
          have hyx : y = x := by
            have := HXY.out
            rw [ByteArray.toList_eq, ByteArray.toList_eq] at this
            exact ByteArray.ext (Array.toList_inj.1 this)
          have hg := grownBy_setCell' W (w.heap.size + 2) (.int .i64 (pre.length + 1))
          have h2' := h2.set (.int .i64 (pre.length + 1))
          refine ⟨(KeepsOthers.setCell _ _ _).from _, Below.heap_setCell W _ _ _ (by simp; omega), h0.kept hg (by simp), h1.kept hg (by simp), ?_, ?_, hB.setCell (p := ⟨w.heap.size + 2, 0, none⟩) (by simp) _, ?_⟩
          · rw [List.length_append]
            exact h2'
          · obtain ⟨tl, htl⟩ := HP.out
            have h5 := HG.out
            rw [← htl, List.getElem?_append_right (Nat.le_refl _), Nat.sub_self] at h5
            cases tl with
            | nil => simp at h5
            | cons z tl =>
              simp at h5
              exact ⟨tl, by rw [← htl, h5, hyx]; simp⟩
          · exact Nat.lt_of_lt_of_le hsz hg.size
        · have e1 : (y.toList == x.toList) = false := by simp [hxy]
          have HXY := Lib.hid hxy
          clear hxy
          gi_wp2
          have hg := grownBy_setCell' W (w.heap.size + 1) (.bool false)
          refine ⟨(KeepsOthers.setCell _ _ _).from _, rfl, h1.set _, fun e => ?_, hB.setCell (p := ⟨w.heap.size + 1, 0, none⟩) (by simp) _, Nat.lt_of_lt_of_le hsz hg.size⟩
          have h5 := HG.out
          rw [← e, HALL.out, List.getElem?_append_right (Nat.le_refl _), Nat.sub_self] at h5
          simp at h5
          exact HXY.out (by rw [h5])
      · have e0 : decide (l0.length ≤ pre.length) = true := by simp; omega
        gi_wp2
        have hg := grownBy_setCell' W (w.heap.size + 1) (.bool false)
        refine ⟨(KeepsOthers.setCell _ _ _).from _, rfl, h1.set _, fun e => ?_, hB.setCell (p := ⟨w.heap.size + 1, 0, none⟩) (by simp) _, Nat.lt_of_lt_of_le hsz hg.size⟩
        have h5 := congrArg List.length HALL.out
        rw [e] at h5
        simp at h5
        omega
    case done =>
      rintro W ⟨h0, h1, h2, hp, hB, hsz⟩ hK
      have c0' := h0.cell
      have c1' := h1.cell
      have c2' := h2.cell
      have f1' := h1.frozen
      have f2' := h2.frozen
      have hres : decide ((Q.lines (Q.cat l0)).length = l0.length) = decide (Q.lines (Q.cat l0) = l0) := by
        rw [decide_eq_decide]
        exact ⟨fun e => hp.eq_of_length e, fun e => by rw [e]⟩
      have HP := Lib.hid hp
      have HR := Lib.hid hres
      clear hp hres
      gi_wp2
      have hb : (((Q.lines (Q.cat l0)).length : Int) == (l0.length : Int)) = decide (Q.lines (Q.cat l0) = l0) := by
        rw [← HR.out, Bool.eq_iff_iff]
        simp only [beq_iff_eq, decide_eq_true_eq]
        omega
      rw [hb]
      have hv1 := h1.set (.bool (decide (Q.lines (Q.cat l0) = l0)))
      have hK1 : (W.setCell ⟨w.heap.size + 1, 0, none⟩ (.bool (decide (Q.lines (Q.cat l0) = l0)))).heap[W0.heap.size]? = some (.deferred (some [])) := (Below.heap_setCell W _ _ _ (by simp; omega)).trans hK
      have hv2 := hv1.kept (grownBy_putObj' _ W0.heap.size (.deferred none)) (by simp; omega)
      have hcell := hv2.cell
      have hB1 := hB.setCell (p := ⟨w.heap.size + 1, 0, none⟩) (by simp) (.bool (decide (Q.lines (Q.cat l0) = l0)))
      refine ⟨by simp, .inl ⟨_, _, rfl, run_takeDeferred hK1, ?_⟩⟩
      refine ⟨.bool (decide (Q.lines (Q.cat l0) = l0)), by simp [results, Try.results9, go_sem, hcell], rfl, hB1.grown (grownBy_putObj' _ _ _) hB1.size (fun k e => by cases e; omega)⟩
    case stop =>
      rintro c pre W _ ⟨rfl, h1, hp, hB, hsz⟩ hK
      have c1' := h1.cell
      have HP := Lib.hid hp
      clear hp
      gi_wp2
      have hv2 := h1.kept (grownBy_putObj' _ W0.heap.size (.deferred none)) (by simp; omega)
      have hcell := hv2.cell
      refine ⟨by simp, .inl ⟨_, _, rfl, run_takeDeferred hK, ?_⟩⟩
      refine ⟨.bool false, by simp [results, Try.results9, go_sem, hcell], by rw [decide_eq_false HP.out], hB.grown (grownBy_putObj' _ _ _) hB.size (fun k e => by cases e; omega)⟩
  · cases h
end Go.Proofs.Ythjihdfgamdhmaa.P
