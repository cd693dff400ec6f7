/- What myers.noted answers, of a script of the call's own: one step more; by a walk of its text. -/
import Derived.WalkMore
import Derived.IntWalk
import Derived.Test.YthplelgkneipjaaHEdits
import Derived.Test.YthplelgkneipjaaESearch
set_option linter.unusedVariables false
set_option linter.unusedSimpArgs false
namespace Go.Proofs.Ythplelgkneipjaa.P
open Go Go.RowKit Go.Proofs.YthplelgkneipjaaW.PrintWords Go.Proofs.YthplelgkneipjaaW.PrintLast Go.Proofs.YthplelgkneipjaaW.PrintMore Go.Proofs.Ythplelgkneipjaa.HEdits

/-- A script with one step more. -/
def note (s : List S49) (op : Int) (ls : List ByteArray) : List S49 := match s.getLast? with
  | some x => if x.f0 = op then s.dropLast ++ [⟨op, x.f1 + 1, x.f2 ++ ls⟩] else s ++ [⟨op, 1, ls⟩]
  | none => s ++ [⟨op, 1, ls⟩]
theorem note_nil (op : Int) (ls : List ByteArray) : note [] op ls = [⟨op, 1, ls⟩] := rfl
theorem note_snoc (s : List S49) (x : S49) (op : Int) (ls : List ByteArray) : note (s ++ [x]) op ls = if x.f0 = op then s ++ [⟨op, x.f1 + 1, x.f2 ++ ls⟩] else s ++ [x] ++ [⟨op, 1, ls⟩] := by
  unfold note
  rw [List.getLast?_concat, List.dropLast_concat]
structure Small (es : List Ed) : Prop where
  len : es.length ≤ 10000000
  n : ∀ e ∈ es, 0 ≤ e.n ∧ e.n ≤ 10000000
  l : ∀ e ∈ es, e.l.length ≤ 10000000
set_option maxHeartbeats 4000000 in
set_option maxRecDepth 100000 in
theorem myers_noted.calls (B : Nat) (es : List Ed) (v : Value) (op : Int) (A2 : Option Addr) (n2 c2 : Nat) (ls : List ByteArray) (w : World) (hB : B ≤ w.heap.size) (HS : Scr B w v es) (hl : Lns B w (.slice A2 n2 c2) ls) (hne : ∀ e ∈ es, NeRow e.v (.slice A2 n2 c2)) (hsm : Small es) (hls : ls.length ≤ 10000000) :
    Calls Try.prog 47 #[v, .int .i64 op, .slice A2 n2 c2] w fun e w' => ∃ v' es', e = .returned v' ∧ Scr B w' v' es' ∧ es'.map Ed.plain = note (es.map Ed.plain) op ls ∧ Below B w w' := by
  have hn2 : n2 = ls.length := by
    obtain ⟨A', c', h1⟩ := own_slice hl
    injection h1 with _ h1 _
  subst hn2
  have HNE := Aside0.mk hne
  clear hne
  have HSM := Aside0.mk hsm
  have HLS := Aside0.mk hl
  have HB0 := Aside0.mk (Below.refl B w)
  have HL2 := Aside0.mk hls
  clear hsm hl
  rcases List.eq_nil_or_concat es with h0 | ⟨es0, e, h0⟩
  · subst h0
    obtain ⟨A, c, rfl⟩ := own_slice HS.1
    have HSA := Aside0.mk HS
    clear HS
    go_enter Try.func47, Try.ntmps47
    go_wp2_with (first
      | (at_builtin; refine print_append_cells (w0 := w) B rfl (.tmp 45) (.tmp 49) 40 49 (.agg #[(.int .i64 0), (.int .i64 0), (.slice none 0 0)]) 3 40 rfl Try.underlying40 info49 rfl (by omega) (by omega) (.slice A 0 c) 0 (flat ([] : List Ed)) [.int .i64 op, .int .i64 1, .slice A2 ls.length c2] rfl (by first | (go_simp; done) | (go_simp; rfl)) rfl ?h1 ?hO ?hB ?hs ?hl ?_; (case h1 => intro u hu; simp at hu; rcases hu with rfl | rfl | rfl <;> rfl); (case hO => exact HSA.out.1); (case hB => exact HB0.out); (case hs => exact hB); (case hl => omega); intro v1 w1 hown hb hgr hat; have HN1 := Aside0.mk hown; have HB1 := Aside0.mk hb; have HG1 := Aside0.mk hgr; clear hown hb hgr hat))
    go_ret
    exact ⟨v1, ([] : List Ed) ++ [⟨op, 1, .slice A2 ls.length c2, ls⟩], rfl, HSA.out.push (es := []) (e := ⟨op, 1, .slice A2 ls.length c2, ls⟩) HN1.out HG1.out HLS.out HNE.out, rfl, HB1.out⟩
  · rw [List.concat_eq_append] at h0
    subst h0
    obtain ⟨g, cap, rfl, hg, hgl, hblk, hc0, hc1, hc2, hf1, hf2⟩ := HS.last
    have HSA := Aside0.mk HS
    clear HS
    have hlen := HSM.out.len
    rw [List.length_append, List.length_singleton] at hlen
    obtain ⟨ji, hji⟩ : ∃ ji : Int, ji = ((es0.length + 1 : Nat) : Int) - 1 := ⟨_, rfl⟩
    have s1 : IntKind.i64.wrap (((es0.length + 1 : Nat) : Int) - 1) = ji := by rw [hji]; exact wr64 (by omega) (by omega)
    have h2 : (0 ≤ ji) = True := eq_true (by omega)
    have h3 : (ji < ((es0.length + 1 : Nat) : Int)) = True := eq_true (by omega)
    have hjn : ji.toNat = es0.length := by omega
    by_cases hop : e.op = op
    · go_enter Try.func47, Try.ntmps47
      have S2 : Scr B (w.setCell ⟨g, es0.length * 3 + 1, none⟩ (.int .i64 (e.n + 1))) (.slice (some ⟨g, 0, none⟩) (es0.length + 1) cap) (es0 ++ [⟨e.op, e.n + 1, e.v, e.l⟩]) :=
        HSA.out.set rfl hblk 1 (by omega) _ ⟨e.op, e.n + 1, e.v, e.l⟩ rfl (HSA.out.2.1 e (by simp)) (fun p hp => (List.pairwise_append.1 HSA.out.2.2).2.2 p hp e (by simp))
      have HS2 := Aside0.mk S2
      have hnote : note (List.map Ed.plain es0 ++ [e.plain]) op ls = List.map Ed.plain es0 ++ [⟨op, e.n + 1, e.l ++ ls⟩] := by rw [note_snoc, if_pos (show (Ed.plain e).f0 = op from hop)]; rfl
      have hll : ls.length ≤ 10000000 ∧ e.l.length ≤ 10000000 := ⟨HL2.out, HSM.out.l e (by simp)⟩
      have sN : IntKind.i64.wrap (e.n + 1) = e.n + 1 := wr64 (by have := HSM.out.n e (by simp); omega) (by have := HSM.out.n e (by simp); omega)
      clear S2
      go_wp2_with (first
        | (at_builtin; refine print_append_row_of (w0 := w) Value.string ByteArray.empty B rfl (.tmp 39) (.tmp 40) 22 9 (.string ⟨#[]⟩) 16 rfl Try.underlying22 info9 rfl (by omega) (fun _ => rfl) e.v e.l ls A2 ls.length c2 rfl rfl ?hO ?hR ?hB ?hs ?hl ?_; (case hO => exact HS2.out.2.1 ⟨e.op, e.n + 1, e.v, e.l⟩ (by simp)); (case hR => exact own_reads_of' (own_setCell HLS.out (own_ne HLS.out hblk.choose_spec (by decide)) _)); (case hB => exact HB0.out.setCell hg _); (case hs => simpa [World.setCell] using hB); (case hl => omega); intro v1 w1 hown hb hgr hat; obtain ⟨Av, nv, cv, rfl⟩ : ∃ A n c, v1 = .slice A n c := (by obtain ⟨A, c, h⟩ := own_slice hown; exact ⟨A, _, c, h⟩); have HN1 := Aside0.mk hown; have HB1 := Aside0.mk hb; have HG1 := Aside0.mk hgr; have HP1 : Aside0 (∀ p ∈ es0, NeRow p.v (.slice Av nv cv)) := ⟨fun p hp => ne_append' ((List.pairwise_append.1 HS2.out.2.2).2.2 p hp ⟨e.op, e.n + 1, e.v, e.l⟩ (by simp)) hat (HS2.out.2.1 p (List.mem_append_left _ hp))⟩; obtain ⟨S3, hd2, hdf⟩ := HS2.out.later rfl HG1.out HN1.out HP1.out; have HS3 := Aside0.mk S3; clear hown hb hgr hat S3))
      go_ret
      refine ⟨.slice (some ⟨g, 0, none⟩) (es0.length + 1) cap, rfl, es0 ++ [⟨e.op, e.n + 1, .slice Av nv cv, e.l ++ ls⟩], HS3.out, by first | (rw [List.map_append]; exact congrArg (fun o : Int => List.map Ed.plain es0 ++ [(⟨o, e.n + 1, e.l ++ ls⟩ : S49)]) hop) | (rw [hnote]; exact congrArg (fun o : Int => List.map Ed.plain es0 ++ [(⟨o, e.n + 1, e.l ++ ls⟩ : S49)]) hop) | (rw [List.map_append, List.map_append, List.map_singleton, List.map_singleton, hnote]; exact congrArg (fun o : Int => List.map Ed.plain es0 ++ [(⟨o, e.n + 1, e.l ++ ls⟩ : S49)]) hop), HB1.out.setCell hg _⟩
    · go_enter Try.func47, Try.ntmps47
      go_wp2_with (first
        | (at_builtin; refine print_append_cells (w0 := w) B rfl (.tmp 45) (.tmp 49) 40 49 (.agg #[(.int .i64 0), (.int .i64 0), (.slice none 0 0)]) 3 40 rfl Try.underlying40 info49 rfl (by omega) (by omega) (.slice (some ⟨g, 0, none⟩) (es0.length + 1) cap) (es0.length + 1) (flat (es0 ++ [e])) [.int .i64 op, .int .i64 1, .slice A2 ls.length c2] rfl (by first | (go_simp; done) | (go_simp; rfl)) rfl ?h1 ?hO ?hB ?hs ?hl ?_; (case h1 => intro u hu; simp at hu; rcases hu with rfl | rfl | rfl <;> rfl); (case hO => have h1 := HSA.out.1; rw [List.length_append, List.length_singleton] at h1; exact h1); (case hB => exact HB0.out); (case hs => exact hB); (case hl => omega); intro v1 w1 hown hb hgr hat; have HN1 := Aside0.mk hown; have HB1 := Aside0.mk hb; have HG1 := Aside0.mk hgr; clear hown hb hgr hat))
      go_ret
      exact ⟨v1, (es0 ++ [e]) ++ [⟨op, 1, .slice A2 ls.length c2, ls⟩], rfl, HSA.out.push (by rw [List.length_append, List.length_singleton]; exact HN1.out) HG1.out HLS.out HNE.out, by rw [List.map_append, List.map_append, List.map_singleton, note_snoc, if_neg (show ¬ (Ed.plain e).f0 = op from hop)]; rfl, HB1.out⟩
end Go.Proofs.Ythplelgkneipjaa.P
