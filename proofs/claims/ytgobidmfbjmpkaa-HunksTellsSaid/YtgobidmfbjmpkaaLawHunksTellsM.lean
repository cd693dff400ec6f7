/- Laid for this claim by hp.py, this session's program round the kit's print: functions of the program as plain Lean functions, the proofs that the code comes to their answers, and the rows of the laws. Not trusted: Lean checks it. -/
import Derived.Test.YtgobidmfbjmpkaaRows
import Derived.Test.YtgobidmfbjmpkaaMHunksTells11
import Derived.Test.YtgobidmfbjmpkaaMHunksTells12
import Derived.WalkKit
import Derived.ProofKit
import Derived.OpenShut
import Derived.ShutString
import Derived.ChangeOld
import Derived.Below
import Derived.SizedLaws
import Derived.Test.YtgobidmfbjmpkaaWSized
namespace Go.Proofs.Ytgobidmfbjmpkaa.hunksTells
open Go.ChangeShapes Go.WideShapes Go.ChangeAt Go.RowKit
open Go.ChangeMaps (open_string shut_string)
open Go Go.Proofs.YtgobidmfbjmpkaaW.PrintWords Go.Proofs.YtgobidmfbjmpkaaW.PrintMore
set_option linter.unusedVariables false
theorem own : ownKnob Try.prog.godebug = none := by kernel_rfl
theorem laidOut : laidOutB Try.prog = true := by kernel_rfl
set_option maxRecDepth 100000 in
theorem lifted (os : Os) (started : os.Started) (H : Type) (enc : TypeId × Value → H) :
  ReturnsInHanded {} Try.checked os 3 .any (Rows.hunksTellsSpec.pre6 enc Try.prog Try.f3 Rows.hunksTellsRow.domain false) (Rows.hunksTellsSpec.post enc Try.prog Try.f3 false true false false) := by
 refine returnsInHanded_of_change_sized (C := Try.checked) own started (by kernel_rfl) Try.func3
  (ChangeSpec.witness6 (enc := enc) (C := Try.checked) false ⟨#[], #[.slice none 0 0, .slice none 0 0, .slice none 0 0, .slice none 0 0, .slice none 0 0, .int .i64 0, .int .i64 0], []⟩ 8 (by kernel_rfl) (by kernel_rfl) (by kernel_rfl) (by kernel_rfl)) ?_
 intro W base args ds gs before hval0 hW hcnd hsz0 _
 have hsz : (DataW.weightsEach Try.prog (Try.f3.params.toList ++ Rows.hunksTellsSpec.plain.varTypes Try.prog) (ds ++ gs)).all (· ≤ reachBytes) = true := hsz0
 have hval : ∀ (j : Nat) t v, Try.f3.params[j]? = some t → args[j]? = some v → Value.okWide Try.prog W .any base t v := hval0
 have hW' := hW
 obtain ⟨p, q, hA0, hV, rfl, hfz, hnd⟩ := hW
 have hA : DataW.TrodAll enc Try.prog W 0 (fun _ => true) true Try.f3.params.toList args.toList ds p := hA0
 rw [Try.params3] at hA hval hsz
 obtain ⟨v0, vs0, d0, ds0, p0, q0, hargs, rfl, rfl, h0, r0⟩ := trodAll_cons hA
 obtain ⟨v1, vs1, d1, ds1, p1, q1, rfl, rfl, rfl, h1, r1⟩ := trodAll_cons r0
 obtain ⟨v2, vs2, d2, ds2, p2, q2, rfl, rfl, rfl, h2, r2⟩ := trodAll_cons r1
 obtain ⟨v3, vs3, d3, ds3, p3, q3, rfl, rfl, rfl, h3, r3⟩ := trodAll_cons r2
 obtain ⟨v4, vs4, d4, ds4, p4, q4, rfl, rfl, rfl, h4, r4⟩ := trodAll_cons r3
 obtain ⟨v5, vs5, d5, ds5, p5, q5, rfl, rfl, rfl, h5, r5⟩ := trodAll_cons r4
 obtain ⟨v6, vs6, d6, ds6, p6, q6, rfl, rfl, rfl, h6, r6⟩ := trodAll_cons r5
 obtain ⟨rfl, rfl, rfl⟩ := trodAll_nil r6
 obtain rfl : args = #[v0, v1, v2, v3, v4, v5, v6] := by cases args; simp_all
 obtain ⟨rfl, rfl⟩ := trodVars_none hV
 obtain ⟨a0, len0, cap0, rfl⟩ := okWide_slice Try.underlying22 (hval 0 22 v0 rfl rfl)
 have k0 := h0
 have lt0 : ∀ x ∈ p0, x.block < W.heap.size := by obtain ⟨m, hm⟩ := k0; exact DataW.trod_lt m _ _ _ hm
 obtain ⟨a1, len1, cap1, rfl⟩ := okWide_slice Try.underlying23 (hval 1 23 v1 rfl rfl)
 have k1 := h1
 have lt1 : ∀ x ∈ p1, x.block < W.heap.size := by obtain ⟨m, hm⟩ := k1; exact DataW.trod_lt m _ _ _ hm
 obtain ⟨a2, len2, cap2, rfl⟩ := okWide_slice Try.underlying24 (hval 2 24 v2 rfl rfl)
 have k2 := h2
 have lt2 : ∀ x ∈ p2, x.block < W.heap.size := by obtain ⟨m, hm⟩ := k2; exact DataW.trod_lt m _ _ _ hm
 obtain ⟨a3, len3, cap3, rfl⟩ := okWide_slice Try.underlying23 (hval 3 23 v3 rfl rfl)
 have k3 := h3
 have lt3 : ∀ x ∈ p3, x.block < W.heap.size := by obtain ⟨m, hm⟩ := k3; exact DataW.trod_lt m _ _ _ hm
 obtain ⟨a4, len4, cap4, rfl⟩ := okWide_slice Try.underlying23 (hval 4 23 v4 rfl rfl)
 have k4 := h4
 have lt4 : ∀ x ∈ p4, x.block < W.heap.size := by obtain ⟨m, hm⟩ := k4; exact DataW.trod_lt m _ _ _ hm
 obtain ⟨l0, e0, hc0, hr0, rg0⟩ := HHk.row_of h0
 subst e0
 obtain ⟨l1, e1, hr1, hm1, hw1, hc1⟩ : ∃ l : List Int, len1 = l.length ∧ Kd.C (Kd.int .i64) W a1 l.length l ∧ l.length ≤ maxLen ∧ (∀ x ∈ l, (Lit.int .i64 x).wf = true) ∧ l.length ≤ cap1 := by
  obtain ⟨fuel, hf⟩ := h1
  rcases open_ints Try.underlying23 Try.underlying3 (by kernel_rfl) hf with ⟨hcs, _⟩ | ⟨x, l, c, zs, hcs, _, hl, hm, hz, _, hcell, hwz⟩
  ·simp [Value.cells] at hcs
   obtain ⟨rfl, rfl, rfl⟩ := hcs
   exact ⟨[], rfl, Kd.C_nil _ W, Nat.zero_le _, fun x hx => absurd hx (by simp), Nat.le_refl _⟩
  ·simp [Value.cells] at hcs
   obtain ⟨rfl, rfl, rfl⟩ := hcs
   obtain ⟨y, h1, h2, h3, h4, h5⟩ := ReadsInt.ofRowC (w := W) (a := some x) (len := len1) (cap := cap1) (zs := zs) (k := .i64) (.inr ⟨x, rfl, hl, hm, by simpa using hz, hcell, hwz⟩)
   exact ⟨y, h1, Kd.C_of_reads (d := (0 : Int)) (h1 := fun _ => rfl) h2, h3, h4, h5⟩
 subst e1
 obtain ⟨l3, e3, hr3, hm3, hw3, hc3⟩ : ∃ l : List Int, len3 = l.length ∧ Kd.C (Kd.int .i64) W a3 l.length l ∧ l.length ≤ maxLen ∧ (∀ x ∈ l, (Lit.int .i64 x).wf = true) ∧ l.length ≤ cap3 := by
  obtain ⟨fuel, hf⟩ := h3
  rcases open_ints Try.underlying23 Try.underlying3 (by kernel_rfl) hf with ⟨hcs, _⟩ | ⟨x, l, c, zs, hcs, _, hl, hm, hz, _, hcell, hwz⟩
  ·simp [Value.cells] at hcs
   obtain ⟨rfl, rfl, rfl⟩ := hcs
   exact ⟨[], rfl, Kd.C_nil _ W, Nat.zero_le _, fun x hx => absurd hx (by simp), Nat.le_refl _⟩
  ·simp [Value.cells] at hcs
   obtain ⟨rfl, rfl, rfl⟩ := hcs
   obtain ⟨y, h1, h2, h3, h4, h5⟩ := ReadsInt.ofRowC (w := W) (a := some x) (len := len3) (cap := cap3) (zs := zs) (k := .i64) (.inr ⟨x, rfl, hl, hm, by simpa using hz, hcell, hwz⟩)
   exact ⟨y, h1, Kd.C_of_reads (d := (0 : Int)) (h1 := fun _ => rfl) h2, h3, h4, h5⟩
 subst e3
 obtain ⟨l4, e4, hr4, hm4, hw4, hc4⟩ : ∃ l : List Int, len4 = l.length ∧ Kd.C (Kd.int .i64) W a4 l.length l ∧ l.length ≤ maxLen ∧ (∀ x ∈ l, (Lit.int .i64 x).wf = true) ∧ l.length ≤ cap4 := by
  obtain ⟨fuel, hf⟩ := h4
  rcases open_ints Try.underlying23 Try.underlying3 (by kernel_rfl) hf with ⟨hcs, _⟩ | ⟨x, l, c, zs, hcs, _, hl, hm, hz, _, hcell, hwz⟩
  ·simp [Value.cells] at hcs
   obtain ⟨rfl, rfl, rfl⟩ := hcs
   exact ⟨[], rfl, Kd.C_nil _ W, Nat.zero_le _, fun x hx => absurd hx (by simp), Nat.le_refl _⟩
  ·simp [Value.cells] at hcs
   obtain ⟨rfl, rfl, rfl⟩ := hcs
   obtain ⟨y, h1, h2, h3, h4, h5⟩ := ReadsInt.ofRowC (w := W) (a := some x) (len := len4) (cap := cap4) (zs := zs) (k := .i64) (.inr ⟨x, rfl, hl, hm, by simpa using hz, hcell, hwz⟩)
   exact ⟨y, h1, Kd.C_of_reads (d := (0 : Int)) (h1 := fun _ => rfl) h2, h3, h4, h5⟩
 subst e4
 obtain ⟨z2, w2⟩ := HRowsI.row_of Try.underlying24 Try.underlying23 Try.underlying3 (by kernel_rfl) (by kernel_rfl) h2
 obtain ⟨l2, e2, hr2, hm2, hw2, hc2⟩ := HRowsI.ofRowS w2
 subst e2
 obtain ⟨a5, rfl, rfl, rfl, w5⟩ := open_int Try.underlying3 (hval 5 3 v5 rfl rfl) h5
 obtain ⟨a6, rfl, rfl, rfl, w6⟩ := open_int Try.underlying3 (hval 6 3 v6 rfl rfl) h6
 clear hA0 hval0 hsz0 hsz
 obtain ⟨k, s, a, ls, p, q, own, hm, hK⟩ := Q.tells_ok l0 rg0 l1 l2 l3 l4 a5 a6 hm1 hw1 hw2 hw3 hm4 hw4 w5 w6
 refine (P.tells_run k l0 l1 l2 l3 l4 a5 a6 s a ls p q own hm ⟨hK⟩ a0 a1 a2 a3 a4 cap0 cap1 cap2 cap3 cap4 W hr0 hc0 hr1 hc1 hr2 hc2 hr3 hc3 hr4 hc4).mono fun e W' ⟨he, bel⟩ => ?_
 subst he
 exact ⟨_, rfl, _, _, _, [], _, [], hW', trodAll_mk1 (shut_bool Try.underlying4 _), (trodAll_cons_mk (Below.trod laidOut (by kernel_rfl) (of_decide_eq_true (by kernel_rfl)) k0 bel lt0) (trodAll_cons_mk (Below.trod laidOut (by kernel_rfl) (of_decide_eq_true (by kernel_rfl)) k1 bel lt1) (trodAll_cons_mk (Below.trod laidOut (by kernel_rfl) (of_decide_eq_true (by kernel_rfl)) k2 bel lt2) (trodAll_cons_mk (Below.trod laidOut (by kernel_rfl) (of_decide_eq_true (by kernel_rfl)) k3 bel lt3) (trodAll_cons_mk (Below.trod laidOut (by kernel_rfl) (of_decide_eq_true (by kernel_rfl)) k4 bel lt4) (trodAll_cons_mk (shut_int Try.underlying3 w5) (trodAll_cons_mk (shut_int Try.underlying3 w6) trodAll_mk0))))))), rfl, bel.frame _, fun h => by cases h⟩
theorem over : Rows.hunksTellsRow.holds Try.pinned (OpenSpec.ofChange Rows.hunksTellsSpec) :=
 OpenClaim.holds_of_wide 3 Try.f3 rfl rfl rfl rfl rfl rfl rfl ⟨rfl, rfl, rfl, rfl, rfl⟩ rfl rfl rfl rfl rfl (by kernel_rfl) Try.func3 (by kernel_rfl)
  (of_decide_eq_true (by kernel_rfl)) (by unfold Func.isWrapper; first | (rw [if_pos (by decide +kernel)]; kernel_rfl) | (rw [if_neg (by decide +kernel)]; exact ⟨rfl, rfl⟩))
  (fun os started H enc _ => lifted os started H enc)
theorem proved : Rows.HunksTellsSaid := over
#print axioms proved
end Go.Proofs.Ytgobidmfbjmpkaa.hunksTells
namespace Go.Proofs.Ytgobidmfbjmpkaa
/-- The row, under a short name, for the claim. -/
theorem hunksTells_holds : Rows.HunksTellsSaid := hunksTells.proved
end Go.Proofs.Ytgobidmfbjmpkaa
