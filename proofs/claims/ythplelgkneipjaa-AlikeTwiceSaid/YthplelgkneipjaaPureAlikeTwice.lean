/- AlikeTwice: with all lines twice twice as many are in both, and the score is the same; lines that are nowhere else raise nothing: the plain law over the printed function. -/
import Derived.Test.YthplelgkneipjaaPxf7
import Derived.Test.YthplelgkneipjaaQAlike
set_option linter.unusedVariables false
set_option linter.unusedSimpArgs false
namespace Go.Proofs.Ythplelgkneipjaa.Pure
open Go Go.RowKit Go.Proofs.Ythplelgkneipjaa.P Go.Proofs.YthplelgkneipjaaW.PrintWords Go.Proofs.YthplelgkneipjaaW.PrintLast Go.Proofs.Ythplelgkneipjaa.Q

def nowhere : ByteArray := ⟨#[110, 111, 119, 104, 101, 114, 101, 32, 101, 108, 115, 101, 10]⟩
theorem twice_loop {A B : List ByteArray} (hA : Okl A) (hB : Okl B) (hn : nowhere ∉ B) (hAA : Okl (A ++ A)) (hBB : Okl (B ++ B)) (hl : A.length ≤ 1000) {a2 : Int} (ha : -9223372036854775808 ≤ a2 ∧ a2 ≤ 9223372036854775807) (d : Nat) : ∀ (i : Nat), i + d = pk a2 5 →
    Ev (fun k => collatorlaw07_AlikeTwice.l0 k a2 true A B (A ++ A) (B ++ B) (A ++ List.replicate i nowhere) (i : Int)) true := by
  have h5 := pk_lt a2 (n := 5) (by omega)
  have hp := pick7 ha (m := 5) (n := 5) rfl (by omega)
  have hAl := hA.1
  have hBl := hB.1
  induction d with
  | zero =>
    intro i hi
    refine Ev.step (f := fun _ => some true) (fun k => ?_) (Ev.now true)
    simp only [collatorlaw07_AlikeTwice.l0]
    have hC : Okl (A ++ List.replicate i nowhere) := ⟨by simp; omega, fun s hs => by
      rcases List.mem_append.1 hs with hs | hs
      · exact hA.2 s hs
      · rw [List.eq_of_mem_replicate hs]; decide⟩
    have hc := comm_le B A
    have e0 : ¬ (i : Int) < ((pk a2 5 : Nat) : Int) := by omega
    have e1 : ((comm (A ++ A) (B ++ B) : Nat) : Int) = wrap64 (2 * ((comm A B : Nat) : Int)) := by rw [comm_twice, w64 (by omega) (by omega)]; omega
    have e2 := score_more A B nowhere i hn
    rw [hp, Option.bind_some, if_neg e0, if_true, common_ok hAA hBB, Option.bind_some, common_ok hA hB, Option.bind_some, if_pos e1, score_ok hAA hBB, Option.bind_some, score_ok hA hB, Option.bind_some, if_pos (score_twice A B), score_ok hC hB, Option.bind_some, if_pos e2,
      common_ok hC hB, Option.bind_some, comm_append_left _ _ hn, beq_self_eq_true]
  | succ d ih =>
    intro i hi
    refine Ev.step (fun k => ?_) (ih (i + 1) (by omega))
    simp only [collatorlaw07_AlikeTwice.l0]
    rw [hp, Option.bind_some, if_pos (by omega), if_pos (by simp; omega), w64 (by omega) (by omega), List.append_assoc, List.replicate_succ']
    rfl

theorem AlikeTwice : collatorlaw07_AlikeTwice.Pure := by
  intro l0 l1 a2 hm0 hr0 hw0 hm1 hr1 hw1 hw2
  obtain ⟨A, hA, fA, lA⟩ := lines_ev l0 hw0 (by omega) 20 (by omega)
  obtain ⟨B, hB, fB, lB⟩ := lines_ev l1 hw1 (by omega) 20 (by omega)
  have oA := fA.okl (by omega)
  have oB := fB.okl (by omega)
  have hAl := fA.le
  have hBl := fB.le
  have hAA : Okl (A ++ A) := ⟨by simp; omega, fun s hs => oA.2 s ((List.mem_append.1 hs).elim id id)⟩
  have hBB : Okl (B ++ B) := ⟨by simp; omega, fun s hs => oB.2 s ((List.mem_append.1 hs).elim id id)⟩
  refine Ev.rounds ?_
  unfold collatorlaw07_AlikeTwice.f
  refine Ev.bind awake_ev ?_
  refine Ev.bind hA ?_
  refine Ev.bind hB ?_
  simp only [List.nil_append, List.length_nil, Option.bind_some]
  simp only [if_pos (show 0 + A.length < 8796093022208 by omega), if_pos (show A.length + A.length < 8796093022208 by omega), if_pos (show 0 + B.length < 8796093022208 by omega), if_pos (show B.length + B.length < 8796093022208 by omega)]
  have h := twice_loop oA oB (fB.not_mem (by decide)) hAA hBB (by omega) (wf_range hw2) (pk a2 5) 0 (by omega)
  rw [List.replicate_zero, List.append_nil] at h
  exact h
end Go.Proofs.Ythplelgkneipjaa.Pure
