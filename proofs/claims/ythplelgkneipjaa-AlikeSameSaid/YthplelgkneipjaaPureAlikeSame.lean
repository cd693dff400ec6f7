/- AlikeSame: the score is 100 just if both lists have the same lines, each as often; 0 just if no line is in both: the plain law over the printed function. -/
import Derived.Test.YthplelgkneipjaaPxf5
import Derived.Test.YthplelgkneipjaaQAlike
set_option linter.unusedVariables false
set_option linter.unusedSimpArgs false
namespace Go.Proofs.Ythplelgkneipjaa.Pure
open Go Go.RowKit Go.Proofs.Ythplelgkneipjaa.P Go.Proofs.YthplelgkneipjaaW.PrintWords Go.Proofs.YthplelgkneipjaaW.PrintLast Go.Proofs.Ythplelgkneipjaa.Q

def same (A B : List ByteArray) (i : Nat) : Bool := (A.length == B.length) && (A.take i).all fun x => A.count x == B.count x
def shared (A B : List ByteArray) (i : Nat) : Bool := (A.take i).any fun x => decide (0 < B.count x)
theorem same_iff (A B : List ByteArray) : same A B A.length = true ↔ score A B = 100 := by
  rw [score_full]
  unfold same
  rw [List.take_of_length_le (Nat.le_refl _), Bool.and_eq_true, List.all_eq_true, beq_iff_eq]
  constructor
  · rintro ⟨h1, h2⟩
    have h3 : comm A B = A.length := by
      rw [comm_full]
      intro x
      by_cases hx : x ∈ A
      · exact Nat.le_of_eq (beq_iff_eq.1 (h2 x hx))
      · rw [List.count_eq_zero.2 hx]; exact Nat.zero_le _
    have h4 := (comm_full B A).1 (by rw [comm_symm]; omega)
    have h5 := (comm_full A B).1 h3
    intro x
    have := h4 x
    have := h5 x
    omega
  · intro h
    have h1 := (comm_full A B).2 (fun x => Nat.le_of_eq (h x))
    have h2 := (comm_full B A).2 (fun x => Nat.le_of_eq (h x).symm)
    rw [comm_symm] at h2
    exact ⟨by omega, fun x _ => beq_iff_eq.2 (h x)⟩
theorem shared_iff (A B : List ByteArray) : shared A B A.length = false ↔ comm A B = 0 := by
  rw [comm_zero]
  unfold shared
  rw [List.take_of_length_le (Nat.le_refl _), List.any_eq_false]
  constructor
  · intro h x hx hb
    have := h x hx
    have := List.count_pos_iff.2 hb
    simp_all
  · intro h x hx
    have : B.count x = 0 := List.count_eq_zero.2 (h x hx)
    simp [this]
theorem same_succ (A B : List ByteArray) (i : Nat) (hi : i < A.length) : same A B (i + 1) = (same A B i && (A.count A[i] == B.count A[i])) := by
  unfold same
  rw [List.take_succ_eq_append_getElem hi, List.all_append]
  simp [Bool.and_assoc]
theorem shared_succ (A B : List ByteArray) (i : Nat) (hi : i < A.length) : shared A B (i + 1) = (shared A B i || decide (0 < B.count A[i])) := by
  unfold shared
  rw [List.take_succ_eq_append_getElem hi, List.any_append]
  simp
theorem beq_cast (m n : Nat) : ((m : Int) == (n : Int)) = (m == n) := by
  rw [Bool.eq_iff_iff, beq_iff_eq, beq_iff_eq]; omega
theorem dec_cast (n : Nat) : decide ((n : Int) > 0) = decide (0 < n) := by
  rw [Bool.eq_iff_iff, decide_eq_true_iff, decide_eq_true_iff]; omega

theorem same_loop {A B : List ByteArray} (hA : Okl A) (hB : Okl B) (d : Nat) : ∀ (i : Nat), i + d = A.length →
    Ev (fun k => collatorlaw07_AlikeSame.l0 k true A B (same A B i) (shared A B i) (i : Int)) true := by
  have hAl := hA.1
  have hBl := hB.1
  induction d with
  | zero =>
    intro i hi
    obtain rfl : i = A.length := by omega
    refine Ev.step (f := fun _ => some true) (fun k => ?_) (Ev.now true)
    simp only [collatorlaw07_AlikeSame.l0]
    have h1 : ((score A B == 100) == same A B A.length) = true := by
      have := same_iff A B
      cases hs : same A B A.length <;> simp_all
    have h2 : (((comm A B : Nat) : Int) == 0) = !shared A B A.length := by
      have := shared_iff A B
      cases hs : shared A B A.length
      · simp_all
      · simp only [Bool.not_true]; rw [beq_eq_false_iff_ne]; intro h; have := this.2 (by omega); simp_all
    rw [if_neg (by omega), if_true, score_ok hA hB, Option.bind_some, if_pos h1, common_ok hA hB, Option.bind_some, h2, if_pos (by simp)]
    have h5 : ((alike_Common.f A A).bind fun t250 => (some (t250 == (A.length : Int)))) = some true := by
      rw [common_ok hA hA, Option.bind_some, comm_self, beq_self_eq_true]
    cases hsh : shared A B A.length with
    | true => rw [if_pos rfl]; exact h5
    | false =>
      rw [if_neg (by simp)]
      cases hsa : same A B A.length with
      | true => rw [if_pos rfl]; exact h5
      | false =>
        rw [if_neg (by simp)]
        have h3 : score A B = 0 := by
          have h4 := (shared_iff A B).1 hsh
          have h6 : ¬ score A B = 100 := fun h => by have := (same_iff A B).2 h; simp_all
          unfold score at h6 ⊢
          by_cases h0 : A.length + B.length = 0
          · rw [if_pos h0] at h6; exact absurd rfl h6
          · rw [if_neg h0, h4]; simp
        rw [if_pos h3]; exact h5
  | succ d ih =>
    intro i hi
    have hlt : i < A.length := by omega
    have hr : rdOf ByteArray.empty A (i : Int) = A[i] := by
      unfold rdOf; rw [Int.toNat_natCast]; simp [List.getElem?_eq_getElem hlt]
    have h := ih (i + 1) (by omega)
    rw [same_succ _ _ _ hlt, shared_succ _ _ _ hlt] at h
    have ta := times_ev A A[i] hAl
    have tb := times_ev B A[i] hBl
    have hw : wrap64 ((i : Int) + 1) = ((i + 1 : Nat) : Int) := by rw [w64 (by omega) (by omega)]; rfl
    cases hs : same A B i with
    | true =>
      rw [hs, Bool.true_and, ← beq_cast] at h
      cases hh : shared A B i with
      | true =>
        rw [hh, Bool.true_or] at h
        refine Ev.step (f := fun k => (collatorlaw07_times.f k A A[i]).bind fun u => (collatorlaw07_times.f k B A[i]).bind fun v => collatorlaw07_AlikeSame.l0 k true A B (u == v) true ((i + 1 : Nat) : Int)) (fun k => ?_) (by refine Ev.bind ta ?_; refine Ev.bind tb ?_; exact h)
        simp only [collatorlaw07_AlikeSame.l0]
        simp only [if_pos (show (i : Int) < (A.length : Int) by omega), if_pos (show (0 : Int) ≤ (i : Int) by omega), if_true, hr, hw]
      | false =>
        rw [hh, Bool.false_or, ← dec_cast] at h
        refine Ev.step (f := fun k => (collatorlaw07_times.f k A A[i]).bind fun u => (collatorlaw07_times.f k B A[i]).bind fun v => collatorlaw07_AlikeSame.l0 k true A B (u == v) (decide (v > 0)) ((i + 1 : Nat) : Int)) (fun k => ?_) (by refine Ev.bind ta ?_; refine Ev.bind tb ?_; exact h)
        simp only [collatorlaw07_AlikeSame.l0]
        simp only [if_pos (show (i : Int) < (A.length : Int) by omega), if_pos (show (0 : Int) ≤ (i : Int) by omega), if_true, hr, hw, Bool.false_eq_true, if_false]
    | false =>
      rw [hs, Bool.false_and] at h
      cases hh : shared A B i with
      | true =>
        rw [hh, Bool.true_or] at h
        refine Ev.step (fun k => ?_) h
        simp only [collatorlaw07_AlikeSame.l0]
        simp only [if_pos (show (i : Int) < (A.length : Int) by omega), if_pos (show (0 : Int) ≤ (i : Int) by omega), if_true, hr, hw, Bool.false_eq_true, if_false]
      | false =>
        rw [hh, Bool.false_or, ← dec_cast] at h
        refine Ev.step (f := fun k => (collatorlaw07_times.f k B A[i]).bind fun v => collatorlaw07_AlikeSame.l0 k true A B false (decide (v > 0)) ((i + 1 : Nat) : Int)) (fun k => ?_) (by refine Ev.bind tb ?_; exact h)
        simp only [collatorlaw07_AlikeSame.l0]
        simp only [if_pos (show (i : Int) < (A.length : Int) by omega), if_pos (show (0 : Int) ≤ (i : Int) by omega), if_true, hr, hw, Bool.false_eq_true, if_false]

theorem AlikeSame : collatorlaw07_AlikeSame.Pure := by
  intro l0 l1 hm0 hr0 hw0 hm1 hr1 hw1
  obtain ⟨A, hA, fA, lA⟩ := lines_ev l0 hw0 (by omega) 30 (by omega)
  obtain ⟨B, hB, fB, lB⟩ := lines_ev l1 hw1 (by omega) 30 (by omega)
  have oA := fA.okl (by omega)
  have oB := fB.okl (by omega)
  refine Ev.rounds ?_
  unfold collatorlaw07_AlikeSame.f
  refine Ev.bind awake_ev ?_
  refine Ev.bind hA ?_
  refine Ev.bind hB ?_
  have h := same_loop oA oB A.length 0 (by omega)
  have h1 : same A B 0 = ((A.length : Int) == (B.length : Int)) := by unfold same; rw [beq_cast]; simp
  have h2 : shared A B 0 = false := by simp [shared]
  rw [h1, h2] at h
  exact h
end Go.Proofs.Ythplelgkneipjaa.Pure
