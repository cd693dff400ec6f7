/- AlikeTurned: the score does not hang on the order of lines, nor on which list comes first: the plain law over the printed function. -/
import Derived.Test.YthplelgkneipjaaPxf4
import Derived.Test.YthplelgkneipjaaQAlike
set_option linter.unusedVariables false
set_option linter.unusedSimpArgs false
namespace Go.Proofs.Ythplelgkneipjaa.Pure
open Go Go.RowKit Go.Proofs.Ythplelgkneipjaa.P Go.Proofs.YthplelgkneipjaaW.PrintWords Go.Proofs.YthplelgkneipjaaW.PrintLast Go.Proofs.Ythplelgkneipjaa.Q

/-- b, turned by m. -/
def turned (b : List ByteArray) (m : Nat) : List ByteArray := (List.range b.length).map fun i => b.getD ((i + m) % b.length) ByteArray.empty
theorem turned_perm (b : List ByteArray) (m : Nat) : (turned b m).Perm b := by
  rcases Nat.eq_zero_or_pos b.length with h0 | h0
  · have : b = [] := List.eq_nil_of_length_eq_zero h0
    subst this; exact List.Perm.refl _
  · have he : turned b m = b.drop (m % b.length) ++ b.take (m % b.length) := by
      have hm := Nat.mod_lt m h0
      apply List.ext_getElem
      · simp [turned]; omega
      · intro i h1 h2
        simp only [turned, List.length_map, List.length_range] at h1
        simp only [turned, List.getElem_map, List.getElem_range]
        have hlt := Nat.mod_lt (i + m) h0
        rw [List.getD_eq_getElem?_getD, List.getElem?_eq_getElem hlt, Option.getD_some]
        by_cases hc : i < b.length - m % b.length
        · rw [List.getElem_append_left (by simp; omega), List.getElem_drop]
          congr 1
          rw [Nat.add_mod, Nat.mod_eq_of_lt h1, Nat.mod_eq_of_lt (by omega)]
          omega
        · rw [List.getElem_append_right (by simp; omega), List.getElem_take]
          congr 1
          simp only [List.length_drop]
          rw [Nat.add_mod, Nat.mod_eq_of_lt h1, Nat.mod_eq_sub_mod (by omega), Nat.mod_eq_of_lt (by omega)]
          omega
    rw [he]
    exact (List.perm_append_comm).trans (by rw [List.take_append_drop])

theorem last_part {A B C D : List ByteArray} (hA : Okl A) (hB : Okl B) (hC : A.Perm C) (hD : B.Perm D) :
    ((alike_Score.f A B).bind fun t228 => (if true = true then (if t228 ≥ 0 then (if t228 ≤ 100 then ((alike_Score.f B A).bind fun t229 => (if t228 = t229 then ((alike_Score.f C D).bind fun t230 => (if t228 = t230 then ((alike_Common.f A B).bind fun t231 => ((alike_Common.f D C).bind fun t232 => (some (t231 == t232)))) else (some false))) else (some false))) else (some false)) else (some false)) else (some false))) = some true := by
  have hr := score_range A B
  rw [score_ok hA hB, Option.bind_some, if_pos rfl, if_pos hr.1, if_pos hr.2, score_ok hB hA, Option.bind_some, if_pos (score_symm A B), score_ok (hA.perm hC) (hB.perm hD), Option.bind_some, if_pos (score_perm hC hD),
    common_ok hA hB, Option.bind_some, common_ok (hB.perm hD) (hA.perm hC), Option.bind_some, comm_symm D C, comm_perm_left B hC, comm_perm_right C hD, beq_self_eq_true]

theorem turned_loop {A B C : List ByteArray} (hA : Okl A) (hB : Okl B) (hC : A.Perm C) (m : Nat) (hm : m ≤ 1000000) (d : Nat) : ∀ (i : Int) (acc : List ByteArray), i + 1 = (d : Int) → d ≤ B.length → acc = ((turned B m).drop d).reverse →
    Ev (fun k => collatorlaw07_AlikeTurned.l0 k true A B (m : Int) C acc i) true := by
  have hBl := hB.1
  have hTl : (turned B m).length = B.length := by simp [turned]
  induction d with
  | zero =>
    intro i acc hi hd ha
    refine Ev.step (f := fun _ => some true) (fun k => ?_) (Ev.now true)
    simp only [collatorlaw07_AlikeTurned.l0]
    rw [if_neg (by omega)]
    refine last_part hA hB hC ?_
    rw [ha, List.drop_zero]
    exact ((turned_perm B m).symm).trans (List.reverse_perm _).symm
  | succ d ih =>
    intro i acc hi hd ha
    have hid : i = (d : Int) := by omega
    subst hid
    refine Ev.step (fun k => ?_) (ih ((d : Int) - 1) (acc ++ [(turned B m)[d]'(by omega)]) (by omega) (by omega) ?_)
    · simp only [collatorlaw07_AlikeTurned.l0]
      have h1 : Int.tmod (wrap64 ((d : Int) + (m : Int))) (B.length : Int) = (((d + m) % B.length : Nat) : Int) := by
        rw [w64 (by omega) (by omega), Int.tmod_eq_emod_of_nonneg (by omega)]
        rw [Int.natCast_emod]; rfl
      have h2 : (d + m) % B.length < B.length := Nat.mod_lt _ (by omega)
      have h3 : acc.length < 8796093022208 := by rw [ha]; simp; omega
      rw [if_pos (by omega), if_neg (by omega), h1, if_pos (by omega), if_pos (by omega), if_pos h3, w64 (by omega) (by omega)]
      have h4 : rdOf ByteArray.empty B (((d + m) % B.length : Nat) : Int) = (turned B m)[d]'(by omega) := by
        unfold rdOf
        rw [Int.toNat_natCast]
        simp [turned]
      rw [h4]
    · rw [ha, List.drop_eq_getElem_cons (by omega : d < (turned B m).length), List.reverse_cons]

theorem AlikeTurned : collatorlaw07_AlikeTurned.Pure := by
  intro l0 l1 a2 a3 hm0 hr0 hw0 hm1 hr1 hw1 hw2 hw3
  obtain ⟨A, hA, fA, lA⟩ := lines_ev l0 hw0 (by omega) 30 (by omega)
  obtain ⟨B, hB, fB, lB⟩ := lines_ev l1 hw1 (by omega) 30 (by omega)
  have oA := fA.okl (by omega)
  have oB := fB.okl (by omega)
  have hAl := fA.le
  have hBl := fB.le
  refine Ev.rounds ?_
  unfold collatorlaw07_AlikeTurned.f
  refine Ev.bind awake_ev ?_
  refine Ev.bind hA ?_
  refine Ev.bind hB ?_
  have p1 : collatorlaw07_pick.f a2 (wrap64 ((A.length : Int) + 1)) = some (pk a2 (A.length + 1) : Int) := pick7 (wf_range hw2) (by rw [w64 (by omega) (by omega)]; omega) (by omega)
  have p2 : collatorlaw07_pick.f a3 (wrap64 ((B.length : Int) + 1)) = some (pk a3 (B.length + 1) : Int) := pick7 (wf_range hw3) (by rw [w64 (by omega) (by omega)]; omega) (by omega)
  have q1 := pk_lt a2 (n := A.length + 1) (by omega)
  have q2 := pk_lt a3 (n := B.length + 1) (by omega)
  generalize pk a2 (A.length + 1) = n at *
  generalize pk a3 (B.length + 1) = m at *
  simp only [p1, p2, Option.bind_some]
  have c1 : (0 : Int) ≤ (n : Int) := by omega
  have c2 : (n : Int) ≤ (A.length : Int) := by omega
  have c3 : ([] : List ByteArray).length + (A.drop (n : Int).toNat).length < 8796093022208 := by simp; omega
  have c4 : ([] ++ A.drop (n : Int).toNat : List ByteArray).length + (A.take (n : Int).toNat).length < 8796093022208 := by simp; omega
  simp only [if_pos c1, if_pos c2, if_pos c3, if_pos c4]
  have hC : A.Perm (([] ++ A.drop (n : Int).toNat) ++ A.take (n : Int).toNat) := by
    rw [List.nil_append]
    refine List.Perm.trans ?_ List.perm_append_comm
    rw [List.take_append_drop]
  rw [w64 (by omega) (by omega)]
  exact turned_loop oA oB hC m (by omega) B.length _ [] (by omega) (Nat.le_refl _) (by rw [List.drop_eq_nil_of_le (by simp [turned])]; rfl)
end Go.Proofs.Ythplelgkneipjaa.Pure
