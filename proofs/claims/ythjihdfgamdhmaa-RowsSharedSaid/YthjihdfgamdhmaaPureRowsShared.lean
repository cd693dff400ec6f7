/- RowsShared: what rows.Shared counts is the same on both sides, never counted twice, and does not hang on which one is first: the plain law over the printed function. -/
import Derived.Test.YthjihdfgamdhmaaPxf4
import Derived.Test.YthjihdfgamdhmaaQShared
set_option linter.unusedVariables false
set_option linter.unusedSimpArgs false
namespace Go.Proofs.Ythjihdfgamdhmaa.Pure
open Go Go.RowKit Go.Proofs.Ythjihdfgamdhmaa.P Go.Proofs.YthjihdfgamdhmaaW.PrintWords Go.Proofs.YthjihdfgamdhmaaW.PrintLast Go.Proofs.YthjihdfgamdhmaaW.PrintMore Go.Proofs.Ythjihdfgamdhmaa.Q
theorem shared_end (A : List ByteArray) (hA : A.length ≤ 20) : Ev (fun k => (rows_Shared.f k A A).bind fun bt => (if true = true then (if bt.1 = (A.length : Int) then (some (bt.2 == 0)) else (some false)) else (some false))) true := by
  refine Ev.bind (shared_self A (by omega)) ?_
  simp only [if_true]
  exact Ev.now _
theorem shared_l1_loop (A B : List ByteArray) (hA : A.length ≤ 20) (hB : B.length ≤ 20) (n m : Nat) (a : Ahead A B n) (b : Behind A B n m) (d : Nat) : ∀ (i : Nat), i + d = m →
    Ev (fun k => collatorlaw03_RowsShared.l1 k true A B (n : Int) (m : Int) (i : Int)) true := by
  have ha := a.le
  have hb := b.le
  induction d with
  | zero =>
    intro i hi
    have esum : wrap64 ((n : Int) + (m : Int)) = ((n + m : Nat) : Int) := by rw [w64 (by omega) (by omega)]; omega
    refine Ev.step (fun k => ?_) (shared_end A hA)
    simp only [collatorlaw03_RowsShared.l1]
    rw [if_neg (by omega), mn_nat, esum]
    have tail : ∀ (k : Nat), (if ((n + m : Nat) : Int) < ((min A.length B.length : Nat) : Int) then (if 0 ≤ (wrap64 ((wrap64 ((A.length : Int) - 1)) - (m : Int))) then (if (wrap64 ((wrap64 ((A.length : Int) - 1)) - (m : Int))) < (A.length : Int) then (if 0 ≤ (wrap64 ((wrap64 ((B.length : Int) - 1)) - (m : Int))) then (if (wrap64 ((wrap64 ((B.length : Int) - 1)) - (m : Int))) < (B.length : Int) then (if (rdOf ByteArray.empty A (wrap64 ((wrap64 ((A.length : Int) - 1)) - (m : Int)))).toList = (rdOf ByteArray.empty B (wrap64 ((wrap64 ((B.length : Int) - 1)) - (m : Int)))).toList then (some false) else ((rows_Shared.f k A A).bind fun bt => (if true = true then (if bt.1 = (A.length : Int) then (some (bt.2 == 0)) else (some false)) else (some false)))) else (none)) else (none)) else (none)) else (none)) else ((rows_Shared.f k A A).bind fun bt => (if true = true then (if bt.1 = (A.length : Int) then (some (bt.2 == 0)) else (some false)) else (some false)))) = ((rows_Shared.f k A A).bind fun bt => (if true = true then (if bt.1 = (A.length : Int) then (some (bt.2 == 0)) else (some false)) else (some false))) := by
      intro k
      by_cases h : n + m < min A.length B.length
      · have la : A.length - 1 - m < A.length := by omega
        have lb : B.length - 1 - m < B.length := by omega
        have ea : wrap64 (wrap64 ((A.length : Int) - 1) - (m : Int)) = ((A.length - 1 - m : Nat) : Int) := by rw [w64 (x := (A.length : Int) - 1) (by omega) (by omega), w64 (by omega) (by omega)]; omega
        have eb : wrap64 (wrap64 ((B.length : Int) - 1) - (m : Int)) = ((B.length - 1 - m : Nat) : Int) := by rw [w64 (x := (B.length : Int) - 1) (by omega) (by omega), w64 (by omega) (by omega)]; omega
        have hne := b.stop h
        rw [List.getElem?_eq_getElem la, List.getElem?_eq_getElem lb] at hne
        rw [if_pos (by omega), ea, eb, if_pos (by omega), if_pos (by omega), if_pos (by omega), if_pos (by omega), rdOf_at _ _ la, rdOf_at _ _ lb, if_neg (fun e => hne (by rw [bytes_iff.1 e]))]
      · rw [if_neg (by omega)]
    by_cases h : n < min A.length B.length
    · have la : n < A.length := by omega
      have lb : n < B.length := by omega
      have hne := a.stop h
      rw [List.getElem?_eq_getElem la, List.getElem?_eq_getElem lb] at hne
      rw [if_pos (by omega), if_pos (by omega), if_pos (by omega), if_pos (by omega), rdOf_at _ _ la, rdOf_at _ _ lb, if_neg (fun e => hne (by rw [bytes_iff.1 e]))]
      exact tail k
    · rw [if_neg (by omega)]
      exact tail k
  | succ d ih =>
    intro i hi
    have la : A.length - 1 - i < A.length := by omega
    have lb : B.length - 1 - i < B.length := by omega
    have ea : wrap64 (wrap64 ((A.length : Int) - 1) - (i : Int)) = ((A.length - 1 - i : Nat) : Int) := by rw [w64 (x := (A.length : Int) - 1) (by omega) (by omega), w64 (by omega) (by omega)]; omega
    have eb : wrap64 (wrap64 ((B.length : Int) - 1) - (i : Int)) = ((B.length - 1 - i : Nat) : Int) := by rw [w64 (x := (B.length : Int) - 1) (by omega) (by omega), w64 (by omega) (by omega)]; omega
    have he := b.same i (by omega)
    rw [List.getElem?_eq_getElem la, List.getElem?_eq_getElem lb] at he
    refine Ev.step (fun k => ?_) (ih (i + 1) (by omega))
    simp only [collatorlaw03_RowsShared.l1]
    rw [if_pos (by omega), ea, eb, if_pos (by omega), if_pos (by omega), if_pos (by omega), if_pos (by omega), rdOf_at _ _ la, rdOf_at _ _ lb, if_pos (by rw [Option.some.inj he]), w64 (by omega) (by omega)]
    rfl
theorem shared_l0_loop (A B : List ByteArray) (hA : A.length ≤ 20) (hB : B.length ≤ 20) (n m : Nat) (a : Ahead A B n) (b : Behind A B n m) (d : Nat) : ∀ (i : Nat), i + d = n →
    Ev (fun k => collatorlaw03_RowsShared.l0 k true A B (n : Int) (m : Int) (i : Int)) true := by
  have ha := a.le
  induction d with
  | zero =>
    intro i hi
    refine Ev.step (fun k => ?_) (shared_l1_loop A B hA hB n m a b m 0 (by omega))
    simp only [collatorlaw03_RowsShared.l0]
    rw [if_neg (by omega)]
    rfl
  | succ d ih =>
    intro i hi
    have la : i < A.length := by omega
    have lb : i < B.length := by omega
    have he := a.same i (by omega)
    rw [List.getElem?_eq_getElem la, List.getElem?_eq_getElem lb] at he
    refine Ev.step (fun k => ?_) (ih (i + 1) (by omega))
    simp only [collatorlaw03_RowsShared.l0]
    rw [if_pos (by omega), if_pos (by omega), if_pos (by omega), if_pos (by omega), rdOf_at _ _ la, rdOf_at _ _ lb, if_pos (by rw [Option.some.inj he]), w64 (by omega) (by omega)]
    rfl
theorem shared_j0 (A B : List ByteArray) (hA : A.length ≤ 20) (hB : B.length ≤ 20) (n m : Nat) (a : Ahead A B n) (b : Behind A B n m) : Ev (fun k => collatorlaw03_RowsShared.j0 k true A B (n : Int) (m : Int) ((m : Int) != (m : Int))) true := by
  refine Ev.step (fun k => ?_) (shared_l0_loop A B hA hB n m a b n 0 (by omega))
  simp only [collatorlaw03_RowsShared.j0, bne_self_eq_false, Bool.false_eq_true, if_false]
  rfl
theorem not_neg (n : Nat) : ¬ ((n : Int) < 0) := by omega
theorem not_more (n m p : Nat) (q : Nat) (h : n + m ≤ min p q) (hp : p ≤ 20) : ¬ (wrap64 ((n : Int) + (m : Int)) > mn (p : Int) (q : Int)) := by
  have esum : wrap64 ((n : Int) + (m : Int)) = ((n + m : Nat) : Int) := by rw [w64 (by omega) (by omega)]; omega
  rw [esum, mn_nat]
  omega
theorem RowsShared : collatorlaw03_RowsShared.Pure := by
  intro l0 l1 hm0 hr0 hw0 hm1 hr1 hw1
  obtain ⟨A, hA, fA, lA⟩ := lines_ev l0 hw0 hm0 20 (by decide)
  obtain ⟨B, hB, fB, lB⟩ := lines_ev l1 hw1 hm1 20 (by decide)
  have a20 := fA.le
  have b20 := fB.le
  obtain ⟨n, m, a, b, hE⟩ := shared_ev A B (Nat.le_trans a20 (by decide)) (Nat.le_trans b20 (by decide))
  obtain ⟨n', m', a', b', hE'⟩ := shared_ev B A (Nat.le_trans b20 (by decide)) (Nat.le_trans a20 (by decide))
  obtain rfl := a.unique a'.symm
  obtain rfl := b.unique b'.symm
  have hj := shared_j0 A B a20 b20 n m a b
  have h3 := not_more n m A.length B.length b.le a20
  clear hm0 hr0 hm1 hr1 hw0 hw1 lA lB
  refine Ev.rounds ?_
  exact evval awake3_ok (Ev.bind hA (Ev.bind hB (Ev.bind hE (Ev.bind hE' (evneg (not_neg n) (evneg (not_neg m) (evneg h3 (evpos rfl hj))))))))
end Go.Proofs.Ythjihdfgamdhmaa.Pure
