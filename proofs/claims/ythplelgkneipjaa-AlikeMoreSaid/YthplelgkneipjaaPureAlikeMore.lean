/- AlikeMore: with a line more there is one more in both, or as many; as many as stay by order, at least: the plain law over the printed function. -/
import Derived.Test.YthplelgkneipjaaPxf14
import Derived.Test.YthplelgkneipjaaQAlike
import Derived.Test.YthplelgkneipjaaQMCost
set_option linter.unusedVariables false
set_option linter.unusedSimpArgs false
namespace Go.Proofs.Ythplelgkneipjaa.Pure
open Go Go.RowKit Go.Proofs.Ythplelgkneipjaa.P Go.Proofs.YthplelgkneipjaaW.PrintWords Go.Proofs.YthplelgkneipjaaW.PrintLast Go.Proofs.Ythplelgkneipjaa.Q

theorem comm_max (b : List ByteArray) : ∀ (a L : List ByteArray), (∀ x, L.count x ≤ a.count x) → (∀ x, L.count x ≤ b.count x) → L.length ≤ comm a b := by
  induction b with
  | nil =>
    intro a L _ h2
    cases L with
    | nil => simp
    | cons x L => have := h2 x; simp at this
  | cons y ys ih =>
    intro a L h1 h2
    rw [comm_cons]
    by_cases hy : y ∈ L
    · have ha : y ∈ a := List.count_pos_iff.1 (Nat.lt_of_lt_of_le (List.count_pos_iff.2 hy) (h1 y))
      rw [if_pos ha]
      have h3 := ih (a.erase y) (L.erase y) (fun x => by
        have := h1 x
        rw [List.count_erase, List.count_erase]
        omega) (fun x => by
        have := h2 x
        rw [List.count_cons] at this
        rw [List.count_erase]
        by_cases hx : y == x
        · rw [if_pos hx] at this ⊢; omega
        · rw [if_neg hx] at this ⊢; omega)
      rw [List.length_erase_of_mem hy] at h3
      have := List.length_pos_of_mem hy
      omega
    · have h2' : ∀ x, L.count x ≤ ys.count x := fun x => by
        have := h2 x
        rw [List.count_cons] at this
        by_cases hx : y == x
        · have he : y = x := by simpa using hx
          subst he
          rw [List.count_eq_zero_of_not_mem hy]
          omega
        · rw [if_neg hx] at this; omega
      split
      · have := ih (a.erase y) L (fun x => by
          have := h1 x
          rw [List.count_erase]
          by_cases hx : y == x
          · have he : y = x := by simpa using hx
            subst he
            rw [List.count_eq_zero_of_not_mem hy]
            omega
          · rw [if_neg hx]; omega) h2'
        omega
      · exact ih a L h1 h2'
theorem lcs_le_comm (a b : List ByteArray) : lcs a b ≤ comm a b := by
  obtain ⟨L, h1, h2, h3⟩ := ex_lcs a b
  rw [← h3]
  exact comm_max b a L (fun x => h1.count_le x) (fun x => h2.count_le x)
theorem mn_ge {c : Nat} {x y : Nat} (h1 : c ≤ x) (h2 : c ≤ y) : decide ((c : Int) ≤ mn (x : Int) (y : Int)) = true := decide_eq_true (by unfold mn; split <;> omega)
theorem ne1 (c : Nat) : ¬ ((c : Int) + 1 = (c : Int)) := by omega
theorem nlt {x y : Nat} (h : ¬ x < y) : ¬ ((y : Int) > (x : Int)) := by omega
theorem more_end {A B : List ByteArray} (hA : A.length ≤ 30) (hB : B.length ≤ 30) {a2 : ByteArray} {c q : Nat} (hle : q ≤ c) (hc : c ≤ B.length) (hcl : c ≤ A.length) {X Y : List ByteArray}
    (hXB : alike_Common.f X B = some ((c + if A.count a2 < B.count a2 then 1 else 0 : Nat) : Int)) (hXY : alike_Common.f X Y = some ((c + 1 : Nat) : Int)) (hst : myers_Common.f A B = some (q : Int)) :
    Ev (fun n => (alike_Common.f X B).bind fun t688 => (if true = true then (if t688 = (c : Int) then ((collatorlaw07_times.f n B a2).bind fun t689 => ((collatorlaw07_times.f n A a2).bind fun t690 => (if ((t688 == (wrap64 ((c : Int) + 1))) == (decide (t689 > t690))) = true then ((alike_Common.f X Y).bind fun t691 => (if t691 = (wrap64 ((c : Int) + 1)) then ((myers_Common.f A B).bind fun t692 => (if (c : Int) ≥ t692 then (some (decide ((c : Int) ≤ (mn (A.length : Int) (B.length : Int))))) else (some false))) else (some false))) else (some false)))) else (if t688 = (wrap64 ((c : Int) + 1)) then ((collatorlaw07_times.f n B a2).bind fun t693 => ((collatorlaw07_times.f n A a2).bind fun t694 => (if ((t688 == (wrap64 ((c : Int) + 1))) == (decide (t693 > t694))) = true then ((alike_Common.f X Y).bind fun t695 => (if t695 = (wrap64 ((c : Int) + 1)) then ((myers_Common.f A B).bind fun t696 => (if (c : Int) ≥ t696 then (some (decide ((c : Int) ≤ (mn (A.length : Int) (B.length : Int))))) else (some false))) else (some false))) else (some false)))) else (some false))) else (some false))) true := by
  have e0 : ((c + 1 : Nat) : Int) = (c : Int) + 1 := rfl
  have e1 : wrap64 ((c : Int) + 1) = (c : Int) + 1 := w64 (by omega) (by omega)
  have e2 : (c : Int) ≥ (q : Int) := Int.ofNat_le.2 hle
  rw [e0] at hXY
  simp only [e1, hXY, hXB, hst, Option.bind_some, if_true, if_pos e2, mn_ge hcl hc]
  by_cases hlt : A.count a2 < B.count a2
  · simp only [if_pos hlt, e0, if_neg (ne1 c), if_true]
    refine Ev.bind (times_ev B a2 (by omega)) ?_
    refine Ev.bind (times_ev A a2 (by omega)) ?_
    rw [if_pos]
    · exact Ev.now _
    · rw [beq_self_eq_true, decide_eq_true (show ((B.count a2 : Nat) : Int) > (A.count a2 : Nat) from Int.ofNat_lt.2 hlt)]
      rfl
  · simp only [if_neg hlt, Nat.add_zero, if_true]
    refine Ev.bind (times_ev B a2 (by omega)) ?_
    refine Ev.bind (times_ev A a2 (by omega)) ?_
    rw [if_pos]
    · exact Ev.now _
    · rw [decide_eq_false (nlt hlt), beq_eq_false_iff_ne.2 (fun h => ne1 c h.symm)]
      rfl
theorem AlikeMore : collatorlaw07_AlikeMore.Pure := by
  intro l0 l1 a2 hm0 hr0 hw0 hm1 hr1 hw1 hs2
  obtain ⟨A, hA, fA, lA⟩ := lines_ev l0 hw0 (by omega) 30 (by omega)
  obtain ⟨B, hB, fB, lB⟩ := lines_ev l1 hw1 (by omega) 30 (by omega)
  have oA := fA.okl (by omega)
  have oB := fB.okl (by omega)
  have hAl := fA.le
  have hBl := fB.le
  have oX : Okl (A ++ [a2]) := ⟨by simp; omega, fun s hs => by
    rcases List.mem_append.1 hs with hs | hs
    · exact oA.2 s hs
    · rw [List.mem_singleton.1 hs]; omega⟩
  have oY : Okl (a2 :: B) := ⟨by simp; omega, fun s hs => by
    rcases List.mem_cons.1 hs with hs | hs
    · rw [hs]; omega
    · exact oB.2 s hs⟩
  refine Ev.rounds ?_
  unfold collatorlaw07_AlikeMore.f
  refine Ev.bind awake_ev ?_
  refine Ev.bind hA ?_
  refine Ev.bind hB ?_
  have hl : (A ++ [a2]).length = A.length + 1 := by simp
  simp only [List.nil_append, List.length_nil, Option.bind_some, common_ok oA oB]
  simp only [if_pos (show 0 + A.length < 8796093022208 by omega), if_pos (show A.length < 8796093022208 by omega), List.length_singleton, if_pos (show 1 + B.length < 8796093022208 by omega), List.singleton_append]
  have hxy : comm (A ++ [a2]) (a2 :: B) = comm A B + 1 := by
    rw [comm_perm_left (a2 :: B) (List.perm_append_comm (l₁ := A) (l₂ := [a2])), List.singleton_append, comm_cons_both]
  have hXY := common_ok oX oY
  have hXB := common_ok oX oB
  rw [hxy] at hXY
  rw [comm_snoc A B a2] at hXB
  exact more_end hAl hBl (lcs_le_comm A B) (comm_le B A) (comm_le_left A B) hXB hXY (stay_ok (by omega) (by omega))
end Go.Proofs.Ythplelgkneipjaa.Pure
