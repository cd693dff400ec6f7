/- AlikeTells: how many lines are in both, how alike both are, and which is most alike, is as the document says: the plain law over the printed function. -/
import Derived.Test.YthplelgkneipjaaPxf3
import Derived.Test.YthplelgkneipjaaQAlike
set_option linter.unusedVariables false
set_option linter.unusedSimpArgs false
namespace Go.Proofs.Ythplelgkneipjaa.Pure
open Go Go.RowKit Go.Proofs.Ythplelgkneipjaa.P Go.Proofs.YthplelgkneipjaaW.PrintWords Go.Proofs.YthplelgkneipjaaW.PrintLast Go.Proofs.YthplelgkneipjaaW.PrintMore Go.Proofs.Ythplelgkneipjaa.Q
theorem rd_at (l : List ByteArray) (i : Nat) (h : i < l.length) : rdOf ByteArray.empty l (i : Int) = l[i] := by
  simp [rdOf, List.getD_eq_getElem?_getD, List.getElem?_eq_getElem h]
theorem rdL_at (l : List (List ByteArray)) (i : Nat) (h : i < l.length) : rd_L1 l (i : Int) = l[i] := by
  simp [rd_L1, List.getD_eq_getElem?_getD, List.getElem?_eq_getElem h]
theorem wj {i : Nat} (h : i ≤ 1000000000) : wrap64 ((i : Int) + 1) = ((i + 1 : Nat) : Int) := by rw [w64 (by omega) (by omega)]; omega
theorem count_loop (l : List ByteArray) (s : ByteArray) (hl : l.length ≤ 1000000) (d : Nat) : ∀ (i : Nat), i + d = l.length → Ev (fun k => collatorref07_count.l0 k l s (((l.take i).count s : Nat) : Int) (i : Int)) ((l.count s : Nat) : Int) := by
  induction d with
  | zero =>
    intro i hi
    rw [List.take_of_length_le (by omega)]
    refine Ev.step (f := fun _ => some ((l.count s : Nat) : Int)) (fun k => ?_) (Ev.now _)
    simp only [collatorref07_count.l0]; rw [if_neg (by omega)]
  | succ d ih =>
    intro i hi
    have hlt : i < l.length := by omega
    have hle : (l.take i).count s ≤ i := Nat.le_trans List.count_le_length (by rw [List.length_take]; omega)
    have hn := ih (i + 1) (by omega)
    rw [List.take_succ_eq_append_getElem hlt, List.count_append] at hn
    by_cases c : l[i] = s
    · have e : [l[i]].count s = 1 := by rw [c]; simp
      rw [e] at hn
      refine Ev.step (fun k => ?_) hn
      simp only [collatorref07_count.l0]
      rw [if_pos (by omega), if_pos (by omega), rd_at l i hlt, if_pos (by rw [c]), wj (by omega), wj (by omega)]
    · have e : [l[i]].count s = 0 := by simp [c]
      rw [e, Nat.add_zero] at hn
      refine Ev.step (fun k => ?_) hn
      simp only [collatorref07_count.l0]
      rw [if_pos (by omega), if_pos (by omega), rd_at l i hlt, if_neg (fun h => c (toList_iff.1 h)), wj (by omega)]
theorem count_ev (l : List ByteArray) (s : ByteArray) (hl : l.length ≤ 1000000) : Ev (fun k => collatorref07_count.f k l s) ((l.count s : Nat) : Int) := count_loop l s hl l.length 0 (by omega)
theorem comm_snoc (a b : List ByteArray) (y : ByteArray) : comm (a ++ [y]) b = comm a b + if a.count y < b.count y then 1 else 0 := by
  rw [comm_perm_left b (List.perm_append_singleton y a), comm_cons_left]
theorem rcommon_loop (a b : List ByteArray) (ha : a.length ≤ 1000000) (hb : b.length ≤ 1000000) (d : Nat) : ∀ (i : Nat), i + d = a.length → Ev (fun k => collatorref07_Common.l0 k a b ((comm (a.take i) b : Nat) : Int) (i : Int)) ((comm a b : Nat) : Int) := by
  induction d with
  | zero =>
    intro i hi
    rw [List.take_of_length_le (by omega)]
    refine Ev.step (f := fun _ => some ((comm a b : Nat) : Int)) (fun k => ?_) (Ev.now _)
    simp only [collatorref07_Common.l0]; rw [if_neg (by omega)]
  | succ d ih =>
    intro i hi
    have hlt : i < a.length := by omega
    have hle := comm_le b (a.take i)
    have hn := ih (i + 1) (by omega)
    rw [List.take_succ_eq_append_getElem hlt, comm_snoc] at hn
    have c1 := count_ev (a.take i) a[i] (by rw [List.length_take]; omega)
    have c2 := count_ev b a[i] hb
    refine Ev.step (f := fun k => (collatorref07_count.f k (a.take i) a[i]).bind fun t139 => (collatorref07_count.f k b a[i]).bind fun t141 => if t139 < t141 then collatorref07_Common.l0 k a b ((comm (a.take i) b + 1 : Nat) : Int) ((i + 1 : Nat) : Int) else collatorref07_Common.l0 k a b ((comm (a.take i) b : Nat) : Int) ((i + 1 : Nat) : Int)) (fun k => ?_) (Ev.bind c1 (Ev.bind c2 ?_))
    · simp only [collatorref07_Common.l0]
      rw [if_pos (by omega), if_pos (by omega), if_pos (by omega), rd_at a i hlt, wj (by omega), wj (by omega), Int.toNat_natCast]
    · by_cases c : (a.take i).count a[i] < b.count a[i]
      · rw [if_pos c] at hn
        exact evpos (by omega) hn
      · rw [if_neg c, Nat.add_zero] at hn
        exact evneg (by omega) hn
theorem rcommon_ev (a b : List ByteArray) (ha : a.length ≤ 1000000) (hb : b.length ≤ 1000000) : Ev (fun k => collatorref07_Common.f k a b) ((comm a b : Nat) : Int) := by
  have h := rcommon_loop a b ha hb a.length 0 (by omega)
  rw [List.take_zero, comm_nil_left] at h
  exact h
theorem rscore_ev (a b : List ByteArray) (ha : a.length ≤ 1000000) (hb : b.length ≤ 1000000) : Ev (fun k => collatorref07_Score.f k a b) (score a b) := by
  have h3 := comm_le b a
  have hr := score_range a b
  have hc := rcommon_ev a b ha hb
  have fin : ¬ a.length + b.length = 0 → Ev (fun k => (collatorref07_Common.f k a b).bind fun t142 => (if (wrap64 ((a.length : Int) + (b.length : Int))) = 0 then (none) else (some (wrap64 (Int.tdiv (wrap64 (200 * t142)) (wrap64 ((a.length : Int) + (b.length : Int)))))))) (score a b) := by
    intro h
    refine Ev.bind hc ?_
    unfold score at hr ⊢
    rw [if_neg h] at hr ⊢
    have h5 : (a.length : Int) + (b.length : Int) = ((a.length + b.length : Nat) : Int) := by omega
    have e1 : wrap64 ((a.length : Int) + (b.length : Int)) = ((a.length + b.length : Nat) : Int) := by rw [w64 (by omega) (by omega), h5]
    refine evneg (by rw [e1]; omega) ?_
    rw [e1, w64 (x := 200 * (comm a b : Int)) (by omega) (by omega), Int.tdiv_eq_ediv_of_nonneg (by omega), w64 (by omega) (by omega)]
    exact Ev.now _
  unfold collatorref07_Score.f
  by_cases c1 : (a.length : Int) = 0
  · refine evpos c1 ?_
    by_cases c2 : (b.length : Int) = 0
    · have e : score a b = 100 := by unfold score; rw [if_pos (by omega)]
      rw [e]
      exact evpos c2 (Ev.now _)
    · exact evneg c2 (fin (by omega))
  · exact evneg c1 (fin (by omega))
theorem rbest_loop (a : List ByteArray) (ha : a.length ≤ 1000000) (l : List (List ByteArray)) (hl : l.length ≤ 1000000) (ho : ∀ b ∈ l, b.length ≤ 1000000) (d : Nat) : ∀ (i at_ : Nat) (h : at_ < l.length), i + d = l.length →
    Ev (fun k => collatorref07_Best.l0 k a l (at_ : Int) (i : Int)) (bestGo a (l.drop i) i ((at_ : Int), score a l[at_])) := by
  induction d with
  | zero =>
    intro i at_ h hi
    rw [List.drop_eq_nil_of_le (by omega)]
    refine Ev.step (f := fun k => (collatorref07_Score.f k a l[at_]).bind fun t145 => some ((at_ : Int), t145)) (fun k => ?_) (Ev.bind (rscore_ev a _ ha (ho _ (List.getElem_mem h))) (Ev.now _))
    simp only [collatorref07_Best.l0]
    rw [if_neg (by omega), if_pos (by omega), if_pos (by omega), rdL_at l at_ h]
  | succ d ih =>
    intro i at_ h hi
    have hlt : i < l.length := by omega
    rw [List.drop_eq_getElem_cons hlt]
    simp only [bestGo]
    refine Ev.step (f := fun k => (collatorref07_Score.f k a l[i]).bind fun t147 => if 0 ≤ (at_ : Int) then if (at_ : Int) < (l.length : Int) then (collatorref07_Score.f k a l[at_]).bind fun t149 => if t147 > t149 then collatorref07_Best.l0 k a l (i : Int) ((i + 1 : Nat) : Int) else collatorref07_Best.l0 k a l (at_ : Int) ((i + 1 : Nat) : Int) else none else none) (fun k => ?_) (Ev.bind (rscore_ev a _ ha (ho _ (List.getElem_mem hlt))) (evpos (by omega) (evpos (by omega) (Ev.bind (rscore_ev a _ ha (ho _ (List.getElem_mem h))) ?_))))
    · simp only [collatorref07_Best.l0]
      rw [if_pos (by omega), if_pos (by omega), rdL_at l i hlt, rdL_at l at_ h, wj (by omega)]
    · by_cases c : score a l[i] > score a l[at_]
      · rw [if_pos (.inr c)]
        exact evpos c (ih (i + 1) i hlt (by omega))
      · rw [if_neg (by rintro (h0 | h0); omega; exact c h0)]
        exact evneg c (ih (i + 1) at_ h (by omega))
theorem rbest_ev (a : List ByteArray) (ha : a.length ≤ 1000000) (l : List (List ByteArray)) (hl : l.length ≤ 1000000) (ho : ∀ b ∈ l, b.length ≤ 1000000) : Ev (fun k => collatorref07_Best.f k a l) (bestGo a l 0 (-1, 0)) := by
  unfold collatorref07_Best.f
  cases l with
  | nil => exact evpos rfl (Ev.now _)
  | cons b l =>
    refine evneg (by rw [List.length_cons]; omega) ?_
    have h := rbest_loop a ha (b :: l) hl ho l.length 1 0 (by simp) (by simp; omega)
    have e : bestGo a (b :: l) 0 (-1, 0) = bestGo a ((b :: l).drop 1) 1 ((0 : Nat), score a ((b :: l)[0]'(by simp))) := by
      simp only [bestGo]
      rw [if_pos (.inl trivial)]
      rfl
    rw [e]
    exact h
section
variable {x : List (List ByteArray)} (hx : x.length ≤ 100) (ho : ∀ b ∈ x, Okl b)
include hx ho
theorem tells_in (i : Nat) (hi : i < x.length) (hn : Ev (fun k => collatorlaw07_AlikeTells.l0 k true x ((i + 1 : Nat) : Int)) true) (d : Nat) : ∀ j : Nat, j + d = x.length → Ev (fun k => collatorlaw07_AlikeTells.l1 k true x (i : Int) (j : Int)) true := by
  have oi := ho _ (List.getElem_mem hi)
  induction d with
  | zero =>
    intro j hj
    have ht : ∀ b ∈ x.take i, Okl b := fun b hb => ho b (List.mem_of_mem_take hb)
    have b1 := best_ev x[i] oi (x.take i) (by rw [List.length_take]; omega) ht
    have b2 := rbest_ev x[i] oi.1 (x.take i) (by rw [List.length_take]; omega) (fun b hb => (ht b hb).1)
    refine Ev.step (f := fun k => (alike_Best.f k x[i] (x.take i)).bind fun bt191 => (collatorref07_Best.f k x[i] (x.take i)).bind fun bt199 => if bt191.1 = bt199.1 then (if bt191.2 = bt199.2 then collatorlaw07_AlikeTells.l0 k true x ((i + 1 : Nat) : Int) else some false) else some false) (fun k => ?_) (Ev.bind b1 (Ev.bind b2 (evpos rfl (evpos rfl hn))))
    simp only [collatorlaw07_AlikeTells.l1]
    rw [if_neg (by omega), if_pos (by omega), if_pos (by omega), if_pos (by omega), rdL_at x i hi, wj (by omega), Int.toNat_natCast]
  | succ d ih =>
    intro j hj
    have hlt : j < x.length := by omega
    have oj := ho _ (List.getElem_mem hlt)
    refine Ev.step (f := fun k => (alike_Common.f x[i] x[j]).bind fun t175 => (collatorref07_Common.f k x[i] x[j]).bind fun t178 => if t175 = t178 then (alike_Score.f x[i] x[j]).bind fun t181 => (collatorref07_Score.f k x[i] x[j]).bind fun t184 => if t181 = t184 then collatorlaw07_AlikeTells.l1 k true x (i : Int) ((j + 1 : Nat) : Int) else some false else some false) (fun k => ?_) (evval (common_ok oi oj) (Ev.bind (rcommon_ev _ _ oi.1 oj.1) (evpos rfl (evval (score_ok oi oj) (Ev.bind (rscore_ev _ _ oi.1 oj.1) (evpos rfl (ih (j + 1) (by omega))))))))
    simp only [collatorlaw07_AlikeTells.l1]
    rw [if_pos (by omega), if_pos (by omega), if_pos (by omega), if_pos (by omega), rdL_at x i hi, rdL_at x j hlt, wj (by omega)]
theorem tells_out (d : Nat) : ∀ i : Nat, i + d = x.length → Ev (fun k => collatorlaw07_AlikeTells.l0 k true x (i : Int)) true := by
  induction d with
  | zero =>
    intro i hi
    refine Ev.step (f := fun _ => some true) (fun k => ?_) (Ev.now _)
    simp only [collatorlaw07_AlikeTells.l0]; rw [if_neg (by omega)]
  | succ d ih =>
    intro i hi
    refine Ev.step (fun k => ?_) (tells_in hx ho i (by omega) (ih (i + 1) (by omega)) x.length 0 (by omega))
    simp only [collatorlaw07_AlikeTells.l0]; rw [if_pos (by omega)]; rfl
end
theorem mn_taken (l : List ByteArray) (hl : l.length ≤ maxLen) (hs : ∀ s ∈ l, s.size ≤ maxLen) : 0 ≤ mn (l.length : Int) 20 ∧ mn (l.length : Int) 20 ≤ (l.length : Int) ∧ Okl (l.take (mn (l.length : Int) 20).toNat) := by
  have e : mn (l.length : Int) 20 = ((min l.length 20 : Nat) : Int) := by unfold mn; split <;> omega
  have hm : maxLen = 9223372036854775807 := rfl
  rw [e, Int.toNat_natCast]
  exact ⟨by omega, by omega, by rw [List.length_take]; omega, fun s h => by have := hs s (List.mem_of_mem_take h); omega⟩
theorem AlikeTells : collatorlaw07_AlikeTells.Pure := by
  intro l0 l1 l2 l3 l4 hm0 hr0 hw0 hm1 hr1 hw1 hm2 hr2 hw2 hm3 hr3 hw3 hm4 hr4 hw4
  obtain ⟨A, hA, fA, lA⟩ := lines_ev l2 hw2 (by omega) 30 (by omega)
  obtain ⟨B, hB, fB, lB⟩ := lines_ev l3 hw3 (by omega) 30 (by omega)
  obtain ⟨C, hC, fC, lC⟩ := lines_ev l4 hw4 (by omega) 30 (by omega)
  obtain ⟨a1, a2, a3⟩ := mn_taken l0 hm0 hw0
  obtain ⟨b1, b2, b3⟩ := mn_taken l1 hm1 hw1
  refine Ev.rounds ?_
  unfold collatorlaw07_AlikeTells.f
  refine Ev.bind awake_ev (evpos a1 (evpos a2 (evpos b1 (evpos b2 (Ev.bind hA (Ev.bind hB (Ev.bind hC ?_)))))))
  refine tells_out (by simp) (fun b hb => ?_) 5 0 rfl
  simp only [List.mem_cons, List.not_mem_nil, or_false] at hb
  rcases hb with rfl | rfl | rfl | rfl | rfl
  · exact a3
  · exact b3
  · exact fA.okl (by omega)
  · exact fB.okl (by omega)
  · exact fC.okl (by omega)
end Go.Proofs.Ythplelgkneipjaa.Pure
