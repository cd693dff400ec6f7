/- AlikeBest: what Best tells is as great as any Score, and the first one that is: the plain law over the printed function. -/
import Derived.Test.YthplelgkneipjaaPxf6
import Derived.Test.YthplelgkneipjaaQAlike
set_option linter.unusedVariables false
set_option linter.unusedSimpArgs false
namespace Go.Proofs.Ythplelgkneipjaa.Pure
open Go Go.RowKit Go.Proofs.Ythplelgkneipjaa.P Go.Proofs.YthplelgkneipjaaW.PrintWords Go.Proofs.YthplelgkneipjaaW.PrintLast Go.Proofs.YthplelgkneipjaaW.PrintMore Go.Proofs.Ythplelgkneipjaa.Q
theorem best_snoc (a b : List ByteArray) : ∀ (l : List (List ByteArray)) (i : Nat) (r : Int × Int), bestGo a (l ++ [b]) i r = if (bestGo a l i r).1 = -1 ∨ score a b > (bestGo a l i r).2 then (((i + l.length : Nat) : Int), score a b) else bestGo a l i r := by
  intro l
  induction l with
  | nil => intro i r; rfl
  | cons c l ih =>
    intro i r
    obtain ⟨at_, s⟩ := r
    have h := ih (i + 1) (if at_ = -1 ∨ score a c > s then ((i : Int), score a c) else (at_, s))
    have e : i + (c :: l).length = i + 1 + l.length := by rw [List.length_cons]; omega
    rw [e]
    exact h
def Bst (a : List ByteArray) (l : List (List ByteArray)) (r : Int × Int) : Prop :=
  (l = [] ∧ r = (-1, 0)) ∨ ∃ n x, l[n]? = some x ∧ r = (((n : Nat) : Int), score a x) ∧ (∀ y ∈ l, score a y ≤ score a x) ∧ (∀ y ∈ l.take n, score a y < score a x)
theorem bst_snoc {a b : List ByteArray} {l : List (List ByteArray)} {r : Int × Int} (h : Bst a l r) : Bst a (l ++ [b]) (if r.1 = -1 ∨ score a b > r.2 then (((0 + l.length : Nat) : Int), score a b) else r) := by
  rcases h with ⟨rfl, rfl⟩ | ⟨n, x, hx, rfl, h1, h2⟩
  · rw [if_pos (.inl rfl)]
    exact .inr ⟨0, b, rfl, rfl, fun y hy => by rw [List.mem_singleton.1 hy]; exact Int.le_refl _, fun y hy => by cases hy⟩
  · have hn : n < l.length := (List.getElem?_eq_some_iff.1 hx).1
    by_cases c : score a b > score a x
    · rw [if_pos (.inr c), Nat.zero_add]
      refine .inr ⟨l.length, b, by rw [List.getElem?_append_right (Nat.le_refl _), Nat.sub_self]; rfl, rfl, fun y hy => ?_, fun y hy => ?_⟩
      · rcases List.mem_append.1 hy with hy | hy
        · have := h1 y hy; omega
        · rw [List.mem_singleton.1 hy]; exact Int.le_refl _
      · rw [List.take_left] at hy
        have := h1 y hy; omega
    · have h0 : ¬ ((n : Int) = -1 ∨ score a b > score a x) := by rintro (h | h); omega; exact c h
      rw [if_neg h0]
      refine .inr ⟨n, x, by rw [List.getElem?_append_left hn]; exact hx, rfl, fun y hy => ?_, fun y hy => ?_⟩
      · rcases List.mem_append.1 hy with hy | hy
        · exact h1 y hy
        · rw [List.mem_singleton.1 hy]; omega
      · rw [List.take_append_of_le_length (by omega)] at hy
        exact h2 y hy
theorem bst_take (a : List ByteArray) (l : List (List ByteArray)) : ∀ i, i ≤ l.length → Bst a (l.take i) (bestGo a (l.take i) 0 (-1, 0)) := by
  intro i
  induction i with
  | zero => intro _; exact .inl ⟨rfl, rfl⟩
  | succ i ih =>
    intro hi
    have e : l.take (i + 1) = l.take i ++ [l[i]'(by omega)] := by rw [List.take_add_one, List.getElem?_eq_getElem (by omega)]; rfl
    rw [e, best_snoc]
    exact bst_snoc (ih (by omega))
theorem bst_all (a : List ByteArray) (l : List (List ByteArray)) : Bst a l (bestGo a l 0 (-1, 0)) := by
  have h := bst_take a l l.length (Nat.le_refl _)
  rw [List.take_length] at h
  exact h
theorem rdL_some {l : List (List ByteArray)} {n : Nat} {x : List ByteArray} (h : l[n]? = some x) : rd_L1 l (n : Int) = x := by
  unfold rd_L1
  rw [Int.toNat_natCast, List.getD_eq_getElem?_getD, h]; rfl
section
variable {a : List ByteArray} (ha : Okl a) {l : List (List ByteArray)} (hl : l.length ≤ 6) (ho : ∀ b ∈ l, Okl b)
include ha hl ho
theorem best_l1 {n : Nat} {x : List ByteArray} (hx : l[n]? = some x) (hr : bestGo a l 0 (-1, 0) = ((n : Int), score a x)) (h1 : ∀ y ∈ l, score a y ≤ score a x) (h2 : ∀ y ∈ l.take n, score a y < score a x) (d : Nat) : ∀ i : Nat, i + d = l.length →
    Ev (fun k => collatorlaw07_AlikeBest.l1 k true a l (n : Int) (score a x) (i : Int)) true := by
  have hn : n < l.length := (List.getElem?_eq_some_iff.1 hx).1
  have hox : Okl x := ho x (List.mem_of_getElem? hx)
  induction d with
  | zero =>
    intro i hi
    have e := fun k => collatorlaw07_AlikeBest.l1.eq_2 true a l (n : Int) (score a x) (i : Int) k
    rw [rdL_some hx] at e
    refine Ev.step e ?_
    have hb := best_ev a ha (l ++ [x]) (by rw [List.length_append, List.length_singleton]; omega) (fun b hb => by
      rcases List.mem_append.1 hb with hb | hb
      · exact ho b hb
      · rw [List.mem_singleton.1 hb]; exact hox)
    have h0 : ¬ ((n : Int) = -1 ∨ score a x > score a x) := by rintro (h | h) <;> omega
    rw [best_snoc, hr, if_neg h0] at hb
    exact evneg (by omega) (evpos (by show 0 + l.length < _; omega) (evval rfl (evpos (by omega) (evpos (by omega) (evval rfl (evpos (by show l.length + 1 < _; omega) (Ev.bind hb (evpos rfl (evpos rfl (by rw [beq_self_eq_true]; exact Ev.now _))))))))))
  | succ d ih =>
    intro i hi
    have hlt : i < l.length := by omega
    have hg : l[i]? = some l[i] := List.getElem?_eq_getElem hlt
    have hs := score_ok ha (ho _ (List.getElem_mem hlt))
    have e := fun k => collatorlaw07_AlikeBest.l1.eq_2 true a l (n : Int) (score a x) (i : Int) k
    rw [rdL_some hg, w64 (x := (i : Int) + 1) (by omega) (by omega)] at e
    refine Ev.step e ?_
    have hm := h1 _ (List.getElem_mem hlt)
    have hnx : Ev (fun k => collatorlaw07_AlikeBest.l1 k true a l (n : Int) (score a x) ((i : Int) + 1)) true := ih (i + 1) (by omega)
    refine evpos (by omega) (evpos (by omega) (evval hs (evneg (by omega) ?_)))
    by_cases c : score a l[i] = score a x
    · refine evpos c (evneg (fun hlt2 => ?_) hnx)
      have hmem : l[i] ∈ l.take n := List.mem_of_getElem? (i := i) (by rw [List.getElem?_take, if_pos (by omega)]; exact hg)
      have := h2 _ hmem
      omega
    · exact evneg c hnx
theorem best_j1 : Ev (fun k => collatorlaw07_AlikeBest.j1 k true a l) true := by
  have e := fun k => collatorlaw07_AlikeBest.j1.eq_2 true a l k
  refine Ev.step e (Ev.bind (best_ev a ha l (by omega) ho) ?_)
  rcases bst_all a l with ⟨h0, hr⟩ | ⟨n, x, hx, hr, h1, h2⟩
  · rw [hr]
    exact evpos (by rw [h0]; rfl) (evpos rfl (evpos rfl (Ev.now _)))
  · have hn : n < l.length := (List.getElem?_eq_some_iff.1 hx).1
    have hs := score_ok ha (ho x (List.mem_of_getElem? hx))
    have hl1 := best_l1 ha hl ho hx hr h1 h2 l.length 0 (by omega)
    rw [hr]
    have hj : Ev (fun k => collatorlaw07_AlikeBest.j2 k true a l (n : Int) (score a x) (score a x != score a x)) true := by
      refine Ev.step (fun k => collatorlaw07_AlikeBest.j2.eq_2 true a l (n : Int) (score a x) _ k) ?_
      exact evneg (by simp) hl1
    refine evneg (by omega) (evneg (by show ¬ (n : Int) < 0; omega) (evneg (by show ¬ (n : Int) ≥ _; omega) (evpos (by show 0 ≤ (n : Int); omega) (evpos (by show (n : Int) < _; omega) ?_))))
    show Ev (fun k => (alike_Score.f a (rd_L1 l (n : Int))).bind fun t270 => collatorlaw07_AlikeBest.j2 k true a l (n : Int) (score a x) (score a x != t270)) true
    rw [rdL_some hx]
    exact evval hs hj
end
theorem rd3_some {l : List (List Int)} {n : Nat} {x : List Int} (h : l[n]? = some x) : rd_L3 l (n : Int) = x := by
  unfold rd_L3
  rw [Int.toNat_natCast, List.getD_eq_getElem?_getD, h]; rfl
theorem best_l0 (raw : List (List Int)) (hraw : ∀ r ∈ raw, r.length ≤ maxLen ∧ ∀ y ∈ r, (Lit.int .i64 y).wf = true) {a : List ByteArray} (ha : Okl a) (d : Nat) : ∀ (i : Nat) (l : List (List ByteArray)), i + d = 6 → l.length = i → (∀ b ∈ l, Okl b) →
    Ev (fun k => collatorlaw07_AlikeBest.l0 k raw true a l (i : Int)) true := by
  induction d with
  | zero =>
    intro i l hi hl ho
    have hj := best_j1 ha (by omega) ho
    refine Ev.step (fun k => collatorlaw07_AlikeBest.l0.eq_2 raw true a l (i : Int) k) ?_
    by_cases c : (i : Int) < (raw.length : Int)
    · exact evpos c (evneg (by omega) hj)
    · exact evneg c hj
  | succ d ih =>
    intro i l hi hl ho
    by_cases c : (i : Int) < (raw.length : Int)
    · have hlt : i < raw.length := by omega
      have hg : raw[i]? = some raw[i] := List.getElem?_eq_getElem hlt
      obtain ⟨z1, z2⟩ := hraw _ (List.getElem_mem hlt)
      have hm : maxLen = 9223372036854775807 := rfl
      obtain ⟨B, hB, fB, lB⟩ := lines_ev raw[i] z2 (by omega) 20 (by omega)
      have e := fun k => collatorlaw07_AlikeBest.l0.eq_2 raw true a l (i : Int) k
      rw [rd3_some hg, w64 (x := (i : Int) + 1) (by omega) (by omega)] at e
      refine Ev.step e ?_
      have hn : Ev (fun k => collatorlaw07_AlikeBest.l0 k raw true a (l ++ [B]) ((i : Int) + 1)) true := ih (i + 1) (l ++ [B]) (by omega) (by rw [List.length_append, List.length_singleton]; omega) (fun b hb => by
        rcases List.mem_append.1 hb with hb | hb
        · exact ho b hb
        · rw [List.mem_singleton.1 hb]; exact fB.okl (by omega))
      exact evpos c (evpos (by omega) (evpos (by omega) (Ev.bind hB (evval rfl (evpos (by show l.length + 1 < _; omega) hn)))))
    · refine Ev.step (fun k => collatorlaw07_AlikeBest.l0.eq_2 raw true a l (i : Int) k) ?_
      exact evneg c (best_j1 ha (by omega) ho)
theorem AlikeBest : collatorlaw07_AlikeBest.Pure := by
  intro l0 l1 hm0 hr0 hw0 hm1 hr1 hw1
  obtain ⟨A, hA, fA, lA⟩ := lines_ev l1 hw1 (by omega) 20 (by omega)
  refine Ev.rounds ?_
  unfold collatorlaw07_AlikeBest.f
  exact Ev.bind awake_ev (Ev.bind hA (best_l0 l0 hw0 (fA.okl (by omega)) 6 0 [] rfl rfl (fun b hb => by cases hb)))
end Go.Proofs.Ythplelgkneipjaa.Pure
