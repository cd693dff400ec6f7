/- MyersLeast: no right script costs less than the shortest one; one that costs as much is not ahead of it: the plain law over the printed function. -/
import Derived.Test.YthplelgkneipjaaPxf16
import Derived.Test.YthplelgkneipjaaQSteps
import Derived.Test.YthplelgkneipjaaQScriptRaw
set_option linter.unusedVariables false
set_option linter.unusedSimpArgs false
namespace Go.Proofs.Ythplelgkneipjaa.Pure
open Go Go.RowKit Go.Proofs.Ythplelgkneipjaa.P Go.Proofs.YthplelgkneipjaaW.PrintWords Go.Proofs.YthplelgkneipjaaW.PrintLast Go.Proofs.Ythplelgkneipjaa.Q
theorem awake5_yes : collatorlaw05_awake.f = some true := rfl
theorem least_loop (X Y : List Int) (hX : X.length ≤ 10000) (hY : Y.length ≤ 10000) (u : List Int) : ∀ (v : List Int) (i : Nat), X.drop i = u → Y.drop i = v → i ≤ X.length → i ≤ Y.length → lexle u v = true → Ev (fun k => collatorlaw05_MyersLeast.l0 k true X Y (i : Int)) true := by
  induction u with
  | nil =>
    intro v i hu hv h1 h2 hl
    cases v with
    | cons y v => cases hl
    | nil =>
      have g1 := drop_nil hu
      have g2 := drop_nil hv
      refine Ev.step (f := fun k => collatorlaw05_MyersLeast.j2 k true X Y (i : Int) false) (fun k => ?_) (Ev.step (f := fun _ => some true) (fun k => ?_) (Ev.now _))
      · simp only [collatorlaw05_MyersLeast.l0]; rw [if_neg (by omega)]
      · simp only [collatorlaw05_MyersLeast.j2]; rw [if_neg (by decide), if_true, beq_iff_eq.2 (by omega : (X.length : Int) = (Y.length : Int))]
  | cons x u ih =>
    intro v i hu hv h1 h2 hl
    cases v with
    | nil => cases hl
    | cons y v =>
      obtain ⟨a1, a2, a3⟩ := drop_cons hu
      obtain ⟨b1, b2, b3⟩ := drop_cons hv
      rw [lexle] at hl
      by_cases c : x = y
      · rw [if_pos c] at hl
        refine Ev.step (f := fun k => collatorlaw05_MyersLeast.j2 k true X Y (i : Int) true) (fun k => ?_) (Ev.step (fun k => ?_) (ih v (i + 1) a3 b3 (by omega) (by omega) hl))
        · simp only [collatorlaw05_MyersLeast.l0]; rw [if_pos (by omega), decide_eq_true (by omega : (i : Int) < (Y.length : Int))]
        · simp only [collatorlaw05_MyersLeast.j2]
          rw [if_true, if_pos (by omega), if_pos (by omega), if_pos (by omega), rdI a2, rdI b2, if_pos c, wi (by omega)]
      · rw [if_neg c] at hl
        refine Ev.step (f := fun k => collatorlaw05_MyersLeast.j2 k true X Y (i : Int) true) (fun k => ?_) (Ev.step (f := fun _ => some true) (fun k => ?_) (Ev.now _))
        · simp only [collatorlaw05_MyersLeast.l0]; rw [if_pos (by omega), decide_eq_true (by omega : (i : Int) < (Y.length : Int))]
        · simp only [collatorlaw05_MyersLeast.j2]
          rw [if_true, if_pos (by omega), if_pos (by omega), if_pos (by omega), rdI a2, rdI b2, if_neg c, if_true, hl]
theorem least_j0 {s d : List EdS} {X Y : List Int} {c c2 : Nat} (hd : Ev (fun k => script_Cost.f k d) (c : Int)) (hs : Ev (fun k => script_Cost.f k s) (c2 : Int)) (hX : Ev (fun k => collatorlaw05_steps.f k d) X) (hY : Ev (fun k => collatorlaw05_steps.f k s) Y) (hXl : X.length ≤ 10000) (hYl : Y.length ≤ 10000)
    (hlex : ¬ c < c2 → lexle X Y = true) : Ev (fun k => collatorlaw05_MyersLeast.j0 k true s d false) true := by
  refine Ev.step (f := fun k => (script_Cost.f k d).bind fun t754 => ((script_Cost.f k s).bind fun t755 => (if t754 < t755 then (some true) else ((collatorlaw05_steps.f k d).bind fun t756 => ((collatorlaw05_steps.f k s).bind fun t759 => (collatorlaw05_MyersLeast.l0 k true t756 t759 0)))))) (fun k => ?_) (Ev.bind hd (Ev.bind hs ?_))
  · simp only [collatorlaw05_MyersLeast.j0]; rw [if_neg (by decide)]
  · by_cases hlt : (c : Int) < (c2 : Int)
    · simp only [if_pos hlt]; exact Ev.now _
    · simp only [if_neg hlt]
      refine Ev.bind hX (Ev.bind hY ?_)
      exact least_loop X Y hXl hYl X Y 0 (by simp) (by simp) (by omega) (by omega) (hlex (by omega))
theorem ops_len (s : List EdS) (n : Nat) (h : ∀ x ∈ s, x.f1 ≤ n) : (opsS s).length ≤ n * s.length := by
  induction s with
  | nil => exact Nat.zero_le _
  | cons x s ih =>
    have h1 := ih (fun y hy => h y (List.mem_cons_of_mem _ hy))
    have h2 := h x List.mem_cons_self
    rw [opsS, List.length_append, List.length_replicate, List.length_cons, Nat.mul_succ]
    omega
theorem MyersLeast : collatorlaw05_MyersLeast.Pure := by
  intro l0 l1 hm0 hr0 hw0 hm1 hr1 hw1
  obtain ⟨s, a, hE, hR⟩ := script_raw_ev l0 l1 hw0 (by omega) hw1 (by omega)
  clear hm0 hr0 hw0 hm1 hr1 hw1
  have h0 := hR.right
  have h1 := hR.len
  have h2 := hR.most
  have h3 := hR.fit
  have h4 := hR.takes_
  have h5 := takes_appl h3 h4
  have h6 := trn_of h3 h4
  have h7 := trn_cost h6
  have h8 := chgs_ops h3
  have hmk : makes s ≤ 4 * s.length := by
    have gen : ∀ t : List EdS, (∀ x ∈ t, x.f1 ≤ 4) → makes t ≤ 4 * t.length := by
      intro t
      induction t with
      | nil => intro _; simp [makes]
      | cons x t ih =>
        intro h
        have g1 := ih (fun y hy => h y (List.mem_cons_of_mem _ hy))
        have g2 := h x List.mem_cons_self
        simp only [makes, List.length_cons]
        split <;> omega
    exact gen s hR.small
  generalize hb : appl s a = b at *
  have kb : b.length ≤ 40 := by omega
  have ka : a.length ≤ 40 := by omega
  obtain ⟨g1, g2, g3, g4, g5⟩ := script_fit a b (by omega)
  have hsX := (script_ops a b (by omega)).2
  have hsY := steps_ev s (by omega) (fun x hx => by have := (h3 x hx).1.1; have := hR.small x hx; omega)
  have hbd := script_bd a b
  have hAp := apply_ev s a (by omega) h0 h4
  rw [hb] at hAp
  have hCd := scost_ev (script a b) (by omega) g2
  have hCs := scost_ev s (by omega) h0
  rw [g5] at hCd
  rw [h8] at hCs
  have hXl : (ops (pth a b)).length ≤ 10000 := by
    have := (pth_small a b).1
    unfold ops; rw [List.length_map]; omega
  have hYl : (opsS s).length ≤ 10000 := by
    have := ops_len s 4 hR.small
    omega
  refine Ev.rounds ?_
  unfold collatorlaw05_MyersLeast.f
  simp only [awake5_yes, Option.bind_some]
  refine Ev.bind hE (Ev.bind hAp (evval (diff_ok (by show a.length ≤ _; omega) (by show b.length ≤ _; omega)) (evpos rfl ?_)))
  refine Ev.bind hCd ?_
  refine Ev.bind hCs ?_
  rw [decide_eq_false (by omega : ¬ (cost a b : Int) > (chg (opsS s) : Int))]
  exact least_j0 hCd hCs hsX hsY hXl hYl (fun h => trn_least h6 (by omega))
end Go.Proofs.Ythplelgkneipjaa.Pure
