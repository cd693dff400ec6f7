/- What the function steps of layer 5's laws answers: plain. -/
import Derived.Test.YthplelgkneipjaaPxf37
import Derived.Test.YthplelgkneipjaaQScriptEv
set_option linter.unusedVariables false
set_option linter.unusedSimpArgs false
namespace Go.Proofs.Ythplelgkneipjaa.Q
open Go Go.RowKit Go.Proofs.Ythplelgkneipjaa.P Go.Proofs.YthplelgkneipjaaW.PrintWords Go.Proofs.YthplelgkneipjaaW.PrintLast
theorem steps_in (s : List EdS) (hs : s.length ≤ 1000000) (i : Nat) (x : EdS) (hx : s[i]? = some x) (h0 : 0 ≤ x.f1) (h1 : x.f1 ≤ 100) {r : List Int} (d : Nat) : ∀ (j : Nat) (out : List Int), (x.f1.toNat - j = d) → j ≤ x.f1.toNat → out.length ≤ 100 * i + j →
    Ev (fun k => collatorlaw05_steps.l0 k s (out ++ List.replicate d x.f0) ((i + 1 : Nat) : Int)) r → Ev (fun k => collatorlaw05_steps.l1 k s out (i : Int) (j : Int)) r := by
  have hi : i < s.length := (List.getElem?_eq_some_iff.1 hx).1
  induction d with
  | zero =>
    intro j out hd hj ho h
    rw [List.replicate_zero, List.append_nil] at h
    refine Ev.step (fun k => ?_) h
    simp only [collatorlaw05_steps.l1]
    rw [if_pos (by omega), if_pos (by omega), rdT hx, if_neg (by omega), wi (by omega)]
  | succ d ih =>
    intro j out hd hj ho h
    rw [List.replicate_succ, ← List.singleton_append, ← List.append_assoc] at h
    refine Ev.step (fun k => ?_) (ih (j + 1) (out ++ [x.f0]) (by omega) (by omega) (by rw [List.length_append, List.length_singleton]; omega) h)
    simp only [collatorlaw05_steps.l1]
    rw [if_pos (by omega), if_pos (by omega), rdT hx, if_pos (by omega), if_pos (by omega), if_pos (by omega), wi (by omega)]
theorem steps_loop (s : List EdS) (hs : s.length ≤ 1000000) (t : List EdS) : ∀ (i : Nat) (out : List Int), s.drop i = t → (∀ x ∈ t, 0 ≤ x.f1 ∧ x.f1 ≤ 100) → out.length ≤ 100 * i → Ev (fun k => collatorlaw05_steps.l0 k s out (i : Int)) (out ++ opsS t) := by
  induction t with
  | nil =>
    intro i out h _ _
    have hi := drop_nil h
    rw [opsS, List.append_nil]
    refine Ev.step (f := fun _ => some out) (fun k => ?_) (Ev.now _)
    simp only [collatorlaw05_steps.l0]; rw [if_neg (by omega)]
  | cons x t ih =>
    intro i out h hb ho
    obtain ⟨h1, h2, h3⟩ := drop_cons h
    have hx := hb x List.mem_cons_self
    rw [opsS, ← List.append_assoc]
    refine Ev.step (f := fun k => collatorlaw05_steps.l1 k s out (i : Int) ((0 : Nat) : Int)) (fun k => ?_) (steps_in s hs i x h2 hx.1 hx.2 x.f1.toNat 0 out (by omega) (by omega) (by omega) (ih (i + 1) _ h3 (fun y hy => hb y (List.mem_cons_of_mem _ hy)) (by rw [List.length_append, List.length_replicate]; omega)))
    simp only [collatorlaw05_steps.l0]; rw [if_pos (by omega)]; rfl
theorem steps_ev (s : List EdS) (hs : s.length ≤ 1000000) (hb : ∀ x ∈ s, 0 ≤ x.f1 ∧ x.f1 ≤ 100) : Ev (fun k => collatorlaw05_steps.f k s) (opsS s) := by
  have h := steps_loop s hs s 0 [] (by simp) hb (by simp)
  rw [List.nil_append] at h
  exact h
theorem script_ops (a b : List ByteArray) (h : a.length + b.length ≤ 100) : opsS (script a b) = ops (pth a b) ∧ Ev (fun k => collatorlaw05_steps.f k (script a b)) (ops (pth a b)) := by
  have h1 := (script_fit a b (by omega)).1
  have e : opsS (script a b) = ops (pth a b) := by rw [← ops_expd h1, (script_ok a b).1]
  refine ⟨e, ?_⟩
  have hb := script_bd a b
  have := steps_ev (script a b) (by omega) (fun x hx => by have := hb.2 x hx; omega)
  rw [e] at this
  exact this
end Go.Proofs.Ythplelgkneipjaa.Q
