/- HunksBack in plain words: Script undoes Make; the hunks are right, and cost as much as the script. -/
import Derived.Test.YtgobidmfbjmpkaaPxf5
import Derived.Test.YtgobidmfbjmpkaaGHq
set_option linter.unusedVariables false
set_option linter.unusedSimpArgs false
namespace Go.Proofs.Ytgobidmfbjmpkaa.Pure
open Go Go.RowKit Go.Proofs.Ytgobidmfbjmpkaa.P Go.Proofs.YtgobidmfbjmpkaaW.PrintWords Go.Proofs.YtgobidmfbjmpkaaW.PrintLast Go.Proofs.YtgobidmfbjmpkaaW.PrintMore Go.Proofs.Ytgobidmfbjmpkaa.Q
theorem back_loop {s : List EdS} {n : Nat} (hraw : Raw s n 10) {h : List HkS} {c : Int} (M : Made s n c h) (t : List HkS) : ∀ (i : Nat) (acc : Int), h.drop i = t → 0 ≤ acc → acc ≤ 100000000 * i → acc + costH t = chgs s → Ev (fun k => collatorlaw06_HunksBack.l0 k true s h 0 s 0 acc (i : Int)) true := by
 induction t with
 | nil =>
  intro i acc hd _ _ ha
  have hl := drop_nil hd
  have hs : s.length ≤ 1000000 := by have := hraw.len; omega
  refine Ev.step (f := fun k => _) (fun k => by simp only [collatorlaw06_HunksBack.l0]; rfl) ?_
  refine evneg (by omega) (evpos (by trivial) (evpos (by trivial) ?_))
  refine Ev.bind M.right (evpos rfl ?_)
  refine Ev.bind (scost_ev s hs hraw.right) (evpos ?_ (evpos (by trivial) ?_))
  ·rw [show costH [] = 0 from rfl] at ha; omega
  ·refine Ev.bind (same_ev s hs (fun x hx => ?_)) (Ev.now _)
   have h1 := raw_wt hraw.fit hraw.small
   have h2 := wt_mem hx
   have h3 := hraw.len
   unfold wt1 at h2
   omega
 | cons x t ih =>
  intro i acc hd ha0 ha1 ha
  obtain ⟨hi, hx, hd'⟩ := drop_cons hd
  have hm := List.mem_of_getElem? hx
  obtain ⟨_, hr, hw⟩ := M.ok x hm
  have hsm := M.small x hm
  have hb := (spans_bd ((right_iff _).1 hr).1).2.2.2.2
  have hlen := M.len
  have hw1 := takes_wt ((right_iff _).1 hr).1
  have hch : 0 ≤ chgs x.f2 ∧ chgs x.f2 ≤ 100000000 * 1 := ⟨hb.1, by
   have : chgs x.f2 ≤ wt x.f2 := by
    have gen : ∀ u : List EdS, Fit u → chgs u ≤ wt u := by
     intro u
     induction u with
     | nil => intro _; exact Int.le_refl _
     | cons y u ih =>
      intro hu
      have h1 := ih (fit_tail hu)
      have h2 := (fit_head hu).1
      rw [chgs, wt_cons]
      unfold wt1
      split <;> omega
    exact gen _ ((right_iff _).1 hr).1
   omega⟩
  rw [costH_cons] at ha
  have hi' := ih (i + 1) (acc + chgs x.f2) hd' (by omega) (by omega) (by omega)
  refine Ev.step (f := fun k => _) (fun k => by simp only [collatorlaw06_HunksBack.l0]; rfl) ?_
  refine evpos (by omega) (evpos (by omega) ?_)
  simp only [rdH hx]
  refine Ev.bind (scost_ev x.f2 (by omega) hr) ?_
  simp only [w64 (x := acc + chgs x.f2) (by omega) (by omega), wi (i := i) (by omega)]
  exact hi'
theorem HunksBack : collatorlaw06_HunksBack.Pure := by
 intro l0 a1 h1 h2 h3 h4
 refine Ev.rounds (g := fun k => collatorlaw06_HunksBack.f k l0 a1) ?_
 unfold maxLen at h1
 obtain ⟨s, L, hS, hraw⟩ := script_raw_ev l0 [] h3 (by omega) (fun x hx => by cases hx) (by simp)
 have hp := pk_lt a1 (n := 101) (by omega)
 have M := raw_made hraw (c := (pk a1 101 : Int)) (by omega) (by omega)
 unfold collatorlaw06_HunksBack.f
 show Ev (fun k => (collatorlaw06_awake.f).bind fun t => _) true
 refine evval (show collatorlaw06_awake.f = some true from rfl) ?_
 refine Ev.bind hS ?_
 refine evval (pick6 (m := 101) (n := 101) (wf_range h4) rfl (by omega)) ?_
 refine Ev.bind M.make ?_
 refine Ev.bind M.script ?_
 exact back_loop hraw M (made (pk a1 101 : Int) s) 0 0 rfl (by omega) (by omega) (by rw [Int.zero_add]; exact M.cost)
end Go.Proofs.Ytgobidmfbjmpkaa.Pure
