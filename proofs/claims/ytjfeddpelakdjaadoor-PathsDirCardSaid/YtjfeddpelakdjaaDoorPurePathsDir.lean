/- PathsDir: a path stands behind its dir, and is within it, and within all dirs above: the plain law over the printed function. -/
import Derived.Test.YtjfeddpelakdjaaDoorPxf9
import Derived.Test.YtjfeddpelakdjaaDoorQPathRaw
set_option linter.unusedVariables false
set_option linter.unusedSimpArgs false
namespace Go.Proofs.YtjfeddpelakdjaaDoor.Pure
open Go Go.RowKit Go.Proofs.YtjfeddpelakdjaaDoor.P Go.Proofs.YtjfeddpelakdjaaDoorW.PrintWords Go.Proofs.YtjfeddpelakdjaaDoorW.PrintLast Go.Proofs.YtjfeddpelakdjaaDoorW.PrintMore Go.Proofs.YtjfeddpelakdjaaDoor.Q
theorem dirB_good {ps : List Bs} {m : Nat} (h : Q.Good ps m) (hm : m ≤ 16) : dirB (glue ps) = glue ps.dropLast ∧ baseB (glue ps) = ps.getLastD [] := by
  unfold dirB baseB
  rw [h.glue.1, h.chk hm, if_pos rfl, if_pos rfl]
  exact ⟨rfl, rfl⟩
theorem same_good {ps qs : List Bs} {m n : Nat} (hp : Q.Good ps m) (hq : Q.Good qs n) (h1 : glue ps.dropLast = glue qs.dropLast) (h2 : ps.getLastD [] = qs.getLastD []) : ps = qs := by
  have hd : ps.dropLast = qs.dropLast := by
    have np : ∀ r ∈ ps.dropLast, Q.Name r := fun r hr => hp.all r (List.dropLast_subset _ hr)
    have nq : ∀ r ∈ qs.dropLast, Q.Name r := fun r hr => hq.all r (List.dropLast_subset _ hr)
    by_cases c1 : ps.dropLast = []
    · by_cases c2 : qs.dropLast = []
      · rw [c1, c2]
      · exact absurd (by rw [← h1, c1]; rfl) (glue_ne c2 (fun r hr => (nq r hr).1))
    · by_cases c2 : qs.dropLast = []
      · exact absurd (by rw [h1, c2]; rfl) (glue_ne c1 (fun r hr => (np r hr).1))
      · rw [← parts_glue c1 (fun r hr => (np r hr).2.1), ← parts_glue c2 (fun r hr => (nq r hr).2.1), h1]
  have e : ∀ {l : List Bs}, l ≠ [] → l = l.dropLast ++ [l.getLastD []] := fun {l} h => by
    rcases List.eq_nil_or_concat l with h0 | ⟨l0, x, h0⟩
    · exact absurd h0 h
    · rw [List.concat_eq_append] at h0
      rw [h0, List.dropLast_concat, List.getLastD_concat]
  rw [e hp.ne, e hq.ne, hd, h2]
section
variable {p q : ByteArray} {ps qs : List Bs} (hp : tl p = glue ps) (gp : Q.Good ps 8) (sp : p.size ≤ 40) (hq : tl q = glue qs) (gq : Q.Good qs 8) (sq : q.size ≤ 40)
include hp gp sp hq gq sq
theorem dir_end (i : Nat) : Ev (fun k => collatorlaw01_PathsDir.j1 k true p q (ofB []) (i : Int) false) true := by
  have dp := dir_ok (s := p) (by omega)
  have dq := dir_ok (s := q) (by omega)
  have bp := base_ok (s := p) (by omega)
  have bq := base_ok (s := q) (by omega)
  rw [hp, (dirB_good gp (by omega)).1] at dp
  rw [hq, (dirB_good gq (by omega)).1] at dq
  rw [hp, (dirB_good gp (by omega)).2] at bp
  rw [hq, (dirB_good gq (by omega)).2] at bq
  have hc := compare_ok (a := p) (b := q) (by omega) (by omega)
  have hpq : p = q ↔ ps = qs := by
    constructor
    · intro h
      rw [← gp.glue.1, ← gq.glue.1, ← hp, ← hq, h]
    · intro h
      exact tl_inj (by rw [hp, hq, h])
  have h0 : pcmp (tl p) (tl q) = 0 ↔ ps = qs := (pcmp_zero _ _).trans ⟨fun h => hpq.1 (tl_inj h), fun h => by rw [hpq.2 h]⟩
  have e1 : (p.toList == q.toList) = decide (ps = qs) := by rw [Bool.eq_iff_iff, beq_iff_eq, toList_eq_iff, decide_eq_true_iff, hpq]
  have e2 : (pcmp (tl p) (tl q) == 0) = decide (ps = qs) := by rw [Bool.eq_iff_iff, beq_iff_eq, decide_eq_true_iff, h0]
  refine Ev.step (f := fun k => (paths_Dir.f k p).bind fun t308 => (paths_Dir.f k q).bind fun t309 => if t308.toList = t309.toList then (paths_Base.f k p).bind fun t310 => (paths_Base.f k q).bind fun t311 => (if true = true then (if (ofB []).toList = ([] : List UInt8) then (if ((t310.toList == t311.toList) == (p.toList == q.toList)) = true then (paths_Compare.f k p q).bind fun t312 => some ((t310.toList == t311.toList) == (t312 == 0)) else some false) else some false) else some false) else (if true = true then (if (ofB []).toList = ([] : List UInt8) then (if (false == (p.toList == q.toList)) = true then (paths_Compare.f k p q).bind fun t313 => some (false == (t313 == 0)) else some false) else some false) else some false)) (fun k => ?_) (Ev.bind dp (Ev.bind dq ?_))
  · simp only [collatorlaw01_PathsDir.j1]
    rw [if_neg (by decide)]
  · by_cases c : glue ps.dropLast = glue qs.dropLast
    · refine evpos (by rw [toList_tl, toList_tl]; exact c) (Ev.bind bp (Ev.bind bq (evpos rfl (evpos (by rw [toList_tl]; rfl) ?_))))
      have e3 : ((ofB (ps.getLastD [])).toList == (ofB (qs.getLastD [])).toList) = decide (ps = qs) := by
        rw [Bool.eq_iff_iff, beq_iff_eq, toList_tl, toList_tl, decide_eq_true_iff]
        exact ⟨fun h => same_good gp gq c h, fun h => by rw [h]⟩
      refine evpos (by rw [e3, e1, beq_self_eq_true]) (Ev.bind hc ?_)
      rw [e3, e2, beq_self_eq_true]
      exact Ev.now _
    · have hne : ¬ ps = qs := fun h => c (by rw [h])
      refine evneg (by rw [toList_tl, toList_tl]; exact c) (evpos rfl (evpos (by rw [toList_tl]; rfl) (evpos (by rw [e1, decide_eq_false hne]; rfl) (Ev.bind hc ?_))))
      rw [e2, decide_eq_false hne]
      exact Ev.now _
theorem dir_loop (j : Nat) : ∀ i : Nat, j < ps.length → i + j ≤ 8 → Ev (fun k => collatorlaw01_PathsDir.l0 k true p q (ofB (glue (ps.take j))) (i : Int)) true := by
  induction j with
  | zero =>
    intro i hj hi
    refine Ev.step (fun k => ?_) (dir_end hp gp sp hq gq sq i)
    simp only [collatorlaw01_PathsDir.l0]
    rw [if_pos (by omega)]
    have e : ((ofB (glue (ps.take 0))).toList != ([] : List UInt8)) = false := by rw [toList_tl]; rfl
    rw [e]
    rfl
  | succ j ih =>
    intro i hj hi
    have hpl := gp.le
    have gd : Q.Good (ps.take (j + 1)) 8 := ⟨by
      intro h
      have := congrArg List.length h
      rw [List.length_take, List.length_nil] at this
      omega, by rw [List.length_take]; omega, fun r hr => gp.all r (List.mem_of_mem_take hr)⟩
    have hsplit : glue ps = glue (ps.take (j + 1)) ++ 47 :: glue (ps.drop (j + 1)) := by
      rw [← glue_app _ _ gd.ne (by intro h; have := congrArg List.length h; rw [List.length_drop, List.length_nil] at this; omega), List.take_append_drop]
    have hdne := gd.glue.2
    have hlen : (glue (ps.take (j + 1))).length < p.size := by
      rw [← tl_size, hp, hsplit, List.length_append, List.length_cons]; omega
    have hsz : (ofB (glue (ps.take (j + 1)))).size ≤ 40 := by rw [ofB_size]; omega
    have dd := dir_ok (s := ofB (glue (ps.take (j + 1)))) (by omega)
    rw [tl_ofB, (dirB_good gd (by omega)).1] at dd
    have edl : (ps.take (j + 1)).dropLast = ps.take j := by
      rw [List.dropLast_take (by omega)]
      congr 1
    rw [edl] at dd
    have hcmp := compare_ok (a := ofB (glue (ps.take (j + 1)))) (b := p) (by omega) (by omega)
    have e1 : pcmp (tl (ofB (glue (ps.take (j + 1))))) (tl p) = -1 := by
      rw [tl_ofB, hp, hsplit]
      exact pcmp_front _ (by simp)
    rw [e1] at hcmp
    have w1 : paths_Within.f (ofB (glue (ps.take (j + 1)))) p = some true := by
      rw [within_ok (by omega), tl_ofB]
      congr 1
      exact (within_true hdne).2 ⟨_, by rw [hp, hsplit]⟩
    have w2 : paths_Within.f p (ofB (glue (ps.take (j + 1)))) = some false := by
      rw [within_ok (by omega), tl_ofB]
      congr 1
      rw [Bool.eq_false_iff]
      intro h
      have hpne : tl p ≠ [] := by rw [hp]; exact gp.glue.2
      obtain ⟨r, hr⟩ := (within_true hpne).1 h
      have := congrArg List.length hr
      rw [List.length_append, tl_size] at this
      omega
    have ck := check_ok (s := ofB (glue (ps.take (j + 1)))) (by omega)
    rw [tl_ofB, gd.glue.1, gd.chk (by omega)] at ck
    have hb : ((ofB (glue (ps.take (j + 1)))).toList != ([] : List UInt8)) = true := by
      rw [bne_iff_ne, toList_tl]; exact hdne
    refine Ev.step (f := fun k => collatorlaw01_PathsDir.j1 k true p q (ofB (glue (ps.take (j + 1)))) (i : Int) true) (fun k => ?_) (Ev.step (f := fun k => (paths_Compare.f k (ofB (glue (ps.take (j + 1)))) p).bind fun t303 => if t303 = (-1) then (paths_Within.f (ofB (glue (ps.take (j + 1)))) p).bind fun t304 => if t304 = true then (paths_Within.f p (ofB (glue (ps.take (j + 1))))).bind fun t305 => if t305 = true then some false else (paths_Check.f k (ofB (glue (ps.take (j + 1))))).bind fun t306 => if t306 = 0 then (paths_Dir.f k (ofB (glue (ps.take (j + 1))))).bind fun t307 => collatorlaw01_PathsDir.l0 k true p q t307 ((i + 1 : Nat) : Int) else some false else some false else some false) (fun k => ?_) ?_)
    · simp only [collatorlaw01_PathsDir.l0]
      rw [if_pos (by omega), hb]
    · simp only [collatorlaw01_PathsDir.j1]
      rw [if_true, wi (by omega)]
    · exact Ev.bind hcmp (evpos rfl (evval w1 (evpos rfl (evval w2 (evneg (by decide) (Ev.bind ck (evpos rfl (Ev.bind dd (ih (i + 1) (by omega) (by omega))))))))))
end
theorem PathsDir : collatorlaw01_PathsDir.Pure := by
  intro l0 l1 hm0 hr0 hw0 hm1 hr1 hw1
  obtain ⟨p, hP, gp, sp⟩ := path_ev l0 hw0 (by omega)
  obtain ⟨q, hQ, gq, sq⟩ := path_ev l1 hw1 (by omega)
  clear hm0 hr0 hw0 hm1 hr1 hw1
  have tp : tl p = glue (parts (tl p)) := (glue_parts _).symm
  have tq : tl q = glue (parts (tl q)) := (glue_parts _).symm
  have dd := dir_ok (s := p) (by omega)
  have hle := gp.le
  have hpos : 0 < (parts (tl p)).length := List.length_pos_iff.2 gp.ne
  have e : dirB (tl p) = glue ((parts (tl p)).take ((parts (tl p)).length - 1)) := by
    have h1 := (dirB_good gp (by omega)).1
    rw [glue_parts] at h1
    rw [h1, List.dropLast_eq_take]
  rw [e] at dd
  refine Ev.rounds ?_
  unfold collatorlaw01_PathsDir.f
  exact Ev.bind awake1_ok (Ev.bind hP (Ev.bind hQ (Ev.bind dd (dir_loop tp gp sp tq gq sq _ 0 (by omega) (by omega)))))
end Go.Proofs.YtjfeddpelakdjaaDoor.Pure
