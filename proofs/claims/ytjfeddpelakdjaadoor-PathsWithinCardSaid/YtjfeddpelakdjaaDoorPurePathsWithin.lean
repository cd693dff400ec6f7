/- PathsWithin: what is within a dir stands behind it, all together: the plain law over the printed function. -/
import Derived.Test.YtjfeddpelakdjaaDoorPxf5
import Derived.Test.YtjfeddpelakdjaaDoorQPathRaw
set_option linter.unusedVariables false
set_option linter.unusedSimpArgs false
namespace Go.Proofs.YtjfeddpelakdjaaDoor.Pure
open Go Go.RowKit Go.Proofs.YtjfeddpelakdjaaDoor.P Go.Proofs.YtjfeddpelakdjaaDoorW.PrintWords Go.Proofs.YtjfeddpelakdjaaDoorW.PrintLast Go.Proofs.YtjfeddpelakdjaaDoorW.PrintMore Go.Proofs.YtjfeddpelakdjaaDoor.Q
theorem joinB_eq {d : Bs} (hd : d ≠ []) (x : Bs) : joinB d x = d ++ 47 :: x := by unfold joinB; rw [if_neg hd]
theorem within_self (z : Bs) : withinB z z = false := by
  by_cases h : z = []
  · subst h; rfl
  · rw [Bool.eq_false_iff]
    intro hw
    obtain ⟨r, hr⟩ := (within_true h).1 hw
    have := congrArg List.length hr
    rw [List.length_append, List.length_cons] at this
    omega
theorem within_j2 {d x z : ByteArray} (hd : tl d ≠ []) (hx : tl x = tl d ++ 47 :: (tl x).drop ((tl d).length + 1)) (sd : d.size ≤ 200) (sx : x.size ≤ 400) (sz : z.size ≤ 100) : Ev (fun k => collatorlaw01_PathsWithin.j2 k true d x z false) true := by
  have w1 := within_ok (d := d) (p := z) (by omega)
  have w2 := within_ok (d := x) (p := z) (by omega)
  have w3 := within_ok (d := z) (p := z) (by omega)
  rw [within_self] at w3
  have hxne : tl x ≠ [] := by rw [hx]; simp
  refine Ev.step (f := fun k => (paths_Within.f d z).bind fun t236 => if t236 = true then (paths_Join.f z (⟨#[113]⟩ : ByteArray)).bind fun t237 => (paths_Within.f d t237).bind fun t238 => if t238 = true then (paths_Within.f x z).bind fun t239 => if t239 = true then (paths_Within.f z z).bind fun t240 => some (!t240) else (paths_Within.f z z).bind fun t241 => some (!t241) else some false else (paths_Within.f x z).bind fun t242 => if t242 = true then some false else (paths_Within.f z z).bind fun t243 => some (!t243)) (fun k => ?_) (evval w1 ?_)
  · simp only [collatorlaw01_PathsWithin.j2]
    rw [if_neg (by decide), if_true]
  · by_cases c : withinB (tl d) (tl z) = true
    · obtain ⟨r, hr⟩ := (within_true hd).1 c
      have hzne : tl z ≠ [] := by rw [hr]; simp
      have hq : (⟨#[113]⟩ : ByteArray).size = 1 := rfl
      have w4 := within_ok (d := d) (p := ofB (joinB (tl z) (tl (⟨#[113]⟩ : ByteArray)))) (by omega)
      have e4 : withinB (tl d) (tl (ofB (joinB (tl z) (tl (⟨#[113]⟩ : ByteArray))))) = true := by
        refine (within_true hd).2 ⟨r ++ 47 :: tl (⟨#[113]⟩ : ByteArray), ?_⟩
        rw [tl_ofB, joinB_eq hzne, hr]
        simp
      refine evpos c (evval (join_ok (by omega) (by omega)) (evval w4 (evpos e4 (evval w2 ?_))))
      by_cases c2 : withinB (tl x) (tl z) = true
      · exact evpos c2 (evval w3 (Ev.now _))
      · exact evneg c2 (evval w3 (Ev.now _))
    · refine evneg c (evval w2 (evneg (fun h => c ?_) (evval w3 (Ev.now _))))
      obtain ⟨r, hr⟩ := (within_true hxne).1 h
      refine (within_true hd).2 ⟨(tl x).drop ((tl d).length + 1) ++ 47 :: r, ?_⟩
      rw [hr, hx]
      simp
theorem within_j1 {d x y z : ByteArray} (hd : tl d ≠ []) (hx : tl x = tl d ++ 47 :: (tl x).drop ((tl d).length + 1)) (hy : tl y = tl d ++ 47 :: (tl y).drop ((tl d).length + 1)) (sd : d.size ≤ 200) (sx : x.size ≤ 400) (sy : y.size ≤ 400) (sz : z.size ≤ 100) : Ev (fun k => collatorlaw01_PathsWithin.j1 k true d x y z false) true := by
  have hj := within_j2 hd hx sd sx sz
  refine Ev.step (f := fun k => (paths_Compare.f k x z).bind fun t233 => if t233 ≤ 0 then (paths_Compare.f k z y).bind fun t234 => if t234 ≤ 0 then (paths_Within.f d z).bind fun t235 => collatorlaw01_PathsWithin.j2 k true d x z (!t235) else collatorlaw01_PathsWithin.j2 k true d x z false else collatorlaw01_PathsWithin.j2 k true d x z false) (fun k => ?_) (Ev.bind (compare_ok (by omega) (by omega)) ?_)
  · simp only [collatorlaw01_PathsWithin.j1]
    rw [if_neg (by decide)]
  · by_cases c1 : pcmp (tl x) (tl z) ≤ 0
    · refine evpos c1 (Ev.bind (compare_ok (by omega) (by omega)) ?_)
      by_cases c2 : pcmp (tl z) (tl y) ≤ 0
      · have e : withinB (tl d) (tl z) = true := by
          have h1 : tl d ++ 47 :: (tl x).drop ((tl d).length + 1) = (tl d ++ [47]) ++ (tl x).drop ((tl d).length + 1) := by simp
          have h2 : tl d ++ 47 :: (tl y).drop ((tl d).length + 1) = (tl d ++ [47]) ++ (tl y).drop ((tl d).length + 1) := by simp
          rw [hx, h1] at c1
          rw [hy, h2] at c2
          obtain ⟨q, hq⟩ := pcmp_between c1 c2
          exact (within_true hd).2 ⟨q, by rw [hq]; simp⟩
        refine evpos c2 (evval (within_ok (by omega)) ?_)
        rw [e]
        exact hj
      · exact evneg c2 hj
    · exact evneg c1 hj
theorem within_j0 {a b c d : ByteArray} (sd : d.size ≤ 200) : Ev (fun k => collatorlaw01_PathsWithin.j0 k a b c true d) true := by
  obtain ⟨a1, a2, a3⟩ := mn_take a 100
  obtain ⟨b1, b2, b3⟩ := mn_take b 100
  obtain ⟨c1, c2, c3⟩ := mn_take c 100
  have e100 : ((100 : Nat) : Int) = 100 := rfl
  rw [e100] at a1 a2 a3 b1 b2 b3 c1 c2 c3
  generalize hx : a.extract 0 (mn (a.size : Int) 100).toNat = x at a3
  generalize hy : b.extract 0 (mn (b.size : Int) 100).toNat = y at b3
  generalize hz : c.extract 0 (mn (c.size : Int) 100).toNat = z at c3
  have j1 := join_ok (d := d) (n := x) (by omega) (by omega)
  have j2 := join_ok (d := d) (n := y) (by omega) (by omega)
  have s1 := joinB_size (tl d) (tl x)
  have s2 := joinB_size (tl d) (tl y)
  rw [tl_size, tl_size] at s1 s2
  refine Ev.step (f := fun k => (paths_Join.f d x).bind fun t227 => (paths_Join.f d y).bind fun t228 => if d.toList = ([] : List UInt8) then (paths_Within.f d z).bind fun t229 => some (t229 == (z.toList != ([] : List UInt8))) else (paths_Within.f d t227).bind fun t230 => if t230 = true then (paths_Within.f d t228).bind fun t231 => if t231 = true then (paths_Compare.f k d t227).bind fun t232 => collatorlaw01_PathsWithin.j1 k true d t227 t228 z (t232 != (-1)) else collatorlaw01_PathsWithin.j1 k true d t227 t228 z true else collatorlaw01_PathsWithin.j1 k true d t227 t228 z true) (fun k => ?_) (evval j1 (evval j2 ?_))
  · simp only [collatorlaw01_PathsWithin.j0]
    rw [if_pos a1, if_pos a2, hx, j1, Option.bind_some, if_pos b1, if_pos b2, hy, j2, Option.bind_some, if_pos c1, if_pos c2, hz, if_true, Option.bind_some, Option.bind_some]
  · by_cases h : tl d = []
    · refine evpos (by rw [toList_tl]; exact h) (evval (within_ok (by omega)) ?_)
      rw [h, within_nil, toList_tl, beq_self_eq_true]
      exact Ev.now _
    · have w1 := within_ok (d := d) (p := ofB (joinB (tl d) (tl x))) (by omega)
      have w2 := within_ok (d := d) (p := ofB (joinB (tl d) (tl y))) (by omega)
      have e1 : withinB (tl d) (tl (ofB (joinB (tl d) (tl x)))) = true := (within_true h).2 ⟨tl x, by rw [tl_ofB, joinB_eq h]⟩
      have e2 : withinB (tl d) (tl (ofB (joinB (tl d) (tl y)))) = true := (within_true h).2 ⟨tl y, by rw [tl_ofB, joinB_eq h]⟩
      have hc := compare_ok (a := d) (b := ofB (joinB (tl d) (tl x))) (by omega) (by rw [ofB_size]; omega)
      have e3 : pcmp (tl d) (tl (ofB (joinB (tl d) (tl x)))) = -1 := by
        rw [tl_ofB, joinB_eq h]
        exact pcmp_front _ (by simp)
      rw [e3] at hc
      have sh : ∀ u : Bs, joinB (tl d) u = tl d ++ 47 :: (joinB (tl d) u).drop ((tl d).length + 1) := fun u => by
        rw [joinB_eq h, ← List.drop_drop, List.drop_left]
        rfl
      exact evneg (by rw [toList_tl]; exact h) (evval w1 (evpos e1 (evval w2 (evpos e2 (Ev.bind hc (within_j1 h (sh _) (sh _) (by omega) (by rw [ofB_size]; omega) (by rw [ofB_size]; omega) (by omega)))))))
theorem PathsWithin : collatorlaw01_PathsWithin.Pure := by
  intro a0 a1 a2 a3 l4 h0 h1 h2 h3 hm4 hr4 hw4
  obtain ⟨b1, b2, b3⟩ := mn_take a0 100
  refine Ev.rounds ?_
  unfold collatorlaw01_PathsWithin.f
  refine Ev.bind awake1_ok (evpos b1 (evpos b2 ?_))
  by_cases c : (l4.length : Int) > 0
  · obtain ⟨P, hP, _, sP⟩ := path_ev l4 hw4 (by omega)
    exact evpos c (Ev.bind hP (within_j0 (by omega)))
  · exact evneg c (within_j0 (Nat.le_trans b3 (by decide)))
end Go.Proofs.YtjfeddpelakdjaaDoor.Pure
