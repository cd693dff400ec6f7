/- PathsNames: in one dir paths stand as their names do: the plain law over the printed function. -/
import Derived.Test.YtjfeddpelakdjaaDoorPxf8
import Derived.Test.YtjfeddpelakdjaaDoorQPathEv
set_option linter.unusedVariables false
set_option linter.unusedSimpArgs false
namespace Go.Proofs.YtjfeddpelakdjaaDoor.Pure
open Go Go.RowKit Go.Proofs.YtjfeddpelakdjaaDoor.P Go.Proofs.YtjfeddpelakdjaaDoorW.PrintWords Go.Proofs.YtjfeddpelakdjaaDoorW.PrintLast Go.Proofs.YtjfeddpelakdjaaDoorW.PrintMore Go.Proofs.YtjfeddpelakdjaaDoor.Q
theorem joinB_cmp (d x y : Bs) : pcmp (joinB d x) (joinB d y) = pcmp x y := by
  unfold joinB
  by_cases h : d = []
  · rw [if_pos h, if_pos h]
  · rw [if_neg h, if_neg h]
    have e : ∀ u : Bs, d ++ 47 :: u = (d ++ [47]) ++ u := fun u => by simp
    rw [e x, e y, pcmp_app]
theorem joinB_front {d : Bs} (hd : d ≠ []) (x : Bs) : pcmp d (joinB d x) = -1 := by
  unfold joinB
  rw [if_neg hd]
  exact pcmp_front d (by simp)
theorem joinB_ne {d : Bs} (hd : d ≠ []) (x : Bs) : joinB d x ≠ [] := by
  unfold joinB
  rw [if_neg hd]
  simp
theorem names_fin {d x y : ByteArray} (hd : d.size ≤ 100) (hx : x.size ≤ 100) (hy : y.size ≤ 100) :
    Ev (fun k => (paths_Join.f d x).bind fun t291 => (paths_Join.f d y).bind fun t292 => (paths_Compare.f k x y).bind fun t293 => if true = true then (paths_Compare.f k t291 t292).bind fun t294 => if t294 = t293 then (if d.toList = ([] : List UInt8) then (if t293 ≥ 0 then (some true) else (some true)) else (paths_Compare.f k d t291).bind fun t295 => if t295 = (-1) then (if t293 ≥ 0 then (some true) else (paths_Within.f t291 t292).bind fun t296 => if t296 = true then (some true) else (paths_Join.f t291 (⟨#[122]⟩ : ByteArray)).bind fun t297 => (paths_Compare.f k t297 t292).bind fun t298 => some (t298 == (-1))) else (some false)) else (some false) else (some false)) true := by
  have sp : (ofB (joinB (tl d) (tl x))).size ≤ 201 := by
    have := joinB_size (tl d) (tl x)
    rw [ofB_size]; rw [tl_size, tl_size] at this; omega
  have sq : (ofB (joinB (tl d) (tl y))).size ≤ 201 := by
    have := joinB_size (tl d) (tl y)
    rw [ofB_size]; rw [tl_size, tl_size] at this; omega
  refine evval (join_ok (by omega) (by omega)) (evval (join_ok (by omega) (by omega)) (Ev.bind (compare_ok (by omega) (by omega)) (evpos rfl (Ev.bind (compare_ok (by omega) (by omega)) (evpos ?_ ?_)))))
  · rw [tl_ofB, tl_ofB]; exact joinB_cmp _ _ _
  · by_cases c : tl d = []
    · refine evpos (by rw [toList_tl]; exact c) ?_
      by_cases c2 : pcmp (tl x) (tl y) ≥ 0
      · exact evpos c2 (Ev.now _)
      · exact evneg c2 (Ev.now _)
    · refine evneg (by rw [toList_tl]; exact c) (Ev.bind (compare_ok (by omega) (by omega)) (evpos (by rw [tl_ofB]; exact joinB_front c _) ?_))
      by_cases c2 : pcmp (tl x) (tl y) ≥ 0
      · exact evpos c2 (Ev.now _)
      · refine evneg c2 (evval (within_ok (by omega)) ?_)
        by_cases c3 : withinB (tl (ofB (joinB (tl d) (tl x)))) (tl (ofB (joinB (tl d) (tl y)))) = true
        · exact evpos c3 (Ev.now _)
        · refine evneg c3 (evval (join_ok (by omega) (by decide)) (Ev.bind (compare_ok ?_ (by omega)) ?_))
          · have := joinB_size (tl (ofB (joinB (tl d) (tl x)))) (tl (⟨#[122]⟩ : ByteArray))
            rw [ofB_size]
            rw [tl_size, tl_size] at this
            have h1 : (⟨#[122]⟩ : ByteArray).size = 1 := rfl
            omega
          · rw [tl_ofB, tl_ofB] at c3
            rw [tl_ofB, tl_ofB, tl_ofB]
            have hne := joinB_ne c (tl x)
            have hlt : pcmp (joinB (tl d) (tl x)) (joinB (tl d) (tl y)) < 0 := by rw [joinB_cmp]; omega
            have hin := pcmp_in (tl (⟨#[122]⟩ : ByteArray)) hlt (fun t ht => c3 ((within_true hne).2 ⟨t, ht⟩))
            have hj : joinB (joinB (tl d) (tl x)) (tl (⟨#[122]⟩ : ByteArray)) = joinB (tl d) (tl x) ++ 47 :: tl (⟨#[122]⟩ : ByteArray) := by
              generalize joinB (tl d) (tl x) = u at *
              unfold joinB
              rw [if_neg hne]
            rw [hj]
            have hr := pcmp_range (joinB (tl d) (tl x) ++ 47 :: tl (⟨#[122]⟩ : ByteArray)) (joinB (tl d) (tl y))
            have e : pcmp (joinB (tl d) (tl x) ++ 47 :: tl (⟨#[122]⟩ : ByteArray)) (joinB (tl d) (tl y)) = -1 := by omega
            rw [e]
            exact Ev.now _
theorem PathsNames : collatorlaw01_PathsNames.Pure := by
  intro a b c _ _ _
  obtain ⟨a1, a2, a3⟩ := mn_take a 100
  obtain ⟨b1, b2, b3⟩ := mn_take b 100
  obtain ⟨c1, c2, c3⟩ := mn_take c 100
  refine Ev.rounds ?_
  unfold collatorlaw01_PathsNames.f
  exact Ev.bind awake1_ok (evpos a1 (evpos a2 (evpos b1 (evpos b2 (evpos c1 (evpos c2 (names_fin a3 b3 c3)))))))
end Go.Proofs.YtjfeddpelakdjaaDoor.Pure
