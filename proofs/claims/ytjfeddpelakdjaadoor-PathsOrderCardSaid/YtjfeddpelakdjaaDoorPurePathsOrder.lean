/- PathsOrder: Compare is an order: the plain law over the printed function. -/
import Derived.Test.YtjfeddpelakdjaaDoorPxf4
import Derived.Test.YtjfeddpelakdjaaDoorQPathEv
set_option linter.unusedVariables false
set_option linter.unusedSimpArgs false
namespace Go.Proofs.YtjfeddpelakdjaaDoor.Pure
open Go Go.RowKit Go.Proofs.YtjfeddpelakdjaaDoor.P Go.Proofs.YtjfeddpelakdjaaDoorW.PrintWords Go.Proofs.YtjfeddpelakdjaaDoorW.PrintLast Go.Proofs.YtjfeddpelakdjaaDoorW.PrintMore Go.Proofs.YtjfeddpelakdjaaDoor.Q
theorem order_end (p q r : Int) (hp : p = -1 ∨ p = 0 ∨ p = 1) (hq : q = -1 ∨ q = 0 ∨ q = 1) (hr : r = -1 ∨ r = 0 ∨ r = 1) (h : p ≤ 0 → q ≤ 0 → r ≤ 0 ∧ (p < 0 ∨ q < 0 → r < 0)) :
    (if p > 0 then (if p ≥ 0 then (some true) else (if q > 0 then (some true) else (if r < 0 then (some true) else (some false)))) else (if q > 0 then (if p ≥ 0 then (if q ≥ 0 then (some true) else (some (decide (r < 0)))) else (if q ≥ 0 then (some true) else (some (decide (r < 0))))) else (if r ≤ 0 then (if p ≥ 0 then (if q ≥ 0 then (some true) else (some (decide (r < 0)))) else (if r < 0 then (if q ≥ 0 then (some true) else (some (decide (r < 0)))) else (some false))) else (some false)))) = some true := by
  rcases hp with rfl | rfl | rfl <;> rcases hq with rfl | rfl | rfl <;> rcases hr with rfl | rfl | rfl <;> first | rfl | (exfalso; have := h (by omega) (by omega); omega)
theorem order_fin {x y z : ByteArray} (hx : x.size ≤ 100) (hy : y.size ≤ 100) (hz : z.size ≤ 100) :
    Ev (fun k => (paths_Compare.f k x y).bind fun t221 => (paths_Compare.f k y z).bind fun t222 => (paths_Compare.f k x z).bind fun t223 => if t221 < (-1) then (some false) else if t221 > 1 then (some false) else (paths_Compare.f k y x).bind fun t224 => if t221 = (wrap64 (-t224)) then (if ((t221 == 0) != (x.toList == y.toList)) = true then (some false) else (if true = true then (if t221 > 0 then (if t221 ≥ 0 then (some true) else (if t222 > 0 then (some true) else (if t223 < 0 then (some true) else (some false)))) else (if t222 > 0 then (if t221 ≥ 0 then (if t222 ≥ 0 then (some true) else (some (decide (t223 < 0)))) else (if t222 ≥ 0 then (some true) else (some (decide (t223 < 0))))) else (if t223 ≤ 0 then (if t221 ≥ 0 then (if t222 ≥ 0 then (some true) else (some (decide (t223 < 0)))) else (if t223 < 0 then (if t222 ≥ 0 then (some true) else (some (decide (t223 < 0)))) else (some false))) else (some false)))) else (some false))) else (some false)) true := by
  have hp := pcmp_range (tl x) (tl y)
  have hq := pcmp_range (tl y) (tl z)
  have hr := pcmp_range (tl x) (tl z)
  have ht := pcmp_trans (tl x) (tl y) (tl z)
  have hn := pcmp_neg (tl x) (tl y)
  have he : ((pcmp (tl x) (tl y) == 0) != (x.toList == y.toList)) = false := by
    rw [toList_tl, toList_tl, bne_eq_false_iff_eq, Bool.eq_iff_iff, beq_iff_eq, beq_iff_eq]
    exact pcmp_zero _ _
  have hend := order_end _ _ _ hp hq hr ht
  have hw : pcmp (tl x) (tl y) = wrap64 (-pcmp (tl y) (tl x)) := by rw [hn, w64 (by omega) (by omega)]; omega
  refine Ev.bind (compare_ok (by omega) (by omega)) (Ev.bind (compare_ok (by omega) (by omega)) (Ev.bind (compare_ok (by omega) (by omega)) (evneg (by omega) (evneg (by omega) (Ev.bind (compare_ok (by omega) (by omega)) (evpos hw (evneg (by rw [he]; decide) (evpos rfl ?_))))))))
  rw [hend]
  exact Ev.now _
theorem PathsOrder : collatorlaw01_PathsOrder.Pure := by
  intro a b c _ _ _
  obtain ⟨a1, a2, a3⟩ := mn_take a 100
  obtain ⟨b1, b2, b3⟩ := mn_take b 100
  obtain ⟨c1, c2, c3⟩ := mn_take c 100
  refine Ev.rounds ?_
  unfold collatorlaw01_PathsOrder.f
  exact Ev.bind awake1_ok (evpos a1 (evpos a2 (evpos b1 (evpos b2 (evpos c1 (evpos c2 (order_fin a3 b3 c3)))))))
end Go.Proofs.YtjfeddpelakdjaaDoor.Pure
