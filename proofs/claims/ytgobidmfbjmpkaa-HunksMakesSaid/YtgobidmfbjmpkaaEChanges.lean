/- hunks.changes: whether some edit is no keep: by a walk of slices.ContainsFunc, IndexFunc and the closure. -/
import Derived.WalkMore
import Derived.IntWalk
import Derived.Test.YtgobidmfbjmpkaaPx0
set_option linter.unusedVariables false
set_option linter.unusedSimpArgs false
namespace Go.Proofs.Ytgobidmfbjmpkaa.P
open Go Go.RowKit Go.Proofs.YtgobidmfbjmpkaaW.PrintWords Go.Proofs.YtgobidmfbjmpkaaW.PrintLast Go.Proofs.YtgobidmfbjmpkaaW.PrintMore
theorem changes1_calls (o n : Int) (u : Value) (hu : u.oneCell' = true) (w : World) :
  Calls Try.prog 59 #[.agg #[.int .i64 o, .int .i64 n, u]] w fun e w' => e = .returned (.bool (o != 1)) ∧ Below w.heap.size w w' := by
 go_enter Try.func59, Try.ntmps59
 go_wp2
 go_ret
 exact ⟨rfl, below_alloc (Below.refl _ _) _⟩
theorem indexFunc_calls (A0 : Option Addr) (c0 : Nat) (l0 : List S31) (w : World) (hr0 : Kd.C k31 w A0 l0.length l0) (hc0 : l0.length ≤ c0) (hl : l0.length ≤ 9000000000000000000) :
  Calls Try.prog 64 #[.slice A0 l0.length c0, .func (.func 59) #[] #[]] w fun e w' => (∃ r : Int, e = .returned (.int .i64 r) ∧ decide (r ≥ 0) = l0.any (fun x => x.f0 != 1)) ∧ Below w.heap.size w w' := by
 have HR := Aside0.mk hr0
 clear hr0
 go_enter Try.func64, Try.ntmps64
 go_wp2
 go_loopg [8] (l0.length + 1) (fun kq v w' => ∃ i : Nat, v = .int .i64 (i : Int) ∧ kq + i = l0.length + 1 ∧ Aside0 (∀ x ∈ l0.take i, x.f0 = 1) ∧ Aside0 (Below w.heap.size w w'))
 case atStart => exact ⟨0, rfl, by omega, ⟨by simp⟩, ⟨Below.refl _ _⟩⟩
 case round =>
  obtain ⟨i, rfl, hk, HA, HB⟩ := hrel
  by_cases c : i < l0.length
  ·have cb : decide ((i : Int) < (l0.length : Int)) = true := decide_eq_true (by omega)
   have hin : wrap64 ((i : Int) + 1) = ((i + 1 : Nat) : Int) := by unfold wrap64; omega
   have p1 : 0 ≤ (i : Int) := by omega
   have q1 : (i : Int) < (l0.length : Int) := by omega
   obtain ⟨ad, A2, c2, e1, hx0, hx1, hx2, hl2, hi2⟩ := at_T31 (Kd.C_below HR.out HB.out) (i : Int) p1 q1
   cases e1
   rw [Int.toNat_natCast] at hx0 hx1 hx2
   obtain ⟨x, hx⟩ : ∃ x, x = rd_T31 l0 (i : Int) := ⟨_, rfl⟩
   rw [← hx] at hx0 hx1 hx2 hl2 hi2
   have HX := Aside0.mk hx
   clear hx hl2 hi2
   replace p1 := eq_true p1
   replace q1 := eq_true q1
   have CT := Aside0.mk (changes1_calls x.f0 x.f1 (.slice A2 x.f2.length c2) rfl wr)
   have hget : l0[i]? = some x := by
    rw [HX.out]
    simp [rd_T31, List.getD_eq_getElem?_getD, List.getElem?_eq_getElem c]
   by_cases d : x.f0 = 1
   ·have db : (x.f0 != 1) = false := by simp [d]
    have D := Aside0.mk d
    have G := Aside0.mk hget
    clear d hget
    go_wp2_with (go_at_call 59; refine CT.out.mono ?_; rintro e w2 ⟨rfl, hb2⟩; rw [db])
    have hb3 := below_step HB.out hb2
    cases gk with
    | zero => omega
    | succ k1 =>
     go_roundg k1
     case measure => exact Nat.lt_succ_self _
     case rel =>
      refine ⟨i + 1, by simp, by omega, ⟨?_⟩, ⟨hb3⟩⟩
      rw [List.take_add_one, G.out]
      intro y hy
      rcases List.mem_append.1 hy with hy | hy
      ·exact HA.out y hy
      ·simp at hy; subst hy; exact D.out
   ·have db : (x.f0 != 1) = true := by simp [d]
    have G := Aside0.mk hget
    clear hget
    go_wp2_with (go_at_call 59; refine CT.out.mono ?_; rintro e w2 ⟨rfl, hb2⟩; rw [db])
    have hb3 := below_step HB.out hb2
    go_ret
    refine ⟨⟨_, rfl, ?_⟩, hb3⟩
    have hany : l0.any (fun x => x.f0 != 1) = true := List.any_eq_true.2 ⟨x, List.mem_of_getElem? G.out, db⟩
    rw [hany]
    exact decide_eq_true (by omega)
  ·have cb : decide ((i : Int) < (l0.length : Int)) = false := decide_eq_false (by omega)
   go_wp2
   go_ret
   refine ⟨⟨_, rfl, ?_⟩, HB.out⟩
   have hany : l0.any (fun x => x.f0 != 1) = false := by
    rw [List.any_eq_false]
    intro y hy
    have := HA.out y (by rw [List.take_of_length_le (by omega)]; exact hy)
    simp [this]
   rw [hany]
   rfl
theorem containsFunc_calls (A0 : Option Addr) (c0 : Nat) (l0 : List S31) (w : World) (hr0 : Kd.C k31 w A0 l0.length l0) (hc0 : l0.length ≤ c0) (hl : l0.length ≤ 9000000000000000000) :
  Calls Try.prog 58 #[.slice A0 l0.length c0, .func (.func 59) #[] #[]] w fun e w' => e = .returned (.bool (l0.any (fun x => x.f0 != 1))) ∧ Below w.heap.size w w' := by
 have CT := Aside0.mk (indexFunc_calls A0 c0 l0 w hr0 hc0 hl)
 clear hr0
 go_enter Try.func58, Try.ntmps58
 go_wp2_with (go_at_call 64; refine CT.out.mono ?_; rintro e w2 ⟨⟨r, rfl, hr⟩, hb2⟩)
 go_ret
 exact ⟨by first | rw [hr] | (rw [← hr]; rfl), hb2⟩
/-- What hunks.changes answers. -/
def hunks_changes.f (l0 : List S31) : Option Bool := if l0.length ≤ 9000000000000000000 then some (l0.any (fun x => x.f0 != 1)) else none
theorem hunks_changes.calls (A0 : Option Addr) (c0 : Nat) (l0 : List S31) (r : Bool) (w : World) (hr0 : Kd.C k31 w A0 l0.length l0) (hc0 : l0.length ≤ c0) (h : hunks_changes.f l0 = some r) :
  Calls Try.prog 40 #[.slice A0 l0.length c0] w fun e w' => e = .returned (.bool r) ∧ Below w.heap.size w w' := by
 unfold hunks_changes.f at h
 split at h
 ·rename_i hl
  obtain rfl := Option.some.inj h
  have CT := Aside0.mk (containsFunc_calls A0 c0 l0 w hr0 hc0 hl)
  clear hr0 h
  go_enter Try.func40, Try.ntmps40
  go_wp2_with (go_at_call 58; refine CT.out.mono ?_; rintro e w2 ⟨rfl, hb2⟩)
  go_ret
  exact ⟨rfl, hb2⟩
 ·cases h
end Go.Proofs.Ytgobidmfbjmpkaa.P
