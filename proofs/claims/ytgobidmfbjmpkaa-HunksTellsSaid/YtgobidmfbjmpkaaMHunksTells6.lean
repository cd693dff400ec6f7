/- Texts of this claim, joined: EChanges, ERightP, GScr, Pxf22, ESame6, Pxf24, EAwake6, Pxf11. -/
import Derived.WalkMore
import Derived.IntWalk
import Derived.Test.YtgobidmfbjmpkaaMHunksTells1
import Derived.Lib.Hide
import Derived.Test.YtgobidmfbjmpkaaMHunksTells5
import Derived.Test.YtgobidmfbjmpkaaMHunksTells4
import Derived.Test.YtgobidmfbjmpkaaMHunksTells2
import Derived.Shelf.Abstract
import Derived.WalkKit
import Derived.OwnWalkIn
import Derived.TacticsInMore
import Derived.LoopNIn
import Derived.LoopIn
import Derived.Outline
import Derived.RangeFuncBox
import Derived.RangeFuncNested
import Derived.Test.YtgobidmfbjmpkaaMHunksTells3
section
/- hunks.changes: whether some edit is no keep: by a walk of slices.ContainsFunc, IndexFunc and the closure. -/
set_option linter.unusedVariables false
set_option linter.unusedSimpArgs false
namespace Go.Proofs.Ytgobidmfbjmpkaa.P
open Go Go.RowKit Go.Proofs.YtgobidmfbjmpkaaW.PrintWords Go.Proofs.YtgobidmfbjmpkaaW.PrintLast Go.Proofs.YtgobidmfbjmpkaaW.PrintMore
theorem changes1_calls (o n : Int) (u : Value) (hu : u.oneCell' = true) (w : World) :
  Calls Try.prog 59 #[.agg #[.int .i64 o, .int .i64 n, u]] w fun e w' => e = .returned (.bool (o != 1)) ∧ Below w.heap.size w w' := by
 go_enter Try.func59, Try.ntmps59
 go_wp2
 go_ret
 exact ⟨rfl, below_alloc (Below.refl _ _) _⟩
theorem indexFunc_calls (A0 : Option Addr) (c0 : Nat) (l0 : List S31) (w : World) (hr0 : Kd.C k31 w A0 l0.length l0) (hc0 : l0.length ≤ c0) (hl : l0.length ≤ 9000000000000000000) :
  Calls Try.prog 64 #[.slice A0 l0.length c0, .func (.func 59) #[] #[]] w fun e w' => (∃ r : Int, e = .returned (.int .i64 r) ∧ decide (r ≥ 0) = l0.any (fun x => x.f0 != 1)) ∧ Below w.heap.size w w' := by
 have HR := Aside0.mk hr0
 clear hr0
 go_enter Try.func64, Try.ntmps64
 go_wp2
 go_loopg [8] (l0.length + 1) (fun kq v w' => ∃ i : Nat, v = .int .i64 (i : Int) ∧ kq + i = l0.length + 1 ∧ Aside0 (∀ x ∈ l0.take i, x.f0 = 1) ∧ Aside0 (Below w.heap.size w w'))
 case atStart => exact ⟨0, rfl, by omega, ⟨by simp⟩, ⟨Below.refl _ _⟩⟩
 case round =>
  obtain ⟨i, rfl, hk, HA, HB⟩ := hrel
  by_cases c : i < l0.length
  ·have cb : decide ((i : Int) < (l0.length : Int)) = true := decide_eq_true (by omega)
   have hin : wrap64 ((i : Int) + 1) = ((i + 1 : Nat) : Int) := by unfold wrap64; omega
   have p1 : 0 ≤ (i : Int) := by omega
   have q1 : (i : Int) < (l0.length : Int) := by omega
   obtain ⟨ad, A2, c2, e1, hx0, hx1, hx2, hl2, hi2⟩ := at_T31 (Kd.C_below HR.out HB.out) (i : Int) p1 q1
   cases e1
   rw [Int.toNat_natCast] at hx0 hx1 hx2
   obtain ⟨x, hx⟩ : ∃ x, x = rd_T31 l0 (i : Int) := ⟨_, rfl⟩
   rw [← hx] at hx0 hx1 hx2 hl2 hi2
   have HX := Aside0.mk hx
   clear hx hl2 hi2
   replace p1 := eq_true p1
   replace q1 := eq_true q1
   have CT := Aside0.mk (changes1_calls x.f0 x.f1 (.slice A2 x.f2.length c2) rfl wr)
   have hget : l0[i]? = some x := by
    rw [HX.out]
    simp [rd_T31, List.getD_eq_getElem?_getD, List.getElem?_eq_getElem c]
   by_cases d : x.f0 = 1
   ·have db : (x.f0 != 1) = false := by simp [d]
    have D := Aside0.mk d
    have G := Aside0.mk hget
    clear d hget
    go_wp2_with (go_at_call 59; refine CT.out.mono ?_; rintro e w2 ⟨rfl, hb2⟩; rw [db])
    have hb3 := below_step HB.out hb2
    cases gk with
    | zero => omega
    | succ k1 =>
     go_roundg k1
     case measure => exact Nat.lt_succ_self _
     case rel =>
      refine ⟨i + 1, by simp, by omega, ⟨?_⟩, ⟨hb3⟩⟩
      rw [List.take_add_one, G.out]
      intro y hy
      rcases List.mem_append.1 hy with hy | hy
      ·exact HA.out y hy
      ·simp at hy; subst hy; exact D.out
   ·have db : (x.f0 != 1) = true := by simp [d]
    have G := Aside0.mk hget
    clear hget
    go_wp2_with (go_at_call 59; refine CT.out.mono ?_; rintro e w2 ⟨rfl, hb2⟩; rw [db])
    have hb3 := below_step HB.out hb2
    go_ret
    refine ⟨⟨_, rfl, ?_⟩, hb3⟩
    have hany : l0.any (fun x => x.f0 != 1) = true := List.any_eq_true.2 ⟨x, List.mem_of_getElem? G.out, db⟩
    rw [hany]
    exact decide_eq_true (by omega)
  ·have cb : decide ((i : Int) < (l0.length : Int)) = false := decide_eq_false (by omega)
   go_wp2
   go_ret
   refine ⟨⟨_, rfl, ?_⟩, HB.out⟩
   have hany : l0.any (fun x => x.f0 != 1) = false := by
    rw [List.any_eq_false]
    intro y hy
    have := HA.out y (by rw [List.take_of_length_le (by omega)]; exact hy)
    simp [this]
   rw [hany]
   rfl
theorem containsFunc_calls (A0 : Option Addr) (c0 : Nat) (l0 : List S31) (w : World) (hr0 : Kd.C k31 w A0 l0.length l0) (hc0 : l0.length ≤ c0) (hl : l0.length ≤ 9000000000000000000) :
  Calls Try.prog 58 #[.slice A0 l0.length c0, .func (.func 59) #[] #[]] w fun e w' => e = .returned (.bool (l0.any (fun x => x.f0 != 1))) ∧ Below w.heap.size w w' := by
 have CT := Aside0.mk (indexFunc_calls A0 c0 l0 w hr0 hc0 hl)
 clear hr0
 go_enter Try.func58, Try.ntmps58
 go_wp2_with (go_at_call 64; refine CT.out.mono ?_; rintro e w2 ⟨⟨r, rfl, hr⟩, hb2⟩)
 go_ret
 exact ⟨by first | rw [hr] | (rw [← hr]; rfl), hb2⟩
/-- What hunks.changes answers. -/
def hunks_changes.f (l0 : List S31) : Option Bool := if l0.length ≤ 9000000000000000000 then some (l0.any (fun x => x.f0 != 1)) else none
theorem hunks_changes.calls (A0 : Option Addr) (c0 : Nat) (l0 : List S31) (r : Bool) (w : World) (hr0 : Kd.C k31 w A0 l0.length l0) (hc0 : l0.length ≤ c0) (h : hunks_changes.f l0 = some r) :
  Calls Try.prog 40 #[.slice A0 l0.length c0] w fun e w' => e = .returned (.bool r) ∧ Below w.heap.size w w' := by
 unfold hunks_changes.f at h
 split at h
 ·rename_i hl
  obtain rfl := Option.some.inj h
  have CT := Aside0.mk (containsFunc_calls A0 c0 l0 w hr0 hc0 hl)
  clear hr0 h
  go_enter Try.func40, Try.ntmps40
  go_wp2_with (go_at_call 58; refine CT.out.mono ?_; rintro e w2 ⟨rfl, hb2⟩)
  go_ret
  exact ⟨rfl, hb2⟩
 ·cases h
end Go.Proofs.Ytgobidmfbjmpkaa.P
end
section
/- hunks.Right: by a walk of its text. -/
set_option linter.unusedVariables false
set_option linter.unusedSimpArgs false
namespace Go.Proofs.Ytgobidmfbjmpkaa.Q
open Go Go.RowKit Go.Proofs.Ytgobidmfbjmpkaa.P Go.Proofs.YtgobidmfbjmpkaaW.PrintWords
theorem rH_no {f : Bool} {a b : Int} {x : HkS} {t : List HkS} (h : rightB 0 x.f2 = false ∨ chB x.f2 = false ∨ x.f0 < 0 ∨ 1048576 < x.f0 ∨ (f = true ∧ x.f1 ≠ x.f0) ∨ (f = false ∧ (x.f0 - a < 1 ∨ x.f1 - b ≠ x.f0 - a))) : rightH f a b (x :: t) = false := by
 unfold rightH
 rcases h with h | h | h | h | ⟨rfl, h⟩ | ⟨rfl, h⟩
 ·simp [h]
 ·simp [h]
 ·simp [show ¬ 0 ≤ x.f0 by omega]
 ·simp [show ¬ x.f0 ≤ 1048576 by omega]
 ·simp [h]
 ·rcases h with h | h
  ·simp [show ¬ 1 ≤ x.f0 - a by omega]
  ·simp [h]
theorem rH_next {f : Bool} {a b : Int} {x : HkS} {t : List HkS} (h1 : rightB 0 x.f2 = true) (h2 : chB x.f2 = true) (h3 : 0 ≤ x.f0 ∧ x.f0 ≤ 1048576) (h4 : (f = true ∧ x.f1 = x.f0) ∨ (f = false ∧ 1 ≤ x.f0 - a ∧ x.f1 - b = x.f0 - a)) : rightH f a b (x :: t) = rightH false (x.f0 + takes x.f2) (x.f1 + makes x.f2) t := by
 conv => lhs; unfold rightH
 rcases h4 with ⟨rfl, h⟩ | ⟨rfl, h, h'⟩
 ·simp [h1, h2, h3, h]
 ·simp [h1, h2, h3, h, h']
def RightOk (h : List HkS) : Prop := h.length ≤ 100000 ∧ ∀ x ∈ h, x.f2.length ≤ 100000 ∧ (-9223372036854775808 ≤ x.f0 ∧ x.f0 ≤ 9223372036854775807) ∧ (-9223372036854775808 ≤ x.f1 ∧ x.f1 ≤ 9223372036854775807)
instance (h : List HkS) : Decidable (RightOk h) := by unfold RightOk; exact inferInstance
end Go.Proofs.Ytgobidmfbjmpkaa.Q
namespace Go.Proofs.Ytgobidmfbjmpkaa.P
open Go Go.RowKit Go.Proofs.YtgobidmfbjmpkaaW.PrintWords Go.Proofs.YtgobidmfbjmpkaaW.PrintLast Go.Proofs.YtgobidmfbjmpkaaW.PrintMore Go.Proofs.Ytgobidmfbjmpkaa.Q
set_option maxRecDepth 100000 in
set_option maxHeartbeats 8000000 in
theorem hright_run (A0 : Option Addr) (c0 : Nat) (l0 : List S28) (w : World) (hr0 : Kd.C k28 w A0 l0.length l0) (hc0 : l0.length ≤ c0) (hl : RightOk l0) : Calls Try.prog 16 #[.slice A0 l0.length c0] w fun e w' => e = .returned (.bool (rightH true 0 0 l0)) ∧ Below w.heap.size w w' := by
 have HR0 := Lib.hid hr0
 have HL := Lib.hid hl
 obtain ⟨r, hr⟩ : ∃ r, r = rightH true 0 0 l0 := ⟨_, rfl⟩
 rw [← hr]
 have HR := Lib.hid hr
 clear hr0 hl hr
 go_enter Try.func16, Try.ntmps16
 go_wp2
 go_loopw [3, 4, 12] (fun v3 v4 v_ wr => ∃ (i : Nat) (a b : Int), v3 = .int .i64 a ∧ v4 = .int .i64 b ∧ v_ = .int .i64 (i : Int) ∧ i ≤ l0.length ∧ (0 ≤ a ∧ a ≤ 1000000000000) ∧ (0 ≤ b ∧ b ≤ 1000000000000 * i) ∧ Hid (r = rightH (i == 0) a b (l0.drop i)) ∧ Hid (Below w.heap.size w wr)) (fun _ _ v_ _ => l0.length - (intOf v_).toNat)
 case atStart => exact ⟨0, 0, 0, rfl, rfl, rfl, Nat.zero_le _, by omega, by omega, HR, Below.refl _ _⟩
 case round =>
  clear HR
  obtain ⟨i, a, b, rfl, rfl, rfl, hi, ha, hb, HI, HB⟩ := hrel
  by_cases ci : i < l0.length
  ·have b0 : decide ((i : Int) < (l0.length : Int)) = true := decide_eq_true (by omega)
   have b1 : decide (i < l0.length) = true := decide_eq_true ci
   have h1 := HI.out
   rw [drop_rdH ci] at h1
   obtain ⟨ad, A2, d2, e0, hx0, hx1, hx2, hxl, hxc⟩ := at_T28 HR0.out (i : Int) (by omega) (by omega)
   subst e0
   rw [Int.toNat_natCast] at hx0 hx1 hx2
   have hmem : rd_T28 l0 (i : Int) ∈ l0 := by
    have := drop_rdH ci
    exact List.mem_of_mem_drop (this ▸ List.mem_cons_self)
   obtain ⟨x, hx⟩ : ∃ x, x = rd_T28 l0 (i : Int) := ⟨_, rfl⟩
   rw [← hx] at hx0 hx1 hx2 hxl hxc h1 hmem
   obtain ⟨ox1, ox2, ox3⟩ := HL.out.2 x hmem
   have H1 := Lib.hid h1
   have HXL := Lib.hid hxl
   have HXC := Lib.hid hxc
   have OX := Lib.hid ox1
   have hn := HL.out.1
   have p0 := eq_true (show 0 ≤ (i : Int) by omega)
   have p1 := eq_true (show (i : Int) < (l0.length : Int) by omega)
   have hin : wrap64 ((i : Int) + 1) = ((i + 1 : Nat) : Int) := by unfold wrap64; omega
   have g0 := (HB.out.cell (World.block_lt_of_cell? _ _ hx0)).trans hx0
   have g1 := (HB.out.cell (World.block_lt_of_cell? _ _ hx1)).trans hx1
   have g2 := (HB.out.cell (World.block_lt_of_cell? _ _ hx2)).trans hx2
   clear hx h1 hx0 hx1 hx2 hxl hxc HI hmem ox1
   obtain ⟨bR, hbR⟩ : ∃ b, b = rightB 0 x.f2 := ⟨_, rfl⟩
   obtain ⟨bC, hbC⟩ : ∃ b, b = chB x.f2 := ⟨_, rfl⟩
   have HBR := Lib.hid hbR
   have HBC := Lib.hid hbC
   obtain ⟨kR, hkR⟩ := (right_ev x.f2 (by have := OX.out; omega)).rounds
   rw [← hbR] at hkR
   have HKR := Lib.hid hkR
   have HKC := Lib.hid (show hunks_changes.f x.f2 = some bC by rw [hbC]; exact if_pos (by have := OX.out; omega))
   clear hbR hbC hkR
   obtain ⟨X, hX⟩ : ∃ X, X = wr.alloc (.cells #[.int .i64 x.f0, .int .i64 x.f1, .slice A2 x.f2.length d2] 28) := ⟨_, rfl⟩
   have hbx : X.heap[wr.heap.size]? = some (.cells #[.int .i64 x.f0, .int .i64 x.f1, .slice A2 x.f2.length d2] 28 (0, 0)) := by rw [hX]; exact heap_alloc_new wr _
   have HX := Lib.hid hX
   have n_ := Lib.hid (below_step HB.out (show Below wr.heap.size wr X by rw [hX]; exact (Below.refl _ _).alloc (Nat.le_refl _) _))
   clear HB hX
   have HB := n_
   clear n_
   have HBX := Lib.hid hbx
   have q0 := (blk_cell hbx 0).trans (rfl : _ = some (Value.int .i64 x.f0))
   have q1 := (blk_cell hbx 1).trans (rfl : _ = some (Value.int .i64 x.f1))
   have q2 := (blk_cell hbx 2).trans (rfl : _ = some (Value.slice A2 x.f2.length d2))
   obtain ⟨g, hg⟩ : ∃ g, g = wrap64 (x.f0 - a) := ⟨_, rfl⟩
   obtain ⟨d, hd⟩ : ∃ d, d = wrap64 (x.f1 - b) := ⟨_, rfl⟩
   have s1 : IntKind.i64.wrap (x.f0 - a) = g := by rw [hg, i64_w]
   have s2 : IntKind.i64.wrap (x.f1 - b) = d := by rw [hd, i64_w]
   have HG := Lib.hid (show 0 ≤ x.f0 → x.f0 ≤ 1048576 → g = x.f0 - a ∧ (d = x.f0 - a ↔ x.f1 - b = x.f0 - a) from fun h h' => ⟨by rw [hg]; unfold wrap64; omega, by rw [hd]; unfold wrap64; omega⟩)
   have HO := Lib.hid (And.intro ha (And.intro hb (And.intro ox2 ox3)))
   clear hbx hg hd ha hb ox2 ox3 b1
   cases bR with
   | false =>
    have HNO := Lib.hid (show r = false by rw [H1.out]; exact rH_no (.inl HBR.out.symm))
    go_wp2_with (first | rw [← HX.out] | (go_at_call 31; refine (script_Right.calls kR A2 d2 x.f2 false _ (Kd.C_below HXC.out HB.out) HXL.out HKR.out).mono ?_; rintro e W1 ⟨rfl, hb⟩; have n_ := Lib.hid (below_step HB.out hb); clear HB; have HB := n_; clear n_; have n_ := Lib.hid (blk_below HBX.out hb); clear HBX; have HBX := n_; clear n_ hb q0 q1 q2; have q0 := (blk_cell HBX.out 0).trans (rfl : _ = some (Value.int .i64 x.f0)); have q1 := (blk_cell HBX.out 1).trans (rfl : _ = some (Value.int .i64 x.f1)); have q2 := (blk_cell HBX.out 2).trans (rfl : _ = some (Value.slice A2 x.f2.length d2))))
    go_ret
    exact ⟨by rw [HNO.out]; rfl, HB.out⟩
   | true =>
    obtain ⟨kS, hkS⟩ := (spans_ev x.f2 (by have := OX.out; omega) HBR.out.symm).rounds
    obtain ⟨tk, htk⟩ : ∃ t, t = takes x.f2 := ⟨_, rfl⟩
    obtain ⟨mk, hmk⟩ : ∃ t, t = makes x.f2 := ⟨_, rfl⟩
    rw [← htk, ← hmk] at hkS
    have HKS := Lib.hid hkS
    have hbd := spans_bd ((right_iff _).1 HBR.out.symm).1
    rw [← htk, ← hmk] at hbd
    have HBD := Lib.hid hbd
    have HTM := Lib.hid (And.intro htk hmk)
    clear hkS htk hmk hbd
    cases bC with
    | false =>
     have HNO := Lib.hid (show r = false by rw [H1.out]; exact rH_no (.inr (.inl HBC.out.symm)))
     go_wp2_with (first | rw [← HX.out] | (go_at_call 31; refine (script_Right.calls kR A2 d2 x.f2 true _ (Kd.C_below HXC.out HB.out) HXL.out HKR.out).mono ?_; rintro e W1 ⟨rfl, hb⟩; have n_ := Lib.hid (below_step HB.out hb); clear HB; have HB := n_; clear n_; have n_ := Lib.hid (blk_below HBX.out hb); clear HBX; have HBX := n_; clear n_ hb q0 q1 q2; have q0 := (blk_cell HBX.out 0).trans (rfl : _ = some (Value.int .i64 x.f0)); have q1 := (blk_cell HBX.out 1).trans (rfl : _ = some (Value.int .i64 x.f1)); have q2 := (blk_cell HBX.out 2).trans (rfl : _ = some (Value.slice A2 x.f2.length d2))) | (go_at_call 40; refine (hunks_changes.calls A2 d2 x.f2 false _ (Kd.C_below HXC.out HB.out) HXL.out HKC.out).mono ?_; rintro e W1 ⟨rfl, hb⟩; have n_ := Lib.hid (below_step HB.out hb); clear HB; have HB := n_; clear n_; have n_ := Lib.hid (blk_below HBX.out hb); clear HBX; have HBX := n_; clear n_ hb q0 q1 q2; have q0 := (blk_cell HBX.out 0).trans (rfl : _ = some (Value.int .i64 x.f0)); have q1 := (blk_cell HBX.out 1).trans (rfl : _ = some (Value.int .i64 x.f1)); have q2 := (blk_cell HBX.out 2).trans (rfl : _ = some (Value.slice A2 x.f2.length d2))))
     go_ret
     exact ⟨by rw [HNO.out]; rfl, HB.out⟩
    | true =>
     obtain ⟨z1, hz1⟩ : ∃ z, z = wrap64 (x.f0 + tk) := ⟨_, rfl⟩
     obtain ⟨z2, hz2⟩ : ∃ z, z = wrap64 (x.f1 + mk) := ⟨_, rfl⟩
     have s3 : IntKind.i64.wrap (x.f0 + tk) = z1 := by rw [hz1, i64_w]
     have s4 : IntKind.i64.wrap (x.f1 + mk) = z2 := by rw [hz2, i64_w]
     have HZ := Lib.hid (And.intro hz1 hz2)
     clear hz1 hz2
     have HF := Lib.hid (show ((x.f0 < 0 ∨ 1048576 < x.f0) ∨ (i = 0 ∧ ¬ x.f1 = x.f0) ∨ (¬ i = 0 ∧ (g < 1 ∨ (d != g) = true))) → r = false by
      intro h
      rw [H1.out]
      have hg := HG.out
      refine rH_no (.inr (.inr ?_))
      by_cases hx : x.f0 < 0 ∨ 1048576 < x.f0
      ·rcases hx with hx | hx
       ·exact .inl hx
       ·exact .inr (.inl hx)
      ·obtain ⟨hg1, hg2⟩ := hg (by omega) (by omega)
       rcases h with h | ⟨h, h'⟩ | ⟨h, h'⟩
       ·exact absurd h hx
       ·exact .inr (.inr (.inl ⟨by simp [h], h'⟩))
       ·refine .inr (.inr (.inr ⟨by simp [h], ?_⟩))
        rcases h' with h' | h'
        ·exact .inl (by omega)
        ·exact .inr (fun e => by rw [hg1, bne_iff_ne] at h'; exact h' (hg2.mpr e)))
     have HN := Lib.hid (show 0 ≤ x.f0 → x.f0 ≤ 1048576 → ((i = 0 ∧ x.f1 = x.f0) ∨ (¬ i = 0 ∧ 1 ≤ g ∧ (d != g) = false)) → r = rightH false z1 z2 (l0.drop (i + 1)) ∧ (0 ≤ z1 ∧ z1 ≤ 1000000000000) ∧ (0 ≤ z2 ∧ z2 ≤ 1000000000000 * ((i + 1 : Nat) : Int)) by
      intro h0 h1 h
      obtain ⟨hg1, hg2⟩ := HG.out h0 h1
      obtain ⟨hz1, hz2⟩ := HZ.out
      obtain ⟨ht, hm⟩ := HTM.out
      obtain ⟨ha, hb, -, -⟩ := HO.out
      have hbd := HBD.out
      have hl := OX.out
      have hd : ¬ i = 0 → (d != g) = false → x.f1 - b = x.f0 - a := fun _ h => hg2.mp (by rw [← hg1]; simpa using h)
      have e1 : z1 = x.f0 + tk := by rw [hz1]; unfold wrap64; omega
      have e2 : z2 = x.f1 + mk := by
       rw [hz2]
       rcases h with ⟨h, h'⟩ | ⟨h, h', h''⟩
       ·unfold wrap64; omega
       ·have := hd h h''; unfold wrap64; omega
      refine ⟨?_, by omega, ?_⟩
      ·rw [H1.out, rH_next HBR.out.symm HBC.out.symm ⟨h0, h1⟩ (by
        rcases h with ⟨h, h'⟩ | ⟨h, h', h''⟩
        ·exact .inl ⟨by simp [h], h'⟩
        ·exact .inr ⟨by simp [h], by omega, hd h h''⟩), ← ht, ← hm, ← e1, ← e2]
      ·rcases h with ⟨h, h'⟩ | ⟨h, h', h''⟩
       ·omega
       ·have := hd h h''; omega)
     clear HG HZ HTM HO HBD H1 HBC
     go_wp2_with (first | rw [← HX.out] | (go_at_call 31; refine (script_Right.calls kR A2 d2 x.f2 true _ (Kd.C_below HXC.out HB.out) HXL.out HKR.out).mono ?_; rintro e W1 ⟨rfl, hb⟩; have n_ := Lib.hid (below_step HB.out hb); clear HB; have HB := n_; clear n_; have n_ := Lib.hid (blk_below HBX.out hb); clear HBX; have HBX := n_; clear n_ hb q0 q1 q2; have q0 := (blk_cell HBX.out 0).trans (rfl : _ = some (Value.int .i64 x.f0)); have q1 := (blk_cell HBX.out 1).trans (rfl : _ = some (Value.int .i64 x.f1)); have q2 := (blk_cell HBX.out 2).trans (rfl : _ = some (Value.slice A2 x.f2.length d2))) | (go_at_call 40; refine (hunks_changes.calls A2 d2 x.f2 true _ (Kd.C_below HXC.out HB.out) HXL.out HKC.out).mono ?_; rintro e W1 ⟨rfl, hb⟩; have n_ := Lib.hid (below_step HB.out hb); clear HB; have HB := n_; clear n_; have n_ := Lib.hid (blk_below HBX.out hb); clear HBX; have HBX := n_; clear n_ hb q0 q1 q2; have q0 := (blk_cell HBX.out 0).trans (rfl : _ = some (Value.int .i64 x.f0)); have q1 := (blk_cell HBX.out 1).trans (rfl : _ = some (Value.int .i64 x.f1)); have q2 := (blk_cell HBX.out 2).trans (rfl : _ = some (Value.slice A2 x.f2.length d2))) | (go_at_call 26; refine (script_Spans.calls kS A2 d2 x.f2 tk mk _ (Kd.C_below HXC.out HB.out) HXL.out HKS.out).mono ?_; rintro e W1 ⟨rfl, hb⟩; have n_ := Lib.hid (below_step HB.out hb); clear HB; have HB := n_; clear n_; have n_ := Lib.hid (blk_below HBX.out hb); clear HBX; have HBX := n_; clear n_ hb q0 q1 q2; have q0 := (blk_cell HBX.out 0).trans (rfl : _ = some (Value.int .i64 x.f0)); have q1 := (blk_cell HBX.out 1).trans (rfl : _ = some (Value.int .i64 x.f1)); have q2 := (blk_cell HBX.out 2).trans (rfl : _ = some (Value.slice A2 x.f2.length d2))))
     all_goals first | (go_ret; exact ⟨by rw [HF.out (by first | exact .inl (by omega) | exact .inr (.inl ⟨by assumption, by assumption⟩) | exact .inr (.inr ⟨by assumption, .inl (by assumption)⟩) | exact .inr (.inr ⟨by assumption, by assumption⟩))]; rfl, HB.out⟩) | skip
     all_goals go_quiet (fail)
     all_goals go_wp2
     all_goals (obtain ⟨n1, n2, n3⟩ := HN.out (by omega) (by omega) (by first | exact .inl ⟨by assumption, by assumption⟩ | exact .inr ⟨by assumption, by assumption⟩))
     all_goals exact ⟨⟨i + 1, z1, z2, rfl, by first | rfl | rw [← s4, i64_w, ‹x.f1 = x.f0›], congrArg _ (by omega), ci, n2, n3, Lib.hid n1, Lib.hid (pw_below_drewN HB.out _)⟩, by simp only [intOf]; omega⟩
  ·have b0 : decide ((i : Int) < (l0.length : Int)) = false := decide_eq_false (by omega)
   have b1 : decide (i < l0.length) = false := decide_eq_false ci
   have hn : r = true := by have := HI.out; rw [List.drop_of_length_le (by omega)] at this; exact this
   go_wp2
   go_ret
   exact ⟨by rw [hn]; rfl, HB.out⟩
def hunks_Right.f (k : Nat) (h : List S28) : Option Bool := if RightOk h then some (rightH true 0 0 h) else none
theorem hunks_Right.calls (k : Nat) (A0 : Option Addr) (c0 : Nat) (l0 : List S28) (r : Bool) (w : World) (hr0 : Kd.C k28 w A0 l0.length l0) (hc0 : l0.length ≤ c0) (h : hunks_Right.f k l0 = some r) : Calls Try.prog 16 #[.slice A0 l0.length c0] w fun e w' => e = .returned (.bool r) ∧ Below w.heap.size w w' := by
 unfold hunks_Right.f at h
 split at h
 ·rename_i hl; cases h; exact hright_run A0 c0 l0 w hr0 hc0 hl
 ·cases h
end Go.Proofs.Ytgobidmfbjmpkaa.P
namespace Go.Proofs.Ytgobidmfbjmpkaa.Q
open Go Go.RowKit Go.Proofs.Ytgobidmfbjmpkaa.P Go.Proofs.YtgobidmfbjmpkaaW.PrintWords
theorem rightH_ev (h : List HkS) (hs : h.length ≤ 100000) (hb : ∀ x ∈ h, x.f2.length ≤ 100000 ∧ (-9223372036854775808 ≤ x.f0 ∧ x.f0 ≤ 9223372036854775807) ∧ (-9223372036854775808 ≤ x.f1 ∧ x.f1 ≤ 9223372036854775807)) : Ev (fun k => hunks_Right.f k h) (rightH true 0 0 h) := ⟨0, fun k _ => if_pos ⟨hs, hb⟩⟩
end Go.Proofs.Ytgobidmfbjmpkaa.Q
end
section
/- hunks.Script in plain words. · hunks.joined: its contract over a script of the call's own; by a walk of its text. · hunks.Script: its contract; by a walk of its text. -/
section
set_option linter.unusedVariables false
namespace Go.Proofs.Ytgobidmfbjmpkaa.P
open Go Go.RowKit Go.Proofs.YtgobidmfbjmpkaaW.PrintWords Go.Proofs.YtgobidmfbjmpkaaW.PrintLast Go.Proofs.YtgobidmfbjmpkaaW.PrintMore Go.Proofs.Ytgobidmfbjmpkaa.HEdits
def kpL (n : Int) : List S31 := if n < 1 then [] else [⟨1, n, []⟩]
/-- The hunks from here on: what is made so far, and how many lines that took. -/
def scrL (k : Nat) : List S28 → List S31 → Int → Option (List S31 × Int)
 | [], s, a => some (s, a)
 | x :: xs, s, a => (script_Spans.f k x.f2).bind fun t =>
  if (0 ≤ x.f0 ∧ x.f0 ≤ 1099511627776) ∧ (0 ≤ a ∧ a ≤ 1099511627776) ∧ (0 ≤ t.1 ∧ t.1 ≤ 549755813888) ∧ wt s + (x.f0 - a).natAbs + 2 + wt x.f2 ≤ 1000000000000 then scrL k xs (joinL (joinL s (kpL (x.f0 - a))) x.f2) (x.f0 + t.1) else none
def hunks_Script.f (k : Nat) (h : List S28) (n : Int) : Option (List S31 × Int) := (hunks_Right.f k h).bind fun r =>
 if r = true ∧ 0 ≤ n ∧ n ≤ 1048576 then (if h.length ≤ 1000000000 then (scrL k h [] 0).bind fun q => if q.2 > n then some ([], 11) else (if 0 ≤ q.2 ∧ wt q.1 + n.natAbs + q.2.natAbs + 2 ≤ 1000000000000 then some (joinL q.1 (kpL (n - q.2)), 0) else none) else none)
 else some ([], 1)
theorem scrL_cons {k : Nat} {x : S28} {xs : List S28} {s : List S31} {a : Int} {r : List S31 × Int} (h : scrL k (x :: xs) s a = some r) :
  ∃ t, script_Spans.f k x.f2 = some t ∧ ((0 ≤ x.f0 ∧ x.f0 ≤ 1099511627776) ∧ (0 ≤ a ∧ a ≤ 1099511627776) ∧ (0 ≤ t.1 ∧ t.1 ≤ 549755813888) ∧ wt s + (x.f0 - a).natAbs + 2 + wt x.f2 ≤ 1000000000000) ∧ scrL k xs (joinL (joinL s (kpL (x.f0 - a))) x.f2) (x.f0 + t.1) = some r := by
 unfold scrL at h
 obtain ⟨t, ht, h⟩ := Option.bind_eq_some_iff.1 h
 split at h
 ·rename_i hc
  exact ⟨t, ht, hc, h⟩
 ·cases h
theorem wt_kpL (n : Int) : wt (kpL n) ≤ n.natAbs + 1 := by
 unfold kpL
 split
 ·exact Nat.zero_le _
 ·rw [wt_cons, wt_nil]; exact Nat.le_refl _
end Go.Proofs.Ytgobidmfbjmpkaa.P
end
section
set_option linter.unusedVariables false
set_option linter.unusedSimpArgs false
namespace Go.Proofs.Ytgobidmfbjmpkaa.P
open Go Go.RowKit Go.Shelf Go.Proofs.YtgobidmfbjmpkaaW.PrintWords Go.Proofs.YtgobidmfbjmpkaaW.PrintLast Go.Proofs.YtgobidmfbjmpkaaW.PrintMore Go.Proofs.Ytgobidmfbjmpkaa.HEdits Go.Proofs.Ytgobidmfbjmpkaa.HHunks
attribute [local go_sem] Oper.semAt_some
theorem jw64 {x : Int} (h0 : -9223372036854775808 ≤ x) (h1 : x ≤ 9223372036854775807) : wrap64 x = x := by unfold wrap64; omega
def jtogo (n : Nat) : Value → Nat
 | .int _ i => n - i.toNat
 | _ => 0
/-- Between two rounds. -/
structure JInv (B : Nat) (v : Value) (es : List Ed) (ms : List S31) (w : World) (i : Nat) (v' : Value) (es' : List Ed) (wr : World) : Prop where
 scr : Scr B wr v' es'
 pl : es'.map Ed.plain = joinL (es.map Ed.plain) (ms.take i)
 bel : Below B w wr
 ag : Agree v es w wr
 only : ∀ k, hasS v' es' k → hasS v es k ∨ w.heap.size ≤ k
theorem JInv.typed {B : Nat} {v : Value} {es : List Ed} {ms : List S31} {w : World} {i : Nat} {v' : Value} {es' : List Ed} {wr : World} (h : JInv B v es ms w i v' es' wr) {k : Nat} (hk : hasS v' es' k) : B ≤ k ∧ k < wr.heap.size := by
 obtain ⟨a, b, _⟩ := Scr.has_typed h.scr hk
 exact ⟨a, b⟩
def JEnd (B : Nat) (v : Value) (es : List Ed) (ms : List S31) (w : World) (e : Ending) (w' : World) : Prop := ∃ v' es', e = .returned v' ∧ JInv B v es ms w ms.length v' es' w'
theorem grown_drew (w : World) (row : Option Nat) : w.grownBy w.drew row := ⟨rfl, rfl, rfl, Nat.le_refl _, fun _ _ _ => rfl⟩
theorem JInv.keep {B : Nat} {v : Value} {es : List Ed} {ms : List S31} {w : World} {i : Nat} {v' v1 : Value} {es0 : List Ed} {e0 : Ed} {wr Z Z7 w1 : World} {g cap n : Nat} {E : S31}
  (J : JInv B v es ms w i v' (es0 ++ [e0]) wr) (hB : B ≤ w.heap.size) (hi : i < ms.length) (hE : E = rd_T31 ms (i : Int)) (hop : e0.op = E.f0) (hv : v' = .slice (some ⟨g, 0, none⟩) n cap)
  (g0 : wr.grownBy Z none) (g1 : (Z.setCell ⟨g, es0.length * 3 + 1, none⟩ (.int .i64 (e0.n + E.f1))).grownBy Z7 none)
  (hown : w1.ownsRow B 9 1 v1 (e0.l.length + E.f2.length) (encs Value.string e0.l ++ encs Value.string E.f2)) (hgr : Z7.grownBy w1 e0.v.ownBlock) (hat : v1.ownBlock = e0.v.ownBlock ∨ v1.ownBlock = some Z7.heap.size) :
  JInv B v es ms w (i + 1) v' (es0 ++ [⟨e0.op, e0.n + E.f1, v1, e0.l ++ E.f2⟩]) (w1.setCell ⟨g, es0.length * 3 + 2, none⟩ v1) ∧ w1.cell? ⟨g, es0.length * 3 + 2, none⟩ = some e0.v ∧ w1.frozen? ⟨g, es0.length * 3 + 2, none⟩ = false := by
 have nil_ : ∀ {u : Value}, u.ownBlock = none ∨ u.ownBlock ≠ none := fun {u} => by cases u.ownBlock with
  | none => exact .inl rfl
  | some k => exact .inr (fun e => by cases e)
 have up : ∀ {a b : World} {vv : Value} {ee : List Ed}, Scr B a vv ee → a.grownBy b none → Scr B b vv ee := fun hs hg => ⟨own_other hs.1 hg nil_, fun e he => own_other (hs.2.1 e he) hg nil_, hs.2.2⟩
 have SZ := up J.scr g0
 obtain ⟨g', cap', hv', hgb, hglt, hblk, _⟩ := SZ.last
 have hgg : g' = g := by
  rw [hv] at hv'
  injection hv' with h1 h2 h3
  injection h1 with h1
  injection h1 with h1
  exact h1.symm
 subst hgg
 have S6 : Scr B (Z.setCell ⟨g', es0.length * 3 + 1, none⟩ (.int .i64 (e0.n + E.f1))) v' (es0 ++ [⟨e0.op, e0.n + E.f1, e0.v, e0.l⟩]) :=
  SZ.set hv hblk 1 (by omega) _ ⟨e0.op, e0.n + E.f1, e0.v, e0.l⟩ rfl (SZ.2.1 e0 (by simp)) (fun p hp => (List.pairwise_append.1 SZ.2.2).2.2 p hp e0 (by simp))
 have S7 := up S6 g1
 have s0 := g0.size
 have s1 := g1.size
 have s1' : Z.heap.size ≤ Z7.heap.size := by simpa [World.setCell] using s1
 have s2 := hgr.size
 have sw := J.ag.size
 have hlen : (e0.l ++ E.f2).length = e0.l.length + E.f2.length := List.length_append
 have henc : encs Value.string (e0.l ++ E.f2) = encs Value.string e0.l ++ encs Value.string E.f2 := by simp [encs]
 have HL : Lns B w1 v1 (e0.l ++ E.f2) := by
  show w1.ownsRow B 9 1 v1 (e0.l ++ E.f2).length (encs Value.string (e0.l ++ E.f2))
  rw [hlen, henc]; exact hown
 have hat' : v1.ownBlock = e0.v.ownBlock ∨ ∃ b, v1.ownBlock = some b ∧ Z7.heap.size ≤ b := hat.imp id (fun h => ⟨_, h, Nat.le_refl _⟩)
 obtain ⟨S8, c1, f1⟩ := S7.later (v1 := v1) (w1 := w1) hv hgr HL (fun p hp => ne_append' ((List.pairwise_append.1 S7.2.2).2.2 p hp ⟨e0.op, e0.n + E.f1, e0.v, e0.l⟩ (by simp)) hat' (S7.2.1 p (List.mem_append_left _ hp)))
 have hvb : v'.ownBlock = some g' := by rw [hv]; rfl
 have hasg : hasS v' (es0 ++ [e0]) g' := .inl hvb
 have hase : ∀ k, e0.v.ownBlock = some k → hasS v' (es0 ++ [e0]) k := fun k hk => .inr ⟨e0, by simp, hk⟩
 have hge : ∀ k, hasS v' (es0 ++ [e0]) k → B ≤ k := fun k hk => (J.typed hk).1
 refine ⟨⟨S8, ?_, ?_, ?_, ?_⟩, c1, f1⟩
 ·rw [joinL_take _ _ _ hi, ← J.pl, ← hE, List.map_append, List.map_singleton, List.map_append, List.map_singleton, join1_snoc, if_pos (show (Ed.plain e0).f0 = E.f0 from hop)]
  rfl
 ·have b1 := (J.bel.grown g0 (Nat.le_trans hB sw) (fun k e => by cases e)).setCell (p := ⟨g', es0.length * 3 + 1, none⟩) hgb (.int .i64 (e0.n + E.f1))
  have b2 := b1.grown g1 (by simp [World.setCell]; omega) (fun k e => by cases e)
  have b3 := b2.grown hgr (by omega) (fun k e => hge k (hase k e))
  exact b3.setCell (p := ⟨g', es0.length * 3 + 2, none⟩) hgb _
 ·have a1 := (J.ag.grown g0 (fun k e => by cases e)).set ⟨g', es0.length * 3 + 1, none⟩ (.int .i64 (e0.n + E.f1)) (J.only _ hasg)
  have a2 := a1.grown g1 (fun k e => by cases e)
  have a3 := a2.grown hgr (fun k e => J.only _ (hase k e))
  exact a3.set ⟨g', es0.length * 3 + 2, none⟩ v1 (J.only _ hasg)
 ·rintro k (hk | ⟨e, he, hk⟩)
  ·exact J.only k (.inl hk)
  ·rcases List.mem_append.1 he with he | he
   ·exact J.only k (.inr ⟨e, List.mem_append_left _ he, hk⟩)
   ·rw [List.mem_singleton.1 he] at hk
    replace hk : v1.ownBlock = some k := hk
    rcases hat with h1 | h1
    ·exact J.only k (hase k (h1.symm.trans hk))
    ·rw [h1] at hk
     injection hk with hk
     exact .inr (by omega)
theorem JInv.push {B : Nat} {v : Value} {es : List Ed} {ms : List S31} {w : World} {i : Nat} {v' v1 vL : Value} {es' : List Ed} {wr Y w1 : World} {E : S31}
  (J : JInv B v es ms w i v' es' wr) (hB : B ≤ w.heap.size) (hi : i < ms.length) (hE : E = rd_T31 ms (i : Int)) (hop : ∀ e0, es'.getLast? = some e0 → e0.op ≠ E.f0) (bY : Below wr.heap.size wr Y)
  (hown : w1.ownsRow B 31 3 v1 (es'.length + 1) (flat es' ++ [.int .i64 E.f0, .int .i64 E.f1, vL])) (hgr : Y.grownBy w1 v'.ownBlock) (hat : v1.ownBlock = v'.ownBlock ∨ v1.ownBlock = some Y.heap.size)
  (hl : Lns B Y vL E.f2) (hf : ∀ k, vL.ownBlock = some k → wr.heap.size ≤ k) :
  JInv B v es ms w (i + 1) v1 (es' ++ [⟨E.f0, E.f1, vL, E.f2⟩]) w1 := by
 have SY := J.scr.below bY
 have sw := J.ag.size
 have sY := bY.size
 have S1 : Scr B w1 v1 (es' ++ [⟨E.f0, E.f1, vL, E.f2⟩]) := Scr.add SY hown hgr (fun e he => by rw [List.mem_singleton.1 he]; exact hl) (fun p hp e he k hk hk' => by
  rw [List.mem_singleton.1 he] at hk'
  have h1 := hf k hk'
  have h2 := (J.typed (.inr ⟨p, hp, hk⟩)).2
  omega) (List.pairwise_singleton _ _)
 have hge : ∀ k, v'.ownBlock = some k → B ≤ k := fun k hk => (J.typed (.inl hk)).1
 refine ⟨S1, ?_, ?_, ?_, ?_⟩
 ·rw [joinL_take _ _ _ hi, ← J.pl, ← hE, List.map_append, List.map_singleton]
  rcases List.eq_nil_or_concat es' with h0 | ⟨t, x, h0⟩
  ·subst h0; rfl
  ·rw [List.concat_eq_append] at h0
   subst h0
   rw [List.map_append, List.map_singleton, join1_snoc, if_neg (show ¬ (Ed.plain x).f0 = E.f0 from hop x (by simp))]
   rfl
 ·exact (J.bel.trans (bY.mono (Nat.le_trans hB sw))).grown hgr (by omega) hge
 ·exact (J.ag.below bY).grown hgr (fun k e => J.only _ (.inl e))
 ·rintro k (hk | ⟨e, he, hk⟩)
  ·rcases hat with h1 | h1
   ·exact J.only k (.inl (h1.symm.trans hk))
   ·rw [h1] at hk
    injection hk with hk
    exact .inr (by omega)
  ·rcases List.mem_append.1 he with he | he
   ·exact J.only k (.inr ⟨e, he, hk⟩)
   ·rw [List.mem_singleton.1 he] at hk
    exact .inr (Nat.le_trans sw (hf k hk))
set_option maxRecDepth 100000 in
set_option maxHeartbeats 4000000 in
theorem joined_run (B : Nat) (v : Value) (es : List Ed) (A2 : Option Addr) (c2 : Nat) (ms : List S31) (w : World) (hB : B ≤ w.heap.size) (HS : Scr B w v es) (hm : More v es A2 ms w) (hc2 : ms.length ≤ c2) (hW : wt (es.map Ed.plain) + wt ms ≤ 1000000000000) :
  Calls Try.prog 42 #[v, .slice A2 ms.length c2] w (JEnd B v es ms w) := by
 refine (callsIn_wide (n := 9)).1 ?_
 refine callsIn_of_wp Try.func42 rfl trivial ?_ rfl
 simp only [Try.ntmps42, List.size_toArray, List.length_cons, List.length_nil, Nat.reduceAdd, Nat.reduceSub, Array.replicate_succ, Array.replicate_zero, List.push_toArray, List.append_toArray, List.nil_append, List.cons_append]
 have hml : ms.length ≤ 1000000000000 := by have := wt_len ms; omega
 have J0 : JInv B v es ms w 0 v es w := ⟨HS, rfl, Below.refl _ _, Agree.refl _ _ _, fun k hk => .inl hk⟩
 obtain ⟨Ao0, co0, hv0⟩ := own_slice HS.1
 have HJ0 := Lib.hid J0
 have HM := Lib.hid hm
 have HW := Lib.hid hW
 have HB := Lib.hid hB
 clear J0 hm hW hB HS
 gi_wp2
 gi_loopw [0, 10] (fun v' x wr => ∃ (i : Nat) (es' : List Ed), x = .int .i64 (i : Int) ∧ i ≤ ms.length ∧ Hid (JInv B v es ms w i v' es' wr)) (fun _ x _ => jtogo ms.length x)
 case atStart => exact ⟨0, es, rfl, Nat.zero_le _, HJ0⟩
 case round =>
  obtain ⟨i, es', rfl, hi, HJ⟩ := hrel
  by_cases ci : i < ms.length
  ·have ci' : decide ((i : Int) < (ms.length : Int)) = true := decide_eq_true (by omega)
   obtain ⟨Ao, co, rfl⟩ := own_slice HJ.out.scr.1
   obtain ⟨ad, A2', c2', rfl, hl2, hat⟩ := HM.out.at i ci
   have hwt := wt_step ms i ci
   have hwj := wt_joinL (ms.take i) (es.map Ed.plain)
   rw [← HJ.out.pl] at hwj
   obtain ⟨E, hE⟩ : ∃ E, E = rd_T31 ms (i : Int) := ⟨_, rfl⟩
   rw [← hE] at hat hl2 hwt
   have HWT := Lib.hid (show wt (es'.map Ed.plain) + wt1 E ≤ 1000000000000 by have := HW.out; omega)
   have HE := Lib.hid hE
   have p1 := eq_true (show 0 ≤ (i : Int) by omega)
   have q1 := eq_true (show (i : Int) < (ms.length : Int) by omega)
   obtain ⟨x0, x1, x2, _⟩ := hat wr HJ.out.ag
   have HAT := Lib.hid hat
   obtain ⟨X, hX⟩ : ∃ X, X = wr.alloc (.cells #[.int .i64 E.f0, .int .i64 E.f1, .slice A2' E.f2.length c2'] 31) := ⟨_, rfl⟩
   have qX : X.heap[wr.heap.size]? = some (.cells #[.int .i64 E.f0, .int .i64 E.f1, .slice A2' E.f2.length c2'] 31) := by rw [hX]; exact World.alloc_heap_new wr _
   have a0 : X.cell? ⟨wr.heap.size, 0, none⟩ = some (.int .i64 E.f0) := by simp [World.cell?, qX]
   have a1 : X.cell? ⟨wr.heap.size, 1, none⟩ = some (.int .i64 E.f1) := by simp [World.cell?, qX]
   have a2 : X.cell? ⟨wr.heap.size, 2, none⟩ = some (.slice A2' E.f2.length c2') := by simp [World.cell?, qX]
   have bX : Below wr.heap.size wr X := by rw [hX]; exact (Below.refl _ _).alloc (Nat.le_refl _) _
   have gX : wr.grownBy X none := by rw [hX]; exact World.grownBy_alloc _ _ _
   have HQX := Lib.hid (blk_lt qX)
   have HX := Lib.hid hX
   have HBX := Lib.hid bX
   have HGX := Lib.hid gX
   clear hX hat hwt hwj hE qX bX gX
   obtain ⟨Z5, hZ5⟩ : ∃ Z5, Z5 = X.drew := ⟨_, rfl⟩
   have H5H := Lib.hid (show Z5.heap = X.heap by rw [hZ5]; rfl)
   have HB5 := Lib.hid (show Below wr.heap.size wr Z5 by rw [hZ5]; exact HBX.out.drew)
   have HG5 := Lib.hid (show wr.grownBy Z5 none by rw [hZ5]; exact HGX.out.trans (grown_drew X none))
   have n0 : Z5.cell? ⟨wr.heap.size, 0, none⟩ = some (.int .i64 E.f0) := (World.cell?_of_block (w := X) (by rw [H5H.out])).trans a0
   have HZ5 := Lib.hid hZ5
   clear hZ5
   by_cases cn : 0 < es'.length
   ·obtain ⟨es0, e0, hes⟩ : ∃ es0 e0, es' = es0 ++ [e0] := by
     rcases List.eq_nil_or_concat es' with h0 | ⟨t, x, h0⟩
     ·rw [h0] at cn; exact absurd cn (by simp)
     ·exact ⟨t, x, by rw [h0, List.concat_eq_append]⟩
    have hJ' := HJ.out
    rw [hes] at hJ'
    obtain ⟨g, cap, hv', hgB, hgl, hblk, g0, g1, g2, gf1, gf2⟩ := hJ'.scr.last
    have hl0 : (es0 ++ [e0]).length = es0.length + 1 := by simp
    obtain ⟨rfl, hcap⟩ : Ao = some ⟨g, 0, none⟩ ∧ co = cap := by
     injection hv' with h1 h2 h3
     exact ⟨h1, h3⟩
    have hlen : es'.length = es0.length + 1 := by rw [hes]; exact hl0
    have hel0 : es'.length ≤ 1000000000000 := by have := HWT.out; have h1 := wt_len (es'.map Ed.plain); rw [List.length_map] at h1; omega
    obtain ⟨Av, nv, cv, hvE⟩ : ∃ A n c, e0.v = .slice A n c := by
     obtain ⟨A, c, h⟩ := own_slice (hJ'.scr.2.1 e0 (by simp))
     exact ⟨A, _, c, h⟩
    rw [hvE] at g2
    obtain ⟨ji, hji⟩ : ∃ ji : Int, ji = (es'.length : Int) - 1 := ⟨_, rfl⟩
    have s1 : IntKind.i64.wrap ((es'.length : Int) - 1) = ji := by rw [hji, i64_w]; exact jw64 (by omega) (by omega)
    have s1' : wrap64 ((es'.length : Int) - 1) = ji := by rw [hji]; exact jw64 (by omega) (by omega)
    have jh2 : (0 ≤ ji) = True := eq_true (by omega)
    have jh3 : (ji < (es'.length : Int)) = True := eq_true (by omega)
    have hjn : ji.toNat = es0.length := by omega
    have cn1 : decide (0 < es'.length) = true := decide_eq_true cn
    have cn2 : decide ((0 : Int) < (es'.length : Int)) = true := decide_eq_true (by omega)
    have hgX : g < X.heap.size := Nat.lt_of_lt_of_le hgl (by have := HBX.out.size; omega)
    have e1 : Z5.cell? ⟨g, es0.length * 3, none⟩ = some (.int .i64 e0.op) := (World.cell?_of_block (w := wr) (HB5.out.block g hgl)).trans g0
    have HJJ := Lib.hid hJ'
    have HES := Lib.hid hes
    have HLEN := Lib.hid hlen
    have HJI := Lib.hid hji
    have HGX := Lib.hid hgX
    have HG1 := Lib.hid g1
    have HG2 := Lib.hid g2
    have HGF1 := Lib.hid gf1
    have HGF2 := Lib.hid gf2
    have HVE := Lib.hid hvE
    have HBLK := Lib.hid hblk
    clear hJ' hes hlen hl0 hv' hji cn g1 g2 g0 gf1 gf2 hvE hblk hgX hcap
    by_cases hop : e0.op = E.f0
    ·have kb : (e0.op == E.f0) = true := beq_iff_eq.2 hop
     have HOPE := Lib.hid hop
     clear hop
     gi_wp2_with (first | rw [← HX.out])
     refine Held.region 13 (Held.Same Z5 [wr.heap.size, g]) (by kernel_rfl) ?_
     rw [← HZ5.out]
     have hS := Held.Same.refl Z5 [wr.heap.size, g]
     refine Held.tk (i := 0) rfl hS ?_
     try simp only [Act.put, List.setIfInBounds_toArray, List.set_cons_zero, List.set_cons_succ]
     refine Held.tk (i := 1) rfl hS ?_
     try simp only [Act.put, List.setIfInBounds_toArray, List.set_cons_zero, List.set_cons_succ]
     refine Held.tk (i := 2) rfl hS ?_
     try simp only [Act.put, List.setIfInBounds_toArray, List.set_cons_zero, List.set_cons_succ]
     refine Held.tk (i := 3) rfl hS ?_
     try simp only [Act.put, List.setIfInBounds_toArray, List.set_cons_zero, List.set_cons_succ]
     refine Held.tk (i := 4) rfl hS ?_
     try simp only [Act.put, List.setIfInBounds_toArray, List.set_cons_zero, List.set_cons_succ]
     refine Held.tk (i := 5) rfl hS ?_
     try simp only [Act.put, List.setIfInBounds_toArray, List.set_cons_zero, List.set_cons_succ]
     refine Held.tk (i := 6) rfl hS ?_
     try simp only [Act.put, List.setIfInBounds_toArray, List.set_cons_zero, List.set_cons_succ]
     refine Held.tk (i := 7) rfl hS ?_
     try simp only [Act.put, List.setIfInBounds_toArray, List.set_cons_zero, List.set_cons_succ]
     refine Held.tk (i := 8) rfl hS ?_
     try simp only [Act.put, List.setIfInBounds_toArray, List.set_cons_zero, List.set_cons_succ]
     refine Held.tk (i := 9) rfl hS ?_
     try simp only [Act.put, List.setIfInBounds_toArray, List.set_cons_zero, List.set_cons_succ]
     refine Held.tk (i := 10) rfl hS ?_
     try simp only [Act.put, List.setIfInBounds_toArray, List.set_cons_zero, List.set_cons_succ]
     refine Held.tk (i := 11) rfl hS ?_
     try simp only [Act.put, List.setIfInBounds_toArray, List.set_cons_zero, List.set_cons_succ]
     refine Held.tk (i := 12) rfl hS ?_
     try simp only [Act.put, List.setIfInBounds_toArray, List.set_cons_zero, List.set_cons_succ]
     refine Held.AnyS.done (by kernel_rfl) ?_ _
     clear hS
     go_simp
     gi_wp2
     obtain ⟨Z6, hZ6⟩ : ∃ Z6, Z6 = Z5.drew := ⟨_, rfl⟩
     have h6 : Z6.heap = X.heap := by rw [hZ6]; exact H5H.out
     have hbw : ∀ k, k < wr.heap.size → Z6.heap[k]? = wr.heap[k]? := fun k hk => by rw [h6]; exact HBX.out.block k hk
     have m1 : Z6.cell? ⟨wr.heap.size, 1, none⟩ = some (.int .i64 E.f1) := (World.cell?_of_block (w := X) (by rw [h6])).trans a1
     have k1 : Z6.cell? ⟨g, es0.length * 3 + 1, none⟩ = some (.int .i64 e0.n) := (World.cell?_of_block (w := wr) (hbw g hgl)).trans HG1.out
     have k2 : Z6.frozen? ⟨g, es0.length * 3 + 1, none⟩ = false := (World.frozen?_of_block (w := wr) (hbw g hgl)).trans HGF1.out
     have hw0 : e0.n.natAbs + E.f1.natAbs ≤ 1000000000000 := by
      have h1 := HWT.out
      rw [HES.out, List.map_append, List.map_singleton, wt_app, wt_cons] at h1
      unfold wt1 at h1
      have h2 : (Ed.plain e0).f1 = e0.n := rfl
      rw [h2] at h1
      omega
     have hwl : e0.l.length + E.f2.length ≤ 1000000000000 := by
      have h1 := HWT.out
      rw [HES.out, List.map_append, List.map_singleton, wt_app, wt_cons] at h1
      unfold wt1 at h1
      have h2 : (Ed.plain e0).f2 = e0.l := rfl
      rw [h2] at h1
      omega
     have s2 : IntKind.i64.wrap (e0.n + E.f1) = e0.n + E.f1 := by rw [i64_w]; exact jw64 (by omega) (by omega)
     have s2' : wrap64 (e0.n + E.f1) = e0.n + E.f1 := jw64 (by omega) (by omega)
     have hz6 : ∀ b ∈ [wr.heap.size, g], b < Z6.heap.size := by
      intro b hb
      rw [h6]
      simp only [List.mem_cons, List.not_mem_nil, or_false] at hb
      rcases hb with rfl | rfl
      ·exact HQX.out
      ·exact HGX.out
     have HZ6 := Lib.hid hZ6
     have H6H := Lib.hid h6
     have HG6 := Lib.hid (show wr.grownBy Z6 none by rw [hZ6]; exact HG5.out.trans (grown_drew Z5 none))
     have HBW := Lib.hid hbw
     have HZZ6 := Lib.hid hz6
     have HWL := Lib.hid hwl
     clear hZ6 h6 hbw hz6 hw0 hwl
     refine Held.region 9 (Held.Same Z6 [wr.heap.size, g]) (by kernel_rfl) ?_
     rw [← HZ6.out]
     have hS := Held.Same.refl Z6 [wr.heap.size, g]
     refine Held.tk (i := 0) rfl hS ?_
     try simp only [Act.put, List.setIfInBounds_toArray, List.set_cons_zero, List.set_cons_succ]
     refine Held.tk (i := 1) rfl hS ?_
     try simp only [Act.put, List.setIfInBounds_toArray, List.set_cons_zero, List.set_cons_succ]
     refine Held.tk (i := 2) rfl hS ?_
     try simp only [Act.put, List.setIfInBounds_toArray, List.set_cons_zero, List.set_cons_succ]
     refine Held.tk (i := 3) rfl hS ?_
     try simp only [Act.put, List.setIfInBounds_toArray, List.set_cons_zero, List.set_cons_succ]
     refine Held.tk (i := 4) rfl hS ?_
     try simp only [Act.put, List.setIfInBounds_toArray, List.set_cons_zero, List.set_cons_succ]
     refine Held.tk (i := 5) rfl hS ?_
     try simp only [Act.put, List.setIfInBounds_toArray, List.set_cons_zero, List.set_cons_succ]
     refine Held.tk (i := 6) rfl hS ?_
     try simp only [Act.put, List.setIfInBounds_toArray, List.set_cons_zero, List.set_cons_succ]
     refine Held.tk (i := 7) rfl hS ?_
     try simp only [Act.put, List.setIfInBounds_toArray, List.set_cons_zero, List.set_cons_succ]
     refine Held.tk (i := 8) rfl hS ?_
     try simp only [Act.put, List.setIfInBounds_toArray, List.set_cons_zero, List.set_cons_succ]
     refine Held.AnyS.step (i := 9) rfl (by kernel_rfl) rfl (fun K hK => ?_)
     go_simp
     refine hK.out _ _ (fun h => absurd h (by omega)) ?_
     clear hK K
     try simp only [Act.put, List.setIfInBounds_toArray, List.set_cons_zero, List.set_cons_succ]
     refine Held.AnyS.step (i := 10) rfl (by kernel_rfl) rfl (fun K hK => ?_)
     go_simp
     refine hK.out _ _ (fun h => absurd h (by omega)) ?_
     clear hK K
     try simp only [Act.put, List.setIfInBounds_toArray, List.set_cons_zero, List.set_cons_succ]
     refine Held.AnyS.step (i := 11) rfl (by kernel_rfl) rfl (fun K hK => ?_)
     go_simp
     refine hK.out _ _ (fun h => absurd h (by omega)) ?_
     clear hK K hS
     refine Held.AnyS.done (by kernel_rfl) ?_ _
     go_simp
     obtain ⟨Y6, hY6⟩ : ∃ Y6, Y6 = Z6.setCell ⟨g, es0.length * 3 + 1, none⟩ (.int .i64 (e0.n + E.f1)) := ⟨_, rfl⟩
     obtain ⟨Z7, hZ7⟩ : ∃ Z7, Z7 = Y6.drew := ⟨_, rfl⟩
     have h7 : Z7.heap = Y6.heap := by rw [hZ7]; rfl
     have w7 : Z7.heap.size = Z6.heap.size := by rw [h7, hY6]; simp [World.setCell]
     have k3 : Z7.cell? ⟨g, es0.length * 3 + 2, none⟩ = some (.slice Av nv cv) := by
      refine (World.cell?_of_block (w := Y6) (by rw [h7])).trans ?_
      rw [hY6, World.cell?_setCell_other _ _ _ _ (by intro h; injection h with _ h; omega)]
      exact (World.cell?_of_block (w := wr) (HBW.out g hgl)).trans HG2.out
     have ngq : g ≠ wr.heap.size := by omega
     have m2 : Z7.cell? ⟨wr.heap.size, 2, none⟩ = some (.slice A2' E.f2.length c2') := by
      refine (World.cell?_of_block (w := Y6) (by rw [h7])).trans ?_
      rw [hY6, World.cell?_setCell_far _ _ _ _ (by simpa using ngq)]
      exact (World.cell?_of_block (w := X) (by rw [H6H.out])).trans a2
     have ag7 : Agree v es w Z7 := by
      rw [hZ7, hY6]
      exact ((HJ.out.ag.grown HG6.out (fun k e => by cases e)).set ⟨g, es0.length * 3 + 1, none⟩ _ (HJ.out.only _ (.inl rfl))).grown (grown_drew _ none) (fun k e => by cases e)
     have C7 := (HAT.out Z7 ag7).2.2.2
     have O7 : Z7.ownsRow B 9 1 (.slice Av nv cv) e0.l.length (encs Value.string e0.l) := by
      have h1 := HJJ.out.scr.2.1 e0 (by simp)
      have h2 : Lns B Z6 e0.v e0.l := own_other h1 HG6.out (by
       cases e0.v.ownBlock with
       | none => exact .inl rfl
       | some k => exact .inr (fun e => by cases e))
      obtain ⟨cur, hcur⟩ := HBLK.out
      have h3 : Lns B Y6 e0.v e0.l := by
       rw [hY6]
       exact own_setCell h2 (own_ne h2 ((HBW.out g hgl).trans hcur) (by decide)) _
      have h4 : Lns B Z7 e0.v e0.l := by rw [hZ7]; exact h3
      rw [HVE.out] at h4
      exact h4
     have hz7 : ∀ b ∈ [wr.heap.size, g], b < Z7.heap.size := fun b hb => by rw [w7]; exact HZZ6.out b hb
     have ne7 : ∀ b ∈ [wr.heap.size, g], some b ≠ (Value.slice Av nv cv).ownBlock := by
      intro b hb e
      simp only [List.mem_cons, List.not_mem_nil, or_false] at hb
      rcases hb with rfl | rfl
      ·have := (HJJ.out.typed (.inr ⟨e0, by simp, by rw [HVE.out]; exact e.symm⟩)).2
       omega
      ·obtain ⟨cur, hcur⟩ := HBLK.out
       obtain ⟨cs, hcs⟩ := own_typed (HJJ.out.scr.2.1 e0 (by simp)) b (by rw [HVE.out]; exact e.symm)
       rw [hcur] at hcs
       injection hcs with hcs
       injection hcs with _ hcs _
       exact absurd hcs (by decide)
     have hs7 := src_of C7
     have hen : (encs Value.string E.f2).length = E.f2.length * 1 := by simp [encs]
     have hone : ∀ u ∈ encs Value.string E.f2, u.oneCell' = true := by
      intro u hu
      simp only [encs, List.mem_map] at hu
      obtain ⟨b, _, rfl⟩ := hu
      rfl
     have hge7 : B ≤ Z7.heap.size := by rw [w7]; have := HG6.out.size; have := HJ.out.ag.size; have := HB.out; omega
     have G67 := Lib.hid (show (Z6.setCell ⟨g, es0.length * 3 + 1, none⟩ (.int .i64 (e0.n + E.f1))).grownBy Z7 none by rw [hZ7, hY6]; exact grown_drew _ none)
     have HY6 := Lib.hid hY6
     have HZ7 := Lib.hid hZ7
     have HZZ7 := Lib.hid hz7
     clear hY6 hZ7 h7 w7 ag7 C7 hz7
     rw [← HY6.out]
     gi_wp2
     refine Held.region 12 (Held.Same Z7 [wr.heap.size, g]) (by kernel_rfl) ?_
     rw [← HZ7.out]
     have hS := Held.Same.refl Z7 [wr.heap.size, g]
     refine Held.tk (i := 0) rfl hS ?_
     try simp only [Act.put, List.setIfInBounds_toArray, List.set_cons_zero, List.set_cons_succ]
     refine Held.tk (i := 1) rfl hS ?_
     try simp only [Act.put, List.setIfInBounds_toArray, List.set_cons_zero, List.set_cons_succ]
     refine Held.tk (i := 2) rfl hS ?_
     try simp only [Act.put, List.setIfInBounds_toArray, List.set_cons_zero, List.set_cons_succ]
     refine Held.tk (i := 3) rfl hS ?_
     try simp only [Act.put, List.setIfInBounds_toArray, List.set_cons_zero, List.set_cons_succ]
     refine Held.tk (i := 4) rfl hS ?_
     try simp only [Act.put, List.setIfInBounds_toArray, List.set_cons_zero, List.set_cons_succ]
     refine Held.tk (i := 5) rfl hS ?_
     try simp only [Act.put, List.setIfInBounds_toArray, List.set_cons_zero, List.set_cons_succ]
     refine Held.tk (i := 6) rfl hS ?_
     try simp only [Act.put, List.setIfInBounds_toArray, List.set_cons_zero, List.set_cons_succ]
     refine Held.tk (i := 7) rfl hS ?_
     try simp only [Act.put, List.setIfInBounds_toArray, List.set_cons_zero, List.set_cons_succ]
     refine Held.tk (i := 8) rfl hS ?_
     try simp only [Act.put, List.setIfInBounds_toArray, List.set_cons_zero, List.set_cons_succ]
     refine Held.tk (i := 9) rfl hS ?_
     try simp only [Act.put, List.setIfInBounds_toArray, List.set_cons_zero, List.set_cons_succ]
     refine Held.tk (i := 10) rfl hS ?_
     try simp only [Act.put, List.setIfInBounds_toArray, List.set_cons_zero, List.set_cons_succ]
     refine Held.AnyS.step (i := 11) rfl (by kernel_rfl) rfl (fun K hK => ?_)
     refine Held.append_any (.tmp 48) (.tmp 50) 29 rfl B 9 (.string ⟨#[]⟩) 1 16 Try.underlying29 info9 rfl (by omega) (.slice Av nv cv) e0.l.length (encs Value.string e0.l) rfl O7 A2' E.f2.length c2' (encs Value.string E.f2) rfl hen hs7 hone ?_ ?_ hge7 ?_
     ·simp only [maxLen]; have := HWL.out; omega
     ·have := HWL.out; omega
     intro v1 w1 hown hgr hat1
     obtain ⟨A5, c5, rfl⟩ := own_slice hown
     have hS4 : Held.Same Z7 [wr.heap.size, g] w1 := hS.grown hgr (fun b hb => ⟨HZZ7.out b hb, ne7 b hb⟩)
     obtain ⟨KEEP, cw, fw⟩ := HJJ.out.keep HB.out ci HE.out HOPE.out rfl HG6.out G67.out hown (by rw [HVE.out]; exact hgr) (by rw [HVE.out]; exact hat1)
     rw [← HES.out] at KEEP
     have PUSH := Lib.hid KEEP
     rw [HVE.out] at cw
     clear KEEP hown hgr hat1
     refine hK.out _ _ (fun _ => hS4) ?_
     clear hK K hS4 hS O7 ne7 hs7 hen hone
     try simp only [Act.put, List.setIfInBounds_toArray, List.set_cons_zero, List.set_cons_succ]
     refine Held.AnyS.step (i := 12) rfl (by kernel_rfl) rfl (fun K hK => ?_)
     go_simp
     refine hK.out _ _ (fun h => absurd h (by omega)) ?_
     clear hK K
     try simp only [Act.put, List.setIfInBounds_toArray, List.set_cons_zero, List.set_cons_succ]
     refine Held.AnyS.step (i := 13) rfl (by kernel_rfl) rfl (fun K hK => ?_)
     go_simp
     refine hK.out _ _ (fun h => absurd h (by omega)) ?_
     clear hK K
     try simp only [Act.put, List.setIfInBounds_toArray, List.set_cons_zero, List.set_cons_succ]
     refine Held.AnyS.step (i := 14) rfl (by kernel_rfl) rfl (fun K hK => ?_)
     go_simp
     refine hK.out _ _ (fun h => absurd h (by omega)) ?_
     clear hK K
     refine Held.AnyS.done (by kernel_rfl) ?_ _
     go_simp
     gi_wp2
     refine ⟨⟨i + 1, _, by simp, ci, PUSH⟩, ?_⟩
     simp only [jtogo]
     omega
    ·have kb : (e0.op == E.f0) = false := by simp [hop]
     have HOP := Lib.hid (show ∀ e1, es'.getLast? = some e1 → e1.op ≠ E.f0 by intro e1 h0; rw [HES.out, List.getLast?_concat] at h0; rw [← Option.some.inj h0]; exact hop)
     clear hop
     gi_wp2_with (first | rw [← HX.out])
     refine Held.region 13 (Held.Same Z5 [wr.heap.size, g]) (by kernel_rfl) ?_
     rw [← HZ5.out]
     have hS := Held.Same.refl Z5 [wr.heap.size, g]
     refine Held.tk (i := 0) rfl hS ?_
     try simp only [Act.put, List.setIfInBounds_toArray, List.set_cons_zero, List.set_cons_succ]
     refine Held.tk (i := 1) rfl hS ?_
     try simp only [Act.put, List.setIfInBounds_toArray, List.set_cons_zero, List.set_cons_succ]
     refine Held.tk (i := 2) rfl hS ?_
     try simp only [Act.put, List.setIfInBounds_toArray, List.set_cons_zero, List.set_cons_succ]
     refine Held.tk (i := 3) rfl hS ?_
     try simp only [Act.put, List.setIfInBounds_toArray, List.set_cons_zero, List.set_cons_succ]
     refine Held.tk (i := 4) rfl hS ?_
     try simp only [Act.put, List.setIfInBounds_toArray, List.set_cons_zero, List.set_cons_succ]
     refine Held.tk (i := 5) rfl hS ?_
     try simp only [Act.put, List.setIfInBounds_toArray, List.set_cons_zero, List.set_cons_succ]
     refine Held.tk (i := 6) rfl hS ?_
     try simp only [Act.put, List.setIfInBounds_toArray, List.set_cons_zero, List.set_cons_succ]
     refine Held.tk (i := 7) rfl hS ?_
     try simp only [Act.put, List.setIfInBounds_toArray, List.set_cons_zero, List.set_cons_succ]
     refine Held.tk (i := 8) rfl hS ?_
     try simp only [Act.put, List.setIfInBounds_toArray, List.set_cons_zero, List.set_cons_succ]
     refine Held.tk (i := 9) rfl hS ?_
     try simp only [Act.put, List.setIfInBounds_toArray, List.set_cons_zero, List.set_cons_succ]
     refine Held.tk (i := 10) rfl hS ?_
     try simp only [Act.put, List.setIfInBounds_toArray, List.set_cons_zero, List.set_cons_succ]
     refine Held.tk (i := 11) rfl hS ?_
     try simp only [Act.put, List.setIfInBounds_toArray, List.set_cons_zero, List.set_cons_succ]
     refine Held.tk (i := 12) rfl hS ?_
     try simp only [Act.put, List.setIfInBounds_toArray, List.set_cons_zero, List.set_cons_succ]
     refine Held.AnyS.done (by kernel_rfl) ?_ _
     clear hS
     go_simp
     gi_wp2
     obtain ⟨Z8, hZ8⟩ : ∃ Z8, Z8 = Z5.drew := ⟨_, rfl⟩
     have h8 : Z8.heap = X.heap := by rw [hZ8]; exact H5H.out
     have m0 : Z8.cell? ⟨wr.heap.size, 0, none⟩ = some (.int .i64 E.f0) := (World.cell?_of_block (w := X) (by rw [h8])).trans a0
     have m1 : Z8.cell? ⟨wr.heap.size, 1, none⟩ = some (.int .i64 E.f1) := (World.cell?_of_block (w := X) (by rw [h8])).trans a1
     have m2 : Z8.cell? ⟨wr.heap.size, 2, none⟩ = some (.slice A2' E.f2.length c2') := (World.cell?_of_block (w := X) (by rw [h8])).trans a2
     have b8 : Below wr.heap.size wr Z8 := by rw [hZ8]; exact HB5.out.drew
     have hz8 : ∀ b ∈ [wr.heap.size], b < Z8.heap.size := by
      intro b hb
      rw [List.mem_singleton.1 hb, h8]; exact HQX.out
     have C8 := (HAT.out Z8 (HJ.out.ag.below b8)).2.2.2
     have hEl : E.f2.length ≤ 1000000000000 := by have := HWT.out; unfold wt1 at this; omega
     have hfo : hunks_owned_string.f E.f2 = some E.f2 := by unfold hunks_owned_string.f; rw [if_pos (by simp; omega)]; rfl
     have CO := Lib.hid (hunks_owned_string.calls A2' c2' E.f2 E.f2 Z8 C8 hl2 hfo)
     have HZ8 := Lib.hid hZ8
     have H8B := Lib.hid b8
     have H8Z := Lib.hid hz8
     clear hZ8 h8 b8 hz8 C8 hfo
     refine Held.region 11 (Held.Same Z8 [wr.heap.size]) (by kernel_rfl) ?_
     rw [← HZ8.out]
     have hT := Held.Same.refl Z8 [wr.heap.size]
     refine Held.tk (i := 0) rfl hT ?_
     try simp only [Act.put, List.setIfInBounds_toArray, List.set_cons_zero, List.set_cons_succ]
     refine Held.tk (i := 1) rfl hT ?_
     try simp only [Act.put, List.setIfInBounds_toArray, List.set_cons_zero, List.set_cons_succ]
     refine Held.tk (i := 2) rfl hT ?_
     try simp only [Act.put, List.setIfInBounds_toArray, List.set_cons_zero, List.set_cons_succ]
     refine Held.tk (i := 3) rfl hT ?_
     try simp only [Act.put, List.setIfInBounds_toArray, List.set_cons_zero, List.set_cons_succ]
     refine Held.tk (i := 4) rfl hT ?_
     try simp only [Act.put, List.setIfInBounds_toArray, List.set_cons_zero, List.set_cons_succ]
     refine Held.tk (i := 5) rfl hT ?_
     try simp only [Act.put, List.setIfInBounds_toArray, List.set_cons_zero, List.set_cons_succ]
     refine Held.tk (i := 6) rfl hT ?_
     try simp only [Act.put, List.setIfInBounds_toArray, List.set_cons_zero, List.set_cons_succ]
     refine Held.AnyS.step (i := 7) rfl (by kernel_rfl) rfl (fun K hK => ?_)
     go_simp
     first | refine ⟨trivial, ?_⟩ | skip
     refine (callsIn_wide.2 CO.out).mono ?_
     rintro e Y5 ⟨vL, rfl, hRL, hbY5⟩
     obtain ⟨AL, cL, rfl⟩ := Kd.R_slice hRL
     have hT2 := hT.below hbY5 H8Z.out
     have HRL := Lib.hid hRL
     have HBY5 := Lib.hid hbY5
     clear hRL hbY5
     refine hK.out _ _ (fun _ => hT2) ?_
     clear hK K
     try simp only [Act.put, List.setIfInBounds_toArray, List.set_cons_zero, List.set_cons_succ]
     refine Held.tk (i := 8) rfl hT2 ?_
     try simp only [Act.put, List.setIfInBounds_toArray, List.set_cons_zero, List.set_cons_succ]
     refine Held.AnyS.step (i := 9) rfl (by kernel_rfl) rfl (fun K hK => ?_)
     go_simp
     have hT3 := hT2.grown (World.grownBy_alloc Y5 (.cells #[.int .i64 E.f0, .int .i64 E.f1, .slice AL E.f2.length cL] 31) none) (fun b hb => ⟨H8Z.out b hb, by simp⟩)
     refine hK.out _ _ (fun _ => hT3) ?_
     clear hK K
     try simp only [Act.put, List.setIfInBounds_toArray, List.set_cons_zero, List.set_cons_succ]
     obtain ⟨w2, hw2⟩ : ∃ w2, w2 = Y5.alloc (.cells #[.int .i64 E.f0, .int .i64 E.f1, .slice AL E.f2.length cL] 31) := ⟨_, rfl⟩
     have b82 : Below Z8.heap.size Z8 w2 := by rw [hw2]; exact HBY5.out.alloc HBY5.out.size _
     have s8 := H8B.out.size
     have s82 := b82.size
     have swr := HJ.out.ag.size
     have hBw := HB.out
     have bw2 : Below wr.heap.size wr w2 := H8B.out.trans (b82.mono s8)
     have nw : ∀ j u, [Value.int .i64 E.f0, .int .i64 E.f1, .slice AL E.f2.length cL][j]? = some u → w2.cell? ((⟨Y5.heap.size, 0, none⟩ : Addr).add j) = some u := by
      rw [hw2]
      simpa using World.news_of_block (cs := #[Value.int .i64 E.f0, .int .i64 E.f1, .slice AL E.f2.length cL]) (t := 31) (fr := (0, 0)) (World.alloc_heap_new Y5 _)
     have lns : Lns B w2 (.slice AL E.f2.length cL) E.f2 := by
      rw [hw2]
      exact own_alloc (own_less (Kd.own_of_R HRL.out) (by omega)) _
     have S2 : w2.ownsRow B 31 3 (.slice (some ⟨g, 0, none⟩) es'.length co) es'.length (flat es') := (HJ.out.scr.below bw2).1
     have ne8 : ∀ b ∈ [wr.heap.size], some b ≠ (Value.slice (some ⟨g, 0, none⟩) es'.length co).ownBlock := by
      intro b hb e
      have h0 := List.mem_singleton.1 hb
      have h1 := (HJ.out.typed (.inl e.symm)).2
      omega
     have hel : es'.length ≤ 1000000000000 := by have := HWT.out; have h1 := wt_len (es'.map Ed.plain); rw [List.length_map] at h1; omega
     rw [← hw2] at hT3 ⊢
     clear hw2
     refine Held.AnyS.step (i := 10) rfl (by kernel_rfl) rfl (fun K hK => ?_)
     refine Held.append_at (.tmp 54) (.tmp 63) 26 rfl B 31 (.agg #[.int .i64 0, .int .i64 0, .slice none 0 0]) 3 40 Try.underlying26 info31 rfl (by omega) (.slice (some ⟨g, 0, none⟩) es'.length co) es'.length (flat es') rfl S2 ⟨Y5.heap.size, 0, none⟩ 1 1 [.int .i64 E.f0, .int .i64 E.f1, .slice AL E.f2.length cL] rfl rfl nw ?_ ?_ ?_ ?_ ?_
     ·intro u hu; simp at hu; rcases hu with rfl | rfl | rfl <;> rfl
     ·simp only [maxLen]; omega
     ·omega
     ·omega
     intro v1 w1 hown hgr hat1
     obtain ⟨A5, c5, rfl⟩ := own_slice hown
     have hT4 : Held.Same Z8 [wr.heap.size] w1 := hT3.grown hgr (fun b hb => ⟨H8Z.out b hb, ne8 b hb⟩)
     have PUSH := Lib.hid (HJ.out.push hBw ci HE.out HOP.out bw2 hown hgr hat1 lns (fun k hk => Nat.le_trans s8 (own_base (Kd.own_of_R HRL.out) k hk)))
     clear hown hgr hat1 S2 nw lns bw2 b82 ne8
     refine hK.out _ _ (fun _ => hT4) ?_
     clear hK K hT hT2 hT3 hT4
     try simp only [Act.put, List.setIfInBounds_toArray, List.set_cons_zero, List.set_cons_succ]
     refine Held.AnyS.step (i := 11) rfl (by kernel_rfl) rfl (fun K hK => ?_)
     go_simp
     refine hK.out _ _ (fun h => absurd h (by omega)) ?_
     clear hK K
     refine Held.AnyS.done (by kernel_rfl) ?_ _
     go_simp
     gi_wp2
     refine ⟨⟨i + 1, _, by simp, ci, PUSH⟩, ?_⟩
     simp only [jtogo]
     omega
   ·have HOP := Lib.hid (show ∀ e0, es'.getLast? = some e0 → e0.op ≠ E.f0 by intro e0 h0; rw [List.eq_nil_of_length_eq_zero (Nat.eq_zero_of_not_pos cn)] at h0; cases h0)
    have cn1 : decide (0 < es'.length) = false := decide_eq_false cn
    have cn2 : decide ((0 : Int) < (es'.length : Int)) = false := decide_eq_false (by omega)
    clear cn
    gi_wp2_with (first | rw [← HX.out])
    refine Held.region 13 (Held.Same Z5 [wr.heap.size]) (by kernel_rfl) ?_
    rw [← HZ5.out]
    have hS := Held.Same.refl Z5 [wr.heap.size]
    refine Held.tk (i := 0) rfl hS ?_
    try simp only [Act.put, List.setIfInBounds_toArray, List.set_cons_zero, List.set_cons_succ]
    refine Held.tk (i := 1) rfl hS ?_
    try simp only [Act.put, List.setIfInBounds_toArray, List.set_cons_zero, List.set_cons_succ]
    refine Held.tk (i := 2) rfl hS ?_
    try simp only [Act.put, List.setIfInBounds_toArray, List.set_cons_zero, List.set_cons_succ]
    refine Held.AnyS.skip (i := 3) rfl (by kernel_rfl) (fun _ _ _ h => h) rfl (fun _ => rfl) hS ?_
    try simp only [Act.put, List.setIfInBounds_toArray, List.set_cons_zero, List.set_cons_succ]
    refine Held.AnyS.skip (i := 4) rfl (by kernel_rfl) (fun _ _ _ h => h) rfl (fun _ => rfl) hS ?_
    try simp only [Act.put, List.setIfInBounds_toArray, List.set_cons_zero, List.set_cons_succ]
    refine Held.AnyS.skip (i := 5) rfl (by kernel_rfl) (fun _ _ _ h => h) rfl (fun _ => rfl) hS ?_
    try simp only [Act.put, List.setIfInBounds_toArray, List.set_cons_zero, List.set_cons_succ]
    refine Held.AnyS.skip (i := 6) rfl (by kernel_rfl) (fun _ _ _ h => h) rfl (fun _ => rfl) hS ?_
    try simp only [Act.put, List.setIfInBounds_toArray, List.set_cons_zero, List.set_cons_succ]
    refine Held.AnyS.skip (i := 7) rfl (by kernel_rfl) (fun _ _ _ h => h) rfl (fun _ => rfl) hS ?_
    try simp only [Act.put, List.setIfInBounds_toArray, List.set_cons_zero, List.set_cons_succ]
    refine Held.AnyS.skip (i := 8) rfl (by kernel_rfl) (fun _ _ _ h => h) rfl (fun _ => rfl) hS ?_
    try simp only [Act.put, List.setIfInBounds_toArray, List.set_cons_zero, List.set_cons_succ]
    refine Held.AnyS.skip (i := 9) rfl (by kernel_rfl) (fun _ _ _ h => h) rfl (fun _ => rfl) hS ?_
    try simp only [Act.put, List.setIfInBounds_toArray, List.set_cons_zero, List.set_cons_succ]
    refine Held.AnyS.skip (i := 10) rfl (by kernel_rfl) (fun _ _ _ h => h) rfl (fun _ => rfl) hS ?_
    try simp only [Act.put, List.setIfInBounds_toArray, List.set_cons_zero, List.set_cons_succ]
    refine Held.AnyS.skip (i := 11) rfl (by kernel_rfl) (fun _ _ _ h => h) rfl (fun _ => rfl) hS ?_
    try simp only [Act.put, List.setIfInBounds_toArray, List.set_cons_zero, List.set_cons_succ]
    refine Held.tk (i := 12) rfl hS ?_
    try simp only [Act.put, List.setIfInBounds_toArray, List.set_cons_zero, List.set_cons_succ]
    refine Held.AnyS.done (by kernel_rfl) ?_ _
    clear hS
    go_simp
    gi_wp2
    obtain ⟨Z8, hZ8⟩ : ∃ Z8, Z8 = Z5.drew := ⟨_, rfl⟩
    have h8 : Z8.heap = X.heap := by rw [hZ8]; exact H5H.out
    have m0 : Z8.cell? ⟨wr.heap.size, 0, none⟩ = some (.int .i64 E.f0) := (World.cell?_of_block (w := X) (by rw [h8])).trans a0
    have m1 : Z8.cell? ⟨wr.heap.size, 1, none⟩ = some (.int .i64 E.f1) := (World.cell?_of_block (w := X) (by rw [h8])).trans a1
    have m2 : Z8.cell? ⟨wr.heap.size, 2, none⟩ = some (.slice A2' E.f2.length c2') := (World.cell?_of_block (w := X) (by rw [h8])).trans a2
    have b8 : Below wr.heap.size wr Z8 := by rw [hZ8]; exact HB5.out.drew
    have hz8 : ∀ b ∈ [wr.heap.size], b < Z8.heap.size := by
     intro b hb
     rw [List.mem_singleton.1 hb, h8]; exact HQX.out
    have C8 := (HAT.out Z8 (HJ.out.ag.below b8)).2.2.2
    have hEl : E.f2.length ≤ 1000000000000 := by have := HWT.out; unfold wt1 at this; omega
    have hfo : hunks_owned_string.f E.f2 = some E.f2 := by unfold hunks_owned_string.f; rw [if_pos (by simp; omega)]; rfl
    have CO := Lib.hid (hunks_owned_string.calls A2' c2' E.f2 E.f2 Z8 C8 hl2 hfo)
    have HZ8 := Lib.hid hZ8
    have H8B := Lib.hid b8
    have H8Z := Lib.hid hz8
    clear hZ8 h8 b8 hz8 C8 hfo
    refine Held.region 11 (Held.Same Z8 [wr.heap.size]) (by kernel_rfl) ?_
    rw [← HZ8.out]
    have hT := Held.Same.refl Z8 [wr.heap.size]
    refine Held.tk (i := 0) rfl hT ?_
    try simp only [Act.put, List.setIfInBounds_toArray, List.set_cons_zero, List.set_cons_succ]
    refine Held.tk (i := 1) rfl hT ?_
    try simp only [Act.put, List.setIfInBounds_toArray, List.set_cons_zero, List.set_cons_succ]
    refine Held.tk (i := 2) rfl hT ?_
    try simp only [Act.put, List.setIfInBounds_toArray, List.set_cons_zero, List.set_cons_succ]
    refine Held.tk (i := 3) rfl hT ?_
    try simp only [Act.put, List.setIfInBounds_toArray, List.set_cons_zero, List.set_cons_succ]
    refine Held.tk (i := 4) rfl hT ?_
    try simp only [Act.put, List.setIfInBounds_toArray, List.set_cons_zero, List.set_cons_succ]
    refine Held.tk (i := 5) rfl hT ?_
    try simp only [Act.put, List.setIfInBounds_toArray, List.set_cons_zero, List.set_cons_succ]
    refine Held.tk (i := 6) rfl hT ?_
    try simp only [Act.put, List.setIfInBounds_toArray, List.set_cons_zero, List.set_cons_succ]
    refine Held.AnyS.step (i := 7) rfl (by kernel_rfl) rfl (fun K hK => ?_)
    go_simp
    first | refine ⟨trivial, ?_⟩ | skip
    refine (callsIn_wide.2 CO.out).mono ?_
    rintro e Y5 ⟨vL, rfl, hRL, hbY5⟩
    obtain ⟨AL, cL, rfl⟩ := Kd.R_slice hRL
    have hT2 := hT.below hbY5 H8Z.out
    have HRL := Lib.hid hRL
    have HBY5 := Lib.hid hbY5
    clear hRL hbY5
    refine hK.out _ _ (fun _ => hT2) ?_
    clear hK K
    try simp only [Act.put, List.setIfInBounds_toArray, List.set_cons_zero, List.set_cons_succ]
    refine Held.tk (i := 8) rfl hT2 ?_
    try simp only [Act.put, List.setIfInBounds_toArray, List.set_cons_zero, List.set_cons_succ]
    refine Held.AnyS.step (i := 9) rfl (by kernel_rfl) rfl (fun K hK => ?_)
    go_simp
    have hT3 := hT2.grown (World.grownBy_alloc Y5 (.cells #[.int .i64 E.f0, .int .i64 E.f1, .slice AL E.f2.length cL] 31) none) (fun b hb => ⟨H8Z.out b hb, by simp⟩)
    refine hK.out _ _ (fun _ => hT3) ?_
    clear hK K
    try simp only [Act.put, List.setIfInBounds_toArray, List.set_cons_zero, List.set_cons_succ]
    obtain ⟨w2, hw2⟩ : ∃ w2, w2 = Y5.alloc (.cells #[.int .i64 E.f0, .int .i64 E.f1, .slice AL E.f2.length cL] 31) := ⟨_, rfl⟩
    have b82 : Below Z8.heap.size Z8 w2 := by rw [hw2]; exact HBY5.out.alloc HBY5.out.size _
    have s8 := H8B.out.size
    have s82 := b82.size
    have swr := HJ.out.ag.size
    have hBw := HB.out
    have bw2 : Below wr.heap.size wr w2 := H8B.out.trans (b82.mono s8)
    have nw : ∀ j u, [Value.int .i64 E.f0, .int .i64 E.f1, .slice AL E.f2.length cL][j]? = some u → w2.cell? ((⟨Y5.heap.size, 0, none⟩ : Addr).add j) = some u := by
     rw [hw2]
     simpa using World.news_of_block (cs := #[Value.int .i64 E.f0, .int .i64 E.f1, .slice AL E.f2.length cL]) (t := 31) (fr := (0, 0)) (World.alloc_heap_new Y5 _)
    have lns : Lns B w2 (.slice AL E.f2.length cL) E.f2 := by
     rw [hw2]
     exact own_alloc (own_less (Kd.own_of_R HRL.out) (by omega)) _
    have S2 : w2.ownsRow B 31 3 (.slice Ao es'.length co) es'.length (flat es') := (HJ.out.scr.below bw2).1
    have ne8 : ∀ b ∈ [wr.heap.size], some b ≠ (Value.slice Ao es'.length co).ownBlock := by
     intro b hb e
     have h0 := List.mem_singleton.1 hb
     have h1 := (HJ.out.typed (.inl e.symm)).2
     omega
    have hel : es'.length ≤ 1000000000000 := by have := HWT.out; have h1 := wt_len (es'.map Ed.plain); rw [List.length_map] at h1; omega
    rw [← hw2] at hT3 ⊢
    clear hw2
    refine Held.AnyS.step (i := 10) rfl (by kernel_rfl) rfl (fun K hK => ?_)
    refine Held.append_at (.tmp 54) (.tmp 63) 26 rfl B 31 (.agg #[.int .i64 0, .int .i64 0, .slice none 0 0]) 3 40 Try.underlying26 info31 rfl (by omega) (.slice Ao es'.length co) es'.length (flat es') rfl S2 ⟨Y5.heap.size, 0, none⟩ 1 1 [.int .i64 E.f0, .int .i64 E.f1, .slice AL E.f2.length cL] rfl rfl nw ?_ ?_ ?_ ?_ ?_
    ·intro u hu; simp at hu; rcases hu with rfl | rfl | rfl <;> rfl
    ·simp only [maxLen]; omega
    ·omega
    ·omega
    intro v1 w1 hown hgr hat1
    obtain ⟨A5, c5, rfl⟩ := own_slice hown
    have hT4 : Held.Same Z8 [wr.heap.size] w1 := hT3.grown hgr (fun b hb => ⟨H8Z.out b hb, ne8 b hb⟩)
    have PUSH := Lib.hid (HJ.out.push hBw ci HE.out HOP.out bw2 hown hgr hat1 lns (fun k hk => Nat.le_trans s8 (own_base (Kd.own_of_R HRL.out) k hk)))
    clear hown hgr hat1 S2 nw lns bw2 b82 ne8
    refine hK.out _ _ (fun _ => hT4) ?_
    clear hK K hT hT2 hT3 hT4
    try simp only [Act.put, List.setIfInBounds_toArray, List.set_cons_zero, List.set_cons_succ]
    refine Held.AnyS.step (i := 11) rfl (by kernel_rfl) rfl (fun K hK => ?_)
    go_simp
    refine hK.out _ _ (fun h => absurd h (by omega)) ?_
    clear hK K
    refine Held.AnyS.done (by kernel_rfl) ?_ _
    go_simp
    gi_wp2
    refine ⟨⟨i + 1, _, by simp, ci, PUSH⟩, ?_⟩
    simp only [jtogo]
    omega
  ·have cb : decide ((i : Int) < (ms.length : Int)) = false := decide_eq_false (by omega)
   obtain rfl : i = ms.length := by omega
   gi_wp2
   go_ret
   exact ⟨_, _, rfl, HJ.out⟩
end Go.Proofs.Ytgobidmfbjmpkaa.P
end
section
set_option linter.unusedVariables false
set_option linter.unusedSimpArgs false
namespace Go.Proofs.Ytgobidmfbjmpkaa.P
open Go Go.RowKit Go.Proofs.YtgobidmfbjmpkaaW.PrintWords Go.Proofs.YtgobidmfbjmpkaaW.PrintLast Go.Proofs.YtgobidmfbjmpkaaW.PrintMore Go.Proofs.Ytgobidmfbjmpkaa.HEdits Go.Proofs.Ytgobidmfbjmpkaa.HHunks
def SEnd (B : Nat) (r : List S31 × Int) (w : World) (e : Ending) (w' : World) : Prop := ∃ v es, e = .returned (.tuple #[v, .int .i64 r.2]) ∧ Scr B w' v es ∧ es.map Ed.plain = r.1 ∧ Below B w w'
theorem kpL_keptE (n : Int) : (Iter.keptE n).map Ed.plain = kpL n := Iter.keptE_plain n
theorem kept_len (n : Int) : (Iter.keptE n).length = (kpL n).length := by rw [← kpL_keptE, List.length_map]
/-- What kept hands back is read beside a script. -/
theorem more_kept {v : Value} {es : List Ed} {B : Nat} {W W2 : World} {n : Int} {X : Option Addr} {c : Nat} (HS : Scr B W v es) (hK : Scr W.heap.size W2 (.slice X (Iter.keptE n).length c) (Iter.keptE n)) : More v es X (kpL n) W2 := by
 have h := More.of_scr (v := v) (es := es) hK (fun k hk hh => by
  have h1 := (HHunks.Scr.has_typed HS hh).2.1
  have h2 := (HHunks.Scr.has_typed hK hk).1
  omega)
 rw [kpL_keptE] at h
 exact h
theorem kept2 (n : Int) (w : World) : Calls Try.prog 33 #[.int .i64 n] w fun e w' => ∃ X c, e = .returned (.slice X (kpL n).length c) ∧ (kpL n).length ≤ c ∧ Scr w.heap.size w' (.slice X (Iter.keptE n).length c) (Iter.keptE n) ∧ Below w.heap.size w w' :=
 (Iter.kept_calls n w).mono fun e w' ⟨X, c, he, hs, _, hb⟩ => ⟨X, c, by rw [he, kept_len], by rw [← kept_len]; exact own_cap hs.1, hs, hb⟩
set_option maxRecDepth 100000 in
set_option maxHeartbeats 4000000 in
theorem script_run (k : Nat) (A0 : Option Addr) (c0 : Nat) (h : List S28) (n : Int) (r : List S31 × Int) (w : World) (hr0 : Kd.C k28 w A0 h.length h) (hc0 : h.length ≤ c0) (hf : hunks_Script.f k h n = some r) :
  Calls Try.prog 18 #[.slice A0 h.length c0, .int .i64 n] w (SEnd w.heap.size r w) := by
 unfold hunks_Script.f at hf
 obtain ⟨rt, hrt, hf⟩ := Option.bind_eq_some_iff.1 hf
 have HR0 := Lib.hid hr0
 have CR := Lib.hid (hunks_Right.calls k A0 c0 h rt w hr0 hc0 hrt)
 clear hr0 hrt
 by_cases hcond : rt = true ∧ 0 ≤ n ∧ n ≤ 1048576
 ·rw [if_pos hcond] at hf
  obtain ⟨rfl, hn0, hn1⟩ := hcond
  split at hf
  ·rename_i hl
   obtain ⟨q, hq, hf⟩ := Option.bind_eq_some_iff.1 hf
   have HQ := Lib.hid hq
   have HF := Lib.hid hf
   clear hq hf
   have d1 : decide (n < 0) = false := decide_eq_false (by omega)
   have d2 : decide (1048576 < n) = false := decide_eq_false (by omega)
   go_enter Try.func18, Try.ntmps18
   go_wp2_with (first | (go_at_call 16; refine CR.out.mono ?_; rintro e w1 ⟨rfl, hb1⟩))
   have HB1 := Lib.hid hb1
   have hs1 := hb1.size
   clear hb1
   go_loopw [4, 6, 24] (fun v4 v6 v24 wr => ∃ (i : Nat) (es : List Ed) (a : Int), v24 = .int .i64 (i : Int) ∧ v6 = .int .i64 a ∧ i ≤ h.length ∧ Hid (Scr w.heap.size wr v4 es) ∧ Hid (scrL k (h.drop i) (es.map Ed.plain) a = some q) ∧ Hid (Below w.heap.size w wr)) (fun _ _ v24 _ => h.length - (intOf v24).toNat)
   case atStart => exact ⟨0, [], 0, rfl, rfl, Nat.zero_le _, Scr.nil _ _, HQ, HB1⟩
   case round =>
    obtain ⟨i, es, a, rfl, rfl, hi, HS, HL, HB⟩ := hrel
    by_cases ci : i < h.length
    ·have cb : decide ((i : Int) < (h.length : Int)) = true := decide_eq_true (by omega)
     have cb' : decide (i < h.length) = true := decide_eq_true ci
     obtain ⟨ad, A2, c2, rfl, hx0, hx1, hx2, hl2, hC2⟩ := at_T28 HR0.out (i : Int) (by omega) (by omega)
     have HL' := HL.out
     rw [List.drop_eq_getElem_cons ci] at HL'
     have hE0 : h[i] = rd_T28 h (i : Int) := by simp [rd_T28, List.getD_eq_getElem?_getD, List.getElem?_eq_getElem ci]
     rw [hE0] at HL'
     obtain ⟨x, hx⟩ : ∃ x, x = rd_T28 h (i : Int) := ⟨_, rfl⟩
     rw [← hx] at hx0 hx1 hx2 hl2 hC2 HL'
     rw [Int.toNat_natCast] at hx0 hx1 hx2
     obtain ⟨t, hsp, ⟨⟨hf0, hf1⟩, ⟨ha0, ha1⟩, ⟨ht0, ht1⟩, hwt⟩, hnext⟩ := scrL_cons HL'
     have y0 := (HB.out.cell (World.block_lt_of_cell? w _ hx0)).trans hx0
     have y1 := (HB.out.cell (World.block_lt_of_cell? w _ hx1)).trans hx1
     have y2 := (HB.out.cell (World.block_lt_of_cell? w _ hx2)).trans hx2
     have p1 := eq_true (show 0 ≤ (i : Int) by omega)
     have q1 := eq_true (show (i : Int) < (h.length : Int) by omega)
     obtain ⟨t1, t2⟩ := t
     obtain ⟨d, hd⟩ : ∃ d, d = x.f0 - a := ⟨_, rfl⟩
     have s1 : IntKind.i64.wrap (x.f0 - a) = d := by rw [hd, i64_w]; exact jw64 (by omega) (by omega)
     have s1' : wrap64 (x.f0 - a) = d := by rw [hd]; exact jw64 (by omega) (by omega)
     obtain ⟨u, hu⟩ : ∃ u, u = x.f0 + t1 := ⟨_, rfl⟩
     have s2 : IntKind.i64.wrap (x.f0 + t1) = u := by rw [hu, i64_w]; exact jw64 (by simp at ht0; omega) (by simp at ht1; omega)
     have s2' : wrap64 (x.f0 + t1) = u := by rw [hu]; exact jw64 (by simp at ht0; omega) (by simp at ht1; omega)
     rw [← hd] at hwt hnext
     simp only [] at hnext
     rw [← hu] at hnext
     have HN := Lib.hid hnext
     have HW := Lib.hid hwt
     have HSP := Lib.hid hsp
     have HC2 := Lib.hid hC2
     have HX := Lib.hid hx
     clear hnext hwt hsp hC2 hx hx0 hx1 hx2 hE0 HL' HL hd hu hf0 hf1 ha0 ha1 ht0 ht1
     have hsb := HB.out.size
     obtain ⟨X0, hX0⟩ : ∃ X0, X0 = wr.alloc (.cells #[.int .i64 x.f0, .int .i64 x.f1, .slice A2 x.f2.length c2] 28) := ⟨_, rfl⟩
     have qX : X0.heap[wr.heap.size]? = some (.cells #[.int .i64 x.f0, .int .i64 x.f1, .slice A2 x.f2.length c2] 28) := by rw [hX0]; exact World.alloc_heap_new wr _
     have bX : Below wr.heap.size wr X0 := by rw [hX0]; exact (Below.refl _ _).alloc (Nat.le_refl _) _
     have z0 : X0.cell? ⟨wr.heap.size, 0, none⟩ = some (.int .i64 x.f0) := by simp [World.cell?, qX]
     have HSX0 := Lib.hid (HS.out.below bX)
     have hqn := Lib.hid (fun hh : hasS u4 es wr.heap.size => Nat.lt_irrefl _ (HHunks.Scr.has_typed HS.out hh).2.1)
     have hsX := bX.size
     have HX0 := Lib.hid hX0
     have HQX := Lib.hid qX
     have HBX := Lib.hid bX
     have W1b := Lib.hid (show wt (es.map Ed.plain) + wt (kpL d) ≤ 1000000000000 by have := HW.out; have := wt_kpL d; omega)
     clear hX0 qX bX
     go_wp2_with (first | rw [← HX0.out])
     refine (kept2 d X0).mono ?_
     rintro e W2 ⟨X, cX, rfl, hcX, hSX, hbK⟩
     have hs2 := hbK.size
     have HS2 := Lib.hid (HSX0.out.below hbK)
     have HQ2 := Lib.hid ((hbK.block _ (blk_lt HQX.out)).trans HQX.out)
     have J1 := Lib.hid (joined_run w.heap.size u4 es X cX (kpL d) W2 (by omega) HS2.out (more_kept HSX0.out hSX) hcX W1b.out)
     have HBK := Lib.hid hbK
     clear hcX hSX hbK
     go_wp2_with (first | rw [← HX0.out])
     refine J1.out.mono ?_
     rintro e W3 ⟨v3, es3, rfl, hJ3⟩
     have hs3 := hJ3.bel.size
     have HQ3 := Lib.hid ((hJ3.ag.block _ (blk_lt HQ2.out) hqn.out).trans HQ2.out)
     have z2 : W3.cell? ⟨wr.heap.size, 2, none⟩ = some (.slice A2 x.f2.length c2) := by simp [World.cell?, HQ3.out]
     have P3 := Lib.hid (show es3.map Ed.plain = joinL (es.map Ed.plain) (kpL d) by have := hJ3.pl; rwa [List.take_length] at this)
     have BW3 := Lib.hid (((HB.out.trans (HBX.out.mono hsb)).trans (HBK.out.mono (by omega))).trans hJ3.bel)
     have W3b : wt (es3.map Ed.plain) + wt x.f2 ≤ 1000000000000 := by rw [P3.out]; have := HW.out; have := wt_kpL d; have := wt_joinL (kpL d) (es.map Ed.plain); omega
     have J2 := Lib.hid (joined_run w.heap.size v3 es3 A2 c2 x.f2 W3 (by omega) hJ3.scr (More.of_below hJ3.scr (Nat.le_refl _) BW3.out HC2.out) hl2 W3b)
     have hqn3 := Lib.hid (fun hh : hasS v3 es3 wr.heap.size => (hJ3.only _ hh).elim hqn.out (fun h1 => by have := blk_lt HQ2.out; omega))
     clear W3b hJ3 J1
     go_wp2_with (first | rw [← HX0.out])
     refine J2.out.mono ?_
     rintro e W4 ⟨v4, es4, rfl, hJ4⟩
     have hs4 := hJ4.bel.size
     have HQ4 := Lib.hid ((hJ4.ag.block _ (blk_lt HQ3.out) hqn3.out).trans HQ3.out)
     have z3 : W4.cell? ⟨wr.heap.size, 2, none⟩ = some (.slice A2 x.f2.length c2) := by simp [World.cell?, HQ4.out]
     have P4 := Lib.hid (show es4.map Ed.plain = joinL (joinL (es.map Ed.plain) (kpL d)) x.f2 by have := hJ4.pl; rwa [List.take_length, P3.out] at this)
     have BW4 := Lib.hid (BW3.out.trans hJ4.bel)
     have HS4 := Lib.hid hJ4.scr
     have CS := Lib.hid (script_Spans.calls k A2 c2 x.f2 t1 t2 W4 (Kd.C_below HC2.out BW4.out) hl2 HSP.out)
     clear hJ4 J2
     go_wp2_with (first | rw [← HX0.out])
     refine CS.out.mono ?_
     rintro e W5 ⟨rfl, hb5⟩
     have z4 : W5.cell? ⟨wr.heap.size, 0, none⟩ = some (.int .i64 x.f0) := by
      have h5 := (hb5.block _ (blk_lt HQ4.out)).trans HQ4.out
      simp [World.cell?, h5]
     have HS5 := Lib.hid (HS4.out.below hb5)
     have BW5 := Lib.hid (BW4.out.trans (hb5.mono (by have := BW4.out.size; omega)))
     have HN5 := Lib.hid (show scrL k (h.drop (i + 1)) (es4.map Ed.plain) u = some q by rw [P4.out]; exact HN.out)
     clear hb5
     go_wp2_with (first | rw [← HX0.out])
     exact ⟨⟨i + 1, es4, u, by simp, rfl, ci, HS5, HN5, BW5⟩, by simp [intOf]; omega⟩
    ·have cb : decide ((i : Int) < (h.length : Int)) = false := decide_eq_false (by omega)
     have cb' : decide (i < h.length) = false := decide_eq_false ci
     obtain rfl : i = h.length := by omega
     have HL' := HL.out
     rw [List.drop_length] at HL'
     obtain rfl := Option.some.inj HL'
     clear HL' HL
     have HF' := HF.out
     have hsb := HB.out.size
     by_cases cq : a > n
     ·have cq1 : decide (n < a) = true := decide_eq_true cq
      simp only [] at HF'
      rw [if_pos cq] at HF'
      obtain rfl := Option.some.inj HF'
      clear HF' cq HF
      go_wp2
      go_ret2
      exact ⟨_, [], rfl, Scr.nil _ _, rfl, HB.out⟩
     ·have cq1 : decide (n < a) = false := decide_eq_false cq
      simp only [] at HF'
      rw [if_neg cq] at HF'
      split at HF'
      ·rename_i hg
       obtain ⟨hg0, hg1⟩ := hg
       obtain rfl := Option.some.inj HF'
       obtain ⟨d, hd⟩ : ∃ d, d = n - a := ⟨_, rfl⟩
       have s1 : IntKind.i64.wrap (n - a) = d := by rw [hd, i64_w]; exact jw64 (by omega) (by omega)
       have s1' : wrap64 (n - a) = d := by rw [hd]; exact jw64 (by omega) (by omega)
       have W1b := Lib.hid (show wt (es.map Ed.plain) + wt (kpL d) ≤ 1000000000000 by have := wt_kpL d; omega)
       have HD := Lib.hid hd
       clear HF' cq HF hg1 hd
       go_wp2_with (first | rw [← HD.out])
       refine (kept2 d wr).mono ?_
       rintro e W2 ⟨X, cX, rfl, hcX, hSX, hbK⟩
       have hs2 := hbK.size
       have J1 := Lib.hid (joined_run w.heap.size u4 es X cX (kpL d) W2 (by omega) (HS.out.below hbK) (more_kept HS.out hSX) hcX W1b.out)
       have HB2 := Lib.hid (HB.out.trans (hbK.mono hsb))
       clear hcX hSX hbK
       go_wp2_with (first | rw [← HD.out])
       refine J1.out.mono ?_
       rintro e W3 ⟨v3, es3, rfl, hJ3⟩
       have P3 := Lib.hid (show es3.map Ed.plain = joinL (es.map Ed.plain) (kpL d) by have := hJ3.pl; rwa [List.take_length] at this)
       have HS3 := Lib.hid hJ3.scr
       have HB3 := Lib.hid (HB2.out.trans hJ3.bel)
       clear hJ3 J1
       go_wp2_with (first | rw [← HD.out])
       go_ret2
       exact ⟨_, es3, rfl, HS3.out, P3.out, HB3.out⟩
      ·cases HF'
  ·cases hf
 ·rw [if_neg hcond] at hf
  obtain rfl := Option.some.inj hf
  cases rt with
  | false =>
   clear hcond hf
   go_enter Try.func18, Try.ntmps18
   go_wp2_with (first | (go_at_call 16; refine CR.out.mono ?_; rintro e w1 ⟨rfl, hb1⟩; have HB1 := Lib.hid hb1; clear hb1))
   go_ret2
   exact ⟨_, [], rfl, Scr.nil _ _, rfl, HB1.out⟩
  | true =>
   by_cases c1 : n < 0
   ·have d1 : decide (n < 0) = true := decide_eq_true c1
    clear hcond hf c1
    go_enter Try.func18, Try.ntmps18
    go_wp2_with (first | (go_at_call 16; refine CR.out.mono ?_; rintro e w1 ⟨rfl, hb1⟩; have HB1 := Lib.hid hb1; clear hb1))
    go_ret2
    exact ⟨_, [], rfl, Scr.nil _ _, rfl, HB1.out⟩
   ·have d1 : decide (n < 0) = false := decide_eq_false c1
    have d2 : decide (1048576 < n) = true := decide_eq_true (Int.not_le.1 (fun hle => hcond ⟨rfl, by omega, hle⟩))
    clear hcond hf c1
    go_enter Try.func18, Try.ntmps18
    go_wp2_with (first | (go_at_call 16; refine CR.out.mono ?_; rintro e w1 ⟨rfl, hb1⟩; have HB1 := Lib.hid hb1; clear hb1))
    go_ret2
    exact ⟨_, [], rfl, Scr.nil _ _, rfl, HB1.out⟩
theorem hunks_Script.calls (k : Nat) (A0 : Option Addr) (c0 : Nat) (l0 : List S28) (a1 : Int) (r1 : List S31) (r2 : Int) (w : World) (hr0 : Kd.C k28 w A0 l0.length l0) (hc0 : l0.length ≤ c0) (h : hunks_Script.f k l0 a1 = some (r1, r2)) :
  Calls Try.prog 18 #[.slice A0 l0.length c0, .int .i64 a1] w fun e w' => ∃ v0_ : Value, e = .returned (.tuple #[v0_, .int .i64 r2]) ∧ Kd.S k31 31 w' w.heap.size (fun _ => True) v0_ r1 ∧ Below w.heap.size w w' := by
 refine (script_run k A0 c0 l0 a1 (r1, r2) w hr0 hc0 h).mono ?_
 rintro e w' ⟨v, es, he, hk, hp, hb⟩
 exact ⟨v, he, by have := hk.toS; rw [hp] at this; exact this, hb⟩
end Go.Proofs.Ytgobidmfbjmpkaa.P
end
end
section
/- Laid for this claim by hp.py, this session's program round the kit's print: functions of the program as plain Lean functions, the proofs that the code comes to their answers, and the rows of the laws. Not trusted: Lean checks it. -/
namespace Go.Proofs.Ytgobidmfbjmpkaa.P
open Go.RowKit Go.Proofs.YtgobidmfbjmpkaaW.PrintWords Go.Proofs.YtgobidmfbjmpkaaW.PrintLast Go.Proofs.YtgobidmfbjmpkaaW.PrintMore
attribute [local go_sem] max2_int min2_int max_two min_two max_three min_three max_four min_four   -- for this text's walks alone
set_option linter.unusedVariables false
set_option linter.unusedSimpArgs false

/-! ### hunks_Apply: function 22 -/
def hunks_Apply.f (k : Nat) (l0 : List (S28)) (l1 : List ByteArray) : Option (List ByteArray × Int) := (hunks_Script.f k l0 (l1.length : Int)).bind fun bt232 => (if bt232.2 = 0 then ((script_Apply.f k bt232.1 l1).bind fun bt236 => (some (bt236.1, bt236.2))) else (some (([] : List ByteArray), bt232.2)))
set_option maxHeartbeats 8000000 in
set_option maxRecDepth 100000 in
theorem hunks_Apply.calls (k : Nat) (A0 : Option Addr) (c0 : Nat) (l0 : List (S28)) (A1 : Option Addr) (c1 : Nat) (l1 : List ByteArray) (r1 : List ByteArray) (r2 : Int) (w : World) (hr0 : Kd.C k28 w A0 l0.length l0) (hc0 : l0.length ≤ c0) (hr1 : Kd.C Kd.string w A1 l1.length l1) (hc1 : l1.length ≤ c1) (h : hunks_Apply.f k l0 l1 = some (r1, r2)) :
  Calls Try.prog 22 #[.slice A0 l0.length c0, .slice A1 l1.length c1] w fun e w' => ∃ v0_ : Value, e = .returned (.tuple #[v0_, .int .i64 r2]) ∧ Kd.R Kd.string 9 w' w.heap.size (fun _ => True) v0_ r1 ∧ Below w.heap.size w w' := by
 have HR0 := Aside0.mk hr0
 have HC0 := Aside0.mk hc0
 clear hr0 hc0
 have HR1 := Aside0.mk hr1
 have HC1 := Aside0.mk hc1
 clear hr1 hc1
 have HB := Aside0.mk (Below.refl w.heap.size w)
 have H : ((hunks_Script.f k l0 (l1.length : Int)).bind fun bt232 => (if bt232.2 = 0 then ((script_Apply.f k bt232.1 l1).bind fun bt236 => (some (bt236.1, bt236.2))) else (some (([] : List ByteArray), bt232.2)))) = some (r1, r2) := h
 clear h
 replace H := Option.bind_eq_some_iff.mp H
 obtain ⟨⟨t232, t233⟩, A30, H⟩ := H
 replace H : (if t233 = 0 then ((script_Apply.f k t232 l1).bind fun bt236 => (some (bt236.1, bt236.2))) else (some (([] : List ByteArray), t233))) = some (r1, r2) := H
 have A3 := Aside0.mk A30
 clear A30
 by_cases c4 : t233 = 0
 ·rw [if_pos c4] at H
  have c4b0 : (t233 == 0) = true := beq_iff_eq.mpr c4
  have c4b1 : (t233 != 0) = false := bne_eq_false_iff_eq.mpr c4
  clear c4
  replace H := Option.bind_eq_some_iff.mp H
  obtain ⟨⟨t236, t239⟩, A50, H⟩ := H
  replace H : (some (t236, t239)) = some (r1, r2) := H
  have A5 := Aside0.mk A50
  clear A50
  simp only [Option.some.injEq, Prod.mk.injEq] at H
  obtain ⟨rfl, rfl⟩ := H
  go_enter Try.func22, Try.ntmps22
  go_wp2_with (first | ((with_reducible refine gate_callee (f := 18) rfl ?_); refine goesL_ (some 12) rfl rfl Try.func18 (by kernel_rfl) rfl #[.slice A0 l0.length c0, .int .i64 (l1.length : Int)] rfl mp_ ?_; (with_reducible refine (hunks_Script.calls k _ _ l0 (l1.length : Int) t232 t233 _ ?side1 ?side2 A3.out).mono ?_); (case side1 => repeat (first | exact HR0.out | (with_reducible refine Kd.C_alloc ?_ _) | (with_reducible refine Kd.C_drewN ?_ _) | (with_reducible refine Kd.C_drew ?_))); (case side2 => exact HC0.out); rintro e w6 ⟨v234, rfl, ho0, hb⟩; refine ⟨_, rfl, ?_⟩; have n0_ := Aside0.mk (Kd.S_lower ho0 (below_size hb_)); have n1_ := Aside0.mk (below_step hb_ hb); clear HB; have HO235 := n0_; have HB := n1_; clear n0_ n1_; (try clear hb); (try clear hb2); (try clear hk); (try clear hi); (try clear ho0); (try (obtain ⟨Ao7, co7, eo7⟩ := Kd.S_slice HO235.out; subst eo7))) | ((with_reducible refine gate_callee (f := 46) rfl ?_); refine goesL_ (some 20) rfl rfl Try.func46 (by kernel_rfl) rfl #[.slice Ao7 t232.length co7, .slice A1 l1.length c1] rfl mp_ ?_; (with_reducible refine (script_Apply.calls k _ _ t232 (fun k_ => k_ < w.heap.size) _ _ l1 t236 t239 _ ?side1 ?side2 ?side3 A5.out).mono ?_); (case side1 => repeat (first | exact (Kd.S_reads' HO235.out).2.2 | (with_reducible refine Kd.C_alloc ?_ _) | (with_reducible refine Kd.C_drewN ?_ _) | (with_reducible refine Kd.C_drew ?_))); (case side2 => exact (Kd.S_reads' HO235.out).2.1); (case side3 => exact Kd.V_mk HC1.out (Kd.F_below (Kd.C_F Kd.heap_string HR1.out) hb_)); rintro e w8 ⟨v237, rfl, ho0, hb⟩; refine ⟨_, rfl, ?_⟩; have n0_ := Aside0.mk (Kd.S_elder' (by (with_reducible repeat (first | apply Kd.S_alloc | apply Kd.S_drewN | apply Kd.S_drew)); exact HO235.out) (Kd.R_base ho0) hb); have n1_ := Aside0.mk (Kd.R_lower (Kd.R_mono (ok' := fun k_ => True) ho0 (fun _ hk_ => trivial)) (below_size hb_)); have n2_ := Aside0.mk (below_step hb_ hb); clear HO235; clear HB; have HO235 := n0_; have HO238 := n1_; have HB := n2_; clear n0_ n1_ n2_; (try clear hb); (try clear hb2); (try clear hk); (try clear hi); (try clear ho0)))
  go_ret2
  exact ⟨_, by first | rfl | (simp [errW_none, errW_some] <;> rfl) | (simp [*, errW_none, errW_some] <;> rfl), by (with_reducible repeat (first | apply Kd.R_alloc | apply Kd.R_drewN | apply Kd.R_drew)); exact HO238.out, by repeat (first | (with_reducible first | exact HB.out | apply below_alloc | apply pw_below_drewN | apply below_drew1) | exact HB.out)⟩
 ·rw [if_neg c4] at H
  have c4b0 : (t233 == 0) = false := beq_eq_false_iff_ne.mpr c4
  have c4b1 : (t233 != 0) = true := bne_iff_ne.mpr c4
  simp only [Option.some.injEq, Prod.mk.injEq] at H
  obtain ⟨rfl, rfl⟩ := H
  go_enter Try.func22, Try.ntmps22
  go_wp2_with (first | ((with_reducible refine gate_callee (f := 18) rfl ?_); refine goesL_ (some 12) rfl rfl Try.func18 (by kernel_rfl) rfl #[.slice A0 l0.length c0, .int .i64 (l1.length : Int)] rfl mp_ ?_; (with_reducible refine (hunks_Script.calls k _ _ l0 (l1.length : Int) t232 t233 _ ?side1 ?side2 A3.out).mono ?_); (case side1 => repeat (first | exact HR0.out | (with_reducible refine Kd.C_alloc ?_ _) | (with_reducible refine Kd.C_drewN ?_ _) | (with_reducible refine Kd.C_drew ?_))); (case side2 => exact HC0.out); rintro e w9 ⟨v234, rfl, ho0, hb⟩; refine ⟨_, rfl, ?_⟩; have n0_ := Aside0.mk (Kd.S_lower ho0 (below_size hb_)); have n1_ := Aside0.mk (below_step hb_ hb); clear HB; have HO235 := n0_; have HB := n1_; clear n0_ n1_; (try clear hb); (try clear hb2); (try clear hk); (try clear hi); (try clear ho0)))
  go_ret2
  exact ⟨_, by first | rfl | (simp [errW_none, errW_some] <;> rfl) | (simp [*, errW_none, errW_some] <;> rfl), by first | exact Kd.R_nil _ _ _ _ _ | exact Kd.N_nil _ _ _ _ _ | exact Kd.V_nil _ _ _ _ _ | exact Kd.Q_nil _ _ _ _ _ | exact Kd.S_nil _ _ _ _ _, by repeat (first | (with_reducible first | exact HB.out | apply below_alloc | apply pw_below_drewN | apply below_drew1) | exact HB.out)⟩

end Go.Proofs.Ytgobidmfbjmpkaa.P
end
section
/- ref06.Same: by a walk of its text. -/
set_option linter.unusedVariables false
set_option linter.unusedSimpArgs false
namespace Go.Proofs.Ytgobidmfbjmpkaa.P
open Go Go.RowKit Go.Proofs.YtgobidmfbjmpkaaW.PrintWords Go.Proofs.YtgobidmfbjmpkaaW.PrintLast Go.Proofs.YtgobidmfbjmpkaaW.PrintMore
def collatorref06_Same.l0 : Nat → List S28 → List S28 → Int → Option Bool
 | 0, _, _, _ => none
 | k + 1, x0, x1, x5 => if x5 < (x0.length : Int) then (if 0 ≤ x5 then (if x5 < (x1.length : Int) then ((collatorref04_Same.f k ((rd_T28 x0 x5).f2) ((rd_T28 x1 x5).f2)).bind fun t175 => (if t175 = true then (if ((rd_T28 x0 x5).f0) = ((rd_T28 x1 x5).f0) then (if ((rd_T28 x0 x5).f1) = ((rd_T28 x1 x5).f1) then (collatorref06_Same.l0 k x0 x1 (wrap64 (x5 + 1))) else (some false)) else (some false)) else (some false))) else (none)) else (none)) else (some true)
def collatorref06_Same.f (k : Nat) (l0 : List S28) (l1 : List S28) : Option Bool := if (l0.length : Int) = (l1.length : Int) then (collatorref06_Same.l0 k l0 l1 0) else (some false)
set_option maxHeartbeats 8000000 in
set_option maxRecDepth 100000 in
theorem collatorref06_Same.calls (k : Nat) (A0 : Option Addr) (c0 : Nat) (l0 : List S28) (A1 : Option Addr) (c1 : Nat) (l1 : List S28) (r : Bool) (w : World) (hr0 : Kd.C k28 w A0 l0.length l0) (hc0 : l0.length ≤ c0) (hr1 : Kd.C k28 w A1 l1.length l1) (hc1 : l1.length ≤ c1) (h : collatorref06_Same.f k l0 l1 = some r) :
  Calls Try.prog 14 #[.slice A0 l0.length c0, .slice A1 l1.length c1] w fun e w' => e = .returned (.bool r) ∧ Drawn0 w w' := by
 have HR0 := Lib.hid hr0
 have HR1 := Lib.hid hr1
 clear hr0 hr1
 unfold collatorref06_Same.f at h
 by_cases c : (l0.length : Int) = (l1.length : Int)
 case neg =>
  rw [if_neg c] at h
  obtain rfl := Option.some.inj h
  have b : ((l0.length : Int) != (l1.length : Int)) = true := bne_iff_ne.2 c
  have b' : (l0.length != l1.length) = true := bne_iff_ne.2 (by omega)
  clear h c
  go_enter Try.func14, Try.ntmps14
  go_wp2
  go_ret
  exact ⟨rfl, Drawn0.refl _⟩
 rw [if_pos c] at h
 have H' := Lib.hid h
 have b : ((l0.length : Int) != (l1.length : Int)) = false := bne_eq_false_iff_eq.2 c
 have b' : (l0.length != l1.length) = false := bne_eq_false_iff_eq.2 (by omega)
 clear h c
 go_enter Try.func14, Try.ntmps14
 go_wp2
 go_loopg [5] k (fun kq v5 w' => ∃ i : Int, v5 = .int .i64 i ∧ Hid (collatorref06_Same.l0 kq l0 l1 i = some r) ∧ Hid (kq ≤ k) ∧ Hid (Drawn0 w w'))
 case atStart => exact ⟨0, rfl, H', Lib.hid (Nat.le_refl _), Lib.hid (Drawn0.refl _)⟩
 case round =>
  clear H'
  obtain ⟨i, rfl, HA, HK1, HD⟩ := hrel
  obtain ⟨⟨n, rfl⟩⟩ := HD.out
  clear HD
  cases gk with
  | zero => exact absurd HA.out (by simp [collatorref06_Same.l0])
  | succ k1 =>
   have H := HA.out
   clear HA
   simp only [collatorref06_Same.l0] at H
   by_cases d : i < (l0.length : Int)
   case neg =>
    rw [if_neg d] at H
    have b2 : decide (i < (l0.length : Int)) = false := decide_eq_false d
    obtain rfl := Option.some.inj H
    go_wp2
    go_ret
    exact ⟨rfl, (Drawn0.refl w).step n⟩
   rw [if_pos d] at H
   have b2 : decide (i < (l0.length : Int)) = true := decide_eq_true d
   by_cases e0 : 0 ≤ i
   case neg => rw [if_neg e0] at H; cases H
   rw [if_pos e0] at H
   by_cases e1 : i < (l1.length : Int)
   case neg => rw [if_neg e1] at H; cases H
   rw [if_pos e1] at H
   obtain ⟨ad, A2, d2, z0, g0, g1, g2, hxl, hxc⟩ := at_T28 HR0.out i e0 d
   obtain ⟨ae, A3, d3, z1, h0, h1, h2, hyl, hyc⟩ := at_T28 HR1.out i e0 e1
   subst z0
   subst z1
   obtain ⟨x, hx⟩ : ∃ x, x = rd_T28 l0 i := ⟨_, rfl⟩
   obtain ⟨y, hy⟩ : ∃ y, y = rd_T28 l1 i := ⟨_, rfl⟩
   rw [← hx] at g0 g1 g2 hxl hxc H
   rw [← hy] at h0 h1 h2 hyl hyc H
   obtain ⟨t, ht, H⟩ := Option.bind_eq_some_iff.1 H
   have HT := Lib.hid ht
   have HXC := Lib.hid hxc
   have HYC := Lib.hid hyc
   have HXL := Lib.hid hxl
   have HYL := Lib.hid hyl
   have p0 := eq_true e0
   have p1 := eq_true d
   have p2 := eq_true e1
   have key : ∃ b1 b2, (x.f0 != y.f0) = b1 ∧ (x.f1 != y.f1) = b2 ∧ ((Hid (r = false) ∧ (t = false ∨ (t = true ∧ b1 = true) ∨ (t = true ∧ b1 = false ∧ b2 = true))) ∨ (Hid (collatorref06_Same.l0 k1 l0 l1 (wrap64 (i + 1)) = some r) ∧ t = true ∧ b1 = false ∧ b2 = false)) := by
    refine ⟨x.f0 != y.f0, x.f1 != y.f1, rfl, rfl, ?_⟩
    split at H
    ·split at H
     ·split at H
      ·exact .inr ⟨Lib.hid H, by assumption, bne_eq_false_iff_eq.2 (by assumption), bne_eq_false_iff_eq.2 (by assumption)⟩
      ·exact .inl ⟨Lib.hid (Option.some.inj H).symm, .inr (.inr ⟨by assumption, bne_eq_false_iff_eq.2 (by assumption), bne_iff_ne.2 (by assumption)⟩)⟩
     ·exact .inl ⟨Lib.hid (Option.some.inj H).symm, .inr (.inl ⟨by assumption, bne_iff_ne.2 (by assumption)⟩)⟩
    ·exact .inl ⟨Lib.hid (Option.some.inj H).symm, .inl (by simpa using ‹¬ t = true›)⟩
   obtain ⟨b3, b4, t1, t2, hk⟩ := key
   clear H ht hxc hyc hxl hyl hx hy d e0 e1
   have fin : ∀ W, Hid (r = false) → Drawn0 w W → (Ending.returned (.bool false) = .returned (.bool r) ∧ Drawn0 w W) := fun W h hd => ⟨by rw [h.out], hd⟩
   rcases hk with ⟨HF, hk⟩ | ⟨H', rfl, rfl, rfl⟩
   ·cases t
    ·go_wp2
     repeat (go_quiet (first | (go_at_call 20; refine (collatorref04_Same.calls k1 A2 d2 x.f2 A3 d3 y.f2 false _ ?s1 HXL.out ?s3 HYL.out HT.out).mono ?_; (case s1 => repeat (first | exact HXC.out | (with_reducible refine Kd.C_drewN ?_ _) | (with_reducible refine Kd.C_drew ?_))); (case s3 => repeat (first | exact HYC.out | (with_reducible refine Kd.C_drewN ?_ _) | (with_reducible refine Kd.C_drew ?_))); rintro e w' ⟨rfl, ⟨nd, rfl⟩⟩; (try first | exact ⟨rfl, _, World.drewN_drewN _ _ _⟩ | exact ⟨rfl, _, Eq.trans (World.drewN_drewN _ _ _) (congrArg (World.drewN _) (Nat.add_assoc _ _ _))⟩))); try go_wp2)
     all_goals go_ret
     all_goals exact fin _ HF (by repeat (first | exact Drawn0.refl _ | apply Drawn0.step))
    ·have hk : (b3 = true ∨ (b3 = false ∧ b4 = true)) := by rcases hk with h | ⟨-, h⟩ | ⟨-, h⟩ <;> first | (cases h; done) | exact .inl h | exact .inr h
     rcases hk with rfl | ⟨rfl, rfl⟩
     all_goals go_wp2
     all_goals repeat (go_quiet (first | (go_at_call 20; refine (collatorref04_Same.calls k1 A2 d2 x.f2 A3 d3 y.f2 true _ ?s1 HXL.out ?s3 HYL.out HT.out).mono ?_; (case s1 => repeat (first | exact HXC.out | (with_reducible refine Kd.C_drewN ?_ _) | (with_reducible refine Kd.C_drew ?_))); (case s3 => repeat (first | exact HYC.out | (with_reducible refine Kd.C_drewN ?_ _) | (with_reducible refine Kd.C_drew ?_))); rintro e w' ⟨rfl, ⟨nd, rfl⟩⟩; (try first | exact ⟨rfl, _, World.drewN_drewN _ _ _⟩ | exact ⟨rfl, _, Eq.trans (World.drewN_drewN _ _ _) (congrArg (World.drewN _) (Nat.add_assoc _ _ _))⟩))); try go_wp2)
     all_goals go_ret
     all_goals exact fin _ HF (by repeat (first | exact Drawn0.refl _ | apply Drawn0.step))
   ·go_wp2
    repeat (go_quiet (first | (go_at_call 20; refine (collatorref04_Same.calls k1 A2 d2 x.f2 A3 d3 y.f2 true _ ?s1 HXL.out ?s3 HYL.out HT.out).mono ?_; (case s1 => repeat (first | exact HXC.out | (with_reducible refine Kd.C_drewN ?_ _) | (with_reducible refine Kd.C_drew ?_))); (case s3 => repeat (first | exact HYC.out | (with_reducible refine Kd.C_drewN ?_ _) | (with_reducible refine Kd.C_drew ?_))); rintro e w' ⟨rfl, ⟨nd, rfl⟩⟩; (try first | exact ⟨rfl, _, World.drewN_drewN _ _ _⟩ | exact ⟨rfl, _, Eq.trans (World.drewN_drewN _ _ _) (congrArg (World.drewN _) (Nat.add_assoc _ _ _))⟩))); try go_wp2)
    go_roundg k1
    case measure => have := HK1.out; omega
    case rel => exact ⟨_, rfl, H', Lib.hid (by have := HK1.out; omega), Lib.hid (by repeat (first | exact Drawn0.refl _ | apply Drawn0.step))⟩
end Go.Proofs.Ytgobidmfbjmpkaa.P
end
section
/- Laid for this claim by hp.py, this session's program round the kit's print: functions of the program as plain Lean functions, the proofs that the code comes to their answers, and the rows of the laws. Not trusted: Lean checks it. -/
namespace Go.Proofs.Ytgobidmfbjmpkaa.P
open Go.RowKit Go.Proofs.YtgobidmfbjmpkaaW.PrintWords Go.Proofs.YtgobidmfbjmpkaaW.PrintLast Go.Proofs.YtgobidmfbjmpkaaW.PrintMore
attribute [local go_sem] max2_int min2_int max_two min_two max_three min_three max_four min_four   -- for this text's walks alone
set_option linter.unusedVariables false
set_option linter.unusedSimpArgs false

/-! ### collatorref01_Texts: function 24 -/
def collatorref01_Texts.l0 : Nat → List ByteArray → List ByteArray → Int → Option (Bool)
 | 0, _, _, _ => none
 | k + 1, x0, x1, x5 => if x5 < (x0.length : Int) then (if 0 ≤ x5 then (if x5 < (x1.length : Int) then (if (rdOf ByteArray.empty x0 x5).toList = (rdOf ByteArray.empty x1 x5).toList then (collatorref01_Texts.l0 k x0 x1 (wrap64 (x5 + 1))) else (some false)) else (none)) else (none)) else (some true)
def collatorref01_Texts.f (k : Nat) (l0 : List ByteArray) (l1 : List ByteArray) : Option (Bool) := if (l0.length : Int) = (l1.length : Int) then (collatorref01_Texts.l0 k l0 l1 0) else (some false)
set_option maxHeartbeats 8000000 in
set_option maxRecDepth 100000 in
theorem collatorref01_Texts.calls (k : Nat) (A0 : Option Addr) (c0 : Nat) (l0 : List ByteArray) (A1 : Option Addr) (c1 : Nat) (l1 : List ByteArray) (r : Bool) (w : World) (hr0 : Kd.C Kd.string w A0 l0.length l0) (hc0 : l0.length ≤ c0) (hr1 : Kd.C Kd.string w A1 l1.length l1) (hc1 : l1.length ≤ c1) (h : collatorref01_Texts.f k l0 l1 = some r) :
  Calls Try.prog 24 #[.slice A0 l0.length c0, .slice A1 l1.length c1] w fun e w' => e = .returned (.bool r) ∧ Drawn0 w w' := by
 have HR0 := Aside0.mk hr0
 have HC0 := Aside0.mk hc0
 clear hr0 hc0
 have HR1 := Aside0.mk hr1
 have HC1 := Aside0.mk hc1
 clear hr1 hc1
 have H : (if (l0.length : Int) = (l1.length : Int) then (collatorref01_Texts.l0 k l0 l1 0) else (some false)) = some r := h
 clear h
 by_cases c3 : (l0.length : Int) = (l1.length : Int)
 ·rw [if_pos c3] at H
  have c3b0 : ((l0.length : Int) == (l1.length : Int)) = true := beq_iff_eq.mpr c3
  have c3b1 : ((l0.length : Int) != (l1.length : Int)) = false := bne_eq_false_iff_eq.mpr c3
  have c3b2 : (l0.length == l1.length) = true := by first | simpa using c3 | (simp at c3 ⊢; omega)
  clear c3
  have H' := Aside0.mk H
  clear H
  go_enter Try.func24, Try.ntmps24
  go_wp2
  repeat (go_quiet (fail); try go_wp2)
  go_loopg [5] k (fun kq v5 w' => ∃ (x5_1 : Int), v5 = .int .i64 x5_1 ∧ Aside0 (collatorref01_Texts.l0 kq l0 l1 x5_1 = some r) ∧ Aside0 (kq ≤ k) ∧ Drawn0 w w')
  case atStart => exact ⟨(0), rf_, H', ⟨Nat.le_refl _⟩, by repeat (first | exact Drawn0.refl _ | apply Drawn0.step)⟩
  case round =>
   clear H'
   (try clear c1);(try clear c2);(try clear p2);(try clear c3);(try clear c3b0);(try clear c3b1);(try clear c3b2)
   obtain ⟨x5_1, rfl, HA, HK1, ⟨m1, rfl⟩⟩ := hrel
   cases gk with
   | zero => exact absurd HA.out (by simp [collatorref01_Texts.l0])
   | succ k1 =>
    have H := HA.out
    clear HA
    simp only [collatorref01_Texts.l0] at H
    by_cases c4 : x5_1 < (l0.length : Int)
    ·rw [if_pos c4] at H
     have c4b0 : decide (x5_1 < (l0.length : Int)) = true := decide_eq_true c4
     clear c4
     by_cases c5 : 0 ≤ x5_1
     ·rw [if_pos c5] at H
      have c5b0 : decide (0 ≤ x5_1) = true := decide_eq_true c5
      clear c5
      by_cases c6 : x5_1 < (l1.length : Int)
      ·rw [if_pos c6] at H
       have c6b0 : decide (x5_1 < (l1.length : Int)) = true := decide_eq_true c6
       clear c6
       by_cases c7 : (rdOf ByteArray.empty l0 x5_1).toList = (rdOf ByteArray.empty l1 x5_1).toList
       ·rw [if_pos c7] at H
        have c7b0 : ((rdOf ByteArray.empty l0 x5_1).toList == (rdOf ByteArray.empty l1 x5_1).toList) = true := beq_iff_eq.mpr c7
        have c7b1 : ((rdOf ByteArray.empty l0 x5_1).toList != (rdOf ByteArray.empty l1 x5_1).toList) = false := bne_eq_false_iff_eq.mpr c7
        clear c7
        have H' := Aside0.mk H
        clear H
        have p248 : 0 ≤ (x5_1 : Int) := of_decide_eq_true as_
        have q248 : x5_1 < (l0.length : Int) := of_decide_eq_true as_
        obtain ⟨ad248, e248, hx248_0⟩ := Kd.at_string HR0.out x5_1 p248 q248
        cases e248
        replace p248 := eq_true p248
        replace q248 := eq_true q248
        have p249 : 0 ≤ (x5_1 : Int) := of_decide_eq_true as_
        have q249 : x5_1 < (l1.length : Int) := of_decide_eq_true as_
        obtain ⟨ad249, e249, hx249_0⟩ := Kd.at_string HR1.out x5_1 p249 q249
        cases e249
        replace p249 := eq_true p249
        replace q249 := eq_true q249
        go_wp2
        repeat (go_quiet (fail); try go_wp2)
        go_roundg k1
        case measure => have := HK1.out; omega
        case rel => exact ⟨(wrap64 (x5_1 + 1)), rf_, H', ⟨by have := HK1.out; omega⟩, by repeat (first | exact Drawn0.refl _ | apply Drawn0.step)⟩
       ·rw [if_neg c7] at H
        have c7b0 : ((rdOf ByteArray.empty l0 x5_1).toList == (rdOf ByteArray.empty l1 x5_1).toList) = false := beq_eq_false_iff_ne.mpr c7
        have c7b1 : ((rdOf ByteArray.empty l0 x5_1).toList != (rdOf ByteArray.empty l1 x5_1).toList) = true := bne_iff_ne.mpr c7
        obtain rfl := Option.some.inj H
        have p248 : 0 ≤ (x5_1 : Int) := of_decide_eq_true as_
        have q248 : x5_1 < (l0.length : Int) := of_decide_eq_true as_
        obtain ⟨ad248, e248, hx248_0⟩ := Kd.at_string HR0.out x5_1 p248 q248
        cases e248
        replace p248 := eq_true p248
        replace q248 := eq_true q248
        have p249 : 0 ≤ (x5_1 : Int) := of_decide_eq_true as_
        have q249 : x5_1 < (l1.length : Int) := of_decide_eq_true as_
        obtain ⟨ad249, e249, hx249_0⟩ := Kd.at_string HR1.out x5_1 p249 q249
        cases e249
        replace p249 := eq_true p249
        replace q249 := eq_true q249
        go_wp2
        repeat (go_quiet (fail); try go_wp2)
        go_ret
        exact ⟨by first | rfl | (simp; done) | (simp [*]; done), by repeat (first | exact Drawn0.refl _ | apply Drawn0.step)⟩
      ·rw [if_neg c6] at H
       exact absurd H (by simp)
     ·rw [if_neg c5] at H
      exact absurd H (by simp)
    ·rw [if_neg c4] at H
     have c4b0 : decide (x5_1 < (l0.length : Int)) = false := decide_eq_false c4
     clear c4
     obtain rfl := Option.some.inj H
     go_wp2
     repeat (go_quiet (fail); try go_wp2)
     go_ret
     exact ⟨by first | rfl | (simp; done) | (simp [*]; done), by repeat (first | exact Drawn0.refl _ | apply Drawn0.step)⟩
 ·rw [if_neg c3] at H
  have c3b0 : ((l0.length : Int) == (l1.length : Int)) = false := beq_eq_false_iff_ne.mpr c3
  have c3b1 : ((l0.length : Int) != (l1.length : Int)) = true := bne_iff_ne.mpr c3
  have c3b2 : (l0.length == l1.length) = false := by first | simpa using c3 | (simp at c3 ⊢; omega)
  obtain rfl := Option.some.inj H
  go_enter Try.func24, Try.ntmps24
  go_wp2
  repeat (go_quiet (fail); try go_wp2)
  go_ret
  exact ⟨by first | rfl | (simp; done) | (simp [*]; done), by repeat (first | exact Drawn0.refl _ | apply Drawn0.step)⟩

end Go.Proofs.Ytgobidmfbjmpkaa.P
end
section
/- The first calls of layer 6's laws, whose answers are fixed: by a walk of their text. -/
set_option linter.unusedVariables false
set_option linter.unusedSimpArgs false
namespace Go.Proofs.Ytgobidmfbjmpkaa.P
open Go Go.RowKit Go.Shelf Go.Proofs.YtgobidmfbjmpkaaW.PrintWords Go.Proofs.YtgobidmfbjmpkaaW.PrintLast Go.Proofs.YtgobidmfbjmpkaaW.PrintMore Go.Proofs.Ytgobidmfbjmpkaa.HEdits Go.Proofs.Ytgobidmfbjmpkaa.HHunks
attribute [local go_sem] Oper.semAt_some
def collatorlaw06_awake.f : Option Bool := some true
theorem lit_C (W : World) (xs : List ByteArray) (h : xs.length ≤ 9223372036854775807) : Kd.C Kd.string (W.alloc (.cells (encs Value.string xs).toArray 9)) (some ⟨W.heap.size, 0, none⟩) xs.length xs :=
 (Kd.R_reads' (Kd.R_of_own (h1 := fun _ => rfl) (ok := fun _ => True) (own_lit_of W W.heap.size 9 xs (Nat.le_refl _) h) (fun _ _ => trivial))).2.2
/-- A block of edits is a script, wherever it stands. -/
theorem scr_lit {W : World} (n m : Nat) (es : List Ed) (hg : W.heap[n]? = some (.cells (flat es).toArray 31)) (hm : m = es.length) (hm' : es.length ≤ 9223372036854775807) (h0 : es.length ≠ 0) (hl : ∀ e ∈ es, Lns 0 W e.v e.l) (hp : es.Pairwise (fun p q => NeRow p.v q.v)) : Scr 0 W (.slice (some ⟨n, 0, none⟩) m m) es := by
 subst hm
 refine ⟨⟨flat_length es, .inr ⟨n, es.length, (flat es).toArray, rfl, Nat.zero_le _, hg, Nat.le_refl _, by simpa [maxLen] using hm', by simp [flat_length], ?_⟩⟩, hl, hp⟩
 rw [← flat_length, List.toList_toArray, List.take_length]
theorem scr_C {W : World} {b n c : Nat} {A : Option Addr} {es : List Ed} (h : Scr b W (.slice A n c) es) : Kd.C k31 W A es.length (es.map Ed.plain) := by
 have h3 := (Kd.S_reads' (by
  have h1 := h.toS
  have hn : n = (es.map Ed.plain).length := by
   obtain ⟨A', c', e⟩ := own_slice h.1
   injection e with _ e _
   rw [List.length_map]; exact e
  rw [hn] at h1
  exact h1)).2.2
 rw [List.length_map] at h3
 exact h3
theorem lns_at {W : World} (n : Nat) (x : ByteArray) (hg : W.heap[n]? = some (.cells #[.string x] 9)) : Lns 0 W (.slice (some ⟨n, 0, none⟩) 1 1) [x] :=
 ⟨rfl, .inr ⟨n, 1, #[.string x], rfl, Nat.zero_le _, hg, Nat.le_refl _, by decide, rfl, rfl⟩⟩
theorem ne_nil (v : Value) : NeRow (.slice none 0 0) v := fun k hk => by simp [Value.ownBlock] at hk
theorem ne_nil' (v : Value) : NeRow v (.slice none 0 0) := fun k _ hk => by simp [Value.ownBlock] at hk
/-- One hunk in a block. -/
theorem hk_lit {W : World} (n : Nat) (h : Hd) (hg : W.heap[n]? = some (.cells h.cells.toArray 28)) (hs : Scr 0 W h.v h.es) : Kd.C k28 W (some ⟨n, 0, none⟩) 1 [h.plain] := by
 have hk : Hks 0 W (.slice (some ⟨n, 0, none⟩) 1 1) [h] := by
  refine ⟨⟨hflat_length [h], .inr ⟨n, 1, h.cells.toArray, rfl, Nat.zero_le _, hg, Nat.le_refl _, by decide, rfl, ?_⟩⟩, ?_, List.pairwise_singleton _ _⟩
  ·simp [hflat, Hd.cells]
  ·intro x hx; rw [List.mem_singleton.1 hx]; exact hs
 exact (Kd.S_reads' hk.toS).2.2
def aS : List S31 := [⟨1, 9, []⟩, ⟨2, 1, []⟩, ⟨1, 4, []⟩, ⟨3, 1, [⟨#[120]⟩]⟩, ⟨1, 9, []⟩]
def aH : List S28 := [⟨7, 7, [⟨1, 2, []⟩, ⟨2, 1, []⟩, ⟨1, 4, []⟩, ⟨3, 1, [⟨#[120]⟩]⟩, ⟨1, 2, []⟩]⟩]
def aK : List S28 := [⟨8, 8, [⟨1, 1, []⟩, ⟨2, 1, []⟩, ⟨1, 1, []⟩]⟩, ⟨13, 12, [⟨1, 1, []⟩, ⟨3, 1, [⟨#[120]⟩]⟩, ⟨1, 1, []⟩]⟩]
def aD : List S28 := [⟨0, 0, [⟨2, 1, []⟩]⟩]
theorem mk1 : hunks_Make.f 20 aS 2 = some (aH, 0) := by kernel_rfl
theorem mk2 : hunks_Make.f 20 aS 1 = some (aK, 0) := by kernel_rfl
theorem mk3 : hunks_Make.f 20 aS 101 = some ([], 1) := by kernel_rfl
theorem sc1 : hunks_Script.f 20 aH 23 = some (aS, 0) := by kernel_rfl
theorem sc2 : hunks_Script.f 20 aH 3 = some ([], 11) := by kernel_rfl
theorem ap1 : hunks_Apply.f 20 aD [⟨#[97]⟩, ⟨#[98]⟩] = some ([⟨#[98]⟩], 0) := by decide +kernel
theorem sm1 : collatorref06_Same.f 20 aH aH = some true := by decide +kernel
theorem sm2 : collatorref04_Same.f 20 aS aS = some true := by decide +kernel
theorem rt1 : hunks_Right.f 20 aH = some true := by decide +kernel
theorem rt2 : hunks_Right.f 20 [⟨0, 0, []⟩] = some false := by decide +kernel
theorem tx1 : collatorref01_Texts.f 20 [⟨#[98]⟩] [⟨#[98]⟩] = some true := by decide +kernel
/-- The script of the first calls, in two blocks. -/
structure A6 (b0 : Nat) (W : World) : Prop where
 x : W.heap[b0]? = some (.cells #[.string ⟨#[120]⟩] 9)
 s : W.heap[b0 + 1]? = some (.cells #[.int .i64 1, .int .i64 9, .slice none 0 0, .int .i64 2, .int .i64 1, .slice none 0 0, .int .i64 1, .int .i64 4, .slice none 0 0, .int .i64 3, .int .i64 1, .slice (some ⟨b0, 0, none⟩) 1 1, .int .i64 1, .int .i64 9, .slice none 0 0] 31)
theorem A6.below {b0 : Nat} {W W' : World} (h : A6 b0 W) (hb : Below W.heap.size W W') : A6 b0 W' := ⟨(hb.block _ (blk_lt h.x)).trans h.x, (hb.block _ (blk_lt h.s)).trans h.s⟩
def e5 (b0 : Nat) (n m : Int) : List Ed := [⟨1, n, .slice none 0 0, []⟩, ⟨2, 1, .slice none 0 0, []⟩, ⟨1, 4, .slice none 0 0, []⟩, ⟨3, 1, .slice (some ⟨b0, 0, none⟩) 1 1, [⟨#[120]⟩]⟩, ⟨1, m, .slice none 0 0, []⟩]
theorem e5_scr {b0 g : Nat} {W : World} {n m : Int} (hx : W.heap[b0]? = some (.cells #[.string ⟨#[120]⟩] 9)) (hg : W.heap[g]? = some (.cells (flat (e5 b0 n m)).toArray 31)) : Scr 0 W (.slice (some ⟨g, 0, none⟩) 5 5) (e5 b0 n m) := by
 refine scr_lit g 5 (e5 b0 n m) hg rfl (by simp [e5]) (by simp [e5]) ?_ ?_
 ·intro e he
  simp only [e5, List.mem_cons, List.not_mem_nil, or_false] at he
  rcases he with rfl | rfl | rfl | rfl | rfl
  ·exact own_nil _ _ _ _
  ·exact own_nil _ _ _ _
  ·exact own_nil _ _ _ _
  ·exact lns_at b0 _ hx
  ·exact own_nil _ _ _ _
 ·simp only [e5, List.pairwise_cons, List.mem_cons, List.not_mem_nil, or_false, List.Pairwise.nil, and_true, false_implies, implies_true]
  refine ⟨fun a _ => ne_nil _, fun a _ => ne_nil _, fun a _ => ne_nil _, fun a ha => ?_⟩
  rw [ha]; exact ne_nil' _
theorem A6.C {b0 : Nat} {W : World} (h : A6 b0 W) : Kd.C k31 W (some ⟨b0 + 1, 0, none⟩) 5 aS := scr_C (e5_scr (n := 9) (m := 9) h.x h.s)
set_option maxHeartbeats 4000000 in
set_option maxRecDepth 100000 in
theorem collatorlaw06_awake.calls (r : Bool) (w : World) (h : collatorlaw06_awake.f = some r) :
  Calls Try.prog 9 #[] w fun e w' => e = .returned (.bool r) ∧ Below w.heap.size w w' := by
 obtain rfl := Option.some.inj h
 clear h
 refine (callsIn_wide (n := 9)).1 ?_
 refine callsIn_of_wp Try.func9 rfl trivial ?_ rfl
 simp only [Try.ntmps9, List.size_toArray, List.length_cons, List.length_nil, Nat.reduceAdd, Nat.reduceSub, Array.replicate_succ, Array.replicate_zero, List.push_toArray, List.append_toArray, List.nil_append, List.cons_append]
 obtain ⟨W1, hW1⟩ : ∃ W1, W1 = (w.alloc (.cells #[.string ⟨#[120]⟩] 9)).alloc (.cells #[.int .i64 1, .int .i64 9, .slice none 0 0, .int .i64 2, .int .i64 1, .slice none 0 0, .int .i64 1, .int .i64 4, .slice none 0 0, .int .i64 3, .int .i64 1, .slice (some ⟨w.heap.size, 0, none⟩) 1 1, .int .i64 1, .int .i64 9, .slice none 0 0] 31) := ⟨_, rfl⟩
 have a1 : A6 w.heap.size W1 := by
  rw [hW1]
  refine ⟨(Below.heap_alloc _ _ _ (by simp)).trans (World.alloc_heap_new w _), ?_⟩
  have h1 := World.alloc_heap_new (w.alloc (.cells #[.string ⟨#[120]⟩] 9)) (.cells #[.int .i64 1, .int .i64 9, .slice none 0 0, .int .i64 2, .int .i64 1, .slice none 0 0, .int .i64 1, .int .i64 4, .slice none 0 0, .int .i64 3, .int .i64 1, .slice (some ⟨w.heap.size, 0, none⟩) 1 1, .int .i64 1, .int .i64 9, .slice none 0 0] 31)
  rw [World.size_alloc] at h1
  exact h1
 have b1 : Below w.heap.size w W1 := by rw [hW1]; exact ((Below.refl _ w).alloc (Nat.le_refl _) _).alloc (by simp) _
 have HW1 := Lib.hid hW1
 have HA1 := Lib.hid a1
 have HB1 := Lib.hid b1
 have M1 := Lib.hid (hunks_Make.calls 20 (some ⟨w.heap.size + 1, 0, none⟩) 5 aS 2 aH 0 W1 a1.C (Nat.le_refl 5) mk1)
 clear hW1 a1 b1
 gi_wp2_with (first | rw [← HW1.out])
 refine ⟨trivial, ?_⟩
 refine (callsIn_wide.2 M1.out).mono ?_
 rintro e W2 ⟨v1, rfl, hs1, hb1⟩
 obtain ⟨A1, c1, rfl, hc1, hC1⟩ := Kd.R_reads hs1
 have HA2 := Lib.hid (HA1.out.below hb1)
 have HB2 := Lib.hid (HB1.out.trans (hb1.mono HB1.out.size))
 have HC1 := Lib.hid hC1
 have M2 := Lib.hid (hunks_Make.calls 20 (some ⟨w.heap.size + 1, 0, none⟩) 5 aS 1 aK 0 W2 HA2.out.C (Nat.le_refl 5) mk2)
 clear hs1 hb1 hC1 M1
 gi_wp2_with (first | rw [← HW1.out])
 refine ⟨trivial, ?_⟩
 refine (callsIn_wide.2 M2.out).mono ?_
 rintro e W3 ⟨v2, rfl, hs1, hb1⟩
 obtain ⟨A2, c2, rfl, _, _⟩ := Kd.R_reads hs1
 have HA3 := Lib.hid (HA2.out.below hb1)
 have HB3 := Lib.hid (HB2.out.trans (hb1.mono HB2.out.size))
 have HC3 := Lib.hid (Kd.C_below HC1.out hb1)
 have M3 := Lib.hid (hunks_Script.calls 20 A1 c1 aH 23 aS 0 W3 HC3.out hc1 sc1)
 clear hs1 hb1 M2
 gi_wp2_with (first | rw [← HW1.out])
 refine ⟨trivial, ?_⟩
 refine (callsIn_wide.2 M3.out).mono ?_
 rintro e W4 ⟨v3, rfl, hs1, hb1⟩
 obtain ⟨A3, c3, rfl, hc3, hC3⟩ := Kd.S_reads hs1
 have HA4 := Lib.hid (HA3.out.below hb1)
 have HB4 := Lib.hid (HB3.out.trans (hb1.mono HB3.out.size))
 have HC4 := Lib.hid (Kd.C_below HC3.out hb1)
 have HT4 := Lib.hid hC3
 have M4 := Lib.hid (hunks_Make.calls 20 (some ⟨w.heap.size + 1, 0, none⟩) 5 aS 101 [] 1 W4 HA4.out.C (Nat.le_refl 5) mk3)
 clear hs1 hb1 hC3 M3
 gi_wp2_with (first | rw [← HW1.out])
 refine ⟨trivial, ?_⟩
 refine (callsIn_wide.2 M4.out).mono ?_
 rintro e W5 ⟨v4, rfl, hs1, hb1⟩
 obtain ⟨A4, c4, rfl⟩ := Kd.R_slice hs1
 have HA5 := Lib.hid (HA4.out.below hb1)
 have HB5 := Lib.hid (HB4.out.trans (hb1.mono HB4.out.size))
 have HC5 := Lib.hid (Kd.C_below HC4.out hb1)
 have HT5 := Lib.hid (Kd.C_below HT4.out hb1)
 have M5 := Lib.hid (hunks_Script.calls 20 A1 c1 aH 3 [] 11 W5 HC5.out hc1 sc2)
 clear hs1 hb1 M4
 gi_wp2_with (first | rw [← HW1.out])
 refine ⟨trivial, ?_⟩
 refine (callsIn_wide.2 M5.out).mono ?_
 rintro e W6 ⟨v5, rfl, hs1, hb1⟩
 obtain ⟨A5, c5, rfl⟩ := Kd.S_slice hs1
 have HA6 := Lib.hid (HA5.out.below hb1)
 have HB6 := Lib.hid (HB5.out.trans (hb1.mono HB5.out.size))
 have HC6 := Lib.hid (Kd.C_below HC5.out hb1)
 have HT6 := Lib.hid (Kd.C_below HT5.out hb1)
 clear hs1 hb1 M5
 gi_wp2_with (first | rw [← HW1.out])
 obtain ⟨Z6, hZ6⟩ : ∃ Z6, Z6 = W6.drew := ⟨_, rfl⟩
 have a6 : A6 w.heap.size Z6 := by rw [hZ6]; exact ⟨HA6.out.x, HA6.out.s⟩
 have y3 : Z6.cell? ⟨w.heap.size + 1, 3, none⟩ = some (.int .i64 2) := by simp [World.cell?, a6.s]
 have y4 : Z6.cell? ⟨w.heap.size + 1, 4, none⟩ = some (.int .i64 1) := by simp [World.cell?, a6.s]
 have y5 : Z6.cell? ⟨w.heap.size + 1, 5, none⟩ = some (.slice none 0 0) := by simp [World.cell?, a6.s]
 have y6 : Z6.cell? ⟨w.heap.size + 1, 6, none⟩ = some (.int .i64 1) := by simp [World.cell?, a6.s]
 have y7 : Z6.cell? ⟨w.heap.size + 1, 7, none⟩ = some (.int .i64 4) := by simp [World.cell?, a6.s]
 have y8 : Z6.cell? ⟨w.heap.size + 1, 8, none⟩ = some (.slice none 0 0) := by simp [World.cell?, a6.s]
 have y9 : Z6.cell? ⟨w.heap.size + 1, 9, none⟩ = some (.int .i64 3) := by simp [World.cell?, a6.s]
 have y10 : Z6.cell? ⟨w.heap.size + 1, 10, none⟩ = some (.int .i64 1) := by simp [World.cell?, a6.s]
 have y11 : Z6.cell? ⟨w.heap.size + 1, 11, none⟩ = some (.slice (some ⟨w.heap.size, 0, none⟩) 1 1) := by simp [World.cell?, a6.s]
 have hb6 : Below w.heap.size w Z6 := by rw [hZ6]; exact HB6.out.drew
 have hz6 : ∀ b ∈ [w.heap.size + 1], b < Z6.heap.size := fun b hb => by rw [List.mem_singleton.1 hb]; exact blk_lt a6.s
 have HC6' := Lib.hid (show Kd.C k28 Z6 A1 1 aH by rw [hZ6]; exact Kd.C_drew HC6.out)
 have HT6' := Lib.hid (show Kd.C k31 Z6 A3 5 aS by rw [hZ6]; exact Kd.C_drew HT6.out)
 have HZ6 := Lib.hid hZ6
 have HAZ := Lib.hid a6
 have HBZ := Lib.hid hb6
 have HHZ := Lib.hid hz6
 clear hZ6 a6 hb6 hz6 HC6 HT6
 refine Held.region 15 (Held.Same Z6 [w.heap.size + 1]) (by kernel_rfl) ?_
 rw [← HZ6.out]
 have hS := Held.Same.refl Z6 [w.heap.size + 1]
 refine Held.tk (i := 0) rfl hS ?_
 try simp only [Act.put, List.setIfInBounds_toArray, List.set_cons_zero, List.set_cons_succ]
 refine Held.tk (i := 1) rfl hS ?_
 try simp only [Act.put, List.setIfInBounds_toArray, List.set_cons_zero, List.set_cons_succ]
 refine Held.tk (i := 2) rfl hS ?_
 try simp only [Act.put, List.setIfInBounds_toArray, List.set_cons_zero, List.set_cons_succ]
 refine Held.tk (i := 3) rfl hS ?_
 try simp only [Act.put, List.setIfInBounds_toArray, List.set_cons_zero, List.set_cons_succ]
 refine Held.tk (i := 4) rfl hS ?_
 try simp only [Act.put, List.setIfInBounds_toArray, List.set_cons_zero, List.set_cons_succ]
 refine Held.tk (i := 5) rfl hS ?_
 try simp only [Act.put, List.setIfInBounds_toArray, List.set_cons_zero, List.set_cons_succ]
 refine Held.tk (i := 6) rfl hS ?_
 try simp only [Act.put, List.setIfInBounds_toArray, List.set_cons_zero, List.set_cons_succ]
 refine Held.tk (i := 7) rfl hS ?_
 try simp only [Act.put, List.setIfInBounds_toArray, List.set_cons_zero, List.set_cons_succ]
 refine Held.tk (i := 8) rfl hS ?_
 try simp only [Act.put, List.setIfInBounds_toArray, List.set_cons_zero, List.set_cons_succ]
 refine Held.tk (i := 9) rfl hS ?_
 try simp only [Act.put, List.setIfInBounds_toArray, List.set_cons_zero, List.set_cons_succ]
 refine Held.tk (i := 10) rfl hS ?_
 try simp only [Act.put, List.setIfInBounds_toArray, List.set_cons_zero, List.set_cons_succ]
 refine Held.AnyS.step (i := 11) rfl (by kernel_rfl) rfl (fun K hK => ?_)
 go_simp
 have hS2 := hS.grown (World.grownBy_alloc Z6 (.cells #[.int .i64 1, .int .i64 2, .slice none 0 0, .int .i64 2, .int .i64 1, .slice none 0 0, .int .i64 1, .int .i64 4, .slice none 0 0, .int .i64 3, .int .i64 1, .slice (some ⟨w.heap.size, 0, none⟩) 1 1, .int .i64 1, .int .i64 2, .slice none 0 0] 31) none) (fun b hb => ⟨HHZ.out b hb, by simp⟩)
 refine hK.out _ _ (fun _ => hS2) ?_
 clear hK K
 try simp only [Act.put, List.setIfInBounds_toArray, List.set_cons_zero, List.set_cons_succ]
 refine Held.tk (i := 12) rfl hS2 ?_
 try simp only [Act.put, List.setIfInBounds_toArray, List.set_cons_zero, List.set_cons_succ]
 refine Held.AnyS.step (i := 13) rfl (by kernel_rfl) rfl (fun K hK => ?_)
 go_simp
 have hS3 := hS2.grown (World.grownBy_alloc _ (.cells #[.int .i64 7, .int .i64 7, .slice (some ⟨Z6.heap.size, 0, none⟩) 5 5] 28) none) (fun b hb => ⟨HHZ.out b hb, by simp⟩)
 refine hK.out _ _ (fun _ => hS3) ?_
 clear hK K
 try simp only [Act.put, List.setIfInBounds_toArray, List.set_cons_zero, List.set_cons_succ]
 refine Held.tk (i := 14) rfl hS3 ?_
 try simp only [Act.put, List.setIfInBounds_toArray, List.set_cons_zero, List.set_cons_succ]
 refine Held.AnyS.done (by kernel_rfl) ?_ _
 clear hS hS2 hS3
 go_simp
 obtain ⟨W7, hW7⟩ : ∃ W7, W7 = (Z6.alloc (.cells #[.int .i64 1, .int .i64 2, .slice none 0 0, .int .i64 2, .int .i64 1, .slice none 0 0, .int .i64 1, .int .i64 4, .slice none 0 0, .int .i64 3, .int .i64 1, .slice (some ⟨w.heap.size, 0, none⟩) 1 1, .int .i64 1, .int .i64 2, .slice none 0 0] 31)).alloc (.cells #[.int .i64 7, .int .i64 7, .slice (some ⟨Z6.heap.size, 0, none⟩) 5 5] 28) := ⟨_, rfl⟩
 have b67 : Below Z6.heap.size Z6 W7 := by rw [hW7]; exact ((Below.refl _ _).alloc (Nat.le_refl _) _).alloc (by simp) _
 have g6 : W7.heap[Z6.heap.size]? = some (.cells (flat (e5 w.heap.size 2 2)).toArray 31) := by
  rw [hW7]
  exact (Below.heap_alloc _ _ _ (by simp)).trans (World.alloc_heap_new Z6 _)
 have g7 : W7.heap[Z6.heap.size + 1]? = some (.cells (Hd.cells ⟨7, 7, .slice (some ⟨Z6.heap.size, 0, none⟩) 5 5, e5 w.heap.size 2 2⟩).toArray 28) := by
  have h1 := World.alloc_heap_new (Z6.alloc (.cells #[.int .i64 1, .int .i64 2, .slice none 0 0, .int .i64 2, .int .i64 1, .slice none 0 0, .int .i64 1, .int .i64 4, .slice none 0 0, .int .i64 3, .int .i64 1, .slice (some ⟨w.heap.size, 0, none⟩) 1 1, .int .i64 1, .int .i64 2, .slice none 0 0] 31)) (.cells #[.int .i64 7, .int .i64 7, .slice (some ⟨Z6.heap.size, 0, none⟩) 5 5] 28)
  rw [World.size_alloc] at h1
  rw [hW7]; exact h1
 have a7 := HAZ.out.below b67
 have HWT := Lib.hid (show Kd.C k28 W7 (some ⟨Z6.heap.size + 1, 0, none⟩) 1 aH from hk_lit _ ⟨7, 7, .slice (some ⟨Z6.heap.size, 0, none⟩) 5 5, e5 w.heap.size 2 2⟩ g7 (e5_scr a7.x g6))
 have HC7 := Lib.hid (Kd.C_below HC6'.out b67)
 have HT7 := Lib.hid (Kd.C_below HT6'.out b67)
 have HB7 := Lib.hid (HBZ.out.trans (b67.mono HBZ.out.size))
 have HA7 := Lib.hid a7
 have HW7 := Lib.hid hW7
 clear hW7 b67 g6 g7 a7 y3 y4 y5 y6 y7 y8 y9 y10 y11
 rw [← HW7.out]
 obtain ⟨W8, hW8⟩ : ∃ W8, W8 = ((W7.alloc (.cells #[.int .i64 2, .int .i64 1, .slice none 0 0] 31)).alloc (.cells #[.int .i64 0, .int .i64 0, .slice (some ⟨W7.heap.size, 0, none⟩) 1 1] 28)).alloc (.cells #[.string ⟨#[97]⟩, .string ⟨#[98]⟩] 9) := ⟨_, rfl⟩
 have b78 : Below W7.heap.size W7 W8 := by rw [hW8]; exact (((Below.refl _ _).alloc (Nat.le_refl _) _).alloc (by simp) _).alloc (by simp; omega) _
 have g8 : W8.heap[W7.heap.size]? = some (.cells (flat [⟨2, 1, .slice none 0 0, []⟩]).toArray 31) := by
  rw [hW8]
  exact (Below.heap_alloc _ _ _ (by simp; omega)).trans ((Below.heap_alloc _ _ _ (by simp)).trans (World.alloc_heap_new W7 _))
 have g9 : W8.heap[W7.heap.size + 1]? = some (.cells (Hd.cells ⟨0, 0, .slice (some ⟨W7.heap.size, 0, none⟩) 1 1, [⟨2, 1, .slice none 0 0, []⟩]⟩).toArray 28) := by
  have h1 := World.alloc_heap_new (W7.alloc (.cells #[.int .i64 2, .int .i64 1, .slice none 0 0] 31)) (.cells #[.int .i64 0, .int .i64 0, .slice (some ⟨W7.heap.size, 0, none⟩) 1 1] 28)
  rw [World.size_alloc] at h1
  rw [hW8]; exact (Below.heap_alloc _ _ _ (by simp)).trans h1
 have cD : Kd.C k28 W8 (some ⟨W7.heap.size + 1, 0, none⟩) 1 aD := hk_lit _ ⟨0, 0, .slice (some ⟨W7.heap.size, 0, none⟩) 1 1, [⟨2, 1, .slice none 0 0, []⟩]⟩ g9 (scr_lit _ 1 _ g8 rfl (by simp) (by simp) (by intro e he; rw [List.mem_singleton.1 he]; exact own_nil _ _ _ _) (List.pairwise_singleton _ _))
 have cL : Kd.C Kd.string W8 (some ⟨W7.heap.size + 1 + 1, 0, none⟩) 2 [⟨#[97]⟩, ⟨#[98]⟩] := by
  have h1 := lit_C ((W7.alloc (.cells #[.int .i64 2, .int .i64 1, .slice none 0 0] 31)).alloc (.cells #[.int .i64 0, .int .i64 0, .slice (some ⟨W7.heap.size, 0, none⟩) 1 1] 28)) [⟨#[97]⟩, ⟨#[98]⟩] (by decide)
  rw [World.size_alloc, World.size_alloc] at h1
  rw [hW8]; exact h1
 have M6 := Lib.hid (hunks_Apply.calls 20 _ 1 aD _ 2 [⟨#[97]⟩, ⟨#[98]⟩] [⟨#[98]⟩] 0 W8 cD (Nat.le_refl 1) cL (Nat.le_refl 2) ap1)
 have HB8 := Lib.hid (HB7.out.trans (b78.mono HB7.out.size))
 have HC8 := Lib.hid (Kd.C_below HC7.out b78)
 have HT8 := Lib.hid (Kd.C_below HT7.out b78)
 have HWT8 := Lib.hid (Kd.C_below HWT.out b78)
 have HA8 := Lib.hid (HA7.out.below b78)
 have HW8 := Lib.hid hW8
 clear hW8 b78 g8 g9 cD cL
 gi_wp2_with (first | rw [← HW8.out])
 refine ⟨trivial, ?_⟩
 refine (callsIn_wide.2 M6.out).mono ?_
 rintro e W9 ⟨v6, rfl, hR, hb1⟩
 obtain ⟨A6', c6, rfl, hc6, hC6⟩ := Kd.R_reads hR
 have HB9 := Lib.hid (HB8.out.trans (hb1.mono HB8.out.size))
 have HC9 := Lib.hid (Kd.C_below HC8.out hb1)
 have HT9 := Lib.hid (Kd.C_below HT8.out hb1)
 have HWT9 := Lib.hid (Kd.C_below HWT8.out hb1)
 have HA9 := Lib.hid (HA8.out.below hb1)
 have HL9 := Lib.hid hC6
 have S1 := Lib.hid (collatorref06_Same.calls 20 A1 c1 aH _ 1 aH true W9 HC9.out hc1 HWT9.out (Nat.le_refl 1) sm1)
 have kl : aK.length = 2 := rfl
 clear hR hb1 hC6 M6
 gi_wp2_with (first | rw [← HW8.out])
 refine ⟨trivial, ?_⟩
 refine (callsIn_wide.2 S1.out).mono ?_
 rintro e W10 ⟨rfl, ⟨nd, rfl⟩⟩
 have S2 := Lib.hid (collatorref04_Same.calls 20 A3 c3 aS _ 5 aS true (W9.drewN nd) (Kd.C_drewN HT9.out _) hc3 (Kd.C_drewN HA9.out.C _) (Nat.le_refl 5) sm2)
 clear S1
 gi_wp2_with (first | rw [← HW8.out])
 refine ⟨trivial, ?_⟩
 refine (callsIn_wide.2 S2.out).mono ?_
 rintro e W11 ⟨rfl, ⟨nd2, rfl⟩⟩
 have S3 := Lib.hid (hunks_Right.calls 20 A1 c1 aH true (W9.drewN (nd + nd2)) (Kd.C_drewN HC9.out _) hc1 rt1)
 clear S2
 gi_wp2_with (first | rw [← HW8.out])
 refine ⟨trivial, ?_⟩
 refine (callsIn_wide.2 S3.out).mono ?_
 rintro e W12 ⟨rfl, hb1⟩
 have HB12 := Lib.hid ((pw_below_drewN HB9.out (nd + nd2)).trans (hb1.mono HB9.out.size))
 have HL12 := Lib.hid (Kd.C_below (Kd.C_drewN HL9.out (nd + nd2)) hb1)
 have S4 := Lib.hid (hunks_Right.calls 20 (some ⟨W12.heap.size, 0, none⟩) 1 [⟨0, 0, []⟩] false (W12.alloc (.cells #[.int .i64 0, .int .i64 0, .slice none 0 0] 28)) (hk_lit _ ⟨0, 0, .slice none 0 0, []⟩ (World.alloc_heap_new W12 _) (Scr.nil _ _)) (Nat.le_refl 1) rt2)
 clear S3 hb1
 gi_wp2_with (first | rw [← HW8.out])
 refine ⟨trivial, ?_⟩
 refine (callsIn_wide.2 S4.out).mono ?_
 rintro e W13 ⟨rfl, hb1⟩
 have HB13 := Lib.hid ((HB12.out.alloc HB12.out.size _).trans (hb1.mono (by have := HB12.out.size; simp; omega)))
 have HL13 := Lib.hid (Kd.C_below (Kd.C_alloc HL12.out _) hb1)
 have S5 := Lib.hid (collatorref01_Texts.calls 20 A6' c6 [⟨#[98]⟩] (some ⟨W13.heap.size, 0, none⟩) 1 [⟨#[98]⟩] true (W13.alloc (.cells #[.string ⟨#[98]⟩] 9)) (Kd.C_alloc HL13.out _) hc6 (lit_C W13 [⟨#[98]⟩] (by decide)) (Nat.le_refl 1) tx1)
 clear S4 hb1
 gi_wp2_with (first | rw [← HW8.out])
 refine ⟨trivial, ?_⟩
 refine (callsIn_wide.2 S5.out).mono ?_
 rintro e W14 ⟨rfl, ⟨nd3, rfl⟩⟩
 have HB14 := Lib.hid (pw_below_drewN (HB13.out.alloc HB13.out.size (.cells #[.string ⟨#[98]⟩] 9)) nd3)
 clear S5
 gi_wp2_with (first | rw [← HW8.out])
 go_ret
 exact ⟨rfl, HB14.out⟩
end Go.Proofs.Ytgobidmfbjmpkaa.P
end
section
/- Laid for this claim by hp.py, this session's program round the kit's print: functions of the program as plain Lean functions, the proofs that the code comes to their answers, and the rows of the laws. Not trusted: Lean checks it. -/
namespace Go.Proofs.Ytgobidmfbjmpkaa.P
open Go.RowKit Go.Proofs.YtgobidmfbjmpkaaW.PrintWords Go.Proofs.YtgobidmfbjmpkaaW.PrintLast Go.Proofs.YtgobidmfbjmpkaaW.PrintMore
attribute [local go_sem] max2_int min2_int max_two min_two max_three min_three max_four min_four   -- for this text's walks alone
set_option linter.unusedVariables false
set_option linter.unusedSimpArgs false

/-! ### collatorlaw06_pick: function 11 -/
def collatorlaw06_pick.f (a0 : Int) (a1 : Int) : Option (Int) := if a0 < 0 then (if a1 = 0 then (none) else (some (Int.tmod (wrap64 (-(wrap64 (a0 + 1)))) a1))) else (if a1 = 0 then (none) else (some (Int.tmod a0 a1)))
set_option maxHeartbeats 8000000 in
set_option maxRecDepth 100000 in
theorem collatorlaw06_pick.calls (a0 : Int) (a1 : Int) (r : Int) (w : World) (h : collatorlaw06_pick.f a0 a1 = some r) :
  Calls Try.prog 11 #[.int .i64 a0, .int .i64 a1] w fun e w' => e = .returned (.int .i64 r) ∧ Drawn0 w w' := by
 have H : (if a0 < 0 then (if a1 = 0 then (none) else (some (Int.tmod (wrap64 (-(wrap64 (a0 + 1)))) a1))) else (if a1 = 0 then (none) else (some (Int.tmod a0 a1)))) = some r := h
 clear h
 by_cases c3 : a0 < 0
 ·rw [if_pos c3] at H
  have c3b0 : decide (a0 < 0) = true := decide_eq_true c3
  clear c3
  by_cases c4 : a1 = 0
  ·rw [if_pos c4] at H
   exact absurd H (by simp)
  ·rw [if_neg c4] at H
   have c4b0 : (a1 == 0) = false := beq_eq_false_iff_ne.mpr c4
   have c4b1 : (a1 != 0) = true := bne_iff_ne.mpr c4
   obtain rfl := Option.some.inj H
   go_enter Try.func11, Try.ntmps11
   go_wp2
   go_ret
   exact ⟨by first | rfl | (simp; done) | (simp [*]; done), by repeat (first | exact Drawn0.refl _ | apply Drawn0.step)⟩
 ·rw [if_neg c3] at H
  have c3b0 : decide (a0 < 0) = false := decide_eq_false c3
  clear c3
  by_cases c5 : a1 = 0
  ·rw [if_pos c5] at H
   exact absurd H (by simp)
  ·rw [if_neg c5] at H
   have c5b0 : (a1 == 0) = false := beq_eq_false_iff_ne.mpr c5
   have c5b1 : (a1 != 0) = true := bne_iff_ne.mpr c5
   obtain rfl := Option.some.inj H
   go_enter Try.func11, Try.ntmps11
   go_wp2
   go_ret
   exact ⟨by first | rfl | (simp; done) | (simp [*]; done), by repeat (first | exact Drawn0.refl _ | apply Drawn0.step)⟩

end Go.Proofs.Ytgobidmfbjmpkaa.P
end
