/- What the closure of myers.Diff answers: may one come there by so many changes; by a walk of its text. -/
import Derived.WalkMore
import Derived.IntWalk
import Derived.Test.YthplelgkneipjaaESearch
import Derived.Test.YthplelgkneipjaaQMyers
set_option linter.unusedVariables false
set_option linter.unusedSimpArgs false
namespace Go.Proofs.Ythplelgkneipjaa.P
open Go Go.RowKit Go.Proofs.YthplelgkneipjaaW.PrintWords Go.Proofs.YthplelgkneipjaaW.PrintLast Go.Proofs.YthplelgkneipjaaW.PrintMore Go.Proofs.Ythplelgkneipjaa.Q

theorem rows_get (A B : List ByteArray) (D d : Nat) (hd : d < D) : rd_L3 (rows A B D) (d : Int) = rowV A B d (2 * d + 2) := by
  unfold rd_L3 rows
  rw [Int.toNat_natCast, List.getD_eq_getElem?_getD, List.getElem?_append_left (by simpa using hd), List.getElem?_map, List.getElem?_range hd]
  rfl
def comesB (a b : List ByteArray) (d x y : Nat) : Bool := decide (x + y ≤ d + 2 * Sh a b x y)
set_option maxHeartbeats 4000000 in
set_option maxRecDepth 100000 in
theorem myers_comes.calls (a b : List ByteArray) (ha : a.length ≤ 1000000) (hb : b.length ≤ 1000000) (d x y : Nat) (hd : d < cost a b) (hx : x ≤ a.length) (hy : y ≤ b.length) (hpar : (d + x + y) % 2 = 0) (p : Nat) (Af : Option Addr) (cf : Nat) (w : World)
    (hp : w.cell? ⟨p, 0, none⟩ = some (.slice Af (cost a b + 1) cf)) (hc : Kd.C (Kd.slice 3 (Kd.int .i64)) w Af (cost a b + 1) (rows a.reverse b.reverse (cost a b))) :
    Calls Try.prog 46 #[.int .i64 (d : Int), .int .i64 (x : Int), .int .i64 (y : Int), .pointer (some ⟨p, 0, none⟩)] w fun e w' => e = .returned (.bool (comesB a b d x y)) ∧ w' = w := by
  have hD : cost a b ≤ a.length + b.length := by unfold cost; omega
  have hS := Sh_le a b x y
  have s1 : IntKind.i64.wrap ((x : Int) - y) = (x : Int) - y := wr64 (by omega) (by omega)
  have s2 : IntKind.i64.wrap (-(d : Int)) = -(d : Int) := wr64 (by omega) (by omega)
  by_cases c1 : -(d : Int) ≤ (x : Int) - y
  · by_cases c2 : (x : Int) - y ≤ d
    · obtain ⟨ad, Ar, cr, rfl, hrow, _, hrr⟩ := at_L3 hc (d : Int) (by omega) (by omega)
      rw [rows_get _ _ _ _ hd] at hrow hrr
      have hlen : (rowV a.reverse b.reverse d (2 * d + 2)).length = 2 * d + 1 := rowV_length _ _ _ _
      have hV : rd (rowV a.reverse b.reverse d (2 * d + 2)) ((d : Int) + ((x : Int) - y)) = V a.reverse b.reverse d ((x : Int) - y) := prev_get _ _ _ _ _ rfl c1 c2 (by omega)
      rw [hlen] at hrow hrr
      obtain ⟨ad2, rfl, hcell⟩ := Kd.at_int hrr ((d : Int) + ((x : Int) - y)) (by omega) (by omega)
      rw [hV] at hcell
      have hci := comes_iff a b d x y hx hy c1 c2 hpar
      have hB : comesB a b d x y = decide ((x : Int) ≤ (V a.reverse b.reverse d ((x : Int) - y) : Int)) := by
        unfold comesB
        rw [decide_eq_decide, ← hci]
        omega
      rw [hB]
      rw [Int.toNat_natCast] at hrow
      obtain ⟨ds, hds⟩ : ∃ ds : Int, ds = (d : Int) + ((x : Int) - y) := ⟨_, rfl⟩
      have s3 : IntKind.i64.wrap ((d : Int) + ((x : Int) - y)) = ds := by rw [hds]; exact wr64 (by omega) (by omega)
      rw [← hds] at hcell
      have h2 : (0 ≤ ds) = True := eq_true (by omega)
      have h3 : (ds < ((2 * d + 1 : Nat) : Int)) = True := eq_true (by omega)
      have h3' : (ds < 2 * (d : Int) + 1) = True := eq_true (by omega)
      have HDS := Aside0.mk hds
      clear hds
      have HCI := Aside0.mk hci
      clear hci hB hc hrr hV
      generalize V a.reverse b.reverse d ((x : Int) - y) = vv at *
      generalize cost a b = D at *
      go_enter Try.func46, Try.ntmps46
      go_wp2
      go_ret
      refine ⟨?_, rfl⟩
      first | rfl | (simp; done) | (simp; trace_state; sorry)
    · have hB : comesB a b d x y = false := by unfold comesB; exact decide_eq_false (by omega)
      rw [hB]
      go_enter Try.func46, Try.ntmps46
      go_wp2
      go_ret
      exact ⟨rfl, rfl⟩
  · have hB : comesB a b d x y = false := by unfold comesB; exact decide_eq_false (by omega)
    rw [hB]
    go_enter Try.func46, Try.ntmps46
    go_wp2
    go_ret
    exact ⟨rfl, rfl⟩
end Go.Proofs.Ythplelgkneipjaa.P
