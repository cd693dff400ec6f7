/- What alike.Common answers: how many lines are in both, by a walk of its text (its counts stand in a map). -/
import Derived.Test.YthplelgkneipjaaPx0
import Derived.Test.YthplelgkneipjaaHMap
import Derived.Test.YthplelgkneipjaaQComm
set_option linter.unusedVariables false
set_option linter.unusedSimpArgs false
namespace Go.Proofs.Ythplelgkneipjaa.P
open Go.RowKit Go.Proofs.YthplelgkneipjaaW.PrintWords Go.Proofs.YthplelgkneipjaaW.PrintLast Go.Proofs.YthplelgkneipjaaW.PrintMore Go.Proofs.Ythplelgkneipjaa.HMap Go.Proofs.Ythplelgkneipjaa.Q

def alike_Common.f (a b : List ByteArray) : Option Int :=
  if ((∀ s ∈ a, s.size ≤ 9223372036854775807) ∧ (∀ s ∈ b, s.size ≤ 9223372036854775807)) ∧ a.length ≤ 4611686018427387903 ∧ b.length ≤ 4611686018427387903 then some ((comm a b : Nat) : Int) else none

theorem rdOf_nat (xs : List ByteArray) (j : Nat) (h : j < xs.length) : rdOf ByteArray.empty xs (j : Int) = xs[j] := by
  simp [rdOf, List.getD_eq_getElem?_getD, List.getElem?_eq_getElem h]
theorem count_take_succ (xs : List ByteArray) (j : Nat) (h : j < xs.length) (s : ByteArray) :
    (((xs.take (j + 1)).count s : Nat) : Int) = if s = xs[j] then ((xs.take j).count xs[j] : Int) + 1 else ((xs.take j).count s : Int) := by
  rw [List.take_succ_eq_append_getElem h, List.count_append]
  by_cases hs : s = xs[j]
  · rw [if_pos hs, hs]; simp
  · rw [if_neg hs]
    have : List.count s [xs[j]] = 0 := by
      rw [List.count_eq_zero]; simpa using hs
    simp [this]
theorem wf_small (z : Int) (h0 : 0 ≤ z) (h1 : z ≤ 9223372036854775807) : (Lit.int .i64 z).wf = true := WalkArith.wf_i64 (by omega)

set_option maxHeartbeats 1000000 in
set_option maxRecDepth 100000 in
theorem alike_Common.calls (A0 : Option Addr) (c0 : Nat) (l0 : List ByteArray) (A1 : Option Addr) (c1 : Nat) (l1 : List ByteArray) (r : Int) (w : World) (hr0 : Kd.C Kd.string w A0 l0.length l0) (hc0 : l0.length ≤ c0) (hr1 : Kd.C Kd.string w A1 l1.length l1) (hc1 : l1.length ≤ c1) (h : alike_Common.f l0 l1 = some r) :
    Calls Try.prog 19 #[.slice A0 l0.length c0, .slice A1 l1.length c1] w fun e w' => e = .returned (.int .i64 r) ∧ Below w.heap.size w w' := by
  have hk9 : Try.prog.underlying 9 = some .string := Try.underlying9
  unfold alike_Common.f at h
  split at h
  · rename_i hsz
    obtain ⟨⟨hs0, hs1⟩, hm0, hm1⟩ := hsz
    obtain rfl := Option.some.inj h
    clear h
    have HS0 := Aside0.mk hs0
    have HS1 := Aside0.mk hs1
    have HR0 := Aside0.mk hr0
    have HR1 := Aside0.mk hr1
    have HC0 := Aside0.mk hc0
    have HC1 := Aside0.mk hc1
    clear hs0 hs1 hr0 hr1 hc0 hc1
    have hmm := @run_makeMap Try.prog
    go_enter Try.func19, Try.ntmps19
    go_wp2
    go_loopw [13] (fun v13 wr => ∃ j : Nat, j ≤ l0.length ∧ v13 = .int .i64 j ∧ Aside0 (Cnt Try.prog 9 3 wr w.heap.size j (fun s => ((l0.take j).count s : Nat))) ∧ Aside0 (Below w.heap.size w wr)) (fun v13 _ => l0.length - (intOf v13).toNat)
    case atStart => exact ⟨0, Nat.zero_le _, rfl, ⟨(Cnt.made _ _ _ _).congr (fun s => by simp)⟩, ⟨(Below.refl _ _).alloc (Nat.le_refl _) _⟩⟩
    case round =>
      obtain ⟨j, hj, rfl, HCN, HB⟩ := hrel
      by_cases hlt : j < l0.length
      · obtain ⟨ad, e1, hx⟩ := Kd.at_string HR0.out (j : Int) (by omega) (by omega)
        cases e1
        rw [Int.toNat_natCast, rdOf_nat _ _ hlt] at hx
        have hsz : (l0[j]).size ≤ maxLen := HS0.out _ (List.getElem_mem hlt)
        replace hx := (HB.out.cell (World.block_lt_of_cell? w _ hx)).trans hx
        have HSN := Aside0.mk (count_take_succ l0 j hlt)
        have HCL := Aside0.mk (List.count_le_length (a := l0[j]) (l := l0.take j))
        have HSZ := Aside0.mk hsz
        clear hsz
        generalize l0[j] = s at hx HSZ HSN HCL
        have HLEN : Aside0 ((l0.take j).length = j) := ⟨by simp; omega⟩
        have hc0 : (0 : Int) ≤ ((l0.take j).count s : Nat) := by omega
        have hc1 : (((l0.take j).count s : Nat) : Int) < 9223372036854775807 := by have := HCL.out; have := HLEN.out; omega
        have hj1 : j < 9223372036854775807 := by omega
        go_wp2_with (first
          | (at_lookup; refine wp_cnt_lookup rfl _ _ 60 rfl Try.underlying9 Try.underlying60 Try.underlying3 (by kernel_rfl) w.heap.size j _ rfl HCN.out s HSZ.out rfl ?_)
          | (at_mapUpdate; refine wp_cnt_update rfl _ _ _ 60 rfl Try.underlying9 Try.underlying60 Try.underlying3 w.heap.size j _ rfl HCN.out (by unfold maxLen; omega) s HSZ.out rfl _ rfl (wf_small _ (by omega) (by omega)) ?_; intro w1 hc1' hg1; have HC1' := Aside0.mk hc1'; have HG1 := Aside0.mk hg1; clear hc1' hg1))
        go_roundw
        case rel => exact ⟨j + 1, by omega, by go_num, ⟨HC1'.out.congr (fun s' => (HSN.out s').symm)⟩, ⟨HB.out.grown HG1.out HB.out.size (fun k hk => by cases hk; exact Nat.le_refl _)⟩⟩
        case measure => simp [intOf]; omega
      · have hfull : l0.take j = l0 := List.take_of_length_le (by omega)
        rw [hfull] at HCN
        have HB1 := HB
        clear HB hfull
        go_wp2
        have HJ := Aside0.mk hj
        clear hlt hj
        go_loopw [4, 24] (fun v4 v24 wr => ∃ (j : Nat) (n : Int) (rem : List ByteArray) (f : ByteArray → Int), j ≤ l1.length ∧ v24 = .int .i64 j ∧ v4 = .int .i64 n ∧ Aside0 (0 ≤ n ∧ n ≤ j) ∧ Aside0 (n + (comm rem (l1.drop j) : Nat) = (comm l0 l1 : Nat)) ∧ Aside0 (rem.length ≤ l0.length) ∧ Aside0 (∀ s, f s = (rem.count s : Nat)) ∧ Aside0 (Cnt Try.prog 9 3 wr w.heap.size (l0.length + j) f) ∧ Aside0 (Below w.heap.size w wr)) (fun _ v24 _ => l1.length - (intOf v24).toNat)
        case atStart => exact ⟨0, 0, l0, _, Nat.zero_le _, rfl, rfl, ⟨by omega, by omega⟩, ⟨by simp⟩, ⟨Nat.le_refl _⟩, ⟨fun _ => rfl⟩, ⟨HCN.out.mono (by have := HJ.out; omega)⟩, ⟨HB1.out⟩⟩
        case round =>
          clear HCN HB1
          obtain ⟨j, n, rem, f, hj, rfl, rfl, HN, HCM, HRL, HF, HCN, HB⟩ := hrel
          have hn0 : 0 ≤ n := HN.out.1
          have hn1 : n < 9223372036854775807 ∨ ¬ j < l1.length := by have := HN.out.2; omega
          by_cases hlt : j < l1.length
          · obtain ⟨ad, e1, hx⟩ := Kd.at_string HR1.out (j : Int) (by omega) (by omega)
            cases e1
            rw [Int.toNat_natCast, rdOf_nat _ _ hlt] at hx
            have hsz : (l1[j]).size ≤ maxLen := HS1.out _ (List.getElem_mem hlt)
            replace hx := (HB.out.cell (World.block_lt_of_cell? w _ hx)).trans hx
            have HDR := Aside0.mk (List.drop_eq_getElem_cons hlt)
            have HSZ := Aside0.mk hsz
            clear hsz
            generalize l1[j] = s at hx HSZ HDR
            have HCL := Aside0.mk (List.count_le_length (a := s) (l := rem))
            have hf0 : 0 ≤ f s := by rw [HF.out]; omega
            have hf1 : f s ≤ 9223372036854775807 := by rw [HF.out]; have := HCL.out; have := HRL.out; omega
            have hj1 : j < 9223372036854775807 := by omega
            have hn2 : n < 9223372036854775807 := by omega
            clear hn1
            by_cases hz0 : f s = 0
            · have hb0 : (f s == 0) = true := beq_iff_eq.mpr hz0
              have HNM : Aside0 (s ∉ rem) := ⟨List.count_eq_zero.1 (by have := HF.out s; omega)⟩
              clear hz0
              go_wp2_with (first
                | (at_lookup; refine wp_cnt_lookup rfl _ _ 60 rfl Try.underlying9 Try.underlying60 Try.underlying3 (by kernel_rfl) w.heap.size _ _ rfl HCN.out s HSZ.out rfl ?_))
              go_roundw
              case rel => exact ⟨j + 1, n, rem, f, by omega, by go_num, rfl, ⟨by omega, by have := HN.out; omega⟩, ⟨by have := HCM.out; rw [HDR.out, comm_cons, if_neg HNM.out] at this; exact this⟩, HRL, HF, ⟨HCN.out.mono (by omega)⟩, HB⟩
              case measure => simp [intOf]; omega
            · have hb0 : (f s == 0) = false := beq_eq_false_iff_ne.mpr hz0
              have hf2 : 1 ≤ f s := by omega
              have HMM : Aside0 (s ∈ rem) := ⟨List.count_pos_iff.1 (by have := HF.out s; omega)⟩
              have HRE : Aside0 ((rem.erase s).length + 1 = rem.length) := ⟨by have := List.length_erase_of_mem HMM.out; have := List.length_pos_of_mem HMM.out; omega⟩
              have HFE : Aside0 (∀ s', (if s' = s then f s - 1 else f s') = ((rem.erase s).count s' : Nat)) := ⟨fun s' => by
                by_cases hs : s' = s
                · subst hs; rw [if_pos rfl, HF.out, List.count_erase_self]; have : 0 < rem.count s' := List.count_pos_iff.2 HMM.out; omega
                · rw [if_neg hs, HF.out, List.count_erase_of_ne hs]⟩
              have HCM' : Aside0 (n + 1 + (comm (rem.erase s) (l1.drop (j + 1)) : Nat) = (comm l0 l1 : Nat)) := ⟨by have := HCM.out; rw [HDR.out, comm_cons, if_pos HMM.out] at this; omega⟩
              clear hz0
              by_cases hz1 : f s = 1
              · have hb1 : (f s == 1) = true := beq_iff_eq.mpr hz1
                have HFE' : Aside0 (∀ s', (if s' = s then 0 else f s') = ((rem.erase s).count s' : Nat)) := ⟨fun s' => by
                  have := HFE.out s'; rw [hz1] at this; exact this⟩
                clear hz1
                go_wp2_with (first
                  | (at_lookup; refine wp_cnt_lookup rfl _ _ 60 rfl Try.underlying9 Try.underlying60 Try.underlying3 (by kernel_rfl) w.heap.size _ _ rfl HCN.out s HSZ.out rfl ?_)
                  | (at_delete; refine wp_cnt_delete rfl _ _ 60 9 rfl Try.underlying9 Try.underlying60 w.heap.size _ _ rfl HCN.out s HSZ.out rfl ?_; intro w1 hc1' hg1; have HC1' := Aside0.mk hc1'; have HG1 := Aside0.mk hg1; clear hc1' hg1))
                go_roundw
                case rel => exact ⟨j + 1, n + 1, rem.erase s, _, by omega, by go_num, rfl, ⟨by omega, by have := HN.out; omega⟩, HCM', ⟨by have := HRE.out; have := HRL.out; omega⟩, HFE', ⟨HC1'.out.mono (by omega)⟩, ⟨turned_below HB.out HG1.out (Nat.le_refl _)⟩⟩
                case measure => simp [intOf]; omega
              · have hb1 : (f s == 1) = false := beq_eq_false_iff_ne.mpr hz1
                clear hz1
                go_wp2_with (first
                  | (at_lookup; refine wp_cnt_lookup rfl _ _ 60 rfl Try.underlying9 Try.underlying60 Try.underlying3 (by kernel_rfl) w.heap.size _ _ rfl HCN.out s HSZ.out rfl ?_)
                  | (at_mapUpdate; refine wp_cnt_update rfl _ _ _ 60 rfl Try.underlying9 Try.underlying60 Try.underlying3 w.heap.size _ _ rfl HCN.out (by unfold maxLen; omega) s HSZ.out rfl _ rfl (wf_small _ (by omega) (by omega)) ?_; intro w1 hc1' hg1; have HC1' := Aside0.mk hc1'; have HG1 := Aside0.mk hg1; clear hc1' hg1))
                go_roundw
                case rel => exact ⟨j + 1, n + 1, rem.erase s, _, by omega, by go_num, rfl, ⟨by omega, by have := HN.out; omega⟩, HCM', ⟨by have := HRE.out; have := HRL.out; omega⟩, HFE, ⟨HC1'.out⟩, ⟨HB.out.grown HG1.out HB.out.size (fun k hk => by cases hk; exact Nat.le_refl _)⟩⟩
                case measure => simp [intOf]; omega
          · go_wp2
            go_ret
            exact ⟨by have := HCM.out; rw [List.drop_eq_nil_of_le (by omega)] at this; have h0 : comm rem [] = 0 := rfl; rw [h0] at this; exact congrArg (fun z : Int => Ending.returned (.int .i64 z)) (show n = (comm l0 l1 : Nat) by omega), HB.out⟩
  · cases h
end Go.Proofs.Ythplelgkneipjaa.P
