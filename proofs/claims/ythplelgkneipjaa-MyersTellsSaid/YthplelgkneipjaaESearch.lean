/- What myers.search answers: how far one comes by no change, by one, and so on; by a walk of its text. -/
import Derived.Test.YthplelgkneipjaaPxf54
import Derived.Test.YthplelgkneipjaaQMyers
import Derived.WalkMore
import Derived.IntWalk
import Derived.Test.YthplelgkneipjaaHRows
set_option linter.unusedVariables false
set_option linter.unusedSimpArgs false
namespace Go.Proofs.Ythplelgkneipjaa.P
open Go Go.RowKit Go.Proofs.YthplelgkneipjaaW.PrintWords Go.Proofs.YthplelgkneipjaaW.PrintLast Go.Proofs.YthplelgkneipjaaW.PrintMore Go.Proofs.Ythplelgkneipjaa.Q Go.Proofs.Ythplelgkneipjaa.HRows

def myers_search.f (a b : List ByteArray) : Option (List (List Int)) :=
  if a.length ≤ 1000000 ∧ b.length ≤ 1000000 then (least a.reverse b.reverse).map (rows a.reverse b.reverse) else none

theorem info_reach : (Try.prog.info? 63).map (fun i => (i.zero, i.size, i.bytes)) = some (some (.slice none 0 0), 1, 24) := by kernel_rfl
theorem w64' {x : Int} (h0 : -9223372036854775808 ≤ x) (h1 : x ≤ 9223372036854775807) : wrap64 x = x := by unfold wrap64; omega
theorem wr64 {x : Int} (h0 : -9223372036854775808 ≤ x) (h1 : x ≤ 9223372036854775807) : IntKind.i64.wrap x = x := IntWalk.i64_in _ (by omega)
theorem rd_nat (xs : List Int) (j : Nat) : rd xs (j : Int) = xs.getD j 0 := by simp [rd]
theorem bytes_inj {x y : ByteArray} (h : x.toList = y.toList) : x = y := by
  rw [ByteArray.toList_eq, ByteArray.toList_eq] at h
  cases x; cases y
  congr 1
  exact Array.toList_inj.1 h
def prevR (A B : List ByteArray) : Nat → List Int
  | 0 => []
  | d + 1 => rowV A B d (2 * d + 2)
theorem prev_get (A B : List ByteArray) (d : Nat) (i : Int) (k : Int) (hi : i = d + k) (h1 : -(d : Int) ≤ k) (h2 : k ≤ d) (h3 : (d + k) % 2 = 0) : rd (rowV A B d (2 * d + 2)) i = V A B d k := by
  obtain ⟨j, rfl⟩ := Int.eq_ofNat_of_zero_le (show 0 ≤ i by omega)
  rw [rd_nat, List.getD_eq_getElem?_getD, rowV_get _ _ _ _ _ (by omega), if_pos ⟨by omega, by omega⟩, Option.getD_some]
  congr 2
  omega
/-- from, on the row before. -/
theorem from_ok (A B : List ByteArray) (hA : A.length ≤ 1000000) (d : Nat) (hd : d ≤ 4000000) (k : Int) (h1 : -(d : Int) ≤ k) (h2 : k ≤ d) (h3 : (d + k) % 2 = 0) :
    myers_from.f (prevR A B d) (d : Int) k = some (frm A B d k : Int) := by
  cases d with
  | zero => unfold myers_from.f; rw [if_pos (by omega)]; rfl
  | succ d =>
    unfold myers_from.f
    have hl : ((prevR A B (d + 1)).length : Int) = 2 * d + 1 := by
      simp only [prevR, rowV_length]; omega
    have e1 : wrap64 (-((d + 1 : Nat) : Int)) = -((d : Int) + 1) := by rw [w64' (by omega) (by omega)]; omega
    have e2 : wrap64 (((d + 1 : Nat) : Int) + k) = (d : Int) + 1 + k := by rw [w64' (by omega) (by omega)]; omega
    have e3 : wrap64 (((d + 1 : Nat) : Int) - 1) = (d : Int) := by rw [w64' (by omega) (by omega)]; omega
    have e4 : wrap64 ((d : Int) + k) = (d : Int) + k := w64' (by omega) (by omega)
    have e5 : wrap64 ((d : Int) + k - 1) = (d : Int) + (k - 1) := by rw [w64' (by omega) (by omega)]; omega
    have e6 : wrap64 ((d : Int) + k + 1) = (d : Int) + (k + 1) := by rw [w64' (by omega) (by omega)]; omega
    have e7 : wrap64 ((d : Int) + 1 + k - 2) = (d : Int) + (k - 1) := by rw [w64' (by omega) (by omega)]; omega
    have e8 : (d : Int) + 1 + k = (d : Int) + (k + 1) := by omega
    have hd0 : ¬ (((d + 1 : Nat) : Int) = 0) := by omega
    rw [if_neg hd0]
    simp only [e1, e2, e3, e4, e5, e6, e7, hl]
    simp only [frm]
    have up : ∀ j : Int, -(d : Int) ≤ j → j ≤ d → (d + j) % 2 = 0 → rd (prevR A B (d + 1)) ((d : Int) + j) = V A B d j := fun j a b c => prev_get A B d _ j rfl a b c
    have vb : ∀ j : Int, -(d : Int) ≤ j → j ≤ d → (d + j) % 2 = 0 → V A B d j ≤ A.length + d := fun j a b c => (V_diag A B d j a b c).2
    by_cases c1 : k = -((d : Int) + 1)
    · rw [if_pos c1, if_pos (by omega), if_pos (by omega), if_pos (.inl c1), e8, up (k + 1) (by omega) (by omega) (by omega)]
    · rw [if_neg c1]
      by_cases c2 : k = ((d + 1 : Nat) : Int)
      · rw [if_pos c2, if_pos (by omega), if_pos (by omega), if_neg (by rintro (h | h); exact c1 h; exact h.1 (by omega)), up (k - 1) (by omega) (by omega) (by omega)]
        have := vb (k - 1) (by omega) (by omega) (by omega)
        rw [w64' (by omega) (by omega)]
        rfl
      · rw [if_neg c2, if_pos (by omega), if_pos (by omega), if_pos (by omega), if_pos (by omega), e8, up (k - 1) (by omega) (by omega) (by omega), up (k + 1) (by omega) (by omega) (by omega)]
        have := vb (k - 1) (by omega) (by omega) (by omega)
        by_cases c3 : V A B d (k - 1) < V A B d (k + 1)
        · rw [if_pos (by omega), if_pos (by omega), if_pos (by omega), if_pos (.inr ⟨by omega, c3⟩)]
        · rw [if_neg (by omega), if_pos (by omega), if_pos (by omega), if_neg (by rintro (h | h); exact c1 h; exact c3 h.2)]
          rw [w64' (by omega) (by omega)]
          rfl
theorem rd_rev (l A : List ByteArray) (hA : A = l.reverse) (x : Nat) (hx : x < l.length) (i : Int) (hi : i = (l.length : Int) - 1 - x) : A[x]? = some (rdOf ByteArray.empty l i) := by
  subst hA
  rw [List.getElem?_reverse hx]
  have e1 : i.toNat = l.length - 1 - x := by omega
  unfold rdOf
  rw [e1, List.getD_eq_getElem?_getD, List.getElem?_eq_getElem (by omega)]
  rfl
set_option maxHeartbeats 4000000 in
set_option maxRecDepth 100000 in
theorem myers_search.calls (A0 : Option Addr) (c0 : Nat) (l0 : List ByteArray) (A1 : Option Addr) (c1 : Nat) (l1 : List ByteArray) (r : List (List Int)) (w : World) (hr0 : Kd.C Kd.string w A0 l0.length l0) (hc0 : l0.length ≤ c0) (hr1 : Kd.C Kd.string w A1 l1.length l1) (hc1 : l1.length ≤ c1) (h : myers_search.f l0 l1 = some r) :
    Calls Try.prog 45 #[.slice A0 l0.length c0, .slice A1 l1.length c1] w fun e w' => ∃ v0_ : Value, e = .returned (v0_) ∧ Kd.S (Kd.slice 3 (Kd.int .i64)) 63 w' w.heap.size (fun _ => True) v0_ r ∧ Below w.heap.size w w' := by
  unfold myers_search.f at h
  split at h
  · rename_i hsz
    obtain ⟨hm0, hm1⟩ := hsz
    obtain ⟨D, hD, rfl⟩ := Option.map_eq_some_iff.1 h
    clear h
    obtain ⟨A, hA⟩ : ∃ A, A = l0.reverse := ⟨_, rfl⟩
    obtain ⟨B, hB⟩ : ∃ B, B = l1.reverse := ⟨_, rfl⟩
    rw [← hA, ← hB] at hD
    have hlA : A.length = l0.length := by rw [hA, List.length_reverse]
    have hlB : B.length = l1.length := by rw [hB, List.length_reverse]
    have HST := Aside0.mk (List.find?_eq_some_iff_append.1 hD)
    have hDle : D ≤ 2000000 := by
      have := List.mem_of_find?_eq_some hD
      rw [List.mem_range] at this
      omega
    have HNO : Aside0 (∀ d, d < D → stop A B d = false) := ⟨fun d hd => by
      have h1 := List.find?_range_eq_some.1 hD
      have h2 := h1.2.2 d hd
      simpa using h2⟩
    have HYES : Aside0 (stop A B D = true) := ⟨(List.find?_range_eq_some.1 hD).1⟩
    have HLA := Aside0.mk hlA
    have HLB := Aside0.mk hlB
    have HREV := Aside0.mk hA
    have HREVB := Aside0.mk hB
    have HR0 := Aside0.mk hr0
    have HR1 := Aside0.mk hr1
    have HC0 := Aside0.mk hc0
    have HC1 := Aside0.mk hc1
    clear hr0 hc0 hr1 hc1 hlA hlB hA hB hD HST
    go_enter Try.func45, Try.ntmps45
    go_wp2
    go_step3
    go_wp2
    go_step3
    go_wp2
    go_loopw [4, 7, 8] (fun v4 v7 v8 wr => ∃ (d : Nat) (rs : List (Nat × List Int)), d ≤ D ∧ v8 = .int .i64 d ∧ v7 = .slice (lastA rs) (lastR rs).length (lastR rs).length ∧ Aside0 (rs.map (·.2) = (List.range d).map (fun d => rowV A B d (2 * d + 2))) ∧ Aside0 (Out 63 w.heap.size wr v4 rs) ∧ Aside0 (Below w.heap.size w wr)) (fun _ _ v8 _ => D - (intOf v8).toNat)
    case atStart => exact ⟨0, [], Nat.zero_le _, rfl, rfl, ⟨rfl⟩, ⟨Out.nil _ _ _⟩, ⟨Below.refl _ _⟩⟩
    case round =>
      obtain ⟨d, rs, hd, rfl, rfl, HRS, HO, HB⟩ := hrel
      have hmk := print_make (P := Try.prog) 63 3 .i64 8 Try.underlying63 info3 (by omega) (2 * d + 1) (by omega)
      have ec : ((2 * d + 1 : Nat) : Int) = 2 * (d : Int) + 1 := by omega
      rw [ec] at hmk
      have HD2 := Aside0.mk ec
      clear ec
      have HLEN : Aside0 (rs.length = d) := ⟨by have := congrArg List.length HRS.out; simpa using this⟩
      obtain ⟨hz1, hz2, hz3⟩ : 0 ≤ 2 * (d : Int) ∧ 2 * (d : Int) ≤ 4000000 ∧ -(d : Int) ≤ 0 := ⟨by omega, by omega, by omega⟩
      obtain ⟨wh, hwh⟩ : ∃ wh, wh = wr.heap.size := ⟨_, rfl⟩
      have HWH := Aside0.mk hwh
      clear hwh
      go_wp2_with (first
        | (at_builtin; refine print_append (w0 := w) w.heap.size rfl (.tmp 22) (.tmp 24) 61 63 (.slice none 0 0) 24 rfl Try.underlying61 info_reach rfl (by omega) u4 (rs.map cellOf) (.slice (some ⟨wr.heap.size, 0, none⟩) (2 * d + 1) (2 * d + 1)) rfl (by first | (go_simp; done) | (go_simp; rfl)) rfl ?hO ?hB ?hs ?hl ?_; (case hO => rw [List.length_map]; exact (HO.out.below (below_alloc (Below.refl _ _) _)).1); (case hB => exact below_alloc HB.out _); (case hs => exact (below_alloc HB.out _).size); (case hl => rw [List.length_map, HLEN.out]; omega); intro v1 w1 hown1 hb1 hg1 hat1; have HN1 := Aside0.mk hown1; have HB1 := Aside0.mk hb1; have HG1 := Aside0.mk hg1; clear hown1 hb1 hg1 hat1))
      have HNE : Aside0 (∀ q ∈ rs, q.1 ≠ wr.heap.size) := ⟨fun q hq => by have := HO.out.lt hq; omega⟩
      have HO2 : Aside0 (Out 63 w.heap.size w1 v1 (rs ++ [(wr.heap.size, rowV A B d 0)])) := ⟨by
        have e1 : cellOf (wr.heap.size, rowV A B d 0) = .slice (some ⟨wr.heap.size, 0, none⟩) (2 * d + 1) (2 * d + 1) := by simp only [cellOf, rowV_length]
        have e2 : (madeCells #[Value.int .i64 0] (2 * d + 1)) = (nums .i64 (rowV A B d 0)).toArray := by
          rw [rowV_zero]
          apply Array.toList_inj.1
          apply List.ext_getElem
          · simp [nums, madeCells]
          · intro i h1 h2
            simp [nums, madeCells, Nat.mod_one]
        refine Out.snoc (w := wr.alloc (.cells (madeCells #[Value.int .i64 0] (2 * d + 1)) 3)) (by decide) (HO.out.below (below_alloc (Below.refl _ _) _)) (p := (wr.heap.size, rowV A B d 0)) (by rw [e1]; exact HN1.out) HG1.out HB.out.size ?_ HNE.out
        rw [e2]
        exact heap_alloc_new wr _⟩
      have HPR : Aside0 (lastR rs = prevR A B d) := ⟨by
        have h1 := HRS.out
        cases d with
        | zero =>
          have : rs = [] := List.eq_nil_of_length_eq_zero HLEN.out
          rw [this]; rfl
        | succ d =>
          rw [List.range_succ, List.map_append] at h1
          rcases List.eq_nil_or_concat rs with h0 | ⟨rs', q, h0⟩
          · subst h0; simp at h1
          · rw [List.concat_eq_append] at h0
            subst h0
            rw [lastR_snoc]
            rw [List.map_append] at h1
            have := List.append_inj_right' h1 rfl
            simpa [prevR] using this⟩
      have HRL : Aside0 (∀ p ∈ rs, p.2.length ≤ 9223372036854775807) := ⟨fun p hp => by
        have h1 : p.2 ∈ rs.map (·.2) := List.mem_map_of_mem hp
        rw [HRS.out] at h1
        obtain ⟨d', hd', he⟩ := List.mem_map.1 h1
        rw [List.mem_range] at hd'
        rw [← he, rowV_length]
        omega⟩
      have HBASE := Aside0.mk HB.out.size
      clear HN1 HG1 HO HB HWH
      generalize wr.heap.size = g at HO2 HNE HBASE ⊢
      go_loopw [10] (fun v10 wr2 => ∃ (j : Nat) (kk : Int), v10 = .int .i64 kk ∧ Aside0 (kk = 2 * (j : Int) - d ∧ j ≤ d + 1) ∧ Aside0 (∀ i : Nat, i < j → ¬ (2 * (i : Int) - d = (A.length : Int) - B.length ∧ A.length ≤ V A B d (2 * (i : Int) - d))) ∧ Aside0 (Out 63 w.heap.size wr2 v1 (rs ++ [(g, rowV A B d (2 * j))])) ∧ Aside0 (Below w.heap.size w wr2)) (fun v10 _ => ((d : Int) + 2 - intOf v10).toNat)
      case atStart => exact ⟨0, _, rfl, ⟨by omega, by omega⟩, ⟨fun i hi => by omega⟩, HO2, HB1⟩
      case round =>
        clear HO2 HB1
        obtain ⟨j, kk, rfl, HJ, HNS, HO, HB⟩ := hrel
        obtain ⟨hk1, hk2⟩ : -(d : Int) ≤ kk ∧ kk ≤ d + 2 := by have := HJ.out; omega
        by_cases hlt : kk ≤ d
        · have HF := Aside0.mk (from_ok A B (by have := HLA.out; omega) d (by omega) kk hk1 hlt (by have := HJ.out; omega))
          have HFD := Aside0.mk (frm_diag A B d kk hk1 hlt (by have := HJ.out; omega))
          go_wp2_with (first
            | (go_at_call 54; refine (myers_from.calls _ _ (lastR rs) (d : Int) kk (frm A B d kk) _ ?s1 ?s2 ?s3).mono ?_; (case s1 => exact HO.out.last HRL.out); (case s2 => exact Nat.le_refl _); (case s3 => rw [HPR.out]; exact HF.out); rintro e w2 ⟨rfl, ⟨nd, rfl⟩⟩))
          obtain ⟨hf1, hf2, hf3⟩ : kk ≤ (frm A B d kk : Int) ∧ (frm A B d kk : Int) ≤ l0.length + d ∧ (0 : Int) ≤ frm A B d kk := by have := HFD.out; have := HLA.out; omega
          go_loopw [11] (fun v11 wr3 => ∃ (x m : Nat), v11 = .int .i64 x ∧ Aside0 (snk A B x kk = V A B d kk) ∧ Aside0 (kk ≤ x ∧ (x : Int) ≤ l0.length + d) ∧ wr3 = wr.drewN m) (fun v11 _ => ((l0.length : Int) + d + 1 - intOf v11).toNat)
          case atStart => exact ⟨_, _, rfl, ⟨(V_eq A B d kk).symm⟩, ⟨hf1, hf2⟩, rfl⟩
          case round =>
            obtain ⟨x, m, rfl, HS, HX, rfl⟩ := hrel
            obtain ⟨hx1, hx2⟩ : kk ≤ (x : Int) ∧ (x : Int) ≤ l0.length + d := HX.out
            have HMT : Aside0 (x < l0.length → (x : Int) - kk < l1.length → mtl A B x ((x : Int) - kk).toNat = decide (rdOf ByteArray.empty l0 ((l0.length : Int) - 1 - x) = rdOf ByteArray.empty l1 ((l1.length : Int) - 1 - x + kk))) := ⟨fun c1 c2 => by
              have r1 := rd_rev l0 A HREV.out x c1 _ rfl
              have r2 := rd_rev l1 B HREVB.out ((x : Int) - kk).toNat (by omega) ((l1.length : Int) - 1 - x + kk) (by omega)
              unfold mtl
              rw [r1, r2]
              rw [Bool.eq_iff_iff, beq_iff_eq, decide_eq_true_iff]⟩
            by_cases cm : x < l0.length ∧ (x : Int) - kk < l1.length ∧ mtl A B x ((x : Int) - kk).toNat = true
            · obtain ⟨c1, c2, c3⟩ := cm
              have b1 : decide (x < l0.length) = true := decide_eq_true c1
              have b2 : decide ((x : Int) - kk < (l1.length : Int)) = true := decide_eq_true c2
              have HSS := Aside0.mk (snk_step hx1 c3)
              have heq := HMT.out c1 c2
              rw [c3] at heq
              replace heq := of_decide_eq_true heq.symm
              have HEQ := Aside0.mk heq
              clear heq c3
              obtain ⟨ji, hji⟩ : ∃ ji : Int, ji = (l0.length : Int) - 1 - x := ⟨_, rfl⟩
              obtain ⟨jk, hjk⟩ : ∃ jk : Int, jk = (l1.length : Int) - 1 - x + kk := ⟨_, rfl⟩
              have s1 : IntKind.i64.wrap ((x : Int) - kk) = (x : Int) - kk := wr64 (by omega) (by omega)
              have s2 : IntKind.i64.wrap ((l0.length : Int) - 1) = (l0.length : Int) - 1 := wr64 (by omega) (by omega)
              have s3 : IntKind.i64.wrap ((l0.length : Int) - 1 - x) = ji := by rw [hji]; exact wr64 (by omega) (by omega)
              have s4 : IntKind.i64.wrap ((l1.length : Int) - 1) = (l1.length : Int) - 1 := wr64 (by omega) (by omega)
              have s5 : IntKind.i64.wrap ((l1.length : Int) - 1 - x) = (l1.length : Int) - 1 - x := wr64 (by omega) (by omega)
              have s6 : IntKind.i64.wrap ((l1.length : Int) - 1 - x + kk) = jk := by rw [hjk]; exact wr64 (by omega) (by omega)
              obtain ⟨ad, e1, hx⟩ := Kd.at_string (HR0.out) ji (by omega) (by omega)
              obtain ⟨ad2, e2, hy⟩ := Kd.at_string (HR1.out) jk (by omega) (by omega)
              cases e1
              cases e2
              replace hx := (HB.out.cell (World.block_lt_of_cell? w _ hx)).trans hx
              replace hy := (HB.out.cell (World.block_lt_of_cell? w _ hy)).trans hy
              have h2 : (0 ≤ ji) = True := eq_true (by omega)
              have h3 : (ji < (l0.length : Int)) = True := eq_true (by omega)
              have h4 : (0 ≤ jk) = True := eq_true (by omega)
              have h5 : (jk < (l1.length : Int)) = True := eq_true (by omega)
              have HJI := Aside0.mk hji
              have HJK := Aside0.mk hjk
              clear hji hjk
              obtain ⟨p, hp⟩ : ∃ p, p = rdOf ByteArray.empty l0 ji := ⟨_, rfl⟩
              obtain ⟨q, hq⟩ : ∃ q, q = rdOf ByteArray.empty l1 jk := ⟨_, rfl⟩
              rw [← hp] at hx
              rw [← hq] at hy
              have HP := Aside0.mk hp
              have HQ := Aside0.mk hq
              clear hp hq
              have b3 : (p.toList == q.toList) = true := beq_iff_eq.2 (by rw [HP.out, HQ.out, HJI.out, HJK.out, HEQ.out])
              clear HEQ
              go_wp2
              go_quiet (fail)
              clear s1 s2 s3 s4 s5 s6
              go_wp2
              go_roundw
              case rel => exact ⟨x + 1, m + nq, by go_num, ⟨HSS.out.symm.trans HS.out⟩, ⟨by omega, by omega⟩, rfl⟩
              case measure => simp [intOf]; omega
            · have HV : Aside0 (V A B d kk = x) := ⟨by
                rw [← HS.out]
                refine snk_stop ?_
                cases hb : mtl A B x ((x : Int) - kk).toNat with
                | false => rfl
                | true =>
                  obtain ⟨hx, hy, _⟩ := mtl_iff.1 hb
                  have := HLA.out
                  have := HLB.out
                  exact absurd ⟨by omega, by omega, hb⟩ cm⟩
              have hcase : ¬ x < l0.length ∨ (x < l0.length ∧ ¬ (x : Int) - kk < l1.length) ∨ (x < l0.length ∧ (x : Int) - kk < l1.length ∧ mtl A B x ((x : Int) - kk).toNat = false) := by
                by_cases c1 : x < l0.length
                · by_cases c2 : (x : Int) - kk < l1.length
                  · exact .inr (.inr ⟨c1, c2, by
                      cases hb : mtl A B x ((x : Int) - kk).toNat with
                      | false => rfl
                      | true => exact absurd ⟨c1, c2, hb⟩ cm⟩)
                  · exact .inr (.inl ⟨c1, c2⟩)
                · exact .inl c1
              clear cm
              obtain ⟨ds, hds⟩ : ∃ ds : Int, ds = (d : Int) + kk := ⟨_, rfl⟩
              have hds0 : 0 ≤ ds ∧ ds = 2 * j := by have := HJ.out; omega
              have hdj : 2 * j < (rowV A B d (2 * j)).length := by rw [rowV_length]; have := HJ.out; omega
              obtain ⟨hcell, hfroz⟩ := HO.out.cell (g := g) (row := rowV A B d (2 * j)) (by simp) (2 * j) hdj
              have hdt : ds.toNat = 2 * j := by omega
              generalize (rowV A B d (2 * j))[2 * j] = cv at hcell
              rw [← hdt] at hcell hfroz
              have HDT := Aside0.mk hdt
              have HDS := Aside0.mk hds
              obtain ⟨hd1, hd2⟩ : 0 ≤ (d : Int) + kk ∧ (d : Int) + kk < 2 * d + 1 := by omega
              have hsum : (d : Int) + kk = ds := hds.symm
              clear hds hdt hds0 hdj
              rcases hcase with c1 | ⟨c1, c2⟩ | ⟨c1, c2, c3⟩
              case' inl =>
                have b1 : decide (x < l0.length) = false := decide_eq_false c1
                go_wp2
                go_quiet (fail)
                go_wp2
              case' inr.inl =>
                have b1 : decide (x < l0.length) = true := decide_eq_true c1
                have b2 : decide ((x : Int) - kk < (l1.length : Int)) = false := decide_eq_false c2
                have s1 : IntKind.i64.wrap ((x : Int) - kk) = (x : Int) - kk := wr64 (by omega) (by omega)
                go_wp2
                go_quiet (fail)
                clear s1
                go_wp2
              case' inr.inr =>
                have b1 : decide (x < l0.length) = true := decide_eq_true c1
                have b2 : decide ((x : Int) - kk < (l1.length : Int)) = true := decide_eq_true c2
                have heq := HMT.out c1 c2
                rw [c3] at heq
                replace heq := of_decide_eq_false heq.symm
                have HEQ := Aside0.mk heq
                clear heq c3
                obtain ⟨ji, hji⟩ : ∃ ji : Int, ji = (l0.length : Int) - 1 - x := ⟨_, rfl⟩
                obtain ⟨jk, hjk⟩ : ∃ jk : Int, jk = (l1.length : Int) - 1 - x + kk := ⟨_, rfl⟩
                have s1 : IntKind.i64.wrap ((x : Int) - kk) = (x : Int) - kk := wr64 (by omega) (by omega)
                have s2 : IntKind.i64.wrap ((l0.length : Int) - 1) = (l0.length : Int) - 1 := wr64 (by omega) (by omega)
                have s3 : IntKind.i64.wrap ((l0.length : Int) - 1 - x) = ji := by rw [hji]; exact wr64 (by omega) (by omega)
                have s4 : IntKind.i64.wrap ((l1.length : Int) - 1) = (l1.length : Int) - 1 := wr64 (by omega) (by omega)
                have s5 : IntKind.i64.wrap ((l1.length : Int) - 1 - x) = (l1.length : Int) - 1 - x := wr64 (by omega) (by omega)
                have s6 : IntKind.i64.wrap ((l1.length : Int) - 1 - x + kk) = jk := by rw [hjk]; exact wr64 (by omega) (by omega)
                obtain ⟨ad, e1, hx⟩ := Kd.at_string (HR0.out) ji (by omega) (by omega)
                obtain ⟨ad2, e2, hy⟩ := Kd.at_string (HR1.out) jk (by omega) (by omega)
                cases e1
                cases e2
                replace hx := (HB.out.cell (World.block_lt_of_cell? w _ hx)).trans hx
                replace hy := (HB.out.cell (World.block_lt_of_cell? w _ hy)).trans hy
                have h2 : (0 ≤ ji) = True := eq_true (by omega)
                have h3 : (ji < (l0.length : Int)) = True := eq_true (by omega)
                have h4 : (0 ≤ jk) = True := eq_true (by omega)
                have h5 : (jk < (l1.length : Int)) = True := eq_true (by omega)
                have HJI := Aside0.mk hji
                have HJK := Aside0.mk hjk
                clear hji hjk
                obtain ⟨p, hp⟩ : ∃ p, p = rdOf ByteArray.empty l0 ji := ⟨_, rfl⟩
                obtain ⟨q, hq⟩ : ∃ q, q = rdOf ByteArray.empty l1 jk := ⟨_, rfl⟩
                rw [← hp] at hx
                rw [← hq] at hy
                have HP := Aside0.mk hp
                have HQ := Aside0.mk hq
                clear hp hq
                have b3 : (p.toList == q.toList) = false := beq_eq_false_iff_ne.2 (fun hh => HEQ.out (by rw [← HJI.out, ← HJK.out, ← HP.out, ← HQ.out]; exact bytes_inj hh))
                clear HEQ
                go_wp2
                go_quiet (fail)
                clear s1 s2 s3 s4 s5 s6
                go_wp2
              all_goals
                go_ways
              all_goals
                have HOS : Aside0 (Out 63 w.heap.size ((wr.drewN (m + nq)).setCell ⟨g, ds.toNat, none⟩ (.int .i64 (x : Int))) v1 (rs ++ [(g, rowV A B d (2 * (j + 1)))])) := ⟨by
                  have h1 := (HO.out.drewN (m + nq)).store (by decide) HNE.out (2 * j) (x : Int)
                  rw [HDT.out]
                  have h2 := rowV_set A B d j (by have := HJ.out; omega)
                  have h3 : ((2 * j : Nat) : Int) - d = kk := by have := HJ.out; omega
                  rw [h3, HV.out] at h2
                  rw [h2] at h1
                  exact h1⟩
                have HBS : Aside0 (Below w.heap.size w ((wr.drewN (m + nq)).setCell ⟨g, ds.toNat, none⟩ (.int .i64 (x : Int)))) := ⟨below_set (pw_below_drewN HB.out _) (HO.out.2.1 (g, rowV A B d (2 * j)) (by simp)).1⟩
                first
                  | (rw [Exit.noGoto_ret]
                     go_ret
                     have hdD : d = D := by
                       rcases Nat.lt_or_ge d D with hlt2 | hge
                       · have h1 := HNO.out d hlt2
                         unfold stop at h1
                         have hkk : (A.length : Int) - B.length = kk := by have := HLA.out; have := HLB.out; omega
                         rw [hkk, HV.out] at h1
                         have h2 := of_decide_eq_false h1
                         exact absurd ⟨by omega, by omega, by have := HJ.out; have := HLA.out; have := HLB.out; omega, by have := HLA.out; omega⟩ h2
                       · omega
                     refine ⟨_, rfl, ?_, HBS.out⟩
                     have h1 := HOS.out.toS (by decide) (fun p hp => by
                       rcases List.mem_append.1 hp with hp | hp
                       · exact HRL.out p hp
                       · rw [List.mem_singleton.1 hp, rowV_length]; omega)
                     have h2 : (rs ++ [(g, rowV A B d (2 * (j + 1)))]).map (·.2) = rows A B D := by
                       rw [List.map_append, HRS.out]
                       unfold rows
                       have h3 : ((A.length : Int) - B.length + D).toNat + 2 = 2 * (j + 1) := by
                         have := HJ.out
                         have := HLA.out
                         have := HLB.out
                         omega
                       rw [h3, ← hdD]
                       rfl
                     rw [h2] at h1
                     rw [HREV.out, HREVB.out] at h1
                     exact h1)
                  | (refine ⟨⟨j + 1, _, rfl, ⟨by have := HJ.out; omega, by have := HJ.out; omega⟩, ⟨fun i hi => ?_⟩, HOS, HBS⟩, by simp [intOf]; omega⟩
                     rcases Nat.lt_or_ge i j with h1 | h1
                     · exact HNS.out i h1
                     · rintro ⟨h2, h3⟩
                       have h4 : 2 * (i : Int) - d = kk := by have := HJ.out; omega
                       rw [h4, HV.out] at h3
                       have := HLA.out
                       have := HLB.out
                       omega)
        · have HLT : Aside0 (d < D) := ⟨by
            rcases Nat.lt_or_ge d D with h1 | h1
            · exact h1
            · have h2 : d = D := by omega
              have h3 := HYES.out
              rw [← h2] at h3
              unfold stop at h3
              have h4 := of_decide_eq_true h3
              have h5 := HJ.out
              obtain ⟨i, hi⟩ : ∃ i : Nat, ((A.length : Int) - B.length) = 2 * (i : Int) - d := ⟨(((A.length : Int) - B.length + d) / 2).toNat, by omega⟩
              exact absurd ⟨hi.symm, by rw [← hi]; exact h4.2.2.2⟩ (HNS.out i (by omega))⟩
          have HHJ : Aside0 (j = d + 1) := ⟨by have := HJ.out; omega⟩
          go_wp2
          have HHR : Aside0 (Out 63 w.heap.size wr v1 (rs ++ [(g, rowV A B d (2 * d + 2))])) := ⟨by
            have h1 := HO.out
            rw [HHJ.out] at h1
            exact h1⟩
          refine ⟨⟨d + 1, rs ++ [(g, rowV A B d (2 * d + 2))], HLT.out, rfl, by rw [lastA_snoc, lastR_snoc, rowV_length], ⟨?_⟩, HHR, HB⟩, by have := HLT.out; simp [intOf]; omega⟩
          rw [List.map_append, HRS.out, List.range_succ, List.map_append]
          rfl
  · cases h
end Go.Proofs.Ythplelgkneipjaa.P
