/- What myers.Diff answers: the shortest script, step by step; by a walk of its text. -/
import Derived.WalkMore
import Derived.IntWalk
import Derived.Test.YthplelgkneipjaaENoted
import Derived.Test.YthplelgkneipjaaEComes
set_option linter.unusedVariables false
set_option linter.unusedSimpArgs false
namespace Go.Proofs.Ythplelgkneipjaa.P
open Go Go.RowKit Go.Proofs.YthplelgkneipjaaW.PrintWords Go.Proofs.YthplelgkneipjaaW.PrintLast Go.Proofs.YthplelgkneipjaaW.PrintMore Go.Proofs.Ythplelgkneipjaa.Q Go.Proofs.Ythplelgkneipjaa.HEdits

/-- A script, its steps put together. -/
def folded (st : List Step) : List S49 := st.foldl (fun s x => note s x.1 x.2) []
def script (a b : List ByteArray) : List S49 := folded (pth a b)
def myers_Diff.f (a b : List ByteArray) : Option (List S49) :=
  if a.length ≤ 1000000 ∧ b.length ≤ 1000000 then some (script a b) else none
theorem folded_snoc (st : List Step) (x : Step) : folded (st ++ [x]) = note (folded st) x.1 x.2 := by unfold folded; rw [List.foldl_append]; rfl
def Bd (k : Nat) (s : List S49) : Prop := s.length ≤ k ∧ ∀ x ∈ s, 0 ≤ x.f1 ∧ x.f1 ≤ k ∧ x.f2.length ≤ k
theorem note_bd {k : Nat} {s : List S49} (h : Bd k s) (op : Int) {ls : List ByteArray} (hl : ls.length ≤ 1) : Bd (k + 1) (note s op ls) := by
  rcases List.eq_nil_or_concat s with h0 | ⟨s0, x, h0⟩
  · subst h0
    rw [note_nil]
    refine ⟨by simp, fun y hy => ?_⟩
    rw [List.mem_singleton.1 hy]
    exact ⟨by show (0 : Int) ≤ 1; omega, by show (1 : Int) ≤ _; omega, by show ls.length ≤ k + 1; omega⟩
  · rw [List.concat_eq_append] at h0
    subst h0
    have hx := h.2 x (by simp)
    have hlen := h.1
    rw [List.length_append, List.length_singleton] at hlen
    rw [note_snoc]
    split
    · refine ⟨by simp; omega, fun y hy => ?_⟩
      rcases List.mem_append.1 hy with hy | hy
      · have := h.2 y (List.mem_append_left _ hy); omega
      · rw [List.mem_singleton.1 hy]
        exact ⟨by show 0 ≤ x.f1 + 1; omega, by show x.f1 + 1 ≤ _; omega, by show (x.f2 ++ ls).length ≤ k + 1; rw [List.length_append]; omega⟩
    · refine ⟨by simp; omega, fun y hy => ?_⟩
      rcases List.mem_append.1 hy with hy | hy
      · have := h.2 y hy; omega
      · rw [List.mem_singleton.1 hy]
        exact ⟨by show (0 : Int) ≤ 1; omega, by show (1 : Int) ≤ _; omega, by show ls.length ≤ k + 1; omega⟩
theorem folded_bd (st : List Step) (h : ∀ x ∈ st, x.2.length ≤ 1) : Bd st.length (folded st) := by
  have gen : ∀ (st : List Step) (k : Nat) (s : List S49), (∀ x ∈ st, x.2.length ≤ 1) → Bd k s → Bd (k + st.length) (st.foldl (fun s x => note s x.1 x.2) s) := by
    intro st
    induction st with
    | nil => intro k s _ h; exact h
    | cons y st ih =>
      intro k s hs h
      have h1 := ih (k + 1) (note s y.1 y.2) (fun x hx => hs x (List.mem_cons_of_mem _ hx)) (note_bd h y.1 (hs y List.mem_cons_self))
      have e : k + (y :: st).length = k + 1 + st.length := by simp; omega
      rw [e]
      exact h1
  have := gen st 0 [] h ⟨by simp, by simp⟩
  rw [Nat.zero_add] at this
  exact this
theorem small_of {es : List Ed} {st : List Step} (h : es.map Ed.plain = folded st) (hs : ∀ x ∈ st, x.2.length ≤ 1) (hl : st.length ≤ 2000000) : Small es := by
  have hb := folded_bd st hs
  rw [← h] at hb
  refine ⟨by have := hb.1; rw [List.length_map] at this; omega, fun e he => ?_, fun e he => ?_⟩
  · have := hb.2 e.plain (List.mem_map_of_mem he)
    exact ⟨this.1, by have h2 : e.n ≤ _ := this.2.1; omega⟩
  · have := hb.2 e.plain (List.mem_map_of_mem he)
    have h2 : e.l.length ≤ _ := this.2.2
    omega
set_option maxHeartbeats 4000000 in
set_option maxRecDepth 100000 in
theorem myers_Diff.calls (A0 : Option Addr) (c0 : Nat) (l0 : List ByteArray) (A1 : Option Addr) (c1 : Nat) (l1 : List ByteArray) (r : List S49) (w : World) (hr0 : Kd.C Kd.string w A0 l0.length l0) (hc0 : l0.length ≤ c0) (hr1 : Kd.C Kd.string w A1 l1.length l1) (hc1 : l1.length ≤ c1) (h : myers_Diff.f l0 l1 = some r) :
    Calls Try.prog 29 #[.slice A0 l0.length c0, .slice A1 l1.length c1] w fun e w' => ∃ v0_ : Value, e = .returned (v0_) ∧ Kd.S k49 49 w' w.heap.size (fun _ => True) v0_ r ∧ Below w.heap.size w w' := by
  unfold myers_Diff.f at h
  split at h
  · rename_i hsz
    obtain ⟨hm0, hm1⟩ := hsz
    obtain rfl := Option.some.inj h
    clear h
    have hsr : myers_search.f l0 l1 = some (rows l0.reverse l1.reverse (cost l0 l1)) := by
      unfold myers_search.f
      rw [if_pos ⟨hm0, hm1⟩, least_rev]
      rfl
    have HSR := Aside0.mk hsr
    have HR0 := Aside0.mk hr0
    have HR1 := Aside0.mk hr1
    have HC0 := Aside0.mk hc0
    have HC1 := Aside0.mk hc1
    clear hr0 hc0 hr1 hc1 hsr
    have hD : cost l0 l1 ≤ 2000000 := by unfold cost; omega
    have HCD : Aside0 (cost l0 l1 ≤ l0.length + l1.length) := ⟨by unfold cost; omega⟩
    obtain ⟨D, hDe⟩ : ∃ D, D = cost l0 l1 := ⟨_, rfl⟩
    have HDE := Aside0.mk hDe
    rw [← hDe] at hD
    have hrl : (rows l0.reverse l1.reverse (cost l0 l1)).length = D + 1 := by rw [rows_length, hDe]
    generalize hrows : rows l0.reverse l1.reverse (cost l0 l1) = rs at hrl HSR
    have HROWS := Aside0.mk hrows
    clear hDe hrows
    go_enter Try.func29, Try.ntmps29
    go_wp2_with (first
      | (go_at_call 45; refine (myers_search.calls _ _ l0 _ _ l1 rs _ HR0.out HC0.out HR1.out HC1.out HSR.out).mono ?_; rintro e wF ⟨vF, rfl, hSF, hbF⟩; obtain ⟨AF, cF, rfl, hcF, hFC⟩ := Kd.S_reads hSF; rw [hrl] at hFC hcF ⊢; have HFC := Aside0.mk hFC; have HBF := Aside0.mk hbF; clear hSF hbF hFC hcF))
    obtain ⟨wb, hwb⟩ : ∃ wb, wb = wF.alloc (Obj.cells #[Value.slice AF (D + 1) cF] 61) := ⟨_, rfl⟩
    have hpc : wb.cell? ⟨wF.heap.size, 0, none⟩ = some (.slice AF (D + 1) cF) := by rw [hwb]; exact (blk_cell (heap_alloc_new wF _) 0)
    have HPL : Aside0 (wF.heap.size < wb.heap.size) := ⟨by rw [hwb]; simp⟩
    have HFB : Aside0 (Kd.C (Kd.slice 3 (Kd.int .i64)) wb AF (D + 1) rs) := ⟨by rw [hwb]; exact Kd.C_alloc HFC.out _⟩
    have HWB : Aside0 (Below w.heap.size w wb) := ⟨by rw [hwb]; exact below_alloc HBF.out _⟩
    have HPC := Aside0.mk hpc
    rw [← hwb]
    clear hwb hpc HFC HBF
    generalize wF.heap.size = g at *
    go_loopw [4, 6, 8, 9] (fun v4 v6 v8 v9 wr => ∃ (i j left : Nat) (es : List Ed) (done : List Step), v8 = .int .i64 i ∧ v9 = .int .i64 j ∧ v6 = .int .i64 left ∧ i ≤ l0.length ∧ j ≤ l1.length ∧ left ≤ D ∧ Aside0 (left = cost (l0.drop i) (l1.drop j)) ∧ Aside0 (Scr wb.heap.size wr v4 es) ∧ Aside0 (es.map Ed.plain = folded done) ∧ Aside0 (done ++ pth (l0.drop i) (l1.drop j) = pth l0 l1) ∧ Aside0 (Below wb.heap.size wb wr)) (fun _ _ v8 v9 _ => (l0.length - (intOf v8).toNat) + (l1.length - (intOf v9).toNat))
    case atStart => exact ⟨0, 0, D, [], [], rfl, rfl, rfl, Nat.zero_le _, Nat.zero_le _, Nat.le_refl _, HDE, ⟨Scr.nil _ _⟩, ⟨rfl⟩, ⟨rfl⟩, ⟨Below.refl _ _⟩⟩
    case round =>
      obtain ⟨i, j, left, es, done, rfl, rfl, rfl, hi, hj, hle, HL, HS, HP, HPT, HB⟩ := hrel
      have HSM : Aside0 (Small es) := ⟨small_of HP.out (fun x hx => (pth_small l0 l1).2 x (by rw [← HPT.out]; exact List.mem_append_left _ hx)) (by
        have h1 := congrArg List.length HPT.out
        rw [List.length_append] at h1
        have := (pth_small l0 l1).1
        omega)⟩
      have HSZ : Aside0 (wb.heap.size ≤ wr.heap.size) := ⟨HB.out.size⟩
      obtain ⟨Ao, co, rfl⟩ := own_slice HS.out.1
      by_cases hk : ∃ (h1 : i < l0.length) (h2 : j < l1.length), l0[i] = l1[j]
      · obtain ⟨c1, c2, heq⟩ := hk
        have b1 : decide (i < l0.length) = true := decide_eq_true c1
        have b2 : decide (j < l1.length) = true := decide_eq_true c2
        have hA : l0.drop i = l0[i] :: l0.drop (i + 1) := List.drop_eq_getElem_cons c1
        have hB : l1.drop j = l1[j] :: l1.drop (j + 1) := List.drop_eq_getElem_cons c2
        have HL' : Aside0 (left = cost (l0.drop (i + 1)) (l1.drop (j + 1))) := ⟨by rw [HL.out, hA, hB, heq, cost_keep]⟩
        have HPT' : Aside0 ((done ++ [((1 : Int), [])]) ++ pth (l0.drop (i + 1)) (l1.drop (j + 1)) = pth l0 l1) := ⟨by
          rw [← HPT.out, hA, hB, pth_cons, if_pos heq, List.append_assoc]
          rfl⟩
        clear hA hB
        obtain ⟨ad, e1, hx⟩ := Kd.at_string (HR0.out) (i : Int) (by omega) (by omega)
        obtain ⟨ad2, e2, hy⟩ := Kd.at_string (HR1.out) (j : Int) (by omega) (by omega)
        cases e1
        cases e2
        replace hx := (HB.out.cell (Nat.lt_of_lt_of_le (World.block_lt_of_cell? w _ hx) HWB.out.size)).trans ((HWB.out.cell (World.block_lt_of_cell? w _ hx)).trans hx)
        replace hy := (HB.out.cell (Nat.lt_of_lt_of_le (World.block_lt_of_cell? w _ hy) HWB.out.size)).trans ((HWB.out.cell (World.block_lt_of_cell? w _ hy)).trans hy)
        have h3 : ((i : Int) < (l0.length : Int)) = True := eq_true (by omega)
        have h5 : ((j : Int) < (l1.length : Int)) = True := eq_true (by omega)
        have h3' : (i < l0.length) = True := eq_true c1
        have h5' : (j < l1.length) = True := eq_true c2
        obtain ⟨p, hp⟩ : ∃ p, p = rdOf ByteArray.empty l0 (i : Int) := ⟨_, rfl⟩
        obtain ⟨q, hq⟩ : ∃ q, q = rdOf ByteArray.empty l1 (j : Int) := ⟨_, rfl⟩
        rw [← hp, Int.toNat_natCast] at hx
        rw [← hq, Int.toNat_natCast] at hy
        have hpq : p = q := by
          rw [hp, hq]
          unfold rdOf
          rw [Int.toNat_natCast, Int.toNat_natCast, List.getD_eq_getElem?_getD, List.getD_eq_getElem?_getD, List.getElem?_eq_getElem c1, List.getElem?_eq_getElem c2, heq]
        have b3 : (p.toList == q.toList) = true := beq_iff_eq.2 (by rw [hpq])
        clear hp hq hpq heq
        go_wp2
        go_quiet (fail)
        go_wp2_with (first
          | (go_at_call 47; refine (myers_noted.calls wb.heap.size es _ 1 none 0 0 [] _ ?s1 ?s2 ?s3 ?s4 HSM.out ?s5).mono ?_; (case s1 => exact HSZ.out); (case s2 => exact HS.out); (case s3 => exact own_nil _ _ _ _); (case s4 => exact fun e _ k _ hk' => by simp [Value.ownBlock] at hk'); (case s5 => exact Nat.zero_le _); rintro e w2 ⟨v2, es2, rfl, hs2, hp2, hb2⟩; have HS2 := Aside0.mk hs2; have HP2 := Aside0.mk hp2; have HB2 := Aside0.mk hb2; clear hs2 hp2 hb2))
        exact ⟨⟨i + 1, j + 1, left, es2, done ++ [((1 : Int), [])], rfl, rfl, rfl, c1, c2, hle, HL', HS2, ⟨by rw [HP2.out, HP.out, folded_snoc]⟩, HPT', ⟨(pw_below_drewN HB.out _).trans HB2.out⟩⟩, by simp [intOf]; omega⟩
      · have hne : ∀ a A' b B', l0.drop i = a :: A' → l1.drop j = b :: B' → a ≠ b := by
          intro a A' b B' h1 h2 he
          have e1 : i < l0.length := by have := congrArg List.length h1; simp at this; omega
          have e2 : j < l1.length := by have := congrArg List.length h2; simp at this; omega
          rw [List.drop_eq_getElem_cons e1] at h1
          rw [List.drop_eq_getElem_cons e2] at h2
          injection h1 with h1 _
          injection h2 with h2 _
          exact hk ⟨e1, e2, by rw [h1, h2, he]⟩
        have HNE := Aside0.mk hne
        have hcase : ¬ i < l0.length ∨ (i < l0.length ∧ ¬ j < l1.length) ∨ (i < l0.length ∧ j < l1.length) := by omega
        have HNK := Aside0.mk hk
        clear hk hne
        rcases hcase with c1 | ⟨c1, c2⟩ | ⟨c1, c2⟩
        · have b1 : decide (i < l0.length) = false := decide_eq_false c1
          have hA : l0.drop i = [] := List.drop_eq_nil_of_le (by omega)
          go_wp2
          go_quiet (fail)
          by_cases hz : left = 0
          · have HDONE : Aside0 (done = pth l0 l1) := ⟨by
              have h1 := HPT.out
              have h2 := left_zero (l0.drop i) (l1.drop j) (by rw [← HL.out, hz]) HNE.out
              rw [h2.1, h2.2, pth_nil, List.append_nil] at h1
              exact h1⟩
            subst hz
            clear hA
            go_wp2
            go_ret
            refine ⟨_, rfl, ?_, HWB.out.trans ((pw_below_drewN HB.out nq).mono HWB.out.size)⟩
            have h1 := (HS.out.drewN nq).toS
            rw [HP.out, show done = pth l0 l1 from HDONE.out] at h1
            exact Kd.S_lower h1 HWB.out.size
          · have c2 : j < l1.length := by
              rcases Nat.lt_or_ge j l1.length with h | h
              · exact h
              · exact absurd (by rw [HL.out, hA, List.drop_eq_nil_of_le h]; rfl) hz
            have hB : l1.drop j = l1[j] :: l1.drop (j + 1) := List.drop_eq_getElem_cons c2
            obtain ⟨ad2, e2, hy⟩ := Kd.at_string (HR1.out) (j : Int) (by omega) (by omega)
            cases e2
            replace hy := (HB.out.cell (Nat.lt_of_lt_of_le (World.block_lt_of_cell? w _ hy) HWB.out.size)).trans ((HWB.out.cell (World.block_lt_of_cell? w _ hy)).trans hy)
            have h5 : ((j : Int) < (l1.length : Int)) = True := eq_true (by omega)
            have h5' : (j < l1.length) = True := eq_true c2
            obtain ⟨q, hq⟩ : ∃ q, q = rdOf ByteArray.empty l1 (j : Int) := ⟨_, rfl⟩
            rw [← hq, Int.toNat_natCast] at hy
            have hq' : q = l1[j] := by rw [hq]; unfold rdOf; rw [Int.toNat_natCast, List.getD_eq_getElem?_getD, List.getElem?_eq_getElem c2]; rfl
            have HQ := Aside0.mk hq'
            clear hq hq'
            obtain ⟨ld, hld⟩ : ∃ ld, left = ld + 1 := ⟨left - 1, by omega⟩
            have HL' : Aside0 (ld = cost (l0.drop i) (l1.drop (j + 1))) := ⟨by
              have h1 := HL.out
              rw [hA, hB, cost_add] at h1
              rw [hA]; omega⟩
            have HPT' : Aside0 ((done ++ [((3 : Int), [q])]) ++ pth (l0.drop i) (l1.drop (j + 1)) = pth l0 l1) := ⟨by
              rw [← HPT.out, hA, hB, pth_add, List.append_assoc, HQ.out]
              rfl⟩
            have s1 : IntKind.i64.wrap ((left : Int) - 1) = (ld : Int) := by rw [wr64 (by omega) (by omega)]; omega
            have b0 : ((left : Int) == 0) = false := beq_eq_false_iff_ne.2 (by omega)
            have hld2 : ld ≤ D := by omega
            clear hld hA hB
            have LITT : Lns wb.heap.size (wr.alloc (Obj.cells #[Value.string q] 9)) (.slice (some ⟨wr.heap.size, 0, none⟩) 1 1) [q] := own_lit_of wr _ 9 [q] HSZ.out (by simp)
            have HLT := Aside0.mk LITT
            have HNL : Aside0 (∀ e ∈ es, NeRow e.v (.slice (some ⟨wr.heap.size, 0, none⟩) 1 1)) := ⟨fun e he k hk hk' => by
              have h1 := own_lt (HS.out.2.1 e he) k hk
              have h2 : wr.heap.size = k := by simpa [Value.ownBlock] using hk'
              omega⟩
            clear LITT
            go_wp2_with (first
              | (go_at_call 47; refine (myers_noted.calls wb.heap.size es _ 3 _ 1 1 [q] _ ?s1 ?s2 ?s3 ?s4 HSM.out ?s5).mono ?_; (case s1 => exact Nat.le_trans HSZ.out (by simp)); (case s2 => first | exact HS.out.below (below_alloc (Below.refl _ _) _) | exact (HS.out.below (below_alloc (Below.refl _ _) _)).drewN _); (case s3 => first | exact HLT.out | exact pw_own_drewN HLT.out _); (case s4 => exact HNL.out); (case s5 => exact by simp); rintro e w2 ⟨v2, es2, rfl, hs2, hp2, hb2⟩; have HS2 := Aside0.mk hs2; have HP2 := Aside0.mk hp2; have HB2 := Aside0.mk hb2; clear hs2 hp2 hb2))
            exact ⟨⟨i, j + 1, ld, es2, done ++ [((3 : Int), [q])], rfl, rfl, rfl, hi, c2, hld2, HL', HS2, ⟨by rw [HP2.out, HP.out, folded_snoc]⟩, HPT', ⟨by first | exact (below_alloc (pw_below_drewN HB.out _) _).trans HB2.out | exact (pw_below_drewN (below_alloc HB.out _) _).trans HB2.out | exact (below_alloc HB.out _).trans HB2.out⟩⟩, by simp [intOf]; omega⟩
        · have b1 : decide (i < l0.length) = true := decide_eq_true c1
          have b2 : decide (j < l1.length) = false := decide_eq_false c2
          go_wp2
          go_quiet (fail)
          obtain ⟨nx, hnx⟩ : ∃ nx, l0.length = i + nx + 1 := ⟨l0.length - i - 1, by omega⟩
          obtain ⟨my, hmy⟩ : ∃ my, l1.length = j + my := ⟨l1.length - j, by omega⟩
          have hA : l0.drop i = l0[i] :: l0.drop (i + 1) := List.drop_eq_getElem_cons c1
          have hcf := cut_iff l0[i] (l0.drop (i + 1)) (l1.drop j) (fun b B' hb => HNE.out _ _ _ _ hA hb)
          rw [← hA, ← HL.out] at hcf
          have eA : (l0.drop (i + 1)).length = nx := by rw [List.length_drop]; omega
          have eB : (l1.drop j).length = my := by rw [List.length_drop]; omega
          rw [eA, eB] at hcf
          have hSh : Sh l0 l1 nx my = lcs (l0.drop (i + 1)) (l1.drop j) := by
            unfold Sh
            have f1 : l0.length - nx = i + 1 := by omega
            have f2 : l1.length - my = j := by omega
            rw [f1, f2]
          obtain ⟨ld, hld⟩ : ∃ ld, left = ld + 1 := ⟨left - 1, by omega⟩
          have hl1 : left - 1 = ld := by omega
          rw [hl1] at hcf
          have HLD : Aside0 (ld < cost l0 l1) := ⟨by rw [← HDE.out]; omega⟩
          have HNX : Aside0 (nx ≤ l0.length) := ⟨by omega⟩
          have HMY : Aside0 (my ≤ l1.length) := ⟨by omega⟩
          have HPAR : Aside0 ((ld + nx + my) % 2 = 0) := ⟨by
            have h1 := HL.out
            have h2 := lcs_two (l0.drop i) (l1.drop j)
            unfold cost at h1
            rw [hA, List.length_cons, eA, eB] at h1
            rw [hA, List.length_cons, eA, eB] at h2
            omega⟩
          have HPW : Aside0 (wr.cell? ⟨g, 0, none⟩ = some (.slice AF (cost l0 l1 + 1) cF)) := ⟨by rw [← HDE.out]; exact (HB.out.cell HPL.out).trans HPC.out⟩
          have HCC : Aside0 (Kd.C (Kd.slice 3 (Kd.int .i64)) wr AF (cost l0 l1 + 1) (rows l0.reverse l1.reverse (cost l0 l1))) := ⟨by rw [HROWS.out, ← HDE.out]; exact Kd.C_below HFB.out HB.out⟩
          have s1 : IntKind.i64.wrap ((left : Int) - 1) = (ld : Int) := by rw [wr64 (by omega) (by omega)]; omega
          obtain ⟨z, hz⟩ : ∃ z : Int, z = (l0.length : Int) - i := ⟨_, rfl⟩
          have sA : IntKind.i64.wrap ((l0.length : Int) - i) = z := by rw [hz]; exact wr64 (by omega) (by omega)
          have sB : IntKind.i64.wrap (z - 1) = (nx : Int) := by rw [hz, wr64 (by omega) (by omega)]; omega
          have sC : IntKind.i64.wrap ((l1.length : Int) - j) = (my : Int) := by rw [wr64 (by omega) (by omega)]; omega
          have b0 : ((left : Int) == 0) = false := beq_eq_false_iff_ne.2 (by omega)
          have hld2 : ld ≤ D := by omega
          have hcf1 := hcf.2.2.1
          have hcf2 := hcf.2.2.2
          have hcf3 := hcf.2.1
          clear hz hld hl1 hnx hmy eA eB hcf
          have hcut : nx + my ≤ ld + 2 * lcs (l0.drop (i + 1)) (l1.drop j) := by
            rcases Nat.lt_or_ge (ld + 2 * lcs (l0.drop (i + 1)) (l1.drop j)) (nx + my) with h | h
            · obtain ⟨b, B', hb, _⟩ := hcf2 (by omega)
              rw [List.drop_eq_nil_of_le (by omega)] at hb
              cases hb
            · exact h
          have HCB : Aside0 (comesB l0 l1 ld nx my = true) := ⟨by unfold comesB; rw [hSh]; exact decide_eq_true hcut⟩
          have HL' : Aside0 (ld = cost (l0.drop (i + 1)) (l1.drop j)) := ⟨(hcf1 hcut).symm⟩
          have HPT' : Aside0 ((done ++ [((2 : Int), [])]) ++ pth (l0.drop (i + 1)) (l1.drop j) = pth l0 l1) := ⟨by
            rw [← HPT.out, hcf3.1 hcut, List.append_assoc]
            rfl⟩
          clear hcf1 hcf2 hcf3 hA hSh hcut
          go_wp2_with (first
            | (go_at_call 46; refine (myers_comes.calls l0 l1 hm0 hm1 ld nx my HLD.out HNX.out HMY.out HPAR.out g AF cF _ ?t1 ?t2).mono ?_; (case t1 => exact HPW.out); (case t2 => exact HCC.out); rw [HCB.out]; rintro e w9 ⟨rfl, rfl⟩)
            | (go_at_call 47; refine (myers_noted.calls wb.heap.size es _ 2 none 0 0 [] _ ?s1 ?s2 ?s3 ?s4 HSM.out ?s5).mono ?_; (case s1 => exact HSZ.out); (case s2 => exact HS.out); (case s3 => exact own_nil _ _ _ _); (case s4 => exact fun e _ k _ hk' => by simp [Value.ownBlock] at hk'); (case s5 => exact Nat.zero_le _); rintro e w2 ⟨v2, es2, rfl, hs2, hp2, hb2⟩; have HS2 := Aside0.mk hs2; have HP2 := Aside0.mk hp2; have HB2 := Aside0.mk hb2; clear hs2 hp2 hb2))
          exact ⟨⟨i + 1, j, ld, es2, done ++ [((2 : Int), [])], rfl, rfl, rfl, c1, hj, hld2, HL', HS2, ⟨by rw [HP2.out, HP.out, folded_snoc]⟩, HPT', ⟨(pw_below_drewN HB.out _).trans HB2.out⟩⟩, by simp [intOf]; omega⟩
        · have b1 : decide (i < l0.length) = true := decide_eq_true c1
          have b2 : decide (j < l1.length) = true := decide_eq_true c2
          obtain ⟨ad, e1, hx⟩ := Kd.at_string (HR0.out) (i : Int) (by omega) (by omega)
          obtain ⟨ad2, e2, hy⟩ := Kd.at_string (HR1.out) (j : Int) (by omega) (by omega)
          cases e1
          cases e2
          replace hx := (HB.out.cell (Nat.lt_of_lt_of_le (World.block_lt_of_cell? w _ hx) HWB.out.size)).trans ((HWB.out.cell (World.block_lt_of_cell? w _ hx)).trans hx)
          replace hy := (HB.out.cell (Nat.lt_of_lt_of_le (World.block_lt_of_cell? w _ hy) HWB.out.size)).trans ((HWB.out.cell (World.block_lt_of_cell? w _ hy)).trans hy)
          have h3 : ((i : Int) < (l0.length : Int)) = True := eq_true (by omega)
          have h5 : ((j : Int) < (l1.length : Int)) = True := eq_true (by omega)
          have h3' : (i < l0.length) = True := eq_true c1
          have h5' : (j < l1.length) = True := eq_true c2
          obtain ⟨p, hp⟩ : ∃ p, p = rdOf ByteArray.empty l0 (i : Int) := ⟨_, rfl⟩
          obtain ⟨q, hq⟩ : ∃ q, q = rdOf ByteArray.empty l1 (j : Int) := ⟨_, rfl⟩
          rw [← hp, Int.toNat_natCast] at hx
          rw [← hq, Int.toNat_natCast] at hy
          have hp' : p = l0[i] := by rw [hp]; unfold rdOf; rw [Int.toNat_natCast, List.getD_eq_getElem?_getD, List.getElem?_eq_getElem c1]; rfl
          have hq' : q = l1[j] := by rw [hq]; unfold rdOf; rw [Int.toNat_natCast, List.getD_eq_getElem?_getD, List.getElem?_eq_getElem c2]; rfl
          have HQ := Aside0.mk hq'
          have b3 : (p.toList == q.toList) = false := beq_eq_false_iff_ne.2 (fun hh => HNK.out ⟨c1, c2, by rw [← hp', ← hq']; exact bytes_inj hh⟩)
          clear hp hq hp' hq'
          go_wp2
          go_quiet (fail)
          obtain ⟨nx, hnx⟩ : ∃ nx, l0.length = i + nx + 1 := ⟨l0.length - i - 1, by omega⟩
          obtain ⟨my, hmy⟩ : ∃ my, l1.length = j + my := ⟨l1.length - j, by omega⟩
          have hA : l0.drop i = l0[i] :: l0.drop (i + 1) := List.drop_eq_getElem_cons c1
          have hcf := cut_iff l0[i] (l0.drop (i + 1)) (l1.drop j) (fun b B' hb => HNE.out _ _ _ _ hA hb)
          rw [← hA, ← HL.out] at hcf
          have eA : (l0.drop (i + 1)).length = nx := by rw [List.length_drop]; omega
          have eB : (l1.drop j).length = my := by rw [List.length_drop]; omega
          rw [eA, eB] at hcf
          have hSh : Sh l0 l1 nx my = lcs (l0.drop (i + 1)) (l1.drop j) := by
            unfold Sh
            have f1 : l0.length - nx = i + 1 := by omega
            have f2 : l1.length - my = j := by omega
            rw [f1, f2]
          obtain ⟨ld, hld⟩ : ∃ ld, left = ld + 1 := ⟨left - 1, by omega⟩
          have hl1 : left - 1 = ld := by omega
          rw [hl1] at hcf
          have HLD : Aside0 (ld < cost l0 l1) := ⟨by rw [← HDE.out]; omega⟩
          have HNX : Aside0 (nx ≤ l0.length) := ⟨by omega⟩
          have HMY : Aside0 (my ≤ l1.length) := ⟨by omega⟩
          have HPAR : Aside0 ((ld + nx + my) % 2 = 0) := ⟨by
            have h1 := HL.out
            have h2 := lcs_two (l0.drop i) (l1.drop j)
            unfold cost at h1
            rw [hA, List.length_cons, eA, eB] at h1
            rw [hA, List.length_cons, eA, eB] at h2
            omega⟩
          have HPW : Aside0 (wr.cell? ⟨g, 0, none⟩ = some (.slice AF (cost l0 l1 + 1) cF)) := ⟨by rw [← HDE.out]; exact (HB.out.cell HPL.out).trans HPC.out⟩
          have HCC : Aside0 (Kd.C (Kd.slice 3 (Kd.int .i64)) wr AF (cost l0 l1 + 1) (rows l0.reverse l1.reverse (cost l0 l1))) := ⟨by rw [HROWS.out, ← HDE.out]; exact Kd.C_below HFB.out HB.out⟩
          have s1 : IntKind.i64.wrap ((left : Int) - 1) = (ld : Int) := by rw [wr64 (by omega) (by omega)]; omega
          obtain ⟨z, hz⟩ : ∃ z : Int, z = (l0.length : Int) - i := ⟨_, rfl⟩
          have sA : IntKind.i64.wrap ((l0.length : Int) - i) = z := by rw [hz]; exact wr64 (by omega) (by omega)
          have sB : IntKind.i64.wrap (z - 1) = (nx : Int) := by rw [hz, wr64 (by omega) (by omega)]; omega
          have sC : IntKind.i64.wrap ((l1.length : Int) - j) = (my : Int) := by rw [wr64 (by omega) (by omega)]; omega
          have b0 : ((left : Int) == 0) = false := beq_eq_false_iff_ne.2 (by omega)
          have hld2 : ld ≤ D := by omega
          have hcf1 := hcf.2.2.1
          have hcf2 := hcf.2.2.2
          have hcf3 := hcf.2.1
          clear hz hld hl1 hnx hmy eA eB hcf
          by_cases hcut : nx + my ≤ ld + 2 * lcs (l0.drop (i + 1)) (l1.drop j)
          · have HCB : Aside0 (comesB l0 l1 ld nx my = true) := ⟨by unfold comesB; rw [hSh]; exact decide_eq_true hcut⟩
            have HL' : Aside0 (ld = cost (l0.drop (i + 1)) (l1.drop j)) := ⟨(hcf1 hcut).symm⟩
            have HPT' : Aside0 ((done ++ [((2 : Int), [])]) ++ pth (l0.drop (i + 1)) (l1.drop j) = pth l0 l1) := ⟨by
              rw [← HPT.out, hcf3.1 hcut, List.append_assoc]
              rfl⟩
            clear hcf1 hcf2 hcf3 hA hSh hcut
            go_wp2_with (first
              | (go_at_call 46; refine (myers_comes.calls l0 l1 hm0 hm1 ld nx my HLD.out HNX.out HMY.out HPAR.out g AF cF _ ?t1 ?t2).mono ?_; (case t1 => exact HPW.out); (case t2 => exact HCC.out); rw [HCB.out]; rintro e w9 ⟨rfl, rfl⟩)
              | (go_at_call 47; refine (myers_noted.calls wb.heap.size es _ 2 none 0 0 [] _ ?s1 ?s2 ?s3 ?s4 HSM.out ?s5).mono ?_; (case s1 => exact HSZ.out); (case s2 => exact HS.out); (case s3 => exact own_nil _ _ _ _); (case s4 => exact fun e _ k _ hk' => by simp [Value.ownBlock] at hk'); (case s5 => exact Nat.zero_le _); rintro e w2 ⟨v2, es2, rfl, hs2, hp2, hb2⟩; have HS2 := Aside0.mk hs2; have HP2 := Aside0.mk hp2; have HB2 := Aside0.mk hb2; clear hs2 hp2 hb2))
            exact ⟨⟨i + 1, j, ld, es2, done ++ [((2 : Int), [])], rfl, rfl, rfl, c1, hj, hld2, HL', HS2, ⟨by rw [HP2.out, HP.out, folded_snoc]⟩, HPT', ⟨(pw_below_drewN HB.out _).trans HB2.out⟩⟩, by simp [intOf]; omega⟩
          · have HCB : Aside0 (comesB l0 l1 ld nx my = false) := ⟨by unfold comesB; rw [hSh]; exact decide_eq_false hcut⟩
            obtain ⟨b, B', hb, hp2, hc2⟩ := hcf2 hcut
            rw [List.drop_eq_getElem_cons c2] at hb
            injection hb with hb1 hb2
            subst hb1
            subst hb2
            have HL' : Aside0 (ld = cost (l0.drop i) (l1.drop (j + 1))) := ⟨hc2.symm⟩
            have HPT' : Aside0 ((done ++ [((3 : Int), [q])]) ++ pth (l0.drop i) (l1.drop (j + 1)) = pth l0 l1) := ⟨by
              rw [← HPT.out, hp2, List.append_assoc, HQ.out]
              rfl⟩
            clear hcf1 hcf2 hcf3 hA hSh hcut hp2 hc2
            have LITT : Lns wb.heap.size (wr.alloc (Obj.cells #[Value.string q] 9)) (.slice (some ⟨wr.heap.size, 0, none⟩) 1 1) [q] := own_lit_of wr _ 9 [q] HSZ.out (by simp)
            have HLT := Aside0.mk LITT
            have HNL : Aside0 (∀ e ∈ es, NeRow e.v (.slice (some ⟨wr.heap.size, 0, none⟩) 1 1)) := ⟨fun e he k hk hk' => by
              have h1 := own_lt (HS.out.2.1 e he) k hk
              have h2 : wr.heap.size = k := by simpa [Value.ownBlock] using hk'
              omega⟩
            clear LITT
            go_wp2_with (first
              | (go_at_call 46; refine (myers_comes.calls l0 l1 hm0 hm1 ld nx my HLD.out HNX.out HMY.out HPAR.out g AF cF _ ?t1 ?t2).mono ?_; (case t1 => exact HPW.out); (case t2 => exact HCC.out); rw [HCB.out]; rintro e w9 ⟨rfl, rfl⟩)
              | (go_at_call 47; refine (myers_noted.calls wb.heap.size es _ 3 _ 1 1 [q] _ ?s1 ?s2 ?s3 ?s4 HSM.out ?s5).mono ?_; (case s1 => exact Nat.le_trans HSZ.out (by simp)); (case s2 => first | exact HS.out.below (below_alloc (Below.refl _ _) _) | exact (HS.out.below (below_alloc (Below.refl _ _) _)).drewN _); (case s3 => first | exact HLT.out | exact pw_own_drewN HLT.out _); (case s4 => exact HNL.out); (case s5 => exact by simp); rintro e w2 ⟨v2, es2, rfl, hs2, hp2, hb2⟩; have HS2 := Aside0.mk hs2; have HP2 := Aside0.mk hp2; have HB2 := Aside0.mk hb2; clear hs2 hp2 hb2))
            exact ⟨⟨i, j + 1, ld, es2, done ++ [((3 : Int), [q])], rfl, rfl, rfl, hi, c2, hld2, HL', HS2, ⟨by rw [HP2.out, HP.out, folded_snoc]⟩, HPT', ⟨by first | exact (below_alloc (pw_below_drewN HB.out _) _).trans HB2.out | exact (pw_below_drewN (below_alloc HB.out _) _).trans HB2.out | exact (below_alloc HB.out _).trans HB2.out⟩⟩, by simp [intOf]; omega⟩
  · cases h
end Go.Proofs.Ythplelgkneipjaa.P
