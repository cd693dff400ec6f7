/- script.Invert, slices.Clone of lines, slices.Insert of an edit into a script: their contracts; by walks of their texts. -/
import Derived.Test.YtgobidmfbjmpkaaGHk
import Derived.Test.YtgobidmfbjmpkaaEInsert
import Derived.Test.YtgobidmfbjmpkaaGHeld
import Derived.Test.YtgobidmfbjmpkaaPxf51
import Derived.WalkMore
import Derived.IntWalk
import Derived.Lib.Hide
set_option linter.unusedVariables false
set_option linter.unusedSimpArgs false
namespace Go.Proofs.Ytgobidmfbjmpkaa.P
open Go Go.RowKit Go.Proofs.YtgobidmfbjmpkaaW.PrintWords Go.Proofs.YtgobidmfbjmpkaaW.PrintLast Go.Proofs.YtgobidmfbjmpkaaW.PrintMore Go.Proofs.Ytgobidmfbjmpkaa.HEdits
set_option maxRecDepth 100000 in
set_option maxHeartbeats 4000000 in
theorem clone_strings (A0 : Option Addr) (c0 : Nat) (l0 : List ByteArray) (w : World) (hr0 : Kd.C Kd.string w A0 l0.length l0) (hc0 : l0.length ≤ c0) (hl : l0.length < 8796093022208) :
  Calls Try.prog 52 #[.slice A0 l0.length c0] w fun e w' => ∃ v0_ : Value, e = .returned (v0_) ∧ Kd.R Kd.string 9 w' w.heap.size (fun _ => True) v0_ l0 ∧ Below w.heap.size w w' := by
 cases A0 with
 | none =>
  have h0 : l0 = [] := by
   rcases List.eq_nil_or_concat l0 with h | ⟨t, x, h⟩
   ·exact h
   ·exfalso
    obtain ⟨ad, he, _⟩ := hr0.2.2 (by rw [h]; simp)
    cases he
  subst h0
  have q1 : ∀ w : World, (binOp .eql 29 (.slice none 0 c0) (.slice none 0 0)).run Try.prog w = .ok (.bool true) w := fun w => Lib.run_eql_slice_nil w _ _ none 0 c0 0 0 Try.underlying29
  clear hr0
  go_enter Try.func52, Try.ntmps52
  go_wp2
  go_ret
  exact ⟨_, rfl, Kd.R_nil _ _ _ _ _, Below.refl _ _⟩
 | some ad =>
  have q1 : ∀ w : World, (binOp .eql 29 (.slice (some ad) l0.length c0) (.slice none 0 0)).run Try.prog w = .ok (.bool false) w := fun w => Lib.run_eql_slice_nil w _ _ (some ad) l0.length c0 0 0 Try.underlying29
  have HR0 := Lib.hid hr0
  have HC0 := Lib.hid hc0
  have HL := Lib.hid hl
  have LITT : Lns w.heap.size (w.alloc (Obj.cells #[] 9)) (.slice (some ⟨w.heap.size, 0, none⟩) 0 0) [] := own_lit_of w _ 9 [] (Nat.le_refl _) (by simp)
  have HR := Lib.hid (Kd.R_of_own (h1 := fun _ => rfl) (ok := fun _ => True) LITT (fun _ _ => trivial))
  have HB := Lib.hid (below_alloc (Below.refl w.heap.size w) (Obj.cells #[] 9))
  clear hr0 hc0 hl LITT
  go_enter Try.func52, Try.ntmps52
  go_wp2_with (first
   | (at_builtin; refine Kd.R_append_rows Kd.string (w0 := w) w.heap.size rfl (.tmp 5) (.tmp 6) 29 9 (.string ⟨#[]⟩) 16 rfl Try.underlying29 info9 rfl (by decide) (by omega) (.slice (some ⟨w.heap.size, 0, none⟩) 0 0) ([] : List ByteArray) l0 _ _ _ (fun _ => True) (fun _ => False) rfl rfl ?aO ?aR (fun _ _ h => h) (fun _ h => h.elim) ?aF ?aB ?aS ?aL ?_; (case aR => exact Kd.C_alloc HR0.out _); (case aB => exact HB.out); (case aF => exact (fun _ _ => trivial)); (case aO => exact HR.out); (case aS => exact HB.out.size); (case aL => have := HL.out; simp; omega); intro v1 w1 ho hb hg hat; have HO := Lib.hid ho; have HB1 := Lib.hid hb; clear ho hb hg hat))
  go_ret
  exact ⟨_, rfl, by simpa using HO.out, HB1.out⟩
/-- A cut, put in ahead of what is added last. -/
def putCut (s : List S31) (c : S31) : List S31 := match s.getLast? with
 | some y => if y.f0 = 3 then s.dropLast ++ [c, y] else s ++ [c]
 | none => s ++ [c]
theorem putCut_nil (c : S31) : putCut [] c = [c] := rfl
theorem putCut_snoc (s : List S31) (y c : S31) : putCut (s ++ [y]) c = if y.f0 = 3 then s ++ [c, y] else s ++ [y] ++ [c] := by
 unfold putCut
 rw [List.getLast?_concat, List.dropLast_concat]
def invL : List S31 → List S31 → List ByteArray → Option (List S31)
 | [], s, _ => some s
 | x :: t, s, a => if x.f0 = 1 then (if 0 ≤ x.f1 ∧ x.f1 ≤ (a.length : Int) then invL t (s ++ [⟨1, x.f1, []⟩]) (a.drop x.f1.toNat) else none)
  else if x.f0 = 2 then (if 0 ≤ x.f1 ∧ x.f1 ≤ (a.length : Int) then invL t (s ++ [⟨3, x.f1, a.take x.f1.toNat⟩]) (a.drop x.f1.toNat) else none)
  else invL t (putCut s ⟨2, x.f1, []⟩) a
def script_Invert.f (k : Nat) (s : List S31) (a : List ByteArray) : Option (List S31 × Int) :=
 if s.length ≤ 1000000 ∧ a.length ≤ 1000000000 then (script_fits.f k s a).bind fun e => if e = 0 then (invL s [] a).bind fun r => some (r, 0) else some ([], e) else none
theorem script_Invert.mono (a0 : List S31) (a1 : List ByteArray) (k : Nat) : LeO (script_Invert.f k a0 a1) (script_Invert.f (k + 1) a0 a1) := by
 unfold script_Invert.f
 refine LeO.ite ?_ (LeO.none _)
 refine LeO.bind (script_fits.mono _ _ _) (fun _ => ?_)
 exact LeO.refl _
theorem scr_insert_end {base : Nat} {v : Value} {es : List Ed} {w : World} (n : Int) (vb vc : Nat) (HS : Scr base w v es) (hb : base ≤ w.heap.size) (hn : es.length ≤ 1000000000) (hvb : w.heap[vb]? = some (.cells #[.int .i64 2, .int .i64 n, .slice none 0 0] 31 (0, 0))) :
  Calls Try.prog 53 #[v, .int .i64 es.length, .slice (some ⟨vb, 0, none⟩) 1 vc] w fun e w' => ∃ v', e = .returned v' ∧ Scr base w' v' (es ++ [⟨2, n, .slice none 0 0, []⟩]) ∧ Below base w w' := by
 refine (insert_end base es.length vb vc v (flat es) [.int .i64 2, .int .i64 n, .slice none 0 0] w HS.1 hb hn rfl (fun j u hj => (blk_cell hvb j).trans (by rw [← Array.getElem?_toList]; exact hj)) (by intro u hu; simp at hu; rcases hu with rfl | rfl | rfl <;> rfl)).mono ?_
 rintro e w' ⟨v', rfl, ho, hg⟩
 exact ⟨v', rfl, HS.push (e := ⟨2, n, .slice none 0 0, []⟩) ho hg (own_nil _ _ _ _) (fun p _ k _ hk' => by simp [Value.ownBlock] at hk'), (Below.refl _ _).grown hg hb (own_base HS.1)⟩
theorem flat_one : ∀ (es : List Ed), ∀ u ∈ flat es, (∀ e ∈ es, e.v.oneCell' = true) → u.oneCell' = true := by
 intro es u hu h
 unfold flat at hu
 obtain ⟨e, he, hu⟩ := List.mem_flatMap.1 hu
 simp only [Ed.cells, List.mem_cons, List.not_mem_nil, or_false] at hu
 rcases hu with rfl | rfl | rfl
 ·rfl
 ·rfl
 ·exact h e he
theorem scr_insert_last {base : Nat} {v : Value} {es : List Ed} {y : Ed} {w : World} (n : Int) (vb vc : Nat) (HS : Scr base w v (es ++ [y])) (hb : base ≤ w.heap.size) (hn : es.length ≤ 100000000) (hvb : w.heap[vb]? = some (.cells #[.int .i64 2, .int .i64 n, .slice none 0 0] 31 (0, 0))) (hne : v.ownBlock ≠ some vb) :
  Calls Try.prog 53 #[v, .int .i64 es.length, .slice (some ⟨vb, 0, none⟩) 1 vc] w fun e w' => ∃ v', e = .returned v' ∧ Scr base w' v' (es ++ [⟨2, n, .slice none 0 0, []⟩] ++ [y]) ∧ Below base w w' := by
 have hl : (es ++ [y]).length = es.length + 1 := by simp
 have h1 := HS.1
 rw [hl] at h1
 refine (insert_mid base (es.length + 1) es.length vb vc v (flat (es ++ [y])) [.int .i64 2, .int .i64 n, .slice none 0 0] w h1 (by omega) (by omega) hb rfl (by simpa using hvb) hne
  (fun u hu => flat_one _ u hu (fun e he => by obtain ⟨A, c, h⟩ := own_slice (HS.2.1 e he); rw [h]; rfl)) (by intro u hu; simp at hu; rcases hu with rfl | rfl | rfl <;> rfl)).mono ?_
 rintro e w' ⟨v', rfl, ho, hg⟩
 have ht : (flat (es ++ [y])).take (es.length * 3) = flat es := by rw [flat_snoc, List.take_left' (flat_length es)]
 have hd : (flat (es ++ [y])).drop (es.length * 3) = y.cells := by rw [flat_snoc, List.drop_left' (flat_length es)]
 rw [ht, hd] at ho
 have hp := List.pairwise_append.1 HS.2.2
 refine ⟨v', rfl, ⟨?_, ?_, ?_⟩, (Below.refl _ _).grown hg hb (own_base HS.1)⟩
 ·rw [flat_snoc, flat_snoc]
  simp only [List.length_append, List.length_singleton]
  exact ho
 ·intro p hp'
  have hL : ∀ p ∈ es ++ [y], Lns base w' p.v p.l := fun p hp => own_other (HS.2.1 p hp) hg (own_type_ne (HS.2.1 p hp) HS.1 (by decide))
  simp only [List.append_assoc, List.mem_append, List.mem_singleton] at hp'
  rcases hp' with hp' | rfl | rfl
  ·exact hL p (by simp [hp'])
  ·exact own_nil _ _ _ _
  ·exact hL p (by simp)
 ·refine List.pairwise_append.2 ⟨List.pairwise_append.2 ⟨hp.1, List.pairwise_singleton _ _, fun q _ r hr k _ hk' => ?_⟩, List.pairwise_singleton _ _, fun q hq r hr => ?_⟩
  ·rw [List.mem_singleton.1 hr] at hk'
   simp [Value.ownBlock] at hk'
  ·rcases List.mem_append.1 hq with hq | hq
   ·exact hp.2.2 q hq r hr
   ·rw [List.mem_singleton.1 hq]
    intro k hk
    simp [Value.ownBlock] at hk
def InvEnd (B : Nat) (r : List S31 × Int) (w : World) (e : Ending) (w' : World) : Prop := ∃ v es, e = .returned (.tuple #[v, .int .i64 r.2]) ∧ Scr B w' v es ∧ es.map Ed.plain = r.1 ∧ Below B w w'
theorem iw64 {x : Int} (h0 : -9223372036854775808 ≤ x) (h1 : x ≤ 9223372036854775807) : wrap64 x = x := by unfold wrap64; omega
theorem ne_typed {base e size n : Nat} {w : World} {v : Value} {xs : List Value} (h : w.ownsRow base e size v n xs) {k : Nat} (hk : w.heap.size ≤ k) : some k ≠ v.ownBlock := fun he => by
 have := own_lt h k he.symm
 omega
set_option maxRecDepth 100000 in
set_option maxHeartbeats 4000000 in
theorem invert_run (k : Nat) (A0 : Option Addr) (c0 : Nat) (l0 : List S31) (A1 : Option Addr) (c1 : Nat) (l1 : List ByteArray) (r : List S31 × Int) (w : World) (hr0 : Kd.C k31 w A0 l0.length l0) (hc0 : l0.length ≤ c0) (hr1 : Kd.C Kd.string w A1 l1.length l1) (hc1 : l1.length ≤ c1) (hf : script_Invert.f k l0 l1 = some r) :
  Calls Try.prog 28 #[.slice A0 l0.length c0, .slice A1 l1.length c1] w (InvEnd w.heap.size r w) := by
 unfold script_Invert.f at hf
 split at hf
 case isFalse => cases hf
 rename_i hlen
 obtain ⟨hl0, hl1⟩ := hlen
 obtain ⟨t, ht, hf1⟩ := Option.bind_eq_some_iff.1 hf
 clear hf
 have hf := hf1
 clear hf1
 have CF := Lib.hid (script_fits.calls k A0 c0 l0 A1 c1 l1 t w hr0 hc0 hr1 hc1 ht)
 have HR0 := Lib.hid hr0
 have HR1 := Lib.hid hr1
 have HC1 := Lib.hid hc1
 clear hr0 hr1 ht hc1
 by_cases h0 : t = 0
 ·subst h0
  rw [if_pos rfl] at hf
  obtain ⟨q, hq, hf2⟩ := Option.bind_eq_some_iff.1 hf
  clear hf
  obtain rfl := Option.some.inj hf2
  have HQ := Lib.hid hq
  clear hf2 hq
  go_enter Try.func28, Try.ntmps28
  go_wp2_with (first | (go_at_call 51; refine CF.out.mono ?_; rintro e w1 ⟨rfl, hb1⟩))
  have HB1 := Lib.hid hb1
  clear hb1
  go_loopw [1, 4, 19] (fun v1 v4 v19 wr => ∃ (i : Nat) (es : List Ed) (a : List ByteArray) (Aa : Option Addr) (ca : Nat), v19 = .int .i64 (i : Int) ∧ v1 = .slice Aa a.length ca ∧ i ≤ l0.length ∧ es.length ≤ i ∧ a.length ≤ 1000000000 ∧ Hid (a.length ≤ ca) ∧ Hid (Kd.C Kd.string w Aa a.length a) ∧ Hid (Scr w.heap.size wr v4 es) ∧ Hid (invL (l0.drop i) (es.map Ed.plain) a = some q) ∧ Hid (Below w.heap.size w wr)) (fun _ _ v19 _ => l0.length - (intOf v19).toNat)
  case atStart => exact ⟨0, [], l1, A1, c1, rfl, rfl, Nat.zero_le _, Nat.zero_le _, hl1, HC1, HR1, Scr.nil _ _, HQ, HB1⟩
  case round =>
   obtain ⟨i, es, a, Aa, ca, rfl, rfl, hi, hes, hal, HCA, HA, HS, HL, HB⟩ := hrel
   by_cases ci : i < l0.length
   ·have cb : decide ((i : Int) < (l0.length : Int)) = true := decide_eq_true (by omega)
    have cb' : decide (i < l0.length) = true := decide_eq_true ci
    obtain ⟨ad, A2, c2, rfl, hx0, hx1, hx2, hl2, hC2⟩ := at_T31 HR0.out (i : Int) (by omega) (by omega)
    have HL' := HL.out
    rw [List.drop_eq_getElem_cons ci] at HL'
    have hE0 : l0[i] = rd_T31 l0 (i : Int) := by simp [rd_T31, List.getD_eq_getElem?_getD, List.getElem?_eq_getElem ci]
    rw [hE0] at HL'
    obtain ⟨x, hx⟩ : ∃ x, x = rd_T31 l0 (i : Int) := ⟨_, rfl⟩
    rw [← hx] at hx0 hx1 hx2 hl2 hC2 HL'
    rw [Int.toNat_natCast] at hx0 hx1 hx2
    have y0 := (HB.out.cell (World.block_lt_of_cell? w _ hx0)).trans hx0
    have y1 := (HB.out.cell (World.block_lt_of_cell? w _ hx1)).trans hx1
    have y2 := (HB.out.cell (World.block_lt_of_cell? w _ hx2)).trans hx2
    have p1 := eq_true (show 0 ≤ (i : Int) by omega)
    have q1 := eq_true (show (i : Int) < (l0.length : Int) by omega)
    have HX := Lib.hid hx
    obtain ⟨Ao, co, rfl⟩ := own_slice HS.out.1
    obtain ⟨X, hX⟩ : ∃ X, X = wr.alloc (.cells #[.int .i64 x.f0, .int .i64 x.f1, .slice A2 x.f2.length c2] 31) := ⟨_, rfl⟩
    have qX : X.heap[wr.heap.size]? = some (.cells #[.int .i64 x.f0, .int .i64 x.f1, .slice A2 x.f2.length c2] 31 (0, 0)) := by rw [hX]; exact heap_alloc_new wr _
    have bX : Below wr.heap.size wr X := by rw [hX]; exact (Below.refl _ _).alloc (Nat.le_refl _) _
    have z0 : X.cell? ⟨wr.heap.size, 0, none⟩ = some (.int .i64 x.f0) := by simp [World.cell?, qX]
    have z1 : X.cell? ⟨wr.heap.size, 1, none⟩ = some (.int .i64 x.f1) := by simp [World.cell?, qX]
    have HSX := Lib.hid (HS.out.below bX)
    have HBX := Lib.hid (HB.out.trans (bX.mono HB.out.size))
    have HQX := Lib.hid qX
    have HXX := Lib.hid hX
    have HNE := Lib.hid (ne_typed HS.out.1 (Nat.le_refl wr.heap.size))
    have HBX1 := Lib.hid bX
    clear hC2 hx hx0 hx1 hx2 hE0 HL hX qX bX
    unfold invL at HL'
    by_cases k1 : x.f0 = 1
    ·rw [if_pos k1] at HL'
     split at HL'
     case isFalse => cases HL'
     rename_i hg
     obtain ⟨g0, g1⟩ := hg
     have kb1 : (x.f0 == 1) = true := beq_iff_eq.2 k1
     obtain ⟨m, hm⟩ : ∃ m : Nat, m = x.f1.toNat := ⟨_, rfl⟩
     obtain ⟨b, hb⟩ : ∃ b, b = a.drop m := ⟨_, rfl⟩
     have HN := Lib.hid HL'
     obtain ⟨i0, hi0, hzz, hsz, hbb⟩ := info_parts info9
     have hcut := cut_from (P := Try.prog) 29 9 .i64 Try.underlying29 hi0 1 hsz Aa a.length ca x.f1 g0 g1
     have hdr := Kd.C_drop (m := m) HA.out (by omega) HCA.out
     rw [← hm] at hcut
     have hdl : a.length - m = b.length := by rw [hb, List.length_drop]
     rw [hdl] at hcut
     obtain ⟨A', hA'⟩ : ∃ A', A' = (if ca = m then Aa else Aa.map (·.add (m * 1))) := ⟨_, rfl⟩
     rw [← hA'] at hcut
     have HDR := Lib.hid (show Kd.C Kd.string w A' b.length b by rw [hA', hb]; exact hdr)
     obtain ⟨c', hc'⟩ : ∃ c', c' = ca - m := ⟨_, rfl⟩
     rw [← hc'] at hcut
     have HCD := Lib.hid (show b.length ≤ c' by rw [hc', ← hdl]; have := HCA.out; omega)
     have hdl2 : b.length ≤ 1000000000 := by rw [← hdl]; omega
     rw [← hm, ← hb] at HN
     have HG := Lib.hid (And.intro g0 g1)
     clear hdr hdl hA' hc' hm hb hzz hbb hsz hi0 i0 HL' k1 g0 g1
     go_wp2_with (first | rw [← HXX.out] | (at_builtin; refine print_append_cells (w0 := w) w.heap.size rfl (.tmp 50) (.tmp 54) 26 31 (.agg #[(.int .i64 0), (.int .i64 0), (.slice none 0 0)]) 3 40 rfl Try.underlying26 info31 rfl (by omega) (by omega) (.slice Ao es.length co) es.length (flat es) [.int .i64 1, .int .i64 x.f1, .slice none 0 0] rfl (by first | (go_simp; done) | (go_simp; rfl)) rfl ?h1 ?hO ?hB ?hs ?hl ?_; (case h1 => intro u hu; simp at hu; rcases hu with rfl | rfl | rfl <;> rfl); (case hO => exact HSX.out.1); (case hB => exact HBX.out); (case hs => exact HBX.out.size); (case hl => omega); intro v1 w1 hown hb hgr hat; have HS1 := Lib.hid (HSX.out.push (e := ⟨1, x.f1, .slice none 0 0, []⟩) hown hgr (own_nil _ _ _ _) (fun p _ k _ hk' => by simp [Value.ownBlock] at hk')); have z3 : w1.cell? ⟨wr.heap.size, 1, none⟩ = some (.int .i64 x.f1) := (blk_cell (blk_grown HQX.out hgr HNE.out) 1).trans rfl; have HB1 := Lib.hid hb; clear hown hb hgr hat))
     exact ⟨⟨i + 1, _, b, A', c', by simp, rfl, ci, by simp; omega, hdl2, HCD, HDR, HS1, Lib.hid (by rw [List.map_append]; exact HN.out), HB1⟩, by simp [intOf]; omega⟩
    ·rw [if_neg k1] at HL'
     have kb1 : (x.f0 == 1) = false := beq_eq_false_iff_ne.2 k1
     by_cases k2 : x.f0 = 2
     ·rw [if_pos k2] at HL'
      split at HL'
      case isFalse => cases HL'
      rename_i hg
      obtain ⟨g0, g1⟩ := hg
      have kb2 : (x.f0 == 2) = true := beq_iff_eq.2 k2
      obtain ⟨m, hm⟩ : ∃ m : Nat, m = x.f1.toNat := ⟨_, rfl⟩
      obtain ⟨b, hb⟩ : ∃ b, b = a.drop m := ⟨_, rfl⟩
      have HN := Lib.hid HL'
      obtain ⟨i0, hi0, hzz, hsz, hbb⟩ := info_parts info9
      have hcut := cut_from (P := Try.prog) 29 9 .i64 Try.underlying29 hi0 1 hsz Aa a.length ca x.f1 g0 g1
      have hdr := Kd.C_drop (m := m) HA.out (by omega) HCA.out
      rw [← hm] at hcut
      have hdl : a.length - m = b.length := by rw [hb, List.length_drop]
      rw [hdl] at hcut
      obtain ⟨A', hA'⟩ : ∃ A', A' = (if ca = m then Aa else Aa.map (·.add (m * 1))) := ⟨_, rfl⟩
      rw [← hA'] at hcut
      have HDR := Lib.hid (show Kd.C Kd.string w A' b.length b by rw [hA', hb]; exact hdr)
      obtain ⟨c', hc'⟩ : ∃ c', c' = ca - m := ⟨_, rfl⟩
      rw [← hc'] at hcut
      have HCD := Lib.hid (show b.length ≤ c' by rw [hc', ← hdl]; have := HCA.out; omega)
      have hdl2 : b.length ≤ 1000000000 := by rw [← hdl]; omega
      rw [← hm, ← hb] at HN
      obtain ⟨d, hd⟩ : ∃ d, d = a.take m := ⟨_, rfl⟩
      rw [← hd] at HN
      have hcut0 := cut_to (P := Try.prog) 29 9 .i64 Try.underlying29 hi0 Aa a.length ca x.f1 g0 g1 HCA.out
      rw [← hm] at hcut0
      have hdm : m = d.length := by rw [hd, List.length_take]; omega
      have hcut1 : ∀ W : World, (Instr.slice 29 (.slice Aa a.length ca) none (some (.int .i64 x.f1)) none).run Try.prog W = .ok (.slice Aa d.length ca) W := fun W => by rw [← hdm]; exact hcut0 W
      obtain ⟨Z, hZ⟩ : ∃ Z, Z = X.drew := ⟨_, rfl⟩
      have bZ : Below wr.heap.size wr Z := by rw [hZ]; exact HBX1.out.drew
      have hZH : Z.heap = X.heap := by rw [hZ]; rfl
      have m1 : Z.cell? ⟨wr.heap.size, 1, none⟩ = some (.int .i64 x.f1) := (World.cell?_of_block (w := X) (by rw [hZH])).trans z1
      have CZ : Kd.C Kd.string Z Aa d.length d := by
       have h1 := Kd.C_take (m := m) HA.out (by omega)
       rw [← hd] at h1
       exact Kd.C_below h1 (HB.out.trans (bZ.mono HB.out.size))
      have CO := Lib.hid (clone_strings Aa ca d Z CZ (by have := HCA.out; omega) (by omega))
      have HZZ := Lib.hid hZ
      have HBZ := Lib.hid bZ
      have HZ8 := Lib.hid (show ∀ b ∈ [wr.heap.size], b < Z.heap.size by intro b hb; rw [List.mem_singleton.1 hb, hZH]; exact blk_lt HQX.out)
      have HDL := Lib.hid (show d.length ≤ 1000000000 by omega)
      have HG := Lib.hid (And.intro g0 g1)
      clear hdr hdl hA' hc' hm hb hzz hbb hsz hi0 HL' k1 k2 g0 g1 hcut0 hdm hd hZ hZH CZ bZ
      go_wp2_with (first | rw [← HXX.out])
      refine (wpIn_wide (n := 9)).1 ?_
      refine Held.region 11 (Held.Same Z [wr.heap.size]) (by kernel_rfl) ?_
      rw [← HZZ.out]
      have hT := Held.Same.refl Z [wr.heap.size]
      refine Held.tk (i := 0) rfl hT ?_
      try simp only [Act.put, List.setIfInBounds_toArray, List.set_cons_zero, List.set_cons_succ]
      refine Held.tk (i := 1) rfl hT ?_
      try simp only [Act.put, List.setIfInBounds_toArray, List.set_cons_zero, List.set_cons_succ]
      refine Held.tk (i := 2) rfl hT ?_
      try simp only [Act.put, List.setIfInBounds_toArray, List.set_cons_zero, List.set_cons_succ]
      refine Held.tk (i := 3) rfl hT ?_
      try simp only [Act.put, List.setIfInBounds_toArray, List.set_cons_zero, List.set_cons_succ]
      refine Held.tk (i := 4) rfl hT ?_
      try simp only [Act.put, List.setIfInBounds_toArray, List.set_cons_zero, List.set_cons_succ]
      refine Held.tk (i := 5) rfl hT ?_
      try simp only [Act.put, List.setIfInBounds_toArray, List.set_cons_zero, List.set_cons_succ]
      refine Held.tk (i := 6) rfl hT ?_
      try simp only [Act.put, List.setIfInBounds_toArray, List.set_cons_zero, List.set_cons_succ]
      refine Held.AnyS.step (i := 7) rfl (by kernel_rfl) rfl (fun K hK => ?_)
      go_simp
      first | refine ⟨trivial, ?_⟩ | skip
      refine (callsIn_wide.2 CO.out).mono ?_
      rintro e Y5 ⟨vL, rfl, hRL, hbY5⟩
      obtain ⟨AL, cL, rfl⟩ := Kd.R_slice hRL
      have hT2 := hT.below hbY5 HZ8.out
      have HRL := Lib.hid hRL
      have HBY5 := Lib.hid hbY5
      clear hRL hbY5
      refine hK.out _ _ (fun _ => hT2) ?_
      clear hK K
      try simp only [Act.put, List.setIfInBounds_toArray, List.set_cons_zero, List.set_cons_succ]
      refine Held.tk (i := 8) rfl hT2 ?_
      try simp only [Act.put, List.setIfInBounds_toArray, List.set_cons_zero, List.set_cons_succ]
      refine Held.AnyS.step (i := 9) rfl (by kernel_rfl) rfl (fun K hK => ?_)
      go_simp
      have hT3 := hT2.grown (World.grownBy_alloc Y5 (.cells #[.int .i64 3, .int .i64 x.f1, .slice AL d.length cL] 31) none) (fun b hb => ⟨HZ8.out b hb, by simp⟩)
      refine hK.out _ _ (fun _ => hT3) ?_
      clear hK K
      try simp only [Act.put, List.setIfInBounds_toArray, List.set_cons_zero, List.set_cons_succ]
      obtain ⟨w2, hw2⟩ : ∃ w2, w2 = Y5.alloc (.cells #[.int .i64 3, .int .i64 x.f1, .slice AL d.length cL] 31) := ⟨_, rfl⟩
      have b82 : Below Z.heap.size Z w2 := by rw [hw2]; exact HBY5.out.alloc HBY5.out.size _
      have s8 := HBZ.out.size
      have s82 := b82.size
      have swr := HB.out.size
      have bw2 : Below wr.heap.size wr w2 := HBZ.out.trans (b82.mono s8)
      have nw : ∀ j u, [Value.int .i64 3, .int .i64 x.f1, .slice AL d.length cL][j]? = some u → w2.cell? ((⟨Y5.heap.size, 0, none⟩ : Addr).add j) = some u := by
       rw [hw2]
       simpa using World.news_of_block (cs := #[Value.int .i64 3, .int .i64 x.f1, .slice AL d.length cL]) (t := 31) (fr := (0, 0)) (heap_alloc_new Y5 _)
      have lns : Lns w.heap.size w2 (.slice AL d.length cL) d := by
       rw [hw2]
       exact own_alloc (own_less (Kd.own_of_R HRL.out) (by omega)) _
      have SY := HS.out.below bw2
      have S2 : w2.ownsRow w.heap.size 31 3 (.slice Ao es.length co) es.length (flat es) := SY.1
      have ne8 : ∀ b ∈ [wr.heap.size], some b ≠ (Value.slice Ao es.length co).ownBlock := fun b hb => by
       rw [List.mem_singleton.1 hb]; exact HNE.out
      rw [← hw2] at hT3 ⊢
      clear hw2
      refine Held.AnyS.step (i := 10) rfl (by kernel_rfl) rfl (fun K hK => ?_)
      refine Held.append_at (.tmp 62) (.tmp 71) 26 rfl w.heap.size 31 (.agg #[.int .i64 0, .int .i64 0, .slice none 0 0]) 3 40 Try.underlying26 info31 rfl (by omega) (.slice Ao es.length co) es.length (flat es) rfl S2 ⟨Y5.heap.size, 0, none⟩ 1 1 [.int .i64 3, .int .i64 x.f1, .slice AL d.length cL] rfl rfl nw ?_ ?_ ?_ ?_ ?_
      ·intro u hu; simp at hu; rcases hu with rfl | rfl | rfl <;> rfl
      ·simp only [maxLen]; omega
      ·omega
      ·omega
      intro v1 w1 hown hgr hat1
      obtain ⟨A5, c5, rfl⟩ := own_slice hown
      have hT4 : Held.Same Z [wr.heap.size] w1 := hT3.grown hgr (fun b hb => ⟨HZ8.out b hb, ne8 b hb⟩)
      have HS1 := Lib.hid (HHunks.Scr.add (more := [⟨3, x.f1, .slice AL d.length cL, d⟩]) SY hown hgr (fun e he => by rw [List.mem_singleton.1 he]; exact lns) (fun p hp e he k hk hk' => by
       rw [List.mem_singleton.1 he] at hk'
       have h1 := own_lt (HS.out.2.1 p hp) k hk
       have h2 := own_base (Kd.own_of_R HRL.out) k hk'
       omega) (List.pairwise_singleton _ _))
      have HB1 := Lib.hid ((HB.out.trans (bw2.mono swr)).grown hgr (by omega) (own_base S2))
      have z3 : w1.cell? ⟨wr.heap.size, 1, none⟩ = some (.int .i64 x.f1) := hT4.cell m1 (by simp)
      have z3b : w1.drew.cell? ⟨wr.heap.size, 1, none⟩ = some (.int .i64 x.f1) := z3
      clear hown hgr hat1 S2 SY nw lns bw2 b82 ne8
      refine hK.out _ _ (fun _ => hT4) ?_
      clear hK K hT hT2 hT3 hT4
      try simp only [Act.put, List.setIfInBounds_toArray, List.set_cons_zero, List.set_cons_succ]
      refine Held.AnyS.step (i := 11) rfl (by kernel_rfl) rfl (fun K hK => ?_)
      go_simp
      refine hK.out _ _ (fun h => absurd h (by omega)) ?_
      clear hK K
      refine Held.AnyS.done (by kernel_rfl) ?_ _
      go_simp
      go_wp2
      exact ⟨⟨i + 1, _, b, A', c', by simp, rfl, ci, by simp; omega, hdl2, HCD, HDR, HS1, Lib.hid (by rw [List.map_append]; exact HN.out), HB1⟩, by simp [intOf]; omega⟩
     ·rw [if_neg k2] at HL'
      have kb2 : (x.f0 == 2) = false := beq_eq_false_iff_ne.2 k2
      have HN := Lib.hid HL'
      obtain ⟨X2, hX2⟩ : ∃ X2, X2 = X.alloc (.cells #[.int .i64 2, .int .i64 x.f1, .slice none 0 0] 31) := ⟨_, rfl⟩
      have qX2 : X2.heap[X.heap.size]? = some (.cells #[.int .i64 2, .int .i64 x.f1, .slice none 0 0] 31 (0, 0)) := by rw [hX2]; exact heap_alloc_new X _
      have n0 : X2.cell? ⟨X.heap.size, 0, none⟩ = some (.int .i64 2) := by simp [World.cell?, qX2]
      have n1 : X2.cell? ⟨X.heap.size, 1, none⟩ = some (.int .i64 x.f1) := by simp [World.cell?, qX2]
      have n2 : X2.cell? ⟨X.heap.size, 2, none⟩ = some (.slice none 0 0) := by simp [World.cell?, qX2]
      have bX2 : Below X.heap.size X X2 := by rw [hX2]; exact (Below.refl _ _).alloc (Nat.le_refl _) _
      obtain ⟨X3, hX3⟩ : ∃ X3, X3 = X2.alloc (.cells #[.int .i64 2, .int .i64 x.f1, .slice none 0 0] 31) := ⟨_, rfl⟩
      have qX3 : X3.heap[X2.heap.size]? = some (.cells #[.int .i64 2, .int .i64 x.f1, .slice none 0 0] 31 (0, 0)) := by rw [hX3]; exact heap_alloc_new X2 _
      have bX3 : Below X2.heap.size X2 X3 := by rw [hX3]; exact (Below.refl _ _).alloc (Nat.le_refl _) _
      have HS2 := Lib.hid (HSX.out.below bX2)
      have HS3 := Lib.hid (HS2.out.below bX3)
      have sX := HBX.out.size
      have sX2 := bX2.size
      have sX3 := bX3.size
      have HB3 := Lib.hid ((HBX.out.trans (bX2.mono sX)).trans (bX3.mono (by omega)))
      have HX2 := Lib.hid hX2
      have HX3 := Lib.hid hX3
      have HV := Lib.hid qX3
      clear hX2 hX3 qX2 qX3 bX2 bX3 HL' k1 k2
      rcases List.eq_nil_or_concat es with h0 | ⟨es0, e0, h0⟩
      ·have hl0 : es.length = 0 := by rw [h0]; rfl
       have cn1 : decide (0 < es.length) = false := decide_eq_false (by omega)
       have cn2 : decide ((0 : Int) < (es.length : Int)) = false := decide_eq_false (by omega)
       have HPC := Lib.hid (show (es ++ [(⟨2, x.f1, .slice none 0 0, []⟩ : Ed)]).map Ed.plain = putCut (es.map Ed.plain) ⟨2, x.f1, []⟩ by rw [h0]; rfl)
       have hesl : es.length ≤ 1000000000 := by omega
       clear h0 hl0
       go_wp2_with (first | rw [← HXX.out] | rw [← HX2.out] | rw [← HX3.out] | (go_at_call 53; refine (scr_insert_end x.f1 X2.heap.size 1 HS3.out (by omega) hesl HV.out).mono ?_; rintro e w4 ⟨v4, rfl, hs4, hb4⟩; have HS4 := Lib.hid hs4; have HB4 := Lib.hid (HB3.out.trans hb4); clear hs4 hb4))
       exact ⟨⟨i + 1, _, a, Aa, ca, by simp, rfl, ci, by simp; omega, hal, HCA, HA, HS4, Lib.hid (by rw [HPC.out]; exact HN.out), HB4⟩, by simp [intOf]; omega⟩
      ·rw [List.concat_eq_append] at h0
       have hS' := HS.out
       rw [h0] at hS'
       obtain ⟨g, cap, hv', hgB, hgl, hblk, e0c, _, _, _, _⟩ := hS'.last
       have hl0 : es.length = es0.length + 1 := by rw [h0]; simp
       obtain ⟨rfl, hcap⟩ : Ao = some ⟨g, 0, none⟩ ∧ co = cap := by
        injection hv' with h1 h2 h3
        exact ⟨h1, h3⟩
       have hgX : g < X.heap.size := Nat.lt_of_lt_of_le hgl HBX1.out.size
       have e1 : X2.cell? ⟨g, es0.length * 3, none⟩ = some (.int .i64 e0.op) := by
        refine (World.cell?_of_block (w := wr) ?_).trans e0c
        have h1 : X2.heap[g]? = X.heap[g]? := by rw [HX2.out]; exact (World.grownBy_alloc X _ none).block g hgX (by simp)
        exact h1.trans (HBX1.out.block g hgl)
       have s1 : IntKind.i64.wrap ((es.length : Int) - 1) = (es0.length : Int) := by rw [i64_w, hl0]; rw [iw64 (by omega) (by omega)]; omega
       have s1' : wrap64 ((es.length : Int) - 1) = (es0.length : Int) := by rw [hl0]; rw [iw64 (by omega) (by omega)]; omega
       have jh2 : (0 ≤ (es0.length : Int)) = True := eq_true (by omega)
       have jh3 : ((es0.length : Int) < (es.length : Int)) = True := eq_true (by omega)
       have cn1 : decide (0 < es.length) = true := decide_eq_true (by omega)
       have cn2 : decide ((0 : Int) < (es.length : Int)) = true := decide_eq_true (by omega)
       have HES := Lib.hid h0
       have hesl : es.length ≤ 1000000000 := by omega
       have hesl0 : es0.length ≤ 100000000 := by omega
       by_cases k3 : e0.op = 3
       ·have kb3 : (e0.op == 3) = true := beq_iff_eq.2 k3
        have HPC := Lib.hid (show (es0 ++ [(⟨2, x.f1, .slice none 0 0, []⟩ : Ed)] ++ [e0]).map Ed.plain = putCut (es.map Ed.plain) ⟨2, x.f1, []⟩ by
         rw [h0, List.map_append (l₁ := es0), List.map_singleton, putCut_snoc, if_pos (show (Ed.plain e0).f0 = 3 from k3)]
         simp [Ed.plain])
        have HS4 := Lib.hid (show Scr w.heap.size X3 (.slice (some ⟨g, 0, none⟩) es.length co) (es0 ++ [e0]) by rw [← h0]; exact HS3.out)
        have HNV := Lib.hid (show (Value.slice (some ⟨g, 0, none⟩) es.length co).ownBlock ≠ some X2.heap.size by simp [Value.ownBlock]; omega)
        clear h0 hl0 hS' hv' hblk e0c hcap k3 hgX hgl hgB
        go_wp2_with (first | rw [← HXX.out] | rw [← HX2.out] | rw [← HX3.out] | (go_at_call 53; refine (scr_insert_last x.f1 X2.heap.size 1 HS4.out (by omega) hesl0 HV.out HNV.out).mono ?_; rintro e w4 ⟨v4, rfl, hs4, hb4⟩; have HS5 := Lib.hid hs4; have HB4 := Lib.hid (HB3.out.trans hb4); clear hs4 hb4))
        exact ⟨⟨i + 1, _, a, Aa, ca, by simp, rfl, ci, by have := congrArg List.length HES.out; simp at this ⊢; omega, hal, HCA, HA, HS5, Lib.hid (by rw [HPC.out]; exact HN.out), HB4⟩, by simp [intOf]; omega⟩
       ·have kb3 : (e0.op == 3) = false := beq_eq_false_iff_ne.2 k3
        have HPC := Lib.hid (show (es ++ [(⟨2, x.f1, .slice none 0 0, []⟩ : Ed)]).map Ed.plain = putCut (es.map Ed.plain) ⟨2, x.f1, []⟩ by
         rw [h0, List.map_append (l₁ := es0), List.map_singleton, putCut_snoc, if_neg (show ¬ (Ed.plain e0).f0 = 3 from k3)]
         simp [Ed.plain])
        clear h0 hl0 hS' hv' hblk e0c hcap k3 hgX hgl hgB
        go_wp2_with (first | rw [← HXX.out] | rw [← HX2.out] | rw [← HX3.out] | (go_at_call 53; refine (scr_insert_end x.f1 X2.heap.size 1 HS3.out (by omega) hesl HV.out).mono ?_; rintro e w4 ⟨v4, rfl, hs4, hb4⟩; have HS4 := Lib.hid hs4; have HB4 := Lib.hid (HB3.out.trans hb4); clear hs4 hb4))
        exact ⟨⟨i + 1, _, a, Aa, ca, by simp, rfl, ci, by simp; omega, hal, HCA, HA, HS4, Lib.hid (by rw [HPC.out]; exact HN.out), HB4⟩, by simp [intOf]; omega⟩
   ·have cb : decide ((i : Int) < (l0.length : Int)) = false := decide_eq_false (by omega)
    have cb' : decide (i < l0.length) = false := decide_eq_false ci
    obtain rfl : i = l0.length := by omega
    have HL' := HL.out
    rw [List.drop_length] at HL'
    have HP := Lib.hid (Option.some.inj HL')
    clear HL' HL
    go_wp2
    go_ret2
    exact ⟨_, es, rfl, HS.out, HP.out, HB.out⟩
 ·have kb : (t != 0) = true := bne_iff_ne.2 h0
  rw [if_neg h0] at hf
  obtain rfl := Option.some.inj hf
  clear hf h0
  go_enter Try.func28, Try.ntmps28
  go_wp2_with (first | (go_at_call 51; refine CF.out.mono ?_; rintro e w1 ⟨rfl, hb1⟩; have HB1 := Lib.hid hb1; clear hb1))
  go_ret2
  exact ⟨_, [], rfl, Scr.nil _ _, rfl, HB1.out⟩
theorem script_Invert.calls (k : Nat) (A0 : Option Addr) (c0 : Nat) (l0 : List S31) (A1 : Option Addr) (c1 : Nat) (l1 : List ByteArray) (r1 : List S31) (r2 : Int) (w : World) (hr0 : Kd.C k31 w A0 l0.length l0) (hc0 : l0.length ≤ c0) (hr1 : Kd.C Kd.string w A1 l1.length l1) (hc1 : l1.length ≤ c1) (h : script_Invert.f k l0 l1 = some (r1, r2)) :
  Calls Try.prog 28 #[.slice A0 l0.length c0, .slice A1 l1.length c1] w fun e w' => ∃ v0_ : Value, e = .returned (.tuple #[v0_, .int .i64 r2]) ∧ Kd.S k31 31 w' w.heap.size (fun _ => True) v0_ r1 ∧ Below w.heap.size w w' := by
 refine (invert_run k A0 c0 l0 A1 c1 l1 (r1, r2) w hr0 hc0 hr1 hc1 h).mono ?_
 rintro e w' ⟨v, es, he, hk, hp, hb⟩
 exact ⟨v, he, by have := hk.toS; rw [hp] at this; exact this, hb⟩
end Go.Proofs.Ytgobidmfbjmpkaa.P
