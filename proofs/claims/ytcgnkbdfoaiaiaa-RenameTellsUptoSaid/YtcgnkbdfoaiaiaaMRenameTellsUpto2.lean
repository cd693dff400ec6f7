/- Texts of this claim, joined: EIter, ERows, ESplitC, HSet, EFiles, HMap, ECommon, Pxf16, EPairs, HeldI, EApartH, Pxf43, Pxf52, Pxf42, Pxf24, Pxf55, HStr, Pxf41, QRef, ESortP, Pxf30. -/
import Derived.Test.YtcgnkbdfoaiaiaaMRenameTellsUpto1
import Derived.Test.YtcgnkbdfoaiaiaaProg
import Derived.RangeFuncCalls
import Derived.RangeFuncLeaves
import Derived.Shelf.Abstract
import Derived.Shelf.RegionOpen
import Derived.WalkKit
import Derived.OwnWalkIn
import Derived.TacticsInMore
import Derived.LoopNIn
import Derived.LoopIn
import Derived.Maps.AppendAt
import Derived.RangeFuncBox
import Derived.IntWalk
import Derived.Lib.Hide
import Derived.Outline
import Derived.Maps.OwnSet
import Derived.Maps.OwnOps
import Derived.Maps.Views
import Derived.Below
import Derived.WalkMore
import Derived.Test.YtcgnkbdfoaiaiaaWMore
import Derived.Laws.Cover1
import Derived.Deep.Slices
section
/- rows.lines: an iterator that keeps what is left of a text in a variable of its own: its promise. -/
set_option linter.unusedVariables false
set_option linter.unusedSimpArgs false
namespace Go.Proofs.Ytcgnkbdfoaiaiaa.Iter
open Go Go.RowKit Go.Shelf Go.Proofs.Ytcgnkbdfoaiaiaa.Rng Go.Proofs.Ytcgnkbdfoaiaiaa.Q
attribute [local go_sem] Oper.semAt_some
set_option maxHeartbeats 1000000 in
theorem lines_in (F : Fence) (n : Nat) (hF : F.fn 46) (hro : F.round = none) (s : ByteArray) (w : World) :
    CallsIn F n Try.prog 46 #[.string s] w fun e w' => e = .returned (.func (.func 57) #[] #[.pointer (some ⟨w.heap.size, 0, none⟩)]) ∧ w' = w.alloc (.cells #[.string s] 9) := by
  refine callsIn_of_wp Try.func46 rfl hF ?_ hro
  simp only [Try.ntmps46, List.size_toArray, List.length_cons, List.length_nil, Nat.reduceAdd, Nat.reduceSub, Array.replicate_succ, Array.replicate_zero, List.push_toArray, List.append_toArray, List.nil_append, List.cons_append]
  gi_wp2
  go_ret
  exact ⟨rfl, rfl⟩
/-- What is left, read off the world. -/
def left (Bs : Nat) (W : World) : Nat := match W.cell? ⟨Bs, 0, none⟩ with
  | some (.string r) => r.size
  | _ => 0
theorem left_eq {W : World} {Bs : Nat} {t : TypeId} {r : ByteArray} (h : Boxed W Bs t (.string r)) : left Bs W = r.size := by
  unfold left
  rw [h.cell]
set_option maxRecDepth 100000 in
set_option maxHeartbeats 2000000 in
theorem lines1_seq (F : Fence) (n : Nat) (hF : F.fn 57) (hI : F.fn 58) (hro : F.round = none) (hn : 1 ≤ n) (hix : ∀ (x : ByteArray) (w : World), CallsIn F (n - 1) Try.prog 58 #[.string x, .string ⟨#[10]⟩] w fun e w' => e = .returned (.int .i64 (Lib.indexByte x.data.toList 10)) ∧ w' = w) (Bs : Nat) (s : ByteArray) (hs : s.size ≤ 9223372036854775807) (w : World) (hb : Boxed w Bs 9 (.string s)) :
    Rng.Seq F n Try.prog 57 #[.pointer (some ⟨Bs, 0, none⟩)] (fun x : ByteArray => #[Value.string x]) (fun _ => Bs) (fun _ W W' => W'.heap[Bs]? = W.heap[Bs]?) (lines s) w := by
  intro l J Jx W hW hJ hJx hY h0
  have hbW : Boxed W Bs 9 (.string s) := (hW.block Bs hb.lt).trans hb
  refine callsIn_of_wp Try.func57 rfl hF ?_ hro
  simp only [Try.ntmps57, List.size_toArray, List.length_cons, List.length_nil, Nat.reduceAdd, Nat.reduceSub, Array.replicate_succ, Array.replicate_zero, List.push_toArray, List.append_toArray, List.nil_append, List.cons_append]
  gi_wp2
  gi_loopw [3] (fun _ wr => ∃ (pre : List ByteArray) (rest : ByteArray), lines s = pre ++ lines rest ∧ rest.size ≤ s.size ∧ Boxed wr Bs 9 (.string rest) ∧ J pre wr) (fun _ wr => left Bs wr)
  case atStart => exact ⟨[], s, rfl, Nat.le_refl _, hbW, h0⟩
  case round =>
    obtain ⟨pre, rest, hall, hle, hbr, hJr⟩ := hrel
    have hc := hbr.cell
    by_cases he : rest.data.toList = []
    · have h1 : rest.toList = [] := by rw [ByteArray.toList_eq]; exact he
      have h2 : (!rest.toList.isEmpty) = false := by rw [h1]; rfl
      gi_wp2
      go_end0
      rw [lines_empty _ he, List.append_nil] at hall
      exact ⟨⟨_, rfl⟩, .inl (by rw [hall]; exact hJr)⟩
    · have h1 : rest.toList.isEmpty = false := by rw [ByteArray.toList_eq]; simpa using he
      obtain ⟨hst, h2, h3⟩ := lines_step rest he
      have hge := Lib.indexByte_ge rest.data.toList 10
      have ct := hix rest wr
      obtain ⟨k, hk⟩ : ∃ k, k = firstLen rest.data.toList := ⟨_, rfl⟩
      have hk' := hk
      unfold firstLen at hk'
      rw [← hk] at h2 h3 hst
      obtain ⟨ix, hx⟩ : ∃ ix, ix = Lib.indexByte rest.data.toList 10 := ⟨_, rfl⟩
      rw [← hx] at hge ct hk'
      have hall' : lines s = pre ++ rest.extract 0 k :: lines (rest.extract k rest.size) := by rw [hall, hst]
      obtain ⟨fn, tmps, assign, body, hy, hR⟩ := hY pre _ _ wr hall' hJr
      have hl4 : rest.data.toList.length = rest.size := rfl
      have HS := Lib.hid hst
      have HX := Lib.hid hx
      have H1 := Lib.hid h1
      have HL := Lib.hid hall
      have HK2 := Lib.hid hk
      have HB := Lib.hid hbr
      by_cases h4 : ix = -1
      · rw [if_pos h4, hl4] at hk'
        have e1 : rest.extract 0 k = rest := by rw [hk']; simp
        rw [e1] at hall' hy hR
        have HK := Lib.hid hk'
        have HA := Lib.hid hall'
        clear hk' hall' hst hx hall hk hl4 e1 hbr
        subst h4
        gi_wp2_with (gi_at_call 58; refine ct.mono ?_; rintro e w' ⟨rfl, rfl⟩)
        refine hR.mono ?_
        rintro e W3 (⟨rfl, hJ3, hk3⟩ | ⟨rfl, hJx3⟩)
        · have hb3 : Boxed W3 Bs 9 (.string rest) := hk3.trans HB.out
          have hc3 := hb3.cell
          have hf3 := hb3.frozen
          gi_wp2
          have hl1 : lines ByteArray.empty = [] := rfl
          have hE : rest.extract k rest.size = ByteArray.empty := by rw [HK.out]; simp
          have HA2 := HA.out
          rw [hE] at HA2
          refine ⟨⟨pre ++ [rest], ByteArray.empty, by rw [HA2]; simp, Nat.zero_le _, hb3.set _, hJ _ _ _ (some Bs) hJ3 (grownBy_setCell' W3 Bs _) (fun r e => by cases e; rfl)⟩, ?_⟩
          rw [left_eq (hb3.set _), left_eq HB.out]
          exact Nat.lt_of_lt_of_le h2 h3
        · gi_wp2
          refine bodyPost_ret (results_none rfl _ _ _) rfl ?_
          exact ⟨⟨_, rfl⟩, .inr ⟨pre ++ [rest], ⟨lines (rest.extract k rest.size), by rw [HA.out]; simp⟩, hJx3⟩⟩
      · have hix0 : 0 ≤ ix := by omega
        rw [if_neg h4] at hk'
        obtain ⟨j, rfl⟩ := Int.eq_ofNat_of_zero_le hix0
        have hkj : k = j + 1 := by omega
        subst hkj
        have HA := Lib.hid hall'
        clear hk' hall' hst hx hall hk hl4 hbr
        gi_wp2_with (gi_at_call 58; refine ct.mono ?_; rintro e w' ⟨rfl, rfl⟩)
        refine hR.mono ?_
        rintro e W3 (⟨rfl, hJ3, hk3⟩ | ⟨rfl, hJx3⟩)
        · have hb3 : Boxed W3 Bs 9 (.string rest) := hk3.trans HB.out
          have hc3 := hb3.cell
          have hf3 := hb3.frozen
          gi_wp2
          refine ⟨⟨pre ++ [rest.extract 0 (j + 1)], rest.extract (j + 1) rest.size, by rw [HA.out]; simp, ?_, hb3.set _, hJ _ _ _ (some Bs) hJ3 (grownBy_setCell' W3 Bs _) (fun r e => by cases e; rfl)⟩, ?_⟩
          · rw [ByteArray.size_extract]; omega
          · rw [left_eq (hb3.set _), left_eq HB.out, ByteArray.size_extract]
            omega
        · gi_wp2
          refine bodyPost_ret (results_none rfl _ _ _) rfl ?_
          exact ⟨⟨_, rfl⟩, .inr ⟨pre ++ [rest.extract 0 (j + 1)], ⟨lines (rest.extract (j + 1) rest.size), by rw [HA.out]; simp⟩, hJx3⟩⟩
end Go.Proofs.Ytcgnkbdfoaiaiaa.Iter
end
section
/- rows.Split: by the iterator's promise. -/
set_option linter.unusedVariables false
set_option linter.unusedSimpArgs false
namespace Go.Proofs.Ytcgnkbdfoaiaiaa.Iter
open Go Go.RowKit Go.Shelf Go.Proofs.Ytcgnkbdfoaiaiaa.Rng Go.Proofs.Ytcgnkbdfoaiaiaa.Q
attribute [local go_sem] Oper.semAt_some
theorem info_str : (Try.prog.info? 9).map (fun i => (i.zero, i.size, i.bytes)) = some (some (.string ByteArray.empty), 1, 16) := by kernel_rfl
theorem index_in (F : Fence) (hw : F = Fence.wide) (n : Nat) (x : ByteArray) (w : World) : CallsIn F n Try.prog 58 #[.string x, .string ⟨#[10]⟩] w fun e w' => e = .returned (.int .i64 (Lib.indexByte x.data.toList 10)) ∧ w' = w := by
  subst hw
  exact callsIn_wide.2 (Try.strings_Index_one x 10 w)
theorem kp_t (Bs : Nat) {X Y Z : World} (h : Y.heap[Bs]? = X.heap[Bs]?) (k : Z.heap[Bs]? = Y.heap[Bs]?) : Z.heap[Bs]? = X.heap[Bs]? := k.trans h
set_option maxRecDepth 100000 in
set_option maxHeartbeats 2000000 in
theorem split_run (s : ByteArray) (hs : s.size ≤ 4294967296) (w : World) :
    Calls Try.prog 31 #[.string s] w fun e w' => ∃ v, e = .returned v ∧ w'.ownsRow w.heap.size 9 1 v (lines s).length ((lines s).map Value.string) ∧ Below w.heap.size w w' := by
  obtain ⟨i0, hi, hz0, hz1, hz2⟩ := info_parts info_str
  have hll := lines_length_le s
  refine (callsIn_wide (n := 9)).1 ?_
  refine callsIn_of_wp_marks Try.func31 rfl trivial ?_ rfl
  simp only [Try.ntmps31, List.size_toArray, List.length_cons, List.length_nil, Nat.reduceAdd, Nat.reduceSub, Array.replicate_succ, Array.replicate_zero, List.push_toArray, List.append_toArray, List.nil_append, List.cons_append]
  gi_wp2_with (refine ⟨trivial, ?_⟩; gi_at_call 46; refine (lines_in Fence.wide _ trivial rfl _ _).mono ?_; rintro e w' ⟨rfl, rfl⟩)
  have bO := (Boxed.new w 44 (.slice none 0 0)).alloc (.cells #[.string s] 9)
  have bS := Boxed.new (w.alloc (.cells #[.slice none 0 0] 44)) 9 (.string s)
  rw [World.size_alloc] at bS
  have hB0 : Below w.heap.size w ((w.alloc (.cells #[.slice none 0 0] 44)).alloc (.cells #[.string s] 9)) := ((Below.refl _ w).alloc (Nat.le_refl _) _).alloc (by simp) _
  obtain ⟨W0, hW0⟩ : ∃ W0, (w.alloc (.cells #[.slice none 0 0] 44)).alloc (.cells #[.string s] 9) = W0 := ⟨_, rfl⟩
  have hz : W0.heap.size = w.heap.size + 2 := by rw [← hW0]; simp
  rw [hW0] at bO bS hB0 ⊢
  refine Rng.range (gf := 57) (lb := #[.pointer (some ⟨w.heap.size + 1, 0, none⟩)]) rfl (by decide) rfl trivial (enters_of Try.func57 (by kernel_rfl) rfl)
    (lines1_seq Fence.wide _ trivial trivial rfl (by decide) (index_in _ rfl _) (w.heap.size + 1) s (by omega) W0 bS) (Below.refl _ _) (fun _ => rfl) ⟨by simp only [hz]; omega, by rw [hz]; omega⟩
    (fun h k => kp_t _ h k) (fun W l o' hl _ => World.putObj_heap_other (by rw [hz] at hl; omega))
    (fun pre W => (∃ v, Boxed W w.heap.size 44 v ∧ W.ownsRow (w.heap.size + 2) 9 1 v pre.length (pre.map Value.string)) ∧ Below w.heap.size w W ∧ w.heap.size + 2 ≤ W.heap.size)
    (fun _ _ _ => False) ?bides (fun _ _ _ _ _ h _ _ => h) ⟨⟨_, bO, World.ownsRow_nil _ _ _ _⟩, hB0, by omega⟩
    (fun x a' _ => a' = { tmps := #[.string s, undef, .pointer (some ⟨w.heap.size, 0, none⟩), .string x, .string s, .func (.func 57) #[] #[.pointer (some ⟨w.heap.size + 1, 0, none⟩)], .string x, undef, undef, undef, undef, undef], defers := [] })
    (fun _ _ _ _ _ _ h _ _ => h) ?assign ?body ?done ?stop
  case bides =>
    rintro pre X Y row ⟨⟨v, hv, hr⟩, hB, hsz⟩ hg hrow
    rw [hz] at hrow
    refine ⟨⟨v, hv.kept hg (fun e => ?_), hr.kept hg ?_⟩, hB.grown hg (by omega) (fun k e => ?_), Nat.le_trans hsz hg.size⟩
    · rcases hrow _ e.symm with h | h
      · omega
      · omega
    · rcases hr.2 with ⟨rfl, _⟩ | ⟨g, cap, cur, rfl, hgb, hh, _⟩
      · exact .inl rfl
      · refine .inr fun e => ?_
        rcases hrow g (by simpa [Value.ownBlock] using e.symm) with h | ⟨_, o, ho, hc⟩
        · omega
        · rw [hh] at ho; cases ho; cases hc
    · rcases hrow k e with h | h
      · omega
      · omega
  case assign =>
    intro l pre x post W K _ hi hK
    gi_wp2
    exact hK _ _ (KeepsFrom.refl _ _) rfl hi rfl
  case body =>
    rintro l pre x post a' W hl hlr hlt hall ⟨⟨v, hv, hrow⟩, hB, hsz⟩ rfl
    have hc := hv.cell
    have hpl : pre.length + 1 ≤ (lines s).length := by rw [hall]; simp
    have HALL := Lib.hid hall
    clear hall
    gi_wp2_with (gi_at_builtin; refine wpListIn_append_own _ rfl _ _ 44 rfl (w.heap.size + 2) 9 i0 (.string ByteArray.empty) 1 16 Try.underlying44 hi hz0 hz1 hz2 rfl (by decide) _ _ _ rfl (hrow.alloc _) ⟨W.heap.size, 0, none⟩ 1 1 [.string x] rfl rfl (cell_one_new _ _ _) (by simp [Value.oneCell']) (by unfold maxLen; omega) (by omega) (by simp; omega) ?_; intro v' w1 hown' hgrow _; obtain ⟨g', cap', rfl⟩ := ownsRow_succ hown'; obtain ⟨hv1, hv2, hr2, hk2, hb2⟩ := hv.appended (n₀ := w.heap.size) (by decide) ⟨hrow.1, hrow.2.imp id fun ⟨g, a, b, h1, h2, h3⟩ => ⟨g, a, b, h1, by omega, h3⟩⟩ (by omega) (Nat.le_refl _) ⟨hown'.1, hown'.2.imp id fun ⟨g, a, b, h1, h2, h3⟩ => ⟨g, a, b, h1, by omega, h3⟩⟩ hgrow; have hc1 := hv1.cell; have hf1 := hv1.frozen)
    have hgB : ∀ k, v.ownBlock = some k → w.heap.size + 2 ≤ k := fun k e => by
      rcases hrow.2 with ⟨rfl, _⟩ | ⟨g, cap, cur, rfl, h1, _⟩
      · simp [Value.ownBlock] at e
      · obtain rfl : g = k := by simpa [Value.ownBlock] using e
        exact h1
    have hown2 := hown'.kept (grownBy_setCell' w1 w.heap.size (.slice (some ⟨g', 0, none⟩) (pre.length + 1) cap')) (.inr (hv1.not_row (by decide) hown').symm)
    refine ⟨hk2.from _, ?_, ⟨_, hv2, by simpa using hown2⟩, hB.trans hb2, Nat.le_trans hsz hb2.size⟩
    refine (Below.heap_setCell w1 _ _ _ (by simp)).trans ((hgrow.block _ (by simp; omega) (fun e => by have := hgB _ e.symm; omega)).trans (Below.heap_alloc W _ _ (by omega)))
  case done =>
    rintro W ⟨⟨v, hv, hrow⟩, hB, hsz⟩ hK
    obtain ⟨A, m, c, rfl⟩ : ∃ A m c, v = .slice A m c := by
      rcases hrow.2 with ⟨rfl, _⟩ | ⟨g, cap, cur, rfl, _⟩
      · exact ⟨_, _, _, rfl⟩
      · exact ⟨_, _, _, rfl⟩
    have hc := hv.cell
    have hf := hv.frozen
    gi_wp2
    have hv1 := hv.set (.slice A m c)
    have hK1 : (W.setCell ⟨w.heap.size, 0, none⟩ (.slice A m c)).heap[W0.heap.size]? = some (.deferred (some [])) := (Below.heap_setCell W _ _ _ (by simp; omega)).trans hK
    have hrow1 := hrow.kept (grownBy_setCell' W w.heap.size (.slice A m c)) (.inr (hv.not_row (by decide) hrow).symm)
    have hv2 := hv1.kept (grownBy_putObj' _ W0.heap.size (.deferred none)) (by simp; omega)
    have hcell := hv2.cell
    have hB1 := hB.setCell (p := ⟨w.heap.size, 0, none⟩) (Nat.le_refl _) (.slice A m c)
    refine ⟨by simp, .inl ⟨_, _, rfl, run_takeDeferred hK1, ?_⟩⟩
    refine ⟨.slice A m c, by simp [results, Try.results31, go_sem, hcell], _, rfl, ownsRow_putObj (⟨hrow1.1, hrow1.2.imp id fun ⟨g, a, b, h1, h2, h3⟩ => ⟨g, a, b, h1, by omega, h3⟩⟩) _ hK1 rfl, hB1.grown (grownBy_putObj' _ _ _) hB1.size (fun k e => by cases e; omega)⟩
  case stop =>
    rintro c pre W _ h _
    exact h.elim
end Go.Proofs.Ytcgnkbdfoaiaiaa.Iter
end
section
/- rows.Split: its contract, as the print asks for it. -/
set_option linter.unusedVariables false
set_option linter.unusedSimpArgs false
namespace Go.Proofs.Ytcgnkbdfoaiaiaa.P
open Go Go.RowKit Go.Shelf Go.Proofs.YtcgnkbdfoaiaiaaW.PrintWords Go.Proofs.YtcgnkbdfoaiaiaaW.PrintLast Go.Proofs.YtcgnkbdfoaiaiaaW.PrintMore Go.Proofs.Ytcgnkbdfoaiaiaa.Rng Go.Proofs.Ytcgnkbdfoaiaiaa.Q Go.Proofs.Ytcgnkbdfoaiaiaa.Iter
def rows_Split.f (s : ByteArray) : Option (List ByteArray) := if s.size ≤ 4294967296 then some (Q.lines s) else none
theorem rows_Split.calls (a0 : ByteArray) (r : List ByteArray) (w : World) (h : rows_Split.f a0 = some r) :
    Calls Try.prog 31 #[.string a0] w fun e w' => ∃ v0_ : Value, e = .returned (v0_) ∧ Kd.R Kd.string 9 w' w.heap.size (fun _ => True) v0_ r ∧ Below w.heap.size w w' := by
  unfold rows_Split.f at h
  split at h
  · rename_i hh
    obtain rfl := Option.some.inj h
    refine (split_run a0 hh w).mono ?_
    rintro e w' ⟨v, rfl, hown, hb⟩
    exact ⟨v, rfl, Kd.R_of_own (h1 := fun _ => rfl) (ok := fun _ => True) hown (fun _ _ => trivial), hb⟩
  · cases h
end Go.Proofs.Ytcgnkbdfoaiaiaa.P
end
section
/- Words of this session: a set of texts that a call makes (a map from texts to bools), told by the list of those laid in. -/
set_option linter.unusedVariables false
set_option linter.unusedSimpArgs false
namespace Go.Proofs.Ytcgnkbdfoaiaiaa.HSet
open Go Go.RowKit Go.Maps Go.WideMaps
/-- Block b is a set of texts, at most n times written, that holds those of S. -/
def Has (P : Program) (k e : TypeId) (w : World) (b n : Nat) (S : List ByteArray) : Prop :=
  ∃ D : DataW Unit, w.ownsMap P k (plainElem P e) b n D ∧ IsMap D ∧ ∀ s : ByteArray, s.size ≤ maxLen → D.atKey (.string s.data.toList) (.lit (.bool false)) = .lit (.bool (decide (s ∈ S)))
section
variable {P : Program} {k e t : TypeId} {w w' : World} {b n : Nat} {S : List ByteArray}
theorem isKeyLit_string (l : List UInt8) : WideAt.IsKeyLit (.string l) := by trivial
theorem string_lit_ne {s s' : ByteArray} (h : s ≠ s') : (Lit.string s'.data.toList) ≠ (Lit.string s.data.toList) := by
  intro hl
  injection hl with hl
  apply h
  cases s with | mk a => cases s' with | mk a' =>
  congr 1
  exact (Array.toList_inj.1 hl).symm
theorem Has.made (w : World) (P : Program) (k e : TypeId) : Has P k e (w.alloc (.map #[] 0)) w.heap.size 0 [] :=
  ⟨.map [], World.ownsMap_made _ _ _ _, isMap_empty, fun s _ => rfl⟩
theorem Has.mono {n' : Nat} (h : Has P k e w b n S) (hn : n ≤ n') : Has P k e w b n' S := by
  obtain ⟨D, h1, h2⟩ := h
  exact ⟨D, h1.mono hn, h2⟩
theorem Has.lt (h : Has P k e w b n S) : b < w.heap.size := by
  obtain ⟨D, h1, _⟩ := h
  exact h1.lt
theorem Has.grown {row : Option Nat} (h : Has P k e w b n S) (hg : w.grownBy w' row) (hne : some b ≠ row) : Has P k e w' b n S := by
  obtain ⟨D, h1, h2⟩ := h
  exact ⟨D, h1.kept hg hne, h2⟩
theorem Has.block (h : Has P k e w b n S) (hb : w'.heap[b]? = w.heap[b]?) : Has P k e w' b n S := by
  obtain ⟨D, ⟨es, clock, h1, h3⟩, h2⟩ := h
  exact ⟨D, ⟨es, clock, hb.trans h1, h3⟩, h2⟩
theorem Has.below (h : Has P k e w b n S) (hb : Below w.heap.size w w') : Has P k e w' b n S := h.block (hb.block b h.lt)
theorem plainElem_bool_inv {H : Type} (he : P.underlying e = some .bool) {v : Value} {z : DataW H × List MemPlace} (h : plainElem P e v = some z) : ∃ x, v = .bool x ∧ z = (.lit (.bool x), []) := by
  unfold plainElem at h
  rw [he] at h
  cases v <;> simp at h
  exact ⟨_, rfl, h.symm⟩
/-- 'm[s]': its run. -/
theorem Has.look (h : Has P k e w b n S) (hk : P.underlying k = some .string) (ht : P.underlying t = some (.map k e)) (he : P.underlying e = some .bool) (hz : (zeroValue e).run P w = .ok (.bool false) w) {s : ByteArray} (hs : s.size ≤ maxLen) :
    (Instr.lookup t (.map (some b)) (.string s) false).run P w = .ok (.bool (decide (s ∈ S))) w := by
  obtain ⟨D, h1, h2, h3⟩ := h
  obtain ⟨v, ps, hrun, hv⟩ := h1.lookup (string_keyed hk) ht hz (plainElem_bool he false) (keyOf_string_mk hk hs)
  obtain ⟨x, rfl, hx⟩ := plainElem_bool_inv he hv
  rw [h3 s hs] at hx
  simp only [Prod.mk.injEq] at hx
  injection hx.1 with hx
  injection hx with hx
  rw [hrun, hx]
/-- 'm[s] = true': its run. -/
theorem Has.put (h : Has P k e w b n S) (hk : P.underlying k = some .string) (ht : P.underlying t = some (.map k e)) (he : P.underlying e = some .bool) (hn : n < maxLen) {s : ByteArray} (hs : s.size ≤ maxLen) :
    ∃ w', (Instr.mapUpdate t (.map (some b)) (.string s) (.bool true)).run P w = .ok () w' ∧ Has P k e w' b (n + 1) (s :: S) ∧ w.grownBy w' (some b) := by
  obtain ⟨D, h1, h2, h3⟩ := h
  obtain ⟨w', hrun, hown, hgr⟩ := h1.update (string_keyed hk) ht hn (keyOf_string_mk hk hs) (plainElem_bool he true)
  refine ⟨w', hrun, ⟨_, hown, h2.put _ _, fun s' hs' => ?_⟩, hgr⟩
  by_cases heq : s' = s
  · subst heq
    rw [atKey_put_same h2 (isKeyLit_string _) _ _]
    simp
  · rw [atKey_put_other (string_lit_ne (fun h => heq h.symm)), h3 s' hs']
    simp [heq]
variable {ops : Array Oper} {rest : List Oper} {o : Oper} {a : Act} {Q : Exit → Act → World → Prop}
/-- 'm[s] = true' at the operation. -/
theorem wp_set_update (hg : o.guard = none) (m x v : Operand) (t : TypeId) (hop : o.op = Op.mapUpdate t m x v)
    (hk : P.underlying k = some .string) (ht : P.underlying t = some (.map k e)) (he : P.underlying e = some .bool) (b n : Nat) (S : List ByteArray)
    (hm : a.eval m = .map (some b)) (h : Has P k e w b n S) (hn : n < maxLen) (s : ByteArray) (hs : s.size ≤ maxLen) (hx : a.eval x = .string s) (hv : a.eval v = .bool true)
    (hK : ∀ w', Has P k e w' b (n + 1) (s :: S) → w.grownBy w' (some b) → wpList P ops Q rest (a.put o.dst undef) w') : wpList P ops Q (o :: rest) a w := by
  refine wpList_plain hg fun K' hK' => ?_
  obtain ⟨w', hrun, r1, r2⟩ := h.put hk ht he hn hs
  unfold Oper.wp
  simp [execOp, hop, hm, hx, hv, hrun, Result.andThen]
  exact hK' _ _ (hK w' r1 r2)
end
end Go.Proofs.Ytcgnkbdfoaiaiaa.HSet
end
section
/- rename.files: its contract; by a walk of its text. -/
set_option linter.unusedVariables false
set_option linter.unusedSimpArgs false
namespace Go.Proofs.Ytcgnkbdfoaiaiaa.P
open Go Go.RowKit Go.Proofs.YtcgnkbdfoaiaiaaW.PrintWords Go.Proofs.YtcgnkbdfoaiaiaaW.PrintLast Go.Proofs.YtcgnkbdfoaiaiaaW.PrintMore Go.Proofs.Ytcgnkbdfoaiaiaa.HSet
structure Fe where
  p : ByteArray
  v : Value
  l : List ByteArray
def Fe.cells (e : Fe) : List Value := [.string e.p, e.v]
def Fe.plain (e : Fe) : ByteArray × List ByteArray := (e.p, e.l)
def fflat (es : List Fe) : List Value := es.flatMap Fe.cells
theorem fflat_length (es : List Fe) : (fflat es).length = es.length * 2 := by
  induction es with
  | nil => rfl
  | cons e es ih => simp only [fflat, List.flatMap_cons, List.length_append, List.length_cons] at ih ⊢; rw [ih]; simp [Fe.cells]; omega
theorem fflat_snoc (es : List Fe) (e : Fe) : fflat (es ++ [e]) = fflat es ++ e.cells := by simp [fflat]
/-- v is the files es, from base on. -/
def Fls (base : Nat) (w : World) (v : Value) (es : List Fe) : Prop :=
  w.ownsRow base 46 2 v es.length (fflat es) ∧ ∀ e ∈ es, w.ownsRow base 9 1 e.v e.l.length (encs Value.string e.l)
theorem Fls.nil (base : Nat) (w : World) : Fls base w (.slice none 0 0) [] := ⟨own_nil _ _ _ _, by simp⟩
theorem Fls.below {base : Nat} {w w' : World} {v : Value} {es : List Fe} (h : Fls base w v es) (hb : Below w.heap.size w w') : Fls base w' v es := ⟨pw_own_below h.1 hb, fun e he => pw_own_below (h.2 e he) hb⟩
theorem Fls.drewN {base : Nat} {w : World} {v : Value} {es : List Fe} (h : Fls base w v es) (m : Nat) : Fls base (w.drewN m) v es := h
theorem own_not_map {base e size n : Nat} {w : World} {v : Value} {xs : List Value} (h : w.ownsRow base e size v n xs) {b : Nat} {es : Array MapEntry} {c : Nat} (hb : w.heap[b]? = some (.map es c)) : some b ≠ v.ownBlock := by
  rcases h.2 with ⟨rfl, _⟩ | ⟨g, cap, cur, rfl, _, hh, _⟩
  · simp [Value.ownBlock]
  · intro he
    have : b = g := by simpa [Value.ownBlock] using he
    subst this
    rw [hb] at hh
    cases hh
theorem has_ne_own {P : Program} {k e b n : Nat} {w : World} {S : List ByteArray} (h : Has P k e w b n S) {base t size m : Nat} {v : Value} {xs : List Value} (ho : w.ownsRow base t size v m xs) : some b ≠ v.ownBlock := by
  obtain ⟨D, ⟨es, clock, h1, _⟩, _⟩ := h
  exact own_not_map ho h1
theorem Fls.turned {base : Nat} {w w' : World} {v : Value} {es : List Fe} (h : Fls base w v es) {b : Nat} (hg : w.grownBy w' (some b)) (hne : ∀ v' e' s' n' xs', w.ownsRow base e' s' v' n' xs' → some b ≠ v'.ownBlock) : Fls base w' v es :=
  ⟨h.1.kept hg (.inr (fun e => hne _ _ _ _ _ h.1 e.symm)), fun e he => (h.2 e he).kept hg (.inr (fun e' => hne _ _ _ _ _ (h.2 e he) e'.symm))⟩
def stepF (st : List ByteArray × List (ByteArray × List ByteArray)) (x : S33) : List ByteArray × List (ByteArray × List ByteArray) :=
  if x.f1 = 2 ∧ x.f0 ∉ st.1 then (x.f0 :: st.1, st.2 ++ [(x.f0, Q.lines x.f2)]) else st
def filesL (l : List S33) : List (ByteArray × List ByteArray) := (l.foldl stepF ([], [])).2
/-- Items of which one can tell. -/
def ItemsOk (l : List S33) : Prop := l.length ≤ 1000000 ∧ ∀ x ∈ l, x.f0.size ≤ 4294967296 ∧ x.f2.size ≤ 4294967296
instance (l : List S33) : Decidable (ItemsOk l) := by unfold ItemsOk; infer_instance
set_option maxRecDepth 100000 in
set_option maxHeartbeats 4000000 in
theorem files_run (A0 : Option Addr) (c0 : Nat) (l0 : List S33) (w : World) (hr0 : Kd.C k33 w A0 l0.length l0) (hc0 : l0.length ≤ c0) (hok : ItemsOk l0) :
    Calls Try.prog 15 #[.slice A0 l0.length c0] w fun e w' => ∃ v es, e = .returned v ∧ Fls w.heap.size w' v es ∧ es.map Fe.plain = filesL l0 ∧ Below w.heap.size w w' := by
  obtain ⟨hl, hsz⟩ := hok
  have HR0 := Lib.hid hr0
  have HSZ := Lib.hid hsz
  have hmm := @run_makeMap Try.prog
  clear hr0 hsz
  go_enter Try.func15, Try.ntmps15
  go_wp2
  go_loopw [2, 9] (fun v2 v9 wr => ∃ (i : Nat) (es : List Fe) (S : List ByteArray), v9 = .int .i64 (i : Int) ∧ i ≤ l0.length ∧ es.length ≤ i ∧ Hid (Has Try.prog 9 4 wr w.heap.size i S) ∧ Hid (Fls w.heap.size wr v2 es) ∧ Hid ((l0.take i).foldl stepF ([], []) = (S, es.map Fe.plain)) ∧ Hid (Below w.heap.size w wr)) (fun _ v9 _ => l0.length - (intOf v9).toNat)
  case atStart => exact ⟨0, [], [], rfl, Nat.zero_le _, Nat.zero_le _, Has.made _ _ _ _, Fls.nil _ _, rfl, (Below.refl _ _).alloc (Nat.le_refl _) _⟩
  case round =>
    obtain ⟨i, es, S, rfl, hi, hes, HM, HF, HL, HB⟩ := hrel
    by_cases ci : i < l0.length
    · have cb : decide ((i : Int) < (l0.length : Int)) = true := decide_eq_true (by omega)
      have cb' : decide (i < l0.length) = true := decide_eq_true ci
      obtain ⟨ad, rfl, hx0, hx1, hx2, hx3⟩ := at_T33 HR0.out (i : Int) (by omega) (by omega)
      have hE0 : l0[i] = rd_T33 l0 (i : Int) := by simp [rd_T33, List.getD_eq_getElem?_getD, List.getElem?_eq_getElem ci]
      obtain ⟨x, hx⟩ : ∃ x, x = rd_T33 l0 (i : Int) := ⟨_, rfl⟩
      rw [← hx] at hx0 hx1 hx2 hx3 hE0
      have HTK := Lib.hid (show (l0.take (i + 1)).foldl stepF ([], []) = stepF (S, es.map Fe.plain) x by rw [List.take_succ_eq_append_getElem ci, List.foldl_append, HL.out, hE0]; rfl)
      have HXS := Lib.hid (HSZ.out x (by rw [← hE0]; exact List.getElem_mem ci))
      rw [Int.toNat_natCast] at hx0 hx1 hx2 hx3
      have y0 := (HB.out.cell (World.block_lt_of_cell? w _ hx0)).trans hx0
      have y1 := (HB.out.cell (World.block_lt_of_cell? w _ hx1)).trans hx1
      have y2 := (HB.out.cell (World.block_lt_of_cell? w _ hx2)).trans hx2
      have y3 := (HB.out.cell (World.block_lt_of_cell? w _ hx3)).trans hx3
      have p1 := eq_true (show 0 ≤ (i : Int) by omega)
      have q1 := eq_true (show (i : Int) < (l0.length : Int) by omega)
      obtain ⟨Ao, co, rfl⟩ := own_slice HF.out.1
      obtain ⟨X, hX⟩ : ∃ X, X = wr.alloc (.cells #[.string x.f0, .int .i64 x.f1, .string x.f2, .bool x.f3] 33) := ⟨_, rfl⟩
      have qX : X.heap[wr.heap.size]? = some (.cells #[.string x.f0, .int .i64 x.f1, .string x.f2, .bool x.f3] 33 (0, 0)) := by rw [hX]; exact heap_alloc_new wr _
      have bX : Below wr.heap.size wr X := by rw [hX]; exact (Below.refl _ _).alloc (Nat.le_refl _) _
      have z0 : X.cell? ⟨wr.heap.size, 0, none⟩ = some (.string x.f0) := by simp [World.cell?, qX]
      have z1 : X.cell? ⟨wr.heap.size, 1, none⟩ = some (.int .i64 x.f1) := by simp [World.cell?, qX]
      have z2 : X.cell? ⟨wr.heap.size, 2, none⟩ = some (.string x.f2) := by simp [World.cell?, qX]
      have HMX := Lib.hid (HM.out.below bX)
      have HFX := Lib.hid (HF.out.below bX)
      have HBX := Lib.hid (HB.out.trans (bX.mono HB.out.size))
      have HQX := Lib.hid qX
      have HXX := Lib.hid hX
      have HSX := Lib.hid bX.size
      have HLT := Lib.hid HM.out.lt
      clear hx hx0 hx1 hx2 hx3 hE0 hX qX bX
      by_cases k1 : x.f1 = 2
      · have kb1 : (x.f1 == 2) = true := beq_iff_eq.2 k1
        have hlk := HMX.out.look (t := 52) Try.underlying9 Try.underlying52 Try.underlying4 (by kernel_rfl) (s := x.f0) (by have := HXS.out.1; unfold maxLen; omega)
        by_cases k2 : x.f0 ∈ S
        · have hk2 : decide (x.f0 ∈ S) = true := decide_eq_true k2
          rw [hk2] at hlk
          have HST := Lib.hid (show (l0.take (i + 1)).foldl stepF ([], []) = (S, es.map Fe.plain) by rw [HTK.out]; unfold stepF; rw [if_neg (fun h => h.2 k2)])
          clear k1 k2 hk2
          go_wp2_with (first | rw [← HXX.out])
          exact ⟨⟨i + 1, es, S, by simp, ci, by omega, HMX.out.mono (by omega), HFX, HST, HBX⟩, by simp [intOf]; omega⟩
        · have hk2 : decide (x.f0 ∈ S) = false := decide_eq_false k2
          rw [hk2] at hlk
          have HST := Lib.hid (show (l0.take (i + 1)).foldl stepF ([], []) = (x.f0 :: S, es.map Fe.plain ++ [(x.f0, Q.lines x.f2)]) by rw [HTK.out]; unfold stepF; rw [if_pos ⟨k1, k2⟩])
          clear k1 k2 hk2
          go_wp2_with (first | rw [← HXX.out] | (at_mapUpdate; refine wp_set_update rfl _ _ _ 52 rfl Try.underlying9 Try.underlying52 Try.underlying4 w.heap.size i S rfl HMX.out (by unfold maxLen; omega) x.f0 (by have := HXS.out.1; unfold maxLen; omega) rfl rfl ?_; intro w1 hm1 hg1; have HM1 := Lib.hid hm1; have HG1 := Lib.hid hg1; clear hm1 hg1))
          have hbl : ∀ v' e' s' n' xs', X.ownsRow w.heap.size e' s' v' n' xs' → some w.heap.size ≠ v'.ownBlock := fun v' e' s' n' xs' ho => has_ne_own HMX.out ho
          have HF1 := Lib.hid (HFX.out.turned HG1.out hbl)
          have q1' : w1.heap[wr.heap.size]? = some (.cells #[.string x.f0, .int .i64 x.f1, .string x.f2, .bool x.f3] 33 (0, 0)) := (HG1.out.block _ (blk_lt HQX.out) (by have := HLT.out; simp; omega)).trans HQX.out
          have HB1 := Lib.hid (HBX.out.grown HG1.out HBX.out.size (fun k hk => by injection hk with hk; omega))
          obtain ⟨Z, hZ⟩ : ∃ Z, Z = w1.drew := ⟨_, rfl⟩
          have qZ : Z.heap[wr.heap.size]? = some (.cells #[.string x.f0, .int .i64 x.f1, .string x.f2, .bool x.f3] 33 (0, 0)) := by rw [hZ]; exact q1'
          have m0 : Z.cell? ⟨wr.heap.size, 0, none⟩ = some (.string x.f0) := by simp [World.cell?, qZ]
          have m2 : Z.cell? ⟨wr.heap.size, 2, none⟩ = some (.string x.f2) := by simp [World.cell?, qZ]
          have HZ8 := Lib.hid (show ∀ b ∈ [wr.heap.size], b < Z.heap.size by intro b hb; rw [List.mem_singleton.1 hb]; exact blk_lt qZ)
          have bZ : Below w1.heap.size w1 Z := by rw [hZ]; exact (Below.refl _ _).drew
          have HMZ := Lib.hid (HM1.out.below bZ)
          have HFZ := Lib.hid (HF1.out.below bZ)
          have HBZ := Lib.hid (HB1.out.trans (bZ.mono HB1.out.size))
          have HZZ := Lib.hid hZ
          have HNX := Lib.hid (own_ne HF1.out.1 q1' (by decide))
          have CO := Lib.hid (Iter.split_run x.f2 HXS.out.2 Z)
          clear hZ qZ bZ q1' hbl
          refine (wpIn_wide (n := 9)).1 ?_
          refine Held.region 9 (Held.Same Z [wr.heap.size]) (by kernel_rfl) ?_
          rw [← HZZ.out]
          have hT := Held.Same.refl Z [wr.heap.size]
          refine Held.tk (i := 0) rfl hT ?_
          try simp only [Act.put, List.setIfInBounds_toArray, List.set_cons_zero, List.set_cons_succ]
          refine Held.tk (i := 1) rfl hT ?_
          try simp only [Act.put, List.setIfInBounds_toArray, List.set_cons_zero, List.set_cons_succ]
          refine Held.tk (i := 2) rfl hT ?_
          try simp only [Act.put, List.setIfInBounds_toArray, List.set_cons_zero, List.set_cons_succ]
          refine Held.tk (i := 3) rfl hT ?_
          try simp only [Act.put, List.setIfInBounds_toArray, List.set_cons_zero, List.set_cons_succ]
          refine Held.tk (i := 4) rfl hT ?_
          try simp only [Act.put, List.setIfInBounds_toArray, List.set_cons_zero, List.set_cons_succ]
          refine Held.AnyS.step (i := 5) rfl (by kernel_rfl) rfl (fun K hK => ?_)
          go_simp
          first | refine ⟨trivial, ?_⟩ | skip
          refine (callsIn_wide.2 CO.out).mono ?_
          rintro e Y5 ⟨vL, rfl, hRL, hbY5⟩
          have hT2 := hT.below hbY5 HZ8.out
          have HRL := Lib.hid hRL
          have HBY5 := Lib.hid hbY5
          obtain ⟨AL, cL, rfl⟩ := own_slice hRL
          clear hRL hbY5
          refine hK.out _ _ (fun _ => hT2) ?_
          clear hK K
          try simp only [Act.put, List.setIfInBounds_toArray, List.set_cons_zero, List.set_cons_succ]
          refine Held.tk (i := 6) rfl hT2 ?_
          try simp only [Act.put, List.setIfInBounds_toArray, List.set_cons_zero, List.set_cons_succ]
          refine Held.AnyS.step (i := 7) rfl (by kernel_rfl) rfl (fun K hK => ?_)
          go_simp
          have hT3 := hT2.grown (World.grownBy_alloc Y5 (.cells #[.string x.f0, .slice AL (Q.lines x.f2).length cL] 46) none) (fun b hb => ⟨HZ8.out b hb, by simp⟩)
          refine hK.out _ _ (fun _ => hT3) ?_
          clear hK K
          try simp only [Act.put, List.setIfInBounds_toArray, List.set_cons_zero, List.set_cons_succ]
          obtain ⟨w2, hw2⟩ : ∃ w2, w2 = Y5.alloc (.cells #[.string x.f0, .slice AL (Q.lines x.f2).length cL] 46) := ⟨_, rfl⟩
          have b82 : Below Z.heap.size Z w2 := by rw [hw2]; exact HBY5.out.alloc HBY5.out.size _
          have sZ := HBZ.out.size
          have nw : ∀ j u, [Value.string x.f0, .slice AL (Q.lines x.f2).length cL][j]? = some u → w2.cell? ((⟨Y5.heap.size, 0, none⟩ : Addr).add j) = some u := by
            rw [hw2]
            simpa using World.news_of_block (cs := #[Value.string x.f0, .slice AL (Q.lines x.f2).length cL]) (t := 46) (fr := (0, 0)) (heap_alloc_new Y5 _)
          have lns : w2.ownsRow w.heap.size 9 1 (.slice AL (Q.lines x.f2).length cL) (Q.lines x.f2).length (encs Value.string (Q.lines x.f2)) := by
            rw [hw2]
            exact own_alloc (own_less HRL.out (by omega)) _
          have SY := HFZ.out.below b82
          have MY := HMZ.out.below b82
          have S2 := SY.1
          have ne8 : ∀ b ∈ [wr.heap.size], some b ≠ (Value.slice Ao es.length co).ownBlock := fun b hb => by
            rw [List.mem_singleton.1 hb]; exact HNX.out
          rw [← hw2] at hT3 ⊢
          clear hw2
          refine Held.AnyS.step (i := 8) rfl (by kernel_rfl) rfl (fun K hK => ?_)
          refine Held.append_at (.tmp 26) (.tmp 33) 42 rfl w.heap.size 46 (.agg #[.string ⟨#[]⟩, .slice none 0 0]) 2 40 Try.underlying42 (by kernel_rfl) rfl (by omega) (.slice Ao es.length co) es.length (fflat es) rfl S2 ⟨Y5.heap.size, 0, none⟩ 1 1 [.string x.f0, .slice AL (Q.lines x.f2).length cL] rfl rfl nw ?_ ?_ ?_ ?_ ?_
          · intro u hu; simp at hu; rcases hu with rfl | rfl <;> rfl
          · simp only [maxLen]; omega
          · omega
          · have := b82.size; omega
          intro v1 w3 hown hgr hat1
          obtain ⟨A5, c5, rfl⟩ := own_slice hown
          have hT4 : Held.Same Z [wr.heap.size] w3 := hT3.grown hgr (fun b hb => ⟨HZ8.out b hb, ne8 b hb⟩)
          have HM3 := Lib.hid (MY.grown hgr (has_ne_own MY S2))
          have HF3 := Lib.hid (show Fls w.heap.size w3 (.slice A5 (es.length + 1) c5) (es ++ [⟨x.f0, .slice AL (Q.lines x.f2).length cL, Q.lines x.f2⟩]) from ⟨by rw [fflat_snoc, List.length_append]; exact hown, fun e he => by
            rcases List.mem_append.1 he with he | he
            · exact own_other (SY.2 e he) hgr (own_type_ne (SY.2 e he) S2 (by decide))
            · rw [List.mem_singleton.1 he]; exact own_other lns hgr (own_type_ne lns S2 (by decide))⟩)
          have HB3 := Lib.hid ((HBZ.out.trans (b82.mono sZ)).grown hgr (by have := b82.size; omega) (own_base S2))
          clear hown hgr hat1 S2 SY MY nw lns b82 ne8
          refine hK.out _ _ (fun _ => hT4) ?_
          clear hK K hT hT2 hT3 hT4
          try simp only [Act.put, List.setIfInBounds_toArray, List.set_cons_zero, List.set_cons_succ]
          refine Held.AnyS.step (i := 9) rfl (by kernel_rfl) rfl (fun K hK => ?_)
          go_simp
          refine hK.out _ _ (fun h => absurd h (by omega)) ?_
          clear hK K
          refine Held.AnyS.done (by kernel_rfl) ?_ _
          go_simp
          go_wp2
          exact ⟨⟨i + 1, _, _, by simp, ci, by simp; omega, HM3, HF3, Lib.hid (by rw [HST.out, List.map_append]; rfl), HB3⟩, by simp [intOf]; omega⟩
      · have kb1 : (x.f1 == 2) = false := beq_eq_false_iff_ne.2 k1
        have HST := Lib.hid (show (l0.take (i + 1)).foldl stepF ([], []) = (S, es.map Fe.plain) by rw [HTK.out]; unfold stepF; rw [if_neg (fun h => k1 h.1)])
        clear k1
        go_wp2_with (first | rw [← HXX.out])
        exact ⟨⟨i + 1, es, S, by simp, ci, by omega, HMX.out.mono (by omega), HFX, HST, HBX⟩, by simp [intOf]; omega⟩
    · have cb : decide ((i : Int) < (l0.length : Int)) = false := decide_eq_false (by omega)
      have cb' : decide (i < l0.length) = false := decide_eq_false ci
      obtain rfl : i = l0.length := by omega
      have HP := Lib.hid (show es.map Fe.plain = filesL l0 by have h := HL.out; rw [List.take_length] at h; unfold filesL; rw [h])
      clear HL
      go_wp2
      go_ret
      exact ⟨_, es, rfl, HF.out, HP.out, HB.out⟩
end Go.Proofs.Ytcgnkbdfoaiaiaa.P
end
section
/- Words of this session: a map from texts to numbers (or bools) that a call makes, told by a plain function. -/
set_option linter.unusedVariables false
set_option linter.unusedSimpArgs false
namespace Go.Proofs.Ytcgnkbdfoaiaiaa.HMap
open Go Go.RowKit Go.Maps Go.WideMaps

/-- Block b is a map of at most n entries, from texts to whole numbers, whose value at s is f s (0 where there is none). -/
def Cnt (P : Program) (k e : TypeId) (w : World) (b n : Nat) (f : ByteArray → Int) : Prop :=
  ∃ D : DataW Unit, w.ownsMap P k (plainElem P e) b n D ∧ IsMap D ∧ ∀ s : ByteArray, s.size ≤ maxLen → D.atKey (.string s.data.toList) (.lit (.int .i64 0)) = .lit (.int .i64 (f s))

section
variable {P : Program} {k e t : TypeId} {w w' : World} {b n : Nat} {f : ByteArray → Int}

theorem isKeyLit_string (l : List UInt8) : WideAt.IsKeyLit (.string l) := by trivial

theorem string_lit_ne {s s' : ByteArray} (h : s ≠ s') : (Lit.string s'.data.toList) ≠ (Lit.string s.data.toList) := by
  intro hl
  injection hl with hl
  apply h
  cases s with | mk a => cases s' with | mk a' =>
  congr 1
  exact (Array.toList_inj.1 hl).symm

theorem Cnt.made (w : World) (P : Program) (k e : TypeId) : Cnt P k e (w.alloc (.map #[] 0)) w.heap.size 0 (fun _ => 0) :=
  ⟨.map [], World.ownsMap_made _ _ _ _, isMap_empty, fun s _ => rfl⟩

theorem Cnt.mono {n' : Nat} (h : Cnt P k e w b n f) (hn : n ≤ n') : Cnt P k e w b n' f := by
  obtain ⟨D, h1, h2⟩ := h
  exact ⟨D, h1.mono hn, h2⟩

theorem Cnt.congr {f' : ByteArray → Int} (h : Cnt P k e w b n f) (hf : ∀ s, f s = f' s) : Cnt P k e w b n f' := by
  have : f = f' := funext hf
  rwa [← this]

theorem Cnt.lt (h : Cnt P k e w b n f) : b < w.heap.size := by
  obtain ⟨D, h1, _⟩ := h
  exact h1.lt

theorem Cnt.grown {row : Option Nat} (h : Cnt P k e w b n f) (hg : w.grownBy w' row) (hne : some b ≠ row) : Cnt P k e w' b n f := by
  obtain ⟨D, h1, h2⟩ := h
  exact ⟨D, h1.kept hg hne, h2⟩

theorem Cnt.block (h : Cnt P k e w b n f) (hb : w'.heap[b]? = w.heap[b]?) : Cnt P k e w' b n f := by
  obtain ⟨D, ⟨es, clock, h1, h3⟩, h2⟩ := h
  exact ⟨D, ⟨es, clock, hb.trans h1, h3⟩, h2⟩

theorem Cnt.below (h : Cnt P k e w b n f) (hb : Below w.heap.size w w') : Cnt P k e w' b n f := h.block (hb.block b h.lt)

theorem turned_below {B : Nat} {w0 w w' : World} (hB : Below B w0 w) (h : w.mapTurned w' b) (hb : B ≤ b) : Below B w0 w' := by
  obtain ⟨es, clock, es', clock', h1, rfl⟩ := h
  refine hB.trans ⟨rfl, rfl, rfl, by simp [ChangeMaps.setBlock], fun i hi => ?_⟩
  exact ChangeMaps.heap_setBlock_other h1 _ (by omega)

theorem turned_block {w w' : World} (h : w.mapTurned w' b) {i : Nat} (hi : i ≠ b) : w'.heap[i]? = w.heap[i]? := by
  obtain ⟨es, clock, es', clock', h1, rfl⟩ := h
  exact ChangeMaps.heap_setBlock_other h1 _ hi

theorem grown_block {w w' : World} {row : Option Nat} (h : w.grownBy w' row) {i : Nat} (hl : i < w.heap.size) (hi : some i ≠ row) : w'.heap[i]? = w.heap[i]? := h.block i hl hi

variable {ops : Array Oper} {rest : List Oper} {o : Oper} {a : Act} {Q : Exit → Act → World → Prop}

/-- 'm[s]' at the operation. -/
theorem wp_cnt_lookup (hg : o.guard = none) (m x : Operand) (t : TypeId) (hop : o.op = Op.lookup t m x false)
    (hk : P.underlying k = some .string) (ht : P.underlying t = some (.map k e)) (he : P.underlying e = some (.int .i64)) (hz : (zeroValue e).run P w = .ok (.int .i64 0) w) (b n : Nat) (f : ByteArray → Int)
    (hm : a.eval m = .map (some b)) (h : Cnt P k e w b n f) (s : ByteArray) (hs : s.size ≤ maxLen) (hx : a.eval x = .string s)
    (hK : wpList P ops Q rest (a.put o.dst (.int .i64 (f s))) w) : wpList P ops Q (o :: rest) a w := by
  obtain ⟨D, h1, h2, h3⟩ := h
  refine wpList_lookup_own_int (H := Unit) w hg m x t hop k e .i64 (string_keyed hk) ht he hz b n D hm h1 (.string s) _ hx (keyOf_string_mk hk hs) ?_
  intro c hat hwc
  rw [h3 s hs] at hat
  injection hat with hat
  injection hat with _ hat
  subst hat
  exact hK

/-- 'm[s] = v' at the operation. -/
theorem wp_cnt_update (hg : o.guard = none) (m x v : Operand) (t : TypeId) (hop : o.op = Op.mapUpdate t m x v)
    (hk : P.underlying k = some .string) (ht : P.underlying t = some (.map k e)) (he : P.underlying e = some (.int .i64)) (b n : Nat) (f : ByteArray → Int)
    (hm : a.eval m = .map (some b)) (h : Cnt P k e w b n f) (hn : n < maxLen) (s : ByteArray) (hs : s.size ≤ maxLen) (hx : a.eval x = .string s) (z : Int) (hv : a.eval v = .int .i64 z) (hz : (Lit.int .i64 z).wf = true)
    (hK : ∀ w', Cnt P k e w' b (n + 1) (fun s' => if s' = s then z else f s') → w.grownBy w' (some b) → wpList P ops Q rest (a.put o.dst undef) w') : wpList P ops Q (o :: rest) a w := by
  obtain ⟨D, h1, h2, h3⟩ := h
  refine wpList_mapUpdate_own (H := Unit) w hg m x v t hop k e (string_keyed hk) ht (plainElem P e) b n D hm h1 hn (.string s) (.int .i64 z) _ hx hv (keyOf_string_mk hk hs) _ [] (plainElem_int he hz) ?_
  intro w' hown hgr
  refine hK w' ⟨_, hown, h2.put _ _, fun s' hs' => ?_⟩ hgr
  by_cases heq : s' = s
  · subst heq
    simp only [if_pos]
    exact atKey_put_same h2 (isKeyLit_string _) _ _
  · simp only [if_neg heq]
    rw [atKey_put_other (string_lit_ne (fun h => heq h.symm))]
    exact h3 s' hs'

/-- 'delete(m, s)' at the operation. -/
theorem wp_cnt_delete (hg : o.guard = none) (m x : Operand) (t kt : TypeId) (hop : o.op = Op.call { callee := Callee.builtin Builtin.delete, args := #[m, x], argTypes := #[t, k] })
    (hk : P.underlying k = some .string) (ht : P.underlying t = some (.map k e)) (b n : Nat) (f : ByteArray → Int)
    (hm : a.eval m = .map (some b)) (h : Cnt P k e w b n f) (s : ByteArray) (hs : s.size ≤ maxLen) (hx : a.eval x = .string s)
    (hK : ∀ w', Cnt P k e w' b n (fun s' => if s' = s then 0 else f s') → w.mapTurned w' b → wpList P ops Q rest (a.put o.dst (.tuple #[])) w') : wpList P ops Q (o :: rest) a w := by
  obtain ⟨D, h1, h2, h3⟩ := h
  refine wpList_delete_own (H := Unit) w hg m x t k hop e (string_keyed hk) ht (plainElem P e) b n D hm h1 (.string s) _ hx (keyOf_string_mk hk hs) ?_
  intro w' hown htu
  refine hK w' ⟨_, hown, h2.del _, fun s' hs' => ?_⟩ htu
  by_cases heq : s' = s
  · subst heq
    simp only [if_pos]
    exact atKey_del_same _
  · simp only [if_neg heq]
    rw [atKey_del_other (string_lit_ne (fun h => heq h.symm))]
    exact h3 s' hs'
end
end Go.Proofs.Ytcgnkbdfoaiaiaa.HMap
end
section
/- What alike.Common answers: how many lines are in both, by a walk of its text (its counts stand in a map). -/
set_option linter.unusedVariables false
set_option linter.unusedSimpArgs false
namespace Go.Proofs.Ytcgnkbdfoaiaiaa.P
open Go.RowKit Go.Proofs.YtcgnkbdfoaiaiaaW.PrintWords Go.Proofs.YtcgnkbdfoaiaiaaW.PrintLast Go.Proofs.YtcgnkbdfoaiaiaaW.PrintMore Go.Proofs.Ytcgnkbdfoaiaiaa.HMap Go.Proofs.Ytcgnkbdfoaiaiaa.Q

def alike_Common.f (a b : List ByteArray) : Option Int :=
  if ((∀ s ∈ a, s.size ≤ 9223372036854775807) ∧ (∀ s ∈ b, s.size ≤ 9223372036854775807)) ∧ a.length ≤ 4611686018427387903 ∧ b.length ≤ 4611686018427387903 then some ((comm a b : Nat) : Int) else none

theorem rdOf_nat (xs : List ByteArray) (j : Nat) (h : j < xs.length) : rdOf ByteArray.empty xs (j : Int) = xs[j] := by
  simp [rdOf, List.getD_eq_getElem?_getD, List.getElem?_eq_getElem h]
theorem count_take_succ (xs : List ByteArray) (j : Nat) (h : j < xs.length) (s : ByteArray) :
    (((xs.take (j + 1)).count s : Nat) : Int) = if s = xs[j] then ((xs.take j).count xs[j] : Int) + 1 else ((xs.take j).count s : Int) := by
  rw [List.take_succ_eq_append_getElem h, List.count_append]
  by_cases hs : s = xs[j]
  · rw [if_pos hs, hs]; simp
  · rw [if_neg hs]
    have : List.count s [xs[j]] = 0 := by
      rw [List.count_eq_zero]; simpa using hs
    simp [this]
theorem wf_small (z : Int) (h0 : 0 ≤ z) (h1 : z ≤ 9223372036854775807) : (Lit.int .i64 z).wf = true := WalkArith.wf_i64 (by omega)

set_option maxHeartbeats 1000000 in
set_option maxRecDepth 100000 in
theorem alike_Common.calls (A0 : Option Addr) (c0 : Nat) (l0 : List ByteArray) (A1 : Option Addr) (c1 : Nat) (l1 : List ByteArray) (r : Int) (w : World) (hr0 : Kd.C Kd.string w A0 l0.length l0) (hc0 : l0.length ≤ c0) (hr1 : Kd.C Kd.string w A1 l1.length l1) (hc1 : l1.length ≤ c1) (h : alike_Common.f l0 l1 = some r) :
    Calls Try.prog 32 #[.slice A0 l0.length c0, .slice A1 l1.length c1] w fun e w' => e = .returned (.int .i64 r) ∧ Below w.heap.size w w' := by
  have hk9 : Try.prog.underlying 9 = some .string := Try.underlying9
  unfold alike_Common.f at h
  split at h
  · rename_i hsz
    obtain ⟨⟨hs0, hs1⟩, hm0, hm1⟩ := hsz
    obtain rfl := Option.some.inj h
    clear h
    have HS0 := Aside0.mk hs0
    have HS1 := Aside0.mk hs1
    have HR0 := Aside0.mk hr0
    have HR1 := Aside0.mk hr1
    have HC0 := Aside0.mk hc0
    have HC1 := Aside0.mk hc1
    clear hs0 hs1 hr0 hr1 hc0 hc1
    have hmm := @run_makeMap Try.prog
    go_enter Try.func32, Try.ntmps32
    go_wp2
    go_loopw [13] (fun v13 wr => ∃ j : Nat, j ≤ l0.length ∧ v13 = .int .i64 j ∧ Aside0 (Cnt Try.prog 9 3 wr w.heap.size j (fun s => ((l0.take j).count s : Nat))) ∧ Aside0 (Below w.heap.size w wr)) (fun v13 _ => l0.length - (intOf v13).toNat)
    case atStart => exact ⟨0, Nat.zero_le _, rfl, ⟨(Cnt.made _ _ _ _).congr (fun s => by simp)⟩, ⟨(Below.refl _ _).alloc (Nat.le_refl _) _⟩⟩
    case round =>
      obtain ⟨j, hj, rfl, HCN, HB⟩ := hrel
      by_cases hlt : j < l0.length
      · obtain ⟨ad, e1, hx⟩ := Kd.at_string HR0.out (j : Int) (by omega) (by omega)
        cases e1
        rw [Int.toNat_natCast, rdOf_nat _ _ hlt] at hx
        have hsz : (l0[j]).size ≤ maxLen := HS0.out _ (List.getElem_mem hlt)
        replace hx := (HB.out.cell (World.block_lt_of_cell? w _ hx)).trans hx
        have HSN := Aside0.mk (count_take_succ l0 j hlt)
        have HCL := Aside0.mk (List.count_le_length (a := l0[j]) (l := l0.take j))
        have HSZ := Aside0.mk hsz
        clear hsz
        generalize l0[j] = s at hx HSZ HSN HCL
        have HLEN : Aside0 ((l0.take j).length = j) := ⟨by simp; omega⟩
        have hc0 : (0 : Int) ≤ ((l0.take j).count s : Nat) := by omega
        have hc1 : (((l0.take j).count s : Nat) : Int) < 9223372036854775807 := by have := HCL.out; have := HLEN.out; omega
        have hj1 : j < 9223372036854775807 := by omega
        go_wp2_with (first
          | (at_lookup; refine wp_cnt_lookup rfl _ _ 77 rfl Try.underlying9 Try.underlying77 Try.underlying3 (by kernel_rfl) w.heap.size j _ rfl HCN.out s HSZ.out rfl ?_)
          | (at_mapUpdate; refine wp_cnt_update rfl _ _ _ 77 rfl Try.underlying9 Try.underlying77 Try.underlying3 w.heap.size j _ rfl HCN.out (by unfold maxLen; omega) s HSZ.out rfl _ rfl (wf_small _ (by omega) (by omega)) ?_; intro w1 hc1' hg1; have HC1' := Aside0.mk hc1'; have HG1 := Aside0.mk hg1; clear hc1' hg1))
        go_roundw
        case rel => exact ⟨j + 1, by omega, by go_num, ⟨HC1'.out.congr (fun s' => (HSN.out s').symm)⟩, ⟨HB.out.grown HG1.out HB.out.size (fun k hk => by cases hk; exact Nat.le_refl _)⟩⟩
        case measure => simp [intOf]; omega
      · have hfull : l0.take j = l0 := List.take_of_length_le (by omega)
        rw [hfull] at HCN
        have HB1 := HB
        clear HB hfull
        go_wp2
        have HJ := Aside0.mk hj
        clear hlt hj
        go_loopw [4, 24] (fun v4 v24 wr => ∃ (j : Nat) (n : Int) (rem : List ByteArray) (f : ByteArray → Int), j ≤ l1.length ∧ v24 = .int .i64 j ∧ v4 = .int .i64 n ∧ Aside0 (0 ≤ n ∧ n ≤ j) ∧ Aside0 (n + (comm rem (l1.drop j) : Nat) = (comm l0 l1 : Nat)) ∧ Aside0 (rem.length ≤ l0.length) ∧ Aside0 (∀ s, f s = (rem.count s : Nat)) ∧ Aside0 (Cnt Try.prog 9 3 wr w.heap.size (l0.length + j) f) ∧ Aside0 (Below w.heap.size w wr)) (fun _ v24 _ => l1.length - (intOf v24).toNat)
        case atStart => exact ⟨0, 0, l0, _, Nat.zero_le _, rfl, rfl, ⟨by omega, by omega⟩, ⟨by simp⟩, ⟨Nat.le_refl _⟩, ⟨fun _ => rfl⟩, ⟨HCN.out.mono (by have := HJ.out; omega)⟩, ⟨HB1.out⟩⟩
        case round =>
          clear HCN HB1
          obtain ⟨j, n, rem, f, hj, rfl, rfl, HN, HCM, HRL, HF, HCN, HB⟩ := hrel
          have hn0 : 0 ≤ n := HN.out.1
          have hn1 : n < 9223372036854775807 ∨ ¬ j < l1.length := by have := HN.out.2; omega
          by_cases hlt : j < l1.length
          · obtain ⟨ad, e1, hx⟩ := Kd.at_string HR1.out (j : Int) (by omega) (by omega)
            cases e1
            rw [Int.toNat_natCast, rdOf_nat _ _ hlt] at hx
            have hsz : (l1[j]).size ≤ maxLen := HS1.out _ (List.getElem_mem hlt)
            replace hx := (HB.out.cell (World.block_lt_of_cell? w _ hx)).trans hx
            have HDR := Aside0.mk (List.drop_eq_getElem_cons hlt)
            have HSZ := Aside0.mk hsz
            clear hsz
            generalize l1[j] = s at hx HSZ HDR
            have HCL := Aside0.mk (List.count_le_length (a := s) (l := rem))
            have hf0 : 0 ≤ f s := by rw [HF.out]; omega
            have hf1 : f s ≤ 9223372036854775807 := by rw [HF.out]; have := HCL.out; have := HRL.out; omega
            have hj1 : j < 9223372036854775807 := by omega
            have hn2 : n < 9223372036854775807 := by omega
            clear hn1
            by_cases hz0 : f s = 0
            · have hb0 : (f s == 0) = true := beq_iff_eq.mpr hz0
              have HNM : Aside0 (s ∉ rem) := ⟨List.count_eq_zero.1 (by have := HF.out s; omega)⟩
              clear hz0
              go_wp2_with (first
                | (at_lookup; refine wp_cnt_lookup rfl _ _ 77 rfl Try.underlying9 Try.underlying77 Try.underlying3 (by kernel_rfl) w.heap.size _ _ rfl HCN.out s HSZ.out rfl ?_))
              go_roundw
              case rel => exact ⟨j + 1, n, rem, f, by omega, by go_num, rfl, ⟨by omega, by have := HN.out; omega⟩, ⟨by have := HCM.out; rw [HDR.out, comm_cons, if_neg HNM.out] at this; exact this⟩, HRL, HF, ⟨HCN.out.mono (by omega)⟩, HB⟩
              case measure => simp [intOf]; omega
            · have hb0 : (f s == 0) = false := beq_eq_false_iff_ne.mpr hz0
              have hf2 : 1 ≤ f s := by omega
              have HMM : Aside0 (s ∈ rem) := ⟨List.count_pos_iff.1 (by have := HF.out s; omega)⟩
              have HRE : Aside0 ((rem.erase s).length + 1 = rem.length) := ⟨by have := List.length_erase_of_mem HMM.out; have := List.length_pos_of_mem HMM.out; omega⟩
              have HFE : Aside0 (∀ s', (if s' = s then f s - 1 else f s') = ((rem.erase s).count s' : Nat)) := ⟨fun s' => by
                by_cases hs : s' = s
                · subst hs; rw [if_pos rfl, HF.out, List.count_erase_self]; have : 0 < rem.count s' := List.count_pos_iff.2 HMM.out; omega
                · rw [if_neg hs, HF.out, List.count_erase_of_ne hs]⟩
              have HCM' : Aside0 (n + 1 + (comm (rem.erase s) (l1.drop (j + 1)) : Nat) = (comm l0 l1 : Nat)) := ⟨by have := HCM.out; rw [HDR.out, comm_cons, if_pos HMM.out] at this; omega⟩
              clear hz0
              by_cases hz1 : f s = 1
              · have hb1 : (f s == 1) = true := beq_iff_eq.mpr hz1
                have HFE' : Aside0 (∀ s', (if s' = s then 0 else f s') = ((rem.erase s).count s' : Nat)) := ⟨fun s' => by
                  have := HFE.out s'; rw [hz1] at this; exact this⟩
                clear hz1
                go_wp2_with (first
                  | (at_lookup; refine wp_cnt_lookup rfl _ _ 77 rfl Try.underlying9 Try.underlying77 Try.underlying3 (by kernel_rfl) w.heap.size _ _ rfl HCN.out s HSZ.out rfl ?_)
                  | (at_delete; refine wp_cnt_delete rfl _ _ 77 9 rfl Try.underlying9 Try.underlying77 w.heap.size _ _ rfl HCN.out s HSZ.out rfl ?_; intro w1 hc1' hg1; have HC1' := Aside0.mk hc1'; have HG1 := Aside0.mk hg1; clear hc1' hg1))
                go_roundw
                case rel => exact ⟨j + 1, n + 1, rem.erase s, _, by omega, by go_num, rfl, ⟨by omega, by have := HN.out; omega⟩, HCM', ⟨by have := HRE.out; have := HRL.out; omega⟩, HFE', ⟨HC1'.out.mono (by omega)⟩, ⟨turned_below HB.out HG1.out (Nat.le_refl _)⟩⟩
                case measure => simp [intOf]; omega
              · have hb1 : (f s == 1) = false := beq_eq_false_iff_ne.mpr hz1
                clear hz1
                go_wp2_with (first
                  | (at_lookup; refine wp_cnt_lookup rfl _ _ 77 rfl Try.underlying9 Try.underlying77 Try.underlying3 (by kernel_rfl) w.heap.size _ _ rfl HCN.out s HSZ.out rfl ?_)
                  | (at_mapUpdate; refine wp_cnt_update rfl _ _ _ 77 rfl Try.underlying9 Try.underlying77 Try.underlying3 w.heap.size _ _ rfl HCN.out (by unfold maxLen; omega) s HSZ.out rfl _ rfl (wf_small _ (by omega) (by omega)) ?_; intro w1 hc1' hg1; have HC1' := Aside0.mk hc1'; have HG1 := Aside0.mk hg1; clear hc1' hg1))
                go_roundw
                case rel => exact ⟨j + 1, n + 1, rem.erase s, _, by omega, by go_num, rfl, ⟨by omega, by have := HN.out; omega⟩, HCM', ⟨by have := HRE.out; have := HRL.out; omega⟩, HFE, ⟨HC1'.out⟩, ⟨HB.out.grown HG1.out HB.out.size (fun k hk => by cases hk; exact Nat.le_refl _)⟩⟩
                case measure => simp [intOf]; omega
          · go_wp2
            go_ret
            exact ⟨by have := HCM.out; rw [List.drop_eq_nil_of_le (by omega)] at this; have h0 : comm rem [] = 0 := rfl; rw [h0] at this; exact congrArg (fun z : Int => Ending.returned (.int .i64 z)) (show n = (comm l0 l1 : Nat) by omega), HB.out⟩
  · cases h
end Go.Proofs.Ytcgnkbdfoaiaiaa.P
end
section
/- Laid for this claim by hp.py, this session's program round the kit's print: functions of the program as plain Lean functions, the proofs that the code comes to their answers, and the rows of the laws. Not trusted: Lean checks it. -/
namespace Go.Proofs.Ytcgnkbdfoaiaiaa.P
open Go.RowKit Go.Proofs.YtcgnkbdfoaiaiaaW.PrintWords Go.Proofs.YtcgnkbdfoaiaiaaW.PrintLast Go.Proofs.YtcgnkbdfoaiaiaaW.PrintMore
attribute [local go_sem] max2_int min2_int max_two min_two max_three min_three max_four min_four   -- for this text's walks alone
set_option linter.unusedVariables false
set_option linter.unusedSimpArgs false

/-! ### alike_Score: function 16 -/
def alike_Score.f (l0 : List ByteArray) (l1 : List ByteArray) : Option (Int) := if (wrap64 ((l0.length : Int) + (l1.length : Int))) = 0 then (some 100) else ((alike_Common.f l0 l1).bind fun t482 => (some (wrap64 (Int.tdiv (wrap64 (200 * t482)) (wrap64 ((l0.length : Int) + (l1.length : Int)))))))
set_option maxHeartbeats 8000000 in
set_option maxRecDepth 100000 in
theorem alike_Score.calls (A0 : Option Addr) (c0 : Nat) (l0 : List ByteArray) (A1 : Option Addr) (c1 : Nat) (l1 : List ByteArray) (r : Int) (w : World) (hr0 : Kd.C Kd.string w A0 l0.length l0) (hc0 : l0.length ≤ c0) (hr1 : Kd.C Kd.string w A1 l1.length l1) (hc1 : l1.length ≤ c1) (h : alike_Score.f l0 l1 = some r) :
  Calls Try.prog 16 #[.slice A0 l0.length c0, .slice A1 l1.length c1] w fun e w' => e = .returned (.int .i64 r) ∧ Below w.heap.size w w' := by
 have HR0 := Aside0.mk hr0
 have HC0 := Aside0.mk hc0
 clear hr0 hc0
 have HR1 := Aside0.mk hr1
 have HC1 := Aside0.mk hc1
 clear hr1 hc1
 have HB := Aside0.mk (Below.refl w.heap.size w)
 have H : (if (wrap64 ((l0.length : Int) + (l1.length : Int))) = 0 then (some 100) else ((alike_Common.f l0 l1).bind fun t482 => (some (wrap64 (Int.tdiv (wrap64 (200 * t482)) (wrap64 ((l0.length : Int) + (l1.length : Int)))))))) = some r := h
 clear h
 by_cases c3 : (wrap64 ((l0.length : Int) + (l1.length : Int))) = 0
 ·rw [if_pos c3] at H
  have c3b0 : ((wrap64 ((l0.length : Int) + (l1.length : Int))) == 0) = true := beq_iff_eq.mpr c3
  have c3b1 : ((wrap64 ((l0.length : Int) + (l1.length : Int))) != 0) = false := bne_eq_false_iff_eq.mpr c3
  clear c3
  obtain rfl := Option.some.inj H
  go_enter Try.func16, Try.ntmps16
  go_wp2
  go_ret
  exact ⟨by first | rfl | (simp [errW_none, errW_some] <;> rfl) | (simp [*, errW_none, errW_some] <;> rfl), by repeat (first | (with_reducible first | exact HB.out | apply below_alloc | apply pw_below_drewN | apply below_drew1) | exact HB.out)⟩
 ·rw [if_neg c3] at H
  have c3b0 : ((wrap64 ((l0.length : Int) + (l1.length : Int))) == 0) = false := beq_eq_false_iff_ne.mpr c3
  have c3b1 : ((wrap64 ((l0.length : Int) + (l1.length : Int))) != 0) = true := bne_iff_ne.mpr c3
  replace H := Option.bind_eq_some_iff.mp H
  obtain ⟨t482, A40, H⟩ := H
  replace H : (some (wrap64 (Int.tdiv (wrap64 (200 * t482)) (wrap64 ((l0.length : Int) + (l1.length : Int)))))) = some r := H
  have A4 := Aside0.mk A40
  clear A40
  obtain rfl := Option.some.inj H
  go_enter Try.func16, Try.ntmps16
  go_wp2_with (first | ((with_reducible refine gate_callee (f := 32) rfl ?_); refine goesL_ _ rfl rfl Try.func32 (by kernel_rfl) rfl #[.slice A0 l0.length c0, .slice A1 l1.length c1] rfl (by (try simp only [List.map_toArray, List.map_cons, List.map_nil]); first | done | rfl | (simp only [List.length_drop, List.length_take]; rfl)) ?_; (with_reducible refine (alike_Common.calls _ _ l0 _ _ l1 t482 _ ?side1 ?side2 ?side3 ?side4 A4.out).mono ?_); (case side1 => repeat (first | exact HR0.out | (with_reducible refine Kd.C_alloc ?_ _) | (with_reducible refine Kd.C_drewN ?_ _) | (with_reducible refine Kd.C_drew ?_))); (case side2 => exact HC0.out); (case side3 => repeat (first | exact HR1.out | (with_reducible refine Kd.C_alloc ?_ _) | (with_reducible refine Kd.C_drewN ?_ _) | (with_reducible refine Kd.C_drew ?_))); (case side4 => exact HC1.out); rintro e w5 ⟨rfl, hb⟩; refine ⟨_, rfl, ?_⟩; have n0_ := Aside0.mk (below_step (by repeat (first | (with_reducible first | exact HB.out | apply below_alloc | apply pw_below_drewN | apply below_drew1) | exact HB.out)) hb); clear HB; have HB := n0_; clear n0_; (try clear hb); (try clear hb2); (try clear hk); (try clear hi)))
  go_ret
  exact ⟨by first | rfl | (simp [errW_none, errW_some] <;> rfl) | (simp [*, errW_none, errW_some] <;> rfl), by repeat (first | (with_reducible first | exact HB.out | apply below_alloc | apply pw_below_drewN | apply below_drew1) | exact HB.out)⟩

end Go.Proofs.Ytcgnkbdfoaiaiaa.P
end
section
/- rename.Pairs: what it answers; by a walk of its text. -/
set_option linter.unusedVariables false
set_option linter.unusedSimpArgs false
namespace Go.Proofs.Ytcgnkbdfoaiaiaa.P
open Go Go.RowKit Go.Sort Go.Proofs.YtcgnkbdfoaiaiaaW.PrintWords Go.Proofs.YtcgnkbdfoaiaiaaW.PrintLast Go.Proofs.YtcgnkbdfoaiaiaaW.PrintMore Go.Proofs.Ytcgnkbdfoaiaiaa.Q Go.Proofs.Ytcgnkbdfoaiaiaa.HSet
abbrev PrS := S35
/-- The candidates of one file. -/
def cand1 (a : ByteArray × List ByteArray) (fresh : List (ByteArray × List ByteArray)) (t : Int) : List PrS :=
  fresh.filterMap fun b => if mx t 1 ≤ score a.2 b.2 then some ⟨a.1, b.1, score a.2 b.2⟩ else none
def candL (old fresh : List (ByteArray × List ByteArray)) (t : Int) : List PrS := old.flatMap fun a => cand1 a fresh t
/-- Who is better. -/
def cB (x y : PrS) : Int := or3 (ci y.f2 x.f2) (pcmp (tl x.f0) (tl y.f0)) (pcmp (tl x.f1) (tl y.f1))
/-- Whose To is less; else who is better. -/
def cT (x y : PrS) : Int := if pcmp (tl x.f1) (tl y.f1) ≠ 0 then pcmp (tl x.f1) (tl y.f1) else cB x y
def sortB (l : List PrS) : List PrS := l.mergeSort (fun x y => decide (cB x y ≤ 0))
def sortT (l : List PrS) : List PrS := l.mergeSort (fun x y => decide (cT x y ≤ 0))
/-- A candidate is taken, if both its files are free. -/
def take1 (st : List ByteArray × List ByteArray × List PrS) (p : PrS) : List ByteArray × List ByteArray × List PrS :=
  if p.f0 ∉ st.1 ∧ p.f1 ∉ st.2.1 then (p.f0 :: st.1, p.f1 :: st.2.1, st.2.2 ++ [p]) else st
def greedy (l : List PrS) : List PrS := (l.foldl take1 ([], [], [])).2.2
def pairsL (old fresh : List S33) (t : Int) : List PrS := sortT (greedy (sortB (candL (filesL old) (filesL fresh) t)))
def PairsOk (l : List S33) : Prop := l.length ≤ 1000 ∧ ∀ x ∈ l, x.f0.size ≤ 4000000 ∧ x.f2.size ≤ 4000000
instance (l : List S33) : Decidable (PairsOk l) := by unfold PairsOk; infer_instance
theorem PairsOk.items {l : List S33} (h : PairsOk l) : ItemsOk l := ⟨by have := h.1; omega, fun x hx => by have := h.2 x hx; omega⟩
/-! ### The orders -/
structure CmpOk {α : Type} (c : α → α → Int) : Prop where
  neg : ∀ x y, c y x = - c x y
  tr : ∀ x y z, c x y ≤ 0 → c y z ≤ 0 → c x z ≤ 0 ∧ (c x y < 0 ∨ c y z < 0 → c x z < 0)
theorem CmpOk.self {α : Type} {c : α → α → Int} (h : CmpOk c) (x : α) : c x x = 0 := by have := h.neg x x; omega
theorem CmpOk.or {α : Type} {c d : α → α → Int} (hc : CmpOk c) (hd : CmpOk d) : CmpOk (fun x y => if c x y ≠ 0 then c x y else d x y) := by
  refine ⟨fun x y => ?_, fun x y z h1 h2 => ?_⟩
  · have := hc.neg x y
    have := hd.neg x y
    by_cases h : c x y = 0
    · rw [if_neg (by omega), if_neg (by omega)]; omega
    · rw [if_pos (by omega), if_pos (by omega)]; omega
  · have t1 := hc.tr x y z
    have t2 := hd.tr x y z
    by_cases a : c x y = 0
    · rw [if_neg (by omega)] at h1
      by_cases b : c y z = 0
      · rw [if_neg (by omega)] at h2
        have n1 := hc.tr z y x (by have := hc.neg y z; omega) (by have := hc.neg x y; omega)
        have n2 := hc.neg x z
        have : c x z = 0 := by have := (t1 (by omega) (by omega)).1; omega
        simp only [a, b, this, ne_eq, not_true_eq_false, if_false]
        exact t2 h1 h2
      · rw [if_pos (by omega)] at h2
        have := (t1 (by omega) (by omega)).2 (.inr (by omega))
        rw [if_pos (show c x z ≠ 0 by omega)]
        exact ⟨by omega, fun _ => this⟩
    · rw [if_pos (by omega)] at h1
      have hb : c y z ≤ 0 := by
        by_cases b : c y z = 0
        · omega
        · rw [if_pos (by omega)] at h2; exact h2
      have := (t1 h1 hb).2 (.inl (by omega))
      rw [if_pos (show c x z ≠ 0 by omega)]
      exact ⟨by omega, fun _ => this⟩
theorem pcmp_cmp {α : Type} (f : α → ByteArray) : CmpOk (fun x y => pcmp (tl (f x)) (tl (f y))) := ⟨fun x y => pcmp_neg _ _, fun x y z h1 h2 => pcmp_trans _ _ _ h1 h2⟩
theorem ci_cmp {α : Type} (f : α → Int) : CmpOk (fun x y => ci (f y) (f x)) := by
  refine ⟨fun x y => ?_, fun x y z h1 h2 => ?_⟩
  · unfold ci; split <;> split <;> omega
  · unfold ci at *
    split at h1 <;> split at h2 <;> (try split at h1) <;> (try split at h2) <;> (split <;> (try split) <;> omega)
theorem cB_cmp : CmpOk cB := by
  have h := (ci_cmp (fun x : PrS => x.f2)).or ((pcmp_cmp (fun x : PrS => x.f0)).or (pcmp_cmp (fun x : PrS => x.f1)))
  have e : (fun x y : PrS => if ci y.f2 x.f2 ≠ 0 then ci y.f2 x.f2 else if pcmp (tl x.f0) (tl y.f0) ≠ 0 then pcmp (tl x.f0) (tl y.f0) else pcmp (tl x.f1) (tl y.f1)) = cB := rfl
  rw [← e]; exact h
theorem cT_cmp : CmpOk cT := (pcmp_cmp (fun x : PrS => x.f1)).or cB_cmp
theorem cB_zero {x y : PrS} (h : cB x y = 0) : x = y := by
  unfold cB or3 at h
  split at h
  · rename_i h1; exact absurd h h1
  · rename_i h1
    have h1 : ci y.f2 x.f2 = 0 := by omega
    split at h
    · rename_i h2; exact absurd h h2
    · rename_i h2
      have e0 := tl_inj ((pcmp_zero _ _).1 (show pcmp (tl x.f0) (tl y.f0) = 0 by omega))
      have e1 := tl_inj ((pcmp_zero _ _).1 h)
      have e2 : x.f2 = y.f2 := by unfold ci at h1; split at h1 <;> (try split at h1) <;> omega
      cases x; cases y
      simp at e0 e1 e2
      subst e0 e1 e2
      rfl
theorem cT_zero {x y : PrS} (h : cT x y = 0) : x = y := by
  unfold cT at h
  split at h
  · rename_i h1; exact absurd h h1
  · exact cB_zero h
/-- A list in order is the one list in order. -/
theorem sort_uniq {c : PrS → PrS → Int} (hc : CmpOk c) (h0 : ∀ x y, c x y = 0 → x = y) {l l' : List PrS} (hp : l'.Perm l) (hs : l'.Pairwise (fun x y => c x y ≤ 0)) : l' = l.mergeSort (fun x y => decide (c x y ≤ 0)) := by
  have hm : (l.mergeSort (fun x y => decide (c x y ≤ 0))).Pairwise (fun x y => c x y ≤ 0) := by
    have := List.pairwise_mergeSort (le := fun x y => decide (c x y ≤ 0)) (fun x y z h1 h2 => by
      simp only [decide_eq_true_eq] at *
      exact (hc.tr x y z h1 h2).1) (fun x y => by
      have := hc.neg x y
      by_cases h : c x y ≤ 0
      · simp [h]
      · have : c y x ≤ 0 := by omega
        simp [this]) l
    exact this.imp (fun h => by simpa using h)
  exact List.Perm.eq_of_pairwise (le := fun x y => c x y ≤ 0) (fun a b _ _ h1 h2 => h0 a b (by have := hc.neg a b; omega)) hs hm (hp.trans (List.mergeSort_perm _ _).symm)
theorem swo_of {c : Pr → Pr → Int} (hc : CmpOk c) : Go.Sort.SWO (Go.Proofs.ltOf (cmpOf c)) := by
  have e : ∀ x y, cmpOf c x y = c x y := fun x y => by
    unfold cmpOf
    split
    · rename_i h; rw [h, hc.self]
    · rfl
  refine ⟨fun x => ?_, fun x y z h1 h2 => ?_, fun x y z h1 h2 => ?_⟩
  · simp [Go.Proofs.ltOf, e, hc.self]
  · simp only [Go.Proofs.ltOf, e, decide_eq_true_eq] at *
    exact (hc.tr x y z (by omega) (by omega)).2 (.inl h1)
  · simp only [Go.Proofs.ltOf, e, decide_eq_false_iff_not] at *
    have n1 := hc.neg x y
    have n2 := hc.neg y z
    have n3 := hc.neg x z
    have := (hc.tr z y x (by omega) (by omega)).1
    omega
end Go.Proofs.Ytcgnkbdfoaiaiaa.P
end
section
/- A region that draws its order: the condition on worlds may be made stronger on the way; bytes that were made become a string. -/
set_option linter.unusedVariables false
namespace Go.Proofs.Ytcgnkbdfoaiaiaa.Held
open Go Go.RowKit Go.Proofs.YtcgnkbdfoaiaiaaW.PrintWords
theorem AnyS.imp {F : Fence} {n : Nat} {P : Program} {ops : Array Oper} {Q : Exit → Act → World → Prop} {md : Region.Mode} {S S' : World → Prop} {z : Nat} (h : ∀ w, S' w → S w) :
    ∀ (f : Nat) (l : Array Bool) (a : Act) (w : World), AnyS F n P md ops Q S' z f l a w → AnyS F n P md ops Q S z f l a w
  | 0, _, _, _, H => H
  | f + 1, l, a, w, H => ⟨H.1, fun i hi => wpOpIn_mono (fun a' w' h' => ⟨fun hz => h _ (h'.1 hz), AnyS.imp h f _ a' w' h'.2⟩) (H.2 i hi)⟩
theorem Same.nil (Z w : World) : Same Z [] w := fun b hb => absurd hb (by simp)
/-- From a later world on, with more blocks. -/
theorem Same.more {Z V : World} {bs bs' : List Nat} (h : Same Z bs V) (hs : ∀ b ∈ bs, b ∈ bs') : ∀ w, Same V bs' w → Same Z bs w := fun w hw b hb => (hw b (hs b hb)).trans (h b hb)
/-- What was made, and stands yet, as a string. -/
theorem conv_made {P : Program} {src dst e : TypeId} {m : Nat} {s : ByteArray} (hm : m ≤ 9223372036854775807) (hs : P.underlying src = some (.slice e)) (he : P.underlying e = some (.int .u8)) (hd : P.underlying dst = some .string) (W : World)
    (hstr : strOfNums (List.replicate m 0) = s) {bs : List Nat} (hb : W.heap.size ∈ bs) (V : World) (hV : Same (W.alloc (.cells (madeCells #[.int .u8 0] m) e)) bs V) :
    (convert src dst (.slice (some ⟨W.heap.size, 0, none⟩) m m)).run P V = .ok (.string s) V := by
  have h := own_made W 0 e .u8 m (Nat.zero_le _) hm
  have h2 := own_move h (w1 := V) (fun k hk => by
    have e : W.heap.size = k := by simpa [Value.ownBlock] using hk
    subst e
    exact hV _ hb)
  rw [← hstr]
  exact own_string hs he hd h2
/-- One of three may come up. -/
theorem AnyS.step3 {F : Fence} {n : Nat} {P : Program} {ops : Array Oper} {Q : Exit → Act → World → Prop} {md : Region.Mode} {S : World → Prop} {z : Nat} {i j m : Nat} {o o' o2 : Oper} {tl tl' tl2 : List Oper} {f : Nat} {l : Array Bool} {a : Act} {w : World} (ho : ops.toList.drop i = o :: tl) (ho' : ops.toList.drop j = o' :: tl') (ho2 : ops.toList.drop m = o2 :: tl2) (hr : Region.ready md ops l = [i, j, m]) (hw : Region.wanted o (yielded ops a.tmps) = true) (hw' : Region.wanted o' (yielded ops a.tmps) = true) (hw2 : Region.wanted o2 (yielded ops a.tmps) = true)
    (h : ∀ K : Act → World → Prop, Hid (∀ a' w', (i < z → S w') → AnyS F n P md ops Q S z f (l.setIfInBounds i true) a' w' → K a' w') → o.wpIn F n P a w K Q)
    (h' : ∀ K : Act → World → Prop, Hid (∀ a' w', (j < z → S w') → AnyS F n P md ops Q S z f (l.setIfInBounds j true) a' w' → K a' w') → o'.wpIn F n P a w K Q)
    (h2 : ∀ K : Act → World → Prop, Hid (∀ a' w', (m < z → S w') → AnyS F n P md ops Q S z f (l.setIfInBounds m true) a' w' → K a' w') → o2.wpIn F n P a w K Q) : AnyS F n P md ops Q S z (f + 1) l a w := by
  refine ⟨fun h0 => absurd (hr ▸ h0) (by simp), fun k hk => ?_⟩
  rw [hr] at hk
  unfold wpOpIn
  rcases List.mem_cons.1 hk with rfl | hk
  · simp only [at_drop ho, hw, if_true]
    exact h _ (fun a' w' h1 h2 => ⟨h1, h2⟩ : Hid _)
  · rcases List.mem_cons.1 hk with rfl | hk
    · simp only [at_drop ho', hw', if_true]
      exact h' _ (fun a' w' h1 h2 => ⟨h1, h2⟩ : Hid _)
    · obtain rfl := List.mem_singleton.1 hk
      simp only [at_drop ho2, hw2, if_true]
      exact h2 _ (fun a' w' h1 h2 => ⟨h1, h2⟩ : Hid _)
end Go.Proofs.Ytcgnkbdfoaiaiaa.Held
end
section
/- RenameApart: rows of items as lists of values. -/
set_option linter.unusedVariables false
namespace Go.Proofs.Ytcgnkbdfoaiaiaa.P
open Go Go.RowKit Go.Proofs.YtcgnkbdfoaiaiaaW.PrintWords Go.Proofs.YtcgnkbdfoaiaiaaW.PrintLast Go.Proofs.YtcgnkbdfoaiaiaaW.PrintMore
abbrev encI (x : S33) : List Value := [.string x.f0, .int .i64 x.f1, .string x.f2, .bool x.f3]
theorem row_of_R {w : World} {base : Nat} {ok : Nat → Prop} {v : Value} {l : List S33} (h : Kd.R k33 33 w base ok v l) : ∃ inner, w.ownsRow base 33 4 v l.length inner ∧ Reps (fun x c => c = encI x) 4 l inner := by
  obtain ⟨_, inner, ho, hr⟩ := h
  exact ⟨inner, ho, hr.imp_ (fun p c hc => k33_openM hc)⟩
theorem R_of_row {w : World} {base : Nat} {v : Value} {l : List S33} {inner : List Value} (ho : w.ownsRow base 33 4 v l.length inner) (hr : Reps (fun x c => c = encI x) 4 l inner) : Kd.R k33 33 w base (fun _ => True) v l :=
  ⟨fun _ _ => trivial, inner, ho, hr.imp_ (fun p c hc => by rw [hc]; exact k33_mkM _ _ _ _)⟩
theorem encI_one {l : List S33} {inner : List Value} (hr : Reps (fun x c => c = encI x) 4 l inner) : ∀ u ∈ inner, u.oneCell' = true :=
  Kd.reps_one hr (by decide) (fun p c h u hu => by
    rw [h] at hu
    simp [encI] at hu
    rcases hu with rfl | rfl | rfl | rfl <;> rfl)
theorem own_news {w : World} {base : Nat} {e : TypeId} {size n c : Nat} {A : Option Addr} {xs : List Value} (h : w.ownsRow base e size (.slice A n c) n xs) : (A = none ∧ n = 0) ∨ ∃ ad, A = some ad ∧ ∀ j u, xs[j]? = some u → w.cell? (ad.add j) = some u := by
  rcases h.2 with ⟨e1, e2⟩ | ⟨g, cap, cur, e1, _⟩
  · injection e1 with e1
    exact .inl ⟨e1, e2⟩
  · injection e1 with e1
    subst e1
    exact .inr ⟨_, rfl, fun j u hu => h.cells (g := g) rfl j u hu⟩
theorem reps_item (x : S33) : Reps (fun x c => c = encI x) 4 [x] (encI x) := Reps.snoc (Reps.none _ _) rfl rfl
/-- What is left of a body behind its first n parts. -/
def sndN : Nat → Code → Code
  | 0, c => c
  | n + 1, .seq _ b => sndN n b
  | _ + 1, c => c
end Go.Proofs.Ytcgnkbdfoaiaiaa.P
end
section
/- Laid for this claim by hp.py, this session's program round the kit's print: functions of the program as plain Lean functions, the proofs that the code comes to their answers, and the rows of the laws. Not trusted: Lean checks it. -/
namespace Go.Proofs.Ytcgnkbdfoaiaiaa.P
open Go.RowKit Go.Proofs.YtcgnkbdfoaiaiaaW.PrintWords Go.Proofs.YtcgnkbdfoaiaiaaW.PrintLast Go.Proofs.YtcgnkbdfoaiaiaaW.PrintMore
attribute [local go_sem] max2_int min2_int max_two min_two max_three min_three max_four min_four   -- for this text's walks alone
set_option linter.unusedVariables false
set_option linter.unusedSimpArgs false

/-! ### collatorref01_split: function 43 -/
def collatorref01_split.l0 : Nat → ByteArray → List ByteArray → Int → Int → Option (List ByteArray)
 | 0, _, _, _, _ => none
 | k + 1, x0, x3, x4, x5 => if x5 < (x0.size : Int) then (if 0 ≤ x5 then (if (bt x0 x5) = 47 then (if 0 ≤ x4 then (if x4 ≤ x5 then (if x5 ≤ (x0.size : Int) then (if x3.length < 8796093022208 then (collatorref01_split.l0 k x0 (x3 ++ [x0.extract (x4 : Int).toNat (x5 : Int).toNat]) (wrap64 (x5 + 1)) (wrap64 (x5 + 1))) else (none)) else (none)) else (none)) else (none)) else (collatorref01_split.l0 k x0 x3 x4 (wrap64 (x5 + 1)))) else (none)) else (if 0 ≤ x4 then (if x4 ≤ (x0.size : Int) then (if x3.length < 8796093022208 then (some (x3 ++ [x0.extract (x4 : Int).toNat x0.size])) else (none)) else (none)) else (none))
def collatorref01_split.f (k : Nat) (a0 : ByteArray) : Option (List ByteArray) := collatorref01_split.l0 k a0 ([] : List ByteArray) 0 0
theorem collatorref01_split.mono_l : ∀ k, (∀ y0 y1 y2 y3, LeO (collatorref01_split.l0 k y0 y1 y2 y3) (collatorref01_split.l0 (k + 1) y0 y1 y2 y3))
 | 0 => fun _ _ _ _ r h => by simp [collatorref01_split.l0] at h
 | k + 1 => by
  have ih0 := collatorref01_split.mono_l k
  ·intro y0 y1 y2 y3
   unfold collatorref01_split.l0
   repeat' first
   | (with_reducible exact ih0 _ _ _ _)
   | (with_reducible exact LeO.refl _)
   | (with_reducible exact LeO.none _)
   | (with_reducible refine LeO.ite ?_ ?_)
   | (with_reducible refine LeO.bind ?_ (fun _ => ?_))
   | exact ih0 _ _ _ _
   | exact LeO.none _
   | refine LeO.ite ?_ ?_
   | refine LeO.bind ?_ (fun _ => ?_)
theorem collatorref01_split.mono : ∀ a0 k, LeO (collatorref01_split.f k a0) (collatorref01_split.f (k + 1) a0) := by
 intro a0 k
 have ih0 := collatorref01_split.mono_l k
 unfold collatorref01_split.f
 repeat' first
   | (with_reducible exact ih0 _ _ _ _)
   | (with_reducible exact LeO.refl _)
   | (with_reducible exact LeO.none _)
   | (with_reducible refine LeO.ite ?_ ?_)
   | (with_reducible refine LeO.bind ?_ (fun _ => ?_))
   | exact ih0 _ _ _ _
   | exact LeO.none _
   | refine LeO.ite ?_ ?_
   | refine LeO.bind ?_ (fun _ => ?_)
set_option maxHeartbeats 8000000 in
set_option maxRecDepth 100000 in
theorem collatorref01_split.calls (k : Nat) (a0 : ByteArray) (r : List ByteArray) (w : World) (h : collatorref01_split.f k a0 = some r) :
  Calls Try.prog 43 #[.string a0] w fun e w' => ∃ v0_ : Value, e = .returned (v0_) ∧ Kd.R Kd.string 9 w' w.heap.size (fun _ => True) v0_ r ∧ Below w.heap.size w w' := by
 have HB := Aside0.mk (Below.refl w.heap.size w)
 have H : (collatorref01_split.l0 k a0 ([] : List ByteArray) 0 0) = some r := h
 clear h
 have H' := Aside0.mk H
 clear H
 go_enter Try.func43, Try.ntmps43
 go_wp2
 go_loopg [3, 4, 5] k (fun kq v3 v4 v5 w' => ∃ (x3_1 : List ByteArray) (x4_1 : Int) (x5_1 : Int), v4 = .int .i64 x4_1 ∧ v5 = .int .i64 x5_1 ∧ Aside0 (collatorref01_split.l0 kq a0 x3_1 x4_1 x5_1 = some r) ∧ Aside0 (kq ≤ k) ∧ Aside0 (Kd.R Kd.string 9 w' w.heap.size (fun _ => True) v3 x3_1) ∧ Aside0 (Below w.heap.size w w'))
 case atStart => exact ⟨(([] : List ByteArray)), (0), (0), (by first | rfl | (simp; done) | (simp [*]; done)), (by first | rfl | (simp; done) | (simp [*]; done)), H', ⟨Nat.le_refl _⟩, ⟨by first | exact Kd.R_nil _ _ _ _ _ | exact Kd.N_nil _ _ _ _ _ | exact Kd.V_nil _ _ _ _ _ | exact Kd.Q_nil _ _ _ _ _ | exact Kd.S_nil _ _ _ _ _⟩, ⟨by repeat (first | (with_reducible first | exact HB.out | apply below_alloc | apply pw_below_drewN | apply below_drew1) | exact HB.out)⟩⟩
 case round =>
  clear H'
  obtain ⟨x3_1, x4_1, x5_1, rfl, rfl, HA, HK1, HO_3, HB⟩ := hrel
  cases gk with
  | zero => exact absurd HA.out (by simp [collatorref01_split.l0])
  | succ k1 =>
   have H := HA.out
   clear HA
   simp only [collatorref01_split.l0] at H
   by_cases c2 : x5_1 < (a0.size : Int)
   ·rw [if_pos c2] at H
    have c2b0 : decide (x5_1 < (a0.size : Int)) = true := decide_eq_true c2
    clear c2
    by_cases c3 : 0 ≤ x5_1
    ·rw [if_pos c3] at H
     have c3b0 : decide (0 ≤ x5_1) = true := decide_eq_true c3
     clear c3
     by_cases c5 : (bt a0 x5_1) = 47
     ·rw [if_pos c5] at H
      have c5b0 : ((bt a0 x5_1) == 47) = true := beq_iff_eq.mpr c5
      have c5b1 : ((bt a0 x5_1) != 47) = false := bne_eq_false_iff_eq.mpr c5
      clear c5
      by_cases c6 : 0 ≤ x4_1
      ·rw [if_pos c6] at H
       have c6b0 := eq_true c6
       have c6b1 : decide (0 ≤ x4_1) = true := decide_eq_true c6
       clear c6
       by_cases c7 : x4_1 ≤ x5_1
       ·rw [if_pos c7] at H
        have c7b0 := eq_true c7
        have c7b1 : decide (x4_1 ≤ x5_1) = true := decide_eq_true c7
        clear c7
        by_cases c8 : x5_1 ≤ (a0.size : Int)
        ·rw [if_pos c8] at H
         have c8b0 := eq_true c8
         have c8b1 : decide (x5_1 ≤ (a0.size : Int)) = true := decide_eq_true c8
         clear c8
         by_cases c9 : x3_1.length < 8796093022208
         ·rw [if_pos c9] at H
          have LMc9 := Aside0.mk c9
          clear c9
          obtain ⟨y182, hy182⟩ : ∃ y_ : List ByteArray, y_ = (x3_1 ++ [a0.extract (x4_1 : Int).toNat (x5_1 : Int).toNat]) := ⟨_, rfl⟩
          replace H : (collatorref01_split.l0 k1 a0 y182 (wrap64 (x5_1 + 1)) (wrap64 (x5_1 + 1))) = some r := by first | (rw [hy182]; with_reducible exact H) | (have H2_ := (Option.bind_some _ _).symm.trans H; rw [hy182]; with_reducible exact H2_) | (have H2_ := (Option.bind_some _ _).symm.trans H; with_reducible exact H2_) | with_reducible exact H | (rw [hy182]; exact H) | exact H
          have Ny182 := Aside0.mk hy182
          clear hy182
          have H' := Aside0.mk H
          clear H
          have p4 : 0 ≤ (x5_1 : Int) := of_decide_eq_true (by first | (with_reducible assumption) | assumption)
          have q4 : x5_1 < (a0.size : Int) := of_decide_eq_true (by first | (with_reducible assumption) | assumption)
          have hx4 := bt_at a0 x5_1
          replace p4 := eq_true p4
          replace q4 := eq_true q4
          go_wp2_with (first | ((with_reducible refine gate_builtin (b := .append) (xs := #[.tmp 16, .tmp 21]) rfl ?_); at_builtin; refine Kd.R_append Kd.string (w0 := w) w.heap.size rfl (.tmp 16) (.tmp 21) 44 9 (.string ⟨#[]⟩) 16 rfl Try.underlying44 info9 rfl (by decide) (by omega) u3 x3_1 (a0.extract (x4_1 : Int).toNat (x5_1 : Int).toNat) [.string (a0.extract (x4_1 : Int).toNat (x5_1 : Int).toNat)] (fun _ => True) (fun _ => False) rfl rfl ?aP (fun _ hk => hk.elim) ?aF ?aO ?aB ?aS ?aL ?_; (case aP => exact rfl); (case aB => exact (by repeat (first | (with_reducible first | exact HB.out | apply below_alloc | apply pw_below_drewN | apply below_drew1) | exact HB.out))); (case aF => exact (fun _ _ => trivial)); (case aO => exact (by (with_reducible repeat (first | apply Kd.R_alloc | apply Kd.R_drewN | apply Kd.R_drew)); exact HO_3.out)); (case aS => exact (below_size (by repeat (first | (with_reducible first | exact HB.out | apply below_alloc | apply pw_below_drewN | apply below_drew1) | exact HB.out)))); (case aL => have := LMc9.out; omega); intro v183 w10 ho hb hg hat; rw [← Ny182.out] at ho; have n0_ := Aside0.mk (hb); have n1_ := Aside0.mk (ho); clear HB; clear HO_3; have HB := n0_; have HO184 := n1_; clear n0_ n1_; clear ho hb hg hat))
          go_roundg k1
          case measure => have := HK1.out; omega
          case rel => exact ⟨(y182), (wrap64 (x5_1 + 1)), (wrap64 (x5_1 + 1)), (by first | rfl | (simp; done) | (simp [*]; done)), (by first | rfl | (simp; done) | (simp [*]; done)), H', ⟨by have := HK1.out; omega⟩, ⟨by (with_reducible repeat (first | apply Kd.R_alloc | apply Kd.R_drewN | apply Kd.R_drew)); exact HO184.out⟩, ⟨by repeat (first | (with_reducible first | exact HB.out | apply below_alloc | apply pw_below_drewN | apply below_drew1) | exact HB.out)⟩⟩
         ·rw [if_neg c9] at H
          exact absurd H (by simp)
        ·rw [if_neg c8] at H
         exact absurd H (by simp)
       ·rw [if_neg c7] at H
        exact absurd H (by simp)
      ·rw [if_neg c6] at H
       exact absurd H (by simp)
     ·rw [if_neg c5] at H
      have c5b0 : ((bt a0 x5_1) == 47) = false := beq_eq_false_iff_ne.mpr c5
      have c5b1 : ((bt a0 x5_1) != 47) = true := bne_iff_ne.mpr c5
      have H' := Aside0.mk H
      clear H
      have p4 : 0 ≤ (x5_1 : Int) := of_decide_eq_true (by first | (with_reducible assumption) | assumption)
      have q4 : x5_1 < (a0.size : Int) := of_decide_eq_true (by first | (with_reducible assumption) | assumption)
      have hx4 := bt_at a0 x5_1
      replace p4 := eq_true p4
      replace q4 := eq_true q4
      go_wp2
      go_roundg k1
      case measure => have := HK1.out; omega
      case rel => exact ⟨(x3_1), (x4_1), (wrap64 (x5_1 + 1)), (by first | rfl | (simp; done) | (simp [*]; done)), (by first | rfl | (simp; done) | (simp [*]; done)), H', ⟨by have := HK1.out; omega⟩, ⟨by (with_reducible repeat (first | apply Kd.R_alloc | apply Kd.R_drewN | apply Kd.R_drew)); exact HO_3.out⟩, ⟨by repeat (first | (with_reducible first | exact HB.out | apply below_alloc | apply pw_below_drewN | apply below_drew1) | exact HB.out)⟩⟩
    ·rw [if_neg c3] at H
     exact absurd H (by simp)
   ·rw [if_neg c2] at H
    have c2b0 : decide (x5_1 < (a0.size : Int)) = false := decide_eq_false c2
    clear c2
    by_cases c11 : 0 ≤ x4_1
    ·rw [if_pos c11] at H
     have c11b0 := eq_true c11
     have c11b1 : decide (0 ≤ x4_1) = true := decide_eq_true c11
     clear c11
     by_cases c12 : x4_1 ≤ (a0.size : Int)
     ·rw [if_pos c12] at H
      have c12b0 := eq_true c12
      have c12b1 : decide (x4_1 ≤ (a0.size : Int)) = true := decide_eq_true c12
      clear c12
      by_cases c13 : x3_1.length < 8796093022208
      ·rw [if_pos c13] at H
       have LMc13 := Aside0.mk c13
       clear c13
       obtain ⟨y185, hy185⟩ : ∃ y_ : List ByteArray, y_ = (x3_1 ++ [a0.extract (x4_1 : Int).toNat a0.size]) := ⟨_, rfl⟩
       replace H : (some y185) = some r := by first | (rw [hy185]; with_reducible exact H) | (have H2_ := (Option.bind_some _ _).symm.trans H; rw [hy185]; with_reducible exact H2_) | (have H2_ := (Option.bind_some _ _).symm.trans H; with_reducible exact H2_) | with_reducible exact H | (rw [hy185]; exact H) | exact H
       have Ny185 := Aside0.mk hy185
       clear hy185
       obtain rfl := Option.some.inj H
       go_wp2_with (first | ((with_reducible refine gate_builtin (b := .append) (xs := #[.tmp 25, .tmp 29]) rfl ?_); at_builtin; refine Kd.R_append Kd.string (w0 := w) w.heap.size rfl (.tmp 25) (.tmp 29) 44 9 (.string ⟨#[]⟩) 16 rfl Try.underlying44 info9 rfl (by decide) (by omega) u3 x3_1 (a0.extract (x4_1 : Int).toNat a0.size) [.string (a0.extract (x4_1 : Int).toNat a0.size)] (fun _ => True) (fun _ => False) rfl rfl ?aP (fun _ hk => hk.elim) ?aF ?aO ?aB ?aS ?aL ?_; (case aP => exact rfl); (case aB => exact (by repeat (first | (with_reducible first | exact HB.out | apply below_alloc | apply pw_below_drewN | apply below_drew1) | exact HB.out))); (case aF => exact (fun _ _ => trivial)); (case aO => exact (by (with_reducible repeat (first | apply Kd.R_alloc | apply Kd.R_drewN | apply Kd.R_drew)); exact HO_3.out)); (case aS => exact (below_size (by repeat (first | (with_reducible first | exact HB.out | apply below_alloc | apply pw_below_drewN | apply below_drew1) | exact HB.out)))); (case aL => have := LMc13.out; omega); intro v186 w14 ho hb hg hat; rw [← Ny185.out] at ho; have n0_ := Aside0.mk (hb); have n1_ := Aside0.mk (ho); clear HB; clear HO_3; have HB := n0_; have HO187 := n1_; clear n0_ n1_; clear ho hb hg hat))
       go_ret
       exact ⟨_, by first | rfl | (simp [errW_none, errW_some] <;> rfl) | (simp [*, errW_none, errW_some] <;> rfl), by (with_reducible repeat (first | apply Kd.R_alloc | apply Kd.R_drewN | apply Kd.R_drew)); exact HO187.out, by repeat (first | (with_reducible first | exact HB.out | apply below_alloc | apply pw_below_drewN | apply below_drew1) | exact HB.out)⟩
      ·rw [if_neg c13] at H
       exact absurd H (by simp)
     ·rw [if_neg c12] at H
      exact absurd H (by simp)
    ·rw [if_neg c11] at H
     exact absurd H (by simp)

end Go.Proofs.Ytcgnkbdfoaiaiaa.P
end
section
/- Laid for this claim by hp.py, this session's program round the kit's print: functions of the program as plain Lean functions, the proofs that the code comes to their answers, and the rows of the laws. Not trusted: Lean checks it. -/
namespace Go.Proofs.Ytcgnkbdfoaiaiaa.P
open Go.RowKit Go.Proofs.YtcgnkbdfoaiaiaaW.PrintWords Go.Proofs.YtcgnkbdfoaiaiaaW.PrintLast Go.Proofs.YtcgnkbdfoaiaiaaW.PrintMore
attribute [local go_sem] max2_int min2_int max_two min_two max_three min_three max_four min_four   -- for this text's walks alone
set_option linter.unusedVariables false
set_option linter.unusedSimpArgs false

/-! ### collatorref01_may: function 52 -/
mutual
def collatorref01_may.j0 : Nat → ByteArray → Bool → Option (Bool)
 | 0, _, _ => none
 | k + 1, x0, x18 => if x18 = true then (some false) else (collatorref01_may.l0 k x0 0)
def collatorref01_may.l0 : Nat → ByteArray → Int → Option (Bool)
 | 0, _, _ => none
 | k + 1, x0, x3 => if x3 < (x0.size : Int) then (if 0 ≤ x3 then (if (bt x0 x3) = 0 then (some false) else (collatorref01_may.l0 k x0 (wrap64 (x3 + 1)))) else (none)) else (some true)
end
def collatorref01_may.f (k : Nat) (a0 : ByteArray) : Option (Bool) := if a0.toList = ([] : List UInt8) then (collatorref01_may.j0 k a0 true) else (if a0.toList = ([46] : List UInt8) then (collatorref01_may.j0 k a0 true) else (if a0.toList = ([46, 46] : List UInt8) then (collatorref01_may.j0 k a0 true) else (collatorref01_may.j0 k a0 (decide ((a0.size : Int) > 64)))))
theorem collatorref01_may.mono_l : ∀ k, (∀ y0 y1, LeO (collatorref01_may.j0 k y0 y1) (collatorref01_may.j0 (k + 1) y0 y1)) ∧ (∀ y0 y1, LeO (collatorref01_may.l0 k y0 y1) (collatorref01_may.l0 (k + 1) y0 y1))
 | 0 => ⟨fun _ _ r h => by simp [collatorref01_may.j0] at h, fun _ _ r h => by simp [collatorref01_may.l0] at h⟩
 | k + 1 => by
  obtain ⟨ih0, ih1⟩ := collatorref01_may.mono_l k
  refine ⟨?_, ?_⟩
  ·intro y0 y1
   unfold collatorref01_may.j0
   repeat' first
   | (with_reducible exact ih0 _ _)
   | (with_reducible exact ih1 _ _)
   | (with_reducible exact LeO.refl _)
   | (with_reducible exact LeO.none _)
   | (with_reducible refine LeO.ite ?_ ?_)
   | (with_reducible refine LeO.bind ?_ (fun _ => ?_))
   | exact ih0 _ _
   | exact ih1 _ _
   | exact LeO.none _
   | refine LeO.ite ?_ ?_
   | refine LeO.bind ?_ (fun _ => ?_)
  ·intro y0 y1
   unfold collatorref01_may.l0
   repeat' first
   | (with_reducible exact ih0 _ _)
   | (with_reducible exact ih1 _ _)
   | (with_reducible exact LeO.refl _)
   | (with_reducible exact LeO.none _)
   | (with_reducible refine LeO.ite ?_ ?_)
   | (with_reducible refine LeO.bind ?_ (fun _ => ?_))
   | exact ih0 _ _
   | exact ih1 _ _
   | exact LeO.none _
   | refine LeO.ite ?_ ?_
   | refine LeO.bind ?_ (fun _ => ?_)
theorem collatorref01_may.mono : ∀ a0 k, LeO (collatorref01_may.f k a0) (collatorref01_may.f (k + 1) a0) := by
 intro a0 k
 obtain ⟨ih0, ih1⟩ := collatorref01_may.mono_l k
 unfold collatorref01_may.f
 repeat' first
   | (with_reducible exact ih0 _ _)
   | (with_reducible exact ih1 _ _)
   | (with_reducible exact LeO.refl _)
   | (with_reducible exact LeO.none _)
   | (with_reducible refine LeO.ite ?_ ?_)
   | (with_reducible refine LeO.bind ?_ (fun _ => ?_))
   | exact ih0 _ _
   | exact ih1 _ _
   | exact LeO.none _
   | refine LeO.ite ?_ ?_
   | refine LeO.bind ?_ (fun _ => ?_)
set_option maxHeartbeats 8000000 in
set_option maxRecDepth 100000 in
theorem collatorref01_may.calls (k : Nat) (a0 : ByteArray) (r : Bool) (w : World) (h : collatorref01_may.f k a0 = some r) :
  Calls Try.prog 52 #[.string a0] w fun e w' => e = .returned (.bool r) ∧ Drawn0 w w' := by
 have H : (if a0.toList = ([] : List UInt8) then (collatorref01_may.j0 k a0 true) else (if a0.toList = ([46] : List UInt8) then (collatorref01_may.j0 k a0 true) else (if a0.toList = ([46, 46] : List UInt8) then (collatorref01_may.j0 k a0 true) else (collatorref01_may.j0 k a0 (decide ((a0.size : Int) > 64)))))) = some r := h
 clear h
 have HC2 := Aside0.mk H
 clear H
 go_enter Try.func52, Try.ntmps52
 go_upto_region 1 with (fail)
 go_cut [18] (fun v18 wc => ∃ (kq : Nat) (x18_1 : Bool), v18 = .bool x18_1 ∧ Aside0 (collatorref01_may.j0 kq a0 x18_1 = some r) ∧ Aside0 (kq ≤ k) ∧ Drawn0 w wc)
 case first =>
  have H := HC2.out
  clear HC2
  by_cases c3 : a0.toList = ([] : List UInt8)
  ·rw [if_pos c3] at H
   have c3b0 : (a0.toList == ([] : List UInt8)) = true := beq_iff_eq.mpr c3
   have c3b1 : (a0.toList != ([] : List UInt8)) = false := bne_eq_false_iff_eq.mpr c3
   clear c3
   (first | rw [c3b0] | rw [c3b1] | (simp only [i64_w, i32_w]; rw [c3b0]) | skip)
   have H' := Aside0.mk H
   clear H
   go_wp2
   go_meet
   case rel => exact ⟨_, (true), (by first | rfl | (simp; done) | (simp [bne]; done) | (simp [*]; done)), H', ⟨by first | omega | exact Nat.le_refl _⟩, by repeat (first | exact Drawn0.refl _ | apply Drawn0.step)⟩
  ·rw [if_neg c3] at H
   have c3b0 : (a0.toList == ([] : List UInt8)) = false := beq_eq_false_iff_ne.mpr c3
   have c3b1 : (a0.toList != ([] : List UInt8)) = true := bne_iff_ne.mpr c3
   (first | rw [c3b0] | rw [c3b1] | (simp only [i64_w, i32_w]; rw [c3b0]) | skip)
   by_cases c4 : a0.toList = ([46] : List UInt8)
   ·rw [if_pos c4] at H
    have c4b0 : (a0.toList == ([46] : List UInt8)) = true := beq_iff_eq.mpr c4
    have c4b1 : (a0.toList != ([46] : List UInt8)) = false := bne_eq_false_iff_eq.mpr c4
    clear c4
    have H' := Aside0.mk H
    clear H
    go_wp2
    go_meet
    case rel => exact ⟨_, (true), (by first | rfl | (simp; done) | (simp [bne]; done) | (simp [*]; done)), H', ⟨by first | omega | exact Nat.le_refl _⟩, by repeat (first | exact Drawn0.refl _ | apply Drawn0.step)⟩
   ·rw [if_neg c4] at H
    have c4b0 : (a0.toList == ([46] : List UInt8)) = false := beq_eq_false_iff_ne.mpr c4
    have c4b1 : (a0.toList != ([46] : List UInt8)) = true := bne_iff_ne.mpr c4
    by_cases c5 : a0.toList = ([46, 46] : List UInt8)
    ·rw [if_pos c5] at H
     have c5b0 : (a0.toList == ([46, 46] : List UInt8)) = true := beq_iff_eq.mpr c5
     have c5b1 : (a0.toList != ([46, 46] : List UInt8)) = false := bne_eq_false_iff_eq.mpr c5
     clear c5
     have H' := Aside0.mk H
     clear H
     go_wp2
     go_meet
     case rel => exact ⟨_, (true), (by first | rfl | (simp; done) | (simp [bne]; done) | (simp [*]; done)), H', ⟨by first | omega | exact Nat.le_refl _⟩, by repeat (first | exact Drawn0.refl _ | apply Drawn0.step)⟩
    ·rw [if_neg c5] at H
     have c5b0 : (a0.toList == ([46, 46] : List UInt8)) = false := beq_eq_false_iff_ne.mpr c5
     have c5b1 : (a0.toList != ([46, 46] : List UInt8)) = true := bne_iff_ne.mpr c5
     have H' := Aside0.mk H
     clear H
     go_wp2
     go_meet
     case rel => exact ⟨_, (decide ((a0.size : Int) > 64)), (by first | rfl | (simp; done) | (simp [bne]; done) | (simp [*]; done)), H', ⟨by first | omega | exact Nat.le_refl _⟩, by repeat (first | exact Drawn0.refl _ | apply Drawn0.step)⟩
 case rest =>
  clear HC2
  (try clear p2);(try clear c3);(try clear c3b0);(try clear c3b1);(try clear c4);(try clear c4b0);(try clear c4b1);(try clear c5);(try clear c5b0);(try clear c5b1)
  obtain ⟨kq, x18_1, rfl, HA, HJ1, ⟨mc1, rfl⟩⟩ := hcut
  cases kq with
  | zero => exact absurd HA.out (by simp [collatorref01_may.j0])
  | succ kj1 =>
   have H := HA.out
   clear HA
   simp only [collatorref01_may.j0] at H
   by_cases c6 : x18_1 = true
   ·subst c6
    have H1 : (some false) = some r := by rw [if_pos rfl] at H; exact H
    clear H
    have H := H1
    clear H1
    obtain rfl := Option.some.inj H
    go_wp2
    go_ret
    exact ⟨by first | rfl | (simp; done) | (simp [bne]; done) | (simp [*]; done), by repeat (first | exact Drawn0.refl _ | apply Drawn0.step)⟩
   ·replace c6 := Bool.eq_false_iff.mpr c6
    subst c6
    have H1 : (collatorref01_may.l0 kj1 a0 0) = some r := by rw [if_neg (show ¬ (false = true) by decide)] at H; exact H
    clear H
    have H := H1
    clear H1
    have H' := Aside0.mk H
    clear H
    go_wp2
    go_loopg [3] kj1 (fun kq v3 w' => ∃ (x3_2 : Int), v3 = .int .i64 x3_2 ∧ Aside0 (collatorref01_may.l0 kq a0 x3_2 = some r) ∧ Aside0 (kq ≤ kj1) ∧ Drawn0 w w')
    case atStart => exact ⟨(0), (by first | rfl | (simp; done) | (simp [bne]; done) | (simp [*]; done)), H', ⟨Nat.le_refl _⟩, by repeat (first | exact Drawn0.refl _ | apply Drawn0.step)⟩
    case round =>
     clear H'
     (try clear c1);(try clear p2);(try clear c3);(try clear c3b0);(try clear c3b1);(try clear c4);(try clear c4b0);(try clear c4b1);(try clear c5);(try clear c5b0);(try clear c5b1);(try clear c6);(try clear p2)
     obtain ⟨x3_2, rfl, HA, HK2, ⟨m2, rfl⟩⟩ := hrel
     cases gk with
     | zero => exact absurd HA.out (by simp [collatorref01_may.l0])
     | succ k2 =>
      have H := HA.out
      clear HA
      simp only [collatorref01_may.l0] at H
      by_cases c7 : x3_2 < (a0.size : Int)
      ·rw [if_pos c7] at H
       have c7b0 : decide (x3_2 < (a0.size : Int)) = true := decide_eq_true c7
       clear c7
       by_cases c8 : 0 ≤ x3_2
       ·rw [if_pos c8] at H
        have c8b0 : decide (0 ≤ x3_2) = true := decide_eq_true c8
        clear c8
        by_cases c10 : (bt a0 x3_2) = 0
        ·rw [if_pos c10] at H
         have c10b0 : ((bt a0 x3_2) == 0) = true := beq_iff_eq.mpr c10
         have c10b1 : ((bt a0 x3_2) != 0) = false := bne_eq_false_iff_eq.mpr c10
         clear c10
         obtain rfl := Option.some.inj H
         have p9 : 0 ≤ (x3_2 : Int) := of_decide_eq_true (by first | (with_reducible assumption) | assumption)
         have q9 : x3_2 < (a0.size : Int) := of_decide_eq_true (by first | (with_reducible assumption) | assumption)
         have hx9 := bt_at a0 x3_2
         replace p9 := eq_true p9
         replace q9 := eq_true q9
         go_wp2
         go_ret
         exact ⟨by first | rfl | (simp; done) | (simp [bne]; done) | (simp [*]; done), by repeat (first | exact Drawn0.refl _ | apply Drawn0.step)⟩
        ·rw [if_neg c10] at H
         have c10b0 : ((bt a0 x3_2) == 0) = false := beq_eq_false_iff_ne.mpr c10
         have c10b1 : ((bt a0 x3_2) != 0) = true := bne_iff_ne.mpr c10
         have H' := Aside0.mk H
         clear H
         have p9 : 0 ≤ (x3_2 : Int) := of_decide_eq_true (by first | (with_reducible assumption) | assumption)
         have q9 : x3_2 < (a0.size : Int) := of_decide_eq_true (by first | (with_reducible assumption) | assumption)
         have hx9 := bt_at a0 x3_2
         replace p9 := eq_true p9
         replace q9 := eq_true q9
         go_wp2
         go_roundg k2
         case measure => have := HJ1.out; have := HK2.out; omega
         case rel => exact ⟨(wrap64 (x3_2 + 1)), (by first | rfl | (simp; done) | (simp [bne]; done) | (simp [*]; done)), H', ⟨by have := HJ1.out; have := HK2.out; omega⟩, by repeat (first | exact Drawn0.refl _ | apply Drawn0.step)⟩
       ·rw [if_neg c8] at H
        exact absurd H (by simp)
      ·rw [if_neg c7] at H
       have c7b0 : decide (x3_2 < (a0.size : Int)) = false := decide_eq_false c7
       clear c7
       obtain rfl := Option.some.inj H
       go_wp2
       go_ret
       exact ⟨by first | rfl | (simp; done) | (simp [bne]; done) | (simp [*]; done), by repeat (first | exact Drawn0.refl _ | apply Drawn0.step)⟩

end Go.Proofs.Ytcgnkbdfoaiaiaa.P
end
section
/- Laid for this claim by hp.py, this session's program round the kit's print: functions of the program as plain Lean functions, the proofs that the code comes to their answers, and the rows of the laws. Not trusted: Lean checks it. -/
namespace Go.Proofs.Ytcgnkbdfoaiaiaa.P
open Go.RowKit Go.Proofs.YtcgnkbdfoaiaiaaW.PrintWords Go.Proofs.YtcgnkbdfoaiaiaaW.PrintLast Go.Proofs.YtcgnkbdfoaiaiaaW.PrintMore
attribute [local go_sem] max2_int min2_int max_two min_two max_three min_three max_four min_four   -- for this text's walks alone
set_option linter.unusedVariables false
set_option linter.unusedSimpArgs false

/-! ### collatorref01_Check: function 42 -/
def collatorref01_Check.l0 : Nat → List ByteArray → Int → Option (Int)
 | 0, _, _ => none
 | k + 1, x3, x4 => if x4 < (x3.length : Int) then (if 0 ≤ x4 then ((collatorref01_may.f k (rdOf ByteArray.empty x3 x4)).bind fun t274 => (if t274 = true then (collatorref01_Check.l0 k x3 (wrap64 (x4 + 1))) else (some 2))) else (none)) else (if (x3.length : Int) > 16 then (some 3) else (some 0))
def collatorref01_Check.f (k : Nat) (a0 : ByteArray) : Option (Int) := (collatorref01_split.f k a0).bind fun t270 => (collatorref01_Check.l0 k t270 0)
theorem collatorref01_Check.mono_l : ∀ k, (∀ y0 y1, LeO (collatorref01_Check.l0 k y0 y1) (collatorref01_Check.l0 (k + 1) y0 y1))
 | 0 => fun _ _ r h => by simp [collatorref01_Check.l0] at h
 | k + 1 => by
  have ih0 := collatorref01_Check.mono_l k
  ·intro y0 y1
   unfold collatorref01_Check.l0
   repeat' first
   | (with_reducible exact ih0 _ _)
   | (with_reducible exact collatorref01_may.mono _ _)
   | (with_reducible exact collatorref01_split.mono _ _)
   | (with_reducible exact LeO.refl _)
   | (with_reducible exact LeO.none _)
   | (with_reducible refine LeO.ite ?_ ?_)
   | (with_reducible refine LeO.bind ?_ (fun _ => ?_))
   | exact ih0 _ _
   | exact collatorref01_may.mono _ _
   | exact collatorref01_split.mono _ _
   | exact LeO.none _
   | refine LeO.ite ?_ ?_
   | refine LeO.bind ?_ (fun _ => ?_)
theorem collatorref01_Check.mono : ∀ a0 k, LeO (collatorref01_Check.f k a0) (collatorref01_Check.f (k + 1) a0) := by
 intro a0 k
 have ih0 := collatorref01_Check.mono_l k
 unfold collatorref01_Check.f
 repeat' first
   | (with_reducible exact ih0 _ _)
   | (with_reducible exact collatorref01_may.mono _ _)
   | (with_reducible exact collatorref01_split.mono _ _)
   | (with_reducible exact LeO.refl _)
   | (with_reducible exact LeO.none _)
   | (with_reducible refine LeO.ite ?_ ?_)
   | (with_reducible refine LeO.bind ?_ (fun _ => ?_))
   | exact ih0 _ _
   | exact collatorref01_may.mono _ _
   | exact collatorref01_split.mono _ _
   | exact LeO.none _
   | refine LeO.ite ?_ ?_
   | refine LeO.bind ?_ (fun _ => ?_)
set_option maxHeartbeats 8000000 in
set_option maxRecDepth 100000 in
theorem collatorref01_Check.calls (k : Nat) (a0 : ByteArray) (r : Int) (w : World) (h : collatorref01_Check.f k a0 = some r) :
  Calls Try.prog 42 #[.string a0] w fun e w' => e = .returned (.int .i64 r) ∧ Below w.heap.size w w' := by
 have HB := Aside0.mk (Below.refl w.heap.size w)
 have H : ((collatorref01_split.f k a0).bind fun t270 => (collatorref01_Check.l0 k t270 0)) = some r := h
 clear h
 replace H := Option.bind_eq_some_iff.mp H
 obtain ⟨t270, A20, H⟩ := H
 replace H : (collatorref01_Check.l0 k t270 0) = some r := H
 have A2 := Aside0.mk A20
 clear A20
 have H' := Aside0.mk H
 clear H
 go_enter Try.func42, Try.ntmps42
 go_wp2_with (first | ((with_reducible refine gate_callee (f := 43) rfl ?_); refine goesL_ _ rfl rfl Try.func43 (by kernel_rfl) rfl #[.string a0] rfl (by (try simp only [List.map_toArray, List.map_cons, List.map_nil]); first | done | rfl | (simp only [List.length_drop, List.length_take]; rfl)) ?_; (with_reducible refine (collatorref01_split.calls k a0 t270 _ A2.out).mono ?_); rintro e w3 ⟨v271, rfl, ho0, hb⟩; refine ⟨_, rfl, ?_⟩; have n0_ := Aside0.mk (Kd.R_lower ho0 (below_size (by repeat (first | (with_reducible first | exact HB.out | apply below_alloc | apply pw_below_drewN | apply below_drew1) | exact HB.out)))); have n1_ := Aside0.mk (below_step (by repeat (first | (with_reducible first | exact HB.out | apply below_alloc | apply pw_below_drewN | apply below_drew1) | exact HB.out)) hb); clear HB; have HO272 := n0_; have HB := n1_; clear n0_ n1_; (try clear hb); (try clear hb2); (try clear hk); (try clear hi); (try clear ho0)))
 go_loopg [4] k (fun kq v4 w' => ∃ (x4_1 : Int), v4 = .int .i64 x4_1 ∧ Aside0 (collatorref01_Check.l0 kq t270 x4_1 = some r) ∧ Aside0 (kq ≤ k) ∧ Aside0 (Kd.R Kd.string 9 w' w.heap.size (fun _ => True) v271 t270) ∧ Aside0 (Below w.heap.size w w'))
 case atStart => exact ⟨(0), (by first | rfl | (simp; done) | (simp [*]; done)), H', ⟨Nat.le_refl _⟩, ⟨by (with_reducible repeat (first | apply Kd.R_alloc | apply Kd.R_drewN | apply Kd.R_drew)); exact HO272.out⟩, ⟨by repeat (first | (with_reducible first | exact HB.out | apply below_alloc | apply pw_below_drewN | apply below_drew1) | exact HB.out)⟩⟩
 case round =>
  clear H'
  (try clear p2)
  obtain ⟨x4_1, rfl, HA, HK1, HO_3, HB⟩ := hrel
  cases gk with
  | zero => exact absurd HA.out (by simp [collatorref01_Check.l0])
  | succ k1 =>
   have H := HA.out
   clear HA
   simp only [collatorref01_Check.l0] at H
   by_cases c4 : x4_1 < (t270.length : Int)
   ·rw [if_pos c4] at H
    have c4b0 : decide (x4_1 < (t270.length : Int)) = true := decide_eq_true c4
    clear c4
    by_cases c5 : 0 ≤ x4_1
    ·rw [if_pos c5] at H
     have c5b0 : decide (0 ≤ x4_1) = true := decide_eq_true c5
     clear c5
     replace H := Option.bind_eq_some_iff.mp H
     obtain ⟨t274, A60, H⟩ := H
     replace H : (if t274 = true then (collatorref01_Check.l0 k1 t270 (wrap64 (x4_1 + 1))) else (some 2)) = some r := H
     have A6 := Aside0.mk A60
     clear A60
     by_cases c7 : t274 = true
     ·subst c7
      have H1 : (collatorref01_Check.l0 k1 t270 (wrap64 (x4_1 + 1))) = some r := by rw [if_pos rfl] at H; exact H
      clear H
      have H := H1
      clear H1
      have H' := Aside0.mk H
      clear H
      obtain ⟨Ao8, co8, eo8⟩ := Kd.R_slice HO_3.out
      subst eo8
      have p273 : 0 ≤ (x4_1 : Int) := of_decide_eq_true (by first | (with_reducible assumption) | assumption)
      have q273 : x4_1 < (t270.length : Int) := of_decide_eq_true (by first | (with_reducible assumption) | assumption)
      obtain ⟨ad273, e273, hx273_0⟩ := Kd.at_string (Kd.R_reads' HO_3.out).2.2 x4_1 p273 q273
      cases e273
      replace p273 := eq_true p273
      replace q273 := eq_true q273
      go_wp2_with (first | ((with_reducible refine gate_callee (f := 52) rfl ?_); refine goesL_ _ rfl rfl Try.func52 (by kernel_rfl) rfl #[.string (rdOf ByteArray.empty t270 x4_1)] rfl (by (try simp only [List.map_toArray, List.map_cons, List.map_nil]); first | done | rfl | (simp only [List.length_drop, List.length_take]; rfl)) ?_; (with_reducible refine (collatorref01_may.calls k1 (rdOf ByteArray.empty t270 x4_1) true _ A6.out).mono ?_); rintro e w' ⟨rfl, ⟨nd, rfl⟩⟩; refine ⟨_, rfl, ?_⟩))
      go_roundg k1
      case measure => have := HK1.out; omega
      case rel => exact ⟨(wrap64 (x4_1 + 1)), (by first | rfl | (simp; done) | (simp [*]; done)), H', ⟨by have := HK1.out; omega⟩, ⟨by (with_reducible repeat (first | apply Kd.R_alloc | apply Kd.R_drewN | apply Kd.R_drew)); exact HO_3.out⟩, ⟨by repeat (first | (with_reducible first | exact HB.out | apply below_alloc | apply pw_below_drewN | apply below_drew1) | exact HB.out)⟩⟩
     ·replace c7 := Bool.eq_false_iff.mpr c7
      subst c7
      have H1 : (some 2) = some r := by rw [if_neg (show ¬ (false = true) by decide)] at H; exact H
      clear H
      have H := H1
      clear H1
      obtain rfl := Option.some.inj H
      obtain ⟨Ao9, co9, eo9⟩ := Kd.R_slice HO_3.out
      subst eo9
      have p273 : 0 ≤ (x4_1 : Int) := of_decide_eq_true (by first | (with_reducible assumption) | assumption)
      have q273 : x4_1 < (t270.length : Int) := of_decide_eq_true (by first | (with_reducible assumption) | assumption)
      obtain ⟨ad273, e273, hx273_0⟩ := Kd.at_string (Kd.R_reads' HO_3.out).2.2 x4_1 p273 q273
      cases e273
      replace p273 := eq_true p273
      replace q273 := eq_true q273
      go_wp2_with (first | ((with_reducible refine gate_callee (f := 52) rfl ?_); refine goesL_ _ rfl rfl Try.func52 (by kernel_rfl) rfl #[.string (rdOf ByteArray.empty t270 x4_1)] rfl (by (try simp only [List.map_toArray, List.map_cons, List.map_nil]); first | done | rfl | (simp only [List.length_drop, List.length_take]; rfl)) ?_; (with_reducible refine (collatorref01_may.calls k1 (rdOf ByteArray.empty t270 x4_1) false _ A6.out).mono ?_); rintro e w' ⟨rfl, ⟨nd, rfl⟩⟩; refine ⟨_, rfl, ?_⟩))
      go_ret
      exact ⟨by first | rfl | (simp [errW_none, errW_some] <;> rfl) | (simp [*, errW_none, errW_some] <;> rfl), by repeat (first | (with_reducible first | exact HB.out | apply below_alloc | apply pw_below_drewN | apply below_drew1) | exact HB.out)⟩
    ·rw [if_neg c5] at H
     exact absurd H (by simp)
   ·rw [if_neg c4] at H
    have c4b0 : decide (x4_1 < (t270.length : Int)) = false := decide_eq_false c4
    clear c4
    by_cases c10 : (t270.length : Int) > 16
    ·rw [if_pos c10] at H
     have c10b0 : decide (16 < (t270.length : Int)) = true := decide_eq_true c10
     have c10b1 : decide (16 < t270.length) = true := decide_eq_true (by omega)
     clear c10
     obtain rfl := Option.some.inj H
     obtain ⟨Ao11, co11, eo11⟩ := Kd.R_slice HO_3.out
     subst eo11
     go_wp2
     go_ret
     exact ⟨by first | rfl | (simp [errW_none, errW_some] <;> rfl) | (simp [*, errW_none, errW_some] <;> rfl), by repeat (first | (with_reducible first | exact HB.out | apply below_alloc | apply pw_below_drewN | apply below_drew1) | exact HB.out)⟩
    ·rw [if_neg c10] at H
     have c10b0 : decide (16 < (t270.length : Int)) = false := decide_eq_false c10
     have c10b1 : decide (16 < t270.length) = false := decide_eq_false (by omega)
     clear c10
     obtain rfl := Option.some.inj H
     obtain ⟨Ao12, co12, eo12⟩ := Kd.R_slice HO_3.out
     subst eo12
     go_wp2
     go_ret
     exact ⟨by first | rfl | (simp [errW_none, errW_some] <;> rfl) | (simp [*, errW_none, errW_some] <;> rfl), by repeat (first | (with_reducible first | exact HB.out | apply below_alloc | apply pw_below_drewN | apply below_drew1) | exact HB.out)⟩

end Go.Proofs.Ytcgnkbdfoaiaiaa.P
end
section
/- Laid for this claim by hp.py, this session's program round the kit's print: functions of the program as plain Lean functions, the proofs that the code comes to their answers, and the rows of the laws. Not trusted: Lean checks it. -/
namespace Go.Proofs.Ytcgnkbdfoaiaiaa.P
open Go.RowKit Go.Proofs.YtcgnkbdfoaiaiaaW.PrintWords Go.Proofs.YtcgnkbdfoaiaiaaW.PrintLast Go.Proofs.YtcgnkbdfoaiaiaaW.PrintMore
attribute [local go_sem] max2_int min2_int max_two min_two max_three min_three max_four min_four   -- for this text's walks alone
set_option linter.unusedVariables false
set_option linter.unusedSimpArgs false

/-! ### collatorref01_Parts: function 24 -/
def collatorref01_Parts.f (k : Nat) (a0 : ByteArray) : Option (List ByteArray) := (collatorref01_Check.f k a0).bind fun t275 => (if t275 = 0 then ((collatorref01_split.f k a0).bind fun t276 => (some t276)) else (some ([] : List ByteArray)))
theorem collatorref01_Parts.mono : ∀ a0 k, LeO (collatorref01_Parts.f k a0) (collatorref01_Parts.f (k + 1) a0) := by
 intro a0 k
 unfold collatorref01_Parts.f
 repeat' first
   | (with_reducible exact collatorref01_Check.mono _ _)
   | (with_reducible exact collatorref01_split.mono _ _)
   | (with_reducible exact LeO.refl _)
   | (with_reducible exact LeO.none _)
   | (with_reducible refine LeO.ite ?_ ?_)
   | (with_reducible refine LeO.bind ?_ (fun _ => ?_))
   | exact collatorref01_Check.mono _ _
   | exact collatorref01_split.mono _ _
   | exact LeO.none _
   | refine LeO.ite ?_ ?_
   | refine LeO.bind ?_ (fun _ => ?_)
set_option maxHeartbeats 8000000 in
set_option maxRecDepth 100000 in
theorem collatorref01_Parts.calls (k : Nat) (a0 : ByteArray) (r : List ByteArray) (w : World) (h : collatorref01_Parts.f k a0 = some r) :
  Calls Try.prog 24 #[.string a0] w fun e w' => ∃ v0_ : Value, e = .returned (v0_) ∧ Kd.R Kd.string 9 w' w.heap.size (fun _ => True) v0_ r ∧ Below w.heap.size w w' := by
 have HB := Aside0.mk (Below.refl w.heap.size w)
 have H : ((collatorref01_Check.f k a0).bind fun t275 => (if t275 = 0 then ((collatorref01_split.f k a0).bind fun t276 => (some t276)) else (some ([] : List ByteArray)))) = some r := h
 clear h
 replace H := Option.bind_eq_some_iff.mp H
 obtain ⟨t275, A20, H⟩ := H
 replace H : (if t275 = 0 then ((collatorref01_split.f k a0).bind fun t276 => (some t276)) else (some ([] : List ByteArray))) = some r := H
 have A2 := Aside0.mk A20
 clear A20
 by_cases c3 : t275 = 0
 ·rw [if_pos c3] at H
  have c3b0 : (t275 == 0) = true := beq_iff_eq.mpr c3
  have c3b1 : (t275 != 0) = false := bne_eq_false_iff_eq.mpr c3
  clear c3
  replace H := Option.bind_eq_some_iff.mp H
  obtain ⟨t276, A40, H⟩ := H
  replace H : (some t276) = some r := H
  have A4 := Aside0.mk A40
  clear A40
  obtain rfl := Option.some.inj H
  go_enter Try.func24, Try.ntmps24
  go_wp2_with (first | ((with_reducible refine gate_callee (f := 42) rfl ?_); refine goesL_ _ rfl rfl Try.func42 (by kernel_rfl) rfl #[.string a0] rfl (by (try simp only [List.map_toArray, List.map_cons, List.map_nil]); first | done | rfl | (simp only [List.length_drop, List.length_take]; rfl)) ?_; (with_reducible refine (collatorref01_Check.calls k a0 t275 _ A2.out).mono ?_); rintro e w5 ⟨rfl, hb⟩; refine ⟨_, rfl, ?_⟩; have n0_ := Aside0.mk (below_step (by repeat (first | (with_reducible first | exact HB.out | apply below_alloc | apply pw_below_drewN | apply below_drew1) | exact HB.out)) hb); clear HB; have HB := n0_; clear n0_; (try clear hb); (try clear hb2); (try clear hk); (try clear hi)) | ((with_reducible refine gate_callee (f := 43) rfl ?_); refine goesL_ _ rfl rfl Try.func43 (by kernel_rfl) rfl #[.string a0] rfl (by (try simp only [List.map_toArray, List.map_cons, List.map_nil]); first | done | rfl | (simp only [List.length_drop, List.length_take]; rfl)) ?_; (with_reducible refine (collatorref01_split.calls k a0 t276 _ A4.out).mono ?_); rintro e w6 ⟨v277, rfl, ho0, hb⟩; refine ⟨_, rfl, ?_⟩; have n0_ := Aside0.mk (Kd.R_lower ho0 (below_size (by repeat (first | (with_reducible first | exact HB.out | apply below_alloc | apply pw_below_drewN | apply below_drew1) | exact HB.out)))); have n1_ := Aside0.mk (below_step (by repeat (first | (with_reducible first | exact HB.out | apply below_alloc | apply pw_below_drewN | apply below_drew1) | exact HB.out)) hb); clear HB; have HO278 := n0_; have HB := n1_; clear n0_ n1_; (try clear hb); (try clear hb2); (try clear hk); (try clear hi); (try clear ho0)))
  go_ret
  exact ⟨_, by first | rfl | (simp [errW_none, errW_some] <;> rfl) | (simp [*, errW_none, errW_some] <;> rfl), by (with_reducible repeat (first | apply Kd.R_alloc | apply Kd.R_drewN | apply Kd.R_drew)); exact HO278.out, by repeat (first | (with_reducible first | exact HB.out | apply below_alloc | apply pw_below_drewN | apply below_drew1) | exact HB.out)⟩
 ·rw [if_neg c3] at H
  have c3b0 : (t275 == 0) = false := beq_eq_false_iff_ne.mpr c3
  have c3b1 : (t275 != 0) = true := bne_iff_ne.mpr c3
  obtain rfl := Option.some.inj H
  go_enter Try.func24, Try.ntmps24
  go_wp2_with (first | ((with_reducible refine gate_callee (f := 42) rfl ?_); refine goesL_ _ rfl rfl Try.func42 (by kernel_rfl) rfl #[.string a0] rfl (by (try simp only [List.map_toArray, List.map_cons, List.map_nil]); first | done | rfl | (simp only [List.length_drop, List.length_take]; rfl)) ?_; (with_reducible refine (collatorref01_Check.calls k a0 t275 _ A2.out).mono ?_); rintro e w7 ⟨rfl, hb⟩; refine ⟨_, rfl, ?_⟩; have n0_ := Aside0.mk (below_step (by repeat (first | (with_reducible first | exact HB.out | apply below_alloc | apply pw_below_drewN | apply below_drew1) | exact HB.out)) hb); clear HB; have HB := n0_; clear n0_; (try clear hb); (try clear hb2); (try clear hk); (try clear hi)))
  go_ret
  exact ⟨_, by first | rfl | (simp [errW_none, errW_some] <;> rfl) | (simp [*, errW_none, errW_some] <;> rfl), by first | exact Kd.R_nil _ _ _ _ _ | exact Kd.N_nil _ _ _ _ _ | exact Kd.V_nil _ _ _ _ _ | exact Kd.Q_nil _ _ _ _ _ | exact Kd.S_nil _ _ _ _ _, by repeat (first | (with_reducible first | exact HB.out | apply below_alloc | apply pw_below_drewN | apply below_drew1) | exact HB.out)⟩

end Go.Proofs.Ytcgnkbdfoaiaiaa.P
end
section
/- Laid for this claim by hp.py, this session's program round the kit's print: functions of the program as plain Lean functions, the proofs that the code comes to their answers, and the rows of the laws. Not trusted: Lean checks it. -/
namespace Go.Proofs.Ytcgnkbdfoaiaiaa.P
open Go.RowKit Go.Proofs.YtcgnkbdfoaiaiaaW.PrintWords Go.Proofs.YtcgnkbdfoaiaiaaW.PrintLast Go.Proofs.YtcgnkbdfoaiaiaaW.PrintMore
attribute [local go_sem] max2_int min2_int max_two min_two max_three min_three max_four min_four   -- for this text's walks alone
set_option linter.unusedVariables false
set_option linter.unusedSimpArgs false

/-! ### collatorref01_Dir: function 55 -/
def collatorref01_Dir.l0 : Nat → List ByteArray → ByteArray → Int → Option (ByteArray)
 | 0, _, _, _ => none
 | k + 1, x3, x4, x5 => if (wrap64 (x5 + 1)) < (x3.length : Int) then (if 0 ≤ x5 then (if x5 < (x3.length : Int) then ((collatorref01_Join.f x4 (rdOf ByteArray.empty x3 x5)).bind fun t286 => (collatorref01_Dir.l0 k x3 t286 (wrap64 (x5 + 1)))) else (none)) else (none)) else (some x4)
def collatorref01_Dir.f (k : Nat) (a0 : ByteArray) : Option (ByteArray) := (collatorref01_Parts.f k a0).bind fun t282 => (collatorref01_Dir.l0 k t282 (⟨#[]⟩ : ByteArray) 0)
theorem collatorref01_Dir.mono_l : ∀ k, (∀ y0 y1 y2, LeO (collatorref01_Dir.l0 k y0 y1 y2) (collatorref01_Dir.l0 (k + 1) y0 y1 y2))
 | 0 => fun _ _ _ r h => by simp [collatorref01_Dir.l0] at h
 | k + 1 => by
  have ih0 := collatorref01_Dir.mono_l k
  ·intro y0 y1 y2
   unfold collatorref01_Dir.l0
   repeat' first
   | (with_reducible exact ih0 _ _ _)
   | (with_reducible exact collatorref01_Parts.mono _ _)
   | (with_reducible exact LeO.refl _)
   | (with_reducible exact LeO.none _)
   | (with_reducible refine LeO.ite ?_ ?_)
   | (with_reducible refine LeO.bind ?_ (fun _ => ?_))
   | exact ih0 _ _ _
   | exact collatorref01_Parts.mono _ _
   | exact LeO.none _
   | refine LeO.ite ?_ ?_
   | refine LeO.bind ?_ (fun _ => ?_)
theorem collatorref01_Dir.mono : ∀ a0 k, LeO (collatorref01_Dir.f k a0) (collatorref01_Dir.f (k + 1) a0) := by
 intro a0 k
 have ih0 := collatorref01_Dir.mono_l k
 unfold collatorref01_Dir.f
 repeat' first
   | (with_reducible exact ih0 _ _ _)
   | (with_reducible exact collatorref01_Parts.mono _ _)
   | (with_reducible exact LeO.refl _)
   | (with_reducible exact LeO.none _)
   | (with_reducible refine LeO.ite ?_ ?_)
   | (with_reducible refine LeO.bind ?_ (fun _ => ?_))
   | exact ih0 _ _ _
   | exact collatorref01_Parts.mono _ _
   | exact LeO.none _
   | refine LeO.ite ?_ ?_
   | refine LeO.bind ?_ (fun _ => ?_)
set_option maxHeartbeats 8000000 in
set_option maxRecDepth 100000 in
theorem collatorref01_Dir.calls (k : Nat) (a0 : ByteArray) (r : ByteArray) (w : World) (h : collatorref01_Dir.f k a0 = some r) :
  Calls Try.prog 55 #[.string a0] w fun e w' => e = .returned (.string r) ∧ Below w.heap.size w w' := by
 have HB := Aside0.mk (Below.refl w.heap.size w)
 have H : ((collatorref01_Parts.f k a0).bind fun t282 => (collatorref01_Dir.l0 k t282 (⟨#[]⟩ : ByteArray) 0)) = some r := h
 clear h
 replace H := Option.bind_eq_some_iff.mp H
 obtain ⟨t282, A20, H⟩ := H
 replace H : (collatorref01_Dir.l0 k t282 (⟨#[]⟩ : ByteArray) 0) = some r := H
 have A2 := Aside0.mk A20
 clear A20
 have H' := Aside0.mk H
 clear H
 go_enter Try.func55, Try.ntmps55
 go_wp2_with (first | ((with_reducible refine gate_callee (f := 24) rfl ?_); refine goesL_ _ rfl rfl Try.func24 (by kernel_rfl) rfl #[.string a0] rfl (by (try simp only [List.map_toArray, List.map_cons, List.map_nil]); first | done | rfl | (simp only [List.length_drop, List.length_take]; rfl)) ?_; (with_reducible refine (collatorref01_Parts.calls k a0 t282 _ A2.out).mono ?_); rintro e w3 ⟨v283, rfl, ho0, hb⟩; refine ⟨_, rfl, ?_⟩; have n0_ := Aside0.mk (Kd.R_lower ho0 (below_size (by repeat (first | (with_reducible first | exact HB.out | apply below_alloc | apply pw_below_drewN | apply below_drew1) | exact HB.out)))); have n1_ := Aside0.mk (below_step (by repeat (first | (with_reducible first | exact HB.out | apply below_alloc | apply pw_below_drewN | apply below_drew1) | exact HB.out)) hb); clear HB; have HO284 := n0_; have HB := n1_; clear n0_ n1_; (try clear hb); (try clear hb2); (try clear hk); (try clear hi); (try clear ho0)))
 go_loopg [4, 5] k (fun kq v4 v5 w' => ∃ (x4_1 : ByteArray) (x5_1 : Int), v4 = .string x4_1 ∧ v5 = .int .i64 x5_1 ∧ Aside0 (collatorref01_Dir.l0 kq t282 x4_1 x5_1 = some r) ∧ Aside0 (kq ≤ k) ∧ Aside0 (Kd.R Kd.string 9 w' w.heap.size (fun _ => True) v283 t282) ∧ Aside0 (Below w.heap.size w w'))
 case atStart => exact ⟨((⟨#[]⟩ : ByteArray)), (0), (by first | rfl | (simp; done) | (simp [*]; done)), (by first | rfl | (simp; done) | (simp [*]; done)), H', ⟨Nat.le_refl _⟩, ⟨by (with_reducible repeat (first | apply Kd.R_alloc | apply Kd.R_drewN | apply Kd.R_drew)); exact HO284.out⟩, ⟨by repeat (first | (with_reducible first | exact HB.out | apply below_alloc | apply pw_below_drewN | apply below_drew1) | exact HB.out)⟩⟩
 case round =>
  clear H'
  (try clear c2);(try clear p2)
  obtain ⟨x4_1, x5_1, rfl, rfl, HA, HK1, HO_3, HB⟩ := hrel
  cases gk with
  | zero => exact absurd HA.out (by simp [collatorref01_Dir.l0])
  | succ k1 =>
   have H := HA.out
   clear HA
   simp only [collatorref01_Dir.l0] at H
   by_cases c4 : (wrap64 (x5_1 + 1)) < (t282.length : Int)
   ·rw [if_pos c4] at H
    have c4b0 : decide ((wrap64 (x5_1 + 1)) < (t282.length : Int)) = true := decide_eq_true c4
    clear c4
    by_cases c5 : 0 ≤ x5_1
    ·rw [if_pos c5] at H
     have c5b0 : decide (0 ≤ x5_1) = true := decide_eq_true c5
     clear c5
     by_cases c6 : x5_1 < (t282.length : Int)
     ·rw [if_pos c6] at H
      have c6b0 : decide (x5_1 < (t282.length : Int)) = true := decide_eq_true c6
      clear c6
      replace H := Option.bind_eq_some_iff.mp H
      obtain ⟨t286, A70, H⟩ := H
      replace H : (collatorref01_Dir.l0 k1 t282 t286 (wrap64 (x5_1 + 1))) = some r := H
      have A7 := Aside0.mk A70
      clear A70
      have H' := Aside0.mk H
      clear H
      obtain ⟨Ao8, co8, eo8⟩ := Kd.R_slice HO_3.out
      subst eo8
      have p285 : 0 ≤ (x5_1 : Int) := of_decide_eq_true (by first | (with_reducible assumption) | assumption)
      have q285 : x5_1 < (t282.length : Int) := of_decide_eq_true (by first | (with_reducible assumption) | assumption)
      obtain ⟨ad285, e285, hx285_0⟩ := Kd.at_string (Kd.R_reads' HO_3.out).2.2 x5_1 p285 q285
      cases e285
      replace p285 := eq_true p285
      replace q285 := eq_true q285
      go_wp2_with (first | ((with_reducible refine gate_callee (f := 25) rfl ?_); refine goesL_ _ rfl rfl Try.func25 (by kernel_rfl) rfl #[.string x4_1, .string (rdOf ByteArray.empty t282 x5_1)] rfl (by (try simp only [List.map_toArray, List.map_cons, List.map_nil]); first | done | rfl | (simp only [List.length_drop, List.length_take]; rfl)) ?_; (with_reducible refine (collatorref01_Join.calls x4_1 (rdOf ByteArray.empty t282 x5_1) t286 _ A7.out).mono ?_); rintro e w' ⟨rfl, ⟨nd, rfl⟩⟩; refine ⟨_, rfl, ?_⟩))
      go_roundg k1
      case measure => have := HK1.out; omega
      case rel => exact ⟨(t286), (wrap64 (x5_1 + 1)), (by first | rfl | (simp; done) | (simp [*]; done)), (by first | rfl | (simp; done) | (simp [*]; done)), H', ⟨by have := HK1.out; omega⟩, ⟨by (with_reducible repeat (first | apply Kd.R_alloc | apply Kd.R_drewN | apply Kd.R_drew)); exact HO_3.out⟩, ⟨by repeat (first | (with_reducible first | exact HB.out | apply below_alloc | apply pw_below_drewN | apply below_drew1) | exact HB.out)⟩⟩
     ·rw [if_neg c6] at H
      exact absurd H (by simp)
    ·rw [if_neg c5] at H
     exact absurd H (by simp)
   ·rw [if_neg c4] at H
    have c4b0 : decide ((wrap64 (x5_1 + 1)) < (t282.length : Int)) = false := decide_eq_false c4
    clear c4
    obtain rfl := Option.some.inj H
    obtain ⟨Ao9, co9, eo9⟩ := Kd.R_slice HO_3.out
    subst eo9
    go_wp2
    go_ret
    exact ⟨by first | rfl | (simp [errW_none, errW_some] <;> rfl) | (simp [*, errW_none, errW_some] <;> rfl), by repeat (first | (with_reducible first | exact HB.out | apply below_alloc | apply pw_below_drewN | apply below_drew1) | exact HB.out)⟩

end Go.Proofs.Ytcgnkbdfoaiaiaa.P
end
section
/- Words of this session: two texts compared by bytes. -/
set_option linter.unusedVariables false
namespace Go.Proofs.Ytcgnkbdfoaiaiaa.HStr
open Go
theorem bytes_less_irr : ∀ x : List UInt8, Op.bytesLess x x = false := by
  intro x
  induction x with
  | nil => rfl
  | cons a x ih =>
    show (decide (a < a) || (a == a && Op.bytesLess x x)) = false
    rw [ih, Bool.and_false, Bool.or_false]
    exact decide_eq_false (UInt8.lt_irrefl a)
theorem bytes_less_ne {x y : List UInt8} (h : Op.bytesLess x y = true) : (y == x) = false := by
  rw [beq_eq_false_iff_ne]
  intro e
  rw [e, bytes_less_irr] at h
  cases h
theorem bytes_same : ∀ {y x : List UInt8}, Op.bytesLess y x = false → Op.bytesLess x y = false → (y == x) = true := by
  intro y
  induction y with
  | nil =>
    intro x h1 _
    cases x with
    | nil => rfl
    | cons b x => cases h1
  | cons a y ih =>
    intro x h1 h2
    cases x with
    | nil => cases h2
    | cons b x =>
      have h1' : (decide (a < b) || (a == b && Op.bytesLess y x)) = false := h1
      have h2' : (decide (b < a) || (b == a && Op.bytesLess x y)) = false := h2
      rw [Bool.or_eq_false_iff] at h1' h2'
      have e : a = b := by
        have l1 := of_decide_eq_false h1'.1
        have l2 := of_decide_eq_false h2'.1
        exact UInt8.le_antisymm (UInt8.not_lt.1 l2) (UInt8.not_lt.1 l1)
      subst e
      have r1 : Op.bytesLess y x = false := by simpa using h1'.2
      have r2 : Op.bytesLess x y = false := by simpa using h2'.2
      have := ih r1 r2
      rw [beq_iff_eq] at this ⊢
      rw [this]
end Go.Proofs.Ytcgnkbdfoaiaiaa.HStr
end
section
/- Laid for this claim by hp.py, this session's program round the kit's print: functions of the program as plain Lean functions, the proofs that the code comes to their answers, and the rows of the laws. Not trusted: Lean checks it. -/
namespace Go.Proofs.Ytcgnkbdfoaiaiaa.P
open Go.RowKit Go.Proofs.YtcgnkbdfoaiaiaaW.PrintWords Go.Proofs.YtcgnkbdfoaiaiaaW.PrintLast Go.Proofs.YtcgnkbdfoaiaiaaW.PrintMore
attribute [local go_sem] max2_int min2_int max_two min_two max_three min_three max_four min_four   -- for this text's walks alone
set_option linter.unusedVariables false
set_option linter.unusedSimpArgs false

/-! ### collatorref01_Compare: function 41 -/
mutual
def collatorref01_Compare.l0 : Nat → List ByteArray → List ByteArray → Int → Option (Int)
 | 0, _, _, _ => none
 | k + 1, x5, x6, x7 => if x7 < (x5.length : Int) then (collatorref01_Compare.j1 k x5 x6 x7 (decide (x7 < (x6.length : Int)))) else (collatorref01_Compare.j1 k x5 x6 x7 false)
def collatorref01_Compare.j1 : Nat → List ByteArray → List ByteArray → Int → Bool → Option (Int)
 | 0, _, _, _, _ => none
 | k + 1, x5, x6, x7, x21 => if x21 = true then (if 0 ≤ x7 then (if x7 < (x5.length : Int) then (if x7 < (x6.length : Int) then (if (Op.bytesLess ((rdOf ByteArray.empty x5 x7).toList) ((rdOf ByteArray.empty x6 x7).toList)) = true then (some (-1)) else (if (Op.bytesLess ((rdOf ByteArray.empty x6 x7).toList) ((rdOf ByteArray.empty x5 x7).toList)) = true then (some 1) else (collatorref01_Compare.l0 k x5 x6 (wrap64 (x7 + 1))))) else (none)) else (none)) else (none)) else (if (x5.length : Int) < (x6.length : Int) then (some (-1)) else (if (x5.length : Int) > (x6.length : Int) then (some 1) else (some 0)))
end
def collatorref01_Compare.f (k : Nat) (a0 : ByteArray) (a1 : ByteArray) : Option (Int) := (collatorref01_split.f k a0).bind fun t188 => ((collatorref01_split.f k a1).bind fun t191 => (collatorref01_Compare.l0 k t188 t191 0))
theorem collatorref01_Compare.mono_l : ∀ k, (∀ y0 y1 y2, LeO (collatorref01_Compare.l0 k y0 y1 y2) (collatorref01_Compare.l0 (k + 1) y0 y1 y2)) ∧ (∀ y0 y1 y2 y3, LeO (collatorref01_Compare.j1 k y0 y1 y2 y3) (collatorref01_Compare.j1 (k + 1) y0 y1 y2 y3))
 | 0 => ⟨fun _ _ _ r h => by simp [collatorref01_Compare.l0] at h, fun _ _ _ _ r h => by simp [collatorref01_Compare.j1] at h⟩
 | k + 1 => by
  obtain ⟨ih0, ih1⟩ := collatorref01_Compare.mono_l k
  refine ⟨?_, ?_⟩
  ·intro y0 y1 y2
   unfold collatorref01_Compare.l0
   repeat' first
   | (with_reducible exact ih0 _ _ _)
   | (with_reducible exact ih1 _ _ _ _)
   | (with_reducible exact collatorref01_split.mono _ _)
   | (with_reducible exact LeO.refl _)
   | (with_reducible exact LeO.none _)
   | (with_reducible refine LeO.ite ?_ ?_)
   | (with_reducible refine LeO.bind ?_ (fun _ => ?_))
   | exact ih0 _ _ _
   | exact ih1 _ _ _ _
   | exact collatorref01_split.mono _ _
   | exact LeO.none _
   | refine LeO.ite ?_ ?_
   | refine LeO.bind ?_ (fun _ => ?_)
  ·intro y0 y1 y2 y3
   unfold collatorref01_Compare.j1
   repeat' first
   | (with_reducible exact ih0 _ _ _)
   | (with_reducible exact ih1 _ _ _ _)
   | (with_reducible exact collatorref01_split.mono _ _)
   | (with_reducible exact LeO.refl _)
   | (with_reducible exact LeO.none _)
   | (with_reducible refine LeO.ite ?_ ?_)
   | (with_reducible refine LeO.bind ?_ (fun _ => ?_))
   | exact ih0 _ _ _
   | exact ih1 _ _ _ _
   | exact collatorref01_split.mono _ _
   | exact LeO.none _
   | refine LeO.ite ?_ ?_
   | refine LeO.bind ?_ (fun _ => ?_)
theorem collatorref01_Compare.mono : ∀ a0 a1 k, LeO (collatorref01_Compare.f k a0 a1) (collatorref01_Compare.f (k + 1) a0 a1) := by
 intro a0 a1 k
 obtain ⟨ih0, ih1⟩ := collatorref01_Compare.mono_l k
 unfold collatorref01_Compare.f
 repeat' first
   | (with_reducible exact ih0 _ _ _)
   | (with_reducible exact ih1 _ _ _ _)
   | (with_reducible exact collatorref01_split.mono _ _)
   | (with_reducible exact LeO.refl _)
   | (with_reducible exact LeO.none _)
   | (with_reducible refine LeO.ite ?_ ?_)
   | (with_reducible refine LeO.bind ?_ (fun _ => ?_))
   | exact ih0 _ _ _
   | exact ih1 _ _ _ _
   | exact collatorref01_split.mono _ _
   | exact LeO.none _
   | refine LeO.ite ?_ ?_
   | refine LeO.bind ?_ (fun _ => ?_)
set_option maxHeartbeats 8000000 in
set_option maxRecDepth 100000 in
theorem collatorref01_Compare.calls (k : Nat) (a0 : ByteArray) (a1 : ByteArray) (r : Int) (w : World) (h : collatorref01_Compare.f k a0 a1 = some r) :
  Calls Try.prog 41 #[.string a0, .string a1] w fun e w' => e = .returned (.int .i64 r) ∧ Below w.heap.size w w' := by
 have HB := Aside0.mk (Below.refl w.heap.size w)
 have H : ((collatorref01_split.f k a0).bind fun t188 => ((collatorref01_split.f k a1).bind fun t191 => (collatorref01_Compare.l0 k t188 t191 0))) = some r := h
 clear h
 replace H := Option.bind_eq_some_iff.mp H
 obtain ⟨t188, A30, H⟩ := H
 replace H : ((collatorref01_split.f k a1).bind fun t191 => (collatorref01_Compare.l0 k t188 t191 0)) = some r := H
 have A3 := Aside0.mk A30
 clear A30
 replace H := Option.bind_eq_some_iff.mp H
 obtain ⟨t191, A40, H⟩ := H
 replace H : (collatorref01_Compare.l0 k t188 t191 0) = some r := H
 have A4 := Aside0.mk A40
 clear A40
 have H' := Aside0.mk H
 clear H
 go_enter Try.func41, Try.ntmps41
 go_wp2_with (first | (go_at_call 43; (with_reducible refine (collatorref01_split.calls k a0 t188 _ A3.out).mono ?_); rintro e w5 ⟨v189, rfl, ho0, hb⟩; have n0_ := Aside0.mk (Kd.R_lower ho0 (below_size (by repeat (first | (with_reducible first | exact HB.out | apply below_alloc | apply pw_below_drewN | apply below_drew1) | exact HB.out)))); have n1_ := Aside0.mk (below_step (by repeat (first | (with_reducible first | exact HB.out | apply below_alloc | apply pw_below_drewN | apply below_drew1) | exact HB.out)) hb); clear HB; have HO190 := n0_; have HB := n1_; clear n0_ n1_; (try clear hb); (try clear hb2); (try clear hk); (try clear hi); (try clear ho0)) | (go_at_call 43; (with_reducible refine (collatorref01_split.calls k a1 t191 _ A4.out).mono ?_); rintro e w6 ⟨v192, rfl, ho0, hb⟩; have n0_ := Aside0.mk (Kd.R_elder' (by (with_reducible repeat (first | apply Kd.R_alloc | apply Kd.R_drewN | apply Kd.R_drew)); exact HO190.out) (Kd.R_base ho0) hb); have n1_ := Aside0.mk (Kd.R_lower (Kd.R_new' ho0 (Kd.R_lt (by (with_reducible repeat (first | apply Kd.R_alloc | apply Kd.R_drewN | apply Kd.R_drew)); exact HO190.out))) (below_size (by repeat (first | (with_reducible first | exact HB.out | apply below_alloc | apply pw_below_drewN | apply below_drew1) | exact HB.out)))); have n2_ := Aside0.mk (below_step (by repeat (first | (with_reducible first | exact HB.out | apply below_alloc | apply pw_below_drewN | apply below_drew1) | exact HB.out)) hb); clear HO190; clear HB; have HO190 := n0_; have HO193 := n1_; have HB := n2_; clear n0_ n1_ n2_; (try clear hb); (try clear hb2); (try clear hk); (try clear hi); (try clear ho0)))
 repeat (go_quiet (first | (go_at_call 43; (with_reducible refine (collatorref01_split.calls k a0 t188 _ A3.out).mono ?_); rintro e w5 ⟨v189, rfl, ho0, hb⟩; have n0_ := Aside0.mk (Kd.R_lower ho0 (below_size (by repeat (first | (with_reducible first | exact HB.out | apply below_alloc | apply pw_below_drewN | apply below_drew1) | exact HB.out)))); have n1_ := Aside0.mk (below_step (by repeat (first | (with_reducible first | exact HB.out | apply below_alloc | apply pw_below_drewN | apply below_drew1) | exact HB.out)) hb); clear HB; have HO190 := n0_; have HB := n1_; clear n0_ n1_; (try clear hb); (try clear hb2); (try clear hk); (try clear hi); (try clear ho0)) | (go_at_call 43; (with_reducible refine (collatorref01_split.calls k a1 t191 _ A4.out).mono ?_); rintro e w6 ⟨v192, rfl, ho0, hb⟩; have n0_ := Aside0.mk (Kd.R_elder' (by (with_reducible repeat (first | apply Kd.R_alloc | apply Kd.R_drewN | apply Kd.R_drew)); exact HO190.out) (Kd.R_base ho0) hb); have n1_ := Aside0.mk (Kd.R_lower (Kd.R_new' ho0 (Kd.R_lt (by (with_reducible repeat (first | apply Kd.R_alloc | apply Kd.R_drewN | apply Kd.R_drew)); exact HO190.out))) (below_size (by repeat (first | (with_reducible first | exact HB.out | apply below_alloc | apply pw_below_drewN | apply below_drew1) | exact HB.out)))); have n2_ := Aside0.mk (below_step (by repeat (first | (with_reducible first | exact HB.out | apply below_alloc | apply pw_below_drewN | apply below_drew1) | exact HB.out)) hb); clear HO190; clear HB; have HO190 := n0_; have HO193 := n1_; have HB := n2_; clear n0_ n1_ n2_; (try clear hb); (try clear hb2); (try clear hk); (try clear hi); (try clear ho0))); try go_wp2_with (first | (go_at_call 43; (with_reducible refine (collatorref01_split.calls k a0 t188 _ A3.out).mono ?_); rintro e w5 ⟨v189, rfl, ho0, hb⟩; have n0_ := Aside0.mk (Kd.R_lower ho0 (below_size (by repeat (first | (with_reducible first | exact HB.out | apply below_alloc | apply pw_below_drewN | apply below_drew1) | exact HB.out)))); have n1_ := Aside0.mk (below_step (by repeat (first | (with_reducible first | exact HB.out | apply below_alloc | apply pw_below_drewN | apply below_drew1) | exact HB.out)) hb); clear HB; have HO190 := n0_; have HB := n1_; clear n0_ n1_; (try clear hb); (try clear hb2); (try clear hk); (try clear hi); (try clear ho0)) | (go_at_call 43; (with_reducible refine (collatorref01_split.calls k a1 t191 _ A4.out).mono ?_); rintro e w6 ⟨v192, rfl, ho0, hb⟩; have n0_ := Aside0.mk (Kd.R_elder' (by (with_reducible repeat (first | apply Kd.R_alloc | apply Kd.R_drewN | apply Kd.R_drew)); exact HO190.out) (Kd.R_base ho0) hb); have n1_ := Aside0.mk (Kd.R_lower (Kd.R_new' ho0 (Kd.R_lt (by (with_reducible repeat (first | apply Kd.R_alloc | apply Kd.R_drewN | apply Kd.R_drew)); exact HO190.out))) (below_size (by repeat (first | (with_reducible first | exact HB.out | apply below_alloc | apply pw_below_drewN | apply below_drew1) | exact HB.out)))); have n2_ := Aside0.mk (below_step (by repeat (first | (with_reducible first | exact HB.out | apply below_alloc | apply pw_below_drewN | apply below_drew1) | exact HB.out)) hb); clear HO190; clear HB; have HO190 := n0_; have HO193 := n1_; have HB := n2_; clear n0_ n1_ n2_; (try clear hb); (try clear hb2); (try clear hk); (try clear hi); (try clear ho0))))
 go_loopg [7] k (fun kq v7 w' => ∃ (x7_1 : Int), v7 = .int .i64 x7_1 ∧ Aside0 (collatorref01_Compare.l0 kq t188 t191 x7_1 = some r) ∧ Aside0 (kq ≤ k) ∧ Aside0 (Kd.R Kd.string 9 w' w.heap.size (fun k_ => some k_ ≠ (v192 : Value).ownBlock) v189 t188) ∧ Aside0 (Kd.R Kd.string 9 w' w.heap.size (fun k_ => some k_ ≠ (v189 : Value).ownBlock) v192 t191) ∧ Aside0 (Below w.heap.size w w'))
 case atStart => exact ⟨(0), (by first | rfl | (simp; done) | (simp [*]; done)), H', ⟨Nat.le_refl _⟩, ⟨by (with_reducible repeat (first | apply Kd.R_alloc | apply Kd.R_drewN | apply Kd.R_drew)); exact Kd.R_mono HO190.out (fun _ hk => hk.2)⟩, ⟨by (with_reducible repeat (first | apply Kd.R_alloc | apply Kd.R_drewN | apply Kd.R_drew)); exact Kd.R_mono HO193.out (fun _ hk => hk.2)⟩, ⟨by repeat (first | (with_reducible first | exact HB.out | apply below_alloc | apply pw_below_drewN | apply below_drew1) | exact HB.out)⟩⟩
 case round =>
  clear H'
  (try clear p2);(try clear c4)
  obtain ⟨x7_1, rfl, HA, HK1, HO_5, HO_6, HB⟩ := hrel
  cases gk with
  | zero => exact absurd HA.out (by simp [collatorref01_Compare.l0])
  | succ k1 =>
   have H := HA.out
   clear HA
   simp only [collatorref01_Compare.l0] at H
   have HC7 := Aside0.mk H
   clear H
   go_upto_region 4 with (fail)
   repeat (go_quiet (fail); go_upto_region 4 with (fail))
   go_cut [21] (fun v21 wc => ∃ (kq : Nat) (x21_6 : Bool), v21 = .bool x21_6 ∧ Aside0 (collatorref01_Compare.j1 kq t188 t191 x7_1 x21_6 = some r) ∧ Aside0 (kq ≤ k1) ∧ Aside0 (Kd.R Kd.string 9 wc w.heap.size (fun k_ => some k_ ≠ (v192 : Value).ownBlock) v189 t188) ∧ Aside0 (Kd.R Kd.string 9 wc w.heap.size (fun k_ => some k_ ≠ (v189 : Value).ownBlock) v192 t191) ∧ Aside0 (Below w.heap.size w wc))
   case first =>
    have H := HC7.out
    clear HC7
    by_cases c8 : x7_1 < (t188.length : Int)
    ·rw [if_pos c8] at H
     have c8b0 : decide (x7_1 < (t188.length : Int)) = true := decide_eq_true c8
     clear c8
     (first | rw [c8b0] | rw [c8b1] | (simp only [i64_w, i32_w]; rw [c8b0]) | skip)
     have H' := Aside0.mk H
     clear H
     obtain ⟨Ao9, co9, eo9⟩ := Kd.R_slice HO_5.out
     subst eo9
     obtain ⟨Ao10, co10, eo10⟩ := Kd.R_slice HO_6.out
     subst eo10
     go_wp2
     repeat (go_quiet (fail); try go_wp2)
     go_meet
     case rel => exact ⟨_, (decide (x7_1 < (t191.length : Int))), (by first | rfl | (simp; done) | (simp [*]; done)), H', ⟨by have := HK1.out; first | omega | exact Nat.le_refl _⟩, ⟨by (with_reducible repeat (first | apply Kd.R_alloc | apply Kd.R_drewN | apply Kd.R_drew)); exact HO_5.out⟩, ⟨by (with_reducible repeat (first | apply Kd.R_alloc | apply Kd.R_drewN | apply Kd.R_drew)); exact HO_6.out⟩, ⟨by repeat (first | (with_reducible first | exact HB.out | apply below_alloc | apply pw_below_drewN | apply below_drew1) | exact HB.out)⟩⟩
    ·rw [if_neg c8] at H
     have c8b0 : decide (x7_1 < (t188.length : Int)) = false := decide_eq_false c8
     clear c8
     (first | rw [c8b0] | rw [c8b1] | (simp only [i64_w, i32_w]; rw [c8b0]) | skip)
     have H' := Aside0.mk H
     clear H
     obtain ⟨Ao11, co11, eo11⟩ := Kd.R_slice HO_5.out
     subst eo11
     go_wp2
     repeat (go_quiet (fail); try go_wp2)
     go_meet
     case rel => exact ⟨_, (false), (by first | rfl | (simp; done) | (simp [*]; done)), H', ⟨by have := HK1.out; first | omega | exact Nat.le_refl _⟩, ⟨by (with_reducible repeat (first | apply Kd.R_alloc | apply Kd.R_drewN | apply Kd.R_drew)); exact HO_5.out⟩, ⟨by (with_reducible repeat (first | apply Kd.R_alloc | apply Kd.R_drewN | apply Kd.R_drew)); exact HO_6.out⟩, ⟨by repeat (first | (with_reducible first | exact HB.out | apply below_alloc | apply pw_below_drewN | apply below_drew1) | exact HB.out)⟩⟩
   case rest =>
    clear HC7
    (try clear p2);(try clear c4);(try clear c8);(try clear c8b0);(try clear p2)
    obtain ⟨kq, x21_6, rfl, HA, HJ6, HO_5, HO_6, HB⟩ := hcut
    cases kq with
    | zero => exact absurd HA.out (by simp [collatorref01_Compare.j1])
    | succ kj6 =>
     have H := HA.out
     clear HA
     simp only [collatorref01_Compare.j1] at H
     by_cases c12 : x21_6 = true
     ·subst c12
      have H1 : (if 0 ≤ x7_1 then (if x7_1 < (t188.length : Int) then (if x7_1 < (t191.length : Int) then (if (Op.bytesLess ((rdOf ByteArray.empty t188 x7_1).toList) ((rdOf ByteArray.empty t191 x7_1).toList)) = true then (some (-1)) else (if (Op.bytesLess ((rdOf ByteArray.empty t191 x7_1).toList) ((rdOf ByteArray.empty t188 x7_1).toList)) = true then (some 1) else (collatorref01_Compare.l0 kj6 t188 t191 (wrap64 (x7_1 + 1))))) else (none)) else (none)) else (none)) = some r := by rw [if_pos rfl] at H; exact H
      clear H
      have H := H1
      clear H1
      by_cases c13 : 0 ≤ x7_1
      ·rw [if_pos c13] at H
       have c13b0 : decide (0 ≤ x7_1) = true := decide_eq_true c13
       clear c13
       by_cases c14 : x7_1 < (t188.length : Int)
       ·rw [if_pos c14] at H
        have c14b0 : decide (x7_1 < (t188.length : Int)) = true := decide_eq_true c14
        clear c14
        by_cases c15 : x7_1 < (t191.length : Int)
        ·rw [if_pos c15] at H
         have c15b0 : decide (x7_1 < (t191.length : Int)) = true := decide_eq_true c15
         clear c15
         by_cases c16 : (Op.bytesLess ((rdOf ByteArray.empty t188 x7_1).toList) ((rdOf ByteArray.empty t191 x7_1).toList)) = true
         ·rw [if_pos c16] at H
          have c16b0 : (Op.bytesLess ((rdOf ByteArray.empty t188 x7_1).toList) ((rdOf ByteArray.empty t191 x7_1).toList)) = true := c16
          have c16b8 : (((rdOf ByteArray.empty t191 x7_1).toList) == ((rdOf ByteArray.empty t188 x7_1).toList)) = false := Go.Proofs.Ytcgnkbdfoaiaiaa.HStr.bytes_less_ne c16b0
          clear c16
          obtain rfl := Option.some.inj H
          obtain ⟨Ao17, co17, eo17⟩ := Kd.R_slice HO_5.out
          subst eo17
          have p194 : 0 ≤ (x7_1 : Int) := of_decide_eq_true (by first | (with_reducible assumption) | assumption)
          have q194 : x7_1 < (t188.length : Int) := of_decide_eq_true (by first | (with_reducible assumption) | assumption)
          obtain ⟨ad194, e194, hx194_0⟩ := Kd.at_string (Kd.R_reads' HO_5.out).2.2 x7_1 p194 q194
          cases e194
          replace p194 := eq_true p194
          replace q194 := eq_true q194
          obtain ⟨Ao18, co18, eo18⟩ := Kd.R_slice HO_6.out
          subst eo18
          have p195 : 0 ≤ (x7_1 : Int) := of_decide_eq_true (by first | (with_reducible assumption) | assumption)
          have q195 : x7_1 < (t191.length : Int) := of_decide_eq_true (by first | (with_reducible assumption) | assumption)
          obtain ⟨ad195, e195, hx195_0⟩ := Kd.at_string (Kd.R_reads' HO_6.out).2.2 x7_1 p195 q195
          cases e195
          replace p195 := eq_true p195
          replace q195 := eq_true q195
          go_wp2
          repeat (go_quiet (fail); try go_wp2)
          go_ret
          exact ⟨by first | rfl | (simp [errW_none, errW_some] <;> rfl) | (simp [*, errW_none, errW_some] <;> rfl), by repeat (first | (with_reducible first | exact HB.out | apply below_alloc | apply pw_below_drewN | apply below_drew1) | exact HB.out)⟩
         ·rw [if_neg c16] at H
          have c16b0 : (Op.bytesLess ((rdOf ByteArray.empty t188 x7_1).toList) ((rdOf ByteArray.empty t191 x7_1).toList)) = false := by simpa using c16
          (try (have c16b8 : (((rdOf ByteArray.empty t191 x7_1).toList) == ((rdOf ByteArray.empty t188 x7_1).toList)) = true := Go.Proofs.Ytcgnkbdfoaiaiaa.HStr.bytes_same (by assumption) c16b0))
          clear c16
          by_cases c19 : (Op.bytesLess ((rdOf ByteArray.empty t191 x7_1).toList) ((rdOf ByteArray.empty t188 x7_1).toList)) = true
          ·rw [if_pos c19] at H
           have c19b0 : (Op.bytesLess ((rdOf ByteArray.empty t191 x7_1).toList) ((rdOf ByteArray.empty t188 x7_1).toList)) = true := c19
           have c19b8 : (((rdOf ByteArray.empty t188 x7_1).toList) == ((rdOf ByteArray.empty t191 x7_1).toList)) = false := Go.Proofs.Ytcgnkbdfoaiaiaa.HStr.bytes_less_ne c19b0
           clear c19
           obtain rfl := Option.some.inj H
           obtain ⟨Ao20, co20, eo20⟩ := Kd.R_slice HO_5.out
           subst eo20
           have p194 : 0 ≤ (x7_1 : Int) := of_decide_eq_true (by first | (with_reducible assumption) | assumption)
           have q194 : x7_1 < (t188.length : Int) := of_decide_eq_true (by first | (with_reducible assumption) | assumption)
           obtain ⟨ad194, e194, hx194_0⟩ := Kd.at_string (Kd.R_reads' HO_5.out).2.2 x7_1 p194 q194
           cases e194
           replace p194 := eq_true p194
           replace q194 := eq_true q194
           obtain ⟨Ao21, co21, eo21⟩ := Kd.R_slice HO_6.out
           subst eo21
           have p195 : 0 ≤ (x7_1 : Int) := of_decide_eq_true (by first | (with_reducible assumption) | assumption)
           have q195 : x7_1 < (t191.length : Int) := of_decide_eq_true (by first | (with_reducible assumption) | assumption)
           obtain ⟨ad195, e195, hx195_0⟩ := Kd.at_string (Kd.R_reads' HO_6.out).2.2 x7_1 p195 q195
           cases e195
           replace p195 := eq_true p195
           replace q195 := eq_true q195
           have p196 : 0 ≤ (x7_1 : Int) := of_decide_eq_true (by first | (with_reducible assumption) | assumption)
           have q196 : x7_1 < (t188.length : Int) := of_decide_eq_true (by first | (with_reducible assumption) | assumption)
           obtain ⟨ad196, e196, hx196_0⟩ := Kd.at_string (Kd.R_reads' HO_5.out).2.2 x7_1 p196 q196
           obtain rfl : ad194 = ad196 := (by injection e196)
           replace p196 := eq_true p196
           replace q196 := eq_true q196
           have p197 : 0 ≤ (x7_1 : Int) := of_decide_eq_true (by first | (with_reducible assumption) | assumption)
           have q197 : x7_1 < (t191.length : Int) := of_decide_eq_true (by first | (with_reducible assumption) | assumption)
           obtain ⟨ad197, e197, hx197_0⟩ := Kd.at_string (Kd.R_reads' HO_6.out).2.2 x7_1 p197 q197
           obtain rfl : ad195 = ad197 := (by injection e197)
           replace p197 := eq_true p197
           replace q197 := eq_true q197
           go_wp2
           repeat (go_quiet (fail); try go_wp2)
           go_ret
           exact ⟨by first | rfl | (simp [errW_none, errW_some] <;> rfl) | (simp [*, errW_none, errW_some] <;> rfl), by repeat (first | (with_reducible first | exact HB.out | apply below_alloc | apply pw_below_drewN | apply below_drew1) | exact HB.out)⟩
          ·rw [if_neg c19] at H
           have c19b0 : (Op.bytesLess ((rdOf ByteArray.empty t191 x7_1).toList) ((rdOf ByteArray.empty t188 x7_1).toList)) = false := by simpa using c19
           (try (have c19b8 : (((rdOf ByteArray.empty t188 x7_1).toList) == ((rdOf ByteArray.empty t191 x7_1).toList)) = true := Go.Proofs.Ytcgnkbdfoaiaiaa.HStr.bytes_same (by assumption) c19b0))
           clear c19
           have H' := Aside0.mk H
           clear H
           obtain ⟨Ao22, co22, eo22⟩ := Kd.R_slice HO_5.out
           subst eo22
           have p194 : 0 ≤ (x7_1 : Int) := of_decide_eq_true (by first | (with_reducible assumption) | assumption)
           have q194 : x7_1 < (t188.length : Int) := of_decide_eq_true (by first | (with_reducible assumption) | assumption)
           obtain ⟨ad194, e194, hx194_0⟩ := Kd.at_string (Kd.R_reads' HO_5.out).2.2 x7_1 p194 q194
           cases e194
           replace p194 := eq_true p194
           replace q194 := eq_true q194
           obtain ⟨Ao23, co23, eo23⟩ := Kd.R_slice HO_6.out
           subst eo23
           have p195 : 0 ≤ (x7_1 : Int) := of_decide_eq_true (by first | (with_reducible assumption) | assumption)
           have q195 : x7_1 < (t191.length : Int) := of_decide_eq_true (by first | (with_reducible assumption) | assumption)
           obtain ⟨ad195, e195, hx195_0⟩ := Kd.at_string (Kd.R_reads' HO_6.out).2.2 x7_1 p195 q195
           cases e195
           replace p195 := eq_true p195
           replace q195 := eq_true q195
           have p196 : 0 ≤ (x7_1 : Int) := of_decide_eq_true (by first | (with_reducible assumption) | assumption)
           have q196 : x7_1 < (t188.length : Int) := of_decide_eq_true (by first | (with_reducible assumption) | assumption)
           obtain ⟨ad196, e196, hx196_0⟩ := Kd.at_string (Kd.R_reads' HO_5.out).2.2 x7_1 p196 q196
           obtain rfl : ad194 = ad196 := (by injection e196)
           replace p196 := eq_true p196
           replace q196 := eq_true q196
           have p197 : 0 ≤ (x7_1 : Int) := of_decide_eq_true (by first | (with_reducible assumption) | assumption)
           have q197 : x7_1 < (t191.length : Int) := of_decide_eq_true (by first | (with_reducible assumption) | assumption)
           obtain ⟨ad197, e197, hx197_0⟩ := Kd.at_string (Kd.R_reads' HO_6.out).2.2 x7_1 p197 q197
           obtain rfl : ad195 = ad197 := (by injection e197)
           replace p197 := eq_true p197
           replace q197 := eq_true q197
           go_wp2
           repeat (go_quiet (fail); try go_wp2)
           go_roundg kj6
           case measure => have := HK1.out; have := HJ6.out; omega
           case rel => exact ⟨(wrap64 (x7_1 + 1)), (by first | rfl | (simp; done) | (simp [*]; done)), H', ⟨by have := HK1.out; have := HJ6.out; omega⟩, ⟨by (with_reducible repeat (first | apply Kd.R_alloc | apply Kd.R_drewN | apply Kd.R_drew)); exact HO_5.out⟩, ⟨by (with_reducible repeat (first | apply Kd.R_alloc | apply Kd.R_drewN | apply Kd.R_drew)); exact HO_6.out⟩, ⟨by repeat (first | (with_reducible first | exact HB.out | apply below_alloc | apply pw_below_drewN | apply below_drew1) | exact HB.out)⟩⟩
        ·rw [if_neg c15] at H
         exact absurd H (by simp)
       ·rw [if_neg c14] at H
        exact absurd H (by simp)
      ·rw [if_neg c13] at H
       exact absurd H (by simp)
     ·replace c12 := Bool.eq_false_iff.mpr c12
      subst c12
      have H1 : (if (t188.length : Int) < (t191.length : Int) then (some (-1)) else (if (t188.length : Int) > (t191.length : Int) then (some 1) else (some 0))) = some r := by rw [if_neg (show ¬ (false = true) by decide)] at H; exact H
      clear H
      have H := H1
      clear H1
      by_cases c24 : (t188.length : Int) < (t191.length : Int)
      ·rw [if_pos c24] at H
       have c24b0 : decide ((t188.length : Int) < (t191.length : Int)) = true := decide_eq_true c24
       have c24b1 : decide (t188.length < t191.length) = true := decide_eq_true (Int.ofNat_lt.mp c24)
       clear c24
       obtain rfl := Option.some.inj H
       obtain ⟨Ao25, co25, eo25⟩ := Kd.R_slice HO_5.out
       subst eo25
       obtain ⟨Ao26, co26, eo26⟩ := Kd.R_slice HO_6.out
       subst eo26
       go_wp2
       repeat (go_quiet (fail); try go_wp2)
       go_ret
       exact ⟨by first | rfl | (simp [errW_none, errW_some] <;> rfl) | (simp [*, errW_none, errW_some] <;> rfl), by repeat (first | (with_reducible first | exact HB.out | apply below_alloc | apply pw_below_drewN | apply below_drew1) | exact HB.out)⟩
      ·rw [if_neg c24] at H
       have c24b0 : decide ((t188.length : Int) < (t191.length : Int)) = false := decide_eq_false c24
       have c24b1 : decide (t188.length < t191.length) = false := decide_eq_false (fun h => c24 (Int.ofNat_lt.mpr h))
       clear c24
       by_cases c27 : (t188.length : Int) > (t191.length : Int)
       ·rw [if_pos c27] at H
        have c27b0 : decide ((t191.length : Int) < (t188.length : Int)) = true := decide_eq_true c27
        have c27b1 : decide (t191.length < t188.length) = true := decide_eq_true (Int.ofNat_lt.mp c27)
        clear c27
        obtain rfl := Option.some.inj H
        obtain ⟨Ao28, co28, eo28⟩ := Kd.R_slice HO_5.out
        subst eo28
        obtain ⟨Ao29, co29, eo29⟩ := Kd.R_slice HO_6.out
        subst eo29
        go_wp2
        repeat (go_quiet (fail); try go_wp2)
        go_ret
        exact ⟨by first | rfl | (simp [errW_none, errW_some] <;> rfl) | (simp [*, errW_none, errW_some] <;> rfl), by repeat (first | (with_reducible first | exact HB.out | apply below_alloc | apply pw_below_drewN | apply below_drew1) | exact HB.out)⟩
       ·rw [if_neg c27] at H
        have c27b0 : decide ((t191.length : Int) < (t188.length : Int)) = false := decide_eq_false c27
        have c27b1 : decide (t191.length < t188.length) = false := decide_eq_false (fun h => c27 (Int.ofNat_lt.mpr h))
        clear c27
        obtain rfl := Option.some.inj H
        obtain ⟨Ao30, co30, eo30⟩ := Kd.R_slice HO_5.out
        subst eo30
        obtain ⟨Ao31, co31, eo31⟩ := Kd.R_slice HO_6.out
        subst eo31
        go_wp2
        repeat (go_quiet (fail); try go_wp2)
        go_ret
        exact ⟨by first | rfl | (simp [errW_none, errW_some] <;> rfl) | (simp [*, errW_none, errW_some] <;> rfl), by repeat (first | (with_reducible first | exact HB.out | apply below_alloc | apply pw_below_drewN | apply below_drew1) | exact HB.out)⟩

end Go.Proofs.Ytcgnkbdfoaiaiaa.P
end
section
/- What the document's own functions of layer 1 answer (out of the template PurePathsTells). -/
set_option linter.unusedVariables false
set_option linter.unusedSimpArgs false
namespace Go.Proofs.Ytcgnkbdfoaiaiaa.Q
open Go Go.RowKit Go.Proofs.Ytcgnkbdfoaiaiaa.P Go.Proofs.YtcgnkbdfoaiaiaaW.PrintWords Go.Proofs.YtcgnkbdfoaiaiaaW.PrintLast Go.Proofs.YtcgnkbdfoaiaiaaW.PrintMore
/-- The parts, and what is left of the one that is open. -/
theorem rsplit_loop (s : ByteArray) (hs : s.size ≤ 4000000) (d : Nat) : ∀ (i from_ : Nat) (acc : List ByteArray), i + d = s.size → from_ ≤ i → acc.length ≤ i → (∀ c ∈ ((tl s).drop from_).take (i - from_), c ≠ 47) →
    Ev (fun k => collatorref01_split.l0 k s acc (from_ : Int) (i : Int)) (acc ++ (parts ((tl s).drop from_)).map ofB) := by
  induction d with
  | zero =>
    intro i from_ acc hi hf ha hc
    have hno : (47 : UInt8) ∉ (tl s).drop from_ := fun h => by
      refine hc 47 ?_ rfl
      rw [List.take_of_length_le (by rw [List.length_drop, tl_size]; omega)]
      exact h
    rw [parts_one hno]
    have e : s.extract from_ s.size = ofB ((tl s).drop from_) := ofB_eq (tl_drop s from_)
    refine Ev.step (f := fun _ => some (acc ++ [ofB ((tl s).drop from_)])) (fun k => ?_) (Ev.now _)
    simp only [collatorref01_split.l0]
    rw [if_neg (by omega), if_pos (by omega), if_pos (by omega), if_pos (by omega), Int.toNat_natCast, e]
  | succ d ih =>
    intro i from_ acc hi hf ha hc
    have hlt : i < (tl s).length := by rw [tl_size]; omega
    have hget : (tl s)[i]? = some (tl s)[i] := List.getElem?_eq_getElem hlt
    have hb := bt_tl hget
    have hsplit : (tl s).drop from_ = ((tl s).drop from_).take (i - from_) ++ (tl s)[i] :: (tl s).drop (i + 1) := by
      have h1 : ((tl s).drop from_).drop (i - from_) = (tl s)[i] :: (tl s).drop (i + 1) := by
        rw [List.drop_drop, show from_ + (i - from_) = i by omega, List.drop_eq_getElem_cons hlt]
      rw [← h1, List.take_append_drop]
    by_cases c : (tl s)[i] = 47
    · have hno : (47 : UInt8) ∉ ((tl s).drop from_).take (i - from_) := fun h => hc 47 h rfl
      have e : s.extract from_ i = ofB (((tl s).drop from_).take (i - from_)) := ofB_eq (tl_cut s from_ i)
      have hn := ih (i + 1) (i + 1) (acc ++ [ofB (((tl s).drop from_).take (i - from_))]) (by omega) (Nat.le_refl _) (by rw [List.length_append, List.length_singleton]; omega) (fun x hx => by
        rw [Nat.sub_self, List.take_zero] at hx; cases hx)
      rw [hsplit, c, parts_app, parts_one hno, List.singleton_append, List.map_cons, ← List.singleton_append, ← List.append_assoc]
      refine Ev.step (fun k => ?_) hn
      simp only [collatorref01_split.l0]
      rw [if_pos (by omega), if_pos (by omega), hb, c, if_pos (by rfl), if_pos (by omega), if_pos (by omega), if_pos (by omega), if_pos (by omega), Int.toNat_natCast, Int.toNat_natCast, e, wi (by omega)]
    · have hn := ih (i + 1) from_ acc (by omega) (by omega) (by omega) (fun x hx => by
        have h2 : ((tl s).drop from_).take (i + 1 - from_) = ((tl s).drop from_).take (i - from_) ++ [(tl s)[i]] := by
          have h3 : i + 1 - from_ = (i - from_) + 1 := by omega
          have h4 : ((tl s).drop from_)[i - from_]? = some (tl s)[i] := by rw [List.getElem?_drop, show from_ + (i - from_) = i by omega, hget]
          rw [h3, List.take_add_one, h4]
          rfl
        rw [h2] at hx
        rcases List.mem_append.1 hx with hx | hx
        · exact hc x hx
        · rw [List.mem_singleton.1 hx]; exact c)
      refine Ev.step (fun k => ?_) hn
      simp only [collatorref01_split.l0]
      rw [if_pos (by omega), if_pos (by omega), hb, if_neg (fun h => c (UInt8.toNat_inj.1 (by have : ((47 : UInt8).toNat : Int) = 47 := rfl; omega))), wi (by omega)]
theorem rsplit_ev (s : ByteArray) (hs : s.size ≤ 4000000) : Ev (fun k => collatorref01_split.f k s) (pieces s) := by
  have h := rsplit_loop s hs s.size 0 0 [] (by omega) (Nat.le_refl _) (Nat.le_refl _) (fun c hc => by
    rw [Nat.sub_self, List.take_zero] at hc; cases hc)
  exact h
theorem may_l0 (s : ByteArray) (hs : s.size ≤ 4000000) (t : Bs) : ∀ i : Nat, (tl s).drop i = t → Ev (fun k => collatorref01_may.l0 k s (i : Int)) (decide ((0 : UInt8) ∉ t)) := by
  induction t with
  | nil =>
    intro i h
    have hi := drop_nil h
    rw [tl_size] at hi
    refine Ev.step (f := fun _ => some true) (fun k => ?_) (Ev.now _)
    simp only [collatorref01_may.l0]; rw [if_neg (by omega)]
  | cons c t ih =>
    intro i h
    obtain ⟨h1, h2, h3⟩ := drop_cons h
    rw [tl_size] at h1
    have hb := bt_tl h2
    by_cases hc : c = 0
    · rw [decide_eq_false (by rw [hc]; simp)]
      refine Ev.step (f := fun _ => some false) (fun k => ?_) (Ev.now _)
      simp only [collatorref01_may.l0]
      rw [if_pos (by omega), if_pos (by omega), hb, hc, if_pos (by rfl)]
    · have e : decide ((0 : UInt8) ∉ c :: t) = decide ((0 : UInt8) ∉ t) := by
        rw [decide_eq_decide, List.mem_cons, not_or]
        exact ⟨fun h => h.2, fun h => ⟨fun e => hc e.symm, h⟩⟩
      rw [e]
      refine Ev.step (fun k => ?_) (ih (i + 1) h3)
      simp only [collatorref01_may.l0]
      rw [if_pos (by omega), if_pos (by omega), hb, if_neg (fun h => hc (UInt8.toNat_inj.1 (by have : ((0 : UInt8).toNat : Int) = 0 := rfl; omega))), wi (by omega)]
theorem may_ev (s : ByteArray) (hs : s.size ≤ 4000000) : Ev (fun k => collatorref01_may.f k s) (!oddb (tl s)) := by
  have hj : ∀ b : Bool, Ev (fun k => collatorref01_may.j0 k s b) (if b = true then false else decide ((0 : UInt8) ∉ tl s)) := fun b => by
    cases b with
    | true =>
      refine Ev.step (f := fun _ => some false) (fun k => ?_) (Ev.now _)
      simp only [collatorref01_may.j0]; rw [if_true]
    | false =>
      refine Ev.step (fun k => ?_) (may_l0 s hs (tl s) 0 rfl)
      simp only [collatorref01_may.j0]; rw [if_neg (by decide)]; rfl
  have hl := tl_size s
  unfold collatorref01_may.f
  rw [toList_tl]
  by_cases h1 : tl s = []
  · have e : oddb (tl s) = true := decide_eq_true (.inl h1)
    rw [e]
    exact evpos h1 (hj true)
  · refine evneg h1 ?_
    by_cases h2 : tl s = [46]
    · have e : oddb (tl s) = true := decide_eq_true (.inr (.inl h2))
      rw [e]
      exact evpos h2 (hj true)
    · refine evneg h2 ?_
      by_cases h3 : tl s = [46, 46]
      · have e : oddb (tl s) = true := decide_eq_true (.inr (.inr (.inl h3)))
        rw [e]
        exact evpos h3 (hj true)
      · refine evneg h3 ?_
        by_cases h4 : (s.size : Int) > 64
        · have e : oddb (tl s) = true := decide_eq_true (.inr (.inr (.inr (.inl (by omega)))))
          rw [e, decide_eq_true h4]
          exact hj true
        · have e : (!oddb (tl s)) = decide ((0 : UInt8) ∉ tl s) := by
            unfold oddb
            rw [← decide_not, decide_eq_decide]
            constructor
            · intro h5 h6; exact h5 (.inr (.inr (.inr (.inr h6))))
            · rintro h5 (h6 | h6 | h6 | h6 | h6)
              · exact h1 h6
              · exact h2 h6
              · exact h3 h6
              · omega
              · exact h5 h6
          rw [e, decide_eq_false h4]
          exact hj false
theorem rcheck_loop (ps : List ByteArray) (hp : ps.length ≤ 1000000000000) (hz : ∀ q ∈ ps, q.size ≤ 4000000) (t : List ByteArray) : ∀ i : Nat, ps.drop i = t → Ev (fun k => collatorref01_Check.l0 k ps (i : Int)) (if (t.map tl).any oddb then 2 else if ps.length > 16 then 3 else 0) := by
  induction t with
  | nil =>
    intro i h
    have hi := drop_nil h
    refine Ev.step (f := fun _ => some _) (fun k => ?_) (Ev.now _)
    simp only [collatorref01_Check.l0]
    rw [if_neg (by omega)]
    show _ = some (if ps.length > 16 then (3 : Int) else 0)
    by_cases c : ps.length > 16
    · rw [if_pos (by omega), if_pos c]
    · rw [if_neg (by omega), if_neg c]
  | cons x t ih =>
    intro i h
    obtain ⟨h1, h2, h3⟩ := drop_cons h
    have hm := may_ev x (hz x (List.mem_of_getElem? h2))
    rw [List.map_cons, List.any_cons]
    refine Ev.step (f := fun k => (collatorref01_may.f k x).bind fun t161 => if t161 = true then collatorref01_Check.l0 k ps ((i + 1 : Nat) : Int) else some 2) (fun k => ?_) (Ev.bind hm ?_)
    · simp only [collatorref01_Check.l0]
      rw [if_pos (by omega), if_pos (by omega), rdB h2, wi (by omega)]
    · cases hx : oddb (tl x) with
      | true => exact evneg (by decide) (Ev.now _)
      | false => exact evpos rfl (ih (i + 1) h3)
theorem pieces_small (s : ByteArray) : ∀ q ∈ pieces s, q.size ≤ s.size := by
  have gen : ∀ l : Bs, ∀ p ∈ parts l, p.length ≤ l.length := by
    intro l
    induction l with
    | nil => intro p hp; rw [parts_nil, List.mem_singleton] at hp; rw [hp]; exact Nat.le_refl _
    | cons c l ih =>
      intro p hp
      by_cases hc : c = 47
      · subst hc
        rw [parts_slash] at hp
        rcases List.mem_cons.1 hp with rfl | hp
        · exact Nat.zero_le _
        · have := ih p hp; rw [List.length_cons]; omega
      · obtain ⟨q, qs, h⟩ := parts_ne l
        rw [parts_cons hc h] at hp
        rcases List.mem_cons.1 hp with rfl | hp
        · have := ih q (by rw [h]; exact List.mem_cons_self); simp only [List.length_cons]; omega
        · have := ih p (by rw [h]; exact List.mem_cons_of_mem _ hp); rw [List.length_cons]; omega
  intro q hq
  obtain ⟨p, hp, rfl⟩ := List.mem_map.1 hq
  have := gen (tl s) p hp
  rw [ofB_size, ← tl_size]
  exact this
theorem rcheck_ev (s : ByteArray) (hs : s.size ≤ 4000000) : Ev (fun k => collatorref01_Check.f k s) (Q.chk (parts (tl s))) := by
  unfold collatorref01_Check.f
  refine Ev.bind (rsplit_ev s hs) ?_
  have hl := pieces_length s
  have := rcheck_loop (pieces s) (by omega) (fun q hq => Nat.le_trans (pieces_small s q hq) hs) (pieces s) 0 rfl
  rw [pieces_tl] at this
  have e : (pieces s).length = (parts (tl s)).length := List.length_map ..
  rw [e] at this
  exact this
theorem rparts_ev (s : ByteArray) (hs : s.size ≤ 4000000) : Ev (fun k => collatorref01_Parts.f k s) (if Q.chk (parts (tl s)) = 0 then pieces s else []) := by
  unfold collatorref01_Parts.f
  refine Ev.bind (rcheck_ev s hs) ?_
  by_cases c : Q.chk (parts (tl s)) = 0
  · have e : (if Q.chk (parts (tl s)) = 0 then pieces s else []) = pieces s := if_pos c
    rw [e]
    exact evpos c (Ev.bind (rsplit_ev s hs) (Ev.now _))
  · have e : (if Q.chk (parts (tl s)) = 0 then pieces s else []) = [] := if_neg c
    rw [e]
    exact evneg c (Ev.now _)
theorem ok_parts {ps : List Bs} (h : Q.chk ps = 0) : ∀ p ∈ ps, p ≠ [] := by
  intro p hp he
  unfold Q.chk at h
  have : ps.any oddb = true := List.any_eq_true.2 ⟨p, hp, by rw [he]; rfl⟩
  rw [if_pos this] at h
  cases h
theorem rdir_loop (ps : List Bs) (hn : ∀ p ∈ ps, p ≠ []) (hp : ps.length ≤ 4000001) (d : Nat) : ∀ (i : Nat), i + d + 1 = ps.length → (∀ j, (glue (ps.take j)).length ≤ 3000000) → (∀ p ∈ ps, p.length ≤ 3000000) → Ev (fun k => collatorref01_Dir.l0 k (ps.map ofB) (ofB (glue (ps.take i))) (i : Int)) (ofB (glue ps.dropLast)) := by
  have hl : (ps.map ofB).length = ps.length := List.length_map ..
  induction d with
  | zero =>
    intro i hi h1 h2
    refine Ev.step (f := fun _ => some (ofB (glue ps.dropLast))) (fun k => ?_) (Ev.now _)
    simp only [collatorref01_Dir.l0]
    rw [wi (by omega), if_neg (by omega), List.dropLast_eq_take, show ps.length - 1 = i by omega]
  | succ d ih =>
    intro i hi h1 h2
    have hlt : i < ps.length := by omega
    have hget : (ps.map ofB)[i]? = some (ofB ps[i]) := by rw [List.getElem?_map, List.getElem?_eq_getElem hlt]; rfl
    have hj := rjoin_ok (d := ofB (glue (ps.take i))) (n := ofB ps[i]) (by rw [ofB_size]; have := h1 i; omega) (by rw [ofB_size]; have := h2 _ (List.getElem_mem hlt); omega)
    have e : joinB (tl (ofB (glue (ps.take i)))) (tl (ofB ps[i])) = glue (ps.take (i + 1)) := by
      rw [tl_ofB, tl_ofB, List.take_succ_eq_append_getElem hlt]
      by_cases c : ps.take i = []
      · rw [c]; rfl
      · rw [glue_snoc c]
        unfold joinB
        rw [if_neg (glue_ne c (fun q hq => hn q (List.mem_of_mem_take hq)))]
    rw [e] at hj
    refine Ev.step (fun k => ?_) (ih (i + 1) (by omega) h1 h2)
    simp only [collatorref01_Dir.l0]
    rw [wi (by omega), if_pos (by omega), if_pos (by omega), if_pos (by omega), rdB hget, hj, Option.bind_some]
theorem glue_take (ps : List Bs) (j : Nat) : (glue (ps.take j)).length ≤ (glue ps).length := by
  by_cases c1 : ps.take j = []
  · rw [c1]; exact Nat.zero_le _
  · by_cases c2 : ps.drop j = []
    · have := List.take_append_drop j ps
      rw [c2, List.append_nil] at this
      rw [this]
      exact Nat.le_refl _
    · have := glue_app _ _ c1 c2
      rw [List.take_append_drop] at this
      rw [this, List.length_append]
      omega
theorem rdir_ev (s : ByteArray) (hs : s.size ≤ 1000) : Ev (fun k => collatorref01_Dir.f k s) (ofB (dirB (tl s))) := by
  unfold collatorref01_Dir.f dirB
  refine Ev.bind (rparts_ev s (by omega)) ?_
  by_cases c : Q.chk (parts (tl s)) = 0
  · rw [if_pos c, if_pos c]
    obtain ⟨p, ps, hp⟩ := parts_ne (tl s)
    have hl := parts_length (tl s)
    rw [tl_size] at hl
    refine rdir_loop (parts (tl s)) (ok_parts c) (by omega) ((parts (tl s)).length - 1) 0 (by rw [hp]; simp) (fun j => ?_) (fun q hq => ?_)
    · have := glue_take (parts (tl s)) j
      rw [glue_parts, tl_size] at this
      omega
    · have := pieces_small s (ofB q) (List.mem_map_of_mem hq)
      rw [ofB_size] at this
      omega
  · rw [if_neg c, if_neg c]
    refine Ev.step (f := fun _ => some (⟨#[]⟩ : ByteArray)) (fun k => ?_) (Ev.now _)
    simp only [collatorref01_Dir.l0]
    have e : wrap64 ((0 : Int) + 1) = 1 := (w64 (x := (0 : Int) + 1) (by omega) (by omega)).trans (by omega)
    rw [e, if_neg (by decide)]
theorem less_cmp (a b : Bs) : Op.bytesLess a b = decide (bcmp a b < 0) := by
  induction a generalizing b with
  | nil => cases b <;> rfl
  | cons x a ih =>
    cases b with
    | nil => rfl
    | cons y b =>
      show (decide (x < y) || (x == y && Op.bytesLess a b)) = _
      rw [bcmp_cons, ih b]
      by_cases c1 : x.toNat < y.toNat
      · rw [if_pos c1, decide_eq_true (UInt8.lt_iff_toNat_lt.2 c1)]; rfl
      · have h1 : ¬ x < y := fun h => c1 (UInt8.lt_iff_toNat_lt.1 h)
        rw [if_neg c1, decide_eq_false h1, Bool.false_or]
        by_cases c2 : y.toNat < x.toNat
        · have h2 : (x == y) = false := by rw [beq_eq_false_iff_ne]; intro h; rw [h] at c2; omega
          rw [if_pos c2, h2]; rfl
        · have h2 : (x == y) = true := by rw [beq_iff_eq]; exact UInt8.toNat_inj.1 (by omega)
          rw [if_neg c2, h2, Bool.true_and]
theorem bcmp_neg (a b : Bs) : bcmp b a = -bcmp a b := lex_neg _ _
theorem rcompare_loop (xs ys : List Bs) (hx : xs.length ≤ 100000) (hy : ys.length ≤ 100000) (u : List Bs) : ∀ (v : List Bs) (i : Nat), xs.drop i = u → ys.drop i = v → i ≤ xs.length → i ≤ ys.length → Ev (fun k => collatorref01_Compare.l0 k (xs.map ofB) (ys.map ofB) (i : Int)) (cmpP u v) := by
  have lx : (xs.map ofB).length = xs.length := List.length_map ..
  have ly : (ys.map ofB).length = ys.length := List.length_map ..
  induction u with
  | nil =>
    intro v i hu hv h1 h2
    have g1 := drop_nil hu
    refine Ev.step (f := fun k => collatorref01_Compare.j1 k (xs.map ofB) (ys.map ofB) (i : Int) false) (fun k => ?_) (Ev.step (f := fun _ => some (cmpP [] v)) (fun k => ?_) (Ev.now _))
    · simp only [collatorref01_Compare.l0]; rw [if_neg (by omega)]
    · simp only [collatorref01_Compare.j1]
      rw [if_neg (by decide)]
      cases v with
      | nil =>
        have g2 := drop_nil hv
        rw [if_neg (by omega), if_neg (by omega)]; rfl
      | cons y v =>
        obtain ⟨g2, _, _⟩ := drop_cons hv
        rw [if_pos (by omega)]; rfl
  | cons x u ih =>
    intro v i hu hv h1 h2
    obtain ⟨a1, a2, a3⟩ := drop_cons hu
    cases v with
    | nil =>
      have g2 := drop_nil hv
      refine Ev.step (f := fun k => collatorref01_Compare.j1 k (xs.map ofB) (ys.map ofB) (i : Int) false) (fun k => ?_) (Ev.step (f := fun _ => some (cmpP (x :: u) [])) (fun k => ?_) (Ev.now _))
      · simp only [collatorref01_Compare.l0]; rw [if_pos (by omega), decide_eq_false (by omega : ¬ (i : Int) < ((ys.map ofB).length : Int))]
      · simp only [collatorref01_Compare.j1]
        rw [if_neg (by decide), if_neg (by omega), if_pos (by omega)]; rfl
    | cons y v =>
      obtain ⟨b1, b2, b3⟩ := drop_cons hv
      have ga : (xs.map ofB)[i]? = some (ofB x) := by rw [List.getElem?_map, a2]; rfl
      have gb : (ys.map ofB)[i]? = some (ofB y) := by rw [List.getElem?_map, b2]; rfl
      have hn := ih v (i + 1) a3 b3 (by omega) (by omega)
      have hng := bcmp_neg x y
      show Ev _ (if bcmp x y < 0 then (-1 : Int) else if bcmp x y > 0 then 1 else cmpP u v)
      refine Ev.step (f := fun k => collatorref01_Compare.j1 k (xs.map ofB) (ys.map ofB) (i : Int) true) (fun k => ?_) ?_
      · simp only [collatorref01_Compare.l0]; rw [if_pos (by omega), decide_eq_true (by omega : (i : Int) < ((ys.map ofB).length : Int))]
      · by_cases c1 : bcmp x y < 0
        · rw [if_pos c1]
          refine Ev.step (f := fun _ => some (-1)) (fun k => ?_) (Ev.now _)
          simp only [collatorref01_Compare.j1]
          rw [if_true, if_pos (by omega), if_pos (by omega), if_pos (by omega), rdB ga, rdB gb, toList_tl, toList_tl, tl_ofB, tl_ofB, less_cmp, if_pos (decide_eq_true c1)]
        · rw [if_neg c1]
          by_cases c2 : bcmp x y > 0
          · rw [if_pos c2]
            refine Ev.step (f := fun _ => some 1) (fun k => ?_) (Ev.now _)
            simp only [collatorref01_Compare.j1]
            rw [if_true, if_pos (by omega), if_pos (by omega), if_pos (by omega), rdB ga, rdB gb, toList_tl, toList_tl, tl_ofB, tl_ofB, less_cmp, less_cmp, if_neg (by rw [decide_eq_false c1]; decide), if_pos (decide_eq_true (by omega))]
          · rw [if_neg c2]
            refine Ev.step (fun k => ?_) hn
            simp only [collatorref01_Compare.j1]
            rw [if_true, if_pos (by omega), if_pos (by omega), if_pos (by omega), rdB ga, rdB gb, toList_tl, toList_tl, tl_ofB, tl_ofB, less_cmp, less_cmp, if_neg (by rw [decide_eq_false c1]; decide), if_neg (by rw [decide_eq_false (by omega : ¬ bcmp y x < 0)]; decide), wi (by omega)]
theorem rcompare_ev (a b : ByteArray) (ha : a.size ≤ 1000) (hb : b.size ≤ 1000) : Ev (fun k => collatorref01_Compare.f k a b) (pcmp (tl a) (tl b)) := by
  unfold collatorref01_Compare.f
  refine Ev.bind (rsplit_ev a (by omega)) (Ev.bind (rsplit_ev b (by omega)) ?_)
  have h1 := parts_length (tl a)
  have h2 := parts_length (tl b)
  rw [tl_size] at h1 h2
  have h := rcompare_loop (parts (tl a)) (parts (tl b)) (by omega) (by omega) _ _ 0 rfl rfl (by omega) (by omega)
  rw [List.drop_zero, List.drop_zero, cmp_parts] at h
  exact h
end Go.Proofs.Ytcgnkbdfoaiaiaa.Q
end
section
/- collatorref08.sorted, plain: who is put where. -/
set_option linter.unusedVariables false
set_option linter.unusedSimpArgs false
namespace Go.Proofs.Ytcgnkbdfoaiaiaa.P
open Go Go.RowKit Go.Proofs.YtcgnkbdfoaiaiaaW.PrintWords Go.Proofs.YtcgnkbdfoaiaiaaW.PrintLast Go.Proofs.YtcgnkbdfoaiaiaaW.PrintMore Go.Proofs.Ytcgnkbdfoaiaiaa.Q
/-- Behind how many of the first n p is put. -/
def posn (p : PrS) (out : List PrS) : Nat → Nat
  | 0 => 0
  | n + 1 => if pcmp (tl p.f1) (tl (out.getD n p).f1) < 0 then posn p out n else n + 1
theorem posn_le (p : PrS) (out : List PrS) : ∀ n, posn p out n ≤ n
  | 0 => Nat.le_refl _
  | n + 1 => by
    unfold posn
    split
    · have := posn_le p out n; omega
    · exact Nat.le_refl _
def ins (out : List PrS) (p : PrS) : List PrS := out.take (posn p out out.length) ++ [p] ++ out.drop (posn p out out.length)
theorem ins_length (out : List PrS) (p : PrS) : (ins out p).length = out.length + 1 := by
  have := posn_le p out out.length
  unfold ins
  simp only [List.length_append, List.length_take, List.length_drop, List.length_singleton]
  omega
theorem ins_mem {out : List PrS} {p x : PrS} (h : x ∈ ins out p) : x = p ∨ x ∈ out := by
  unfold ins at h
  rcases List.mem_append.1 h with h | h
  · rcases List.mem_append.1 h with h | h
    · exact .inr (List.mem_of_mem_take h)
    · exact .inl (List.mem_singleton.1 h)
  · exact .inr (List.mem_of_mem_drop h)
def isort (l : List PrS) : List PrS := l.foldl ins []
theorem isort_snoc (l : List PrS) (p : PrS) : isort (l ++ [p]) = ins (isort l) p := by
  unfold isort
  rw [List.foldl_append]
  rfl
theorem isort_gen : ∀ (l acc : List PrS), (l.foldl ins acc).length = acc.length + l.length ∧ ∀ x ∈ l.foldl ins acc, x ∈ acc ∨ x ∈ l
  | [], acc => ⟨rfl, fun x hx => .inl hx⟩
  | p :: l, acc => by
    obtain ⟨h1, h2⟩ := isort_gen l (ins acc p)
    rw [List.foldl_cons]
    refine ⟨by rw [h1, ins_length, List.length_cons]; omega, fun x hx => ?_⟩
    rcases h2 x hx with h | h
    · rcases ins_mem h with rfl | h
      · exact .inr List.mem_cons_self
      · exact .inl h
    · exact .inr (List.mem_cons_of_mem _ h)
theorem isort_length (l : List PrS) : (isort l).length = l.length := by
  have := (isort_gen l []).1
  unfold isort
  rw [this]; simp
theorem isort_mem {l : List PrS} {x : PrS} (h : x ∈ isort l) : x ∈ l := ((isort_gen l []).2 x h).resolve_left (by simp)
theorem rcompare_loopB (xs ys : List Bs) (hx : xs.length ≤ 4000001) (hy : ys.length ≤ 4000001) (u : List Bs) : ∀ (v : List Bs) (i : Nat), xs.drop i = u → ys.drop i = v → i ≤ xs.length → i ≤ ys.length → Ev (fun k => collatorref01_Compare.l0 k (xs.map ofB) (ys.map ofB) (i : Int)) (cmpP u v) := by
  have lx : (xs.map ofB).length = xs.length := List.length_map ..
  have ly : (ys.map ofB).length = ys.length := List.length_map ..
  induction u with
  | nil =>
    intro v i hu hv h1 h2
    have g1 := drop_nil hu
    refine Ev.step (f := fun k => collatorref01_Compare.j1 k (xs.map ofB) (ys.map ofB) (i : Int) false) (fun k => ?_) (Ev.step (f := fun _ => some (cmpP [] v)) (fun k => ?_) (Ev.now _))
    · simp only [collatorref01_Compare.l0]; rw [if_neg (by omega)]
    · simp only [collatorref01_Compare.j1]
      rw [if_neg (by decide)]
      cases v with
      | nil =>
        have g2 := drop_nil hv
        rw [if_neg (by omega), if_neg (by omega)]; rfl
      | cons y v =>
        obtain ⟨g2, _, _⟩ := drop_cons hv
        rw [if_pos (by omega)]; rfl
  | cons x u ih =>
    intro v i hu hv h1 h2
    obtain ⟨a1, a2, a3⟩ := drop_cons hu
    cases v with
    | nil =>
      have g2 := drop_nil hv
      refine Ev.step (f := fun k => collatorref01_Compare.j1 k (xs.map ofB) (ys.map ofB) (i : Int) false) (fun k => ?_) (Ev.step (f := fun _ => some (cmpP (x :: u) [])) (fun k => ?_) (Ev.now _))
      · simp only [collatorref01_Compare.l0]; rw [if_pos (by omega), decide_eq_false (by omega : ¬ (i : Int) < ((ys.map ofB).length : Int))]
      · simp only [collatorref01_Compare.j1]
        rw [if_neg (by decide), if_neg (by omega), if_pos (by omega)]; rfl
    | cons y v =>
      obtain ⟨b1, b2, b3⟩ := drop_cons hv
      have ga : (xs.map ofB)[i]? = some (ofB x) := by rw [List.getElem?_map, a2]; rfl
      have gb : (ys.map ofB)[i]? = some (ofB y) := by rw [List.getElem?_map, b2]; rfl
      have hn := ih v (i + 1) a3 b3 (by omega) (by omega)
      have hng := bcmp_neg x y
      show Ev _ (if bcmp x y < 0 then (-1 : Int) else if bcmp x y > 0 then 1 else cmpP u v)
      refine Ev.step (f := fun k => collatorref01_Compare.j1 k (xs.map ofB) (ys.map ofB) (i : Int) true) (fun k => ?_) ?_
      · simp only [collatorref01_Compare.l0]; rw [if_pos (by omega), decide_eq_true (by omega : (i : Int) < ((ys.map ofB).length : Int))]
      · by_cases c1 : bcmp x y < 0
        · rw [if_pos c1]
          refine Ev.step (f := fun _ => some (-1)) (fun k => ?_) (Ev.now _)
          simp only [collatorref01_Compare.j1]
          rw [if_true, if_pos (by omega), if_pos (by omega), if_pos (by omega), rdB ga, rdB gb, toList_tl, toList_tl, tl_ofB, tl_ofB, less_cmp, if_pos (decide_eq_true c1)]
        · rw [if_neg c1]
          by_cases c2 : bcmp x y > 0
          · rw [if_pos c2]
            refine Ev.step (f := fun _ => some 1) (fun k => ?_) (Ev.now _)
            simp only [collatorref01_Compare.j1]
            rw [if_true, if_pos (by omega), if_pos (by omega), if_pos (by omega), rdB ga, rdB gb, toList_tl, toList_tl, tl_ofB, tl_ofB, less_cmp, less_cmp, if_neg (by rw [decide_eq_false c1]; decide), if_pos (decide_eq_true (by omega))]
          · rw [if_neg c2]
            refine Ev.step (fun k => ?_) hn
            simp only [collatorref01_Compare.j1]
            rw [if_true, if_pos (by omega), if_pos (by omega), if_pos (by omega), rdB ga, rdB gb, toList_tl, toList_tl, tl_ofB, tl_ofB, less_cmp, less_cmp, if_neg (by rw [decide_eq_false c1]; decide), if_neg (by rw [decide_eq_false (by omega : ¬ bcmp y x < 0)]; decide), wi (by omega)]
theorem rcompare_big (a b : ByteArray) (ha : a.size ≤ 3000000) (hb : b.size ≤ 3000000) : Ev (fun k => collatorref01_Compare.f k a b) (pcmp (tl a) (tl b)) := by
  unfold collatorref01_Compare.f
  refine Ev.bind (rsplit_ev a (by omega)) (Ev.bind (rsplit_ev b (by omega)) ?_)
  have h1 := parts_length (tl a)
  have h2 := parts_length (tl b)
  rw [tl_size] at h1 h2
  have h := rcompare_loopB (parts (tl a)) (parts (tl b)) (by omega) (by omega) _ _ 0 rfl rfl (by omega) (by omega)
  rw [List.drop_zero, List.drop_zero, cmp_parts] at h
  exact h
/-! ### Rows of pairs as lists of values -/
abbrev encS (x : PrS) : List Value := [.string x.f0, .string x.f1, .int .i64 x.f2]
theorem prow_of_R {w : World} {base : Nat} {ok : Nat → Prop} {v : Value} {l : List PrS} (h : Kd.R k35 35 w base ok v l) : ∃ inner, w.ownsRow base 35 3 v l.length inner ∧ Reps (fun x c => c = encS x) 3 l inner := by
  obtain ⟨_, inner, ho, hr⟩ := h
  exact ⟨inner, ho, hr.imp_ (fun p c hc => k35_openM hc)⟩
theorem R_of_prow {w : World} {base : Nat} {v : Value} {l : List PrS} {inner : List Value} (ho : w.ownsRow base 35 3 v l.length inner) (hr : Reps (fun x c => c = encS x) 3 l inner) : Kd.R k35 35 w base (fun _ => True) v l :=
  ⟨fun _ _ => trivial, inner, ho, hr.imp_ (fun p c hc => by rw [hc]; exact k35_mkM _ _ _ _)⟩
theorem encS_one {l : List PrS} {inner : List Value} (hr : Reps (fun x c => c = encS x) 3 l inner) : ∀ u ∈ inner, u.oneCell' = true :=
  Kd.reps_one hr (by decide) (fun p c h u hu => by
    rw [h] at hu
    simp [encS] at hu
    rcases hu with rfl | rfl | rfl <;> rfl)
theorem reps_pair (x : PrS) : Reps (fun x c => c = encS x) 3 [x] (encS x) := Reps.snoc (Reps.none _ _) rfl rfl
theorem ins_row {w : World} {base : Nat} {v : Value} {xs : List PrS} {x : PrS} {n : Nat} {ix : List Value} (hn : posn x xs xs.length = n) (hr : Reps (fun x c => c = encS x) 3 xs ix)
    (ho : w.ownsRow base 35 3 v (n + 1 + (xs.length - n)) (ix.take (n * 3) ++ encS x ++ ix.drop (n * 3))) (hle : n ≤ xs.length) : Kd.R k35 35 w base (fun _ => True) v (ins xs x) := by
  have e : (ins xs x).length = n + 1 + (xs.length - n) := by rw [ins_length]; omega
  refine R_of_prow (by rw [e]; exact ho) ?_
  unfold ins
  rw [hn]
  exact Kd.reps_append (Kd.reps_append (Kd.reps_take hr hle) (reps_pair x)) (Kd.reps_drop hr)
/-! ### Readings under two cells that stand -/
def S2 (p : Addr) (u : Value) (q : Addr) (v : Value) (w : World) : Prop := w.cell? p = some u ∧ w.cell? q = some v
theorem tkc {F : Fence} {n : Nat} {P : Program} {ops : Array Oper} {Q : Exit → Act → World → Prop} {md : Region.Mode} {z : Nat} {p q : Addr} {c1 c2 : Value} {i : Nat} {oi : Oper} {tl : List Oper} {v : Value} {f : Nat} {l : Array Bool} {a : Act} {w : World}
    (hi : ops.toList.drop i = oi :: tl) (hS : S2 p c1 q c2 w) (h : Held.AnyS F n P md ops Q (S2 p c1 q c2) z f (l.setIfInBounds i true) (a.put oi.dst v) w)
    (hy : ∀ w, S2 p c1 q c2 w → (execOp a.eval oi).run P w = .ok (.value v) w := by intro w' hw'; obtain ⟨s0, s1⟩ := hw'; go_simp; try (with_reducible rfl))
    (hc : (Held.noDefer ops && Region.noSelect ops && Held.tied md ops z i && Region.free md ops l i && (Region.ready md ops l).contains i) = true := by kernel_rfl)
    (hQ : ∀ c a w, Q (.panic c) (a.put oi.dst v) w → Q (.panic c) a w := by exact fun _ _ _ h => h) (hw : Region.wanted oi (yielded ops a.tmps) = true := by rfl) (ha : ∀ w, oi.about P w a.eval = none := by exact fun _ => rfl) : Held.AnyS F n P md ops Q (S2 p c1 q c2) z (f + 1) l a w :=
  Held.AnyS.take hi hc hQ hw ha hy hS h
def S3 (p : Addr) (u : Value) (q : Addr) (v : Value) (r : Addr) (t : Value) (w : World) : Prop := w.cell? p = some u ∧ w.cell? q = some v ∧ w.cell? r = some t
theorem tkd {F : Fence} {n : Nat} {P : Program} {ops : Array Oper} {Q : Exit → Act → World → Prop} {md : Region.Mode} {z : Nat} {p q r : Addr} {c1 c2 c3 : Value} {i : Nat} {oi : Oper} {tl : List Oper} {v : Value} {f : Nat} {l : Array Bool} {a : Act} {w : World}
    (hi : ops.toList.drop i = oi :: tl) (hS : S3 p c1 q c2 r c3 w) (h : Held.AnyS F n P md ops Q (S3 p c1 q c2 r c3) z f (l.setIfInBounds i true) (a.put oi.dst v) w)
    (hy : ∀ w, S3 p c1 q c2 r c3 w → (execOp a.eval oi).run P w = .ok (.value v) w := by intro w' hw'; obtain ⟨s0, s1, s2⟩ := hw'; go_simp; try (with_reducible rfl))
    (hc : (Held.noDefer ops && Region.noSelect ops && Held.tied md ops z i && Region.free md ops l i && (Region.ready md ops l).contains i) = true := by kernel_rfl)
    (hQ : ∀ c a w, Q (.panic c) (a.put oi.dst v) w → Q (.panic c) a w := by exact fun _ _ _ h => h) (hw : Region.wanted oi (yielded ops a.tmps) = true := by rfl) (ha : ∀ w, oi.about P w a.eval = none := by exact fun _ => rfl) : Held.AnyS F n P md ops Q (S3 p c1 q c2 r c3) z (f + 1) l a w :=
  Held.AnyS.take hi hc hQ hw ha hy hS h
theorem tk1 {F : Fence} {n : Nat} {P : Program} {ops : Array Oper} {Q : Exit → Act → World → Prop} {md : Region.Mode} {z : Nat} {i : Nat} {oi : Oper} {tl : List Oper} {v : Value} {f : Nat} {l : Array Bool} {a : Act} {w : World}
    (hi : ops.toList.drop i = oi :: tl) (h : Held.AnyS F n P md ops Q (fun _ => True) z f (l.setIfInBounds i true) (a.put oi.dst v) w)
    (hy : ∀ w, (fun _ => True) w → (execOp a.eval oi).run P w = .ok (.value v) w := by intro w' _; go_simp; try (with_reducible rfl))
    (hc : (Held.noDefer ops && Region.noSelect ops && Held.tied md ops z i && Region.free md ops l i && (Region.ready md ops l).contains i) = true := by kernel_rfl)
    (hQ : ∀ c a w, Q (.panic c) (a.put oi.dst v) w → Q (.panic c) a w := by exact fun _ _ _ h => h) (hw : Region.wanted oi (yielded ops a.tmps) = true := by rfl) (ha : ∀ w, oi.about P w a.eval = none := by exact fun _ => rfl) : Held.AnyS F n P md ops Q (fun _ => True) z (f + 1) l a w :=
  Held.AnyS.take hi hc hQ hw ha hy trivial h
/-- A guarded one that is let out. -/
theorem skc {F : Fence} {n : Nat} {P : Program} {ops : Array Oper} {Q : Exit → Act → World → Prop} {md : Region.Mode} {z : Nat} {S : World → Prop} {i : Nat} {oi : Oper} {tl : List Oper} {f : Nat} {l : Array Bool} {a : Act} {w : World}
    (hi : ops.toList.drop i = oi :: tl) (hS : S w) (h : Held.AnyS F n P md ops Q S z f (l.setIfInBounds i true) (a.put oi.dst undef) w)
    (hc : (Held.noDefer ops && Region.noSelect ops && Held.tied md ops z i && Region.free md ops l i && (Region.ready md ops l).contains i) = true := by kernel_rfl)
    (hQ : ∀ c a w, Q (.panic c) (a.put oi.dst undef) w → Q (.panic c) a w := by exact fun _ _ _ h => h) (hw : Region.wanted oi (yielded ops a.tmps) = false := by rfl) (ha : ∀ w, oi.about P w a.eval = none := by exact fun _ => rfl) : Held.AnyS F n P md ops Q S z (f + 1) l a w :=
  Held.AnyS.skip hi hc hQ hw ha hS h
/-- One operation alone may come up, and its guard lets it out. -/
theorem offc {n : Nat} {P : Program} {ops : Array Oper} {Q : Exit → Act → World → Prop} {md : Region.Mode} {S : World → Prop} {z : Nat} {i : Nat} {o : Oper} {tl : List Oper} {f : Nat} {l : Array Bool} {a : Act} {w : World} (ho : ops.toList.drop i = o :: tl) (hr : Region.ready md ops l = [i]) (hw : Region.wanted o (yielded ops a.tmps) = false) (hS : i < z → S w)
    (h : Held.AnyS Fence.wide n P md ops Q S z f (l.setIfInBounds i true) (a.put o.dst undef) w) : Held.AnyS Fence.wide n P md ops Q S z (f + 1) l a w := by
  refine ⟨fun h0 => absurd (hr ▸ h0) (by simp), fun j hj => ?_⟩
  rw [hr] at hj
  obtain rfl := List.mem_singleton.1 hj
  unfold wpOpIn
  simp only [Held.at_drop ho, hw, Bool.false_eq_true, if_false]
  exact ⟨fun f _ => trivial, hS, h⟩
theorem cell_two {w wo Z : World} {p : Addr} {u : Value} (hB : Below w.heap.size w wo) (hQ : Below wo.heap.size wo Z) (h : w.cell? p = some u) : Z.cell? p = some u := by
  have h1 := (hB.cell (World.block_lt_of_cell? w _ h)).trans h
  exact (hQ.cell (World.block_lt_of_cell? wo _ h1)).trans h1
theorem news_take {w : World} {base : Nat} {e : TypeId} {N n c : Nat} {A : Option Addr} {ix : List Value} (h : w.ownsRow base e 3 (.slice A N c) N ix) (hn : n ≤ N) : (A = none ∧ n = 0) ∨ ∃ ad, A = some ad ∧ ∀ j u, (ix.take (n * 3))[j]? = some u → w.cell? (ad.add j) = some u := by
  rcases own_news h with ⟨h1, h2⟩ | ⟨ad, h1, h2⟩
  · exact .inl ⟨h1, by omega⟩
  · refine .inr ⟨ad, h1, fun j u hu => h2 j u ?_⟩
    rw [List.getElem?_take] at hu
    split at hu
    · exact hu
    · cases hu
theorem news_drop {w : World} {base : Nat} {e : TypeId} {N n c : Nat} {A : Option Addr} {ix : List Value} (h : w.ownsRow base e 3 (.slice A N c) N ix) (hn : n ≤ N) (hc : N ≤ c) : ((if c = n then A else Option.map (fun x => x.add (n * 3)) A) = none ∧ N - n = 0) ∨ ∃ ad, (if c = n then A else Option.map (fun x => x.add (n * 3)) A) = some ad ∧ ∀ j u, (ix.drop (n * 3))[j]? = some u → w.cell? (ad.add j) = some u := by
  rcases own_news h with ⟨rfl, h2⟩ | ⟨ad, rfl, h2⟩
  · refine .inl ⟨by split <;> rfl, by omega⟩
  · by_cases cc : c = n
    · refine .inr ⟨ad, by rw [if_pos cc], fun j u hu => ?_⟩
      have hl := h.1
      rw [List.getElem?_drop, List.getElem?_eq_none (by omega)] at hu
      cases hu
    · refine .inr ⟨ad.add (n * 3), by rw [if_neg cc]; rfl, fun j u hu => ?_⟩
      rw [List.getElem?_drop] at hu
      have := h2 _ _ hu
      rw [← Go.Deep.add_add] at this
      exact this
theorem take_len {w : World} {base : Nat} {e : TypeId} {N n : Nat} {v : Value} {ix : List Value} (h : w.ownsRow base e 3 v N ix) (hn : n ≤ N) : (ix.take (n * 3)).length = n * 3 := by
  have hl := h.1
  rw [List.length_take]
  omega
theorem drop_len {w : World} {base : Nat} {e : TypeId} {N n : Nat} {v : Value} {ix : List Value} (h : w.ownsRow base e 3 v N ix) (hn : n ≤ N) : (ix.drop (n * 3)).length = (N - n) * 3 := by
  have hl := h.1
  rw [List.length_drop]
  omega
theorem rdPr0 {s : List PrS} {i : Nat} {x : PrS} (h : s[i]? = some x) : rd_T35 s (i : Int) = x := by
  unfold rd_T35
  rw [Int.toNat_natCast, List.getD_eq_getElem?_getD, h]; rfl
end Go.Proofs.Ytcgnkbdfoaiaiaa.P
end
section
/- Laid for this claim by hp.py, this session's program round the kit's print: functions of the program as plain Lean functions, the proofs that the code comes to their answers, and the rows of the laws. Not trusted: Lean checks it. -/
namespace Go.Proofs.Ytcgnkbdfoaiaiaa.P
open Go.RowKit Go.Proofs.YtcgnkbdfoaiaiaaW.PrintWords Go.Proofs.YtcgnkbdfoaiaiaaW.PrintLast Go.Proofs.YtcgnkbdfoaiaiaaW.PrintMore
attribute [local go_sem] max2_int min2_int max_two min_two max_three min_three max_four min_four   -- for this text's walks alone
set_option linter.unusedVariables false
set_option linter.unusedSimpArgs false

/-! ### collatorlaw02_pick: function 30 -/
def collatorlaw02_pick.f (a0 : Int) (a1 : Int) : Option (Int) := if a0 < 0 then (if a1 = 0 then (none) else (some (Int.tmod (wrap64 (-(wrap64 (a0 + 1)))) a1))) else (if a1 = 0 then (none) else (some (Int.tmod a0 a1)))
set_option maxHeartbeats 8000000 in
set_option maxRecDepth 100000 in
theorem collatorlaw02_pick.calls (a0 : Int) (a1 : Int) (r : Int) (w : World) (h : collatorlaw02_pick.f a0 a1 = some r) :
  Calls Try.prog 30 #[.int .i64 a0, .int .i64 a1] w fun e w' => e = .returned (.int .i64 r) ∧ Drawn0 w w' := by
 have H : (if a0 < 0 then (if a1 = 0 then (none) else (some (Int.tmod (wrap64 (-(wrap64 (a0 + 1)))) a1))) else (if a1 = 0 then (none) else (some (Int.tmod a0 a1)))) = some r := h
 clear h
 by_cases c3 : a0 < 0
 ·rw [if_pos c3] at H
  have c3b0 : decide (a0 < 0) = true := decide_eq_true c3
  clear c3
  by_cases c4 : a1 = 0
  ·rw [if_pos c4] at H
   exact absurd H (by simp)
  ·rw [if_neg c4] at H
   have c4b0 : (a1 == 0) = false := beq_eq_false_iff_ne.mpr c4
   have c4b1 : (a1 != 0) = true := bne_iff_ne.mpr c4
   obtain rfl := Option.some.inj H
   go_enter Try.func30, Try.ntmps30
   go_wp2
   go_ret
   exact ⟨by first | rfl | (simp; done) | (simp [*]; done), by repeat (first | exact Drawn0.refl _ | apply Drawn0.step)⟩
 ·rw [if_neg c3] at H
  have c3b0 : decide (a0 < 0) = false := decide_eq_false c3
  clear c3
  by_cases c5 : a1 = 0
  ·rw [if_pos c5] at H
   exact absurd H (by simp)
  ·rw [if_neg c5] at H
   have c5b0 : (a1 == 0) = false := beq_eq_false_iff_ne.mpr c5
   have c5b1 : (a1 != 0) = true := bne_iff_ne.mpr c5
   obtain rfl := Option.some.inj H
   go_enter Try.func30, Try.ntmps30
   go_wp2
   go_ret
   exact ⟨by first | rfl | (simp; done) | (simp [*]; done), by repeat (first | exact Drawn0.refl _ | apply Drawn0.step)⟩

end Go.Proofs.Ytcgnkbdfoaiaiaa.P
end
