/- MyersEnds: its text walked by hand: a script of the call's own one of whose edits bears lines that are read on. -/
import Derived.WalkMore
import Derived.IntWalk
import Derived.Test.YthplelgkneipjaaHEdits
import Derived.Test.YthplelgkneipjaaEDiff
import Derived.Test.YthplelgkneipjaaEAwake5
import Derived.Test.YthplelgkneipjaaPxf18
import Derived.Test.YthplelgkneipjaaPxf28
import Derived.Test.YthplelgkneipjaaPxf31
import Derived.Test.YthplelgkneipjaaPxf33
set_option linter.unusedVariables false
set_option linter.unusedSimpArgs false
namespace Go.Proofs.Ythplelgkneipjaa.P
open Go Go.RowKit Go.Proofs.YthplelgkneipjaaW.PrintWords Go.Proofs.YthplelgkneipjaaW.PrintLast Go.Proofs.YthplelgkneipjaaW.PrintMore Go.Proofs.Ythplelgkneipjaa.HEdits
theorem own_of_R {w : World} {base : Nat} {ok : Nat → Prop} {v : Value} {xs : List ByteArray} (h : Kd.R Kd.string 9 w base ok v xs) : Lns base w v xs := by
  obtain ⟨_, inner, ho, hl, hr⟩ := h
  have e : inner = encs Value.string xs := by
    have hl' : inner.length = xs.length := by simpa [Kd.string, Kd.scalar] using hl
    refine List.ext_getElem? fun j => ?_
    by_cases hj : j < xs.length
    · have h1 := hr j xs[j] (List.getElem?_eq_getElem hj)
      have h2 : (inner.drop (j * 1)).take 1 = [Value.string xs[j]] := h1
      rw [Nat.mul_one] at h2
      have h3 : inner[j]? = some (Value.string xs[j]) := by
        have h4 := congrArg (fun l : List Value => l[0]?) h2
        simpa [List.getElem?_take, List.getElem?_drop] using h4
      rw [h3]
      simp [encs, List.getElem?_eq_getElem hj]
    · rw [List.getElem?_eq_none (by omega), List.getElem?_eq_none (by simp [encs]; omega)]
  rw [e] at ho
  exact ho
theorem C_of_own {w : World} {base n c : Nat} {A : Option Addr} {xs : List ByteArray} (h : Lns base w (.slice A n c) xs) : n = xs.length ∧ xs.length ≤ c ∧ Kd.C Kd.string w A xs.length xs := by
  have hR : Kd.R Kd.string 9 w base (fun _ => True) (.slice A n c) xs := Kd.R_of_own (h1 := fun _ => rfl) (ok := fun _ => True) h (fun _ _ => trivial)
  obtain ⟨A', c', he, hl, hC⟩ := Kd.R_reads hR
  injection he with h1 h2 h3
  subst h1 h2 h3
  exact ⟨rfl, hl, hC⟩
/-- A script whose own row, and whose edits' lines, are none of what has turned. -/
theorem scr_other {base : Nat} {w w1 : World} {v : Value} {es : List Ed} {row : Option Nat} (h : Scr base w v es) (hg : w.grownBy w1 row) (hv : v.ownBlock = none ∨ v.ownBlock ≠ row) (hl : ∀ e ∈ es, e.v.ownBlock = none ∨ e.v.ownBlock ≠ row) : Scr base w1 v es :=
  ⟨own_other h.1 hg hv, fun e he => own_other (h.2.1 e he) hg (hl e he), h.2.2⟩
theorem ne_or {u v : Value} (h : NeRow u v) : u.ownBlock = none ∨ u.ownBlock ≠ v.ownBlock := by
  cases hu : u.ownBlock with
  | none => exact .inl rfl
  | some k => exact .inr fun e => h k hu e.symm
theorem ne_nil5 (u : Value) : NeRow u (.slice none 0 0) := fun k _ h => by simp [Value.ownBlock] at h
theorem nil_ne5 (u : Value) : NeRow (.slice none 0 0) u := fun k h _ => by simp [Value.ownBlock] at h
theorem own_keep {w w1 : World} {b : Nat} {e : TypeId} {s n : Nat} {v : Value} {xs : List Value} (h : w.ownsRow b e s v n xs) (hg : w.grownBy w1 (Value.slice none 0 0).ownBlock) : w1.ownsRow b e s v n xs :=
  own_other h hg (by cases v.ownBlock with | none => exact .inl rfl | some k => exact .inr (by simp [Value.ownBlock]))
/-- What is known: three rows of lines, and two scripts, all apart. -/
structure Known (b : Nat) (w : World) (va vb vc vs vt : Value) (A B C : List ByteArray) (s t : List Ed) : Prop where
  a : Lns b w va A
  b' : Lns b w vb B
  c : Lns b w vc C
  s' : Scr b w vs s
  t' : Scr b w vt t
  st : NeRow vt vs
  below : ∀ w0 : World, w0.heap.size = b → True
theorem Known.mk5 {b : Nat} {w : World} {va vb vc vs vt : Value} {A B C : List ByteArray} {s t : List Ed} (ha : Lns b w va A) (hb : Lns b w vb B) (hc : Lns b w vc C) (hs : Scr b w vs s) (ht : Scr b w vt t) (hst : NeRow vt vs) : Known b w va vb vc vs vt A B C s t := ⟨ha, hb, hc, hs, ht, hst, fun _ _ => trivial⟩
/-- An edit more at the first script. -/
theorem Known.first {b : Nat} {w w1 : World} {va vb vc vs vt v1 : Value} {A B C : List ByteArray} {s t : List Ed} (h : Known b w va vb vc vs vt A B C s t) (e : Ed) (hn : w1.ownsRow b 49 3 v1 (s.length + 1) (flat s ++ e.cells)) (hg : w.grownBy w1 vs.ownBlock)
    (hat : v1.ownBlock = vs.ownBlock ∨ ∃ k, v1.ownBlock = some k ∧ w.heap.size ≤ k) (hl : Lns b w e.v e.l) (hp : ∀ p ∈ s, NeRow p.v e.v) : Known b w1 va vb vc v1 vt A B C (s ++ [e]) t :=
  .mk5 (own_other h.a hg (own_type_ne h.a h.s'.1 (by decide))) (own_other h.b' hg (own_type_ne h.b' h.s'.1 (by decide))) (own_other h.c hg (own_type_ne h.c h.s'.1 (by decide)))
    (h.s'.push hn hg hl hp) (scr_other h.t' hg (ne_or h.st) (fun p hp => own_type_ne (h.t'.2.1 p hp) h.s'.1 (by decide))) (ne_append' h.st hat h.t'.1)
/-- .. at the second one. -/
theorem Known.second {b : Nat} {w w1 : World} {va vb vc vs vt v1 : Value} {A B C : List ByteArray} {s t : List Ed} (h : Known b w va vb vc vs vt A B C s t) (e : Ed) (hn : w1.ownsRow b 49 3 v1 (t.length + 1) (flat t ++ e.cells)) (hg : w.grownBy w1 vt.ownBlock)
    (hat : v1.ownBlock = vt.ownBlock ∨ ∃ k, v1.ownBlock = some k ∧ w.heap.size ≤ k) (hl : Lns b w e.v e.l) (hp : ∀ p ∈ t, NeRow p.v e.v) : Known b w1 va vb vc vs v1 A B C s (t ++ [e]) :=
  .mk5 (own_other h.a hg (own_type_ne h.a h.t'.1 (by decide))) (own_other h.b' hg (own_type_ne h.b' h.t'.1 (by decide))) (own_other h.c hg (own_type_ne h.c h.t'.1 (by decide)))
    (scr_other h.s' hg (ne_or (ne_symm h.st)) (fun p hp => own_type_ne (h.s'.2.1 p hp) h.t'.1 (by decide))) (h.t'.push hn hg hl hp) (ne_symm (ne_append' (ne_symm h.st) hat h.s'.1))
theorem Known.under {b : Nat} {w w1 : World} {va vb vc vs vt : Value} {A B C : List ByteArray} {s t : List Ed} (h : Known b w va vb vc vs vt A B C s t) (hb : Below w.heap.size w w1) : Known b w1 va vb vc vs vt A B C s t :=
  .mk5 (pw_own_below h.a hb) (pw_own_below h.b' hb) (pw_own_below h.c hb) (h.s'.below hb) (h.t'.below hb) h.st
/-- A script, as a row that is read. -/
theorem scr_reads {b : Nat} {w : World} {A : Option Addr} {n c : Nat} {es : List Ed} (h : Scr b w (.slice A n c) es) : n = es.length ∧ es.length ≤ c ∧ Kd.C k49 w A es.length (es.map Ed.plain) := by
  obtain ⟨A', c', he, hl, hC⟩ := Kd.R_reads (Kd.S_R h.toS)
  injection he with h1 h2 h3
  subst h1 h3
  rw [List.length_map] at h2 hl hC
  exact ⟨h2, hl, hC⟩
def adds (A B : List ByteArray) (vb : Value) : List Ed := (if A.length = 0 then [] else [⟨1, A.length, .slice none 0 0, []⟩]) ++ (if B.length = 0 then [] else [⟨3, B.length, vb, B⟩])
def cuts (A B : List ByteArray) : List Ed := (if A.length = 0 then [] else [⟨1, A.length, .slice none 0 0, []⟩]) ++ (if B.length = 0 then [] else [⟨2, B.length, .slice none 0 0, []⟩])
def addsP (A B : List ByteArray) : List S49 := (if A.length = 0 then [] else [⟨1, A.length, []⟩]) ++ (if B.length = 0 then [] else [⟨3, B.length, B⟩])
def cutsP (A B : List ByteArray) : List S49 := (if A.length = 0 then [] else [⟨1, A.length, []⟩]) ++ (if B.length = 0 then [] else [⟨2, B.length, []⟩])
theorem adds_plain (A B : List ByteArray) (vb : Value) : (adds A B vb).map Ed.plain = addsP A B := by
  unfold adds addsP; rw [List.map_append]; split <;> split <;> rfl
theorem cuts_plain (A B : List ByteArray) : (cuts A B).map Ed.plain = cutsP A B := by
  unfold cuts cutsP; rw [List.map_append]; split <;> split <;> rfl
/-- What the law's calls answer. -/
structure Answers (k : Nat) (l0 l1 : List Int) (A B C : List ByteArray) (D E : List S49) : Prop where
  ha : collatorlaw03_Lines.f k l0 20 = some A
  hb : collatorlaw03_Lines.f k l1 20 = some B
  hc : [] ++ A ++ B = C
  d1 : myers_Diff.f A C = some D
  s1 : collatorref04_Same.f k D (addsP A B) = some true
  d2 : myers_Diff.f C A = some E
  s2 : collatorref04_Same.f k E (cutsP A B) = some true
  c1 : myers_Cost.f A [] = some (A.length : Int)
  c2 : myers_Cost.f [] B = some (B.length : Int)
  c3 : myers_Common.f A C = some (A.length : Int)
  la : A.length ≤ 20
  lb : B.length ≤ 20
set_option maxHeartbeats 4000000 in
set_option maxRecDepth 100000 in
theorem ends_11 (k : Nat) (A0 : Option Addr) (c0 : Nat) (l0 : List Int) (A1 : Option Addr) (c1 : Nat) (l1 : List Int) (A B C : List ByteArray) (D E : List S49) (w : World) (hr0 : Kd.C (Kd.int .i64) w A0 l0.length l0) (hc0 : l0.length ≤ c0) (hr1 : Kd.C (Kd.int .i64) w A1 l1.length l1) (hc1 : l1.length ≤ c1) (h : Answers k l0 l1 A B C D E) (za : 0 < A.length) (zb : 0 < B.length) :
    Calls Try.prog 11 #[.slice A0 l0.length c0, .slice A1 l1.length c1] w fun e w' => e = .returned (.bool true) ∧ Below w.heap.size w w' := by
  have HR0 := Aside0.mk hr0
  have HR1 := Aside0.mk hr1
  have HH := Aside0.mk h
  have la := h.la
  have lb := h.lb
  clear hr0 hr1 h
  have HZA := Aside0.mk za
  have HZB := Aside0.mk zb
  have ta : decide (0 < A.length) = true := decide_eq_true za
  have tb : decide (0 < B.length) = true := decide_eq_true zb
  go_enter Try.func11, Try.ntmps11
  have HB := Aside0.mk (Below.refl w.heap.size w)
  go_wp2_with (fail)
  (go_at_call 27; refine (collatorlaw05_awake.calls true _ rfl).mono ?_; rintro e w1 ⟨rfl, hb⟩; have HB1 := Aside0.mk (below_step HB.out hb); clear hb HB)
  go_wp2_with (fail)
  (go_at_call 18; refine (collatorlaw03_Lines.calls k _ _ l0 20 A _ (Kd.C_below HR0.out HB1.out) hc0 HH.out.ha).mono ?_; rintro e w2 ⟨va, rfl, ho, hb⟩; have HOA := Aside0.mk (own_weaken (own_of_R ho) (below_size HB1.out)); have HB2 := Aside0.mk (below_step HB1.out hb); clear ho hb HB1)
  go_wp2_with (fail)
  (go_at_call 18; refine (collatorlaw03_Lines.calls k _ _ l1 20 B _ (Kd.C_below HR1.out HB2.out) hc1 HH.out.hb).mono ?_; rintro e w3 ⟨vb, rfl, ho, hb⟩; have HAB := Aside0.mk (ne_below (own_of_R ho) HOA.out : NeRow vb va); have HOA2 := Aside0.mk (pw_own_below HOA.out hb); have HOB := Aside0.mk (own_weaken (own_of_R ho) (below_size HB2.out)); have HB3 := Aside0.mk (below_step HB2.out hb); clear ho hb HB2 HOA)
  obtain ⟨Aa, na, ca, rfl⟩ : ∃ A_ n_ c_, va = .slice A_ n_ c_ := by obtain ⟨A_, c_, h_⟩ := own_slice HOA2.out; exact ⟨A_, _, c_, h_⟩
  obtain ⟨Ab, nb, cb, rfl⟩ : ∃ A_ n_ c_, vb = .slice A_ n_ c_ := by obtain ⟨A_, c_, h_⟩ := own_slice HOB.out; exact ⟨A_, _, c_, h_⟩
  obtain rfl : na = A.length := (C_of_own HOA2.out).1
  obtain rfl : nb = B.length := (C_of_own HOB.out).1
  go_wp2_with (first | ((with_reducible refine gate_builtin (b := .append) (xs := #[.const (.slice none 0 0), .tmp 16]) rfl ?_); at_builtin; refine print_append_row_of (w0 := w) Value.string ByteArray.empty w.heap.size rfl (.const (.slice none 0 0)) (.tmp 16) 22 9 (.string ⟨#[]⟩) 16 rfl Try.underlying22 info9 rfl (by omega) (fun _ => rfl) (.slice none 0 0) [] A Aa A.length ca rfl rfl ?hO ?hR ?hB ?hs ?hl ?_; (case hO => exact own_nil _ _ _ _); (case hR => exact own_reads_of' HOA2.out); (case hB => exact HB3.out); (case hs => exact below_size HB3.out); (case hl => simp; omega); intro v4 w4 hown hb hgr hat; obtain ⟨Ac, nc, cc, rfl⟩ : ∃ A_ n_ c_, v4 = .slice A_ n_ c_ := (by obtain ⟨A_, c_, h_⟩ := own_slice hown; exact ⟨A_, _, c_, h_⟩); have HOC := Aside0.mk hown; have HA4 := Aside0.mk (own_keep HOA2.out hgr); have HB4 := Aside0.mk (own_keep HOB.out hgr); have HVA := Aside0.mk (ne_append' (ne_nil5 (.slice Aa A.length ca)) hat HOA2.out); have HVB := Aside0.mk (ne_append' (ne_nil5 (.slice Ab B.length cb)) hat HOB.out); have HB5 := Aside0.mk hb; clear hown hb hgr hat HB3 HOA2 HOB) | ((with_reducible refine gate_builtin (b := .append) (xs := #[.tmp 17, .tmp 18]) rfl ?_); at_builtin; refine print_append_row_of (w0 := w) Value.string ByteArray.empty w.heap.size rfl (.tmp 17) (.tmp 18) 22 9 (.string ⟨#[]⟩) 16 rfl Try.underlying22 info9 rfl (by omega) (fun _ => rfl) (.slice Ac nc cc) ([] ++ A) B Ab B.length cb rfl rfl ?hO ?hR ?hB ?hs ?hl ?_; (case hO => exact HOC.out); (case hR => exact own_reads_of' HB4.out); (case hB => exact HB5.out); (case hs => exact below_size HB5.out); (case hl => simp; omega); intro v5 w5 hown hb hgr hat; rw [HH.out.hc] at hown; obtain ⟨Ae, ne, ce, rfl⟩ : ∃ A_ n_ c_, v5 = .slice A_ n_ c_ := (by obtain ⟨A_, c_, h_⟩ := own_slice hown; exact ⟨A_, _, c_, h_⟩); obtain rfl : ne = C.length := (C_of_own hown).1; have KN := Aside0.mk (Known.mk5 (own_other HA4.out hgr (ne_or HVA.out)) (own_other HB4.out hgr (ne_or HVB.out)) hown (Scr.nil w.heap.size w5) (Scr.nil w.heap.size w5) (nil_ne5 _)); have HB := Aside0.mk hb; clear hown hb hgr hat HB5 HOC HA4 HB4 HVA HVB) | ((with_reducible refine gate_builtin (b := .append) (xs := #[.tmp 23, .tmp 27]) rfl ?_); at_builtin; refine print_append_cells (w0 := w) w.heap.size rfl (.tmp 23) (.tmp 27) 40 49 (.agg #[(.int .i64 0), (.int .i64 0), (.slice none 0 0)]) 3 40 rfl Try.underlying40 info49 rfl (by omega) (by omega) (.slice none 0 0) 0 (flat ([] : List Ed)) [.int .i64 1, .int .i64 A.length, .slice none 0 0] rfl (by first | (go_simp; done) | (go_simp; rfl)) rfl ?h1 ?hO ?hB ?hs ?hl ?_; (case h1 => intro u hu; simp at hu; rcases hu with rfl | rfl | rfl <;> rfl); (case hO => exact KN.out.s'.1); (case hB => exact HB.out); (case hs => exact below_size HB.out); (case hl => omega); intro u6 w6 hown hb hgr hat; have KN2 := Aside0.mk (KN.out.first (⟨1, A.length, .slice none 0 0, []⟩) hown hgr hat (own_nil _ _ _ _) (fun p hp => by simp at hp)); clear KN; have KN := KN2; clear KN2; have HB2 := Aside0.mk hb; clear HB; have HB := HB2; clear HB2 hown hgr hat hb; obtain ⟨As1, ns1, cs1, rfl⟩ : ∃ A_ n_ c_, u6 = .slice A_ n_ c_ := (by obtain ⟨A_, c_, h_⟩ := own_slice KN.out.s'.1; exact ⟨A_, _, c_, h_⟩); obtain rfl : ns1 = 1 := (scr_reads KN.out.s').1) | ((with_reducible refine gate_builtin (b := .append) (xs := #[.tmp 29, .tmp 33]) rfl ?_); at_builtin; refine print_append_cells (w0 := w) w.heap.size rfl (.tmp 29) (.tmp 33) 40 49 (.agg #[(.int .i64 0), (.int .i64 0), (.slice none 0 0)]) 3 40 rfl Try.underlying40 info49 rfl (by omega) (by omega) (.slice none 0 0) 0 (flat ([] : List Ed)) [.int .i64 1, .int .i64 A.length, .slice none 0 0] rfl (by first | (go_simp; done) | (go_simp; rfl)) rfl ?h1 ?hO ?hB ?hs ?hl ?_; (case h1 => intro u hu; simp at hu; rcases hu with rfl | rfl | rfl <;> rfl); (case hO => exact KN.out.t'.1); (case hB => exact HB.out); (case hs => exact below_size HB.out); (case hl => omega); intro u7 w7 hown hb hgr hat; have KN2 := Aside0.mk (KN.out.second (⟨1, A.length, .slice none 0 0, []⟩) hown hgr hat (own_nil _ _ _ _) (fun p hp => by simp at hp)); clear KN; have KN := KN2; clear KN2; have HB2 := Aside0.mk hb; clear HB; have HB := HB2; clear HB2 hown hgr hat hb; obtain ⟨At1, nt1, ct1, rfl⟩ : ∃ A_ n_ c_, u7 = .slice A_ n_ c_ := (by obtain ⟨A_, c_, h_⟩ := own_slice KN.out.t'.1; exact ⟨A_, _, c_, h_⟩); obtain rfl : nt1 = 1 := (scr_reads KN.out.t').1) | ((with_reducible refine gate_builtin (b := .append) (xs := #[.tmp 38, .tmp 43]) rfl ?_); at_builtin; refine print_append_cells (w0 := w) w.heap.size rfl (.tmp 38) (.tmp 43) 40 49 (.agg #[(.int .i64 0), (.int .i64 0), (.slice none 0 0)]) 3 40 rfl Try.underlying40 info49 rfl (by omega) (by omega) (.slice (As1) 1 cs1) 1 (flat ([⟨1, A.length, .slice none 0 0, []⟩] : List Ed)) [.int .i64 3, .int .i64 B.length, .slice Ab B.length cb] rfl (by first | (go_simp; done) | (go_simp; rfl)) rfl ?h1 ?hO ?hB ?hs ?hl ?_; (case h1 => intro u hu; simp at hu; rcases hu with rfl | rfl | rfl <;> rfl); (case hO => exact KN.out.s'.1); (case hB => exact HB.out); (case hs => exact below_size HB.out); (case hl => omega); intro u8 w8 hown hb hgr hat; have KN2 := Aside0.mk (KN.out.first (⟨3, B.length, .slice Ab B.length cb, B⟩) hown hgr hat (KN.out.b') (fun p hp => by rw [List.mem_singleton.1 hp]; exact nil_ne5 _)); clear KN; have KN := KN2; clear KN2; have HB2 := Aside0.mk hb; clear HB; have HB := HB2; clear HB2 hown hgr hat hb; obtain ⟨As2, ns2, cs2, rfl⟩ : ∃ A_ n_ c_, u8 = .slice A_ n_ c_ := (by obtain ⟨A_, c_, h_⟩ := own_slice KN.out.s'.1; exact ⟨A_, _, c_, h_⟩); obtain rfl : ns2 = 2 := (scr_reads KN.out.s').1) | ((with_reducible refine gate_builtin (b := .append) (xs := #[.tmp 45, .tmp 49]) rfl ?_); at_builtin; refine print_append_cells (w0 := w) w.heap.size rfl (.tmp 45) (.tmp 49) 40 49 (.agg #[(.int .i64 0), (.int .i64 0), (.slice none 0 0)]) 3 40 rfl Try.underlying40 info49 rfl (by omega) (by omega) (.slice (At1) 1 ct1) 1 (flat ([⟨1, A.length, .slice none 0 0, []⟩] : List Ed)) [.int .i64 2, .int .i64 B.length, .slice none 0 0] rfl (by first | (go_simp; done) | (go_simp; rfl)) rfl ?h1 ?hO ?hB ?hs ?hl ?_; (case h1 => intro u hu; simp at hu; rcases hu with rfl | rfl | rfl <;> rfl); (case hO => exact KN.out.t'.1); (case hB => exact HB.out); (case hs => exact below_size HB.out); (case hl => omega); intro u9 w9 hown hb hgr hat; have KN2 := Aside0.mk (KN.out.second (⟨2, B.length, .slice none 0 0, []⟩) hown hgr hat (own_nil _ _ _ _) (fun p hp => by rw [List.mem_singleton.1 hp]; exact nil_ne5 _)); clear KN; have KN := KN2; clear KN2; have HB2 := Aside0.mk hb; clear HB; have HB := HB2; clear HB2 hown hgr hat hb; obtain ⟨At2, nt2, ct2, rfl⟩ : ∃ A_ n_ c_, u9 = .slice A_ n_ c_ := (by obtain ⟨A_, c_, h_⟩ := own_slice KN.out.t'.1; exact ⟨A_, _, c_, h_⟩); obtain rfl : nt2 = 2 := (scr_reads KN.out.t').1))
  have P1 : Aside0 (collatorref04_Same.f k D [(⟨1, A.length, []⟩ : S49), (⟨3, B.length, B⟩ : S49)] = some true) := ⟨by have h_ := HH.out.s1; unfold addsP at h_; rw [if_neg (by have := HZA.out; omega), if_neg (by have := HZB.out; omega)] at h_; exact h_⟩
  have P2 : Aside0 (collatorref04_Same.f k E [(⟨1, A.length, []⟩ : S49), (⟨2, B.length, []⟩ : S49)] = some true) := ⟨by have h_ := HH.out.s2; unfold cutsP at h_; rw [if_neg (by have := HZA.out; omega), if_neg (by have := HZB.out; omega)] at h_; exact h_⟩
  go_wp2_with (fail)
  (go_at_call 29; refine (myers_Diff.calls _ _ A _ _ C D _ (C_of_own KN.out.a).2.2 (C_of_own KN.out.a).2.1 (C_of_own KN.out.c).2.2 (C_of_own KN.out.c).2.1 HH.out.d1).mono ?_; rintro e w20 ⟨v20, rfl, hs, hb⟩; have KN2 := Aside0.mk (KN.out.under hb); clear KN; have KN := KN2; clear KN2; have HB2 := Aside0.mk (below_step HB.out hb); clear HB; have HB := HB2; clear HB2; obtain ⟨A20, c20, rfl, hl, hC⟩ := Kd.S_reads hs; have HC20 := Aside0.mk hC; have HL20 := Aside0.mk hl; clear hs hb hl hC)
  go_wp2_with (fail)
  (go_at_call 28; refine (collatorref04_Same.calls k _ _ D _ _ [(⟨1, A.length, []⟩ : S49), (⟨3, B.length, B⟩ : S49)] true _ HC20.out HL20.out (scr_reads KN.out.s').2.2 (scr_reads KN.out.s').2.1 P1.out).mono ?_; rintro e w21 ⟨rfl, ⟨nd, rfl⟩⟩; have KN2 := Aside0.mk (KN.out.under (pw_below_drewN (Below.refl _ _) nd)); clear KN; have KN := KN2; clear KN2; have HB2 := Aside0.mk (pw_below_drewN HB.out nd); clear HB; have HB := HB2; clear HB2)
  go_wp2_with (fail)
  (go_at_call 29; refine (myers_Diff.calls _ _ C _ _ A E _ (C_of_own KN.out.c).2.2 (C_of_own KN.out.c).2.1 (C_of_own KN.out.a).2.2 (C_of_own KN.out.a).2.1 HH.out.d2).mono ?_; rintro e w22 ⟨v22, rfl, hs, hb⟩; have KN2 := Aside0.mk (KN.out.under hb); clear KN; have KN := KN2; clear KN2; have HB2 := Aside0.mk (below_step HB.out hb); clear HB; have HB := HB2; clear HB2; obtain ⟨A22, c22, rfl, hl, hC⟩ := Kd.S_reads hs; have HC22 := Aside0.mk hC; have HL22 := Aside0.mk hl; clear hs hb hl hC)
  go_wp2_with (fail)
  (go_at_call 28; refine (collatorref04_Same.calls k _ _ E _ _ [(⟨1, A.length, []⟩ : S49), (⟨2, B.length, []⟩ : S49)] true _ HC22.out HL22.out (scr_reads KN.out.t').2.2 (scr_reads KN.out.t').2.1 P2.out).mono ?_; rintro e w23 ⟨rfl, ⟨nd, rfl⟩⟩; have KN2 := Aside0.mk (KN.out.under (pw_below_drewN (Below.refl _ _) nd)); clear KN; have KN := KN2; clear KN2; have HB2 := Aside0.mk (pw_below_drewN HB.out nd); clear HB; have HB := HB2; clear HB2)
  go_wp2_with (fail)
  (go_at_call 31; refine (myers_Cost.calls _ _ A _ _ [] _ _ (C_of_own KN.out.a).2.2 (C_of_own KN.out.a).2.1 (Kd.C_nil _ _) (Nat.le_refl _) HH.out.c1).mono ?_; rintro e w24 ⟨rfl, hb⟩; have KN2 := Aside0.mk (KN.out.under hb); clear KN; have KN := KN2; clear KN2; have HB2 := Aside0.mk (below_step HB.out hb); clear HB; have HB := HB2; clear HB2; clear hb)
  go_wp2_with (fail)
  (go_at_call 31; refine (myers_Cost.calls _ _ [] _ _ B _ _ (Kd.C_nil _ _) (Nat.le_refl _) (C_of_own KN.out.b').2.2 (C_of_own KN.out.b').2.1 HH.out.c2).mono ?_; rintro e w25 ⟨rfl, hb⟩; have KN2 := Aside0.mk (KN.out.under hb); clear KN; have KN := KN2; clear KN2; have HB2 := Aside0.mk (below_step HB.out hb); clear HB; have HB := HB2; clear HB2; clear hb)
  go_wp2_with (fail)
  (go_at_call 33; refine (myers_Common.calls _ _ A _ _ C _ _ (C_of_own KN.out.a).2.2 (C_of_own KN.out.a).2.1 (C_of_own KN.out.c).2.2 (C_of_own KN.out.c).2.1 HH.out.c3).mono ?_; rintro e w26 ⟨rfl, hb⟩; have KN2 := Aside0.mk (KN.out.under hb); clear KN; have KN := KN2; clear KN2; have HB2 := Aside0.mk (below_step HB.out hb); clear HB; have HB := HB2; clear HB2; clear hb)
  go_wp2_with (fail)
  go_ret
  exact ⟨rfl, HB.out⟩

set_option maxHeartbeats 4000000 in
set_option maxRecDepth 100000 in
theorem ends_10 (k : Nat) (A0 : Option Addr) (c0 : Nat) (l0 : List Int) (A1 : Option Addr) (c1 : Nat) (l1 : List Int) (A B C : List ByteArray) (D E : List S49) (w : World) (hr0 : Kd.C (Kd.int .i64) w A0 l0.length l0) (hc0 : l0.length ≤ c0) (hr1 : Kd.C (Kd.int .i64) w A1 l1.length l1) (hc1 : l1.length ≤ c1) (h : Answers k l0 l1 A B C D E) (za : 0 < A.length) (zb : B.length = 0) :
    Calls Try.prog 11 #[.slice A0 l0.length c0, .slice A1 l1.length c1] w fun e w' => e = .returned (.bool true) ∧ Below w.heap.size w w' := by
  have HR0 := Aside0.mk hr0
  have HR1 := Aside0.mk hr1
  have HH := Aside0.mk h
  have la := h.la
  have lb := h.lb
  clear hr0 hr1 h
  have HZA := Aside0.mk za
  have HZB := Aside0.mk zb
  have ta : decide (0 < A.length) = true := decide_eq_true za
  have tb : decide (0 < B.length) = false := by rw [zb]; rfl
  clear zb
  go_enter Try.func11, Try.ntmps11
  have HB := Aside0.mk (Below.refl w.heap.size w)
  go_wp2_with (fail)
  (go_at_call 27; refine (collatorlaw05_awake.calls true _ rfl).mono ?_; rintro e w1 ⟨rfl, hb⟩; have HB1 := Aside0.mk (below_step HB.out hb); clear hb HB)
  go_wp2_with (fail)
  (go_at_call 18; refine (collatorlaw03_Lines.calls k _ _ l0 20 A _ (Kd.C_below HR0.out HB1.out) hc0 HH.out.ha).mono ?_; rintro e w2 ⟨va, rfl, ho, hb⟩; have HOA := Aside0.mk (own_weaken (own_of_R ho) (below_size HB1.out)); have HB2 := Aside0.mk (below_step HB1.out hb); clear ho hb HB1)
  go_wp2_with (fail)
  (go_at_call 18; refine (collatorlaw03_Lines.calls k _ _ l1 20 B _ (Kd.C_below HR1.out HB2.out) hc1 HH.out.hb).mono ?_; rintro e w3 ⟨vb, rfl, ho, hb⟩; have HAB := Aside0.mk (ne_below (own_of_R ho) HOA.out : NeRow vb va); have HOA2 := Aside0.mk (pw_own_below HOA.out hb); have HOB := Aside0.mk (own_weaken (own_of_R ho) (below_size HB2.out)); have HB3 := Aside0.mk (below_step HB2.out hb); clear ho hb HB2 HOA)
  obtain ⟨Aa, na, ca, rfl⟩ : ∃ A_ n_ c_, va = .slice A_ n_ c_ := by obtain ⟨A_, c_, h_⟩ := own_slice HOA2.out; exact ⟨A_, _, c_, h_⟩
  obtain ⟨Ab, nb, cb, rfl⟩ : ∃ A_ n_ c_, vb = .slice A_ n_ c_ := by obtain ⟨A_, c_, h_⟩ := own_slice HOB.out; exact ⟨A_, _, c_, h_⟩
  obtain rfl : na = A.length := (C_of_own HOA2.out).1
  obtain rfl : nb = B.length := (C_of_own HOB.out).1
  go_wp2_with (first | ((with_reducible refine gate_builtin (b := .append) (xs := #[.const (.slice none 0 0), .tmp 16]) rfl ?_); at_builtin; refine print_append_row_of (w0 := w) Value.string ByteArray.empty w.heap.size rfl (.const (.slice none 0 0)) (.tmp 16) 22 9 (.string ⟨#[]⟩) 16 rfl Try.underlying22 info9 rfl (by omega) (fun _ => rfl) (.slice none 0 0) [] A Aa A.length ca rfl rfl ?hO ?hR ?hB ?hs ?hl ?_; (case hO => exact own_nil _ _ _ _); (case hR => exact own_reads_of' HOA2.out); (case hB => exact HB3.out); (case hs => exact below_size HB3.out); (case hl => simp; omega); intro v4 w4 hown hb hgr hat; obtain ⟨Ac, nc, cc, rfl⟩ : ∃ A_ n_ c_, v4 = .slice A_ n_ c_ := (by obtain ⟨A_, c_, h_⟩ := own_slice hown; exact ⟨A_, _, c_, h_⟩); have HOC := Aside0.mk hown; have HA4 := Aside0.mk (own_keep HOA2.out hgr); have HB4 := Aside0.mk (own_keep HOB.out hgr); have HVA := Aside0.mk (ne_append' (ne_nil5 (.slice Aa A.length ca)) hat HOA2.out); have HVB := Aside0.mk (ne_append' (ne_nil5 (.slice Ab B.length cb)) hat HOB.out); have HB5 := Aside0.mk hb; clear hown hb hgr hat HB3 HOA2 HOB) | ((with_reducible refine gate_builtin (b := .append) (xs := #[.tmp 17, .tmp 18]) rfl ?_); at_builtin; refine print_append_row_of (w0 := w) Value.string ByteArray.empty w.heap.size rfl (.tmp 17) (.tmp 18) 22 9 (.string ⟨#[]⟩) 16 rfl Try.underlying22 info9 rfl (by omega) (fun _ => rfl) (.slice Ac nc cc) ([] ++ A) B Ab B.length cb rfl rfl ?hO ?hR ?hB ?hs ?hl ?_; (case hO => exact HOC.out); (case hR => exact own_reads_of' HB4.out); (case hB => exact HB5.out); (case hs => exact below_size HB5.out); (case hl => simp; omega); intro v5 w5 hown hb hgr hat; rw [HH.out.hc] at hown; obtain ⟨Ae, ne, ce, rfl⟩ : ∃ A_ n_ c_, v5 = .slice A_ n_ c_ := (by obtain ⟨A_, c_, h_⟩ := own_slice hown; exact ⟨A_, _, c_, h_⟩); obtain rfl : ne = C.length := (C_of_own hown).1; have KN := Aside0.mk (Known.mk5 (own_other HA4.out hgr (ne_or HVA.out)) (own_other HB4.out hgr (ne_or HVB.out)) hown (Scr.nil w.heap.size w5) (Scr.nil w.heap.size w5) (nil_ne5 _)); have HB := Aside0.mk hb; clear hown hb hgr hat HB5 HOC HA4 HB4 HVA HVB) | ((with_reducible refine gate_builtin (b := .append) (xs := #[.tmp 23, .tmp 27]) rfl ?_); at_builtin; refine print_append_cells (w0 := w) w.heap.size rfl (.tmp 23) (.tmp 27) 40 49 (.agg #[(.int .i64 0), (.int .i64 0), (.slice none 0 0)]) 3 40 rfl Try.underlying40 info49 rfl (by omega) (by omega) (.slice none 0 0) 0 (flat ([] : List Ed)) [.int .i64 1, .int .i64 A.length, .slice none 0 0] rfl (by first | (go_simp; done) | (go_simp; rfl)) rfl ?h1 ?hO ?hB ?hs ?hl ?_; (case h1 => intro u hu; simp at hu; rcases hu with rfl | rfl | rfl <;> rfl); (case hO => exact KN.out.s'.1); (case hB => exact HB.out); (case hs => exact below_size HB.out); (case hl => omega); intro u6 w6 hown hb hgr hat; have KN2 := Aside0.mk (KN.out.first (⟨1, A.length, .slice none 0 0, []⟩) hown hgr hat (own_nil _ _ _ _) (fun p hp => by simp at hp)); clear KN; have KN := KN2; clear KN2; have HB2 := Aside0.mk hb; clear HB; have HB := HB2; clear HB2 hown hgr hat hb; obtain ⟨As1, ns1, cs1, rfl⟩ : ∃ A_ n_ c_, u6 = .slice A_ n_ c_ := (by obtain ⟨A_, c_, h_⟩ := own_slice KN.out.s'.1; exact ⟨A_, _, c_, h_⟩); obtain rfl : ns1 = 1 := (scr_reads KN.out.s').1) | ((with_reducible refine gate_builtin (b := .append) (xs := #[.tmp 29, .tmp 33]) rfl ?_); at_builtin; refine print_append_cells (w0 := w) w.heap.size rfl (.tmp 29) (.tmp 33) 40 49 (.agg #[(.int .i64 0), (.int .i64 0), (.slice none 0 0)]) 3 40 rfl Try.underlying40 info49 rfl (by omega) (by omega) (.slice none 0 0) 0 (flat ([] : List Ed)) [.int .i64 1, .int .i64 A.length, .slice none 0 0] rfl (by first | (go_simp; done) | (go_simp; rfl)) rfl ?h1 ?hO ?hB ?hs ?hl ?_; (case h1 => intro u hu; simp at hu; rcases hu with rfl | rfl | rfl <;> rfl); (case hO => exact KN.out.t'.1); (case hB => exact HB.out); (case hs => exact below_size HB.out); (case hl => omega); intro u7 w7 hown hb hgr hat; have KN2 := Aside0.mk (KN.out.second (⟨1, A.length, .slice none 0 0, []⟩) hown hgr hat (own_nil _ _ _ _) (fun p hp => by simp at hp)); clear KN; have KN := KN2; clear KN2; have HB2 := Aside0.mk hb; clear HB; have HB := HB2; clear HB2 hown hgr hat hb; obtain ⟨At1, nt1, ct1, rfl⟩ : ∃ A_ n_ c_, u7 = .slice A_ n_ c_ := (by obtain ⟨A_, c_, h_⟩ := own_slice KN.out.t'.1; exact ⟨A_, _, c_, h_⟩); obtain rfl : nt1 = 1 := (scr_reads KN.out.t').1))
  have P1 : Aside0 (collatorref04_Same.f k D [(⟨1, A.length, []⟩ : S49)] = some true) := ⟨by have h_ := HH.out.s1; unfold addsP at h_; rw [if_neg (by have := HZA.out; omega), if_pos HZB.out] at h_; exact h_⟩
  have P2 : Aside0 (collatorref04_Same.f k E [(⟨1, A.length, []⟩ : S49)] = some true) := ⟨by have h_ := HH.out.s2; unfold cutsP at h_; rw [if_neg (by have := HZA.out; omega), if_pos HZB.out] at h_; exact h_⟩
  go_wp2_with (fail)
  (go_at_call 29; refine (myers_Diff.calls _ _ A _ _ C D _ (C_of_own KN.out.a).2.2 (C_of_own KN.out.a).2.1 (C_of_own KN.out.c).2.2 (C_of_own KN.out.c).2.1 HH.out.d1).mono ?_; rintro e w20 ⟨v20, rfl, hs, hb⟩; have KN2 := Aside0.mk (KN.out.under hb); clear KN; have KN := KN2; clear KN2; have HB2 := Aside0.mk (below_step HB.out hb); clear HB; have HB := HB2; clear HB2; obtain ⟨A20, c20, rfl, hl, hC⟩ := Kd.S_reads hs; have HC20 := Aside0.mk hC; have HL20 := Aside0.mk hl; clear hs hb hl hC)
  go_wp2_with (fail)
  (go_at_call 28; refine (collatorref04_Same.calls k _ _ D _ _ [(⟨1, A.length, []⟩ : S49)] true _ HC20.out HL20.out (scr_reads KN.out.s').2.2 (scr_reads KN.out.s').2.1 P1.out).mono ?_; rintro e w21 ⟨rfl, ⟨nd, rfl⟩⟩; have KN2 := Aside0.mk (KN.out.under (pw_below_drewN (Below.refl _ _) nd)); clear KN; have KN := KN2; clear KN2; have HB2 := Aside0.mk (pw_below_drewN HB.out nd); clear HB; have HB := HB2; clear HB2)
  go_wp2_with (fail)
  (go_at_call 29; refine (myers_Diff.calls _ _ C _ _ A E _ (C_of_own KN.out.c).2.2 (C_of_own KN.out.c).2.1 (C_of_own KN.out.a).2.2 (C_of_own KN.out.a).2.1 HH.out.d2).mono ?_; rintro e w22 ⟨v22, rfl, hs, hb⟩; have KN2 := Aside0.mk (KN.out.under hb); clear KN; have KN := KN2; clear KN2; have HB2 := Aside0.mk (below_step HB.out hb); clear HB; have HB := HB2; clear HB2; obtain ⟨A22, c22, rfl, hl, hC⟩ := Kd.S_reads hs; have HC22 := Aside0.mk hC; have HL22 := Aside0.mk hl; clear hs hb hl hC)
  go_wp2_with (fail)
  (go_at_call 28; refine (collatorref04_Same.calls k _ _ E _ _ [(⟨1, A.length, []⟩ : S49)] true _ HC22.out HL22.out (scr_reads KN.out.t').2.2 (scr_reads KN.out.t').2.1 P2.out).mono ?_; rintro e w23 ⟨rfl, ⟨nd, rfl⟩⟩; have KN2 := Aside0.mk (KN.out.under (pw_below_drewN (Below.refl _ _) nd)); clear KN; have KN := KN2; clear KN2; have HB2 := Aside0.mk (pw_below_drewN HB.out nd); clear HB; have HB := HB2; clear HB2)
  go_wp2_with (fail)
  (go_at_call 31; refine (myers_Cost.calls _ _ A _ _ [] _ _ (C_of_own KN.out.a).2.2 (C_of_own KN.out.a).2.1 (Kd.C_nil _ _) (Nat.le_refl _) HH.out.c1).mono ?_; rintro e w24 ⟨rfl, hb⟩; have KN2 := Aside0.mk (KN.out.under hb); clear KN; have KN := KN2; clear KN2; have HB2 := Aside0.mk (below_step HB.out hb); clear HB; have HB := HB2; clear HB2; clear hb)
  go_wp2_with (fail)
  (go_at_call 31; refine (myers_Cost.calls _ _ [] _ _ B _ _ (Kd.C_nil _ _) (Nat.le_refl _) (C_of_own KN.out.b').2.2 (C_of_own KN.out.b').2.1 HH.out.c2).mono ?_; rintro e w25 ⟨rfl, hb⟩; have KN2 := Aside0.mk (KN.out.under hb); clear KN; have KN := KN2; clear KN2; have HB2 := Aside0.mk (below_step HB.out hb); clear HB; have HB := HB2; clear HB2; clear hb)
  go_wp2_with (fail)
  (go_at_call 33; refine (myers_Common.calls _ _ A _ _ C _ _ (C_of_own KN.out.a).2.2 (C_of_own KN.out.a).2.1 (C_of_own KN.out.c).2.2 (C_of_own KN.out.c).2.1 HH.out.c3).mono ?_; rintro e w26 ⟨rfl, hb⟩; have KN2 := Aside0.mk (KN.out.under hb); clear KN; have KN := KN2; clear KN2; have HB2 := Aside0.mk (below_step HB.out hb); clear HB; have HB := HB2; clear HB2; clear hb)
  go_wp2_with (fail)
  go_ret
  exact ⟨rfl, HB.out⟩

set_option maxHeartbeats 4000000 in
set_option maxRecDepth 100000 in
theorem ends_01 (k : Nat) (A0 : Option Addr) (c0 : Nat) (l0 : List Int) (A1 : Option Addr) (c1 : Nat) (l1 : List Int) (A B C : List ByteArray) (D E : List S49) (w : World) (hr0 : Kd.C (Kd.int .i64) w A0 l0.length l0) (hc0 : l0.length ≤ c0) (hr1 : Kd.C (Kd.int .i64) w A1 l1.length l1) (hc1 : l1.length ≤ c1) (h : Answers k l0 l1 A B C D E) (za : A.length = 0) (zb : 0 < B.length) :
    Calls Try.prog 11 #[.slice A0 l0.length c0, .slice A1 l1.length c1] w fun e w' => e = .returned (.bool true) ∧ Below w.heap.size w w' := by
  have HR0 := Aside0.mk hr0
  have HR1 := Aside0.mk hr1
  have HH := Aside0.mk h
  have la := h.la
  have lb := h.lb
  clear hr0 hr1 h
  have HZA := Aside0.mk za
  have HZB := Aside0.mk zb
  have ta : decide (0 < A.length) = false := by rw [za]; rfl
  clear za
  have tb : decide (0 < B.length) = true := decide_eq_true zb
  go_enter Try.func11, Try.ntmps11
  have HB := Aside0.mk (Below.refl w.heap.size w)
  go_wp2_with (fail)
  (go_at_call 27; refine (collatorlaw05_awake.calls true _ rfl).mono ?_; rintro e w1 ⟨rfl, hb⟩; have HB1 := Aside0.mk (below_step HB.out hb); clear hb HB)
  go_wp2_with (fail)
  (go_at_call 18; refine (collatorlaw03_Lines.calls k _ _ l0 20 A _ (Kd.C_below HR0.out HB1.out) hc0 HH.out.ha).mono ?_; rintro e w2 ⟨va, rfl, ho, hb⟩; have HOA := Aside0.mk (own_weaken (own_of_R ho) (below_size HB1.out)); have HB2 := Aside0.mk (below_step HB1.out hb); clear ho hb HB1)
  go_wp2_with (fail)
  (go_at_call 18; refine (collatorlaw03_Lines.calls k _ _ l1 20 B _ (Kd.C_below HR1.out HB2.out) hc1 HH.out.hb).mono ?_; rintro e w3 ⟨vb, rfl, ho, hb⟩; have HAB := Aside0.mk (ne_below (own_of_R ho) HOA.out : NeRow vb va); have HOA2 := Aside0.mk (pw_own_below HOA.out hb); have HOB := Aside0.mk (own_weaken (own_of_R ho) (below_size HB2.out)); have HB3 := Aside0.mk (below_step HB2.out hb); clear ho hb HB2 HOA)
  obtain ⟨Aa, na, ca, rfl⟩ : ∃ A_ n_ c_, va = .slice A_ n_ c_ := by obtain ⟨A_, c_, h_⟩ := own_slice HOA2.out; exact ⟨A_, _, c_, h_⟩
  obtain ⟨Ab, nb, cb, rfl⟩ : ∃ A_ n_ c_, vb = .slice A_ n_ c_ := by obtain ⟨A_, c_, h_⟩ := own_slice HOB.out; exact ⟨A_, _, c_, h_⟩
  obtain rfl : na = A.length := (C_of_own HOA2.out).1
  obtain rfl : nb = B.length := (C_of_own HOB.out).1
  go_wp2_with (first | ((with_reducible refine gate_builtin (b := .append) (xs := #[.const (.slice none 0 0), .tmp 16]) rfl ?_); at_builtin; refine print_append_row_of (w0 := w) Value.string ByteArray.empty w.heap.size rfl (.const (.slice none 0 0)) (.tmp 16) 22 9 (.string ⟨#[]⟩) 16 rfl Try.underlying22 info9 rfl (by omega) (fun _ => rfl) (.slice none 0 0) [] A Aa A.length ca rfl rfl ?hO ?hR ?hB ?hs ?hl ?_; (case hO => exact own_nil _ _ _ _); (case hR => exact own_reads_of' HOA2.out); (case hB => exact HB3.out); (case hs => exact below_size HB3.out); (case hl => simp; omega); intro v4 w4 hown hb hgr hat; obtain ⟨Ac, nc, cc, rfl⟩ : ∃ A_ n_ c_, v4 = .slice A_ n_ c_ := (by obtain ⟨A_, c_, h_⟩ := own_slice hown; exact ⟨A_, _, c_, h_⟩); have HOC := Aside0.mk hown; have HA4 := Aside0.mk (own_keep HOA2.out hgr); have HB4 := Aside0.mk (own_keep HOB.out hgr); have HVA := Aside0.mk (ne_append' (ne_nil5 (.slice Aa A.length ca)) hat HOA2.out); have HVB := Aside0.mk (ne_append' (ne_nil5 (.slice Ab B.length cb)) hat HOB.out); have HB5 := Aside0.mk hb; clear hown hb hgr hat HB3 HOA2 HOB) | ((with_reducible refine gate_builtin (b := .append) (xs := #[.tmp 17, .tmp 18]) rfl ?_); at_builtin; refine print_append_row_of (w0 := w) Value.string ByteArray.empty w.heap.size rfl (.tmp 17) (.tmp 18) 22 9 (.string ⟨#[]⟩) 16 rfl Try.underlying22 info9 rfl (by omega) (fun _ => rfl) (.slice Ac nc cc) ([] ++ A) B Ab B.length cb rfl rfl ?hO ?hR ?hB ?hs ?hl ?_; (case hO => exact HOC.out); (case hR => exact own_reads_of' HB4.out); (case hB => exact HB5.out); (case hs => exact below_size HB5.out); (case hl => simp; omega); intro v5 w5 hown hb hgr hat; rw [HH.out.hc] at hown; obtain ⟨Ae, ne, ce, rfl⟩ : ∃ A_ n_ c_, v5 = .slice A_ n_ c_ := (by obtain ⟨A_, c_, h_⟩ := own_slice hown; exact ⟨A_, _, c_, h_⟩); obtain rfl : ne = C.length := (C_of_own hown).1; have KN := Aside0.mk (Known.mk5 (own_other HA4.out hgr (ne_or HVA.out)) (own_other HB4.out hgr (ne_or HVB.out)) hown (Scr.nil w.heap.size w5) (Scr.nil w.heap.size w5) (nil_ne5 _)); have HB := Aside0.mk hb; clear hown hb hgr hat HB5 HOC HA4 HB4 HVA HVB) | ((with_reducible refine gate_builtin (b := .append) (xs := #[.tmp 38, .tmp 43]) rfl ?_); at_builtin; refine print_append_cells (w0 := w) w.heap.size rfl (.tmp 38) (.tmp 43) 40 49 (.agg #[(.int .i64 0), (.int .i64 0), (.slice none 0 0)]) 3 40 rfl Try.underlying40 info49 rfl (by omega) (by omega) (.slice none 0 0) 0 (flat ([] : List Ed)) [.int .i64 3, .int .i64 B.length, .slice Ab B.length cb] rfl (by first | (go_simp; done) | (go_simp; rfl)) rfl ?h1 ?hO ?hB ?hs ?hl ?_; (case h1 => intro u hu; simp at hu; rcases hu with rfl | rfl | rfl <;> rfl); (case hO => exact KN.out.s'.1); (case hB => exact HB.out); (case hs => exact below_size HB.out); (case hl => omega); intro u6 w6 hown hb hgr hat; have KN2 := Aside0.mk (KN.out.first (⟨3, B.length, .slice Ab B.length cb, B⟩) hown hgr hat (KN.out.b') (fun p hp => by simp at hp)); clear KN; have KN := KN2; clear KN2; have HB2 := Aside0.mk hb; clear HB; have HB := HB2; clear HB2 hown hgr hat hb; obtain ⟨As1, ns1, cs1, rfl⟩ : ∃ A_ n_ c_, u6 = .slice A_ n_ c_ := (by obtain ⟨A_, c_, h_⟩ := own_slice KN.out.s'.1; exact ⟨A_, _, c_, h_⟩); obtain rfl : ns1 = 1 := (scr_reads KN.out.s').1) | ((with_reducible refine gate_builtin (b := .append) (xs := #[.tmp 45, .tmp 49]) rfl ?_); at_builtin; refine print_append_cells (w0 := w) w.heap.size rfl (.tmp 45) (.tmp 49) 40 49 (.agg #[(.int .i64 0), (.int .i64 0), (.slice none 0 0)]) 3 40 rfl Try.underlying40 info49 rfl (by omega) (by omega) (.slice none 0 0) 0 (flat ([] : List Ed)) [.int .i64 2, .int .i64 B.length, .slice none 0 0] rfl (by first | (go_simp; done) | (go_simp; rfl)) rfl ?h1 ?hO ?hB ?hs ?hl ?_; (case h1 => intro u hu; simp at hu; rcases hu with rfl | rfl | rfl <;> rfl); (case hO => exact KN.out.t'.1); (case hB => exact HB.out); (case hs => exact below_size HB.out); (case hl => omega); intro u7 w7 hown hb hgr hat; have KN2 := Aside0.mk (KN.out.second (⟨2, B.length, .slice none 0 0, []⟩) hown hgr hat (own_nil _ _ _ _) (fun p hp => by simp at hp)); clear KN; have KN := KN2; clear KN2; have HB2 := Aside0.mk hb; clear HB; have HB := HB2; clear HB2 hown hgr hat hb; obtain ⟨At1, nt1, ct1, rfl⟩ : ∃ A_ n_ c_, u7 = .slice A_ n_ c_ := (by obtain ⟨A_, c_, h_⟩ := own_slice KN.out.t'.1; exact ⟨A_, _, c_, h_⟩); obtain rfl : nt1 = 1 := (scr_reads KN.out.t').1))
  have P1 : Aside0 (collatorref04_Same.f k D [(⟨3, B.length, B⟩ : S49)] = some true) := ⟨by have h_ := HH.out.s1; unfold addsP at h_; rw [if_pos HZA.out, if_neg (by have := HZB.out; omega)] at h_; exact h_⟩
  have P2 : Aside0 (collatorref04_Same.f k E [(⟨2, B.length, []⟩ : S49)] = some true) := ⟨by have h_ := HH.out.s2; unfold cutsP at h_; rw [if_pos HZA.out, if_neg (by have := HZB.out; omega)] at h_; exact h_⟩
  go_wp2_with (fail)
  (go_at_call 29; refine (myers_Diff.calls _ _ A _ _ C D _ (C_of_own KN.out.a).2.2 (C_of_own KN.out.a).2.1 (C_of_own KN.out.c).2.2 (C_of_own KN.out.c).2.1 HH.out.d1).mono ?_; rintro e w20 ⟨v20, rfl, hs, hb⟩; have KN2 := Aside0.mk (KN.out.under hb); clear KN; have KN := KN2; clear KN2; have HB2 := Aside0.mk (below_step HB.out hb); clear HB; have HB := HB2; clear HB2; obtain ⟨A20, c20, rfl, hl, hC⟩ := Kd.S_reads hs; have HC20 := Aside0.mk hC; have HL20 := Aside0.mk hl; clear hs hb hl hC)
  go_wp2_with (fail)
  (go_at_call 28; refine (collatorref04_Same.calls k _ _ D _ _ [(⟨3, B.length, B⟩ : S49)] true _ HC20.out HL20.out (scr_reads KN.out.s').2.2 (scr_reads KN.out.s').2.1 P1.out).mono ?_; rintro e w21 ⟨rfl, ⟨nd, rfl⟩⟩; have KN2 := Aside0.mk (KN.out.under (pw_below_drewN (Below.refl _ _) nd)); clear KN; have KN := KN2; clear KN2; have HB2 := Aside0.mk (pw_below_drewN HB.out nd); clear HB; have HB := HB2; clear HB2)
  go_wp2_with (fail)
  (go_at_call 29; refine (myers_Diff.calls _ _ C _ _ A E _ (C_of_own KN.out.c).2.2 (C_of_own KN.out.c).2.1 (C_of_own KN.out.a).2.2 (C_of_own KN.out.a).2.1 HH.out.d2).mono ?_; rintro e w22 ⟨v22, rfl, hs, hb⟩; have KN2 := Aside0.mk (KN.out.under hb); clear KN; have KN := KN2; clear KN2; have HB2 := Aside0.mk (below_step HB.out hb); clear HB; have HB := HB2; clear HB2; obtain ⟨A22, c22, rfl, hl, hC⟩ := Kd.S_reads hs; have HC22 := Aside0.mk hC; have HL22 := Aside0.mk hl; clear hs hb hl hC)
  go_wp2_with (fail)
  (go_at_call 28; refine (collatorref04_Same.calls k _ _ E _ _ [(⟨2, B.length, []⟩ : S49)] true _ HC22.out HL22.out (scr_reads KN.out.t').2.2 (scr_reads KN.out.t').2.1 P2.out).mono ?_; rintro e w23 ⟨rfl, ⟨nd, rfl⟩⟩; have KN2 := Aside0.mk (KN.out.under (pw_below_drewN (Below.refl _ _) nd)); clear KN; have KN := KN2; clear KN2; have HB2 := Aside0.mk (pw_below_drewN HB.out nd); clear HB; have HB := HB2; clear HB2)
  go_wp2_with (fail)
  (go_at_call 31; refine (myers_Cost.calls _ _ A _ _ [] _ _ (C_of_own KN.out.a).2.2 (C_of_own KN.out.a).2.1 (Kd.C_nil _ _) (Nat.le_refl _) HH.out.c1).mono ?_; rintro e w24 ⟨rfl, hb⟩; have KN2 := Aside0.mk (KN.out.under hb); clear KN; have KN := KN2; clear KN2; have HB2 := Aside0.mk (below_step HB.out hb); clear HB; have HB := HB2; clear HB2; clear hb)
  go_wp2_with (fail)
  (go_at_call 31; refine (myers_Cost.calls _ _ [] _ _ B _ _ (Kd.C_nil _ _) (Nat.le_refl _) (C_of_own KN.out.b').2.2 (C_of_own KN.out.b').2.1 HH.out.c2).mono ?_; rintro e w25 ⟨rfl, hb⟩; have KN2 := Aside0.mk (KN.out.under hb); clear KN; have KN := KN2; clear KN2; have HB2 := Aside0.mk (below_step HB.out hb); clear HB; have HB := HB2; clear HB2; clear hb)
  go_wp2_with (fail)
  (go_at_call 33; refine (myers_Common.calls _ _ A _ _ C _ _ (C_of_own KN.out.a).2.2 (C_of_own KN.out.a).2.1 (C_of_own KN.out.c).2.2 (C_of_own KN.out.c).2.1 HH.out.c3).mono ?_; rintro e w26 ⟨rfl, hb⟩; have KN2 := Aside0.mk (KN.out.under hb); clear KN; have KN := KN2; clear KN2; have HB2 := Aside0.mk (below_step HB.out hb); clear HB; have HB := HB2; clear HB2; clear hb)
  go_wp2_with (fail)
  go_ret
  exact ⟨rfl, HB.out⟩

set_option maxHeartbeats 4000000 in
set_option maxRecDepth 100000 in
theorem ends_00 (k : Nat) (A0 : Option Addr) (c0 : Nat) (l0 : List Int) (A1 : Option Addr) (c1 : Nat) (l1 : List Int) (A B C : List ByteArray) (D E : List S49) (w : World) (hr0 : Kd.C (Kd.int .i64) w A0 l0.length l0) (hc0 : l0.length ≤ c0) (hr1 : Kd.C (Kd.int .i64) w A1 l1.length l1) (hc1 : l1.length ≤ c1) (h : Answers k l0 l1 A B C D E) (za : A.length = 0) (zb : B.length = 0) :
    Calls Try.prog 11 #[.slice A0 l0.length c0, .slice A1 l1.length c1] w fun e w' => e = .returned (.bool true) ∧ Below w.heap.size w w' := by
  have HR0 := Aside0.mk hr0
  have HR1 := Aside0.mk hr1
  have HH := Aside0.mk h
  have la := h.la
  have lb := h.lb
  clear hr0 hr1 h
  have HZA := Aside0.mk za
  have HZB := Aside0.mk zb
  have ta : decide (0 < A.length) = false := by rw [za]; rfl
  clear za
  have tb : decide (0 < B.length) = false := by rw [zb]; rfl
  clear zb
  go_enter Try.func11, Try.ntmps11
  have HB := Aside0.mk (Below.refl w.heap.size w)
  go_wp2_with (fail)
  (go_at_call 27; refine (collatorlaw05_awake.calls true _ rfl).mono ?_; rintro e w1 ⟨rfl, hb⟩; have HB1 := Aside0.mk (below_step HB.out hb); clear hb HB)
  go_wp2_with (fail)
  (go_at_call 18; refine (collatorlaw03_Lines.calls k _ _ l0 20 A _ (Kd.C_below HR0.out HB1.out) hc0 HH.out.ha).mono ?_; rintro e w2 ⟨va, rfl, ho, hb⟩; have HOA := Aside0.mk (own_weaken (own_of_R ho) (below_size HB1.out)); have HB2 := Aside0.mk (below_step HB1.out hb); clear ho hb HB1)
  go_wp2_with (fail)
  (go_at_call 18; refine (collatorlaw03_Lines.calls k _ _ l1 20 B _ (Kd.C_below HR1.out HB2.out) hc1 HH.out.hb).mono ?_; rintro e w3 ⟨vb, rfl, ho, hb⟩; have HAB := Aside0.mk (ne_below (own_of_R ho) HOA.out : NeRow vb va); have HOA2 := Aside0.mk (pw_own_below HOA.out hb); have HOB := Aside0.mk (own_weaken (own_of_R ho) (below_size HB2.out)); have HB3 := Aside0.mk (below_step HB2.out hb); clear ho hb HB2 HOA)
  obtain ⟨Aa, na, ca, rfl⟩ : ∃ A_ n_ c_, va = .slice A_ n_ c_ := by obtain ⟨A_, c_, h_⟩ := own_slice HOA2.out; exact ⟨A_, _, c_, h_⟩
  obtain ⟨Ab, nb, cb, rfl⟩ : ∃ A_ n_ c_, vb = .slice A_ n_ c_ := by obtain ⟨A_, c_, h_⟩ := own_slice HOB.out; exact ⟨A_, _, c_, h_⟩
  obtain rfl : na = A.length := (C_of_own HOA2.out).1
  obtain rfl : nb = B.length := (C_of_own HOB.out).1
  go_wp2_with (first | ((with_reducible refine gate_builtin (b := .append) (xs := #[.const (.slice none 0 0), .tmp 16]) rfl ?_); at_builtin; refine print_append_row_of (w0 := w) Value.string ByteArray.empty w.heap.size rfl (.const (.slice none 0 0)) (.tmp 16) 22 9 (.string ⟨#[]⟩) 16 rfl Try.underlying22 info9 rfl (by omega) (fun _ => rfl) (.slice none 0 0) [] A Aa A.length ca rfl rfl ?hO ?hR ?hB ?hs ?hl ?_; (case hO => exact own_nil _ _ _ _); (case hR => exact own_reads_of' HOA2.out); (case hB => exact HB3.out); (case hs => exact below_size HB3.out); (case hl => simp; omega); intro v4 w4 hown hb hgr hat; obtain ⟨Ac, nc, cc, rfl⟩ : ∃ A_ n_ c_, v4 = .slice A_ n_ c_ := (by obtain ⟨A_, c_, h_⟩ := own_slice hown; exact ⟨A_, _, c_, h_⟩); have HOC := Aside0.mk hown; have HA4 := Aside0.mk (own_keep HOA2.out hgr); have HB4 := Aside0.mk (own_keep HOB.out hgr); have HVA := Aside0.mk (ne_append' (ne_nil5 (.slice Aa A.length ca)) hat HOA2.out); have HVB := Aside0.mk (ne_append' (ne_nil5 (.slice Ab B.length cb)) hat HOB.out); have HB5 := Aside0.mk hb; clear hown hb hgr hat HB3 HOA2 HOB) | ((with_reducible refine gate_builtin (b := .append) (xs := #[.tmp 17, .tmp 18]) rfl ?_); at_builtin; refine print_append_row_of (w0 := w) Value.string ByteArray.empty w.heap.size rfl (.tmp 17) (.tmp 18) 22 9 (.string ⟨#[]⟩) 16 rfl Try.underlying22 info9 rfl (by omega) (fun _ => rfl) (.slice Ac nc cc) ([] ++ A) B Ab B.length cb rfl rfl ?hO ?hR ?hB ?hs ?hl ?_; (case hO => exact HOC.out); (case hR => exact own_reads_of' HB4.out); (case hB => exact HB5.out); (case hs => exact below_size HB5.out); (case hl => simp; omega); intro v5 w5 hown hb hgr hat; rw [HH.out.hc] at hown; obtain ⟨Ae, ne, ce, rfl⟩ : ∃ A_ n_ c_, v5 = .slice A_ n_ c_ := (by obtain ⟨A_, c_, h_⟩ := own_slice hown; exact ⟨A_, _, c_, h_⟩); obtain rfl : ne = C.length := (C_of_own hown).1; have KN := Aside0.mk (Known.mk5 (own_other HA4.out hgr (ne_or HVA.out)) (own_other HB4.out hgr (ne_or HVB.out)) hown (Scr.nil w.heap.size w5) (Scr.nil w.heap.size w5) (nil_ne5 _)); have HB := Aside0.mk hb; clear hown hb hgr hat HB5 HOC HA4 HB4 HVA HVB))
  have P1 : Aside0 (collatorref04_Same.f k D [] = some true) := ⟨by have h_ := HH.out.s1; unfold addsP at h_; rw [if_pos HZA.out, if_pos HZB.out] at h_; exact h_⟩
  have P2 : Aside0 (collatorref04_Same.f k E [] = some true) := ⟨by have h_ := HH.out.s2; unfold cutsP at h_; rw [if_pos HZA.out, if_pos HZB.out] at h_; exact h_⟩
  go_wp2_with (fail)
  (go_at_call 29; refine (myers_Diff.calls _ _ A _ _ C D _ (C_of_own KN.out.a).2.2 (C_of_own KN.out.a).2.1 (C_of_own KN.out.c).2.2 (C_of_own KN.out.c).2.1 HH.out.d1).mono ?_; rintro e w20 ⟨v20, rfl, hs, hb⟩; have KN2 := Aside0.mk (KN.out.under hb); clear KN; have KN := KN2; clear KN2; have HB2 := Aside0.mk (below_step HB.out hb); clear HB; have HB := HB2; clear HB2; obtain ⟨A20, c20, rfl, hl, hC⟩ := Kd.S_reads hs; have HC20 := Aside0.mk hC; have HL20 := Aside0.mk hl; clear hs hb hl hC)
  go_wp2_with (fail)
  (go_at_call 28; refine (collatorref04_Same.calls k _ _ D _ _ [] true _ HC20.out HL20.out (scr_reads KN.out.s').2.2 (scr_reads KN.out.s').2.1 P1.out).mono ?_; rintro e w21 ⟨rfl, ⟨nd, rfl⟩⟩; have KN2 := Aside0.mk (KN.out.under (pw_below_drewN (Below.refl _ _) nd)); clear KN; have KN := KN2; clear KN2; have HB2 := Aside0.mk (pw_below_drewN HB.out nd); clear HB; have HB := HB2; clear HB2)
  go_wp2_with (fail)
  (go_at_call 29; refine (myers_Diff.calls _ _ C _ _ A E _ (C_of_own KN.out.c).2.2 (C_of_own KN.out.c).2.1 (C_of_own KN.out.a).2.2 (C_of_own KN.out.a).2.1 HH.out.d2).mono ?_; rintro e w22 ⟨v22, rfl, hs, hb⟩; have KN2 := Aside0.mk (KN.out.under hb); clear KN; have KN := KN2; clear KN2; have HB2 := Aside0.mk (below_step HB.out hb); clear HB; have HB := HB2; clear HB2; obtain ⟨A22, c22, rfl, hl, hC⟩ := Kd.S_reads hs; have HC22 := Aside0.mk hC; have HL22 := Aside0.mk hl; clear hs hb hl hC)
  go_wp2_with (fail)
  (go_at_call 28; refine (collatorref04_Same.calls k _ _ E _ _ [] true _ HC22.out HL22.out (scr_reads KN.out.t').2.2 (scr_reads KN.out.t').2.1 P2.out).mono ?_; rintro e w23 ⟨rfl, ⟨nd, rfl⟩⟩; have KN2 := Aside0.mk (KN.out.under (pw_below_drewN (Below.refl _ _) nd)); clear KN; have KN := KN2; clear KN2; have HB2 := Aside0.mk (pw_below_drewN HB.out nd); clear HB; have HB := HB2; clear HB2)
  go_wp2_with (fail)
  (go_at_call 31; refine (myers_Cost.calls _ _ A _ _ [] _ _ (C_of_own KN.out.a).2.2 (C_of_own KN.out.a).2.1 (Kd.C_nil _ _) (Nat.le_refl _) HH.out.c1).mono ?_; rintro e w24 ⟨rfl, hb⟩; have KN2 := Aside0.mk (KN.out.under hb); clear KN; have KN := KN2; clear KN2; have HB2 := Aside0.mk (below_step HB.out hb); clear HB; have HB := HB2; clear HB2; clear hb)
  go_wp2_with (fail)
  (go_at_call 31; refine (myers_Cost.calls _ _ [] _ _ B _ _ (Kd.C_nil _ _) (Nat.le_refl _) (C_of_own KN.out.b').2.2 (C_of_own KN.out.b').2.1 HH.out.c2).mono ?_; rintro e w25 ⟨rfl, hb⟩; have KN2 := Aside0.mk (KN.out.under hb); clear KN; have KN := KN2; clear KN2; have HB2 := Aside0.mk (below_step HB.out hb); clear HB; have HB := HB2; clear HB2; clear hb)
  go_wp2_with (fail)
  (go_at_call 33; refine (myers_Common.calls _ _ A _ _ C _ _ (C_of_own KN.out.a).2.2 (C_of_own KN.out.a).2.1 (C_of_own KN.out.c).2.2 (C_of_own KN.out.c).2.1 HH.out.c3).mono ?_; rintro e w26 ⟨rfl, hb⟩; have KN2 := Aside0.mk (KN.out.under hb); clear KN; have KN := KN2; clear KN2; have HB2 := Aside0.mk (below_step HB.out hb); clear HB; have HB := HB2; clear HB2; clear hb)
  go_wp2_with (fail)
  go_ret
  exact ⟨rfl, HB.out⟩
/-- THE ONE PURE STATEMENT of collatorlaw05_MyersEnds. -/
def collatorlaw05_MyersEnds.Pure : Prop := ∀ (l0 : List Int) (l1 : List Int), l0.length ≤ maxLen → l0.length * 8 ≤ 140737488351232 → (∀ x ∈ l0, (Lit.int .i64 x).wf = true) → l1.length ≤ maxLen → l1.length * 8 ≤ 140737488351232 → (∀ x ∈ l1, (Lit.int .i64 x).wf = true) → ∃ k A B C D E, Answers k l0 l1 A B C D E
theorem collatorlaw05_MyersEnds.walk (P : collatorlaw05_MyersEnds.Pure) (a0 : Option Addr) (len0 cap0 : Nat) (z0 : List Int) (a1 : Option Addr) (len1 cap1 : Nat) (z1 : List Int) (w : World) (w0 : (a0 = none ∧ len0 = 0 ∧ cap0 = 0 ∧ z0 = []) ∨ ∃ x, a0 = some x ∧ len0 ≤ cap0 ∧ cap0 ≤ maxLen ∧ z0.length = cap0 ∧ (∀ i, i < z0.length → w.cell? (x.add i) = some (.int .i64 (z0.getD i 0))) ∧ ∀ n ∈ z0, (Lit.int .i64 n).wf = true) (y0 : len0 * 8 ≤ 140737488351232) (w1 : (a1 = none ∧ len1 = 0 ∧ cap1 = 0 ∧ z1 = []) ∨ ∃ x, a1 = some x ∧ len1 ≤ cap1 ∧ cap1 ≤ maxLen ∧ z1.length = cap1 ∧ (∀ i, i < z1.length → w.cell? (x.add i) = some (.int .i64 (z1.getD i 0))) ∧ ∀ n ∈ z1, (Lit.int .i64 n).wf = true) (y1 : len1 * 8 ≤ 140737488351232) :
    Calls Try.prog 11 #[.slice a0 len0 cap0, .slice a1 len1 cap1] w fun e w' => e = .returned (.bool true) ∧ Below w.heap.size w w' := by
  obtain ⟨l0, rfl, hr0, hm0, hw0, hc0⟩ := ReadsInt.ofRowC w0
  obtain ⟨l1, rfl, hr1, hm1, hw1, hc1⟩ := ReadsInt.ofRowC w1
  obtain ⟨k, A, B, C, D, E, h⟩ := P l0 l1 hm0 y0 hw0 hm1 y1 hw1
  have hr0' := Kd.C_of_reads (d := (0 : Int)) (h1 := fun _ => rfl) hr0
  have hr1' := Kd.C_of_reads (d := (0 : Int)) (h1 := fun _ => rfl) hr1
  rcases Nat.eq_zero_or_pos A.length with za | za <;> rcases Nat.eq_zero_or_pos B.length with zb | zb
  · exact ends_00 k _ _ l0 _ _ l1 A B C D E w hr0' hc0 hr1' hc1 h za zb
  · exact ends_01 k _ _ l0 _ _ l1 A B C D E w hr0' hc0 hr1' hc1 h za zb
  · exact ends_10 k _ _ l0 _ _ l1 A B C D E w hr0' hc0 hr1' hc1 h za zb
  · exact ends_11 k _ _ l0 _ _ l1 A B C D E w hr0' hc0 hr1' hc1 h za zb
end Go.Proofs.Ythplelgkneipjaa.P
