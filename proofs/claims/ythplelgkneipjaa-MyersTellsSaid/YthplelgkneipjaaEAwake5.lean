/- The first calls of layer 5's laws, whose answers are fixed: by a walk of their text. -/
import Derived.WalkMore
import Derived.Test.YthplelgkneipjaaEDiff
import Derived.Test.YthplelgkneipjaaPxf28
import Derived.Test.YthplelgkneipjaaPxf33
set_option linter.unusedVariables false
set_option linter.unusedSimpArgs false
namespace Go.Proofs.Ythplelgkneipjaa.P
open Go Go.RowKit Go.Proofs.YthplelgkneipjaaW.PrintWords Go.Proofs.YthplelgkneipjaaW.PrintLast Go.Proofs.YthplelgkneipjaaW.PrintMore Go.Proofs.Ythplelgkneipjaa.Q Go.Proofs.Ythplelgkneipjaa.HEdits

def collatorlaw05_awake.f : Option Bool := some true
theorem lit_C (W : World) (xs : List ByteArray) (h : xs.length ≤ 9223372036854775807) : Kd.C Kd.string (W.alloc (.cells (encs Value.string xs).toArray 9)) (some ⟨W.heap.size, 0, none⟩) xs.length xs :=
  (Kd.R_reads' (Kd.R_of_own (h1 := fun _ => rfl) (ok := fun _ => True) (own_lit_of W W.heap.size 9 xs (Nat.le_refl _) h) (fun _ _ => trivial))).2.2
def ba (l : List UInt8) : ByteArray := ⟨l.toArray⟩
def la : ByteArray := ⟨#[97]⟩
def lb : ByteArray := ⟨#[98]⟩
def lc : ByteArray := ⟨#[99]⟩
def ld : ByteArray := ⟨#[100]⟩
def lit1 : List S49 := [⟨2, 1, []⟩, ⟨1, 2, []⟩, ⟨3, 1, [⟨#[100]⟩]⟩]
def lit2 : List S49 := [⟨2, 1, []⟩, ⟨3, 1, [⟨#[98]⟩]⟩]
theorem diff_ok {a b : List ByteArray} (ha : a.length ≤ 1000000) (hb : b.length ≤ 1000000) : myers_Diff.f a b = some (script a b) := if_pos ⟨ha, hb⟩
theorem same1 : collatorref04_Same.f 16 (script [⟨#[97]⟩, ⟨#[98]⟩, ⟨#[99]⟩] [⟨#[98]⟩, ⟨#[99]⟩, ⟨#[100]⟩]) lit1 = some true := by decide +kernel
theorem same2 : collatorref04_Same.f 16 (script [⟨#[97]⟩] [⟨#[98]⟩]) lit2 = some true := by decide +kernel
theorem common1 : myers_Common.f [⟨#[97]⟩, ⟨#[98]⟩] [⟨#[98]⟩] = some 1 := by decide +kernel
theorem cost1 : myers_Cost.f [⟨#[97]⟩, ⟨#[98]⟩] [⟨#[98]⟩] = some 1 := by decide +kernel
theorem ex1 : ∃ s, myers_Diff.f [(⟨#[97]⟩ : ByteArray), (⟨#[98]⟩ : ByteArray), (⟨#[99]⟩ : ByteArray)] [(⟨#[98]⟩ : ByteArray), (⟨#[99]⟩ : ByteArray), (⟨#[100]⟩ : ByteArray)] = some s ∧ collatorref04_Same.f 16 s lit1 = some true := ⟨_, diff_ok (by simp) (by simp), same1⟩
theorem ex2 : ∃ s, myers_Diff.f [(⟨#[97]⟩ : ByteArray)] [(⟨#[98]⟩ : ByteArray)] = some s ∧ collatorref04_Same.f 16 s lit2 = some true := ⟨_, diff_ok (by simp) (by simp), same2⟩
theorem ex3 : myers_Diff.f [] [] = some [] := diff_ok (by simp) (by simp)
theorem lit_C' {W : World} (n : Nat) (xs : List ByteArray) (hn : n = W.heap.size) (h : xs.length ≤ 9223372036854775807) : Kd.C Kd.string (W.alloc (.cells (encs Value.string xs).toArray 9)) (some ⟨n, 0, none⟩) xs.length xs := by
  subst hn; exact lit_C W xs h
/-- A literal of edits. -/
theorem lit_C49 {W : World} (n : Nat) (es : List Ed) (hn : n = W.heap.size) (hm : es.length ≤ 9223372036854775807) (hl : ∀ e ∈ es, Lns 0 W e.v e.l) (hp : es.Pairwise (fun p q => NeRow p.v q.v)) :
    Kd.C k49 (W.alloc (.cells (flat es).toArray 49)) (some ⟨n, 0, none⟩) es.length (es.map Ed.plain) := by
  subst hn
  have h1 : Scr 0 (W.alloc (.cells (flat es).toArray 49)) (.slice (some ⟨W.heap.size, 0, none⟩) es.length es.length) es := by
    refine ⟨?_, fun e he => own_alloc (hl e he) _, hp⟩
    have h2 := World.ownsRow_lit (base := 0) (e := 49) (size := 3) W (flat es).toArray es.length (Nat.zero_le _) (by simpa [maxLen] using hm) (by rw [List.size_toArray, flat_length])
    exact h2
  have h3 := (Kd.S_reads' h1.toS).2.2
  rw [List.length_map] at h3
  exact h3
theorem lns_one {W : World} (n : Nat) (x : ByteArray) (hn : n = W.heap.size) : Lns 0 (W.alloc (.cells #[.string x] 9)) (.slice (some ⟨n, 0, none⟩) 1 1) [x] := by
  subst hn
  exact own_lit_of W 0 9 [x] (Nat.zero_le _) (by simp)
theorem ne_nil (v : Value) : NeRow (.slice none 0 0) v := fun k hk => by simp [Value.ownBlock] at hk
theorem lit1_C {W : World} (g n : Nat) (hg : g = W.heap.size) (hn : n = g + 1) :
    Kd.C k49 ((W.alloc (.cells #[.string ⟨#[100]⟩] 9)).alloc (.cells #[.int .i64 2, .int .i64 1, .slice none 0 0, .int .i64 1, .int .i64 2, .slice none 0 0, .int .i64 3, .int .i64 1, .slice (some ⟨g, 0, none⟩) 1 1] 49)) (some ⟨n, 0, none⟩) 3 lit1 := by
  refine lit_C49 n [⟨2, 1, .slice none 0 0, []⟩, ⟨1, 2, .slice none 0 0, []⟩, ⟨3, 1, .slice (some ⟨g, 0, none⟩) 1 1, [⟨#[100]⟩]⟩] (by simp; omega) (by simp) ?_ ?_
  · intro e he
    simp only [List.mem_cons, List.not_mem_nil, or_false] at he
    rcases he with rfl | rfl | rfl
    · exact own_nil _ _ _ _
    · exact own_nil _ _ _ _
    · exact lns_one g _ hg
  · simp only [List.pairwise_cons, List.mem_cons, List.not_mem_nil, or_false, List.Pairwise.nil, and_true, false_implies, implies_true]
    exact ⟨fun a _ => ne_nil _, fun a _ => ne_nil _⟩
theorem lit2_C {W : World} (g n : Nat) (hg : g = W.heap.size) (hn : n = g + 1) :
    Kd.C k49 ((W.alloc (.cells #[.string ⟨#[98]⟩] 9)).alloc (.cells #[.int .i64 2, .int .i64 1, .slice none 0 0, .int .i64 3, .int .i64 1, .slice (some ⟨g, 0, none⟩) 1 1] 49)) (some ⟨n, 0, none⟩) 2 lit2 := by
  refine lit_C49 n [⟨2, 1, .slice none 0 0, []⟩, ⟨3, 1, .slice (some ⟨g, 0, none⟩) 1 1, [⟨#[98]⟩]⟩] (by simp; omega) (by simp) ?_ ?_
  · intro e he
    simp only [List.mem_cons, List.not_mem_nil, or_false] at he
    rcases he with rfl | rfl
    · exact own_nil _ _ _ _
    · exact lns_one g _ hg
  · simp only [List.pairwise_cons, List.mem_cons, List.not_mem_nil, or_false, List.Pairwise.nil, and_true, false_implies, implies_true]
    exact fun a _ => ne_nil _
set_option maxHeartbeats 4000000 in
set_option maxRecDepth 100000 in
theorem collatorlaw05_awake.calls (r : Bool) (w : World) (h : collatorlaw05_awake.f = some r) :
    Calls Try.prog 27 #[] w fun e w' => e = .returned (.bool r) ∧ Below w.heap.size w w' := by
  obtain rfl := Option.some.inj h
  clear h
  have HB := Aside0.mk (Below.refl w.heap.size w)
  obtain ⟨s1, hd1, hq1⟩ := ex1
  obtain ⟨s2, hd2, hq2⟩ := ex2
  have HD1 := Aside0.mk hd1
  have HD2 := Aside0.mk hd2
  have HQ1 := Aside0.mk hq1
  have HQ2 := Aside0.mk hq2
  clear hd1 hd2 hq1 hq2
  go_enter Try.func27, Try.ntmps27
  go_wp2_with (fail)
  (go_at_call 29; refine (myers_Diff.calls _ _ [(⟨#[97]⟩ : ByteArray), (⟨#[98]⟩ : ByteArray), (⟨#[99]⟩ : ByteArray)] _ _ [(⟨#[98]⟩ : ByteArray), (⟨#[99]⟩ : ByteArray), (⟨#[100]⟩ : ByteArray)] s1 _ ?d1 ?d2 ?d3 ?d4 HD1.out).mono ?_; (case d1 => exact Kd.C_alloc (lit_C' _ [(⟨#[97]⟩ : ByteArray), (⟨#[98]⟩ : ByteArray), (⟨#[99]⟩ : ByteArray)] (by simp) (by decide)) _); (case d2 => decide); (case d3 => exact lit_C' _ [(⟨#[98]⟩ : ByteArray), (⟨#[99]⟩ : ByteArray), (⟨#[100]⟩ : ByteArray)] (by simp) (by decide)); (case d4 => decide); rintro e w1 ⟨v1, rfl, hs1, hb1⟩; obtain ⟨A1, c1, rfl, hc1, hC1⟩ := Kd.S_reads hs1; have HB1 : Aside0 (Below w.heap.size w w1) := ⟨((below_alloc (below_alloc (Below.refl _ _) _) _)).trans (hb1.mono (by simp; omega))⟩; have HC1 := Aside0.mk hC1; have HL1 := Aside0.mk hc1; clear hs1 hb1 hC1 hc1)
  go_wp2_with (fail)
  (go_at_call 29; refine (myers_Diff.calls _ _ [(⟨#[97]⟩ : ByteArray)] _ _ [(⟨#[98]⟩ : ByteArray)] s2 _ ?d1 ?d2 ?d3 ?d4 HD2.out).mono ?_; (case d1 => exact Kd.C_alloc (lit_C' _ [(⟨#[97]⟩ : ByteArray)] (by simp) (by decide)) _); (case d2 => decide); (case d3 => exact lit_C' _ [(⟨#[98]⟩ : ByteArray)] (by simp) (by decide)); (case d4 => decide); rintro e w2 ⟨v2, rfl, hs1, hb1⟩; obtain ⟨A2, c2, rfl, hc1, hC1⟩ := Kd.S_reads hs1; have HB2 : Aside0 (Below w1.heap.size w1 w2) := ⟨((below_alloc (below_alloc (Below.refl _ _) _) _)).trans (hb1.mono (by simp; omega))⟩; have HC2 := Aside0.mk hC1; have HL2 := Aside0.mk hc1; clear hs1 hb1 hC1 hc1)
  go_wp2_with (fail)
  (go_at_call 28; refine (collatorref04_Same.calls 16 _ _ s1 _ _ lit1 true _ ?e1 ?e2 ?e3 ?e4 HQ1.out).mono ?_; (case e1 => exact Kd.C_alloc (Kd.C_alloc (Kd.C_below HC1.out HB2.out) _) _); (case e2 => exact HL1.out); (case e3 => exact lit1_C _ _ rfl rfl); (case e4 => exact Nat.le_refl 3); rintro e w' ⟨rfl, ⟨nd, rfl⟩⟩)
  go_wp2_with (fail)
  (go_at_call 28; refine (collatorref04_Same.calls 16 _ _ s2 _ _ lit2 true _ ?e1 ?e2 ?e3 ?e4 HQ2.out).mono ?_; (case e1 => repeat (first | exact HC2.out | (with_reducible refine Kd.C_alloc ?_ _) | (with_reducible refine Kd.C_drewN ?_ _) | (with_reducible refine Kd.C_drew ?_))); (case e2 => exact HL2.out); (case e3 => (try with_reducible refine Kd.C_drewN ?_ _); exact lit2_C _ _ (by simp) (by simp)); (case e4 => exact Nat.le_refl 2); rintro e w' ⟨rfl, ⟨nd2, rfl⟩⟩)
  go_wp2_with (fail)
  have HB12 : Aside0 (Below w.heap.size w w2) := ⟨HB1.out.trans (HB2.out.mono HB1.out.size)⟩
  (go_at_call 29; refine (myers_Diff.calls _ _ [] _ _ [] [] _ (Kd.C_nil _ _) (Nat.le_refl _) (Kd.C_nil _ _) (Nat.le_refl _) ex3).mono ?_; rintro e w3 ⟨v3, rfl, hs3, hb3⟩; have HB3 : Aside0 (Below w.heap.size w w3) := ⟨by
    refine Below.trans ?_ (hb3.mono ?_)
    · repeat (first | exact HB12.out | apply below_alloc | apply pw_below_drewN | apply below_drew1)
    · exact (show Below w.heap.size w _ by repeat (first | exact HB12.out | apply below_alloc | apply pw_below_drewN | apply below_drew1)).size⟩; obtain ⟨A3, c3, rfl⟩ := Kd.S_slice hs3; clear hs3 hb3)
  go_wp2_with (fail)
  (go_at_call 33; refine (myers_Common.calls _ _ [(⟨#[97]⟩ : ByteArray), (⟨#[98]⟩ : ByteArray)] _ _ [(⟨#[98]⟩ : ByteArray)] 1 _ ?d1 ?d2 ?d3 ?d4 common1).mono ?_; (case d1 => exact Kd.C_alloc (lit_C' _ [(⟨#[97]⟩ : ByteArray), (⟨#[98]⟩ : ByteArray)] (by simp) (by decide)) _); (case d2 => decide); (case d3 => exact lit_C' _ [(⟨#[98]⟩ : ByteArray)] (by simp) (by decide)); (case d4 => decide); rintro e w4 ⟨rfl, hb4⟩; have HB4 : Aside0 (Below w.heap.size w w4) := ⟨by
    refine Below.trans ?_ (hb4.mono ?_)
    · repeat (first | exact HB3.out | apply below_alloc | apply pw_below_drewN | apply below_drew1)
    · exact (show Below w.heap.size w _ by repeat (first | exact HB3.out | apply below_alloc | apply pw_below_drewN | apply below_drew1)).size⟩; clear hb4)
  go_wp2_with (fail)
  (go_at_call 31; refine (myers_Cost.calls _ _ [(⟨#[97]⟩ : ByteArray), (⟨#[98]⟩ : ByteArray)] _ _ [(⟨#[98]⟩ : ByteArray)] 1 _ ?d1 ?d2 ?d3 ?d4 cost1).mono ?_; (case d1 => exact Kd.C_alloc (lit_C' _ [(⟨#[97]⟩ : ByteArray), (⟨#[98]⟩ : ByteArray)] (by simp) (by decide)) _); (case d2 => decide); (case d3 => exact lit_C' _ [(⟨#[98]⟩ : ByteArray)] (by simp) (by decide)); (case d4 => decide); rintro e w5 ⟨rfl, hb5⟩; have HB5 : Aside0 (Below w.heap.size w w5) := ⟨by
    refine Below.trans ?_ (hb5.mono ?_)
    · repeat (first | exact HB4.out | apply below_alloc | apply pw_below_drewN | apply below_drew1)
    · exact (show Below w.heap.size w _ by repeat (first | exact HB4.out | apply below_alloc | apply pw_below_drewN | apply below_drew1)).size⟩; clear hb5)
  go_wp2_with (fail)
  go_ret
  exact ⟨rfl, HB5.out⟩
end Go.Proofs.Ythplelgkneipjaa.P
