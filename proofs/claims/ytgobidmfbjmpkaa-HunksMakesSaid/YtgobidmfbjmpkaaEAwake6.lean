/- The first calls of layer 6's laws, whose answers are fixed: by a walk of their text. -/
import Derived.WalkMore
import Derived.Test.YtgobidmfbjmpkaaGMake
import Derived.Test.YtgobidmfbjmpkaaGScr
import Derived.Test.YtgobidmfbjmpkaaGHeld
import Derived.Test.YtgobidmfbjmpkaaPxf22
import Derived.Test.YtgobidmfbjmpkaaPxf14
import Derived.Test.YtgobidmfbjmpkaaPxf20
import Derived.Test.YtgobidmfbjmpkaaPxf24
set_option linter.unusedVariables false
set_option linter.unusedSimpArgs false
namespace Go.Proofs.Ytgobidmfbjmpkaa.P
open Go Go.RowKit Go.Shelf Go.Proofs.YtgobidmfbjmpkaaW.PrintWords Go.Proofs.YtgobidmfbjmpkaaW.PrintLast Go.Proofs.YtgobidmfbjmpkaaW.PrintMore Go.Proofs.Ytgobidmfbjmpkaa.HEdits Go.Proofs.Ytgobidmfbjmpkaa.HHunks
attribute [local go_sem] Oper.semAt_some
def collatorlaw06_awake.f : Option Bool := some true
theorem lit_C (W : World) (xs : List ByteArray) (h : xs.length ≤ 9223372036854775807) : Kd.C Kd.string (W.alloc (.cells (encs Value.string xs).toArray 9)) (some ⟨W.heap.size, 0, none⟩) xs.length xs :=
 (Kd.R_reads' (Kd.R_of_own (h1 := fun _ => rfl) (ok := fun _ => True) (own_lit_of W W.heap.size 9 xs (Nat.le_refl _) h) (fun _ _ => trivial))).2.2
/-- A block of edits is a script, wherever it stands. -/
theorem scr_lit {W : World} (n m : Nat) (es : List Ed) (hg : W.heap[n]? = some (.cells (flat es).toArray 31)) (hm : m = es.length) (hm' : es.length ≤ 9223372036854775807) (h0 : es.length ≠ 0) (hl : ∀ e ∈ es, Lns 0 W e.v e.l) (hp : es.Pairwise (fun p q => NeRow p.v q.v)) : Scr 0 W (.slice (some ⟨n, 0, none⟩) m m) es := by
 subst hm
 refine ⟨⟨flat_length es, .inr ⟨n, es.length, (flat es).toArray, rfl, Nat.zero_le _, hg, Nat.le_refl _, by simpa [maxLen] using hm', by simp [flat_length], ?_⟩⟩, hl, hp⟩
 rw [← flat_length, List.toList_toArray, List.take_length]
theorem scr_C {W : World} {b n c : Nat} {A : Option Addr} {es : List Ed} (h : Scr b W (.slice A n c) es) : Kd.C k31 W A es.length (es.map Ed.plain) := by
 have h3 := (Kd.S_reads' (by
  have h1 := h.toS
  have hn : n = (es.map Ed.plain).length := by
   obtain ⟨A', c', e⟩ := own_slice h.1
   injection e with _ e _
   rw [List.length_map]; exact e
  rw [hn] at h1
  exact h1)).2.2
 rw [List.length_map] at h3
 exact h3
theorem lns_at {W : World} (n : Nat) (x : ByteArray) (hg : W.heap[n]? = some (.cells #[.string x] 9)) : Lns 0 W (.slice (some ⟨n, 0, none⟩) 1 1) [x] :=
 ⟨rfl, .inr ⟨n, 1, #[.string x], rfl, Nat.zero_le _, hg, Nat.le_refl _, by decide, rfl, rfl⟩⟩
theorem ne_nil (v : Value) : NeRow (.slice none 0 0) v := fun k hk => by simp [Value.ownBlock] at hk
theorem ne_nil' (v : Value) : NeRow v (.slice none 0 0) := fun k _ hk => by simp [Value.ownBlock] at hk
/-- One hunk in a block. -/
theorem hk_lit {W : World} (n : Nat) (h : Hd) (hg : W.heap[n]? = some (.cells h.cells.toArray 28)) (hs : Scr 0 W h.v h.es) : Kd.C k28 W (some ⟨n, 0, none⟩) 1 [h.plain] := by
 have hk : Hks 0 W (.slice (some ⟨n, 0, none⟩) 1 1) [h] := by
  refine ⟨⟨hflat_length [h], .inr ⟨n, 1, h.cells.toArray, rfl, Nat.zero_le _, hg, Nat.le_refl _, by decide, rfl, ?_⟩⟩, ?_, List.pairwise_singleton _ _⟩
  ·simp [hflat, Hd.cells]
  ·intro x hx; rw [List.mem_singleton.1 hx]; exact hs
 exact (Kd.S_reads' hk.toS).2.2
def aS : List S31 := [⟨1, 9, []⟩, ⟨2, 1, []⟩, ⟨1, 4, []⟩, ⟨3, 1, [⟨#[120]⟩]⟩, ⟨1, 9, []⟩]
def aH : List S28 := [⟨7, 7, [⟨1, 2, []⟩, ⟨2, 1, []⟩, ⟨1, 4, []⟩, ⟨3, 1, [⟨#[120]⟩]⟩, ⟨1, 2, []⟩]⟩]
def aK : List S28 := [⟨8, 8, [⟨1, 1, []⟩, ⟨2, 1, []⟩, ⟨1, 1, []⟩]⟩, ⟨13, 12, [⟨1, 1, []⟩, ⟨3, 1, [⟨#[120]⟩]⟩, ⟨1, 1, []⟩]⟩]
def aD : List S28 := [⟨0, 0, [⟨2, 1, []⟩]⟩]
theorem mk1 : hunks_Make.f 20 aS 2 = some (aH, 0) := by kernel_rfl
theorem mk2 : hunks_Make.f 20 aS 1 = some (aK, 0) := by kernel_rfl
theorem mk3 : hunks_Make.f 20 aS 101 = some ([], 1) := by kernel_rfl
theorem sc1 : hunks_Script.f 20 aH 23 = some (aS, 0) := by kernel_rfl
theorem sc2 : hunks_Script.f 20 aH 3 = some ([], 11) := by kernel_rfl
theorem ap1 : hunks_Apply.f 20 aD [⟨#[97]⟩, ⟨#[98]⟩] = some ([⟨#[98]⟩], 0) := by decide +kernel
theorem sm1 : collatorref06_Same.f 20 aH aH = some true := by decide +kernel
theorem sm2 : collatorref04_Same.f 20 aS aS = some true := by decide +kernel
theorem rt1 : hunks_Right.f 20 aH = some true := by decide +kernel
theorem rt2 : hunks_Right.f 20 [⟨0, 0, []⟩] = some false := by decide +kernel
theorem tx1 : collatorref01_Texts.f 20 [⟨#[98]⟩] [⟨#[98]⟩] = some true := by decide +kernel
/-- The script of the first calls, in two blocks. -/
structure A6 (b0 : Nat) (W : World) : Prop where
 x : W.heap[b0]? = some (.cells #[.string ⟨#[120]⟩] 9)
 s : W.heap[b0 + 1]? = some (.cells #[.int .i64 1, .int .i64 9, .slice none 0 0, .int .i64 2, .int .i64 1, .slice none 0 0, .int .i64 1, .int .i64 4, .slice none 0 0, .int .i64 3, .int .i64 1, .slice (some ⟨b0, 0, none⟩) 1 1, .int .i64 1, .int .i64 9, .slice none 0 0] 31)
theorem A6.below {b0 : Nat} {W W' : World} (h : A6 b0 W) (hb : Below W.heap.size W W') : A6 b0 W' := ⟨(hb.block _ (blk_lt h.x)).trans h.x, (hb.block _ (blk_lt h.s)).trans h.s⟩
def e5 (b0 : Nat) (n m : Int) : List Ed := [⟨1, n, .slice none 0 0, []⟩, ⟨2, 1, .slice none 0 0, []⟩, ⟨1, 4, .slice none 0 0, []⟩, ⟨3, 1, .slice (some ⟨b0, 0, none⟩) 1 1, [⟨#[120]⟩]⟩, ⟨1, m, .slice none 0 0, []⟩]
theorem e5_scr {b0 g : Nat} {W : World} {n m : Int} (hx : W.heap[b0]? = some (.cells #[.string ⟨#[120]⟩] 9)) (hg : W.heap[g]? = some (.cells (flat (e5 b0 n m)).toArray 31)) : Scr 0 W (.slice (some ⟨g, 0, none⟩) 5 5) (e5 b0 n m) := by
 refine scr_lit g 5 (e5 b0 n m) hg rfl (by simp [e5]) (by simp [e5]) ?_ ?_
 ·intro e he
  simp only [e5, List.mem_cons, List.not_mem_nil, or_false] at he
  rcases he with rfl | rfl | rfl | rfl | rfl
  ·exact own_nil _ _ _ _
  ·exact own_nil _ _ _ _
  ·exact own_nil _ _ _ _
  ·exact lns_at b0 _ hx
  ·exact own_nil _ _ _ _
 ·simp only [e5, List.pairwise_cons, List.mem_cons, List.not_mem_nil, or_false, List.Pairwise.nil, and_true, false_implies, implies_true]
  refine ⟨fun a _ => ne_nil _, fun a _ => ne_nil _, fun a _ => ne_nil _, fun a ha => ?_⟩
  rw [ha]; exact ne_nil' _
theorem A6.C {b0 : Nat} {W : World} (h : A6 b0 W) : Kd.C k31 W (some ⟨b0 + 1, 0, none⟩) 5 aS := scr_C (e5_scr (n := 9) (m := 9) h.x h.s)
set_option maxHeartbeats 4000000 in
set_option maxRecDepth 100000 in
theorem collatorlaw06_awake.calls (r : Bool) (w : World) (h : collatorlaw06_awake.f = some r) :
  Calls Try.prog 9 #[] w fun e w' => e = .returned (.bool r) ∧ Below w.heap.size w w' := by
 obtain rfl := Option.some.inj h
 clear h
 refine (callsIn_wide (n := 9)).1 ?_
 refine callsIn_of_wp Try.func9 rfl trivial ?_ rfl
 simp only [Try.ntmps9, List.size_toArray, List.length_cons, List.length_nil, Nat.reduceAdd, Nat.reduceSub, Array.replicate_succ, Array.replicate_zero, List.push_toArray, List.append_toArray, List.nil_append, List.cons_append]
 obtain ⟨W1, hW1⟩ : ∃ W1, W1 = (w.alloc (.cells #[.string ⟨#[120]⟩] 9)).alloc (.cells #[.int .i64 1, .int .i64 9, .slice none 0 0, .int .i64 2, .int .i64 1, .slice none 0 0, .int .i64 1, .int .i64 4, .slice none 0 0, .int .i64 3, .int .i64 1, .slice (some ⟨w.heap.size, 0, none⟩) 1 1, .int .i64 1, .int .i64 9, .slice none 0 0] 31) := ⟨_, rfl⟩
 have a1 : A6 w.heap.size W1 := by
  rw [hW1]
  refine ⟨(Below.heap_alloc _ _ _ (by simp)).trans (World.alloc_heap_new w _), ?_⟩
  have h1 := World.alloc_heap_new (w.alloc (.cells #[.string ⟨#[120]⟩] 9)) (.cells #[.int .i64 1, .int .i64 9, .slice none 0 0, .int .i64 2, .int .i64 1, .slice none 0 0, .int .i64 1, .int .i64 4, .slice none 0 0, .int .i64 3, .int .i64 1, .slice (some ⟨w.heap.size, 0, none⟩) 1 1, .int .i64 1, .int .i64 9, .slice none 0 0] 31)
  rw [World.size_alloc] at h1
  exact h1
 have b1 : Below w.heap.size w W1 := by rw [hW1]; exact ((Below.refl _ w).alloc (Nat.le_refl _) _).alloc (by simp) _
 have HW1 := Lib.hid hW1
 have HA1 := Lib.hid a1
 have HB1 := Lib.hid b1
 have M1 := Lib.hid (hunks_Make.calls 20 (some ⟨w.heap.size + 1, 0, none⟩) 5 aS 2 aH 0 W1 a1.C (Nat.le_refl 5) mk1)
 clear hW1 a1 b1
 gi_wp2_with (first | rw [← HW1.out])
 refine ⟨trivial, ?_⟩
 refine (callsIn_wide.2 M1.out).mono ?_
 rintro e W2 ⟨v1, rfl, hs1, hb1⟩
 obtain ⟨A1, c1, rfl, hc1, hC1⟩ := Kd.R_reads hs1
 have HA2 := Lib.hid (HA1.out.below hb1)
 have HB2 := Lib.hid (HB1.out.trans (hb1.mono HB1.out.size))
 have HC1 := Lib.hid hC1
 have M2 := Lib.hid (hunks_Make.calls 20 (some ⟨w.heap.size + 1, 0, none⟩) 5 aS 1 aK 0 W2 HA2.out.C (Nat.le_refl 5) mk2)
 clear hs1 hb1 hC1 M1
 gi_wp2_with (first | rw [← HW1.out])
 refine ⟨trivial, ?_⟩
 refine (callsIn_wide.2 M2.out).mono ?_
 rintro e W3 ⟨v2, rfl, hs1, hb1⟩
 obtain ⟨A2, c2, rfl, _, _⟩ := Kd.R_reads hs1
 have HA3 := Lib.hid (HA2.out.below hb1)
 have HB3 := Lib.hid (HB2.out.trans (hb1.mono HB2.out.size))
 have HC3 := Lib.hid (Kd.C_below HC1.out hb1)
 have M3 := Lib.hid (hunks_Script.calls 20 A1 c1 aH 23 aS 0 W3 HC3.out hc1 sc1)
 clear hs1 hb1 M2
 gi_wp2_with (first | rw [← HW1.out])
 refine ⟨trivial, ?_⟩
 refine (callsIn_wide.2 M3.out).mono ?_
 rintro e W4 ⟨v3, rfl, hs1, hb1⟩
 obtain ⟨A3, c3, rfl, hc3, hC3⟩ := Kd.S_reads hs1
 have HA4 := Lib.hid (HA3.out.below hb1)
 have HB4 := Lib.hid (HB3.out.trans (hb1.mono HB3.out.size))
 have HC4 := Lib.hid (Kd.C_below HC3.out hb1)
 have HT4 := Lib.hid hC3
 have M4 := Lib.hid (hunks_Make.calls 20 (some ⟨w.heap.size + 1, 0, none⟩) 5 aS 101 [] 1 W4 HA4.out.C (Nat.le_refl 5) mk3)
 clear hs1 hb1 hC3 M3
 gi_wp2_with (first | rw [← HW1.out])
 refine ⟨trivial, ?_⟩
 refine (callsIn_wide.2 M4.out).mono ?_
 rintro e W5 ⟨v4, rfl, hs1, hb1⟩
 obtain ⟨A4, c4, rfl⟩ := Kd.R_slice hs1
 have HA5 := Lib.hid (HA4.out.below hb1)
 have HB5 := Lib.hid (HB4.out.trans (hb1.mono HB4.out.size))
 have HC5 := Lib.hid (Kd.C_below HC4.out hb1)
 have HT5 := Lib.hid (Kd.C_below HT4.out hb1)
 have M5 := Lib.hid (hunks_Script.calls 20 A1 c1 aH 3 [] 11 W5 HC5.out hc1 sc2)
 clear hs1 hb1 M4
 gi_wp2_with (first | rw [← HW1.out])
 refine ⟨trivial, ?_⟩
 refine (callsIn_wide.2 M5.out).mono ?_
 rintro e W6 ⟨v5, rfl, hs1, hb1⟩
 obtain ⟨A5, c5, rfl⟩ := Kd.S_slice hs1
 have HA6 := Lib.hid (HA5.out.below hb1)
 have HB6 := Lib.hid (HB5.out.trans (hb1.mono HB5.out.size))
 have HC6 := Lib.hid (Kd.C_below HC5.out hb1)
 have HT6 := Lib.hid (Kd.C_below HT5.out hb1)
 clear hs1 hb1 M5
 gi_wp2_with (first | rw [← HW1.out])
 obtain ⟨Z6, hZ6⟩ : ∃ Z6, Z6 = W6.drew := ⟨_, rfl⟩
 have a6 : A6 w.heap.size Z6 := by rw [hZ6]; exact ⟨HA6.out.x, HA6.out.s⟩
 have y3 : Z6.cell? ⟨w.heap.size + 1, 3, none⟩ = some (.int .i64 2) := by simp [World.cell?, a6.s]
 have y4 : Z6.cell? ⟨w.heap.size + 1, 4, none⟩ = some (.int .i64 1) := by simp [World.cell?, a6.s]
 have y5 : Z6.cell? ⟨w.heap.size + 1, 5, none⟩ = some (.slice none 0 0) := by simp [World.cell?, a6.s]
 have y6 : Z6.cell? ⟨w.heap.size + 1, 6, none⟩ = some (.int .i64 1) := by simp [World.cell?, a6.s]
 have y7 : Z6.cell? ⟨w.heap.size + 1, 7, none⟩ = some (.int .i64 4) := by simp [World.cell?, a6.s]
 have y8 : Z6.cell? ⟨w.heap.size + 1, 8, none⟩ = some (.slice none 0 0) := by simp [World.cell?, a6.s]
 have y9 : Z6.cell? ⟨w.heap.size + 1, 9, none⟩ = some (.int .i64 3) := by simp [World.cell?, a6.s]
 have y10 : Z6.cell? ⟨w.heap.size + 1, 10, none⟩ = some (.int .i64 1) := by simp [World.cell?, a6.s]
 have y11 : Z6.cell? ⟨w.heap.size + 1, 11, none⟩ = some (.slice (some ⟨w.heap.size, 0, none⟩) 1 1) := by simp [World.cell?, a6.s]
 have hb6 : Below w.heap.size w Z6 := by rw [hZ6]; exact HB6.out.drew
 have hz6 : ∀ b ∈ [w.heap.size + 1], b < Z6.heap.size := fun b hb => by rw [List.mem_singleton.1 hb]; exact blk_lt a6.s
 have HC6' := Lib.hid (show Kd.C k28 Z6 A1 1 aH by rw [hZ6]; exact Kd.C_drew HC6.out)
 have HT6' := Lib.hid (show Kd.C k31 Z6 A3 5 aS by rw [hZ6]; exact Kd.C_drew HT6.out)
 have HZ6 := Lib.hid hZ6
 have HAZ := Lib.hid a6
 have HBZ := Lib.hid hb6
 have HHZ := Lib.hid hz6
 clear hZ6 a6 hb6 hz6 HC6 HT6
 refine Held.region 15 (Held.Same Z6 [w.heap.size + 1]) (by kernel_rfl) ?_
 rw [← HZ6.out]
 have hS := Held.Same.refl Z6 [w.heap.size + 1]
 refine Held.tk (i := 0) rfl hS ?_
 try simp only [Act.put, List.setIfInBounds_toArray, List.set_cons_zero, List.set_cons_succ]
 refine Held.tk (i := 1) rfl hS ?_
 try simp only [Act.put, List.setIfInBounds_toArray, List.set_cons_zero, List.set_cons_succ]
 refine Held.tk (i := 2) rfl hS ?_
 try simp only [Act.put, List.setIfInBounds_toArray, List.set_cons_zero, List.set_cons_succ]
 refine Held.tk (i := 3) rfl hS ?_
 try simp only [Act.put, List.setIfInBounds_toArray, List.set_cons_zero, List.set_cons_succ]
 refine Held.tk (i := 4) rfl hS ?_
 try simp only [Act.put, List.setIfInBounds_toArray, List.set_cons_zero, List.set_cons_succ]
 refine Held.tk (i := 5) rfl hS ?_
 try simp only [Act.put, List.setIfInBounds_toArray, List.set_cons_zero, List.set_cons_succ]
 refine Held.tk (i := 6) rfl hS ?_
 try simp only [Act.put, List.setIfInBounds_toArray, List.set_cons_zero, List.set_cons_succ]
 refine Held.tk (i := 7) rfl hS ?_
 try simp only [Act.put, List.setIfInBounds_toArray, List.set_cons_zero, List.set_cons_succ]
 refine Held.tk (i := 8) rfl hS ?_
 try simp only [Act.put, List.setIfInBounds_toArray, List.set_cons_zero, List.set_cons_succ]
 refine Held.tk (i := 9) rfl hS ?_
 try simp only [Act.put, List.setIfInBounds_toArray, List.set_cons_zero, List.set_cons_succ]
 refine Held.tk (i := 10) rfl hS ?_
 try simp only [Act.put, List.setIfInBounds_toArray, List.set_cons_zero, List.set_cons_succ]
 refine Held.AnyS.step (i := 11) rfl (by kernel_rfl) rfl (fun K hK => ?_)
 go_simp
 have hS2 := hS.grown (World.grownBy_alloc Z6 (.cells #[.int .i64 1, .int .i64 2, .slice none 0 0, .int .i64 2, .int .i64 1, .slice none 0 0, .int .i64 1, .int .i64 4, .slice none 0 0, .int .i64 3, .int .i64 1, .slice (some ⟨w.heap.size, 0, none⟩) 1 1, .int .i64 1, .int .i64 2, .slice none 0 0] 31) none) (fun b hb => ⟨HHZ.out b hb, by simp⟩)
 refine hK.out _ _ (fun _ => hS2) ?_
 clear hK K
 try simp only [Act.put, List.setIfInBounds_toArray, List.set_cons_zero, List.set_cons_succ]
 refine Held.tk (i := 12) rfl hS2 ?_
 try simp only [Act.put, List.setIfInBounds_toArray, List.set_cons_zero, List.set_cons_succ]
 refine Held.AnyS.step (i := 13) rfl (by kernel_rfl) rfl (fun K hK => ?_)
 go_simp
 have hS3 := hS2.grown (World.grownBy_alloc _ (.cells #[.int .i64 7, .int .i64 7, .slice (some ⟨Z6.heap.size, 0, none⟩) 5 5] 28) none) (fun b hb => ⟨HHZ.out b hb, by simp⟩)
 refine hK.out _ _ (fun _ => hS3) ?_
 clear hK K
 try simp only [Act.put, List.setIfInBounds_toArray, List.set_cons_zero, List.set_cons_succ]
 refine Held.tk (i := 14) rfl hS3 ?_
 try simp only [Act.put, List.setIfInBounds_toArray, List.set_cons_zero, List.set_cons_succ]
 refine Held.AnyS.done (by kernel_rfl) ?_ _
 clear hS hS2 hS3
 go_simp
 obtain ⟨W7, hW7⟩ : ∃ W7, W7 = (Z6.alloc (.cells #[.int .i64 1, .int .i64 2, .slice none 0 0, .int .i64 2, .int .i64 1, .slice none 0 0, .int .i64 1, .int .i64 4, .slice none 0 0, .int .i64 3, .int .i64 1, .slice (some ⟨w.heap.size, 0, none⟩) 1 1, .int .i64 1, .int .i64 2, .slice none 0 0] 31)).alloc (.cells #[.int .i64 7, .int .i64 7, .slice (some ⟨Z6.heap.size, 0, none⟩) 5 5] 28) := ⟨_, rfl⟩
 have b67 : Below Z6.heap.size Z6 W7 := by rw [hW7]; exact ((Below.refl _ _).alloc (Nat.le_refl _) _).alloc (by simp) _
 have g6 : W7.heap[Z6.heap.size]? = some (.cells (flat (e5 w.heap.size 2 2)).toArray 31) := by
  rw [hW7]
  exact (Below.heap_alloc _ _ _ (by simp)).trans (World.alloc_heap_new Z6 _)
 have g7 : W7.heap[Z6.heap.size + 1]? = some (.cells (Hd.cells ⟨7, 7, .slice (some ⟨Z6.heap.size, 0, none⟩) 5 5, e5 w.heap.size 2 2⟩).toArray 28) := by
  have h1 := World.alloc_heap_new (Z6.alloc (.cells #[.int .i64 1, .int .i64 2, .slice none 0 0, .int .i64 2, .int .i64 1, .slice none 0 0, .int .i64 1, .int .i64 4, .slice none 0 0, .int .i64 3, .int .i64 1, .slice (some ⟨w.heap.size, 0, none⟩) 1 1, .int .i64 1, .int .i64 2, .slice none 0 0] 31)) (.cells #[.int .i64 7, .int .i64 7, .slice (some ⟨Z6.heap.size, 0, none⟩) 5 5] 28)
  rw [World.size_alloc] at h1
  rw [hW7]; exact h1
 have a7 := HAZ.out.below b67
 have HWT := Lib.hid (show Kd.C k28 W7 (some ⟨Z6.heap.size + 1, 0, none⟩) 1 aH from hk_lit _ ⟨7, 7, .slice (some ⟨Z6.heap.size, 0, none⟩) 5 5, e5 w.heap.size 2 2⟩ g7 (e5_scr a7.x g6))
 have HC7 := Lib.hid (Kd.C_below HC6'.out b67)
 have HT7 := Lib.hid (Kd.C_below HT6'.out b67)
 have HB7 := Lib.hid (HBZ.out.trans (b67.mono HBZ.out.size))
 have HA7 := Lib.hid a7
 have HW7 := Lib.hid hW7
 clear hW7 b67 g6 g7 a7 y3 y4 y5 y6 y7 y8 y9 y10 y11
 rw [← HW7.out]
 obtain ⟨W8, hW8⟩ : ∃ W8, W8 = ((W7.alloc (.cells #[.int .i64 2, .int .i64 1, .slice none 0 0] 31)).alloc (.cells #[.int .i64 0, .int .i64 0, .slice (some ⟨W7.heap.size, 0, none⟩) 1 1] 28)).alloc (.cells #[.string ⟨#[97]⟩, .string ⟨#[98]⟩] 9) := ⟨_, rfl⟩
 have b78 : Below W7.heap.size W7 W8 := by rw [hW8]; exact (((Below.refl _ _).alloc (Nat.le_refl _) _).alloc (by simp) _).alloc (by simp; omega) _
 have g8 : W8.heap[W7.heap.size]? = some (.cells (flat [⟨2, 1, .slice none 0 0, []⟩]).toArray 31) := by
  rw [hW8]
  exact (Below.heap_alloc _ _ _ (by simp; omega)).trans ((Below.heap_alloc _ _ _ (by simp)).trans (World.alloc_heap_new W7 _))
 have g9 : W8.heap[W7.heap.size + 1]? = some (.cells (Hd.cells ⟨0, 0, .slice (some ⟨W7.heap.size, 0, none⟩) 1 1, [⟨2, 1, .slice none 0 0, []⟩]⟩).toArray 28) := by
  have h1 := World.alloc_heap_new (W7.alloc (.cells #[.int .i64 2, .int .i64 1, .slice none 0 0] 31)) (.cells #[.int .i64 0, .int .i64 0, .slice (some ⟨W7.heap.size, 0, none⟩) 1 1] 28)
  rw [World.size_alloc] at h1
  rw [hW8]; exact (Below.heap_alloc _ _ _ (by simp)).trans h1
 have cD : Kd.C k28 W8 (some ⟨W7.heap.size + 1, 0, none⟩) 1 aD := hk_lit _ ⟨0, 0, .slice (some ⟨W7.heap.size, 0, none⟩) 1 1, [⟨2, 1, .slice none 0 0, []⟩]⟩ g9 (scr_lit _ 1 _ g8 rfl (by simp) (by simp) (by intro e he; rw [List.mem_singleton.1 he]; exact own_nil _ _ _ _) (List.pairwise_singleton _ _))
 have cL : Kd.C Kd.string W8 (some ⟨W7.heap.size + 1 + 1, 0, none⟩) 2 [⟨#[97]⟩, ⟨#[98]⟩] := by
  have h1 := lit_C ((W7.alloc (.cells #[.int .i64 2, .int .i64 1, .slice none 0 0] 31)).alloc (.cells #[.int .i64 0, .int .i64 0, .slice (some ⟨W7.heap.size, 0, none⟩) 1 1] 28)) [⟨#[97]⟩, ⟨#[98]⟩] (by decide)
  rw [World.size_alloc, World.size_alloc] at h1
  rw [hW8]; exact h1
 have M6 := Lib.hid (hunks_Apply.calls 20 _ 1 aD _ 2 [⟨#[97]⟩, ⟨#[98]⟩] [⟨#[98]⟩] 0 W8 cD (Nat.le_refl 1) cL (Nat.le_refl 2) ap1)
 have HB8 := Lib.hid (HB7.out.trans (b78.mono HB7.out.size))
 have HC8 := Lib.hid (Kd.C_below HC7.out b78)
 have HT8 := Lib.hid (Kd.C_below HT7.out b78)
 have HWT8 := Lib.hid (Kd.C_below HWT.out b78)
 have HA8 := Lib.hid (HA7.out.below b78)
 have HW8 := Lib.hid hW8
 clear hW8 b78 g8 g9 cD cL
 gi_wp2_with (first | rw [← HW8.out])
 refine ⟨trivial, ?_⟩
 refine (callsIn_wide.2 M6.out).mono ?_
 rintro e W9 ⟨v6, rfl, hR, hb1⟩
 obtain ⟨A6', c6, rfl, hc6, hC6⟩ := Kd.R_reads hR
 have HB9 := Lib.hid (HB8.out.trans (hb1.mono HB8.out.size))
 have HC9 := Lib.hid (Kd.C_below HC8.out hb1)
 have HT9 := Lib.hid (Kd.C_below HT8.out hb1)
 have HWT9 := Lib.hid (Kd.C_below HWT8.out hb1)
 have HA9 := Lib.hid (HA8.out.below hb1)
 have HL9 := Lib.hid hC6
 have S1 := Lib.hid (collatorref06_Same.calls 20 A1 c1 aH _ 1 aH true W9 HC9.out hc1 HWT9.out (Nat.le_refl 1) sm1)
 have kl : aK.length = 2 := rfl
 clear hR hb1 hC6 M6
 gi_wp2_with (first | rw [← HW8.out])
 refine ⟨trivial, ?_⟩
 refine (callsIn_wide.2 S1.out).mono ?_
 rintro e W10 ⟨rfl, ⟨nd, rfl⟩⟩
 have S2 := Lib.hid (collatorref04_Same.calls 20 A3 c3 aS _ 5 aS true (W9.drewN nd) (Kd.C_drewN HT9.out _) hc3 (Kd.C_drewN HA9.out.C _) (Nat.le_refl 5) sm2)
 clear S1
 gi_wp2_with (first | rw [← HW8.out])
 refine ⟨trivial, ?_⟩
 refine (callsIn_wide.2 S2.out).mono ?_
 rintro e W11 ⟨rfl, ⟨nd2, rfl⟩⟩
 have S3 := Lib.hid (hunks_Right.calls 20 A1 c1 aH true (W9.drewN (nd + nd2)) (Kd.C_drewN HC9.out _) hc1 rt1)
 clear S2
 gi_wp2_with (first | rw [← HW8.out])
 refine ⟨trivial, ?_⟩
 refine (callsIn_wide.2 S3.out).mono ?_
 rintro e W12 ⟨rfl, hb1⟩
 have HB12 := Lib.hid ((pw_below_drewN HB9.out (nd + nd2)).trans (hb1.mono HB9.out.size))
 have HL12 := Lib.hid (Kd.C_below (Kd.C_drewN HL9.out (nd + nd2)) hb1)
 have S4 := Lib.hid (hunks_Right.calls 20 (some ⟨W12.heap.size, 0, none⟩) 1 [⟨0, 0, []⟩] false (W12.alloc (.cells #[.int .i64 0, .int .i64 0, .slice none 0 0] 28)) (hk_lit _ ⟨0, 0, .slice none 0 0, []⟩ (World.alloc_heap_new W12 _) (Scr.nil _ _)) (Nat.le_refl 1) rt2)
 clear S3 hb1
 gi_wp2_with (first | rw [← HW8.out])
 refine ⟨trivial, ?_⟩
 refine (callsIn_wide.2 S4.out).mono ?_
 rintro e W13 ⟨rfl, hb1⟩
 have HB13 := Lib.hid ((HB12.out.alloc HB12.out.size _).trans (hb1.mono (by have := HB12.out.size; simp; omega)))
 have HL13 := Lib.hid (Kd.C_below (Kd.C_alloc HL12.out _) hb1)
 have S5 := Lib.hid (collatorref01_Texts.calls 20 A6' c6 [⟨#[98]⟩] (some ⟨W13.heap.size, 0, none⟩) 1 [⟨#[98]⟩] true (W13.alloc (.cells #[.string ⟨#[98]⟩] 9)) (Kd.C_alloc HL13.out _) hc6 (lit_C W13 [⟨#[98]⟩] (by decide)) (Nat.le_refl 1) tx1)
 clear S4 hb1
 gi_wp2_with (first | rw [← HW8.out])
 refine ⟨trivial, ?_⟩
 refine (callsIn_wide.2 S5.out).mono ?_
 rintro e W14 ⟨rfl, ⟨nd3, rfl⟩⟩
 have HB14 := Lib.hid (pw_below_drewN (HB13.out.alloc HB13.out.size (.cells #[.string ⟨#[98]⟩] 9)) nd3)
 clear S5
 gi_wp2_with (first | rw [← HW8.out])
 go_ret
 exact ⟨rfl, HB14.out⟩
end Go.Proofs.Ytgobidmfbjmpkaa.P
