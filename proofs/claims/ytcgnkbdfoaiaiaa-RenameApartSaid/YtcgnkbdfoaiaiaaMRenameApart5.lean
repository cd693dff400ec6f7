/- Texts of this claim, joined: EItem, Pxf13, EApartD, HeldI, EApartH, EApartA. -/
import Derived.Lib.Hide
import Derived.Test.YtcgnkbdfoaiaiaaMRenameApart1
import Derived.Test.YtcgnkbdfoaiaiaaMRenameApart4
import Derived.Test.YtcgnkbdfoaiaiaaMRenameApart3
import Derived.Test.YtcgnkbdfoaiaiaaMRenameApart2
import Derived.Test.YtcgnkbdfoaiaiaaWMore
section
/- The raw item made an item: collatorlaw02.Item, by hand. -/
set_option linter.unusedVariables false
set_option linter.unusedSimpArgs false
namespace Go.Proofs.Ytcgnkbdfoaiaiaa.P
open Go Go.RowKit Go.Proofs.YtcgnkbdfoaiaiaaW.PrintWords Go.Proofs.YtcgnkbdfoaiaiaaW.PrintLast Go.Proofs.YtcgnkbdfoaiaiaaW.PrintMore
def collatorlaw02_Item.f (k : Nat) (l0_0 : List Int) (a0_1 : Int) (a0_2 : ByteArray) (a0_3 : Int) : Option (ByteArray × Int × ByteArray × Bool) := (collatorlaw01_Path.f k l0_0).bind fun t131 => ((collatorlaw02_pick.f a0_1 3).bind fun t132 => ((collatorlaw02_pick.f a0_3 12).bind fun t133 => some (t131, wrap64 (1 + t132), (if wrap64 (1 + t132) = 1 then (⟨#[]⟩ : ByteArray) else a0_2.extract 0 ((mn (a0_2.size : Int) 60) : Int).toNat), (t133 == 0))))
theorem collatorlaw02_Item.mono : ∀ a0 a1 a2 a3 k, LeO (collatorlaw02_Item.f k a0 a1 a2 a3) (collatorlaw02_Item.f (k + 1) a0 a1 a2 a3) := by
  intro a0 a1 a2 a3 k
  unfold collatorlaw02_Item.f
  refine LeO.bind (collatorlaw01_Path.mono _ _) (fun _ => LeO.refl _)
theorem set_blk {w : World} {b : Nat} {cs : Array Value} {t : TypeId} (h : w.heap[b]? = some (.cells cs t (0, 0))) (j : Nat) (v : Value) : (w.setCell ⟨b, j, none⟩ v).heap[b]? = some (.cells (cs.setIfInBounds j v) t (0, 0)) := blk_set h j v
theorem set_blk_ne {w : World} {b c : Nat} (h : c ≠ b) (j : Nat) (v : Value) : (w.setCell ⟨b, j, none⟩ v).heap[c]? = w.heap[c]? := Below.heap_setCell w ⟨b, j, none⟩ v c h
theorem set4 {w : World} {b : Nat} {a0 a1 a2 a3 : Value} {t : TypeId} (h : w.heap[b]? = some (.cells #[a0, a1, a2, a3] t (0, 0))) (v0 v1 v2 v3 : Value) : ∃ w', (((w.setCell ⟨b, 0, none⟩ v0).setCell ⟨b, 1, none⟩ v1).setCell ⟨b, 2, none⟩ v2).setCell ⟨b, 3, none⟩ v3 = w' ∧ w'.heap[b]? = some (.cells #[v0, v1, v2, v3] t (0, 0)) ∧ (∀ c, c ≠ b → w'.heap[c]? = w.heap[c]?) ∧ ∀ (W : World), Below W.heap.size W w → W.heap.size ≤ b → Below W.heap.size W w' :=
  ⟨_, rfl, set_blk (set_blk (set_blk (set_blk h 0 v0) 1 v1) 2 v2) 3 v3, fun c hc => by rw [set_blk_ne hc, set_blk_ne hc, set_blk_ne hc, set_blk_ne hc], fun W hW hb => below_set (below_set (below_set (below_set hW hb) hb) hb) hb⟩
theorem set1 {w : World} {b : Nat} {a0 a1 a2 a3 : Value} {t : TypeId} (h : w.heap[b]? = some (.cells #[a0, a1, a2, a3] t (0, 0))) (v : Value) : ∃ w', w.setCell ⟨b, 2, none⟩ v = w' ∧ w'.heap[b]? = some (.cells #[a0, a1, v, a3] t (0, 0)) ∧ (∀ c, c ≠ b → w'.heap[c]? = w.heap[c]?) ∧ ∀ (W : World), Below W.heap.size W w → W.heap.size ≤ b → Below W.heap.size W w' :=
  ⟨_, rfl, set_blk h 2 v, fun c hc => set_blk_ne hc _ _, fun W hW hb => below_set hW hb⟩
section
attribute [local go_sem] HMin.max2_mx HMin.min2_mn max_two min_two
set_option maxHeartbeats 8000000 in
set_option maxRecDepth 100000 in
theorem item_run (k : Nat) (A : Option Addr) (c : Nat) (l : List Int) (x : Int) (s : ByteArray) (y : Int) (p : ByteArray) (t u : Int) (W : World) (hr : Kd.C (Kd.int .i64) W A l.length l) (hc : l.length ≤ c)
    (hp : collatorlaw01_Path.f k l = some p) (ht : collatorlaw02_pick.f x 3 = some t) (hu : collatorlaw02_pick.f y 12 = some u) :
    Calls Try.prog 14 #[.agg #[.slice A l.length c, .int .i64 x, .string s, .int .i64 y]] W fun e w' => e = .returned (.agg #[.string p, .int .i64 (wrap64 (1 + t)), .string (if wrap64 (1 + t) = 1 then (⟨#[]⟩ : ByteArray) else s.extract 0 ((mn (s.size : Int) 60) : Int).toNat), .bool (u == 0)]) ∧ Below W.heap.size W w' := by
  obtain ⟨q0, hq0⟩ : ∃ q0, wrap64 (1 + t) = q0 := ⟨_, rfl⟩
  rw [hq0]
  obtain ⟨an, han⟩ : ∃ an, (if q0 = 1 then (⟨#[]⟩ : ByteArray) else s.extract 0 ((mn (s.size : Int) 60) : Int).toNat) = an := ⟨_, rfl⟩
  rw [han]
  have HAN := Lib.hid han
  have HQ0 := Lib.hid hq0
  clear han hq0
  obtain ⟨rb, hrb⟩ : ∃ rb, W.heap.size + 1 = rb := ⟨_, rfl⟩
  obtain ⟨X, hX⟩ : ∃ X, X = (W.alloc (.cells #[.slice A l.length c, .int .i64 x, .string s, .int .i64 y] 41)).alloc (.cells #[.string (⟨#[]⟩ : ByteArray), .int .i64 0, .string (⟨#[]⟩ : ByteArray), .bool false] 33) := ⟨_, rfl⟩
  have q0 : X.heap[W.heap.size]? = some (.cells #[.slice A l.length c, .int .i64 x, .string s, .int .i64 y] 41 (0, 0)) := by rw [hX]; exact ((World.grownBy_alloc _ _ none).block _ (by simp) (by simp)).trans (heap_alloc_new W _)
  have q1 : X.heap[rb]? = some (.cells #[.string (⟨#[]⟩ : ByteArray), .int .i64 0, .string (⟨#[]⟩ : ByteArray), .bool false] 33 (0, 0)) := by
    rw [hX, ← hrb]
    have := heap_alloc_new (W.alloc (.cells #[.slice A l.length c, .int .i64 x, .string s, .int .i64 y] 41)) (.cells #[.string (⟨#[]⟩ : ByteArray), .int .i64 0, .string (⟨#[]⟩ : ByteArray), .bool false] 33)
    simpa using this
  obtain ⟨Z, hZ⟩ : ∃ Z, Z = X.drew := ⟨_, rfl⟩
  have HZX := Lib.hid hZ
  have qz0 : Z.heap[W.heap.size]? = some (.cells #[.slice A l.length c, .int .i64 x, .string s, .int .i64 y] 41 (0, 0)) := by rw [hZ]; exact q0
  have qz1 : Z.heap[rb]? = some (.cells #[.string (⟨#[]⟩ : ByteArray), .int .i64 0, .string (⟨#[]⟩ : ByteArray), .bool false] 33 (0, 0)) := by rw [hZ]; exact q1
  have m00 : Z.cell? ⟨W.heap.size, 0, none⟩ = some (.slice A l.length c) := by simp [World.cell?, qz0]
  have m01 : Z.cell? ⟨W.heap.size, 1, none⟩ = some (.int .i64 x) := by simp [World.cell?, qz0]
  have m02 : Z.cell? ⟨W.heap.size, 2, none⟩ = some (.string s) := by simp [World.cell?, qz0]
  have m03 : Z.cell? ⟨W.heap.size, 3, none⟩ = some (.int .i64 y) := by simp [World.cell?, qz0]
  have HZ8 := Lib.hid (show ∀ b ∈ [W.heap.size, rb], b < Z.heap.size by intro b hb; simp at hb; rcases hb with rfl | rfl; exact blk_lt qz0; exact blk_lt qz1)
  have hBX : Below W.heap.size W X := by rw [hX]; exact below_alloc (below_alloc (Below.refl _ _) _) _
  have HB0 := Lib.hid (show Below W.heap.size W Z by rw [hZ]; exact below_drew1 hBX)
  have HR := Lib.hid hr
  have HQ := Lib.hid qz1
  have HX := Lib.hid hX
  have HP := Lib.hid hp
  have HT := Lib.hid ht
  have HU := Lib.hid hu
  have HC := Lib.hid hc
  obtain ⟨m, hm⟩ : ∃ m, mn (s.size : Int) 60 = m := ⟨_, rfl⟩
  have hm0 : (0 ≤ m) = True := eq_true (by rw [← hm]; unfold mn; (repeat' split) <;> omega)
  have hm1 : (m ≤ (s.size : Int)) = True := eq_true (by rw [← hm]; unfold mn; (repeat' split) <;> omega)
  have hm_ : (if 60 < (s.size : Int) then 60 else (s.size : Int)) = m := hm
  have HMM := Lib.hid hm
  clear hX hZ q0 q1 qz0 qz1 hr hc hp ht hu hBX
  go_enter Try.func14, Try.ntmps14
  go_wp2_with (first | rw [← HX.out])
  rename_i Q0 K0 hEND
  try rw [hrb]
  have HRB := Lib.hid hrb
  clear hrb
  refine (wpIn_wide (n := 9)).1 ?_
  refine Held.region 20 (Held.Same Z [W.heap.size, rb]) (by kernel_rfl) ?_
  first | rw [← HZX.out] | rw [← HX.out, ← HZX.out]
  have hT := Held.Same.refl Z [W.heap.size, rb]
  refine Held.tk (i := 0) rfl hT ?_
  try simp only [Act.put, List.setIfInBounds_toArray, List.set_cons_zero, List.set_cons_succ]
  refine Held.tk (i := 1) rfl hT ?_
  try simp only [Act.put, List.setIfInBounds_toArray, List.set_cons_zero, List.set_cons_succ]
  refine Held.tk (i := 3) rfl hT ?_
  try simp only [Act.put, List.setIfInBounds_toArray, List.set_cons_zero, List.set_cons_succ]
  refine Held.tk (i := 4) rfl hT ?_
  try simp only [Act.put, List.setIfInBounds_toArray, List.set_cons_zero, List.set_cons_succ]
  refine Held.tk (i := 7) rfl hT ?_
  try simp only [Act.put, List.setIfInBounds_toArray, List.set_cons_zero, List.set_cons_succ]
  refine Held.tk (i := 8) rfl hT ?_
  try simp only [Act.put, List.setIfInBounds_toArray, List.set_cons_zero, List.set_cons_succ]
  refine Held.tk (i := 9) rfl hT ?_
  try simp only [Act.put, List.setIfInBounds_toArray, List.set_cons_zero, List.set_cons_succ]
  refine Held.tk (i := 10) rfl hT ?_
  try simp only [Act.put, List.setIfInBounds_toArray, List.set_cons_zero, List.set_cons_succ]
  refine Held.tk (i := 11) rfl hT ?_
  try simp only [Act.put, List.setIfInBounds_toArray, List.set_cons_zero, List.set_cons_succ]
  refine Held.tk (i := 12) rfl hT ?_
  try simp only [Act.put, List.setIfInBounds_toArray, List.set_cons_zero, List.set_cons_succ]
  refine Held.tk (i := 13) rfl hT ?_
  try simp only [Act.put, List.setIfInBounds_toArray, List.set_cons_zero, List.set_cons_succ]
  refine Held.tk (i := 14) rfl hT ?_
  try simp only [Act.put, List.setIfInBounds_toArray, List.set_cons_zero, List.set_cons_succ]
  refine Held.tk (i := 15) rfl hT ?_
  try simp only [Act.put, List.setIfInBounds_toArray, List.set_cons_zero, List.set_cons_succ]
  -- STEPS
  have hT0 := hT
  refine Held.AnyS.step2 (i := 2) (j := 19) rfl rfl (by kernel_rfl) rfl rfl (fun K hK => ?_) (fun K hK => ?_)
  · go_simp
    first | refine ⟨trivial, ?_⟩ | skip
    refine (callsIn_wide.2 (collatorlaw01_Path.calls k A c l p Z (Kd.C_below HR.out HB0.out) HC.out HP.out)).mono ?_
    rintro e w1 ⟨rfl, hb⟩
    have HB1 := Lib.hid (below_step HB0.out hb)
    have hT1 : Held.Same Z [W.heap.size, rb] w1 := Held.Same.below hT0 hb HZ8.out
    have hk := Lib.hid hb
    refine hK.out _ _ (fun _ => hT1) ?_
    clear hK K hb
    try simp only [Act.put, List.setIfInBounds_toArray, List.set_cons_zero, List.set_cons_succ]
    clear hk
    refine Held.AnyS.step2 (i := 5) (j := 19) rfl rfl (by kernel_rfl) rfl rfl (fun K hK => ?_) (fun K hK => ?_)
    · go_simp
      first | refine ⟨trivial, ?_⟩ | skip
      refine (callsIn_wide.2 (collatorlaw02_pick.calls x 3 t w1 HT.out)).mono ?_
      rintro e w2 ⟨rfl, hb⟩
      have hb := hb.below
      have HB2 := Lib.hid (below_step HB1.out hb)
      have hT2 : Held.Same Z [W.heap.size, rb] w2 := Held.Same.below hT1 hb HZ8.out
      have hk := Lib.hid hb
      refine hK.out _ _ (fun _ => hT2) ?_
      clear hK K hb
      try simp only [Act.put, List.setIfInBounds_toArray, List.set_cons_zero, List.set_cons_succ]
      clear hk
      refine Held.tk (i := 6) rfl hT2 ?_
      try simp only [Act.put, List.setIfInBounds_toArray, List.set_cons_zero, List.set_cons_succ]
      generalize hq : IntKind.i64.wrap (1 + t) = q
      have HQQ := Lib.hid hq
      clear hq
      refine Held.AnyS.step2 (i := 16) (j := 19) rfl rfl (by kernel_rfl) rfl rfl (fun K hK => ?_) (fun K hK => ?_)
      · go_simp
        first | refine ⟨trivial, ?_⟩ | skip
        refine (callsIn_wide.2 (collatorlaw02_pick.calls y 12 u w2 HU.out)).mono ?_
        rintro e w3 ⟨rfl, hb⟩
        have hb := hb.below
        have HB3 := Lib.hid (below_step HB2.out hb)
        have hT3 : Held.Same Z [W.heap.size, rb] w3 := Held.Same.below hT2 hb HZ8.out
        have hk := Lib.hid hb
        refine hK.out _ _ (fun _ => hT3) ?_
        clear hK K hb
        try simp only [Act.put, List.setIfInBounds_toArray, List.set_cons_zero, List.set_cons_succ]
        clear hk
        refine Held.tk (i := 17) rfl hT3 ?_
        try simp only [Act.put, List.setIfInBounds_toArray, List.set_cons_zero, List.set_cons_succ]
        refine Held.tk (i := 18) rfl hT3 ?_
        try simp only [Act.put, List.setIfInBounds_toArray, List.set_cons_zero, List.set_cons_succ]
        refine Held.AnyS.step (i := 19) rfl (by kernel_rfl) rfl (fun K hK => ?_)
        go_simp
        first | refine ⟨trivial, ?_⟩ | skip
        obtain ⟨w4, hw⟩ : ∃ V, V = w3.alloc (.cells #[.string (⟨#[]⟩ : ByteArray), .int .i64 0, .string (⟨#[]⟩ : ByteArray), .bool false] 33) := ⟨_, rfl⟩
        have HK := Lib.hid (show w4.heap[w3.heap.size]? = some (.cells #[.string (⟨#[]⟩ : ByteArray), .int .i64 0, .string (⟨#[]⟩ : ByteArray), .bool false] 33 (0, 0)) by rw [hw]; exact heap_alloc_new w3 _)
        have HG := Lib.hid (below_size HB3.out)
        have HB4 := Lib.hid (show Below W.heap.size W w4 by rw [hw]; exact below_alloc HB3.out _)
        have hT4 : Held.Same Z [W.heap.size, rb] w4 := Held.Same.grown hT3 (by rw [hw]; exact World.grownBy_alloc _ _ none) (fun b hb => ⟨HZ8.out b hb, by simp⟩)
        try rw [← hw]
        refine hK.out _ _ (fun _ => hT4) ?_
        clear hK K
        have HN := Lib.hid (show w3.heap.size ≠ rb by have := blk_lt ((hT3 rb (by simp)).trans HQ.out); omega)
        generalize w3.heap.size = b at HK HG HN ⊢
        clear hw
        try simp only [Act.put, List.setIfInBounds_toArray, List.set_cons_zero, List.set_cons_succ]
        refine Held.AnyS.step (i := 20) rfl (by kernel_rfl) rfl (fun K hK => ?_)
        have g0 : w4.cell? ⟨b, 0, none⟩ = some (#[.string (⟨#[]⟩ : ByteArray), .int .i64 0, .string (⟨#[]⟩ : ByteArray), .bool false][0]) := (blk_cell HK.out 0).trans rfl
        have g1 : w4.cell? ⟨b, 1, none⟩ = some (#[.string (⟨#[]⟩ : ByteArray), .int .i64 0, .string (⟨#[]⟩ : ByteArray), .bool false][1]) := (blk_cell HK.out 1).trans rfl
        have g2 : w4.cell? ⟨b, 2, none⟩ = some (#[.string (⟨#[]⟩ : ByteArray), .int .i64 0, .string (⟨#[]⟩ : ByteArray), .bool false][2]) := (blk_cell HK.out 2).trans rfl
        have g3 : w4.cell? ⟨b, 3, none⟩ = some (#[.string (⟨#[]⟩ : ByteArray), .int .i64 0, .string (⟨#[]⟩ : ByteArray), .bool false][3]) := (blk_cell HK.out 3).trans rfl
        have e0 : w4.frozen? ⟨b, 0, none⟩ = false := by simp [World.frozen?, HK.out]
        have e1 : w4.frozen? ⟨b, 1, none⟩ = false := by simp [World.frozen?, HK.out]
        have e2 : w4.frozen? ⟨b, 2, none⟩ = false := by simp [World.frozen?, HK.out]
        have e3 : w4.frozen? ⟨b, 3, none⟩ = false := by simp [World.frozen?, HK.out]
        have HQ1 := Lib.hid ((hT4 rb (by simp)).trans HQ.out)
        clear hT0 hT
        clear hT1
        clear hT2
        clear hT3
        clear hT4
        go_simp
        clear g0 g1 g2 g3 e0 e1 e2 e3
        obtain ⟨V, hV, kb, ko, kB⟩ := set4 HK.out (.string p) (.int .i64 (q)) (.string (s.extract 0 m.toNat)) (.bool (u == 0))
        rw [hV]
        have HV := Lib.hid (kB _ HB4.out HG.out)
        have HQ2 := Lib.hid ((ko _ (Ne.symm HN.out)).trans HQ1.out)
        have HKb := Lib.hid kb
        refine hK.out _ _ (fun h => absurd h (by omega)) ?_
        clear hK K hV kB ko kb
        refine Held.AnyS.done (by kernel_rfl) ?_ _
        go_simp
        by_cases hc1 : q = 1
        · have HC1 := Lib.hid hc1
          have g0 : V.cell? ⟨b, 0, none⟩ = some (#[.string p, .int .i64 (q), .string (s.extract 0 m.toNat), .bool (u == 0)][0]) := (blk_cell HKb.out 0).trans rfl
          have gf0 : V.frozen? ⟨b, 0, none⟩ = false := by simp [World.frozen?, HKb.out]
          have g1 : V.cell? ⟨b, 1, none⟩ = some (#[.string p, .int .i64 (q), .string (s.extract 0 m.toNat), .bool (u == 0)][1]) := (blk_cell HKb.out 1).trans rfl
          have gf1 : V.frozen? ⟨b, 1, none⟩ = false := by simp [World.frozen?, HKb.out]
          have g2 : V.cell? ⟨b, 2, none⟩ = some (#[.string p, .int .i64 (q), .string (s.extract 0 m.toNat), .bool (u == 0)][2]) := (blk_cell HKb.out 2).trans rfl
          have gf2 : V.frozen? ⟨b, 2, none⟩ = false := by simp [World.frozen?, HKb.out]
          have g3 : V.cell? ⟨b, 3, none⟩ = some (#[.string p, .int .i64 (q), .string (s.extract 0 m.toNat), .bool (u == 0)][3]) := (blk_cell HKb.out 3).trans rfl
          have gf3 : V.frozen? ⟨b, 3, none⟩ = false := by simp [World.frozen?, HKb.out]
          have hc2 : (q == 1) = true := beq_iff_eq.2 hc1
          obtain ⟨V1, hV1, kb, ko, kB⟩ := set1 HKb.out (.string (⟨#[]⟩ : ByteArray))
          have HV1 := Lib.hid (kB _ HV.out HG.out)
          have HQ3 := Lib.hid ((ko _ (Ne.symm HN.out)).trans HQ2.out)
          have HV2 := Lib.hid hV1
          have i0 : V1.cell? ⟨b, 0, none⟩ = some (#[.string p, .int .i64 (q), .string (⟨#[]⟩ : ByteArray), .bool (u == 0)][0]) := (blk_cell kb 0).trans rfl
          have if0 : V1.frozen? ⟨b, 0, none⟩ = false := by simp [World.frozen?, kb]
          have i1 : V1.cell? ⟨b, 1, none⟩ = some (#[.string p, .int .i64 (q), .string (⟨#[]⟩ : ByteArray), .bool (u == 0)][1]) := (blk_cell kb 1).trans rfl
          have if1 : V1.frozen? ⟨b, 1, none⟩ = false := by simp [World.frozen?, kb]
          have i2 : V1.cell? ⟨b, 2, none⟩ = some (#[.string p, .int .i64 (q), .string (⟨#[]⟩ : ByteArray), .bool (u == 0)][2]) := (blk_cell kb 2).trans rfl
          have if2 : V1.frozen? ⟨b, 2, none⟩ = false := by simp [World.frozen?, kb]
          have i3 : V1.cell? ⟨b, 3, none⟩ = some (#[.string p, .int .i64 (q), .string (⟨#[]⟩ : ByteArray), .bool (u == 0)][3]) := (blk_cell kb 3).trans rfl
          have if3 : V1.frozen? ⟨b, 3, none⟩ = false := by simp [World.frozen?, kb]
          have r0 : V1.cell? ⟨rb, 0, none⟩ = some (#[.string (⟨#[]⟩ : ByteArray), .int .i64 0, .string (⟨#[]⟩ : ByteArray), .bool false][0]) := (blk_cell HQ3.out 0).trans rfl
          have rf0 : V1.frozen? ⟨rb, 0, none⟩ = false := by simp [World.frozen?, HQ3.out]
          have r1 : V1.cell? ⟨rb, 1, none⟩ = some (#[.string (⟨#[]⟩ : ByteArray), .int .i64 0, .string (⟨#[]⟩ : ByteArray), .bool false][1]) := (blk_cell HQ3.out 1).trans rfl
          have rf1 : V1.frozen? ⟨rb, 1, none⟩ = false := by simp [World.frozen?, HQ3.out]
          have r2 : V1.cell? ⟨rb, 2, none⟩ = some (#[.string (⟨#[]⟩ : ByteArray), .int .i64 0, .string (⟨#[]⟩ : ByteArray), .bool false][2]) := (blk_cell HQ3.out 2).trans rfl
          have rf2 : V1.frozen? ⟨rb, 2, none⟩ = false := by simp [World.frozen?, HQ3.out]
          have r3 : V1.cell? ⟨rb, 3, none⟩ = some (#[.string (⟨#[]⟩ : ByteArray), .int .i64 0, .string (⟨#[]⟩ : ByteArray), .bool false][3]) := (blk_cell HQ3.out 3).trans rfl
          have rf3 : V1.frozen? ⟨rb, 3, none⟩ = false := by simp [World.frozen?, HQ3.out]
          obtain ⟨U, hU, lb, lo, lB⟩ := set4 HQ3.out (.string p) (.int .i64 (q)) (.string (⟨#[]⟩ : ByteArray)) (.bool (u == 0))
          have x0 : U.cell? ⟨rb, 0, none⟩ = some (#[.string p, .int .i64 (q), .string (⟨#[]⟩ : ByteArray), .bool (u == 0)][0]) := (blk_cell lb 0).trans rfl
          have xf0 : U.frozen? ⟨rb, 0, none⟩ = false := by simp [World.frozen?, lb]
          have x1 : U.cell? ⟨rb, 1, none⟩ = some (#[.string p, .int .i64 (q), .string (⟨#[]⟩ : ByteArray), .bool (u == 0)][1]) := (blk_cell lb 1).trans rfl
          have xf1 : U.frozen? ⟨rb, 1, none⟩ = false := by simp [World.frozen?, lb]
          have x2 : U.cell? ⟨rb, 2, none⟩ = some (#[.string p, .int .i64 (q), .string (⟨#[]⟩ : ByteArray), .bool (u == 0)][2]) := (blk_cell lb 2).trans rfl
          have xf2 : U.frozen? ⟨rb, 2, none⟩ = false := by simp [World.frozen?, lb]
          have x3 : U.cell? ⟨rb, 3, none⟩ = some (#[.string p, .int .i64 (q), .string (⟨#[]⟩ : ByteArray), .bool (u == 0)][3]) := (blk_cell lb 3).trans rfl
          have xf3 : U.frozen? ⟨rb, 3, none⟩ = false := by simp [World.frozen?, lb]
          have HU1 := Lib.hid (lB _ HV1.out (by have := HRB.out; omega))
          have HU2 := Lib.hid hU
          clear hV1 kb ko kB hU lo lB hc1
          refine hEND _ _ ?_
          clear hEND
          go_wp2_with (first | (rw [HU2.out]) | (rw [HV2.out]))
          refine bodyPost_ret (results_cell_row rfl _ _ rb 33 #[.string p, .int .i64 (q), .string (⟨#[]⟩ : ByteArray), .bool (u == 0)] (0, 0) _ rfl lb Try.underlying33 rfl (by kernel_rfl)) rfl ?_
          have hq := HQQ.out
          rw [i64_w] at hq
          exact ⟨by rw [← HAN.out, ← HQ0.out, hq, if_pos HC1.out], HU1.out⟩
        · have HC1 := Lib.hid hc1
          have g0 : V.cell? ⟨b, 0, none⟩ = some (#[.string p, .int .i64 (q), .string (s.extract 0 m.toNat), .bool (u == 0)][0]) := (blk_cell HKb.out 0).trans rfl
          have gf0 : V.frozen? ⟨b, 0, none⟩ = false := by simp [World.frozen?, HKb.out]
          have g1 : V.cell? ⟨b, 1, none⟩ = some (#[.string p, .int .i64 (q), .string (s.extract 0 m.toNat), .bool (u == 0)][1]) := (blk_cell HKb.out 1).trans rfl
          have gf1 : V.frozen? ⟨b, 1, none⟩ = false := by simp [World.frozen?, HKb.out]
          have g2 : V.cell? ⟨b, 2, none⟩ = some (#[.string p, .int .i64 (q), .string (s.extract 0 m.toNat), .bool (u == 0)][2]) := (blk_cell HKb.out 2).trans rfl
          have gf2 : V.frozen? ⟨b, 2, none⟩ = false := by simp [World.frozen?, HKb.out]
          have g3 : V.cell? ⟨b, 3, none⟩ = some (#[.string p, .int .i64 (q), .string (s.extract 0 m.toNat), .bool (u == 0)][3]) := (blk_cell HKb.out 3).trans rfl
          have gf3 : V.frozen? ⟨b, 3, none⟩ = false := by simp [World.frozen?, HKb.out]
          have hc2 : (q == 1) = false := beq_eq_false_iff_ne.2 hc1
          have HV1 := HV
          have HQ3 := HQ2
          have r0 : V.cell? ⟨rb, 0, none⟩ = some (#[.string (⟨#[]⟩ : ByteArray), .int .i64 0, .string (⟨#[]⟩ : ByteArray), .bool false][0]) := (blk_cell HQ3.out 0).trans rfl
          have rf0 : V.frozen? ⟨rb, 0, none⟩ = false := by simp [World.frozen?, HQ3.out]
          have r1 : V.cell? ⟨rb, 1, none⟩ = some (#[.string (⟨#[]⟩ : ByteArray), .int .i64 0, .string (⟨#[]⟩ : ByteArray), .bool false][1]) := (blk_cell HQ3.out 1).trans rfl
          have rf1 : V.frozen? ⟨rb, 1, none⟩ = false := by simp [World.frozen?, HQ3.out]
          have r2 : V.cell? ⟨rb, 2, none⟩ = some (#[.string (⟨#[]⟩ : ByteArray), .int .i64 0, .string (⟨#[]⟩ : ByteArray), .bool false][2]) := (blk_cell HQ3.out 2).trans rfl
          have rf2 : V.frozen? ⟨rb, 2, none⟩ = false := by simp [World.frozen?, HQ3.out]
          have r3 : V.cell? ⟨rb, 3, none⟩ = some (#[.string (⟨#[]⟩ : ByteArray), .int .i64 0, .string (⟨#[]⟩ : ByteArray), .bool false][3]) := (blk_cell HQ3.out 3).trans rfl
          have rf3 : V.frozen? ⟨rb, 3, none⟩ = false := by simp [World.frozen?, HQ3.out]
          obtain ⟨U, hU, lb, lo, lB⟩ := set4 HQ3.out (.string p) (.int .i64 (q)) (.string (s.extract 0 m.toNat)) (.bool (u == 0))
          have x0 : U.cell? ⟨rb, 0, none⟩ = some (#[.string p, .int .i64 (q), .string (s.extract 0 m.toNat), .bool (u == 0)][0]) := (blk_cell lb 0).trans rfl
          have xf0 : U.frozen? ⟨rb, 0, none⟩ = false := by simp [World.frozen?, lb]
          have x1 : U.cell? ⟨rb, 1, none⟩ = some (#[.string p, .int .i64 (q), .string (s.extract 0 m.toNat), .bool (u == 0)][1]) := (blk_cell lb 1).trans rfl
          have xf1 : U.frozen? ⟨rb, 1, none⟩ = false := by simp [World.frozen?, lb]
          have x2 : U.cell? ⟨rb, 2, none⟩ = some (#[.string p, .int .i64 (q), .string (s.extract 0 m.toNat), .bool (u == 0)][2]) := (blk_cell lb 2).trans rfl
          have xf2 : U.frozen? ⟨rb, 2, none⟩ = false := by simp [World.frozen?, lb]
          have x3 : U.cell? ⟨rb, 3, none⟩ = some (#[.string p, .int .i64 (q), .string (s.extract 0 m.toNat), .bool (u == 0)][3]) := (blk_cell lb 3).trans rfl
          have xf3 : U.frozen? ⟨rb, 3, none⟩ = false := by simp [World.frozen?, lb]
          have HU1 := Lib.hid (lB _ HV1.out (by have := HRB.out; omega))
          have HU2 := Lib.hid hU
          clear hU lo lB hc1
          refine hEND _ _ ?_
          clear hEND
          go_wp2_with (first | (rw [HU2.out]))
          refine bodyPost_ret (results_cell_row rfl _ _ rb 33 #[.string p, .int .i64 (q), .string (s.extract 0 m.toNat), .bool (u == 0)] (0, 0) _ rfl lb Try.underlying33 rfl (by kernel_rfl)) rfl ?_
          have hq := HQQ.out
          rw [i64_w] at hq
          exact ⟨by rw [← HAN.out, ← HQ0.out, hq, if_neg HC1.out, HMM.out], HU1.out⟩
      · go_simp
        first | refine ⟨trivial, ?_⟩ | skip
        obtain ⟨w3, hw⟩ : ∃ V, V = w2.alloc (.cells #[.string (⟨#[]⟩ : ByteArray), .int .i64 0, .string (⟨#[]⟩ : ByteArray), .bool false] 33) := ⟨_, rfl⟩
        have HK := Lib.hid (show w3.heap[w2.heap.size]? = some (.cells #[.string (⟨#[]⟩ : ByteArray), .int .i64 0, .string (⟨#[]⟩ : ByteArray), .bool false] 33 (0, 0)) by rw [hw]; exact heap_alloc_new w2 _)
        have HG := Lib.hid (below_size HB2.out)
        have HB3 := Lib.hid (show Below W.heap.size W w3 by rw [hw]; exact below_alloc HB2.out _)
        have hT3 : Held.Same Z [W.heap.size, rb] w3 := Held.Same.grown hT2 (by rw [hw]; exact World.grownBy_alloc _ _ none) (fun b hb => ⟨HZ8.out b hb, by simp⟩)
        try rw [← hw]
        refine hK.out _ _ (fun _ => hT3) ?_
        clear hK K
        have HN := Lib.hid (show w2.heap.size ≠ rb by have := blk_lt ((hT2 rb (by simp)).trans HQ.out); omega)
        generalize w2.heap.size = b at HK HG HN ⊢
        clear hw
        try simp only [Act.put, List.setIfInBounds_toArray, List.set_cons_zero, List.set_cons_succ]
        refine Held.AnyS.step (i := 16) rfl (by kernel_rfl) rfl (fun K hK => ?_)
        go_simp
        first | refine ⟨trivial, ?_⟩ | skip
        refine (callsIn_wide.2 (collatorlaw02_pick.calls y 12 u w3 HU.out)).mono ?_
        rintro e w4 ⟨rfl, hb⟩
        have hb := hb.below
        have HB4 := Lib.hid (below_step HB3.out hb)
        have hT4 : Held.Same Z [W.heap.size, rb] w4 := Held.Same.below hT3 hb HZ8.out
        have hk := Lib.hid hb
        refine hK.out _ _ (fun _ => hT4) ?_
        clear hK K hb
        try simp only [Act.put, List.setIfInBounds_toArray, List.set_cons_zero, List.set_cons_succ]
        have HK := Lib.hid (blk_below HK.out hk.out)
        clear hk
        refine Held.tk (i := 17) rfl hT4 ?_
        try simp only [Act.put, List.setIfInBounds_toArray, List.set_cons_zero, List.set_cons_succ]
        refine Held.tk (i := 18) rfl hT4 ?_
        try simp only [Act.put, List.setIfInBounds_toArray, List.set_cons_zero, List.set_cons_succ]
        refine Held.AnyS.step (i := 20) rfl (by kernel_rfl) rfl (fun K hK => ?_)
        have g0 : w4.cell? ⟨b, 0, none⟩ = some (#[.string (⟨#[]⟩ : ByteArray), .int .i64 0, .string (⟨#[]⟩ : ByteArray), .bool false][0]) := (blk_cell HK.out 0).trans rfl
        have g1 : w4.cell? ⟨b, 1, none⟩ = some (#[.string (⟨#[]⟩ : ByteArray), .int .i64 0, .string (⟨#[]⟩ : ByteArray), .bool false][1]) := (blk_cell HK.out 1).trans rfl
        have g2 : w4.cell? ⟨b, 2, none⟩ = some (#[.string (⟨#[]⟩ : ByteArray), .int .i64 0, .string (⟨#[]⟩ : ByteArray), .bool false][2]) := (blk_cell HK.out 2).trans rfl
        have g3 : w4.cell? ⟨b, 3, none⟩ = some (#[.string (⟨#[]⟩ : ByteArray), .int .i64 0, .string (⟨#[]⟩ : ByteArray), .bool false][3]) := (blk_cell HK.out 3).trans rfl
        have e0 : w4.frozen? ⟨b, 0, none⟩ = false := by simp [World.frozen?, HK.out]
        have e1 : w4.frozen? ⟨b, 1, none⟩ = false := by simp [World.frozen?, HK.out]
        have e2 : w4.frozen? ⟨b, 2, none⟩ = false := by simp [World.frozen?, HK.out]
        have e3 : w4.frozen? ⟨b, 3, none⟩ = false := by simp [World.frozen?, HK.out]
        have HQ1 := Lib.hid ((hT4 rb (by simp)).trans HQ.out)
        clear hT0 hT
        clear hT1
        clear hT2
        clear hT3
        clear hT4
        go_simp
        clear g0 g1 g2 g3 e0 e1 e2 e3
        obtain ⟨V, hV, kb, ko, kB⟩ := set4 HK.out (.string p) (.int .i64 (q)) (.string (s.extract 0 m.toNat)) (.bool (u == 0))
        rw [hV]
        have HV := Lib.hid (kB _ HB4.out HG.out)
        have HQ2 := Lib.hid ((ko _ (Ne.symm HN.out)).trans HQ1.out)
        have HKb := Lib.hid kb
        refine hK.out _ _ (fun h => absurd h (by omega)) ?_
        clear hK K hV kB ko kb
        refine Held.AnyS.done (by kernel_rfl) ?_ _
        go_simp
        by_cases hc1 : q = 1
        · have HC1 := Lib.hid hc1
          have g0 : V.cell? ⟨b, 0, none⟩ = some (#[.string p, .int .i64 (q), .string (s.extract 0 m.toNat), .bool (u == 0)][0]) := (blk_cell HKb.out 0).trans rfl
          have gf0 : V.frozen? ⟨b, 0, none⟩ = false := by simp [World.frozen?, HKb.out]
          have g1 : V.cell? ⟨b, 1, none⟩ = some (#[.string p, .int .i64 (q), .string (s.extract 0 m.toNat), .bool (u == 0)][1]) := (blk_cell HKb.out 1).trans rfl
          have gf1 : V.frozen? ⟨b, 1, none⟩ = false := by simp [World.frozen?, HKb.out]
          have g2 : V.cell? ⟨b, 2, none⟩ = some (#[.string p, .int .i64 (q), .string (s.extract 0 m.toNat), .bool (u == 0)][2]) := (blk_cell HKb.out 2).trans rfl
          have gf2 : V.frozen? ⟨b, 2, none⟩ = false := by simp [World.frozen?, HKb.out]
          have g3 : V.cell? ⟨b, 3, none⟩ = some (#[.string p, .int .i64 (q), .string (s.extract 0 m.toNat), .bool (u == 0)][3]) := (blk_cell HKb.out 3).trans rfl
          have gf3 : V.frozen? ⟨b, 3, none⟩ = false := by simp [World.frozen?, HKb.out]
          have hc2 : (q == 1) = true := beq_iff_eq.2 hc1
          obtain ⟨V1, hV1, kb, ko, kB⟩ := set1 HKb.out (.string (⟨#[]⟩ : ByteArray))
          have HV1 := Lib.hid (kB _ HV.out HG.out)
          have HQ3 := Lib.hid ((ko _ (Ne.symm HN.out)).trans HQ2.out)
          have HV2 := Lib.hid hV1
          have i0 : V1.cell? ⟨b, 0, none⟩ = some (#[.string p, .int .i64 (q), .string (⟨#[]⟩ : ByteArray), .bool (u == 0)][0]) := (blk_cell kb 0).trans rfl
          have if0 : V1.frozen? ⟨b, 0, none⟩ = false := by simp [World.frozen?, kb]
          have i1 : V1.cell? ⟨b, 1, none⟩ = some (#[.string p, .int .i64 (q), .string (⟨#[]⟩ : ByteArray), .bool (u == 0)][1]) := (blk_cell kb 1).trans rfl
          have if1 : V1.frozen? ⟨b, 1, none⟩ = false := by simp [World.frozen?, kb]
          have i2 : V1.cell? ⟨b, 2, none⟩ = some (#[.string p, .int .i64 (q), .string (⟨#[]⟩ : ByteArray), .bool (u == 0)][2]) := (blk_cell kb 2).trans rfl
          have if2 : V1.frozen? ⟨b, 2, none⟩ = false := by simp [World.frozen?, kb]
          have i3 : V1.cell? ⟨b, 3, none⟩ = some (#[.string p, .int .i64 (q), .string (⟨#[]⟩ : ByteArray), .bool (u == 0)][3]) := (blk_cell kb 3).trans rfl
          have if3 : V1.frozen? ⟨b, 3, none⟩ = false := by simp [World.frozen?, kb]
          have r0 : V1.cell? ⟨rb, 0, none⟩ = some (#[.string (⟨#[]⟩ : ByteArray), .int .i64 0, .string (⟨#[]⟩ : ByteArray), .bool false][0]) := (blk_cell HQ3.out 0).trans rfl
          have rf0 : V1.frozen? ⟨rb, 0, none⟩ = false := by simp [World.frozen?, HQ3.out]
          have r1 : V1.cell? ⟨rb, 1, none⟩ = some (#[.string (⟨#[]⟩ : ByteArray), .int .i64 0, .string (⟨#[]⟩ : ByteArray), .bool false][1]) := (blk_cell HQ3.out 1).trans rfl
          have rf1 : V1.frozen? ⟨rb, 1, none⟩ = false := by simp [World.frozen?, HQ3.out]
          have r2 : V1.cell? ⟨rb, 2, none⟩ = some (#[.string (⟨#[]⟩ : ByteArray), .int .i64 0, .string (⟨#[]⟩ : ByteArray), .bool false][2]) := (blk_cell HQ3.out 2).trans rfl
          have rf2 : V1.frozen? ⟨rb, 2, none⟩ = false := by simp [World.frozen?, HQ3.out]
          have r3 : V1.cell? ⟨rb, 3, none⟩ = some (#[.string (⟨#[]⟩ : ByteArray), .int .i64 0, .string (⟨#[]⟩ : ByteArray), .bool false][3]) := (blk_cell HQ3.out 3).trans rfl
          have rf3 : V1.frozen? ⟨rb, 3, none⟩ = false := by simp [World.frozen?, HQ3.out]
          obtain ⟨U, hU, lb, lo, lB⟩ := set4 HQ3.out (.string p) (.int .i64 (q)) (.string (⟨#[]⟩ : ByteArray)) (.bool (u == 0))
          have x0 : U.cell? ⟨rb, 0, none⟩ = some (#[.string p, .int .i64 (q), .string (⟨#[]⟩ : ByteArray), .bool (u == 0)][0]) := (blk_cell lb 0).trans rfl
          have xf0 : U.frozen? ⟨rb, 0, none⟩ = false := by simp [World.frozen?, lb]
          have x1 : U.cell? ⟨rb, 1, none⟩ = some (#[.string p, .int .i64 (q), .string (⟨#[]⟩ : ByteArray), .bool (u == 0)][1]) := (blk_cell lb 1).trans rfl
          have xf1 : U.frozen? ⟨rb, 1, none⟩ = false := by simp [World.frozen?, lb]
          have x2 : U.cell? ⟨rb, 2, none⟩ = some (#[.string p, .int .i64 (q), .string (⟨#[]⟩ : ByteArray), .bool (u == 0)][2]) := (blk_cell lb 2).trans rfl
          have xf2 : U.frozen? ⟨rb, 2, none⟩ = false := by simp [World.frozen?, lb]
          have x3 : U.cell? ⟨rb, 3, none⟩ = some (#[.string p, .int .i64 (q), .string (⟨#[]⟩ : ByteArray), .bool (u == 0)][3]) := (blk_cell lb 3).trans rfl
          have xf3 : U.frozen? ⟨rb, 3, none⟩ = false := by simp [World.frozen?, lb]
          have HU1 := Lib.hid (lB _ HV1.out (by have := HRB.out; omega))
          have HU2 := Lib.hid hU
          clear hV1 kb ko kB hU lo lB hc1
          refine hEND _ _ ?_
          clear hEND
          go_wp2_with (first | (rw [HU2.out]) | (rw [HV2.out]))
          refine bodyPost_ret (results_cell_row rfl _ _ rb 33 #[.string p, .int .i64 (q), .string (⟨#[]⟩ : ByteArray), .bool (u == 0)] (0, 0) _ rfl lb Try.underlying33 rfl (by kernel_rfl)) rfl ?_
          have hq := HQQ.out
          rw [i64_w] at hq
          exact ⟨by rw [← HAN.out, ← HQ0.out, hq, if_pos HC1.out], HU1.out⟩
        · have HC1 := Lib.hid hc1
          have g0 : V.cell? ⟨b, 0, none⟩ = some (#[.string p, .int .i64 (q), .string (s.extract 0 m.toNat), .bool (u == 0)][0]) := (blk_cell HKb.out 0).trans rfl
          have gf0 : V.frozen? ⟨b, 0, none⟩ = false := by simp [World.frozen?, HKb.out]
          have g1 : V.cell? ⟨b, 1, none⟩ = some (#[.string p, .int .i64 (q), .string (s.extract 0 m.toNat), .bool (u == 0)][1]) := (blk_cell HKb.out 1).trans rfl
          have gf1 : V.frozen? ⟨b, 1, none⟩ = false := by simp [World.frozen?, HKb.out]
          have g2 : V.cell? ⟨b, 2, none⟩ = some (#[.string p, .int .i64 (q), .string (s.extract 0 m.toNat), .bool (u == 0)][2]) := (blk_cell HKb.out 2).trans rfl
          have gf2 : V.frozen? ⟨b, 2, none⟩ = false := by simp [World.frozen?, HKb.out]
          have g3 : V.cell? ⟨b, 3, none⟩ = some (#[.string p, .int .i64 (q), .string (s.extract 0 m.toNat), .bool (u == 0)][3]) := (blk_cell HKb.out 3).trans rfl
          have gf3 : V.frozen? ⟨b, 3, none⟩ = false := by simp [World.frozen?, HKb.out]
          have hc2 : (q == 1) = false := beq_eq_false_iff_ne.2 hc1
          have HV1 := HV
          have HQ3 := HQ2
          have r0 : V.cell? ⟨rb, 0, none⟩ = some (#[.string (⟨#[]⟩ : ByteArray), .int .i64 0, .string (⟨#[]⟩ : ByteArray), .bool false][0]) := (blk_cell HQ3.out 0).trans rfl
          have rf0 : V.frozen? ⟨rb, 0, none⟩ = false := by simp [World.frozen?, HQ3.out]
          have r1 : V.cell? ⟨rb, 1, none⟩ = some (#[.string (⟨#[]⟩ : ByteArray), .int .i64 0, .string (⟨#[]⟩ : ByteArray), .bool false][1]) := (blk_cell HQ3.out 1).trans rfl
          have rf1 : V.frozen? ⟨rb, 1, none⟩ = false := by simp [World.frozen?, HQ3.out]
          have r2 : V.cell? ⟨rb, 2, none⟩ = some (#[.string (⟨#[]⟩ : ByteArray), .int .i64 0, .string (⟨#[]⟩ : ByteArray), .bool false][2]) := (blk_cell HQ3.out 2).trans rfl
          have rf2 : V.frozen? ⟨rb, 2, none⟩ = false := by simp [World.frozen?, HQ3.out]
          have r3 : V.cell? ⟨rb, 3, none⟩ = some (#[.string (⟨#[]⟩ : ByteArray), .int .i64 0, .string (⟨#[]⟩ : ByteArray), .bool false][3]) := (blk_cell HQ3.out 3).trans rfl
          have rf3 : V.frozen? ⟨rb, 3, none⟩ = false := by simp [World.frozen?, HQ3.out]
          obtain ⟨U, hU, lb, lo, lB⟩ := set4 HQ3.out (.string p) (.int .i64 (q)) (.string (s.extract 0 m.toNat)) (.bool (u == 0))
          have x0 : U.cell? ⟨rb, 0, none⟩ = some (#[.string p, .int .i64 (q), .string (s.extract 0 m.toNat), .bool (u == 0)][0]) := (blk_cell lb 0).trans rfl
          have xf0 : U.frozen? ⟨rb, 0, none⟩ = false := by simp [World.frozen?, lb]
          have x1 : U.cell? ⟨rb, 1, none⟩ = some (#[.string p, .int .i64 (q), .string (s.extract 0 m.toNat), .bool (u == 0)][1]) := (blk_cell lb 1).trans rfl
          have xf1 : U.frozen? ⟨rb, 1, none⟩ = false := by simp [World.frozen?, lb]
          have x2 : U.cell? ⟨rb, 2, none⟩ = some (#[.string p, .int .i64 (q), .string (s.extract 0 m.toNat), .bool (u == 0)][2]) := (blk_cell lb 2).trans rfl
          have xf2 : U.frozen? ⟨rb, 2, none⟩ = false := by simp [World.frozen?, lb]
          have x3 : U.cell? ⟨rb, 3, none⟩ = some (#[.string p, .int .i64 (q), .string (s.extract 0 m.toNat), .bool (u == 0)][3]) := (blk_cell lb 3).trans rfl
          have xf3 : U.frozen? ⟨rb, 3, none⟩ = false := by simp [World.frozen?, lb]
          have HU1 := Lib.hid (lB _ HV1.out (by have := HRB.out; omega))
          have HU2 := Lib.hid hU
          clear hU lo lB hc1
          refine hEND _ _ ?_
          clear hEND
          go_wp2_with (first | (rw [HU2.out]))
          refine bodyPost_ret (results_cell_row rfl _ _ rb 33 #[.string p, .int .i64 (q), .string (s.extract 0 m.toNat), .bool (u == 0)] (0, 0) _ rfl lb Try.underlying33 rfl (by kernel_rfl)) rfl ?_
          have hq := HQQ.out
          rw [i64_w] at hq
          exact ⟨by rw [← HAN.out, ← HQ0.out, hq, if_neg HC1.out, HMM.out], HU1.out⟩
    · go_simp
      first | refine ⟨trivial, ?_⟩ | skip
      obtain ⟨w2, hw⟩ : ∃ V, V = w1.alloc (.cells #[.string (⟨#[]⟩ : ByteArray), .int .i64 0, .string (⟨#[]⟩ : ByteArray), .bool false] 33) := ⟨_, rfl⟩
      have HK := Lib.hid (show w2.heap[w1.heap.size]? = some (.cells #[.string (⟨#[]⟩ : ByteArray), .int .i64 0, .string (⟨#[]⟩ : ByteArray), .bool false] 33 (0, 0)) by rw [hw]; exact heap_alloc_new w1 _)
      have HG := Lib.hid (below_size HB1.out)
      have HB2 := Lib.hid (show Below W.heap.size W w2 by rw [hw]; exact below_alloc HB1.out _)
      have hT2 : Held.Same Z [W.heap.size, rb] w2 := Held.Same.grown hT1 (by rw [hw]; exact World.grownBy_alloc _ _ none) (fun b hb => ⟨HZ8.out b hb, by simp⟩)
      try rw [← hw]
      refine hK.out _ _ (fun _ => hT2) ?_
      clear hK K
      have HN := Lib.hid (show w1.heap.size ≠ rb by have := blk_lt ((hT1 rb (by simp)).trans HQ.out); omega)
      generalize w1.heap.size = b at HK HG HN ⊢
      clear hw
      try simp only [Act.put, List.setIfInBounds_toArray, List.set_cons_zero, List.set_cons_succ]
      refine Held.AnyS.step (i := 5) rfl (by kernel_rfl) rfl (fun K hK => ?_)
      go_simp
      first | refine ⟨trivial, ?_⟩ | skip
      refine (callsIn_wide.2 (collatorlaw02_pick.calls x 3 t w2 HT.out)).mono ?_
      rintro e w3 ⟨rfl, hb⟩
      have hb := hb.below
      have HB3 := Lib.hid (below_step HB2.out hb)
      have hT3 : Held.Same Z [W.heap.size, rb] w3 := Held.Same.below hT2 hb HZ8.out
      have hk := Lib.hid hb
      refine hK.out _ _ (fun _ => hT3) ?_
      clear hK K hb
      try simp only [Act.put, List.setIfInBounds_toArray, List.set_cons_zero, List.set_cons_succ]
      have HK := Lib.hid (blk_below HK.out hk.out)
      clear hk
      refine Held.tk (i := 6) rfl hT3 ?_
      try simp only [Act.put, List.setIfInBounds_toArray, List.set_cons_zero, List.set_cons_succ]
      generalize hq : IntKind.i64.wrap (1 + t) = q
      have HQQ := Lib.hid hq
      clear hq
      refine Held.AnyS.step (i := 16) rfl (by kernel_rfl) rfl (fun K hK => ?_)
      go_simp
      first | refine ⟨trivial, ?_⟩ | skip
      refine (callsIn_wide.2 (collatorlaw02_pick.calls y 12 u w3 HU.out)).mono ?_
      rintro e w4 ⟨rfl, hb⟩
      have hb := hb.below
      have HB4 := Lib.hid (below_step HB3.out hb)
      have hT4 : Held.Same Z [W.heap.size, rb] w4 := Held.Same.below hT3 hb HZ8.out
      have hk := Lib.hid hb
      refine hK.out _ _ (fun _ => hT4) ?_
      clear hK K hb
      try simp only [Act.put, List.setIfInBounds_toArray, List.set_cons_zero, List.set_cons_succ]
      have HK := Lib.hid (blk_below HK.out hk.out)
      clear hk
      refine Held.tk (i := 17) rfl hT4 ?_
      try simp only [Act.put, List.setIfInBounds_toArray, List.set_cons_zero, List.set_cons_succ]
      refine Held.tk (i := 18) rfl hT4 ?_
      try simp only [Act.put, List.setIfInBounds_toArray, List.set_cons_zero, List.set_cons_succ]
      refine Held.AnyS.step (i := 20) rfl (by kernel_rfl) rfl (fun K hK => ?_)
      have g0 : w4.cell? ⟨b, 0, none⟩ = some (#[.string (⟨#[]⟩ : ByteArray), .int .i64 0, .string (⟨#[]⟩ : ByteArray), .bool false][0]) := (blk_cell HK.out 0).trans rfl
      have g1 : w4.cell? ⟨b, 1, none⟩ = some (#[.string (⟨#[]⟩ : ByteArray), .int .i64 0, .string (⟨#[]⟩ : ByteArray), .bool false][1]) := (blk_cell HK.out 1).trans rfl
      have g2 : w4.cell? ⟨b, 2, none⟩ = some (#[.string (⟨#[]⟩ : ByteArray), .int .i64 0, .string (⟨#[]⟩ : ByteArray), .bool false][2]) := (blk_cell HK.out 2).trans rfl
      have g3 : w4.cell? ⟨b, 3, none⟩ = some (#[.string (⟨#[]⟩ : ByteArray), .int .i64 0, .string (⟨#[]⟩ : ByteArray), .bool false][3]) := (blk_cell HK.out 3).trans rfl
      have e0 : w4.frozen? ⟨b, 0, none⟩ = false := by simp [World.frozen?, HK.out]
      have e1 : w4.frozen? ⟨b, 1, none⟩ = false := by simp [World.frozen?, HK.out]
      have e2 : w4.frozen? ⟨b, 2, none⟩ = false := by simp [World.frozen?, HK.out]
      have e3 : w4.frozen? ⟨b, 3, none⟩ = false := by simp [World.frozen?, HK.out]
      have HQ1 := Lib.hid ((hT4 rb (by simp)).trans HQ.out)
      clear hT0 hT
      clear hT1
      clear hT2
      clear hT3
      clear hT4
      go_simp
      clear g0 g1 g2 g3 e0 e1 e2 e3
      obtain ⟨V, hV, kb, ko, kB⟩ := set4 HK.out (.string p) (.int .i64 (q)) (.string (s.extract 0 m.toNat)) (.bool (u == 0))
      rw [hV]
      have HV := Lib.hid (kB _ HB4.out HG.out)
      have HQ2 := Lib.hid ((ko _ (Ne.symm HN.out)).trans HQ1.out)
      have HKb := Lib.hid kb
      refine hK.out _ _ (fun h => absurd h (by omega)) ?_
      clear hK K hV kB ko kb
      refine Held.AnyS.done (by kernel_rfl) ?_ _
      go_simp
      by_cases hc1 : q = 1
      · have HC1 := Lib.hid hc1
        have g0 : V.cell? ⟨b, 0, none⟩ = some (#[.string p, .int .i64 (q), .string (s.extract 0 m.toNat), .bool (u == 0)][0]) := (blk_cell HKb.out 0).trans rfl
        have gf0 : V.frozen? ⟨b, 0, none⟩ = false := by simp [World.frozen?, HKb.out]
        have g1 : V.cell? ⟨b, 1, none⟩ = some (#[.string p, .int .i64 (q), .string (s.extract 0 m.toNat), .bool (u == 0)][1]) := (blk_cell HKb.out 1).trans rfl
        have gf1 : V.frozen? ⟨b, 1, none⟩ = false := by simp [World.frozen?, HKb.out]
        have g2 : V.cell? ⟨b, 2, none⟩ = some (#[.string p, .int .i64 (q), .string (s.extract 0 m.toNat), .bool (u == 0)][2]) := (blk_cell HKb.out 2).trans rfl
        have gf2 : V.frozen? ⟨b, 2, none⟩ = false := by simp [World.frozen?, HKb.out]
        have g3 : V.cell? ⟨b, 3, none⟩ = some (#[.string p, .int .i64 (q), .string (s.extract 0 m.toNat), .bool (u == 0)][3]) := (blk_cell HKb.out 3).trans rfl
        have gf3 : V.frozen? ⟨b, 3, none⟩ = false := by simp [World.frozen?, HKb.out]
        have hc2 : (q == 1) = true := beq_iff_eq.2 hc1
        obtain ⟨V1, hV1, kb, ko, kB⟩ := set1 HKb.out (.string (⟨#[]⟩ : ByteArray))
        have HV1 := Lib.hid (kB _ HV.out HG.out)
        have HQ3 := Lib.hid ((ko _ (Ne.symm HN.out)).trans HQ2.out)
        have HV2 := Lib.hid hV1
        have i0 : V1.cell? ⟨b, 0, none⟩ = some (#[.string p, .int .i64 (q), .string (⟨#[]⟩ : ByteArray), .bool (u == 0)][0]) := (blk_cell kb 0).trans rfl
        have if0 : V1.frozen? ⟨b, 0, none⟩ = false := by simp [World.frozen?, kb]
        have i1 : V1.cell? ⟨b, 1, none⟩ = some (#[.string p, .int .i64 (q), .string (⟨#[]⟩ : ByteArray), .bool (u == 0)][1]) := (blk_cell kb 1).trans rfl
        have if1 : V1.frozen? ⟨b, 1, none⟩ = false := by simp [World.frozen?, kb]
        have i2 : V1.cell? ⟨b, 2, none⟩ = some (#[.string p, .int .i64 (q), .string (⟨#[]⟩ : ByteArray), .bool (u == 0)][2]) := (blk_cell kb 2).trans rfl
        have if2 : V1.frozen? ⟨b, 2, none⟩ = false := by simp [World.frozen?, kb]
        have i3 : V1.cell? ⟨b, 3, none⟩ = some (#[.string p, .int .i64 (q), .string (⟨#[]⟩ : ByteArray), .bool (u == 0)][3]) := (blk_cell kb 3).trans rfl
        have if3 : V1.frozen? ⟨b, 3, none⟩ = false := by simp [World.frozen?, kb]
        have r0 : V1.cell? ⟨rb, 0, none⟩ = some (#[.string (⟨#[]⟩ : ByteArray), .int .i64 0, .string (⟨#[]⟩ : ByteArray), .bool false][0]) := (blk_cell HQ3.out 0).trans rfl
        have rf0 : V1.frozen? ⟨rb, 0, none⟩ = false := by simp [World.frozen?, HQ3.out]
        have r1 : V1.cell? ⟨rb, 1, none⟩ = some (#[.string (⟨#[]⟩ : ByteArray), .int .i64 0, .string (⟨#[]⟩ : ByteArray), .bool false][1]) := (blk_cell HQ3.out 1).trans rfl
        have rf1 : V1.frozen? ⟨rb, 1, none⟩ = false := by simp [World.frozen?, HQ3.out]
        have r2 : V1.cell? ⟨rb, 2, none⟩ = some (#[.string (⟨#[]⟩ : ByteArray), .int .i64 0, .string (⟨#[]⟩ : ByteArray), .bool false][2]) := (blk_cell HQ3.out 2).trans rfl
        have rf2 : V1.frozen? ⟨rb, 2, none⟩ = false := by simp [World.frozen?, HQ3.out]
        have r3 : V1.cell? ⟨rb, 3, none⟩ = some (#[.string (⟨#[]⟩ : ByteArray), .int .i64 0, .string (⟨#[]⟩ : ByteArray), .bool false][3]) := (blk_cell HQ3.out 3).trans rfl
        have rf3 : V1.frozen? ⟨rb, 3, none⟩ = false := by simp [World.frozen?, HQ3.out]
        obtain ⟨U, hU, lb, lo, lB⟩ := set4 HQ3.out (.string p) (.int .i64 (q)) (.string (⟨#[]⟩ : ByteArray)) (.bool (u == 0))
        have x0 : U.cell? ⟨rb, 0, none⟩ = some (#[.string p, .int .i64 (q), .string (⟨#[]⟩ : ByteArray), .bool (u == 0)][0]) := (blk_cell lb 0).trans rfl
        have xf0 : U.frozen? ⟨rb, 0, none⟩ = false := by simp [World.frozen?, lb]
        have x1 : U.cell? ⟨rb, 1, none⟩ = some (#[.string p, .int .i64 (q), .string (⟨#[]⟩ : ByteArray), .bool (u == 0)][1]) := (blk_cell lb 1).trans rfl
        have xf1 : U.frozen? ⟨rb, 1, none⟩ = false := by simp [World.frozen?, lb]
        have x2 : U.cell? ⟨rb, 2, none⟩ = some (#[.string p, .int .i64 (q), .string (⟨#[]⟩ : ByteArray), .bool (u == 0)][2]) := (blk_cell lb 2).trans rfl
        have xf2 : U.frozen? ⟨rb, 2, none⟩ = false := by simp [World.frozen?, lb]
        have x3 : U.cell? ⟨rb, 3, none⟩ = some (#[.string p, .int .i64 (q), .string (⟨#[]⟩ : ByteArray), .bool (u == 0)][3]) := (blk_cell lb 3).trans rfl
        have xf3 : U.frozen? ⟨rb, 3, none⟩ = false := by simp [World.frozen?, lb]
        have HU1 := Lib.hid (lB _ HV1.out (by have := HRB.out; omega))
        have HU2 := Lib.hid hU
        clear hV1 kb ko kB hU lo lB hc1
        refine hEND _ _ ?_
        clear hEND
        go_wp2_with (first | (rw [HU2.out]) | (rw [HV2.out]))
        refine bodyPost_ret (results_cell_row rfl _ _ rb 33 #[.string p, .int .i64 (q), .string (⟨#[]⟩ : ByteArray), .bool (u == 0)] (0, 0) _ rfl lb Try.underlying33 rfl (by kernel_rfl)) rfl ?_
        have hq := HQQ.out
        rw [i64_w] at hq
        exact ⟨by rw [← HAN.out, ← HQ0.out, hq, if_pos HC1.out], HU1.out⟩
      · have HC1 := Lib.hid hc1
        have g0 : V.cell? ⟨b, 0, none⟩ = some (#[.string p, .int .i64 (q), .string (s.extract 0 m.toNat), .bool (u == 0)][0]) := (blk_cell HKb.out 0).trans rfl
        have gf0 : V.frozen? ⟨b, 0, none⟩ = false := by simp [World.frozen?, HKb.out]
        have g1 : V.cell? ⟨b, 1, none⟩ = some (#[.string p, .int .i64 (q), .string (s.extract 0 m.toNat), .bool (u == 0)][1]) := (blk_cell HKb.out 1).trans rfl
        have gf1 : V.frozen? ⟨b, 1, none⟩ = false := by simp [World.frozen?, HKb.out]
        have g2 : V.cell? ⟨b, 2, none⟩ = some (#[.string p, .int .i64 (q), .string (s.extract 0 m.toNat), .bool (u == 0)][2]) := (blk_cell HKb.out 2).trans rfl
        have gf2 : V.frozen? ⟨b, 2, none⟩ = false := by simp [World.frozen?, HKb.out]
        have g3 : V.cell? ⟨b, 3, none⟩ = some (#[.string p, .int .i64 (q), .string (s.extract 0 m.toNat), .bool (u == 0)][3]) := (blk_cell HKb.out 3).trans rfl
        have gf3 : V.frozen? ⟨b, 3, none⟩ = false := by simp [World.frozen?, HKb.out]
        have hc2 : (q == 1) = false := beq_eq_false_iff_ne.2 hc1
        have HV1 := HV
        have HQ3 := HQ2
        have r0 : V.cell? ⟨rb, 0, none⟩ = some (#[.string (⟨#[]⟩ : ByteArray), .int .i64 0, .string (⟨#[]⟩ : ByteArray), .bool false][0]) := (blk_cell HQ3.out 0).trans rfl
        have rf0 : V.frozen? ⟨rb, 0, none⟩ = false := by simp [World.frozen?, HQ3.out]
        have r1 : V.cell? ⟨rb, 1, none⟩ = some (#[.string (⟨#[]⟩ : ByteArray), .int .i64 0, .string (⟨#[]⟩ : ByteArray), .bool false][1]) := (blk_cell HQ3.out 1).trans rfl
        have rf1 : V.frozen? ⟨rb, 1, none⟩ = false := by simp [World.frozen?, HQ3.out]
        have r2 : V.cell? ⟨rb, 2, none⟩ = some (#[.string (⟨#[]⟩ : ByteArray), .int .i64 0, .string (⟨#[]⟩ : ByteArray), .bool false][2]) := (blk_cell HQ3.out 2).trans rfl
        have rf2 : V.frozen? ⟨rb, 2, none⟩ = false := by simp [World.frozen?, HQ3.out]
        have r3 : V.cell? ⟨rb, 3, none⟩ = some (#[.string (⟨#[]⟩ : ByteArray), .int .i64 0, .string (⟨#[]⟩ : ByteArray), .bool false][3]) := (blk_cell HQ3.out 3).trans rfl
        have rf3 : V.frozen? ⟨rb, 3, none⟩ = false := by simp [World.frozen?, HQ3.out]
        obtain ⟨U, hU, lb, lo, lB⟩ := set4 HQ3.out (.string p) (.int .i64 (q)) (.string (s.extract 0 m.toNat)) (.bool (u == 0))
        have x0 : U.cell? ⟨rb, 0, none⟩ = some (#[.string p, .int .i64 (q), .string (s.extract 0 m.toNat), .bool (u == 0)][0]) := (blk_cell lb 0).trans rfl
        have xf0 : U.frozen? ⟨rb, 0, none⟩ = false := by simp [World.frozen?, lb]
        have x1 : U.cell? ⟨rb, 1, none⟩ = some (#[.string p, .int .i64 (q), .string (s.extract 0 m.toNat), .bool (u == 0)][1]) := (blk_cell lb 1).trans rfl
        have xf1 : U.frozen? ⟨rb, 1, none⟩ = false := by simp [World.frozen?, lb]
        have x2 : U.cell? ⟨rb, 2, none⟩ = some (#[.string p, .int .i64 (q), .string (s.extract 0 m.toNat), .bool (u == 0)][2]) := (blk_cell lb 2).trans rfl
        have xf2 : U.frozen? ⟨rb, 2, none⟩ = false := by simp [World.frozen?, lb]
        have x3 : U.cell? ⟨rb, 3, none⟩ = some (#[.string p, .int .i64 (q), .string (s.extract 0 m.toNat), .bool (u == 0)][3]) := (blk_cell lb 3).trans rfl
        have xf3 : U.frozen? ⟨rb, 3, none⟩ = false := by simp [World.frozen?, lb]
        have HU1 := Lib.hid (lB _ HV1.out (by have := HRB.out; omega))
        have HU2 := Lib.hid hU
        clear hU lo lB hc1
        refine hEND _ _ ?_
        clear hEND
        go_wp2_with (first | (rw [HU2.out]))
        refine bodyPost_ret (results_cell_row rfl _ _ rb 33 #[.string p, .int .i64 (q), .string (s.extract 0 m.toNat), .bool (u == 0)] (0, 0) _ rfl lb Try.underlying33 rfl (by kernel_rfl)) rfl ?_
        have hq := HQQ.out
        rw [i64_w] at hq
        exact ⟨by rw [← HAN.out, ← HQ0.out, hq, if_neg HC1.out, HMM.out], HU1.out⟩
  · go_simp
    first | refine ⟨trivial, ?_⟩ | skip
    obtain ⟨w1, hw⟩ : ∃ V, V = Z.alloc (.cells #[.string (⟨#[]⟩ : ByteArray), .int .i64 0, .string (⟨#[]⟩ : ByteArray), .bool false] 33) := ⟨_, rfl⟩
    have HK := Lib.hid (show w1.heap[Z.heap.size]? = some (.cells #[.string (⟨#[]⟩ : ByteArray), .int .i64 0, .string (⟨#[]⟩ : ByteArray), .bool false] 33 (0, 0)) by rw [hw]; exact heap_alloc_new Z _)
    have HG := Lib.hid (below_size HB0.out)
    have HB1 := Lib.hid (show Below W.heap.size W w1 by rw [hw]; exact below_alloc HB0.out _)
    have hT1 : Held.Same Z [W.heap.size, rb] w1 := Held.Same.grown hT0 (by rw [hw]; exact World.grownBy_alloc _ _ none) (fun b hb => ⟨HZ8.out b hb, by simp⟩)
    try rw [← hw]
    refine hK.out _ _ (fun _ => hT1) ?_
    clear hK K
    have HN := Lib.hid (show Z.heap.size ≠ rb by have := blk_lt ((hT0 rb (by simp)).trans HQ.out); omega)
    generalize Z.heap.size = b at HK HG HN ⊢
    clear hw
    try simp only [Act.put, List.setIfInBounds_toArray, List.set_cons_zero, List.set_cons_succ]
    refine Held.AnyS.step (i := 2) rfl (by kernel_rfl) rfl (fun K hK => ?_)
    go_simp
    first | refine ⟨trivial, ?_⟩ | skip
    refine (callsIn_wide.2 (collatorlaw01_Path.calls k A c l p w1 (Kd.C_below HR.out HB1.out) HC.out HP.out)).mono ?_
    rintro e w2 ⟨rfl, hb⟩
    have HB2 := Lib.hid (below_step HB1.out hb)
    have hT2 : Held.Same Z [W.heap.size, rb] w2 := Held.Same.below hT1 hb HZ8.out
    have hk := Lib.hid hb
    refine hK.out _ _ (fun _ => hT2) ?_
    clear hK K hb
    try simp only [Act.put, List.setIfInBounds_toArray, List.set_cons_zero, List.set_cons_succ]
    have HK := Lib.hid (blk_below HK.out hk.out)
    clear hk
    refine Held.AnyS.step (i := 5) rfl (by kernel_rfl) rfl (fun K hK => ?_)
    go_simp
    first | refine ⟨trivial, ?_⟩ | skip
    refine (callsIn_wide.2 (collatorlaw02_pick.calls x 3 t w2 HT.out)).mono ?_
    rintro e w3 ⟨rfl, hb⟩
    have hb := hb.below
    have HB3 := Lib.hid (below_step HB2.out hb)
    have hT3 : Held.Same Z [W.heap.size, rb] w3 := Held.Same.below hT2 hb HZ8.out
    have hk := Lib.hid hb
    refine hK.out _ _ (fun _ => hT3) ?_
    clear hK K hb
    try simp only [Act.put, List.setIfInBounds_toArray, List.set_cons_zero, List.set_cons_succ]
    have HK := Lib.hid (blk_below HK.out hk.out)
    clear hk
    refine Held.tk (i := 6) rfl hT3 ?_
    try simp only [Act.put, List.setIfInBounds_toArray, List.set_cons_zero, List.set_cons_succ]
    generalize hq : IntKind.i64.wrap (1 + t) = q
    have HQQ := Lib.hid hq
    clear hq
    refine Held.AnyS.step (i := 16) rfl (by kernel_rfl) rfl (fun K hK => ?_)
    go_simp
    first | refine ⟨trivial, ?_⟩ | skip
    refine (callsIn_wide.2 (collatorlaw02_pick.calls y 12 u w3 HU.out)).mono ?_
    rintro e w4 ⟨rfl, hb⟩
    have hb := hb.below
    have HB4 := Lib.hid (below_step HB3.out hb)
    have hT4 : Held.Same Z [W.heap.size, rb] w4 := Held.Same.below hT3 hb HZ8.out
    have hk := Lib.hid hb
    refine hK.out _ _ (fun _ => hT4) ?_
    clear hK K hb
    try simp only [Act.put, List.setIfInBounds_toArray, List.set_cons_zero, List.set_cons_succ]
    have HK := Lib.hid (blk_below HK.out hk.out)
    clear hk
    refine Held.tk (i := 17) rfl hT4 ?_
    try simp only [Act.put, List.setIfInBounds_toArray, List.set_cons_zero, List.set_cons_succ]
    refine Held.tk (i := 18) rfl hT4 ?_
    try simp only [Act.put, List.setIfInBounds_toArray, List.set_cons_zero, List.set_cons_succ]
    refine Held.AnyS.step (i := 20) rfl (by kernel_rfl) rfl (fun K hK => ?_)
    have g0 : w4.cell? ⟨b, 0, none⟩ = some (#[.string (⟨#[]⟩ : ByteArray), .int .i64 0, .string (⟨#[]⟩ : ByteArray), .bool false][0]) := (blk_cell HK.out 0).trans rfl
    have g1 : w4.cell? ⟨b, 1, none⟩ = some (#[.string (⟨#[]⟩ : ByteArray), .int .i64 0, .string (⟨#[]⟩ : ByteArray), .bool false][1]) := (blk_cell HK.out 1).trans rfl
    have g2 : w4.cell? ⟨b, 2, none⟩ = some (#[.string (⟨#[]⟩ : ByteArray), .int .i64 0, .string (⟨#[]⟩ : ByteArray), .bool false][2]) := (blk_cell HK.out 2).trans rfl
    have g3 : w4.cell? ⟨b, 3, none⟩ = some (#[.string (⟨#[]⟩ : ByteArray), .int .i64 0, .string (⟨#[]⟩ : ByteArray), .bool false][3]) := (blk_cell HK.out 3).trans rfl
    have e0 : w4.frozen? ⟨b, 0, none⟩ = false := by simp [World.frozen?, HK.out]
    have e1 : w4.frozen? ⟨b, 1, none⟩ = false := by simp [World.frozen?, HK.out]
    have e2 : w4.frozen? ⟨b, 2, none⟩ = false := by simp [World.frozen?, HK.out]
    have e3 : w4.frozen? ⟨b, 3, none⟩ = false := by simp [World.frozen?, HK.out]
    have HQ1 := Lib.hid ((hT4 rb (by simp)).trans HQ.out)
    clear hT0 hT
    clear hT1
    clear hT2
    clear hT3
    clear hT4
    go_simp
    clear g0 g1 g2 g3 e0 e1 e2 e3
    obtain ⟨V, hV, kb, ko, kB⟩ := set4 HK.out (.string p) (.int .i64 (q)) (.string (s.extract 0 m.toNat)) (.bool (u == 0))
    rw [hV]
    have HV := Lib.hid (kB _ HB4.out HG.out)
    have HQ2 := Lib.hid ((ko _ (Ne.symm HN.out)).trans HQ1.out)
    have HKb := Lib.hid kb
    refine hK.out _ _ (fun h => absurd h (by omega)) ?_
    clear hK K hV kB ko kb
    refine Held.AnyS.done (by kernel_rfl) ?_ _
    go_simp
    by_cases hc1 : q = 1
    · have HC1 := Lib.hid hc1
      have g0 : V.cell? ⟨b, 0, none⟩ = some (#[.string p, .int .i64 (q), .string (s.extract 0 m.toNat), .bool (u == 0)][0]) := (blk_cell HKb.out 0).trans rfl
      have gf0 : V.frozen? ⟨b, 0, none⟩ = false := by simp [World.frozen?, HKb.out]
      have g1 : V.cell? ⟨b, 1, none⟩ = some (#[.string p, .int .i64 (q), .string (s.extract 0 m.toNat), .bool (u == 0)][1]) := (blk_cell HKb.out 1).trans rfl
      have gf1 : V.frozen? ⟨b, 1, none⟩ = false := by simp [World.frozen?, HKb.out]
      have g2 : V.cell? ⟨b, 2, none⟩ = some (#[.string p, .int .i64 (q), .string (s.extract 0 m.toNat), .bool (u == 0)][2]) := (blk_cell HKb.out 2).trans rfl
      have gf2 : V.frozen? ⟨b, 2, none⟩ = false := by simp [World.frozen?, HKb.out]
      have g3 : V.cell? ⟨b, 3, none⟩ = some (#[.string p, .int .i64 (q), .string (s.extract 0 m.toNat), .bool (u == 0)][3]) := (blk_cell HKb.out 3).trans rfl
      have gf3 : V.frozen? ⟨b, 3, none⟩ = false := by simp [World.frozen?, HKb.out]
      have hc2 : (q == 1) = true := beq_iff_eq.2 hc1
      obtain ⟨V1, hV1, kb, ko, kB⟩ := set1 HKb.out (.string (⟨#[]⟩ : ByteArray))
      have HV1 := Lib.hid (kB _ HV.out HG.out)
      have HQ3 := Lib.hid ((ko _ (Ne.symm HN.out)).trans HQ2.out)
      have HV2 := Lib.hid hV1
      have i0 : V1.cell? ⟨b, 0, none⟩ = some (#[.string p, .int .i64 (q), .string (⟨#[]⟩ : ByteArray), .bool (u == 0)][0]) := (blk_cell kb 0).trans rfl
      have if0 : V1.frozen? ⟨b, 0, none⟩ = false := by simp [World.frozen?, kb]
      have i1 : V1.cell? ⟨b, 1, none⟩ = some (#[.string p, .int .i64 (q), .string (⟨#[]⟩ : ByteArray), .bool (u == 0)][1]) := (blk_cell kb 1).trans rfl
      have if1 : V1.frozen? ⟨b, 1, none⟩ = false := by simp [World.frozen?, kb]
      have i2 : V1.cell? ⟨b, 2, none⟩ = some (#[.string p, .int .i64 (q), .string (⟨#[]⟩ : ByteArray), .bool (u == 0)][2]) := (blk_cell kb 2).trans rfl
      have if2 : V1.frozen? ⟨b, 2, none⟩ = false := by simp [World.frozen?, kb]
      have i3 : V1.cell? ⟨b, 3, none⟩ = some (#[.string p, .int .i64 (q), .string (⟨#[]⟩ : ByteArray), .bool (u == 0)][3]) := (blk_cell kb 3).trans rfl
      have if3 : V1.frozen? ⟨b, 3, none⟩ = false := by simp [World.frozen?, kb]
      have r0 : V1.cell? ⟨rb, 0, none⟩ = some (#[.string (⟨#[]⟩ : ByteArray), .int .i64 0, .string (⟨#[]⟩ : ByteArray), .bool false][0]) := (blk_cell HQ3.out 0).trans rfl
      have rf0 : V1.frozen? ⟨rb, 0, none⟩ = false := by simp [World.frozen?, HQ3.out]
      have r1 : V1.cell? ⟨rb, 1, none⟩ = some (#[.string (⟨#[]⟩ : ByteArray), .int .i64 0, .string (⟨#[]⟩ : ByteArray), .bool false][1]) := (blk_cell HQ3.out 1).trans rfl
      have rf1 : V1.frozen? ⟨rb, 1, none⟩ = false := by simp [World.frozen?, HQ3.out]
      have r2 : V1.cell? ⟨rb, 2, none⟩ = some (#[.string (⟨#[]⟩ : ByteArray), .int .i64 0, .string (⟨#[]⟩ : ByteArray), .bool false][2]) := (blk_cell HQ3.out 2).trans rfl
      have rf2 : V1.frozen? ⟨rb, 2, none⟩ = false := by simp [World.frozen?, HQ3.out]
      have r3 : V1.cell? ⟨rb, 3, none⟩ = some (#[.string (⟨#[]⟩ : ByteArray), .int .i64 0, .string (⟨#[]⟩ : ByteArray), .bool false][3]) := (blk_cell HQ3.out 3).trans rfl
      have rf3 : V1.frozen? ⟨rb, 3, none⟩ = false := by simp [World.frozen?, HQ3.out]
      obtain ⟨U, hU, lb, lo, lB⟩ := set4 HQ3.out (.string p) (.int .i64 (q)) (.string (⟨#[]⟩ : ByteArray)) (.bool (u == 0))
      have x0 : U.cell? ⟨rb, 0, none⟩ = some (#[.string p, .int .i64 (q), .string (⟨#[]⟩ : ByteArray), .bool (u == 0)][0]) := (blk_cell lb 0).trans rfl
      have xf0 : U.frozen? ⟨rb, 0, none⟩ = false := by simp [World.frozen?, lb]
      have x1 : U.cell? ⟨rb, 1, none⟩ = some (#[.string p, .int .i64 (q), .string (⟨#[]⟩ : ByteArray), .bool (u == 0)][1]) := (blk_cell lb 1).trans rfl
      have xf1 : U.frozen? ⟨rb, 1, none⟩ = false := by simp [World.frozen?, lb]
      have x2 : U.cell? ⟨rb, 2, none⟩ = some (#[.string p, .int .i64 (q), .string (⟨#[]⟩ : ByteArray), .bool (u == 0)][2]) := (blk_cell lb 2).trans rfl
      have xf2 : U.frozen? ⟨rb, 2, none⟩ = false := by simp [World.frozen?, lb]
      have x3 : U.cell? ⟨rb, 3, none⟩ = some (#[.string p, .int .i64 (q), .string (⟨#[]⟩ : ByteArray), .bool (u == 0)][3]) := (blk_cell lb 3).trans rfl
      have xf3 : U.frozen? ⟨rb, 3, none⟩ = false := by simp [World.frozen?, lb]
      have HU1 := Lib.hid (lB _ HV1.out (by have := HRB.out; omega))
      have HU2 := Lib.hid hU
      clear hV1 kb ko kB hU lo lB hc1
      refine hEND _ _ ?_
      clear hEND
      go_wp2_with (first | (rw [HU2.out]) | (rw [HV2.out]))
      refine bodyPost_ret (results_cell_row rfl _ _ rb 33 #[.string p, .int .i64 (q), .string (⟨#[]⟩ : ByteArray), .bool (u == 0)] (0, 0) _ rfl lb Try.underlying33 rfl (by kernel_rfl)) rfl ?_
      have hq := HQQ.out
      rw [i64_w] at hq
      exact ⟨by rw [← HAN.out, ← HQ0.out, hq, if_pos HC1.out], HU1.out⟩
    · have HC1 := Lib.hid hc1
      have g0 : V.cell? ⟨b, 0, none⟩ = some (#[.string p, .int .i64 (q), .string (s.extract 0 m.toNat), .bool (u == 0)][0]) := (blk_cell HKb.out 0).trans rfl
      have gf0 : V.frozen? ⟨b, 0, none⟩ = false := by simp [World.frozen?, HKb.out]
      have g1 : V.cell? ⟨b, 1, none⟩ = some (#[.string p, .int .i64 (q), .string (s.extract 0 m.toNat), .bool (u == 0)][1]) := (blk_cell HKb.out 1).trans rfl
      have gf1 : V.frozen? ⟨b, 1, none⟩ = false := by simp [World.frozen?, HKb.out]
      have g2 : V.cell? ⟨b, 2, none⟩ = some (#[.string p, .int .i64 (q), .string (s.extract 0 m.toNat), .bool (u == 0)][2]) := (blk_cell HKb.out 2).trans rfl
      have gf2 : V.frozen? ⟨b, 2, none⟩ = false := by simp [World.frozen?, HKb.out]
      have g3 : V.cell? ⟨b, 3, none⟩ = some (#[.string p, .int .i64 (q), .string (s.extract 0 m.toNat), .bool (u == 0)][3]) := (blk_cell HKb.out 3).trans rfl
      have gf3 : V.frozen? ⟨b, 3, none⟩ = false := by simp [World.frozen?, HKb.out]
      have hc2 : (q == 1) = false := beq_eq_false_iff_ne.2 hc1
      have HV1 := HV
      have HQ3 := HQ2
      have r0 : V.cell? ⟨rb, 0, none⟩ = some (#[.string (⟨#[]⟩ : ByteArray), .int .i64 0, .string (⟨#[]⟩ : ByteArray), .bool false][0]) := (blk_cell HQ3.out 0).trans rfl
      have rf0 : V.frozen? ⟨rb, 0, none⟩ = false := by simp [World.frozen?, HQ3.out]
      have r1 : V.cell? ⟨rb, 1, none⟩ = some (#[.string (⟨#[]⟩ : ByteArray), .int .i64 0, .string (⟨#[]⟩ : ByteArray), .bool false][1]) := (blk_cell HQ3.out 1).trans rfl
      have rf1 : V.frozen? ⟨rb, 1, none⟩ = false := by simp [World.frozen?, HQ3.out]
      have r2 : V.cell? ⟨rb, 2, none⟩ = some (#[.string (⟨#[]⟩ : ByteArray), .int .i64 0, .string (⟨#[]⟩ : ByteArray), .bool false][2]) := (blk_cell HQ3.out 2).trans rfl
      have rf2 : V.frozen? ⟨rb, 2, none⟩ = false := by simp [World.frozen?, HQ3.out]
      have r3 : V.cell? ⟨rb, 3, none⟩ = some (#[.string (⟨#[]⟩ : ByteArray), .int .i64 0, .string (⟨#[]⟩ : ByteArray), .bool false][3]) := (blk_cell HQ3.out 3).trans rfl
      have rf3 : V.frozen? ⟨rb, 3, none⟩ = false := by simp [World.frozen?, HQ3.out]
      obtain ⟨U, hU, lb, lo, lB⟩ := set4 HQ3.out (.string p) (.int .i64 (q)) (.string (s.extract 0 m.toNat)) (.bool (u == 0))
      have x0 : U.cell? ⟨rb, 0, none⟩ = some (#[.string p, .int .i64 (q), .string (s.extract 0 m.toNat), .bool (u == 0)][0]) := (blk_cell lb 0).trans rfl
      have xf0 : U.frozen? ⟨rb, 0, none⟩ = false := by simp [World.frozen?, lb]
      have x1 : U.cell? ⟨rb, 1, none⟩ = some (#[.string p, .int .i64 (q), .string (s.extract 0 m.toNat), .bool (u == 0)][1]) := (blk_cell lb 1).trans rfl
      have xf1 : U.frozen? ⟨rb, 1, none⟩ = false := by simp [World.frozen?, lb]
      have x2 : U.cell? ⟨rb, 2, none⟩ = some (#[.string p, .int .i64 (q), .string (s.extract 0 m.toNat), .bool (u == 0)][2]) := (blk_cell lb 2).trans rfl
      have xf2 : U.frozen? ⟨rb, 2, none⟩ = false := by simp [World.frozen?, lb]
      have x3 : U.cell? ⟨rb, 3, none⟩ = some (#[.string p, .int .i64 (q), .string (s.extract 0 m.toNat), .bool (u == 0)][3]) := (blk_cell lb 3).trans rfl
      have xf3 : U.frozen? ⟨rb, 3, none⟩ = false := by simp [World.frozen?, lb]
      have HU1 := Lib.hid (lB _ HV1.out (by have := HRB.out; omega))
      have HU2 := Lib.hid hU
      clear hU lo lB hc1
      refine hEND _ _ ?_
      clear hEND
      go_wp2_with (first | (rw [HU2.out]))
      refine bodyPost_ret (results_cell_row rfl _ _ rb 33 #[.string p, .int .i64 (q), .string (s.extract 0 m.toNat), .bool (u == 0)] (0, 0) _ rfl lb Try.underlying33 rfl (by kernel_rfl)) rfl ?_
      have hq := HQQ.out
      rw [i64_w] at hq
      exact ⟨by rw [← HAN.out, ← HQ0.out, hq, if_neg HC1.out, HMM.out], HU1.out⟩
end
theorem collatorlaw02_Item.calls (k : Nat) (A0_0 : Option Addr) (c0_0 : Nat) (l0_0 : List Int) (a0_1 : Int) (a0_2 : ByteArray) (a0_3 : Int) (r1 : ByteArray) (r2 : Int) (r3 : ByteArray) (r4 : Bool) (w : World) (hr0_0 : Kd.C (Kd.int .i64) w A0_0 l0_0.length l0_0) (hc0_0 : l0_0.length ≤ c0_0) (h : collatorlaw02_Item.f k l0_0 a0_1 a0_2 a0_3 = some (r1, r2, r3, r4)) :
    Calls Try.prog 14 #[.agg #[.slice A0_0 l0_0.length c0_0, .int .i64 a0_1, .string a0_2, .int .i64 a0_3]] w fun e w' => e = .returned (.agg #[.string r1, .int .i64 r2, .string r3, .bool r4]) ∧ Below w.heap.size w w' := by
  unfold collatorlaw02_Item.f at h
  obtain ⟨p, hp, h⟩ := Option.bind_eq_some_iff.1 h
  obtain ⟨t, ht, h⟩ := Option.bind_eq_some_iff.1 h
  obtain ⟨u, hu, h⟩ := Option.bind_eq_some_iff.1 h
  simp only [Option.some.injEq, Prod.mk.injEq] at h
  obtain ⟨rfl, rfl, rfl, rfl⟩ := h
  exact item_run k A0_0 c0_0 l0_0 a0_1 a0_2 a0_3 p t u w hr0_0 hc0_0 hp ht hu
theorem field_fault (s : ByteArray) (n : Int) (w : World) : (Instr.field 62 (.agg #[.string s, .int .i64 n]) 1).run Try.prog w = .ok (.int .i64 n) w := by kernel_rfl
attribute [go_sem] field_fault
end Go.Proofs.Ytcgnkbdfoaiaiaa.P
end
section
/- Laid for this claim by hp.py, this session's program round the kit's print: functions of the program as plain Lean functions, the proofs that the code comes to their answers, and the rows of the laws. Not trusted: Lean checks it. -/
namespace Go.Proofs.Ytcgnkbdfoaiaiaa.P
open Go.RowKit Go.Proofs.YtcgnkbdfoaiaiaaW.PrintWords Go.Proofs.YtcgnkbdfoaiaiaaW.PrintLast Go.Proofs.YtcgnkbdfoaiaiaaW.PrintMore
attribute [local go_sem] max2_int min2_int max_two min_two max_three min_three max_four min_four   -- for this text's walks alone
set_option linter.unusedVariables false
set_option linter.unusedSimpArgs false

/-! ### collatorlaw02_Tree: function 13 -/
mutual
def collatorlaw02_Tree.l0 : Nat → List (S41) → List (S33) → Int → Option ((List (S33)))
 | 0, _, _, _ => none
 | k + 1, x0, x3, x4 => if x4 < (x0.length : Int) then (collatorlaw02_Tree.j1 k x0 x3 x4 (decide (x4 < 14))) else (collatorlaw02_Tree.j1 k x0 x3 x4 false)
def collatorlaw02_Tree.j1 : Nat → List (S41) → List (S33) → Int → Bool → Option ((List (S33)))
 | 0, _, _, _, _ => none
 | k + 1, x0, x3, x4, x19 => if x19 = true then (if 0 ≤ x4 then (if x4 < (x0.length : Int) then ((collatorlaw02_Item.f k ((rd_T41 x0 x4).f0) ((rd_T41 x0 x4).f1) ((rd_T41 x0 x4).f2) ((rd_T41 x0 x4).f3)).bind fun bt314 => ((collatorref01_Parts.f k bt314.1).bind fun t319 => (if ([] : List (S33)).length + x3.length < 2932031007402 then (collatorlaw02_Tree.l1 k x0 x3 x4 t319 (([] : List (S33)) ++ x3) (⟨#[]⟩ : ByteArray) 0 bt314.1 bt314.2.1 bt314.2.2.1 false) else (none)))) else (none)) else (none)) else (some x3)
def collatorlaw02_Tree.l1 : Nat → List (S41) → List (S33) → Int → List ByteArray → List (S33) → ByteArray → Int → ByteArray → Int → ByteArray → Bool → Option ((List (S33)))
 | 0, _, _, _, _, _, _, _, _, _, _, _ => none
 | k + 1, x0, x3, x4, x6, x7, x8, x9, x319000, x319001, x319002, x319003 => if (wrap64 (x9 + 1)) < (x6.length : Int) then (if 0 ≤ x9 then (if x9 < (x6.length : Int) then ((collatorref01_Join.f x8 (rdOf ByteArray.empty x6 x9)).bind fun t326 => ((collatorref02_Find.f k x7 t326).bind fun bt327 => (if bt327.2.2.2.2 = true then (collatorlaw02_Tree.l1 k x0 x3 x4 x6 x7 t326 (wrap64 (x9 + 1)) x319000 x319001 x319002 x319003) else (if x7.length < 2932031007402 then (collatorlaw02_Tree.l1 k x0 x3 x4 x6 (x7 ++ [(⟨t326, 1, (⟨#[]⟩ : ByteArray), false⟩ : S33)]) t326 (wrap64 (x9 + 1)) x319000 x319001 x319002 x319003) else (none))))) else (none)) else (none)) else (if x7.length < 2932031007402 then ((some (x7 ++ [(⟨x319000, x319001, x319002, x319003⟩ : S33)] : List (S33))).bind fun y336 => ((collatorlaw02_Wide.f).bind fun bt339 => ((collatorref02_Check.f k y336 bt339.1 bt339.2.1 bt339.2.2).bind fun bt342 => (if bt342.2 = 0 then (collatorlaw02_Tree.l0 k x0 y336 (wrap64 (x4 + 1))) else (collatorlaw02_Tree.l0 k x0 x3 (wrap64 (x4 + 1))))))) else (none))
end
def collatorlaw02_Tree.f (k : Nat) (l0 : List (S41)) : Option ((List (S33))) := collatorlaw02_Tree.l0 k l0 ([] : List (S33)) 0
theorem collatorlaw02_Tree.mono_l : ∀ k, (∀ y0 y1 y2, LeO (collatorlaw02_Tree.l0 k y0 y1 y2) (collatorlaw02_Tree.l0 (k + 1) y0 y1 y2)) ∧ (∀ y0 y1 y2 y3, LeO (collatorlaw02_Tree.j1 k y0 y1 y2 y3) (collatorlaw02_Tree.j1 (k + 1) y0 y1 y2 y3)) ∧ (∀ y0 y1 y2 y3 y4 y5 y6 y7 y8 y9 y10, LeO (collatorlaw02_Tree.l1 k y0 y1 y2 y3 y4 y5 y6 y7 y8 y9 y10) (collatorlaw02_Tree.l1 (k + 1) y0 y1 y2 y3 y4 y5 y6 y7 y8 y9 y10))
 | 0 => ⟨fun _ _ _ r h => by simp [collatorlaw02_Tree.l0] at h, fun _ _ _ _ r h => by simp [collatorlaw02_Tree.j1] at h, fun _ _ _ _ _ _ _ _ _ _ _ r h => by simp [collatorlaw02_Tree.l1] at h⟩
 | k + 1 => by
  obtain ⟨ih0, ih1, ih2⟩ := collatorlaw02_Tree.mono_l k
  refine ⟨?_, ?_, ?_⟩
  ·intro y0 y1 y2
   unfold collatorlaw02_Tree.l0
   repeat' first
   | (with_reducible exact ih0 _ _ _)
   | (with_reducible exact ih1 _ _ _ _)
   | (with_reducible exact ih2 _ _ _ _ _ _ _ _ _ _ _)
   | (with_reducible exact collatorlaw02_Item.mono _ _ _ _ _)
   | (with_reducible exact collatorref01_Parts.mono _ _)
   | (with_reducible exact collatorref02_Check.mono _ _ _ _ _)
   | (with_reducible exact collatorref02_Find.mono _ _ _)
   | (with_reducible exact LeO.refl _)
   | (with_reducible exact LeO.none _)
   | (with_reducible refine LeO.ite ?_ ?_)
   | (with_reducible refine LeO.bind ?_ (fun _ => ?_))
   | exact ih0 _ _ _
   | exact ih1 _ _ _ _
   | exact ih2 _ _ _ _ _ _ _ _ _ _ _
   | exact collatorlaw02_Item.mono _ _ _ _ _
   | exact collatorref01_Parts.mono _ _
   | exact collatorref02_Check.mono _ _ _ _ _
   | exact collatorref02_Find.mono _ _ _
   | exact LeO.none _
   | refine LeO.ite ?_ ?_
   | refine LeO.bind ?_ (fun _ => ?_)
  ·intro y0 y1 y2 y3
   unfold collatorlaw02_Tree.j1
   repeat' first
   | (with_reducible exact ih0 _ _ _)
   | (with_reducible exact ih1 _ _ _ _)
   | (with_reducible exact ih2 _ _ _ _ _ _ _ _ _ _ _)
   | (with_reducible exact collatorlaw02_Item.mono _ _ _ _ _)
   | (with_reducible exact collatorref01_Parts.mono _ _)
   | (with_reducible exact collatorref02_Check.mono _ _ _ _ _)
   | (with_reducible exact collatorref02_Find.mono _ _ _)
   | (with_reducible exact LeO.refl _)
   | (with_reducible exact LeO.none _)
   | (with_reducible refine LeO.ite ?_ ?_)
   | (with_reducible refine LeO.bind ?_ (fun _ => ?_))
   | exact ih0 _ _ _
   | exact ih1 _ _ _ _
   | exact ih2 _ _ _ _ _ _ _ _ _ _ _
   | exact collatorlaw02_Item.mono _ _ _ _ _
   | exact collatorref01_Parts.mono _ _
   | exact collatorref02_Check.mono _ _ _ _ _
   | exact collatorref02_Find.mono _ _ _
   | exact LeO.none _
   | refine LeO.ite ?_ ?_
   | refine LeO.bind ?_ (fun _ => ?_)
  ·intro y0 y1 y2 y3 y4 y5 y6 y7 y8 y9 y10
   unfold collatorlaw02_Tree.l1
   repeat' first
   | (with_reducible exact ih0 _ _ _)
   | (with_reducible exact ih1 _ _ _ _)
   | (with_reducible exact ih2 _ _ _ _ _ _ _ _ _ _ _)
   | (with_reducible exact collatorlaw02_Item.mono _ _ _ _ _)
   | (with_reducible exact collatorref01_Parts.mono _ _)
   | (with_reducible exact collatorref02_Check.mono _ _ _ _ _)
   | (with_reducible exact collatorref02_Find.mono _ _ _)
   | (with_reducible exact LeO.refl _)
   | (with_reducible exact LeO.none _)
   | (with_reducible refine LeO.ite ?_ ?_)
   | (with_reducible refine LeO.bind ?_ (fun _ => ?_))
   | exact ih0 _ _ _
   | exact ih1 _ _ _ _
   | exact ih2 _ _ _ _ _ _ _ _ _ _ _
   | exact collatorlaw02_Item.mono _ _ _ _ _
   | exact collatorref01_Parts.mono _ _
   | exact collatorref02_Check.mono _ _ _ _ _
   | exact collatorref02_Find.mono _ _ _
   | exact LeO.none _
   | refine LeO.ite ?_ ?_
   | refine LeO.bind ?_ (fun _ => ?_)
theorem collatorlaw02_Tree.mono : ∀ a0 k, LeO (collatorlaw02_Tree.f k a0) (collatorlaw02_Tree.f (k + 1) a0) := by
 intro a0 k
 obtain ⟨ih0, ih1, ih2⟩ := collatorlaw02_Tree.mono_l k
 unfold collatorlaw02_Tree.f
 repeat' first
   | (with_reducible exact ih0 _ _ _)
   | (with_reducible exact ih1 _ _ _ _)
   | (with_reducible exact ih2 _ _ _ _ _ _ _ _ _ _ _)
   | (with_reducible exact collatorlaw02_Item.mono _ _ _ _ _)
   | (with_reducible exact collatorref01_Parts.mono _ _)
   | (with_reducible exact collatorref02_Check.mono _ _ _ _ _)
   | (with_reducible exact collatorref02_Find.mono _ _ _)
   | (with_reducible exact LeO.refl _)
   | (with_reducible exact LeO.none _)
   | (with_reducible refine LeO.ite ?_ ?_)
   | (with_reducible refine LeO.bind ?_ (fun _ => ?_))
   | exact ih0 _ _ _
   | exact ih1 _ _ _ _
   | exact ih2 _ _ _ _ _ _ _ _ _ _ _
   | exact collatorlaw02_Item.mono _ _ _ _ _
   | exact collatorref01_Parts.mono _ _
   | exact collatorref02_Check.mono _ _ _ _ _
   | exact collatorref02_Find.mono _ _ _
   | exact LeO.none _
   | refine LeO.ite ?_ ?_
   | refine LeO.bind ?_ (fun _ => ?_)
set_option maxHeartbeats 8000000 in
set_option maxRecDepth 100000 in
theorem collatorlaw02_Tree.calls (k : Nat) (A0 : Option Addr) (c0 : Nat) (l0 : List (S41)) (r : List (S33)) (w : World) (hr0 : Kd.C k41 w A0 l0.length l0) (hc0 : l0.length ≤ c0) (h : collatorlaw02_Tree.f k l0 = some r) :
  Calls Try.prog 13 #[.slice A0 l0.length c0] w fun e w' => ∃ v0_ : Value, e = .returned (v0_) ∧ Kd.R k33 33 w' w.heap.size (fun _ => True) v0_ r ∧ Below w.heap.size w w' := by
 have hu41 := Try.underlying41
 have hu33 := Try.underlying33
 have HR0 := Aside0.mk hr0
 have HC0 := Aside0.mk hc0
 clear hr0 hc0
 have HB := Aside0.mk (Below.refl w.heap.size w)
 have H : (collatorlaw02_Tree.l0 k l0 ([] : List (S33)) 0) = some r := h
 clear h
 have H' := Aside0.mk H
 clear H
 go_enter Try.func13, Try.ntmps13
 go_wp2
 go_loopg [3, 4] k (fun kq v3 v4 w' => ∃ (x3_1 : List (S33)) (x4_1 : Int), v4 = .int .i64 x4_1 ∧ Aside0 (collatorlaw02_Tree.l0 kq l0 x3_1 x4_1 = some r) ∧ Aside0 (kq ≤ k) ∧ Aside0 (Kd.R k33 33 w' w.heap.size (fun _ => True) v3 x3_1) ∧ Aside0 (Below w.heap.size w w'))
 case atStart => exact ⟨(([] : List (S33))), (0), (by first | rfl | (simp; done) | (simp [*]; done)), H', ⟨Nat.le_refl _⟩, ⟨by first | exact Kd.R_nil _ _ _ _ _ | exact Kd.N_nil _ _ _ _ _ | exact Kd.V_nil _ _ _ _ _ | exact Kd.Q_nil _ _ _ _ _ | exact Kd.S_nil _ _ _ _ _⟩, ⟨by repeat (first | (with_reducible first | exact HB.out | apply below_alloc | apply pw_below_drewN | apply below_drew1) | exact HB.out)⟩⟩
 case round =>
  clear H'
  (try clear c1)
  obtain ⟨x3_1, x4_1, rfl, HA, HK1, HO_3, HB⟩ := hrel
  cases gk with
  | zero => exact absurd HA.out (by simp [collatorlaw02_Tree.l0])
  | succ k1 =>
   have H := HA.out
   clear HA
   simp only [collatorlaw02_Tree.l0] at H
   have HC2 := Aside0.mk H
   clear H
   go_upto_region 3 with (fail)
   go_cut [19] (fun v19 wc => ∃ (kq : Nat) (x19_1 : Bool), v19 = .bool x19_1 ∧ Aside0 (collatorlaw02_Tree.j1 kq l0 x3_1 x4_1 x19_1 = some r) ∧ Aside0 (kq ≤ k1) ∧ Aside0 (Kd.R k33 33 wc w.heap.size (fun _ => True) u3 x3_1) ∧ Aside0 (Below w.heap.size w wc))
   case first =>
    have H := HC2.out
    clear HC2
    by_cases c3 : x4_1 < (l0.length : Int)
    ·rw [if_pos c3] at H
     have c3b0 : decide (x4_1 < (l0.length : Int)) = true := decide_eq_true c3
     clear c3
     (first | rw [c3b0] | rw [c3b1] | (simp only [i64_w, i32_w]; rw [c3b0]) | skip)
     have H' := Aside0.mk H
     clear H
     go_wp2
     go_meet
     case rel => exact ⟨_, (decide (x4_1 < 14)), (by first | rfl | (simp; done) | (simp [*]; done)), H', ⟨by have := HK1.out; first | omega | exact Nat.le_refl _⟩, ⟨by (with_reducible repeat (first | apply Kd.R_alloc | apply Kd.R_drewN | apply Kd.R_drew)); exact HO_3.out⟩, ⟨by repeat (first | (with_reducible first | exact HB.out | apply below_alloc | apply pw_below_drewN | apply below_drew1) | exact HB.out)⟩⟩
    ·rw [if_neg c3] at H
     have c3b0 : decide (x4_1 < (l0.length : Int)) = false := decide_eq_false c3
     clear c3
     (first | rw [c3b0] | rw [c3b1] | (simp only [i64_w, i32_w]; rw [c3b0]) | skip)
     have H' := Aside0.mk H
     clear H
     go_wp2
     go_meet
     case rel => exact ⟨_, (false), (by first | rfl | (simp; done) | (simp [*]; done)), H', ⟨by have := HK1.out; first | omega | exact Nat.le_refl _⟩, ⟨by (with_reducible repeat (first | apply Kd.R_alloc | apply Kd.R_drewN | apply Kd.R_drew)); exact HO_3.out⟩, ⟨by repeat (first | (with_reducible first | exact HB.out | apply below_alloc | apply pw_below_drewN | apply below_drew1) | exact HB.out)⟩⟩
   case rest =>
    clear HC2
    (try clear c1);(try clear p2);(try clear c3);(try clear c3b0)
    obtain ⟨kq, x19_1, rfl, HA, HJ1, HO_3, HB⟩ := hcut
    cases kq with
    | zero => exact absurd HA.out (by simp [collatorlaw02_Tree.j1])
    | succ kj1 =>
     have H := HA.out
     clear HA
     simp only [collatorlaw02_Tree.j1] at H
     by_cases c4 : x19_1 = true
     ·subst c4
      have H1 : (if 0 ≤ x4_1 then (if x4_1 < (l0.length : Int) then ((collatorlaw02_Item.f kj1 ((rd_T41 l0 x4_1).f0) ((rd_T41 l0 x4_1).f1) ((rd_T41 l0 x4_1).f2) ((rd_T41 l0 x4_1).f3)).bind fun bt314 => ((collatorref01_Parts.f kj1 bt314.1).bind fun t319 => (if ([] : List (S33)).length + x3_1.length < 2932031007402 then (collatorlaw02_Tree.l1 kj1 l0 x3_1 x4_1 t319 (([] : List (S33)) ++ x3_1) (⟨#[]⟩ : ByteArray) 0 bt314.1 bt314.2.1 bt314.2.2.1 false) else (none)))) else (none)) else (none)) = some r := by rw [if_pos rfl] at H; exact H
      clear H
      have H := H1
      clear H1
      by_cases c5 : 0 ≤ x4_1
      ·rw [if_pos c5] at H
       have c5b0 : decide (0 ≤ x4_1) = true := decide_eq_true c5
       clear c5
       by_cases c6 : x4_1 < (l0.length : Int)
       ·rw [if_pos c6] at H
        have c6b0 : decide (x4_1 < (l0.length : Int)) = true := decide_eq_true c6
        clear c6
        replace H := Option.bind_eq_some_iff.mp H
        obtain ⟨⟨t314, t315, t316, t317⟩, A70, H⟩ := H
        replace H : ((collatorref01_Parts.f kj1 t314).bind fun t319 => (if ([] : List (S33)).length + x3_1.length < 2932031007402 then (collatorlaw02_Tree.l1 kj1 l0 x3_1 x4_1 t319 (([] : List (S33)) ++ x3_1) (⟨#[]⟩ : ByteArray) 0 t314 t315 t316 false) else (none))) = some r := H
        have A7 := Aside0.mk A70
        clear A70
        replace H := Option.bind_eq_some_iff.mp H
        obtain ⟨t319, A80, H⟩ := H
        replace H : (if ([] : List (S33)).length + x3_1.length < 2932031007402 then (collatorlaw02_Tree.l1 kj1 l0 x3_1 x4_1 t319 (([] : List (S33)) ++ x3_1) (⟨#[]⟩ : ByteArray) 0 t314 t315 t316 false) else (none)) = some r := H
        have A8 := Aside0.mk A80
        clear A80
        by_cases c9 : ([] : List (S33)).length + x3_1.length < 2932031007402
        ·rw [if_pos c9] at H
         have LMc9 := Aside0.mk c9
         clear c9
         obtain ⟨y322, hy322⟩ : ∃ y_ : List (S33), y_ = (([] : List (S33)) ++ x3_1) := ⟨_, rfl⟩
         replace H : (collatorlaw02_Tree.l1 kj1 l0 x3_1 x4_1 t319 y322 (⟨#[]⟩ : ByteArray) 0 t314 t315 t316 false) = some r := by first | (rw [hy322]; with_reducible exact H) | (have H2_ := (Option.bind_some _ _).symm.trans H; rw [hy322]; with_reducible exact H2_) | (have H2_ := (Option.bind_some _ _).symm.trans H; with_reducible exact H2_) | with_reducible exact H | (rw [hy322]; exact H) | exact H
         have Ny322 := Aside0.mk hy322
         clear hy322
         have H' := Aside0.mk H
         clear H
         have p313 : 0 ≤ (x4_1 : Int) := of_decide_eq_true (by first | (with_reducible assumption) | assumption)
         have q313 : x4_1 < (l0.length : Int) := of_decide_eq_true (by first | (with_reducible assumption) | assumption)
         obtain ⟨ad313, A313_0, c313_0, e313, hx313_0, hx313_1, hx313_2, hx313_3, hl313_0, hi313_0⟩ := at_T41 HR0.out x4_1 p313 q313
         cases e313
         replace hx313_0 := (HB.out.cell (World.block_lt_of_cell? w _ hx313_0)).trans hx313_0
         replace hx313_1 := (HB.out.cell (World.block_lt_of_cell? w _ hx313_1)).trans hx313_1
         replace hx313_2 := (HB.out.cell (World.block_lt_of_cell? w _ hx313_2)).trans hx313_2
         replace hx313_3 := (HB.out.cell (World.block_lt_of_cell? w _ hx313_3)).trans hx313_3
         have HR313_0 := Aside0.mk hi313_0
         have HC313_0 := Aside0.mk hl313_0
         clear hi313_0 hl313_0
         replace p313 := eq_true p313
         replace q313 := eq_true q313
         go_wp2_with (first | ((with_reducible refine gate_callee (f := 14) rfl ?_); refine goesL_ _ rfl rfl Try.func14 (by kernel_rfl) rfl #[.agg #[.slice A313_0 ((rd_T41 l0 x4_1).f0).length c313_0, .int .i64 ((rd_T41 l0 x4_1).f1), .string ((rd_T41 l0 x4_1).f2), .int .i64 ((rd_T41 l0 x4_1).f3)]] rfl (by (try simp only [List.map_toArray, List.map_cons, List.map_nil]); first | done | rfl | (simp only [List.length_drop, List.length_take]; rfl)) ?_; (with_reducible refine (collatorlaw02_Item.calls kj1 _ _ ((rd_T41 l0 x4_1).f0) ((rd_T41 l0 x4_1).f1) ((rd_T41 l0 x4_1).f2) ((rd_T41 l0 x4_1).f3) t314 t315 t316 t317 _ ?side1 ?side2 A7.out).mono ?_); (case side1 => repeat (first | exact (Kd.C_below HR313_0.out HB.out) | (with_reducible refine Kd.C_alloc ?_ _) | (with_reducible refine Kd.C_drewN ?_ _) | (with_reducible refine Kd.C_drew ?_))); (case side2 => exact HC313_0.out); rintro e w10 ⟨rfl, hb⟩; refine ⟨_, rfl, ?_⟩; have n0_ := Aside0.mk (Kd.R_below (by (with_reducible repeat (first | apply Kd.R_alloc | apply Kd.R_drewN | apply Kd.R_drew)); exact HO_3.out) hb); have n1_ := Aside0.mk (below_step (by repeat (first | (with_reducible first | exact HB.out | apply below_alloc | apply pw_below_drewN | apply below_drew1) | exact HB.out)) hb); clear HO_3; clear HB; have HO_3 := n0_; have HB := n1_; clear n0_ n1_; (try clear hb); (try clear hb2); (try clear hk); (try clear hi)) | ((with_reducible refine gate_dst (N := 5) rfl ?_); refine box_event ?hg (N := 5) ?hd (cs := #[.string (⟨#[]⟩ : ByteArray), .int .i64 0, .string (⟨#[]⟩ : ByteArray), .bool false]) (t := 33) ?hr ?_; (case hd => rfl); (case hg => rfl); (case hr => first | (go_simp; done) | (go_simp; rfl)); intro gb318 hg w11 hbox hb; have n0_ := Aside0.mk (Kd.R_below (Kd.R_elderB (by (with_reducible repeat (first | apply Kd.R_alloc | apply Kd.R_drewN | apply Kd.R_drew)); exact HO_3.out) gb318 (Nat.le_of_eq hg.symm)) hb); have n1_ := Aside0.mk (below_step (by repeat (first | (with_reducible first | exact HB.out | apply below_alloc | apply pw_below_drewN | apply below_drew1) | exact HB.out)) hb); have n2_ := Aside0.mk (hbox); have n3_ := Aside0.mk ((by rw [hg]; exact (below_size (by repeat (first | (with_reducible first | exact HB.out | apply below_alloc | apply pw_below_drewN | apply below_drew1) | exact HB.out))) : w.heap.size ≤ gb318)); have n4_ := Aside0.mk ((by rw [hg]; exact (below_size (by repeat (first | (with_reducible first | exact HB.out | apply below_alloc | apply pw_below_drewN | apply below_drew1) | exact HB.out))) : w.heap.size ≤ gb318)); clear HO_3; clear HB; have HO_3 := n0_; have HB := n1_; have BK318 := n2_; have GW318 := n3_; have GE318 := n4_; clear n0_ n1_ n2_ n3_ n4_; clear hb hbox hg; have hcz12_0 : w11.cell? ⟨gb318, 0, none⟩ = some (.string (⟨#[]⟩ : ByteArray)) := (blk_cell BK318.out 0).trans rfl; have hcz12_1 : w11.cell? ⟨gb318, 1, none⟩ = some (.int .i64 0) := (blk_cell BK318.out 1).trans rfl; have hcz12_2 : w11.cell? ⟨gb318, 2, none⟩ = some (.string (⟨#[]⟩ : ByteArray)) := (blk_cell BK318.out 2).trans rfl; have hcz12_3 : w11.cell? ⟨gb318, 3, none⟩ = some (.bool false) := (blk_cell BK318.out 3).trans rfl; have hfz12_0 := blk_frozen BK318.out 0; have hfz12_1 := blk_frozen BK318.out 1; have hfz12_2 := blk_frozen BK318.out 2; have hfz12_3 := blk_frozen BK318.out 3) | ((with_reducible refine gate_callee (f := 24) rfl ?_); refine goesL_ _ rfl rfl Try.func24 (by kernel_rfl) rfl #[.string t314] rfl (by (try simp only [List.map_toArray, List.map_cons, List.map_nil]); first | done | rfl | (simp only [List.length_drop, List.length_take]; rfl)) ?_; (with_reducible refine (collatorref01_Parts.calls kj1 t314 t319 _ A8.out).mono ?_); rintro e w13 ⟨v320, rfl, ho0, hb⟩; refine ⟨_, rfl, ?_⟩; have n0_ := Aside0.mk (Kd.R_below (by (with_reducible repeat (first | apply Kd.R_alloc | apply Kd.R_drewN | apply Kd.R_drew)); exact (Kd.R_mono (Kd.R_far (p := ⟨gb318, 3, none⟩) (Kd.R_far (p := ⟨gb318, 3, none⟩) (Kd.R_far (p := ⟨gb318, 2, none⟩) (Kd.R_far (p := ⟨gb318, 1, none⟩) (Kd.R_far (p := ⟨gb318, 0, none⟩) (Kd.R_mono HO_3.out (fun k_ hk => (⟨hk, hk.2⟩ : _ ∧ k_ ≠ gb318))) (fun _ hk => hk.2) (.string t314)) (fun _ hk => hk.2) (.int .i64 t315)) (fun _ hk => hk.2) (.string t316)) (fun _ hk => hk.2) (.bool t317)) (fun _ hk => hk.2) (.bool false)) (fun _ h_ => h_.1))) hb); have n1_ := Aside0.mk (Kd.R_lower ho0 (below_size (by repeat (first | (with_reducible first | exact HB.out | apply below_alloc | apply pw_below_drewN | apply below_drew1 | refine below_set ?_ GE318.out) | exact HB.out)))); have n2_ := Aside0.mk (blk_below (g := gb318) (o := .cells #[.string t314, .int .i64 t315, .string t316, .bool false] 33 (0, 0)) (by (with_reducible repeat (first | refine blk_drewN ?_ _ | refine blk_drew ?_ | refine blk_alloc ?_ _)); refine blk_put (cs := #[.string t314, .int .i64 t315, .string t316, .bool t317]) ?_ 3 _ rfl; (with_reducible repeat (first | refine blk_drewN ?_ _ | refine blk_drew ?_ | refine blk_alloc ?_ _)); refine blk_put (cs := #[.string t314, .int .i64 t315, .string t316, .bool false]) ?_ 3 _ rfl; (with_reducible repeat (first | refine blk_drewN ?_ _ | refine blk_drew ?_ | refine blk_alloc ?_ _)); refine blk_put (cs := #[.string t314, .int .i64 t315, .string (⟨#[]⟩ : ByteArray), .bool false]) ?_ 2 _ rfl; (with_reducible repeat (first | refine blk_drewN ?_ _ | refine blk_drew ?_ | refine blk_alloc ?_ _)); refine blk_put (cs := #[.string t314, .int .i64 0, .string (⟨#[]⟩ : ByteArray), .bool false]) ?_ 1 _ rfl; (with_reducible repeat (first | refine blk_drewN ?_ _ | refine blk_drew ?_ | refine blk_alloc ?_ _)); refine blk_put (cs := #[.string (⟨#[]⟩ : ByteArray), .int .i64 0, .string (⟨#[]⟩ : ByteArray), .bool false]) ?_ 0 _ rfl; (with_reducible repeat (first | refine blk_drewN ?_ _ | refine blk_drew ?_ | refine blk_alloc ?_ _)); exact BK318.out) hb); have n3_ := Aside0.mk (below_step (by repeat (first | (with_reducible first | exact HB.out | apply below_alloc | apply pw_below_drewN | apply below_drew1 | refine below_set ?_ GE318.out) | exact HB.out)) hb); clear HO_3; clear BK318; clear HB; have HO_3 := n0_; have HO321 := n1_; have BK318 := n2_; have HB := n3_; clear n0_ n1_ n2_ n3_; (try clear hb); (try clear hb2); (try clear hk); (try clear hi); (try clear ho0); (try (obtain ⟨Ao15, co15, eo15⟩ := Kd.R_slice HO_3.out; subst eo15))) | ((with_reducible refine gate_builtin (b := .append) (xs := #[.const (.slice none 0 0), .tmp 31]) rfl ?_); at_builtin; refine Kd.R_append_rows k33 (w0 := w) w.heap.size rfl (.const (.slice none 0 0)) (.tmp 31) 23 33 (.agg #[(.string ⟨#[]⟩), (.int .i64 0), (.string ⟨#[]⟩), (.bool false)]) 48 rfl Try.underlying23 info33 rfl (by decide) (by omega) (.slice none 0 0) ([] : List (S33)) x3_1 _ _ _ (fun k_ => some k_ ≠ (.slice Ao15 x3_1.length co15 : Value).ownBlock ∧ k_ ≠ gb318) (fun _ => False) rfl rfl ?aO ?aR (fun _ _ h => h) (fun _ h => h.elim) ?aF ?aB ?aS ?aL ?_; (case aR => repeat (first | exact (Kd.R_reads' HO_3.out).2.2 | (with_reducible refine Kd.C_alloc ?_ _) | (with_reducible refine Kd.C_drewN ?_ _) | (with_reducible refine Kd.C_drew ?_))); (case aB => exact (by repeat (first | (with_reducible first | exact HB.out | apply below_alloc | apply pw_below_drewN | apply below_drew1 | refine below_set ?_ GE318.out) | exact HB.out))); (case aF => exact (fun k_ hk => ⟨Kd.fresh' (Kd.R_lt (by (with_reducible repeat (first | apply Kd.R_alloc | apply Kd.R_drewN | apply Kd.R_drew)); exact HO_3.out)) k_ hk, Kd.freshB (g := gb318) (o := .cells #[.string t314, .int .i64 t315, .string t316, .bool false] 33 (0, 0)) (by (with_reducible repeat (first | refine blk_drewN ?_ _ | refine blk_drew ?_ | refine blk_alloc ?_ _)); exact BK318.out) k_ hk⟩)); (case aO => exact ((Kd.R_nil _ _ _ _ (fun k_ => some k_ ≠ (.slice Ao15 x3_1.length co15 : Value).ownBlock ∧ k_ ≠ gb318)))); (case aS => exact (below_size (by repeat (first | (with_reducible first | exact HB.out | apply below_alloc | apply pw_below_drewN | apply below_drew1 | refine below_set ?_ GE318.out) | exact HB.out)))); (case aL => have := LMc9.out; omega); intro v323 w14 ho hb hg hat; rw [← Ny322.out] at ho; have n0_ := Aside0.mk (Kd.R_after (Kd.R_apart_nil (by (with_reducible repeat (first | apply Kd.R_alloc | apply Kd.R_drewN | apply Kd.R_drew)); exact HO_3.out)) hg hat); have n1_ := Aside0.mk (blk_grown (g := gb318) (o := .cells #[.string t314, .int .i64 t315, .string t316, .bool false] 33 (0, 0)) (by (with_reducible repeat (first | refine blk_drewN ?_ _ | refine blk_drew ?_ | refine blk_alloc ?_ _)); exact BK318.out) hg (by simp [Value.ownBlock])); have n2_ := Aside0.mk (Kd.R_grown (by (with_reducible repeat (first | apply Kd.R_alloc | apply Kd.R_drewN | apply Kd.R_drew)); exact HO321.out) hg (fun _ _ => by simp [Value.ownBlock])); have n3_ := Aside0.mk (hb); have n4_ := Aside0.mk (ho); clear HO_3; clear BK318; clear HO321; clear HB; have HO_3 := n0_; have BK318 := n1_; have HO321 := n2_; have HB := n3_; have HO324 := n4_; clear n0_ n1_ n2_ n3_ n4_; clear ho hb hg hat))
         go_loopg [7, 8, 9] kj1 (fun kq v7 v8 v9 w' => ∃ (x7_3 : List (S33)) (x8_3 : ByteArray) (x9_3 : Int), v8 = .string x8_3 ∧ v9 = .int .i64 x9_3 ∧ Aside0 (collatorlaw02_Tree.l1 kq l0 x3_1 x4_1 t319 x7_3 x8_3 x9_3 t314 t315 t316 false = some r) ∧ Aside0 (kq ≤ kj1) ∧ Aside0 (Kd.R k33 33 w' w.heap.size (fun k_ => some k_ ≠ (v7 : Value).ownBlock ∧ k_ ≠ gb318) (.slice Ao15 x3_1.length co15) x3_1) ∧ Aside0 (Kd.R Kd.string 9 w' w.heap.size (fun _ => True) v320 t319) ∧ Aside0 (Kd.R k33 33 w' w.heap.size (fun k_ => some k_ ≠ ((.slice Ao15 x3_1.length co15) : Value).ownBlock ∧ k_ ≠ gb318) v7 x7_3) ∧ Aside0 (w'.heap[gb318]? = some (.cells #[.string t314, .int .i64 t315, .string t316, .bool false] 33 (0, 0))) ∧ Aside0 (Below w.heap.size w w'))
         case atStart => exact ⟨(y322), ((⟨#[]⟩ : ByteArray)), (0), (by first | rfl | (simp; done) | (simp [*]; done)), (by first | rfl | (simp; done) | (simp [*]; done)), H', ⟨Nat.le_refl _⟩, ⟨by (with_reducible repeat (first | apply Kd.R_alloc | apply Kd.R_drewN | apply Kd.R_drew)); exact Kd.R_mono HO_3.out (fun _ hk => by first | exact ⟨hk.2, hk.1.2⟩ | simp_all)⟩, ⟨by (with_reducible repeat (first | apply Kd.R_alloc | apply Kd.R_drewN | apply Kd.R_drew)); exact HO321.out⟩, ⟨by (with_reducible repeat (first | apply Kd.R_alloc | apply Kd.R_drewN | apply Kd.R_drew)); exact HO324.out⟩, ⟨by (with_reducible repeat (first | refine blk_drewN ?_ _ | refine blk_drew ?_ | refine blk_alloc ?_ _)); exact BK318.out⟩, ⟨by repeat (first | (with_reducible first | exact HB.out | apply below_alloc | apply pw_below_drewN | apply below_drew1 | refine below_set ?_ GE318.out) | exact HB.out)⟩⟩
         case round =>
          clear H'
          (try clear c1);(try clear c2);(try clear p2);(try clear c3);(try clear c3b0);(try clear p3);(try clear q3);(try clear hx3);(try clear c4);(try clear c5);(try clear c5b0);(try clear c6);(try clear c6b0);(try clear c9);(try clear c13);(try clear c14);(try clear hcz12_0);(try clear hcz12_1);(try clear hcz12_2);(try clear hcz12_3);(try clear hfz12_0);(try clear hfz12_1);(try clear hfz12_2);(try clear hfz12_3);(try clear hx313_0);(try clear hx313_1);(try clear hx313_2);(try clear hx313_3);(try clear p2);(try clear p313);(try clear q313)
          obtain ⟨x7_3, x8_3, x9_3, rfl, rfl, HA, HK3, HO_3, HO_6, HO_7, BK318, HB⟩ := hrel
          cases gk with
          | zero => exact absurd HA.out (by simp [collatorlaw02_Tree.l1])
          | succ k3 =>
           have H := HA.out
           clear HA
           simp only [collatorlaw02_Tree.l1] at H
           by_cases c16 : (wrap64 (x9_3 + 1)) < (t319.length : Int)
           ·rw [if_pos c16] at H
            have c16b0 : decide ((wrap64 (x9_3 + 1)) < (t319.length : Int)) = true := decide_eq_true c16
            clear c16
            by_cases c17 : 0 ≤ x9_3
            ·rw [if_pos c17] at H
             have c17b0 : decide (0 ≤ x9_3) = true := decide_eq_true c17
             clear c17
             by_cases c18 : x9_3 < (t319.length : Int)
             ·rw [if_pos c18] at H
              have c18b0 : decide (x9_3 < (t319.length : Int)) = true := decide_eq_true c18
              clear c18
              replace H := Option.bind_eq_some_iff.mp H
              obtain ⟨t326, A190, H⟩ := H
              replace H : ((collatorref02_Find.f k3 x7_3 t326).bind fun bt327 => (if bt327.2.2.2.2 = true then (collatorlaw02_Tree.l1 k3 l0 x3_1 x4_1 t319 x7_3 t326 (wrap64 (x9_3 + 1)) t314 t315 t316 false) else (if x7_3.length < 2932031007402 then (collatorlaw02_Tree.l1 k3 l0 x3_1 x4_1 t319 (x7_3 ++ [(⟨t326, 1, (⟨#[]⟩ : ByteArray), false⟩ : S33)]) t326 (wrap64 (x9_3 + 1)) t314 t315 t316 false) else (none)))) = some r := H
              have A19 := Aside0.mk A190
              clear A190
              replace H := Option.bind_eq_some_iff.mp H
              obtain ⟨⟨t327, t328, t329, t330, t331⟩, A200, H⟩ := H
              replace H : (if t331 = true then (collatorlaw02_Tree.l1 k3 l0 x3_1 x4_1 t319 x7_3 t326 (wrap64 (x9_3 + 1)) t314 t315 t316 false) else (if x7_3.length < 2932031007402 then (collatorlaw02_Tree.l1 k3 l0 x3_1 x4_1 t319 (x7_3 ++ [(⟨t326, 1, (⟨#[]⟩ : ByteArray), false⟩ : S33)]) t326 (wrap64 (x9_3 + 1)) t314 t315 t316 false) else (none))) = some r := H
              have A20 := Aside0.mk A200
              clear A200
              by_cases c21 : t331 = true
              ·subst c21
               have H1 : (collatorlaw02_Tree.l1 k3 l0 x3_1 x4_1 t319 x7_3 t326 (wrap64 (x9_3 + 1)) t314 t315 t316 false) = some r := by rw [if_pos rfl] at H; exact H
               clear H
               have H := H1
               clear H1
               have H' := Aside0.mk H
               clear H
               obtain ⟨Ao22, co22, eo22⟩ := Kd.R_slice HO_6.out
               subst eo22
               have p325 : 0 ≤ (x9_3 : Int) := of_decide_eq_true (by first | (with_reducible assumption) | assumption)
               have q325 : x9_3 < (t319.length : Int) := of_decide_eq_true (by first | (with_reducible assumption) | assumption)
               obtain ⟨ad325, e325, hx325_0⟩ := Kd.at_string (Kd.R_reads' HO_6.out).2.2 x9_3 p325 q325
               cases e325
               replace p325 := eq_true p325
               replace q325 := eq_true q325
               go_wp2_with (first | ((with_reducible refine gate_callee (f := 25) rfl ?_); refine goesL_ _ rfl rfl Try.func25 (by kernel_rfl) rfl #[.string x8_3, .string (rdOf ByteArray.empty t319 x9_3)] rfl (by (try simp only [List.map_toArray, List.map_cons, List.map_nil]); first | done | rfl | (simp only [List.length_drop, List.length_take]; rfl)) ?_; (with_reducible refine (collatorref01_Join.calls x8_3 (rdOf ByteArray.empty t319 x9_3) t326 _ A19.out).mono ?_); rintro e w' ⟨rfl, ⟨nd, rfl⟩⟩; refine ⟨_, rfl, ?_⟩; (try (rw [drewN_self wr]; generalize hq_ : World.drewN wr _ = wr; have n0_ : Aside0 (Kd.R k33 33 wr w.heap.size (fun k_ => some k_ ≠ (u7 : Value).ownBlock ∧ k_ ≠ gb318) (.slice Ao15 x3_1.length co15) x3_1) := ⟨by rw [← hq_]; exact (by (with_reducible repeat (first | apply Kd.R_alloc | apply Kd.R_drewN | apply Kd.R_drew)); exact HO_3.out)⟩; have n1_ : Aside0 (Kd.R Kd.string 9 wr w.heap.size (fun _ => True) (.slice (some ad325) t319.length co22) t319) := ⟨by rw [← hq_]; exact (by (with_reducible repeat (first | apply Kd.R_alloc | apply Kd.R_drewN | apply Kd.R_drew)); exact HO_6.out)⟩; have n2_ : Aside0 (Kd.R k33 33 wr w.heap.size (fun k_ => some k_ ≠ (.slice Ao15 x3_1.length co15 : Value).ownBlock ∧ k_ ≠ gb318) u7 x7_3) := ⟨by rw [← hq_]; exact (by (with_reducible repeat (first | apply Kd.R_alloc | apply Kd.R_drewN | apply Kd.R_drew)); exact HO_7.out)⟩; have n3_ : Aside0 (wr.heap[gb318]? = some (.cells #[.string t314, .int .i64 t315, .string t316, .bool false] 33 (0, 0))) := ⟨by rw [← hq_]; exact (by (with_reducible repeat (first | refine blk_drewN ?_ _ | refine blk_drew ?_ | refine blk_alloc ?_ _)); exact BK318.out)⟩; have n4_ : Aside0 (Below w.heap.size w wr) := ⟨by rw [← hq_]; exact (by repeat (first | (with_reducible first | exact HB.out | apply below_alloc | apply pw_below_drewN | apply below_drew1 | refine below_set ?_ GE318.out) | exact HB.out))⟩; clear HO_3 HO_6 HO_7 BK318 HB hq_; have HO_3 := n0_; have HO_6 := n1_; have HO_7 := n2_; have BK318 := n3_; have HB := n4_; clear n0_ n1_ n2_ n3_ n4_)); (try (obtain ⟨Ao23, co23, eo23⟩ := Kd.R_slice HO_7.out; subst eo23))) | ((with_reducible refine gate_callee (f := 26) rfl ?_); refine goesL_ _ rfl rfl Try.func26 (by kernel_rfl) rfl #[.slice Ao23 x7_3.length co23, .string t326] rfl (by (try simp only [List.map_toArray, List.map_cons, List.map_nil]); first | done | rfl | (simp only [List.length_drop, List.length_take]; rfl)) ?_; (with_reducible refine (collatorref02_Find.calls k3 _ _ x7_3 t326 t327 t328 t329 t330 true _ ?side1 ?side2 A20.out).mono ?_); (case side1 => repeat (first | exact (Kd.R_reads' HO_7.out).2.2 | (with_reducible refine Kd.C_alloc ?_ _) | (with_reducible refine Kd.C_drewN ?_ _) | (with_reducible refine Kd.C_drew ?_))); (case side2 => exact (Kd.R_reads' HO_7.out).2.1); rintro e w24 ⟨rfl, hb⟩; refine ⟨_, rfl, ?_⟩; have n0_ := Aside0.mk (Kd.R_below (by (with_reducible repeat (first | apply Kd.R_alloc | apply Kd.R_drewN | apply Kd.R_drew)); exact HO_3.out) hb); have n1_ := Aside0.mk (Kd.R_below (by (with_reducible repeat (first | apply Kd.R_alloc | apply Kd.R_drewN | apply Kd.R_drew)); exact HO_6.out) hb); have n2_ := Aside0.mk (Kd.R_below (by (with_reducible repeat (first | apply Kd.R_alloc | apply Kd.R_drewN | apply Kd.R_drew)); exact HO_7.out) hb); have n3_ := Aside0.mk (blk_below (g := gb318) (o := .cells #[.string t314, .int .i64 t315, .string t316, .bool false] 33 (0, 0)) (by (with_reducible repeat (first | refine blk_drewN ?_ _ | refine blk_drew ?_ | refine blk_alloc ?_ _)); exact BK318.out) hb); have n4_ := Aside0.mk (below_step (by repeat (first | (with_reducible first | exact HB.out | apply below_alloc | apply pw_below_drewN | apply below_drew1 | refine below_set ?_ GE318.out) | exact HB.out)) hb); clear HO_3; clear HO_6; clear HO_7; clear BK318; clear HB; have HO_3 := n0_; have HO_6 := n1_; have HO_7 := n2_; have BK318 := n3_; have HB := n4_; clear n0_ n1_ n2_ n3_ n4_; (try clear hb); (try clear hb2); (try clear hk); (try clear hi)) | ((with_reducible refine gate_dst (N := 10) rfl ?_); refine box_event ?hg (N := 10) ?hd (cs := #[.string (⟨#[]⟩ : ByteArray), .int .i64 0, .string (⟨#[]⟩ : ByteArray), .bool false]) (t := 33) ?hr ?_; (case hd => rfl); (case hg => rfl); (case hr => first | (go_simp; done) | (go_simp; rfl)); intro gb332 hg w25 hbox hb; have n0_ := Aside0.mk (Kd.R_below (Kd.R_elderB (by (with_reducible repeat (first | apply Kd.R_alloc | apply Kd.R_drewN | apply Kd.R_drew)); exact HO_3.out) gb332 (Nat.le_of_eq hg.symm)) hb); have n1_ := Aside0.mk (Kd.R_below (by (with_reducible repeat (first | apply Kd.R_alloc | apply Kd.R_drewN | apply Kd.R_drew)); exact HO_6.out) hb); have n2_ := Aside0.mk (Kd.R_below (Kd.R_elderB (by (with_reducible repeat (first | apply Kd.R_alloc | apply Kd.R_drewN | apply Kd.R_drew)); exact HO_7.out) gb332 (Nat.le_of_eq hg.symm)) hb); have n3_ := Aside0.mk (blk_below (g := gb318) (o := .cells #[.string t314, .int .i64 t315, .string t316, .bool false] 33 (0, 0)) (by (with_reducible repeat (first | refine blk_drewN ?_ _ | refine blk_drew ?_ | refine blk_alloc ?_ _)); exact BK318.out) hb); have n4_ := Aside0.mk (below_step (by repeat (first | (with_reducible first | exact HB.out | apply below_alloc | apply pw_below_drewN | apply below_drew1 | refine below_set ?_ GE318.out) | exact HB.out)) hb); have n5_ := Aside0.mk (hbox); have n6_ := Aside0.mk ((by rw [hg]; exact (below_size (by repeat (first | (with_reducible first | exact HB.out | apply below_alloc | apply pw_below_drewN | apply below_drew1 | refine below_set ?_ GE318.out) | exact HB.out))) : w.heap.size ≤ gb332)); have n7_ := Aside0.mk ((by rw [hg]; exact (below_size (by repeat (first | (with_reducible first | exact HB.out | apply below_alloc | apply pw_below_drewN | apply below_drew1 | refine below_set ?_ GE318.out) | exact HB.out))) : w.heap.size ≤ gb332)); have n8_ := Aside0.mk ((by rw [hg]; exact Nat.ne_of_lt (blk_lt (g := gb318) (o := .cells #[.string t314, .int .i64 t315, .string t316, .bool false] 33 (0, 0)) (by (with_reducible repeat (first | refine blk_drewN ?_ _ | refine blk_drew ?_ | refine blk_alloc ?_ _)); exact BK318.out)) : gb318 ≠ gb332)); have n9_ := Aside0.mk ((by rw [hg]; exact Nat.ne_of_gt (blk_lt (g := gb318) (o := .cells #[.string t314, .int .i64 t315, .string t316, .bool false] 33 (0, 0)) (by (with_reducible repeat (first | refine blk_drewN ?_ _ | refine blk_drew ?_ | refine blk_alloc ?_ _)); exact BK318.out)) : gb332 ≠ gb318)); clear HO_3; clear HO_6; clear HO_7; clear BK318; clear HB; have HO_3 := n0_; have HO_6 := n1_; have HO_7 := n2_; have BK318 := n3_; have HB := n4_; have BK332 := n5_; have GW332 := n6_; have GE332 := n7_; have NB318_332 := n8_; have NB332_318 := n9_; clear n0_ n1_ n2_ n3_ n4_ n5_ n6_ n7_ n8_ n9_; clear hb hbox hg; have hnb26 := NB332_318.out; have hnc26 := NB318_332.out; have hcz27_0 : w25.cell? ⟨gb332, 0, none⟩ = some (.string (⟨#[]⟩ : ByteArray)) := (blk_cell BK332.out 0).trans rfl; have hcz27_1 : w25.cell? ⟨gb332, 1, none⟩ = some (.int .i64 0) := (blk_cell BK332.out 1).trans rfl; have hcz27_2 : w25.cell? ⟨gb332, 2, none⟩ = some (.string (⟨#[]⟩ : ByteArray)) := (blk_cell BK332.out 2).trans rfl; have hcz27_3 : w25.cell? ⟨gb332, 3, none⟩ = some (.bool false) := (blk_cell BK332.out 3).trans rfl; have hfz27_0 := blk_frozen BK332.out 0; have hfz27_1 := blk_frozen BK332.out 1; have hfz27_2 := blk_frozen BK332.out 2; have hfz27_3 := blk_frozen BK332.out 3))
               go_roundg k3
               case measure => have := HK1.out; have := HJ1.out; have := HK3.out; omega
               case rel => exact ⟨(x7_3), (t326), (wrap64 (x9_3 + 1)), (by first | rfl | (simp; done) | (simp [*]; done)), (by first | rfl | (simp; done) | (simp [*]; done)), H', ⟨by have := HK1.out; have := HJ1.out; have := HK3.out; omega⟩, ⟨by (with_reducible repeat (first | apply Kd.R_alloc | apply Kd.R_drewN | apply Kd.R_drew)); exact Kd.R_mono (Kd.R_far (p := ⟨gb332, 3, none⟩) (Kd.R_far (p := ⟨gb332, 2, none⟩) (Kd.R_far (p := ⟨gb332, 1, none⟩) (Kd.R_far (p := ⟨gb332, 0, none⟩) (Kd.R_mono HO_3.out (fun k_ hk => (⟨hk, hk.2⟩ : _ ∧ k_ ≠ gb332))) (fun _ hk => hk.2) (.string t327)) (fun _ hk => hk.2) (.int .i64 t328)) (fun _ hk => hk.2) (.string t329)) (fun _ hk => hk.2) (.bool t330)) (fun _ hk => by first | exact ⟨hk.1.1.1, hk.1.1.2⟩ | simp_all)⟩, ⟨by (with_reducible repeat (first | apply Kd.R_alloc | apply Kd.R_drewN | apply Kd.R_drew)); exact Kd.R_mono (Kd.R_far (p := ⟨gb332, 3, none⟩) (Kd.R_far (p := ⟨gb332, 2, none⟩) (Kd.R_far (p := ⟨gb332, 1, none⟩) (Kd.R_far (p := ⟨gb332, 0, none⟩) (Kd.R_types HO_6.out BK332.out (by decide)) (fun _ hk => hk.2) (.string t327)) (fun _ hk => hk.2) (.int .i64 t328)) (fun _ hk => hk.2) (.string t329)) (fun _ hk => hk.2) (.bool t330)) (fun _ hk => trivial)⟩, ⟨by (with_reducible repeat (first | apply Kd.R_alloc | apply Kd.R_drewN | apply Kd.R_drew)); exact Kd.R_mono (Kd.R_far (p := ⟨gb332, 3, none⟩) (Kd.R_far (p := ⟨gb332, 2, none⟩) (Kd.R_far (p := ⟨gb332, 1, none⟩) (Kd.R_far (p := ⟨gb332, 0, none⟩) (Kd.R_mono HO_7.out (fun k_ hk => (⟨hk, hk.2⟩ : _ ∧ k_ ≠ gb332))) (fun _ hk => hk.2) (.string t327)) (fun _ hk => hk.2) (.int .i64 t328)) (fun _ hk => hk.2) (.string t329)) (fun _ hk => hk.2) (.bool t330)) (fun _ hk => by first | exact ⟨hk.1.1.1, hk.1.1.2⟩ | simp_all)⟩, ⟨by (with_reducible repeat (first | refine blk_drewN ?_ _ | refine blk_drew ?_ | refine blk_alloc ?_ _)); refine blk_far ?_ NB318_332.out _; (with_reducible repeat (first | refine blk_drewN ?_ _ | refine blk_drew ?_ | refine blk_alloc ?_ _)); refine blk_far ?_ NB318_332.out _; (with_reducible repeat (first | refine blk_drewN ?_ _ | refine blk_drew ?_ | refine blk_alloc ?_ _)); refine blk_far ?_ NB318_332.out _; (with_reducible repeat (first | refine blk_drewN ?_ _ | refine blk_drew ?_ | refine blk_alloc ?_ _)); refine blk_far ?_ NB318_332.out _; (with_reducible repeat (first | refine blk_drewN ?_ _ | refine blk_drew ?_ | refine blk_alloc ?_ _)); exact BK318.out⟩, ⟨by repeat (first | (with_reducible first | exact HB.out | apply below_alloc | apply pw_below_drewN | apply below_drew1 | refine below_set ?_ GE318.out | refine below_set ?_ GE332.out) | exact HB.out)⟩⟩
              ·replace c21 := Bool.eq_false_iff.mpr c21
               subst c21
               have H1 : (if x7_3.length < 2932031007402 then (collatorlaw02_Tree.l1 k3 l0 x3_1 x4_1 t319 (x7_3 ++ [(⟨t326, 1, (⟨#[]⟩ : ByteArray), false⟩ : S33)]) t326 (wrap64 (x9_3 + 1)) t314 t315 t316 false) else (none)) = some r := by rw [if_neg (show ¬ (false = true) by decide)] at H; exact H
               clear H
               have H := H1
               clear H1
               by_cases c28 : x7_3.length < 2932031007402
               ·rw [if_pos c28] at H
                have LMc28 := Aside0.mk c28
                clear c28
                obtain ⟨y333, hy333⟩ : ∃ y_ : List (S33), y_ = (x7_3 ++ [(⟨t326, 1, (⟨#[]⟩ : ByteArray), false⟩ : S33)]) := ⟨_, rfl⟩
                replace H : (collatorlaw02_Tree.l1 k3 l0 x3_1 x4_1 t319 y333 t326 (wrap64 (x9_3 + 1)) t314 t315 t316 false) = some r := by first | (rw [hy333]; with_reducible exact H) | (have H2_ := (Option.bind_some _ _).symm.trans H; rw [hy333]; with_reducible exact H2_) | (have H2_ := (Option.bind_some _ _).symm.trans H; with_reducible exact H2_) | with_reducible exact H | (rw [hy333]; exact H) | exact H
                have Ny333 := Aside0.mk hy333
                clear hy333
                have H' := Aside0.mk H
                clear H
                obtain ⟨Ao29, co29, eo29⟩ := Kd.R_slice HO_6.out
                subst eo29
                have p325 : 0 ≤ (x9_3 : Int) := of_decide_eq_true (by first | (with_reducible assumption) | assumption)
                have q325 : x9_3 < (t319.length : Int) := of_decide_eq_true (by first | (with_reducible assumption) | assumption)
                obtain ⟨ad325, e325, hx325_0⟩ := Kd.at_string (Kd.R_reads' HO_6.out).2.2 x9_3 p325 q325
                cases e325
                replace p325 := eq_true p325
                replace q325 := eq_true q325
                go_wp2_with (first | ((with_reducible refine gate_callee (f := 25) rfl ?_); refine goesL_ _ rfl rfl Try.func25 (by kernel_rfl) rfl #[.string x8_3, .string (rdOf ByteArray.empty t319 x9_3)] rfl (by (try simp only [List.map_toArray, List.map_cons, List.map_nil]); first | done | rfl | (simp only [List.length_drop, List.length_take]; rfl)) ?_; (with_reducible refine (collatorref01_Join.calls x8_3 (rdOf ByteArray.empty t319 x9_3) t326 _ A19.out).mono ?_); rintro e w' ⟨rfl, ⟨nd, rfl⟩⟩; refine ⟨_, rfl, ?_⟩; (try (rw [drewN_self wr]; generalize hq_ : World.drewN wr _ = wr; have n0_ : Aside0 (Kd.R k33 33 wr w.heap.size (fun k_ => some k_ ≠ (u7 : Value).ownBlock ∧ k_ ≠ gb318) (.slice Ao15 x3_1.length co15) x3_1) := ⟨by rw [← hq_]; exact (by (with_reducible repeat (first | apply Kd.R_alloc | apply Kd.R_drewN | apply Kd.R_drew)); exact HO_3.out)⟩; have n1_ : Aside0 (Kd.R Kd.string 9 wr w.heap.size (fun _ => True) (.slice (some ad325) t319.length co29) t319) := ⟨by rw [← hq_]; exact (by (with_reducible repeat (first | apply Kd.R_alloc | apply Kd.R_drewN | apply Kd.R_drew)); exact HO_6.out)⟩; have n2_ : Aside0 (Kd.R k33 33 wr w.heap.size (fun k_ => some k_ ≠ (.slice Ao15 x3_1.length co15 : Value).ownBlock ∧ k_ ≠ gb318) u7 x7_3) := ⟨by rw [← hq_]; exact (by (with_reducible repeat (first | apply Kd.R_alloc | apply Kd.R_drewN | apply Kd.R_drew)); exact HO_7.out)⟩; have n3_ : Aside0 (wr.heap[gb318]? = some (.cells #[.string t314, .int .i64 t315, .string t316, .bool false] 33 (0, 0))) := ⟨by rw [← hq_]; exact (by (with_reducible repeat (first | refine blk_drewN ?_ _ | refine blk_drew ?_ | refine blk_alloc ?_ _)); exact BK318.out)⟩; have n4_ : Aside0 (Below w.heap.size w wr) := ⟨by rw [← hq_]; exact (by repeat (first | (with_reducible first | exact HB.out | apply below_alloc | apply pw_below_drewN | apply below_drew1 | refine below_set ?_ GE318.out) | exact HB.out))⟩; clear HO_3 HO_6 HO_7 BK318 HB hq_; have HO_3 := n0_; have HO_6 := n1_; have HO_7 := n2_; have BK318 := n3_; have HB := n4_; clear n0_ n1_ n2_ n3_ n4_)); (try (obtain ⟨Ao30, co30, eo30⟩ := Kd.R_slice HO_7.out; subst eo30))) | ((with_reducible refine gate_callee (f := 26) rfl ?_); refine goesL_ _ rfl rfl Try.func26 (by kernel_rfl) rfl #[.slice Ao30 x7_3.length co30, .string t326] rfl (by (try simp only [List.map_toArray, List.map_cons, List.map_nil]); first | done | rfl | (simp only [List.length_drop, List.length_take]; rfl)) ?_; (with_reducible refine (collatorref02_Find.calls k3 _ _ x7_3 t326 t327 t328 t329 t330 false _ ?side1 ?side2 A20.out).mono ?_); (case side1 => repeat (first | exact (Kd.R_reads' HO_7.out).2.2 | (with_reducible refine Kd.C_alloc ?_ _) | (with_reducible refine Kd.C_drewN ?_ _) | (with_reducible refine Kd.C_drew ?_))); (case side2 => exact (Kd.R_reads' HO_7.out).2.1); rintro e w31 ⟨rfl, hb⟩; refine ⟨_, rfl, ?_⟩; have n0_ := Aside0.mk (Kd.R_below (by (with_reducible repeat (first | apply Kd.R_alloc | apply Kd.R_drewN | apply Kd.R_drew)); exact HO_3.out) hb); have n1_ := Aside0.mk (Kd.R_below (by (with_reducible repeat (first | apply Kd.R_alloc | apply Kd.R_drewN | apply Kd.R_drew)); exact HO_6.out) hb); have n2_ := Aside0.mk (Kd.R_below (by (with_reducible repeat (first | apply Kd.R_alloc | apply Kd.R_drewN | apply Kd.R_drew)); exact HO_7.out) hb); have n3_ := Aside0.mk (blk_below (g := gb318) (o := .cells #[.string t314, .int .i64 t315, .string t316, .bool false] 33 (0, 0)) (by (with_reducible repeat (first | refine blk_drewN ?_ _ | refine blk_drew ?_ | refine blk_alloc ?_ _)); exact BK318.out) hb); have n4_ := Aside0.mk (below_step (by repeat (first | (with_reducible first | exact HB.out | apply below_alloc | apply pw_below_drewN | apply below_drew1 | refine below_set ?_ GE318.out) | exact HB.out)) hb); clear HO_3; clear HO_6; clear HO_7; clear BK318; clear HB; have HO_3 := n0_; have HO_6 := n1_; have HO_7 := n2_; have BK318 := n3_; have HB := n4_; clear n0_ n1_ n2_ n3_ n4_; (try clear hb); (try clear hb2); (try clear hk); (try clear hi)) | ((with_reducible refine gate_dst (N := 10) rfl ?_); refine box_event ?hg (N := 10) ?hd (cs := #[.string (⟨#[]⟩ : ByteArray), .int .i64 0, .string (⟨#[]⟩ : ByteArray), .bool false]) (t := 33) ?hr ?_; (case hd => rfl); (case hg => rfl); (case hr => first | (go_simp; done) | (go_simp; rfl)); intro gb332 hg w32 hbox hb; have n0_ := Aside0.mk (Kd.R_below (Kd.R_elderB (by (with_reducible repeat (first | apply Kd.R_alloc | apply Kd.R_drewN | apply Kd.R_drew)); exact HO_3.out) gb332 (Nat.le_of_eq hg.symm)) hb); have n1_ := Aside0.mk (Kd.R_below (by (with_reducible repeat (first | apply Kd.R_alloc | apply Kd.R_drewN | apply Kd.R_drew)); exact HO_6.out) hb); have n2_ := Aside0.mk (Kd.R_below (Kd.R_elderB (by (with_reducible repeat (first | apply Kd.R_alloc | apply Kd.R_drewN | apply Kd.R_drew)); exact HO_7.out) gb332 (Nat.le_of_eq hg.symm)) hb); have n3_ := Aside0.mk (blk_below (g := gb318) (o := .cells #[.string t314, .int .i64 t315, .string t316, .bool false] 33 (0, 0)) (by (with_reducible repeat (first | refine blk_drewN ?_ _ | refine blk_drew ?_ | refine blk_alloc ?_ _)); exact BK318.out) hb); have n4_ := Aside0.mk (below_step (by repeat (first | (with_reducible first | exact HB.out | apply below_alloc | apply pw_below_drewN | apply below_drew1 | refine below_set ?_ GE318.out) | exact HB.out)) hb); have n5_ := Aside0.mk (hbox); have n6_ := Aside0.mk ((by rw [hg]; exact (below_size (by repeat (first | (with_reducible first | exact HB.out | apply below_alloc | apply pw_below_drewN | apply below_drew1 | refine below_set ?_ GE318.out) | exact HB.out))) : w.heap.size ≤ gb332)); have n7_ := Aside0.mk ((by rw [hg]; exact (below_size (by repeat (first | (with_reducible first | exact HB.out | apply below_alloc | apply pw_below_drewN | apply below_drew1 | refine below_set ?_ GE318.out) | exact HB.out))) : w.heap.size ≤ gb332)); have n8_ := Aside0.mk ((by rw [hg]; exact Nat.ne_of_lt (blk_lt (g := gb318) (o := .cells #[.string t314, .int .i64 t315, .string t316, .bool false] 33 (0, 0)) (by (with_reducible repeat (first | refine blk_drewN ?_ _ | refine blk_drew ?_ | refine blk_alloc ?_ _)); exact BK318.out)) : gb318 ≠ gb332)); have n9_ := Aside0.mk ((by rw [hg]; exact Nat.ne_of_gt (blk_lt (g := gb318) (o := .cells #[.string t314, .int .i64 t315, .string t316, .bool false] 33 (0, 0)) (by (with_reducible repeat (first | refine blk_drewN ?_ _ | refine blk_drew ?_ | refine blk_alloc ?_ _)); exact BK318.out)) : gb332 ≠ gb318)); clear HO_3; clear HO_6; clear HO_7; clear BK318; clear HB; have HO_3 := n0_; have HO_6 := n1_; have HO_7 := n2_; have BK318 := n3_; have HB := n4_; have BK332 := n5_; have GW332 := n6_; have GE332 := n7_; have NB318_332 := n8_; have NB332_318 := n9_; clear n0_ n1_ n2_ n3_ n4_ n5_ n6_ n7_ n8_ n9_; clear hb hbox hg; have hnb33 := NB332_318.out; have hnc33 := NB318_332.out; have hcz34_0 : w32.cell? ⟨gb332, 0, none⟩ = some (.string (⟨#[]⟩ : ByteArray)) := (blk_cell BK332.out 0).trans rfl; have hcz34_1 : w32.cell? ⟨gb332, 1, none⟩ = some (.int .i64 0) := (blk_cell BK332.out 1).trans rfl; have hcz34_2 : w32.cell? ⟨gb332, 2, none⟩ = some (.string (⟨#[]⟩ : ByteArray)) := (blk_cell BK332.out 2).trans rfl; have hcz34_3 : w32.cell? ⟨gb332, 3, none⟩ = some (.bool false) := (blk_cell BK332.out 3).trans rfl; have hfz34_0 := blk_frozen BK332.out 0; have hfz34_1 := blk_frozen BK332.out 1; have hfz34_2 := blk_frozen BK332.out 2; have hfz34_3 := blk_frozen BK332.out 3) | ((with_reducible refine gate_builtin (b := .append) (xs := #[.tmp 54, .tmp 57]) rfl ?_); at_builtin; refine Kd.R_append k33 (w0 := w) w.heap.size rfl (.tmp 54) (.tmp 57) 23 33 (.agg #[(.string ⟨#[]⟩), (.int .i64 0), (.string ⟨#[]⟩), (.bool false)]) 48 rfl Try.underlying23 info33 rfl (by decide) (by omega) (.slice Ao30 x7_3.length co30) x7_3 (⟨t326, 1, (⟨#[]⟩ : ByteArray), false⟩ : S33) [.string t326, .int .i64 1, .string (⟨#[]⟩ : ByteArray), .bool false] (fun k_ => some k_ ≠ (.slice Ao15 x3_1.length co15 : Value).ownBlock ∧ k_ ≠ gb318 ∧ k_ ≠ gb332) (fun _ => False) rfl (by first | (go_simp; done) | (go_simp; rfl)) ?aP (fun _ hk => hk.elim) ?aF ?aO ?aB ?aS ?aL ?_; (case aP => exact k33_mkM _ _ _ (⟨t326, 1, (⟨#[]⟩ : ByteArray), false⟩ : S33)); (case aB => exact (by repeat (first | (with_reducible first | exact HB.out | apply below_alloc | apply pw_below_drewN | apply below_drew1 | refine below_set ?_ GE318.out | refine below_set ?_ GE332.out) | exact HB.out))); (case aF => exact (fun k_ hk => ⟨Kd.fresh' (Kd.R_lt (by (with_reducible repeat (first | apply Kd.R_alloc | apply Kd.R_drewN | apply Kd.R_drew)); exact (Kd.R_mono (Kd.R_far (p := ⟨gb332, 3, none⟩) (Kd.R_far (p := ⟨gb332, 2, none⟩) (Kd.R_far (p := ⟨gb332, 1, none⟩) (Kd.R_far (p := ⟨gb332, 0, none⟩) (Kd.R_mono HO_3.out (fun k_ hk => (⟨hk, hk.2⟩ : _ ∧ k_ ≠ gb332))) (fun _ hk => hk.2) (.string t327)) (fun _ hk => hk.2) (.int .i64 t328)) (fun _ hk => hk.2) (.string t329)) (fun _ hk => hk.2) (.bool t330)) (fun _ h_ => h_.1)))) k_ hk, Kd.freshB (g := gb318) (o := .cells #[.string t314, .int .i64 t315, .string t316, .bool false] 33 (0, 0)) (by (with_reducible repeat (first | refine blk_drewN ?_ _ | refine blk_drew ?_ | refine blk_alloc ?_ _)); refine blk_far ?_ NB318_332.out _; (with_reducible repeat (first | refine blk_drewN ?_ _ | refine blk_drew ?_ | refine blk_alloc ?_ _)); refine blk_far ?_ NB318_332.out _; (with_reducible repeat (first | refine blk_drewN ?_ _ | refine blk_drew ?_ | refine blk_alloc ?_ _)); refine blk_far ?_ NB318_332.out _; (with_reducible repeat (first | refine blk_drewN ?_ _ | refine blk_drew ?_ | refine blk_alloc ?_ _)); refine blk_far ?_ NB318_332.out _; (with_reducible repeat (first | refine blk_drewN ?_ _ | refine blk_drew ?_ | refine blk_alloc ?_ _)); exact BK318.out) k_ hk, Kd.freshB (g := gb332) (o := .cells #[.string t327, .int .i64 t328, .string t329, .bool t330] 33 (0, 0)) (by (with_reducible repeat (first | refine blk_drewN ?_ _ | refine blk_drew ?_ | refine blk_alloc ?_ _)); refine blk_put (cs := #[.string t327, .int .i64 t328, .string t329, .bool false]) ?_ 3 _ rfl; (with_reducible repeat (first | refine blk_drewN ?_ _ | refine blk_drew ?_ | refine blk_alloc ?_ _)); refine blk_put (cs := #[.string t327, .int .i64 t328, .string (⟨#[]⟩ : ByteArray), .bool false]) ?_ 2 _ rfl; (with_reducible repeat (first | refine blk_drewN ?_ _ | refine blk_drew ?_ | refine blk_alloc ?_ _)); refine blk_put (cs := #[.string t327, .int .i64 0, .string (⟨#[]⟩ : ByteArray), .bool false]) ?_ 1 _ rfl; (with_reducible repeat (first | refine blk_drewN ?_ _ | refine blk_drew ?_ | refine blk_alloc ?_ _)); refine blk_put (cs := #[.string (⟨#[]⟩ : ByteArray), .int .i64 0, .string (⟨#[]⟩ : ByteArray), .bool false]) ?_ 0 _ rfl; (with_reducible repeat (first | refine blk_drewN ?_ _ | refine blk_drew ?_ | refine blk_alloc ?_ _)); exact BK332.out) k_ hk⟩)); (case aO => exact (by (with_reducible repeat (first | apply Kd.R_alloc | apply Kd.R_drewN | apply Kd.R_drew)); exact Kd.R_mono (Kd.R_far (p := ⟨gb332, 3, none⟩) (Kd.R_far (p := ⟨gb332, 2, none⟩) (Kd.R_far (p := ⟨gb332, 1, none⟩) (Kd.R_far (p := ⟨gb332, 0, none⟩) (Kd.R_mono HO_7.out (fun k_ hk => (⟨hk, hk.2⟩ : _ ∧ k_ ≠ gb332))) (fun _ hk => hk.2) (.string t327)) (fun _ hk => hk.2) (.int .i64 t328)) (fun _ hk => hk.2) (.string t329)) (fun _ hk => hk.2) (.bool t330)) (fun _ hk => ⟨hk.1.1.1, ⟨hk.1.1.2, hk.1.2⟩⟩))); (case aS => exact (below_size (by repeat (first | (with_reducible first | exact HB.out | apply below_alloc | apply pw_below_drewN | apply below_drew1 | refine below_set ?_ GE318.out | refine below_set ?_ GE332.out) | exact HB.out)))); (case aL => have := LMc28.out; omega); intro v334 w35 ho hb hg hat; rw [← Ny333.out] at ho; have n0_ := Aside0.mk (Kd.R_after (ok := (fun k_ => k_ ≠ gb318 ∧ k_ ≠ gb332)) (by (with_reducible repeat (first | apply Kd.R_alloc | apply Kd.R_drewN | apply Kd.R_drew)); exact Kd.R_mono (Kd.R_far (p := ⟨gb332, 3, none⟩) (Kd.R_far (p := ⟨gb332, 2, none⟩) (Kd.R_far (p := ⟨gb332, 1, none⟩) (Kd.R_far (p := ⟨gb332, 0, none⟩) (Kd.R_mono HO_3.out (fun k_ hk => (⟨hk, hk.2⟩ : _ ∧ k_ ≠ gb332))) (fun _ hk => hk.2) (.string t327)) (fun _ hk => hk.2) (.int .i64 t328)) (fun _ hk => hk.2) (.string t329)) (fun _ hk => hk.2) (.bool t330)) (fun _ hk => ⟨⟨hk.1.1.2, hk.1.2⟩, hk.1.1.1⟩)) hg hat); have n1_ := Aside0.mk (Kd.R_over' (by (with_reducible repeat (first | apply Kd.R_alloc | apply Kd.R_drewN | apply Kd.R_drew)); exact (Kd.R_mono (Kd.R_far (p := ⟨gb332, 3, none⟩) (Kd.R_far (p := ⟨gb332, 2, none⟩) (Kd.R_far (p := ⟨gb332, 1, none⟩) (Kd.R_far (p := ⟨gb332, 0, none⟩) (Kd.R_types HO_6.out BK332.out (by decide)) (fun _ hk => hk.2) (.string t327)) (fun _ hk => hk.2) (.int .i64 t328)) (fun _ hk => hk.2) (.string t329)) (fun _ hk => hk.2) (.bool t330)) (fun _ h_ => h_.1))) (Kd.R_typed (by (with_reducible repeat (first | apply Kd.R_alloc | apply Kd.R_drewN | apply Kd.R_drew)); exact (Kd.R_mono (Kd.R_far (p := ⟨gb332, 3, none⟩) (Kd.R_far (p := ⟨gb332, 2, none⟩) (Kd.R_far (p := ⟨gb332, 1, none⟩) (Kd.R_far (p := ⟨gb332, 0, none⟩) (Kd.R_mono HO_7.out (fun k_ hk => (⟨hk, hk.2⟩ : _ ∧ k_ ≠ gb332))) (fun _ hk => hk.2) (.string t327)) (fun _ hk => hk.2) (.int .i64 t328)) (fun _ hk => hk.2) (.string t329)) (fun _ hk => hk.2) (.bool t330)) (fun _ h_ => h_.1)))) (by decide) hg); have n2_ := Aside0.mk (blk_grown (g := gb318) (o := .cells #[.string t314, .int .i64 t315, .string t316, .bool false] 33 (0, 0)) (by (with_reducible repeat (first | refine blk_drewN ?_ _ | refine blk_drew ?_ | refine blk_alloc ?_ _)); refine blk_far ?_ NB318_332.out _; (with_reducible repeat (first | refine blk_drewN ?_ _ | refine blk_drew ?_ | refine blk_alloc ?_ _)); refine blk_far ?_ NB318_332.out _; (with_reducible repeat (first | refine blk_drewN ?_ _ | refine blk_drew ?_ | refine blk_alloc ?_ _)); refine blk_far ?_ NB318_332.out _; (with_reducible repeat (first | refine blk_drewN ?_ _ | refine blk_drew ?_ | refine blk_alloc ?_ _)); refine blk_far ?_ NB318_332.out _; (with_reducible repeat (first | refine blk_drewN ?_ _ | refine blk_drew ?_ | refine blk_alloc ?_ _)); exact BK318.out) hg (Kd.R_away HO_7.out (fun _ hk => hk.1.2))); have n3_ := Aside0.mk (blk_grown (g := gb332) (o := .cells #[.string t327, .int .i64 t328, .string t329, .bool t330] 33 (0, 0)) (by (with_reducible repeat (first | refine blk_drewN ?_ _ | refine blk_drew ?_ | refine blk_alloc ?_ _)); refine blk_put (cs := #[.string t327, .int .i64 t328, .string t329, .bool false]) ?_ 3 _ rfl; (with_reducible repeat (first | refine blk_drewN ?_ _ | refine blk_drew ?_ | refine blk_alloc ?_ _)); refine blk_put (cs := #[.string t327, .int .i64 t328, .string (⟨#[]⟩ : ByteArray), .bool false]) ?_ 2 _ rfl; (with_reducible repeat (first | refine blk_drewN ?_ _ | refine blk_drew ?_ | refine blk_alloc ?_ _)); refine blk_put (cs := #[.string t327, .int .i64 0, .string (⟨#[]⟩ : ByteArray), .bool false]) ?_ 1 _ rfl; (with_reducible repeat (first | refine blk_drewN ?_ _ | refine blk_drew ?_ | refine blk_alloc ?_ _)); refine blk_put (cs := #[.string (⟨#[]⟩ : ByteArray), .int .i64 0, .string (⟨#[]⟩ : ByteArray), .bool false]) ?_ 0 _ rfl; (with_reducible repeat (first | refine blk_drewN ?_ _ | refine blk_drew ?_ | refine blk_alloc ?_ _)); exact BK332.out) hg (Kd.R_away HO_7.out (fun _ hk => hk.2))); have n4_ := Aside0.mk (hb); have n5_ := Aside0.mk (ho); clear HO_3; clear HO_6; clear BK318; clear BK332; clear HB; clear HO_7; have HO_3 := n0_; have HO_6 := n1_; have BK318 := n2_; have BK332 := n3_; have HB := n4_; have HO335 := n5_; clear n0_ n1_ n2_ n3_ n4_ n5_; clear ho hb hg hat))
                go_roundg k3
                case measure => have := HK1.out; have := HJ1.out; have := HK3.out; omega
                case rel => exact ⟨(y333), (t326), (wrap64 (x9_3 + 1)), (by first | rfl | (simp; done) | (simp [*]; done)), (by first | rfl | (simp; done) | (simp [*]; done)), H', ⟨by have := HK1.out; have := HJ1.out; have := HK3.out; omega⟩, ⟨by (with_reducible repeat (first | apply Kd.R_alloc | apply Kd.R_drewN | apply Kd.R_drew)); exact Kd.R_mono HO_3.out (fun _ hk => by first | exact ⟨hk.2, hk.1.1⟩ | simp_all)⟩, ⟨by (with_reducible repeat (first | apply Kd.R_alloc | apply Kd.R_drewN | apply Kd.R_drew)); exact HO_6.out⟩, ⟨by (with_reducible repeat (first | apply Kd.R_alloc | apply Kd.R_drewN | apply Kd.R_drew)); exact Kd.R_mono HO335.out (fun _ hk => by first | exact ⟨hk.1, hk.2.1⟩ | simp_all)⟩, ⟨by (with_reducible repeat (first | refine blk_drewN ?_ _ | refine blk_drew ?_ | refine blk_alloc ?_ _)); exact BK318.out⟩, ⟨by repeat (first | (with_reducible first | exact HB.out | apply below_alloc | apply pw_below_drewN | apply below_drew1 | refine below_set ?_ GE318.out | refine below_set ?_ GE332.out) | exact HB.out)⟩⟩
               ·rw [if_neg c28] at H
                exact absurd H (by simp)
             ·rw [if_neg c18] at H
              exact absurd H (by simp)
            ·rw [if_neg c17] at H
             exact absurd H (by simp)
           ·rw [if_neg c16] at H
            have c16b0 : decide ((wrap64 (x9_3 + 1)) < (t319.length : Int)) = false := decide_eq_false c16
            clear c16
            by_cases c36 : x7_3.length < 2932031007402
            ·rw [if_pos c36] at H
             have LMc36 := Aside0.mk c36
             clear c36
             obtain ⟨y336, hy336⟩ : ∃ y_ : List (S33), y_ = (x7_3 ++ [(⟨t314, t315, t316, false⟩ : S33)]) := ⟨_, rfl⟩
             replace H : ((collatorlaw02_Wide.f).bind fun bt339 => ((collatorref02_Check.f k3 y336 bt339.1 bt339.2.1 bt339.2.2).bind fun bt342 => (if bt342.2 = 0 then (collatorlaw02_Tree.l0 k3 l0 y336 (wrap64 (x4_1 + 1))) else (collatorlaw02_Tree.l0 k3 l0 x3_1 (wrap64 (x4_1 + 1)))))) = some r := by first | (rw [hy336]; with_reducible exact H) | (have H2_ := (Option.bind_some _ _).symm.trans H; rw [hy336]; with_reducible exact H2_) | (have H2_ := (Option.bind_some _ _).symm.trans H; with_reducible exact H2_) | with_reducible exact H | (rw [hy336]; exact H) | exact H
             have Ny336 := Aside0.mk hy336
             clear hy336
             replace H := Option.bind_eq_some_iff.mp H
             obtain ⟨⟨t339, t340, t341⟩, A370, H⟩ := H
             replace H : ((collatorref02_Check.f k3 y336 t339 t340 t341).bind fun bt342 => (if bt342.2 = 0 then (collatorlaw02_Tree.l0 k3 l0 y336 (wrap64 (x4_1 + 1))) else (collatorlaw02_Tree.l0 k3 l0 x3_1 (wrap64 (x4_1 + 1))))) = some r := H
             have A37 := Aside0.mk A370
             clear A370
             replace H := Option.bind_eq_some_iff.mp H
             obtain ⟨⟨t342, t343⟩, A380, H⟩ := H
             replace H : (if t343 = 0 then (collatorlaw02_Tree.l0 k3 l0 y336 (wrap64 (x4_1 + 1))) else (collatorlaw02_Tree.l0 k3 l0 x3_1 (wrap64 (x4_1 + 1)))) = some r := H
             have A38 := Aside0.mk A380
             clear A380
             by_cases c39 : t343 = 0
             ·rw [if_pos c39] at H
              have c39b0 : (t343 == 0) = true := beq_iff_eq.mpr c39
              have c39b1 : (t343 != 0) = false := bne_eq_false_iff_eq.mpr c39
              clear c39
              have H' := Aside0.mk H
              clear H
              obtain ⟨Ao40, co40, eo40⟩ := Kd.R_slice HO_6.out
              subst eo40
              have hcz41_0 : wr.cell? ⟨gb318, 0, none⟩ = some (.string t314) := (blk_cell BK318.out 0).trans rfl
              have hcz41_1 : wr.cell? ⟨gb318, 1, none⟩ = some (.int .i64 t315) := (blk_cell BK318.out 1).trans rfl
              have hcz41_2 : wr.cell? ⟨gb318, 2, none⟩ = some (.string t316) := (blk_cell BK318.out 2).trans rfl
              have hcz41_3 : wr.cell? ⟨gb318, 3, none⟩ = some (.bool false) := (blk_cell BK318.out 3).trans rfl
              have hfz41_0 := blk_frozen BK318.out 0
              have hfz41_1 := blk_frozen BK318.out 1
              have hfz41_2 := blk_frozen BK318.out 2
              have hfz41_3 := blk_frozen BK318.out 3
              go_wp2_with (first | ((with_reducible refine gate_builtin (b := .append) (xs := #[.tmp 59, .tmp 61]) rfl ?_); at_builtin; refine Kd.R_append k33 (w0 := w) w.heap.size rfl (.tmp 59) (.tmp 61) 23 33 (.agg #[(.string ⟨#[]⟩), (.int .i64 0), (.string ⟨#[]⟩), (.bool false)]) 48 rfl Try.underlying23 info33 rfl (by decide) (by omega) u7 x7_3 (⟨t314, t315, t316, false⟩ : S33) [.string t314, .int .i64 t315, .string t316, .bool false] (fun k_ => some k_ ≠ (.slice Ao15 x3_1.length co15 : Value).ownBlock ∧ k_ ≠ gb318) (fun _ => False) rfl rfl ?aP (fun _ hk => hk.elim) ?aF ?aO ?aB ?aS ?aL ?_; (case aP => exact k33_mkM _ _ _ (⟨t314, t315, t316, false⟩ : S33)); (case aB => exact (by repeat (first | (with_reducible first | exact HB.out | apply below_alloc | apply pw_below_drewN | apply below_drew1 | refine below_set ?_ GE318.out) | exact HB.out))); (case aF => exact (fun k_ hk => ⟨Kd.fresh' (Kd.R_lt (by (with_reducible repeat (first | apply Kd.R_alloc | apply Kd.R_drewN | apply Kd.R_drew)); exact HO_3.out)) k_ hk, Kd.freshB (g := gb318) (o := .cells #[.string t314, .int .i64 t315, .string t316, .bool false] 33 (0, 0)) (by (with_reducible repeat (first | refine blk_drewN ?_ _ | refine blk_drew ?_ | refine blk_alloc ?_ _)); exact BK318.out) k_ hk⟩)); (case aO => exact (by (with_reducible repeat (first | apply Kd.R_alloc | apply Kd.R_drewN | apply Kd.R_drew)); exact HO_7.out)); (case aS => exact (below_size (by repeat (first | (with_reducible first | exact HB.out | apply below_alloc | apply pw_below_drewN | apply below_drew1 | refine below_set ?_ GE318.out) | exact HB.out)))); (case aL => have := LMc36.out; omega); intro v337 w42 ho hb hg hat; rw [← Ny336.out] at ho; have n0_ := Aside0.mk (Kd.R_after (ok := (fun k_ => k_ ≠ gb318)) (by (with_reducible repeat (first | apply Kd.R_alloc | apply Kd.R_drewN | apply Kd.R_drew)); exact Kd.R_mono HO_3.out (fun _ hk => by first | exact ⟨hk.2, hk.1⟩ | simp_all)) hg hat); have n1_ := Aside0.mk (Kd.R_over' (by (with_reducible repeat (first | apply Kd.R_alloc | apply Kd.R_drewN | apply Kd.R_drew)); exact HO_6.out) (Kd.R_typed (by (with_reducible repeat (first | apply Kd.R_alloc | apply Kd.R_drewN | apply Kd.R_drew)); exact HO_7.out)) (by decide) hg); have n2_ := Aside0.mk (blk_grown (g := gb318) (o := .cells #[.string t314, .int .i64 t315, .string t316, .bool false] 33 (0, 0)) (by (with_reducible repeat (first | refine blk_drewN ?_ _ | refine blk_drew ?_ | refine blk_alloc ?_ _)); exact BK318.out) hg (Kd.R_away HO_7.out (fun _ hk => hk.2))); have n3_ := Aside0.mk (hb); have n4_ := Aside0.mk (ho); clear HO_3; clear HO_6; clear BK318; clear HB; clear HO_7; have HO_3 := n0_; have HO_6 := n1_; have BK318 := n2_; have HB := n3_; have HO338 := n4_; clear n0_ n1_ n2_ n3_ n4_; clear ho hb hg hat) | ((with_reducible refine gate_callee (f := 28) rfl ?_); refine goesL_ _ rfl rfl Try.func28 (by kernel_rfl) rfl #[] rfl (by (try simp only [List.map_toArray, List.map_cons, List.map_nil]); first | done | rfl | (simp only [List.length_drop, List.length_take]; rfl)) ?_; (with_reducible refine (collatorlaw02_Wide.calls  t339 t340 t341 _ A37.out).mono ?_); rintro e w43 ⟨rfl, hb⟩; refine ⟨_, rfl, ?_⟩; have n0_ := Aside0.mk (Kd.R_below (by (with_reducible repeat (first | apply Kd.R_alloc | apply Kd.R_drewN | apply Kd.R_drew)); exact HO_3.out) hb); have n1_ := Aside0.mk (Kd.R_below (by (with_reducible repeat (first | apply Kd.R_alloc | apply Kd.R_drewN | apply Kd.R_drew)); exact HO_6.out) hb); have n2_ := Aside0.mk (Kd.R_below (by (with_reducible repeat (first | apply Kd.R_alloc | apply Kd.R_drewN | apply Kd.R_drew)); exact HO338.out) hb); have n3_ := Aside0.mk (blk_below (g := gb318) (o := .cells #[.string t314, .int .i64 t315, .string t316, .bool false] 33 (0, 0)) (by (with_reducible repeat (first | refine blk_drewN ?_ _ | refine blk_drew ?_ | refine blk_alloc ?_ _)); exact BK318.out) hb); have n4_ := Aside0.mk (below_step (by repeat (first | (with_reducible first | exact HB.out | apply below_alloc | apply pw_below_drewN | apply below_drew1 | refine below_set ?_ GE318.out) | exact HB.out)) hb); clear HO_3; clear HO_6; clear HO338; clear BK318; clear HB; have HO_3 := n0_; have HO_6 := n1_; have HO338 := n2_; have BK318 := n3_; have HB := n4_; clear n0_ n1_ n2_ n3_ n4_; (try clear hb); (try clear hb2); (try clear hk); (try clear hi); (try (obtain ⟨Ao44, co44, eo44⟩ := Kd.R_slice HO338.out; subst eo44))) | ((with_reducible refine gate_callee (f := 27) rfl ?_); refine goesL_ _ rfl rfl Try.func27 (by kernel_rfl) rfl #[.slice Ao44 y336.length co44, .agg #[.int .i64 t339, .int .i64 t340, .int .i64 t341]] rfl (by (try simp only [List.map_toArray, List.map_cons, List.map_nil]); first | done | rfl | (simp only [List.length_drop, List.length_take]; rfl)) ?_; (with_reducible refine (collatorref02_Check.calls k3 _ _ y336 t339 t340 t341 t342 t343 _ ?side1 ?side2 A38.out).mono ?_); (case side1 => repeat (first | exact (Kd.R_reads' HO338.out).2.2 | (with_reducible refine Kd.C_alloc ?_ _) | (with_reducible refine Kd.C_drewN ?_ _) | (with_reducible refine Kd.C_drew ?_))); (case side2 => exact (Kd.R_reads' HO338.out).2.1); rintro e w45 ⟨rfl, hb⟩; refine ⟨_, rfl, ?_⟩; have n0_ := Aside0.mk (Kd.R_below (by (with_reducible repeat (first | apply Kd.R_alloc | apply Kd.R_drewN | apply Kd.R_drew)); exact HO_3.out) hb); have n1_ := Aside0.mk (Kd.R_below (by (with_reducible repeat (first | apply Kd.R_alloc | apply Kd.R_drewN | apply Kd.R_drew)); exact HO_6.out) hb); have n2_ := Aside0.mk (Kd.R_below (by (with_reducible repeat (first | apply Kd.R_alloc | apply Kd.R_drewN | apply Kd.R_drew)); exact HO338.out) hb); have n3_ := Aside0.mk (blk_below (g := gb318) (o := .cells #[.string t314, .int .i64 t315, .string t316, .bool false] 33 (0, 0)) (by (with_reducible repeat (first | refine blk_drewN ?_ _ | refine blk_drew ?_ | refine blk_alloc ?_ _)); exact BK318.out) hb); have n4_ := Aside0.mk (below_step (by repeat (first | (with_reducible first | exact HB.out | apply below_alloc | apply pw_below_drewN | apply below_drew1 | refine below_set ?_ GE318.out) | exact HB.out)) hb); clear HO_3; clear HO_6; clear HO338; clear BK318; clear HB; have HO_3 := n0_; have HO_6 := n1_; have HO338 := n2_; have BK318 := n3_; have HB := n4_; clear n0_ n1_ n2_ n3_ n4_; (try clear hb); (try clear hb2); (try clear hk); (try clear hi)))
              go_roundg k3
              case measure => have := HK1.out; have := HJ1.out; have := HK3.out; omega
              case rel => exact ⟨(y336), (wrap64 (x4_1 + 1)), (by first | rfl | (simp; done) | (simp [*]; done)), H', ⟨by have := HK1.out; have := HJ1.out; have := HK3.out; omega⟩, ⟨by (with_reducible repeat (first | apply Kd.R_alloc | apply Kd.R_drewN | apply Kd.R_drew)); exact Kd.R_mono HO338.out (fun _ hk => trivial)⟩, ⟨by repeat (first | (with_reducible first | exact HB.out | apply below_alloc | apply pw_below_drewN | apply below_drew1 | refine below_set ?_ GE318.out) | exact HB.out)⟩⟩
             ·rw [if_neg c39] at H
              have c39b0 : (t343 == 0) = false := beq_eq_false_iff_ne.mpr c39
              have c39b1 : (t343 != 0) = true := bne_iff_ne.mpr c39
              have H' := Aside0.mk H
              clear H
              obtain ⟨Ao46, co46, eo46⟩ := Kd.R_slice HO_6.out
              subst eo46
              have hcz47_0 : wr.cell? ⟨gb318, 0, none⟩ = some (.string t314) := (blk_cell BK318.out 0).trans rfl
              have hcz47_1 : wr.cell? ⟨gb318, 1, none⟩ = some (.int .i64 t315) := (blk_cell BK318.out 1).trans rfl
              have hcz47_2 : wr.cell? ⟨gb318, 2, none⟩ = some (.string t316) := (blk_cell BK318.out 2).trans rfl
              have hcz47_3 : wr.cell? ⟨gb318, 3, none⟩ = some (.bool false) := (blk_cell BK318.out 3).trans rfl
              have hfz47_0 := blk_frozen BK318.out 0
              have hfz47_1 := blk_frozen BK318.out 1
              have hfz47_2 := blk_frozen BK318.out 2
              have hfz47_3 := blk_frozen BK318.out 3
              go_wp2_with (first | ((with_reducible refine gate_builtin (b := .append) (xs := #[.tmp 59, .tmp 61]) rfl ?_); at_builtin; refine Kd.R_append k33 (w0 := w) w.heap.size rfl (.tmp 59) (.tmp 61) 23 33 (.agg #[(.string ⟨#[]⟩), (.int .i64 0), (.string ⟨#[]⟩), (.bool false)]) 48 rfl Try.underlying23 info33 rfl (by decide) (by omega) u7 x7_3 (⟨t314, t315, t316, false⟩ : S33) [.string t314, .int .i64 t315, .string t316, .bool false] (fun k_ => some k_ ≠ (.slice Ao15 x3_1.length co15 : Value).ownBlock ∧ k_ ≠ gb318) (fun _ => False) rfl rfl ?aP (fun _ hk => hk.elim) ?aF ?aO ?aB ?aS ?aL ?_; (case aP => exact k33_mkM _ _ _ (⟨t314, t315, t316, false⟩ : S33)); (case aB => exact (by repeat (first | (with_reducible first | exact HB.out | apply below_alloc | apply pw_below_drewN | apply below_drew1 | refine below_set ?_ GE318.out) | exact HB.out))); (case aF => exact (fun k_ hk => ⟨Kd.fresh' (Kd.R_lt (by (with_reducible repeat (first | apply Kd.R_alloc | apply Kd.R_drewN | apply Kd.R_drew)); exact HO_3.out)) k_ hk, Kd.freshB (g := gb318) (o := .cells #[.string t314, .int .i64 t315, .string t316, .bool false] 33 (0, 0)) (by (with_reducible repeat (first | refine blk_drewN ?_ _ | refine blk_drew ?_ | refine blk_alloc ?_ _)); exact BK318.out) k_ hk⟩)); (case aO => exact (by (with_reducible repeat (first | apply Kd.R_alloc | apply Kd.R_drewN | apply Kd.R_drew)); exact HO_7.out)); (case aS => exact (below_size (by repeat (first | (with_reducible first | exact HB.out | apply below_alloc | apply pw_below_drewN | apply below_drew1 | refine below_set ?_ GE318.out) | exact HB.out)))); (case aL => have := LMc36.out; omega); intro v337 w48 ho hb hg hat; rw [← Ny336.out] at ho; have n0_ := Aside0.mk (Kd.R_after (ok := (fun k_ => k_ ≠ gb318)) (by (with_reducible repeat (first | apply Kd.R_alloc | apply Kd.R_drewN | apply Kd.R_drew)); exact Kd.R_mono HO_3.out (fun _ hk => by first | exact ⟨hk.2, hk.1⟩ | simp_all)) hg hat); have n1_ := Aside0.mk (Kd.R_over' (by (with_reducible repeat (first | apply Kd.R_alloc | apply Kd.R_drewN | apply Kd.R_drew)); exact HO_6.out) (Kd.R_typed (by (with_reducible repeat (first | apply Kd.R_alloc | apply Kd.R_drewN | apply Kd.R_drew)); exact HO_7.out)) (by decide) hg); have n2_ := Aside0.mk (blk_grown (g := gb318) (o := .cells #[.string t314, .int .i64 t315, .string t316, .bool false] 33 (0, 0)) (by (with_reducible repeat (first | refine blk_drewN ?_ _ | refine blk_drew ?_ | refine blk_alloc ?_ _)); exact BK318.out) hg (Kd.R_away HO_7.out (fun _ hk => hk.2))); have n3_ := Aside0.mk (hb); have n4_ := Aside0.mk (ho); clear HO_3; clear HO_6; clear BK318; clear HB; clear HO_7; have HO_3 := n0_; have HO_6 := n1_; have BK318 := n2_; have HB := n3_; have HO338 := n4_; clear n0_ n1_ n2_ n3_ n4_; clear ho hb hg hat) | ((with_reducible refine gate_callee (f := 28) rfl ?_); refine goesL_ _ rfl rfl Try.func28 (by kernel_rfl) rfl #[] rfl (by (try simp only [List.map_toArray, List.map_cons, List.map_nil]); first | done | rfl | (simp only [List.length_drop, List.length_take]; rfl)) ?_; (with_reducible refine (collatorlaw02_Wide.calls  t339 t340 t341 _ A37.out).mono ?_); rintro e w49 ⟨rfl, hb⟩; refine ⟨_, rfl, ?_⟩; have n0_ := Aside0.mk (Kd.R_below (by (with_reducible repeat (first | apply Kd.R_alloc | apply Kd.R_drewN | apply Kd.R_drew)); exact HO_3.out) hb); have n1_ := Aside0.mk (Kd.R_below (by (with_reducible repeat (first | apply Kd.R_alloc | apply Kd.R_drewN | apply Kd.R_drew)); exact HO_6.out) hb); have n2_ := Aside0.mk (Kd.R_below (by (with_reducible repeat (first | apply Kd.R_alloc | apply Kd.R_drewN | apply Kd.R_drew)); exact HO338.out) hb); have n3_ := Aside0.mk (blk_below (g := gb318) (o := .cells #[.string t314, .int .i64 t315, .string t316, .bool false] 33 (0, 0)) (by (with_reducible repeat (first | refine blk_drewN ?_ _ | refine blk_drew ?_ | refine blk_alloc ?_ _)); exact BK318.out) hb); have n4_ := Aside0.mk (below_step (by repeat (first | (with_reducible first | exact HB.out | apply below_alloc | apply pw_below_drewN | apply below_drew1 | refine below_set ?_ GE318.out) | exact HB.out)) hb); clear HO_3; clear HO_6; clear HO338; clear BK318; clear HB; have HO_3 := n0_; have HO_6 := n1_; have HO338 := n2_; have BK318 := n3_; have HB := n4_; clear n0_ n1_ n2_ n3_ n4_; (try clear hb); (try clear hb2); (try clear hk); (try clear hi); (try (obtain ⟨Ao50, co50, eo50⟩ := Kd.R_slice HO338.out; subst eo50))) | ((with_reducible refine gate_callee (f := 27) rfl ?_); refine goesL_ _ rfl rfl Try.func27 (by kernel_rfl) rfl #[.slice Ao50 y336.length co50, .agg #[.int .i64 t339, .int .i64 t340, .int .i64 t341]] rfl (by (try simp only [List.map_toArray, List.map_cons, List.map_nil]); first | done | rfl | (simp only [List.length_drop, List.length_take]; rfl)) ?_; (with_reducible refine (collatorref02_Check.calls k3 _ _ y336 t339 t340 t341 t342 t343 _ ?side1 ?side2 A38.out).mono ?_); (case side1 => repeat (first | exact (Kd.R_reads' HO338.out).2.2 | (with_reducible refine Kd.C_alloc ?_ _) | (with_reducible refine Kd.C_drewN ?_ _) | (with_reducible refine Kd.C_drew ?_))); (case side2 => exact (Kd.R_reads' HO338.out).2.1); rintro e w51 ⟨rfl, hb⟩; refine ⟨_, rfl, ?_⟩; have n0_ := Aside0.mk (Kd.R_below (by (with_reducible repeat (first | apply Kd.R_alloc | apply Kd.R_drewN | apply Kd.R_drew)); exact HO_3.out) hb); have n1_ := Aside0.mk (Kd.R_below (by (with_reducible repeat (first | apply Kd.R_alloc | apply Kd.R_drewN | apply Kd.R_drew)); exact HO_6.out) hb); have n2_ := Aside0.mk (Kd.R_below (by (with_reducible repeat (first | apply Kd.R_alloc | apply Kd.R_drewN | apply Kd.R_drew)); exact HO338.out) hb); have n3_ := Aside0.mk (blk_below (g := gb318) (o := .cells #[.string t314, .int .i64 t315, .string t316, .bool false] 33 (0, 0)) (by (with_reducible repeat (first | refine blk_drewN ?_ _ | refine blk_drew ?_ | refine blk_alloc ?_ _)); exact BK318.out) hb); have n4_ := Aside0.mk (below_step (by repeat (first | (with_reducible first | exact HB.out | apply below_alloc | apply pw_below_drewN | apply below_drew1 | refine below_set ?_ GE318.out) | exact HB.out)) hb); clear HO_3; clear HO_6; clear HO338; clear BK318; clear HB; have HO_3 := n0_; have HO_6 := n1_; have HO338 := n2_; have BK318 := n3_; have HB := n4_; clear n0_ n1_ n2_ n3_ n4_; (try clear hb); (try clear hb2); (try clear hk); (try clear hi)))
              go_roundg k3
              case measure => have := HK1.out; have := HJ1.out; have := HK3.out; omega
              case rel => exact ⟨(x3_1), (wrap64 (x4_1 + 1)), (by first | rfl | (simp; done) | (simp [*]; done)), H', ⟨by have := HK1.out; have := HJ1.out; have := HK3.out; omega⟩, ⟨by (with_reducible repeat (first | apply Kd.R_alloc | apply Kd.R_drewN | apply Kd.R_drew)); exact Kd.R_mono HO_3.out (fun _ hk => trivial)⟩, ⟨by repeat (first | (with_reducible first | exact HB.out | apply below_alloc | apply pw_below_drewN | apply below_drew1 | refine below_set ?_ GE318.out) | exact HB.out)⟩⟩
            ·rw [if_neg c36] at H
             exact absurd H (by simp)
        ·rw [if_neg c9] at H
         exact absurd H (by simp)
       ·rw [if_neg c6] at H
        exact absurd H (by simp)
      ·rw [if_neg c5] at H
       exact absurd H (by simp)
     ·replace c4 := Bool.eq_false_iff.mpr c4
      subst c4
      have H1 : (some x3_1) = some r := by rw [if_neg (show ¬ (false = true) by decide)] at H; exact H
      clear H
      have H := H1
      clear H1
      obtain rfl := Option.some.inj H
      go_wp2
      go_ret
      exact ⟨_, by first | rfl | (simp [errW_none, errW_some] <;> rfl) | (simp [*, errW_none, errW_some] <;> rfl), by (with_reducible repeat (first | apply Kd.R_alloc | apply Kd.R_drewN | apply Kd.R_drew)); exact HO_3.out, by repeat (first | (with_reducible first | exact HB.out | apply below_alloc | apply pw_below_drewN | apply below_drew1) | exact HB.out)⟩

end Go.Proofs.Ytcgnkbdfoaiaiaa.P
end
section
/- RenameApart: the items that it adds, and what its calls answer. -/
set_option linter.unusedVariables false
set_option linter.unusedSimpArgs false
namespace Go.Proofs.Ytcgnkbdfoaiaiaa.P
open Go Go.RowKit Go.Proofs.YtcgnkbdfoaiaiaaW.PrintWords Go.Proofs.YtcgnkbdfoaiaiaaW.PrintLast Go.Proofs.YtcgnkbdfoaiaiaaW.PrintMore
abbrev ItS := S33
/-- Item x's text: seventy noughts, a line's end, eighty noughts. -/
def dataX : ByteArray := (strOfNums (List.replicate 70 0) ++ (⟨#[10]⟩ : ByteArray)) ++ strOfNums (List.replicate 80 0)
def dataZ : ByteArray := strOfNums (List.replicate 90 0)
def itX : ItS := ⟨(⟨#[126, 120]⟩ : ByteArray), 2, dataX, false⟩
def itY (q : Int) : ItS := ⟨(⟨#[126, 121]⟩ : ByteArray), wrap64 (1 + wrap64 (2 * q)), (⟨#[97, 10, 98, 10]⟩ : ByteArray), false⟩
def itZ : ItS := ⟨(⟨#[126, 122]⟩ : ByteArray), 2, dataZ, false⟩
/-- What the law needs to know of what its calls answer. -/
structure ApartOk (k : Nat) (l0 l1 : List S41) (a2 a3 : Int) (a b : List ItS) (t q : Int) (l : List S35) : Prop where
  aw : collatorlaw08_awake.f k = some true
  ta : collatorlaw02_Tree.f k l0 = some a
  tb : collatorlaw02_Tree.f k l1 = some b
  pt : collatorlaw08_pick.f a2 101 = some t
  pq : collatorlaw08_pick.f a3 2 = some q
  p0 : rename_Pairs.f a b t = some l
  p1 : rename_Pairs.f ([itY q] ++ a ++ [itX]) b t = some l
  p2 : rename_Pairs.f a ([itY q] ++ b ++ [itZ]) t = some l
  p3 : rename_Pairs.f ([itY q] ++ a ++ [itX]) ([itY q] ++ b ++ [itZ]) t = some l
  same : collatorref08_Same.f k l l = some true
  la : a.length ≤ 1000
  lb : b.length ≤ 1000
end Go.Proofs.Ytcgnkbdfoaiaiaa.P
end
section
/- A region that draws its order: the condition on worlds may be made stronger on the way; bytes that were made become a string. -/
set_option linter.unusedVariables false
namespace Go.Proofs.Ytcgnkbdfoaiaiaa.Held
open Go Go.RowKit Go.Proofs.YtcgnkbdfoaiaiaaW.PrintWords
theorem AnyS.imp {F : Fence} {n : Nat} {P : Program} {ops : Array Oper} {Q : Exit → Act → World → Prop} {md : Region.Mode} {S S' : World → Prop} {z : Nat} (h : ∀ w, S' w → S w) :
    ∀ (f : Nat) (l : Array Bool) (a : Act) (w : World), AnyS F n P md ops Q S' z f l a w → AnyS F n P md ops Q S z f l a w
  | 0, _, _, _, H => H
  | f + 1, l, a, w, H => ⟨H.1, fun i hi => wpOpIn_mono (fun a' w' h' => ⟨fun hz => h _ (h'.1 hz), AnyS.imp h f _ a' w' h'.2⟩) (H.2 i hi)⟩
theorem Same.nil (Z w : World) : Same Z [] w := fun b hb => absurd hb (by simp)
/-- From a later world on, with more blocks. -/
theorem Same.more {Z V : World} {bs bs' : List Nat} (h : Same Z bs V) (hs : ∀ b ∈ bs, b ∈ bs') : ∀ w, Same V bs' w → Same Z bs w := fun w hw b hb => (hw b (hs b hb)).trans (h b hb)
/-- What was made, and stands yet, as a string. -/
theorem conv_made {P : Program} {src dst e : TypeId} {m : Nat} {s : ByteArray} (hm : m ≤ 9223372036854775807) (hs : P.underlying src = some (.slice e)) (he : P.underlying e = some (.int .u8)) (hd : P.underlying dst = some .string) (W : World)
    (hstr : strOfNums (List.replicate m 0) = s) {bs : List Nat} (hb : W.heap.size ∈ bs) (V : World) (hV : Same (W.alloc (.cells (madeCells #[.int .u8 0] m) e)) bs V) :
    (convert src dst (.slice (some ⟨W.heap.size, 0, none⟩) m m)).run P V = .ok (.string s) V := by
  have h := own_made W 0 e .u8 m (Nat.zero_le _) hm
  have h2 := own_move h (w1 := V) (fun k hk => by
    have e : W.heap.size = k := by simpa [Value.ownBlock] using hk
    subst e
    exact hV _ hb)
  rw [← hstr]
  exact own_string hs he hd h2
/-- One of three may come up. -/
theorem AnyS.step3 {F : Fence} {n : Nat} {P : Program} {ops : Array Oper} {Q : Exit → Act → World → Prop} {md : Region.Mode} {S : World → Prop} {z : Nat} {i j m : Nat} {o o' o2 : Oper} {tl tl' tl2 : List Oper} {f : Nat} {l : Array Bool} {a : Act} {w : World} (ho : ops.toList.drop i = o :: tl) (ho' : ops.toList.drop j = o' :: tl') (ho2 : ops.toList.drop m = o2 :: tl2) (hr : Region.ready md ops l = [i, j, m]) (hw : Region.wanted o (yielded ops a.tmps) = true) (hw' : Region.wanted o' (yielded ops a.tmps) = true) (hw2 : Region.wanted o2 (yielded ops a.tmps) = true)
    (h : ∀ K : Act → World → Prop, Hid (∀ a' w', (i < z → S w') → AnyS F n P md ops Q S z f (l.setIfInBounds i true) a' w' → K a' w') → o.wpIn F n P a w K Q)
    (h' : ∀ K : Act → World → Prop, Hid (∀ a' w', (j < z → S w') → AnyS F n P md ops Q S z f (l.setIfInBounds j true) a' w' → K a' w') → o'.wpIn F n P a w K Q)
    (h2 : ∀ K : Act → World → Prop, Hid (∀ a' w', (m < z → S w') → AnyS F n P md ops Q S z f (l.setIfInBounds m true) a' w' → K a' w') → o2.wpIn F n P a w K Q) : AnyS F n P md ops Q S z (f + 1) l a w := by
  refine ⟨fun h0 => absurd (hr ▸ h0) (by simp), fun k hk => ?_⟩
  rw [hr] at hk
  unfold wpOpIn
  rcases List.mem_cons.1 hk with rfl | hk
  · simp only [at_drop ho, hw, if_true]
    exact h _ (fun a' w' h1 h2 => ⟨h1, h2⟩ : Hid _)
  · rcases List.mem_cons.1 hk with rfl | hk
    · simp only [at_drop ho', hw', if_true]
      exact h' _ (fun a' w' h1 h2 => ⟨h1, h2⟩ : Hid _)
    · obtain rfl := List.mem_singleton.1 hk
      simp only [at_drop ho2, hw2, if_true]
      exact h2 _ (fun a' w' h1 h2 => ⟨h1, h2⟩ : Hid _)
end Go.Proofs.Ytcgnkbdfoaiaiaa.Held
end
section
/- RenameApart: rows of items as lists of values. -/
set_option linter.unusedVariables false
namespace Go.Proofs.Ytcgnkbdfoaiaiaa.P
open Go Go.RowKit Go.Proofs.YtcgnkbdfoaiaiaaW.PrintWords Go.Proofs.YtcgnkbdfoaiaiaaW.PrintLast Go.Proofs.YtcgnkbdfoaiaiaaW.PrintMore
abbrev encI (x : S33) : List Value := [.string x.f0, .int .i64 x.f1, .string x.f2, .bool x.f3]
theorem row_of_R {w : World} {base : Nat} {ok : Nat → Prop} {v : Value} {l : List S33} (h : Kd.R k33 33 w base ok v l) : ∃ inner, w.ownsRow base 33 4 v l.length inner ∧ Reps (fun x c => c = encI x) 4 l inner := by
  obtain ⟨_, inner, ho, hr⟩ := h
  exact ⟨inner, ho, hr.imp_ (fun p c hc => k33_openM hc)⟩
theorem R_of_row {w : World} {base : Nat} {v : Value} {l : List S33} {inner : List Value} (ho : w.ownsRow base 33 4 v l.length inner) (hr : Reps (fun x c => c = encI x) 4 l inner) : Kd.R k33 33 w base (fun _ => True) v l :=
  ⟨fun _ _ => trivial, inner, ho, hr.imp_ (fun p c hc => by rw [hc]; exact k33_mkM _ _ _ _)⟩
theorem encI_one {l : List S33} {inner : List Value} (hr : Reps (fun x c => c = encI x) 4 l inner) : ∀ u ∈ inner, u.oneCell' = true :=
  Kd.reps_one hr (by decide) (fun p c h u hu => by
    rw [h] at hu
    simp [encI] at hu
    rcases hu with rfl | rfl | rfl | rfl <;> rfl)
theorem own_news {w : World} {base : Nat} {e : TypeId} {size n c : Nat} {A : Option Addr} {xs : List Value} (h : w.ownsRow base e size (.slice A n c) n xs) : (A = none ∧ n = 0) ∨ ∃ ad, A = some ad ∧ ∀ j u, xs[j]? = some u → w.cell? (ad.add j) = some u := by
  rcases h.2 with ⟨e1, e2⟩ | ⟨g, cap, cur, e1, _⟩
  · injection e1 with e1
    exact .inl ⟨e1, e2⟩
  · injection e1 with e1
    subst e1
    exact .inr ⟨_, rfl, fun j u hu => h.cells (g := g) rfl j u hu⟩
theorem reps_item (x : S33) : Reps (fun x c => c = encI x) 4 [x] (encI x) := Reps.snoc (Reps.none _ _) rfl rfl
/-- What is left of a body behind its first n parts. -/
def sndN : Nat → Code → Code
  | 0, c => c
  | n + 1, .seq _ b => sndN n b
  | _ + 1, c => c
end Go.Proofs.Ytcgnkbdfoaiaiaa.P
end
section
/- RenameApart: the law's walk by hand, region 10 (written by apart_gen3.py). -/
set_option linter.unusedVariables false
set_option linter.unusedSimpArgs false
namespace Go.Proofs.Ytcgnkbdfoaiaiaa.P
open Go Go.RowKit Go.Proofs.YtcgnkbdfoaiaiaaW.PrintWords Go.Proofs.YtcgnkbdfoaiaiaaW.PrintLast Go.Proofs.YtcgnkbdfoaiaiaaW.PrintMore
set_option maxHeartbeats 8000000 in
set_option maxRecDepth 100000 in
theorem apart_r10 (k : Nat) (l0 l1 : List S41) (a2 a3 t q : Int) (a b : List ItS) (l : List S35) (HK : Aside0 (ApartOk k l0 l1 a2 a3 a b t q l)) (w : World) (V9 : World) (lc ld : List ItS) (hlc : lc = [itY q] ++ a ++ [itX]) (hld : ld = [itY q] ++ b ++ [itZ]) (Aa Ab O7 E7 : Option Addr) (ca cb p7 f7 : Nat) (vl : Value) (x0 x1 x2 x3 x4 x5 x6 x7 x8 x14 x15 x18 x19 x20 x21 x22 x23 x24 x25 x26 x27 x28 x29 x30 x31 x32 x33 x34 x35 x36 x37 x38 x39 x40 x41 x42 x43 x44 x45 x46 x47 x48 x49 x50 x51 x52 x53 x54 x55 x56 x57 x58 x59 x60 x61 x62 x63 x64 x65 x66 x67 x68 x69 x70 x71 x72 x73 x74 x75 x76 x77 x78 x79 x80 x81 x82 x83 : Value)
    (hC9 : Kd.R k33 33 V9 w.heap.size (fun _ => True) (.slice O7 lc.length p7) lc) (hD9 : Kd.R k33 33 V9 w.heap.size (fun _ => True) (.slice E7 ld.length f7) ld) (hA9 : Kd.R k33 33 V9 w.heap.size (fun _ => True) (.slice Aa a.length ca) a) (hB9 : Kd.R k33 33 V9 w.heap.size (fun _ => True) (.slice Ab b.length cb) b)
    (hL9 : Kd.R k35 35 V9 w.heap.size (fun _ => True) vl l) (hB : Below w.heap.size w V9) :
    Code.wp Try.prog (sndN 10 (Try.f6.body.getD .skip)) (bodyPost Try.prog Try.f6 fun e w' => e = .returned (.bool true) ∧ Below w.heap.size w w') ⟨#[x0, x1, x2, x3, x4, x5, x6, x7, x8, .bool true, .slice Aa a.length ca, .slice Ab b.length cb, .int .i64 t, vl, x14, x15, .slice O7 lc.length p7, .slice E7 ld.length f7, x18, x19, x20, x21, x22, x23, x24, x25, x26, x27, x28, x29, x30, x31, x32, x33, x34, x35, x36, x37, x38, x39, x40, x41, x42, x43, x44, x45, x46, x47, x48, x49, x50, x51, x52, x53, x54, x55, x56, x57, x58, x59, x60, x61, x62, x63, x64, x65, x66, x67, x68, x69, x70, x71, x72, x73, x74, x75, x76, x77, x78, x79, x80, x81, x82, x83], []⟩ V9 := by
  conv in sndN 10 _ => whnf
  obtain ⟨Al, cl, evl⟩ := Kd.R_slice hL9
  subst evl
  have HP1 := Aside0.mk (show rename_Pairs.f lc b t = some l by rw [hlc]; exact HK.out.p1)
  have HP2 := Aside0.mk (show rename_Pairs.f a ld t = some l by rw [hld]; exact HK.out.p2)
  have HP3 := Aside0.mk (show rename_Pairs.f lc ld t = some l by rw [hlc, hld]; exact HK.out.p3)
  have HCC := Aside0.mk (Kd.R_reads' hC9).2.2
  have HCCl := Aside0.mk (Kd.R_reads' hC9).2.1
  have HCD := Aside0.mk (Kd.R_reads' hD9).2.2
  have HCDl := Aside0.mk (Kd.R_reads' hD9).2.1
  have HCA := Aside0.mk (Kd.R_reads' hA9).2.2
  have HCAl := Aside0.mk (Kd.R_reads' hA9).2.1
  have HCB := Aside0.mk (Kd.R_reads' hB9).2.2
  have HCBl := Aside0.mk (Kd.R_reads' hB9).2.1
  have HCL := Aside0.mk (Kd.R_reads' hL9).2.2
  have HCLl := Aside0.mk (Kd.R_reads' hL9).2.1
  have HB := Aside0.mk hB
  clear hlc hld hC9 hD9 hA9 hB9 hL9 hB
  go_wp2_with (first | (go_at_call 11; (with_reducible refine (rename_Pairs.calls _ _ lc _ _ b t l _ HCC.out HCCl.out HCB.out HCBl.out HP1.out).mono ?_); rintro e u1 ⟨v1, rfl, ho0, hb⟩; have HCC_ := Aside0.mk (Kd.C_below HCC.out hb); clear HCC; have HCC := HCC_; clear HCC_; have HCD_ := Aside0.mk (Kd.C_below HCD.out hb); clear HCD; have HCD := HCD_; clear HCD_; have HCA_ := Aside0.mk (Kd.C_below HCA.out hb); clear HCA; have HCA := HCA_; clear HCA_; have HCB_ := Aside0.mk (Kd.C_below HCB.out hb); clear HCB; have HCB := HCB_; clear HCB_; have HCL_ := Aside0.mk (Kd.C_below HCL.out hb); clear HCL; have HCL := HCL_; clear HCL_; have HB_ := Aside0.mk (below_step HB.out hb); clear HB; have HB := HB_; clear HB_; clear hb; have hs1 := Kd.R_reads ho0; clear ho0; obtain ⟨D1, d1, rfl, hl1, hc1⟩ := hs1; have HCR := Aside0.mk hc1; have HLR := Aside0.mk hl1; clear hl1 hc1) | (go_at_call 10; (with_reducible refine (collatorref08_Same.calls k _ _ l _ _ l true _ HCR.out HLR.out HCL.out HCLl.out HK.out.same).mono ?_); rintro e z1 ⟨rfl, hd⟩; have hb := hd.below; clear hd; have HCC_ := Aside0.mk (Kd.C_below HCC.out hb); clear HCC; have HCC := HCC_; clear HCC_; have HCD_ := Aside0.mk (Kd.C_below HCD.out hb); clear HCD; have HCD := HCD_; clear HCD_; have HCA_ := Aside0.mk (Kd.C_below HCA.out hb); clear HCA; have HCA := HCA_; clear HCA_; have HCB_ := Aside0.mk (Kd.C_below HCB.out hb); clear HCB; have HCB := HCB_; clear HCB_; have HCL_ := Aside0.mk (Kd.C_below HCL.out hb); clear HCL; have HCL := HCL_; clear HCL_; have HB_ := Aside0.mk (below_step HB.out hb); clear HB; have HB := HB_; clear HB_; clear hb HCR HLR) | (go_at_call 11; (with_reducible refine (rename_Pairs.calls _ _ a _ _ ld t l _ HCA.out HCAl.out HCD.out HCDl.out HP2.out).mono ?_); rintro e u2 ⟨v2, rfl, ho0, hb⟩; have HCC_ := Aside0.mk (Kd.C_below HCC.out hb); clear HCC; have HCC := HCC_; clear HCC_; have HCD_ := Aside0.mk (Kd.C_below HCD.out hb); clear HCD; have HCD := HCD_; clear HCD_; have HCA_ := Aside0.mk (Kd.C_below HCA.out hb); clear HCA; have HCA := HCA_; clear HCA_; have HCB_ := Aside0.mk (Kd.C_below HCB.out hb); clear HCB; have HCB := HCB_; clear HCB_; have HCL_ := Aside0.mk (Kd.C_below HCL.out hb); clear HCL; have HCL := HCL_; clear HCL_; have HB_ := Aside0.mk (below_step HB.out hb); clear HB; have HB := HB_; clear HB_; clear hb; have hs2 := Kd.R_reads ho0; clear ho0; obtain ⟨D2, d2, rfl, hl2, hc2⟩ := hs2; have HCR := Aside0.mk hc2; have HLR := Aside0.mk hl2; clear hl2 hc2) | (go_at_call 10; (with_reducible refine (collatorref08_Same.calls k _ _ l _ _ l true _ HCR.out HLR.out HCL.out HCLl.out HK.out.same).mono ?_); rintro e z2 ⟨rfl, hd⟩; have hb := hd.below; clear hd; have HCC_ := Aside0.mk (Kd.C_below HCC.out hb); clear HCC; have HCC := HCC_; clear HCC_; have HCD_ := Aside0.mk (Kd.C_below HCD.out hb); clear HCD; have HCD := HCD_; clear HCD_; have HCA_ := Aside0.mk (Kd.C_below HCA.out hb); clear HCA; have HCA := HCA_; clear HCA_; have HCB_ := Aside0.mk (Kd.C_below HCB.out hb); clear HCB; have HCB := HCB_; clear HCB_; have HCL_ := Aside0.mk (Kd.C_below HCL.out hb); clear HCL; have HCL := HCL_; clear HCL_; have HB_ := Aside0.mk (below_step HB.out hb); clear HB; have HB := HB_; clear HB_; clear hb HCR HLR) | (go_at_call 11; (with_reducible refine (rename_Pairs.calls _ _ lc _ _ ld t l _ HCC.out HCCl.out HCD.out HCDl.out HP3.out).mono ?_); rintro e u3 ⟨v3, rfl, ho0, hb⟩; have HCC_ := Aside0.mk (Kd.C_below HCC.out hb); clear HCC; have HCC := HCC_; clear HCC_; have HCD_ := Aside0.mk (Kd.C_below HCD.out hb); clear HCD; have HCD := HCD_; clear HCD_; have HCA_ := Aside0.mk (Kd.C_below HCA.out hb); clear HCA; have HCA := HCA_; clear HCA_; have HCB_ := Aside0.mk (Kd.C_below HCB.out hb); clear HCB; have HCB := HCB_; clear HCB_; have HCL_ := Aside0.mk (Kd.C_below HCL.out hb); clear HCL; have HCL := HCL_; clear HCL_; have HB_ := Aside0.mk (below_step HB.out hb); clear HB; have HB := HB_; clear HB_; clear hb; have hs3 := Kd.R_reads ho0; clear ho0; obtain ⟨D3, d3, rfl, hl3, hc3⟩ := hs3; have HCR := Aside0.mk hc3; have HLR := Aside0.mk hl3; clear hl3 hc3) | (go_at_call 10; (with_reducible refine (collatorref08_Same.calls k _ _ l _ _ l true _ HCR.out HLR.out HCL.out HCLl.out HK.out.same).mono ?_); rintro e z3 ⟨rfl, hd⟩; have hb := hd.below; clear hd; have HCC_ := Aside0.mk (Kd.C_below HCC.out hb); clear HCC; have HCC := HCC_; clear HCC_; have HCD_ := Aside0.mk (Kd.C_below HCD.out hb); clear HCD; have HCD := HCD_; clear HCD_; have HCA_ := Aside0.mk (Kd.C_below HCA.out hb); clear HCA; have HCA := HCA_; clear HCA_; have HCB_ := Aside0.mk (Kd.C_below HCB.out hb); clear HCB; have HCB := HCB_; clear HCB_; have HCL_ := Aside0.mk (Kd.C_below HCL.out hb); clear HCL; have HCL := HCL_; clear HCL_; have HB_ := Aside0.mk (below_step HB.out hb); clear HB; have HB := HB_; clear HB_; clear hb HCR HLR))
  go_ret
  exact ⟨rfl, HB.out⟩
end Go.Proofs.Ytcgnkbdfoaiaiaa.P
end
