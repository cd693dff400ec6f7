/- Texts of this claim, joined: EItem, QItem, EPairsR, EPairsW, EPairsC, Pxe1, Pxf10, Pxf7, Pxf9, QPairsA, QCand, Pxf26. -/
import Derived.Lib.Hide
import Derived.Test.YtcgnkbdfoaiaiaaMRenameTellsUpto1
import Derived.Test.YtcgnkbdfoaiaiaaMRenameTellsUpto2
section
/- The raw item made an item: collatorlaw02.Item, by hand. -/
set_option linter.unusedVariables false
set_option linter.unusedSimpArgs false
namespace Go.Proofs.Ytcgnkbdfoaiaiaa.P
open Go Go.RowKit Go.Proofs.YtcgnkbdfoaiaiaaW.PrintWords Go.Proofs.YtcgnkbdfoaiaiaaW.PrintLast Go.Proofs.YtcgnkbdfoaiaiaaW.PrintMore
def collatorlaw02_Item.f (k : Nat) (l0_0 : List Int) (a0_1 : Int) (a0_2 : ByteArray) (a0_3 : Int) : Option (ByteArray × Int × ByteArray × Bool) := (collatorlaw01_Path.f k l0_0).bind fun t131 => ((collatorlaw02_pick.f a0_1 3).bind fun t132 => ((collatorlaw02_pick.f a0_3 12).bind fun t133 => some (t131, wrap64 (1 + t132), (if wrap64 (1 + t132) = 1 then (⟨#[]⟩ : ByteArray) else a0_2.extract 0 ((mn (a0_2.size : Int) 60) : Int).toNat), (t133 == 0))))
theorem collatorlaw02_Item.mono : ∀ a0 a1 a2 a3 k, LeO (collatorlaw02_Item.f k a0 a1 a2 a3) (collatorlaw02_Item.f (k + 1) a0 a1 a2 a3) := by
  intro a0 a1 a2 a3 k
  unfold collatorlaw02_Item.f
  refine LeO.bind (collatorlaw01_Path.mono _ _) (fun _ => LeO.refl _)
theorem set_blk {w : World} {b : Nat} {cs : Array Value} {t : TypeId} (h : w.heap[b]? = some (.cells cs t (0, 0))) (j : Nat) (v : Value) : (w.setCell ⟨b, j, none⟩ v).heap[b]? = some (.cells (cs.setIfInBounds j v) t (0, 0)) := blk_set h j v
theorem set_blk_ne {w : World} {b c : Nat} (h : c ≠ b) (j : Nat) (v : Value) : (w.setCell ⟨b, j, none⟩ v).heap[c]? = w.heap[c]? := Below.heap_setCell w ⟨b, j, none⟩ v c h
theorem set4 {w : World} {b : Nat} {a0 a1 a2 a3 : Value} {t : TypeId} (h : w.heap[b]? = some (.cells #[a0, a1, a2, a3] t (0, 0))) (v0 v1 v2 v3 : Value) : ∃ w', (((w.setCell ⟨b, 0, none⟩ v0).setCell ⟨b, 1, none⟩ v1).setCell ⟨b, 2, none⟩ v2).setCell ⟨b, 3, none⟩ v3 = w' ∧ w'.heap[b]? = some (.cells #[v0, v1, v2, v3] t (0, 0)) ∧ (∀ c, c ≠ b → w'.heap[c]? = w.heap[c]?) ∧ ∀ (W : World), Below W.heap.size W w → W.heap.size ≤ b → Below W.heap.size W w' :=
  ⟨_, rfl, set_blk (set_blk (set_blk (set_blk h 0 v0) 1 v1) 2 v2) 3 v3, fun c hc => by rw [set_blk_ne hc, set_blk_ne hc, set_blk_ne hc, set_blk_ne hc], fun W hW hb => below_set (below_set (below_set (below_set hW hb) hb) hb) hb⟩
theorem set1 {w : World} {b : Nat} {a0 a1 a2 a3 : Value} {t : TypeId} (h : w.heap[b]? = some (.cells #[a0, a1, a2, a3] t (0, 0))) (v : Value) : ∃ w', w.setCell ⟨b, 2, none⟩ v = w' ∧ w'.heap[b]? = some (.cells #[a0, a1, v, a3] t (0, 0)) ∧ (∀ c, c ≠ b → w'.heap[c]? = w.heap[c]?) ∧ ∀ (W : World), Below W.heap.size W w → W.heap.size ≤ b → Below W.heap.size W w' :=
  ⟨_, rfl, set_blk h 2 v, fun c hc => set_blk_ne hc _ _, fun W hW hb => below_set hW hb⟩
section
attribute [local go_sem] HMin.max2_mx HMin.min2_mn max_two min_two
set_option maxHeartbeats 8000000 in
set_option maxRecDepth 100000 in
theorem item_run (k : Nat) (A : Option Addr) (c : Nat) (l : List Int) (x : Int) (s : ByteArray) (y : Int) (p : ByteArray) (t u : Int) (W : World) (hr : Kd.C (Kd.int .i64) W A l.length l) (hc : l.length ≤ c)
    (hp : collatorlaw01_Path.f k l = some p) (ht : collatorlaw02_pick.f x 3 = some t) (hu : collatorlaw02_pick.f y 12 = some u) :
    Calls Try.prog 14 #[.agg #[.slice A l.length c, .int .i64 x, .string s, .int .i64 y]] W fun e w' => e = .returned (.agg #[.string p, .int .i64 (wrap64 (1 + t)), .string (if wrap64 (1 + t) = 1 then (⟨#[]⟩ : ByteArray) else s.extract 0 ((mn (s.size : Int) 60) : Int).toNat), .bool (u == 0)]) ∧ Below W.heap.size W w' := by
  obtain ⟨q0, hq0⟩ : ∃ q0, wrap64 (1 + t) = q0 := ⟨_, rfl⟩
  rw [hq0]
  obtain ⟨an, han⟩ : ∃ an, (if q0 = 1 then (⟨#[]⟩ : ByteArray) else s.extract 0 ((mn (s.size : Int) 60) : Int).toNat) = an := ⟨_, rfl⟩
  rw [han]
  have HAN := Lib.hid han
  have HQ0 := Lib.hid hq0
  clear han hq0
  obtain ⟨rb, hrb⟩ : ∃ rb, W.heap.size + 1 = rb := ⟨_, rfl⟩
  obtain ⟨X, hX⟩ : ∃ X, X = (W.alloc (.cells #[.slice A l.length c, .int .i64 x, .string s, .int .i64 y] 41)).alloc (.cells #[.string (⟨#[]⟩ : ByteArray), .int .i64 0, .string (⟨#[]⟩ : ByteArray), .bool false] 33) := ⟨_, rfl⟩
  have q0 : X.heap[W.heap.size]? = some (.cells #[.slice A l.length c, .int .i64 x, .string s, .int .i64 y] 41 (0, 0)) := by rw [hX]; exact ((World.grownBy_alloc _ _ none).block _ (by simp) (by simp)).trans (heap_alloc_new W _)
  have q1 : X.heap[rb]? = some (.cells #[.string (⟨#[]⟩ : ByteArray), .int .i64 0, .string (⟨#[]⟩ : ByteArray), .bool false] 33 (0, 0)) := by
    rw [hX, ← hrb]
    have := heap_alloc_new (W.alloc (.cells #[.slice A l.length c, .int .i64 x, .string s, .int .i64 y] 41)) (.cells #[.string (⟨#[]⟩ : ByteArray), .int .i64 0, .string (⟨#[]⟩ : ByteArray), .bool false] 33)
    simpa using this
  obtain ⟨Z, hZ⟩ : ∃ Z, Z = X.drew := ⟨_, rfl⟩
  have HZX := Lib.hid hZ
  have qz0 : Z.heap[W.heap.size]? = some (.cells #[.slice A l.length c, .int .i64 x, .string s, .int .i64 y] 41 (0, 0)) := by rw [hZ]; exact q0
  have qz1 : Z.heap[rb]? = some (.cells #[.string (⟨#[]⟩ : ByteArray), .int .i64 0, .string (⟨#[]⟩ : ByteArray), .bool false] 33 (0, 0)) := by rw [hZ]; exact q1
  have m00 : Z.cell? ⟨W.heap.size, 0, none⟩ = some (.slice A l.length c) := by simp [World.cell?, qz0]
  have m01 : Z.cell? ⟨W.heap.size, 1, none⟩ = some (.int .i64 x) := by simp [World.cell?, qz0]
  have m02 : Z.cell? ⟨W.heap.size, 2, none⟩ = some (.string s) := by simp [World.cell?, qz0]
  have m03 : Z.cell? ⟨W.heap.size, 3, none⟩ = some (.int .i64 y) := by simp [World.cell?, qz0]
  have HZ8 := Lib.hid (show ∀ b ∈ [W.heap.size, rb], b < Z.heap.size by intro b hb; simp at hb; rcases hb with rfl | rfl; exact blk_lt qz0; exact blk_lt qz1)
  have hBX : Below W.heap.size W X := by rw [hX]; exact below_alloc (below_alloc (Below.refl _ _) _) _
  have HB0 := Lib.hid (show Below W.heap.size W Z by rw [hZ]; exact below_drew1 hBX)
  have HR := Lib.hid hr
  have HQ := Lib.hid qz1
  have HX := Lib.hid hX
  have HP := Lib.hid hp
  have HT := Lib.hid ht
  have HU := Lib.hid hu
  have HC := Lib.hid hc
  obtain ⟨m, hm⟩ : ∃ m, mn (s.size : Int) 60 = m := ⟨_, rfl⟩
  have hm0 : (0 ≤ m) = True := eq_true (by rw [← hm]; unfold mn; (repeat' split) <;> omega)
  have hm1 : (m ≤ (s.size : Int)) = True := eq_true (by rw [← hm]; unfold mn; (repeat' split) <;> omega)
  have hm_ : (if 60 < (s.size : Int) then 60 else (s.size : Int)) = m := hm
  have HMM := Lib.hid hm
  clear hX hZ q0 q1 qz0 qz1 hr hc hp ht hu hBX
  go_enter Try.func14, Try.ntmps14
  go_wp2_with (first | rw [← HX.out])
  rename_i Q0 K0 hEND
  try rw [hrb]
  have HRB := Lib.hid hrb
  clear hrb
  refine (wpIn_wide (n := 9)).1 ?_
  refine Held.region 20 (Held.Same Z [W.heap.size, rb]) (by kernel_rfl) ?_
  first | rw [← HZX.out] | rw [← HX.out, ← HZX.out]
  have hT := Held.Same.refl Z [W.heap.size, rb]
  refine Held.tk (i := 0) rfl hT ?_
  try simp only [Act.put, List.setIfInBounds_toArray, List.set_cons_zero, List.set_cons_succ]
  refine Held.tk (i := 1) rfl hT ?_
  try simp only [Act.put, List.setIfInBounds_toArray, List.set_cons_zero, List.set_cons_succ]
  refine Held.tk (i := 3) rfl hT ?_
  try simp only [Act.put, List.setIfInBounds_toArray, List.set_cons_zero, List.set_cons_succ]
  refine Held.tk (i := 4) rfl hT ?_
  try simp only [Act.put, List.setIfInBounds_toArray, List.set_cons_zero, List.set_cons_succ]
  refine Held.tk (i := 7) rfl hT ?_
  try simp only [Act.put, List.setIfInBounds_toArray, List.set_cons_zero, List.set_cons_succ]
  refine Held.tk (i := 8) rfl hT ?_
  try simp only [Act.put, List.setIfInBounds_toArray, List.set_cons_zero, List.set_cons_succ]
  refine Held.tk (i := 9) rfl hT ?_
  try simp only [Act.put, List.setIfInBounds_toArray, List.set_cons_zero, List.set_cons_succ]
  refine Held.tk (i := 10) rfl hT ?_
  try simp only [Act.put, List.setIfInBounds_toArray, List.set_cons_zero, List.set_cons_succ]
  refine Held.tk (i := 11) rfl hT ?_
  try simp only [Act.put, List.setIfInBounds_toArray, List.set_cons_zero, List.set_cons_succ]
  refine Held.tk (i := 12) rfl hT ?_
  try simp only [Act.put, List.setIfInBounds_toArray, List.set_cons_zero, List.set_cons_succ]
  refine Held.tk (i := 13) rfl hT ?_
  try simp only [Act.put, List.setIfInBounds_toArray, List.set_cons_zero, List.set_cons_succ]
  refine Held.tk (i := 14) rfl hT ?_
  try simp only [Act.put, List.setIfInBounds_toArray, List.set_cons_zero, List.set_cons_succ]
  refine Held.tk (i := 15) rfl hT ?_
  try simp only [Act.put, List.setIfInBounds_toArray, List.set_cons_zero, List.set_cons_succ]
  -- STEPS
  have hT0 := hT
  refine Held.AnyS.step2 (i := 2) (j := 19) rfl rfl (by kernel_rfl) rfl rfl (fun K hK => ?_) (fun K hK => ?_)
  · go_simp
    first | refine ⟨trivial, ?_⟩ | skip
    refine (callsIn_wide.2 (collatorlaw01_Path.calls k A c l p Z (Kd.C_below HR.out HB0.out) HC.out HP.out)).mono ?_
    rintro e w1 ⟨rfl, hb⟩
    have HB1 := Lib.hid (below_step HB0.out hb)
    have hT1 : Held.Same Z [W.heap.size, rb] w1 := Held.Same.below hT0 hb HZ8.out
    have hk := Lib.hid hb
    refine hK.out _ _ (fun _ => hT1) ?_
    clear hK K hb
    try simp only [Act.put, List.setIfInBounds_toArray, List.set_cons_zero, List.set_cons_succ]
    clear hk
    refine Held.AnyS.step2 (i := 5) (j := 19) rfl rfl (by kernel_rfl) rfl rfl (fun K hK => ?_) (fun K hK => ?_)
    · go_simp
      first | refine ⟨trivial, ?_⟩ | skip
      refine (callsIn_wide.2 (collatorlaw02_pick.calls x 3 t w1 HT.out)).mono ?_
      rintro e w2 ⟨rfl, hb⟩
      have hb := hb.below
      have HB2 := Lib.hid (below_step HB1.out hb)
      have hT2 : Held.Same Z [W.heap.size, rb] w2 := Held.Same.below hT1 hb HZ8.out
      have hk := Lib.hid hb
      refine hK.out _ _ (fun _ => hT2) ?_
      clear hK K hb
      try simp only [Act.put, List.setIfInBounds_toArray, List.set_cons_zero, List.set_cons_succ]
      clear hk
      refine Held.tk (i := 6) rfl hT2 ?_
      try simp only [Act.put, List.setIfInBounds_toArray, List.set_cons_zero, List.set_cons_succ]
      generalize hq : IntKind.i64.wrap (1 + t) = q
      have HQQ := Lib.hid hq
      clear hq
      refine Held.AnyS.step2 (i := 16) (j := 19) rfl rfl (by kernel_rfl) rfl rfl (fun K hK => ?_) (fun K hK => ?_)
      · go_simp
        first | refine ⟨trivial, ?_⟩ | skip
        refine (callsIn_wide.2 (collatorlaw02_pick.calls y 12 u w2 HU.out)).mono ?_
        rintro e w3 ⟨rfl, hb⟩
        have hb := hb.below
        have HB3 := Lib.hid (below_step HB2.out hb)
        have hT3 : Held.Same Z [W.heap.size, rb] w3 := Held.Same.below hT2 hb HZ8.out
        have hk := Lib.hid hb
        refine hK.out _ _ (fun _ => hT3) ?_
        clear hK K hb
        try simp only [Act.put, List.setIfInBounds_toArray, List.set_cons_zero, List.set_cons_succ]
        clear hk
        refine Held.tk (i := 17) rfl hT3 ?_
        try simp only [Act.put, List.setIfInBounds_toArray, List.set_cons_zero, List.set_cons_succ]
        refine Held.tk (i := 18) rfl hT3 ?_
        try simp only [Act.put, List.setIfInBounds_toArray, List.set_cons_zero, List.set_cons_succ]
        refine Held.AnyS.step (i := 19) rfl (by kernel_rfl) rfl (fun K hK => ?_)
        go_simp
        first | refine ⟨trivial, ?_⟩ | skip
        obtain ⟨w4, hw⟩ : ∃ V, V = w3.alloc (.cells #[.string (⟨#[]⟩ : ByteArray), .int .i64 0, .string (⟨#[]⟩ : ByteArray), .bool false] 33) := ⟨_, rfl⟩
        have HK := Lib.hid (show w4.heap[w3.heap.size]? = some (.cells #[.string (⟨#[]⟩ : ByteArray), .int .i64 0, .string (⟨#[]⟩ : ByteArray), .bool false] 33 (0, 0)) by rw [hw]; exact heap_alloc_new w3 _)
        have HG := Lib.hid (below_size HB3.out)
        have HB4 := Lib.hid (show Below W.heap.size W w4 by rw [hw]; exact below_alloc HB3.out _)
        have hT4 : Held.Same Z [W.heap.size, rb] w4 := Held.Same.grown hT3 (by rw [hw]; exact World.grownBy_alloc _ _ none) (fun b hb => ⟨HZ8.out b hb, by simp⟩)
        try rw [← hw]
        refine hK.out _ _ (fun _ => hT4) ?_
        clear hK K
        have HN := Lib.hid (show w3.heap.size ≠ rb by have := blk_lt ((hT3 rb (by simp)).trans HQ.out); omega)
        generalize w3.heap.size = b at HK HG HN ⊢
        clear hw
        try simp only [Act.put, List.setIfInBounds_toArray, List.set_cons_zero, List.set_cons_succ]
        refine Held.AnyS.step (i := 20) rfl (by kernel_rfl) rfl (fun K hK => ?_)
        have g0 : w4.cell? ⟨b, 0, none⟩ = some (#[.string (⟨#[]⟩ : ByteArray), .int .i64 0, .string (⟨#[]⟩ : ByteArray), .bool false][0]) := (blk_cell HK.out 0).trans rfl
        have g1 : w4.cell? ⟨b, 1, none⟩ = some (#[.string (⟨#[]⟩ : ByteArray), .int .i64 0, .string (⟨#[]⟩ : ByteArray), .bool false][1]) := (blk_cell HK.out 1).trans rfl
        have g2 : w4.cell? ⟨b, 2, none⟩ = some (#[.string (⟨#[]⟩ : ByteArray), .int .i64 0, .string (⟨#[]⟩ : ByteArray), .bool false][2]) := (blk_cell HK.out 2).trans rfl
        have g3 : w4.cell? ⟨b, 3, none⟩ = some (#[.string (⟨#[]⟩ : ByteArray), .int .i64 0, .string (⟨#[]⟩ : ByteArray), .bool false][3]) := (blk_cell HK.out 3).trans rfl
        have e0 : w4.frozen? ⟨b, 0, none⟩ = false := by simp [World.frozen?, HK.out]
        have e1 : w4.frozen? ⟨b, 1, none⟩ = false := by simp [World.frozen?, HK.out]
        have e2 : w4.frozen? ⟨b, 2, none⟩ = false := by simp [World.frozen?, HK.out]
        have e3 : w4.frozen? ⟨b, 3, none⟩ = false := by simp [World.frozen?, HK.out]
        have HQ1 := Lib.hid ((hT4 rb (by simp)).trans HQ.out)
        clear hT0 hT
        clear hT1
        clear hT2
        clear hT3
        clear hT4
        go_simp
        clear g0 g1 g2 g3 e0 e1 e2 e3
        obtain ⟨V, hV, kb, ko, kB⟩ := set4 HK.out (.string p) (.int .i64 (q)) (.string (s.extract 0 m.toNat)) (.bool (u == 0))
        rw [hV]
        have HV := Lib.hid (kB _ HB4.out HG.out)
        have HQ2 := Lib.hid ((ko _ (Ne.symm HN.out)).trans HQ1.out)
        have HKb := Lib.hid kb
        refine hK.out _ _ (fun h => absurd h (by omega)) ?_
        clear hK K hV kB ko kb
        refine Held.AnyS.done (by kernel_rfl) ?_ _
        go_simp
        by_cases hc1 : q = 1
        · have HC1 := Lib.hid hc1
          have g0 : V.cell? ⟨b, 0, none⟩ = some (#[.string p, .int .i64 (q), .string (s.extract 0 m.toNat), .bool (u == 0)][0]) := (blk_cell HKb.out 0).trans rfl
          have gf0 : V.frozen? ⟨b, 0, none⟩ = false := by simp [World.frozen?, HKb.out]
          have g1 : V.cell? ⟨b, 1, none⟩ = some (#[.string p, .int .i64 (q), .string (s.extract 0 m.toNat), .bool (u == 0)][1]) := (blk_cell HKb.out 1).trans rfl
          have gf1 : V.frozen? ⟨b, 1, none⟩ = false := by simp [World.frozen?, HKb.out]
          have g2 : V.cell? ⟨b, 2, none⟩ = some (#[.string p, .int .i64 (q), .string (s.extract 0 m.toNat), .bool (u == 0)][2]) := (blk_cell HKb.out 2).trans rfl
          have gf2 : V.frozen? ⟨b, 2, none⟩ = false := by simp [World.frozen?, HKb.out]
          have g3 : V.cell? ⟨b, 3, none⟩ = some (#[.string p, .int .i64 (q), .string (s.extract 0 m.toNat), .bool (u == 0)][3]) := (blk_cell HKb.out 3).trans rfl
          have gf3 : V.frozen? ⟨b, 3, none⟩ = false := by simp [World.frozen?, HKb.out]
          have hc2 : (q == 1) = true := beq_iff_eq.2 hc1
          obtain ⟨V1, hV1, kb, ko, kB⟩ := set1 HKb.out (.string (⟨#[]⟩ : ByteArray))
          have HV1 := Lib.hid (kB _ HV.out HG.out)
          have HQ3 := Lib.hid ((ko _ (Ne.symm HN.out)).trans HQ2.out)
          have HV2 := Lib.hid hV1
          have i0 : V1.cell? ⟨b, 0, none⟩ = some (#[.string p, .int .i64 (q), .string (⟨#[]⟩ : ByteArray), .bool (u == 0)][0]) := (blk_cell kb 0).trans rfl
          have if0 : V1.frozen? ⟨b, 0, none⟩ = false := by simp [World.frozen?, kb]
          have i1 : V1.cell? ⟨b, 1, none⟩ = some (#[.string p, .int .i64 (q), .string (⟨#[]⟩ : ByteArray), .bool (u == 0)][1]) := (blk_cell kb 1).trans rfl
          have if1 : V1.frozen? ⟨b, 1, none⟩ = false := by simp [World.frozen?, kb]
          have i2 : V1.cell? ⟨b, 2, none⟩ = some (#[.string p, .int .i64 (q), .string (⟨#[]⟩ : ByteArray), .bool (u == 0)][2]) := (blk_cell kb 2).trans rfl
          have if2 : V1.frozen? ⟨b, 2, none⟩ = false := by simp [World.frozen?, kb]
          have i3 : V1.cell? ⟨b, 3, none⟩ = some (#[.string p, .int .i64 (q), .string (⟨#[]⟩ : ByteArray), .bool (u == 0)][3]) := (blk_cell kb 3).trans rfl
          have if3 : V1.frozen? ⟨b, 3, none⟩ = false := by simp [World.frozen?, kb]
          have r0 : V1.cell? ⟨rb, 0, none⟩ = some (#[.string (⟨#[]⟩ : ByteArray), .int .i64 0, .string (⟨#[]⟩ : ByteArray), .bool false][0]) := (blk_cell HQ3.out 0).trans rfl
          have rf0 : V1.frozen? ⟨rb, 0, none⟩ = false := by simp [World.frozen?, HQ3.out]
          have r1 : V1.cell? ⟨rb, 1, none⟩ = some (#[.string (⟨#[]⟩ : ByteArray), .int .i64 0, .string (⟨#[]⟩ : ByteArray), .bool false][1]) := (blk_cell HQ3.out 1).trans rfl
          have rf1 : V1.frozen? ⟨rb, 1, none⟩ = false := by simp [World.frozen?, HQ3.out]
          have r2 : V1.cell? ⟨rb, 2, none⟩ = some (#[.string (⟨#[]⟩ : ByteArray), .int .i64 0, .string (⟨#[]⟩ : ByteArray), .bool false][2]) := (blk_cell HQ3.out 2).trans rfl
          have rf2 : V1.frozen? ⟨rb, 2, none⟩ = false := by simp [World.frozen?, HQ3.out]
          have r3 : V1.cell? ⟨rb, 3, none⟩ = some (#[.string (⟨#[]⟩ : ByteArray), .int .i64 0, .string (⟨#[]⟩ : ByteArray), .bool false][3]) := (blk_cell HQ3.out 3).trans rfl
          have rf3 : V1.frozen? ⟨rb, 3, none⟩ = false := by simp [World.frozen?, HQ3.out]
          obtain ⟨U, hU, lb, lo, lB⟩ := set4 HQ3.out (.string p) (.int .i64 (q)) (.string (⟨#[]⟩ : ByteArray)) (.bool (u == 0))
          have x0 : U.cell? ⟨rb, 0, none⟩ = some (#[.string p, .int .i64 (q), .string (⟨#[]⟩ : ByteArray), .bool (u == 0)][0]) := (blk_cell lb 0).trans rfl
          have xf0 : U.frozen? ⟨rb, 0, none⟩ = false := by simp [World.frozen?, lb]
          have x1 : U.cell? ⟨rb, 1, none⟩ = some (#[.string p, .int .i64 (q), .string (⟨#[]⟩ : ByteArray), .bool (u == 0)][1]) := (blk_cell lb 1).trans rfl
          have xf1 : U.frozen? ⟨rb, 1, none⟩ = false := by simp [World.frozen?, lb]
          have x2 : U.cell? ⟨rb, 2, none⟩ = some (#[.string p, .int .i64 (q), .string (⟨#[]⟩ : ByteArray), .bool (u == 0)][2]) := (blk_cell lb 2).trans rfl
          have xf2 : U.frozen? ⟨rb, 2, none⟩ = false := by simp [World.frozen?, lb]
          have x3 : U.cell? ⟨rb, 3, none⟩ = some (#[.string p, .int .i64 (q), .string (⟨#[]⟩ : ByteArray), .bool (u == 0)][3]) := (blk_cell lb 3).trans rfl
          have xf3 : U.frozen? ⟨rb, 3, none⟩ = false := by simp [World.frozen?, lb]
          have HU1 := Lib.hid (lB _ HV1.out (by have := HRB.out; omega))
          have HU2 := Lib.hid hU
          clear hV1 kb ko kB hU lo lB hc1
          refine hEND _ _ ?_
          clear hEND
          go_wp2_with (first | (rw [HU2.out]) | (rw [HV2.out]))
          refine bodyPost_ret (results_cell_row rfl _ _ rb 33 #[.string p, .int .i64 (q), .string (⟨#[]⟩ : ByteArray), .bool (u == 0)] (0, 0) _ rfl lb Try.underlying33 rfl (by kernel_rfl)) rfl ?_
          have hq := HQQ.out
          rw [i64_w] at hq
          exact ⟨by rw [← HAN.out, ← HQ0.out, hq, if_pos HC1.out], HU1.out⟩
        · have HC1 := Lib.hid hc1
          have g0 : V.cell? ⟨b, 0, none⟩ = some (#[.string p, .int .i64 (q), .string (s.extract 0 m.toNat), .bool (u == 0)][0]) := (blk_cell HKb.out 0).trans rfl
          have gf0 : V.frozen? ⟨b, 0, none⟩ = false := by simp [World.frozen?, HKb.out]
          have g1 : V.cell? ⟨b, 1, none⟩ = some (#[.string p, .int .i64 (q), .string (s.extract 0 m.toNat), .bool (u == 0)][1]) := (blk_cell HKb.out 1).trans rfl
          have gf1 : V.frozen? ⟨b, 1, none⟩ = false := by simp [World.frozen?, HKb.out]
          have g2 : V.cell? ⟨b, 2, none⟩ = some (#[.string p, .int .i64 (q), .string (s.extract 0 m.toNat), .bool (u == 0)][2]) := (blk_cell HKb.out 2).trans rfl
          have gf2 : V.frozen? ⟨b, 2, none⟩ = false := by simp [World.frozen?, HKb.out]
          have g3 : V.cell? ⟨b, 3, none⟩ = some (#[.string p, .int .i64 (q), .string (s.extract 0 m.toNat), .bool (u == 0)][3]) := (blk_cell HKb.out 3).trans rfl
          have gf3 : V.frozen? ⟨b, 3, none⟩ = false := by simp [World.frozen?, HKb.out]
          have hc2 : (q == 1) = false := beq_eq_false_iff_ne.2 hc1
          have HV1 := HV
          have HQ3 := HQ2
          have r0 : V.cell? ⟨rb, 0, none⟩ = some (#[.string (⟨#[]⟩ : ByteArray), .int .i64 0, .string (⟨#[]⟩ : ByteArray), .bool false][0]) := (blk_cell HQ3.out 0).trans rfl
          have rf0 : V.frozen? ⟨rb, 0, none⟩ = false := by simp [World.frozen?, HQ3.out]
          have r1 : V.cell? ⟨rb, 1, none⟩ = some (#[.string (⟨#[]⟩ : ByteArray), .int .i64 0, .string (⟨#[]⟩ : ByteArray), .bool false][1]) := (blk_cell HQ3.out 1).trans rfl
          have rf1 : V.frozen? ⟨rb, 1, none⟩ = false := by simp [World.frozen?, HQ3.out]
          have r2 : V.cell? ⟨rb, 2, none⟩ = some (#[.string (⟨#[]⟩ : ByteArray), .int .i64 0, .string (⟨#[]⟩ : ByteArray), .bool false][2]) := (blk_cell HQ3.out 2).trans rfl
          have rf2 : V.frozen? ⟨rb, 2, none⟩ = false := by simp [World.frozen?, HQ3.out]
          have r3 : V.cell? ⟨rb, 3, none⟩ = some (#[.string (⟨#[]⟩ : ByteArray), .int .i64 0, .string (⟨#[]⟩ : ByteArray), .bool false][3]) := (blk_cell HQ3.out 3).trans rfl
          have rf3 : V.frozen? ⟨rb, 3, none⟩ = false := by simp [World.frozen?, HQ3.out]
          obtain ⟨U, hU, lb, lo, lB⟩ := set4 HQ3.out (.string p) (.int .i64 (q)) (.string (s.extract 0 m.toNat)) (.bool (u == 0))
          have x0 : U.cell? ⟨rb, 0, none⟩ = some (#[.string p, .int .i64 (q), .string (s.extract 0 m.toNat), .bool (u == 0)][0]) := (blk_cell lb 0).trans rfl
          have xf0 : U.frozen? ⟨rb, 0, none⟩ = false := by simp [World.frozen?, lb]
          have x1 : U.cell? ⟨rb, 1, none⟩ = some (#[.string p, .int .i64 (q), .string (s.extract 0 m.toNat), .bool (u == 0)][1]) := (blk_cell lb 1).trans rfl
          have xf1 : U.frozen? ⟨rb, 1, none⟩ = false := by simp [World.frozen?, lb]
          have x2 : U.cell? ⟨rb, 2, none⟩ = some (#[.string p, .int .i64 (q), .string (s.extract 0 m.toNat), .bool (u == 0)][2]) := (blk_cell lb 2).trans rfl
          have xf2 : U.frozen? ⟨rb, 2, none⟩ = false := by simp [World.frozen?, lb]
          have x3 : U.cell? ⟨rb, 3, none⟩ = some (#[.string p, .int .i64 (q), .string (s.extract 0 m.toNat), .bool (u == 0)][3]) := (blk_cell lb 3).trans rfl
          have xf3 : U.frozen? ⟨rb, 3, none⟩ = false := by simp [World.frozen?, lb]
          have HU1 := Lib.hid (lB _ HV1.out (by have := HRB.out; omega))
          have HU2 := Lib.hid hU
          clear hU lo lB hc1
          refine hEND _ _ ?_
          clear hEND
          go_wp2_with (first | (rw [HU2.out]))
          refine bodyPost_ret (results_cell_row rfl _ _ rb 33 #[.string p, .int .i64 (q), .string (s.extract 0 m.toNat), .bool (u == 0)] (0, 0) _ rfl lb Try.underlying33 rfl (by kernel_rfl)) rfl ?_
          have hq := HQQ.out
          rw [i64_w] at hq
          exact ⟨by rw [← HAN.out, ← HQ0.out, hq, if_neg HC1.out, HMM.out], HU1.out⟩
      · go_simp
        first | refine ⟨trivial, ?_⟩ | skip
        obtain ⟨w3, hw⟩ : ∃ V, V = w2.alloc (.cells #[.string (⟨#[]⟩ : ByteArray), .int .i64 0, .string (⟨#[]⟩ : ByteArray), .bool false] 33) := ⟨_, rfl⟩
        have HK := Lib.hid (show w3.heap[w2.heap.size]? = some (.cells #[.string (⟨#[]⟩ : ByteArray), .int .i64 0, .string (⟨#[]⟩ : ByteArray), .bool false] 33 (0, 0)) by rw [hw]; exact heap_alloc_new w2 _)
        have HG := Lib.hid (below_size HB2.out)
        have HB3 := Lib.hid (show Below W.heap.size W w3 by rw [hw]; exact below_alloc HB2.out _)
        have hT3 : Held.Same Z [W.heap.size, rb] w3 := Held.Same.grown hT2 (by rw [hw]; exact World.grownBy_alloc _ _ none) (fun b hb => ⟨HZ8.out b hb, by simp⟩)
        try rw [← hw]
        refine hK.out _ _ (fun _ => hT3) ?_
        clear hK K
        have HN := Lib.hid (show w2.heap.size ≠ rb by have := blk_lt ((hT2 rb (by simp)).trans HQ.out); omega)
        generalize w2.heap.size = b at HK HG HN ⊢
        clear hw
        try simp only [Act.put, List.setIfInBounds_toArray, List.set_cons_zero, List.set_cons_succ]
        refine Held.AnyS.step (i := 16) rfl (by kernel_rfl) rfl (fun K hK => ?_)
        go_simp
        first | refine ⟨trivial, ?_⟩ | skip
        refine (callsIn_wide.2 (collatorlaw02_pick.calls y 12 u w3 HU.out)).mono ?_
        rintro e w4 ⟨rfl, hb⟩
        have hb := hb.below
        have HB4 := Lib.hid (below_step HB3.out hb)
        have hT4 : Held.Same Z [W.heap.size, rb] w4 := Held.Same.below hT3 hb HZ8.out
        have hk := Lib.hid hb
        refine hK.out _ _ (fun _ => hT4) ?_
        clear hK K hb
        try simp only [Act.put, List.setIfInBounds_toArray, List.set_cons_zero, List.set_cons_succ]
        have HK := Lib.hid (blk_below HK.out hk.out)
        clear hk
        refine Held.tk (i := 17) rfl hT4 ?_
        try simp only [Act.put, List.setIfInBounds_toArray, List.set_cons_zero, List.set_cons_succ]
        refine Held.tk (i := 18) rfl hT4 ?_
        try simp only [Act.put, List.setIfInBounds_toArray, List.set_cons_zero, List.set_cons_succ]
        refine Held.AnyS.step (i := 20) rfl (by kernel_rfl) rfl (fun K hK => ?_)
        have g0 : w4.cell? ⟨b, 0, none⟩ = some (#[.string (⟨#[]⟩ : ByteArray), .int .i64 0, .string (⟨#[]⟩ : ByteArray), .bool false][0]) := (blk_cell HK.out 0).trans rfl
        have g1 : w4.cell? ⟨b, 1, none⟩ = some (#[.string (⟨#[]⟩ : ByteArray), .int .i64 0, .string (⟨#[]⟩ : ByteArray), .bool false][1]) := (blk_cell HK.out 1).trans rfl
        have g2 : w4.cell? ⟨b, 2, none⟩ = some (#[.string (⟨#[]⟩ : ByteArray), .int .i64 0, .string (⟨#[]⟩ : ByteArray), .bool false][2]) := (blk_cell HK.out 2).trans rfl
        have g3 : w4.cell? ⟨b, 3, none⟩ = some (#[.string (⟨#[]⟩ : ByteArray), .int .i64 0, .string (⟨#[]⟩ : ByteArray), .bool false][3]) := (blk_cell HK.out 3).trans rfl
        have e0 : w4.frozen? ⟨b, 0, none⟩ = false := by simp [World.frozen?, HK.out]
        have e1 : w4.frozen? ⟨b, 1, none⟩ = false := by simp [World.frozen?, HK.out]
        have e2 : w4.frozen? ⟨b, 2, none⟩ = false := by simp [World.frozen?, HK.out]
        have e3 : w4.frozen? ⟨b, 3, none⟩ = false := by simp [World.frozen?, HK.out]
        have HQ1 := Lib.hid ((hT4 rb (by simp)).trans HQ.out)
        clear hT0 hT
        clear hT1
        clear hT2
        clear hT3
        clear hT4
        go_simp
        clear g0 g1 g2 g3 e0 e1 e2 e3
        obtain ⟨V, hV, kb, ko, kB⟩ := set4 HK.out (.string p) (.int .i64 (q)) (.string (s.extract 0 m.toNat)) (.bool (u == 0))
        rw [hV]
        have HV := Lib.hid (kB _ HB4.out HG.out)
        have HQ2 := Lib.hid ((ko _ (Ne.symm HN.out)).trans HQ1.out)
        have HKb := Lib.hid kb
        refine hK.out _ _ (fun h => absurd h (by omega)) ?_
        clear hK K hV kB ko kb
        refine Held.AnyS.done (by kernel_rfl) ?_ _
        go_simp
        by_cases hc1 : q = 1
        · have HC1 := Lib.hid hc1
          have g0 : V.cell? ⟨b, 0, none⟩ = some (#[.string p, .int .i64 (q), .string (s.extract 0 m.toNat), .bool (u == 0)][0]) := (blk_cell HKb.out 0).trans rfl
          have gf0 : V.frozen? ⟨b, 0, none⟩ = false := by simp [World.frozen?, HKb.out]
          have g1 : V.cell? ⟨b, 1, none⟩ = some (#[.string p, .int .i64 (q), .string (s.extract 0 m.toNat), .bool (u == 0)][1]) := (blk_cell HKb.out 1).trans rfl
          have gf1 : V.frozen? ⟨b, 1, none⟩ = false := by simp [World.frozen?, HKb.out]
          have g2 : V.cell? ⟨b, 2, none⟩ = some (#[.string p, .int .i64 (q), .string (s.extract 0 m.toNat), .bool (u == 0)][2]) := (blk_cell HKb.out 2).trans rfl
          have gf2 : V.frozen? ⟨b, 2, none⟩ = false := by simp [World.frozen?, HKb.out]
          have g3 : V.cell? ⟨b, 3, none⟩ = some (#[.string p, .int .i64 (q), .string (s.extract 0 m.toNat), .bool (u == 0)][3]) := (blk_cell HKb.out 3).trans rfl
          have gf3 : V.frozen? ⟨b, 3, none⟩ = false := by simp [World.frozen?, HKb.out]
          have hc2 : (q == 1) = true := beq_iff_eq.2 hc1
          obtain ⟨V1, hV1, kb, ko, kB⟩ := set1 HKb.out (.string (⟨#[]⟩ : ByteArray))
          have HV1 := Lib.hid (kB _ HV.out HG.out)
          have HQ3 := Lib.hid ((ko _ (Ne.symm HN.out)).trans HQ2.out)
          have HV2 := Lib.hid hV1
          have i0 : V1.cell? ⟨b, 0, none⟩ = some (#[.string p, .int .i64 (q), .string (⟨#[]⟩ : ByteArray), .bool (u == 0)][0]) := (blk_cell kb 0).trans rfl
          have if0 : V1.frozen? ⟨b, 0, none⟩ = false := by simp [World.frozen?, kb]
          have i1 : V1.cell? ⟨b, 1, none⟩ = some (#[.string p, .int .i64 (q), .string (⟨#[]⟩ : ByteArray), .bool (u == 0)][1]) := (blk_cell kb 1).trans rfl
          have if1 : V1.frozen? ⟨b, 1, none⟩ = false := by simp [World.frozen?, kb]
          have i2 : V1.cell? ⟨b, 2, none⟩ = some (#[.string p, .int .i64 (q), .string (⟨#[]⟩ : ByteArray), .bool (u == 0)][2]) := (blk_cell kb 2).trans rfl
          have if2 : V1.frozen? ⟨b, 2, none⟩ = false := by simp [World.frozen?, kb]
          have i3 : V1.cell? ⟨b, 3, none⟩ = some (#[.string p, .int .i64 (q), .string (⟨#[]⟩ : ByteArray), .bool (u == 0)][3]) := (blk_cell kb 3).trans rfl
          have if3 : V1.frozen? ⟨b, 3, none⟩ = false := by simp [World.frozen?, kb]
          have r0 : V1.cell? ⟨rb, 0, none⟩ = some (#[.string (⟨#[]⟩ : ByteArray), .int .i64 0, .string (⟨#[]⟩ : ByteArray), .bool false][0]) := (blk_cell HQ3.out 0).trans rfl
          have rf0 : V1.frozen? ⟨rb, 0, none⟩ = false := by simp [World.frozen?, HQ3.out]
          have r1 : V1.cell? ⟨rb, 1, none⟩ = some (#[.string (⟨#[]⟩ : ByteArray), .int .i64 0, .string (⟨#[]⟩ : ByteArray), .bool false][1]) := (blk_cell HQ3.out 1).trans rfl
          have rf1 : V1.frozen? ⟨rb, 1, none⟩ = false := by simp [World.frozen?, HQ3.out]
          have r2 : V1.cell? ⟨rb, 2, none⟩ = some (#[.string (⟨#[]⟩ : ByteArray), .int .i64 0, .string (⟨#[]⟩ : ByteArray), .bool false][2]) := (blk_cell HQ3.out 2).trans rfl
          have rf2 : V1.frozen? ⟨rb, 2, none⟩ = false := by simp [World.frozen?, HQ3.out]
          have r3 : V1.cell? ⟨rb, 3, none⟩ = some (#[.string (⟨#[]⟩ : ByteArray), .int .i64 0, .string (⟨#[]⟩ : ByteArray), .bool false][3]) := (blk_cell HQ3.out 3).trans rfl
          have rf3 : V1.frozen? ⟨rb, 3, none⟩ = false := by simp [World.frozen?, HQ3.out]
          obtain ⟨U, hU, lb, lo, lB⟩ := set4 HQ3.out (.string p) (.int .i64 (q)) (.string (⟨#[]⟩ : ByteArray)) (.bool (u == 0))
          have x0 : U.cell? ⟨rb, 0, none⟩ = some (#[.string p, .int .i64 (q), .string (⟨#[]⟩ : ByteArray), .bool (u == 0)][0]) := (blk_cell lb 0).trans rfl
          have xf0 : U.frozen? ⟨rb, 0, none⟩ = false := by simp [World.frozen?, lb]
          have x1 : U.cell? ⟨rb, 1, none⟩ = some (#[.string p, .int .i64 (q), .string (⟨#[]⟩ : ByteArray), .bool (u == 0)][1]) := (blk_cell lb 1).trans rfl
          have xf1 : U.frozen? ⟨rb, 1, none⟩ = false := by simp [World.frozen?, lb]
          have x2 : U.cell? ⟨rb, 2, none⟩ = some (#[.string p, .int .i64 (q), .string (⟨#[]⟩ : ByteArray), .bool (u == 0)][2]) := (blk_cell lb 2).trans rfl
          have xf2 : U.frozen? ⟨rb, 2, none⟩ = false := by simp [World.frozen?, lb]
          have x3 : U.cell? ⟨rb, 3, none⟩ = some (#[.string p, .int .i64 (q), .string (⟨#[]⟩ : ByteArray), .bool (u == 0)][3]) := (blk_cell lb 3).trans rfl
          have xf3 : U.frozen? ⟨rb, 3, none⟩ = false := by simp [World.frozen?, lb]
          have HU1 := Lib.hid (lB _ HV1.out (by have := HRB.out; omega))
          have HU2 := Lib.hid hU
          clear hV1 kb ko kB hU lo lB hc1
          refine hEND _ _ ?_
          clear hEND
          go_wp2_with (first | (rw [HU2.out]) | (rw [HV2.out]))
          refine bodyPost_ret (results_cell_row rfl _ _ rb 33 #[.string p, .int .i64 (q), .string (⟨#[]⟩ : ByteArray), .bool (u == 0)] (0, 0) _ rfl lb Try.underlying33 rfl (by kernel_rfl)) rfl ?_
          have hq := HQQ.out
          rw [i64_w] at hq
          exact ⟨by rw [← HAN.out, ← HQ0.out, hq, if_pos HC1.out], HU1.out⟩
        · have HC1 := Lib.hid hc1
          have g0 : V.cell? ⟨b, 0, none⟩ = some (#[.string p, .int .i64 (q), .string (s.extract 0 m.toNat), .bool (u == 0)][0]) := (blk_cell HKb.out 0).trans rfl
          have gf0 : V.frozen? ⟨b, 0, none⟩ = false := by simp [World.frozen?, HKb.out]
          have g1 : V.cell? ⟨b, 1, none⟩ = some (#[.string p, .int .i64 (q), .string (s.extract 0 m.toNat), .bool (u == 0)][1]) := (blk_cell HKb.out 1).trans rfl
          have gf1 : V.frozen? ⟨b, 1, none⟩ = false := by simp [World.frozen?, HKb.out]
          have g2 : V.cell? ⟨b, 2, none⟩ = some (#[.string p, .int .i64 (q), .string (s.extract 0 m.toNat), .bool (u == 0)][2]) := (blk_cell HKb.out 2).trans rfl
          have gf2 : V.frozen? ⟨b, 2, none⟩ = false := by simp [World.frozen?, HKb.out]
          have g3 : V.cell? ⟨b, 3, none⟩ = some (#[.string p, .int .i64 (q), .string (s.extract 0 m.toNat), .bool (u == 0)][3]) := (blk_cell HKb.out 3).trans rfl
          have gf3 : V.frozen? ⟨b, 3, none⟩ = false := by simp [World.frozen?, HKb.out]
          have hc2 : (q == 1) = false := beq_eq_false_iff_ne.2 hc1
          have HV1 := HV
          have HQ3 := HQ2
          have r0 : V.cell? ⟨rb, 0, none⟩ = some (#[.string (⟨#[]⟩ : ByteArray), .int .i64 0, .string (⟨#[]⟩ : ByteArray), .bool false][0]) := (blk_cell HQ3.out 0).trans rfl
          have rf0 : V.frozen? ⟨rb, 0, none⟩ = false := by simp [World.frozen?, HQ3.out]
          have r1 : V.cell? ⟨rb, 1, none⟩ = some (#[.string (⟨#[]⟩ : ByteArray), .int .i64 0, .string (⟨#[]⟩ : ByteArray), .bool false][1]) := (blk_cell HQ3.out 1).trans rfl
          have rf1 : V.frozen? ⟨rb, 1, none⟩ = false := by simp [World.frozen?, HQ3.out]
          have r2 : V.cell? ⟨rb, 2, none⟩ = some (#[.string (⟨#[]⟩ : ByteArray), .int .i64 0, .string (⟨#[]⟩ : ByteArray), .bool false][2]) := (blk_cell HQ3.out 2).trans rfl
          have rf2 : V.frozen? ⟨rb, 2, none⟩ = false := by simp [World.frozen?, HQ3.out]
          have r3 : V.cell? ⟨rb, 3, none⟩ = some (#[.string (⟨#[]⟩ : ByteArray), .int .i64 0, .string (⟨#[]⟩ : ByteArray), .bool false][3]) := (blk_cell HQ3.out 3).trans rfl
          have rf3 : V.frozen? ⟨rb, 3, none⟩ = false := by simp [World.frozen?, HQ3.out]
          obtain ⟨U, hU, lb, lo, lB⟩ := set4 HQ3.out (.string p) (.int .i64 (q)) (.string (s.extract 0 m.toNat)) (.bool (u == 0))
          have x0 : U.cell? ⟨rb, 0, none⟩ = some (#[.string p, .int .i64 (q), .string (s.extract 0 m.toNat), .bool (u == 0)][0]) := (blk_cell lb 0).trans rfl
          have xf0 : U.frozen? ⟨rb, 0, none⟩ = false := by simp [World.frozen?, lb]
          have x1 : U.cell? ⟨rb, 1, none⟩ = some (#[.string p, .int .i64 (q), .string (s.extract 0 m.toNat), .bool (u == 0)][1]) := (blk_cell lb 1).trans rfl
          have xf1 : U.frozen? ⟨rb, 1, none⟩ = false := by simp [World.frozen?, lb]
          have x2 : U.cell? ⟨rb, 2, none⟩ = some (#[.string p, .int .i64 (q), .string (s.extract 0 m.toNat), .bool (u == 0)][2]) := (blk_cell lb 2).trans rfl
          have xf2 : U.frozen? ⟨rb, 2, none⟩ = false := by simp [World.frozen?, lb]
          have x3 : U.cell? ⟨rb, 3, none⟩ = some (#[.string p, .int .i64 (q), .string (s.extract 0 m.toNat), .bool (u == 0)][3]) := (blk_cell lb 3).trans rfl
          have xf3 : U.frozen? ⟨rb, 3, none⟩ = false := by simp [World.frozen?, lb]
          have HU1 := Lib.hid (lB _ HV1.out (by have := HRB.out; omega))
          have HU2 := Lib.hid hU
          clear hU lo lB hc1
          refine hEND _ _ ?_
          clear hEND
          go_wp2_with (first | (rw [HU2.out]))
          refine bodyPost_ret (results_cell_row rfl _ _ rb 33 #[.string p, .int .i64 (q), .string (s.extract 0 m.toNat), .bool (u == 0)] (0, 0) _ rfl lb Try.underlying33 rfl (by kernel_rfl)) rfl ?_
          have hq := HQQ.out
          rw [i64_w] at hq
          exact ⟨by rw [← HAN.out, ← HQ0.out, hq, if_neg HC1.out, HMM.out], HU1.out⟩
    · go_simp
      first | refine ⟨trivial, ?_⟩ | skip
      obtain ⟨w2, hw⟩ : ∃ V, V = w1.alloc (.cells #[.string (⟨#[]⟩ : ByteArray), .int .i64 0, .string (⟨#[]⟩ : ByteArray), .bool false] 33) := ⟨_, rfl⟩
      have HK := Lib.hid (show w2.heap[w1.heap.size]? = some (.cells #[.string (⟨#[]⟩ : ByteArray), .int .i64 0, .string (⟨#[]⟩ : ByteArray), .bool false] 33 (0, 0)) by rw [hw]; exact heap_alloc_new w1 _)
      have HG := Lib.hid (below_size HB1.out)
      have HB2 := Lib.hid (show Below W.heap.size W w2 by rw [hw]; exact below_alloc HB1.out _)
      have hT2 : Held.Same Z [W.heap.size, rb] w2 := Held.Same.grown hT1 (by rw [hw]; exact World.grownBy_alloc _ _ none) (fun b hb => ⟨HZ8.out b hb, by simp⟩)
      try rw [← hw]
      refine hK.out _ _ (fun _ => hT2) ?_
      clear hK K
      have HN := Lib.hid (show w1.heap.size ≠ rb by have := blk_lt ((hT1 rb (by simp)).trans HQ.out); omega)
      generalize w1.heap.size = b at HK HG HN ⊢
      clear hw
      try simp only [Act.put, List.setIfInBounds_toArray, List.set_cons_zero, List.set_cons_succ]
      refine Held.AnyS.step (i := 5) rfl (by kernel_rfl) rfl (fun K hK => ?_)
      go_simp
      first | refine ⟨trivial, ?_⟩ | skip
      refine (callsIn_wide.2 (collatorlaw02_pick.calls x 3 t w2 HT.out)).mono ?_
      rintro e w3 ⟨rfl, hb⟩
      have hb := hb.below
      have HB3 := Lib.hid (below_step HB2.out hb)
      have hT3 : Held.Same Z [W.heap.size, rb] w3 := Held.Same.below hT2 hb HZ8.out
      have hk := Lib.hid hb
      refine hK.out _ _ (fun _ => hT3) ?_
      clear hK K hb
      try simp only [Act.put, List.setIfInBounds_toArray, List.set_cons_zero, List.set_cons_succ]
      have HK := Lib.hid (blk_below HK.out hk.out)
      clear hk
      refine Held.tk (i := 6) rfl hT3 ?_
      try simp only [Act.put, List.setIfInBounds_toArray, List.set_cons_zero, List.set_cons_succ]
      generalize hq : IntKind.i64.wrap (1 + t) = q
      have HQQ := Lib.hid hq
      clear hq
      refine Held.AnyS.step (i := 16) rfl (by kernel_rfl) rfl (fun K hK => ?_)
      go_simp
      first | refine ⟨trivial, ?_⟩ | skip
      refine (callsIn_wide.2 (collatorlaw02_pick.calls y 12 u w3 HU.out)).mono ?_
      rintro e w4 ⟨rfl, hb⟩
      have hb := hb.below
      have HB4 := Lib.hid (below_step HB3.out hb)
      have hT4 : Held.Same Z [W.heap.size, rb] w4 := Held.Same.below hT3 hb HZ8.out
      have hk := Lib.hid hb
      refine hK.out _ _ (fun _ => hT4) ?_
      clear hK K hb
      try simp only [Act.put, List.setIfInBounds_toArray, List.set_cons_zero, List.set_cons_succ]
      have HK := Lib.hid (blk_below HK.out hk.out)
      clear hk
      refine Held.tk (i := 17) rfl hT4 ?_
      try simp only [Act.put, List.setIfInBounds_toArray, List.set_cons_zero, List.set_cons_succ]
      refine Held.tk (i := 18) rfl hT4 ?_
      try simp only [Act.put, List.setIfInBounds_toArray, List.set_cons_zero, List.set_cons_succ]
      refine Held.AnyS.step (i := 20) rfl (by kernel_rfl) rfl (fun K hK => ?_)
      have g0 : w4.cell? ⟨b, 0, none⟩ = some (#[.string (⟨#[]⟩ : ByteArray), .int .i64 0, .string (⟨#[]⟩ : ByteArray), .bool false][0]) := (blk_cell HK.out 0).trans rfl
      have g1 : w4.cell? ⟨b, 1, none⟩ = some (#[.string (⟨#[]⟩ : ByteArray), .int .i64 0, .string (⟨#[]⟩ : ByteArray), .bool false][1]) := (blk_cell HK.out 1).trans rfl
      have g2 : w4.cell? ⟨b, 2, none⟩ = some (#[.string (⟨#[]⟩ : ByteArray), .int .i64 0, .string (⟨#[]⟩ : ByteArray), .bool false][2]) := (blk_cell HK.out 2).trans rfl
      have g3 : w4.cell? ⟨b, 3, none⟩ = some (#[.string (⟨#[]⟩ : ByteArray), .int .i64 0, .string (⟨#[]⟩ : ByteArray), .bool false][3]) := (blk_cell HK.out 3).trans rfl
      have e0 : w4.frozen? ⟨b, 0, none⟩ = false := by simp [World.frozen?, HK.out]
      have e1 : w4.frozen? ⟨b, 1, none⟩ = false := by simp [World.frozen?, HK.out]
      have e2 : w4.frozen? ⟨b, 2, none⟩ = false := by simp [World.frozen?, HK.out]
      have e3 : w4.frozen? ⟨b, 3, none⟩ = false := by simp [World.frozen?, HK.out]
      have HQ1 := Lib.hid ((hT4 rb (by simp)).trans HQ.out)
      clear hT0 hT
      clear hT1
      clear hT2
      clear hT3
      clear hT4
      go_simp
      clear g0 g1 g2 g3 e0 e1 e2 e3
      obtain ⟨V, hV, kb, ko, kB⟩ := set4 HK.out (.string p) (.int .i64 (q)) (.string (s.extract 0 m.toNat)) (.bool (u == 0))
      rw [hV]
      have HV := Lib.hid (kB _ HB4.out HG.out)
      have HQ2 := Lib.hid ((ko _ (Ne.symm HN.out)).trans HQ1.out)
      have HKb := Lib.hid kb
      refine hK.out _ _ (fun h => absurd h (by omega)) ?_
      clear hK K hV kB ko kb
      refine Held.AnyS.done (by kernel_rfl) ?_ _
      go_simp
      by_cases hc1 : q = 1
      · have HC1 := Lib.hid hc1
        have g0 : V.cell? ⟨b, 0, none⟩ = some (#[.string p, .int .i64 (q), .string (s.extract 0 m.toNat), .bool (u == 0)][0]) := (blk_cell HKb.out 0).trans rfl
        have gf0 : V.frozen? ⟨b, 0, none⟩ = false := by simp [World.frozen?, HKb.out]
        have g1 : V.cell? ⟨b, 1, none⟩ = some (#[.string p, .int .i64 (q), .string (s.extract 0 m.toNat), .bool (u == 0)][1]) := (blk_cell HKb.out 1).trans rfl
        have gf1 : V.frozen? ⟨b, 1, none⟩ = false := by simp [World.frozen?, HKb.out]
        have g2 : V.cell? ⟨b, 2, none⟩ = some (#[.string p, .int .i64 (q), .string (s.extract 0 m.toNat), .bool (u == 0)][2]) := (blk_cell HKb.out 2).trans rfl
        have gf2 : V.frozen? ⟨b, 2, none⟩ = false := by simp [World.frozen?, HKb.out]
        have g3 : V.cell? ⟨b, 3, none⟩ = some (#[.string p, .int .i64 (q), .string (s.extract 0 m.toNat), .bool (u == 0)][3]) := (blk_cell HKb.out 3).trans rfl
        have gf3 : V.frozen? ⟨b, 3, none⟩ = false := by simp [World.frozen?, HKb.out]
        have hc2 : (q == 1) = true := beq_iff_eq.2 hc1
        obtain ⟨V1, hV1, kb, ko, kB⟩ := set1 HKb.out (.string (⟨#[]⟩ : ByteArray))
        have HV1 := Lib.hid (kB _ HV.out HG.out)
        have HQ3 := Lib.hid ((ko _ (Ne.symm HN.out)).trans HQ2.out)
        have HV2 := Lib.hid hV1
        have i0 : V1.cell? ⟨b, 0, none⟩ = some (#[.string p, .int .i64 (q), .string (⟨#[]⟩ : ByteArray), .bool (u == 0)][0]) := (blk_cell kb 0).trans rfl
        have if0 : V1.frozen? ⟨b, 0, none⟩ = false := by simp [World.frozen?, kb]
        have i1 : V1.cell? ⟨b, 1, none⟩ = some (#[.string p, .int .i64 (q), .string (⟨#[]⟩ : ByteArray), .bool (u == 0)][1]) := (blk_cell kb 1).trans rfl
        have if1 : V1.frozen? ⟨b, 1, none⟩ = false := by simp [World.frozen?, kb]
        have i2 : V1.cell? ⟨b, 2, none⟩ = some (#[.string p, .int .i64 (q), .string (⟨#[]⟩ : ByteArray), .bool (u == 0)][2]) := (blk_cell kb 2).trans rfl
        have if2 : V1.frozen? ⟨b, 2, none⟩ = false := by simp [World.frozen?, kb]
        have i3 : V1.cell? ⟨b, 3, none⟩ = some (#[.string p, .int .i64 (q), .string (⟨#[]⟩ : ByteArray), .bool (u == 0)][3]) := (blk_cell kb 3).trans rfl
        have if3 : V1.frozen? ⟨b, 3, none⟩ = false := by simp [World.frozen?, kb]
        have r0 : V1.cell? ⟨rb, 0, none⟩ = some (#[.string (⟨#[]⟩ : ByteArray), .int .i64 0, .string (⟨#[]⟩ : ByteArray), .bool false][0]) := (blk_cell HQ3.out 0).trans rfl
        have rf0 : V1.frozen? ⟨rb, 0, none⟩ = false := by simp [World.frozen?, HQ3.out]
        have r1 : V1.cell? ⟨rb, 1, none⟩ = some (#[.string (⟨#[]⟩ : ByteArray), .int .i64 0, .string (⟨#[]⟩ : ByteArray), .bool false][1]) := (blk_cell HQ3.out 1).trans rfl
        have rf1 : V1.frozen? ⟨rb, 1, none⟩ = false := by simp [World.frozen?, HQ3.out]
        have r2 : V1.cell? ⟨rb, 2, none⟩ = some (#[.string (⟨#[]⟩ : ByteArray), .int .i64 0, .string (⟨#[]⟩ : ByteArray), .bool false][2]) := (blk_cell HQ3.out 2).trans rfl
        have rf2 : V1.frozen? ⟨rb, 2, none⟩ = false := by simp [World.frozen?, HQ3.out]
        have r3 : V1.cell? ⟨rb, 3, none⟩ = some (#[.string (⟨#[]⟩ : ByteArray), .int .i64 0, .string (⟨#[]⟩ : ByteArray), .bool false][3]) := (blk_cell HQ3.out 3).trans rfl
        have rf3 : V1.frozen? ⟨rb, 3, none⟩ = false := by simp [World.frozen?, HQ3.out]
        obtain ⟨U, hU, lb, lo, lB⟩ := set4 HQ3.out (.string p) (.int .i64 (q)) (.string (⟨#[]⟩ : ByteArray)) (.bool (u == 0))
        have x0 : U.cell? ⟨rb, 0, none⟩ = some (#[.string p, .int .i64 (q), .string (⟨#[]⟩ : ByteArray), .bool (u == 0)][0]) := (blk_cell lb 0).trans rfl
        have xf0 : U.frozen? ⟨rb, 0, none⟩ = false := by simp [World.frozen?, lb]
        have x1 : U.cell? ⟨rb, 1, none⟩ = some (#[.string p, .int .i64 (q), .string (⟨#[]⟩ : ByteArray), .bool (u == 0)][1]) := (blk_cell lb 1).trans rfl
        have xf1 : U.frozen? ⟨rb, 1, none⟩ = false := by simp [World.frozen?, lb]
        have x2 : U.cell? ⟨rb, 2, none⟩ = some (#[.string p, .int .i64 (q), .string (⟨#[]⟩ : ByteArray), .bool (u == 0)][2]) := (blk_cell lb 2).trans rfl
        have xf2 : U.frozen? ⟨rb, 2, none⟩ = false := by simp [World.frozen?, lb]
        have x3 : U.cell? ⟨rb, 3, none⟩ = some (#[.string p, .int .i64 (q), .string (⟨#[]⟩ : ByteArray), .bool (u == 0)][3]) := (blk_cell lb 3).trans rfl
        have xf3 : U.frozen? ⟨rb, 3, none⟩ = false := by simp [World.frozen?, lb]
        have HU1 := Lib.hid (lB _ HV1.out (by have := HRB.out; omega))
        have HU2 := Lib.hid hU
        clear hV1 kb ko kB hU lo lB hc1
        refine hEND _ _ ?_
        clear hEND
        go_wp2_with (first | (rw [HU2.out]) | (rw [HV2.out]))
        refine bodyPost_ret (results_cell_row rfl _ _ rb 33 #[.string p, .int .i64 (q), .string (⟨#[]⟩ : ByteArray), .bool (u == 0)] (0, 0) _ rfl lb Try.underlying33 rfl (by kernel_rfl)) rfl ?_
        have hq := HQQ.out
        rw [i64_w] at hq
        exact ⟨by rw [← HAN.out, ← HQ0.out, hq, if_pos HC1.out], HU1.out⟩
      · have HC1 := Lib.hid hc1
        have g0 : V.cell? ⟨b, 0, none⟩ = some (#[.string p, .int .i64 (q), .string (s.extract 0 m.toNat), .bool (u == 0)][0]) := (blk_cell HKb.out 0).trans rfl
        have gf0 : V.frozen? ⟨b, 0, none⟩ = false := by simp [World.frozen?, HKb.out]
        have g1 : V.cell? ⟨b, 1, none⟩ = some (#[.string p, .int .i64 (q), .string (s.extract 0 m.toNat), .bool (u == 0)][1]) := (blk_cell HKb.out 1).trans rfl
        have gf1 : V.frozen? ⟨b, 1, none⟩ = false := by simp [World.frozen?, HKb.out]
        have g2 : V.cell? ⟨b, 2, none⟩ = some (#[.string p, .int .i64 (q), .string (s.extract 0 m.toNat), .bool (u == 0)][2]) := (blk_cell HKb.out 2).trans rfl
        have gf2 : V.frozen? ⟨b, 2, none⟩ = false := by simp [World.frozen?, HKb.out]
        have g3 : V.cell? ⟨b, 3, none⟩ = some (#[.string p, .int .i64 (q), .string (s.extract 0 m.toNat), .bool (u == 0)][3]) := (blk_cell HKb.out 3).trans rfl
        have gf3 : V.frozen? ⟨b, 3, none⟩ = false := by simp [World.frozen?, HKb.out]
        have hc2 : (q == 1) = false := beq_eq_false_iff_ne.2 hc1
        have HV1 := HV
        have HQ3 := HQ2
        have r0 : V.cell? ⟨rb, 0, none⟩ = some (#[.string (⟨#[]⟩ : ByteArray), .int .i64 0, .string (⟨#[]⟩ : ByteArray), .bool false][0]) := (blk_cell HQ3.out 0).trans rfl
        have rf0 : V.frozen? ⟨rb, 0, none⟩ = false := by simp [World.frozen?, HQ3.out]
        have r1 : V.cell? ⟨rb, 1, none⟩ = some (#[.string (⟨#[]⟩ : ByteArray), .int .i64 0, .string (⟨#[]⟩ : ByteArray), .bool false][1]) := (blk_cell HQ3.out 1).trans rfl
        have rf1 : V.frozen? ⟨rb, 1, none⟩ = false := by simp [World.frozen?, HQ3.out]
        have r2 : V.cell? ⟨rb, 2, none⟩ = some (#[.string (⟨#[]⟩ : ByteArray), .int .i64 0, .string (⟨#[]⟩ : ByteArray), .bool false][2]) := (blk_cell HQ3.out 2).trans rfl
        have rf2 : V.frozen? ⟨rb, 2, none⟩ = false := by simp [World.frozen?, HQ3.out]
        have r3 : V.cell? ⟨rb, 3, none⟩ = some (#[.string (⟨#[]⟩ : ByteArray), .int .i64 0, .string (⟨#[]⟩ : ByteArray), .bool false][3]) := (blk_cell HQ3.out 3).trans rfl
        have rf3 : V.frozen? ⟨rb, 3, none⟩ = false := by simp [World.frozen?, HQ3.out]
        obtain ⟨U, hU, lb, lo, lB⟩ := set4 HQ3.out (.string p) (.int .i64 (q)) (.string (s.extract 0 m.toNat)) (.bool (u == 0))
        have x0 : U.cell? ⟨rb, 0, none⟩ = some (#[.string p, .int .i64 (q), .string (s.extract 0 m.toNat), .bool (u == 0)][0]) := (blk_cell lb 0).trans rfl
        have xf0 : U.frozen? ⟨rb, 0, none⟩ = false := by simp [World.frozen?, lb]
        have x1 : U.cell? ⟨rb, 1, none⟩ = some (#[.string p, .int .i64 (q), .string (s.extract 0 m.toNat), .bool (u == 0)][1]) := (blk_cell lb 1).trans rfl
        have xf1 : U.frozen? ⟨rb, 1, none⟩ = false := by simp [World.frozen?, lb]
        have x2 : U.cell? ⟨rb, 2, none⟩ = some (#[.string p, .int .i64 (q), .string (s.extract 0 m.toNat), .bool (u == 0)][2]) := (blk_cell lb 2).trans rfl
        have xf2 : U.frozen? ⟨rb, 2, none⟩ = false := by simp [World.frozen?, lb]
        have x3 : U.cell? ⟨rb, 3, none⟩ = some (#[.string p, .int .i64 (q), .string (s.extract 0 m.toNat), .bool (u == 0)][3]) := (blk_cell lb 3).trans rfl
        have xf3 : U.frozen? ⟨rb, 3, none⟩ = false := by simp [World.frozen?, lb]
        have HU1 := Lib.hid (lB _ HV1.out (by have := HRB.out; omega))
        have HU2 := Lib.hid hU
        clear hU lo lB hc1
        refine hEND _ _ ?_
        clear hEND
        go_wp2_with (first | (rw [HU2.out]))
        refine bodyPost_ret (results_cell_row rfl _ _ rb 33 #[.string p, .int .i64 (q), .string (s.extract 0 m.toNat), .bool (u == 0)] (0, 0) _ rfl lb Try.underlying33 rfl (by kernel_rfl)) rfl ?_
        have hq := HQQ.out
        rw [i64_w] at hq
        exact ⟨by rw [← HAN.out, ← HQ0.out, hq, if_neg HC1.out, HMM.out], HU1.out⟩
  · go_simp
    first | refine ⟨trivial, ?_⟩ | skip
    obtain ⟨w1, hw⟩ : ∃ V, V = Z.alloc (.cells #[.string (⟨#[]⟩ : ByteArray), .int .i64 0, .string (⟨#[]⟩ : ByteArray), .bool false] 33) := ⟨_, rfl⟩
    have HK := Lib.hid (show w1.heap[Z.heap.size]? = some (.cells #[.string (⟨#[]⟩ : ByteArray), .int .i64 0, .string (⟨#[]⟩ : ByteArray), .bool false] 33 (0, 0)) by rw [hw]; exact heap_alloc_new Z _)
    have HG := Lib.hid (below_size HB0.out)
    have HB1 := Lib.hid (show Below W.heap.size W w1 by rw [hw]; exact below_alloc HB0.out _)
    have hT1 : Held.Same Z [W.heap.size, rb] w1 := Held.Same.grown hT0 (by rw [hw]; exact World.grownBy_alloc _ _ none) (fun b hb => ⟨HZ8.out b hb, by simp⟩)
    try rw [← hw]
    refine hK.out _ _ (fun _ => hT1) ?_
    clear hK K
    have HN := Lib.hid (show Z.heap.size ≠ rb by have := blk_lt ((hT0 rb (by simp)).trans HQ.out); omega)
    generalize Z.heap.size = b at HK HG HN ⊢
    clear hw
    try simp only [Act.put, List.setIfInBounds_toArray, List.set_cons_zero, List.set_cons_succ]
    refine Held.AnyS.step (i := 2) rfl (by kernel_rfl) rfl (fun K hK => ?_)
    go_simp
    first | refine ⟨trivial, ?_⟩ | skip
    refine (callsIn_wide.2 (collatorlaw01_Path.calls k A c l p w1 (Kd.C_below HR.out HB1.out) HC.out HP.out)).mono ?_
    rintro e w2 ⟨rfl, hb⟩
    have HB2 := Lib.hid (below_step HB1.out hb)
    have hT2 : Held.Same Z [W.heap.size, rb] w2 := Held.Same.below hT1 hb HZ8.out
    have hk := Lib.hid hb
    refine hK.out _ _ (fun _ => hT2) ?_
    clear hK K hb
    try simp only [Act.put, List.setIfInBounds_toArray, List.set_cons_zero, List.set_cons_succ]
    have HK := Lib.hid (blk_below HK.out hk.out)
    clear hk
    refine Held.AnyS.step (i := 5) rfl (by kernel_rfl) rfl (fun K hK => ?_)
    go_simp
    first | refine ⟨trivial, ?_⟩ | skip
    refine (callsIn_wide.2 (collatorlaw02_pick.calls x 3 t w2 HT.out)).mono ?_
    rintro e w3 ⟨rfl, hb⟩
    have hb := hb.below
    have HB3 := Lib.hid (below_step HB2.out hb)
    have hT3 : Held.Same Z [W.heap.size, rb] w3 := Held.Same.below hT2 hb HZ8.out
    have hk := Lib.hid hb
    refine hK.out _ _ (fun _ => hT3) ?_
    clear hK K hb
    try simp only [Act.put, List.setIfInBounds_toArray, List.set_cons_zero, List.set_cons_succ]
    have HK := Lib.hid (blk_below HK.out hk.out)
    clear hk
    refine Held.tk (i := 6) rfl hT3 ?_
    try simp only [Act.put, List.setIfInBounds_toArray, List.set_cons_zero, List.set_cons_succ]
    generalize hq : IntKind.i64.wrap (1 + t) = q
    have HQQ := Lib.hid hq
    clear hq
    refine Held.AnyS.step (i := 16) rfl (by kernel_rfl) rfl (fun K hK => ?_)
    go_simp
    first | refine ⟨trivial, ?_⟩ | skip
    refine (callsIn_wide.2 (collatorlaw02_pick.calls y 12 u w3 HU.out)).mono ?_
    rintro e w4 ⟨rfl, hb⟩
    have hb := hb.below
    have HB4 := Lib.hid (below_step HB3.out hb)
    have hT4 : Held.Same Z [W.heap.size, rb] w4 := Held.Same.below hT3 hb HZ8.out
    have hk := Lib.hid hb
    refine hK.out _ _ (fun _ => hT4) ?_
    clear hK K hb
    try simp only [Act.put, List.setIfInBounds_toArray, List.set_cons_zero, List.set_cons_succ]
    have HK := Lib.hid (blk_below HK.out hk.out)
    clear hk
    refine Held.tk (i := 17) rfl hT4 ?_
    try simp only [Act.put, List.setIfInBounds_toArray, List.set_cons_zero, List.set_cons_succ]
    refine Held.tk (i := 18) rfl hT4 ?_
    try simp only [Act.put, List.setIfInBounds_toArray, List.set_cons_zero, List.set_cons_succ]
    refine Held.AnyS.step (i := 20) rfl (by kernel_rfl) rfl (fun K hK => ?_)
    have g0 : w4.cell? ⟨b, 0, none⟩ = some (#[.string (⟨#[]⟩ : ByteArray), .int .i64 0, .string (⟨#[]⟩ : ByteArray), .bool false][0]) := (blk_cell HK.out 0).trans rfl
    have g1 : w4.cell? ⟨b, 1, none⟩ = some (#[.string (⟨#[]⟩ : ByteArray), .int .i64 0, .string (⟨#[]⟩ : ByteArray), .bool false][1]) := (blk_cell HK.out 1).trans rfl
    have g2 : w4.cell? ⟨b, 2, none⟩ = some (#[.string (⟨#[]⟩ : ByteArray), .int .i64 0, .string (⟨#[]⟩ : ByteArray), .bool false][2]) := (blk_cell HK.out 2).trans rfl
    have g3 : w4.cell? ⟨b, 3, none⟩ = some (#[.string (⟨#[]⟩ : ByteArray), .int .i64 0, .string (⟨#[]⟩ : ByteArray), .bool false][3]) := (blk_cell HK.out 3).trans rfl
    have e0 : w4.frozen? ⟨b, 0, none⟩ = false := by simp [World.frozen?, HK.out]
    have e1 : w4.frozen? ⟨b, 1, none⟩ = false := by simp [World.frozen?, HK.out]
    have e2 : w4.frozen? ⟨b, 2, none⟩ = false := by simp [World.frozen?, HK.out]
    have e3 : w4.frozen? ⟨b, 3, none⟩ = false := by simp [World.frozen?, HK.out]
    have HQ1 := Lib.hid ((hT4 rb (by simp)).trans HQ.out)
    clear hT0 hT
    clear hT1
    clear hT2
    clear hT3
    clear hT4
    go_simp
    clear g0 g1 g2 g3 e0 e1 e2 e3
    obtain ⟨V, hV, kb, ko, kB⟩ := set4 HK.out (.string p) (.int .i64 (q)) (.string (s.extract 0 m.toNat)) (.bool (u == 0))
    rw [hV]
    have HV := Lib.hid (kB _ HB4.out HG.out)
    have HQ2 := Lib.hid ((ko _ (Ne.symm HN.out)).trans HQ1.out)
    have HKb := Lib.hid kb
    refine hK.out _ _ (fun h => absurd h (by omega)) ?_
    clear hK K hV kB ko kb
    refine Held.AnyS.done (by kernel_rfl) ?_ _
    go_simp
    by_cases hc1 : q = 1
    · have HC1 := Lib.hid hc1
      have g0 : V.cell? ⟨b, 0, none⟩ = some (#[.string p, .int .i64 (q), .string (s.extract 0 m.toNat), .bool (u == 0)][0]) := (blk_cell HKb.out 0).trans rfl
      have gf0 : V.frozen? ⟨b, 0, none⟩ = false := by simp [World.frozen?, HKb.out]
      have g1 : V.cell? ⟨b, 1, none⟩ = some (#[.string p, .int .i64 (q), .string (s.extract 0 m.toNat), .bool (u == 0)][1]) := (blk_cell HKb.out 1).trans rfl
      have gf1 : V.frozen? ⟨b, 1, none⟩ = false := by simp [World.frozen?, HKb.out]
      have g2 : V.cell? ⟨b, 2, none⟩ = some (#[.string p, .int .i64 (q), .string (s.extract 0 m.toNat), .bool (u == 0)][2]) := (blk_cell HKb.out 2).trans rfl
      have gf2 : V.frozen? ⟨b, 2, none⟩ = false := by simp [World.frozen?, HKb.out]
      have g3 : V.cell? ⟨b, 3, none⟩ = some (#[.string p, .int .i64 (q), .string (s.extract 0 m.toNat), .bool (u == 0)][3]) := (blk_cell HKb.out 3).trans rfl
      have gf3 : V.frozen? ⟨b, 3, none⟩ = false := by simp [World.frozen?, HKb.out]
      have hc2 : (q == 1) = true := beq_iff_eq.2 hc1
      obtain ⟨V1, hV1, kb, ko, kB⟩ := set1 HKb.out (.string (⟨#[]⟩ : ByteArray))
      have HV1 := Lib.hid (kB _ HV.out HG.out)
      have HQ3 := Lib.hid ((ko _ (Ne.symm HN.out)).trans HQ2.out)
      have HV2 := Lib.hid hV1
      have i0 : V1.cell? ⟨b, 0, none⟩ = some (#[.string p, .int .i64 (q), .string (⟨#[]⟩ : ByteArray), .bool (u == 0)][0]) := (blk_cell kb 0).trans rfl
      have if0 : V1.frozen? ⟨b, 0, none⟩ = false := by simp [World.frozen?, kb]
      have i1 : V1.cell? ⟨b, 1, none⟩ = some (#[.string p, .int .i64 (q), .string (⟨#[]⟩ : ByteArray), .bool (u == 0)][1]) := (blk_cell kb 1).trans rfl
      have if1 : V1.frozen? ⟨b, 1, none⟩ = false := by simp [World.frozen?, kb]
      have i2 : V1.cell? ⟨b, 2, none⟩ = some (#[.string p, .int .i64 (q), .string (⟨#[]⟩ : ByteArray), .bool (u == 0)][2]) := (blk_cell kb 2).trans rfl
      have if2 : V1.frozen? ⟨b, 2, none⟩ = false := by simp [World.frozen?, kb]
      have i3 : V1.cell? ⟨b, 3, none⟩ = some (#[.string p, .int .i64 (q), .string (⟨#[]⟩ : ByteArray), .bool (u == 0)][3]) := (blk_cell kb 3).trans rfl
      have if3 : V1.frozen? ⟨b, 3, none⟩ = false := by simp [World.frozen?, kb]
      have r0 : V1.cell? ⟨rb, 0, none⟩ = some (#[.string (⟨#[]⟩ : ByteArray), .int .i64 0, .string (⟨#[]⟩ : ByteArray), .bool false][0]) := (blk_cell HQ3.out 0).trans rfl
      have rf0 : V1.frozen? ⟨rb, 0, none⟩ = false := by simp [World.frozen?, HQ3.out]
      have r1 : V1.cell? ⟨rb, 1, none⟩ = some (#[.string (⟨#[]⟩ : ByteArray), .int .i64 0, .string (⟨#[]⟩ : ByteArray), .bool false][1]) := (blk_cell HQ3.out 1).trans rfl
      have rf1 : V1.frozen? ⟨rb, 1, none⟩ = false := by simp [World.frozen?, HQ3.out]
      have r2 : V1.cell? ⟨rb, 2, none⟩ = some (#[.string (⟨#[]⟩ : ByteArray), .int .i64 0, .string (⟨#[]⟩ : ByteArray), .bool false][2]) := (blk_cell HQ3.out 2).trans rfl
      have rf2 : V1.frozen? ⟨rb, 2, none⟩ = false := by simp [World.frozen?, HQ3.out]
      have r3 : V1.cell? ⟨rb, 3, none⟩ = some (#[.string (⟨#[]⟩ : ByteArray), .int .i64 0, .string (⟨#[]⟩ : ByteArray), .bool false][3]) := (blk_cell HQ3.out 3).trans rfl
      have rf3 : V1.frozen? ⟨rb, 3, none⟩ = false := by simp [World.frozen?, HQ3.out]
      obtain ⟨U, hU, lb, lo, lB⟩ := set4 HQ3.out (.string p) (.int .i64 (q)) (.string (⟨#[]⟩ : ByteArray)) (.bool (u == 0))
      have x0 : U.cell? ⟨rb, 0, none⟩ = some (#[.string p, .int .i64 (q), .string (⟨#[]⟩ : ByteArray), .bool (u == 0)][0]) := (blk_cell lb 0).trans rfl
      have xf0 : U.frozen? ⟨rb, 0, none⟩ = false := by simp [World.frozen?, lb]
      have x1 : U.cell? ⟨rb, 1, none⟩ = some (#[.string p, .int .i64 (q), .string (⟨#[]⟩ : ByteArray), .bool (u == 0)][1]) := (blk_cell lb 1).trans rfl
      have xf1 : U.frozen? ⟨rb, 1, none⟩ = false := by simp [World.frozen?, lb]
      have x2 : U.cell? ⟨rb, 2, none⟩ = some (#[.string p, .int .i64 (q), .string (⟨#[]⟩ : ByteArray), .bool (u == 0)][2]) := (blk_cell lb 2).trans rfl
      have xf2 : U.frozen? ⟨rb, 2, none⟩ = false := by simp [World.frozen?, lb]
      have x3 : U.cell? ⟨rb, 3, none⟩ = some (#[.string p, .int .i64 (q), .string (⟨#[]⟩ : ByteArray), .bool (u == 0)][3]) := (blk_cell lb 3).trans rfl
      have xf3 : U.frozen? ⟨rb, 3, none⟩ = false := by simp [World.frozen?, lb]
      have HU1 := Lib.hid (lB _ HV1.out (by have := HRB.out; omega))
      have HU2 := Lib.hid hU
      clear hV1 kb ko kB hU lo lB hc1
      refine hEND _ _ ?_
      clear hEND
      go_wp2_with (first | (rw [HU2.out]) | (rw [HV2.out]))
      refine bodyPost_ret (results_cell_row rfl _ _ rb 33 #[.string p, .int .i64 (q), .string (⟨#[]⟩ : ByteArray), .bool (u == 0)] (0, 0) _ rfl lb Try.underlying33 rfl (by kernel_rfl)) rfl ?_
      have hq := HQQ.out
      rw [i64_w] at hq
      exact ⟨by rw [← HAN.out, ← HQ0.out, hq, if_pos HC1.out], HU1.out⟩
    · have HC1 := Lib.hid hc1
      have g0 : V.cell? ⟨b, 0, none⟩ = some (#[.string p, .int .i64 (q), .string (s.extract 0 m.toNat), .bool (u == 0)][0]) := (blk_cell HKb.out 0).trans rfl
      have gf0 : V.frozen? ⟨b, 0, none⟩ = false := by simp [World.frozen?, HKb.out]
      have g1 : V.cell? ⟨b, 1, none⟩ = some (#[.string p, .int .i64 (q), .string (s.extract 0 m.toNat), .bool (u == 0)][1]) := (blk_cell HKb.out 1).trans rfl
      have gf1 : V.frozen? ⟨b, 1, none⟩ = false := by simp [World.frozen?, HKb.out]
      have g2 : V.cell? ⟨b, 2, none⟩ = some (#[.string p, .int .i64 (q), .string (s.extract 0 m.toNat), .bool (u == 0)][2]) := (blk_cell HKb.out 2).trans rfl
      have gf2 : V.frozen? ⟨b, 2, none⟩ = false := by simp [World.frozen?, HKb.out]
      have g3 : V.cell? ⟨b, 3, none⟩ = some (#[.string p, .int .i64 (q), .string (s.extract 0 m.toNat), .bool (u == 0)][3]) := (blk_cell HKb.out 3).trans rfl
      have gf3 : V.frozen? ⟨b, 3, none⟩ = false := by simp [World.frozen?, HKb.out]
      have hc2 : (q == 1) = false := beq_eq_false_iff_ne.2 hc1
      have HV1 := HV
      have HQ3 := HQ2
      have r0 : V.cell? ⟨rb, 0, none⟩ = some (#[.string (⟨#[]⟩ : ByteArray), .int .i64 0, .string (⟨#[]⟩ : ByteArray), .bool false][0]) := (blk_cell HQ3.out 0).trans rfl
      have rf0 : V.frozen? ⟨rb, 0, none⟩ = false := by simp [World.frozen?, HQ3.out]
      have r1 : V.cell? ⟨rb, 1, none⟩ = some (#[.string (⟨#[]⟩ : ByteArray), .int .i64 0, .string (⟨#[]⟩ : ByteArray), .bool false][1]) := (blk_cell HQ3.out 1).trans rfl
      have rf1 : V.frozen? ⟨rb, 1, none⟩ = false := by simp [World.frozen?, HQ3.out]
      have r2 : V.cell? ⟨rb, 2, none⟩ = some (#[.string (⟨#[]⟩ : ByteArray), .int .i64 0, .string (⟨#[]⟩ : ByteArray), .bool false][2]) := (blk_cell HQ3.out 2).trans rfl
      have rf2 : V.frozen? ⟨rb, 2, none⟩ = false := by simp [World.frozen?, HQ3.out]
      have r3 : V.cell? ⟨rb, 3, none⟩ = some (#[.string (⟨#[]⟩ : ByteArray), .int .i64 0, .string (⟨#[]⟩ : ByteArray), .bool false][3]) := (blk_cell HQ3.out 3).trans rfl
      have rf3 : V.frozen? ⟨rb, 3, none⟩ = false := by simp [World.frozen?, HQ3.out]
      obtain ⟨U, hU, lb, lo, lB⟩ := set4 HQ3.out (.string p) (.int .i64 (q)) (.string (s.extract 0 m.toNat)) (.bool (u == 0))
      have x0 : U.cell? ⟨rb, 0, none⟩ = some (#[.string p, .int .i64 (q), .string (s.extract 0 m.toNat), .bool (u == 0)][0]) := (blk_cell lb 0).trans rfl
      have xf0 : U.frozen? ⟨rb, 0, none⟩ = false := by simp [World.frozen?, lb]
      have x1 : U.cell? ⟨rb, 1, none⟩ = some (#[.string p, .int .i64 (q), .string (s.extract 0 m.toNat), .bool (u == 0)][1]) := (blk_cell lb 1).trans rfl
      have xf1 : U.frozen? ⟨rb, 1, none⟩ = false := by simp [World.frozen?, lb]
      have x2 : U.cell? ⟨rb, 2, none⟩ = some (#[.string p, .int .i64 (q), .string (s.extract 0 m.toNat), .bool (u == 0)][2]) := (blk_cell lb 2).trans rfl
      have xf2 : U.frozen? ⟨rb, 2, none⟩ = false := by simp [World.frozen?, lb]
      have x3 : U.cell? ⟨rb, 3, none⟩ = some (#[.string p, .int .i64 (q), .string (s.extract 0 m.toNat), .bool (u == 0)][3]) := (blk_cell lb 3).trans rfl
      have xf3 : U.frozen? ⟨rb, 3, none⟩ = false := by simp [World.frozen?, lb]
      have HU1 := Lib.hid (lB _ HV1.out (by have := HRB.out; omega))
      have HU2 := Lib.hid hU
      clear hU lo lB hc1
      refine hEND _ _ ?_
      clear hEND
      go_wp2_with (first | (rw [HU2.out]))
      refine bodyPost_ret (results_cell_row rfl _ _ rb 33 #[.string p, .int .i64 (q), .string (s.extract 0 m.toNat), .bool (u == 0)] (0, 0) _ rfl lb Try.underlying33 rfl (by kernel_rfl)) rfl ?_
      have hq := HQQ.out
      rw [i64_w] at hq
      exact ⟨by rw [← HAN.out, ← HQ0.out, hq, if_neg HC1.out, HMM.out], HU1.out⟩
end
theorem collatorlaw02_Item.calls (k : Nat) (A0_0 : Option Addr) (c0_0 : Nat) (l0_0 : List Int) (a0_1 : Int) (a0_2 : ByteArray) (a0_3 : Int) (r1 : ByteArray) (r2 : Int) (r3 : ByteArray) (r4 : Bool) (w : World) (hr0_0 : Kd.C (Kd.int .i64) w A0_0 l0_0.length l0_0) (hc0_0 : l0_0.length ≤ c0_0) (h : collatorlaw02_Item.f k l0_0 a0_1 a0_2 a0_3 = some (r1, r2, r3, r4)) :
    Calls Try.prog 14 #[.agg #[.slice A0_0 l0_0.length c0_0, .int .i64 a0_1, .string a0_2, .int .i64 a0_3]] w fun e w' => e = .returned (.agg #[.string r1, .int .i64 r2, .string r3, .bool r4]) ∧ Below w.heap.size w w' := by
  unfold collatorlaw02_Item.f at h
  obtain ⟨p, hp, h⟩ := Option.bind_eq_some_iff.1 h
  obtain ⟨t, ht, h⟩ := Option.bind_eq_some_iff.1 h
  obtain ⟨u, hu, h⟩ := Option.bind_eq_some_iff.1 h
  simp only [Option.some.injEq, Prod.mk.injEq] at h
  obtain ⟨rfl, rfl, rfl, rfl⟩ := h
  exact item_run k A0_0 c0_0 l0_0 a0_1 a0_2 a0_3 p t u w hr0_0 hc0_0 hp ht hu
theorem field_fault (s : ByteArray) (n : Int) (w : World) : (Instr.field 62 (.agg #[.string s, .int .i64 n]) 1).run Try.prog w = .ok (.int .i64 n) w := by kernel_rfl
attribute [go_sem] field_fault
end Go.Proofs.Ytcgnkbdfoaiaiaa.P
end
section
/- Raw items: what collatorlaw02.Item makes of them. -/
set_option linter.unusedVariables false
set_option linter.unusedSimpArgs false
namespace Go.Proofs.Ytcgnkbdfoaiaiaa.Q
open Go Go.RowKit Go.Proofs.Ytcgnkbdfoaiaiaa.P Go.Proofs.YtcgnkbdfoaiaiaaW.PrintWords Go.Proofs.YtcgnkbdfoaiaiaaW.PrintLast Go.Proofs.YtcgnkbdfoaiaiaaW.PrintMore
abbrev It := S33
abbrev Rw := S41
theorem rdIt {s : List It} {i : Nat} {x : It} (h : s[i]? = some x) : rd_T33 s (i : Int) = x := by
  unfold rd_T33
  rw [Int.toNat_natCast, List.getD_eq_getElem?_getD, h]; rfl
theorem rdRw {s : List Rw} {i : Nat} {x : Rw} (h : s[i]? = some x) : rd_T41 s (i : Int) = x := by
  unfold rd_T41
  rw [Int.toNat_natCast, List.getD_eq_getElem?_getD, h]; rfl
theorem pick2 {c : Int} (hc : -9223372036854775808 ≤ c ∧ c ≤ 9223372036854775807) {m : Int} {n : Nat} (hm : m = n) (hn : 0 < n) : collatorlaw02_pick.f c m = some (pk c n : Int) := by
  subst hm
  have h0 : ¬ ((n : Int) = 0) := by omega
  unfold pk collatorlaw02_pick.f
  by_cases h : c < 0
  · rw [if_pos h, if_neg h0, if_pos h, w64 (x := c + 1) (by omega) (by omega), w64 (by omega) (by omega), Int.tmod_eq_emod_of_nonneg (by omega)]
    congr 1
    rw [Int.natCast_emod, Int.toNat_of_nonneg (by omega)]
  · rw [if_neg h, if_neg h0, if_neg h, Int.tmod_eq_emod_of_nonneg (by omega)]
    congr 1
    rw [Int.natCast_emod, Int.toNat_of_nonneg (by omega)]
theorem item_ev (x : Rw) (h : HRaw.OkRaw x) : ∃ (p : ByteArray) (kd : Int) (dt : ByteArray) (bd : Bool), Ev (fun k => collatorlaw02_Item.f k x.f0 x.f1 x.f2 x.f3) (p, kd, dt, bd) ∧ Good (parts (tl p)) 8 ∧ p.size ≤ 40 ∧ dt.size ≤ 60 ∧ 1 ≤ kd ∧ kd ≤ 3 := by
  obtain ⟨h0, hw, h1, h2, h3⟩ := h
  have hm2 : maxLen = 9223372036854775807 := rfl
  obtain ⟨P, hP, hg, hs⟩ := path_ev x.f0 hw (by omega)
  have k1 := pick2 (wf_range h1) (m := 3) (n := 3) rfl (by decide)
  have k2 := pick2 (wf_range h3) (m := 12) (n := 12) rfl (by decide)
  have l1 := pk_lt x.f1 (n := 3) (by decide)
  have ew : wrap64 (1 + ((pk x.f1 3 : Nat) : Int)) = 1 + ((pk x.f1 3 : Nat) : Int) := w64 (by omega) (by omega)
  refine ⟨P, wrap64 (1 + ((pk x.f1 3 : Nat) : Int)), if wrap64 (1 + ((pk x.f1 3 : Nat) : Int)) = 1 then (⟨#[]⟩ : ByteArray) else x.f2.extract 0 ((mn (x.f2.size : Int) 60) : Int).toNat, (((pk x.f3 12 : Nat) : Int) == 0), ?_, hg, hs, ?_, by omega, by omega⟩
  · unfold collatorlaw02_Item.f
    exact Ev.bind hP (evval k1 (evval k2 (Ev.now _)))
  · split
    · exact Nat.zero_le _
    · exact (mn_take x.f2 60).2.2
end Go.Proofs.Ytcgnkbdfoaiaiaa.Q
end
section
/- rename.Pairs: the walk of its text. -/
set_option linter.unusedVariables false
set_option linter.unusedSimpArgs false
namespace Go.Proofs.Ytcgnkbdfoaiaiaa.P
open Go Go.RowKit Go.Sort Go.Proofs.YtcgnkbdfoaiaiaaW.PrintWords Go.Proofs.YtcgnkbdfoaiaiaaW.PrintLast Go.Proofs.YtcgnkbdfoaiaiaaW.PrintMore Go.Proofs.Ytcgnkbdfoaiaiaa.Q Go.Proofs.Ytcgnkbdfoaiaiaa.HSet
/-! ### Reading files, pairs -/
theorem Fls.less {b base : Nat} {w : World} {v : Value} {es : List Fe} (h : Fls b w v es) (hle : base ≤ b) : Fls base w v es := ⟨own_less h.1 hle, fun e he => own_less (h.2 e he) hle⟩
theorem Fls.other {base : Nat} {w w' : World} {v u : Value} {es : List Fe} {b n s : Nat} {e : TypeId} {xs : List Value} (h : Fls base w v es) (ho : w.ownsRow b e s u n xs) (hg : w.grownBy w' u.ownBlock) (h1 : 46 ≠ e) (h2 : 9 ≠ e) : Fls base w' v es :=
  ⟨own_other h.1 hg (own_type_ne h.1 ho h1), fun x hx => own_other (h.2 x hx) hg (own_type_ne (h.2 x hx) ho h2)⟩
theorem fflat_seg (es : List Fe) : ∀ (j : Nat) (e : Fe), es[j]? = some e → (fflat es)[j * 2]? = some (.string e.p) ∧ (fflat es)[j * 2 + 1]? = some e.v := by
  induction es with
  | nil => intro j e h; simp at h
  | cons x es ih =>
    intro j e h
    have e0 : fflat (x :: es) = x.cells ++ fflat es := by simp [fflat]
    rw [e0]
    cases j with
    | zero => simp at h; subst h; exact ⟨rfl, rfl⟩
    | succ j =>
      obtain ⟨h1, h2⟩ := ih j e (by simpa using h)
      rw [List.getElem?_append_right (by simp [Fe.cells]; omega), List.getElem?_append_right (by simp [Fe.cells]; omega)]
      have e1 : (j + 1) * 2 - x.cells.length = j * 2 := by simp [Fe.cells]; omega
      have e2 : (j + 1) * 2 + 1 - x.cells.length = j * 2 + 1 := by simp [Fe.cells]; omega
      rw [e1, e2]
      exact ⟨h1, h2⟩
theorem own_at {base e size n : Nat} {w : World} {v : Value} {xs : List Value} (h : w.ownsRow base e size v n xs) (hn : 0 < n) (hs : 0 < size) : ∃ g cap, v = .slice (some ⟨g, 0, none⟩) n cap ∧ ∀ j u, xs[j]? = some u → w.cell? ⟨g, j, none⟩ = some u := by
  rcases h.2 with ⟨_, h0⟩ | ⟨g, cap, cur, rfl, _, hh, _, _, _, ht⟩
  · omega
  · refine ⟨g, cap, rfl, fun j u hj => (blk_cell hh j).trans ?_⟩
    have hl := (List.getElem?_eq_some_iff.1 hj).1
    rw [← ht, List.getElem?_take, if_pos (by have := h.1; omega), Array.getElem?_toList] at hj
    exact hj
/-- File i: its cells, and its lines. -/
theorem Fls.at {base : Nat} {w : World} {A : Option Addr} {n c : Nat} {es : List Fe} (h : Fls base w (.slice A n c) es) (i : Nat) (e : Fe) (hi : es[i]? = some e) :
    ∃ g Ae ce, A = some ⟨g, 0, none⟩ ∧ e.v = .slice Ae e.l.length ce ∧ e.l.length ≤ ce ∧ w.cell? ⟨g, i * 2, none⟩ = some (.string e.p) ∧ w.cell? ⟨g, i * 2 + 1, none⟩ = some (.slice Ae e.l.length ce) ∧ Kd.C Kd.string w Ae e.l.length e.l := by
  have hl := (List.getElem?_eq_some_iff.1 hi).1
  obtain ⟨g, cap, hv, hc⟩ := own_at h.1 (by omega) (by decide)
  obtain ⟨f1, f2⟩ := fflat_seg es i e hi
  have hm : e ∈ es := List.mem_of_getElem? hi
  have hR := Kd.R_of_own (h1 := fun _ => rfl) (ok := fun _ => True) (h.2 e hm) (fun _ _ => trivial)
  obtain ⟨Ae, ce, he, hle, hC⟩ := Kd.R_reads hR
  injection hv with h1 h2 h3
  exact ⟨g, Ae, ce, h1, he, hle, hc _ _ f1, by rw [← he]; exact hc _ _ f2, hC⟩
theorem Fls.reads {base : Nat} {w : World} {v : Value} {es : List Fe} (h : Fls base w v es) {e : Fe} (hm : e ∈ es) {A : Option Addr} {n c : Nat} (he : e.v = .slice A n c) : Kd.C Kd.string w A e.l.length e.l := by
  have hR := Kd.R_of_own (h1 := fun _ => rfl) (ok := fun _ => True) (h.2 e hm) (fun _ _ => trivial)
  obtain ⟨Ae, ce, he', hle, hC⟩ := Kd.R_reads hR
  rw [he] at he'
  injection he' with h1 h2 h3
  rw [h1]
  exact hC
def mkPr (p : S35) (h0 : p.f0.size ≤ 4000000) (h1 : p.f1.size ≤ 4000000) : Pr := ⟨p, h0, h1⟩
theorem pflat_at {base : Nat} {w : World} {A : Option Addr} {n c : Nat} {l : List Pr} (h : w.ownsRow base 35 3 (.slice A n c) l.length (pflat l)) (i : Nat) (x : Pr) (hi : l[i]? = some x) :
    ∃ g, A = some ⟨g, 0, none⟩ ∧ w.cell? ⟨g, i * 3, none⟩ = some (.string x.val.f0) ∧ w.cell? ⟨g, i * 3 + 1, none⟩ = some (.string x.val.f1) ∧ w.cell? ⟨g, i * 3 + 2, none⟩ = some (.int .i64 x.val.f2) := by
  have hl := (List.getElem?_eq_some_iff.1 hi).1
  obtain ⟨g, cap, hv, hc⟩ := own_at h (by omega) (by decide)
  have hg : ∀ r, r < 3 → (pflat l)[i * 3 + r]? = some ((encP x)[r]!) := fun r hr => by
    rw [pflat_get l _ (by omega), show (i * 3 + r) / 3 = i by omega, show (i * 3 + r) % 3 = r by omega, getElem!_pos l i hl]
    rw [List.getElem?_eq_getElem hl] at hi
    injection hi with hi
    rw [hi]
  injection hv with h1 h2 h3
  exact ⟨g, h1, hc _ _ (hg 0 (by omega)), hc _ _ (hg 1 (by omega)), hc _ _ (hg 2 (by omega))⟩
/-! ### What the files are -/
theorem filesL_mem (l : List S33) : ∀ q ∈ filesL l, ∃ x ∈ l, q.1 = x.f0 ∧ q.2 = Q.lines x.f2 ∧ x.f1 = 2 := by
  have gen : ∀ (t : List S33) (st : List ByteArray × List (ByteArray × List ByteArray)), (∀ q ∈ st.2, ∃ x ∈ l, q.1 = x.f0 ∧ q.2 = Q.lines x.f2 ∧ x.f1 = 2) → (∀ x ∈ t, x ∈ l) → ∀ q ∈ (t.foldl stepF st).2, ∃ x ∈ l, q.1 = x.f0 ∧ q.2 = Q.lines x.f2 ∧ x.f1 = 2 := by
    intro t
    induction t with
    | nil => intro st h _; exact h
    | cons x t ih =>
      intro st h ht
      refine ih _ ?_ (fun y hy => ht y (List.mem_cons_of_mem _ hy))
      unfold stepF
      split
      · rename_i hx
        intro q hq
        rcases List.mem_append.1 hq with hq | hq
        · exact h q hq
        · rw [List.mem_singleton.1 hq]; exact ⟨x, ht x List.mem_cons_self, rfl, rfl, hx.1⟩
      · exact h
  exact gen l ([], []) (by simp) (fun x hx => hx)
theorem filesL_len (l : List S33) : (filesL l).length ≤ l.length := by
  have gen : ∀ (t : List S33) (st : List ByteArray × List (ByteArray × List ByteArray)), (t.foldl stepF st).2.length ≤ st.2.length + t.length := by
    intro t
    induction t with
    | nil => intro st; simp
    | cons x t ih =>
      intro st
      have h := ih (stepF st x)
      have h2 : (stepF st x).2.length ≤ st.2.length + 1 := by unfold stepF; split <;> simp
      rw [List.foldl_cons, List.length_cons]
      omega
  have := gen l ([], [])
  unfold filesL
  simpa using this
theorem lnL_size (l : List UInt8) : ∀ q ∈ lnL l, q.length ≤ l.length := by
  intro q hq
  induction l generalizing q with
  | nil => simp [lnL] at hq
  | cons c cs ih =>
    rw [lnL_cons] at hq
    split at hq
    · rcases List.mem_cons.1 hq with rfl | hq
      · rw [List.length_cons, List.length_cons, List.length_nil]; omega
      · have := ih q hq; rw [List.length_cons]; omega
    · split at hq
      · rw [List.mem_singleton.1 hq, List.length_cons, List.length_cons, List.length_nil]; omega
      · rename_i p ps hp
        rcases List.mem_cons.1 hq with rfl | hq
        · have := ih p (by rw [hp]; exact List.mem_cons_self); rw [List.length_cons, List.length_cons]; omega
        · have := ih q (by rw [hp]; exact List.mem_cons_of_mem _ hq); rw [List.length_cons]; omega
theorem lines_size (s : ByteArray) : ∀ q ∈ Q.lines s, q.size ≤ s.size := by
  intro q hq
  unfold Q.lines at hq
  obtain ⟨r, hr, rfl⟩ := List.mem_map.1 hq
  have h1 := lnL_size _ r hr
  have h2 : (bts r).size = r.length := List.size_toArray
  have h3 : s.data.toList.length = s.size := Array.length_toList
  omega
/-- Files of items of which one can tell. -/
def FeOk (e : Fe) : Prop := e.p.size ≤ 4000000 ∧ e.l.length ≤ 4000000 ∧ ∀ s ∈ e.l, s.size ≤ 4000000
theorem feOk_of {l : List S33} (h : PairsOk l) {es : List Fe} (he : es.map Fe.plain = filesL l) : (∀ e ∈ es, FeOk e) ∧ es.length ≤ 1000 := by
  refine ⟨fun e hm => ?_, ?_⟩
  · have h1 : e.plain ∈ filesL l := by rw [← he]; exact List.mem_map_of_mem hm
    obtain ⟨x, hx, h2, h3, _⟩ := filesL_mem l _ h1
    have h4 := h.2 x hx
    have h2' : e.p = x.f0 := h2
    have h3' : e.l = Q.lines x.f2 := h3
    refine ⟨by rw [h2']; exact h4.1, by rw [h3']; have := lines_length_le x.f2; omega, fun s hs => ?_⟩
    rw [h3'] at hs
    have := lines_size x.f2 s hs
    omega
  · have := filesL_len l
    rw [← he, List.length_map] at this
    have := h.1
    omega
theorem score_run (A0 : Option Addr) (c0 : Nat) (l0 : List ByteArray) (A1 : Option Addr) (c1 : Nat) (l1 : List ByteArray) (w : World) (hr0 : Kd.C Kd.string w A0 l0.length l0) (hc0 : l0.length ≤ c0) (hr1 : Kd.C Kd.string w A1 l1.length l1) (hc1 : l1.length ≤ c1)
    (h0 : l0.length ≤ 4000000 ∧ ∀ s ∈ l0, s.size ≤ 4000000) (h1 : l1.length ≤ 4000000 ∧ ∀ s ∈ l1, s.size ≤ 4000000) :
    Calls Try.prog 16 #[.slice A0 l0.length c0, .slice A1 l1.length c1] w fun e w' => e = .returned (.int .i64 (score l0 l1)) ∧ Below w.heap.size w w' := by
  refine alike_Score.calls A0 c0 l0 A1 c1 l1 (score l0 l1) w hr0 hc0 hr1 hc1 ?_
  have h3 := comm_le l1 l0
  obtain ⟨h0, g0⟩ := h0
  obtain ⟨h1, g1⟩ := h1
  have hcm : alike_Common.f l0 l1 = some ((comm l0 l1 : Nat) : Int) := by
    unfold alike_Common.f
    exact if_pos ⟨⟨fun s hs => by have := g0 s hs; omega, fun s hs => by have := g1 s hs; omega⟩, by omega, by omega⟩
  unfold alike_Score.f score
  rw [w64 (x := (l0.length : Int) + (l1.length : Int)) (by omega) (by omega)]
  by_cases h : l0.length + l1.length = 0
  · rw [if_pos (by omega), if_pos h]
  · rw [if_neg (by omega), if_neg h, hcm, Option.bind_some, w64 (x := 200 * (comm l0 l1 : Int)) (by omega) (by omega), Int.tdiv_eq_ediv_of_nonneg (by omega)]
    have h4 := score_range l0 l1
    unfold score at h4
    rw [if_neg h] at h4
    have h5 : (l0.length : Int) + (l1.length : Int) = ((l0.length + l1.length : Nat) : Int) := by omega
    rw [h5, w64 (by omega) (by omega)]
theorem candL_take (old fresh : List (ByteArray × List ByteArray)) (t : Int) (i : Nat) (a : ByteArray × List ByteArray) (h : old[i]? = some a) : candL (old.take (i + 1)) fresh t = candL (old.take i) fresh t ++ cand1 a fresh t := by
  obtain ⟨hi, rfl⟩ := List.getElem?_eq_some_iff.1 h
  rw [List.take_succ_eq_append_getElem hi]
  unfold candL
  rw [List.flatMap_append, List.flatMap_cons, List.flatMap_nil, List.append_nil]
theorem cand1_take (a : ByteArray × List ByteArray) (fresh : List (ByteArray × List ByteArray)) (t : Int) (j : Nat) (b : ByteArray × List ByteArray) (h : fresh[j]? = some b) : cand1 a (fresh.take (j + 1)) t = cand1 a (fresh.take j) t ++ if mx t 1 ≤ score a.2 b.2 then [⟨a.1, b.1, score a.2 b.2⟩] else [] := by
  obtain ⟨hj, rfl⟩ := List.getElem?_eq_some_iff.1 h
  rw [List.take_succ_eq_append_getElem hj]
  unfold cand1
  rw [List.filterMap_append]
  congr 1
  split
  · rename_i h1; simp [h1]
  · rename_i h1; simp [h1]
theorem CmpOk.comap {α β : Type} {c : α → α → Int} (h : CmpOk c) (f : β → α) : CmpOk (fun x y => c (f x) (f y)) := ⟨fun x y => h.neg _ _, fun x y z => h.tr _ _ _⟩
theorem better_ok : CmpOk betterC := cB_cmp.comap Subtype.val
theorem first_ok : CmpOk firstC := (pcmp_cmp (fun x : PrS => x.f1)).comap Subtype.val
theorem lt_le {c : Pr → Pr → Int} (hc : CmpOk c) {x y : Pr} (h : Go.Proofs.ltOf (cmpOf c) y x = false) : c x y ≤ 0 := by
  have e : cmpOf c y x = c y x := by
    unfold cmpOf
    split
    · rename_i h; rw [h, hc.self]
    · rfl
  simp only [Go.Proofs.ltOf, e, decide_eq_false_iff_not] at h
  have := hc.neg y x
  omega
/-- What the better-sort leaves. -/
theorem sortB_of {ps ps' : List Pr} (hp : ps'.Perm ps) (hs : ps'.Pairwise (fun x y => Go.Proofs.ltOf (cmpOf betterC) y x = false)) : ps'.map Subtype.val = sortB (ps.map Subtype.val) :=
  sort_uniq cB_cmp (fun x y => cB_zero) (hp.map _) (List.pairwise_map.2 (hs.imp (fun h => lt_le better_ok h)))
theorem take1_inv : ∀ (l : List PrS) (st : List ByteArray × List ByteArray × List PrS), (st.2.1 = (st.2.2.map (fun p => p.f1)).reverse ∧ (st.2.2.map (fun p => p.f1)).Nodup) →
    ((l.foldl take1 st).2.1 = ((l.foldl take1 st).2.2.map (fun p => p.f1)).reverse ∧ ((l.foldl take1 st).2.2.map (fun p => p.f1)).Nodup) := by
  intro l
  induction l with
  | nil => intro st h; exact h
  | cons p l ih =>
    intro st h
    refine ih _ ?_
    unfold take1
    split
    · rename_i hc
      refine ⟨by simp [h.1], ?_⟩
      rw [List.map_append]
      refine List.nodup_append.2 ⟨h.2, by simp, fun a ha b hb e => ?_⟩
      subst e
      refine hc.2 ?_
      rw [h.1, List.mem_reverse]
      have : a = p.f1 := by simpa using hb
      rw [← this]
      exact ha
    · exact h
theorem greedy_nodup (l : List PrS) : ((greedy l).map (fun p => p.f1)).Nodup := (take1_inv l ([], [], []) ⟨rfl, by simp⟩).2
/-- What the To-sort leaves, where no To stands twice. -/
theorem sortT_of {ps ps' : List Pr} (hp : ps'.Perm ps) (hs : ps'.Pairwise (fun x y => Go.Proofs.ltOf (cmpOf firstC) y x = false)) (hn : ((ps.map Subtype.val).map (fun p => p.f1)).Nodup) : ps'.map Subtype.val = sortT (ps.map Subtype.val) := by
  refine sort_uniq cT_cmp (fun x y => cT_zero) (hp.map _) (List.pairwise_map.2 ?_)
  have hn' : ((ps'.map Subtype.val).map (fun p => p.f1)).Nodup := ((hp.map _).map _).nodup_iff.2 hn
  have hn3 := List.pairwise_map.1 (List.nodup_iff_pairwise_ne.1 hn')
  have hn2 : ps'.Pairwise (fun x y => x.val.f1 ≠ y.val.f1) := (List.pairwise_map (R := fun a b : PrS => a.f1 ≠ b.f1) (f := Subtype.val)).1 hn3
  refine (hs.and hn2).imp ?_
  rintro x y ⟨h1, h2⟩
  have h3 := lt_le first_ok h1
  have h4 : pcmp (tl x.val.f1) (tl y.val.f1) ≠ 0 := fun e => h2 (tl_inj ((pcmp_zero _ _).1 e))
  unfold cT
  rw [if_pos h4]
  exact h3
theorem greedy_take (l : List PrS) (k : Nat) (p : PrS) (h : l[k]? = some p) (st : List ByteArray × List ByteArray × List PrS) (hst : (l.take k).foldl take1 ([], [], []) = st) : (l.take (k + 1)).foldl take1 ([], [], []) = take1 st p := by
  obtain ⟨hk, rfl⟩ := List.getElem?_eq_some_iff.1 h
  rw [List.take_succ_eq_append_getElem hk, List.foldl_append, hst]
  rfl
end Go.Proofs.Ytcgnkbdfoaiaiaa.P
end
section
/- rename.Pairs: the walk of its text. -/
set_option linter.unusedVariables false
set_option linter.unusedSimpArgs false
namespace Go.Proofs.Ytcgnkbdfoaiaiaa.P
open Go Go.RowKit Go.Sort Go.Proofs.YtcgnkbdfoaiaiaaW.PrintWords Go.Proofs.YtcgnkbdfoaiaiaaW.PrintLast Go.Proofs.YtcgnkbdfoaiaiaaW.PrintMore Go.Proofs.Ytcgnkbdfoaiaiaa.Q Go.Proofs.Ytcgnkbdfoaiaiaa.HSet
def vals (ps : List Pr) : List PrS := ps.map Subtype.val
theorem vals_app (a b : List Pr) : vals (a ++ b) = vals a ++ vals b := List.map_append
theorem vals_length (qs : List Pr) : (vals qs).length = qs.length := List.length_map _
theorem vals_get {qs : List Pr} {k : Nat} {p : Pr} (h : qs[k]? = some p) : (vals qs)[k]? = some p.val := by
  show (List.map (fun x : Pr => x.val) qs)[k]? = _
  rw [List.getElem?_map, h]
  rfl
def PEnd (B : Nat) (r : List PrS) (w : World) (e : Ending) (w' : World) : Prop := ∃ v ps, e = .returned v ∧ vals ps = r ∧ w'.ownsRow B 35 3 v ps.length (pflat ps) ∧ Below B w w'
section
attribute [local go_sem] Go.Proofs.Ytcgnkbdfoaiaiaa.HMin.max2_mx Go.Proofs.Ytcgnkbdfoaiaiaa.HMin.min2_mn max_two min_two
set_option maxRecDepth 100000 in
set_option maxHeartbeats 8000000 in
theorem pairs_run (A0 : Option Addr) (c0 : Nat) (l0 : List S33) (A1 : Option Addr) (c1 : Nat) (l1 : List S33) (t : Int) (w : World) (hr0 : Kd.C k33 w A0 l0.length l0) (hc0 : l0.length ≤ c0) (hr1 : Kd.C k33 w A1 l1.length l1) (hc1 : l1.length ≤ c1) (h0 : PairsOk l0) (h1 : PairsOk l1) :
    Calls Try.prog 11 #[.slice A0 l0.length c0, .slice A1 l1.length c1, .int .i64 t] w (PEnd w.heap.size (pairsL l0 l1 t) w) := by
  have CF1 := Lib.hid (files_run A1 c1 l1 w hr1 hc1 h1.items)
  have HR0 := Lib.hid hr0
  have HC0 := Lib.hid hc0
  have H0 := Lib.hid h0
  have H1 := Lib.hid h1
  have hmm := @run_makeMap Try.prog
  obtain ⟨T, hT⟩ : ∃ T, T = mx t 1 := ⟨_, rfl⟩
  obtain ⟨R, hR⟩ : ∃ R, R = pairsL l0 l1 t := ⟨_, rfl⟩
  rw [← hR]
  have HRR := Lib.hid hR
  clear hr0 hr1 hc0 hc1 h0 h1 hR
  go_enter Try.func11, Try.ntmps11
  go_wp2_with fail
  refine CF1.out.mono ?_
  rintro e w1 ⟨v1, es1, rfl, hF1, hp1, hb1⟩
  obtain ⟨Af, cf, rfl⟩ := own_slice hF1.1
  have CF0 := Lib.hid (files_run A0 c0 l0 w1 (Kd.C_below HR0.out hb1) HC0.out H0.out.items)
  have HF1 := Lib.hid hF1
  have HP1 := Lib.hid hp1
  have HB1 := Lib.hid hb1
  clear hF1 hp1 hb1 CF1
  go_wp2_with fail
  refine CF0.out.mono ?_
  rintro e w2 ⟨v0, es0, rfl, hF0, hp0, hb2⟩
  obtain ⟨Ao, co, rfl⟩ := own_slice hF0.1
  have HFF := Lib.hid (HF1.out.below hb2)
  have HFO := Lib.hid (hF0.less HB1.out.size)
  have HB2 := Lib.hid (HB1.out.trans (hb2.mono HB1.out.size))
  have HP0 := Lib.hid hp0
  have HE1 := Lib.hid (feOk_of H1.out HP1.out)
  have HE0 := Lib.hid (feOk_of H0.out hp0)
  have he1 := HE1.out.2
  have he0 := HE0.out.2
  clear hF0 hp0 hb2 CF0
  go_wp2_with fail
  go_loopw [7, 23] (fun v7 v23 wr => ∃ (i : Nat) (ps : List Pr), v23 = .int .i64 (i : Int) ∧ i ≤ es0.length ∧ ps.length ≤ i * 1000 ∧ Hid (wr.ownsRow w.heap.size 35 3 v7 ps.length (pflat ps)) ∧ Hid (Fls w.heap.size wr (.slice Ao es0.length co) es0) ∧ Hid (Fls w.heap.size wr (.slice Af es1.length cf) es1) ∧ Hid (vals ps = candL ((es0.map Fe.plain).take i) (es1.map Fe.plain) t) ∧ Hid (Below w.heap.size w wr)) (fun _ v23 _ => es0.length - (intOf v23).toNat)
  case atStart => exact ⟨0, [], rfl, Nat.zero_le _, Nat.zero_le _, own_nil _ _ _ _, HFO, HFF, rfl, HB2⟩
  case round =>
    clear HFO HFF HB2
    obtain ⟨i, ps, rfl, hi, hps, HO, HFO, HFF, HV, HB⟩ := hrel
    obtain ⟨wo, hwo⟩ : ∃ wo, wo = wr := ⟨_, rfl⟩
    subst hwo
    by_cases ci_ : i < es0.length
    · have cb : decide ((i : Int) < (es0.length : Int)) = true := decide_eq_true (by omega)
      have cb' : decide (i < es0.length) = true := decide_eq_true ci_
      obtain ⟨a, ha⟩ : ∃ a, es0[i]? = some a := ⟨es0[i], List.getElem?_eq_getElem ci_⟩
      obtain ⟨g, Aa, ca, rfl, hav, hac, x0, x1, hCa⟩ := HFO.out.at i a ha
      obtain ⟨Ap, cp, rfl⟩ := own_slice HO.out
      have hOa := HE0.out.1 a (List.mem_of_getElem? ha)
      have p1 := eq_true (show 0 ≤ (i : Int) by omega)
      have q1 := eq_true (show (i : Int) < (es0.length : Int) by omega)
      obtain ⟨X, hX⟩ : ∃ X, X = wo.alloc (.cells #[.string a.p, .slice Aa a.l.length ca] 46) := ⟨_, rfl⟩
      have qX : X.heap[wo.heap.size]? = some (.cells #[.string a.p, .slice Aa a.l.length ca] 46 (0, 0)) := by rw [hX]; exact heap_alloc_new wo _
      have bX : Below wo.heap.size wo X := by rw [hX]; exact (Below.refl _ _).alloc (Nat.le_refl _) _
      have HTA := Lib.hid (candL_take (es0.map Fe.plain) (es1.map Fe.plain) t i a.plain (by rw [List.getElem?_map, ha]; rfl))
      have HOX := Lib.hid (pw_own_below HO.out bX)
      have HFOX := Lib.hid (HFO.out.below bX)
      have HFFX := Lib.hid (HFF.out.below bX)
      have HBX := Lib.hid (HB.out.trans (bX.mono HB.out.size))
      have HQX := Lib.hid qX
      have HXX := Lib.hid hX
      have HOA := Lib.hid hOa
      have HAV := Lib.hid hav
      have HAC := Lib.hid hac
      have HAA := Lib.hid ha
      have HCA := Lib.hid (Kd.C_below hCa bX)
      have hwb := HB.out.size
      clear hX qX bX ha hav hac hCa hOa
      go_wp2_with (first | rw [← HXX.out])
      go_loopw [7, 29] (fun v7 v29 wr => ∃ (j : Nat) (qs : List Pr), v29 = .int .i64 (j : Int) ∧ j ≤ es1.length ∧ qs.length ≤ ps.length + j ∧ Hid (wr.ownsRow w.heap.size 35 3 v7 qs.length (pflat qs)) ∧ Hid (Fls w.heap.size wr (.slice (some ⟨g, 0, none⟩) es0.length co) es0) ∧ Hid (Fls w.heap.size wr (.slice Af es1.length cf) es1) ∧ Hid (vals qs = vals ps ++ cand1 a.plain ((es1.map Fe.plain).take j) t) ∧ Hid (Below w.heap.size w wr) ∧ Hid (wr.heap[wo.heap.size]? = some (.cells #[.string a.p, .slice Aa a.l.length ca] 46 (0, 0))) ) (fun _ v29 _ => es1.length - (intOf v29).toNat)
      case atStart => exact ⟨0, ps, rfl, Nat.zero_le _, by omega, HOX, HFOX, HFFX, Lib.hid (by simp [cand1]), HBX, HQX⟩
      case round =>
        clear HO HFO HFF HB HOX HFOX HFFX HBX HQX HXX HCA
        obtain ⟨j, qs, rfl, hj, hqs, HO, HFO, HFF, HW, HB, HQX⟩ := hrel
        have HCA := Lib.hid (HFO.out.reads (List.mem_of_getElem? HAA.out) HAV.out)
        obtain ⟨Aq, cq, rfl⟩ := own_slice HO.out
        by_cases cj : j < es1.length
        · have db : decide ((j : Int) < (es1.length : Int)) = true := decide_eq_true (by omega)
          have db' : decide (j < es1.length) = true := decide_eq_true cj
          obtain ⟨b, hb⟩ : ∃ b, es1[j]? = some b := ⟨es1[j], List.getElem?_eq_getElem cj⟩
          obtain ⟨g1, Ab, cb1, rfl, hbv, hbc, y0, y1, hCb⟩ := HFF.out.at j b hb
          have hOb := HE1.out.1 b (List.mem_of_getElem? hb)
          have p2 := eq_true (show 0 ≤ (j : Int) by omega)
          have q2 := eq_true (show (j : Int) < (es1.length : Int) by omega)
          obtain ⟨Y, hY⟩ : ∃ Y, Y = wr.alloc (.cells #[.string b.p, .slice Ab b.l.length cb1] 46) := ⟨_, rfl⟩
          have qY : Y.heap[wr.heap.size]? = some (.cells #[.string b.p, .slice Ab b.l.length cb1] 46 (0, 0)) := by rw [hY]; exact heap_alloc_new wr _
          have bY : Below wr.heap.size wr Y := by rw [hY]; exact (Below.refl _ _).alloc (Nat.le_refl _) _
          have qXY : Y.heap[wo.heap.size]? = some (.cells #[.string a.p, .slice Aa a.l.length ca] 46 (0, 0)) := (bY.block _ (blk_lt HQX.out)).trans HQX.out
          have ya1 : Y.cell? ⟨wo.heap.size, 1, none⟩ = some (.slice Aa a.l.length ca) := by simp [World.cell?, qXY]
          have yb1 : Y.cell? ⟨wr.heap.size, 1, none⟩ = some (.slice Ab b.l.length cb1) := by simp [World.cell?, qY]
          have CS := Lib.hid (score_run Aa ca a.l Ab cb1 b.l Y (Kd.C_below HCA.out bY) HAC.out (Kd.C_below hCb bY) hbc ⟨HOA.out.2.1, HOA.out.2.2⟩ ⟨hOb.2.1, hOb.2.2⟩)
          have HTB := Lib.hid (cand1_take a.plain (es1.map Fe.plain) t j b.plain (by rw [List.getElem?_map, hb]; rfl))
          have HOY := Lib.hid (pw_own_below HO.out bY)
          have HFOY := Lib.hid (HFO.out.below bY)
          have HFFY := Lib.hid (HFF.out.below bY)
          have HBY := Lib.hid (HB.out.trans (bY.mono HB.out.size))
          have HCY := Lib.hid (Kd.C_below HCA.out bY)
          have HQY := Lib.hid qY
          have HQXY := Lib.hid qXY
          have HYY := Lib.hid hY
          have HOB := Lib.hid hOb
          have hwb2 := HB.out.size
          have hyb2 := HBY.out.size
          clear hY qY bY qXY hb hbv hbc hCb hOb
          obtain ⟨S, hS⟩ : ∃ S, S = score a.l b.l := ⟨_, rfl⟩
          rw [← hS] at CS
          have HSS := Lib.hid hS
          clear hS
          have hmx : mx t 1 = T := hT.symm
          by_cases hc : T ≤ S
          · have kc : decide (T ≤ S) = true := decide_eq_true hc
            have HIF := Lib.hid (show vals (qs ++ [mkPr ⟨a.p, b.p, S⟩ HOA.out.1 HOB.out.1]) = vals ps ++ cand1 a.plain ((es1.map Fe.plain).take (j + 1)) t by
              rw [vals_app, HW.out, HTB.out, List.append_assoc, if_pos (show mx t 1 ≤ score a.plain.2 b.plain.2 by rw [hmx]; show T ≤ score a.l b.l; rw [← HSS.out]; exact hc), HSS.out]
              rfl)
            clear hc hT
            go_wp2_with (first | rw [← HYY.out] | (go_at_call 16; refine CS.out.mono ?_; rintro e w3 ⟨rfl, hb3⟩; have HO3 := Lib.hid (pw_own_below HOY.out hb3); have HFO3 := Lib.hid (HFOY.out.below hb3); have HFF3 := Lib.hid (HFFY.out.below hb3); have HB3 := Lib.hid (HBY.out.trans (hb3.mono hyb2)); have HQ3 := Lib.hid ((hb3.block _ (blk_lt HQXY.out)).trans HQXY.out); have HR3 := Lib.hid ((hb3.block _ (blk_lt HQY.out)).trans HQY.out); have za0 : w3.cell? ⟨wo.heap.size, 0, none⟩ = some (.string a.p) := (blk_cell HQ3.out 0).trans rfl; have zb0 : w3.cell? ⟨wr.heap.size, 0, none⟩ = some (.string b.p) := (blk_cell HR3.out 0).trans rfl; clear hb3) | (at_builtin; refine print_append_cells (w0 := w) w.heap.size rfl (.tmp 42) (.tmp 49) 29 35 (.agg #[(.string ⟨#[]⟩), (.string ⟨#[]⟩), (.int .i64 0)]) 3 40 rfl Try.underlying29 (by kernel_rfl) rfl (by omega) (by omega) (.slice Aq qs.length cq) qs.length (pflat qs) [.string a.p, .string b.p, .int .i64 S] rfl (by first | (go_simp; done) | (go_simp; rfl)) rfl ?h1 ?hO ?hB ?hs ?hl ?_; (case h1 => intro u hu; simp at hu; rcases hu with rfl | rfl | rfl <;> rfl); (case hO => exact HO3.out); (case hB => exact HB3.out); (case hs => exact HB3.out.size); (case hl => omega); intro v5 w5 hown hb5 hgr hat; have HO5 := Lib.hid hown; have HB5 := Lib.hid hb5; have HFO5 := Lib.hid (HFO3.out.other HO3.out hgr (by decide) (by decide)); have HFF5 := Lib.hid (HFF3.out.other HO3.out hgr (by decide) (by decide)); have HQ5 := Lib.hid (blk_grown HQ3.out hgr (own_ne HO3.out HQ3.out (by decide))); clear hown hb5 hgr hat))
            exact ⟨⟨j + 1, qs ++ [mkPr ⟨a.p, b.p, S⟩ HOA.out.1 HOB.out.1], by simp, cj, by simp; omega, Lib.hid (by rw [List.length_append, pflat_snoc]; exact HO5.out), HFO5, HFF5, HIF, HB5, HQ5⟩, by simp [intOf]; omega⟩
          · have kc : decide (T ≤ S) = false := decide_eq_false hc
            have HIF := Lib.hid (show vals qs = vals ps ++ cand1 a.plain ((es1.map Fe.plain).take (j + 1)) t by
              rw [HW.out, HTB.out, if_neg (show ¬ mx t 1 ≤ score a.plain.2 b.plain.2 by rw [hmx]; show ¬ T ≤ score a.l b.l; rw [← HSS.out]; exact hc), List.append_nil])
            clear hc hT
            go_wp2_with (first | rw [← HYY.out] | (go_at_call 16; refine CS.out.mono ?_; rintro e w3 ⟨rfl, hb3⟩; have HO3 := Lib.hid (pw_own_below HOY.out hb3); have HFO3 := Lib.hid (HFOY.out.below hb3); have HFF3 := Lib.hid (HFFY.out.below hb3); have HB3 := Lib.hid (HBY.out.trans (hb3.mono hyb2)); have HQ3 := Lib.hid ((hb3.block _ (blk_lt HQXY.out)).trans HQXY.out); clear hb3))
            exact ⟨⟨j + 1, qs, by simp, cj, by omega, HO3, HFO3, HFF3, HIF, HB3, HQ3⟩, by simp [intOf]; omega⟩
        · have db : decide ((j : Int) < (es1.length : Int)) = false := decide_eq_false (by omega)
          have db' : decide (j < es1.length) = false := decide_eq_false cj
          obtain rfl : j = es1.length := by omega
          have HIF := Lib.hid (show vals qs = candL ((es0.map Fe.plain).take (i + 1)) (es1.map Fe.plain) t by
            have h1 := HW.out
            rw [List.take_of_length_le (by simp)] at h1
            rw [HTA.out, h1, HV.out])
          have hq2 : qs.length ≤ (i + 1) * 1000 := by omega
          clear HW
          go_wp2
          exact ⟨⟨i + 1, qs, by simp, ci_, hq2, HO, HFO, HFF, HIF, HB⟩, by simp [intOf]; omega⟩
    · have cb : decide ((i : Int) < (es0.length : Int)) = false := decide_eq_false (by omega)
      have cb' : decide (i < es0.length) = false := decide_eq_false ci_
      obtain rfl : i = es0.length := by omega
      have HVF := Lib.hid (show vals ps = candL (filesL l0) (filesL l1) t by
        have h1 := HV.out
        rw [List.take_of_length_le (by simp), HP0.out, HP1.out] at h1
        exact h1)
      have eg17 : ∀ args w, (callFunc 17 args).run Try.prog w = .ok (.enter 17 args) w := enters_of Try.func17 (by kernel_rfl) rfl
      obtain ⟨Ap, cp, rfl⟩ := own_slice HO.out
      have SR := Lib.hid (sort_run 17 eg17 betterC better_run (swo_of better_ok) w.heap.size (.slice Ap ps.length cp) ps wo HO.out (by omega))
      have hwo := HB.out.size
      have hpsl : ps.length ≤ 1000000 := by omega
      clear HV ci_ eg17 HFO HFF HE0 HE1
      go_wp2_with fail
      refine SR.out.mono ?_
      rintro e w3 ⟨rfl, qs, hperm, hsort, hown, w3', hb3, hg3⟩
      have hql := hperm.length_eq
      have HB3 := Lib.hid ((HB.out.trans (hb3.mono hwo)).grown hg3 (by have := hb3.size; omega) (own_base HO.out))
      have HSQ := Lib.hid (show vals qs = sortB (candL (filesL l0) (filesL l1) t) by rw [← HVF.out]; exact sortB_of hperm hsort)
      have HO3 := Lib.hid hown
      clear hperm hsort hown hb3 hg3 SR HO HB
      obtain ⟨M1, hM1⟩ : ∃ M1, M1 = w3.alloc (.map #[] 0) := ⟨_, rfl⟩
      obtain ⟨M2, hM2⟩ : ∃ M2, M2 = M1.alloc (.map #[] 0) := ⟨_, rfl⟩
      have bM1 : Below w3.heap.size w3 M1 := by rw [hM1]; exact (Below.refl _ _).alloc (Nat.le_refl _) _
      have bM2 : Below M1.heap.size M1 M2 := by rw [hM2]; exact (Below.refl _ _).alloc (Nat.le_refl _) _
      have sM1 : M1.heap.size = w3.heap.size + 1 := by rw [hM1]; simp
      have HA1 := Lib.hid (show Has Try.prog 9 4 M2 w3.heap.size 0 [] from (show Has Try.prog 9 4 M1 w3.heap.size 0 [] by rw [hM1]; exact Has.made w3 _ _ _).below bM2)
      have HA2 := Lib.hid (show Has Try.prog 9 4 M2 M1.heap.size 0 [] by rw [hM2]; exact Has.made M1 _ _ _)
      have hm1 : w3.heap.size < M1.heap.size := by omega
      have HO4 := Lib.hid (pw_own_below (pw_own_below HO3.out bM1) bM2)
      have HB4 := Lib.hid (bM1.trans (bM2.mono (by omega)))
      have HM1 := Lib.hid hM1
      have HM2 := Lib.hid hM2
      have hb3s := HB3.out.size
      have HLT := Lib.hid (show ∀ k, (Value.slice Ap ps.length cp).ownBlock = some k → k < w3.heap.size from fun k hk => own_lt HO3.out k hk)
      clear hM1 hM2 bM1 bM2 sM1
      go_wp2_with (first | rw [← HM1.out] | rw [← HM2.out])
      go_loopw [6, 60] (fun v6 v60 wr => ∃ (k : Nat) (rs : List Pr) (S1 S2 : List ByteArray), v60 = .int .i64 (k : Int) ∧ k ≤ ps.length ∧ rs.length ≤ k ∧ Hid (Has Try.prog 9 4 wr w3.heap.size k S1) ∧ Hid (Has Try.prog 9 4 wr M1.heap.size k S2) ∧ Hid (wr.ownsRow w3.heap.size 35 3 v6 rs.length (pflat rs)) ∧ Hid (wr.ownsRow w.heap.size 35 3 (.slice Ap ps.length cp) qs.length (pflat qs)) ∧ Hid (((vals qs).take k).foldl take1 ([], [], []) = (S1, S2, vals rs)) ∧ Hid (Below w3.heap.size w3 wr)) (fun _ v60 _ => ps.length - (intOf v60).toNat)
      case atStart => exact ⟨0, [], [], [], rfl, Nat.zero_le _, Nat.zero_le _, HA1, HA2, own_nil _ _ _ _, HO4, rfl, HB4⟩
      case round =>
        clear HA1 HA2 HO4 HB4 HM1 HM2
        obtain ⟨k, rs, S1, S2, rfl, hk, hrs, HA1, HA2, HOR, HOQ, HG, HB⟩ := hrel
        obtain ⟨Ar, cr, rfl⟩ := own_slice HOR.out
        by_cases ck : k < ps.length
        · have db : decide ((k : Int) < (ps.length : Int)) = true := decide_eq_true (by omega)
          have db' : decide (k < ps.length) = true := decide_eq_true ck
          obtain ⟨p, hp⟩ : ∃ p, qs[k]? = some p := ⟨qs[k], List.getElem?_eq_getElem (by omega)⟩
          obtain ⟨g, rfl, x0, x1, x2⟩ := pflat_at HOQ.out k p hp
          have p2 := eq_true (show 0 ≤ (k : Int) by omega)
          have q2 := eq_true (show (k : Int) < (ps.length : Int) by omega)
          have HTK := Lib.hid (greedy_take (vals qs) k p.val (vals_get hp) _ HG.out)
          obtain ⟨Y, hY⟩ : ∃ Y, Y = wr.alloc (.cells #[.string p.val.f0, .string p.val.f1, .int .i64 p.val.f2] 35) := ⟨_, rfl⟩
          have qY : Y.heap[wr.heap.size]? = some (.cells #[.string p.val.f0, .string p.val.f1, .int .i64 p.val.f2] 35 (0, 0)) := by rw [hY]; exact heap_alloc_new wr _
          have bY : Below wr.heap.size wr Y := by rw [hY]; exact (Below.refl _ _).alloc (Nat.le_refl _) _
          have z0 : Y.cell? ⟨wr.heap.size, 0, none⟩ = some (.string p.val.f0) := by simp [World.cell?, qY]
          have z1 : Y.cell? ⟨wr.heap.size, 1, none⟩ = some (.string p.val.f1) := by simp [World.cell?, qY]
          have HA1Y := Lib.hid (HA1.out.below bY)
          have HA2Y := Lib.hid (HA2.out.below bY)
          have HORY := Lib.hid (pw_own_below HOR.out bY)
          have HOQY := Lib.hid (pw_own_below HOQ.out bY)
          have HBY := Lib.hid (HB.out.trans (bY.mono HB.out.size))
          have HQY := Lib.hid qY
          have HYY := Lib.hid hY
          have hsb := HB.out.size
          have HPS := Lib.hid p.property
          have hl1 := HA1.out.lt
          have hl2 := HA2.out.lt
          have lk1 := HA1Y.out.look (t := 52) Try.underlying9 Try.underlying52 Try.underlying4 (by kernel_rfl) (s := p.val.f0) (by have := HPS.out.1; unfold maxLen; omega)
          have lk2 := HA2Y.out.look (t := 52) Try.underlying9 Try.underlying52 Try.underlying4 (by kernel_rfl) (s := p.val.f1) (by have := HPS.out.2; unfold maxLen; omega)
          clear hY qY bY hp
          by_cases m1 : p.val.f0 ∈ S1
          · have dm : decide (p.val.f0 ∈ S1) = true := decide_eq_true m1
            rw [dm] at lk1
            have HST := Lib.hid (show ((vals qs).take (k + 1)).foldl take1 ([], [], []) = (S1, S2, vals rs) by rw [HTK.out]; unfold take1; rw [if_neg (fun h => h.1 m1)])
            clear dm m1 lk2
            go_wp2_with (first | rw [← HYY.out])
            exact ⟨⟨k + 1, rs, S1, S2, by simp, ck, by omega, HA1Y.out.mono (by omega), HA2Y.out.mono (by omega), HORY, HOQY, HST, HBY⟩, by simp [intOf]; omega⟩
          · have dm : decide (p.val.f0 ∈ S1) = false := decide_eq_false m1
            rw [dm] at lk1
            by_cases m2 : p.val.f1 ∈ S2
            · have dm2 : decide (p.val.f1 ∈ S2) = true := decide_eq_true m2
              rw [dm2] at lk2
              have HST := Lib.hid (show ((vals qs).take (k + 1)).foldl take1 ([], [], []) = (S1, S2, vals rs) by rw [HTK.out]; unfold take1; rw [if_neg (fun h => h.2 m2)])
              clear dm m1 dm2 m2
              go_wp2_with (first | rw [← HYY.out])
              exact ⟨⟨k + 1, rs, S1, S2, by simp, ck, by omega, HA1Y.out.mono (by omega), HA2Y.out.mono (by omega), HORY, HOQY, HST, HBY⟩, by simp [intOf]; omega⟩
            · have dm2 : decide (p.val.f1 ∈ S2) = false := decide_eq_false m2
              rw [dm2] at lk2
              have HST := Lib.hid (show ((vals qs).take (k + 1)).foldl take1 ([], [], []) = (p.val.f0 :: S1, p.val.f1 :: S2, vals (rs ++ [p])) by rw [HTK.out]; unfold take1; rw [if_pos ⟨m1, m2⟩, vals_app]; rfl)
              obtain ⟨Z, hZ⟩ : ∃ Z, Z = Y.drew := ⟨_, rfl⟩
              have bZ : Below Y.heap.size Y Z := by rw [hZ]; exact (Below.refl _ _).drew
              have qZ : Z.heap[wr.heap.size]? = some (.cells #[.string p.val.f0, .string p.val.f1, .int .i64 p.val.f2] 35 (0, 0)) := by rw [hZ]; exact HQY.out
              have m0 : Z.cell? ⟨wr.heap.size, 0, none⟩ = some (.string p.val.f0) := by simp [World.cell?, qZ]
              have m1' : Z.cell? ⟨wr.heap.size, 1, none⟩ = some (.string p.val.f1) := by simp [World.cell?, qZ]
              obtain ⟨w4, hr4, hh4, hg4⟩ := Has.put (t := 52) (HA1Y.out.below bZ) Try.underlying9 Try.underlying52 Try.underlying4 (by unfold maxLen; omega) (s := p.val.f0) (by have := HPS.out.1; unfold maxLen; omega)
              obtain ⟨w5, hr5, hh5, hg5⟩ := Has.put (t := 52) ((HA2Y.out.below bZ).grown hg4 (by simp; omega)) Try.underlying9 Try.underlying52 Try.underlying4 (by unfold maxLen; omega) (s := p.val.f1) (by have := HPS.out.2; unfold maxLen; omega)
              have HH4 := Lib.hid (hh4.grown hg5 (by simp; omega))
              have HH5 := Lib.hid hh5
              have HZ8 := Lib.hid (show ∀ b ∈ [wr.heap.size], b < Z.heap.size by intro b hb; rw [List.mem_singleton.1 hb]; exact blk_lt qZ)
              have q4 : w4.heap[wr.heap.size]? = some (.cells #[.string p.val.f0, .string p.val.f1, .int .i64 p.val.f2] 35 (0, 0)) := blk_grown qZ hg4 (by simp; omega)
              have q5 : w5.heap[wr.heap.size]? = some (.cells #[.string p.val.f0, .string p.val.f1, .int .i64 p.val.f2] 35 (0, 0)) := blk_grown q4 hg5 (by simp; omega)
              have e0 : w5.cell? ⟨wr.heap.size, 0, none⟩ = some (.string p.val.f0) := by simp [World.cell?, q5]
              have e1 : w5.cell? ⟨wr.heap.size, 1, none⟩ = some (.string p.val.f1) := by simp [World.cell?, q5]
              have e2 : w5.cell? ⟨wr.heap.size, 2, none⟩ = some (.int .i64 p.val.f2) := by simp [World.cell?, q5]
              have HQ5 := Lib.hid q5
              have hasZ := HA1Y.out.below bZ
              have hasZ2 := (HA2Y.out.below bZ).grown hg4 (by simp; omega)
              have keep : ∀ {base e s n : Nat} {v : Value} {xs : List Value}, Y.ownsRow base e s v n xs → w5.ownsRow base e s v n xs := fun h => by
                have h1 := pw_own_below h bZ
                have h2 := h1.kept hg4 (.inr (fun e' => has_ne_own hasZ h1 e'.symm))
                exact h2.kept hg5 (.inr (fun e' => has_ne_own hasZ2 h2 e'.symm))
              have HOR5 := Lib.hid (keep HORY.out)
              have HOQ5 := Lib.hid (keep HOQY.out)
              have HB5 := Lib.hid (((HBY.out.trans (bZ.mono HBY.out.size)).grown hg4 (by have := bZ.size; have := HBY.out.size; omega) (fun k hk => by injection hk with hk; omega)).grown hg5 (by have := bZ.size; have := HBY.out.size; have := hg4.size; omega) (fun k hk => by injection hk with hk; omega))
              have HZZ := Lib.hid hZ
              have hT0 := Held.Same.refl Z [wr.heap.size]
              have hT4 : Held.Same Z [wr.heap.size] w4 := fun b hb => by rw [List.mem_singleton.1 hb, q4, qZ]
              have HT4 := Lib.hid hT4
              clear hZ bZ qZ q4 q5 hh4 hh5 hg4 hg5 hasZ hasZ2 keep dm m1 dm2 m2 hT4
              go_wp2_with (first | rw [← HYY.out])
              refine (wpIn_wide (n := 9)).1 ?_
              refine Held.region 7 (Held.Same Z [wr.heap.size]) (by kernel_rfl) ?_
              rw [← HZZ.out]
              refine Held.tk (i := 0) rfl hT0 ?_
              try simp only [Act.put, List.setIfInBounds_toArray, List.set_cons_zero, List.set_cons_succ]
              refine Held.tk (i := 1) rfl hT0 ?_
              try simp only [Act.put, List.setIfInBounds_toArray, List.set_cons_zero, List.set_cons_succ]
              refine Held.tk (i := 2) rfl hT0 ?_
              try simp only [Act.put, List.setIfInBounds_toArray, List.set_cons_zero, List.set_cons_succ]
              refine Held.tk (i := 3) rfl hT0 ?_
              try simp only [Act.put, List.setIfInBounds_toArray, List.set_cons_zero, List.set_cons_succ]
              refine Held.tk (i := 4) rfl hT0 ?_
              try simp only [Act.put, List.setIfInBounds_toArray, List.set_cons_zero, List.set_cons_succ]
              refine Held.tk (i := 5) rfl hT0 ?_
              try simp only [Act.put, List.setIfInBounds_toArray, List.set_cons_zero, List.set_cons_succ]
              refine Held.AnyS.step (i := 6) rfl (by kernel_rfl) rfl (fun K hK => ?_)
              go_simp
              refine hK.out _ _ (fun _ => HT4.out) ?_
              clear hK K
              try simp only [Act.put, List.setIfInBounds_toArray, List.set_cons_zero, List.set_cons_succ]
              refine Held.AnyS.step (i := 7) rfl (by kernel_rfl) rfl (fun K hK => ?_)
              go_simp
              refine hK.out _ _ (fun h => absurd h (by omega)) ?_
              clear hK K hT0
              refine Held.AnyS.done (by kernel_rfl) ?_ _
              have hb5s := HB5.out.size
              have HNE6 := Lib.hid (show (Value.slice (some ⟨g, 0, none⟩) ps.length cp).ownBlock ≠ (Value.slice Ar rs.length cr).ownBlock from fun e' => by
                have hz : ∃ z, (Value.slice (some ⟨g, 0, none⟩) ps.length cp).ownBlock = some z := ⟨g, rfl⟩
                obtain ⟨z, hz⟩ := hz
                have h1 := HLT.out z hz
                have h2 := own_base HOR5.out z (e'.symm.trans hz)
                omega)
              go_simp
              go_wp2_with (first | (at_builtin; refine print_append_cells (w0 := w3) w3.heap.size rfl (.tmp 82) (.tmp 84) 29 35 (.agg #[(.string ⟨#[]⟩), (.string ⟨#[]⟩), (.int .i64 0)]) 3 40 rfl Try.underlying29 (by kernel_rfl) rfl (by omega) (by omega) (.slice Ar rs.length cr) rs.length (pflat rs) [.string p.val.f0, .string p.val.f1, .int .i64 p.val.f2] rfl (by first | (go_simp; done) | (go_simp; rfl)) rfl ?h1 ?hO ?hB ?hs ?hl ?_; (case h1 => intro u hu; simp at hu; rcases hu with rfl | rfl | rfl <;> rfl); (case hO => exact HOR5.out); (case hB => exact HB5.out); (case hs => exact HB5.out.size); (case hl => omega); intro v6 w6 hown hb6 hgr hat; have HO6 := Lib.hid hown; have HB6 := Lib.hid hb6; have HA16 := Lib.hid (HH4.out.grown hgr (has_ne_own HH4.out HOR5.out)); have HA26 := Lib.hid (HH5.out.grown hgr (has_ne_own HH5.out HOR5.out)); have HOQ6 := Lib.hid (HOQ5.out.kept hgr (.inr HNE6.out)); clear hown hb6 hgr hat))
              exact ⟨⟨k + 1, rs ++ [p], _, _, by simp, ck, by simp; omega, HA16, HA26, Lib.hid (by rw [List.length_append, pflat_snoc]; exact HO6.out), HOQ6, HST, HB6⟩, by simp [intOf]; omega⟩
        · have db : decide ((k : Int) < (ps.length : Int)) = false := decide_eq_false (by omega)
          have db' : decide (k < ps.length) = false := decide_eq_false ck
          obtain rfl : k = ps.length := by omega
          have HGR := Lib.hid (show vals rs = greedy (sortB (candL (filesL l0) (filesL l1) t)) by
            have h1 := HG.out
            rw [List.take_of_length_le (by rw [vals_length]; omega), HSQ.out] at h1
            unfold greedy
            rw [h1])
          have eg19 : ∀ args w, (callFunc 19 args).run Try.prog w = .ok (.enter 19 args) w := enters_of Try.func19 (by kernel_rfl) rfl
          have SR := Lib.hid (sort_run 19 eg19 firstC first_run (swo_of first_ok) w3.heap.size (.slice Ar rs.length cr) rs wr HOR.out (by omega))
          have hsb := HB.out.size
          clear HG eg19 HA1 HA2 HOQ
          go_wp2_with fail
          refine SR.out.mono ?_
          rintro e w7 ⟨rfl, ts, hperm, hsort, hown, w7', hb7, hg7⟩
          have HT7 := Lib.hid (show vals ts = R by
            rw [HRR.out]
            unfold pairsL
            rw [← HGR.out]
            exact sortT_of hperm hsort (by have := greedy_nodup (sortB (candL (filesL l0) (filesL l1) t)); rw [← HGR.out] at this; exact this))
          have hb7s := hb7.size
          have HB7 := Lib.hid ((HB3.out.trans ((HB.out.trans (hb7.mono hsb)).mono hb3s)).grown hg7 (by omega) (fun k hk => Nat.le_trans hb3s (own_base HOR.out k hk)))
          have HO7 := Lib.hid (own_less hown hb3s)
          have hln := hperm.length_eq
          clear hperm hsort hown hb7 hg7
          go_wp2_with fail
          go_ret
          exact ⟨_, ts, rfl, HT7.out, HO7.out, HB7.out⟩
end
end Go.Proofs.Ytcgnkbdfoaiaiaa.P
end
section
/- rename.Pairs: its contract, as the print asks for it. -/
set_option linter.unusedVariables false
set_option linter.unusedSimpArgs false
namespace Go.Proofs.Ytcgnkbdfoaiaiaa.P
open Go Go.RowKit Go.Proofs.YtcgnkbdfoaiaiaaW.PrintWords Go.Proofs.YtcgnkbdfoaiaiaaW.PrintLast Go.Proofs.YtcgnkbdfoaiaiaaW.PrintMore Go.Proofs.Ytcgnkbdfoaiaiaa.Q
def rename_Pairs.f (l0 l1 : List S33) (t : Int) : Option (List S35) := if PairsOk l0 ∧ PairsOk l1 then some (pairsL l0 l1 t) else none
theorem reps_pflat (w : World) (base : Nat) (ok : Nat → Prop) (ps : List Pr) : Reps (k35.M w base ok) 3 (vals ps) (pflat ps) := by
  induction ps with
  | nil => exact Reps.none _ _
  | cons p ps ih =>
    have h1 : Reps (k35.M w base ok) 3 [p.val] (encP p) := Reps.snoc (Reps.none _ _) (k35_mkM w base ok p.val) rfl
    have h2 := Kd.reps_append h1 ih
    have e : pflat (p :: ps) = encP p ++ pflat ps := by simp [pflat]
    rw [e]
    exact h2
theorem rename_Pairs.calls (A0 : Option Addr) (c0 : Nat) (l0 : List S33) (A1 : Option Addr) (c1 : Nat) (l1 : List S33) (t : Int) (r : List S35) (w : World) (hr0 : Kd.C k33 w A0 l0.length l0) (hc0 : l0.length ≤ c0) (hr1 : Kd.C k33 w A1 l1.length l1) (hc1 : l1.length ≤ c1) (h : rename_Pairs.f l0 l1 t = some r) :
    Calls Try.prog 11 #[.slice A0 l0.length c0, .slice A1 l1.length c1, .int .i64 t] w fun e w' => ∃ v0_ : Value, e = .returned (v0_) ∧ Kd.R k35 35 w' w.heap.size (fun _ => True) v0_ r ∧ Below w.heap.size w w' := by
  unfold rename_Pairs.f at h
  split at h
  · rename_i hh
    obtain rfl := Option.some.inj h
    refine (pairs_run A0 c0 l0 A1 c1 l1 t w hr0 hc0 hr1 hc1 hh.1 hh.2).mono ?_
    rintro e w' ⟨v, ps, rfl, hv, ho, hb⟩
    refine ⟨v, rfl, ⟨fun _ _ => trivial, pflat ps, ?_, ?_⟩, hb⟩
    · rw [← hv, vals_length]; exact ho
    · rw [← hv]; exact reps_pflat _ _ _ ps
  · cases h
end Go.Proofs.Ytcgnkbdfoaiaiaa.P
end
section
/- Laid for this claim by hp.py, this session's program round the kit's print: functions of the program as plain Lean functions, the proofs that the code comes to their answers, and the rows of the laws. Not trusted: Lean checks it. -/
namespace Go.Proofs.Ytcgnkbdfoaiaiaa.P
open Go.RowKit Go.Proofs.YtcgnkbdfoaiaiaaW.PrintWords Go.Proofs.YtcgnkbdfoaiaiaaW.PrintLast Go.Proofs.YtcgnkbdfoaiaiaaW.PrintMore
attribute [local go_sem] max2_int min2_int max_two min_two max_three min_three max_four min_four   -- for this text's walks alone
set_option linter.unusedVariables false
set_option linter.unusedSimpArgs false

theorem eqA35 (d : Nat) (w : World) (x0 y0 : ByteArray) (x1 y1 : ByteArray) (x2 y2 : Int) :
  (Op.equalIn (d + 2) 35 (.agg #[.string x0, .string x1, .int .i64 x2]) (.agg #[.string y0, .string y1, .int .i64 y2])).run Try.prog w = .ok (x0.toList == y0.toList && (x1.toList == y1.toList && (x2 == y2))) w := by
 refine eqA_of Try.underlying35 (by kernel_rfl) ?_
 refine eqf_cons (by rfl) (by go_simp; rfl) (by go_simp; rfl) (by go_simp) ?_
 refine eqf_cons (by rfl) (by go_simp; rfl) (by go_simp; rfl) (by go_simp) ?_
 exact eqf_last (by rfl) (by go_simp; rfl) (by go_simp; rfl) (by go_simp)
end Go.Proofs.Ytcgnkbdfoaiaiaa.P
end
section
/- Laid for this claim by hp.py, this session's program round the kit's print: functions of the program as plain Lean functions, the proofs that the code comes to their answers, and the rows of the laws. Not trusted: Lean checks it. -/
namespace Go.Proofs.Ytcgnkbdfoaiaiaa.P
open Go.RowKit Go.Proofs.YtcgnkbdfoaiaiaaW.PrintWords Go.Proofs.YtcgnkbdfoaiaiaaW.PrintLast Go.Proofs.YtcgnkbdfoaiaiaaW.PrintMore
attribute [local go_sem] max2_int min2_int max_two min_two max_three min_three max_four min_four   -- for this text's walks alone
set_option linter.unusedVariables false
set_option linter.unusedSimpArgs false

attribute [local go_sem high] eqA35
/-! ### collatorref08_Same: function 10 -/
def collatorref08_Same.l0 : Nat → List (S35) → List (S35) → Int → Option (Bool)
 | 0, _, _, _ => none
 | k + 1, x0, x1, x5 => if x5 < (x0.length : Int) then (if 0 ≤ x5 then (if x5 < (x1.length : Int) then (if (!((((rd_T35 x0 x5).f0).toList) == (((rd_T35 x1 x5).f0).toList)) || (!((((rd_T35 x0 x5).f1).toList) == (((rd_T35 x1 x5).f1).toList)) || (!(((rd_T35 x0 x5).f2) == ((rd_T35 x1 x5).f2))))) = true then (some false) else (collatorref08_Same.l0 k x0 x1 (wrap64 (x5 + 1)))) else (none)) else (none)) else (some true)
def collatorref08_Same.f (k : Nat) (l0 : List (S35)) (l1 : List (S35)) : Option (Bool) := if (l0.length : Int) = (l1.length : Int) then (collatorref08_Same.l0 k l0 l1 0) else (some false)
theorem collatorref08_Same.mono_l : ∀ k, (∀ y0 y1 y2, LeO (collatorref08_Same.l0 k y0 y1 y2) (collatorref08_Same.l0 (k + 1) y0 y1 y2))
 | 0 => fun _ _ _ r h => by simp [collatorref08_Same.l0] at h
 | k + 1 => by
  have ih0 := collatorref08_Same.mono_l k
  ·intro y0 y1 y2
   unfold collatorref08_Same.l0
   repeat' first
   | (with_reducible exact ih0 _ _ _)
   | (with_reducible exact LeO.refl _)
   | (with_reducible exact LeO.none _)
   | (with_reducible refine LeO.ite ?_ ?_)
   | (with_reducible refine LeO.bind ?_ (fun _ => ?_))
   | exact ih0 _ _ _
   | exact LeO.none _
   | refine LeO.ite ?_ ?_
   | refine LeO.bind ?_ (fun _ => ?_)
theorem collatorref08_Same.mono : ∀ a0 a1 k, LeO (collatorref08_Same.f k a0 a1) (collatorref08_Same.f (k + 1) a0 a1) := by
 intro a0 a1 k
 have ih0 := collatorref08_Same.mono_l k
 unfold collatorref08_Same.f
 repeat' first
   | (with_reducible exact ih0 _ _ _)
   | (with_reducible exact LeO.refl _)
   | (with_reducible exact LeO.none _)
   | (with_reducible refine LeO.ite ?_ ?_)
   | (with_reducible refine LeO.bind ?_ (fun _ => ?_))
   | exact ih0 _ _ _
   | exact LeO.none _
   | refine LeO.ite ?_ ?_
   | refine LeO.bind ?_ (fun _ => ?_)
set_option maxHeartbeats 8000000 in
set_option maxRecDepth 100000 in
theorem collatorref08_Same.calls (k : Nat) (A0 : Option Addr) (c0 : Nat) (l0 : List (S35)) (A1 : Option Addr) (c1 : Nat) (l1 : List (S35)) (r : Bool) (w : World) (hr0 : Kd.C k35 w A0 l0.length l0) (hc0 : l0.length ≤ c0) (hr1 : Kd.C k35 w A1 l1.length l1) (hc1 : l1.length ≤ c1) (h : collatorref08_Same.f k l0 l1 = some r) :
  Calls Try.prog 10 #[.slice A0 l0.length c0, .slice A1 l1.length c1] w fun e w' => e = .returned (.bool r) ∧ Drawn0 w w' := by
 have hu35 := Try.underlying35
 have HR0 := Aside0.mk hr0
 have HC0 := Aside0.mk hc0
 clear hr0 hc0
 have HR1 := Aside0.mk hr1
 have HC1 := Aside0.mk hc1
 clear hr1 hc1
 have H : (if (l0.length : Int) = (l1.length : Int) then (collatorref08_Same.l0 k l0 l1 0) else (some false)) = some r := h
 clear h
 by_cases c3 : (l0.length : Int) = (l1.length : Int)
 ·rw [if_pos c3] at H
  have c3b0 : ((l0.length : Int) == (l1.length : Int)) = true := beq_iff_eq.mpr c3
  have c3b1 : ((l0.length : Int) != (l1.length : Int)) = false := bne_eq_false_iff_eq.mpr c3
  have c3b2 : (l0.length == l1.length) = true := by first | simpa using c3 | (simp at c3 ⊢; omega)
  clear c3
  have H' := Aside0.mk H
  clear H
  go_enter Try.func10, Try.ntmps10
  go_wp2
  repeat (go_quiet (fail); try go_wp2)
  go_loopg [5] k (fun kq v5 w' => ∃ (x5_1 : Int), v5 = .int .i64 x5_1 ∧ Aside0 (collatorref08_Same.l0 kq l0 l1 x5_1 = some r) ∧ Aside0 (kq ≤ k) ∧ Drawn0 w w')
  case atStart => exact ⟨(0), (by first | rfl | (simp; done) | (simp [*]; done)), H', ⟨Nat.le_refl _⟩, by repeat (first | exact Drawn0.refl _ | apply Drawn0.step)⟩
  case round =>
   clear H'
   (try clear c1);(try clear p2);(try clear c3);(try clear c3b0);(try clear c3b1);(try clear c3b2)
   obtain ⟨x5_1, rfl, HA, HK1, ⟨m1, rfl⟩⟩ := hrel
   cases gk with
   | zero => exact absurd HA.out (by simp [collatorref08_Same.l0])
   | succ k1 =>
    have H := HA.out
    clear HA
    simp only [collatorref08_Same.l0] at H
    by_cases c4 : x5_1 < (l0.length : Int)
    ·rw [if_pos c4] at H
     have c4b0 : decide (x5_1 < (l0.length : Int)) = true := decide_eq_true c4
     clear c4
     by_cases c5 : 0 ≤ x5_1
     ·rw [if_pos c5] at H
      have c5b0 : decide (0 ≤ x5_1) = true := decide_eq_true c5
      clear c5
      by_cases c6 : x5_1 < (l1.length : Int)
      ·rw [if_pos c6] at H
       have c6b0 : decide (x5_1 < (l1.length : Int)) = true := decide_eq_true c6
       clear c6
       by_cases c7 : (!((((rd_T35 l0 x5_1).f0).toList) == (((rd_T35 l1 x5_1).f0).toList)) || (!((((rd_T35 l0 x5_1).f1).toList) == (((rd_T35 l1 x5_1).f1).toList)) || (!(((rd_T35 l0 x5_1).f2) == ((rd_T35 l1 x5_1).f2))))) = true
       ·rw [if_pos c7] at H
        have c7b0 : (!((((rd_T35 l0 x5_1).f0).toList) == (((rd_T35 l1 x5_1).f0).toList)) || (!((((rd_T35 l0 x5_1).f1).toList) == (((rd_T35 l1 x5_1).f1).toList)) || (!(((rd_T35 l0 x5_1).f2) == ((rd_T35 l1 x5_1).f2))))) = true := c7
        clear c7
        obtain rfl := Option.some.inj H
        have p101 : 0 ≤ (x5_1 : Int) := of_decide_eq_true (by first | (with_reducible assumption) | assumption)
        have q101 : x5_1 < (l0.length : Int) := of_decide_eq_true (by first | (with_reducible assumption) | assumption)
        obtain ⟨ad101, e101, hx101_0, hx101_1, hx101_2⟩ := at_T35 HR0.out x5_1 p101 q101
        cases e101
        replace p101 := eq_true p101
        replace q101 := eq_true q101
        have p102 : 0 ≤ (x5_1 : Int) := of_decide_eq_true (by first | (with_reducible assumption) | assumption)
        have q102 : x5_1 < (l1.length : Int) := of_decide_eq_true (by first | (with_reducible assumption) | assumption)
        obtain ⟨ad102, e102, hx102_0, hx102_1, hx102_2⟩ := at_T35 HR1.out x5_1 p102 q102
        cases e102
        replace p102 := eq_true p102
        replace q102 := eq_true q102
        go_wp2
        repeat (go_quiet (fail); try go_wp2)
        go_ret
        exact ⟨by first | rfl | (simp; done) | (simp [*]; done), by repeat (first | exact Drawn0.refl _ | apply Drawn0.step)⟩
       ·rw [if_neg c7] at H
        have c7b0 : (!((((rd_T35 l0 x5_1).f0).toList) == (((rd_T35 l1 x5_1).f0).toList)) || (!((((rd_T35 l0 x5_1).f1).toList) == (((rd_T35 l1 x5_1).f1).toList)) || (!(((rd_T35 l0 x5_1).f2) == ((rd_T35 l1 x5_1).f2))))) = false := by simpa using c7
        clear c7
        have H' := Aside0.mk H
        clear H
        have p101 : 0 ≤ (x5_1 : Int) := of_decide_eq_true (by first | (with_reducible assumption) | assumption)
        have q101 : x5_1 < (l0.length : Int) := of_decide_eq_true (by first | (with_reducible assumption) | assumption)
        obtain ⟨ad101, e101, hx101_0, hx101_1, hx101_2⟩ := at_T35 HR0.out x5_1 p101 q101
        cases e101
        replace p101 := eq_true p101
        replace q101 := eq_true q101
        have p102 : 0 ≤ (x5_1 : Int) := of_decide_eq_true (by first | (with_reducible assumption) | assumption)
        have q102 : x5_1 < (l1.length : Int) := of_decide_eq_true (by first | (with_reducible assumption) | assumption)
        obtain ⟨ad102, e102, hx102_0, hx102_1, hx102_2⟩ := at_T35 HR1.out x5_1 p102 q102
        cases e102
        replace p102 := eq_true p102
        replace q102 := eq_true q102
        go_wp2
        repeat (go_quiet (fail); try go_wp2)
        go_roundg k1
        case measure => have := HK1.out; omega
        case rel => exact ⟨(wrap64 (x5_1 + 1)), (by first | rfl | (simp; done) | (simp [*]; done)), H', ⟨by have := HK1.out; omega⟩, by repeat (first | exact Drawn0.refl _ | apply Drawn0.step)⟩
      ·rw [if_neg c6] at H
       exact absurd H (by simp)
     ·rw [if_neg c5] at H
      exact absurd H (by simp)
    ·rw [if_neg c4] at H
     have c4b0 : decide (x5_1 < (l0.length : Int)) = false := decide_eq_false c4
     clear c4
     obtain rfl := Option.some.inj H
     go_wp2
     repeat (go_quiet (fail); try go_wp2)
     go_ret
     exact ⟨by first | rfl | (simp; done) | (simp [*]; done), by repeat (first | exact Drawn0.refl _ | apply Drawn0.step)⟩
 ·rw [if_neg c3] at H
  have c3b0 : ((l0.length : Int) == (l1.length : Int)) = false := beq_eq_false_iff_ne.mpr c3
  have c3b1 : ((l0.length : Int) != (l1.length : Int)) = true := bne_iff_ne.mpr c3
  have c3b2 : (l0.length == l1.length) = false := by first | simpa using c3 | (simp at c3 ⊢; omega)
  obtain rfl := Option.some.inj H
  go_enter Try.func10, Try.ntmps10
  go_wp2
  repeat (go_quiet (fail); try go_wp2)
  go_ret
  exact ⟨by first | rfl | (simp; done) | (simp [*]; done), by repeat (first | exact Drawn0.refl _ | apply Drawn0.step)⟩

end Go.Proofs.Ytcgnkbdfoaiaiaa.P
end
section
/- Laid for this claim by hp.py, this session's program round the kit's print: functions of the program as plain Lean functions, the proofs that the code comes to their answers, and the rows of the laws. Not trusted: Lean checks it. -/
namespace Go.Proofs.Ytcgnkbdfoaiaiaa.P
open Go.RowKit Go.Proofs.YtcgnkbdfoaiaiaaW.PrintWords Go.Proofs.YtcgnkbdfoaiaiaaW.PrintLast Go.Proofs.YtcgnkbdfoaiaiaaW.PrintMore
attribute [local go_sem] max2_int min2_int max_two min_two max_three min_three max_four min_four   -- for this text's walks alone
set_option linter.unusedVariables false
set_option linter.unusedSimpArgs false

/-! ### collatorlaw08_awake: function 7 -/
def collatorlaw08_awake.f (k : Nat)  : Option (Bool) := (some (([(⟨(⟨#[97]⟩ : ByteArray), 2, (⟨#[120, 10, 121, 10]⟩ : ByteArray), false⟩ : S33), (⟨(⟨#[98]⟩ : ByteArray), 2, (⟨#[120, 10]⟩ : ByteArray), false⟩ : S33)] : List (S33)) : List (S33))).bind fun y103 => ((some (([(⟨(⟨#[99]⟩ : ByteArray), 2, (⟨#[120, 10, 121, 10]⟩ : ByteArray), false⟩ : S33)] : List (S33)) : List (S33))).bind fun y106 => ((rename_Pairs.f y103 y106 50).bind fun t109 => ((collatorref08_Same.f k t109 (([(⟨(⟨#[97]⟩ : ByteArray), (⟨#[99]⟩ : ByteArray), 100⟩ : S35)] : List (S35)))).bind fun t115 => (if t115 = true then ((rename_Pairs.f y103 y106 101).bind fun t116 => (if (t116.length : Int) = 0 then ((rename_Pairs.f ([] : List (S33)) y106 0).bind fun t119 => (some ((t119.length : Int) == 0))) else (some false))) else (some false)))))
theorem collatorlaw08_awake.mono : ∀ k, LeO (collatorlaw08_awake.f k ) (collatorlaw08_awake.f (k + 1) ) := by
 intro  k
 unfold collatorlaw08_awake.f
 repeat' first
   | (with_reducible exact collatorref08_Same.mono _ _ _)
   | (with_reducible exact LeO.refl _)
   | (with_reducible exact LeO.none _)
   | (with_reducible refine LeO.ite ?_ ?_)
   | (with_reducible refine LeO.bind ?_ (fun _ => ?_))
   | exact collatorref08_Same.mono _ _ _
   | exact LeO.none _
   | refine LeO.ite ?_ ?_
   | refine LeO.bind ?_ (fun _ => ?_)
set_option maxHeartbeats 8000000 in
set_option maxRecDepth 100000 in
theorem collatorlaw08_awake.calls (k : Nat)  (r : Bool) (w : World) (h : collatorlaw08_awake.f k  = some r) :
  Calls Try.prog 7 #[] w fun e w' => e = .returned (.bool r) ∧ Below w.heap.size w w' := by
 have hu33 := Try.underlying33
 have hu35 := Try.underlying35
 have HB := Aside0.mk (Below.refl w.heap.size w)
 have H : ((some (([(⟨(⟨#[97]⟩ : ByteArray), 2, (⟨#[120, 10, 121, 10]⟩ : ByteArray), false⟩ : S33), (⟨(⟨#[98]⟩ : ByteArray), 2, (⟨#[120, 10]⟩ : ByteArray), false⟩ : S33)] : List (S33)) : List (S33))).bind fun y103 => ((some (([(⟨(⟨#[99]⟩ : ByteArray), 2, (⟨#[120, 10, 121, 10]⟩ : ByteArray), false⟩ : S33)] : List (S33)) : List (S33))).bind fun y106 => ((rename_Pairs.f y103 y106 50).bind fun t109 => ((collatorref08_Same.f k t109 (([(⟨(⟨#[97]⟩ : ByteArray), (⟨#[99]⟩ : ByteArray), 100⟩ : S35)] : List (S35)))).bind fun t115 => (if t115 = true then ((rename_Pairs.f y103 y106 101).bind fun t116 => (if (t116.length : Int) = 0 then ((rename_Pairs.f ([] : List (S33)) y106 0).bind fun t119 => (some ((t119.length : Int) == 0))) else (some false))) else (some false)))))) = some r := h
 clear h
 obtain ⟨y103, hy103⟩ : ∃ y_ : List (S33), y_ = (([(⟨(⟨#[97]⟩ : ByteArray), 2, (⟨#[120, 10, 121, 10]⟩ : ByteArray), false⟩ : S33), (⟨(⟨#[98]⟩ : ByteArray), 2, (⟨#[120, 10]⟩ : ByteArray), false⟩ : S33)] : List (S33))) := ⟨_, rfl⟩
 replace H : ((some (([(⟨(⟨#[99]⟩ : ByteArray), 2, (⟨#[120, 10, 121, 10]⟩ : ByteArray), false⟩ : S33)] : List (S33)) : List (S33))).bind fun y106 => ((rename_Pairs.f y103 y106 50).bind fun t109 => ((collatorref08_Same.f k t109 (([(⟨(⟨#[97]⟩ : ByteArray), (⟨#[99]⟩ : ByteArray), 100⟩ : S35)] : List (S35)))).bind fun t115 => (if t115 = true then ((rename_Pairs.f y103 y106 101).bind fun t116 => (if (t116.length : Int) = 0 then ((rename_Pairs.f ([] : List (S33)) y106 0).bind fun t119 => (some ((t119.length : Int) == 0))) else (some false))) else (some false))))) = some r := by first | (rw [hy103]; with_reducible exact H) | (have H2_ := (Option.bind_some _ _).symm.trans H; rw [hy103]; with_reducible exact H2_) | (have H2_ := (Option.bind_some _ _).symm.trans H; with_reducible exact H2_) | with_reducible exact H | (rw [hy103]; exact H) | exact H
 have Ny103 := Aside0.mk hy103
 clear hy103
 obtain ⟨y106, hy106⟩ : ∃ y_ : List (S33), y_ = (([(⟨(⟨#[99]⟩ : ByteArray), 2, (⟨#[120, 10, 121, 10]⟩ : ByteArray), false⟩ : S33)] : List (S33))) := ⟨_, rfl⟩
 replace H : ((rename_Pairs.f y103 y106 50).bind fun t109 => ((collatorref08_Same.f k t109 (([(⟨(⟨#[97]⟩ : ByteArray), (⟨#[99]⟩ : ByteArray), 100⟩ : S35)] : List (S35)))).bind fun t115 => (if t115 = true then ((rename_Pairs.f y103 y106 101).bind fun t116 => (if (t116.length : Int) = 0 then ((rename_Pairs.f ([] : List (S33)) y106 0).bind fun t119 => (some ((t119.length : Int) == 0))) else (some false))) else (some false)))) = some r := by first | (rw [hy106]; with_reducible exact H) | (have H2_ := (Option.bind_some _ _).symm.trans H; rw [hy106]; with_reducible exact H2_) | (have H2_ := (Option.bind_some _ _).symm.trans H; with_reducible exact H2_) | with_reducible exact H | (rw [hy106]; exact H) | exact H
 have Ny106 := Aside0.mk hy106
 clear hy106
 replace H := Option.bind_eq_some_iff.mp H
 obtain ⟨t109, A10, H⟩ := H
 replace H : ((collatorref08_Same.f k t109 (([(⟨(⟨#[97]⟩ : ByteArray), (⟨#[99]⟩ : ByteArray), 100⟩ : S35)] : List (S35)))).bind fun t115 => (if t115 = true then ((rename_Pairs.f y103 y106 101).bind fun t116 => (if (t116.length : Int) = 0 then ((rename_Pairs.f ([] : List (S33)) y106 0).bind fun t119 => (some ((t119.length : Int) == 0))) else (some false))) else (some false))) = some r := H
 have A1 := Aside0.mk A10
 clear A10
 obtain ⟨y112, hy112⟩ : ∃ y_ : List (S35), y_ = (([(⟨(⟨#[97]⟩ : ByteArray), (⟨#[99]⟩ : ByteArray), 100⟩ : S35)] : List (S35))) := ⟨_, rfl⟩
 replace H : ((collatorref08_Same.f k t109 y112).bind fun t115 => (if t115 = true then ((rename_Pairs.f y103 y106 101).bind fun t116 => (if (t116.length : Int) = 0 then ((rename_Pairs.f ([] : List (S33)) y106 0).bind fun t119 => (some ((t119.length : Int) == 0))) else (some false))) else (some false))) = some r := by first | (rw [hy112]; with_reducible exact H) | (have H2_ := (Option.bind_some _ _).symm.trans H; rw [hy112]; with_reducible exact H2_) | (have H2_ := (Option.bind_some _ _).symm.trans H; with_reducible exact H2_) | with_reducible exact H | (rw [hy112]; exact H) | exact H
 have Ny112 := Aside0.mk hy112
 clear hy112
 replace H := Option.bind_eq_some_iff.mp H
 obtain ⟨t115, A20, H⟩ := H
 replace H : (if t115 = true then ((rename_Pairs.f y103 y106 101).bind fun t116 => (if (t116.length : Int) = 0 then ((rename_Pairs.f ([] : List (S33)) y106 0).bind fun t119 => (some ((t119.length : Int) == 0))) else (some false))) else (some false)) = some r := H
 have A2 := Aside0.mk A20
 clear A20
 by_cases c3 : t115 = true
 ·subst c3
  have H1 : ((rename_Pairs.f y103 y106 101).bind fun t116 => (if (t116.length : Int) = 0 then ((rename_Pairs.f ([] : List (S33)) y106 0).bind fun t119 => (some ((t119.length : Int) == 0))) else (some false))) = some r := by rw [if_pos rfl] at H; exact H
  clear H
  have H := H1
  clear H1
  replace H := Option.bind_eq_some_iff.mp H
  obtain ⟨t116, A40, H⟩ := H
  replace H : (if (t116.length : Int) = 0 then ((rename_Pairs.f ([] : List (S33)) y106 0).bind fun t119 => (some ((t119.length : Int) == 0))) else (some false)) = some r := H
  have A4 := Aside0.mk A40
  clear A40
  by_cases c5 : (t116.length : Int) = 0
  ·rw [if_pos c5] at H
   have c5b0 : ((t116.length : Int) == 0) = true := beq_iff_eq.mpr c5
   have c5b1 : ((t116.length : Int) != 0) = false := bne_eq_false_iff_eq.mpr c5
   clear c5
   replace H := Option.bind_eq_some_iff.mp H
   obtain ⟨t119, A60, H⟩ := H
   replace H : (some ((t119.length : Int) == 0)) = some r := H
   have A6 := Aside0.mk A60
   clear A60
   obtain rfl := Option.some.inj H
   go_enter Try.func7, Try.ntmps7
   go_wp2_with (first | ((with_reducible refine gate_dst (N := 5) rfl ?_); (try (refine gate_guard (by rfl) ?_; dsimp only)); refine Kd.R_lit k33 _ 33 ?hg (N := 5) ?hd (xs := ([(⟨(⟨#[97]⟩ : ByteArray), 2, (⟨#[120, 10, 121, 10]⟩ : ByteArray), false⟩ : S33), (⟨(⟨#[98]⟩ : ByteArray), 2, (⟨#[120, 10]⟩ : ByteArray), false⟩ : S33)] : List (S33))) (inner := [.string (⟨#[97]⟩ : ByteArray), .int .i64 2, .string (⟨#[120, 10, 121, 10]⟩ : ByteArray), .bool false, .string (⟨#[98]⟩ : ByteArray), .int .i64 2, .string (⟨#[120, 10]⟩ : ByteArray), .bool false]) (ok := fun _ => True) (okp := fun _ => True) ?hr ?hp (fun _ hk => hk) trivial (Below.refl _ _) (Nat.le_refl _) (by simp) ?_; (case hd => rfl); (case hg => rfl); (case hr => first | (go_simp; done) | (go_simp; rfl)); (case hp => exact (Reps.c4 (show Kd.M k33 _ _ _ (⟨(⟨#[97]⟩ : ByteArray), 2, (⟨#[120, 10, 121, 10]⟩ : ByteArray), false⟩ : S33) [.string (⟨#[97]⟩ : ByteArray), .int .i64 2, .string (⟨#[120, 10, 121, 10]⟩ : ByteArray), .bool false] from (k33_mkM _ _ _ (⟨(⟨#[97]⟩ : ByteArray), 2, (⟨#[120, 10, 121, 10]⟩ : ByteArray), false⟩ : S33) )) (Reps.c4 (show Kd.M k33 _ _ _ (⟨(⟨#[98]⟩ : ByteArray), 2, (⟨#[120, 10]⟩ : ByteArray), false⟩ : S33) [.string (⟨#[98]⟩ : ByteArray), .int .i64 2, .string (⟨#[120, 10]⟩ : ByteArray), .bool false] from (k33_mkM _ _ _ (⟨(⟨#[98]⟩ : ByteArray), 2, (⟨#[120, 10]⟩ : ByteArray), false⟩ : S33) )) (Reps.none _ _)))); intro v104 w7 ho8 hb hg_ hnew_; clear hg_ hnew_; (first | rw [← Ny103.out] at ho8 | (simp only [Int.reduceToNat] at ho8; rw [← Ny103.out] at ho8)); have n0_ := Aside0.mk (Kd.R_lower ho8 (below_size (by repeat (first | (with_reducible first | exact HB.out | apply below_alloc | apply pw_below_drewN | apply below_drew1) | exact HB.out)))); have n1_ := Aside0.mk (below_step (by repeat (first | (with_reducible first | exact HB.out | apply below_alloc | apply pw_below_drewN | apply below_drew1) | exact HB.out)) hb); clear HB; have HO105 := n0_; have HB := n1_; clear n0_ n1_; clear hb ho8) | ((with_reducible refine gate_dst (N := 7) rfl ?_); (try (refine gate_guard (by rfl) ?_; dsimp only)); refine Kd.R_lit k33 _ 33 ?hg (N := 7) ?hd (xs := ([(⟨(⟨#[99]⟩ : ByteArray), 2, (⟨#[120, 10, 121, 10]⟩ : ByteArray), false⟩ : S33)] : List (S33))) (inner := [.string (⟨#[99]⟩ : ByteArray), .int .i64 2, .string (⟨#[120, 10, 121, 10]⟩ : ByteArray), .bool false]) (ok := fun _ => True) (okp := fun _ => True) ?hr ?hp (fun _ hk => hk) trivial (Below.refl _ _) (Nat.le_refl _) (by simp) ?_; (case hd => rfl); (case hg => rfl); (case hr => first | (go_simp; done) | (go_simp; rfl)); (case hp => exact (Reps.c4 (show Kd.M k33 _ _ _ (⟨(⟨#[99]⟩ : ByteArray), 2, (⟨#[120, 10, 121, 10]⟩ : ByteArray), false⟩ : S33) [.string (⟨#[99]⟩ : ByteArray), .int .i64 2, .string (⟨#[120, 10, 121, 10]⟩ : ByteArray), .bool false] from (k33_mkM _ _ _ (⟨(⟨#[99]⟩ : ByteArray), 2, (⟨#[120, 10, 121, 10]⟩ : ByteArray), false⟩ : S33) )) (Reps.none _ _))); intro v107 w9 ho10 hb hg_ hnew_; clear hg_ hnew_; (first | rw [← Ny106.out] at ho10 | (simp only [Int.reduceToNat] at ho10; rw [← Ny106.out] at ho10)); have n0_ := Aside0.mk (Kd.R_elder' (by (with_reducible repeat (first | apply Kd.R_alloc | apply Kd.R_drewN | apply Kd.R_drew)); exact HO105.out) (Kd.R_base ho10) hb); have n1_ := Aside0.mk (Kd.R_lower (Kd.R_new' ho10 (Kd.R_lt (by (with_reducible repeat (first | apply Kd.R_alloc | apply Kd.R_drewN | apply Kd.R_drew)); exact HO105.out))) (below_size (by repeat (first | (with_reducible first | exact HB.out | apply below_alloc | apply pw_below_drewN | apply below_drew1) | exact HB.out)))); have n2_ := Aside0.mk (below_step (by repeat (first | (with_reducible first | exact HB.out | apply below_alloc | apply pw_below_drewN | apply below_drew1) | exact HB.out)) hb); clear HO105; clear HB; have HO105 := n0_; have HO108 := n1_; have HB := n2_; clear n0_ n1_ n2_; clear hb ho10; (try (obtain ⟨Ao11, co11, eo11⟩ := Kd.R_slice HO105.out; subst eo11)); (try (obtain ⟨Ao12, co12, eo12⟩ := Kd.R_slice HO108.out; subst eo12))) | ((with_reducible refine gate_callee (f := 11) rfl ?_); refine goesL_ _ rfl rfl Try.func11 (by kernel_rfl) rfl #[.slice Ao11 y103.length co11, .slice Ao12 y106.length co12, .int .i64 50] rfl (by (try simp only [List.map_toArray, List.map_cons, List.map_nil]); first | done | rfl | (simp only [List.length_drop, List.length_take]; rfl)) ?_; (with_reducible refine (rename_Pairs.calls _ _ y103 _ _ y106 50 t109 _ ?side1 ?side2 ?side3 ?side4 A1.out).mono ?_); (case side1 => repeat (first | exact (Kd.R_reads' HO105.out).2.2 | (with_reducible refine Kd.C_alloc ?_ _) | (with_reducible refine Kd.C_drewN ?_ _) | (with_reducible refine Kd.C_drew ?_))); (case side2 => exact (Kd.R_reads' HO105.out).2.1); (case side3 => repeat (first | exact (Kd.R_reads' HO108.out).2.2 | (with_reducible refine Kd.C_alloc ?_ _) | (with_reducible refine Kd.C_drewN ?_ _) | (with_reducible refine Kd.C_drew ?_))); (case side4 => exact (Kd.R_reads' HO108.out).2.1); rintro e w13 ⟨v110, rfl, ho0, hb⟩; refine ⟨_, rfl, ?_⟩; have n0_ := Aside0.mk (Kd.R_below (by (with_reducible repeat (first | apply Kd.R_alloc | apply Kd.R_drewN | apply Kd.R_drew)); exact HO105.out) hb); have n1_ := Aside0.mk (Kd.R_below (by (with_reducible repeat (first | apply Kd.R_alloc | apply Kd.R_drewN | apply Kd.R_drew)); exact HO108.out) hb); have n2_ := Aside0.mk (Kd.R_lower ho0 (below_size (by repeat (first | (with_reducible first | exact HB.out | apply below_alloc | apply pw_below_drewN | apply below_drew1) | exact HB.out)))); have n3_ := Aside0.mk (below_step (by repeat (first | (with_reducible first | exact HB.out | apply below_alloc | apply pw_below_drewN | apply below_drew1) | exact HB.out)) hb); clear HO105; clear HO108; clear HB; have HO105 := n0_; have HO108 := n1_; have HO111 := n2_; have HB := n3_; clear n0_ n1_ n2_ n3_; (try clear hb); (try clear hb2); (try clear hk); (try clear hi); (try clear ho0)) | ((with_reducible refine gate_dst (N := 12) rfl ?_); (try (refine gate_guard (by rfl) ?_; dsimp only)); refine Kd.R_lit k35 _ 35 ?hg (N := 12) ?hd (xs := ([(⟨(⟨#[97]⟩ : ByteArray), (⟨#[99]⟩ : ByteArray), 100⟩ : S35)] : List (S35))) (inner := [.string (⟨#[97]⟩ : ByteArray), .string (⟨#[99]⟩ : ByteArray), .int .i64 100]) (ok := fun _ => True) (okp := fun _ => True) ?hr ?hp (fun _ hk => hk) trivial (Below.refl _ _) (Nat.le_refl _) (by simp) ?_; (case hd => rfl); (case hg => rfl); (case hr => first | (go_simp; done) | (go_simp; rfl)); (case hp => exact (Reps.c3 (show Kd.M k35 _ _ _ (⟨(⟨#[97]⟩ : ByteArray), (⟨#[99]⟩ : ByteArray), 100⟩ : S35) [.string (⟨#[97]⟩ : ByteArray), .string (⟨#[99]⟩ : ByteArray), .int .i64 100] from (k35_mkM _ _ _ (⟨(⟨#[97]⟩ : ByteArray), (⟨#[99]⟩ : ByteArray), 100⟩ : S35) )) (Reps.none _ _))); intro v113 w14 ho15 hb hg_ hnew_; clear hg_ hnew_; (first | rw [← Ny112.out] at ho15 | (simp only [Int.reduceToNat] at ho15; rw [← Ny112.out] at ho15)); have n0_ := Aside0.mk (Kd.R_below (by (with_reducible repeat (first | apply Kd.R_alloc | apply Kd.R_drewN | apply Kd.R_drew)); exact HO105.out) hb); have n1_ := Aside0.mk (Kd.R_below (by (with_reducible repeat (first | apply Kd.R_alloc | apply Kd.R_drewN | apply Kd.R_drew)); exact HO108.out) hb); have n2_ := Aside0.mk (Kd.R_elder' (by (with_reducible repeat (first | apply Kd.R_alloc | apply Kd.R_drewN | apply Kd.R_drew)); exact HO111.out) (Kd.R_base ho15) hb); have n3_ := Aside0.mk (Kd.R_lower (Kd.R_new' ho15 (Kd.R_lt (by (with_reducible repeat (first | apply Kd.R_alloc | apply Kd.R_drewN | apply Kd.R_drew)); exact HO111.out))) (below_size (by repeat (first | (with_reducible first | exact HB.out | apply below_alloc | apply pw_below_drewN | apply below_drew1) | exact HB.out)))); have n4_ := Aside0.mk (below_step (by repeat (first | (with_reducible first | exact HB.out | apply below_alloc | apply pw_below_drewN | apply below_drew1) | exact HB.out)) hb); clear HO105; clear HO108; clear HO111; clear HB; have HO105 := n0_; have HO108 := n1_; have HO111 := n2_; have HO114 := n3_; have HB := n4_; clear n0_ n1_ n2_ n3_ n4_; clear hb ho15; (try (obtain ⟨Ao16, co16, eo16⟩ := Kd.R_slice HO111.out; subst eo16)); (try (obtain ⟨Ao17, co17, eo17⟩ := Kd.R_slice HO114.out; subst eo17))) | ((with_reducible refine gate_callee (f := 10) rfl ?_); refine goesL_ _ rfl rfl Try.func10 (by kernel_rfl) rfl #[.slice Ao16 t109.length co16, .slice Ao17 y112.length co17] rfl (by (try simp only [List.map_toArray, List.map_cons, List.map_nil]); first | done | rfl | (simp only [List.length_drop, List.length_take]; rfl)) ?_; (with_reducible refine (collatorref08_Same.calls k _ _ t109 _ _ y112 true _ ?side1 ?side2 ?side3 ?side4 A2.out).mono ?_); (case side1 => repeat (first | exact (Kd.R_reads' HO111.out).2.2 | (with_reducible refine Kd.C_alloc ?_ _) | (with_reducible refine Kd.C_drewN ?_ _) | (with_reducible refine Kd.C_drew ?_))); (case side2 => exact (Kd.R_reads' HO111.out).2.1); (case side3 => repeat (first | exact (Kd.R_reads' HO114.out).2.2 | (with_reducible refine Kd.C_alloc ?_ _) | (with_reducible refine Kd.C_drewN ?_ _) | (with_reducible refine Kd.C_drew ?_))); (case side4 => exact (Kd.R_reads' HO114.out).2.1); rintro e w' ⟨rfl, ⟨nd, rfl⟩⟩; refine ⟨_, rfl, ?_⟩) | (go_at_call 11; (with_reducible refine (rename_Pairs.calls _ _ y103 _ _ y106 101 t116 _ ?side1 ?side2 ?side3 ?side4 A4.out).mono ?_); (case side1 => repeat (first | exact (Kd.R_reads' HO105.out).2.2 | (with_reducible refine Kd.C_alloc ?_ _) | (with_reducible refine Kd.C_drewN ?_ _) | (with_reducible refine Kd.C_drew ?_))); (case side2 => exact (Kd.R_reads' HO105.out).2.1); (case side3 => repeat (first | exact (Kd.R_reads' HO108.out).2.2 | (with_reducible refine Kd.C_alloc ?_ _) | (with_reducible refine Kd.C_drewN ?_ _) | (with_reducible refine Kd.C_drew ?_))); (case side4 => exact (Kd.R_reads' HO108.out).2.1); rintro e w18 ⟨v117, rfl, ho0, hb⟩; have n0_ := Aside0.mk (Kd.R_below (by (with_reducible repeat (first | apply Kd.R_alloc | apply Kd.R_drewN | apply Kd.R_drew)); exact HO105.out) hb); have n1_ := Aside0.mk (Kd.R_below (by (with_reducible repeat (first | apply Kd.R_alloc | apply Kd.R_drewN | apply Kd.R_drew)); exact HO108.out) hb); have n2_ := Aside0.mk (Kd.R_elder' (by (with_reducible repeat (first | apply Kd.R_alloc | apply Kd.R_drewN | apply Kd.R_drew)); exact HO111.out) (Kd.R_base ho0) hb); have n3_ := Aside0.mk (Kd.R_elder' (by (with_reducible repeat (first | apply Kd.R_alloc | apply Kd.R_drewN | apply Kd.R_drew)); exact HO114.out) (Kd.R_base ho0) hb); have n4_ := Aside0.mk (Kd.R_lower (Kd.R_new' (Kd.R_new' ho0 (Kd.R_lt (by (with_reducible repeat (first | apply Kd.R_alloc | apply Kd.R_drewN | apply Kd.R_drew)); exact HO111.out))) (Kd.R_lt (by (with_reducible repeat (first | apply Kd.R_alloc | apply Kd.R_drewN | apply Kd.R_drew)); exact HO114.out))) (below_size (by repeat (first | (with_reducible first | exact HB.out | apply below_alloc | apply pw_below_drewN | apply below_drew1) | exact HB.out)))); have n5_ := Aside0.mk (below_step (by repeat (first | (with_reducible first | exact HB.out | apply below_alloc | apply pw_below_drewN | apply below_drew1) | exact HB.out)) hb); clear HO105; clear HO108; clear HO111; clear HO114; clear HB; have HO105 := n0_; have HO108 := n1_; have HO111 := n2_; have HO114 := n3_; have HO118 := n4_; have HB := n5_; clear n0_ n1_ n2_ n3_ n4_ n5_; (try clear hb); (try clear hb2); (try clear hk); (try clear hi); (try clear ho0); (try (obtain ⟨Ao19, co19, eo19⟩ := Kd.R_slice HO118.out; subst eo19))) | (go_at_call 11; (refine (rename_Pairs.calls _ _ ([] : List (S33)) _ _ y106 0 t119 _ ?side1 ?side2 ?side3 ?side4 A6.out).mono ?_); (case side1 => exact Kd.C_nil _ _); (case side2 => exact Nat.le_refl _); (case side3 => repeat (first | exact (Kd.R_reads' HO108.out).2.2 | (with_reducible refine Kd.C_alloc ?_ _) | (with_reducible refine Kd.C_drewN ?_ _) | (with_reducible refine Kd.C_drew ?_))); (case side4 => exact (Kd.R_reads' HO108.out).2.1); rintro e w20 ⟨v120, rfl, ho0, hb⟩; have n0_ := Aside0.mk (Kd.R_below (by (with_reducible repeat (first | apply Kd.R_alloc | apply Kd.R_drewN | apply Kd.R_drew)); exact HO105.out) hb); have n1_ := Aside0.mk (Kd.R_below (by (with_reducible repeat (first | apply Kd.R_alloc | apply Kd.R_drewN | apply Kd.R_drew)); exact HO108.out) hb); have n2_ := Aside0.mk (Kd.R_elder' (by (with_reducible repeat (first | apply Kd.R_alloc | apply Kd.R_drewN | apply Kd.R_drew)); exact HO111.out) (Kd.R_base ho0) hb); have n3_ := Aside0.mk (Kd.R_elder' (by (with_reducible repeat (first | apply Kd.R_alloc | apply Kd.R_drewN | apply Kd.R_drew)); exact HO114.out) (Kd.R_base ho0) hb); have n4_ := Aside0.mk (Kd.R_elder' (by (with_reducible repeat (first | apply Kd.R_alloc | apply Kd.R_drewN | apply Kd.R_drew)); exact HO118.out) (Kd.R_base ho0) hb); have n5_ := Aside0.mk (Kd.R_lower (Kd.R_new' (Kd.R_new' (Kd.R_new' ho0 (Kd.R_lt (by (with_reducible repeat (first | apply Kd.R_alloc | apply Kd.R_drewN | apply Kd.R_drew)); exact HO111.out))) (Kd.R_lt (by (with_reducible repeat (first | apply Kd.R_alloc | apply Kd.R_drewN | apply Kd.R_drew)); exact HO114.out))) (Kd.R_lt (by (with_reducible repeat (first | apply Kd.R_alloc | apply Kd.R_drewN | apply Kd.R_drew)); exact HO118.out))) (below_size (by repeat (first | (with_reducible first | exact HB.out | apply below_alloc | apply pw_below_drewN | apply below_drew1) | exact HB.out)))); have n6_ := Aside0.mk (below_step (by repeat (first | (with_reducible first | exact HB.out | apply below_alloc | apply pw_below_drewN | apply below_drew1) | exact HB.out)) hb); clear HO105; clear HO108; clear HO111; clear HO114; clear HO118; clear HB; have HO105 := n0_; have HO108 := n1_; have HO111 := n2_; have HO114 := n3_; have HO118 := n4_; have HO121 := n5_; have HB := n6_; clear n0_ n1_ n2_ n3_ n4_ n5_ n6_; (try clear hb); (try clear hb2); (try clear hk); (try clear hi); (try clear ho0); (try (obtain ⟨Ao21, co21, eo21⟩ := Kd.R_slice HO121.out; subst eo21))))
   go_ret
   exact ⟨by first | rfl | (simp [errW_none, errW_some] <;> rfl) | (simp [*, errW_none, errW_some] <;> rfl), by repeat (first | (with_reducible first | exact HB.out | apply below_alloc | apply pw_below_drewN | apply below_drew1) | exact HB.out)⟩
  ·rw [if_neg c5] at H
   have c5b0 : ((t116.length : Int) == 0) = false := beq_eq_false_iff_ne.mpr c5
   have c5b1 : ((t116.length : Int) != 0) = true := bne_iff_ne.mpr c5
   have c5b2 : ¬ (t116 = []) := fun h_ => c5 (by rw [h_]; rfl)
   obtain rfl := Option.some.inj H
   go_enter Try.func7, Try.ntmps7
   go_wp2_with (first | ((with_reducible refine gate_dst (N := 5) rfl ?_); (try (refine gate_guard (by rfl) ?_; dsimp only)); refine Kd.R_lit k33 _ 33 ?hg (N := 5) ?hd (xs := ([(⟨(⟨#[97]⟩ : ByteArray), 2, (⟨#[120, 10, 121, 10]⟩ : ByteArray), false⟩ : S33), (⟨(⟨#[98]⟩ : ByteArray), 2, (⟨#[120, 10]⟩ : ByteArray), false⟩ : S33)] : List (S33))) (inner := [.string (⟨#[97]⟩ : ByteArray), .int .i64 2, .string (⟨#[120, 10, 121, 10]⟩ : ByteArray), .bool false, .string (⟨#[98]⟩ : ByteArray), .int .i64 2, .string (⟨#[120, 10]⟩ : ByteArray), .bool false]) (ok := fun _ => True) (okp := fun _ => True) ?hr ?hp (fun _ hk => hk) trivial (Below.refl _ _) (Nat.le_refl _) (by simp) ?_; (case hd => rfl); (case hg => rfl); (case hr => first | (go_simp; done) | (go_simp; rfl)); (case hp => exact (Reps.c4 (show Kd.M k33 _ _ _ (⟨(⟨#[97]⟩ : ByteArray), 2, (⟨#[120, 10, 121, 10]⟩ : ByteArray), false⟩ : S33) [.string (⟨#[97]⟩ : ByteArray), .int .i64 2, .string (⟨#[120, 10, 121, 10]⟩ : ByteArray), .bool false] from (k33_mkM _ _ _ (⟨(⟨#[97]⟩ : ByteArray), 2, (⟨#[120, 10, 121, 10]⟩ : ByteArray), false⟩ : S33) )) (Reps.c4 (show Kd.M k33 _ _ _ (⟨(⟨#[98]⟩ : ByteArray), 2, (⟨#[120, 10]⟩ : ByteArray), false⟩ : S33) [.string (⟨#[98]⟩ : ByteArray), .int .i64 2, .string (⟨#[120, 10]⟩ : ByteArray), .bool false] from (k33_mkM _ _ _ (⟨(⟨#[98]⟩ : ByteArray), 2, (⟨#[120, 10]⟩ : ByteArray), false⟩ : S33) )) (Reps.none _ _)))); intro v104 w22 ho23 hb hg_ hnew_; clear hg_ hnew_; (first | rw [← Ny103.out] at ho23 | (simp only [Int.reduceToNat] at ho23; rw [← Ny103.out] at ho23)); have n0_ := Aside0.mk (Kd.R_lower ho23 (below_size (by repeat (first | (with_reducible first | exact HB.out | apply below_alloc | apply pw_below_drewN | apply below_drew1) | exact HB.out)))); have n1_ := Aside0.mk (below_step (by repeat (first | (with_reducible first | exact HB.out | apply below_alloc | apply pw_below_drewN | apply below_drew1) | exact HB.out)) hb); clear HB; have HO105 := n0_; have HB := n1_; clear n0_ n1_; clear hb ho23) | ((with_reducible refine gate_dst (N := 7) rfl ?_); (try (refine gate_guard (by rfl) ?_; dsimp only)); refine Kd.R_lit k33 _ 33 ?hg (N := 7) ?hd (xs := ([(⟨(⟨#[99]⟩ : ByteArray), 2, (⟨#[120, 10, 121, 10]⟩ : ByteArray), false⟩ : S33)] : List (S33))) (inner := [.string (⟨#[99]⟩ : ByteArray), .int .i64 2, .string (⟨#[120, 10, 121, 10]⟩ : ByteArray), .bool false]) (ok := fun _ => True) (okp := fun _ => True) ?hr ?hp (fun _ hk => hk) trivial (Below.refl _ _) (Nat.le_refl _) (by simp) ?_; (case hd => rfl); (case hg => rfl); (case hr => first | (go_simp; done) | (go_simp; rfl)); (case hp => exact (Reps.c4 (show Kd.M k33 _ _ _ (⟨(⟨#[99]⟩ : ByteArray), 2, (⟨#[120, 10, 121, 10]⟩ : ByteArray), false⟩ : S33) [.string (⟨#[99]⟩ : ByteArray), .int .i64 2, .string (⟨#[120, 10, 121, 10]⟩ : ByteArray), .bool false] from (k33_mkM _ _ _ (⟨(⟨#[99]⟩ : ByteArray), 2, (⟨#[120, 10, 121, 10]⟩ : ByteArray), false⟩ : S33) )) (Reps.none _ _))); intro v107 w24 ho25 hb hg_ hnew_; clear hg_ hnew_; (first | rw [← Ny106.out] at ho25 | (simp only [Int.reduceToNat] at ho25; rw [← Ny106.out] at ho25)); have n0_ := Aside0.mk (Kd.R_elder' (by (with_reducible repeat (first | apply Kd.R_alloc | apply Kd.R_drewN | apply Kd.R_drew)); exact HO105.out) (Kd.R_base ho25) hb); have n1_ := Aside0.mk (Kd.R_lower (Kd.R_new' ho25 (Kd.R_lt (by (with_reducible repeat (first | apply Kd.R_alloc | apply Kd.R_drewN | apply Kd.R_drew)); exact HO105.out))) (below_size (by repeat (first | (with_reducible first | exact HB.out | apply below_alloc | apply pw_below_drewN | apply below_drew1) | exact HB.out)))); have n2_ := Aside0.mk (below_step (by repeat (first | (with_reducible first | exact HB.out | apply below_alloc | apply pw_below_drewN | apply below_drew1) | exact HB.out)) hb); clear HO105; clear HB; have HO105 := n0_; have HO108 := n1_; have HB := n2_; clear n0_ n1_ n2_; clear hb ho25; (try (obtain ⟨Ao26, co26, eo26⟩ := Kd.R_slice HO105.out; subst eo26)); (try (obtain ⟨Ao27, co27, eo27⟩ := Kd.R_slice HO108.out; subst eo27))) | ((with_reducible refine gate_callee (f := 11) rfl ?_); refine goesL_ _ rfl rfl Try.func11 (by kernel_rfl) rfl #[.slice Ao26 y103.length co26, .slice Ao27 y106.length co27, .int .i64 50] rfl (by (try simp only [List.map_toArray, List.map_cons, List.map_nil]); first | done | rfl | (simp only [List.length_drop, List.length_take]; rfl)) ?_; (with_reducible refine (rename_Pairs.calls _ _ y103 _ _ y106 50 t109 _ ?side1 ?side2 ?side3 ?side4 A1.out).mono ?_); (case side1 => repeat (first | exact (Kd.R_reads' HO105.out).2.2 | (with_reducible refine Kd.C_alloc ?_ _) | (with_reducible refine Kd.C_drewN ?_ _) | (with_reducible refine Kd.C_drew ?_))); (case side2 => exact (Kd.R_reads' HO105.out).2.1); (case side3 => repeat (first | exact (Kd.R_reads' HO108.out).2.2 | (with_reducible refine Kd.C_alloc ?_ _) | (with_reducible refine Kd.C_drewN ?_ _) | (with_reducible refine Kd.C_drew ?_))); (case side4 => exact (Kd.R_reads' HO108.out).2.1); rintro e w28 ⟨v110, rfl, ho0, hb⟩; refine ⟨_, rfl, ?_⟩; have n0_ := Aside0.mk (Kd.R_below (by (with_reducible repeat (first | apply Kd.R_alloc | apply Kd.R_drewN | apply Kd.R_drew)); exact HO105.out) hb); have n1_ := Aside0.mk (Kd.R_below (by (with_reducible repeat (first | apply Kd.R_alloc | apply Kd.R_drewN | apply Kd.R_drew)); exact HO108.out) hb); have n2_ := Aside0.mk (Kd.R_lower ho0 (below_size (by repeat (first | (with_reducible first | exact HB.out | apply below_alloc | apply pw_below_drewN | apply below_drew1) | exact HB.out)))); have n3_ := Aside0.mk (below_step (by repeat (first | (with_reducible first | exact HB.out | apply below_alloc | apply pw_below_drewN | apply below_drew1) | exact HB.out)) hb); clear HO105; clear HO108; clear HB; have HO105 := n0_; have HO108 := n1_; have HO111 := n2_; have HB := n3_; clear n0_ n1_ n2_ n3_; (try clear hb); (try clear hb2); (try clear hk); (try clear hi); (try clear ho0)) | ((with_reducible refine gate_dst (N := 12) rfl ?_); (try (refine gate_guard (by rfl) ?_; dsimp only)); refine Kd.R_lit k35 _ 35 ?hg (N := 12) ?hd (xs := ([(⟨(⟨#[97]⟩ : ByteArray), (⟨#[99]⟩ : ByteArray), 100⟩ : S35)] : List (S35))) (inner := [.string (⟨#[97]⟩ : ByteArray), .string (⟨#[99]⟩ : ByteArray), .int .i64 100]) (ok := fun _ => True) (okp := fun _ => True) ?hr ?hp (fun _ hk => hk) trivial (Below.refl _ _) (Nat.le_refl _) (by simp) ?_; (case hd => rfl); (case hg => rfl); (case hr => first | (go_simp; done) | (go_simp; rfl)); (case hp => exact (Reps.c3 (show Kd.M k35 _ _ _ (⟨(⟨#[97]⟩ : ByteArray), (⟨#[99]⟩ : ByteArray), 100⟩ : S35) [.string (⟨#[97]⟩ : ByteArray), .string (⟨#[99]⟩ : ByteArray), .int .i64 100] from (k35_mkM _ _ _ (⟨(⟨#[97]⟩ : ByteArray), (⟨#[99]⟩ : ByteArray), 100⟩ : S35) )) (Reps.none _ _))); intro v113 w29 ho30 hb hg_ hnew_; clear hg_ hnew_; (first | rw [← Ny112.out] at ho30 | (simp only [Int.reduceToNat] at ho30; rw [← Ny112.out] at ho30)); have n0_ := Aside0.mk (Kd.R_below (by (with_reducible repeat (first | apply Kd.R_alloc | apply Kd.R_drewN | apply Kd.R_drew)); exact HO105.out) hb); have n1_ := Aside0.mk (Kd.R_below (by (with_reducible repeat (first | apply Kd.R_alloc | apply Kd.R_drewN | apply Kd.R_drew)); exact HO108.out) hb); have n2_ := Aside0.mk (Kd.R_elder' (by (with_reducible repeat (first | apply Kd.R_alloc | apply Kd.R_drewN | apply Kd.R_drew)); exact HO111.out) (Kd.R_base ho30) hb); have n3_ := Aside0.mk (Kd.R_lower (Kd.R_new' ho30 (Kd.R_lt (by (with_reducible repeat (first | apply Kd.R_alloc | apply Kd.R_drewN | apply Kd.R_drew)); exact HO111.out))) (below_size (by repeat (first | (with_reducible first | exact HB.out | apply below_alloc | apply pw_below_drewN | apply below_drew1) | exact HB.out)))); have n4_ := Aside0.mk (below_step (by repeat (first | (with_reducible first | exact HB.out | apply below_alloc | apply pw_below_drewN | apply below_drew1) | exact HB.out)) hb); clear HO105; clear HO108; clear HO111; clear HB; have HO105 := n0_; have HO108 := n1_; have HO111 := n2_; have HO114 := n3_; have HB := n4_; clear n0_ n1_ n2_ n3_ n4_; clear hb ho30; (try (obtain ⟨Ao31, co31, eo31⟩ := Kd.R_slice HO111.out; subst eo31)); (try (obtain ⟨Ao32, co32, eo32⟩ := Kd.R_slice HO114.out; subst eo32))) | ((with_reducible refine gate_callee (f := 10) rfl ?_); refine goesL_ _ rfl rfl Try.func10 (by kernel_rfl) rfl #[.slice Ao31 t109.length co31, .slice Ao32 y112.length co32] rfl (by (try simp only [List.map_toArray, List.map_cons, List.map_nil]); first | done | rfl | (simp only [List.length_drop, List.length_take]; rfl)) ?_; (with_reducible refine (collatorref08_Same.calls k _ _ t109 _ _ y112 true _ ?side1 ?side2 ?side3 ?side4 A2.out).mono ?_); (case side1 => repeat (first | exact (Kd.R_reads' HO111.out).2.2 | (with_reducible refine Kd.C_alloc ?_ _) | (with_reducible refine Kd.C_drewN ?_ _) | (with_reducible refine Kd.C_drew ?_))); (case side2 => exact (Kd.R_reads' HO111.out).2.1); (case side3 => repeat (first | exact (Kd.R_reads' HO114.out).2.2 | (with_reducible refine Kd.C_alloc ?_ _) | (with_reducible refine Kd.C_drewN ?_ _) | (with_reducible refine Kd.C_drew ?_))); (case side4 => exact (Kd.R_reads' HO114.out).2.1); rintro e w' ⟨rfl, ⟨nd, rfl⟩⟩; refine ⟨_, rfl, ?_⟩) | (go_at_call 11; (with_reducible refine (rename_Pairs.calls _ _ y103 _ _ y106 101 t116 _ ?side1 ?side2 ?side3 ?side4 A4.out).mono ?_); (case side1 => repeat (first | exact (Kd.R_reads' HO105.out).2.2 | (with_reducible refine Kd.C_alloc ?_ _) | (with_reducible refine Kd.C_drewN ?_ _) | (with_reducible refine Kd.C_drew ?_))); (case side2 => exact (Kd.R_reads' HO105.out).2.1); (case side3 => repeat (first | exact (Kd.R_reads' HO108.out).2.2 | (with_reducible refine Kd.C_alloc ?_ _) | (with_reducible refine Kd.C_drewN ?_ _) | (with_reducible refine Kd.C_drew ?_))); (case side4 => exact (Kd.R_reads' HO108.out).2.1); rintro e w33 ⟨v117, rfl, ho0, hb⟩; have n0_ := Aside0.mk (Kd.R_below (by (with_reducible repeat (first | apply Kd.R_alloc | apply Kd.R_drewN | apply Kd.R_drew)); exact HO105.out) hb); have n1_ := Aside0.mk (Kd.R_below (by (with_reducible repeat (first | apply Kd.R_alloc | apply Kd.R_drewN | apply Kd.R_drew)); exact HO108.out) hb); have n2_ := Aside0.mk (Kd.R_elder' (by (with_reducible repeat (first | apply Kd.R_alloc | apply Kd.R_drewN | apply Kd.R_drew)); exact HO111.out) (Kd.R_base ho0) hb); have n3_ := Aside0.mk (Kd.R_elder' (by (with_reducible repeat (first | apply Kd.R_alloc | apply Kd.R_drewN | apply Kd.R_drew)); exact HO114.out) (Kd.R_base ho0) hb); have n4_ := Aside0.mk (Kd.R_lower (Kd.R_new' (Kd.R_new' ho0 (Kd.R_lt (by (with_reducible repeat (first | apply Kd.R_alloc | apply Kd.R_drewN | apply Kd.R_drew)); exact HO111.out))) (Kd.R_lt (by (with_reducible repeat (first | apply Kd.R_alloc | apply Kd.R_drewN | apply Kd.R_drew)); exact HO114.out))) (below_size (by repeat (first | (with_reducible first | exact HB.out | apply below_alloc | apply pw_below_drewN | apply below_drew1) | exact HB.out)))); have n5_ := Aside0.mk (below_step (by repeat (first | (with_reducible first | exact HB.out | apply below_alloc | apply pw_below_drewN | apply below_drew1) | exact HB.out)) hb); clear HO105; clear HO108; clear HO111; clear HO114; clear HB; have HO105 := n0_; have HO108 := n1_; have HO111 := n2_; have HO114 := n3_; have HO118 := n4_; have HB := n5_; clear n0_ n1_ n2_ n3_ n4_ n5_; (try clear hb); (try clear hb2); (try clear hk); (try clear hi); (try clear ho0); (try (obtain ⟨Ao34, co34, eo34⟩ := Kd.R_slice HO118.out; subst eo34))))
   go_ret
   exact ⟨by first | rfl | (simp [errW_none, errW_some] <;> rfl) | (simp [*, errW_none, errW_some] <;> rfl), by repeat (first | (with_reducible first | exact HB.out | apply below_alloc | apply pw_below_drewN | apply below_drew1) | exact HB.out)⟩
 ·replace c3 := Bool.eq_false_iff.mpr c3
  subst c3
  have H1 : (some false) = some r := by rw [if_neg (show ¬ (false = true) by decide)] at H; exact H
  clear H
  have H := H1
  clear H1
  obtain rfl := Option.some.inj H
  go_enter Try.func7, Try.ntmps7
  go_wp2_with (first | ((with_reducible refine gate_dst (N := 5) rfl ?_); (try (refine gate_guard (by rfl) ?_; dsimp only)); refine Kd.R_lit k33 _ 33 ?hg (N := 5) ?hd (xs := ([(⟨(⟨#[97]⟩ : ByteArray), 2, (⟨#[120, 10, 121, 10]⟩ : ByteArray), false⟩ : S33), (⟨(⟨#[98]⟩ : ByteArray), 2, (⟨#[120, 10]⟩ : ByteArray), false⟩ : S33)] : List (S33))) (inner := [.string (⟨#[97]⟩ : ByteArray), .int .i64 2, .string (⟨#[120, 10, 121, 10]⟩ : ByteArray), .bool false, .string (⟨#[98]⟩ : ByteArray), .int .i64 2, .string (⟨#[120, 10]⟩ : ByteArray), .bool false]) (ok := fun _ => True) (okp := fun _ => True) ?hr ?hp (fun _ hk => hk) trivial (Below.refl _ _) (Nat.le_refl _) (by simp) ?_; (case hd => rfl); (case hg => rfl); (case hr => first | (go_simp; done) | (go_simp; rfl)); (case hp => exact (Reps.c4 (show Kd.M k33 _ _ _ (⟨(⟨#[97]⟩ : ByteArray), 2, (⟨#[120, 10, 121, 10]⟩ : ByteArray), false⟩ : S33) [.string (⟨#[97]⟩ : ByteArray), .int .i64 2, .string (⟨#[120, 10, 121, 10]⟩ : ByteArray), .bool false] from (k33_mkM _ _ _ (⟨(⟨#[97]⟩ : ByteArray), 2, (⟨#[120, 10, 121, 10]⟩ : ByteArray), false⟩ : S33) )) (Reps.c4 (show Kd.M k33 _ _ _ (⟨(⟨#[98]⟩ : ByteArray), 2, (⟨#[120, 10]⟩ : ByteArray), false⟩ : S33) [.string (⟨#[98]⟩ : ByteArray), .int .i64 2, .string (⟨#[120, 10]⟩ : ByteArray), .bool false] from (k33_mkM _ _ _ (⟨(⟨#[98]⟩ : ByteArray), 2, (⟨#[120, 10]⟩ : ByteArray), false⟩ : S33) )) (Reps.none _ _)))); intro v104 w35 ho36 hb hg_ hnew_; clear hg_ hnew_; (first | rw [← Ny103.out] at ho36 | (simp only [Int.reduceToNat] at ho36; rw [← Ny103.out] at ho36)); have n0_ := Aside0.mk (Kd.R_lower ho36 (below_size (by repeat (first | (with_reducible first | exact HB.out | apply below_alloc | apply pw_below_drewN | apply below_drew1) | exact HB.out)))); have n1_ := Aside0.mk (below_step (by repeat (first | (with_reducible first | exact HB.out | apply below_alloc | apply pw_below_drewN | apply below_drew1) | exact HB.out)) hb); clear HB; have HO105 := n0_; have HB := n1_; clear n0_ n1_; clear hb ho36) | ((with_reducible refine gate_dst (N := 7) rfl ?_); (try (refine gate_guard (by rfl) ?_; dsimp only)); refine Kd.R_lit k33 _ 33 ?hg (N := 7) ?hd (xs := ([(⟨(⟨#[99]⟩ : ByteArray), 2, (⟨#[120, 10, 121, 10]⟩ : ByteArray), false⟩ : S33)] : List (S33))) (inner := [.string (⟨#[99]⟩ : ByteArray), .int .i64 2, .string (⟨#[120, 10, 121, 10]⟩ : ByteArray), .bool false]) (ok := fun _ => True) (okp := fun _ => True) ?hr ?hp (fun _ hk => hk) trivial (Below.refl _ _) (Nat.le_refl _) (by simp) ?_; (case hd => rfl); (case hg => rfl); (case hr => first | (go_simp; done) | (go_simp; rfl)); (case hp => exact (Reps.c4 (show Kd.M k33 _ _ _ (⟨(⟨#[99]⟩ : ByteArray), 2, (⟨#[120, 10, 121, 10]⟩ : ByteArray), false⟩ : S33) [.string (⟨#[99]⟩ : ByteArray), .int .i64 2, .string (⟨#[120, 10, 121, 10]⟩ : ByteArray), .bool false] from (k33_mkM _ _ _ (⟨(⟨#[99]⟩ : ByteArray), 2, (⟨#[120, 10, 121, 10]⟩ : ByteArray), false⟩ : S33) )) (Reps.none _ _))); intro v107 w37 ho38 hb hg_ hnew_; clear hg_ hnew_; (first | rw [← Ny106.out] at ho38 | (simp only [Int.reduceToNat] at ho38; rw [← Ny106.out] at ho38)); have n0_ := Aside0.mk (Kd.R_elder' (by (with_reducible repeat (first | apply Kd.R_alloc | apply Kd.R_drewN | apply Kd.R_drew)); exact HO105.out) (Kd.R_base ho38) hb); have n1_ := Aside0.mk (Kd.R_lower (Kd.R_new' ho38 (Kd.R_lt (by (with_reducible repeat (first | apply Kd.R_alloc | apply Kd.R_drewN | apply Kd.R_drew)); exact HO105.out))) (below_size (by repeat (first | (with_reducible first | exact HB.out | apply below_alloc | apply pw_below_drewN | apply below_drew1) | exact HB.out)))); have n2_ := Aside0.mk (below_step (by repeat (first | (with_reducible first | exact HB.out | apply below_alloc | apply pw_below_drewN | apply below_drew1) | exact HB.out)) hb); clear HO105; clear HB; have HO105 := n0_; have HO108 := n1_; have HB := n2_; clear n0_ n1_ n2_; clear hb ho38; (try (obtain ⟨Ao39, co39, eo39⟩ := Kd.R_slice HO105.out; subst eo39)); (try (obtain ⟨Ao40, co40, eo40⟩ := Kd.R_slice HO108.out; subst eo40))) | ((with_reducible refine gate_callee (f := 11) rfl ?_); refine goesL_ _ rfl rfl Try.func11 (by kernel_rfl) rfl #[.slice Ao39 y103.length co39, .slice Ao40 y106.length co40, .int .i64 50] rfl (by (try simp only [List.map_toArray, List.map_cons, List.map_nil]); first | done | rfl | (simp only [List.length_drop, List.length_take]; rfl)) ?_; (with_reducible refine (rename_Pairs.calls _ _ y103 _ _ y106 50 t109 _ ?side1 ?side2 ?side3 ?side4 A1.out).mono ?_); (case side1 => repeat (first | exact (Kd.R_reads' HO105.out).2.2 | (with_reducible refine Kd.C_alloc ?_ _) | (with_reducible refine Kd.C_drewN ?_ _) | (with_reducible refine Kd.C_drew ?_))); (case side2 => exact (Kd.R_reads' HO105.out).2.1); (case side3 => repeat (first | exact (Kd.R_reads' HO108.out).2.2 | (with_reducible refine Kd.C_alloc ?_ _) | (with_reducible refine Kd.C_drewN ?_ _) | (with_reducible refine Kd.C_drew ?_))); (case side4 => exact (Kd.R_reads' HO108.out).2.1); rintro e w41 ⟨v110, rfl, ho0, hb⟩; refine ⟨_, rfl, ?_⟩; have n0_ := Aside0.mk (Kd.R_below (by (with_reducible repeat (first | apply Kd.R_alloc | apply Kd.R_drewN | apply Kd.R_drew)); exact HO105.out) hb); have n1_ := Aside0.mk (Kd.R_below (by (with_reducible repeat (first | apply Kd.R_alloc | apply Kd.R_drewN | apply Kd.R_drew)); exact HO108.out) hb); have n2_ := Aside0.mk (Kd.R_lower ho0 (below_size (by repeat (first | (with_reducible first | exact HB.out | apply below_alloc | apply pw_below_drewN | apply below_drew1) | exact HB.out)))); have n3_ := Aside0.mk (below_step (by repeat (first | (with_reducible first | exact HB.out | apply below_alloc | apply pw_below_drewN | apply below_drew1) | exact HB.out)) hb); clear HO105; clear HO108; clear HB; have HO105 := n0_; have HO108 := n1_; have HO111 := n2_; have HB := n3_; clear n0_ n1_ n2_ n3_; (try clear hb); (try clear hb2); (try clear hk); (try clear hi); (try clear ho0)) | ((with_reducible refine gate_dst (N := 12) rfl ?_); (try (refine gate_guard (by rfl) ?_; dsimp only)); refine Kd.R_lit k35 _ 35 ?hg (N := 12) ?hd (xs := ([(⟨(⟨#[97]⟩ : ByteArray), (⟨#[99]⟩ : ByteArray), 100⟩ : S35)] : List (S35))) (inner := [.string (⟨#[97]⟩ : ByteArray), .string (⟨#[99]⟩ : ByteArray), .int .i64 100]) (ok := fun _ => True) (okp := fun _ => True) ?hr ?hp (fun _ hk => hk) trivial (Below.refl _ _) (Nat.le_refl _) (by simp) ?_; (case hd => rfl); (case hg => rfl); (case hr => first | (go_simp; done) | (go_simp; rfl)); (case hp => exact (Reps.c3 (show Kd.M k35 _ _ _ (⟨(⟨#[97]⟩ : ByteArray), (⟨#[99]⟩ : ByteArray), 100⟩ : S35) [.string (⟨#[97]⟩ : ByteArray), .string (⟨#[99]⟩ : ByteArray), .int .i64 100] from (k35_mkM _ _ _ (⟨(⟨#[97]⟩ : ByteArray), (⟨#[99]⟩ : ByteArray), 100⟩ : S35) )) (Reps.none _ _))); intro v113 w42 ho43 hb hg_ hnew_; clear hg_ hnew_; (first | rw [← Ny112.out] at ho43 | (simp only [Int.reduceToNat] at ho43; rw [← Ny112.out] at ho43)); have n0_ := Aside0.mk (Kd.R_below (by (with_reducible repeat (first | apply Kd.R_alloc | apply Kd.R_drewN | apply Kd.R_drew)); exact HO105.out) hb); have n1_ := Aside0.mk (Kd.R_below (by (with_reducible repeat (first | apply Kd.R_alloc | apply Kd.R_drewN | apply Kd.R_drew)); exact HO108.out) hb); have n2_ := Aside0.mk (Kd.R_elder' (by (with_reducible repeat (first | apply Kd.R_alloc | apply Kd.R_drewN | apply Kd.R_drew)); exact HO111.out) (Kd.R_base ho43) hb); have n3_ := Aside0.mk (Kd.R_lower (Kd.R_new' ho43 (Kd.R_lt (by (with_reducible repeat (first | apply Kd.R_alloc | apply Kd.R_drewN | apply Kd.R_drew)); exact HO111.out))) (below_size (by repeat (first | (with_reducible first | exact HB.out | apply below_alloc | apply pw_below_drewN | apply below_drew1) | exact HB.out)))); have n4_ := Aside0.mk (below_step (by repeat (first | (with_reducible first | exact HB.out | apply below_alloc | apply pw_below_drewN | apply below_drew1) | exact HB.out)) hb); clear HO105; clear HO108; clear HO111; clear HB; have HO105 := n0_; have HO108 := n1_; have HO111 := n2_; have HO114 := n3_; have HB := n4_; clear n0_ n1_ n2_ n3_ n4_; clear hb ho43; (try (obtain ⟨Ao44, co44, eo44⟩ := Kd.R_slice HO111.out; subst eo44)); (try (obtain ⟨Ao45, co45, eo45⟩ := Kd.R_slice HO114.out; subst eo45))) | ((with_reducible refine gate_callee (f := 10) rfl ?_); refine goesL_ _ rfl rfl Try.func10 (by kernel_rfl) rfl #[.slice Ao44 t109.length co44, .slice Ao45 y112.length co45] rfl (by (try simp only [List.map_toArray, List.map_cons, List.map_nil]); first | done | rfl | (simp only [List.length_drop, List.length_take]; rfl)) ?_; (with_reducible refine (collatorref08_Same.calls k _ _ t109 _ _ y112 false _ ?side1 ?side2 ?side3 ?side4 A2.out).mono ?_); (case side1 => repeat (first | exact (Kd.R_reads' HO111.out).2.2 | (with_reducible refine Kd.C_alloc ?_ _) | (with_reducible refine Kd.C_drewN ?_ _) | (with_reducible refine Kd.C_drew ?_))); (case side2 => exact (Kd.R_reads' HO111.out).2.1); (case side3 => repeat (first | exact (Kd.R_reads' HO114.out).2.2 | (with_reducible refine Kd.C_alloc ?_ _) | (with_reducible refine Kd.C_drewN ?_ _) | (with_reducible refine Kd.C_drew ?_))); (case side4 => exact (Kd.R_reads' HO114.out).2.1); rintro e w' ⟨rfl, ⟨nd, rfl⟩⟩; refine ⟨_, rfl, ?_⟩))
  go_ret
  exact ⟨by first | rfl | (simp [errW_none, errW_some] <;> rfl) | (simp [*, errW_none, errW_some] <;> rfl), by repeat (first | (with_reducible first | exact HB.out | apply below_alloc | apply pw_below_drewN | apply below_drew1) | exact HB.out)⟩

end Go.Proofs.Ytcgnkbdfoaiaiaa.P
end
section
/- Laid for this claim by hp.py, this session's program round the kit's print: functions of the program as plain Lean functions, the proofs that the code comes to their answers, and the rows of the laws. Not trusted: Lean checks it. -/
namespace Go.Proofs.Ytcgnkbdfoaiaiaa.P
open Go.RowKit Go.Proofs.YtcgnkbdfoaiaiaaW.PrintWords Go.Proofs.YtcgnkbdfoaiaiaaW.PrintLast Go.Proofs.YtcgnkbdfoaiaiaaW.PrintMore
attribute [local go_sem] max2_int min2_int max_two min_two max_three min_three max_four min_four   -- for this text's walks alone
set_option linter.unusedVariables false
set_option linter.unusedSimpArgs false

/-! ### collatorlaw08_pick: function 9 -/
def collatorlaw08_pick.f (a0 : Int) (a1 : Int) : Option (Int) := if a0 < 0 then (if a1 = 0 then (none) else (some (Int.tmod (wrap64 (-(wrap64 (a0 + 1)))) a1))) else (if a1 = 0 then (none) else (some (Int.tmod a0 a1)))
set_option maxHeartbeats 8000000 in
set_option maxRecDepth 100000 in
theorem collatorlaw08_pick.calls (a0 : Int) (a1 : Int) (r : Int) (w : World) (h : collatorlaw08_pick.f a0 a1 = some r) :
  Calls Try.prog 9 #[.int .i64 a0, .int .i64 a1] w fun e w' => e = .returned (.int .i64 r) ∧ Drawn0 w w' := by
 have H : (if a0 < 0 then (if a1 = 0 then (none) else (some (Int.tmod (wrap64 (-(wrap64 (a0 + 1)))) a1))) else (if a1 = 0 then (none) else (some (Int.tmod a0 a1)))) = some r := h
 clear h
 by_cases c3 : a0 < 0
 ·rw [if_pos c3] at H
  have c3b0 : decide (a0 < 0) = true := decide_eq_true c3
  clear c3
  by_cases c4 : a1 = 0
  ·rw [if_pos c4] at H
   exact absurd H (by simp)
  ·rw [if_neg c4] at H
   have c4b0 : (a1 == 0) = false := beq_eq_false_iff_ne.mpr c4
   have c4b1 : (a1 != 0) = true := bne_iff_ne.mpr c4
   obtain rfl := Option.some.inj H
   go_enter Try.func9, Try.ntmps9
   go_wp2
   go_ret
   exact ⟨by first | rfl | (simp; done) | (simp [*]; done), by repeat (first | exact Drawn0.refl _ | apply Drawn0.step)⟩
 ·rw [if_neg c3] at H
  have c3b0 : decide (a0 < 0) = false := decide_eq_false c3
  clear c3
  by_cases c5 : a1 = 0
  ·rw [if_pos c5] at H
   exact absurd H (by simp)
  ·rw [if_neg c5] at H
   have c5b0 : (a1 == 0) = false := beq_eq_false_iff_ne.mpr c5
   have c5b1 : (a1 != 0) = true := bne_iff_ne.mpr c5
   obtain rfl := Option.some.inj H
   go_enter Try.func9, Try.ntmps9
   go_wp2
   go_ret
   exact ⟨by first | rfl | (simp; done) | (simp [*]; done), by repeat (first | exact Drawn0.refl _ | apply Drawn0.step)⟩

end Go.Proofs.Ytcgnkbdfoaiaiaa.P
end
section
/- Pairs, plain: what the document's Same answers, awake, and how pairs hang on the threshold. -/
set_option linter.unusedVariables false
set_option linter.unusedSimpArgs false
namespace Go.Proofs.Ytcgnkbdfoaiaiaa.Q
open Go Go.RowKit Go.Proofs.Ytcgnkbdfoaiaiaa.P Go.Proofs.YtcgnkbdfoaiaiaaW.PrintWords Go.Proofs.YtcgnkbdfoaiaiaaW.PrintLast Go.Proofs.YtcgnkbdfoaiaiaaW.PrintMore
theorem rdPr {s : List PrS} {i : Nat} {x : PrS} (h : s[i]? = some x) : rd_T35 s (i : Int) = x := by
  unfold rd_T35
  rw [Int.toNat_natCast, List.getD_eq_getElem?_getD, h]; rfl
theorem pick8 {c : Int} (hc : -9223372036854775808 ≤ c ∧ c ≤ 9223372036854775807) {m : Int} {n : Nat} (hm : m = n) (hn : 0 < n) : collatorlaw08_pick.f c m = some (pk c n : Int) := pick2 hc hm hn
theorem same_loop (l : List PrS) (hl : l.length ≤ 1000000) (d : Nat) : ∀ i : Nat, i + d = l.length → Ev (fun k => collatorref08_Same.l0 k l l (i : Int)) true := by
  induction d with
  | zero =>
    intro i hi
    refine Ev.step (f := fun _ => some true) (fun k => ?_) (Ev.now _)
    simp only [collatorref08_Same.l0]
    rw [if_neg (by omega)]
  | succ d ih =>
    intro i hi
    refine Ev.step (fun k => ?_) (ih (i + 1) (by omega))
    simp only [collatorref08_Same.l0]
    rw [if_pos (by omega), if_pos (by omega), if_pos (by omega), if_neg (by simp), wi (by omega)]
theorem same_ev (l : List PrS) (hl : l.length ≤ 1000000) : Ev (fun k => collatorref08_Same.f k l l) true := by
  unfold collatorref08_Same.f
  exact evpos rfl (same_loop l hl l.length 0 (by omega))
theorem merge_sorted {c : PrS → PrS → Int} (hc : CmpOk c) (l : List PrS) : (l.mergeSort (fun x y => decide (c x y ≤ 0))).Pairwise (fun x y => c x y ≤ 0) := by
  have := List.pairwise_mergeSort (le := fun x y => decide (c x y ≤ 0)) (fun x y z h1 h2 => by
    simp only [decide_eq_true_eq] at *
    exact (hc.tr x y z h1 h2).1) (fun x y => by
    have := hc.neg x y
    by_cases h : c x y ≤ 0
    · simp [h]
    · have : c y x ≤ 0 := by omega
      simp [this]) l
  exact this.imp (fun h => by simpa using h)
theorem sort_filter {c : PrS → PrS → Int} (hc : CmpOk c) (h0 : ∀ x y, c x y = 0 → x = y) (l : List PrS) (p : PrS → Bool) : (l.mergeSort (fun x y => decide (c x y ≤ 0))).filter p = (l.filter p).mergeSort (fun x y => decide (c x y ≤ 0)) :=
  sort_uniq hc h0 ((List.mergeSort_perm l _).filter p) ((merge_sorted hc l).filter p)
theorem sort_same {c : PrS → PrS → Int} (hc : CmpOk c) (h0 : ∀ x y, c x y = 0 → x = y) {l : List PrS} (hs : l.Pairwise (fun x y => c x y ≤ 0)) : l.mergeSort (fun x y => decide (c x y ≤ 0)) = l := (sort_uniq hc h0 (List.Perm.refl l) hs).symm
/-- Lists of the same elements are sorted alike. -/
theorem sort_perm {c : PrS → PrS → Int} (hc : CmpOk c) (h0 : ∀ x y, c x y = 0 → x = y) {l l' : List PrS} (h : l.Perm l') : l.mergeSort (fun x y => decide (c x y ≤ 0)) = l'.mergeSort (fun x y => decide (c x y ≤ 0)) :=
  sort_uniq hc h0 ((List.mergeSort_perm l _).trans h) (merge_sorted hc l)
theorem cB_score {x y : PrS} (h : cB x y ≤ 0) : y.f2 ≤ x.f2 := by
  refine Int.not_lt.1 (fun c => ?_)
  have e : ci y.f2 x.f2 = 1 := by unfold ci; rw [if_neg (by omega), if_pos c]
  unfold cB or3 at h
  rw [e, if_pos (by decide)] at h
  omega
theorem split_sorted (u : Int) : ∀ {l : List PrS}, l.Pairwise (fun x y => cB x y ≤ 0) → l = l.filter (fun x => decide (u ≤ x.f2)) ++ l.filter (fun x => !decide (u ≤ x.f2))
  | [], _ => rfl
  | x :: l, h => by
    obtain ⟨h1, h2⟩ := List.pairwise_cons.1 h
    by_cases c : u ≤ x.f2
    · rw [List.filter_cons_of_pos (by simpa using c), List.filter_cons_of_neg (by simpa using c), List.cons_append, ← split_sorted u h2]
    · have e1 : l.filter (fun x => decide (u ≤ x.f2)) = [] := List.filter_eq_nil_iff.2 (fun y hy => by
        have := cB_score (h1 y hy)
        simp
        omega)
      have e2 : l.filter (fun x => !decide (u ≤ x.f2)) = l := List.filter_eq_self.2 (fun y hy => by
        have := cB_score (h1 y hy)
        simp
        omega)
      rw [List.filter_cons_of_neg (by simpa using c), List.filter_cons_of_pos (by simpa using c), e1, e2, List.nil_append]
/-- What is taken behind a state: some of those that come. -/
theorem take_ext : ∀ (l : List PrS) (st : List ByteArray × List ByteArray × List PrS), ∃ C, (l.foldl take1 st).2.2 = st.2.2 ++ C ∧ (∀ x ∈ C, x ∈ l) ∧ C.length ≤ l.length
  | [], st => ⟨[], by simp, fun x hx => hx, Nat.le_refl _⟩
  | p :: l, st => by
    obtain ⟨C, h1, h2, h3⟩ := take_ext l (take1 st p)
    rw [List.foldl_cons, h1]
    unfold take1
    split
    · exact ⟨p :: C, by simp, fun x hx => by
        rcases List.mem_cons.1 hx with rfl | hx
        · exact List.mem_cons_self
        · exact List.mem_cons_of_mem _ (h2 x hx), by simp; omega⟩
    · exact ⟨C, rfl, fun x hx => List.mem_cons_of_mem _ (h2 x hx), by simp; omega⟩
theorem greedy_mem (l : List PrS) : ∀ x ∈ greedy l, x ∈ l := by
  obtain ⟨C, h1, h2, _⟩ := take_ext l ([], [], [])
  intro x hx
  unfold greedy at hx
  rw [h1, List.nil_append] at hx
  exact h2 x hx
theorem greedy_len (l : List PrS) : (greedy l).length ≤ l.length := by
  obtain ⟨C, h1, _, h3⟩ := take_ext l ([], [], [])
  unfold greedy
  rw [h1, List.nil_append]
  exact h3
theorem greedy_append (a b : List PrS) : ∃ C, greedy (a ++ b) = greedy a ++ C ∧ ∀ x ∈ C, x ∈ b := by
  unfold greedy
  rw [List.foldl_append]
  obtain ⟨C, h1, h2, _⟩ := take_ext b (a.foldl take1 ([], [], []))
  exact ⟨C, h1, h2⟩
theorem greedy_filter {l : List PrS} (u : Int) (h : l.Pairwise (fun x y => cB x y ≤ 0)) : (greedy l).filter (fun x => decide (u ≤ x.f2)) = greedy (l.filter (fun x => decide (u ≤ x.f2))) := by
  have e := split_sorted u h
  obtain ⟨C, h1, h2⟩ := greedy_append (l.filter (fun x => decide (u ≤ x.f2))) (l.filter (fun x => !decide (u ≤ x.f2)))
  rw [← e] at h1
  rw [h1, List.filter_append]
  have e1 : (greedy (l.filter (fun x => decide (u ≤ x.f2)))).filter (fun x => decide (u ≤ x.f2)) = greedy (l.filter (fun x => decide (u ≤ x.f2))) := List.filter_eq_self.2 (fun x hx => (List.mem_filter.1 (greedy_mem _ x hx)).2)
  have e2 : C.filter (fun x => decide (u ≤ x.f2)) = [] := List.filter_eq_nil_iff.2 (fun x hx => by
    have := (List.mem_filter.1 (h2 x hx)).2
    simpa using this)
  rw [e1, e2, List.append_nil]
theorem cand1_more (a : ByteArray × List ByteArray) {t u : Int} (h : t ≤ u) : ∀ l : List (ByteArray × List ByteArray), cand1 a l u = (cand1 a l t).filter (fun x => decide (u ≤ x.f2))
  | [] => rfl
  | b :: l => by
    have ih := cand1_more a h l
    unfold cand1 at ih ⊢
    rw [List.filterMap_cons, List.filterMap_cons]
    by_cases c : mx t 1 ≤ score a.2 b.2
    · rw [if_pos c]
      by_cases d : u ≤ score a.2 b.2
      · have e : mx u 1 ≤ score a.2 b.2 := by unfold mx at c ⊢; (repeat' split at c) <;> (repeat' split) <;> omega
        rw [if_pos e]
        simp only []
        rw [ih, List.filter_cons_of_pos (by simpa using d)]
      · have e : ¬ mx u 1 ≤ score a.2 b.2 := by unfold mx; (repeat' split) <;> omega
        rw [if_neg e]
        simp only []
        rw [ih, List.filter_cons_of_neg (by simpa using d)]
    · have e : ¬ mx u 1 ≤ score a.2 b.2 := by unfold mx at c ⊢; (repeat' split at c) <;> (repeat' split) <;> omega
      rw [if_neg e, if_neg c]
      exact ih
theorem candL_more (fresh : List (ByteArray × List ByteArray)) {t u : Int} (h : t ≤ u) : ∀ l : List (ByteArray × List ByteArray), candL l fresh u = (candL l fresh t).filter (fun x => decide (u ≤ x.f2))
  | [] => rfl
  | a :: l => by
    have ih := candL_more fresh h l
    unfold candL at ih ⊢
    rw [List.flatMap_cons, List.flatMap_cons, List.filter_append, cand1_more a h, ih]
/-- At a greater threshold there are those that score so much. -/
theorem pairs_more (old fresh : List It) {t u : Int} (h : t ≤ u) : pairsL old fresh u = (pairsL old fresh t).filter (fun x => decide (u ≤ x.f2)) := by
  unfold pairsL sortT
  rw [sort_filter cT_cmp (fun _ _ => cT_zero)]
  unfold sortB
  rw [greedy_filter u (merge_sorted cB_cmp _), sort_filter cB_cmp (fun _ _ => cB_zero), ← candL_more _ h]
theorem cand1_len (a : ByteArray × List ByteArray) (l : List (ByteArray × List ByteArray)) (t : Int) : (cand1 a l t).length ≤ l.length := List.length_filterMap_le _ _
theorem candL_len (fresh : List (ByteArray × List ByteArray)) (t : Int) : ∀ l : List (ByteArray × List ByteArray), (candL l fresh t).length ≤ l.length * fresh.length
  | [] => Nat.zero_le _
  | a :: l => by
    have h1 := cand1_len a fresh t
    have h2 := candL_len fresh t l
    unfold candL at h2 ⊢
    rw [List.flatMap_cons, List.length_append, List.length_cons, Nat.add_mul, Nat.one_mul]
    omega
theorem pairs_len {old fresh : List It} (t : Int) (h0 : old.length ≤ 1000) (h1 : fresh.length ≤ 1000) : (pairsL old fresh t).length ≤ 1000000 := by
  unfold pairsL sortT
  rw [List.length_mergeSort]
  refine Nat.le_trans (greedy_len _) ?_
  unfold sortB
  rw [List.length_mergeSort]
  refine Nat.le_trans (candL_len _ _ _) ?_
  exact Nat.mul_le_mul (Nat.le_trans (filesL_len _) h0) (Nat.le_trans (filesL_len _) h1)
theorem pairs_f {a b : List It} (ha : PairsOk a) (hb : PairsOk b) (t : Int) : rename_Pairs.f a b t = some (pairsL a b t) := by
  unfold rename_Pairs.f
  rw [if_pos ⟨ha, hb⟩]
/-! ### awake -/
def A8 : List It := [(⟨(⟨#[97]⟩ : ByteArray), 2, (⟨#[120, 10, 121, 10]⟩ : ByteArray), false⟩ : It), (⟨(⟨#[98]⟩ : ByteArray), 2, (⟨#[120, 10]⟩ : ByteArray), false⟩ : It)]
def F8 : List It := [(⟨(⟨#[99]⟩ : ByteArray), 2, (⟨#[120, 10, 121, 10]⟩ : ByteArray), false⟩ : It)]
def P8 : PrS := ⟨(⟨#[97]⟩ : ByteArray), (⟨#[99]⟩ : ByteArray), 100⟩
def Q8 : PrS := ⟨(⟨#[98]⟩ : ByteArray), (⟨#[99]⟩ : ByteArray), 66⟩
theorem cand50 : candL (filesL A8) (filesL F8) 50 = [P8, Q8] := by kernel_rfl
theorem cand101 : candL (filesL A8) (filesL F8) 101 = [] := by kernel_rfl
theorem pairs50 : pairsL A8 F8 50 = [P8] := by
  unfold pairsL
  rw [cand50]
  have e1 : sortB [P8, Q8] = [P8, Q8] := sort_same cB_cmp (fun _ _ => cB_zero) (by decide +kernel)
  have e2 : greedy [P8, Q8] = [P8] := by kernel_rfl
  rw [e1, e2]
  exact sort_same cT_cmp (fun _ _ => cT_zero) (List.pairwise_singleton _ _)
theorem pairs_none {a b : List It} {t : Int} (h : candL (filesL a) (filesL b) t = []) : pairsL a b t = [] := by
  unfold pairsL sortB sortT
  have e : greedy [] = [] := rfl
  rw [h, List.mergeSort_nil, e, List.mergeSort_nil]
theorem awake8_ev : Ev (fun k => collatorlaw08_awake.f k) true := by
  unfold collatorlaw08_awake.f
  have o1 : PairsOk A8 := by decide +kernel
  have o2 : PairsOk F8 := by decide +kernel
  have o3 : PairsOk [] := by decide +kernel
  have h1 : rename_Pairs.f A8 F8 50 = some [P8] := (pairs_f o1 o2 50).trans (by rw [pairs50])
  have h2 : rename_Pairs.f A8 F8 101 = some [] := (pairs_f o1 o2 101).trans (by rw [pairs_none cand101])
  have h3 : rename_Pairs.f [] F8 0 = some [] := (pairs_f o3 o2 0).trans (by rw [pairs_none (by kernel_rfl)])
  exact evval rfl (evval rfl (evval h1 (Ev.bind (same_ev [P8] (by decide)) (evpos rfl (evval h2 (evpos rfl (evval h3 (Ev.now _))))))))
end Go.Proofs.Ytcgnkbdfoaiaiaa.Q
end
section
/- Who is a candidate. -/
set_option linter.unusedVariables false
set_option linter.unusedSimpArgs false
namespace Go.Proofs.Ytcgnkbdfoaiaiaa.Q
open Go Go.RowKit Go.Proofs.Ytcgnkbdfoaiaiaa.P Go.Proofs.YtcgnkbdfoaiaiaaW.PrintWords Go.Proofs.YtcgnkbdfoaiaiaaW.PrintLast Go.Proofs.YtcgnkbdfoaiaiaaW.PrintMore
abbrev Fi := ByteArray × List ByteArray
theorem cand_mem {F G : List Fi} {t : Int} {e : PrS} : e ∈ candL F G t ↔ ∃ a ∈ F, ∃ b ∈ G, mx t 1 ≤ score a.2 b.2 ∧ e = ⟨a.1, b.1, score a.2 b.2⟩ := by
  unfold candL cand1
  constructor
  · intro h
    obtain ⟨a, ha, h⟩ := List.mem_flatMap.1 h
    obtain ⟨b, hb, h⟩ := List.mem_filterMap.1 h
    by_cases c : mx t 1 ≤ score a.2 b.2
    · rw [if_pos c] at h
      exact ⟨a, ha, b, hb, c, (Option.some.inj h).symm⟩
    · rw [if_neg c] at h; cases h
  · rintro ⟨a, ha, b, hb, c, rfl⟩
    exact List.mem_flatMap.2 ⟨a, ha, List.mem_filterMap.2 ⟨b, hb, by rw [if_pos c]⟩⟩
end Go.Proofs.Ytcgnkbdfoaiaiaa.Q
end
section
/- Laid for this claim by hp.py, this session's program round the kit's print: functions of the program as plain Lean functions, the proofs that the code comes to their answers, and the rows of the laws. Not trusted: Lean checks it. -/
namespace Go.Proofs.Ytcgnkbdfoaiaiaa.P
open Go.RowKit Go.Proofs.YtcgnkbdfoaiaiaaW.PrintWords Go.Proofs.YtcgnkbdfoaiaiaaW.PrintLast Go.Proofs.YtcgnkbdfoaiaiaaW.PrintMore
attribute [local go_sem] max2_int min2_int max_two min_two max_three min_three max_four min_four   -- for this text's walks alone
set_option linter.unusedVariables false
set_option linter.unusedSimpArgs false

/-! ### collatorref02_Find: function 26 -/
def collatorref02_Find.l0 : Nat → List (S33) → ByteArray → Int → Option (ByteArray × Int × ByteArray × Bool × Bool)
 | 0, _, _, _ => none
 | k + 1, x0, x1, x6 => if x6 < (x0.length : Int) then (if 0 ≤ x6 then (if ((rd_T33 x0 x6).f0).toList = x1.toList then (some ((rd_T33 x0 x6).f0, (rd_T33 x0 x6).f1, (rd_T33 x0 x6).f2, (rd_T33 x0 x6).f3, true)) else (collatorref02_Find.l0 k x0 x1 (wrap64 (x6 + 1)))) else (none)) else (some ((⟨#[]⟩ : ByteArray), 0, (⟨#[]⟩ : ByteArray), false, false))
def collatorref02_Find.f (k : Nat) (l0 : List (S33)) (a1 : ByteArray) : Option (ByteArray × Int × ByteArray × Bool × Bool) := collatorref02_Find.l0 k l0 a1 0
theorem collatorref02_Find.mono_l : ∀ k, (∀ y0 y1 y2, LeO (collatorref02_Find.l0 k y0 y1 y2) (collatorref02_Find.l0 (k + 1) y0 y1 y2))
 | 0 => fun _ _ _ r h => by simp [collatorref02_Find.l0] at h
 | k + 1 => by
  have ih0 := collatorref02_Find.mono_l k
  ·intro y0 y1 y2
   unfold collatorref02_Find.l0
   repeat' first
   | (with_reducible exact ih0 _ _ _)
   | (with_reducible exact LeO.refl _)
   | (with_reducible exact LeO.none _)
   | (with_reducible refine LeO.ite ?_ ?_)
   | (with_reducible refine LeO.bind ?_ (fun _ => ?_))
   | exact ih0 _ _ _
   | exact LeO.none _
   | refine LeO.ite ?_ ?_
   | refine LeO.bind ?_ (fun _ => ?_)
theorem collatorref02_Find.mono : ∀ a0 a1 k, LeO (collatorref02_Find.f k a0 a1) (collatorref02_Find.f (k + 1) a0 a1) := by
 intro a0 a1 k
 have ih0 := collatorref02_Find.mono_l k
 unfold collatorref02_Find.f
 repeat' first
   | (with_reducible exact ih0 _ _ _)
   | (with_reducible exact LeO.refl _)
   | (with_reducible exact LeO.none _)
   | (with_reducible refine LeO.ite ?_ ?_)
   | (with_reducible refine LeO.bind ?_ (fun _ => ?_))
   | exact ih0 _ _ _
   | exact LeO.none _
   | refine LeO.ite ?_ ?_
   | refine LeO.bind ?_ (fun _ => ?_)
set_option maxHeartbeats 8000000 in
set_option maxRecDepth 100000 in
theorem collatorref02_Find.calls (k : Nat) (A0 : Option Addr) (c0 : Nat) (l0 : List (S33)) (a1 : ByteArray) (r1 : ByteArray) (r2 : Int) (r3 : ByteArray) (r4 : Bool) (r5 : Bool) (w : World) (hr0 : Kd.C k33 w A0 l0.length l0) (hc0 : l0.length ≤ c0) (h : collatorref02_Find.f k l0 a1 = some (r1, r2, r3, r4, r5)) :
  Calls Try.prog 26 #[.slice A0 l0.length c0, .string a1] w fun e w' => e = .returned (.tuple #[.agg #[.string r1, .int .i64 r2, .string r3, .bool r4], .bool r5]) ∧ Below w.heap.size w w' := by
 have hu33 := Try.underlying33
 have HR0 := Aside0.mk hr0
 have HC0 := Aside0.mk hc0
 clear hr0 hc0
 have HB := Aside0.mk (Below.refl w.heap.size w)
 have H : (collatorref02_Find.l0 k l0 a1 0) = some (r1, r2, r3, r4, r5) := h
 clear h
 have H' := Aside0.mk H
 clear H
 go_enter Try.func26, Try.ntmps26
 go_wp2_with (first | ((with_reducible refine gate_dst (N := 4) rfl ?_); refine box_event ?hg (N := 4) ?hd (cs := #[.string (⟨#[]⟩ : ByteArray), .int .i64 0, .string (⟨#[]⟩ : ByteArray), .bool false]) (t := 33) ?hr ?_; (case hd => rfl); (case hg => rfl); (case hr => first | (go_simp; done) | (go_simp; rfl)); intro gb130 hg w3 hbox hb; have n0_ := Aside0.mk (below_step (by repeat (first | (with_reducible first | exact HB.out | apply below_alloc | apply pw_below_drewN | apply below_drew1) | exact HB.out)) hb); have n1_ := Aside0.mk (hbox); have n2_ := Aside0.mk ((by rw [hg]; exact (below_size (by repeat (first | (with_reducible first | exact HB.out | apply below_alloc | apply pw_below_drewN | apply below_drew1) | exact HB.out))) : w.heap.size ≤ gb130)); have n3_ := Aside0.mk ((by rw [hg]; exact (below_size (by repeat (first | (with_reducible first | exact HB.out | apply below_alloc | apply pw_below_drewN | apply below_drew1) | exact HB.out))) : w.heap.size ≤ gb130)); clear HB; have HB := n0_; have BK130 := n1_; have GW130 := n2_; have GE130 := n3_; clear n0_ n1_ n2_ n3_; clear hb hbox hg))
 go_loopg [6] k (fun kq v6 w' => ∃ (x6_1 : Int) (x131000_1 : ByteArray) (x131001_1 : Int) (x131002_1 : ByteArray) (x131003_1 : Bool), v6 = .int .i64 x6_1 ∧ Aside0 (collatorref02_Find.l0 kq l0 a1 x6_1 = some (r1, r2, r3, r4, r5)) ∧ Aside0 (kq ≤ k) ∧ Aside0 (w'.heap[gb130]? = some (.cells #[.string x131000_1, .int .i64 x131001_1, .string x131002_1, .bool x131003_1] 33 (0, 0))) ∧ Aside0 (Below w.heap.size w w'))
 case atStart => exact ⟨(0), ((⟨#[]⟩ : ByteArray)), (0), ((⟨#[]⟩ : ByteArray)), (false), (by first | rfl | (simp; done) | (simp [*]; done)), H', ⟨Nat.le_refl _⟩, ⟨by (with_reducible repeat (first | refine blk_drewN ?_ _ | refine blk_drew ?_ | refine blk_alloc ?_ _)); exact BK130.out⟩, ⟨by repeat (first | (with_reducible first | exact HB.out | apply below_alloc | apply pw_below_drewN | apply below_drew1 | refine below_set ?_ GE130.out) | exact HB.out)⟩⟩
 case round =>
  clear H'
  (try clear c2);(try clear p2)
  obtain ⟨x6_1, x131000_1, x131001_1, x131002_1, x131003_1, rfl, HA, HK1, BK130, HB⟩ := hrel
  cases gk with
  | zero => exact absurd HA.out (by simp [collatorref02_Find.l0])
  | succ k1 =>
   have H := HA.out
   clear HA
   simp only [collatorref02_Find.l0] at H
   by_cases c4 : x6_1 < (l0.length : Int)
   ·rw [if_pos c4] at H
    have c4b0 : decide (x6_1 < (l0.length : Int)) = true := decide_eq_true c4
    clear c4
    by_cases c5 : 0 ≤ x6_1
    ·rw [if_pos c5] at H
     have c5b0 : decide (0 ≤ x6_1) = true := decide_eq_true c5
     clear c5
     by_cases c6 : ((rd_T33 l0 x6_1).f0).toList = a1.toList
     ·rw [if_pos c6] at H
      have c6b0 : (((rd_T33 l0 x6_1).f0).toList == a1.toList) = true := beq_iff_eq.mpr c6
      have c6b1 : (((rd_T33 l0 x6_1).f0).toList != a1.toList) = false := bne_eq_false_iff_eq.mpr c6
      clear c6
      simp only [Option.some.injEq, Prod.mk.injEq] at H
      obtain ⟨rfl, rfl, rfl, rfl, rfl⟩ := H
      have p131 : 0 ≤ (x6_1 : Int) := of_decide_eq_true (by first | (with_reducible assumption) | assumption)
      have q131 : x6_1 < (l0.length : Int) := of_decide_eq_true (by first | (with_reducible assumption) | assumption)
      obtain ⟨ad131, e131, hx131_0, hx131_1, hx131_2, hx131_3⟩ := at_T33 HR0.out x6_1 p131 q131
      cases e131
      replace hx131_0 := (HB.out.cell (World.block_lt_of_cell? w _ hx131_0)).trans hx131_0
      replace hx131_1 := (HB.out.cell (World.block_lt_of_cell? w _ hx131_1)).trans hx131_1
      replace hx131_2 := (HB.out.cell (World.block_lt_of_cell? w _ hx131_2)).trans hx131_2
      replace hx131_3 := (HB.out.cell (World.block_lt_of_cell? w _ hx131_3)).trans hx131_3
      replace p131 := eq_true p131
      replace q131 := eq_true q131
      have p132 : 0 ≤ (x6_1 : Int) := of_decide_eq_true (by first | (with_reducible assumption) | assumption)
      have q132 : x6_1 < (l0.length : Int) := of_decide_eq_true (by first | (with_reducible assumption) | assumption)
      obtain ⟨ad132, e132, hx132_0, hx132_1, hx132_2, hx132_3⟩ := at_T33 HR0.out x6_1 p132 q132
      obtain rfl : ad131 = ad132 := (by injection e132)
      replace hx132_0 := (HB.out.cell (World.block_lt_of_cell? w _ hx132_0)).trans hx132_0
      replace hx132_1 := (HB.out.cell (World.block_lt_of_cell? w _ hx132_1)).trans hx132_1
      replace hx132_2 := (HB.out.cell (World.block_lt_of_cell? w _ hx132_2)).trans hx132_2
      replace hx132_3 := (HB.out.cell (World.block_lt_of_cell? w _ hx132_3)).trans hx132_3
      replace p132 := eq_true p132
      replace q132 := eq_true q132
      have hcz7_0 : wr.cell? ⟨gb130, 0, none⟩ = some (.string x131000_1) := (blk_cell BK130.out 0).trans rfl
      have hcz7_1 : wr.cell? ⟨gb130, 1, none⟩ = some (.int .i64 x131001_1) := (blk_cell BK130.out 1).trans rfl
      have hcz7_2 : wr.cell? ⟨gb130, 2, none⟩ = some (.string x131002_1) := (blk_cell BK130.out 2).trans rfl
      have hcz7_3 : wr.cell? ⟨gb130, 3, none⟩ = some (.bool x131003_1) := (blk_cell BK130.out 3).trans rfl
      have hfz7_0 := blk_frozen BK130.out 0
      have hfz7_1 := blk_frozen BK130.out 1
      have hfz7_2 := blk_frozen BK130.out 2
      have hfz7_3 := blk_frozen BK130.out 3
      go_wp2
      refine bodyPost_ret (results_ct rfl _ _ gb130 33 #[.string ((rd_T33 l0 x6_1).f0), .int .i64 ((rd_T33 l0 x6_1).f1), .string ((rd_T33 l0 x6_1).f2), .bool ((rd_T33 l0 x6_1).f3)] (0, 0) _ rfl (by (with_reducible repeat (first | refine blk_drewN ?_ _ | refine blk_drew ?_ | refine blk_alloc ?_ _)); refine blk_put (cs := #[.string ((rd_T33 l0 x6_1).f0), .int .i64 ((rd_T33 l0 x6_1).f1), .string ((rd_T33 l0 x6_1).f2), .bool x131003_1]) ?_ 3 _ rfl; (with_reducible repeat (first | refine blk_drewN ?_ _ | refine blk_drew ?_ | refine blk_alloc ?_ _)); refine blk_put (cs := #[.string ((rd_T33 l0 x6_1).f0), .int .i64 ((rd_T33 l0 x6_1).f1), .string x131002_1, .bool x131003_1]) ?_ 2 _ rfl; (with_reducible repeat (first | refine blk_drewN ?_ _ | refine blk_drew ?_ | refine blk_alloc ?_ _)); refine blk_put (cs := #[.string ((rd_T33 l0 x6_1).f0), .int .i64 x131001_1, .string x131002_1, .bool x131003_1]) ?_ 1 _ rfl; (with_reducible repeat (first | refine blk_drewN ?_ _ | refine blk_drew ?_ | refine blk_alloc ?_ _)); refine blk_put (cs := #[.string x131000_1, .int .i64 x131001_1, .string x131002_1, .bool x131003_1]) ?_ 0 _ rfl; (with_reducible repeat (first | refine blk_drewN ?_ _ | refine blk_drew ?_ | refine blk_alloc ?_ _)); exact BK130.out) Try.underlying33 rfl (by kernel_rfl)) rfl ?_
      exact ⟨by first | rfl | (simp [errW_none, errW_some] <;> rfl) | (simp [*, errW_none, errW_some] <;> rfl), by repeat (first | (with_reducible first | exact HB.out | apply below_alloc | apply pw_below_drewN | apply below_drew1 | refine below_set ?_ GE130.out) | exact HB.out)⟩
     ·rw [if_neg c6] at H
      have c6b0 : (((rd_T33 l0 x6_1).f0).toList == a1.toList) = false := beq_eq_false_iff_ne.mpr c6
      have c6b1 : (((rd_T33 l0 x6_1).f0).toList != a1.toList) = true := bne_iff_ne.mpr c6
      have H' := Aside0.mk H
      clear H
      have p131 : 0 ≤ (x6_1 : Int) := of_decide_eq_true (by first | (with_reducible assumption) | assumption)
      have q131 : x6_1 < (l0.length : Int) := of_decide_eq_true (by first | (with_reducible assumption) | assumption)
      obtain ⟨ad131, e131, hx131_0, hx131_1, hx131_2, hx131_3⟩ := at_T33 HR0.out x6_1 p131 q131
      cases e131
      replace hx131_0 := (HB.out.cell (World.block_lt_of_cell? w _ hx131_0)).trans hx131_0
      replace hx131_1 := (HB.out.cell (World.block_lt_of_cell? w _ hx131_1)).trans hx131_1
      replace hx131_2 := (HB.out.cell (World.block_lt_of_cell? w _ hx131_2)).trans hx131_2
      replace hx131_3 := (HB.out.cell (World.block_lt_of_cell? w _ hx131_3)).trans hx131_3
      replace p131 := eq_true p131
      replace q131 := eq_true q131
      go_wp2
      go_roundg k1
      case measure => have := HK1.out; omega
      case rel => exact ⟨(wrap64 (x6_1 + 1)), (x131000_1), (x131001_1), (x131002_1), (x131003_1), (by first | rfl | (simp; done) | (simp [*]; done)), H', ⟨by have := HK1.out; omega⟩, ⟨by (with_reducible repeat (first | refine blk_drewN ?_ _ | refine blk_drew ?_ | refine blk_alloc ?_ _)); exact BK130.out⟩, ⟨by repeat (first | (with_reducible first | exact HB.out | apply below_alloc | apply pw_below_drewN | apply below_drew1 | refine below_set ?_ GE130.out) | exact HB.out)⟩⟩
    ·rw [if_neg c5] at H
     exact absurd H (by simp)
   ·rw [if_neg c4] at H
    have c4b0 : decide (x6_1 < (l0.length : Int)) = false := decide_eq_false c4
    clear c4
    simp only [Option.some.injEq, Prod.mk.injEq] at H
    obtain ⟨rfl, rfl, rfl, rfl, rfl⟩ := H
    have hcz8_0 : wr.cell? ⟨gb130, 0, none⟩ = some (.string x131000_1) := (blk_cell BK130.out 0).trans rfl
    have hcz8_1 : wr.cell? ⟨gb130, 1, none⟩ = some (.int .i64 x131001_1) := (blk_cell BK130.out 1).trans rfl
    have hcz8_2 : wr.cell? ⟨gb130, 2, none⟩ = some (.string x131002_1) := (blk_cell BK130.out 2).trans rfl
    have hcz8_3 : wr.cell? ⟨gb130, 3, none⟩ = some (.bool x131003_1) := (blk_cell BK130.out 3).trans rfl
    have hfz8_0 := blk_frozen BK130.out 0
    have hfz8_1 := blk_frozen BK130.out 1
    have hfz8_2 := blk_frozen BK130.out 2
    have hfz8_3 := blk_frozen BK130.out 3
    go_wp2
    refine bodyPost_ret (results_ct rfl _ _ gb130 33 #[.string (⟨#[]⟩ : ByteArray), .int .i64 0, .string (⟨#[]⟩ : ByteArray), .bool false] (0, 0) _ rfl (by (with_reducible repeat (first | refine blk_drewN ?_ _ | refine blk_drew ?_ | refine blk_alloc ?_ _)); refine blk_put (cs := #[.string (⟨#[]⟩ : ByteArray), .int .i64 0, .string (⟨#[]⟩ : ByteArray), .bool x131003_1]) ?_ 3 _ rfl; (with_reducible repeat (first | refine blk_drewN ?_ _ | refine blk_drew ?_ | refine blk_alloc ?_ _)); refine blk_put (cs := #[.string (⟨#[]⟩ : ByteArray), .int .i64 0, .string x131002_1, .bool x131003_1]) ?_ 2 _ rfl; (with_reducible repeat (first | refine blk_drewN ?_ _ | refine blk_drew ?_ | refine blk_alloc ?_ _)); refine blk_put (cs := #[.string (⟨#[]⟩ : ByteArray), .int .i64 x131001_1, .string x131002_1, .bool x131003_1]) ?_ 1 _ rfl; (with_reducible repeat (first | refine blk_drewN ?_ _ | refine blk_drew ?_ | refine blk_alloc ?_ _)); refine blk_put (cs := #[.string x131000_1, .int .i64 x131001_1, .string x131002_1, .bool x131003_1]) ?_ 0 _ rfl; (with_reducible repeat (first | refine blk_drewN ?_ _ | refine blk_drew ?_ | refine blk_alloc ?_ _)); exact BK130.out) Try.underlying33 rfl (by kernel_rfl)) rfl ?_
    exact ⟨by first | rfl | (simp [errW_none, errW_some] <;> rfl) | (simp [*, errW_none, errW_some] <;> rfl), by repeat (first | (with_reducible first | exact HB.out | apply below_alloc | apply pw_below_drewN | apply below_drew1 | refine below_set ?_ GE130.out) | exact HB.out)⟩

end Go.Proofs.Ytcgnkbdfoaiaiaa.P
end
