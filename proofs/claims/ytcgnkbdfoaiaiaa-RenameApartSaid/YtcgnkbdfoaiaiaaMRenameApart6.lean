/- Texts of this claim, joined: EApartB, EApartC, EApart. -/
import Derived.Lib.Hide
import Derived.Test.YtcgnkbdfoaiaiaaMRenameApart5
section
/- RenameApart: the law's walk by hand, region 9 (written by apart_gen3.py). -/
set_option linter.unusedVariables false
set_option linter.unusedSimpArgs false
namespace Go.Proofs.Ytcgnkbdfoaiaiaa.P
open Go Go.RowKit Go.Proofs.YtcgnkbdfoaiaiaaW.PrintWords Go.Proofs.YtcgnkbdfoaiaiaaW.PrintLast Go.Proofs.YtcgnkbdfoaiaiaaW.PrintMore
set_option maxHeartbeats 8000000 in
set_option maxRecDepth 100000 in
theorem apart_r9 (k : Nat) (l0 l1 : List S41) (a2 a3 t q : Int) (a b : List ItS) (l : List S35) (HK : Aside0 (ApartOk k l0 l1 a2 a3 a b t q l)) (w : World) (V8 : World) (yb : Nat) (lc : List ItS) (hlc : lc = [itY q] ++ a ++ [itX]) (Aa Ab O7 : Option Addr) (ca cb p7 : Nat) (vl : Value) (x0 x1 x2 x3 x4 x5 x6 x7 x8 x14 x17 x18 x19 x20 x21 x22 x23 x24 x25 x26 x27 x28 x29 x30 x31 x32 x33 x34 x35 x36 x37 x38 x39 x40 x41 x42 x43 x44 x45 x46 x47 x48 x49 x50 x51 x52 x53 x54 x55 x56 x57 x58 x59 x60 x61 x62 x63 x64 x65 x66 x67 x68 x69 x70 x71 x72 x73 x74 x75 x76 x77 x78 x79 x80 x81 x82 x83 : Value)
    (hC8 : Kd.R k33 33 V8 w.heap.size (fun _ => True) (.slice O7 lc.length p7) lc) (hA8 : Kd.R k33 33 V8 w.heap.size (fun _ => True) (.slice Aa a.length ca) a) (hB8 : Kd.R k33 33 V8 w.heap.size (fun _ => True) (.slice Ab b.length cb) b)
    (hL8 : Kd.R k35 35 V8 w.heap.size (fun _ => True) vl l) (hB : Below w.heap.size w V8) (hY8 : V8.heap[yb]? = some (.cells #[.string (⟨#[126, 121]⟩ : ByteArray), .int .i64 (wrap64 (1 + wrap64 (2 * q))), .string (⟨#[97, 10, 98, 10]⟩ : ByteArray), .bool false] 33 (0, 0))) :
    Code.wp Try.prog (sndN 9 (Try.f6.body.getD .skip)) (bodyPost Try.prog Try.f6 fun e w' => e = .returned (.bool true) ∧ Below w.heap.size w w') ⟨#[x0, x1, x2, x3, x4, x5, x6, x7, x8, .bool true, .slice Aa a.length ca, .slice Ab b.length cb, .int .i64 t, vl, x14, .pointer (some ⟨yb, 0, none⟩), .slice O7 lc.length p7, x17, x18, x19, x20, x21, x22, x23, x24, x25, x26, x27, x28, x29, x30, x31, x32, x33, x34, x35, x36, x37, x38, x39, x40, x41, x42, x43, x44, x45, x46, x47, x48, x49, x50, x51, x52, x53, x54, x55, x56, x57, x58, x59, x60, x61, x62, x63, x64, x65, x66, x67, x68, x69, x70, x71, x72, x73, x74, x75, x76, x77, x78, x79, x80, x81, x82, x83], []⟩ V8 := by
  conv in sndN 9 _ => whnf
  have HLC := Aside0.mk hlc
  clear hlc
  go_wp2
  rename_i K2 hEND2
  have HEND2 := Aside0.mk hEND2
  clear hEND2
  obtain ⟨s90, hs90⟩ : ∃ s, strOfNums (List.replicate 90 0) = s := ⟨_, rfl⟩
  have HS90 := Aside0.mk hs90
  obtain ⟨ib, hOb, hRb⟩ := row_of_R hB8
  have HRB := Aside0.mk hRb
  obtain ⟨Z9, hZ9⟩ : ∃ Z, Z = V8.drew := ⟨_, rfl⟩
  have b9 : Below V8.heap.size V8 Z9 := by rw [hZ9]; exact (Below.refl _ _).drew
  have HC9 := Aside0.mk (Kd.R_below hC8 b9)
  have HA9 := Aside0.mk (Kd.R_below hA8 b9)
  have HOB9 := Aside0.mk (pw_own_below hOb b9)
  have HY9 := Aside0.mk (blk_below hY8 b9)
  have HB9 := Aside0.mk (below_step hB b9)
  have HL9 := Aside0.mk (Kd.R_below hL8 b9)
  clear hC8 hA8 hB8 hL8 hB hY8 hs90 hOb hRb b9
  have HJ9 : Aside0 (∀ (b1 b8 m9 : Nat) (A2_ : Option Addr) (c2_ : Nat) (A4_ : Option Addr) (c4_ : Nat) (A7_ : Option Addr) (c7_ : Nat) (V9 : World), V9.ownsRow Z9.heap.size 33 4 (.slice A7_ (1 + b.length + 1) c7_) (1 + b.length + 1) ([.string (⟨#[126, 121]⟩ : ByteArray), .int .i64 (wrap64 (1 + wrap64 (2 * q))), .string (⟨#[97, 10, 98, 10]⟩ : ByteArray), .bool false] ++ ib ++ [.string (⟨#[126, 122]⟩ : ByteArray), .int .i64 2, .string s90, .bool false]) → Below Z9.heap.size Z9 V9 → K2 ⟨#[x0, x1, x2, x3, x4, x5, x6, x7, x8, .bool true, .slice Aa a.length ca, .slice Ab b.length cb, .int .i64 t, vl, x14, .pointer (some ⟨yb, 0, none⟩), .slice O7 lc.length p7, .slice A7_ (1 + b.length + 1) c7_, x18, x19, x20, x21, x22, x23, x24, x25, x26, x27, x28, x29, x30, x31, x32, x33, x34, x35, x36, x37, x38, x39, x40, x41, x42, x43, x44, x45, x46, x47, x48, .agg #[.string (⟨#[126, 121]⟩ : ByteArray), .int .i64 (wrap64 (1 + wrap64 (2 * q))), .string (⟨#[97, 10, 98, 10]⟩ : ByteArray), .bool false], .slice (some ⟨b1, 0, none⟩) 1 1, .slice A2_ 1 c2_, .slice Ab b.length cb, .slice A4_ (1 + b.length) c4_, .slice (some ⟨m9, 0, none⟩) 90 90, .string s90, .agg #[.string (⟨#[126, 122]⟩ : ByteArray), .int .i64 2, .string s90, .bool false], .slice (some ⟨b8, 0, none⟩) 1 1, .slice A7_ (1 + b.length + 1) c7_, x59, x60, x61, x62, x63, x64, x65, x66, x67, x68, x69, x70, x71, x72, x73, x74, x75, x76, x77, x78, x79, x80, x81, x82, x83], []⟩ V9) := by
    refine ⟨?_⟩
    intro e1 e8 m9 E2 f2 E4 f4 E7 f7 V9 hO9 hV9
    refine HEND2.out _ _ ?_
    obtain ⟨ld, hld⟩ : ∃ ld, ld = [itY q] ++ b ++ [itZ] := ⟨_, rfl⟩
    have eld : 1 + b.length + 1 = ld.length := by rw [hld]; simp only [List.length_append, List.length_singleton]
    rw [eld] at hO9 ⊢
    have hD9 : Kd.R k33 33 V9 w.heap.size (fun _ => True) (.slice E7 ld.length f7) ld := R_of_row (own_less hO9 HB9.out.size) (by rw [hld]; exact Kd.reps_append (Kd.reps_append (reps_item (itY q)) HRB.out) (show Reps _ 4 [itZ] [.string (⟨#[126, 122]⟩ : ByteArray), .int .i64 2, .string s90, .bool false] by rw [← HS90.out]; exact reps_item itZ))
    exact apart_r10 k l0 l1 a2 a3 t q a b l HK w V9 lc ld HLC.out hld Aa Ab O7 E7 ca cb p7 f7 vl _ _ _ _ _ _ _ _ _ _ _ _ _ _ _ _ _ _ _ _ _ _ _ _ _ _ _ _ _ _ _ _ _ _ _ _ _ _ _ _ _ _ _ _ _ _ _ _ _ _ _ _ _ _ _ _ _ _ _ _ _ _ _ _ _ _ _ _ _ _ _ _ _ _ _ _ _ (Kd.R_below HC9.out hV9) hD9 (Kd.R_below HA9.out hV9) (R_of_row (pw_own_below HOB9.out hV9) HRB.out) (Kd.R_below HL9.out hV9) (below_step HB9.out hV9)
  refine (wpIn_wide (n := 9)).1 ?_
  refine Held.region 10 (Held.Same Z9 [yb]) (by kernel_rfl) ?_
  rw [← hZ9]
  clear hZ9
  have hT := Held.Same.refl Z9 [yb]
  have my0 : Z9.cell? ⟨yb, 0, none⟩ = some (#[.string (⟨#[126, 121]⟩ : ByteArray), .int .i64 (wrap64 (1 + wrap64 (2 * q))), .string (⟨#[97, 10, 98, 10]⟩ : ByteArray), .bool false][0]) := (blk_cell HY9.out 0).trans rfl
  have my1 : Z9.cell? ⟨yb, 1, none⟩ = some (#[.string (⟨#[126, 121]⟩ : ByteArray), .int .i64 (wrap64 (1 + wrap64 (2 * q))), .string (⟨#[97, 10, 98, 10]⟩ : ByteArray), .bool false][1]) := (blk_cell HY9.out 1).trans rfl
  have my2 : Z9.cell? ⟨yb, 2, none⟩ = some (#[.string (⟨#[126, 121]⟩ : ByteArray), .int .i64 (wrap64 (1 + wrap64 (2 * q))), .string (⟨#[97, 10, 98, 10]⟩ : ByteArray), .bool false][2]) := (blk_cell HY9.out 2).trans rfl
  have my3 : Z9.cell? ⟨yb, 3, none⟩ = some (#[.string (⟨#[126, 121]⟩ : ByteArray), .int .i64 (wrap64 (1 + wrap64 (2 * q))), .string (⟨#[97, 10, 98, 10]⟩ : ByteArray), .bool false][3]) := (blk_cell HY9.out 3).trans rfl
  refine Held.tk (i := 0) rfl hT ?_
  try simp only [Act.put, List.setIfInBounds_toArray, List.set_cons_zero, List.set_cons_succ]
  refine Held.tk (i := 3) rfl hT ?_
  try simp only [Act.put, List.setIfInBounds_toArray, List.set_cons_zero, List.set_cons_succ]
  clear my0 my1 my2 my3 hT
  have HD := Aside0.mk (Below.refl Z9.heap.size Z9)
  have HYL := Aside0.mk (blk_lt HY9.out)
  have HS := Aside0.mk (fun w' (h : Below Z9.heap.size Z9 w') => (show Held.Same Z9 [yb] w' from fun b hb => h.block b (by simp at hb; rcases hb with rfl; exact blk_lt HY9.out)))
  refine Held.AnyS.step2 (i := 1) (j := 5) rfl rfl (by kernel_rfl) rfl rfl (fun K hK => ?_) (fun K hK => ?_)
  · go_simp
    first | refine ⟨trivial, ?_⟩ | skip
    obtain ⟨y1, hy⟩ : ∃ V, V = Z9.alloc (.cells #[.string (⟨#[126, 121]⟩ : ByteArray), .int .i64 (wrap64 (1 + wrap64 (2 * q))), .string (⟨#[97, 10, 98, 10]⟩ : ByteArray), .bool false] 33) := ⟨_, rfl⟩
    have hD : Below Z9.heap.size Z9 y1 := by rw [hy]; exact HD.out.alloc HD.out.size _
    have hw : Below Z9.heap.size Z9 y1 := by rw [hy]; exact (Below.refl _ _).alloc (Nat.le_refl _) _
    have hN : y1.heap[Z9.heap.size]? = some (.cells #[.string (⟨#[126, 121]⟩ : ByteArray), .int .i64 (wrap64 (1 + wrap64 (2 * q))), .string (⟨#[97, 10, 98, 10]⟩ : ByteArray), .bool false] 33 (0, 0)) := by rw [hy]; exact heap_alloc_new Z9 _
    rw [← hy]
    refine hK.out _ _ (fun _ => HS.out _ hD) ?_
    obtain ⟨b1, hbn⟩ : ∃ b, Z9.heap.size = b := ⟨_, rfl⟩
    rw [hbn] at hN ⊢
    have HD_ := Aside0.mk hD
    clear HD
    have HD := HD_
    clear HD_
    clear hK K hbn hw hD
    have HB1 := Aside0.mk hN
    clear hN hy
    try simp only [Act.put, List.setIfInBounds_toArray, List.set_cons_zero, List.set_cons_succ]
    refine Held.AnyS.step2 (i := 2) (j := 5) rfl rfl (by kernel_rfl) rfl rfl (fun K hK => ?_) (fun K hK => ?_)
    · have nw : ∀ j u, [.string (⟨#[126, 121]⟩ : ByteArray), .int .i64 (wrap64 (1 + wrap64 (2 * q))), .string (⟨#[97, 10, 98, 10]⟩ : ByteArray), .bool false][j]? = some u → y1.cell? ((⟨b1, 0, none⟩ : Addr).add j) = some u := by simpa using World.news_of_block (cs := #[.string (⟨#[126, 121]⟩ : ByteArray), .int .i64 (wrap64 (1 + wrap64 (2 * q))), .string (⟨#[97, 10, 98, 10]⟩ : ByteArray), .bool false]) (t := 33) (fr := (0, 0)) HB1.out
      refine Held.append_any (.const (.slice none 0 0)) (.tmp 50) 23 rfl Z9.heap.size 33 (.agg #[.string (⟨#[]⟩ : ByteArray), .int .i64 0, .string (⟨#[]⟩ : ByteArray), .bool false]) 4 48 Try.underlying23 (by kernel_rfl) rfl (by omega) (.slice none 0 0) 0 [] rfl (own_nil _ _ _ _) (some ⟨b1, 0, none⟩) 1 1 [.string (⟨#[126, 121]⟩ : ByteArray), .int .i64 (wrap64 (1 + wrap64 (2 * q))), .string (⟨#[97, 10, 98, 10]⟩ : ByteArray), .bool false] rfl rfl (.inr ⟨_, rfl, nw⟩) ?_ ?_ ?_ ?_ ?_
      · intro u hu; simp at hu; rcases hu with rfl | rfl | rfl | rfl <;> rfl
      · have := HK.out.lb; simp only [maxLen]; omega
      · have := HK.out.lb; omega
      · have := HD.out.size; omega
      intro v y2 hown hgr hat
      have hown : y2.ownsRow Z9.heap.size 33 4 v (1) ([.string (⟨#[126, 121]⟩ : ByteArray), .int .i64 (wrap64 (1 + wrap64 (2 * q))), .string (⟨#[97, 10, 98, 10]⟩ : ByteArray), .bool false]) := hown
      obtain ⟨A2, c2, rfl⟩ := own_slice hown
      have hD : Below Z9.heap.size Z9 y2 := HD.out.grown hgr HD.out.size (fun k hk => by simp [Value.ownBlock] at hk)
      refine hK.out _ _ (fun _  => HS.out _ hD) ?_
      have HO_ := Aside0.mk hown
      have HD_ := Aside0.mk hD
      clear HD
      have HD := HD_
      clear HD_
      clear HB1
      have HO := HO_
      clear HO_
      clear hK K hown hgr hat hD nw
      try simp only [Act.put, List.setIfInBounds_toArray, List.set_cons_zero, List.set_cons_succ]
      refine Held.AnyS.step2 (i := 4) (j := 5) rfl rfl (by kernel_rfl) rfl rfl (fun K hK => ?_) (fun K hK => ?_)
      · have ho := pw_own_below HOB9.out HD.out
        refine Held.append_any (.tmp 51) (.tmp 52) 23 rfl Z9.heap.size 33 (.agg #[.string (⟨#[]⟩ : ByteArray), .int .i64 0, .string (⟨#[]⟩ : ByteArray), .bool false]) 4 48 Try.underlying23 (by kernel_rfl) rfl (by omega) (.slice A2 (1) c2) 1 ([.string (⟨#[126, 121]⟩ : ByteArray), .int .i64 (wrap64 (1 + wrap64 (2 * q))), .string (⟨#[97, 10, 98, 10]⟩ : ByteArray), .bool false]) rfl HO.out Ab b.length cb ib rfl ho.1 (own_news ho) ?_ ?_ ?_ ?_ ?_
        · exact encI_one HRB.out
        · have := HK.out.lb; simp only [maxLen]; omega
        · have := HK.out.lb; omega
        · have := HD.out.size; omega
        intro v y3 hown hgr hat
        have hown : y3.ownsRow Z9.heap.size 33 4 v (1 + b.length) ([.string (⟨#[126, 121]⟩ : ByteArray), .int .i64 (wrap64 (1 + wrap64 (2 * q))), .string (⟨#[97, 10, 98, 10]⟩ : ByteArray), .bool false] ++ ib) := hown
        obtain ⟨A4, c4, rfl⟩ := own_slice hown
        have hD : Below Z9.heap.size Z9 y3 := HD.out.grown hgr HD.out.size (fun k hk => own_base HO.out k hk)
        refine hK.out _ _ (fun _  => HS.out _ hD) ?_
        have HO_ := Aside0.mk hown
        have HD_ := Aside0.mk hD
        clear HD
        have HD := HD_
        clear HD_
        clear HO
        have HO := HO_
        clear HO_
        clear hK K hown hgr hat hD ho
        try simp only [Act.put, List.setIfInBounds_toArray, List.set_cons_zero, List.set_cons_succ]
        refine Held.AnyS.step (i := 5) rfl (by kernel_rfl) rfl (fun K hK => ?_)
        have hmk : (Instr.makeSlice 38 (.int .i64 90) (.int .i64 90)).run Try.prog y3 = .ok (.slice (some ⟨y3.heap.size, 0, none⟩) 90 90) (y3.alloc (.cells (madeCells #[.int .u8 0] 90) 5)) := print_make (P := Try.prog) 38 5 .u8 1 Try.underlying38 (by kernel_rfl) (by decide) 90 (by decide) y3
        go_simp
        clear hmk
        obtain ⟨y4, hy⟩ : ∃ V, V = y3.alloc (.cells (madeCells #[.int .u8 0] 90) 5) := ⟨_, rfl⟩
        have hD : Below Z9.heap.size Z9 y4 := by rw [hy]; exact HD.out.alloc HD.out.size _
        have hw : Below y3.heap.size y3 y4 := by rw [hy]; exact (Below.refl _ _).alloc (Nat.le_refl _) _
        have hN : y4.heap[y3.heap.size]? = some (.cells (madeCells #[.int .u8 0] 90) 5 (0, 0)) := by rw [hy]; exact heap_alloc_new y3 _
        have hcv : ∀ bs, y3.heap.size ∈ bs → ∀ V, Held.Same y4 bs V → (convert 38 9 (.slice (some ⟨y3.heap.size, 0, none⟩) 90 90)).run Try.prog V = .ok (.string s90) V := fun bs hb V hV => Held.conv_made (by decide) Try.underlying38 Try.underlying5 Try.underlying9 y3 HS90.out (bs := bs) hb V (by rw [← hy]; exact hV)
        rw [← hy]
        have hT : Held.Same Z9 [yb] y4 := HS.out _ hD
        obtain ⟨m9, hbn⟩ : ∃ b, y3.heap.size = b := ⟨_, rfl⟩
        rw [hbn]
        refine hK.out _ _ (fun _ => hT) (Held.AnyS.imp (Held.Same.more hT (bs' := [m9, yb]) (fun b hb => List.mem_cons_of_mem _ hb)) _ _ _ _ ?_)
        have HO_ := Aside0.mk (pw_own_below HO.out hw)
        have hNe : some m9 ≠ (Value.slice A4 (1 + b.length) c4).ownBlock := fun e => by have := own_lt HO.out m9 e.symm; omega
        rw [hbn] at hN hcv
        have HD_ := Aside0.mk hD
        clear HD
        have HD := HD_
        clear HD_
        clear HO
        have HO := HO_
        clear HO_
        clear hK K hbn hw hD hT
        have HM := Aside0.mk hN
        have HNM := Aside0.mk hNe
        clear hNe
        clear hN hy
        try simp only [Act.put, List.setIfInBounds_toArray, List.set_cons_zero, List.set_cons_succ]
        have hTy : Held.Same y4 [m9, yb] y4 := Held.Same.refl _ _
        have HMY := HM
        have HDY := HD
        clear HS
        have HS := Aside0.mk (fun w' (h : Below Z9.heap.size Z9 w') (hm : w'.heap[m9]? = some (.cells (madeCells #[.int .u8 0] 90) 5 (0, 0))) => (show Held.Same y4 [m9, yb] w' from fun b hb => by
          simp at hb
          rcases hb with rfl | rfl
          · exact hm.trans HMY.out.symm
          · have hl := HYL.out; exact (h.block _ hl).trans (HDY.out.block _ hl).symm))
        refine Held.tk (i := 6) rfl hTy ?_ (hy := fun V hV => (by have hc_ := hcv [m9, yb] (by simp) V hV; go_simp; try (with_reducible rfl)))
        clear hcv
        try simp only [Act.put, List.setIfInBounds_toArray, List.set_cons_zero, List.set_cons_succ]
        refine Held.tk (i := 7) rfl hTy ?_
        try simp only [Act.put, List.setIfInBounds_toArray, List.set_cons_zero, List.set_cons_succ]
        clear hTy HMY HDY
        refine Held.AnyS.step (i := 8) rfl (by kernel_rfl) rfl (fun K hK => ?_)
        go_simp
        first | refine ⟨trivial, ?_⟩ | skip
        obtain ⟨y5, hy⟩ : ∃ V, V = y4.alloc (.cells #[.string (⟨#[126, 122]⟩ : ByteArray), .int .i64 2, .string s90, .bool false] 33) := ⟨_, rfl⟩
        have hD : Below Z9.heap.size Z9 y5 := by rw [hy]; exact HD.out.alloc HD.out.size _
        have hw : Below y4.heap.size y4 y5 := by rw [hy]; exact (Below.refl _ _).alloc (Nat.le_refl _) _
        have hN : y5.heap[y4.heap.size]? = some (.cells #[.string (⟨#[126, 122]⟩ : ByteArray), .int .i64 2, .string s90, .bool false] 33 (0, 0)) := by rw [hy]; exact heap_alloc_new y4 _
        rw [← hy]
        have hM := blk_below HM.out hw
        refine hK.out _ _ (fun _ => HS.out _ hD hM) ?_
        obtain ⟨b8, hbn⟩ : ∃ b, y4.heap.size = b := ⟨_, rfl⟩
        have HM_ := Aside0.mk hM
        have HO_ := Aside0.mk (pw_own_below HO.out hw)
        have hNe : some b8 ≠ (Value.slice A4 (1 + b.length) c4).ownBlock := fun e => by have := own_lt HO.out b8 e.symm; omega
        rw [hbn] at hN ⊢
        have HD_ := Aside0.mk hD
        clear HD
        have HD := HD_
        clear HD_
        clear HM
        have HM := HM_
        clear HM_
        clear HO
        have HO := HO_
        clear HO_
        clear hK K hbn hw hD hM
        have HBX := Aside0.mk hN
        have HN := Aside0.mk hNe
        clear hNe
        clear hN hy
        try simp only [Act.put, List.setIfInBounds_toArray, List.set_cons_zero, List.set_cons_succ]
        refine Held.AnyS.step (i := 9) rfl (by kernel_rfl) rfl (fun K hK => ?_)
        have nw : ∀ j u, [.string (⟨#[126, 122]⟩ : ByteArray), .int .i64 2, .string s90, .bool false][j]? = some u → y5.cell? ((⟨b8, 0, none⟩ : Addr).add j) = some u := by simpa using World.news_of_block (cs := #[.string (⟨#[126, 122]⟩ : ByteArray), .int .i64 2, .string s90, .bool false]) (t := 33) (fr := (0, 0)) HBX.out
        refine Held.append_any (.tmp 53) (.tmp 57) 23 rfl Z9.heap.size 33 (.agg #[.string (⟨#[]⟩ : ByteArray), .int .i64 0, .string (⟨#[]⟩ : ByteArray), .bool false]) 4 48 Try.underlying23 (by kernel_rfl) rfl (by omega) (.slice A4 (1 + b.length) c4) (1 + b.length) ([.string (⟨#[126, 121]⟩ : ByteArray), .int .i64 (wrap64 (1 + wrap64 (2 * q))), .string (⟨#[97, 10, 98, 10]⟩ : ByteArray), .bool false] ++ ib) rfl HO.out (some ⟨b8, 0, none⟩) 1 1 [.string (⟨#[126, 122]⟩ : ByteArray), .int .i64 2, .string s90, .bool false] rfl rfl (.inr ⟨_, rfl, nw⟩) ?_ ?_ ?_ ?_ ?_
        · intro u hu; simp at hu; rcases hu with rfl | rfl | rfl | rfl <;> rfl
        · have := HK.out.lb; simp only [maxLen]; omega
        · have := HK.out.lb; omega
        · have := HD.out.size; omega
        intro v y6 hown hgr hat
        have hown : y6.ownsRow Z9.heap.size 33 4 v (1 + b.length + 1) ([.string (⟨#[126, 121]⟩ : ByteArray), .int .i64 (wrap64 (1 + wrap64 (2 * q))), .string (⟨#[97, 10, 98, 10]⟩ : ByteArray), .bool false] ++ ib ++ [.string (⟨#[126, 122]⟩ : ByteArray), .int .i64 2, .string s90, .bool false]) := hown
        obtain ⟨A7, c7, rfl⟩ := own_slice hown
        have hD : Below Z9.heap.size Z9 y6 := HD.out.grown hgr HD.out.size (fun k hk => own_base HO.out k hk)
        have hM : y6.heap[m9]? = some (.cells (madeCells #[.int .u8 0] 90) 5 (0, 0)) := (hgr.block _ (blk_lt HM.out) (HNM.out)).trans HM.out
        refine hK.out _ _ (fun _ => HS.out _ hD hM) ?_
        have HM_ := Aside0.mk hM
        have HNM_ := Aside0.mk (show some m9 ≠ (Value.slice A7 (1 + b.length + 1) c7).ownBlock from by rcases hat with hat | hat <;> rw [hat]; exact HNM.out; exact fun e => by injection e with e; have := blk_lt HM.out; omega)
        have HO_ := Aside0.mk hown
        have HD_ := Aside0.mk hD
        clear HD
        have HD := HD_
        clear HD_
        clear HO
        have HO := HO_
        clear HO_
        clear HM HNM
        have HM := HM_
        have HNM := HNM_
        clear HM_ HNM_
        clear hK K hown hgr hat hD hM nw
        try simp only [Act.put, List.setIfInBounds_toArray, List.set_cons_zero, List.set_cons_succ]
        refine Held.AnyS.step (i := 10) rfl (by kernel_rfl) rfl (fun K hK => ?_)
        go_simp
        refine hK.out _ _ (fun h => absurd h (by omega)) ?_
        clear hK K
        refine Held.AnyS.done (by kernel_rfl) ?_ _
        go_simp
        exact HJ9.out b1 b8 m9 A2 c2 A4 c4 A7 c7 y6 HO.out HD.out
      · have hmk : (Instr.makeSlice 38 (.int .i64 90) (.int .i64 90)).run Try.prog y2 = .ok (.slice (some ⟨y2.heap.size, 0, none⟩) 90 90) (y2.alloc (.cells (madeCells #[.int .u8 0] 90) 5)) := print_make (P := Try.prog) 38 5 .u8 1 Try.underlying38 (by kernel_rfl) (by decide) 90 (by decide) y2
        go_simp
        clear hmk
        obtain ⟨y3, hy⟩ : ∃ V, V = y2.alloc (.cells (madeCells #[.int .u8 0] 90) 5) := ⟨_, rfl⟩
        have hD : Below Z9.heap.size Z9 y3 := by rw [hy]; exact HD.out.alloc HD.out.size _
        have hw : Below y2.heap.size y2 y3 := by rw [hy]; exact (Below.refl _ _).alloc (Nat.le_refl _) _
        have hN : y3.heap[y2.heap.size]? = some (.cells (madeCells #[.int .u8 0] 90) 5 (0, 0)) := by rw [hy]; exact heap_alloc_new y2 _
        have hcv : ∀ bs, y2.heap.size ∈ bs → ∀ V, Held.Same y3 bs V → (convert 38 9 (.slice (some ⟨y2.heap.size, 0, none⟩) 90 90)).run Try.prog V = .ok (.string s90) V := fun bs hb V hV => Held.conv_made (by decide) Try.underlying38 Try.underlying5 Try.underlying9 y2 HS90.out (bs := bs) hb V (by rw [← hy]; exact hV)
        rw [← hy]
        have hT : Held.Same Z9 [yb] y3 := HS.out _ hD
        obtain ⟨m9, hbn⟩ : ∃ b, y2.heap.size = b := ⟨_, rfl⟩
        rw [hbn]
        refine hK.out _ _ (fun _ => hT) (Held.AnyS.imp (Held.Same.more hT (bs' := [m9, yb]) (fun b hb => List.mem_cons_of_mem _ hb)) _ _ _ _ ?_)
        have HO_ := Aside0.mk (pw_own_below HO.out hw)
        have hNe : some m9 ≠ (Value.slice A2 (1) c2).ownBlock := fun e => by have := own_lt HO.out m9 e.symm; omega
        rw [hbn] at hN hcv
        have HD_ := Aside0.mk hD
        clear HD
        have HD := HD_
        clear HD_
        clear HO
        have HO := HO_
        clear HO_
        clear hK K hbn hw hD hT
        have HM := Aside0.mk hN
        have HNM := Aside0.mk hNe
        clear hNe
        clear hN hy
        try simp only [Act.put, List.setIfInBounds_toArray, List.set_cons_zero, List.set_cons_succ]
        have hTy : Held.Same y3 [m9, yb] y3 := Held.Same.refl _ _
        have HMY := HM
        have HDY := HD
        clear HS
        have HS := Aside0.mk (fun w' (h : Below Z9.heap.size Z9 w') (hm : w'.heap[m9]? = some (.cells (madeCells #[.int .u8 0] 90) 5 (0, 0))) => (show Held.Same y3 [m9, yb] w' from fun b hb => by
          simp at hb
          rcases hb with rfl | rfl
          · exact hm.trans HMY.out.symm
          · have hl := HYL.out; exact (h.block _ hl).trans (HDY.out.block _ hl).symm))
        refine Held.tk (i := 6) rfl hTy ?_ (hy := fun V hV => (by have hc_ := hcv [m9, yb] (by simp) V hV; go_simp; try (with_reducible rfl)))
        clear hcv
        try simp only [Act.put, List.setIfInBounds_toArray, List.set_cons_zero, List.set_cons_succ]
        refine Held.tk (i := 7) rfl hTy ?_
        try simp only [Act.put, List.setIfInBounds_toArray, List.set_cons_zero, List.set_cons_succ]
        clear hTy HMY HDY
        refine Held.AnyS.step2 (i := 4) (j := 8) rfl rfl (by kernel_rfl) rfl rfl (fun K hK => ?_) (fun K hK => ?_)
        · have ho := pw_own_below HOB9.out HD.out
          refine Held.append_any (.tmp 51) (.tmp 52) 23 rfl Z9.heap.size 33 (.agg #[.string (⟨#[]⟩ : ByteArray), .int .i64 0, .string (⟨#[]⟩ : ByteArray), .bool false]) 4 48 Try.underlying23 (by kernel_rfl) rfl (by omega) (.slice A2 (1) c2) 1 ([.string (⟨#[126, 121]⟩ : ByteArray), .int .i64 (wrap64 (1 + wrap64 (2 * q))), .string (⟨#[97, 10, 98, 10]⟩ : ByteArray), .bool false]) rfl HO.out Ab b.length cb ib rfl ho.1 (own_news ho) ?_ ?_ ?_ ?_ ?_
          · exact encI_one HRB.out
          · have := HK.out.lb; simp only [maxLen]; omega
          · have := HK.out.lb; omega
          · have := HD.out.size; omega
          intro v y4 hown hgr hat
          have hown : y4.ownsRow Z9.heap.size 33 4 v (1 + b.length) ([.string (⟨#[126, 121]⟩ : ByteArray), .int .i64 (wrap64 (1 + wrap64 (2 * q))), .string (⟨#[97, 10, 98, 10]⟩ : ByteArray), .bool false] ++ ib) := hown
          obtain ⟨A4, c4, rfl⟩ := own_slice hown
          have hD : Below Z9.heap.size Z9 y4 := HD.out.grown hgr HD.out.size (fun k hk => own_base HO.out k hk)
          have hM : y4.heap[m9]? = some (.cells (madeCells #[.int .u8 0] 90) 5 (0, 0)) := (hgr.block _ (blk_lt HM.out) (HNM.out)).trans HM.out
          refine hK.out _ _ (fun _  => HS.out _ hD hM) ?_
          have HM_ := Aside0.mk hM
          have HNM_ := Aside0.mk (show some m9 ≠ (Value.slice A4 (1 + b.length) c4).ownBlock from by rcases hat with hat | hat <;> rw [hat]; exact HNM.out; exact fun e => by injection e with e; have := blk_lt HM.out; omega)
          have HO_ := Aside0.mk hown
          have HD_ := Aside0.mk hD
          clear HD
          have HD := HD_
          clear HD_
          clear HO
          have HO := HO_
          clear HO_
          clear HM HNM
          have HM := HM_
          have HNM := HNM_
          clear HM_ HNM_
          clear hK K hown hgr hat hD hM ho
          try simp only [Act.put, List.setIfInBounds_toArray, List.set_cons_zero, List.set_cons_succ]
          refine Held.AnyS.step (i := 8) rfl (by kernel_rfl) rfl (fun K hK => ?_)
          go_simp
          first | refine ⟨trivial, ?_⟩ | skip
          obtain ⟨y5, hy⟩ : ∃ V, V = y4.alloc (.cells #[.string (⟨#[126, 122]⟩ : ByteArray), .int .i64 2, .string s90, .bool false] 33) := ⟨_, rfl⟩
          have hD : Below Z9.heap.size Z9 y5 := by rw [hy]; exact HD.out.alloc HD.out.size _
          have hw : Below y4.heap.size y4 y5 := by rw [hy]; exact (Below.refl _ _).alloc (Nat.le_refl _) _
          have hN : y5.heap[y4.heap.size]? = some (.cells #[.string (⟨#[126, 122]⟩ : ByteArray), .int .i64 2, .string s90, .bool false] 33 (0, 0)) := by rw [hy]; exact heap_alloc_new y4 _
          rw [← hy]
          have hM := blk_below HM.out hw
          refine hK.out _ _ (fun _ => HS.out _ hD hM) ?_
          obtain ⟨b8, hbn⟩ : ∃ b, y4.heap.size = b := ⟨_, rfl⟩
          have HM_ := Aside0.mk hM
          have HO_ := Aside0.mk (pw_own_below HO.out hw)
          have hNe : some b8 ≠ (Value.slice A4 (1 + b.length) c4).ownBlock := fun e => by have := own_lt HO.out b8 e.symm; omega
          rw [hbn] at hN ⊢
          have HD_ := Aside0.mk hD
          clear HD
          have HD := HD_
          clear HD_
          clear HM
          have HM := HM_
          clear HM_
          clear HO
          have HO := HO_
          clear HO_
          clear hK K hbn hw hD hM
          have HBX := Aside0.mk hN
          have HN := Aside0.mk hNe
          clear hNe
          clear hN hy
          try simp only [Act.put, List.setIfInBounds_toArray, List.set_cons_zero, List.set_cons_succ]
          refine Held.AnyS.step (i := 9) rfl (by kernel_rfl) rfl (fun K hK => ?_)
          have nw : ∀ j u, [.string (⟨#[126, 122]⟩ : ByteArray), .int .i64 2, .string s90, .bool false][j]? = some u → y5.cell? ((⟨b8, 0, none⟩ : Addr).add j) = some u := by simpa using World.news_of_block (cs := #[.string (⟨#[126, 122]⟩ : ByteArray), .int .i64 2, .string s90, .bool false]) (t := 33) (fr := (0, 0)) HBX.out
          refine Held.append_any (.tmp 53) (.tmp 57) 23 rfl Z9.heap.size 33 (.agg #[.string (⟨#[]⟩ : ByteArray), .int .i64 0, .string (⟨#[]⟩ : ByteArray), .bool false]) 4 48 Try.underlying23 (by kernel_rfl) rfl (by omega) (.slice A4 (1 + b.length) c4) (1 + b.length) ([.string (⟨#[126, 121]⟩ : ByteArray), .int .i64 (wrap64 (1 + wrap64 (2 * q))), .string (⟨#[97, 10, 98, 10]⟩ : ByteArray), .bool false] ++ ib) rfl HO.out (some ⟨b8, 0, none⟩) 1 1 [.string (⟨#[126, 122]⟩ : ByteArray), .int .i64 2, .string s90, .bool false] rfl rfl (.inr ⟨_, rfl, nw⟩) ?_ ?_ ?_ ?_ ?_
          · intro u hu; simp at hu; rcases hu with rfl | rfl | rfl | rfl <;> rfl
          · have := HK.out.lb; simp only [maxLen]; omega
          · have := HK.out.lb; omega
          · have := HD.out.size; omega
          intro v y6 hown hgr hat
          have hown : y6.ownsRow Z9.heap.size 33 4 v (1 + b.length + 1) ([.string (⟨#[126, 121]⟩ : ByteArray), .int .i64 (wrap64 (1 + wrap64 (2 * q))), .string (⟨#[97, 10, 98, 10]⟩ : ByteArray), .bool false] ++ ib ++ [.string (⟨#[126, 122]⟩ : ByteArray), .int .i64 2, .string s90, .bool false]) := hown
          obtain ⟨A7, c7, rfl⟩ := own_slice hown
          have hD : Below Z9.heap.size Z9 y6 := HD.out.grown hgr HD.out.size (fun k hk => own_base HO.out k hk)
          have hM : y6.heap[m9]? = some (.cells (madeCells #[.int .u8 0] 90) 5 (0, 0)) := (hgr.block _ (blk_lt HM.out) (HNM.out)).trans HM.out
          refine hK.out _ _ (fun _ => HS.out _ hD hM) ?_
          have HM_ := Aside0.mk hM
          have HNM_ := Aside0.mk (show some m9 ≠ (Value.slice A7 (1 + b.length + 1) c7).ownBlock from by rcases hat with hat | hat <;> rw [hat]; exact HNM.out; exact fun e => by injection e with e; have := blk_lt HM.out; omega)
          have HO_ := Aside0.mk hown
          have HD_ := Aside0.mk hD
          clear HD
          have HD := HD_
          clear HD_
          clear HO
          have HO := HO_
          clear HO_
          clear HM HNM
          have HM := HM_
          have HNM := HNM_
          clear HM_ HNM_
          clear hK K hown hgr hat hD hM nw
          try simp only [Act.put, List.setIfInBounds_toArray, List.set_cons_zero, List.set_cons_succ]
          refine Held.AnyS.step (i := 10) rfl (by kernel_rfl) rfl (fun K hK => ?_)
          go_simp
          refine hK.out _ _ (fun h => absurd h (by omega)) ?_
          clear hK K
          refine Held.AnyS.done (by kernel_rfl) ?_ _
          go_simp
          exact HJ9.out b1 b8 m9 A2 c2 A4 c4 A7 c7 y6 HO.out HD.out
        · go_simp
          first | refine ⟨trivial, ?_⟩ | skip
          obtain ⟨y4, hy⟩ : ∃ V, V = y3.alloc (.cells #[.string (⟨#[126, 122]⟩ : ByteArray), .int .i64 2, .string s90, .bool false] 33) := ⟨_, rfl⟩
          have hD : Below Z9.heap.size Z9 y4 := by rw [hy]; exact HD.out.alloc HD.out.size _
          have hw : Below y3.heap.size y3 y4 := by rw [hy]; exact (Below.refl _ _).alloc (Nat.le_refl _) _
          have hN : y4.heap[y3.heap.size]? = some (.cells #[.string (⟨#[126, 122]⟩ : ByteArray), .int .i64 2, .string s90, .bool false] 33 (0, 0)) := by rw [hy]; exact heap_alloc_new y3 _
          rw [← hy]
          have hM := blk_below HM.out hw
          refine hK.out _ _ (fun _ => HS.out _ hD hM) ?_
          obtain ⟨b8, hbn⟩ : ∃ b, y3.heap.size = b := ⟨_, rfl⟩
          have HM_ := Aside0.mk hM
          have HO_ := Aside0.mk (pw_own_below HO.out hw)
          have hNe : some b8 ≠ (Value.slice A2 (1) c2).ownBlock := fun e => by have := own_lt HO.out b8 e.symm; omega
          rw [hbn] at hN ⊢
          have HD_ := Aside0.mk hD
          clear HD
          have HD := HD_
          clear HD_
          clear HM
          have HM := HM_
          clear HM_
          clear HO
          have HO := HO_
          clear HO_
          clear hK K hbn hw hD hM
          have HBX := Aside0.mk hN
          have HN := Aside0.mk hNe
          clear hNe
          clear hN hy
          try simp only [Act.put, List.setIfInBounds_toArray, List.set_cons_zero, List.set_cons_succ]
          refine Held.AnyS.step (i := 4) rfl (by kernel_rfl) rfl (fun K hK => ?_)
          have ho := pw_own_below HOB9.out HD.out
          refine Held.append_any (.tmp 51) (.tmp 52) 23 rfl Z9.heap.size 33 (.agg #[.string (⟨#[]⟩ : ByteArray), .int .i64 0, .string (⟨#[]⟩ : ByteArray), .bool false]) 4 48 Try.underlying23 (by kernel_rfl) rfl (by omega) (.slice A2 (1) c2) 1 ([.string (⟨#[126, 121]⟩ : ByteArray), .int .i64 (wrap64 (1 + wrap64 (2 * q))), .string (⟨#[97, 10, 98, 10]⟩ : ByteArray), .bool false]) rfl HO.out Ab b.length cb ib rfl ho.1 (own_news ho) ?_ ?_ ?_ ?_ ?_
          · exact encI_one HRB.out
          · have := HK.out.lb; simp only [maxLen]; omega
          · have := HK.out.lb; omega
          · have := HD.out.size; omega
          intro v y5 hown hgr hat
          have hown : y5.ownsRow Z9.heap.size 33 4 v (1 + b.length) ([.string (⟨#[126, 121]⟩ : ByteArray), .int .i64 (wrap64 (1 + wrap64 (2 * q))), .string (⟨#[97, 10, 98, 10]⟩ : ByteArray), .bool false] ++ ib) := hown
          obtain ⟨A4, c4, rfl⟩ := own_slice hown
          have hD : Below Z9.heap.size Z9 y5 := HD.out.grown hgr HD.out.size (fun k hk => own_base HO.out k hk)
          have hM : y5.heap[m9]? = some (.cells (madeCells #[.int .u8 0] 90) 5 (0, 0)) := (hgr.block _ (blk_lt HM.out) (HNM.out)).trans HM.out
          refine hK.out _ _ (fun _  => HS.out _ hD hM) ?_
          have HM_ := Aside0.mk hM
          have HNM_ := Aside0.mk (show some m9 ≠ (Value.slice A4 (1 + b.length) c4).ownBlock from by rcases hat with hat | hat <;> rw [hat]; exact HNM.out; exact fun e => by injection e with e; have := blk_lt HM.out; omega)
          have HBX_ := Aside0.mk ((hgr.block _ (blk_lt HBX.out) (HN.out)).trans HBX.out)
          have HN_ := Aside0.mk (show some b8 ≠ (Value.slice A4 (1 + b.length) c4).ownBlock from by rcases hat with hat | hat <;> rw [hat]; exact HN.out; exact fun e => by injection e with e; have := blk_lt HBX.out; omega)
          have HO_ := Aside0.mk hown
          have HD_ := Aside0.mk hD
          clear HD
          have HD := HD_
          clear HD_
          clear HO
          have HO := HO_
          clear HO_
          clear HM HNM
          have HM := HM_
          have HNM := HNM_
          clear HM_ HNM_
          clear HBX HN
          have HBX := HBX_
          have HN := HN_
          clear HBX_ HN_
          clear hK K hown hgr hat hD hM ho
          try simp only [Act.put, List.setIfInBounds_toArray, List.set_cons_zero, List.set_cons_succ]
          refine Held.AnyS.step (i := 9) rfl (by kernel_rfl) rfl (fun K hK => ?_)
          have nw : ∀ j u, [.string (⟨#[126, 122]⟩ : ByteArray), .int .i64 2, .string s90, .bool false][j]? = some u → y5.cell? ((⟨b8, 0, none⟩ : Addr).add j) = some u := by simpa using World.news_of_block (cs := #[.string (⟨#[126, 122]⟩ : ByteArray), .int .i64 2, .string s90, .bool false]) (t := 33) (fr := (0, 0)) HBX.out
          refine Held.append_any (.tmp 53) (.tmp 57) 23 rfl Z9.heap.size 33 (.agg #[.string (⟨#[]⟩ : ByteArray), .int .i64 0, .string (⟨#[]⟩ : ByteArray), .bool false]) 4 48 Try.underlying23 (by kernel_rfl) rfl (by omega) (.slice A4 (1 + b.length) c4) (1 + b.length) ([.string (⟨#[126, 121]⟩ : ByteArray), .int .i64 (wrap64 (1 + wrap64 (2 * q))), .string (⟨#[97, 10, 98, 10]⟩ : ByteArray), .bool false] ++ ib) rfl HO.out (some ⟨b8, 0, none⟩) 1 1 [.string (⟨#[126, 122]⟩ : ByteArray), .int .i64 2, .string s90, .bool false] rfl rfl (.inr ⟨_, rfl, nw⟩) ?_ ?_ ?_ ?_ ?_
          · intro u hu; simp at hu; rcases hu with rfl | rfl | rfl | rfl <;> rfl
          · have := HK.out.lb; simp only [maxLen]; omega
          · have := HK.out.lb; omega
          · have := HD.out.size; omega
          intro v y6 hown hgr hat
          have hown : y6.ownsRow Z9.heap.size 33 4 v (1 + b.length + 1) ([.string (⟨#[126, 121]⟩ : ByteArray), .int .i64 (wrap64 (1 + wrap64 (2 * q))), .string (⟨#[97, 10, 98, 10]⟩ : ByteArray), .bool false] ++ ib ++ [.string (⟨#[126, 122]⟩ : ByteArray), .int .i64 2, .string s90, .bool false]) := hown
          obtain ⟨A7, c7, rfl⟩ := own_slice hown
          have hD : Below Z9.heap.size Z9 y6 := HD.out.grown hgr HD.out.size (fun k hk => own_base HO.out k hk)
          have hM : y6.heap[m9]? = some (.cells (madeCells #[.int .u8 0] 90) 5 (0, 0)) := (hgr.block _ (blk_lt HM.out) (HNM.out)).trans HM.out
          refine hK.out _ _ (fun _ => HS.out _ hD hM) ?_
          have HM_ := Aside0.mk hM
          have HNM_ := Aside0.mk (show some m9 ≠ (Value.slice A7 (1 + b.length + 1) c7).ownBlock from by rcases hat with hat | hat <;> rw [hat]; exact HNM.out; exact fun e => by injection e with e; have := blk_lt HM.out; omega)
          have HO_ := Aside0.mk hown
          have HD_ := Aside0.mk hD
          clear HD
          have HD := HD_
          clear HD_
          clear HO
          have HO := HO_
          clear HO_
          clear HM HNM
          have HM := HM_
          have HNM := HNM_
          clear HM_ HNM_
          clear hK K hown hgr hat hD hM nw
          try simp only [Act.put, List.setIfInBounds_toArray, List.set_cons_zero, List.set_cons_succ]
          refine Held.AnyS.step (i := 10) rfl (by kernel_rfl) rfl (fun K hK => ?_)
          go_simp
          refine hK.out _ _ (fun h => absurd h (by omega)) ?_
          clear hK K
          refine Held.AnyS.done (by kernel_rfl) ?_ _
          go_simp
          exact HJ9.out b1 b8 m9 A2 c2 A4 c4 A7 c7 y6 HO.out HD.out
    · have hmk : (Instr.makeSlice 38 (.int .i64 90) (.int .i64 90)).run Try.prog y1 = .ok (.slice (some ⟨y1.heap.size, 0, none⟩) 90 90) (y1.alloc (.cells (madeCells #[.int .u8 0] 90) 5)) := print_make (P := Try.prog) 38 5 .u8 1 Try.underlying38 (by kernel_rfl) (by decide) 90 (by decide) y1
      go_simp
      clear hmk
      obtain ⟨y2, hy⟩ : ∃ V, V = y1.alloc (.cells (madeCells #[.int .u8 0] 90) 5) := ⟨_, rfl⟩
      have hD : Below Z9.heap.size Z9 y2 := by rw [hy]; exact HD.out.alloc HD.out.size _
      have hw : Below y1.heap.size y1 y2 := by rw [hy]; exact (Below.refl _ _).alloc (Nat.le_refl _) _
      have hN : y2.heap[y1.heap.size]? = some (.cells (madeCells #[.int .u8 0] 90) 5 (0, 0)) := by rw [hy]; exact heap_alloc_new y1 _
      have hcv : ∀ bs, y1.heap.size ∈ bs → ∀ V, Held.Same y2 bs V → (convert 38 9 (.slice (some ⟨y1.heap.size, 0, none⟩) 90 90)).run Try.prog V = .ok (.string s90) V := fun bs hb V hV => Held.conv_made (by decide) Try.underlying38 Try.underlying5 Try.underlying9 y1 HS90.out (bs := bs) hb V (by rw [← hy]; exact hV)
      rw [← hy]
      have hT : Held.Same Z9 [yb] y2 := HS.out _ hD
      obtain ⟨m9, hbn⟩ : ∃ b, y1.heap.size = b := ⟨_, rfl⟩
      rw [hbn]
      refine hK.out _ _ (fun _ => hT) (Held.AnyS.imp (Held.Same.more hT (bs' := [m9, yb]) (fun b hb => List.mem_cons_of_mem _ hb)) _ _ _ _ ?_)
      have HB1_ := Aside0.mk (blk_below HB1.out hw)
      rw [hbn] at hN hcv
      have HD_ := Aside0.mk hD
      clear HD
      have HD := HD_
      clear HD_
      clear HB1
      have HB1 := HB1_
      clear HB1_
      clear hK K hbn hw hD hT
      have HM := Aside0.mk hN
      clear hN hy
      try simp only [Act.put, List.setIfInBounds_toArray, List.set_cons_zero, List.set_cons_succ]
      have hTy : Held.Same y2 [m9, yb] y2 := Held.Same.refl _ _
      have HMY := HM
      have HDY := HD
      clear HS
      have HS := Aside0.mk (fun w' (h : Below Z9.heap.size Z9 w') (hm : w'.heap[m9]? = some (.cells (madeCells #[.int .u8 0] 90) 5 (0, 0))) => (show Held.Same y2 [m9, yb] w' from fun b hb => by
        simp at hb
        rcases hb with rfl | rfl
        · exact hm.trans HMY.out.symm
        · have hl := HYL.out; exact (h.block _ hl).trans (HDY.out.block _ hl).symm))
      refine Held.tk (i := 6) rfl hTy ?_ (hy := fun V hV => (by have hc_ := hcv [m9, yb] (by simp) V hV; go_simp; try (with_reducible rfl)))
      clear hcv
      try simp only [Act.put, List.setIfInBounds_toArray, List.set_cons_zero, List.set_cons_succ]
      refine Held.tk (i := 7) rfl hTy ?_
      try simp only [Act.put, List.setIfInBounds_toArray, List.set_cons_zero, List.set_cons_succ]
      clear hTy HMY HDY
      refine Held.AnyS.step2 (i := 2) (j := 8) rfl rfl (by kernel_rfl) rfl rfl (fun K hK => ?_) (fun K hK => ?_)
      · have nw : ∀ j u, [.string (⟨#[126, 121]⟩ : ByteArray), .int .i64 (wrap64 (1 + wrap64 (2 * q))), .string (⟨#[97, 10, 98, 10]⟩ : ByteArray), .bool false][j]? = some u → y2.cell? ((⟨b1, 0, none⟩ : Addr).add j) = some u := by simpa using World.news_of_block (cs := #[.string (⟨#[126, 121]⟩ : ByteArray), .int .i64 (wrap64 (1 + wrap64 (2 * q))), .string (⟨#[97, 10, 98, 10]⟩ : ByteArray), .bool false]) (t := 33) (fr := (0, 0)) HB1.out
        refine Held.append_any (.const (.slice none 0 0)) (.tmp 50) 23 rfl Z9.heap.size 33 (.agg #[.string (⟨#[]⟩ : ByteArray), .int .i64 0, .string (⟨#[]⟩ : ByteArray), .bool false]) 4 48 Try.underlying23 (by kernel_rfl) rfl (by omega) (.slice none 0 0) 0 [] rfl (own_nil _ _ _ _) (some ⟨b1, 0, none⟩) 1 1 [.string (⟨#[126, 121]⟩ : ByteArray), .int .i64 (wrap64 (1 + wrap64 (2 * q))), .string (⟨#[97, 10, 98, 10]⟩ : ByteArray), .bool false] rfl rfl (.inr ⟨_, rfl, nw⟩) ?_ ?_ ?_ ?_ ?_
        · intro u hu; simp at hu; rcases hu with rfl | rfl | rfl | rfl <;> rfl
        · have := HK.out.lb; simp only [maxLen]; omega
        · have := HK.out.lb; omega
        · have := HD.out.size; omega
        intro v y3 hown hgr hat
        have hown : y3.ownsRow Z9.heap.size 33 4 v (1) ([.string (⟨#[126, 121]⟩ : ByteArray), .int .i64 (wrap64 (1 + wrap64 (2 * q))), .string (⟨#[97, 10, 98, 10]⟩ : ByteArray), .bool false]) := hown
        obtain ⟨A2, c2, rfl⟩ := own_slice hown
        have hD : Below Z9.heap.size Z9 y3 := HD.out.grown hgr HD.out.size (fun k hk => by simp [Value.ownBlock] at hk)
        have hM : y3.heap[m9]? = some (.cells (madeCells #[.int .u8 0] 90) 5 (0, 0)) := (hgr.block _ (blk_lt HM.out) (by simp [Value.ownBlock])).trans HM.out
        refine hK.out _ _ (fun _  => HS.out _ hD hM) ?_
        have HM_ := Aside0.mk hM
        have HNM_ := Aside0.mk (show some m9 ≠ (Value.slice A2 (1) c2).ownBlock from by rcases hat with hat | hat <;> rw [hat]; exact (by simp [Value.ownBlock]); exact fun e => by injection e with e; have := blk_lt HM.out; omega)
        have HO_ := Aside0.mk hown
        have HD_ := Aside0.mk hD
        clear HD
        have HD := HD_
        clear HD_
        clear HB1
        have HO := HO_
        clear HO_
        clear HM
        have HM := HM_
        have HNM := HNM_
        clear HM_ HNM_
        clear hK K hown hgr hat hD hM nw
        try simp only [Act.put, List.setIfInBounds_toArray, List.set_cons_zero, List.set_cons_succ]
        refine Held.AnyS.step2 (i := 4) (j := 8) rfl rfl (by kernel_rfl) rfl rfl (fun K hK => ?_) (fun K hK => ?_)
        · have ho := pw_own_below HOB9.out HD.out
          refine Held.append_any (.tmp 51) (.tmp 52) 23 rfl Z9.heap.size 33 (.agg #[.string (⟨#[]⟩ : ByteArray), .int .i64 0, .string (⟨#[]⟩ : ByteArray), .bool false]) 4 48 Try.underlying23 (by kernel_rfl) rfl (by omega) (.slice A2 (1) c2) 1 ([.string (⟨#[126, 121]⟩ : ByteArray), .int .i64 (wrap64 (1 + wrap64 (2 * q))), .string (⟨#[97, 10, 98, 10]⟩ : ByteArray), .bool false]) rfl HO.out Ab b.length cb ib rfl ho.1 (own_news ho) ?_ ?_ ?_ ?_ ?_
          · exact encI_one HRB.out
          · have := HK.out.lb; simp only [maxLen]; omega
          · have := HK.out.lb; omega
          · have := HD.out.size; omega
          intro v y4 hown hgr hat
          have hown : y4.ownsRow Z9.heap.size 33 4 v (1 + b.length) ([.string (⟨#[126, 121]⟩ : ByteArray), .int .i64 (wrap64 (1 + wrap64 (2 * q))), .string (⟨#[97, 10, 98, 10]⟩ : ByteArray), .bool false] ++ ib) := hown
          obtain ⟨A4, c4, rfl⟩ := own_slice hown
          have hD : Below Z9.heap.size Z9 y4 := HD.out.grown hgr HD.out.size (fun k hk => own_base HO.out k hk)
          have hM : y4.heap[m9]? = some (.cells (madeCells #[.int .u8 0] 90) 5 (0, 0)) := (hgr.block _ (blk_lt HM.out) (HNM.out)).trans HM.out
          refine hK.out _ _ (fun _  => HS.out _ hD hM) ?_
          have HM_ := Aside0.mk hM
          have HNM_ := Aside0.mk (show some m9 ≠ (Value.slice A4 (1 + b.length) c4).ownBlock from by rcases hat with hat | hat <;> rw [hat]; exact HNM.out; exact fun e => by injection e with e; have := blk_lt HM.out; omega)
          have HO_ := Aside0.mk hown
          have HD_ := Aside0.mk hD
          clear HD
          have HD := HD_
          clear HD_
          clear HO
          have HO := HO_
          clear HO_
          clear HM HNM
          have HM := HM_
          have HNM := HNM_
          clear HM_ HNM_
          clear hK K hown hgr hat hD hM ho
          try simp only [Act.put, List.setIfInBounds_toArray, List.set_cons_zero, List.set_cons_succ]
          refine Held.AnyS.step (i := 8) rfl (by kernel_rfl) rfl (fun K hK => ?_)
          go_simp
          first | refine ⟨trivial, ?_⟩ | skip
          obtain ⟨y5, hy⟩ : ∃ V, V = y4.alloc (.cells #[.string (⟨#[126, 122]⟩ : ByteArray), .int .i64 2, .string s90, .bool false] 33) := ⟨_, rfl⟩
          have hD : Below Z9.heap.size Z9 y5 := by rw [hy]; exact HD.out.alloc HD.out.size _
          have hw : Below y4.heap.size y4 y5 := by rw [hy]; exact (Below.refl _ _).alloc (Nat.le_refl _) _
          have hN : y5.heap[y4.heap.size]? = some (.cells #[.string (⟨#[126, 122]⟩ : ByteArray), .int .i64 2, .string s90, .bool false] 33 (0, 0)) := by rw [hy]; exact heap_alloc_new y4 _
          rw [← hy]
          have hM := blk_below HM.out hw
          refine hK.out _ _ (fun _ => HS.out _ hD hM) ?_
          obtain ⟨b8, hbn⟩ : ∃ b, y4.heap.size = b := ⟨_, rfl⟩
          have HM_ := Aside0.mk hM
          have HO_ := Aside0.mk (pw_own_below HO.out hw)
          have hNe : some b8 ≠ (Value.slice A4 (1 + b.length) c4).ownBlock := fun e => by have := own_lt HO.out b8 e.symm; omega
          rw [hbn] at hN ⊢
          have HD_ := Aside0.mk hD
          clear HD
          have HD := HD_
          clear HD_
          clear HM
          have HM := HM_
          clear HM_
          clear HO
          have HO := HO_
          clear HO_
          clear hK K hbn hw hD hM
          have HBX := Aside0.mk hN
          have HN := Aside0.mk hNe
          clear hNe
          clear hN hy
          try simp only [Act.put, List.setIfInBounds_toArray, List.set_cons_zero, List.set_cons_succ]
          refine Held.AnyS.step (i := 9) rfl (by kernel_rfl) rfl (fun K hK => ?_)
          have nw : ∀ j u, [.string (⟨#[126, 122]⟩ : ByteArray), .int .i64 2, .string s90, .bool false][j]? = some u → y5.cell? ((⟨b8, 0, none⟩ : Addr).add j) = some u := by simpa using World.news_of_block (cs := #[.string (⟨#[126, 122]⟩ : ByteArray), .int .i64 2, .string s90, .bool false]) (t := 33) (fr := (0, 0)) HBX.out
          refine Held.append_any (.tmp 53) (.tmp 57) 23 rfl Z9.heap.size 33 (.agg #[.string (⟨#[]⟩ : ByteArray), .int .i64 0, .string (⟨#[]⟩ : ByteArray), .bool false]) 4 48 Try.underlying23 (by kernel_rfl) rfl (by omega) (.slice A4 (1 + b.length) c4) (1 + b.length) ([.string (⟨#[126, 121]⟩ : ByteArray), .int .i64 (wrap64 (1 + wrap64 (2 * q))), .string (⟨#[97, 10, 98, 10]⟩ : ByteArray), .bool false] ++ ib) rfl HO.out (some ⟨b8, 0, none⟩) 1 1 [.string (⟨#[126, 122]⟩ : ByteArray), .int .i64 2, .string s90, .bool false] rfl rfl (.inr ⟨_, rfl, nw⟩) ?_ ?_ ?_ ?_ ?_
          · intro u hu; simp at hu; rcases hu with rfl | rfl | rfl | rfl <;> rfl
          · have := HK.out.lb; simp only [maxLen]; omega
          · have := HK.out.lb; omega
          · have := HD.out.size; omega
          intro v y6 hown hgr hat
          have hown : y6.ownsRow Z9.heap.size 33 4 v (1 + b.length + 1) ([.string (⟨#[126, 121]⟩ : ByteArray), .int .i64 (wrap64 (1 + wrap64 (2 * q))), .string (⟨#[97, 10, 98, 10]⟩ : ByteArray), .bool false] ++ ib ++ [.string (⟨#[126, 122]⟩ : ByteArray), .int .i64 2, .string s90, .bool false]) := hown
          obtain ⟨A7, c7, rfl⟩ := own_slice hown
          have hD : Below Z9.heap.size Z9 y6 := HD.out.grown hgr HD.out.size (fun k hk => own_base HO.out k hk)
          have hM : y6.heap[m9]? = some (.cells (madeCells #[.int .u8 0] 90) 5 (0, 0)) := (hgr.block _ (blk_lt HM.out) (HNM.out)).trans HM.out
          refine hK.out _ _ (fun _ => HS.out _ hD hM) ?_
          have HM_ := Aside0.mk hM
          have HNM_ := Aside0.mk (show some m9 ≠ (Value.slice A7 (1 + b.length + 1) c7).ownBlock from by rcases hat with hat | hat <;> rw [hat]; exact HNM.out; exact fun e => by injection e with e; have := blk_lt HM.out; omega)
          have HO_ := Aside0.mk hown
          have HD_ := Aside0.mk hD
          clear HD
          have HD := HD_
          clear HD_
          clear HO
          have HO := HO_
          clear HO_
          clear HM HNM
          have HM := HM_
          have HNM := HNM_
          clear HM_ HNM_
          clear hK K hown hgr hat hD hM nw
          try simp only [Act.put, List.setIfInBounds_toArray, List.set_cons_zero, List.set_cons_succ]
          refine Held.AnyS.step (i := 10) rfl (by kernel_rfl) rfl (fun K hK => ?_)
          go_simp
          refine hK.out _ _ (fun h => absurd h (by omega)) ?_
          clear hK K
          refine Held.AnyS.done (by kernel_rfl) ?_ _
          go_simp
          exact HJ9.out b1 b8 m9 A2 c2 A4 c4 A7 c7 y6 HO.out HD.out
        · go_simp
          first | refine ⟨trivial, ?_⟩ | skip
          obtain ⟨y4, hy⟩ : ∃ V, V = y3.alloc (.cells #[.string (⟨#[126, 122]⟩ : ByteArray), .int .i64 2, .string s90, .bool false] 33) := ⟨_, rfl⟩
          have hD : Below Z9.heap.size Z9 y4 := by rw [hy]; exact HD.out.alloc HD.out.size _
          have hw : Below y3.heap.size y3 y4 := by rw [hy]; exact (Below.refl _ _).alloc (Nat.le_refl _) _
          have hN : y4.heap[y3.heap.size]? = some (.cells #[.string (⟨#[126, 122]⟩ : ByteArray), .int .i64 2, .string s90, .bool false] 33 (0, 0)) := by rw [hy]; exact heap_alloc_new y3 _
          rw [← hy]
          have hM := blk_below HM.out hw
          refine hK.out _ _ (fun _ => HS.out _ hD hM) ?_
          obtain ⟨b8, hbn⟩ : ∃ b, y3.heap.size = b := ⟨_, rfl⟩
          have HM_ := Aside0.mk hM
          have HO_ := Aside0.mk (pw_own_below HO.out hw)
          have hNe : some b8 ≠ (Value.slice A2 (1) c2).ownBlock := fun e => by have := own_lt HO.out b8 e.symm; omega
          rw [hbn] at hN ⊢
          have HD_ := Aside0.mk hD
          clear HD
          have HD := HD_
          clear HD_
          clear HM
          have HM := HM_
          clear HM_
          clear HO
          have HO := HO_
          clear HO_
          clear hK K hbn hw hD hM
          have HBX := Aside0.mk hN
          have HN := Aside0.mk hNe
          clear hNe
          clear hN hy
          try simp only [Act.put, List.setIfInBounds_toArray, List.set_cons_zero, List.set_cons_succ]
          refine Held.AnyS.step (i := 4) rfl (by kernel_rfl) rfl (fun K hK => ?_)
          have ho := pw_own_below HOB9.out HD.out
          refine Held.append_any (.tmp 51) (.tmp 52) 23 rfl Z9.heap.size 33 (.agg #[.string (⟨#[]⟩ : ByteArray), .int .i64 0, .string (⟨#[]⟩ : ByteArray), .bool false]) 4 48 Try.underlying23 (by kernel_rfl) rfl (by omega) (.slice A2 (1) c2) 1 ([.string (⟨#[126, 121]⟩ : ByteArray), .int .i64 (wrap64 (1 + wrap64 (2 * q))), .string (⟨#[97, 10, 98, 10]⟩ : ByteArray), .bool false]) rfl HO.out Ab b.length cb ib rfl ho.1 (own_news ho) ?_ ?_ ?_ ?_ ?_
          · exact encI_one HRB.out
          · have := HK.out.lb; simp only [maxLen]; omega
          · have := HK.out.lb; omega
          · have := HD.out.size; omega
          intro v y5 hown hgr hat
          have hown : y5.ownsRow Z9.heap.size 33 4 v (1 + b.length) ([.string (⟨#[126, 121]⟩ : ByteArray), .int .i64 (wrap64 (1 + wrap64 (2 * q))), .string (⟨#[97, 10, 98, 10]⟩ : ByteArray), .bool false] ++ ib) := hown
          obtain ⟨A4, c4, rfl⟩ := own_slice hown
          have hD : Below Z9.heap.size Z9 y5 := HD.out.grown hgr HD.out.size (fun k hk => own_base HO.out k hk)
          have hM : y5.heap[m9]? = some (.cells (madeCells #[.int .u8 0] 90) 5 (0, 0)) := (hgr.block _ (blk_lt HM.out) (HNM.out)).trans HM.out
          refine hK.out _ _ (fun _  => HS.out _ hD hM) ?_
          have HM_ := Aside0.mk hM
          have HNM_ := Aside0.mk (show some m9 ≠ (Value.slice A4 (1 + b.length) c4).ownBlock from by rcases hat with hat | hat <;> rw [hat]; exact HNM.out; exact fun e => by injection e with e; have := blk_lt HM.out; omega)
          have HBX_ := Aside0.mk ((hgr.block _ (blk_lt HBX.out) (HN.out)).trans HBX.out)
          have HN_ := Aside0.mk (show some b8 ≠ (Value.slice A4 (1 + b.length) c4).ownBlock from by rcases hat with hat | hat <;> rw [hat]; exact HN.out; exact fun e => by injection e with e; have := blk_lt HBX.out; omega)
          have HO_ := Aside0.mk hown
          have HD_ := Aside0.mk hD
          clear HD
          have HD := HD_
          clear HD_
          clear HO
          have HO := HO_
          clear HO_
          clear HM HNM
          have HM := HM_
          have HNM := HNM_
          clear HM_ HNM_
          clear HBX HN
          have HBX := HBX_
          have HN := HN_
          clear HBX_ HN_
          clear hK K hown hgr hat hD hM ho
          try simp only [Act.put, List.setIfInBounds_toArray, List.set_cons_zero, List.set_cons_succ]
          refine Held.AnyS.step (i := 9) rfl (by kernel_rfl) rfl (fun K hK => ?_)
          have nw : ∀ j u, [.string (⟨#[126, 122]⟩ : ByteArray), .int .i64 2, .string s90, .bool false][j]? = some u → y5.cell? ((⟨b8, 0, none⟩ : Addr).add j) = some u := by simpa using World.news_of_block (cs := #[.string (⟨#[126, 122]⟩ : ByteArray), .int .i64 2, .string s90, .bool false]) (t := 33) (fr := (0, 0)) HBX.out
          refine Held.append_any (.tmp 53) (.tmp 57) 23 rfl Z9.heap.size 33 (.agg #[.string (⟨#[]⟩ : ByteArray), .int .i64 0, .string (⟨#[]⟩ : ByteArray), .bool false]) 4 48 Try.underlying23 (by kernel_rfl) rfl (by omega) (.slice A4 (1 + b.length) c4) (1 + b.length) ([.string (⟨#[126, 121]⟩ : ByteArray), .int .i64 (wrap64 (1 + wrap64 (2 * q))), .string (⟨#[97, 10, 98, 10]⟩ : ByteArray), .bool false] ++ ib) rfl HO.out (some ⟨b8, 0, none⟩) 1 1 [.string (⟨#[126, 122]⟩ : ByteArray), .int .i64 2, .string s90, .bool false] rfl rfl (.inr ⟨_, rfl, nw⟩) ?_ ?_ ?_ ?_ ?_
          · intro u hu; simp at hu; rcases hu with rfl | rfl | rfl | rfl <;> rfl
          · have := HK.out.lb; simp only [maxLen]; omega
          · have := HK.out.lb; omega
          · have := HD.out.size; omega
          intro v y6 hown hgr hat
          have hown : y6.ownsRow Z9.heap.size 33 4 v (1 + b.length + 1) ([.string (⟨#[126, 121]⟩ : ByteArray), .int .i64 (wrap64 (1 + wrap64 (2 * q))), .string (⟨#[97, 10, 98, 10]⟩ : ByteArray), .bool false] ++ ib ++ [.string (⟨#[126, 122]⟩ : ByteArray), .int .i64 2, .string s90, .bool false]) := hown
          obtain ⟨A7, c7, rfl⟩ := own_slice hown
          have hD : Below Z9.heap.size Z9 y6 := HD.out.grown hgr HD.out.size (fun k hk => own_base HO.out k hk)
          have hM : y6.heap[m9]? = some (.cells (madeCells #[.int .u8 0] 90) 5 (0, 0)) := (hgr.block _ (blk_lt HM.out) (HNM.out)).trans HM.out
          refine hK.out _ _ (fun _ => HS.out _ hD hM) ?_
          have HM_ := Aside0.mk hM
          have HNM_ := Aside0.mk (show some m9 ≠ (Value.slice A7 (1 + b.length + 1) c7).ownBlock from by rcases hat with hat | hat <;> rw [hat]; exact HNM.out; exact fun e => by injection e with e; have := blk_lt HM.out; omega)
          have HO_ := Aside0.mk hown
          have HD_ := Aside0.mk hD
          clear HD
          have HD := HD_
          clear HD_
          clear HO
          have HO := HO_
          clear HO_
          clear HM HNM
          have HM := HM_
          have HNM := HNM_
          clear HM_ HNM_
          clear hK K hown hgr hat hD hM nw
          try simp only [Act.put, List.setIfInBounds_toArray, List.set_cons_zero, List.set_cons_succ]
          refine Held.AnyS.step (i := 10) rfl (by kernel_rfl) rfl (fun K hK => ?_)
          go_simp
          refine hK.out _ _ (fun h => absurd h (by omega)) ?_
          clear hK K
          refine Held.AnyS.done (by kernel_rfl) ?_ _
          go_simp
          exact HJ9.out b1 b8 m9 A2 c2 A4 c4 A7 c7 y6 HO.out HD.out
      · go_simp
        first | refine ⟨trivial, ?_⟩ | skip
        obtain ⟨y3, hy⟩ : ∃ V, V = y2.alloc (.cells #[.string (⟨#[126, 122]⟩ : ByteArray), .int .i64 2, .string s90, .bool false] 33) := ⟨_, rfl⟩
        have hD : Below Z9.heap.size Z9 y3 := by rw [hy]; exact HD.out.alloc HD.out.size _
        have hw : Below y2.heap.size y2 y3 := by rw [hy]; exact (Below.refl _ _).alloc (Nat.le_refl _) _
        have hN : y3.heap[y2.heap.size]? = some (.cells #[.string (⟨#[126, 122]⟩ : ByteArray), .int .i64 2, .string s90, .bool false] 33 (0, 0)) := by rw [hy]; exact heap_alloc_new y2 _
        rw [← hy]
        have hM := blk_below HM.out hw
        refine hK.out _ _ (fun _ => HS.out _ hD hM) ?_
        obtain ⟨b8, hbn⟩ : ∃ b, y2.heap.size = b := ⟨_, rfl⟩
        have HM_ := Aside0.mk hM
        have HB1_ := Aside0.mk (blk_below HB1.out hw)
        rw [hbn] at hN ⊢
        have HD_ := Aside0.mk hD
        clear HD
        have HD := HD_
        clear HD_
        clear HM
        have HM := HM_
        clear HM_
        clear HB1
        have HB1 := HB1_
        clear HB1_
        clear hK K hbn hw hD hM
        have HBX := Aside0.mk hN
        clear hN hy
        try simp only [Act.put, List.setIfInBounds_toArray, List.set_cons_zero, List.set_cons_succ]
        refine Held.AnyS.step (i := 2) rfl (by kernel_rfl) rfl (fun K hK => ?_)
        have nw : ∀ j u, [.string (⟨#[126, 121]⟩ : ByteArray), .int .i64 (wrap64 (1 + wrap64 (2 * q))), .string (⟨#[97, 10, 98, 10]⟩ : ByteArray), .bool false][j]? = some u → y3.cell? ((⟨b1, 0, none⟩ : Addr).add j) = some u := by simpa using World.news_of_block (cs := #[.string (⟨#[126, 121]⟩ : ByteArray), .int .i64 (wrap64 (1 + wrap64 (2 * q))), .string (⟨#[97, 10, 98, 10]⟩ : ByteArray), .bool false]) (t := 33) (fr := (0, 0)) HB1.out
        refine Held.append_any (.const (.slice none 0 0)) (.tmp 50) 23 rfl Z9.heap.size 33 (.agg #[.string (⟨#[]⟩ : ByteArray), .int .i64 0, .string (⟨#[]⟩ : ByteArray), .bool false]) 4 48 Try.underlying23 (by kernel_rfl) rfl (by omega) (.slice none 0 0) 0 [] rfl (own_nil _ _ _ _) (some ⟨b1, 0, none⟩) 1 1 [.string (⟨#[126, 121]⟩ : ByteArray), .int .i64 (wrap64 (1 + wrap64 (2 * q))), .string (⟨#[97, 10, 98, 10]⟩ : ByteArray), .bool false] rfl rfl (.inr ⟨_, rfl, nw⟩) ?_ ?_ ?_ ?_ ?_
        · intro u hu; simp at hu; rcases hu with rfl | rfl | rfl | rfl <;> rfl
        · have := HK.out.lb; simp only [maxLen]; omega
        · have := HK.out.lb; omega
        · have := HD.out.size; omega
        intro v y4 hown hgr hat
        have hown : y4.ownsRow Z9.heap.size 33 4 v (1) ([.string (⟨#[126, 121]⟩ : ByteArray), .int .i64 (wrap64 (1 + wrap64 (2 * q))), .string (⟨#[97, 10, 98, 10]⟩ : ByteArray), .bool false]) := hown
        obtain ⟨A2, c2, rfl⟩ := own_slice hown
        have hD : Below Z9.heap.size Z9 y4 := HD.out.grown hgr HD.out.size (fun k hk => by simp [Value.ownBlock] at hk)
        have hM : y4.heap[m9]? = some (.cells (madeCells #[.int .u8 0] 90) 5 (0, 0)) := (hgr.block _ (blk_lt HM.out) (by simp [Value.ownBlock])).trans HM.out
        refine hK.out _ _ (fun _  => HS.out _ hD hM) ?_
        have HM_ := Aside0.mk hM
        have HNM_ := Aside0.mk (show some m9 ≠ (Value.slice A2 (1) c2).ownBlock from by rcases hat with hat | hat <;> rw [hat]; exact (by simp [Value.ownBlock]); exact fun e => by injection e with e; have := blk_lt HM.out; omega)
        have HBX_ := Aside0.mk ((hgr.block _ (blk_lt HBX.out) (by simp [Value.ownBlock])).trans HBX.out)
        have HN_ := Aside0.mk (show some b8 ≠ (Value.slice A2 (1) c2).ownBlock from by rcases hat with hat | hat <;> rw [hat]; exact (by simp [Value.ownBlock]); exact fun e => by injection e with e; have := blk_lt HBX.out; omega)
        have HO_ := Aside0.mk hown
        have HD_ := Aside0.mk hD
        clear HD
        have HD := HD_
        clear HD_
        clear HB1
        have HO := HO_
        clear HO_
        clear HM
        have HM := HM_
        have HNM := HNM_
        clear HM_ HNM_
        clear HBX
        have HBX := HBX_
        have HN := HN_
        clear HBX_ HN_
        clear hK K hown hgr hat hD hM nw
        try simp only [Act.put, List.setIfInBounds_toArray, List.set_cons_zero, List.set_cons_succ]
        refine Held.AnyS.step (i := 4) rfl (by kernel_rfl) rfl (fun K hK => ?_)
        have ho := pw_own_below HOB9.out HD.out
        refine Held.append_any (.tmp 51) (.tmp 52) 23 rfl Z9.heap.size 33 (.agg #[.string (⟨#[]⟩ : ByteArray), .int .i64 0, .string (⟨#[]⟩ : ByteArray), .bool false]) 4 48 Try.underlying23 (by kernel_rfl) rfl (by omega) (.slice A2 (1) c2) 1 ([.string (⟨#[126, 121]⟩ : ByteArray), .int .i64 (wrap64 (1 + wrap64 (2 * q))), .string (⟨#[97, 10, 98, 10]⟩ : ByteArray), .bool false]) rfl HO.out Ab b.length cb ib rfl ho.1 (own_news ho) ?_ ?_ ?_ ?_ ?_
        · exact encI_one HRB.out
        · have := HK.out.lb; simp only [maxLen]; omega
        · have := HK.out.lb; omega
        · have := HD.out.size; omega
        intro v y5 hown hgr hat
        have hown : y5.ownsRow Z9.heap.size 33 4 v (1 + b.length) ([.string (⟨#[126, 121]⟩ : ByteArray), .int .i64 (wrap64 (1 + wrap64 (2 * q))), .string (⟨#[97, 10, 98, 10]⟩ : ByteArray), .bool false] ++ ib) := hown
        obtain ⟨A4, c4, rfl⟩ := own_slice hown
        have hD : Below Z9.heap.size Z9 y5 := HD.out.grown hgr HD.out.size (fun k hk => own_base HO.out k hk)
        have hM : y5.heap[m9]? = some (.cells (madeCells #[.int .u8 0] 90) 5 (0, 0)) := (hgr.block _ (blk_lt HM.out) (HNM.out)).trans HM.out
        refine hK.out _ _ (fun _  => HS.out _ hD hM) ?_
        have HM_ := Aside0.mk hM
        have HNM_ := Aside0.mk (show some m9 ≠ (Value.slice A4 (1 + b.length) c4).ownBlock from by rcases hat with hat | hat <;> rw [hat]; exact HNM.out; exact fun e => by injection e with e; have := blk_lt HM.out; omega)
        have HBX_ := Aside0.mk ((hgr.block _ (blk_lt HBX.out) (HN.out)).trans HBX.out)
        have HN_ := Aside0.mk (show some b8 ≠ (Value.slice A4 (1 + b.length) c4).ownBlock from by rcases hat with hat | hat <;> rw [hat]; exact HN.out; exact fun e => by injection e with e; have := blk_lt HBX.out; omega)
        have HO_ := Aside0.mk hown
        have HD_ := Aside0.mk hD
        clear HD
        have HD := HD_
        clear HD_
        clear HO
        have HO := HO_
        clear HO_
        clear HM HNM
        have HM := HM_
        have HNM := HNM_
        clear HM_ HNM_
        clear HBX HN
        have HBX := HBX_
        have HN := HN_
        clear HBX_ HN_
        clear hK K hown hgr hat hD hM ho
        try simp only [Act.put, List.setIfInBounds_toArray, List.set_cons_zero, List.set_cons_succ]
        refine Held.AnyS.step (i := 9) rfl (by kernel_rfl) rfl (fun K hK => ?_)
        have nw : ∀ j u, [.string (⟨#[126, 122]⟩ : ByteArray), .int .i64 2, .string s90, .bool false][j]? = some u → y5.cell? ((⟨b8, 0, none⟩ : Addr).add j) = some u := by simpa using World.news_of_block (cs := #[.string (⟨#[126, 122]⟩ : ByteArray), .int .i64 2, .string s90, .bool false]) (t := 33) (fr := (0, 0)) HBX.out
        refine Held.append_any (.tmp 53) (.tmp 57) 23 rfl Z9.heap.size 33 (.agg #[.string (⟨#[]⟩ : ByteArray), .int .i64 0, .string (⟨#[]⟩ : ByteArray), .bool false]) 4 48 Try.underlying23 (by kernel_rfl) rfl (by omega) (.slice A4 (1 + b.length) c4) (1 + b.length) ([.string (⟨#[126, 121]⟩ : ByteArray), .int .i64 (wrap64 (1 + wrap64 (2 * q))), .string (⟨#[97, 10, 98, 10]⟩ : ByteArray), .bool false] ++ ib) rfl HO.out (some ⟨b8, 0, none⟩) 1 1 [.string (⟨#[126, 122]⟩ : ByteArray), .int .i64 2, .string s90, .bool false] rfl rfl (.inr ⟨_, rfl, nw⟩) ?_ ?_ ?_ ?_ ?_
        · intro u hu; simp at hu; rcases hu with rfl | rfl | rfl | rfl <;> rfl
        · have := HK.out.lb; simp only [maxLen]; omega
        · have := HK.out.lb; omega
        · have := HD.out.size; omega
        intro v y6 hown hgr hat
        have hown : y6.ownsRow Z9.heap.size 33 4 v (1 + b.length + 1) ([.string (⟨#[126, 121]⟩ : ByteArray), .int .i64 (wrap64 (1 + wrap64 (2 * q))), .string (⟨#[97, 10, 98, 10]⟩ : ByteArray), .bool false] ++ ib ++ [.string (⟨#[126, 122]⟩ : ByteArray), .int .i64 2, .string s90, .bool false]) := hown
        obtain ⟨A7, c7, rfl⟩ := own_slice hown
        have hD : Below Z9.heap.size Z9 y6 := HD.out.grown hgr HD.out.size (fun k hk => own_base HO.out k hk)
        have hM : y6.heap[m9]? = some (.cells (madeCells #[.int .u8 0] 90) 5 (0, 0)) := (hgr.block _ (blk_lt HM.out) (HNM.out)).trans HM.out
        refine hK.out _ _ (fun _ => HS.out _ hD hM) ?_
        have HM_ := Aside0.mk hM
        have HNM_ := Aside0.mk (show some m9 ≠ (Value.slice A7 (1 + b.length + 1) c7).ownBlock from by rcases hat with hat | hat <;> rw [hat]; exact HNM.out; exact fun e => by injection e with e; have := blk_lt HM.out; omega)
        have HO_ := Aside0.mk hown
        have HD_ := Aside0.mk hD
        clear HD
        have HD := HD_
        clear HD_
        clear HO
        have HO := HO_
        clear HO_
        clear HM HNM
        have HM := HM_
        have HNM := HNM_
        clear HM_ HNM_
        clear hK K hown hgr hat hD hM nw
        try simp only [Act.put, List.setIfInBounds_toArray, List.set_cons_zero, List.set_cons_succ]
        refine Held.AnyS.step (i := 10) rfl (by kernel_rfl) rfl (fun K hK => ?_)
        go_simp
        refine hK.out _ _ (fun h => absurd h (by omega)) ?_
        clear hK K
        refine Held.AnyS.done (by kernel_rfl) ?_ _
        go_simp
        exact HJ9.out b1 b8 m9 A2 c2 A4 c4 A7 c7 y6 HO.out HD.out
  · have hmk : (Instr.makeSlice 38 (.int .i64 90) (.int .i64 90)).run Try.prog Z9 = .ok (.slice (some ⟨Z9.heap.size, 0, none⟩) 90 90) (Z9.alloc (.cells (madeCells #[.int .u8 0] 90) 5)) := print_make (P := Try.prog) 38 5 .u8 1 Try.underlying38 (by kernel_rfl) (by decide) 90 (by decide) Z9
    go_simp
    clear hmk
    obtain ⟨y1, hy⟩ : ∃ V, V = Z9.alloc (.cells (madeCells #[.int .u8 0] 90) 5) := ⟨_, rfl⟩
    have hD : Below Z9.heap.size Z9 y1 := by rw [hy]; exact HD.out.alloc HD.out.size _
    have hw : Below Z9.heap.size Z9 y1 := by rw [hy]; exact (Below.refl _ _).alloc (Nat.le_refl _) _
    have hN : y1.heap[Z9.heap.size]? = some (.cells (madeCells #[.int .u8 0] 90) 5 (0, 0)) := by rw [hy]; exact heap_alloc_new Z9 _
    have hcv : ∀ bs, Z9.heap.size ∈ bs → ∀ V, Held.Same y1 bs V → (convert 38 9 (.slice (some ⟨Z9.heap.size, 0, none⟩) 90 90)).run Try.prog V = .ok (.string s90) V := fun bs hb V hV => Held.conv_made (by decide) Try.underlying38 Try.underlying5 Try.underlying9 Z9 HS90.out (bs := bs) hb V (by rw [← hy]; exact hV)
    rw [← hy]
    have hT : Held.Same Z9 [yb] y1 := HS.out _ hD
    obtain ⟨m9, hbn⟩ : ∃ b, Z9.heap.size = b := ⟨_, rfl⟩
    rw [hbn]
    refine hK.out _ _ (fun _ => hT) (Held.AnyS.imp (Held.Same.more hT (bs' := [m9, yb]) (fun b hb => List.mem_cons_of_mem _ hb)) _ _ _ _ ?_)
    rw [hbn] at hN hcv
    have HD_ := Aside0.mk hD
    clear HD
    have HD := HD_
    clear HD_
    clear hK K hbn hw hD hT
    have HM := Aside0.mk hN
    clear hN hy
    try simp only [Act.put, List.setIfInBounds_toArray, List.set_cons_zero, List.set_cons_succ]
    have hTy : Held.Same y1 [m9, yb] y1 := Held.Same.refl _ _
    have HMY := HM
    have HDY := HD
    clear HS
    have HS := Aside0.mk (fun w' (h : Below Z9.heap.size Z9 w') (hm : w'.heap[m9]? = some (.cells (madeCells #[.int .u8 0] 90) 5 (0, 0))) => (show Held.Same y1 [m9, yb] w' from fun b hb => by
      simp at hb
      rcases hb with rfl | rfl
      · exact hm.trans HMY.out.symm
      · have hl := HYL.out; exact (h.block _ hl).trans (HDY.out.block _ hl).symm))
    refine Held.tk (i := 6) rfl hTy ?_ (hy := fun V hV => (by have hc_ := hcv [m9, yb] (by simp) V hV; go_simp; try (with_reducible rfl)))
    clear hcv
    try simp only [Act.put, List.setIfInBounds_toArray, List.set_cons_zero, List.set_cons_succ]
    refine Held.tk (i := 7) rfl hTy ?_
    try simp only [Act.put, List.setIfInBounds_toArray, List.set_cons_zero, List.set_cons_succ]
    clear hTy HMY HDY
    refine Held.AnyS.step2 (i := 1) (j := 8) rfl rfl (by kernel_rfl) rfl rfl (fun K hK => ?_) (fun K hK => ?_)
    · go_simp
      first | refine ⟨trivial, ?_⟩ | skip
      obtain ⟨y2, hy⟩ : ∃ V, V = y1.alloc (.cells #[.string (⟨#[126, 121]⟩ : ByteArray), .int .i64 (wrap64 (1 + wrap64 (2 * q))), .string (⟨#[97, 10, 98, 10]⟩ : ByteArray), .bool false] 33) := ⟨_, rfl⟩
      have hD : Below Z9.heap.size Z9 y2 := by rw [hy]; exact HD.out.alloc HD.out.size _
      have hw : Below y1.heap.size y1 y2 := by rw [hy]; exact (Below.refl _ _).alloc (Nat.le_refl _) _
      have hN : y2.heap[y1.heap.size]? = some (.cells #[.string (⟨#[126, 121]⟩ : ByteArray), .int .i64 (wrap64 (1 + wrap64 (2 * q))), .string (⟨#[97, 10, 98, 10]⟩ : ByteArray), .bool false] 33 (0, 0)) := by rw [hy]; exact heap_alloc_new y1 _
      rw [← hy]
      have hM := blk_below HM.out hw
      refine hK.out _ _ (fun _ => HS.out _ hD hM) ?_
      obtain ⟨b1, hbn⟩ : ∃ b, y1.heap.size = b := ⟨_, rfl⟩
      have HM_ := Aside0.mk hM
      rw [hbn] at hN ⊢
      have HD_ := Aside0.mk hD
      clear HD
      have HD := HD_
      clear HD_
      clear HM
      have HM := HM_
      clear HM_
      clear hK K hbn hw hD hM
      have HB1 := Aside0.mk hN
      clear hN hy
      try simp only [Act.put, List.setIfInBounds_toArray, List.set_cons_zero, List.set_cons_succ]
      refine Held.AnyS.step2 (i := 2) (j := 8) rfl rfl (by kernel_rfl) rfl rfl (fun K hK => ?_) (fun K hK => ?_)
      · have nw : ∀ j u, [.string (⟨#[126, 121]⟩ : ByteArray), .int .i64 (wrap64 (1 + wrap64 (2 * q))), .string (⟨#[97, 10, 98, 10]⟩ : ByteArray), .bool false][j]? = some u → y2.cell? ((⟨b1, 0, none⟩ : Addr).add j) = some u := by simpa using World.news_of_block (cs := #[.string (⟨#[126, 121]⟩ : ByteArray), .int .i64 (wrap64 (1 + wrap64 (2 * q))), .string (⟨#[97, 10, 98, 10]⟩ : ByteArray), .bool false]) (t := 33) (fr := (0, 0)) HB1.out
        refine Held.append_any (.const (.slice none 0 0)) (.tmp 50) 23 rfl Z9.heap.size 33 (.agg #[.string (⟨#[]⟩ : ByteArray), .int .i64 0, .string (⟨#[]⟩ : ByteArray), .bool false]) 4 48 Try.underlying23 (by kernel_rfl) rfl (by omega) (.slice none 0 0) 0 [] rfl (own_nil _ _ _ _) (some ⟨b1, 0, none⟩) 1 1 [.string (⟨#[126, 121]⟩ : ByteArray), .int .i64 (wrap64 (1 + wrap64 (2 * q))), .string (⟨#[97, 10, 98, 10]⟩ : ByteArray), .bool false] rfl rfl (.inr ⟨_, rfl, nw⟩) ?_ ?_ ?_ ?_ ?_
        · intro u hu; simp at hu; rcases hu with rfl | rfl | rfl | rfl <;> rfl
        · have := HK.out.lb; simp only [maxLen]; omega
        · have := HK.out.lb; omega
        · have := HD.out.size; omega
        intro v y3 hown hgr hat
        have hown : y3.ownsRow Z9.heap.size 33 4 v (1) ([.string (⟨#[126, 121]⟩ : ByteArray), .int .i64 (wrap64 (1 + wrap64 (2 * q))), .string (⟨#[97, 10, 98, 10]⟩ : ByteArray), .bool false]) := hown
        obtain ⟨A2, c2, rfl⟩ := own_slice hown
        have hD : Below Z9.heap.size Z9 y3 := HD.out.grown hgr HD.out.size (fun k hk => by simp [Value.ownBlock] at hk)
        have hM : y3.heap[m9]? = some (.cells (madeCells #[.int .u8 0] 90) 5 (0, 0)) := (hgr.block _ (blk_lt HM.out) (by simp [Value.ownBlock])).trans HM.out
        refine hK.out _ _ (fun _  => HS.out _ hD hM) ?_
        have HM_ := Aside0.mk hM
        have HNM_ := Aside0.mk (show some m9 ≠ (Value.slice A2 (1) c2).ownBlock from by rcases hat with hat | hat <;> rw [hat]; exact (by simp [Value.ownBlock]); exact fun e => by injection e with e; have := blk_lt HM.out; omega)
        have HO_ := Aside0.mk hown
        have HD_ := Aside0.mk hD
        clear HD
        have HD := HD_
        clear HD_
        clear HB1
        have HO := HO_
        clear HO_
        clear HM
        have HM := HM_
        have HNM := HNM_
        clear HM_ HNM_
        clear hK K hown hgr hat hD hM nw
        try simp only [Act.put, List.setIfInBounds_toArray, List.set_cons_zero, List.set_cons_succ]
        refine Held.AnyS.step2 (i := 4) (j := 8) rfl rfl (by kernel_rfl) rfl rfl (fun K hK => ?_) (fun K hK => ?_)
        · have ho := pw_own_below HOB9.out HD.out
          refine Held.append_any (.tmp 51) (.tmp 52) 23 rfl Z9.heap.size 33 (.agg #[.string (⟨#[]⟩ : ByteArray), .int .i64 0, .string (⟨#[]⟩ : ByteArray), .bool false]) 4 48 Try.underlying23 (by kernel_rfl) rfl (by omega) (.slice A2 (1) c2) 1 ([.string (⟨#[126, 121]⟩ : ByteArray), .int .i64 (wrap64 (1 + wrap64 (2 * q))), .string (⟨#[97, 10, 98, 10]⟩ : ByteArray), .bool false]) rfl HO.out Ab b.length cb ib rfl ho.1 (own_news ho) ?_ ?_ ?_ ?_ ?_
          · exact encI_one HRB.out
          · have := HK.out.lb; simp only [maxLen]; omega
          · have := HK.out.lb; omega
          · have := HD.out.size; omega
          intro v y4 hown hgr hat
          have hown : y4.ownsRow Z9.heap.size 33 4 v (1 + b.length) ([.string (⟨#[126, 121]⟩ : ByteArray), .int .i64 (wrap64 (1 + wrap64 (2 * q))), .string (⟨#[97, 10, 98, 10]⟩ : ByteArray), .bool false] ++ ib) := hown
          obtain ⟨A4, c4, rfl⟩ := own_slice hown
          have hD : Below Z9.heap.size Z9 y4 := HD.out.grown hgr HD.out.size (fun k hk => own_base HO.out k hk)
          have hM : y4.heap[m9]? = some (.cells (madeCells #[.int .u8 0] 90) 5 (0, 0)) := (hgr.block _ (blk_lt HM.out) (HNM.out)).trans HM.out
          refine hK.out _ _ (fun _  => HS.out _ hD hM) ?_
          have HM_ := Aside0.mk hM
          have HNM_ := Aside0.mk (show some m9 ≠ (Value.slice A4 (1 + b.length) c4).ownBlock from by rcases hat with hat | hat <;> rw [hat]; exact HNM.out; exact fun e => by injection e with e; have := blk_lt HM.out; omega)
          have HO_ := Aside0.mk hown
          have HD_ := Aside0.mk hD
          clear HD
          have HD := HD_
          clear HD_
          clear HO
          have HO := HO_
          clear HO_
          clear HM HNM
          have HM := HM_
          have HNM := HNM_
          clear HM_ HNM_
          clear hK K hown hgr hat hD hM ho
          try simp only [Act.put, List.setIfInBounds_toArray, List.set_cons_zero, List.set_cons_succ]
          refine Held.AnyS.step (i := 8) rfl (by kernel_rfl) rfl (fun K hK => ?_)
          go_simp
          first | refine ⟨trivial, ?_⟩ | skip
          obtain ⟨y5, hy⟩ : ∃ V, V = y4.alloc (.cells #[.string (⟨#[126, 122]⟩ : ByteArray), .int .i64 2, .string s90, .bool false] 33) := ⟨_, rfl⟩
          have hD : Below Z9.heap.size Z9 y5 := by rw [hy]; exact HD.out.alloc HD.out.size _
          have hw : Below y4.heap.size y4 y5 := by rw [hy]; exact (Below.refl _ _).alloc (Nat.le_refl _) _
          have hN : y5.heap[y4.heap.size]? = some (.cells #[.string (⟨#[126, 122]⟩ : ByteArray), .int .i64 2, .string s90, .bool false] 33 (0, 0)) := by rw [hy]; exact heap_alloc_new y4 _
          rw [← hy]
          have hM := blk_below HM.out hw
          refine hK.out _ _ (fun _ => HS.out _ hD hM) ?_
          obtain ⟨b8, hbn⟩ : ∃ b, y4.heap.size = b := ⟨_, rfl⟩
          have HM_ := Aside0.mk hM
          have HO_ := Aside0.mk (pw_own_below HO.out hw)
          have hNe : some b8 ≠ (Value.slice A4 (1 + b.length) c4).ownBlock := fun e => by have := own_lt HO.out b8 e.symm; omega
          rw [hbn] at hN ⊢
          have HD_ := Aside0.mk hD
          clear HD
          have HD := HD_
          clear HD_
          clear HM
          have HM := HM_
          clear HM_
          clear HO
          have HO := HO_
          clear HO_
          clear hK K hbn hw hD hM
          have HBX := Aside0.mk hN
          have HN := Aside0.mk hNe
          clear hNe
          clear hN hy
          try simp only [Act.put, List.setIfInBounds_toArray, List.set_cons_zero, List.set_cons_succ]
          refine Held.AnyS.step (i := 9) rfl (by kernel_rfl) rfl (fun K hK => ?_)
          have nw : ∀ j u, [.string (⟨#[126, 122]⟩ : ByteArray), .int .i64 2, .string s90, .bool false][j]? = some u → y5.cell? ((⟨b8, 0, none⟩ : Addr).add j) = some u := by simpa using World.news_of_block (cs := #[.string (⟨#[126, 122]⟩ : ByteArray), .int .i64 2, .string s90, .bool false]) (t := 33) (fr := (0, 0)) HBX.out
          refine Held.append_any (.tmp 53) (.tmp 57) 23 rfl Z9.heap.size 33 (.agg #[.string (⟨#[]⟩ : ByteArray), .int .i64 0, .string (⟨#[]⟩ : ByteArray), .bool false]) 4 48 Try.underlying23 (by kernel_rfl) rfl (by omega) (.slice A4 (1 + b.length) c4) (1 + b.length) ([.string (⟨#[126, 121]⟩ : ByteArray), .int .i64 (wrap64 (1 + wrap64 (2 * q))), .string (⟨#[97, 10, 98, 10]⟩ : ByteArray), .bool false] ++ ib) rfl HO.out (some ⟨b8, 0, none⟩) 1 1 [.string (⟨#[126, 122]⟩ : ByteArray), .int .i64 2, .string s90, .bool false] rfl rfl (.inr ⟨_, rfl, nw⟩) ?_ ?_ ?_ ?_ ?_
          · intro u hu; simp at hu; rcases hu with rfl | rfl | rfl | rfl <;> rfl
          · have := HK.out.lb; simp only [maxLen]; omega
          · have := HK.out.lb; omega
          · have := HD.out.size; omega
          intro v y6 hown hgr hat
          have hown : y6.ownsRow Z9.heap.size 33 4 v (1 + b.length + 1) ([.string (⟨#[126, 121]⟩ : ByteArray), .int .i64 (wrap64 (1 + wrap64 (2 * q))), .string (⟨#[97, 10, 98, 10]⟩ : ByteArray), .bool false] ++ ib ++ [.string (⟨#[126, 122]⟩ : ByteArray), .int .i64 2, .string s90, .bool false]) := hown
          obtain ⟨A7, c7, rfl⟩ := own_slice hown
          have hD : Below Z9.heap.size Z9 y6 := HD.out.grown hgr HD.out.size (fun k hk => own_base HO.out k hk)
          have hM : y6.heap[m9]? = some (.cells (madeCells #[.int .u8 0] 90) 5 (0, 0)) := (hgr.block _ (blk_lt HM.out) (HNM.out)).trans HM.out
          refine hK.out _ _ (fun _ => HS.out _ hD hM) ?_
          have HM_ := Aside0.mk hM
          have HNM_ := Aside0.mk (show some m9 ≠ (Value.slice A7 (1 + b.length + 1) c7).ownBlock from by rcases hat with hat | hat <;> rw [hat]; exact HNM.out; exact fun e => by injection e with e; have := blk_lt HM.out; omega)
          have HO_ := Aside0.mk hown
          have HD_ := Aside0.mk hD
          clear HD
          have HD := HD_
          clear HD_
          clear HO
          have HO := HO_
          clear HO_
          clear HM HNM
          have HM := HM_
          have HNM := HNM_
          clear HM_ HNM_
          clear hK K hown hgr hat hD hM nw
          try simp only [Act.put, List.setIfInBounds_toArray, List.set_cons_zero, List.set_cons_succ]
          refine Held.AnyS.step (i := 10) rfl (by kernel_rfl) rfl (fun K hK => ?_)
          go_simp
          refine hK.out _ _ (fun h => absurd h (by omega)) ?_
          clear hK K
          refine Held.AnyS.done (by kernel_rfl) ?_ _
          go_simp
          exact HJ9.out b1 b8 m9 A2 c2 A4 c4 A7 c7 y6 HO.out HD.out
        · go_simp
          first | refine ⟨trivial, ?_⟩ | skip
          obtain ⟨y4, hy⟩ : ∃ V, V = y3.alloc (.cells #[.string (⟨#[126, 122]⟩ : ByteArray), .int .i64 2, .string s90, .bool false] 33) := ⟨_, rfl⟩
          have hD : Below Z9.heap.size Z9 y4 := by rw [hy]; exact HD.out.alloc HD.out.size _
          have hw : Below y3.heap.size y3 y4 := by rw [hy]; exact (Below.refl _ _).alloc (Nat.le_refl _) _
          have hN : y4.heap[y3.heap.size]? = some (.cells #[.string (⟨#[126, 122]⟩ : ByteArray), .int .i64 2, .string s90, .bool false] 33 (0, 0)) := by rw [hy]; exact heap_alloc_new y3 _
          rw [← hy]
          have hM := blk_below HM.out hw
          refine hK.out _ _ (fun _ => HS.out _ hD hM) ?_
          obtain ⟨b8, hbn⟩ : ∃ b, y3.heap.size = b := ⟨_, rfl⟩
          have HM_ := Aside0.mk hM
          have HO_ := Aside0.mk (pw_own_below HO.out hw)
          have hNe : some b8 ≠ (Value.slice A2 (1) c2).ownBlock := fun e => by have := own_lt HO.out b8 e.symm; omega
          rw [hbn] at hN ⊢
          have HD_ := Aside0.mk hD
          clear HD
          have HD := HD_
          clear HD_
          clear HM
          have HM := HM_
          clear HM_
          clear HO
          have HO := HO_
          clear HO_
          clear hK K hbn hw hD hM
          have HBX := Aside0.mk hN
          have HN := Aside0.mk hNe
          clear hNe
          clear hN hy
          try simp only [Act.put, List.setIfInBounds_toArray, List.set_cons_zero, List.set_cons_succ]
          refine Held.AnyS.step (i := 4) rfl (by kernel_rfl) rfl (fun K hK => ?_)
          have ho := pw_own_below HOB9.out HD.out
          refine Held.append_any (.tmp 51) (.tmp 52) 23 rfl Z9.heap.size 33 (.agg #[.string (⟨#[]⟩ : ByteArray), .int .i64 0, .string (⟨#[]⟩ : ByteArray), .bool false]) 4 48 Try.underlying23 (by kernel_rfl) rfl (by omega) (.slice A2 (1) c2) 1 ([.string (⟨#[126, 121]⟩ : ByteArray), .int .i64 (wrap64 (1 + wrap64 (2 * q))), .string (⟨#[97, 10, 98, 10]⟩ : ByteArray), .bool false]) rfl HO.out Ab b.length cb ib rfl ho.1 (own_news ho) ?_ ?_ ?_ ?_ ?_
          · exact encI_one HRB.out
          · have := HK.out.lb; simp only [maxLen]; omega
          · have := HK.out.lb; omega
          · have := HD.out.size; omega
          intro v y5 hown hgr hat
          have hown : y5.ownsRow Z9.heap.size 33 4 v (1 + b.length) ([.string (⟨#[126, 121]⟩ : ByteArray), .int .i64 (wrap64 (1 + wrap64 (2 * q))), .string (⟨#[97, 10, 98, 10]⟩ : ByteArray), .bool false] ++ ib) := hown
          obtain ⟨A4, c4, rfl⟩ := own_slice hown
          have hD : Below Z9.heap.size Z9 y5 := HD.out.grown hgr HD.out.size (fun k hk => own_base HO.out k hk)
          have hM : y5.heap[m9]? = some (.cells (madeCells #[.int .u8 0] 90) 5 (0, 0)) := (hgr.block _ (blk_lt HM.out) (HNM.out)).trans HM.out
          refine hK.out _ _ (fun _  => HS.out _ hD hM) ?_
          have HM_ := Aside0.mk hM
          have HNM_ := Aside0.mk (show some m9 ≠ (Value.slice A4 (1 + b.length) c4).ownBlock from by rcases hat with hat | hat <;> rw [hat]; exact HNM.out; exact fun e => by injection e with e; have := blk_lt HM.out; omega)
          have HBX_ := Aside0.mk ((hgr.block _ (blk_lt HBX.out) (HN.out)).trans HBX.out)
          have HN_ := Aside0.mk (show some b8 ≠ (Value.slice A4 (1 + b.length) c4).ownBlock from by rcases hat with hat | hat <;> rw [hat]; exact HN.out; exact fun e => by injection e with e; have := blk_lt HBX.out; omega)
          have HO_ := Aside0.mk hown
          have HD_ := Aside0.mk hD
          clear HD
          have HD := HD_
          clear HD_
          clear HO
          have HO := HO_
          clear HO_
          clear HM HNM
          have HM := HM_
          have HNM := HNM_
          clear HM_ HNM_
          clear HBX HN
          have HBX := HBX_
          have HN := HN_
          clear HBX_ HN_
          clear hK K hown hgr hat hD hM ho
          try simp only [Act.put, List.setIfInBounds_toArray, List.set_cons_zero, List.set_cons_succ]
          refine Held.AnyS.step (i := 9) rfl (by kernel_rfl) rfl (fun K hK => ?_)
          have nw : ∀ j u, [.string (⟨#[126, 122]⟩ : ByteArray), .int .i64 2, .string s90, .bool false][j]? = some u → y5.cell? ((⟨b8, 0, none⟩ : Addr).add j) = some u := by simpa using World.news_of_block (cs := #[.string (⟨#[126, 122]⟩ : ByteArray), .int .i64 2, .string s90, .bool false]) (t := 33) (fr := (0, 0)) HBX.out
          refine Held.append_any (.tmp 53) (.tmp 57) 23 rfl Z9.heap.size 33 (.agg #[.string (⟨#[]⟩ : ByteArray), .int .i64 0, .string (⟨#[]⟩ : ByteArray), .bool false]) 4 48 Try.underlying23 (by kernel_rfl) rfl (by omega) (.slice A4 (1 + b.length) c4) (1 + b.length) ([.string (⟨#[126, 121]⟩ : ByteArray), .int .i64 (wrap64 (1 + wrap64 (2 * q))), .string (⟨#[97, 10, 98, 10]⟩ : ByteArray), .bool false] ++ ib) rfl HO.out (some ⟨b8, 0, none⟩) 1 1 [.string (⟨#[126, 122]⟩ : ByteArray), .int .i64 2, .string s90, .bool false] rfl rfl (.inr ⟨_, rfl, nw⟩) ?_ ?_ ?_ ?_ ?_
          · intro u hu; simp at hu; rcases hu with rfl | rfl | rfl | rfl <;> rfl
          · have := HK.out.lb; simp only [maxLen]; omega
          · have := HK.out.lb; omega
          · have := HD.out.size; omega
          intro v y6 hown hgr hat
          have hown : y6.ownsRow Z9.heap.size 33 4 v (1 + b.length + 1) ([.string (⟨#[126, 121]⟩ : ByteArray), .int .i64 (wrap64 (1 + wrap64 (2 * q))), .string (⟨#[97, 10, 98, 10]⟩ : ByteArray), .bool false] ++ ib ++ [.string (⟨#[126, 122]⟩ : ByteArray), .int .i64 2, .string s90, .bool false]) := hown
          obtain ⟨A7, c7, rfl⟩ := own_slice hown
          have hD : Below Z9.heap.size Z9 y6 := HD.out.grown hgr HD.out.size (fun k hk => own_base HO.out k hk)
          have hM : y6.heap[m9]? = some (.cells (madeCells #[.int .u8 0] 90) 5 (0, 0)) := (hgr.block _ (blk_lt HM.out) (HNM.out)).trans HM.out
          refine hK.out _ _ (fun _ => HS.out _ hD hM) ?_
          have HM_ := Aside0.mk hM
          have HNM_ := Aside0.mk (show some m9 ≠ (Value.slice A7 (1 + b.length + 1) c7).ownBlock from by rcases hat with hat | hat <;> rw [hat]; exact HNM.out; exact fun e => by injection e with e; have := blk_lt HM.out; omega)
          have HO_ := Aside0.mk hown
          have HD_ := Aside0.mk hD
          clear HD
          have HD := HD_
          clear HD_
          clear HO
          have HO := HO_
          clear HO_
          clear HM HNM
          have HM := HM_
          have HNM := HNM_
          clear HM_ HNM_
          clear hK K hown hgr hat hD hM nw
          try simp only [Act.put, List.setIfInBounds_toArray, List.set_cons_zero, List.set_cons_succ]
          refine Held.AnyS.step (i := 10) rfl (by kernel_rfl) rfl (fun K hK => ?_)
          go_simp
          refine hK.out _ _ (fun h => absurd h (by omega)) ?_
          clear hK K
          refine Held.AnyS.done (by kernel_rfl) ?_ _
          go_simp
          exact HJ9.out b1 b8 m9 A2 c2 A4 c4 A7 c7 y6 HO.out HD.out
      · go_simp
        first | refine ⟨trivial, ?_⟩ | skip
        obtain ⟨y3, hy⟩ : ∃ V, V = y2.alloc (.cells #[.string (⟨#[126, 122]⟩ : ByteArray), .int .i64 2, .string s90, .bool false] 33) := ⟨_, rfl⟩
        have hD : Below Z9.heap.size Z9 y3 := by rw [hy]; exact HD.out.alloc HD.out.size _
        have hw : Below y2.heap.size y2 y3 := by rw [hy]; exact (Below.refl _ _).alloc (Nat.le_refl _) _
        have hN : y3.heap[y2.heap.size]? = some (.cells #[.string (⟨#[126, 122]⟩ : ByteArray), .int .i64 2, .string s90, .bool false] 33 (0, 0)) := by rw [hy]; exact heap_alloc_new y2 _
        rw [← hy]
        have hM := blk_below HM.out hw
        refine hK.out _ _ (fun _ => HS.out _ hD hM) ?_
        obtain ⟨b8, hbn⟩ : ∃ b, y2.heap.size = b := ⟨_, rfl⟩
        have HM_ := Aside0.mk hM
        have HB1_ := Aside0.mk (blk_below HB1.out hw)
        rw [hbn] at hN ⊢
        have HD_ := Aside0.mk hD
        clear HD
        have HD := HD_
        clear HD_
        clear HM
        have HM := HM_
        clear HM_
        clear HB1
        have HB1 := HB1_
        clear HB1_
        clear hK K hbn hw hD hM
        have HBX := Aside0.mk hN
        clear hN hy
        try simp only [Act.put, List.setIfInBounds_toArray, List.set_cons_zero, List.set_cons_succ]
        refine Held.AnyS.step (i := 2) rfl (by kernel_rfl) rfl (fun K hK => ?_)
        have nw : ∀ j u, [.string (⟨#[126, 121]⟩ : ByteArray), .int .i64 (wrap64 (1 + wrap64 (2 * q))), .string (⟨#[97, 10, 98, 10]⟩ : ByteArray), .bool false][j]? = some u → y3.cell? ((⟨b1, 0, none⟩ : Addr).add j) = some u := by simpa using World.news_of_block (cs := #[.string (⟨#[126, 121]⟩ : ByteArray), .int .i64 (wrap64 (1 + wrap64 (2 * q))), .string (⟨#[97, 10, 98, 10]⟩ : ByteArray), .bool false]) (t := 33) (fr := (0, 0)) HB1.out
        refine Held.append_any (.const (.slice none 0 0)) (.tmp 50) 23 rfl Z9.heap.size 33 (.agg #[.string (⟨#[]⟩ : ByteArray), .int .i64 0, .string (⟨#[]⟩ : ByteArray), .bool false]) 4 48 Try.underlying23 (by kernel_rfl) rfl (by omega) (.slice none 0 0) 0 [] rfl (own_nil _ _ _ _) (some ⟨b1, 0, none⟩) 1 1 [.string (⟨#[126, 121]⟩ : ByteArray), .int .i64 (wrap64 (1 + wrap64 (2 * q))), .string (⟨#[97, 10, 98, 10]⟩ : ByteArray), .bool false] rfl rfl (.inr ⟨_, rfl, nw⟩) ?_ ?_ ?_ ?_ ?_
        · intro u hu; simp at hu; rcases hu with rfl | rfl | rfl | rfl <;> rfl
        · have := HK.out.lb; simp only [maxLen]; omega
        · have := HK.out.lb; omega
        · have := HD.out.size; omega
        intro v y4 hown hgr hat
        have hown : y4.ownsRow Z9.heap.size 33 4 v (1) ([.string (⟨#[126, 121]⟩ : ByteArray), .int .i64 (wrap64 (1 + wrap64 (2 * q))), .string (⟨#[97, 10, 98, 10]⟩ : ByteArray), .bool false]) := hown
        obtain ⟨A2, c2, rfl⟩ := own_slice hown
        have hD : Below Z9.heap.size Z9 y4 := HD.out.grown hgr HD.out.size (fun k hk => by simp [Value.ownBlock] at hk)
        have hM : y4.heap[m9]? = some (.cells (madeCells #[.int .u8 0] 90) 5 (0, 0)) := (hgr.block _ (blk_lt HM.out) (by simp [Value.ownBlock])).trans HM.out
        refine hK.out _ _ (fun _  => HS.out _ hD hM) ?_
        have HM_ := Aside0.mk hM
        have HNM_ := Aside0.mk (show some m9 ≠ (Value.slice A2 (1) c2).ownBlock from by rcases hat with hat | hat <;> rw [hat]; exact (by simp [Value.ownBlock]); exact fun e => by injection e with e; have := blk_lt HM.out; omega)
        have HBX_ := Aside0.mk ((hgr.block _ (blk_lt HBX.out) (by simp [Value.ownBlock])).trans HBX.out)
        have HN_ := Aside0.mk (show some b8 ≠ (Value.slice A2 (1) c2).ownBlock from by rcases hat with hat | hat <;> rw [hat]; exact (by simp [Value.ownBlock]); exact fun e => by injection e with e; have := blk_lt HBX.out; omega)
        have HO_ := Aside0.mk hown
        have HD_ := Aside0.mk hD
        clear HD
        have HD := HD_
        clear HD_
        clear HB1
        have HO := HO_
        clear HO_
        clear HM
        have HM := HM_
        have HNM := HNM_
        clear HM_ HNM_
        clear HBX
        have HBX := HBX_
        have HN := HN_
        clear HBX_ HN_
        clear hK K hown hgr hat hD hM nw
        try simp only [Act.put, List.setIfInBounds_toArray, List.set_cons_zero, List.set_cons_succ]
        refine Held.AnyS.step (i := 4) rfl (by kernel_rfl) rfl (fun K hK => ?_)
        have ho := pw_own_below HOB9.out HD.out
        refine Held.append_any (.tmp 51) (.tmp 52) 23 rfl Z9.heap.size 33 (.agg #[.string (⟨#[]⟩ : ByteArray), .int .i64 0, .string (⟨#[]⟩ : ByteArray), .bool false]) 4 48 Try.underlying23 (by kernel_rfl) rfl (by omega) (.slice A2 (1) c2) 1 ([.string (⟨#[126, 121]⟩ : ByteArray), .int .i64 (wrap64 (1 + wrap64 (2 * q))), .string (⟨#[97, 10, 98, 10]⟩ : ByteArray), .bool false]) rfl HO.out Ab b.length cb ib rfl ho.1 (own_news ho) ?_ ?_ ?_ ?_ ?_
        · exact encI_one HRB.out
        · have := HK.out.lb; simp only [maxLen]; omega
        · have := HK.out.lb; omega
        · have := HD.out.size; omega
        intro v y5 hown hgr hat
        have hown : y5.ownsRow Z9.heap.size 33 4 v (1 + b.length) ([.string (⟨#[126, 121]⟩ : ByteArray), .int .i64 (wrap64 (1 + wrap64 (2 * q))), .string (⟨#[97, 10, 98, 10]⟩ : ByteArray), .bool false] ++ ib) := hown
        obtain ⟨A4, c4, rfl⟩ := own_slice hown
        have hD : Below Z9.heap.size Z9 y5 := HD.out.grown hgr HD.out.size (fun k hk => own_base HO.out k hk)
        have hM : y5.heap[m9]? = some (.cells (madeCells #[.int .u8 0] 90) 5 (0, 0)) := (hgr.block _ (blk_lt HM.out) (HNM.out)).trans HM.out
        refine hK.out _ _ (fun _  => HS.out _ hD hM) ?_
        have HM_ := Aside0.mk hM
        have HNM_ := Aside0.mk (show some m9 ≠ (Value.slice A4 (1 + b.length) c4).ownBlock from by rcases hat with hat | hat <;> rw [hat]; exact HNM.out; exact fun e => by injection e with e; have := blk_lt HM.out; omega)
        have HBX_ := Aside0.mk ((hgr.block _ (blk_lt HBX.out) (HN.out)).trans HBX.out)
        have HN_ := Aside0.mk (show some b8 ≠ (Value.slice A4 (1 + b.length) c4).ownBlock from by rcases hat with hat | hat <;> rw [hat]; exact HN.out; exact fun e => by injection e with e; have := blk_lt HBX.out; omega)
        have HO_ := Aside0.mk hown
        have HD_ := Aside0.mk hD
        clear HD
        have HD := HD_
        clear HD_
        clear HO
        have HO := HO_
        clear HO_
        clear HM HNM
        have HM := HM_
        have HNM := HNM_
        clear HM_ HNM_
        clear HBX HN
        have HBX := HBX_
        have HN := HN_
        clear HBX_ HN_
        clear hK K hown hgr hat hD hM ho
        try simp only [Act.put, List.setIfInBounds_toArray, List.set_cons_zero, List.set_cons_succ]
        refine Held.AnyS.step (i := 9) rfl (by kernel_rfl) rfl (fun K hK => ?_)
        have nw : ∀ j u, [.string (⟨#[126, 122]⟩ : ByteArray), .int .i64 2, .string s90, .bool false][j]? = some u → y5.cell? ((⟨b8, 0, none⟩ : Addr).add j) = some u := by simpa using World.news_of_block (cs := #[.string (⟨#[126, 122]⟩ : ByteArray), .int .i64 2, .string s90, .bool false]) (t := 33) (fr := (0, 0)) HBX.out
        refine Held.append_any (.tmp 53) (.tmp 57) 23 rfl Z9.heap.size 33 (.agg #[.string (⟨#[]⟩ : ByteArray), .int .i64 0, .string (⟨#[]⟩ : ByteArray), .bool false]) 4 48 Try.underlying23 (by kernel_rfl) rfl (by omega) (.slice A4 (1 + b.length) c4) (1 + b.length) ([.string (⟨#[126, 121]⟩ : ByteArray), .int .i64 (wrap64 (1 + wrap64 (2 * q))), .string (⟨#[97, 10, 98, 10]⟩ : ByteArray), .bool false] ++ ib) rfl HO.out (some ⟨b8, 0, none⟩) 1 1 [.string (⟨#[126, 122]⟩ : ByteArray), .int .i64 2, .string s90, .bool false] rfl rfl (.inr ⟨_, rfl, nw⟩) ?_ ?_ ?_ ?_ ?_
        · intro u hu; simp at hu; rcases hu with rfl | rfl | rfl | rfl <;> rfl
        · have := HK.out.lb; simp only [maxLen]; omega
        · have := HK.out.lb; omega
        · have := HD.out.size; omega
        intro v y6 hown hgr hat
        have hown : y6.ownsRow Z9.heap.size 33 4 v (1 + b.length + 1) ([.string (⟨#[126, 121]⟩ : ByteArray), .int .i64 (wrap64 (1 + wrap64 (2 * q))), .string (⟨#[97, 10, 98, 10]⟩ : ByteArray), .bool false] ++ ib ++ [.string (⟨#[126, 122]⟩ : ByteArray), .int .i64 2, .string s90, .bool false]) := hown
        obtain ⟨A7, c7, rfl⟩ := own_slice hown
        have hD : Below Z9.heap.size Z9 y6 := HD.out.grown hgr HD.out.size (fun k hk => own_base HO.out k hk)
        have hM : y6.heap[m9]? = some (.cells (madeCells #[.int .u8 0] 90) 5 (0, 0)) := (hgr.block _ (blk_lt HM.out) (HNM.out)).trans HM.out
        refine hK.out _ _ (fun _ => HS.out _ hD hM) ?_
        have HM_ := Aside0.mk hM
        have HNM_ := Aside0.mk (show some m9 ≠ (Value.slice A7 (1 + b.length + 1) c7).ownBlock from by rcases hat with hat | hat <;> rw [hat]; exact HNM.out; exact fun e => by injection e with e; have := blk_lt HM.out; omega)
        have HO_ := Aside0.mk hown
        have HD_ := Aside0.mk hD
        clear HD
        have HD := HD_
        clear HD_
        clear HO
        have HO := HO_
        clear HO_
        clear HM HNM
        have HM := HM_
        have HNM := HNM_
        clear HM_ HNM_
        clear hK K hown hgr hat hD hM nw
        try simp only [Act.put, List.setIfInBounds_toArray, List.set_cons_zero, List.set_cons_succ]
        refine Held.AnyS.step (i := 10) rfl (by kernel_rfl) rfl (fun K hK => ?_)
        go_simp
        refine hK.out _ _ (fun h => absurd h (by omega)) ?_
        clear hK K
        refine Held.AnyS.done (by kernel_rfl) ?_ _
        go_simp
        exact HJ9.out b1 b8 m9 A2 c2 A4 c4 A7 c7 y6 HO.out HD.out
    · go_simp
      first | refine ⟨trivial, ?_⟩ | skip
      obtain ⟨y2, hy⟩ : ∃ V, V = y1.alloc (.cells #[.string (⟨#[126, 122]⟩ : ByteArray), .int .i64 2, .string s90, .bool false] 33) := ⟨_, rfl⟩
      have hD : Below Z9.heap.size Z9 y2 := by rw [hy]; exact HD.out.alloc HD.out.size _
      have hw : Below y1.heap.size y1 y2 := by rw [hy]; exact (Below.refl _ _).alloc (Nat.le_refl _) _
      have hN : y2.heap[y1.heap.size]? = some (.cells #[.string (⟨#[126, 122]⟩ : ByteArray), .int .i64 2, .string s90, .bool false] 33 (0, 0)) := by rw [hy]; exact heap_alloc_new y1 _
      rw [← hy]
      have hM := blk_below HM.out hw
      refine hK.out _ _ (fun _ => HS.out _ hD hM) ?_
      obtain ⟨b8, hbn⟩ : ∃ b, y1.heap.size = b := ⟨_, rfl⟩
      have HM_ := Aside0.mk hM
      rw [hbn] at hN ⊢
      have HD_ := Aside0.mk hD
      clear HD
      have HD := HD_
      clear HD_
      clear HM
      have HM := HM_
      clear HM_
      clear hK K hbn hw hD hM
      have HBX := Aside0.mk hN
      clear hN hy
      try simp only [Act.put, List.setIfInBounds_toArray, List.set_cons_zero, List.set_cons_succ]
      refine Held.AnyS.step (i := 1) rfl (by kernel_rfl) rfl (fun K hK => ?_)
      go_simp
      first | refine ⟨trivial, ?_⟩ | skip
      obtain ⟨y3, hy⟩ : ∃ V, V = y2.alloc (.cells #[.string (⟨#[126, 121]⟩ : ByteArray), .int .i64 (wrap64 (1 + wrap64 (2 * q))), .string (⟨#[97, 10, 98, 10]⟩ : ByteArray), .bool false] 33) := ⟨_, rfl⟩
      have hD : Below Z9.heap.size Z9 y3 := by rw [hy]; exact HD.out.alloc HD.out.size _
      have hw : Below y2.heap.size y2 y3 := by rw [hy]; exact (Below.refl _ _).alloc (Nat.le_refl _) _
      have hN : y3.heap[y2.heap.size]? = some (.cells #[.string (⟨#[126, 121]⟩ : ByteArray), .int .i64 (wrap64 (1 + wrap64 (2 * q))), .string (⟨#[97, 10, 98, 10]⟩ : ByteArray), .bool false] 33 (0, 0)) := by rw [hy]; exact heap_alloc_new y2 _
      rw [← hy]
      have hM := blk_below HM.out hw
      refine hK.out _ _ (fun _ => HS.out _ hD hM) ?_
      obtain ⟨b1, hbn⟩ : ∃ b, y2.heap.size = b := ⟨_, rfl⟩
      have HM_ := Aside0.mk hM
      have HBX_ := Aside0.mk (blk_below HBX.out hw)
      rw [hbn] at hN ⊢
      have HD_ := Aside0.mk hD
      clear HD
      have HD := HD_
      clear HD_
      clear HM
      have HM := HM_
      clear HM_
      clear HBX
      have HBX := HBX_
      clear HBX_
      clear hK K hbn hw hD hM
      have HB1 := Aside0.mk hN
      clear hN hy
      try simp only [Act.put, List.setIfInBounds_toArray, List.set_cons_zero, List.set_cons_succ]
      refine Held.AnyS.step (i := 2) rfl (by kernel_rfl) rfl (fun K hK => ?_)
      have nw : ∀ j u, [.string (⟨#[126, 121]⟩ : ByteArray), .int .i64 (wrap64 (1 + wrap64 (2 * q))), .string (⟨#[97, 10, 98, 10]⟩ : ByteArray), .bool false][j]? = some u → y3.cell? ((⟨b1, 0, none⟩ : Addr).add j) = some u := by simpa using World.news_of_block (cs := #[.string (⟨#[126, 121]⟩ : ByteArray), .int .i64 (wrap64 (1 + wrap64 (2 * q))), .string (⟨#[97, 10, 98, 10]⟩ : ByteArray), .bool false]) (t := 33) (fr := (0, 0)) HB1.out
      refine Held.append_any (.const (.slice none 0 0)) (.tmp 50) 23 rfl Z9.heap.size 33 (.agg #[.string (⟨#[]⟩ : ByteArray), .int .i64 0, .string (⟨#[]⟩ : ByteArray), .bool false]) 4 48 Try.underlying23 (by kernel_rfl) rfl (by omega) (.slice none 0 0) 0 [] rfl (own_nil _ _ _ _) (some ⟨b1, 0, none⟩) 1 1 [.string (⟨#[126, 121]⟩ : ByteArray), .int .i64 (wrap64 (1 + wrap64 (2 * q))), .string (⟨#[97, 10, 98, 10]⟩ : ByteArray), .bool false] rfl rfl (.inr ⟨_, rfl, nw⟩) ?_ ?_ ?_ ?_ ?_
      · intro u hu; simp at hu; rcases hu with rfl | rfl | rfl | rfl <;> rfl
      · have := HK.out.lb; simp only [maxLen]; omega
      · have := HK.out.lb; omega
      · have := HD.out.size; omega
      intro v y4 hown hgr hat
      have hown : y4.ownsRow Z9.heap.size 33 4 v (1) ([.string (⟨#[126, 121]⟩ : ByteArray), .int .i64 (wrap64 (1 + wrap64 (2 * q))), .string (⟨#[97, 10, 98, 10]⟩ : ByteArray), .bool false]) := hown
      obtain ⟨A2, c2, rfl⟩ := own_slice hown
      have hD : Below Z9.heap.size Z9 y4 := HD.out.grown hgr HD.out.size (fun k hk => by simp [Value.ownBlock] at hk)
      have hM : y4.heap[m9]? = some (.cells (madeCells #[.int .u8 0] 90) 5 (0, 0)) := (hgr.block _ (blk_lt HM.out) (by simp [Value.ownBlock])).trans HM.out
      refine hK.out _ _ (fun _  => HS.out _ hD hM) ?_
      have HM_ := Aside0.mk hM
      have HNM_ := Aside0.mk (show some m9 ≠ (Value.slice A2 (1) c2).ownBlock from by rcases hat with hat | hat <;> rw [hat]; exact (by simp [Value.ownBlock]); exact fun e => by injection e with e; have := blk_lt HM.out; omega)
      have HBX_ := Aside0.mk ((hgr.block _ (blk_lt HBX.out) (by simp [Value.ownBlock])).trans HBX.out)
      have HN_ := Aside0.mk (show some b8 ≠ (Value.slice A2 (1) c2).ownBlock from by rcases hat with hat | hat <;> rw [hat]; exact (by simp [Value.ownBlock]); exact fun e => by injection e with e; have := blk_lt HBX.out; omega)
      have HO_ := Aside0.mk hown
      have HD_ := Aside0.mk hD
      clear HD
      have HD := HD_
      clear HD_
      clear HB1
      have HO := HO_
      clear HO_
      clear HM
      have HM := HM_
      have HNM := HNM_
      clear HM_ HNM_
      clear HBX
      have HBX := HBX_
      have HN := HN_
      clear HBX_ HN_
      clear hK K hown hgr hat hD hM nw
      try simp only [Act.put, List.setIfInBounds_toArray, List.set_cons_zero, List.set_cons_succ]
      refine Held.AnyS.step (i := 4) rfl (by kernel_rfl) rfl (fun K hK => ?_)
      have ho := pw_own_below HOB9.out HD.out
      refine Held.append_any (.tmp 51) (.tmp 52) 23 rfl Z9.heap.size 33 (.agg #[.string (⟨#[]⟩ : ByteArray), .int .i64 0, .string (⟨#[]⟩ : ByteArray), .bool false]) 4 48 Try.underlying23 (by kernel_rfl) rfl (by omega) (.slice A2 (1) c2) 1 ([.string (⟨#[126, 121]⟩ : ByteArray), .int .i64 (wrap64 (1 + wrap64 (2 * q))), .string (⟨#[97, 10, 98, 10]⟩ : ByteArray), .bool false]) rfl HO.out Ab b.length cb ib rfl ho.1 (own_news ho) ?_ ?_ ?_ ?_ ?_
      · exact encI_one HRB.out
      · have := HK.out.lb; simp only [maxLen]; omega
      · have := HK.out.lb; omega
      · have := HD.out.size; omega
      intro v y5 hown hgr hat
      have hown : y5.ownsRow Z9.heap.size 33 4 v (1 + b.length) ([.string (⟨#[126, 121]⟩ : ByteArray), .int .i64 (wrap64 (1 + wrap64 (2 * q))), .string (⟨#[97, 10, 98, 10]⟩ : ByteArray), .bool false] ++ ib) := hown
      obtain ⟨A4, c4, rfl⟩ := own_slice hown
      have hD : Below Z9.heap.size Z9 y5 := HD.out.grown hgr HD.out.size (fun k hk => own_base HO.out k hk)
      have hM : y5.heap[m9]? = some (.cells (madeCells #[.int .u8 0] 90) 5 (0, 0)) := (hgr.block _ (blk_lt HM.out) (HNM.out)).trans HM.out
      refine hK.out _ _ (fun _  => HS.out _ hD hM) ?_
      have HM_ := Aside0.mk hM
      have HNM_ := Aside0.mk (show some m9 ≠ (Value.slice A4 (1 + b.length) c4).ownBlock from by rcases hat with hat | hat <;> rw [hat]; exact HNM.out; exact fun e => by injection e with e; have := blk_lt HM.out; omega)
      have HBX_ := Aside0.mk ((hgr.block _ (blk_lt HBX.out) (HN.out)).trans HBX.out)
      have HN_ := Aside0.mk (show some b8 ≠ (Value.slice A4 (1 + b.length) c4).ownBlock from by rcases hat with hat | hat <;> rw [hat]; exact HN.out; exact fun e => by injection e with e; have := blk_lt HBX.out; omega)
      have HO_ := Aside0.mk hown
      have HD_ := Aside0.mk hD
      clear HD
      have HD := HD_
      clear HD_
      clear HO
      have HO := HO_
      clear HO_
      clear HM HNM
      have HM := HM_
      have HNM := HNM_
      clear HM_ HNM_
      clear HBX HN
      have HBX := HBX_
      have HN := HN_
      clear HBX_ HN_
      clear hK K hown hgr hat hD hM ho
      try simp only [Act.put, List.setIfInBounds_toArray, List.set_cons_zero, List.set_cons_succ]
      refine Held.AnyS.step (i := 9) rfl (by kernel_rfl) rfl (fun K hK => ?_)
      have nw : ∀ j u, [.string (⟨#[126, 122]⟩ : ByteArray), .int .i64 2, .string s90, .bool false][j]? = some u → y5.cell? ((⟨b8, 0, none⟩ : Addr).add j) = some u := by simpa using World.news_of_block (cs := #[.string (⟨#[126, 122]⟩ : ByteArray), .int .i64 2, .string s90, .bool false]) (t := 33) (fr := (0, 0)) HBX.out
      refine Held.append_any (.tmp 53) (.tmp 57) 23 rfl Z9.heap.size 33 (.agg #[.string (⟨#[]⟩ : ByteArray), .int .i64 0, .string (⟨#[]⟩ : ByteArray), .bool false]) 4 48 Try.underlying23 (by kernel_rfl) rfl (by omega) (.slice A4 (1 + b.length) c4) (1 + b.length) ([.string (⟨#[126, 121]⟩ : ByteArray), .int .i64 (wrap64 (1 + wrap64 (2 * q))), .string (⟨#[97, 10, 98, 10]⟩ : ByteArray), .bool false] ++ ib) rfl HO.out (some ⟨b8, 0, none⟩) 1 1 [.string (⟨#[126, 122]⟩ : ByteArray), .int .i64 2, .string s90, .bool false] rfl rfl (.inr ⟨_, rfl, nw⟩) ?_ ?_ ?_ ?_ ?_
      · intro u hu; simp at hu; rcases hu with rfl | rfl | rfl | rfl <;> rfl
      · have := HK.out.lb; simp only [maxLen]; omega
      · have := HK.out.lb; omega
      · have := HD.out.size; omega
      intro v y6 hown hgr hat
      have hown : y6.ownsRow Z9.heap.size 33 4 v (1 + b.length + 1) ([.string (⟨#[126, 121]⟩ : ByteArray), .int .i64 (wrap64 (1 + wrap64 (2 * q))), .string (⟨#[97, 10, 98, 10]⟩ : ByteArray), .bool false] ++ ib ++ [.string (⟨#[126, 122]⟩ : ByteArray), .int .i64 2, .string s90, .bool false]) := hown
      obtain ⟨A7, c7, rfl⟩ := own_slice hown
      have hD : Below Z9.heap.size Z9 y6 := HD.out.grown hgr HD.out.size (fun k hk => own_base HO.out k hk)
      have hM : y6.heap[m9]? = some (.cells (madeCells #[.int .u8 0] 90) 5 (0, 0)) := (hgr.block _ (blk_lt HM.out) (HNM.out)).trans HM.out
      refine hK.out _ _ (fun _ => HS.out _ hD hM) ?_
      have HM_ := Aside0.mk hM
      have HNM_ := Aside0.mk (show some m9 ≠ (Value.slice A7 (1 + b.length + 1) c7).ownBlock from by rcases hat with hat | hat <;> rw [hat]; exact HNM.out; exact fun e => by injection e with e; have := blk_lt HM.out; omega)
      have HO_ := Aside0.mk hown
      have HD_ := Aside0.mk hD
      clear HD
      have HD := HD_
      clear HD_
      clear HO
      have HO := HO_
      clear HO_
      clear HM HNM
      have HM := HM_
      have HNM := HNM_
      clear HM_ HNM_
      clear hK K hown hgr hat hD hM nw
      try simp only [Act.put, List.setIfInBounds_toArray, List.set_cons_zero, List.set_cons_succ]
      refine Held.AnyS.step (i := 10) rfl (by kernel_rfl) rfl (fun K hK => ?_)
      go_simp
      refine hK.out _ _ (fun h => absurd h (by omega)) ?_
      clear hK K
      refine Held.AnyS.done (by kernel_rfl) ?_ _
      go_simp
      exact HJ9.out b1 b8 m9 A2 c2 A4 c4 A7 c7 y6 HO.out HD.out
end Go.Proofs.Ytcgnkbdfoaiaiaa.P
end
section
/- RenameApart: the law's walk by hand, regions 7 and 8 (written by apart_gen3.py). -/
set_option linter.unusedVariables false
set_option linter.unusedSimpArgs false
namespace Go.Proofs.Ytcgnkbdfoaiaiaa.P
open Go Go.RowKit Go.Proofs.YtcgnkbdfoaiaiaaW.PrintWords Go.Proofs.YtcgnkbdfoaiaiaaW.PrintLast Go.Proofs.YtcgnkbdfoaiaiaaW.PrintMore
set_option maxHeartbeats 8000000 in
set_option maxRecDepth 100000 in
theorem apart_r7 (k : Nat) (l0 l1 : List S41) (a2 a3 t q : Int) (a b : List ItS) (l : List S35) (HK : Aside0 (ApartOk k l0 l1 a2 a3 a b t q l)) (w : World) (V : World) (tb : Nat) (sx : ByteArray) (hsx : sx = dataX) (Aa Ab : Option Addr) (ca cb : Nat) (vl : Value) (x0 x1 x2 x4 x5 x6 x7 x8 x15 x16 x17 x18 x19 x20 x21 x22 x23 x24 x25 x26 x27 x28 x29 x30 x31 x32 x33 x34 x35 x36 x37 x38 x39 x40 x41 x42 x43 x44 x45 x46 x47 x48 x49 x50 x51 x52 x53 x54 x55 x56 x57 x58 x59 x60 x61 x62 x63 x64 x65 x66 x67 x68 x69 x70 x71 x72 x73 x74 x75 x76 x77 x78 x79 x80 x81 x82 x83 : Value)
    (hA : Kd.R k33 33 V w.heap.size (fun _ => True) (.slice Aa a.length ca) a) (hBI : Kd.R k33 33 V w.heap.size (fun _ => True) (.slice Ab b.length cb) b)
    (hL : Kd.R k35 35 V w.heap.size (fun _ => True) vl l) (hB : Below w.heap.size w V) (hX : V.heap[tb]? = some (.cells #[.string (⟨#[126, 120]⟩ : ByteArray), .int .i64 2, .string sx, .bool false] 33 (0, 0))) :
    Code.wp Try.prog (sndN 7 (Try.f6.body.getD .skip)) (bodyPost Try.prog Try.f6 fun e w' => e = .returned (.bool true) ∧ Below w.heap.size w w') ⟨#[x0, x1, x2, .int .i64 a3, x4, x5, x6, x7, x8, .bool true, .slice Aa a.length ca, .slice Ab b.length cb, .int .i64 t, vl, .pointer (some ⟨tb, 0, none⟩), x15, x16, x17, x18, x19, x20, x21, x22, x23, x24, x25, x26, x27, x28, x29, x30, x31, x32, x33, x34, x35, x36, x37, x38, x39, x40, x41, x42, x43, x44, x45, x46, x47, x48, x49, x50, x51, x52, x53, x54, x55, x56, x57, x58, x59, x60, x61, x62, x63, x64, x65, x66, x67, x68, x69, x70, x71, x72, x73, x74, x75, x76, x77, x78, x79, x80, x81, x82, x83], []⟩ V := by
  conv in sndN 7 _ => whnf
  have HA := Aside0.mk hA
  have HBI := Aside0.mk hBI
  have HL := Aside0.mk hL
  have HB2 := Aside0.mk hB
  have HX := Aside0.mk hX
  have HSX := Aside0.mk hsx
  clear hA hBI hL hB hX hsx
  go_wp2_with (first | (go_at_call 9; (with_reducible refine (collatorlaw08_pick.calls a3 2 q _ HK.out.pq).mono ?_); rintro e V2 ⟨rfl, hd⟩; have hVV := hd.below; clear hd; obtain ⟨X2, hX2⟩ : ∃ X2, X2 = V2.alloc (.cells #[.string (⟨#[]⟩ : ByteArray), .int .i64 0, .string (⟨#[]⟩ : ByteArray), .bool false] 33) := ⟨_, rfl⟩; have hK2 : X2.heap[V2.heap.size]? = some (.cells #[.string (⟨#[]⟩ : ByteArray), .int .i64 0, .string (⟨#[]⟩ : ByteArray), .bool false] 33 (0, 0)) := (by rw [hX2]; exact heap_alloc_new V2 _); have HK2 := Aside0.mk hK2; have g0 : X2.cell? ⟨V2.heap.size, 0, none⟩ = some (#[.string (⟨#[]⟩ : ByteArray), .int .i64 0, .string (⟨#[]⟩ : ByteArray), .bool false][0]) := (blk_cell hK2 0).trans rfl; have e0 : X2.frozen? ⟨V2.heap.size, 0, none⟩ = false := (by simp [World.frozen?, hK2]); have g1 : X2.cell? ⟨V2.heap.size, 1, none⟩ = some (#[.string (⟨#[]⟩ : ByteArray), .int .i64 0, .string (⟨#[]⟩ : ByteArray), .bool false][1]) := (blk_cell hK2 1).trans rfl; have e1 : X2.frozen? ⟨V2.heap.size, 1, none⟩ = false := (by simp [World.frozen?, hK2]); have g2 : X2.cell? ⟨V2.heap.size, 2, none⟩ = some (#[.string (⟨#[]⟩ : ByteArray), .int .i64 0, .string (⟨#[]⟩ : ByteArray), .bool false][2]) := (blk_cell hK2 2).trans rfl; have e2 : X2.frozen? ⟨V2.heap.size, 2, none⟩ = false := (by simp [World.frozen?, hK2]); have g3 : X2.cell? ⟨V2.heap.size, 3, none⟩ = some (#[.string (⟨#[]⟩ : ByteArray), .int .i64 0, .string (⟨#[]⟩ : ByteArray), .bool false][3]) := (blk_cell hK2 3).trans rfl; have e3 : X2.frozen? ⟨V2.heap.size, 3, none⟩ = false := (by simp [World.frozen?, hK2]); have HX2 := Aside0.mk hX2; have HVV := Aside0.mk hVV; clear hX2 hVV hK2) | (rw [← HX2.out]))
  clear g0 g1 g2 g3 e0 e1 e2 e3
  obtain ⟨V3, hV3, hK3, hO3, hB3⟩ := set4 HK2.out (.string (⟨#[126, 121]⟩ : ByteArray)) (.int .i64 (wrap64 (1 + wrap64 (2 * q)))) (.string (⟨#[97, 10, 98, 10]⟩ : ByteArray)) (.bool false)
  rw [hV3]
  have hV23 : Below V2.heap.size V2 V3 := hB3 V2 (by rw [HX2.out]; exact (Below.refl _ _).alloc (Nat.le_refl _) _) (Nat.le_refl _)
  have hVZ : Below V.heap.size V V3 := HVV.out.trans (hV23.mono HVV.out.size)
  obtain ⟨ia, hOa, hRa⟩ := row_of_R (Kd.R_below HA.out hVZ)
  obtain ⟨ib, hOb, hRb⟩ := row_of_R (Kd.R_below HBI.out hVZ)
  have HRA := Aside0.mk hRa
  have HRB := Aside0.mk hRb
  have HX3 := Aside0.mk (blk_below HX.out hVZ)
  have HY3 := Aside0.mk hK3
  obtain ⟨Z8, hZ8⟩ : ∃ Z, Z = V3.drew := ⟨_, rfl⟩
  have b8 : Below V3.heap.size V3 Z8 := by rw [hZ8]; exact (Below.refl _ _).drew
  have HOA8 := Aside0.mk (pw_own_below hOa b8)
  have HOB8 := Aside0.mk (pw_own_below hOb b8)
  have HX8 := Aside0.mk (blk_below HX3.out b8)
  have HY8 := Aside0.mk (blk_below HY3.out b8)
  have HB8 := Aside0.mk (below_step (below_step HB2.out hVZ) b8)
  have HL8 := Aside0.mk (Kd.R_below (Kd.R_below HL.out hVZ) b8)
  clear HA HBI HL HB2 HX HX3 HY3 HVV HX2 HK2 hK3 hO3 hB3 hV3 hV23 hVZ hOa hOb hRa hRb b8
  generalize V2.heap.size = yb at HY8 ⊢
  rename_i K1 hEND1
  have HEND1 := Aside0.mk hEND1
  clear hEND1
  have HJ8 : Aside0 (∀ (b1 b6 : Nat) (A2 : Option Addr) (c2 : Nat) (A4 : Option Addr) (c4 : Nat) (A7 : Option Addr) (c7 : Nat) (V8 : World), V8.ownsRow Z8.heap.size 33 4 (.slice A7 (1 + a.length + 1) c7) (1 + a.length + 1) ([.string (⟨#[126, 121]⟩ : ByteArray), .int .i64 (wrap64 (1 + wrap64 (2 * q))), .string (⟨#[97, 10, 98, 10]⟩ : ByteArray), .bool false] ++ ia ++ [.string (⟨#[126, 120]⟩ : ByteArray), .int .i64 2, .string sx, .bool false]) → Below Z8.heap.size Z8 V8 → K1 ⟨#[x0, x1, x2, .int .i64 a3, x4, x5, x6, x7, x8, .bool true, .slice Aa a.length ca, .slice Ab b.length cb, .int .i64 t, vl, .pointer (some ⟨tb, 0, none⟩), .pointer (some ⟨yb, 0, none⟩), .slice A7 (1 + a.length + 1) c7, x17, x18, x19, x20, x21, x22, x23, x24, x25, x26, x27, x28, x29, x30, x31, x32, x33, x34, x35, .int .i64 a3, .int .i64 q, .int .i64 (wrap64 (2 * q)), .int .i64 (wrap64 (1 + wrap64 (2 * q))), .agg #[.string (⟨#[126, 121]⟩ : ByteArray), .int .i64 (wrap64 (1 + wrap64 (2 * q))), .string (⟨#[97, 10, 98, 10]⟩ : ByteArray), .bool false], .agg #[.string (⟨#[126, 121]⟩ : ByteArray), .int .i64 (wrap64 (1 + wrap64 (2 * q))), .string (⟨#[97, 10, 98, 10]⟩ : ByteArray), .bool false], .slice (some ⟨b1, 0, none⟩) 1 1, .slice A2 1 c2, .slice Aa a.length ca, .slice A4 (1 + a.length) c4, .agg #[.string (⟨#[126, 120]⟩ : ByteArray), .int .i64 2, .string sx, .bool false], .slice (some ⟨b6, 0, none⟩) 1 1, .slice A7 (1 + a.length + 1) c7, x49, x50, x51, x52, x53, x54, x55, x56, x57, x58, x59, x60, x61, x62, x63, x64, x65, x66, x67, x68, x69, x70, x71, x72, x73, x74, x75, x76, x77, x78, x79, x80, x81, x82, x83], []⟩ V8) := by
    refine ⟨?_⟩
    intro o1 o6 O2 p2 O4 p4 O7 p7 V8 hO8 hV8
    refine HEND1.out _ _ ?_
    obtain ⟨lc, hlc⟩ : ∃ lc, lc = [itY q] ++ a ++ [itX] := ⟨_, rfl⟩
    have elc : 1 + a.length + 1 = lc.length := by rw [hlc]; simp only [List.length_append, List.length_singleton]
    rw [elc] at hO8 ⊢
    have hC8 : Kd.R k33 33 V8 w.heap.size (fun _ => True) (.slice O7 lc.length p7) lc := R_of_row (own_less hO8 HB8.out.size) (by rw [hlc]; exact Kd.reps_append (Kd.reps_append (reps_item (itY q)) HRA.out) (show Reps _ 4 [itX] [.string (⟨#[126, 120]⟩ : ByteArray), .int .i64 2, .string sx, .bool false] by rw [HSX.out]; exact reps_item itX))
    exact apart_r9 k l0 l1 a2 a3 t q a b l HK w V8 yb lc hlc Aa Ab O7 ca cb p7 vl _ _ _ _ _ _ _ _ _ _ _ _ _ _ _ _ _ _ _ _ _ _ _ _ _ _ _ _ _ _ _ _ _ _ _ _ _ _ _ _ _ _ _ _ _ _ _ _ _ _ _ _ _ _ _ _ _ _ _ _ _ _ _ _ _ _ _ _ _ _ _ _ _ _ _ _ _ hC8 (R_of_row (pw_own_below HOA8.out hV8) HRA.out) (R_of_row (pw_own_below HOB8.out hV8) HRB.out) (Kd.R_below HL8.out hV8) (below_step HB8.out hV8) (blk_below HY8.out hV8)
  refine (wpIn_wide (n := 9)).1 ?_
  refine Held.region 8 (Held.Same Z8 [yb, tb]) (by kernel_rfl) ?_
  rw [← hZ8]
  clear hZ8
  have hT := Held.Same.refl Z8 [yb, tb]
  have my0 : Z8.cell? ⟨yb, 0, none⟩ = some (#[.string (⟨#[126, 121]⟩ : ByteArray), .int .i64 (wrap64 (1 + wrap64 (2 * q))), .string (⟨#[97, 10, 98, 10]⟩ : ByteArray), .bool false][0]) := (blk_cell HY8.out 0).trans rfl
  have my1 : Z8.cell? ⟨yb, 1, none⟩ = some (#[.string (⟨#[126, 121]⟩ : ByteArray), .int .i64 (wrap64 (1 + wrap64 (2 * q))), .string (⟨#[97, 10, 98, 10]⟩ : ByteArray), .bool false][1]) := (blk_cell HY8.out 1).trans rfl
  have my2 : Z8.cell? ⟨yb, 2, none⟩ = some (#[.string (⟨#[126, 121]⟩ : ByteArray), .int .i64 (wrap64 (1 + wrap64 (2 * q))), .string (⟨#[97, 10, 98, 10]⟩ : ByteArray), .bool false][2]) := (blk_cell HY8.out 2).trans rfl
  have my3 : Z8.cell? ⟨yb, 3, none⟩ = some (#[.string (⟨#[126, 121]⟩ : ByteArray), .int .i64 (wrap64 (1 + wrap64 (2 * q))), .string (⟨#[97, 10, 98, 10]⟩ : ByteArray), .bool false][3]) := (blk_cell HY8.out 3).trans rfl
  have mt0 : Z8.cell? ⟨tb, 0, none⟩ = some (#[.string (⟨#[126, 120]⟩ : ByteArray), .int .i64 2, .string sx, .bool false][0]) := (blk_cell HX8.out 0).trans rfl
  have mt1 : Z8.cell? ⟨tb, 1, none⟩ = some (#[.string (⟨#[126, 120]⟩ : ByteArray), .int .i64 2, .string sx, .bool false][1]) := (blk_cell HX8.out 1).trans rfl
  have mt2 : Z8.cell? ⟨tb, 2, none⟩ = some (#[.string (⟨#[126, 120]⟩ : ByteArray), .int .i64 2, .string sx, .bool false][2]) := (blk_cell HX8.out 2).trans rfl
  have mt3 : Z8.cell? ⟨tb, 3, none⟩ = some (#[.string (⟨#[126, 120]⟩ : ByteArray), .int .i64 2, .string sx, .bool false][3]) := (blk_cell HX8.out 3).trans rfl
  refine Held.tk (i := 0) rfl hT ?_
  try simp only [Act.put, List.setIfInBounds_toArray, List.set_cons_zero, List.set_cons_succ]
  refine Held.tk (i := 3) rfl hT ?_
  try simp only [Act.put, List.setIfInBounds_toArray, List.set_cons_zero, List.set_cons_succ]
  refine Held.tk (i := 5) rfl hT ?_
  try simp only [Act.put, List.setIfInBounds_toArray, List.set_cons_zero, List.set_cons_succ]
  clear my0 my1 my2 my3 mt0 mt1 mt2 mt3 hT
  have HD := Aside0.mk (Below.refl Z8.heap.size Z8)
  have HS := Aside0.mk (fun w' (h : Below Z8.heap.size Z8 w') => (show Held.Same Z8 [yb, tb] w' from fun b hb => h.block b (by simp at hb; rcases hb with rfl | rfl; exact blk_lt HY8.out; exact blk_lt HX8.out)))
  refine Held.AnyS.step2 (i := 1) (j := 6) rfl rfl (by kernel_rfl) rfl rfl (fun K hK => ?_) (fun K hK => ?_)
  · go_simp
    first | refine ⟨trivial, ?_⟩ | skip
    obtain ⟨y1, hy⟩ : ∃ V, V = Z8.alloc (.cells #[.string (⟨#[126, 121]⟩ : ByteArray), .int .i64 (wrap64 (1 + wrap64 (2 * q))), .string (⟨#[97, 10, 98, 10]⟩ : ByteArray), .bool false] 33) := ⟨_, rfl⟩
    have hD : Below Z8.heap.size Z8 y1 := by rw [hy]; exact HD.out.alloc HD.out.size _
    have hw : Below Z8.heap.size Z8 y1 := by rw [hy]; exact (Below.refl _ _).alloc (Nat.le_refl _) _
    have hN : y1.heap[Z8.heap.size]? = some (.cells #[.string (⟨#[126, 121]⟩ : ByteArray), .int .i64 (wrap64 (1 + wrap64 (2 * q))), .string (⟨#[97, 10, 98, 10]⟩ : ByteArray), .bool false] 33 (0, 0)) := by rw [hy]; exact heap_alloc_new Z8 _
    rw [← hy]
    refine hK.out _ _ (fun _ => HS.out _ hD) ?_
    obtain ⟨b1, hbn⟩ : ∃ b, Z8.heap.size = b := ⟨_, rfl⟩
    rw [hbn] at hN ⊢
    have HD_ := Aside0.mk hD
    clear HD
    have HD := HD_
    clear HD_
    clear hK K hbn hw hD
    have HB1 := Aside0.mk hN
    clear hN hy
    try simp only [Act.put, List.setIfInBounds_toArray, List.set_cons_zero, List.set_cons_succ]
    refine Held.AnyS.step2 (i := 2) (j := 6) rfl rfl (by kernel_rfl) rfl rfl (fun K hK => ?_) (fun K hK => ?_)
    · have nw : ∀ j u, [.string (⟨#[126, 121]⟩ : ByteArray), .int .i64 (wrap64 (1 + wrap64 (2 * q))), .string (⟨#[97, 10, 98, 10]⟩ : ByteArray), .bool false][j]? = some u → y1.cell? ((⟨b1, 0, none⟩ : Addr).add j) = some u := by simpa using World.news_of_block (cs := #[.string (⟨#[126, 121]⟩ : ByteArray), .int .i64 (wrap64 (1 + wrap64 (2 * q))), .string (⟨#[97, 10, 98, 10]⟩ : ByteArray), .bool false]) (t := 33) (fr := (0, 0)) HB1.out
      refine Held.append_any (.const (.slice none 0 0)) (.tmp 42) 23 rfl Z8.heap.size 33 (.agg #[.string (⟨#[]⟩ : ByteArray), .int .i64 0, .string (⟨#[]⟩ : ByteArray), .bool false]) 4 48 Try.underlying23 (by kernel_rfl) rfl (by omega) (.slice none 0 0) 0 [] rfl (own_nil _ _ _ _) (some ⟨b1, 0, none⟩) 1 1 [.string (⟨#[126, 121]⟩ : ByteArray), .int .i64 (wrap64 (1 + wrap64 (2 * q))), .string (⟨#[97, 10, 98, 10]⟩ : ByteArray), .bool false] rfl rfl (.inr ⟨_, rfl, nw⟩) ?_ ?_ ?_ ?_ ?_
      · intro u hu; simp at hu; rcases hu with rfl | rfl | rfl | rfl <;> rfl
      · have := HK.out.la; simp only [maxLen]; omega
      · have := HK.out.la; omega
      · have := HD.out.size; omega
      intro v y2 hown hgr hat
      have hown : y2.ownsRow Z8.heap.size 33 4 v (1) ([.string (⟨#[126, 121]⟩ : ByteArray), .int .i64 (wrap64 (1 + wrap64 (2 * q))), .string (⟨#[97, 10, 98, 10]⟩ : ByteArray), .bool false]) := hown
      obtain ⟨A2, c2, rfl⟩ := own_slice hown
      have hD : Below Z8.heap.size Z8 y2 := HD.out.grown hgr HD.out.size (fun k hk => by simp [Value.ownBlock] at hk)
      refine hK.out _ _ (fun _  => HS.out _ hD) ?_
      have HO_ := Aside0.mk hown
      have HD_ := Aside0.mk hD
      clear HD
      have HD := HD_
      clear HD_
      clear HB1
      have HO := HO_
      clear HO_
      clear hK K hown hgr hat hD nw
      try simp only [Act.put, List.setIfInBounds_toArray, List.set_cons_zero, List.set_cons_succ]
      refine Held.AnyS.step2 (i := 4) (j := 6) rfl rfl (by kernel_rfl) rfl rfl (fun K hK => ?_) (fun K hK => ?_)
      · have ho := pw_own_below HOA8.out HD.out
        refine Held.append_any (.tmp 43) (.tmp 44) 23 rfl Z8.heap.size 33 (.agg #[.string (⟨#[]⟩ : ByteArray), .int .i64 0, .string (⟨#[]⟩ : ByteArray), .bool false]) 4 48 Try.underlying23 (by kernel_rfl) rfl (by omega) (.slice A2 (1) c2) 1 ([.string (⟨#[126, 121]⟩ : ByteArray), .int .i64 (wrap64 (1 + wrap64 (2 * q))), .string (⟨#[97, 10, 98, 10]⟩ : ByteArray), .bool false]) rfl HO.out Aa a.length ca ia rfl ho.1 (own_news ho) ?_ ?_ ?_ ?_ ?_
        · exact encI_one HRA.out
        · have := HK.out.la; simp only [maxLen]; omega
        · have := HK.out.la; omega
        · have := HD.out.size; omega
        intro v y3 hown hgr hat
        have hown : y3.ownsRow Z8.heap.size 33 4 v (1 + a.length) ([.string (⟨#[126, 121]⟩ : ByteArray), .int .i64 (wrap64 (1 + wrap64 (2 * q))), .string (⟨#[97, 10, 98, 10]⟩ : ByteArray), .bool false] ++ ia) := hown
        obtain ⟨A4, c4, rfl⟩ := own_slice hown
        have hD : Below Z8.heap.size Z8 y3 := HD.out.grown hgr HD.out.size (fun k hk => own_base HO.out k hk)
        refine hK.out _ _ (fun _  => HS.out _ hD) ?_
        have HO_ := Aside0.mk hown
        have HD_ := Aside0.mk hD
        clear HD
        have HD := HD_
        clear HD_
        clear HO
        have HO := HO_
        clear HO_
        clear hK K hown hgr hat hD ho
        try simp only [Act.put, List.setIfInBounds_toArray, List.set_cons_zero, List.set_cons_succ]
        refine Held.AnyS.step (i := 6) rfl (by kernel_rfl) rfl (fun K hK => ?_)
        go_simp
        first | refine ⟨trivial, ?_⟩ | skip
        obtain ⟨y4, hy⟩ : ∃ V, V = y3.alloc (.cells #[.string (⟨#[126, 120]⟩ : ByteArray), .int .i64 2, .string sx, .bool false] 33) := ⟨_, rfl⟩
        have hD : Below Z8.heap.size Z8 y4 := by rw [hy]; exact HD.out.alloc HD.out.size _
        have hw : Below y3.heap.size y3 y4 := by rw [hy]; exact (Below.refl _ _).alloc (Nat.le_refl _) _
        have hN : y4.heap[y3.heap.size]? = some (.cells #[.string (⟨#[126, 120]⟩ : ByteArray), .int .i64 2, .string sx, .bool false] 33 (0, 0)) := by rw [hy]; exact heap_alloc_new y3 _
        rw [← hy]
        refine hK.out _ _ (fun _ => HS.out _ hD) ?_
        obtain ⟨b6, hbn⟩ : ∃ b, y3.heap.size = b := ⟨_, rfl⟩
        have HO_ := Aside0.mk (pw_own_below HO.out hw)
        have hNe : some b6 ≠ (Value.slice A4 (1 + a.length) c4).ownBlock := fun e => by have := own_lt HO.out b6 e.symm; omega
        rw [hbn] at hN ⊢
        have HD_ := Aside0.mk hD
        clear HD
        have HD := HD_
        clear HD_
        clear HO
        have HO := HO_
        clear HO_
        clear hK K hbn hw hD
        have HBX := Aside0.mk hN
        have HN := Aside0.mk hNe
        clear hNe
        clear hN hy
        try simp only [Act.put, List.setIfInBounds_toArray, List.set_cons_zero, List.set_cons_succ]
        refine Held.AnyS.step (i := 7) rfl (by kernel_rfl) rfl (fun K hK => ?_)
        have nw : ∀ j u, [.string (⟨#[126, 120]⟩ : ByteArray), .int .i64 2, .string sx, .bool false][j]? = some u → y4.cell? ((⟨b6, 0, none⟩ : Addr).add j) = some u := by simpa using World.news_of_block (cs := #[.string (⟨#[126, 120]⟩ : ByteArray), .int .i64 2, .string sx, .bool false]) (t := 33) (fr := (0, 0)) HBX.out
        refine Held.append_any (.tmp 45) (.tmp 47) 23 rfl Z8.heap.size 33 (.agg #[.string (⟨#[]⟩ : ByteArray), .int .i64 0, .string (⟨#[]⟩ : ByteArray), .bool false]) 4 48 Try.underlying23 (by kernel_rfl) rfl (by omega) (.slice A4 (1 + a.length) c4) (1 + a.length) ([.string (⟨#[126, 121]⟩ : ByteArray), .int .i64 (wrap64 (1 + wrap64 (2 * q))), .string (⟨#[97, 10, 98, 10]⟩ : ByteArray), .bool false] ++ ia) rfl HO.out (some ⟨b6, 0, none⟩) 1 1 [.string (⟨#[126, 120]⟩ : ByteArray), .int .i64 2, .string sx, .bool false] rfl rfl (.inr ⟨_, rfl, nw⟩) ?_ ?_ ?_ ?_ ?_
        · intro u hu; simp at hu; rcases hu with rfl | rfl | rfl | rfl <;> rfl
        · have := HK.out.la; simp only [maxLen]; omega
        · have := HK.out.la; omega
        · have := HD.out.size; omega
        intro v y5 hown hgr hat
        have hown : y5.ownsRow Z8.heap.size 33 4 v (1 + a.length + 1) ([.string (⟨#[126, 121]⟩ : ByteArray), .int .i64 (wrap64 (1 + wrap64 (2 * q))), .string (⟨#[97, 10, 98, 10]⟩ : ByteArray), .bool false] ++ ia ++ [.string (⟨#[126, 120]⟩ : ByteArray), .int .i64 2, .string sx, .bool false]) := hown
        obtain ⟨A7, c7, rfl⟩ := own_slice hown
        have hD : Below Z8.heap.size Z8 y5 := HD.out.grown hgr HD.out.size (fun k hk => own_base HO.out k hk)
        refine hK.out _ _ (fun _ => HS.out _ hD) ?_
        have HO_ := Aside0.mk hown
        have HD_ := Aside0.mk hD
        clear HD
        have HD := HD_
        clear HD_
        clear HO
        have HO := HO_
        clear HO_
        clear hK K hown hgr hat hD nw
        try simp only [Act.put, List.setIfInBounds_toArray, List.set_cons_zero, List.set_cons_succ]
        refine Held.AnyS.step (i := 8) rfl (by kernel_rfl) rfl (fun K hK => ?_)
        go_simp
        refine hK.out _ _ (fun h => absurd h (by omega)) ?_
        clear hK K
        refine Held.AnyS.done (by kernel_rfl) ?_ _
        go_simp
        exact HJ8.out b1 b6 A2 c2 A4 c4 A7 c7 y5 HO.out HD.out
      · go_simp
        first | refine ⟨trivial, ?_⟩ | skip
        obtain ⟨y3, hy⟩ : ∃ V, V = y2.alloc (.cells #[.string (⟨#[126, 120]⟩ : ByteArray), .int .i64 2, .string sx, .bool false] 33) := ⟨_, rfl⟩
        have hD : Below Z8.heap.size Z8 y3 := by rw [hy]; exact HD.out.alloc HD.out.size _
        have hw : Below y2.heap.size y2 y3 := by rw [hy]; exact (Below.refl _ _).alloc (Nat.le_refl _) _
        have hN : y3.heap[y2.heap.size]? = some (.cells #[.string (⟨#[126, 120]⟩ : ByteArray), .int .i64 2, .string sx, .bool false] 33 (0, 0)) := by rw [hy]; exact heap_alloc_new y2 _
        rw [← hy]
        refine hK.out _ _ (fun _ => HS.out _ hD) ?_
        obtain ⟨b6, hbn⟩ : ∃ b, y2.heap.size = b := ⟨_, rfl⟩
        have HO_ := Aside0.mk (pw_own_below HO.out hw)
        have hNe : some b6 ≠ (Value.slice A2 (1) c2).ownBlock := fun e => by have := own_lt HO.out b6 e.symm; omega
        rw [hbn] at hN ⊢
        have HD_ := Aside0.mk hD
        clear HD
        have HD := HD_
        clear HD_
        clear HO
        have HO := HO_
        clear HO_
        clear hK K hbn hw hD
        have HBX := Aside0.mk hN
        have HN := Aside0.mk hNe
        clear hNe
        clear hN hy
        try simp only [Act.put, List.setIfInBounds_toArray, List.set_cons_zero, List.set_cons_succ]
        refine Held.AnyS.step (i := 4) rfl (by kernel_rfl) rfl (fun K hK => ?_)
        have ho := pw_own_below HOA8.out HD.out
        refine Held.append_any (.tmp 43) (.tmp 44) 23 rfl Z8.heap.size 33 (.agg #[.string (⟨#[]⟩ : ByteArray), .int .i64 0, .string (⟨#[]⟩ : ByteArray), .bool false]) 4 48 Try.underlying23 (by kernel_rfl) rfl (by omega) (.slice A2 (1) c2) 1 ([.string (⟨#[126, 121]⟩ : ByteArray), .int .i64 (wrap64 (1 + wrap64 (2 * q))), .string (⟨#[97, 10, 98, 10]⟩ : ByteArray), .bool false]) rfl HO.out Aa a.length ca ia rfl ho.1 (own_news ho) ?_ ?_ ?_ ?_ ?_
        · exact encI_one HRA.out
        · have := HK.out.la; simp only [maxLen]; omega
        · have := HK.out.la; omega
        · have := HD.out.size; omega
        intro v y4 hown hgr hat
        have hown : y4.ownsRow Z8.heap.size 33 4 v (1 + a.length) ([.string (⟨#[126, 121]⟩ : ByteArray), .int .i64 (wrap64 (1 + wrap64 (2 * q))), .string (⟨#[97, 10, 98, 10]⟩ : ByteArray), .bool false] ++ ia) := hown
        obtain ⟨A4, c4, rfl⟩ := own_slice hown
        have hD : Below Z8.heap.size Z8 y4 := HD.out.grown hgr HD.out.size (fun k hk => own_base HO.out k hk)
        refine hK.out _ _ (fun _  => HS.out _ hD) ?_
        have HBX_ := Aside0.mk ((hgr.block _ (blk_lt HBX.out) (HN.out)).trans HBX.out)
        have HN_ := Aside0.mk (show some b6 ≠ (Value.slice A4 (1 + a.length) c4).ownBlock from by rcases hat with hat | hat <;> rw [hat]; exact HN.out; exact fun e => by injection e with e; have := blk_lt HBX.out; omega)
        have HO_ := Aside0.mk hown
        have HD_ := Aside0.mk hD
        clear HD
        have HD := HD_
        clear HD_
        clear HO
        have HO := HO_
        clear HO_
        clear HBX HN
        have HBX := HBX_
        have HN := HN_
        clear HBX_ HN_
        clear hK K hown hgr hat hD ho
        try simp only [Act.put, List.setIfInBounds_toArray, List.set_cons_zero, List.set_cons_succ]
        refine Held.AnyS.step (i := 7) rfl (by kernel_rfl) rfl (fun K hK => ?_)
        have nw : ∀ j u, [.string (⟨#[126, 120]⟩ : ByteArray), .int .i64 2, .string sx, .bool false][j]? = some u → y4.cell? ((⟨b6, 0, none⟩ : Addr).add j) = some u := by simpa using World.news_of_block (cs := #[.string (⟨#[126, 120]⟩ : ByteArray), .int .i64 2, .string sx, .bool false]) (t := 33) (fr := (0, 0)) HBX.out
        refine Held.append_any (.tmp 45) (.tmp 47) 23 rfl Z8.heap.size 33 (.agg #[.string (⟨#[]⟩ : ByteArray), .int .i64 0, .string (⟨#[]⟩ : ByteArray), .bool false]) 4 48 Try.underlying23 (by kernel_rfl) rfl (by omega) (.slice A4 (1 + a.length) c4) (1 + a.length) ([.string (⟨#[126, 121]⟩ : ByteArray), .int .i64 (wrap64 (1 + wrap64 (2 * q))), .string (⟨#[97, 10, 98, 10]⟩ : ByteArray), .bool false] ++ ia) rfl HO.out (some ⟨b6, 0, none⟩) 1 1 [.string (⟨#[126, 120]⟩ : ByteArray), .int .i64 2, .string sx, .bool false] rfl rfl (.inr ⟨_, rfl, nw⟩) ?_ ?_ ?_ ?_ ?_
        · intro u hu; simp at hu; rcases hu with rfl | rfl | rfl | rfl <;> rfl
        · have := HK.out.la; simp only [maxLen]; omega
        · have := HK.out.la; omega
        · have := HD.out.size; omega
        intro v y5 hown hgr hat
        have hown : y5.ownsRow Z8.heap.size 33 4 v (1 + a.length + 1) ([.string (⟨#[126, 121]⟩ : ByteArray), .int .i64 (wrap64 (1 + wrap64 (2 * q))), .string (⟨#[97, 10, 98, 10]⟩ : ByteArray), .bool false] ++ ia ++ [.string (⟨#[126, 120]⟩ : ByteArray), .int .i64 2, .string sx, .bool false]) := hown
        obtain ⟨A7, c7, rfl⟩ := own_slice hown
        have hD : Below Z8.heap.size Z8 y5 := HD.out.grown hgr HD.out.size (fun k hk => own_base HO.out k hk)
        refine hK.out _ _ (fun _ => HS.out _ hD) ?_
        have HO_ := Aside0.mk hown
        have HD_ := Aside0.mk hD
        clear HD
        have HD := HD_
        clear HD_
        clear HO
        have HO := HO_
        clear HO_
        clear hK K hown hgr hat hD nw
        try simp only [Act.put, List.setIfInBounds_toArray, List.set_cons_zero, List.set_cons_succ]
        refine Held.AnyS.step (i := 8) rfl (by kernel_rfl) rfl (fun K hK => ?_)
        go_simp
        refine hK.out _ _ (fun h => absurd h (by omega)) ?_
        clear hK K
        refine Held.AnyS.done (by kernel_rfl) ?_ _
        go_simp
        exact HJ8.out b1 b6 A2 c2 A4 c4 A7 c7 y5 HO.out HD.out
    · go_simp
      first | refine ⟨trivial, ?_⟩ | skip
      obtain ⟨y2, hy⟩ : ∃ V, V = y1.alloc (.cells #[.string (⟨#[126, 120]⟩ : ByteArray), .int .i64 2, .string sx, .bool false] 33) := ⟨_, rfl⟩
      have hD : Below Z8.heap.size Z8 y2 := by rw [hy]; exact HD.out.alloc HD.out.size _
      have hw : Below y1.heap.size y1 y2 := by rw [hy]; exact (Below.refl _ _).alloc (Nat.le_refl _) _
      have hN : y2.heap[y1.heap.size]? = some (.cells #[.string (⟨#[126, 120]⟩ : ByteArray), .int .i64 2, .string sx, .bool false] 33 (0, 0)) := by rw [hy]; exact heap_alloc_new y1 _
      rw [← hy]
      refine hK.out _ _ (fun _ => HS.out _ hD) ?_
      obtain ⟨b6, hbn⟩ : ∃ b, y1.heap.size = b := ⟨_, rfl⟩
      have HB1_ := Aside0.mk (blk_below HB1.out hw)
      rw [hbn] at hN ⊢
      have HD_ := Aside0.mk hD
      clear HD
      have HD := HD_
      clear HD_
      clear HB1
      have HB1 := HB1_
      clear HB1_
      clear hK K hbn hw hD
      have HBX := Aside0.mk hN
      clear hN hy
      try simp only [Act.put, List.setIfInBounds_toArray, List.set_cons_zero, List.set_cons_succ]
      refine Held.AnyS.step (i := 2) rfl (by kernel_rfl) rfl (fun K hK => ?_)
      have nw : ∀ j u, [.string (⟨#[126, 121]⟩ : ByteArray), .int .i64 (wrap64 (1 + wrap64 (2 * q))), .string (⟨#[97, 10, 98, 10]⟩ : ByteArray), .bool false][j]? = some u → y2.cell? ((⟨b1, 0, none⟩ : Addr).add j) = some u := by simpa using World.news_of_block (cs := #[.string (⟨#[126, 121]⟩ : ByteArray), .int .i64 (wrap64 (1 + wrap64 (2 * q))), .string (⟨#[97, 10, 98, 10]⟩ : ByteArray), .bool false]) (t := 33) (fr := (0, 0)) HB1.out
      refine Held.append_any (.const (.slice none 0 0)) (.tmp 42) 23 rfl Z8.heap.size 33 (.agg #[.string (⟨#[]⟩ : ByteArray), .int .i64 0, .string (⟨#[]⟩ : ByteArray), .bool false]) 4 48 Try.underlying23 (by kernel_rfl) rfl (by omega) (.slice none 0 0) 0 [] rfl (own_nil _ _ _ _) (some ⟨b1, 0, none⟩) 1 1 [.string (⟨#[126, 121]⟩ : ByteArray), .int .i64 (wrap64 (1 + wrap64 (2 * q))), .string (⟨#[97, 10, 98, 10]⟩ : ByteArray), .bool false] rfl rfl (.inr ⟨_, rfl, nw⟩) ?_ ?_ ?_ ?_ ?_
      · intro u hu; simp at hu; rcases hu with rfl | rfl | rfl | rfl <;> rfl
      · have := HK.out.la; simp only [maxLen]; omega
      · have := HK.out.la; omega
      · have := HD.out.size; omega
      intro v y3 hown hgr hat
      have hown : y3.ownsRow Z8.heap.size 33 4 v (1) ([.string (⟨#[126, 121]⟩ : ByteArray), .int .i64 (wrap64 (1 + wrap64 (2 * q))), .string (⟨#[97, 10, 98, 10]⟩ : ByteArray), .bool false]) := hown
      obtain ⟨A2, c2, rfl⟩ := own_slice hown
      have hD : Below Z8.heap.size Z8 y3 := HD.out.grown hgr HD.out.size (fun k hk => by simp [Value.ownBlock] at hk)
      refine hK.out _ _ (fun _  => HS.out _ hD) ?_
      have HBX_ := Aside0.mk ((hgr.block _ (blk_lt HBX.out) (by simp [Value.ownBlock])).trans HBX.out)
      have HN_ := Aside0.mk (show some b6 ≠ (Value.slice A2 (1) c2).ownBlock from by rcases hat with hat | hat <;> rw [hat]; exact (by simp [Value.ownBlock]); exact fun e => by injection e with e; have := blk_lt HBX.out; omega)
      have HO_ := Aside0.mk hown
      have HD_ := Aside0.mk hD
      clear HD
      have HD := HD_
      clear HD_
      clear HB1
      have HO := HO_
      clear HO_
      clear HBX
      have HBX := HBX_
      have HN := HN_
      clear HBX_ HN_
      clear hK K hown hgr hat hD nw
      try simp only [Act.put, List.setIfInBounds_toArray, List.set_cons_zero, List.set_cons_succ]
      refine Held.AnyS.step (i := 4) rfl (by kernel_rfl) rfl (fun K hK => ?_)
      have ho := pw_own_below HOA8.out HD.out
      refine Held.append_any (.tmp 43) (.tmp 44) 23 rfl Z8.heap.size 33 (.agg #[.string (⟨#[]⟩ : ByteArray), .int .i64 0, .string (⟨#[]⟩ : ByteArray), .bool false]) 4 48 Try.underlying23 (by kernel_rfl) rfl (by omega) (.slice A2 (1) c2) 1 ([.string (⟨#[126, 121]⟩ : ByteArray), .int .i64 (wrap64 (1 + wrap64 (2 * q))), .string (⟨#[97, 10, 98, 10]⟩ : ByteArray), .bool false]) rfl HO.out Aa a.length ca ia rfl ho.1 (own_news ho) ?_ ?_ ?_ ?_ ?_
      · exact encI_one HRA.out
      · have := HK.out.la; simp only [maxLen]; omega
      · have := HK.out.la; omega
      · have := HD.out.size; omega
      intro v y4 hown hgr hat
      have hown : y4.ownsRow Z8.heap.size 33 4 v (1 + a.length) ([.string (⟨#[126, 121]⟩ : ByteArray), .int .i64 (wrap64 (1 + wrap64 (2 * q))), .string (⟨#[97, 10, 98, 10]⟩ : ByteArray), .bool false] ++ ia) := hown
      obtain ⟨A4, c4, rfl⟩ := own_slice hown
      have hD : Below Z8.heap.size Z8 y4 := HD.out.grown hgr HD.out.size (fun k hk => own_base HO.out k hk)
      refine hK.out _ _ (fun _  => HS.out _ hD) ?_
      have HBX_ := Aside0.mk ((hgr.block _ (blk_lt HBX.out) (HN.out)).trans HBX.out)
      have HN_ := Aside0.mk (show some b6 ≠ (Value.slice A4 (1 + a.length) c4).ownBlock from by rcases hat with hat | hat <;> rw [hat]; exact HN.out; exact fun e => by injection e with e; have := blk_lt HBX.out; omega)
      have HO_ := Aside0.mk hown
      have HD_ := Aside0.mk hD
      clear HD
      have HD := HD_
      clear HD_
      clear HO
      have HO := HO_
      clear HO_
      clear HBX HN
      have HBX := HBX_
      have HN := HN_
      clear HBX_ HN_
      clear hK K hown hgr hat hD ho
      try simp only [Act.put, List.setIfInBounds_toArray, List.set_cons_zero, List.set_cons_succ]
      refine Held.AnyS.step (i := 7) rfl (by kernel_rfl) rfl (fun K hK => ?_)
      have nw : ∀ j u, [.string (⟨#[126, 120]⟩ : ByteArray), .int .i64 2, .string sx, .bool false][j]? = some u → y4.cell? ((⟨b6, 0, none⟩ : Addr).add j) = some u := by simpa using World.news_of_block (cs := #[.string (⟨#[126, 120]⟩ : ByteArray), .int .i64 2, .string sx, .bool false]) (t := 33) (fr := (0, 0)) HBX.out
      refine Held.append_any (.tmp 45) (.tmp 47) 23 rfl Z8.heap.size 33 (.agg #[.string (⟨#[]⟩ : ByteArray), .int .i64 0, .string (⟨#[]⟩ : ByteArray), .bool false]) 4 48 Try.underlying23 (by kernel_rfl) rfl (by omega) (.slice A4 (1 + a.length) c4) (1 + a.length) ([.string (⟨#[126, 121]⟩ : ByteArray), .int .i64 (wrap64 (1 + wrap64 (2 * q))), .string (⟨#[97, 10, 98, 10]⟩ : ByteArray), .bool false] ++ ia) rfl HO.out (some ⟨b6, 0, none⟩) 1 1 [.string (⟨#[126, 120]⟩ : ByteArray), .int .i64 2, .string sx, .bool false] rfl rfl (.inr ⟨_, rfl, nw⟩) ?_ ?_ ?_ ?_ ?_
      · intro u hu; simp at hu; rcases hu with rfl | rfl | rfl | rfl <;> rfl
      · have := HK.out.la; simp only [maxLen]; omega
      · have := HK.out.la; omega
      · have := HD.out.size; omega
      intro v y5 hown hgr hat
      have hown : y5.ownsRow Z8.heap.size 33 4 v (1 + a.length + 1) ([.string (⟨#[126, 121]⟩ : ByteArray), .int .i64 (wrap64 (1 + wrap64 (2 * q))), .string (⟨#[97, 10, 98, 10]⟩ : ByteArray), .bool false] ++ ia ++ [.string (⟨#[126, 120]⟩ : ByteArray), .int .i64 2, .string sx, .bool false]) := hown
      obtain ⟨A7, c7, rfl⟩ := own_slice hown
      have hD : Below Z8.heap.size Z8 y5 := HD.out.grown hgr HD.out.size (fun k hk => own_base HO.out k hk)
      refine hK.out _ _ (fun _ => HS.out _ hD) ?_
      have HO_ := Aside0.mk hown
      have HD_ := Aside0.mk hD
      clear HD
      have HD := HD_
      clear HD_
      clear HO
      have HO := HO_
      clear HO_
      clear hK K hown hgr hat hD nw
      try simp only [Act.put, List.setIfInBounds_toArray, List.set_cons_zero, List.set_cons_succ]
      refine Held.AnyS.step (i := 8) rfl (by kernel_rfl) rfl (fun K hK => ?_)
      go_simp
      refine hK.out _ _ (fun h => absurd h (by omega)) ?_
      clear hK K
      refine Held.AnyS.done (by kernel_rfl) ?_ _
      go_simp
      exact HJ8.out b1 b6 A2 c2 A4 c4 A7 c7 y5 HO.out HD.out
  · go_simp
    first | refine ⟨trivial, ?_⟩ | skip
    obtain ⟨y1, hy⟩ : ∃ V, V = Z8.alloc (.cells #[.string (⟨#[126, 120]⟩ : ByteArray), .int .i64 2, .string sx, .bool false] 33) := ⟨_, rfl⟩
    have hD : Below Z8.heap.size Z8 y1 := by rw [hy]; exact HD.out.alloc HD.out.size _
    have hw : Below Z8.heap.size Z8 y1 := by rw [hy]; exact (Below.refl _ _).alloc (Nat.le_refl _) _
    have hN : y1.heap[Z8.heap.size]? = some (.cells #[.string (⟨#[126, 120]⟩ : ByteArray), .int .i64 2, .string sx, .bool false] 33 (0, 0)) := by rw [hy]; exact heap_alloc_new Z8 _
    rw [← hy]
    refine hK.out _ _ (fun _ => HS.out _ hD) ?_
    obtain ⟨b6, hbn⟩ : ∃ b, Z8.heap.size = b := ⟨_, rfl⟩
    rw [hbn] at hN ⊢
    have HD_ := Aside0.mk hD
    clear HD
    have HD := HD_
    clear HD_
    clear hK K hbn hw hD
    have HBX := Aside0.mk hN
    clear hN hy
    try simp only [Act.put, List.setIfInBounds_toArray, List.set_cons_zero, List.set_cons_succ]
    refine Held.AnyS.step (i := 1) rfl (by kernel_rfl) rfl (fun K hK => ?_)
    go_simp
    first | refine ⟨trivial, ?_⟩ | skip
    obtain ⟨y2, hy⟩ : ∃ V, V = y1.alloc (.cells #[.string (⟨#[126, 121]⟩ : ByteArray), .int .i64 (wrap64 (1 + wrap64 (2 * q))), .string (⟨#[97, 10, 98, 10]⟩ : ByteArray), .bool false] 33) := ⟨_, rfl⟩
    have hD : Below Z8.heap.size Z8 y2 := by rw [hy]; exact HD.out.alloc HD.out.size _
    have hw : Below y1.heap.size y1 y2 := by rw [hy]; exact (Below.refl _ _).alloc (Nat.le_refl _) _
    have hN : y2.heap[y1.heap.size]? = some (.cells #[.string (⟨#[126, 121]⟩ : ByteArray), .int .i64 (wrap64 (1 + wrap64 (2 * q))), .string (⟨#[97, 10, 98, 10]⟩ : ByteArray), .bool false] 33 (0, 0)) := by rw [hy]; exact heap_alloc_new y1 _
    rw [← hy]
    refine hK.out _ _ (fun _ => HS.out _ hD) ?_
    obtain ⟨b1, hbn⟩ : ∃ b, y1.heap.size = b := ⟨_, rfl⟩
    have HBX_ := Aside0.mk (blk_below HBX.out hw)
    rw [hbn] at hN ⊢
    have HD_ := Aside0.mk hD
    clear HD
    have HD := HD_
    clear HD_
    clear HBX
    have HBX := HBX_
    clear HBX_
    clear hK K hbn hw hD
    have HB1 := Aside0.mk hN
    clear hN hy
    try simp only [Act.put, List.setIfInBounds_toArray, List.set_cons_zero, List.set_cons_succ]
    refine Held.AnyS.step (i := 2) rfl (by kernel_rfl) rfl (fun K hK => ?_)
    have nw : ∀ j u, [.string (⟨#[126, 121]⟩ : ByteArray), .int .i64 (wrap64 (1 + wrap64 (2 * q))), .string (⟨#[97, 10, 98, 10]⟩ : ByteArray), .bool false][j]? = some u → y2.cell? ((⟨b1, 0, none⟩ : Addr).add j) = some u := by simpa using World.news_of_block (cs := #[.string (⟨#[126, 121]⟩ : ByteArray), .int .i64 (wrap64 (1 + wrap64 (2 * q))), .string (⟨#[97, 10, 98, 10]⟩ : ByteArray), .bool false]) (t := 33) (fr := (0, 0)) HB1.out
    refine Held.append_any (.const (.slice none 0 0)) (.tmp 42) 23 rfl Z8.heap.size 33 (.agg #[.string (⟨#[]⟩ : ByteArray), .int .i64 0, .string (⟨#[]⟩ : ByteArray), .bool false]) 4 48 Try.underlying23 (by kernel_rfl) rfl (by omega) (.slice none 0 0) 0 [] rfl (own_nil _ _ _ _) (some ⟨b1, 0, none⟩) 1 1 [.string (⟨#[126, 121]⟩ : ByteArray), .int .i64 (wrap64 (1 + wrap64 (2 * q))), .string (⟨#[97, 10, 98, 10]⟩ : ByteArray), .bool false] rfl rfl (.inr ⟨_, rfl, nw⟩) ?_ ?_ ?_ ?_ ?_
    · intro u hu; simp at hu; rcases hu with rfl | rfl | rfl | rfl <;> rfl
    · have := HK.out.la; simp only [maxLen]; omega
    · have := HK.out.la; omega
    · have := HD.out.size; omega
    intro v y3 hown hgr hat
    have hown : y3.ownsRow Z8.heap.size 33 4 v (1) ([.string (⟨#[126, 121]⟩ : ByteArray), .int .i64 (wrap64 (1 + wrap64 (2 * q))), .string (⟨#[97, 10, 98, 10]⟩ : ByteArray), .bool false]) := hown
    obtain ⟨A2, c2, rfl⟩ := own_slice hown
    have hD : Below Z8.heap.size Z8 y3 := HD.out.grown hgr HD.out.size (fun k hk => by simp [Value.ownBlock] at hk)
    refine hK.out _ _ (fun _  => HS.out _ hD) ?_
    have HBX_ := Aside0.mk ((hgr.block _ (blk_lt HBX.out) (by simp [Value.ownBlock])).trans HBX.out)
    have HN_ := Aside0.mk (show some b6 ≠ (Value.slice A2 (1) c2).ownBlock from by rcases hat with hat | hat <;> rw [hat]; exact (by simp [Value.ownBlock]); exact fun e => by injection e with e; have := blk_lt HBX.out; omega)
    have HO_ := Aside0.mk hown
    have HD_ := Aside0.mk hD
    clear HD
    have HD := HD_
    clear HD_
    clear HB1
    have HO := HO_
    clear HO_
    clear HBX
    have HBX := HBX_
    have HN := HN_
    clear HBX_ HN_
    clear hK K hown hgr hat hD nw
    try simp only [Act.put, List.setIfInBounds_toArray, List.set_cons_zero, List.set_cons_succ]
    refine Held.AnyS.step (i := 4) rfl (by kernel_rfl) rfl (fun K hK => ?_)
    have ho := pw_own_below HOA8.out HD.out
    refine Held.append_any (.tmp 43) (.tmp 44) 23 rfl Z8.heap.size 33 (.agg #[.string (⟨#[]⟩ : ByteArray), .int .i64 0, .string (⟨#[]⟩ : ByteArray), .bool false]) 4 48 Try.underlying23 (by kernel_rfl) rfl (by omega) (.slice A2 (1) c2) 1 ([.string (⟨#[126, 121]⟩ : ByteArray), .int .i64 (wrap64 (1 + wrap64 (2 * q))), .string (⟨#[97, 10, 98, 10]⟩ : ByteArray), .bool false]) rfl HO.out Aa a.length ca ia rfl ho.1 (own_news ho) ?_ ?_ ?_ ?_ ?_
    · exact encI_one HRA.out
    · have := HK.out.la; simp only [maxLen]; omega
    · have := HK.out.la; omega
    · have := HD.out.size; omega
    intro v y4 hown hgr hat
    have hown : y4.ownsRow Z8.heap.size 33 4 v (1 + a.length) ([.string (⟨#[126, 121]⟩ : ByteArray), .int .i64 (wrap64 (1 + wrap64 (2 * q))), .string (⟨#[97, 10, 98, 10]⟩ : ByteArray), .bool false] ++ ia) := hown
    obtain ⟨A4, c4, rfl⟩ := own_slice hown
    have hD : Below Z8.heap.size Z8 y4 := HD.out.grown hgr HD.out.size (fun k hk => own_base HO.out k hk)
    refine hK.out _ _ (fun _  => HS.out _ hD) ?_
    have HBX_ := Aside0.mk ((hgr.block _ (blk_lt HBX.out) (HN.out)).trans HBX.out)
    have HN_ := Aside0.mk (show some b6 ≠ (Value.slice A4 (1 + a.length) c4).ownBlock from by rcases hat with hat | hat <;> rw [hat]; exact HN.out; exact fun e => by injection e with e; have := blk_lt HBX.out; omega)
    have HO_ := Aside0.mk hown
    have HD_ := Aside0.mk hD
    clear HD
    have HD := HD_
    clear HD_
    clear HO
    have HO := HO_
    clear HO_
    clear HBX HN
    have HBX := HBX_
    have HN := HN_
    clear HBX_ HN_
    clear hK K hown hgr hat hD ho
    try simp only [Act.put, List.setIfInBounds_toArray, List.set_cons_zero, List.set_cons_succ]
    refine Held.AnyS.step (i := 7) rfl (by kernel_rfl) rfl (fun K hK => ?_)
    have nw : ∀ j u, [.string (⟨#[126, 120]⟩ : ByteArray), .int .i64 2, .string sx, .bool false][j]? = some u → y4.cell? ((⟨b6, 0, none⟩ : Addr).add j) = some u := by simpa using World.news_of_block (cs := #[.string (⟨#[126, 120]⟩ : ByteArray), .int .i64 2, .string sx, .bool false]) (t := 33) (fr := (0, 0)) HBX.out
    refine Held.append_any (.tmp 45) (.tmp 47) 23 rfl Z8.heap.size 33 (.agg #[.string (⟨#[]⟩ : ByteArray), .int .i64 0, .string (⟨#[]⟩ : ByteArray), .bool false]) 4 48 Try.underlying23 (by kernel_rfl) rfl (by omega) (.slice A4 (1 + a.length) c4) (1 + a.length) ([.string (⟨#[126, 121]⟩ : ByteArray), .int .i64 (wrap64 (1 + wrap64 (2 * q))), .string (⟨#[97, 10, 98, 10]⟩ : ByteArray), .bool false] ++ ia) rfl HO.out (some ⟨b6, 0, none⟩) 1 1 [.string (⟨#[126, 120]⟩ : ByteArray), .int .i64 2, .string sx, .bool false] rfl rfl (.inr ⟨_, rfl, nw⟩) ?_ ?_ ?_ ?_ ?_
    · intro u hu; simp at hu; rcases hu with rfl | rfl | rfl | rfl <;> rfl
    · have := HK.out.la; simp only [maxLen]; omega
    · have := HK.out.la; omega
    · have := HD.out.size; omega
    intro v y5 hown hgr hat
    have hown : y5.ownsRow Z8.heap.size 33 4 v (1 + a.length + 1) ([.string (⟨#[126, 121]⟩ : ByteArray), .int .i64 (wrap64 (1 + wrap64 (2 * q))), .string (⟨#[97, 10, 98, 10]⟩ : ByteArray), .bool false] ++ ia ++ [.string (⟨#[126, 120]⟩ : ByteArray), .int .i64 2, .string sx, .bool false]) := hown
    obtain ⟨A7, c7, rfl⟩ := own_slice hown
    have hD : Below Z8.heap.size Z8 y5 := HD.out.grown hgr HD.out.size (fun k hk => own_base HO.out k hk)
    refine hK.out _ _ (fun _ => HS.out _ hD) ?_
    have HO_ := Aside0.mk hown
    have HD_ := Aside0.mk hD
    clear HD
    have HD := HD_
    clear HD_
    clear HO
    have HO := HO_
    clear HO_
    clear hK K hown hgr hat hD nw
    try simp only [Act.put, List.setIfInBounds_toArray, List.set_cons_zero, List.set_cons_succ]
    refine Held.AnyS.step (i := 8) rfl (by kernel_rfl) rfl (fun K hK => ?_)
    go_simp
    refine hK.out _ _ (fun h => absurd h (by omega)) ?_
    clear hK K
    refine Held.AnyS.done (by kernel_rfl) ?_ _
    go_simp
    exact HJ8.out b1 b6 A2 c2 A4 c4 A7 c7 y5 HO.out HD.out
end Go.Proofs.Ytcgnkbdfoaiaiaa.P
end
section
/- RenameApart: the law's walk by hand, regions 0 to 6 (written by apart_gen3.py). -/
set_option linter.unusedVariables false
set_option linter.unusedSimpArgs false
namespace Go.Proofs.Ytcgnkbdfoaiaiaa.P
open Go Go.RowKit Go.Proofs.YtcgnkbdfoaiaiaaW.PrintWords Go.Proofs.YtcgnkbdfoaiaiaaW.PrintLast Go.Proofs.YtcgnkbdfoaiaiaaW.PrintMore
set_option maxHeartbeats 8000000 in
set_option maxRecDepth 100000 in
theorem apart_run (k : Nat) (A0 : Option Addr) (c0 : Nat) (l0 : List S41) (A1 : Option Addr) (c1 : Nat) (l1 : List S41) (a2 a3 : Int) (w : World) (hr0 : Kd.C k41 w A0 l0.length l0) (hc0 : l0.length ≤ c0) (hr1 : Kd.C k41 w A1 l1.length l1) (hc1 : l1.length ≤ c1)
    (a b : List ItS) (t q : Int) (l : List S35) (hk : ApartOk k l0 l1 a2 a3 a b t q l) :
    Calls Try.prog 6 #[.slice A0 l0.length c0, .slice A1 l1.length c1, .int .i64 a2, .int .i64 a3] w fun e w' => e = .returned (.bool true) ∧ Below w.heap.size w w' := by
  have HR0 := Aside0.mk hr0
  have HR1 := Aside0.mk hr1
  have HC0 := Aside0.mk hc0
  have HC1 := Aside0.mk hc1
  have HK := Aside0.mk hk
  have HB := Aside0.mk (Below.refl w.heap.size w)
  clear hr0 hr1 hc0 hc1 hk
  go_enter Try.func6, Try.ntmps6
  go_wp2_with (first | ((with_reducible refine gate_callee (f := 7) rfl ?_); refine goesL_ _ rfl rfl Try.func7 (by kernel_rfl) rfl #[] rfl (by (try simp only [List.map_toArray, List.map_cons, List.map_nil]); first | done | rfl | (simp only [List.length_drop, List.length_take]; rfl)) ?_; (with_reducible refine (collatorlaw08_awake.calls k  true _ HK.out.aw).mono ?_); rintro e w11 ⟨rfl, hb⟩; refine ⟨_, rfl, ?_⟩; have n0_ := Aside0.mk (below_step (by repeat (first | (with_reducible first | exact HB.out | apply below_alloc | apply pw_below_drewN | apply below_drew1) | exact HB.out)) hb); clear HB; have HB := n0_; clear n0_; (try clear hb); (try clear hb2); (try clear hk); (try clear hi)) | ((with_reducible refine gate_callee (f := 13) rfl ?_); refine goesL_ _ rfl rfl Try.func13 (by kernel_rfl) rfl #[.slice A0 l0.length c0] rfl (by (try simp only [List.map_toArray, List.map_cons, List.map_nil]); first | done | rfl | (simp only [List.length_drop, List.length_take]; rfl)) ?_; (with_reducible refine (collatorlaw02_Tree.calls k _ _ l0 a _ ?side1 ?side2 HK.out.ta).mono ?_); (case side1 => repeat (first | exact (Kd.C_below HR0.out HB.out) | (with_reducible refine Kd.C_alloc ?_ _) | (with_reducible refine Kd.C_drewN ?_ _) | (with_reducible refine Kd.C_drew ?_))); (case side2 => exact HC0.out); rintro e w12 ⟨va, rfl, ho0, hb⟩; refine ⟨_, rfl, ?_⟩; have n0_ := Aside0.mk (Kd.R_lower ho0 (below_size (by repeat (first | (with_reducible first | exact HB.out | apply below_alloc | apply pw_below_drewN | apply below_drew1) | exact HB.out)))); have n1_ := Aside0.mk (below_step (by repeat (first | (with_reducible first | exact HB.out | apply below_alloc | apply pw_below_drewN | apply below_drew1) | exact HB.out)) hb); clear HB; have HOA := n0_; have HB := n1_; clear n0_ n1_; (try clear hb); (try clear hb2); (try clear hk); (try clear hi); (try clear ho0)) | ((with_reducible refine gate_callee (f := 13) rfl ?_); refine goesL_ _ rfl rfl Try.func13 (by kernel_rfl) rfl #[.slice A1 l1.length c1] rfl (by (try simp only [List.map_toArray, List.map_cons, List.map_nil]); first | done | rfl | (simp only [List.length_drop, List.length_take]; rfl)) ?_; (with_reducible refine (collatorlaw02_Tree.calls k _ _ l1 b _ ?side1 ?side2 HK.out.tb).mono ?_); (case side1 => repeat (first | exact (Kd.C_below HR1.out HB.out) | (with_reducible refine Kd.C_alloc ?_ _) | (with_reducible refine Kd.C_drewN ?_ _) | (with_reducible refine Kd.C_drew ?_))); (case side2 => exact HC1.out); rintro e w13 ⟨vb, rfl, ho0, hb⟩; refine ⟨_, rfl, ?_⟩; have n0_ := Aside0.mk (Kd.R_elder' (by (with_reducible repeat (first | apply Kd.R_alloc | apply Kd.R_drewN | apply Kd.R_drew)); exact HOA.out) (Kd.R_base ho0) hb); have n1_ := Aside0.mk (Kd.R_lower (Kd.R_new' ho0 (Kd.R_lt (by (with_reducible repeat (first | apply Kd.R_alloc | apply Kd.R_drewN | apply Kd.R_drew)); exact HOA.out))) (below_size (by repeat (first | (with_reducible first | exact HB.out | apply below_alloc | apply pw_below_drewN | apply below_drew1) | exact HB.out)))); have n2_ := Aside0.mk (below_step (by repeat (first | (with_reducible first | exact HB.out | apply below_alloc | apply pw_below_drewN | apply below_drew1) | exact HB.out)) hb); clear HOA; clear HB; have HOA := n0_; have HOB := n1_; have HB := n2_; clear n0_ n1_ n2_; (try clear hb); (try clear hb2); (try clear hk); (try clear hi); (try clear ho0)) | ((with_reducible refine gate_callee (f := 9) rfl ?_); refine goesL_ _ rfl rfl Try.func9 (by kernel_rfl) rfl #[.int .i64 a2, .int .i64 101] rfl (by (try simp only [List.map_toArray, List.map_cons, List.map_nil]); first | done | rfl | (simp only [List.length_drop, List.length_take]; rfl)) ?_; (with_reducible refine (collatorlaw08_pick.calls a2 101 t _ HK.out.pt).mono ?_); rintro e w' ⟨rfl, ⟨nd, rfl⟩⟩; refine ⟨_, rfl, ?_⟩; obtain ⟨Aa, ca, eoa⟩ := Kd.R_slice HOA.out; subst eoa; obtain ⟨Ab, cb, eob⟩ := Kd.R_slice HOB.out; subst eob) | ((with_reducible refine gate_callee (f := 11) rfl ?_); refine goesL_ _ rfl rfl Try.func11 (by kernel_rfl) rfl #[.slice Aa a.length ca, .slice Ab b.length cb, .int .i64 t] rfl (by (try simp only [List.map_toArray, List.map_cons, List.map_nil]); first | done | rfl | (simp only [List.length_drop, List.length_take]; rfl)) ?_; (with_reducible refine (rename_Pairs.calls _ _ a _ _ b t l _ ?side1 ?side2 ?side3 ?side4 HK.out.p0).mono ?_); (case side1 => repeat (first | exact (Kd.R_reads' HOA.out).2.2 | (with_reducible refine Kd.C_alloc ?_ _) | (with_reducible refine Kd.C_drewN ?_ _) | (with_reducible refine Kd.C_drew ?_))); (case side2 => exact (Kd.R_reads' HOA.out).2.1); (case side3 => repeat (first | exact (Kd.R_reads' HOB.out).2.2 | (with_reducible refine Kd.C_alloc ?_ _) | (with_reducible refine Kd.C_drewN ?_ _) | (with_reducible refine Kd.C_drew ?_))); (case side4 => exact (Kd.R_reads' HOB.out).2.1); rintro e w16 ⟨vl, rfl, ho0, hb⟩; refine ⟨_, rfl, ?_⟩; have n0_ := Aside0.mk (Kd.R_below (by (with_reducible repeat (first | apply Kd.R_alloc | apply Kd.R_drewN | apply Kd.R_drew)); exact HOA.out) hb); have n1_ := Aside0.mk (Kd.R_below (by (with_reducible repeat (first | apply Kd.R_alloc | apply Kd.R_drewN | apply Kd.R_drew)); exact HOB.out) hb); have n2_ := Aside0.mk (Kd.R_lower ho0 (below_size (by repeat (first | (with_reducible first | exact HB.out | apply below_alloc | apply pw_below_drewN | apply below_drew1) | exact HB.out)))); have n3_ := Aside0.mk (below_step (by repeat (first | (with_reducible first | exact HB.out | apply below_alloc | apply pw_below_drewN | apply below_drew1) | exact HB.out)) hb); clear HOA; clear HOB; clear HB; have HOA := n0_; have HOB := n1_; have HOL := n2_; have HB := n3_; clear n0_ n1_ n2_ n3_; (try clear hb); (try clear hb2); (try clear hk); (try clear hi); (try clear ho0)))
  rename_i Q0 K0 hEND
  obtain ⟨s70, hs70⟩ : ∃ s, strOfNums (List.replicate 70 0) = s := ⟨_, rfl⟩
  obtain ⟨s80, hs80⟩ : ∃ s, strOfNums (List.replicate 80 0) = s := ⟨_, rfl⟩
  have hz70 : s70.size = 70 := by rw [← hs70]; decide +kernel
  have hz80 : s80.size = 80 := by rw [← hs80]; decide +kernel
  have HS70 := Aside0.mk hs70
  have HS80 := Aside0.mk hs80
  clear hs70 hs80
  obtain ⟨Z, hZ⟩ : ∃ Z, Z = w16.drew := ⟨_, rfl⟩
  have HWZ := Aside0.mk (show Below w16.heap.size w16 Z by rw [hZ]; exact (Below.refl _ _).drew)
  have HEND := Aside0.mk hEND
  clear hEND
  have HJ : Aside0 (∀ (b70 b80 tb : Nat) (V : World), V.heap[tb]? = some (.cells #[.string (⟨#[126, 120]⟩ : ByteArray), .int .i64 2, .string (s70 ++ (⟨#[10]⟩ : ByteArray) ++ s80), .bool false] 33 (0, 0)) → Z.heap.size ≤ tb → Below Z.heap.size Z V → K0 ⟨#[.slice A0 l0.length c0, .slice A1 l1.length c1, .int .i64 a2, .int .i64 a3, undef, undef, undef, undef, .bool false, .bool true, .slice Aa a.length ca, .slice Ab b.length cb, .int .i64 t, vl, .pointer (some ⟨tb, 0, none⟩), undef, undef, undef, .bool true, .slice A0 l0.length c0, .slice Aa a.length ca, .slice A1 l1.length c1, .slice Ab b.length cb, .int .i64 a2, .int .i64 t, .slice Aa a.length ca, .slice Ab b.length cb, .int .i64 t, vl, .slice (some ⟨b70, 0, none⟩) 70 70, .string s70, .string (s70 ++ (⟨#[10]⟩ : ByteArray)), .slice (some ⟨b80, 0, none⟩) 80 80, .string s80, .string (s70 ++ (⟨#[10]⟩ : ByteArray) ++ s80), .agg #[.string (⟨#[126, 120]⟩ : ByteArray), .int .i64 2, .string (s70 ++ (⟨#[10]⟩ : ByteArray) ++ s80), .bool false], undef, undef, undef, undef, undef, undef, undef, undef, undef, undef, undef, undef, undef, undef, undef, undef, undef, undef, undef, undef, undef, undef, undef, undef, undef, undef, undef, undef, undef, undef, undef, undef, undef, undef, undef, undef, undef, undef, undef, undef, undef, undef, undef, undef, undef, undef, undef, undef], []⟩ V) := by
    refine ⟨?_⟩
    intro b70 b80 tb V hK hG hV
    refine HEND.out _ _ ?_
    have hWV : Below w16.heap.size w16 V := HWZ.out.trans (hV.mono HWZ.out.size)
    obtain ⟨ia, hOa, hRa⟩ := row_of_R (Kd.R_below HOA.out hWV)
    obtain ⟨ib, hOb, hRb⟩ := row_of_R (Kd.R_below HOB.out hWV)
    exact apart_r7 k l0 l1 a2 a3 t q a b l HK w V tb _ (by rw [← HS70.out, ← HS80.out]; rfl) Aa Ab ca cb vl _ _ _ _ _ _ _ _ _ _ _ _ _ _ _ _ _ _ _ _ _ _ _ _ _ _ _ _ _ _ _ _ _ _ _ _ _ _ _ _ _ _ _ _ _ _ _ _ _ _ _ _ _ _ _ _ _ _ _ _ _ _ _ _ _ _ _ _ _ _ _ _ _ _ _ _ _ (R_of_row hOa hRa) (R_of_row hOb hRb) (Kd.R_below HOL.out hWV) (below_step HB.out hWV) hK
  refine (wpIn_wide (n := 9)).1 ?_
  refine Held.region 8 (Held.Same Z []) (by kernel_rfl) ?_
  rw [← hZ]
  clear hZ
  have hD0 : Below Z.heap.size Z Z := Below.refl _ _
  have hT0 : Held.Same Z [] Z := Held.Same.refl _ _
  have hL0 : ∀ b ∈ ([] : List Nat), b < Z.heap.size := fun b hb => absurd hb (by simp)
  have hSZ0 : Z.heap.size ≤ Z.heap.size := Nat.le_refl _
  refine Held.AnyS.step3 (i := 0) (j := 3) (m := 7) rfl rfl rfl (by kernel_rfl) rfl rfl rfl (fun K hK => ?_) (fun K hK => ?_) (fun K hK => ?_)
  · have hmk : (Instr.makeSlice 38 (.int .i64 70) (.int .i64 70)).run Try.prog Z = .ok (.slice (some ⟨Z.heap.size, 0, none⟩) 70 70) (Z.alloc (.cells (madeCells #[.int .u8 0] 70) 5)) := print_make (P := Try.prog) 38 5 .u8 1 Try.underlying38 (by kernel_rfl) (by decide) 70 (by decide) Z
    go_simp
    clear hmk
    obtain ⟨y1, hy⟩ : ∃ V, V = Z.alloc (.cells (madeCells #[.int .u8 0] 70) 5) := ⟨_, rfl⟩
    have hD1 : Below Z.heap.size Z y1 := by rw [hy]; exact hD0.alloc hD0.size _
    have hT : Held.Same Z [] y1 := Held.Same.grown hT0 (by rw [hy]; exact World.grownBy_alloc _ _ none) (fun b hb => ⟨hL0 b hb, by simp⟩)
    have hcv : ∀ V, Held.Same y1 [Z.heap.size] V → (convert 38 9 (.slice (some ⟨Z.heap.size, 0, none⟩) 70 70)).run Try.prog V = .ok (.string s70) V := fun V hV => Held.conv_made (by decide) Try.underlying38 Try.underlying5 Try.underlying9 Z HS70.out (bs := [Z.heap.size]) (by simp) V (by rw [← hy]; exact hV)
    have hL1 : ∀ b ∈ [Z.heap.size], b < y1.heap.size := by
      intro b hb
      have h0 : y1.heap.size = Z.heap.size + 1 := by rw [hy]; simp
      rcases List.mem_cons.1 hb with rfl | hb
      · omega
      · have h1 := hL0 b hb; have h2 := hSZ0; omega
    have hSZ1 : y1.heap.size ≤ y1.heap.size := Nat.le_refl _
    have hT1 : Held.Same y1 [Z.heap.size] y1 := Held.Same.refl _ _
    rw [← hy]
    refine hK.out _ _ (fun _ => hT) (Held.AnyS.imp (Held.Same.more hT (bs' := [Z.heap.size]) (fun b hb => List.mem_cons_of_mem _ hb)) _ _ _ _ ?_)
    clear hK K hT
    clear hy
    generalize Z.heap.size = b70 at hcv hL1 hT1 ⊢
    try simp only [Act.put, List.setIfInBounds_toArray, List.set_cons_zero, List.set_cons_succ]
    refine Held.tk (i := 1) rfl hT1 ?_ (hy := fun V hV => (by have hc_ := hcv V hV; go_simp; try (with_reducible rfl)))
    clear hcv
    try simp only [Act.put, List.setIfInBounds_toArray, List.set_cons_zero, List.set_cons_succ]
    refine Held.tk (i := 2) rfl hT1 ?_
    try simp only [Act.put, List.setIfInBounds_toArray, List.set_cons_zero, List.set_cons_succ]
    refine Held.AnyS.step2 (i := 3) (j := 7) rfl rfl (by kernel_rfl) rfl rfl (fun K hK => ?_) (fun K hK => ?_)
    · have hmk : (Instr.makeSlice 38 (.int .i64 80) (.int .i64 80)).run Try.prog y1 = .ok (.slice (some ⟨y1.heap.size, 0, none⟩) 80 80) (y1.alloc (.cells (madeCells #[.int .u8 0] 80) 5)) := print_make (P := Try.prog) 38 5 .u8 1 Try.underlying38 (by kernel_rfl) (by decide) 80 (by decide) y1
      go_simp
      clear hmk
      obtain ⟨y2, hy⟩ : ∃ V, V = y1.alloc (.cells (madeCells #[.int .u8 0] 80) 5) := ⟨_, rfl⟩
      have hD2 : Below Z.heap.size Z y2 := by rw [hy]; exact hD1.alloc hD1.size _
      have hT : Held.Same y1 [b70] y2 := Held.Same.grown hT1 (by rw [hy]; exact World.grownBy_alloc _ _ none) (fun b hb => ⟨hL1 b hb, by simp⟩)
      have hcv : ∀ V, Held.Same y2 [y1.heap.size, b70] V → (convert 38 9 (.slice (some ⟨y1.heap.size, 0, none⟩) 80 80)).run Try.prog V = .ok (.string s80) V := fun V hV => Held.conv_made (by decide) Try.underlying38 Try.underlying5 Try.underlying9 y1 HS80.out (bs := [y1.heap.size, b70]) (by simp) V (by rw [← hy]; exact hV)
      have hL2 : ∀ b ∈ [y1.heap.size, b70], b < y2.heap.size := by
        intro b hb
        have h0 : y2.heap.size = y1.heap.size + 1 := by rw [hy]; simp
        rcases List.mem_cons.1 hb with rfl | hb
        · omega
        · have h1 := hL1 b hb; have h2 := hSZ1; omega
      have hSZ2 : y2.heap.size ≤ y2.heap.size := Nat.le_refl _
      have hT2 : Held.Same y2 [y1.heap.size, b70] y2 := Held.Same.refl _ _
      rw [← hy]
      refine hK.out _ _ (fun _ => hT) (Held.AnyS.imp (Held.Same.more hT (bs' := [y1.heap.size, b70]) (fun b hb => List.mem_cons_of_mem _ hb)) _ _ _ _ ?_)
      clear hK K hT
      clear hy
      generalize y1.heap.size = b80 at hcv hL2 hT2 ⊢
      try simp only [Act.put, List.setIfInBounds_toArray, List.set_cons_zero, List.set_cons_succ]
      refine Held.tk (i := 4) rfl hT2 ?_ (hy := fun V hV => (by have hc_ := hcv V hV; go_simp; try (with_reducible rfl)))
      clear hcv
      try simp only [Act.put, List.setIfInBounds_toArray, List.set_cons_zero, List.set_cons_succ]
      refine Held.tk (i := 5) rfl hT2 ?_
      try simp only [Act.put, List.setIfInBounds_toArray, List.set_cons_zero, List.set_cons_succ]
      refine Held.tk (i := 6) rfl hT2 ?_
      try simp only [Act.put, List.setIfInBounds_toArray, List.set_cons_zero, List.set_cons_succ]
      refine Held.AnyS.step (i := 7) rfl (by kernel_rfl) rfl (fun K hK => ?_)
      go_simp
      first | refine ⟨trivial, ?_⟩ | skip
      obtain ⟨y3, hy⟩ : ∃ V, V = y2.alloc (.cells #[.string (⟨#[]⟩ : ByteArray), .int .i64 0, .string (⟨#[]⟩ : ByteArray), .bool false] 33) := ⟨_, rfl⟩
      have HK3 : y3.heap[y2.heap.size]? = some (.cells #[.string (⟨#[]⟩ : ByteArray), .int .i64 0, .string (⟨#[]⟩ : ByteArray), .bool false] 33 (0, 0)) := by rw [hy]; exact heap_alloc_new y2 _
      obtain ⟨tb, htb⟩ : ∃ tb, y2.heap.size = tb := ⟨_, rfl⟩
      have HG := Aside0.mk (show Z.heap.size ≤ tb by rw [← htb]; exact hD2.size)
      have hD3 : Below Z.heap.size Z y3 := by rw [hy]; exact hD2.alloc hD2.size _
      have hT3 : Held.Same y2 [b80, b70] y3 := Held.Same.grown hT2 (by rw [hy]; exact World.grownBy_alloc _ _ none) (fun b hb => ⟨hL2 b hb, by simp⟩)
      have hL3 := hL2
      have hSZ3 : y2.heap.size ≤ y3.heap.size := by have h0 : y3.heap.size = y2.heap.size + 1 := (by rw [hy]; simp); have h1 := hSZ2; omega
      rw [← hy]
      refine hK.out _ _ (fun _ => hT3) ?_
      clear hK K hy
      rw [htb] at HK3 ⊢
      have HK := Aside0.mk HK3
      clear HK3 htb
      try simp only [Act.put, List.setIfInBounds_toArray, List.set_cons_zero, List.set_cons_succ]
      refine Held.AnyS.step (i := 8) rfl (by kernel_rfl) rfl (fun K hK => ?_)
      have g0 : y3.cell? ⟨tb, 0, none⟩ = some (#[.string (⟨#[]⟩ : ByteArray), .int .i64 0, .string (⟨#[]⟩ : ByteArray), .bool false][0]) := (blk_cell HK.out 0).trans rfl
      have g1 : y3.cell? ⟨tb, 1, none⟩ = some (#[.string (⟨#[]⟩ : ByteArray), .int .i64 0, .string (⟨#[]⟩ : ByteArray), .bool false][1]) := (blk_cell HK.out 1).trans rfl
      have g2 : y3.cell? ⟨tb, 2, none⟩ = some (#[.string (⟨#[]⟩ : ByteArray), .int .i64 0, .string (⟨#[]⟩ : ByteArray), .bool false][2]) := (blk_cell HK.out 2).trans rfl
      have g3 : y3.cell? ⟨tb, 3, none⟩ = some (#[.string (⟨#[]⟩ : ByteArray), .int .i64 0, .string (⟨#[]⟩ : ByteArray), .bool false][3]) := (blk_cell HK.out 3).trans rfl
      have e0 : y3.frozen? ⟨tb, 0, none⟩ = false := by simp [World.frozen?, HK.out]
      have e1 : y3.frozen? ⟨tb, 1, none⟩ = false := by simp [World.frozen?, HK.out]
      have e2 : y3.frozen? ⟨tb, 2, none⟩ = false := by simp [World.frozen?, HK.out]
      have e3 : y3.frozen? ⟨tb, 3, none⟩ = false := by simp [World.frozen?, HK.out]
      have HD := Aside0.mk hD3
      clear hT0 hL0 hSZ0 hD0 hT1 hL1 hSZ1 hD1 hT2 hL2 hSZ2 hD2 hT3 hL3 hSZ3 hD3
      go_simp
      clear g0 g1 g2 g3 e0 e1 e2 e3
      obtain ⟨V, hV, kb, ko, kB⟩ := set4 HK.out (.string (⟨#[126, 120]⟩ : ByteArray)) (.int .i64 2) (.string (s70 ++ (⟨#[10]⟩ : ByteArray) ++ s80)) (.bool false)
      rw [hV]
      have HV := Aside0.mk (kB _ HD.out HG.out)
      have HKb := Aside0.mk kb
      refine hK.out _ _ (fun h => absurd h (by omega)) ?_
      clear hK K hV kB ko kb HK HD
      refine Held.AnyS.done (by kernel_rfl) ?_ _
      go_simp
      exact HJ.out b70 b80 tb V HKb.out HG.out HV.out
    · go_simp
      first | refine ⟨trivial, ?_⟩ | skip
      obtain ⟨y2, hy⟩ : ∃ V, V = y1.alloc (.cells #[.string (⟨#[]⟩ : ByteArray), .int .i64 0, .string (⟨#[]⟩ : ByteArray), .bool false] 33) := ⟨_, rfl⟩
      have HK2 : y2.heap[y1.heap.size]? = some (.cells #[.string (⟨#[]⟩ : ByteArray), .int .i64 0, .string (⟨#[]⟩ : ByteArray), .bool false] 33 (0, 0)) := by rw [hy]; exact heap_alloc_new y1 _
      obtain ⟨tb, htb⟩ : ∃ tb, y1.heap.size = tb := ⟨_, rfl⟩
      have HG := Aside0.mk (show Z.heap.size ≤ tb by rw [← htb]; exact hD1.size)
      have hD2 : Below Z.heap.size Z y2 := by rw [hy]; exact hD1.alloc hD1.size _
      have hT2 : Held.Same y1 [b70] y2 := Held.Same.grown hT1 (by rw [hy]; exact World.grownBy_alloc _ _ none) (fun b hb => ⟨hL1 b hb, by simp⟩)
      have hL2 := hL1
      have hSZ2 : y1.heap.size ≤ y2.heap.size := by have h0 : y2.heap.size = y1.heap.size + 1 := (by rw [hy]; simp); have h1 := hSZ1; omega
      rw [← hy]
      refine hK.out _ _ (fun _ => hT2) ?_
      clear hK K hy
      rw [htb] at HK2 ⊢
      have HK := Aside0.mk HK2
      clear HK2 htb
      try simp only [Act.put, List.setIfInBounds_toArray, List.set_cons_zero, List.set_cons_succ]
      refine Held.AnyS.step (i := 3) rfl (by kernel_rfl) rfl (fun K hK => ?_)
      have hmk : (Instr.makeSlice 38 (.int .i64 80) (.int .i64 80)).run Try.prog y2 = .ok (.slice (some ⟨y2.heap.size, 0, none⟩) 80 80) (y2.alloc (.cells (madeCells #[.int .u8 0] 80) 5)) := print_make (P := Try.prog) 38 5 .u8 1 Try.underlying38 (by kernel_rfl) (by decide) 80 (by decide) y2
      go_simp
      clear hmk
      obtain ⟨y3, hy⟩ : ∃ V, V = y2.alloc (.cells (madeCells #[.int .u8 0] 80) 5) := ⟨_, rfl⟩
      have hD3 : Below Z.heap.size Z y3 := by rw [hy]; exact hD2.alloc hD2.size _
      have hT : Held.Same y1 [b70] y3 := Held.Same.grown hT2 (by rw [hy]; exact World.grownBy_alloc _ _ none) (fun b hb => ⟨hL2 b hb, by simp⟩)
      have hcv : ∀ V, Held.Same y3 [y2.heap.size, b70] V → (convert 38 9 (.slice (some ⟨y2.heap.size, 0, none⟩) 80 80)).run Try.prog V = .ok (.string s80) V := fun V hV => Held.conv_made (by decide) Try.underlying38 Try.underlying5 Try.underlying9 y2 HS80.out (bs := [y2.heap.size, b70]) (by simp) V (by rw [← hy]; exact hV)
      have hL3 : ∀ b ∈ [y2.heap.size, b70], b < y3.heap.size := by
        intro b hb
        have h0 : y3.heap.size = y2.heap.size + 1 := by rw [hy]; simp
        rcases List.mem_cons.1 hb with rfl | hb
        · omega
        · have h1 := hL2 b hb; have h2 := hSZ2; omega
      have hSZ3 : y3.heap.size ≤ y3.heap.size := Nat.le_refl _
      have hT3 : Held.Same y3 [y2.heap.size, b70] y3 := Held.Same.refl _ _
      rw [← hy]
      refine hK.out _ _ (fun _ => hT) (Held.AnyS.imp (Held.Same.more hT (bs' := [y2.heap.size, b70]) (fun b hb => List.mem_cons_of_mem _ hb)) _ _ _ _ ?_)
      clear hK K hT
      have HK2 := Aside0.mk (blk_below HK.out (show Below y2.heap.size y2 y3 by rw [hy]; exact (Below.refl _ _).alloc (Nat.le_refl _) _))
      clear HK
      have HK := HK2
      clear HK2
      clear hy
      generalize y2.heap.size = b80 at hcv hL3 hT3 ⊢
      try simp only [Act.put, List.setIfInBounds_toArray, List.set_cons_zero, List.set_cons_succ]
      refine Held.tk (i := 4) rfl hT3 ?_ (hy := fun V hV => (by have hc_ := hcv V hV; go_simp; try (with_reducible rfl)))
      clear hcv
      try simp only [Act.put, List.setIfInBounds_toArray, List.set_cons_zero, List.set_cons_succ]
      refine Held.tk (i := 5) rfl hT3 ?_
      try simp only [Act.put, List.setIfInBounds_toArray, List.set_cons_zero, List.set_cons_succ]
      refine Held.tk (i := 6) rfl hT3 ?_
      try simp only [Act.put, List.setIfInBounds_toArray, List.set_cons_zero, List.set_cons_succ]
      refine Held.AnyS.step (i := 8) rfl (by kernel_rfl) rfl (fun K hK => ?_)
      have g0 : y3.cell? ⟨tb, 0, none⟩ = some (#[.string (⟨#[]⟩ : ByteArray), .int .i64 0, .string (⟨#[]⟩ : ByteArray), .bool false][0]) := (blk_cell HK.out 0).trans rfl
      have g1 : y3.cell? ⟨tb, 1, none⟩ = some (#[.string (⟨#[]⟩ : ByteArray), .int .i64 0, .string (⟨#[]⟩ : ByteArray), .bool false][1]) := (blk_cell HK.out 1).trans rfl
      have g2 : y3.cell? ⟨tb, 2, none⟩ = some (#[.string (⟨#[]⟩ : ByteArray), .int .i64 0, .string (⟨#[]⟩ : ByteArray), .bool false][2]) := (blk_cell HK.out 2).trans rfl
      have g3 : y3.cell? ⟨tb, 3, none⟩ = some (#[.string (⟨#[]⟩ : ByteArray), .int .i64 0, .string (⟨#[]⟩ : ByteArray), .bool false][3]) := (blk_cell HK.out 3).trans rfl
      have e0 : y3.frozen? ⟨tb, 0, none⟩ = false := by simp [World.frozen?, HK.out]
      have e1 : y3.frozen? ⟨tb, 1, none⟩ = false := by simp [World.frozen?, HK.out]
      have e2 : y3.frozen? ⟨tb, 2, none⟩ = false := by simp [World.frozen?, HK.out]
      have e3 : y3.frozen? ⟨tb, 3, none⟩ = false := by simp [World.frozen?, HK.out]
      have HD := Aside0.mk hD3
      clear hT0 hL0 hSZ0 hD0 hT1 hL1 hSZ1 hD1 hT2 hL2 hSZ2 hD2 hT3 hL3 hSZ3 hD3
      go_simp
      clear g0 g1 g2 g3 e0 e1 e2 e3
      obtain ⟨V, hV, kb, ko, kB⟩ := set4 HK.out (.string (⟨#[126, 120]⟩ : ByteArray)) (.int .i64 2) (.string (s70 ++ (⟨#[10]⟩ : ByteArray) ++ s80)) (.bool false)
      rw [hV]
      have HV := Aside0.mk (kB _ HD.out HG.out)
      have HKb := Aside0.mk kb
      refine hK.out _ _ (fun h => absurd h (by omega)) ?_
      clear hK K hV kB ko kb HK HD
      refine Held.AnyS.done (by kernel_rfl) ?_ _
      go_simp
      exact HJ.out b70 b80 tb V HKb.out HG.out HV.out
  · have hmk : (Instr.makeSlice 38 (.int .i64 80) (.int .i64 80)).run Try.prog Z = .ok (.slice (some ⟨Z.heap.size, 0, none⟩) 80 80) (Z.alloc (.cells (madeCells #[.int .u8 0] 80) 5)) := print_make (P := Try.prog) 38 5 .u8 1 Try.underlying38 (by kernel_rfl) (by decide) 80 (by decide) Z
    go_simp
    clear hmk
    obtain ⟨y1, hy⟩ : ∃ V, V = Z.alloc (.cells (madeCells #[.int .u8 0] 80) 5) := ⟨_, rfl⟩
    have hD1 : Below Z.heap.size Z y1 := by rw [hy]; exact hD0.alloc hD0.size _
    have hT : Held.Same Z [] y1 := Held.Same.grown hT0 (by rw [hy]; exact World.grownBy_alloc _ _ none) (fun b hb => ⟨hL0 b hb, by simp⟩)
    have hcv : ∀ V, Held.Same y1 [Z.heap.size] V → (convert 38 9 (.slice (some ⟨Z.heap.size, 0, none⟩) 80 80)).run Try.prog V = .ok (.string s80) V := fun V hV => Held.conv_made (by decide) Try.underlying38 Try.underlying5 Try.underlying9 Z HS80.out (bs := [Z.heap.size]) (by simp) V (by rw [← hy]; exact hV)
    have hL1 : ∀ b ∈ [Z.heap.size], b < y1.heap.size := by
      intro b hb
      have h0 : y1.heap.size = Z.heap.size + 1 := by rw [hy]; simp
      rcases List.mem_cons.1 hb with rfl | hb
      · omega
      · have h1 := hL0 b hb; have h2 := hSZ0; omega
    have hSZ1 : y1.heap.size ≤ y1.heap.size := Nat.le_refl _
    have hT1 : Held.Same y1 [Z.heap.size] y1 := Held.Same.refl _ _
    rw [← hy]
    refine hK.out _ _ (fun _ => hT) (Held.AnyS.imp (Held.Same.more hT (bs' := [Z.heap.size]) (fun b hb => List.mem_cons_of_mem _ hb)) _ _ _ _ ?_)
    clear hK K hT
    clear hy
    generalize Z.heap.size = b80 at hcv hL1 hT1 ⊢
    try simp only [Act.put, List.setIfInBounds_toArray, List.set_cons_zero, List.set_cons_succ]
    refine Held.tk (i := 4) rfl hT1 ?_ (hy := fun V hV => (by have hc_ := hcv V hV; go_simp; try (with_reducible rfl)))
    clear hcv
    try simp only [Act.put, List.setIfInBounds_toArray, List.set_cons_zero, List.set_cons_succ]
    refine Held.AnyS.step2 (i := 0) (j := 7) rfl rfl (by kernel_rfl) rfl rfl (fun K hK => ?_) (fun K hK => ?_)
    · have hmk : (Instr.makeSlice 38 (.int .i64 70) (.int .i64 70)).run Try.prog y1 = .ok (.slice (some ⟨y1.heap.size, 0, none⟩) 70 70) (y1.alloc (.cells (madeCells #[.int .u8 0] 70) 5)) := print_make (P := Try.prog) 38 5 .u8 1 Try.underlying38 (by kernel_rfl) (by decide) 70 (by decide) y1
      go_simp
      clear hmk
      obtain ⟨y2, hy⟩ : ∃ V, V = y1.alloc (.cells (madeCells #[.int .u8 0] 70) 5) := ⟨_, rfl⟩
      have hD2 : Below Z.heap.size Z y2 := by rw [hy]; exact hD1.alloc hD1.size _
      have hT : Held.Same y1 [b80] y2 := Held.Same.grown hT1 (by rw [hy]; exact World.grownBy_alloc _ _ none) (fun b hb => ⟨hL1 b hb, by simp⟩)
      have hcv : ∀ V, Held.Same y2 [y1.heap.size, b80] V → (convert 38 9 (.slice (some ⟨y1.heap.size, 0, none⟩) 70 70)).run Try.prog V = .ok (.string s70) V := fun V hV => Held.conv_made (by decide) Try.underlying38 Try.underlying5 Try.underlying9 y1 HS70.out (bs := [y1.heap.size, b80]) (by simp) V (by rw [← hy]; exact hV)
      have hL2 : ∀ b ∈ [y1.heap.size, b80], b < y2.heap.size := by
        intro b hb
        have h0 : y2.heap.size = y1.heap.size + 1 := by rw [hy]; simp
        rcases List.mem_cons.1 hb with rfl | hb
        · omega
        · have h1 := hL1 b hb; have h2 := hSZ1; omega
      have hSZ2 : y2.heap.size ≤ y2.heap.size := Nat.le_refl _
      have hT2 : Held.Same y2 [y1.heap.size, b80] y2 := Held.Same.refl _ _
      rw [← hy]
      refine hK.out _ _ (fun _ => hT) (Held.AnyS.imp (Held.Same.more hT (bs' := [y1.heap.size, b80]) (fun b hb => List.mem_cons_of_mem _ hb)) _ _ _ _ ?_)
      clear hK K hT
      clear hy
      generalize y1.heap.size = b70 at hcv hL2 hT2 ⊢
      try simp only [Act.put, List.setIfInBounds_toArray, List.set_cons_zero, List.set_cons_succ]
      refine Held.tk (i := 1) rfl hT2 ?_ (hy := fun V hV => (by have hc_ := hcv V hV; go_simp; try (with_reducible rfl)))
      clear hcv
      try simp only [Act.put, List.setIfInBounds_toArray, List.set_cons_zero, List.set_cons_succ]
      refine Held.tk (i := 2) rfl hT2 ?_
      try simp only [Act.put, List.setIfInBounds_toArray, List.set_cons_zero, List.set_cons_succ]
      refine Held.tk (i := 5) rfl hT2 ?_
      try simp only [Act.put, List.setIfInBounds_toArray, List.set_cons_zero, List.set_cons_succ]
      refine Held.tk (i := 6) rfl hT2 ?_
      try simp only [Act.put, List.setIfInBounds_toArray, List.set_cons_zero, List.set_cons_succ]
      refine Held.AnyS.step (i := 7) rfl (by kernel_rfl) rfl (fun K hK => ?_)
      go_simp
      first | refine ⟨trivial, ?_⟩ | skip
      obtain ⟨y3, hy⟩ : ∃ V, V = y2.alloc (.cells #[.string (⟨#[]⟩ : ByteArray), .int .i64 0, .string (⟨#[]⟩ : ByteArray), .bool false] 33) := ⟨_, rfl⟩
      have HK3 : y3.heap[y2.heap.size]? = some (.cells #[.string (⟨#[]⟩ : ByteArray), .int .i64 0, .string (⟨#[]⟩ : ByteArray), .bool false] 33 (0, 0)) := by rw [hy]; exact heap_alloc_new y2 _
      obtain ⟨tb, htb⟩ : ∃ tb, y2.heap.size = tb := ⟨_, rfl⟩
      have HG := Aside0.mk (show Z.heap.size ≤ tb by rw [← htb]; exact hD2.size)
      have hD3 : Below Z.heap.size Z y3 := by rw [hy]; exact hD2.alloc hD2.size _
      have hT3 : Held.Same y2 [b70, b80] y3 := Held.Same.grown hT2 (by rw [hy]; exact World.grownBy_alloc _ _ none) (fun b hb => ⟨hL2 b hb, by simp⟩)
      have hL3 := hL2
      have hSZ3 : y2.heap.size ≤ y3.heap.size := by have h0 : y3.heap.size = y2.heap.size + 1 := (by rw [hy]; simp); have h1 := hSZ2; omega
      rw [← hy]
      refine hK.out _ _ (fun _ => hT3) ?_
      clear hK K hy
      rw [htb] at HK3 ⊢
      have HK := Aside0.mk HK3
      clear HK3 htb
      try simp only [Act.put, List.setIfInBounds_toArray, List.set_cons_zero, List.set_cons_succ]
      refine Held.AnyS.step (i := 8) rfl (by kernel_rfl) rfl (fun K hK => ?_)
      have g0 : y3.cell? ⟨tb, 0, none⟩ = some (#[.string (⟨#[]⟩ : ByteArray), .int .i64 0, .string (⟨#[]⟩ : ByteArray), .bool false][0]) := (blk_cell HK.out 0).trans rfl
      have g1 : y3.cell? ⟨tb, 1, none⟩ = some (#[.string (⟨#[]⟩ : ByteArray), .int .i64 0, .string (⟨#[]⟩ : ByteArray), .bool false][1]) := (blk_cell HK.out 1).trans rfl
      have g2 : y3.cell? ⟨tb, 2, none⟩ = some (#[.string (⟨#[]⟩ : ByteArray), .int .i64 0, .string (⟨#[]⟩ : ByteArray), .bool false][2]) := (blk_cell HK.out 2).trans rfl
      have g3 : y3.cell? ⟨tb, 3, none⟩ = some (#[.string (⟨#[]⟩ : ByteArray), .int .i64 0, .string (⟨#[]⟩ : ByteArray), .bool false][3]) := (blk_cell HK.out 3).trans rfl
      have e0 : y3.frozen? ⟨tb, 0, none⟩ = false := by simp [World.frozen?, HK.out]
      have e1 : y3.frozen? ⟨tb, 1, none⟩ = false := by simp [World.frozen?, HK.out]
      have e2 : y3.frozen? ⟨tb, 2, none⟩ = false := by simp [World.frozen?, HK.out]
      have e3 : y3.frozen? ⟨tb, 3, none⟩ = false := by simp [World.frozen?, HK.out]
      have HD := Aside0.mk hD3
      clear hT0 hL0 hSZ0 hD0 hT1 hL1 hSZ1 hD1 hT2 hL2 hSZ2 hD2 hT3 hL3 hSZ3 hD3
      go_simp
      clear g0 g1 g2 g3 e0 e1 e2 e3
      obtain ⟨V, hV, kb, ko, kB⟩ := set4 HK.out (.string (⟨#[126, 120]⟩ : ByteArray)) (.int .i64 2) (.string (s70 ++ (⟨#[10]⟩ : ByteArray) ++ s80)) (.bool false)
      rw [hV]
      have HV := Aside0.mk (kB _ HD.out HG.out)
      have HKb := Aside0.mk kb
      refine hK.out _ _ (fun h => absurd h (by omega)) ?_
      clear hK K hV kB ko kb HK HD
      refine Held.AnyS.done (by kernel_rfl) ?_ _
      go_simp
      exact HJ.out b70 b80 tb V HKb.out HG.out HV.out
    · go_simp
      first | refine ⟨trivial, ?_⟩ | skip
      obtain ⟨y2, hy⟩ : ∃ V, V = y1.alloc (.cells #[.string (⟨#[]⟩ : ByteArray), .int .i64 0, .string (⟨#[]⟩ : ByteArray), .bool false] 33) := ⟨_, rfl⟩
      have HK2 : y2.heap[y1.heap.size]? = some (.cells #[.string (⟨#[]⟩ : ByteArray), .int .i64 0, .string (⟨#[]⟩ : ByteArray), .bool false] 33 (0, 0)) := by rw [hy]; exact heap_alloc_new y1 _
      obtain ⟨tb, htb⟩ : ∃ tb, y1.heap.size = tb := ⟨_, rfl⟩
      have HG := Aside0.mk (show Z.heap.size ≤ tb by rw [← htb]; exact hD1.size)
      have hD2 : Below Z.heap.size Z y2 := by rw [hy]; exact hD1.alloc hD1.size _
      have hT2 : Held.Same y1 [b80] y2 := Held.Same.grown hT1 (by rw [hy]; exact World.grownBy_alloc _ _ none) (fun b hb => ⟨hL1 b hb, by simp⟩)
      have hL2 := hL1
      have hSZ2 : y1.heap.size ≤ y2.heap.size := by have h0 : y2.heap.size = y1.heap.size + 1 := (by rw [hy]; simp); have h1 := hSZ1; omega
      rw [← hy]
      refine hK.out _ _ (fun _ => hT2) ?_
      clear hK K hy
      rw [htb] at HK2 ⊢
      have HK := Aside0.mk HK2
      clear HK2 htb
      try simp only [Act.put, List.setIfInBounds_toArray, List.set_cons_zero, List.set_cons_succ]
      refine Held.AnyS.step (i := 0) rfl (by kernel_rfl) rfl (fun K hK => ?_)
      have hmk : (Instr.makeSlice 38 (.int .i64 70) (.int .i64 70)).run Try.prog y2 = .ok (.slice (some ⟨y2.heap.size, 0, none⟩) 70 70) (y2.alloc (.cells (madeCells #[.int .u8 0] 70) 5)) := print_make (P := Try.prog) 38 5 .u8 1 Try.underlying38 (by kernel_rfl) (by decide) 70 (by decide) y2
      go_simp
      clear hmk
      obtain ⟨y3, hy⟩ : ∃ V, V = y2.alloc (.cells (madeCells #[.int .u8 0] 70) 5) := ⟨_, rfl⟩
      have hD3 : Below Z.heap.size Z y3 := by rw [hy]; exact hD2.alloc hD2.size _
      have hT : Held.Same y1 [b80] y3 := Held.Same.grown hT2 (by rw [hy]; exact World.grownBy_alloc _ _ none) (fun b hb => ⟨hL2 b hb, by simp⟩)
      have hcv : ∀ V, Held.Same y3 [y2.heap.size, b80] V → (convert 38 9 (.slice (some ⟨y2.heap.size, 0, none⟩) 70 70)).run Try.prog V = .ok (.string s70) V := fun V hV => Held.conv_made (by decide) Try.underlying38 Try.underlying5 Try.underlying9 y2 HS70.out (bs := [y2.heap.size, b80]) (by simp) V (by rw [← hy]; exact hV)
      have hL3 : ∀ b ∈ [y2.heap.size, b80], b < y3.heap.size := by
        intro b hb
        have h0 : y3.heap.size = y2.heap.size + 1 := by rw [hy]; simp
        rcases List.mem_cons.1 hb with rfl | hb
        · omega
        · have h1 := hL2 b hb; have h2 := hSZ2; omega
      have hSZ3 : y3.heap.size ≤ y3.heap.size := Nat.le_refl _
      have hT3 : Held.Same y3 [y2.heap.size, b80] y3 := Held.Same.refl _ _
      rw [← hy]
      refine hK.out _ _ (fun _ => hT) (Held.AnyS.imp (Held.Same.more hT (bs' := [y2.heap.size, b80]) (fun b hb => List.mem_cons_of_mem _ hb)) _ _ _ _ ?_)
      clear hK K hT
      have HK2 := Aside0.mk (blk_below HK.out (show Below y2.heap.size y2 y3 by rw [hy]; exact (Below.refl _ _).alloc (Nat.le_refl _) _))
      clear HK
      have HK := HK2
      clear HK2
      clear hy
      generalize y2.heap.size = b70 at hcv hL3 hT3 ⊢
      try simp only [Act.put, List.setIfInBounds_toArray, List.set_cons_zero, List.set_cons_succ]
      refine Held.tk (i := 1) rfl hT3 ?_ (hy := fun V hV => (by have hc_ := hcv V hV; go_simp; try (with_reducible rfl)))
      clear hcv
      try simp only [Act.put, List.setIfInBounds_toArray, List.set_cons_zero, List.set_cons_succ]
      refine Held.tk (i := 2) rfl hT3 ?_
      try simp only [Act.put, List.setIfInBounds_toArray, List.set_cons_zero, List.set_cons_succ]
      refine Held.tk (i := 5) rfl hT3 ?_
      try simp only [Act.put, List.setIfInBounds_toArray, List.set_cons_zero, List.set_cons_succ]
      refine Held.tk (i := 6) rfl hT3 ?_
      try simp only [Act.put, List.setIfInBounds_toArray, List.set_cons_zero, List.set_cons_succ]
      refine Held.AnyS.step (i := 8) rfl (by kernel_rfl) rfl (fun K hK => ?_)
      have g0 : y3.cell? ⟨tb, 0, none⟩ = some (#[.string (⟨#[]⟩ : ByteArray), .int .i64 0, .string (⟨#[]⟩ : ByteArray), .bool false][0]) := (blk_cell HK.out 0).trans rfl
      have g1 : y3.cell? ⟨tb, 1, none⟩ = some (#[.string (⟨#[]⟩ : ByteArray), .int .i64 0, .string (⟨#[]⟩ : ByteArray), .bool false][1]) := (blk_cell HK.out 1).trans rfl
      have g2 : y3.cell? ⟨tb, 2, none⟩ = some (#[.string (⟨#[]⟩ : ByteArray), .int .i64 0, .string (⟨#[]⟩ : ByteArray), .bool false][2]) := (blk_cell HK.out 2).trans rfl
      have g3 : y3.cell? ⟨tb, 3, none⟩ = some (#[.string (⟨#[]⟩ : ByteArray), .int .i64 0, .string (⟨#[]⟩ : ByteArray), .bool false][3]) := (blk_cell HK.out 3).trans rfl
      have e0 : y3.frozen? ⟨tb, 0, none⟩ = false := by simp [World.frozen?, HK.out]
      have e1 : y3.frozen? ⟨tb, 1, none⟩ = false := by simp [World.frozen?, HK.out]
      have e2 : y3.frozen? ⟨tb, 2, none⟩ = false := by simp [World.frozen?, HK.out]
      have e3 : y3.frozen? ⟨tb, 3, none⟩ = false := by simp [World.frozen?, HK.out]
      have HD := Aside0.mk hD3
      clear hT0 hL0 hSZ0 hD0 hT1 hL1 hSZ1 hD1 hT2 hL2 hSZ2 hD2 hT3 hL3 hSZ3 hD3
      go_simp
      clear g0 g1 g2 g3 e0 e1 e2 e3
      obtain ⟨V, hV, kb, ko, kB⟩ := set4 HK.out (.string (⟨#[126, 120]⟩ : ByteArray)) (.int .i64 2) (.string (s70 ++ (⟨#[10]⟩ : ByteArray) ++ s80)) (.bool false)
      rw [hV]
      have HV := Aside0.mk (kB _ HD.out HG.out)
      have HKb := Aside0.mk kb
      refine hK.out _ _ (fun h => absurd h (by omega)) ?_
      clear hK K hV kB ko kb HK HD
      refine Held.AnyS.done (by kernel_rfl) ?_ _
      go_simp
      exact HJ.out b70 b80 tb V HKb.out HG.out HV.out
  · go_simp
    first | refine ⟨trivial, ?_⟩ | skip
    obtain ⟨y1, hy⟩ : ∃ V, V = Z.alloc (.cells #[.string (⟨#[]⟩ : ByteArray), .int .i64 0, .string (⟨#[]⟩ : ByteArray), .bool false] 33) := ⟨_, rfl⟩
    have HK1 : y1.heap[Z.heap.size]? = some (.cells #[.string (⟨#[]⟩ : ByteArray), .int .i64 0, .string (⟨#[]⟩ : ByteArray), .bool false] 33 (0, 0)) := by rw [hy]; exact heap_alloc_new Z _
    obtain ⟨tb, htb⟩ : ∃ tb, Z.heap.size = tb := ⟨_, rfl⟩
    have HG := Aside0.mk (show Z.heap.size ≤ tb by rw [← htb]; exact hD0.size)
    have hD1 : Below Z.heap.size Z y1 := by rw [hy]; exact hD0.alloc hD0.size _
    have hT1 : Held.Same Z [] y1 := Held.Same.grown hT0 (by rw [hy]; exact World.grownBy_alloc _ _ none) (fun b hb => ⟨hL0 b hb, by simp⟩)
    have hL1 := hL0
    have hSZ1 : Z.heap.size ≤ y1.heap.size := by have h0 : y1.heap.size = Z.heap.size + 1 := (by rw [hy]; simp); have h1 := hSZ0; omega
    rw [← hy]
    refine hK.out _ _ (fun _ => hT1) ?_
    clear hK K hy
    rw [htb] at HK1 ⊢
    have HK := Aside0.mk HK1
    clear HK1 htb
    try simp only [Act.put, List.setIfInBounds_toArray, List.set_cons_zero, List.set_cons_succ]
    refine Held.AnyS.step2 (i := 0) (j := 3) rfl rfl (by kernel_rfl) rfl rfl (fun K hK => ?_) (fun K hK => ?_)
    · have hmk : (Instr.makeSlice 38 (.int .i64 70) (.int .i64 70)).run Try.prog y1 = .ok (.slice (some ⟨y1.heap.size, 0, none⟩) 70 70) (y1.alloc (.cells (madeCells #[.int .u8 0] 70) 5)) := print_make (P := Try.prog) 38 5 .u8 1 Try.underlying38 (by kernel_rfl) (by decide) 70 (by decide) y1
      go_simp
      clear hmk
      obtain ⟨y2, hy⟩ : ∃ V, V = y1.alloc (.cells (madeCells #[.int .u8 0] 70) 5) := ⟨_, rfl⟩
      have hD2 : Below Z.heap.size Z y2 := by rw [hy]; exact hD1.alloc hD1.size _
      have hT : Held.Same Z [] y2 := Held.Same.grown hT1 (by rw [hy]; exact World.grownBy_alloc _ _ none) (fun b hb => ⟨hL1 b hb, by simp⟩)
      have hcv : ∀ V, Held.Same y2 [y1.heap.size] V → (convert 38 9 (.slice (some ⟨y1.heap.size, 0, none⟩) 70 70)).run Try.prog V = .ok (.string s70) V := fun V hV => Held.conv_made (by decide) Try.underlying38 Try.underlying5 Try.underlying9 y1 HS70.out (bs := [y1.heap.size]) (by simp) V (by rw [← hy]; exact hV)
      have hL2 : ∀ b ∈ [y1.heap.size], b < y2.heap.size := by
        intro b hb
        have h0 : y2.heap.size = y1.heap.size + 1 := by rw [hy]; simp
        rcases List.mem_cons.1 hb with rfl | hb
        · omega
        · have h1 := hL1 b hb; have h2 := hSZ1; omega
      have hSZ2 : y2.heap.size ≤ y2.heap.size := Nat.le_refl _
      have hT2 : Held.Same y2 [y1.heap.size] y2 := Held.Same.refl _ _
      rw [← hy]
      refine hK.out _ _ (fun _ => hT) (Held.AnyS.imp (Held.Same.more hT (bs' := [y1.heap.size]) (fun b hb => List.mem_cons_of_mem _ hb)) _ _ _ _ ?_)
      clear hK K hT
      have HK2 := Aside0.mk (blk_below HK.out (show Below y1.heap.size y1 y2 by rw [hy]; exact (Below.refl _ _).alloc (Nat.le_refl _) _))
      clear HK
      have HK := HK2
      clear HK2
      clear hy
      generalize y1.heap.size = b70 at hcv hL2 hT2 ⊢
      try simp only [Act.put, List.setIfInBounds_toArray, List.set_cons_zero, List.set_cons_succ]
      refine Held.tk (i := 1) rfl hT2 ?_ (hy := fun V hV => (by have hc_ := hcv V hV; go_simp; try (with_reducible rfl)))
      clear hcv
      try simp only [Act.put, List.setIfInBounds_toArray, List.set_cons_zero, List.set_cons_succ]
      refine Held.tk (i := 2) rfl hT2 ?_
      try simp only [Act.put, List.setIfInBounds_toArray, List.set_cons_zero, List.set_cons_succ]
      refine Held.AnyS.step (i := 3) rfl (by kernel_rfl) rfl (fun K hK => ?_)
      have hmk : (Instr.makeSlice 38 (.int .i64 80) (.int .i64 80)).run Try.prog y2 = .ok (.slice (some ⟨y2.heap.size, 0, none⟩) 80 80) (y2.alloc (.cells (madeCells #[.int .u8 0] 80) 5)) := print_make (P := Try.prog) 38 5 .u8 1 Try.underlying38 (by kernel_rfl) (by decide) 80 (by decide) y2
      go_simp
      clear hmk
      obtain ⟨y3, hy⟩ : ∃ V, V = y2.alloc (.cells (madeCells #[.int .u8 0] 80) 5) := ⟨_, rfl⟩
      have hD3 : Below Z.heap.size Z y3 := by rw [hy]; exact hD2.alloc hD2.size _
      have hT : Held.Same y2 [b70] y3 := Held.Same.grown hT2 (by rw [hy]; exact World.grownBy_alloc _ _ none) (fun b hb => ⟨hL2 b hb, by simp⟩)
      have hcv : ∀ V, Held.Same y3 [y2.heap.size, b70] V → (convert 38 9 (.slice (some ⟨y2.heap.size, 0, none⟩) 80 80)).run Try.prog V = .ok (.string s80) V := fun V hV => Held.conv_made (by decide) Try.underlying38 Try.underlying5 Try.underlying9 y2 HS80.out (bs := [y2.heap.size, b70]) (by simp) V (by rw [← hy]; exact hV)
      have hL3 : ∀ b ∈ [y2.heap.size, b70], b < y3.heap.size := by
        intro b hb
        have h0 : y3.heap.size = y2.heap.size + 1 := by rw [hy]; simp
        rcases List.mem_cons.1 hb with rfl | hb
        · omega
        · have h1 := hL2 b hb; have h2 := hSZ2; omega
      have hSZ3 : y3.heap.size ≤ y3.heap.size := Nat.le_refl _
      have hT3 : Held.Same y3 [y2.heap.size, b70] y3 := Held.Same.refl _ _
      rw [← hy]
      refine hK.out _ _ (fun _ => hT) (Held.AnyS.imp (Held.Same.more hT (bs' := [y2.heap.size, b70]) (fun b hb => List.mem_cons_of_mem _ hb)) _ _ _ _ ?_)
      clear hK K hT
      have HK2 := Aside0.mk (blk_below HK.out (show Below y2.heap.size y2 y3 by rw [hy]; exact (Below.refl _ _).alloc (Nat.le_refl _) _))
      clear HK
      have HK := HK2
      clear HK2
      clear hy
      generalize y2.heap.size = b80 at hcv hL3 hT3 ⊢
      try simp only [Act.put, List.setIfInBounds_toArray, List.set_cons_zero, List.set_cons_succ]
      refine Held.tk (i := 4) rfl hT3 ?_ (hy := fun V hV => (by have hc_ := hcv V hV; go_simp; try (with_reducible rfl)))
      clear hcv
      try simp only [Act.put, List.setIfInBounds_toArray, List.set_cons_zero, List.set_cons_succ]
      refine Held.tk (i := 5) rfl hT3 ?_
      try simp only [Act.put, List.setIfInBounds_toArray, List.set_cons_zero, List.set_cons_succ]
      refine Held.tk (i := 6) rfl hT3 ?_
      try simp only [Act.put, List.setIfInBounds_toArray, List.set_cons_zero, List.set_cons_succ]
      refine Held.AnyS.step (i := 8) rfl (by kernel_rfl) rfl (fun K hK => ?_)
      have g0 : y3.cell? ⟨tb, 0, none⟩ = some (#[.string (⟨#[]⟩ : ByteArray), .int .i64 0, .string (⟨#[]⟩ : ByteArray), .bool false][0]) := (blk_cell HK.out 0).trans rfl
      have g1 : y3.cell? ⟨tb, 1, none⟩ = some (#[.string (⟨#[]⟩ : ByteArray), .int .i64 0, .string (⟨#[]⟩ : ByteArray), .bool false][1]) := (blk_cell HK.out 1).trans rfl
      have g2 : y3.cell? ⟨tb, 2, none⟩ = some (#[.string (⟨#[]⟩ : ByteArray), .int .i64 0, .string (⟨#[]⟩ : ByteArray), .bool false][2]) := (blk_cell HK.out 2).trans rfl
      have g3 : y3.cell? ⟨tb, 3, none⟩ = some (#[.string (⟨#[]⟩ : ByteArray), .int .i64 0, .string (⟨#[]⟩ : ByteArray), .bool false][3]) := (blk_cell HK.out 3).trans rfl
      have e0 : y3.frozen? ⟨tb, 0, none⟩ = false := by simp [World.frozen?, HK.out]
      have e1 : y3.frozen? ⟨tb, 1, none⟩ = false := by simp [World.frozen?, HK.out]
      have e2 : y3.frozen? ⟨tb, 2, none⟩ = false := by simp [World.frozen?, HK.out]
      have e3 : y3.frozen? ⟨tb, 3, none⟩ = false := by simp [World.frozen?, HK.out]
      have HD := Aside0.mk hD3
      clear hT0 hL0 hSZ0 hD0 hT1 hL1 hSZ1 hD1 hT2 hL2 hSZ2 hD2 hT3 hL3 hSZ3 hD3
      go_simp
      clear g0 g1 g2 g3 e0 e1 e2 e3
      obtain ⟨V, hV, kb, ko, kB⟩ := set4 HK.out (.string (⟨#[126, 120]⟩ : ByteArray)) (.int .i64 2) (.string (s70 ++ (⟨#[10]⟩ : ByteArray) ++ s80)) (.bool false)
      rw [hV]
      have HV := Aside0.mk (kB _ HD.out HG.out)
      have HKb := Aside0.mk kb
      refine hK.out _ _ (fun h => absurd h (by omega)) ?_
      clear hK K hV kB ko kb HK HD
      refine Held.AnyS.done (by kernel_rfl) ?_ _
      go_simp
      exact HJ.out b70 b80 tb V HKb.out HG.out HV.out
    · have hmk : (Instr.makeSlice 38 (.int .i64 80) (.int .i64 80)).run Try.prog y1 = .ok (.slice (some ⟨y1.heap.size, 0, none⟩) 80 80) (y1.alloc (.cells (madeCells #[.int .u8 0] 80) 5)) := print_make (P := Try.prog) 38 5 .u8 1 Try.underlying38 (by kernel_rfl) (by decide) 80 (by decide) y1
      go_simp
      clear hmk
      obtain ⟨y2, hy⟩ : ∃ V, V = y1.alloc (.cells (madeCells #[.int .u8 0] 80) 5) := ⟨_, rfl⟩
      have hD2 : Below Z.heap.size Z y2 := by rw [hy]; exact hD1.alloc hD1.size _
      have hT : Held.Same Z [] y2 := Held.Same.grown hT1 (by rw [hy]; exact World.grownBy_alloc _ _ none) (fun b hb => ⟨hL1 b hb, by simp⟩)
      have hcv : ∀ V, Held.Same y2 [y1.heap.size] V → (convert 38 9 (.slice (some ⟨y1.heap.size, 0, none⟩) 80 80)).run Try.prog V = .ok (.string s80) V := fun V hV => Held.conv_made (by decide) Try.underlying38 Try.underlying5 Try.underlying9 y1 HS80.out (bs := [y1.heap.size]) (by simp) V (by rw [← hy]; exact hV)
      have hL2 : ∀ b ∈ [y1.heap.size], b < y2.heap.size := by
        intro b hb
        have h0 : y2.heap.size = y1.heap.size + 1 := by rw [hy]; simp
        rcases List.mem_cons.1 hb with rfl | hb
        · omega
        · have h1 := hL1 b hb; have h2 := hSZ1; omega
      have hSZ2 : y2.heap.size ≤ y2.heap.size := Nat.le_refl _
      have hT2 : Held.Same y2 [y1.heap.size] y2 := Held.Same.refl _ _
      rw [← hy]
      refine hK.out _ _ (fun _ => hT) (Held.AnyS.imp (Held.Same.more hT (bs' := [y1.heap.size]) (fun b hb => List.mem_cons_of_mem _ hb)) _ _ _ _ ?_)
      clear hK K hT
      have HK2 := Aside0.mk (blk_below HK.out (show Below y1.heap.size y1 y2 by rw [hy]; exact (Below.refl _ _).alloc (Nat.le_refl _) _))
      clear HK
      have HK := HK2
      clear HK2
      clear hy
      generalize y1.heap.size = b80 at hcv hL2 hT2 ⊢
      try simp only [Act.put, List.setIfInBounds_toArray, List.set_cons_zero, List.set_cons_succ]
      refine Held.tk (i := 4) rfl hT2 ?_ (hy := fun V hV => (by have hc_ := hcv V hV; go_simp; try (with_reducible rfl)))
      clear hcv
      try simp only [Act.put, List.setIfInBounds_toArray, List.set_cons_zero, List.set_cons_succ]
      refine Held.AnyS.step (i := 0) rfl (by kernel_rfl) rfl (fun K hK => ?_)
      have hmk : (Instr.makeSlice 38 (.int .i64 70) (.int .i64 70)).run Try.prog y2 = .ok (.slice (some ⟨y2.heap.size, 0, none⟩) 70 70) (y2.alloc (.cells (madeCells #[.int .u8 0] 70) 5)) := print_make (P := Try.prog) 38 5 .u8 1 Try.underlying38 (by kernel_rfl) (by decide) 70 (by decide) y2
      go_simp
      clear hmk
      obtain ⟨y3, hy⟩ : ∃ V, V = y2.alloc (.cells (madeCells #[.int .u8 0] 70) 5) := ⟨_, rfl⟩
      have hD3 : Below Z.heap.size Z y3 := by rw [hy]; exact hD2.alloc hD2.size _
      have hT : Held.Same y2 [b80] y3 := Held.Same.grown hT2 (by rw [hy]; exact World.grownBy_alloc _ _ none) (fun b hb => ⟨hL2 b hb, by simp⟩)
      have hcv : ∀ V, Held.Same y3 [y2.heap.size, b80] V → (convert 38 9 (.slice (some ⟨y2.heap.size, 0, none⟩) 70 70)).run Try.prog V = .ok (.string s70) V := fun V hV => Held.conv_made (by decide) Try.underlying38 Try.underlying5 Try.underlying9 y2 HS70.out (bs := [y2.heap.size, b80]) (by simp) V (by rw [← hy]; exact hV)
      have hL3 : ∀ b ∈ [y2.heap.size, b80], b < y3.heap.size := by
        intro b hb
        have h0 : y3.heap.size = y2.heap.size + 1 := by rw [hy]; simp
        rcases List.mem_cons.1 hb with rfl | hb
        · omega
        · have h1 := hL2 b hb; have h2 := hSZ2; omega
      have hSZ3 : y3.heap.size ≤ y3.heap.size := Nat.le_refl _
      have hT3 : Held.Same y3 [y2.heap.size, b80] y3 := Held.Same.refl _ _
      rw [← hy]
      refine hK.out _ _ (fun _ => hT) (Held.AnyS.imp (Held.Same.more hT (bs' := [y2.heap.size, b80]) (fun b hb => List.mem_cons_of_mem _ hb)) _ _ _ _ ?_)
      clear hK K hT
      have HK2 := Aside0.mk (blk_below HK.out (show Below y2.heap.size y2 y3 by rw [hy]; exact (Below.refl _ _).alloc (Nat.le_refl _) _))
      clear HK
      have HK := HK2
      clear HK2
      clear hy
      generalize y2.heap.size = b70 at hcv hL3 hT3 ⊢
      try simp only [Act.put, List.setIfInBounds_toArray, List.set_cons_zero, List.set_cons_succ]
      refine Held.tk (i := 1) rfl hT3 ?_ (hy := fun V hV => (by have hc_ := hcv V hV; go_simp; try (with_reducible rfl)))
      clear hcv
      try simp only [Act.put, List.setIfInBounds_toArray, List.set_cons_zero, List.set_cons_succ]
      refine Held.tk (i := 2) rfl hT3 ?_
      try simp only [Act.put, List.setIfInBounds_toArray, List.set_cons_zero, List.set_cons_succ]
      refine Held.tk (i := 5) rfl hT3 ?_
      try simp only [Act.put, List.setIfInBounds_toArray, List.set_cons_zero, List.set_cons_succ]
      refine Held.tk (i := 6) rfl hT3 ?_
      try simp only [Act.put, List.setIfInBounds_toArray, List.set_cons_zero, List.set_cons_succ]
      refine Held.AnyS.step (i := 8) rfl (by kernel_rfl) rfl (fun K hK => ?_)
      have g0 : y3.cell? ⟨tb, 0, none⟩ = some (#[.string (⟨#[]⟩ : ByteArray), .int .i64 0, .string (⟨#[]⟩ : ByteArray), .bool false][0]) := (blk_cell HK.out 0).trans rfl
      have g1 : y3.cell? ⟨tb, 1, none⟩ = some (#[.string (⟨#[]⟩ : ByteArray), .int .i64 0, .string (⟨#[]⟩ : ByteArray), .bool false][1]) := (blk_cell HK.out 1).trans rfl
      have g2 : y3.cell? ⟨tb, 2, none⟩ = some (#[.string (⟨#[]⟩ : ByteArray), .int .i64 0, .string (⟨#[]⟩ : ByteArray), .bool false][2]) := (blk_cell HK.out 2).trans rfl
      have g3 : y3.cell? ⟨tb, 3, none⟩ = some (#[.string (⟨#[]⟩ : ByteArray), .int .i64 0, .string (⟨#[]⟩ : ByteArray), .bool false][3]) := (blk_cell HK.out 3).trans rfl
      have e0 : y3.frozen? ⟨tb, 0, none⟩ = false := by simp [World.frozen?, HK.out]
      have e1 : y3.frozen? ⟨tb, 1, none⟩ = false := by simp [World.frozen?, HK.out]
      have e2 : y3.frozen? ⟨tb, 2, none⟩ = false := by simp [World.frozen?, HK.out]
      have e3 : y3.frozen? ⟨tb, 3, none⟩ = false := by simp [World.frozen?, HK.out]
      have HD := Aside0.mk hD3
      clear hT0 hL0 hSZ0 hD0 hT1 hL1 hSZ1 hD1 hT2 hL2 hSZ2 hD2 hT3 hL3 hSZ3 hD3
      go_simp
      clear g0 g1 g2 g3 e0 e1 e2 e3
      obtain ⟨V, hV, kb, ko, kB⟩ := set4 HK.out (.string (⟨#[126, 120]⟩ : ByteArray)) (.int .i64 2) (.string (s70 ++ (⟨#[10]⟩ : ByteArray) ++ s80)) (.bool false)
      rw [hV]
      have HV := Aside0.mk (kB _ HD.out HG.out)
      have HKb := Aside0.mk kb
      refine hK.out _ _ (fun h => absurd h (by omega)) ?_
      clear hK K hV kB ko kb HK HD
      refine Held.AnyS.done (by kernel_rfl) ?_ _
      go_simp
      exact HJ.out b70 b80 tb V HKb.out HG.out HV.out
end Go.Proofs.Ytcgnkbdfoaiaiaa.P
end
