/- The first calls of layer 3's laws, whose answers are fixed: by a walk of their text. -/
import Derived.WalkMore
import Derived.Test.YthjihdfgamdhmaaERight
import Derived.Test.YthjihdfgamdhmaaPxf10
import Derived.Test.YthjihdfgamdhmaaPxf13
set_option linter.unusedVariables false
set_option linter.unusedSimpArgs false
namespace Go.Proofs.Ythjihdfgamdhmaa.P
open Go Go.RowKit Go.Proofs.YthjihdfgamdhmaaW.PrintWords Go.Proofs.YthjihdfgamdhmaaW.PrintLast Go.Proofs.YthjihdfgamdhmaaW.PrintMore Go.Proofs.Ythjihdfgamdhmaa.Q
def collatorlaw03_awake.f : Option Bool := some true
theorem lit3_C {W : World} (n : Nat) (xs : List ByteArray) (hn : n = W.heap.size) (h : xs.length ≤ 9223372036854775807) : Kd.C Kd.string (W.alloc (.cells (encs Value.string xs).toArray 9)) (some ⟨n, 0, none⟩) xs.length xs := by
  subst hn
  exact (Kd.R_reads' (Kd.R_of_own (h1 := fun _ => rfl) (ok := fun _ => True) (own_lit_of W W.heap.size 9 xs (Nat.le_refl _) h) (fun _ _ => trivial))).2.2
theorem aw_shared1 : rows_Shared.f 9 [⟨#[120]⟩, ⟨#[121]⟩, ⟨#[122]⟩] [⟨#[120]⟩, ⟨#[122]⟩] = some (1, 1) := by decide +kernel
theorem aw_shared2 : rows_Shared.f 9 [⟨#[120]⟩, ⟨#[120]⟩] [⟨#[120]⟩] = some (1, 0) := by decide +kernel
theorem aw_split1 : rows_Split.f ⟨#[97, 10, 10, 98]⟩ = some [⟨#[97, 10]⟩, ⟨#[10]⟩, ⟨#[98]⟩] := by decide +kernel
theorem aw_split2 : rows_Split.f ⟨#[]⟩ = some [] := by decide +kernel
theorem aw_texts : collatorref01_Texts.f 9 [⟨#[97, 10]⟩, ⟨#[10]⟩, ⟨#[98]⟩] [⟨#[97, 10]⟩, ⟨#[10]⟩, ⟨#[98]⟩] = some true := by decide +kernel
theorem aw_join : rows_Join.f [⟨#[97]⟩, ⟨#[98]⟩] = some ⟨#[97, 98]⟩ := by decide +kernel
theorem aw_right1 : rows_Right.f [⟨#[97, 10]⟩, ⟨#[98]⟩] = some true := by decide +kernel
theorem aw_right2 : rows_Right.f [⟨#[97]⟩, ⟨#[98]⟩] = some false := by decide +kernel
theorem aw_right3 : rows_Right.f [⟨#[]⟩] = some false := by decide +kernel
set_option maxHeartbeats 4000000 in
set_option maxRecDepth 100000 in
theorem collatorlaw03_awake.calls (r : Bool) (w : World) (h : collatorlaw03_awake.f = some r) :
    Calls Try.prog 7 #[] w fun e w' => e = .returned (.bool r) ∧ Below w.heap.size w w' := by
  obtain rfl := Option.some.inj h
  clear h
  have HB0 := Aside0.mk (Below.refl w.heap.size w)
  go_enter Try.func7, Try.ntmps7
  go_wp2_with (fail)
  (go_at_call 13; refine (rows_Shared.calls 9 _ _ [(⟨#[120]⟩ : ByteArray), (⟨#[121]⟩ : ByteArray), (⟨#[122]⟩ : ByteArray)] _ _ [(⟨#[120]⟩ : ByteArray), (⟨#[122]⟩ : ByteArray)] _ _ _ ?d1 ?d2 ?d3 ?d4 aw_shared1).mono ?_; (case d1 => exact Kd.C_alloc (lit3_C _ [(⟨#[120]⟩ : ByteArray), (⟨#[121]⟩ : ByteArray), (⟨#[122]⟩ : ByteArray)] (by simp) (by decide)) _); (case d2 => decide); (case d3 => exact lit3_C _ [(⟨#[120]⟩ : ByteArray), (⟨#[122]⟩ : ByteArray)] (by simp) (by decide)); (case d4 => decide); rintro e w1 ⟨rfl, hb⟩; have HB1 : Aside0 (Below w.heap.size w w1) := ⟨by
    refine Below.trans ?_ (hb.mono ?_)
    · repeat (first | exact HB0.out | apply below_alloc | apply pw_below_drewN | apply below_drew1)
    · exact (show Below w.heap.size w _ by repeat (first | exact HB0.out | apply below_alloc | apply pw_below_drewN | apply below_drew1)).size⟩; clear hb)
  go_wp2_with (fail)
  (go_at_call 13; refine (rows_Shared.calls 9 _ _ [(⟨#[120]⟩ : ByteArray), (⟨#[120]⟩ : ByteArray)] _ _ [(⟨#[120]⟩ : ByteArray)] _ _ _ ?d1 ?d2 ?d3 ?d4 aw_shared2).mono ?_; (case d1 => exact Kd.C_alloc (lit3_C _ [(⟨#[120]⟩ : ByteArray), (⟨#[120]⟩ : ByteArray)] (by simp) (by decide)) _); (case d2 => decide); (case d3 => exact lit3_C _ [(⟨#[120]⟩ : ByteArray)] (by simp) (by decide)); (case d4 => decide); rintro e w2 ⟨rfl, hb⟩; have HB2 : Aside0 (Below w.heap.size w w2) := ⟨by
    refine Below.trans ?_ (hb.mono ?_)
    · repeat (first | exact HB1.out | apply below_alloc | apply pw_below_drewN | apply below_drew1)
    · exact (show Below w.heap.size w _ by repeat (first | exact HB1.out | apply below_alloc | apply pw_below_drewN | apply below_drew1)).size⟩; clear hb)
  go_wp2_with (fail)
  (go_at_call 11; refine (rows_Split.calls _ _ _ aw_split1).mono ?_; rintro e w3 ⟨v3, rfl, ho, hb⟩; have HB3 : Aside0 (Below w.heap.size w w3) := ⟨by
    refine Below.trans ?_ (hb.mono ?_)
    · repeat (first | exact HB2.out | apply below_alloc | apply pw_below_drewN | apply below_drew1)
    · exact (show Below w.heap.size w _ by repeat (first | exact HB2.out | apply below_alloc | apply pw_below_drewN | apply below_drew1)).size⟩; obtain ⟨A3, c3, rfl, hc3, hC3⟩ := Kd.R_reads ho; have HC3 := Aside0.mk hC3; have HL3 := Aside0.mk hc3; clear ho hb hC3 hc3)
  go_wp2_with (fail)
  (go_at_call 10; refine (collatorref01_Texts.calls 9 _ _ [(⟨#[97, 10]⟩ : ByteArray), (⟨#[10]⟩ : ByteArray), (⟨#[98]⟩ : ByteArray)] _ _ [(⟨#[97, 10]⟩ : ByteArray), (⟨#[10]⟩ : ByteArray), (⟨#[98]⟩ : ByteArray)] true _ ?e1 ?e2 ?e3 ?e4 aw_texts).mono ?_; (case e1 => exact Kd.C_alloc HC3.out _); (case e2 => exact HL3.out); (case e3 => exact lit3_C _ _ (by simp) (by decide)); (case e4 => exact Nat.le_refl 3); rintro e w' ⟨rfl, ⟨nd, rfl⟩⟩)
  go_wp2_with (fail)
  (go_at_call 11; refine (rows_Split.calls _ _ _ aw_split2).mono ?_; rintro e w4 ⟨v4, rfl, ho, hb⟩; have HB4 : Aside0 (Below w.heap.size w w4) := ⟨by
    refine Below.trans ?_ (hb.mono ?_)
    · repeat (first | exact HB3.out | apply below_alloc | apply pw_below_drewN | apply below_drew1)
    · exact (show Below w.heap.size w _ by repeat (first | exact HB3.out | apply below_alloc | apply pw_below_drewN | apply below_drew1)).size⟩; obtain ⟨A4, c4, rfl, _⟩ := Kd.R_reads ho; clear ho hb)
  go_wp2_with (fail)
  (go_at_call 12; refine (rows_Join.calls _ _ [(⟨#[97]⟩ : ByteArray), (⟨#[98]⟩ : ByteArray)] _ _ ?d1 ?d2 aw_join).mono ?_; (case d1 => exact lit3_C _ [(⟨#[97]⟩ : ByteArray), (⟨#[98]⟩ : ByteArray)] (by simp) (by decide)); (case d2 => decide); rintro e w5 ⟨rfl, hb⟩; have HB5 : Aside0 (Below w.heap.size w w5) := ⟨by
    refine Below.trans ?_ (hb.mono ?_)
    · repeat (first | exact HB4.out | apply below_alloc | apply pw_below_drewN | apply below_drew1)
    · exact (show Below w.heap.size w _ by repeat (first | exact HB4.out | apply below_alloc | apply pw_below_drewN | apply below_drew1)).size⟩; clear hb)
  go_wp2_with (fail)
  (go_at_call 9; refine (rows_Right.calls _ _ [(⟨#[97, 10]⟩ : ByteArray), (⟨#[98]⟩ : ByteArray)] _ _ ?d1 ?d2 aw_right1).mono ?_; (case d1 => exact lit3_C _ [(⟨#[97, 10]⟩ : ByteArray), (⟨#[98]⟩ : ByteArray)] (by simp) (by decide)); (case d2 => decide); rintro e w6 ⟨rfl, hb⟩; have HB6 : Aside0 (Below w.heap.size w w6) := ⟨by
    refine Below.trans ?_ (hb.mono ?_)
    · repeat (first | exact HB5.out | apply below_alloc | apply pw_below_drewN | apply below_drew1)
    · exact (show Below w.heap.size w _ by repeat (first | exact HB5.out | apply below_alloc | apply pw_below_drewN | apply below_drew1)).size⟩; clear hb)
  go_wp2_with (fail)
  (go_at_call 9; refine (rows_Right.calls _ _ [(⟨#[97]⟩ : ByteArray), (⟨#[98]⟩ : ByteArray)] _ _ ?d1 ?d2 aw_right2).mono ?_; (case d1 => exact lit3_C _ [(⟨#[97]⟩ : ByteArray), (⟨#[98]⟩ : ByteArray)] (by simp) (by decide)); (case d2 => decide); rintro e w7 ⟨rfl, hb⟩; have HB7 : Aside0 (Below w.heap.size w w7) := ⟨by
    refine Below.trans ?_ (hb.mono ?_)
    · repeat (first | exact HB6.out | apply below_alloc | apply pw_below_drewN | apply below_drew1)
    · exact (show Below w.heap.size w _ by repeat (first | exact HB6.out | apply below_alloc | apply pw_below_drewN | apply below_drew1)).size⟩; clear hb)
  go_wp2_with (fail)
  (go_at_call 9; refine (rows_Right.calls _ _ [(⟨#[]⟩ : ByteArray)] _ _ ?d1 ?d2 aw_right3).mono ?_; (case d1 => exact lit3_C _ [(⟨#[]⟩ : ByteArray)] (by simp) (by decide)); (case d2 => decide); rintro e w8 ⟨rfl, hb⟩; have HB8 : Aside0 (Below w.heap.size w w8) := ⟨by
    refine Below.trans ?_ (hb.mono ?_)
    · repeat (first | exact HB7.out | apply below_alloc | apply pw_below_drewN | apply below_drew1)
    · exact (show Below w.heap.size w _ by repeat (first | exact HB7.out | apply below_alloc | apply pw_below_drewN | apply below_drew1)).size⟩; clear hb)
  go_wp2_with (fail)
  go_ret
  exact ⟨rfl, HB8.out⟩
end Go.Proofs.Ythjihdfgamdhmaa.P
