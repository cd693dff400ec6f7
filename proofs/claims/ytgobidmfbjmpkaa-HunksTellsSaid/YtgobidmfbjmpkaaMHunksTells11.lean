/- Texts of this claim, joined: Pxf23, ETellsD, ETellsC, ETellsB, ETellsA, QT6, QHkRef. -/
import Derived.Test.YtgobidmfbjmpkaaMHunksTells1
import Derived.Test.YtgobidmfbjmpkaaMHunksTells2
import Derived.Test.YtgobidmfbjmpkaaMHunksTells10
import Derived.Test.YtgobidmfbjmpkaaMHunksTells9
import Derived.Lib.Hide
import Derived.Test.YtgobidmfbjmpkaaMHunksTells6
import Derived.Test.YtgobidmfbjmpkaaMHunksTells3
import Derived.Test.YtgobidmfbjmpkaaMHunksTells5
import Derived.Test.YtgobidmfbjmpkaaMHunksTells8
import Derived.Test.YtgobidmfbjmpkaaMHunksTells4
section
/- Laid for this claim by hp.py, this session's program round the kit's print: functions of the program as plain Lean functions, the proofs that the code comes to their answers, and the rows of the laws. Not trusted: Lean checks it. -/
namespace Go.Proofs.Ytgobidmfbjmpkaa.P
open Go.RowKit Go.Proofs.YtgobidmfbjmpkaaW.PrintWords Go.Proofs.YtgobidmfbjmpkaaW.PrintLast Go.Proofs.YtgobidmfbjmpkaaW.PrintMore
attribute [local go_sem] max2_int min2_int max_two min_two max_three min_three max_four min_four   -- for this text's walks alone
set_option linter.unusedVariables false
set_option linter.unusedSimpArgs false

/-! ### collatorref06_Apply: function 23 -/
def collatorref06_Apply.f (k : Nat) (l0 : List (S28)) (l1 : List ByteArray) : Option (List ByteArray × Int) := (collatorref06_Script.f k l0 (l1.length : Int)).bind fun bt240 => (if bt240.2 = 0 then ((collatorref04_Apply.f k bt240.1 l1).bind fun bt244 => (some (bt244.1, bt244.2))) else (some (([] : List ByteArray), bt240.2)))
set_option maxHeartbeats 8000000 in
set_option maxRecDepth 100000 in
theorem collatorref06_Apply.calls (k : Nat) (A0 : Option Addr) (c0 : Nat) (l0 : List (S28)) (A1 : Option Addr) (c1 : Nat) (l1 : List ByteArray) (r1 : List ByteArray) (r2 : Int) (w : World) (hr0 : Kd.C k28 w A0 l0.length l0) (hc0 : l0.length ≤ c0) (hr1 : Kd.C Kd.string w A1 l1.length l1) (hc1 : l1.length ≤ c1) (h : collatorref06_Apply.f k l0 l1 = some (r1, r2)) :
  Calls Try.prog 23 #[.slice A0 l0.length c0, .slice A1 l1.length c1] w fun e w' => ∃ v0_ : Value, e = .returned (.tuple #[v0_, .int .i64 r2]) ∧ Kd.R Kd.string 9 w' w.heap.size (fun _ => True) v0_ r1 ∧ Below w.heap.size w w' := by
 have HR0 := Aside0.mk hr0
 have HC0 := Aside0.mk hc0
 clear hr0 hc0
 have HR1 := Aside0.mk hr1
 have HC1 := Aside0.mk hc1
 clear hr1 hc1
 have HB := Aside0.mk (Below.refl w.heap.size w)
 have H : ((collatorref06_Script.f k l0 (l1.length : Int)).bind fun bt240 => (if bt240.2 = 0 then ((collatorref04_Apply.f k bt240.1 l1).bind fun bt244 => (some (bt244.1, bt244.2))) else (some (([] : List ByteArray), bt240.2)))) = some (r1, r2) := h
 clear h
 replace H := Option.bind_eq_some_iff.mp H
 obtain ⟨⟨t240, t243⟩, A30, H⟩ := H
 replace H : (if t243 = 0 then ((collatorref04_Apply.f k t240 l1).bind fun bt244 => (some (bt244.1, bt244.2))) else (some (([] : List ByteArray), t243))) = some (r1, r2) := H
 have A3 := Aside0.mk A30
 clear A30
 by_cases c4 : t243 = 0
 ·rw [if_pos c4] at H
  have c4b0 : (t243 == 0) = true := beq_iff_eq.mpr c4
  have c4b1 : (t243 != 0) = false := bne_eq_false_iff_eq.mpr c4
  clear c4
  replace H := Option.bind_eq_some_iff.mp H
  obtain ⟨⟨t244, t245⟩, A50, H⟩ := H
  replace H : (some (t244, t245)) = some (r1, r2) := H
  have A5 := Aside0.mk A50
  clear A50
  simp only [Option.some.injEq, Prod.mk.injEq] at H
  obtain ⟨rfl, rfl⟩ := H
  go_enter Try.func23, Try.ntmps23
  go_wp2_with (first | ((with_reducible refine gate_callee (f := 19) rfl ?_); refine goesL_ (some 12) rfl rfl Try.func19 (by kernel_rfl) rfl #[.slice A0 l0.length c0, .int .i64 (l1.length : Int)] rfl mp_ ?_; (with_reducible refine (collatorref06_Script.calls k (fun k_ => k_ < w.heap.size) _ _ l0 (l1.length : Int) t240 t243 _ ?side1 A3.out).mono ?_); (case side1 => exact Kd.V_mk HC0.out (Kd.F_below (Kd.C_F k28_heap HR0.out) hb_)); rintro e w6 ⟨v241, rfl, ho0, hb⟩; refine ⟨_, rfl, ?_⟩; have n0_ := Aside0.mk (Kd.V_lower (Kd.V_mono (ok' := fun k_ => True) ho0 (fun k_ hk_ => trivial)) (below_size hb_)); have n1_ := Aside0.mk (below_step hb_ hb); clear HB; have HO242 := n0_; have HB := n1_; clear n0_ n1_; (try clear hb); (try clear hb2); (try clear hk); (try clear hi); (try clear ho0); (try (obtain ⟨Ao7, co7, eo7⟩ := Kd.V_slice HO242.out; subst eo7))) | ((with_reducible refine gate_callee (f := 47) rfl ?_); refine goesL_ (some 20) rfl rfl Try.func47 (by kernel_rfl) rfl #[.slice Ao7 t240.length co7, .slice A1 l1.length c1] rfl mp_ ?_; (with_reducible refine (collatorref04_Apply.calls k _ _ t240 _ _ l1 t244 t245 _ ?side1 ?side2 ?side3 ?side4 A5.out).mono ?_); (case side1 => repeat (first | exact (Kd.V_reads' HO242.out).2.2 | (with_reducible refine Kd.C_alloc ?_ _) | (with_reducible refine Kd.C_drewN ?_ _) | (with_reducible refine Kd.C_drew ?_))); (case side2 => exact (Kd.V_reads' HO242.out).2.1); (case side3 => repeat (first | exact (Kd.C_below HR1.out HB.out) | (with_reducible refine Kd.C_alloc ?_ _) | (with_reducible refine Kd.C_drewN ?_ _) | (with_reducible refine Kd.C_drew ?_))); (case side4 => exact HC1.out); rintro e w8 ⟨v246, rfl, ho0, hb⟩; refine ⟨_, rfl, ?_⟩; have n0_ := Aside0.mk (Kd.V_elder' (by (with_reducible repeat (first | apply Kd.V_alloc | apply Kd.V_drewN | apply Kd.V_drew)); exact HO242.out) (Kd.R_base ho0) hb); have n1_ := Aside0.mk (Kd.R_lower ho0 (below_size hb_)); have n2_ := Aside0.mk (below_step hb_ hb); clear HO242; clear HB; have HO242 := n0_; have HO247 := n1_; have HB := n2_; clear n0_ n1_ n2_; (try clear hb); (try clear hb2); (try clear hk); (try clear hi); (try clear ho0)))
  go_ret2
  exact ⟨_, by first | rfl | (simp [errW_none, errW_some] <;> rfl) | (simp [*, errW_none, errW_some] <;> rfl), by (with_reducible repeat (first | apply Kd.R_alloc | apply Kd.R_drewN | apply Kd.R_drew)); exact HO247.out, by repeat (first | (with_reducible first | exact HB.out | apply below_alloc | apply pw_below_drewN | apply below_drew1) | exact HB.out)⟩
 ·rw [if_neg c4] at H
  have c4b0 : (t243 == 0) = false := beq_eq_false_iff_ne.mpr c4
  have c4b1 : (t243 != 0) = true := bne_iff_ne.mpr c4
  simp only [Option.some.injEq, Prod.mk.injEq] at H
  obtain ⟨rfl, rfl⟩ := H
  go_enter Try.func23, Try.ntmps23
  go_wp2_with (first | ((with_reducible refine gate_callee (f := 19) rfl ?_); refine goesL_ (some 12) rfl rfl Try.func19 (by kernel_rfl) rfl #[.slice A0 l0.length c0, .int .i64 (l1.length : Int)] rfl mp_ ?_; (with_reducible refine (collatorref06_Script.calls k (fun k_ => k_ < w.heap.size) _ _ l0 (l1.length : Int) t240 t243 _ ?side1 A3.out).mono ?_); (case side1 => exact Kd.V_mk HC0.out (Kd.F_below (Kd.C_F k28_heap HR0.out) hb_)); rintro e w9 ⟨v241, rfl, ho0, hb⟩; refine ⟨_, rfl, ?_⟩; have n0_ := Aside0.mk (Kd.V_lower (Kd.V_mono (ok' := fun k_ => True) ho0 (fun k_ hk_ => trivial)) (below_size hb_)); have n1_ := Aside0.mk (below_step hb_ hb); clear HB; have HO242 := n0_; have HB := n1_; clear n0_ n1_; (try clear hb); (try clear hb2); (try clear hk); (try clear hi); (try clear ho0)))
  go_ret2
  exact ⟨_, by first | rfl | (simp [errW_none, errW_some] <;> rfl) | (simp [*, errW_none, errW_some] <;> rfl), by first | exact Kd.R_nil _ _ _ _ _ | exact Kd.N_nil _ _ _ _ _ | exact Kd.V_nil _ _ _ _ _ | exact Kd.Q_nil _ _ _ _ _ | exact Kd.S_nil _ _ _ _ _, by repeat (first | (with_reducible first | exact HB.out | apply below_alloc | apply pw_below_drewN | apply below_drew1) | exact HB.out)⟩

end Go.Proofs.Ytgobidmfbjmpkaa.P
end
section
/- HunksTells: what the law needs to know of what its calls answer. -/
set_option linter.unusedVariables false
set_option linter.unusedSimpArgs false
namespace Go.Proofs.Ytgobidmfbjmpkaa.P
open Go Go.RowKit Go.Proofs.YtgobidmfbjmpkaaW.PrintWords Go.Proofs.YtgobidmfbjmpkaaW.PrintLast Go.Proofs.YtgobidmfbjmpkaaW.PrintMore
def Stop (p : Prop) : Prop := p
theorem stop_ {p : Prop} (h : Stop p) : p := h
/-- An edit, and a hunk, cut small. -/
def cutE (e : S31) : S31 := ⟨e.f0, mn e.f1 50, e.f2.take (mn (e.f2.length : Int) 10).toNat⟩
def cutH (h : S28) : S28 := ⟨h.f0, h.f1, (h.f2.take 6).map cutE⟩
def oddL (l : List S28) : List S28 := (l.take 4).map cutH
/-- Of some hunks. -/
structure EachOk (k : Nat) (a ls : List ByteArray) (n p : Int) (h : List S28) : Prop where
 right : ∃ b, hunks_Right.f k h = some b ∧ collatorref06_Right.f k h = some b
 scr : ∀ x, x = n ∨ x = (a.length : Int) ∨ x = p → ∃ t u e, hunks_Script.f k h x = some (t, e) ∧ collatorref06_Script.f k h x = some (u, e) ∧ collatorref04_Same.f k t u = some true
 app : ∀ x, x = a ∨ x = ls → ∃ t u e, hunks_Apply.f k h x = some (t, e) ∧ collatorref06_Apply.f k h x = some (u, e) ∧ collatorref01_Texts.f k t u = some true
structure TellsOk (k : Nat) (odd : List S28) (l1 : List Int) (l2 : List (List Int)) (l3 l4 : List Int) (a5 a6 : Int) (s : List S31) (a ls : List ByteArray) (p q : Int) (own hm : List S28) : Prop where
 sc : collatorlaw04_Script.f k l1 l4 = some (s, a)
 pc : collatorlaw06_pick.f a5 6 = some p
 pn : collatorlaw06_pick.f a6 60 = some q
 mkd : ∀ c, c = a5 ∨ c = p → ∃ h u e, hunks_Make.f k s c = some (h, e) ∧ collatorref06_Make.f k s c = some (u, e) ∧ collatorref06_Same.f k h u = some true
 ow : ∃ e, collatorref06_Make.f k s p = some (own, e)
 hh : collatorlaw06_Hunks.f k l2 l3 = some hm
 li : collatorlaw03_Lines.f k l4 30 = some ls
 each : ∀ h, h = odd ∨ h = own ∨ h = hm → EachOk k a ls a6 q h
end Go.Proofs.Ytgobidmfbjmpkaa.P
end
section
/- HunksTells: the law's walk by hand: regions 24 to 47 (written by tells_gen.py). -/
set_option linter.unusedVariables false
set_option linter.unusedSimpArgs false
namespace Go.Proofs.Ytgobidmfbjmpkaa.P
open Go Go.RowKit Go.Proofs.YtgobidmfbjmpkaaW.PrintWords Go.Proofs.YtgobidmfbjmpkaaW.PrintLast Go.Proofs.YtgobidmfbjmpkaaW.PrintMore
theorem V_of_C {w : World} {A : Option Addr} {c : Nat} {l : List S28} (h : Kd.C k28 w A l.length l) (hl : l.length ≤ c) : Kd.V k28 28 w w.heap.size (fun _ => True) (.slice A l.length c) l := Kd.V_mk hl (Kd.F_mono (Kd.C_F k28_heap h) (fun _ _ => trivial))
set_option maxHeartbeats 16000000 in
set_option maxRecDepth 100000 in
theorem tells_C (k : Nat) (l0 odd : List S28) (l1 : List Int) (l2 : List (List Int)) (l3 l4 : List Int) (a5 a6 : Int) (s : List S31) (a ls : List ByteArray) (p q : Int) (own hm : List S28) (HK : Aside0 (TellsOk k odd l1 l2 l3 l4 a5 a6 s a ls p q own hm)) (A0 A1 A2 A3 A4 : Option Addr) (c0 c1 c2 c3 c4 : Nat) (w V : World) (hB : Below w.heap.size w V) (Ao As Aa : Option Addr) (co cs_ ca_ : Nat) (x7 x8 x9 x10 x11 x12 x13 x14 x17 x18 x19 x20 x23 x24 x25 x26 x27 x28 x29 x30 x31 x32 x33 x34 x35 x36 x37 x38 x39 x40 x41 x42 x43 x44 x45 x46 x47 x48 x49 x50 x51 x52 x53 x54 x55 x56 x57 x58 x59 x60 x61 x62 x63 x64 x65 x66 x67 x68 x69 x70 x71 x72 x73 x74 x75 x76 x77 x78 x79 x80 x81 x82 x83 x84 x85 x86 x87 x88 x89 x90 x91 x92 x93 x94 x95 x96 x97 x98 x99 x100 x101 x102 x103 x104 x105 x106 x107 x108 x109 x110 x111 x112 x113 x114 x115 x116 x117 x118 x119 x120 x121 x122 x123 x124 x125 x126 x127 x128 x129 x130 x131 x132 x133 x134 x135 x136 x137 x138 x139 x140 x141 x142 x143 x144 x145 x146 x147 x148 x149 x150 x151 x152 x153 x154 x155 x156 x157 x158 x159 x160 x161 x162 x163 x164 x165 x166 x167 x168 x169 x170 x171 x172 x173 x174 x175 x176 x177 x178 x179 x180 x181 x182 x183 x184 x185 x186 x187 x188 x189 x190 x191 x192 x193 x194 x195 x196 x197 x198 x199 x200 x201 x202 x203 x204 x205 x206 x207 x208 x209 x210 x211 x212 x213 x214 x215 x216 x217 x218 x219 x220 x221 x222 x223 x224 x225 x226 x227 x228 x229 x230 x231 x232 x233 x234 x235 x236 : Value)
  (hr1 : Kd.C (Kd.int .i64) V A1 l1.length l1) (hc1 : l1.length ≤ c1) (hr2 : Kd.C (Kd.slice 3 (Kd.int .i64)) V A2 l2.length l2) (hc2 : l2.length ≤ c2) (hr3 : Kd.C (Kd.int .i64) V A3 l3.length l3) (hc3 : l3.length ≤ c3) (hr4 : Kd.C (Kd.int .i64) V A4 l4.length l4) (hc4 : l4.length ≤ c4) (hro : Kd.C k28 V Ao odd.length odd) (hco : odd.length ≤ co) (hrs : Kd.C k31 V As s.length s) (hcs : s.length ≤ cs_) (hra : Kd.C Kd.string V Aa a.length a) (hca : a.length ≤ ca_) :
  Code.wp Try.prog (sndN 6 (Try.f3.body.getD .skip)) (bodyPost Try.prog Try.f3 fun e w' => e = .returned (.bool true) ∧ Below w.heap.size w w') ⟨#[.slice A0 l0.length c0, .slice A1 l1.length c1, .slice A2 l2.length c2, .slice A3 l3.length c3, .slice A4 l4.length c4, .int .i64 a5, .int .i64 a6, x7, x8, x9, x10, x11, x12, x13, x14, .bool true, .slice Ao odd.length co, x17, x18, x19, x20, .slice As s.length cs_, .slice Aa a.length ca_, x23, x24, x25, x26, x27, x28, x29, x30, x31, x32, x33, x34, x35, x36, x37, x38, x39, x40, x41, x42, x43, x44, x45, x46, x47, x48, x49, x50, x51, x52, x53, x54, x55, x56, x57, x58, x59, x60, x61, x62, x63, x64, x65, x66, x67, x68, x69, x70, x71, x72, x73, x74, x75, x76, x77, x78, x79, x80, x81, x82, x83, x84, x85, x86, x87, x88, x89, x90, x91, x92, x93, x94, x95, x96, x97, x98, x99, x100, x101, x102, x103, x104, x105, x106, x107, x108, x109, x110, x111, x112, x113, x114, x115, x116, x117, x118, x119, x120, x121, x122, x123, x124, x125, x126, x127, x128, x129, x130, x131, x132, x133, x134, x135, x136, x137, x138, x139, x140, x141, x142, x143, x144, x145, x146, x147, x148, x149, x150, x151, x152, x153, x154, x155, x156, x157, x158, x159, x160, x161, x162, x163, x164, x165, x166, x167, x168, x169, x170, x171, x172, x173, x174, x175, x176, x177, x178, x179, x180, x181, x182, x183, x184, x185, x186, x187, x188, x189, x190, x191, x192, x193, x194, x195, x196, x197, x198, x199, x200, x201, x202, x203, x204, x205, x206, x207, x208, x209, x210, x211, x212, x213, x214, x215, x216, x217, x218, x219, x220, x221, x222, x223, x224, x225, x226, x227, x228, x229, x230, x231, x232, x233, x234, x235, x236], []⟩ V := by
 conv in sndN 6 _ => whnf
 have Hhr1 := Lib.hid hr1
 have Hhc1 := Lib.hid hc1
 have Hhr2 := Lib.hid hr2
 have Hhc2 := Lib.hid hc2
 have Hhr3 := Lib.hid hr3
 have Hhc3 := Lib.hid hc3
 have Hhr4 := Lib.hid hr4
 have Hhc4 := Lib.hid hc4
 have Hhro := Lib.hid hro
 have Hhco := Lib.hid hco
 have Hhrs := Lib.hid hrs
 have Hhcs := Lib.hid hcs
 have Hhra := Lib.hid hra
 have Hhca := Lib.hid hca
 clear hr1 hc1 hr2 hc2 hr3 hc3 hr4 hc4 hro hco hrs hcs hra hca
 have HB := Lib.hid hB
 clear hB
 obtain ⟨eo_, ow_⟩ := HK.out.ow
 have OW := Lib.hid ow_
 clear ow_
 go_wp2_with (first | (go_at_call 11; (with_reducible refine (collatorlaw06_pick.calls a5 6 p _ HK.out.pc).mono ?_); rintro e V1 ⟨rfl, hd⟩; have hb := hd.below; clear hd; have n_ := Lib.hid (Kd.C_below Hhr1.out hb); clear Hhr1; have Hhr1 := n_; clear n_; have n_ := Lib.hid (Kd.C_below Hhr2.out hb); clear Hhr2; have Hhr2 := n_; clear n_; have n_ := Lib.hid (Kd.C_below Hhr3.out hb); clear Hhr3; have Hhr3 := n_; clear n_; have n_ := Lib.hid (Kd.C_below Hhr4.out hb); clear Hhr4; have Hhr4 := n_; clear n_; have n_ := Lib.hid (Kd.C_below Hhro.out hb); clear Hhro; have Hhro := n_; clear n_; have n_ := Lib.hid (Kd.C_below Hhrs.out hb); clear Hhrs; have Hhrs := n_; clear n_; have n_ := Lib.hid (Kd.C_below Hhra.out hb); clear Hhra; have Hhra := n_; clear n_; have n_ := Lib.hid (below_step HB.out hb); clear HB; have HB := n_; clear n_; clear hb) | (go_at_call 13; (with_reducible refine (collatorref06_Make.calls k _ _ s p own eo_ _ Hhrs.out Hhcs.out OW.out).mono ?_); rintro e V2 ⟨v2, rfl, ho, hb⟩; have n_ := Lib.hid (Kd.C_below Hhr1.out hb); clear Hhr1; have Hhr1 := n_; clear n_; have n_ := Lib.hid (Kd.C_below Hhr2.out hb); clear Hhr2; have Hhr2 := n_; clear n_; have n_ := Lib.hid (Kd.C_below Hhr3.out hb); clear Hhr3; have Hhr3 := n_; clear n_; have n_ := Lib.hid (Kd.C_below Hhr4.out hb); clear Hhr4; have Hhr4 := n_; clear n_; have n_ := Lib.hid (Kd.C_below Hhro.out hb); clear Hhro; have Hhro := n_; clear n_; have n_ := Lib.hid (Kd.C_below Hhrs.out hb); clear Hhrs; have Hhrs := n_; clear n_; have n_ := Lib.hid (Kd.C_below Hhra.out hb); clear Hhra; have Hhra := n_; clear n_; have n_ := Lib.hid (below_step HB.out hb); clear HB; have HB := n_; clear n_; clear hb; have hs_ := Kd.N_reads ho; clear ho; obtain ⟨Aw, kw, rfl, hl_, hc_⟩ := hs_; have HCw := Lib.hid hc_; have HLw := Lib.hid hl_; clear hl_ hc_) | (go_at_call 15; (with_reducible refine (collatorlaw06_Hunks.calls k _ _ l2 _ _ l3 hm _ Hhr2.out Hhc2.out Hhr3.out Hhc3.out HK.out.hh).mono ?_); rintro e V3 ⟨v3, rfl, ho, hb⟩; have n_ := Lib.hid (Kd.C_below Hhr1.out hb); clear Hhr1; have Hhr1 := n_; clear n_; have n_ := Lib.hid (Kd.C_below Hhr2.out hb); clear Hhr2; have Hhr2 := n_; clear n_; have n_ := Lib.hid (Kd.C_below Hhr3.out hb); clear Hhr3; have Hhr3 := n_; clear n_; have n_ := Lib.hid (Kd.C_below Hhr4.out hb); clear Hhr4; have Hhr4 := n_; clear n_; have n_ := Lib.hid (Kd.C_below Hhro.out hb); clear Hhro; have Hhro := n_; clear n_; have n_ := Lib.hid (Kd.C_below Hhrs.out hb); clear Hhrs; have Hhrs := n_; clear n_; have n_ := Lib.hid (Kd.C_below Hhra.out hb); clear Hhra; have Hhra := n_; clear n_; have n_ := Lib.hid (Kd.C_below HCw.out hb); clear HCw; have HCw := n_; clear n_; have n_ := Lib.hid (below_step HB.out hb); clear HB; have HB := n_; clear n_; clear hb; have hs_ := Kd.R_reads ho; clear ho; obtain ⟨Am, km, rfl, hl_, hc_⟩ := hs_; have HCm := Lib.hid hc_; have HLm := Lib.hid hl_; clear hl_ hc_))
 obtain ⟨V4, hZ_⟩ : ∃ Z_, Z_ = V3.alloc (.cells #[.slice Ao odd.length co, .slice Aw own.length kw, .slice Am hm.length km] 22) := ⟨_, rfl⟩
 have hb_ : Below V3.heap.size V3 V4 := by rw [hZ_]; exact (Below.refl _ _).alloc (Nat.le_refl _) _
 have hn_ : V4.heap[V3.heap.size]? = some (.cells #[.slice Ao odd.length co, .slice Aw own.length kw, .slice Am hm.length km] 22 (0, 0)) := by rw [hZ_]; exact heap_alloc_new V3 _
 rw [← hZ_]
 clear hZ_
 obtain ⟨g, hg_⟩ : ∃ g_, g_ = V3.heap.size := ⟨_, rfl⟩
 rw [← hg_] at hn_ ⊢
 clear hg_
 have HNg := Lib.hid hn_
 clear hn_
 have n_ := Lib.hid (Kd.C_below Hhr1.out hb_)
 clear Hhr1
 have Hhr1 := n_
 clear n_
 have n_ := Lib.hid (Kd.C_below Hhr2.out hb_)
 clear Hhr2
 have Hhr2 := n_
 clear n_
 have n_ := Lib.hid (Kd.C_below Hhr3.out hb_)
 clear Hhr3
 have Hhr3 := n_
 clear n_
 have n_ := Lib.hid (Kd.C_below Hhr4.out hb_)
 clear Hhr4
 have Hhr4 := n_
 clear n_
 have n_ := Lib.hid (Kd.C_below Hhro.out hb_)
 clear Hhro
 have Hhro := n_
 clear n_
 have n_ := Lib.hid (Kd.C_below Hhrs.out hb_)
 clear Hhrs
 have Hhrs := n_
 clear n_
 have n_ := Lib.hid (Kd.C_below Hhra.out hb_)
 clear Hhra
 have Hhra := n_
 clear n_
 have n_ := Lib.hid (Kd.C_below HCw.out hb_)
 clear HCw
 have HCw := n_
 clear n_
 have n_ := Lib.hid (Kd.C_below HCm.out hb_)
 clear HCm
 have HCm := n_
 clear n_
 have n_ := Lib.hid (below_step HB.out hb_)
 clear HB
 have HB := n_
 clear n_ hb_
 go_loopw [162] (fun v_ wr => ∃ i : Nat, v_ = .int .i64 (i : Int) ∧ i ≤ 3 ∧ Hid (Below V4.heap.size V4 wr)) (fun v_ _ => 3 - (intOf v_).toNat)
 case atStart => exact ⟨0, rfl, by omega, Below.refl _ _⟩
 case round =>
  rename_i K1 hEND1
  have HEND1 := Lib.hid hEND1
  clear hEND1
  obtain ⟨i, rfl, hi, HR⟩ := hrel
  by_cases ci : i < 3
  ·have b0 : decide ((i : Int) < 3) = true := decide_eq_true (by omega)
   obtain ⟨h, Ah, ch, hh, hcell, hC, hL⟩ : ∃ h Ah ch, (h = odd ∨ h = own ∨ h = hm) ∧ V4.cell? ⟨g, i, none⟩ = some (.slice Ah h.length ch) ∧ Kd.C k28 V4 Ah h.length h ∧ h.length ≤ ch := by
    rcases (show i = 0 ∨ i = 1 ∨ i = 2 by omega) with rfl | rfl | rfl
    ·exact ⟨odd, _, _, .inl rfl, (blk_cell HNg.out 0).trans rfl, Hhro.out, Hhco.out⟩
    ·exact ⟨own, _, _, .inr (.inl rfl), (blk_cell HNg.out 1).trans rfl, HCw.out, HLw.out⟩
    ·exact ⟨hm, _, _, .inr (.inr rfl), (blk_cell HNg.out 2).trans rfl, HCm.out, HLm.out⟩
   have hz := (HR.out.cell (World.block_lt_of_cell? _ _ hcell)).trans hcell
   have HO := Lib.hid (HK.out.each h hh)
   have HCh := Lib.hid hC
   have HLh := Lib.hid hL
   obtain ⟨br, r1, r2⟩ := HO.out.right
   have R1 := Lib.hid r1
   have R2 := Lib.hid r2
   clear hh hcell hC hL r1 r2
   have p0 := eq_true (show 0 ≤ (i : Int) by omega)
   have p1 := eq_true (show (i : Int) < 3 by omega)
   have hin : wrap64 ((i : Int) + 1) = ((i + 1 : Nat) : Int) := by unfold wrap64; omega
   go_wp2_with (first | (go_at_call 16; (with_reducible refine (hunks_Right.calls k _ _ h br _ (Kd.C_below HCh.out HR.out) HLh.out R1.out).mono ?_); rintro e_ V5 ⟨rfl, hb⟩; have n_ := Lib.hid (below_step HR.out hb); clear HR; have HR := n_; clear n_; clear hb) | (go_at_call 17; (with_reducible refine (collatorref06_Right.calls k _ _ h br _ (Kd.C_below HCh.out HR.out) HLh.out R2.out).mono ?_); rintro e_ V6 ⟨rfl, hb⟩; have n_ := Lib.hid (below_step HR.out hb); clear HR; have HR := n_; clear n_; clear hb) | (go_at_call 11; (with_reducible refine (collatorlaw06_pick.calls a6 60 q _ HK.out.pn).mono ?_); rintro e_ V7 ⟨rfl, hd⟩; have hb := hd.below; clear hd; have n_ := Lib.hid (below_step HR.out hb); clear HR; have HR := n_; clear n_; clear hb))
   obtain ⟨V8, hZ_⟩ : ∃ Z_, Z_ = V7.alloc (.cells #[.int .i64 a6, .int .i64 (a.length : Int), .int .i64 q] 3) := ⟨_, rfl⟩
   have hb_ : Below V7.heap.size V7 V8 := by rw [hZ_]; exact (Below.refl _ _).alloc (Nat.le_refl _) _
   have hn_ : V8.heap[V7.heap.size]? = some (.cells #[.int .i64 a6, .int .i64 (a.length : Int), .int .i64 q] 3 (0, 0)) := by rw [hZ_]; exact heap_alloc_new V7 _
   rw [← hZ_]
   clear hZ_
   obtain ⟨g1, hg_⟩ : ∃ g_, g_ = V7.heap.size := ⟨_, rfl⟩
   rw [← hg_] at hn_ ⊢
   clear hg_
   have HNg1 := Lib.hid hn_
   clear hn_
   have n_ := Lib.hid (below_step HR.out hb_)
   clear HR
   have HR := n_
   clear n_ hb_ hz p0 p1 b0
   go_loopw [178] (fun v_ wr => ∃ i : Nat, v_ = .int .i64 (i : Int) ∧ i ≤ 3 ∧ Hid (Below V8.heap.size V8 wr)) (fun v_ _ => 3 - (intOf v_).toNat)
   case atStart => exact ⟨0, rfl, by omega, Below.refl _ _⟩
   case round =>
    obtain ⟨j, rfl, hj, HQ⟩ := hrel
    by_cases cj : j < 3
    ·have d0 : decide ((j : Int) < 3) = true := decide_eq_true (by omega)
     obtain ⟨x, hx, hcell⟩ : ∃ x, (x = a6 ∨ x = (a.length : Int) ∨ x = q) ∧ V8.cell? ⟨g1, j, none⟩ = some (.int .i64 x) := by
      rcases (show j = 0 ∨ j = 1 ∨ j = 2 by omega) with rfl | rfl | rfl
      ·exact ⟨a6, .inl rfl, (blk_cell HNg1.out 0).trans rfl⟩
      ·exact ⟨_, .inr (.inl rfl), (blk_cell HNg1.out 1).trans rfl⟩
      ·exact ⟨q, .inr (.inr rfl), (blk_cell HNg1.out 2).trans rfl⟩
     have hz := (HQ.out.cell (World.block_lt_of_cell? _ _ hcell)).trans hcell
     obtain ⟨t, u, e, m1, m2, m3⟩ := HO.out.scr x hx
     have M1 := Lib.hid m1
     have M2 := Lib.hid m2
     have M3 := Lib.hid m3
     clear hx hcell m1 m2 m3
     have q0 := eq_true (show 0 ≤ (j : Int) by omega)
     have q1 := eq_true (show (j : Int) < 3 by omega)
     have hjn : wrap64 ((j : Int) + 1) = ((j + 1 : Nat) : Int) := by unfold wrap64; omega
     go_wp2_with (first | (go_at_call 18; (with_reducible refine (hunks_Script.calls k _ _ h x t e _ (Kd.C_below (Kd.C_below HCh.out HR.out) HQ.out) HLh.out M1.out).mono ?_); rintro e_ V9 ⟨v2, rfl, ho, hb⟩; have n_ := Lib.hid (below_step HQ.out hb); clear HQ; have HQ := n_; clear n_; clear hb; have hs_ := Kd.S_reads ho; clear ho; obtain ⟨At, kt, rfl, hl_, hc_⟩ := hs_; have HCt := Lib.hid hc_; have HLt := Lib.hid hl_; clear hl_ hc_) | (go_at_call 19; (with_reducible refine (collatorref06_Script.calls k (fun _ => True) _ _ h x u e _ (V_of_C (Kd.C_below (Kd.C_below HCh.out HR.out) HQ.out) HLh.out) M2.out).mono ?_); rintro e_ V10 ⟨v3, rfl, ho, hb⟩; have n_ := Lib.hid (below_step HQ.out hb); clear HQ; have HQ := n_; clear n_; have n_ := Lib.hid (Kd.C_below HCt.out hb); clear HCt; have HCt := n_; clear n_; clear hb; obtain ⟨Au, ku, rfl, hl_, hf_⟩ := ho; have HCu := Lib.hid (Kd.F_now hf_); have HLu := Lib.hid hl_; clear hl_ hf_) | (go_at_call 20; (with_reducible refine (collatorref04_Same.calls k _ _ t _ _ u true _ HCt.out HLt.out HCu.out HLu.out M3.out).mono ?_); rintro e_ V11 ⟨rfl, hd⟩; have hb := hd.below; clear hd; have n_ := Lib.hid (below_step HQ.out hb); clear HQ; have HQ := n_; clear n_; clear hb))
     exact ⟨⟨j + 1, by simp, by omega, HQ.out⟩, by simp [intOf]; omega⟩
    ·have d0 : decide ((j : Int) < 3) = false := decide_eq_false (by omega)
     have n_ := Lib.hid (below_step HR.out HQ.out)
     clear HR HQ HNg1
     have HR := n_
     clear n_
     go_wp2_with (first | (go_at_call 21; (with_reducible refine (collatorlaw03_Lines.calls k _ _ l4 30 ls _ (Kd.C_below Hhr4.out HR.out) Hhc4.out HK.out.li).mono ?_); rintro e_ V12 ⟨v4, rfl, ho, hb⟩; have n_ := Lib.hid (below_step HR.out hb); clear HR; have HR := n_; clear n_; clear hb; have hs_ := Kd.R_reads ho; clear ho; obtain ⟨Al, kl, rfl, hl_, hc_⟩ := hs_; have HCl := Lib.hid hc_; have HLl := Lib.hid hl_; clear hl_ hc_))
     obtain ⟨V13, hZ_⟩ : ∃ Z_, Z_ = V12.alloc (.cells #[.slice Aa a.length ca_, .slice Al ls.length kl] 29) := ⟨_, rfl⟩
     have hb_ : Below V12.heap.size V12 V13 := by rw [hZ_]; exact (Below.refl _ _).alloc (Nat.le_refl _) _
     have hn_ : V13.heap[V12.heap.size]? = some (.cells #[.slice Aa a.length ca_, .slice Al ls.length kl] 29 (0, 0)) := by rw [hZ_]; exact heap_alloc_new V12 _
     rw [← hZ_]
     clear hZ_
     obtain ⟨g2, hg_⟩ : ∃ g_, g_ = V12.heap.size := ⟨_, rfl⟩
     rw [← hg_] at hn_ ⊢
     clear hg_
     have HNg2 := Lib.hid hn_
     clear hn_
     have n_ := Lib.hid (below_step HR.out hb_)
     clear HR
     have HR := n_
     clear n_
     have n_ := Lib.hid (Kd.C_below HCl.out hb_)
     clear HCl
     have HCl := n_
     clear n_ hb_ d0
     go_loopw [209] (fun v_ wr => ∃ i : Nat, v_ = .int .i64 (i : Int) ∧ i ≤ 2 ∧ Hid (Below V13.heap.size V13 wr)) (fun v_ _ => 2 - (intOf v_).toNat)
     case atStart => exact ⟨0, rfl, by omega, Below.refl _ _⟩
     case round =>
      obtain ⟨m, rfl, hm_, HQ⟩ := hrel
      by_cases cm : m < 2
      ·have d0 : decide ((m : Int) < 2) = true := decide_eq_true (by omega)
       obtain ⟨x, Ax, kx, hx, hcell, hC, hL⟩ : ∃ x Ax kx, (x = a ∨ x = ls) ∧ V13.cell? ⟨g2, m, none⟩ = some (.slice Ax x.length kx) ∧ Kd.C Kd.string V13 Ax x.length x ∧ x.length ≤ kx := by
        rcases (show m = 0 ∨ m = 1 by omega) with rfl | rfl
        ·exact ⟨a, _, _, .inl rfl, (blk_cell HNg2.out 0).trans rfl, Kd.C_below Hhra.out HR.out, Hhca.out⟩
        ·exact ⟨ls, _, _, .inr rfl, (blk_cell HNg2.out 1).trans rfl, HCl.out, HLl.out⟩
       have hz := (HQ.out.cell (World.block_lt_of_cell? _ _ hcell)).trans hcell
       obtain ⟨t, u, e, m1, m2, m3⟩ := HO.out.app x hx
       have M1 := Lib.hid m1
       have M2 := Lib.hid m2
       have M3 := Lib.hid m3
       have HCx := Lib.hid hC
       have HLx := Lib.hid hL
       clear hx hcell hC hL m1 m2 m3
       have q0 := eq_true (show 0 ≤ (m : Int) by omega)
       have q1 := eq_true (show (m : Int) < 2 by omega)
       have hmn : wrap64 ((m : Int) + 1) = ((m + 1 : Nat) : Int) := by unfold wrap64; omega
       go_wp2_with (first | (go_at_call 22; (with_reducible refine (hunks_Apply.calls k _ _ h _ _ x t e _ (Kd.C_below (Kd.C_below HCh.out HR.out) HQ.out) HLh.out (Kd.C_below HCx.out HQ.out) HLx.out M1.out).mono ?_); rintro e_ V9 ⟨v2, rfl, ho, hb⟩; have n_ := Lib.hid (below_step HQ.out hb); clear HQ; have HQ := n_; clear n_; clear hb; have hs_ := Kd.R_reads ho; clear ho; obtain ⟨At, kt, rfl, hl_, hc_⟩ := hs_; have HCt := Lib.hid hc_; have HLt := Lib.hid hl_; clear hl_ hc_) | (go_at_call 23; (with_reducible refine (collatorref06_Apply.calls k _ _ h _ _ x u e _ (Kd.C_below (Kd.C_below HCh.out HR.out) HQ.out) HLh.out (Kd.C_below HCx.out HQ.out) HLx.out M2.out).mono ?_); rintro e_ V10 ⟨v3, rfl, ho, hb⟩; have n_ := Lib.hid (below_step HQ.out hb); clear HQ; have HQ := n_; clear n_; have n_ := Lib.hid (Kd.C_below HCt.out hb); clear HCt; have HCt := n_; clear n_; clear hb; have hs_ := Kd.R_reads ho; clear ho; obtain ⟨Au, ku, rfl, hl_, hc_⟩ := hs_; have HCu := Lib.hid hc_; have HLu := Lib.hid hl_; clear hl_ hc_) | (go_at_call 24; (with_reducible refine (collatorref01_Texts.calls k _ _ t _ _ u true _ HCt.out HLt.out HCu.out HLu.out M3.out).mono ?_); rintro e_ V11 ⟨rfl, hd⟩; have hb := hd.below; clear hd; have n_ := Lib.hid (below_step HQ.out hb); clear HQ; have HQ := n_; clear n_; clear hb))
       exact ⟨⟨m + 1, by simp, by omega, HQ.out⟩, by simp [intOf]; omega⟩
      ·have d0 : decide ((m : Int) < 2) = false := decide_eq_false (by omega)
       have HRF := Lib.hid (below_step HR.out HQ.out)
       go_wp2
       exact ⟨⟨i + 1, by simp, by omega, HRF.out⟩, by simp [intOf]; omega⟩
  ·have b0 : decide ((i : Int) < 3) = false := decide_eq_false (by omega)
   have HBF := Lib.hid (below_step HB.out HR.out)
   go_wp2
   refine HEND1.out _ _ ?_
   go_wp2
   go_ret
   exact ⟨rfl, HBF.out⟩
end Go.Proofs.Ytgobidmfbjmpkaa.P
end
section
/- HunksTells: the law's walk by hand: regions 15 to 23 (written by tells_gen.py). -/
set_option linter.unusedVariables false
set_option linter.unusedSimpArgs false
namespace Go.Proofs.Ytgobidmfbjmpkaa.P
open Go Go.RowKit Go.Proofs.YtgobidmfbjmpkaaW.PrintWords Go.Proofs.YtgobidmfbjmpkaaW.PrintLast Go.Proofs.YtgobidmfbjmpkaaW.PrintMore
set_option maxHeartbeats 16000000 in
set_option maxRecDepth 100000 in
theorem tells_B (k : Nat) (l0 odd : List S28) (l1 : List Int) (l2 : List (List Int)) (l3 l4 : List Int) (a5 a6 : Int) (s : List S31) (a ls : List ByteArray) (p q : Int) (own hm : List S28) (HK : Aside0 (TellsOk k odd l1 l2 l3 l4 a5 a6 s a ls p q own hm)) (A0 A1 A2 A3 A4 : Option Addr) (c0 c1 c2 c3 c4 : Nat) (w V : World) (hB : Below w.heap.size w V) (Ao : Option Addr) (co : Nat) (x7 x8 x9 x10 x11 x12 x13 x17 x18 x19 x20 x21 x22 x23 x24 x25 x26 x27 x28 x29 x30 x31 x32 x33 x34 x35 x36 x37 x38 x39 x40 x41 x42 x43 x44 x45 x46 x47 x48 x49 x50 x51 x52 x53 x54 x55 x56 x57 x58 x59 x60 x61 x62 x63 x64 x65 x66 x67 x68 x69 x70 x71 x72 x73 x74 x75 x76 x77 x78 x79 x80 x81 x82 x83 x84 x85 x86 x87 x88 x89 x90 x91 x92 x93 x94 x95 x96 x97 x98 x99 x100 x101 x102 x103 x104 x105 x106 x107 x108 x109 x110 x111 x112 x113 x114 x115 x116 x117 x118 x119 x120 x121 x122 x123 x124 x125 x126 x127 x128 x129 x130 x131 x132 x133 x134 x135 x136 x137 x138 x139 x140 x141 x142 x143 x144 x145 x146 x147 x148 x149 x150 x151 x152 x153 x154 x155 x156 x157 x158 x159 x160 x161 x162 x163 x164 x165 x166 x167 x168 x169 x170 x171 x172 x173 x174 x175 x176 x177 x178 x179 x180 x181 x182 x183 x184 x185 x186 x187 x188 x189 x190 x191 x192 x193 x194 x195 x196 x197 x198 x199 x200 x201 x202 x203 x204 x205 x206 x207 x208 x209 x210 x211 x212 x213 x214 x215 x216 x217 x218 x219 x220 x221 x222 x223 x224 x225 x226 x227 x228 x229 x230 x231 x232 x233 x234 x235 x236 : Value)
  (hr1 : Kd.C (Kd.int .i64) V A1 l1.length l1) (hc1 : l1.length ≤ c1) (hr2 : Kd.C (Kd.slice 3 (Kd.int .i64)) V A2 l2.length l2) (hc2 : l2.length ≤ c2) (hr3 : Kd.C (Kd.int .i64) V A3 l3.length l3) (hc3 : l3.length ≤ c3) (hr4 : Kd.C (Kd.int .i64) V A4 l4.length l4) (hc4 : l4.length ≤ c4) (hro : Kd.C k28 V Ao odd.length odd) (hco : odd.length ≤ co) :
  Code.wp Try.prog (sndN 4 (Try.f3.body.getD .skip)) (bodyPost Try.prog Try.f3 fun e w' => e = .returned (.bool true) ∧ Below w.heap.size w w') ⟨#[.slice A0 l0.length c0, .slice A1 l1.length c1, .slice A2 l2.length c2, .slice A3 l3.length c3, .slice A4 l4.length c4, .int .i64 a5, .int .i64 a6, x7, x8, x9, x10, x11, x12, x13, .bool false, .bool true, .slice Ao odd.length co, x17, x18, x19, x20, x21, x22, x23, x24, x25, x26, x27, x28, x29, x30, x31, x32, x33, x34, x35, x36, x37, x38, x39, x40, x41, x42, x43, x44, x45, x46, x47, x48, x49, x50, x51, x52, x53, x54, x55, x56, x57, x58, x59, x60, x61, x62, x63, x64, x65, x66, x67, x68, x69, x70, x71, x72, x73, x74, x75, x76, x77, x78, x79, x80, x81, x82, x83, x84, x85, x86, x87, x88, x89, x90, x91, x92, x93, x94, x95, x96, x97, x98, x99, x100, x101, x102, x103, x104, x105, x106, x107, x108, x109, x110, x111, x112, x113, x114, x115, x116, x117, x118, x119, x120, x121, x122, x123, x124, x125, x126, x127, x128, x129, x130, x131, x132, x133, x134, x135, x136, x137, x138, x139, x140, x141, x142, x143, x144, x145, x146, x147, x148, x149, x150, x151, x152, x153, x154, x155, x156, x157, x158, x159, x160, x161, x162, x163, x164, x165, x166, x167, x168, x169, x170, x171, x172, x173, x174, x175, x176, x177, x178, x179, x180, x181, x182, x183, x184, x185, x186, x187, x188, x189, x190, x191, x192, x193, x194, x195, x196, x197, x198, x199, x200, x201, x202, x203, x204, x205, x206, x207, x208, x209, x210, x211, x212, x213, x214, x215, x216, x217, x218, x219, x220, x221, x222, x223, x224, x225, x226, x227, x228, x229, x230, x231, x232, x233, x234, x235, x236], []⟩ V := by
 conv in sndN 4 _ => whnf
 have Hhr1 := Lib.hid hr1
 have Hhc1 := Lib.hid hc1
 have Hhr2 := Lib.hid hr2
 have Hhc2 := Lib.hid hc2
 have Hhr3 := Lib.hid hr3
 have Hhc3 := Lib.hid hc3
 have Hhr4 := Lib.hid hr4
 have Hhc4 := Lib.hid hc4
 have Hhro := Lib.hid hro
 have Hhco := Lib.hid hco
 clear hr1 hc1 hr2 hc2 hr3 hc3 hr4 hc4 hro hco
 have HB := Lib.hid hB
 clear hB
 go_wp2_with (first | (go_at_call 10; (with_reducible refine (collatorlaw04_Script.calls k _ _ l1 _ _ l4 s a _ Hhr1.out Hhc1.out Hhr4.out Hhc4.out HK.out.sc).mono ?_); rintro e V1 ⟨v0, v1, rfl, ho0, ho1, hb⟩; have n_ := Lib.hid (Kd.C_below Hhr1.out hb); clear Hhr1; have Hhr1 := n_; clear n_; have n_ := Lib.hid (Kd.C_below Hhr2.out hb); clear Hhr2; have Hhr2 := n_; clear n_; have n_ := Lib.hid (Kd.C_below Hhr3.out hb); clear Hhr3; have Hhr3 := n_; clear n_; have n_ := Lib.hid (Kd.C_below Hhr4.out hb); clear Hhr4; have Hhr4 := n_; clear n_; have n_ := Lib.hid (Kd.C_below Hhro.out hb); clear Hhro; have Hhro := n_; clear n_; have n_ := Lib.hid (below_step HB.out hb); clear HB; have HB := n_; clear n_; clear hb; have hs0 := Kd.S_reads ho0; have hs1 := Kd.R_reads ho1; clear ho0 ho1; obtain ⟨As, cs_, rfl, hl0, hc0_⟩ := hs0; obtain ⟨Aa, ca_, rfl, hl1, hc1_⟩ := hs1; have Hs := Lib.hid hc0_; have Hsl := Lib.hid hl0; have Ha := Lib.hid hc1_; have Hal := Lib.hid hl1; clear hl0 hc0_ hl1 hc1_) | (go_at_call 11; (with_reducible refine (collatorlaw06_pick.calls a5 6 p _ HK.out.pc).mono ?_); rintro e V2 ⟨rfl, hd⟩; have hb := hd.below; clear hd; have n_ := Lib.hid (Kd.C_below Hhr1.out hb); clear Hhr1; have Hhr1 := n_; clear n_; have n_ := Lib.hid (Kd.C_below Hhr2.out hb); clear Hhr2; have Hhr2 := n_; clear n_; have n_ := Lib.hid (Kd.C_below Hhr3.out hb); clear Hhr3; have Hhr3 := n_; clear n_; have n_ := Lib.hid (Kd.C_below Hhr4.out hb); clear Hhr4; have Hhr4 := n_; clear n_; have n_ := Lib.hid (Kd.C_below Hhro.out hb); clear Hhro; have Hhro := n_; clear n_; have n_ := Lib.hid (Kd.C_below Hs.out hb); clear Hs; have Hs := n_; clear n_; have n_ := Lib.hid (Kd.C_below Ha.out hb); clear Ha; have Ha := n_; clear n_; have n_ := Lib.hid (below_step HB.out hb); clear HB; have HB := n_; clear n_; clear hb))
 obtain ⟨V3, hZ_⟩ : ∃ Z_, Z_ = V2.alloc (.cells #[.int .i64 a5, .int .i64 p] 3) := ⟨_, rfl⟩
 have hb_ : Below V2.heap.size V2 V3 := by rw [hZ_]; exact (Below.refl _ _).alloc (Nat.le_refl _) _
 have hn_ : V3.heap[V2.heap.size]? = some (.cells #[.int .i64 a5, .int .i64 p] 3 (0, 0)) := by rw [hZ_]; exact heap_alloc_new V2 _
 rw [← hZ_]
 clear hZ_
 obtain ⟨g, hg_⟩ : ∃ g_, g_ = V2.heap.size := ⟨_, rfl⟩
 rw [← hg_] at hn_ ⊢
 clear hg_
 have HNg := Lib.hid hn_
 clear hn_
 have n_ := Lib.hid (Kd.C_below Hhr1.out hb_)
 clear Hhr1
 have Hhr1 := n_
 clear n_
 have n_ := Lib.hid (Kd.C_below Hhr2.out hb_)
 clear Hhr2
 have Hhr2 := n_
 clear n_
 have n_ := Lib.hid (Kd.C_below Hhr3.out hb_)
 clear Hhr3
 have Hhr3 := n_
 clear n_
 have n_ := Lib.hid (Kd.C_below Hhr4.out hb_)
 clear Hhr4
 have Hhr4 := n_
 clear n_
 have n_ := Lib.hid (Kd.C_below Hhro.out hb_)
 clear Hhro
 have Hhro := n_
 clear n_
 have n_ := Lib.hid (Kd.C_below Hs.out hb_)
 clear Hs
 have Hs := n_
 clear n_
 have n_ := Lib.hid (Kd.C_below Ha.out hb_)
 clear Ha
 have Ha := n_
 clear n_
 have n_ := Lib.hid (below_step HB.out hb_)
 clear HB
 have HB := n_
 clear n_ hb_
 go_loopw [122] (fun v_ wr => ∃ i : Nat, v_ = .int .i64 (i : Int) ∧ i ≤ 2 ∧ Hid (Below V3.heap.size V3 wr)) (fun v_ _ => 2 - (intOf v_).toNat)
 case atStart => exact ⟨0, rfl, by omega, Below.refl _ _⟩
 case round =>
  rename_i K1 hEND1
  have HEND1 := Lib.hid hEND1
  clear hEND1
  obtain ⟨i, rfl, hi, HR⟩ := hrel
  by_cases ci : i < 2
  ·have b0 : decide ((i : Int) < 2) = true := decide_eq_true (by omega)
   obtain ⟨c, hcc, hcell⟩ : ∃ c, (c = a5 ∨ c = p) ∧ V3.cell? ⟨g, i, none⟩ = some (.int .i64 c) := by
    rcases (show i = 0 ∨ i = 1 by omega) with rfl | rfl
    ·exact ⟨a5, .inl rfl, (blk_cell HNg.out 0).trans rfl⟩
    ·exact ⟨p, .inr rfl, (blk_cell HNg.out 1).trans rfl⟩
   have hz := (HR.out.cell (World.block_lt_of_cell? _ _ hcell)).trans hcell
   obtain ⟨h, u, e, m1, m2, m3⟩ := HK.out.mkd c hcc
   have M1 := Lib.hid m1
   have M2 := Lib.hid m2
   have M3 := Lib.hid m3
   clear hcc hcell m1 m2 m3
   have p0 := eq_true (show 0 ≤ (i : Int) by omega)
   have p1 := eq_true (show (i : Int) < 2 by omega)
   have hin : wrap64 ((i : Int) + 1) = ((i + 1 : Nat) : Int) := by unfold wrap64; omega
   go_wp2_with (first | (go_at_call 12; (with_reducible refine (hunks_Make.calls k _ _ s c h e _ (Kd.C_below Hs.out HR.out) Hsl.out M1.out).mono ?_); rintro e_ V4 ⟨v2, rfl, ho, hb⟩; have n_ := Lib.hid (below_step HR.out hb); clear HR; have HR := n_; clear n_; clear hb; have hs_ := Kd.R_reads ho; clear ho; obtain ⟨Ah, kh, rfl, hl_, hc_⟩ := hs_; have HCh := Lib.hid hc_; have HLh := Lib.hid hl_; clear hl_ hc_) | (go_at_call 13; (with_reducible refine (collatorref06_Make.calls k _ _ s c u e _ (Kd.C_below Hs.out HR.out) Hsl.out M2.out).mono ?_); rintro e_ V5 ⟨v3, rfl, ho, hb⟩; have n_ := Lib.hid (below_step HR.out hb); clear HR; have HR := n_; clear n_; have n_ := Lib.hid (Kd.C_below HCh.out hb); clear HCh; have HCh := n_; clear n_; clear hb; have hs_ := Kd.N_reads ho; clear ho; obtain ⟨Au, ku, rfl, hl_, hc_⟩ := hs_; have HCu := Lib.hid hc_; have HLu := Lib.hid hl_; clear hl_ hc_) | (go_at_call 14; (with_reducible refine (collatorref06_Same.calls k _ _ h _ _ u true _ HCh.out HLh.out HCu.out HLu.out M3.out).mono ?_); rintro e_ V6 ⟨rfl, hd⟩; have hb := hd.below; clear hd; have n_ := Lib.hid (below_step HR.out hb); clear HR; have HR := n_; clear n_; clear hb))
   exact ⟨⟨i + 1, by simp, by omega, HR.out⟩, by simp [intOf]; omega⟩
  ·have b0 : decide ((i : Int) < 2) = false := decide_eq_false (by omega)
   go_wp2
   refine HEND1.out _ _ ?_
   have hB_ := below_step HB.out HR.out
   exact tells_C k l0 odd l1 l2 l3 l4 a5 a6 s a ls p q own hm HK A0 A1 A2 A3 A4 c0 c1 c2 c3 c4 w wr hB_ Ao As Aa co cs_ ca_ _ _ _ _ _ _ _ _ _ _ _ _ _ _ _ _ _ _ _ _ _ _ _ _ _ _ _ _ _ _ _ _ _ _ _ _ _ _ _ _ _ _ _ _ _ _ _ _ _ _ _ _ _ _ _ _ _ _ _ _ _ _ _ _ _ _ _ _ _ _ _ _ _ _ _ _ _ _ _ _ _ _ _ _ _ _ _ _ _ _ _ _ _ _ _ _ _ _ _ _ _ _ _ _ _ _ _ _ _ _ _ _ _ _ _ _ _ _ _ _ _ _ _ _ _ _ _ _ _ _ _ _ _ _ _ _ _ _ _ _ _ _ _ _ _ _ _ _ _ _ _ _ _ _ _ _ _ _ _ _ _ _ _ _ _ _ _ _ _ _ _ _ _ _ _ _ _ _ _ _ _ _ _ _ _ _ _ _ _ _ _ _ _ _ _ _ _ _ _ _ _ _ _ _ _ _ _ _ _ _ _ _ _ _ _ _ _ _ _ _ _ _ _ _ _ _ (Kd.C_below Hhr1.out HR.out) Hhc1.out (Kd.C_below Hhr2.out HR.out) Hhc2.out (Kd.C_below Hhr3.out HR.out) Hhc3.out (Kd.C_below Hhr4.out HR.out) Hhc4.out (Kd.C_below Hhro.out HR.out) Hhco.out (Kd.C_below Hs.out HR.out) Hsl.out (Kd.C_below Ha.out HR.out) Hal.out
end Go.Proofs.Ytgobidmfbjmpkaa.P
end
section
/- HunksTells: the law's walk by hand: its first part, up to the hunks that it cuts small, and the whole. -/
set_option linter.unusedVariables false
set_option linter.unusedSimpArgs false
namespace Go.Proofs.Ytgobidmfbjmpkaa.P
open Go Go.RowKit Go.Proofs.YtgobidmfbjmpkaaW.PrintWords Go.Proofs.YtgobidmfbjmpkaaW.PrintLast Go.Proofs.YtgobidmfbjmpkaaW.PrintMore
section
attribute [local go_sem] Oper.semAt_some min_two HMin.min2_mn
set_option maxRecDepth 100000 in
set_option maxHeartbeats 8000000 in
theorem tells_run (k : Nat) (l0 : List S28) (l1 : List Int) (l2 : List (List Int)) (l3 l4 : List Int) (a5 a6 : Int) (s : List S31) (a ls : List ByteArray) (p q : Int) (own hm : List S28) (HK : Aside0 (TellsOk k (oddL l0) l1 l2 l3 l4 a5 a6 s a ls p q own hm)) (A0 A1 A2 A3 A4 : Option Addr) (c0 c1 c2 c3 c4 : Nat) (w : World) (hr0 : Kd.C k28 w A0 l0.length l0) (hc0 : l0.length ≤ c0)
  (hr1 : Kd.C (Kd.int .i64) w A1 l1.length l1) (hc1 : l1.length ≤ c1) (hr2 : Kd.C (Kd.slice 3 (Kd.int .i64)) w A2 l2.length l2) (hc2 : l2.length ≤ c2) (hr3 : Kd.C (Kd.int .i64) w A3 l3.length l3) (hc3 : l3.length ≤ c3) (hr4 : Kd.C (Kd.int .i64) w A4 l4.length l4) (hc4 : l4.length ≤ c4) :
  Calls Try.prog 3 #[.slice A0 l0.length c0, .slice A1 l1.length c1, .slice A2 l2.length c2, .slice A3 l3.length c3, .slice A4 l4.length c4, .int .i64 a5, .int .i64 a6] w fun e w' => e = .returned (.bool true) ∧ Below w.heap.size w w' := by
 have HR0 := Lib.hid hr0
 have HC0 := Lib.hid hc0
 have Hr1 := Lib.hid hr1
 have Hc1 := Lib.hid hc1
 have Hr2 := Lib.hid hr2
 have Hc2 := Lib.hid hc2
 have Hr3 := Lib.hid hr3
 have Hc3 := Lib.hid hc3
 have Hr4 := Lib.hid hr4
 have Hc4 := Lib.hid hc4
 clear hr0 hc0 hr1 hc1 hr2 hc2 hr3 hc3 hr4 hc4
 go_enter Try.func3, Try.ntmps3
 go_wp2_with (first | (go_at_call 9; (with_reducible refine (collatorlaw06_awake.calls true _ rfl).mono ?_); rintro e w1 ⟨rfl, hb⟩; have HB1 := Lib.hid hb; clear hb))
 go_loopw [16, 17] (fun v16 v17 wr => ∃ (i : Nat), v17 = .int .i64 (i : Int) ∧ i ≤ 4 ∧ i ≤ l0.length ∧ Hid (Kd.N k28 28 wr w.heap.size (fun _ => True) v16 ((l0.take i).map cutH)) ∧ Hid (Below w.heap.size w wr)) (fun _ v17 _ => 4 - (intOf v17).toNat)
 case atStart => exact ⟨0, rfl, by omega, Nat.zero_le _, Kd.N_nil _ _ _ _ _, HB1⟩
 case round =>
  clear HB1
  obtain ⟨i, rfl, hi4, hil, HN, HB⟩ := hrel
  rename_i K1 hEND1
  have HEND1 := Lib.hid hEND1
  clear hEND1
  obtain ⟨wo, hwo⟩ : ∃ wo, wo = wr := ⟨_, rfl⟩
  subst hwo
  by_cases ci : i < l0.length ∧ i < 4
  ·obtain ⟨ci1, ci2⟩ := ci
   have b0 : decide ((i : Int) < (l0.length : Int)) = true := decide_eq_true (by omega)
   have b1 : decide ((i : Int) < 4) = true := decide_eq_true (by omega)
   obtain ⟨ad, Ae, ce, e1, hx0, hx1, hx2, hle, hie⟩ := at_T28 HR0.out (i : Int) (by omega) (by omega)
   subst e1
   obtain ⟨h, hh⟩ : ∃ h, h = rd_T28 l0 (i : Int) := ⟨_, rfl⟩
   rw [← hh] at hx0 hx1 hx2 hle hie
   rw [Int.toNat_natCast] at hx0 hx1 hx2
   have HH := Lib.hid hh
   have HLE := Lib.hid hle
   have HIE := Lib.hid hie
   have p0 := eq_true (show 0 ≤ (i : Int) by omega)
   have p1 := eq_true (show (i : Int) < (l0.length : Int) by omega)
   have hX0 := Lib.hid ((HB.out.cell (World.block_lt_of_cell? _ _ hx0)).trans hx0)
   have hX1 := Lib.hid ((HB.out.cell (World.block_lt_of_cell? _ _ hx1)).trans hx1)
   have hX2 := Lib.hid hx2
   clear hh hle hie hx0 hx1 hx2
   go_wp2
   rename_i K6 hEND6
   have HEND6 := Lib.hid hEND6
   clear hEND6
   obtain ⟨Z6, hZ6⟩ : ∃ Z, Z = wo.drew := ⟨_, rfl⟩
   have HW6 := Lib.hid (show Below wo.heap.size wo Z6 by rw [hZ6]; exact (Below.refl _ _).drew)
   have hz0 := (HW6.out.cell (World.block_lt_of_cell? _ _ hX0.out)).trans hX0.out
   have hz1 := (HW6.out.cell (World.block_lt_of_cell? _ _ hX1.out)).trans hX1.out
   refine (wpIn_wide (n := 9)).1 ?_
   refine Held.region 12 (S2 (ad.add (i * 3)) (.int .i64 h.f0) ⟨(ad.add (i * 3)).block, (ad.add (i * 3)).off + 1, none⟩ (.int .i64 h.f1)) (by kernel_rfl) ?_
   rw [← hZ6]
   clear hZ6
   have hT : S2 (ad.add (i * 3)) (.int .i64 h.f0) ⟨(ad.add (i * 3)).block, (ad.add (i * 3)).off + 1, none⟩ (.int .i64 h.f1) Z6 := ⟨hz0, hz1⟩
   refine tkc (i := 0) rfl hT ?_
   try simp only [Act.put, List.setIfInBounds_toArray, List.set_cons_zero, List.set_cons_succ]
   refine tkc (i := 1) rfl hT ?_
   try simp only [Act.put, List.setIfInBounds_toArray, List.set_cons_zero, List.set_cons_succ]
   refine tkc (i := 2) rfl hT ?_
   try simp only [Act.put, List.setIfInBounds_toArray, List.set_cons_zero, List.set_cons_succ]
   refine tkc (i := 3) rfl hT ?_
   try simp only [Act.put, List.setIfInBounds_toArray, List.set_cons_zero, List.set_cons_succ]
   refine tkc (i := 4) rfl hT ?_
   try simp only [Act.put, List.setIfInBounds_toArray, List.set_cons_zero, List.set_cons_succ]
   refine tkc (i := 5) rfl hT ?_
   try simp only [Act.put, List.setIfInBounds_toArray, List.set_cons_zero, List.set_cons_succ]
   refine tkc (i := 6) rfl hT ?_
   try simp only [Act.put, List.setIfInBounds_toArray, List.set_cons_zero, List.set_cons_succ]
   refine tkc (i := 7) rfl hT ?_
   try simp only [Act.put, List.setIfInBounds_toArray, List.set_cons_zero, List.set_cons_succ]
   refine tkc (i := 8) rfl hT ?_
   try simp only [Act.put, List.setIfInBounds_toArray, List.set_cons_zero, List.set_cons_succ]
   refine tkc (i := 9) rfl hT ?_
   try simp only [Act.put, List.setIfInBounds_toArray, List.set_cons_zero, List.set_cons_succ]
   refine tkc (i := 10) rfl hT ?_
   try simp only [Act.put, List.setIfInBounds_toArray, List.set_cons_zero, List.set_cons_succ]
   refine Held.AnyS.step (i := 11) rfl (by kernel_rfl) rfl (fun K hK => ?_)
   go_simp
   first | refine ⟨trivial, ?_⟩ | skip
   obtain ⟨y1, hy⟩ : ∃ V, V = Z6.alloc (.cells #[.int .i64 0, .int .i64 0, .slice none 0 0] 28) := ⟨_, rfl⟩
   have hD : Below Z6.heap.size Z6 y1 := by rw [hy]; exact (Below.refl _ _).alloc (Nat.le_refl _) _
   have hN : y1.heap[Z6.heap.size]? = some (.cells #[.int .i64 0, .int .i64 0, .slice none 0 0] 28 (0, 0)) := by rw [hy]; exact heap_alloc_new Z6 _
   rw [← hy]
   refine hK.out _ _ (fun _ => ⟨(hD.cell (World.block_lt_of_cell? _ _ hz0)).trans hz0, (hD.cell (World.block_lt_of_cell? _ _ hz1)).trans hz1⟩) ?_
   clear hK K hy hT hz0 hz1
   try simp only [Act.put, List.setIfInBounds_toArray, List.set_cons_zero, List.set_cons_succ]
   obtain ⟨xb, hxb⟩ : ∃ b, b = Z6.heap.size := ⟨_, rfl⟩
   rw [← hxb] at hN ⊢
   have hzx : Z6.heap.size ≤ xb := by omega
   have HGE := Lib.hid (show wo.heap.size ≤ xb by rw [hxb]; exact HW6.out.size)
   clear hxb
   have g0 : y1.cell? ⟨xb, 0, none⟩ = some (.int .i64 0) := (blk_cell hN 0).trans rfl
   have g1 : y1.cell? ⟨xb, 1, none⟩ = some (.int .i64 0) := (blk_cell hN 1).trans rfl
   have g2 : y1.cell? ⟨xb, 2, none⟩ = some (.slice none 0 0) := (blk_cell hN 2).trans rfl
   have e0 := blk_frozen hN 0
   have e1 := blk_frozen hN 1
   have e2 := blk_frozen hN 2
   refine Held.AnyS.step (i := 12) rfl (by kernel_rfl) rfl (fun K hK => ?_)
   go_simp
   first | refine ⟨trivial, ?_⟩ | skip
   obtain ⟨y2, hy2, hK2, hO2, hB2⟩ := set3 hN (.int .i64 h.f0) (.int .i64 h.f1) (.slice none 0 0)
   rw [hy2]
   refine hK.out _ _ (fun h => absurd h (by omega)) ?_
   have HD := Lib.hid (show Below wo.heap.size wo y2 from HW6.out.trans ((hB2 Z6 hD hzx).mono HW6.out.size))
   have HXB := Lib.hid hK2
   clear hK K g0 g1 g2 e0 e1 e2 hy2 hK2 hO2 hB2 hD hN hzx HW6
   refine Held.AnyS.done (by kernel_rfl) ?_ _
   go_simp
   refine HEND6.out _ _ ?_
   clear HEND6
   have HN2 := Lib.hid (Kd.N_mono (Kd.N_below (Kd.N_bound HN.out) HD.out) (fun k hk => Nat.lt_of_lt_of_le hk.2 HGE.out))
   have HB2 := Lib.hid (HB.out.trans (HD.out.mono HB.out.size))
   go_wp2
   go_loopw [19] (fun v19 wi => ∃ (j : Nat) (ve : Value), v19 = .int .i64 (j : Int) ∧ j ≤ 6 ∧ j ≤ h.f2.length ∧ Hid (wi.heap[xb]? = some (.cells #[.int .i64 h.f0, .int .i64 h.f1, ve] 28 (0, 0))) ∧ Hid (Kd.N k31 31 wi wo.heap.size (fun k => k < w.heap.size ∨ xb < k) ve ((h.f2.take j).map cutE)) ∧ Hid (Kd.N k28 28 wi w.heap.size (fun k => k < xb) u16 ((l0.take i).map cutH)) ∧ Hid (Below wo.heap.size wo wi)) (fun v19 _ => 6 - (intOf v19).toNat)
   case atStart => exact ⟨0, .slice none 0 0, rfl, by omega, Nat.zero_le _, HXB, Kd.N_nil _ _ _ _ _, HN2, HD⟩
   case round =>
    clear HXB HN2 HB2 HD
    obtain ⟨j, ve, rfl, hj6, hjl, HXB, HNE, HN2, HD⟩ := hrel
    by_cases cj : j < h.f2.length ∧ j < 6
    ·obtain ⟨cj1, cj2⟩ := cj
     have d0 : decide ((j : Int) < (h.f2.length : Int)) = true := decide_eq_true (by omega)
     have d1 : decide ((j : Int) < 6) = true := decide_eq_true (by omega)
     obtain ⟨ae, Al, cl, e2, hy0, hy1, hy2, hll, hil⟩ := at_T31 HIE.out (j : Int) (by omega) (by omega)
     subst e2
     obtain ⟨e, he⟩ : ∃ e, e = rd_T31 h.f2 (j : Int) := ⟨_, rfl⟩
     rw [← he] at hy0 hy1 hy2 hll hil
     rw [Int.toNat_natCast] at hy0 hy1 hy2
     have hBw := HB.out.trans (HD.out.mono HB.out.size)
     have hx2 := (hBw.cell (World.block_lt_of_cell? _ _ hX2.out)).trans hX2.out
     replace hy0 := (hBw.cell (World.block_lt_of_cell? _ _ hy0)).trans hy0
     replace hy1 := (hBw.cell (World.block_lt_of_cell? _ _ hy1)).trans hy1
     replace hy2 := (hBw.cell (World.block_lt_of_cell? _ _ hy2)).trans hy2
     obtain ⟨m, hm⟩ : ∃ m : Nat, mn (e.f2.length : Int) 10 = (m : Int) := ⟨(mn (e.f2.length : Int) 10).toNat, by unfold mn; split <;> omega⟩
     have hml : m ≤ e.f2.length := by unfold mn at hm; split at hm <;> omega
     have HMD := Lib.hid hm
     have HML := Lib.hid hml
     have HEE := Lib.hid he
     have HLL := Lib.hid hll
     have HIL := Lib.hid hil
     have HBW := Lib.hid hBw
     have q0 := eq_true (show 0 ≤ (j : Int) by omega)
     have q1 := eq_true (show (j : Int) < (h.f2.length : Int) by omega)
     have hcl : m ≤ cl := Nat.le_trans hml hll
     clear he hll hil hBw hml
     go_wp2_with (first | ((with_reducible refine gate_dst (N := 89) rfl ?_); refine stop_ ?_))
     show wpList _ _ _ _ _ _
     clear hx2 hy0 hy1 hy2 q0 q1 d0 d1 b0 b1 p0 p1
     obtain ⟨y1, hy⟩ : ∃ V, V = wr.alloc (.cells #[.int .i64 e.f0, .int .i64 e.f1, .slice Al e.f2.length cl] 31) := ⟨_, rfl⟩
     have hD : Below wr.heap.size wr y1 := by rw [hy]; exact (Below.refl _ _).alloc (Nat.le_refl _) _
     have hN : y1.heap[wr.heap.size]? = some (.cells #[.int .i64 e.f0, .int .i64 e.f1, .slice Al e.f2.length cl] 31 (0, 0)) := by rw [hy]; exact heap_alloc_new wr _
     rw [← hy]
     obtain ⟨yb, hyb⟩ : ∃ b, b = wr.heap.size := ⟨_, rfl⟩
     rw [← hyb] at hN ⊢
     have HYB := Lib.hid (show wr.heap.size ≤ yb by omega)
     have g1 : y1.cell? ⟨yb, 1, none⟩ = some (.int .i64 e.f1) := (blk_cell hN 1).trans rfl
     have f1 := blk_frozen hN 1
     have HY1 := Lib.hid hD
     have HQ1 := Lib.hid hN
     clear hy hyb hD hN
     go_wp2_with (first | ((with_reducible refine gate_dst (N := 93) rfl ?_); refine stop_ ?_))
     show wpList _ _ _ _ _ _
     clear g1 f1
     obtain ⟨y2, hy⟩ : ∃ V, V = y1.setCell ⟨yb, 1, none⟩ (.int .i64 (mn e.f1 50)) := ⟨_, rfl⟩
     have hD : Below wr.heap.size wr y2 := by rw [hy]; exact below_set HY1.out HYB.out
     have hN : y2.heap[yb]? = some (.cells #[.int .i64 e.f0, .int .i64 (mn e.f1 50), .slice Al e.f2.length cl] 31 (0, 0)) := by rw [hy]; exact blk_set HQ1.out 1 _
     rw [← hy]
     have g2 : y2.cell? ⟨yb, 2, none⟩ = some (.slice Al e.f2.length cl) := (blk_cell hN 2).trans rfl
     have f2 := blk_frozen hN 2
     have HY2 := Lib.hid hD
     have HQ2 := Lib.hid hN
     have z1 := eq_true (show 0 ≤ (m : Int) by omega)
     have z2 := eq_true (show (m : Int) ≤ (cl : Int) by omega)
     have z3 := eq_true hcl
     clear hy hD hN HY1 HQ1
     go_wp2_with (first | ((with_reducible refine gate_dst (N := 101) rfl ?_); refine stop_ ?_))
     show wpList _ _ _ _ _ _
     obtain ⟨y3, hy⟩ : ∃ V, V = y2.setCell ⟨yb, 2, none⟩ (.slice Al m cl) := ⟨_, rfl⟩
     have hD : Below wr.heap.size wr y3 := by rw [hy]; exact below_set HY2.out HYB.out
     have hN : y3.heap[yb]? = some (.cells #[.int .i64 e.f0, .int .i64 (mn e.f1 50), .slice Al m cl] 31 (0, 0)) := by rw [hy]; exact blk_set HQ2.out 2 _
     rw [← hy]
     clear hy g2 f2 z1 z2 z3 hm HY2 HQ2
     have hXw := blk_below HXB.out hD
     have g0 : y3.cell? ⟨yb, 0, none⟩ = some (.int .i64 e.f0) := (blk_cell hN 0).trans rfl
     have g1 : y3.cell? ⟨yb, 1, none⟩ = some (.int .i64 (mn e.f1 50)) := (blk_cell hN 1).trans rfl
     have g2 : y3.cell? ⟨yb, 2, none⟩ = some (.slice Al m cl) := (blk_cell hN 2).trans rfl
     have g3 : y3.cell? ⟨xb, 2, none⟩ = some ve := (blk_cell hXw 2).trans rfl
     have HXW := Lib.hid hXw
     have HD3 := Lib.hid hD
     have hlen : ((h.f2.take j).map cutE).length = j := by simp; omega
     have h10 : (cutE e).f2.length = m := by
      show (e.f2.take (mn (e.f2.length : Int) 10).toNat).length = m
      rw [List.length_take, HMD.out, Int.toNat_natCast]
      have := HML.out
      omega
     have HBY := Lib.hid (show Below w.heap.size w y3 from HBW.out.trans (hD.mono HBW.out.size))
     have HFK := Lib.hid (show Kd.FK k31 y3 (fun k => k < w.heap.size) (cutE e) [.int .i64 e.f0, .int .i64 (mn e.f1 50), .slice Al m cl] by
      have hf := Kd.F_below (Kd.C_F Kd.heap_string HIL.out) HBY.out
      have hm := HML.out
      have hl := HLL.out
      have := k31_mkF y3 (fun k => k < w.heap.size) (cutE e) (A2 := Al) (c2 := cl) (by omega) (by
       have h1 := Kd.F_take (m := m) hf hm
       have h2 : (cutE e).f2 = e.f2.take m := by
        show e.f2.take (mn (e.f2.length : Int) 10).toNat = _
        rw [HMD.out, Int.toNat_natCast]
       rw [h2]
       exact h1)
      rw [h10] at this
      exact this)
     have HNW := Lib.hid (Kd.N_below HNE.out hD)
     have HN3 := Lib.hid (Kd.N_below HN2.out hD)
     have HXL := Lib.hid (show xb < y3.heap.size from blk_lt hXw)
     have HLN := Lib.hid hlen
     clear hD hN hXw h10 hlen
     go_wp2_with (first | ((with_reducible refine gate_builtin (b := .append) (xs := #[.tmp 102, .tmp 104]) rfl ?_); at_builtin; refine stop_ ?_))
     refine Kd.N_append k31 (w0 := wo) wo.heap.size rfl (.tmp 102) (.tmp 104) 26 31 (.agg #[(.int .i64 0), (.int .i64 0), (.slice none 0 0)]) 40 rfl Try.underlying26 info31 rfl (by decide) (by omega) ve ((h.f2.take j).map cutE) (cutE e) [.int .i64 e.f0, .int .i64 (mn e.f1 50), .slice Al m cl] (fun k => k < w.heap.size ∨ xb < k) (fun k => k < w.heap.size) rfl (by first | (go_simp; done) | (go_simp; rfl)) HFK.out ?_ ?_ HNW.out (HD.out.trans (HD3.out.mono HD.out.size)) ?_ ?_ ?_
     ·intro k hk
      refine ⟨.inl hk, fun he => ?_⟩
      have h1 := Kd.N_base HNW.out k he.symm
      have h2 := HB.out.size
      omega
     ·intro k hk
      have := HXL.out
      exact .inr (by omega)
     ·have h1 := HD.out.size
      have h2 := HD3.out.size
      omega
     ·have := HLN.out
      omega
     intro v1 w1 ho hb hg hat
     obtain ⟨Av, cv, ev⟩ := Kd.N_slice ho
     generalize hnv : ((h.f2.take j).map cutE ++ [cutE e]).length = nv at ev
     subst ev
     have hvx : some xb ≠ ve.ownBlock := Kd.N_away HNW.out (fun k hk e => by
      have h1 := HB.out.size
      have h2 := HGE.out
      omega)
     have hvn : ∀ k, k < xb → some k ≠ ve.ownBlock := fun k hk he => by
      have h0 := Kd.N_base HNW.out k he.symm
      have h1 := HB.out.size
      rcases HNW.out.1 k he.symm with h2 | h2 <;> omega
     have hXw := (hg.block xb HXL.out hvx).trans HXW.out
     have HXV := Lib.hid hXw
     have g4 : w1.cell? ⟨xb, 2, none⟩ = some ve := (blk_cell hXw 2).trans rfl
     have f4 := blk_frozen hXw 2
     have hn := Kd.N_grown HN3.out hg hvn
     have HNV := Lib.hid hn
     have HEV := Lib.hid ho
     have HBV := Lib.hid hb
     clear ho hb hg hat hnv hvx hvn hXw hn g0 g1 g2 g3
     have hin : wrap64 ((j : Int) + 1) = ((j + 1 : Nat) : Int) := by unfold wrap64; omega
     go_wp2
     have hget : h.f2[j]? = some e := by
      rw [HEE.out, List.getElem?_eq_getElem cj1]
      simp [rd_T31, List.getD_eq_getElem?_getD, List.getElem?_eq_getElem cj1]
     have htk : (h.f2.take (j + 1)).map cutE = (h.f2.take j).map cutE ++ [cutE e] := by
      rw [List.take_add_one, hget]
      simp
     have hwo := HB.out.size
     have hxo := HGE.out
     exact ⟨⟨j + 1, .slice Av nv cv, by simp, by omega, by omega, blk_set HXV.out 2 _, by rw [htk]; exact Kd.N_far (p := ⟨xb, 2, none⟩) HEV.out (fun k hk e => by rcases hk with h1 | h1 <;> (simp only at e; omega)) _, Kd.N_far (p := ⟨xb, 2, none⟩) HNV.out (fun k hk e => by simp only at e; omega) _, below_set HBV.out HGE.out⟩, by simp [intOf]; omega⟩
    ·have hjt : (h.f2.take j).map cutE = (cutH h).f2 := by
      show _ = (h.f2.take 6).map cutE
      rcases Nat.lt_or_ge j 6 with h6 | h6
      ·rw [List.take_of_length_le (show h.f2.length ≤ j by omega), List.take_of_length_le (show h.f2.length ≤ 6 by omega)]
      ·rw [show j = 6 by omega]
     rw [hjt] at HNE
     have hs := Kd.N_slice HNE.out
     obtain ⟨Av, cv, ev⟩ := hs
     generalize hnv : (cutH h).f2.length = nv at ev
     subst ev
     have HNL := Lib.hid hnv
     have hBw := HB.out.trans (HD.out.mono HB.out.size)
     have hx2 := (hBw.cell (World.block_lt_of_cell? _ _ hX2.out)).trans hX2.out
     have g0 : wr.cell? ⟨xb, 0, none⟩ = some (.int .i64 h.f0) := (blk_cell HXB.out 0).trans rfl
     have g1 : wr.cell? ⟨xb, 1, none⟩ = some (.int .i64 h.f1) := (blk_cell HXB.out 1).trans rfl
     have g2 : wr.cell? ⟨xb, 2, none⟩ = some (.slice Av nv cv) := (blk_cell HXB.out 2).trans rfl
     have HBW := Lib.hid hBw
     have HFK := Lib.hid (show Kd.FK k28 wr (fun k => k < w.heap.size ∨ xb < k) (cutH h) [.int .i64 h.f0, .int .i64 h.f1, .slice Av nv cv] by
      have hr := Kd.N_reads' HNE.out
      have hf := Kd.N_F HNE.out
      subst hnv
      exact k28_mkF wr (fun k => k < w.heap.size ∨ xb < k) (cutH h) (A2 := Av) (c2 := cv) hr.2.1 hf)
     have hln : ((l0.take i).map cutH).length = i := by simp; omega
     have HLN := Lib.hid hln
     have hin : wrap64 ((i : Int) + 1) = ((i + 1 : Nat) : Int) := by unfold wrap64; omega
     clear hnv hBw hln
     have hget : l0[i]? = some h := by
      rw [HH.out, List.getElem?_eq_getElem ci1]
      simp [rd_T28, List.getD_eq_getElem?_getD, List.getElem?_eq_getElem ci1]
     have HTK := Lib.hid (show (l0.take (i + 1)).map cutH = (l0.take i).map cutH ++ [cutH h] by
      rw [List.take_add_one, hget]
      simp)
     clear hget
     rcases (show j = h.f2.length ∨ (j < h.f2.length ∧ j = 6) by omega) with hj | ⟨hj, hj'⟩
     ·have d0 : decide ((j : Int) < (h.f2.length : Int)) = false := decide_eq_false (by omega)
      go_wp2_with (first | ((with_reducible refine gate_builtin (b := .append) (xs := #[.tmp 107, .tmp 109]) rfl ?_); at_builtin; refine stop_ ?_))
      have hD : Below wr.heap.size wr wr := Below.refl _ _
      refine Kd.N_append k28 (w0 := w) w.heap.size rfl (.tmp 107) (.tmp 109) 22 28 (.agg #[(.int .i64 0), (.int .i64 0), (.slice none 0 0)]) 40 rfl Try.underlying22 info28 rfl (by decide) (by omega) u16 ((l0.take i).map cutH) (cutH h) [.int .i64 h.f0, .int .i64 h.f1, .slice Av nv cv] (fun _ => True) (fun k => k < w.heap.size ∨ xb < k) rfl (by first | (go_simp; done) | (go_simp; rfl)) HFK.out ?_ (fun _ _ => trivial) (Kd.N_mono HN2.out (fun _ _ => trivial)) HBW.out HBW.out.size ?_ ?_
      ·intro k hk
       refine ⟨trivial, fun he => ?_⟩
       have h1 := Kd.N_base HN2.out k he.symm
       have h2 := HN2.out.1 k he.symm
       omega
      ·have := HLN.out
       omega
      intro v1 w1 ho hb hg hat
      have HOV := Lib.hid ho
      have HBV := Lib.hid hb
      clear ho hb hg hat hD g0 g1 g2 hx2
      go_wp2
      exact ⟨⟨i + 1, by simp, by omega, by omega, by rw [HTK.out]; exact HOV.out, HBV.out⟩, by simp [intOf]; omega⟩
     ·have d0 : decide ((j : Int) < (h.f2.length : Int)) = true := decide_eq_true (by omega)
      have d1 : decide ((j : Int) < 6) = false := decide_eq_false (by omega)
      go_wp2_with (first | ((with_reducible refine gate_builtin (b := .append) (xs := #[.tmp 107, .tmp 109]) rfl ?_); at_builtin; refine stop_ ?_))
      have hD : Below wr.heap.size wr wr := Below.refl _ _
      refine Kd.N_append k28 (w0 := w) w.heap.size rfl (.tmp 107) (.tmp 109) 22 28 (.agg #[(.int .i64 0), (.int .i64 0), (.slice none 0 0)]) 40 rfl Try.underlying22 info28 rfl (by decide) (by omega) u16 ((l0.take i).map cutH) (cutH h) [.int .i64 h.f0, .int .i64 h.f1, .slice Av nv cv] (fun _ => True) (fun k => k < w.heap.size ∨ xb < k) rfl (by first | (go_simp; done) | (go_simp; rfl)) HFK.out ?_ (fun _ _ => trivial) (Kd.N_mono HN2.out (fun _ _ => trivial)) HBW.out HBW.out.size ?_ ?_
      ·intro k hk
       refine ⟨trivial, fun he => ?_⟩
       have h1 := Kd.N_base HN2.out k he.symm
       have h2 := HN2.out.1 k he.symm
       omega
      ·have := HLN.out
       omega
      intro v1 w1 ho hb hg hat
      have HOV := Lib.hid ho
      have HBV := Lib.hid hb
      clear ho hb hg hat hD g0 g1 g2 hx2
      go_wp2
      exact ⟨⟨i + 1, by simp, by omega, by omega, by rw [HTK.out]; exact HOV.out, HBV.out⟩, by simp [intOf]; omega⟩
  ·have hod : (l0.take i).map cutH = oddL l0 := by
    unfold oddL
    rcases Nat.lt_or_ge i 4 with h4 | h4
    ·rw [List.take_of_length_le (by omega), List.take_of_length_le (by omega)]
    ·rw [show i = 4 by omega]
   rw [hod] at HN
   obtain ⟨Ao, co, ev, hlo, hCo⟩ := Kd.N_reads HN.out
   subst ev
   have HLO := Lib.hid hlo
   have HCO := Lib.hid hCo
   clear hod hlo hCo HN
   by_cases h4 : i < l0.length
   ·have b0 : decide ((i : Int) < (l0.length : Int)) = true := decide_eq_true (by omega)
    have b1 : decide ((i : Int) < 4) = false := decide_eq_false (by omega)
    go_wp2
    refine HEND1.out _ _ ?_
    exact tells_B k l0 (oddL l0) l1 l2 l3 l4 a5 a6 s a ls p q own hm HK A0 A1 A2 A3 A4 c0 c1 c2 c3 c4 w wo HB.out Ao co _ _ _ _ _ _ _ _ _ _ _ _ _ _ _ _ _ _ _ _ _ _ _ _ _ _ _ _ _ _ _ _ _ _ _ _ _ _ _ _ _ _ _ _ _ _ _ _ _ _ _ _ _ _ _ _ _ _ _ _ _ _ _ _ _ _ _ _ _ _ _ _ _ _ _ _ _ _ _ _ _ _ _ _ _ _ _ _ _ _ _ _ _ _ _ _ _ _ _ _ _ _ _ _ _ _ _ _ _ _ _ _ _ _ _ _ _ _ _ _ _ _ _ _ _ _ _ _ _ _ _ _ _ _ _ _ _ _ _ _ _ _ _ _ _ _ _ _ _ _ _ _ _ _ _ _ _ _ _ _ _ _ _ _ _ _ _ _ _ _ _ _ _ _ _ _ _ _ _ _ _ _ _ _ _ _ _ _ _ _ _ _ _ _ _ _ _ _ _ _ _ _ _ _ _ _ _ _ _ _ _ _ _ _ _ _ _ _ _ _ _ _ _ _ _ _ _ (Kd.C_below Hr1.out HB.out) Hc1.out (Kd.C_below Hr2.out HB.out) Hc2.out (Kd.C_below Hr3.out HB.out) Hc3.out (Kd.C_below Hr4.out HB.out) Hc4.out HCO.out HLO.out
   ·have b0 : decide ((i : Int) < (l0.length : Int)) = false := decide_eq_false (by omega)
    go_wp2
    refine HEND1.out _ _ ?_
    exact tells_B k l0 (oddL l0) l1 l2 l3 l4 a5 a6 s a ls p q own hm HK A0 A1 A2 A3 A4 c0 c1 c2 c3 c4 w wo HB.out Ao co _ _ _ _ _ _ _ _ _ _ _ _ _ _ _ _ _ _ _ _ _ _ _ _ _ _ _ _ _ _ _ _ _ _ _ _ _ _ _ _ _ _ _ _ _ _ _ _ _ _ _ _ _ _ _ _ _ _ _ _ _ _ _ _ _ _ _ _ _ _ _ _ _ _ _ _ _ _ _ _ _ _ _ _ _ _ _ _ _ _ _ _ _ _ _ _ _ _ _ _ _ _ _ _ _ _ _ _ _ _ _ _ _ _ _ _ _ _ _ _ _ _ _ _ _ _ _ _ _ _ _ _ _ _ _ _ _ _ _ _ _ _ _ _ _ _ _ _ _ _ _ _ _ _ _ _ _ _ _ _ _ _ _ _ _ _ _ _ _ _ _ _ _ _ _ _ _ _ _ _ _ _ _ _ _ _ _ _ _ _ _ _ _ _ _ _ _ _ _ _ _ _ _ _ _ _ _ _ _ _ _ _ _ _ _ _ _ _ _ _ _ _ _ _ _ _ _ (Kd.C_below Hr1.out HB.out) Hc1.out (Kd.C_below Hr2.out HB.out) Hc2.out (Kd.C_below Hr3.out HB.out) Hc3.out (Kd.C_below Hr4.out HB.out) Hc4.out HCO.out HLO.out
end
end Go.Proofs.Ytgobidmfbjmpkaa.P
end
section
/- HunksTells: what the document's Right, Script and Apply of hunks answer: as the program's. -/
set_option linter.unusedVariables false
set_option linter.unusedSimpArgs false
namespace Go.Proofs.Ytgobidmfbjmpkaa.Q
open Go Go.RowKit Go.Proofs.Ytgobidmfbjmpkaa.P Go.Proofs.YtgobidmfbjmpkaaW.PrintWords Go.Proofs.YtgobidmfbjmpkaaW.PrintLast Go.Proofs.YtgobidmfbjmpkaaW.PrintMore
/-! ### Two scripts as one -/
theorem join_tail (t : List EdS) : ∀ (u : List EdS) (y z : EdS), z.f0 = y.f0 → Chn (z :: t) → joinL (u ++ [y]) t = u ++ [y] ++ t := by
 induction t with
 | nil => intro u y z _ _; rw [List.append_nil]; rfl
 | cons x t ih =>
  intro u y z hz hc
  have h1 : z.f0 ≠ x.f0 := hc.1.1
  rw [joinL_cons, join1_snoc, if_neg (by rw [← hz]; exact h1), ih (u ++ [y]) x x rfl hc.2]
  simp
theorem allL_join (s t : List EdS) (hc : Chn t) : allL s t = joinL s t := by
 unfold allL
 cases t with
 | nil =>
  have : joinL s [] = s := rfl
  rw [this]
  cases s.getLast? <;> simp
 | cons x t =>
  rcases List.eq_nil_or_concat s with h0 | ⟨u, e, h0⟩
  ·subst h0
   have h1 : joinL ([] ++ [x]) t = _ := join_tail t [] x x rfl hc
   rw [joinL_cons, join1_nil]
   exact h1.symm
  ·rw [List.concat_eq_append] at h0
   subst h0
   rw [List.getLast?_concat, joinL_cons, join1_snoc]
   simp only [List.dropLast_concat]
   by_cases c : e.f0 = x.f0
   ·rw [if_pos c, if_pos c, join_tail t u ⟨e.f0, e.f1 + x.f1, e.f2 ++ x.f2⟩ x c.symm hc, c]
   ·rw [if_neg c, if_neg c, join_tail t (u ++ [e]) x x rfl hc]
    simp
theorem wt_in {s : List EdS} {e : EdS} (h : e ∈ s) (hs : wt s ≤ 1000000000000) : e.f2.length ≤ 1000000000000 ∧ (-1000000000000 ≤ e.f1 ∧ e.f1 ≤ 1000000000000) := by
 have h1 := wt_mem h
 unfold wt1 at h1
 omega
theorem all_ok {s : List EdS} (hs : wt s ≤ 1000000000000) : AllOk s := ⟨Nat.le_trans (wt_len s) hs, fun x hx => ⟨(wt_in hx hs).2, (wt_in hx hs).1⟩⟩
theorem all_ev (s t : List EdS) (hs : wt s ≤ 1000000000000) (ht : wt t ≤ 1000000000000) : collatorref06_all.f s t = some (allL s t) := if_pos ⟨all_ok hs, all_ok ht⟩
theorem keeps_ev (s : List EdS) (n : Int) (hs : wt s ≤ 1000000000000) (hn : n ≤ 100000000000) : collatorref06_keeps.f s n = some (joinL s (kpL n)) := by
 unfold collatorref06_keeps.f
 by_cases c : n < 1
 ·rw [if_pos c, kpL_neg c]; rfl
 ·rw [if_neg c, all_ev s _ hs (by rw [wt_cons, wt_nil]; unfold wt1; simp; omega), kpL_pos (by omega), Option.bind_some, allL_join s [⟨1, n, []⟩] trivial]
/-! ### Scripts of hunks -/
theorem rscript_loop (h : List HkS) (hh : h.length ≤ 10000) (n : Int) (h0 : 0 ≤ n) (h1 : n ≤ 1048576) (t : List HkS) : ∀ (i : Nat) (s : List EdS) (a : Int), h.drop i = t → (∀ x ∈ t, (0 ≤ x.f0 ∧ x.f0 ≤ 2000000) ∧ rightB 0 x.f2 = true ∧ wt x.f2 ≤ 1000000) → 0 ≤ a → a ≤ 3000000 → wt s + t.length * 10000000 ≤ 500000000000 →
  Ev (fun k => collatorref06_Script.l0 k h n s a (i : Int)) (if endH t a > n then ([], 11) else (joinL (joinL s (flatH t a)) (kpL (n - endH t a)), 0)) := by
 induction t with
 | nil =>
  intro i s a hd _ ha0 ha1 hw
  have := drop_nil hd
  refine Ev.step (f := fun k => _) (fun k => by simp only [collatorref06_Script.l0]; rfl) ?_
  refine evneg (by omega) ?_
  show Ev _ (if a > n then ([], 11) else (joinL s (kpL (n - a)), 0))
  by_cases c : a > n
  ·simp only [if_pos c]; exact Ev.now _
  ·simp only [if_neg c]
   rw [w64 (x := n - a) (by omega) (by omega), keeps_ev s (n - a) (by omega) (by omega)]
   exact Ev.now _
 | cons x t ih =>
  intro i s a hd hk ha0 ha1 hw
  obtain ⟨hi, hx, hd'⟩ := drop_cons hd
  have hr : rd_T28 h (i : Int) = x := rdH hx
  obtain ⟨⟨f0, f1⟩, fr, fw⟩ := hk x (by simp)
  obtain ⟨t0, t1⟩ := takes_wt ((right_iff _).1 fr).1
  have w1 := wt_joinL (kpL (x.f0 - a)) s
  have w2 := wt_kpL (x.f0 - a)
  have w3 := wt_joinL x.f2 (joinL s (kpL (x.f0 - a)))
  rw [List.length_cons] at hw
  have hn := ih (i + 1) (joinL (joinL s (kpL (x.f0 - a))) x.f2) (x.f0 + takes x.f2) hd' (fun y hy => hk y (List.mem_cons_of_mem _ hy)) (by omega) (by omega) (by omega)
  have e1 : joinL s (flatH (x :: t) a) = joinL (joinL (joinL s (kpL (x.f0 - a))) x.f2) (flatH t (x.f0 + takes x.f2)) := by rw [flatH, joinL_app, joinL_app]
  have e2 : endH (x :: t) a = endH t (x.f0 + takes x.f2) := rfl
  rw [e1, e2]
  refine Ev.step (f := fun k => _) (fun k => by simp only [collatorref06_Script.l0]; rfl) ?_
  refine evpos (by omega) (evpos (by omega) ?_)
  simp only [hr, w64 (x := x.f0 - a) (by omega) (by omega), wi (i := i) (by omega)]
  refine evval (keeps_ev s (x.f0 - a) (by omega) (by omega)) ?_
  refine evval (all_ev _ x.f2 (by omega) (by omega)) ?_
  rw [allL_join _ _ ((right_iff _).1 fr).2]
  refine Ev.bind (rspans_ev x.f2 (Nat.le_trans (wt_len _) fw) fr) ?_
  simp only [w64 (x := x.f0 + takes x.f2) (by omega) (by omega)]
  exact hn
/-- What Script answers. -/
def scriptR (h : List HkS) (n : Int) : List EdS × Int := if rightH true 0 0 h = true then (if n < 0 ∨ n > 1048576 then ([], 1) else if endH h 0 > n then ([], 11) else (joinL (joinL [] (flatH h 0)) (kpL (n - endH h 0)), 0)) else ([], 1)
/-- Hunks of no great size. -/
structure Small (h : List HkS) : Prop where
 len : h.length ≤ 10
 each : ∀ x ∈ h, x.f2.length ≤ 110 ∧ ∀ e ∈ x.f2, e.f1 ≤ 110 ∧ e.f2.length ≤ 110
 rng : ∀ x ∈ h, (-9223372036854775808 ≤ x.f0 ∧ x.f0 ≤ 9223372036854775807) ∧ (-9223372036854775808 ≤ x.f1 ∧ x.f1 ≤ 9223372036854775807)
theorem small_wt {s : List EdS} (hr : rightB 0 s = true) (hl : s.length ≤ 110) (he : ∀ e ∈ s, e.f1 ≤ 110 ∧ e.f2.length ≤ 110) : wt s ≤ 1000000 := by
 have hf := ((right_iff s).1 hr).1
 have key : wt s ≤ 221 * s.length := by
  clear hl hr
  induction s with
  | nil => exact Nat.le_refl _
  | cons x s ih =>
   have h1 := ih (fun e h => he e (List.mem_cons_of_mem _ h)) (fit_tail hf)
   have h2 := he x (by simp)
   have h3 := fit_head hf
   rw [wt_cons, List.length_cons]
   unfold wt1
   omega
 omega
theorem Small.ok {h : List HkS} (hs : Small h) (hr : rightH true 0 0 h = true) : ∀ x ∈ h, (0 ≤ x.f0 ∧ x.f0 ≤ 2000000) ∧ rightB 0 x.f2 = true ∧ wt x.f2 ≤ 1000000 := fun x hx => by
 obtain ⟨r1, _, r3, r4⟩ := right_mem hr x hx
 exact ⟨⟨r3, by omega⟩, r1, small_wt r1 (hs.each x hx).1 (hs.each x hx).2⟩
theorem Small.rt {h : List HkS} (hs : Small h) : Ev (fun k => hunks_Right.f k h) (rightH true 0 0 h) ∧ Ev (fun k => collatorref06_Right.f k h) (rightH true 0 0 h) := by
 have h1 := hs.len
 have hb : ∀ x ∈ h, x.f2.length ≤ 100000 ∧ (-9223372036854775808 ≤ x.f0 ∧ x.f0 ≤ 9223372036854775807) ∧ (-9223372036854775808 ≤ x.f1 ∧ x.f1 ≤ 9223372036854775807) := fun x hx => ⟨by have := (hs.each x hx).1; omega, hs.rng x hx⟩
 exact ⟨rightH_ev h (by omega) hb, rrightH_ev h (by omega) hb⟩
theorem script_both {h : List HkS} (hs : Small h) (n : Int) : Ev (fun k => hunks_Script.f k h n) (scriptR h n) ∧ Ev (fun k => collatorref06_Script.f k h n) (scriptR h n) := by
 obtain ⟨r1, r2⟩ := hs.rt
 have hl := hs.len
 unfold scriptR
 have no : Ev (fun k => collatorref06_Script.j0 k h n true) ([], 1) := Ev.step (f := fun _ => some ([], 1)) (fun k => by simp only [collatorref06_Script.j0, if_true]) (Ev.now _)
 by_cases hr : rightH true 0 0 h = true
 ·rw [if_pos hr]
  rw [hr] at r1 r2
  have hk := hs.ok hr
  by_cases hn : n < 0 ∨ n > 1048576
  ·rw [if_pos hn]
   constructor
   ·unfold hunks_Script.f
    refine Ev.bind r1 (evneg (by omega) (Ev.now _))
   ·unfold collatorref06_Script.f
    refine Ev.bind r2 (evpos rfl ?_)
    by_cases h0 : n < 0
    ·exact evpos h0 no
    ·refine evneg h0 ?_
     rw [decide_eq_true (show n > 1048576 by omega)]
     exact no
  ·rw [if_neg hn]
   have hq : Ev (fun k => collatorref06_Script.f k h n) (if endH h 0 > n then ([], 11) else (joinL (joinL [] (flatH h 0)) (kpL (n - endH h 0)), 0)) := by
    unfold collatorref06_Script.f
    refine Ev.bind r2 (evpos rfl (evneg (by omega) ?_))
    rw [decide_eq_false (show ¬ n > 1048576 by omega)]
    refine Ev.step (f := fun k => _) (fun k => by simp only [collatorref06_Script.j0]; rfl) (evneg (by decide) ?_)
    exact rscript_loop h (by omega) n (by omega) (by omega) h 0 [] 0 (by simp) hk (by omega) (by omega) (by rw [wt_nil]; omega)
   by_cases he : endH h 0 > n
   ·rw [if_pos he] at hq ⊢
    exact ⟨script_no r1 hk (by omega) (by omega) (by omega) (by omega), hq⟩
   ·rw [if_neg he] at hq ⊢
    exact ⟨script_ok r1 hk (by omega) (by omega) (by omega) (by omega), hq⟩
 ·rw [if_neg hr]
  have hr' : rightH true 0 0 h = false := by simpa using hr
  rw [hr'] at r1 r2
  constructor
  ·unfold hunks_Script.f
   exact Ev.bind r1 (evneg (by simp) (Ev.now _))
  ·unfold collatorref06_Script.f
   exact Ev.bind r2 (evneg (by simp) no)
def lns : List EdS → Nat
 | [] => 0
 | e :: s => e.f2.length + lns s
theorem lns_app (s t : List EdS) : lns (s ++ t) = lns s + lns t := by
 induction s with
 | nil => simp [lns]
 | cons e s ih => simp only [List.cons_append, lns, ih]; omega
theorem lns_mem {s : List EdS} {e : EdS} (h : e ∈ s) : e.f2.length ≤ lns s := by
 induction s with
 | nil => cases h
 | cons y s ih =>
  simp only [lns]
  rcases List.mem_cons.1 h with rfl | h
  ·omega
  ·have := ih h; omega
theorem lns_join1 (s : List EdS) (e : EdS) : lns (join1 s e) = lns s + e.f2.length ∧ (join1 s e).length ≤ s.length + 1 := by
 rcases List.eq_nil_or_concat s with h0 | ⟨u, y, h0⟩
 ·subst h0; rw [join1_nil]; simp [lns]
 ·rw [List.concat_eq_append] at h0
  subst h0
  rw [join1_snoc]
  split
  ·simp only [lns_app, lns, List.length_append, List.length_singleton]; omega
  ·simp only [lns_app, lns, List.length_append, List.length_singleton]; omega
theorem lns_joinL (ms : List EdS) : ∀ s, lns (joinL s ms) = lns s + lns ms ∧ (joinL s ms).length ≤ s.length + ms.length := by
 induction ms with
 | nil => intro s; exact ⟨rfl, Nat.le_refl _⟩
 | cons e ms ih =>
  intro s
  rw [joinL_cons]
  have h1 := ih (join1 s e)
  have h2 := lns_join1 s e
  simp only [lns, List.length_cons]
  omega
theorem lns_kpL (n : Int) : lns (kpL n) = 0 ∧ (kpL n).length ≤ 1 := by
 unfold kpL; split <;> simp [lns]
theorem lns_le {s : List EdS} {b : Nat} (h : ∀ e ∈ s, e.f2.length ≤ b) : lns s ≤ s.length * b := by
 induction s with
 | nil => exact Nat.zero_le _
 | cons e s ih =>
  have h1 := ih (fun y hy => h y (List.mem_cons_of_mem _ hy))
  have h2 := h e (by simp)
  simp only [lns, List.length_cons, Nat.add_mul, Nat.one_mul]
  omega
theorem lns_flat {h : List HkS} (hs : ∀ x ∈ h, x.f2.length ≤ 110 ∧ ∀ e ∈ x.f2, e.f1 ≤ 110 ∧ e.f2.length ≤ 110) : ∀ a, lns (flatH h a) ≤ 12100 * h.length ∧ (flatH h a).length ≤ 111 * h.length := by
 induction h with
 | nil => intro a; exact ⟨Nat.le_refl _, Nat.le_refl _⟩
 | cons x t ih =>
  intro a
  obtain ⟨i1, i2⟩ := ih (fun y hy => hs y (List.mem_cons_of_mem _ hy)) (x.f0 + takes x.f2)
  obtain ⟨l1, l2⟩ := hs x (by simp)
  obtain ⟨k1, k2⟩ := lns_kpL (x.f0 - a)
  have h1 := lns_le (b := 110) (fun e he => (l2 e he).2)
  have h2 : x.f2.length * 110 ≤ 110 * 110 := Nat.mul_le_mul_right _ l1
  simp only [flatH, lns_app, List.length_append, List.length_cons, k1]
  omega
theorem scriptR_sz {h : List HkS} (hs : Small h) (n : Int) : lns (scriptR h n).1 ≤ 121000 ∧ (scriptR h n).1.length ≤ 1111 := by
 unfold scriptR
 by_cases hr : rightH true 0 0 h = true
 ·rw [if_pos hr]
  by_cases hn : n < 0 ∨ n > 1048576
  ·rw [if_pos hn]; exact ⟨Nat.zero_le _, Nat.zero_le _⟩
  ·rw [if_neg hn]
   by_cases he : endH h 0 > n
   ·rw [if_pos he]; exact ⟨Nat.zero_le _, Nat.zero_le _⟩
   ·rw [if_neg he]
    have hl := hs.len
    have h1 := lns_flat hs.each 0
    have h2 := lns_joinL (flatH h 0) []
    have h3 := lns_joinL (kpL (n - endH h 0)) (joinL [] (flatH h 0))
    have h4 := lns_kpL (n - endH h 0)
    simp only [lns, List.length_nil] at h2
    show lns (joinL (joinL [] (flatH h 0)) (kpL (n - endH h 0))) ≤ _ ∧ (joinL (joinL [] (flatH h 0)) (kpL (n - endH h 0))).length ≤ _
    omega
 ·rw [if_neg hr]; exact ⟨Nat.zero_le _, Nat.zero_le _⟩
theorem appl_len : ∀ (s : List EdS) (a : List ByteArray), (appl s a).length ≤ a.length + lns s
 | [], a => Nat.zero_le _
 | x :: s, a => by
  simp only [appl, lns]
  split
  ·have := appl_len s (a.drop x.f1.toNat)
   rw [List.length_append, List.length_take]
   rw [List.length_drop] at this
   omega
  ·split
   ·have := appl_len s (a.drop x.f1.toNat)
    rw [List.length_drop] at this
    omega
   ·have := appl_len s a
    rw [List.length_append]
    omega
theorem applR_len (s : List EdS) (a : List ByteArray) : (applR s a).1.length ≤ a.length + lns s := by
 unfold applR
 split
 ·split
  ·exact appl_len s a
  ·exact Nat.zero_le _
 ·exact Nat.zero_le _
theorem texts_same (a : List ByteArray) (ha : a.length ≤ 1000000) (t : List ByteArray) : ∀ i : Nat, a.drop i = t → Ev (fun k => collatorref01_Texts.l0 k a a (i : Int)) true := by
 induction t with
 | nil =>
  intro i hd
  have := drop_nil hd
  refine Ev.step (f := fun _ => some true) (fun k => ?_) (Ev.now _)
  simp only [collatorref01_Texts.l0]
  rw [if_neg (by omega)]
 | cons x t ih =>
  intro i hd
  obtain ⟨hi, hx, hd'⟩ := drop_cons hd
  refine Ev.step (f := fun k => _) (fun k => by simp only [collatorref01_Texts.l0]; rfl) ?_
  refine evpos (by omega) (evpos (by omega) (evpos (by omega) (evpos (by trivial) ?_)))
  simp only [wi (i := i) (by omega)]
  exact ih (i + 1) hd'
theorem texts_self (a : List ByteArray) (ha : a.length ≤ 1000000) : Ev (fun k => collatorref01_Texts.f k a a) true := by
 unfold collatorref01_Texts.f
 simp only [if_pos (rfl : (a.length : Int) = (a.length : Int))]
 exact texts_same a ha a 0 rfl
/-- What Apply of hunks answers. -/
def applH (h : List HkS) (a : List ByteArray) : List ByteArray × Int := if (scriptR h (a.length : Int)).2 = 0 then applR (scriptR h (a.length : Int)).1 a else ([], (scriptR h (a.length : Int)).2)
theorem apply_both {h : List HkS} (hs : Small h) (a : List ByteArray) (ha : a.length ≤ 100000) : Ev (fun k => hunks_Apply.f k h a) (applH h a) ∧ Ev (fun k => collatorref06_Apply.f k h a) (applH h a) ∧ Ev (fun k => collatorref01_Texts.f k (applH h a).1 (applH h a).1) true := by
 obtain ⟨s1, s2⟩ := script_both hs (a.length : Int)
 obtain ⟨z1, z2⟩ := scriptR_sz hs (a.length : Int)
 have a1 := sapply_ev (scriptR h (a.length : Int)).1 a (by omega)
 have a2 := rapply_ev (scriptR h (a.length : Int)).1 a (by omega) (by omega)
 have hl := applR_len (scriptR h (a.length : Int)).1 a
 unfold applH
 by_cases c : (scriptR h (a.length : Int)).2 = 0
 ·simp only [if_pos c]
  refine ⟨?_, ?_, texts_self _ (by omega)⟩
  ·unfold hunks_Apply.f
   exact Ev.bind s1 (evpos c (Ev.bind a1 (Ev.now _)))
  ·unfold collatorref06_Apply.f
   exact Ev.bind s2 (evpos c (Ev.bind a2 (Ev.now _)))
 ·simp only [if_neg c]
  refine ⟨?_, ?_, texts_self [] (by simp)⟩
  ·unfold hunks_Apply.f
   exact Ev.bind s1 (evneg c (Ev.now _))
  ·unfold collatorref06_Apply.f
   exact Ev.bind s2 (evneg c (Ev.now _))
theorem Ev.and {α β : Type} {f : Nat → Option α} {g : Nat → Option β} {a : α} {b : β} (h : Ev f a) (k : Ev g b) : ∃ K, ∀ n, K ≤ n → f n = some a ∧ g n = some b := by
 obtain ⟨K, h⟩ := h
 obtain ⟨L, k⟩ := k
 exact ⟨max K L, fun n hn => ⟨h n (by omega), k n (by omega)⟩⟩
theorem scr_one {h : List HkS} (hs : Small h) (x : Int) : ∃ K, ∀ k, K ≤ k → ∃ t u e, hunks_Script.f k h x = some (t, e) ∧ collatorref06_Script.f k h x = some (u, e) ∧ collatorref04_Same.f k t u = some true := by
 obtain ⟨⟨K1, s1⟩, ⟨K2, s2⟩⟩ := script_both hs x
 obtain ⟨z1, z2⟩ := scriptR_sz hs x
 obtain ⟨K3, s3⟩ := same_ev (scriptR h x).1 (by omega) (fun e he => by have := lns_mem he; omega)
 exact ⟨max K1 (max K2 K3), fun k hk => ⟨_, _, _, s1 k (by omega), s2 k (by omega), s3 k (by omega)⟩⟩
theorem app_one {h : List HkS} (hs : Small h) (x : List ByteArray) (hx : x.length ≤ 100000) : ∃ K, ∀ k, K ≤ k → ∃ t u e, hunks_Apply.f k h x = some (t, e) ∧ collatorref06_Apply.f k h x = some (u, e) ∧ collatorref01_Texts.f k t u = some true := by
 obtain ⟨⟨K1, s1⟩, ⟨K2, s2⟩, ⟨K3, s3⟩⟩ := apply_both hs x hx
 exact ⟨max K1 (max K2 K3), fun k hk => ⟨_, _, _, s1 k (by omega), s2 k (by omega), s3 k (by omega)⟩⟩
end Go.Proofs.Ytgobidmfbjmpkaa.Q
end
section
/- The document's hunks, step by step, are the program's, edit by edit: plain. (Tried apart from any seat: wip/plain/HkPre.lean stands for what the seat's texts define.) -/
set_option linter.unusedVariables false
set_option linter.unusedSimpArgs false
namespace Go.Proofs.Ytgobidmfbjmpkaa.Q
open Go Go.RowKit Go.Proofs.Ytgobidmfbjmpkaa.P Go.Proofs.YtgobidmfbjmpkaaW.PrintWords Go.Proofs.YtgobidmfbjmpkaaW.PrintLast Go.Proofs.YtgobidmfbjmpkaaW.PrintMore
/-! ### Steps, and what is near a change -/
structure Stp where
 op : Int
 ls : List ByteArray
 fr : Int
 tt : Int
def chg (s : Stp) : Bool := s.op != 1
def runK : Nat → Int → Int → List Stp
 | 0, _, _ => []
 | n + 1, p, q => ⟨1, [], p, q⟩ :: runK n (p + 1) (q + 1)
def runC : Nat → Int → Int → List Stp
 | 0, _, _ => []
 | n + 1, p, q => ⟨2, [], p, q⟩ :: runC n (p + 1) q
def runA : List ByteArray → Int → Int → List Stp
 | [], _, _ => []
 | l :: ls, p, q => ⟨3, [l], p, q⟩ :: runA ls p (q + 1)
def expS (x : EdS) (p q : Int) : List Stp := if x.f0 = 1 then runK x.f1.toNat p q else if x.f0 = 2 then runC x.f1.toNat p q else runA x.f2 p q
def stepsOf : List EdS → Int → Int → List Stp
 | [], _, _ => []
 | x :: t, p, q => expS x p q ++ stepsOf t (adv1 p x) (adv2 q x)
/-- Edits, and one step more. -/
def withS (E : List EdS) (s : Stp) : List EdS := match E.getLast? with
 | some e => if e.f0 = s.op then E.dropLast ++ [⟨s.op, e.f1 + 1, e.f2 ++ s.ls⟩] else E ++ [⟨s.op, 1, s.ls⟩]
 | none => [⟨s.op, 1, s.ls⟩]
def near (c : Nat) (left : List Stp) (x : Stp) (right : List Stp) : Bool := chg x || (right.take c).any chg || (left.take c).any chg
def upd (out : List HkS) (x : Stp) : List HkS := match out.getLast? with
 | some h => out.dropLast ++ [⟨h.f0, h.f1, withS h.f2 x⟩]
 | none => out
def rstep (st : List HkS × Bool) (nr : Bool) (x : Stp) : List HkS × Bool := if nr then (upd (if st.2 then st.1 else st.1 ++ [⟨x.fr, x.tt, []⟩]) x, true) else (st.1, false)
def goN (c : Nat) : List Stp → List Stp → List HkS × Bool → List HkS × Bool
 | _, [], st => st
 | left, x :: r, st => goN c (x :: left) r (rstep st (near c left x r) x)
def refMake (c : Nat) (s : List EdS) : List HkS := (goN c [] (stepsOf s 0 0) ([], false)).1
theorem withS_snoc (E : List EdS) (e : EdS) (s : Stp) : withS (E ++ [e]) s = if e.f0 = s.op then E ++ [⟨s.op, e.f1 + 1, e.f2 ++ s.ls⟩] else E ++ [e] ++ [⟨s.op, 1, s.ls⟩] := by
 unfold withS
 rw [List.getLast?_concat]
 simp only [List.dropLast_concat]
theorem upd_snoc (out : List HkS) (h : HkS) (x : Stp) : upd (out ++ [h]) x = out ++ [⟨h.f0, h.f1, withS h.f2 x⟩] := by
 unfold upd
 rw [List.getLast?_concat]
 simp only [List.dropLast_concat]
theorem rstep_open (out : List HkS) (h : HkS) (x : Stp) : rstep (out ++ [h], true) true x = (out ++ [⟨h.f0, h.f1, withS h.f2 x⟩], true) := by
 unfold rstep
 simp only [if_true]
 rw [upd_snoc]
theorem rstep_new (out : List HkS) (x : Stp) : rstep (out, false) true x = (out ++ [⟨x.fr, x.tt, withS [] x⟩], true) := by
 unfold rstep
 simp only [if_true, Bool.false_eq_true, if_false]
 rw [upd_snoc]
theorem rstep_no (st : List HkS × Bool) (x : Stp) : rstep st false x = (st.1, false) := by
 unfold rstep
 simp
/-! ### Runs -/
def keepsOnly (l : List Stp) : Prop := ∀ x ∈ l, chg x = false
def hd (l : List Stp) : Prop := ∃ x t, l = x :: t ∧ chg x = true
theorem any_take {ks l : List Stp} (hk : keepsOnly ks) (c : Nat) : ((ks ++ l).take c).any chg = (l.take (c - ks.length)).any chg := by
 rw [List.take_append, List.any_append]
 have e : (ks.take c).any chg = false := by
  rw [List.any_eq_false]
  intro x hx
  rw [hk x (List.mem_of_mem_take hx)]
  simp
 rw [e, Bool.false_or]
theorem any_hd {l : List Stp} (h : hd l) (c : Nat) : (l.take c).any chg = decide (0 < c) := by
 obtain ⟨x, t, rfl, hx⟩ := h
 cases c with
 | zero => rfl
 | succ c => simp [hx]
theorem runK_keeps : ∀ (n : Nat) (p q : Int), keepsOnly (runK n p q)
 | 0, _, _ => fun x hx => by cases hx
 | n + 1, p, q => fun x hx => by
  rcases List.mem_cons.1 hx with rfl | hx
  ·rfl
  ·exact runK_keeps n _ _ x hx
theorem runK_len : ∀ (n : Nat) (p q : Int), (runK n p q).length = n
 | 0, _, _ => rfl
 | n + 1, p, q => by rw [runK, List.length_cons, runK_len n]
theorem runK_add : ∀ (n m : Nat) (p q : Int), runK (n + m) p q = runK n p q ++ runK m (p + n) (q + n)
 | 0, m, p, q => by simp [runK]
 | n + 1, m, p, q => by
  rw [show n + 1 + m = (n + m) + 1 by omega, runK, runK, runK_add n m, List.cons_append]
  rw [show p + 1 + (n : Int) = p + ((n + 1 : Nat) : Int) by omega, show q + 1 + (n : Int) = q + ((n + 1 : Nat) : Int) by omega]
theorem keeps_cons {ks : List Stp} (h : keepsOnly ks) (p q : Int) : keepsOnly (⟨1, [], p, q⟩ :: ks) := fun x hx => by
 rcases List.mem_cons.1 hx with rfl | hx
 ·rfl
 ·exact h x hx
theorem keeps_rev {ks : List Stp} (h : keepsOnly ks) (n : Nat) (p q : Int) : keepsOnly ((runK n p q).reverse ++ ks) := fun x hx => by
 rcases List.mem_append.1 hx with hx | hx
 ·exact runK_keeps n p q x (List.mem_reverse.1 hx)
 ·exact h x hx
/-- Steps that are near go to the hunk that is open. -/
theorem go_open (c : Nat) : ∀ (R left rest : List Stp) (out : List HkS) (F T : Int) (E : List EdS), (∀ R1 x R2, R = R1 ++ x :: R2 → near c (R1.reverse ++ left) x (R2 ++ rest) = true) →
  goN c left (R ++ rest) (out ++ [⟨F, T, E⟩], true) = goN c (R.reverse ++ left) rest (out ++ [⟨F, T, R.foldl withS E⟩], true)
 | [], left, rest, out, F, T, E, _ => rfl
 | x :: R, left, rest, out, F, T, E, h => by
  have h0 := h [] x R rfl
  rw [List.reverse_nil, List.nil_append] at h0
  rw [List.cons_append, goN, h0, rstep_open, go_open c R (x :: left) rest out F T (withS E x) (fun R1 y R2 e => by
   have := h (x :: R1) y R2 (by rw [e]; rfl)
   rw [List.reverse_cons, List.append_assoc] at this
   exact this)]
  rw [List.reverse_cons, List.append_assoc, List.foldl_cons]
  rfl
/-- The first one of them begins a hunk, if none is open. -/
theorem go_new (c : Nat) (x : Stp) (R left rest : List Stp) (out : List HkS) (h : ∀ R1 y R2, x :: R = R1 ++ y :: R2 → near c (R1.reverse ++ left) y (R2 ++ rest) = true) :
  goN c left (x :: R ++ rest) (out, false) = goN c ((x :: R).reverse ++ left) rest (out ++ [⟨x.fr, x.tt, (x :: R).foldl withS []⟩], true) := by
 have h0 := h [] x R rfl
 rw [List.reverse_nil, List.nil_append] at h0
 rw [List.cons_append, goN, h0, rstep_new, go_open c R (x :: left) rest out x.fr x.tt (withS [] x) (fun R1 y R2 e => by
  have := h (x :: R1) y R2 (by rw [e]; rfl)
  rw [List.reverse_cons, List.append_assoc] at this
  exact this)]
 rw [List.reverse_cons, List.append_assoc, List.foldl_cons]
 rfl
/-- Steps that aren't near close it. -/
theorem go_far (c : Nat) : ∀ (R left rest : List Stp) (st : List HkS × Bool), R ≠ [] → (∀ R1 x R2, R = R1 ++ x :: R2 → near c (R1.reverse ++ left) x (R2 ++ rest) = false) →
  goN c left (R ++ rest) st = goN c (R.reverse ++ left) rest (st.1, false)
 | [], _, _, _, h, _ => absurd rfl h
 | x :: R, left, rest, st, _, h => by
  have h0 := h [] x R rfl
  rw [List.reverse_nil, List.nil_append] at h0
  rw [List.cons_append, goN, h0, rstep_no]
  by_cases e : R = []
  ·subst e; rfl
  ·rw [go_far c R (x :: left) rest (st.1, false) e (fun R1 y R2 e => by
    have := h (x :: R1) y R2 (by rw [e]; rfl)
    rw [List.reverse_cons, List.append_assoc] at this
    exact this)]
   rw [List.reverse_cons, List.append_assoc]
   rfl
theorem near_keep {L1 L2 l0 rest : List Stp} {y : Stp} (c : Nat) (h1 : keepsOnly L1) (h2 : keepsOnly L2) (hy : chg y = false) : near c (L1 ++ l0) y (L2 ++ rest) = ((rest.take (c - L2.length)).any chg || (l0.take (c - L1.length)).any chg) := by
 unfold near
 rw [hy, Bool.false_or, any_take h2, any_take h1]
theorem run_split {n : Nat} {p q : Int} {R1 R2 : List Stp} {y : Stp} (h : runK n p q = R1 ++ y :: R2) : keepsOnly R1 ∧ keepsOnly R2 ∧ chg y = false ∧ R1.length + 1 + R2.length = n := by
 have hk := runK_keeps n p q
 have hl := runK_len n p q
 rw [h] at hk hl
 refine ⟨fun x hx => hk x (List.mem_append_left _ hx), fun x hx => hk x (by simp [hx]), hk y (by simp), ?_⟩
 rw [List.length_append, List.length_cons] at hl
 omega
theorem keeps_revl {R ks : List Stp} (h : keepsOnly R) (hk : keepsOnly ks) : keepsOnly (R.reverse ++ ks) := fun x hx => by
 rcases List.mem_append.1 hx with hx | hx
 ·exact h x (List.mem_reverse.1 hx)
 ·exact hk x hx
theorem keeps_app {R ks : List Stp} (h : keepsOnly R) (hk : keepsOnly ks) : keepsOnly (R ++ ks) := fun x hx => by
 rcases List.mem_append.1 hx with hx | hx
 ·exact h x hx
 ·exact hk x hx
/-- Keeps behind a change are near. -/
theorem near_left (c n m : Nat) (p q p' q' : Int) {ks l0 : List Stp} (rest : List Stp) (hk : keepsOnly ks) (h0 : hd l0) (hn : ks.length + n ≤ c) : ∀ R1 y R2, runK n p q = R1 ++ y :: R2 → near c (R1.reverse ++ (ks ++ l0)) y (R2 ++ (runK m p' q' ++ rest)) = true := by
 intro R1 y R2 h
 obtain ⟨k1, k2, ky, hl⟩ := run_split h
 rw [← List.append_assoc, ← List.append_assoc, near_keep c (keeps_revl k1 hk) (keeps_app k2 (runK_keeps m p' q')) ky, any_hd h0, show (R1.reverse ++ ks).length = R1.length + ks.length by rw [List.length_append, List.length_reverse], decide_eq_true (by omega), Bool.or_true]
/-- Keeps ahead of a change are near. -/
theorem near_right (c n : Nat) (p q : Int) {ks l0 rest : List Stp} (hk : keepsOnly ks) (h0 : hd rest) (hn : n ≤ c) : ∀ R1 y R2, runK n p q = R1 ++ y :: R2 → near c (R1.reverse ++ (ks ++ l0)) y (R2 ++ rest) = true := by
 intro R1 y R2 h
 obtain ⟨k1, k2, ky, hl⟩ := run_split h
 rw [← List.append_assoc, near_keep c (keeps_revl k1 hk) k2 ky, any_hd h0, decide_eq_true (by omega), Bool.true_or]
/-- Keeps that are far from all changes. -/
theorem near_far (c n m : Nat) (p q p' q' : Int) {ks l0 rest : List Stp} (hk : keepsOnly ks) (h0 : l0 = [] ∨ (hd l0 ∧ c ≤ ks.length)) (h1 : rest = [] ∨ (hd rest ∧ c ≤ m)) : ∀ R1 y R2, runK n p q = R1 ++ y :: R2 → near c (R1.reverse ++ (ks ++ l0)) y (R2 ++ (runK m p' q' ++ rest)) = false := by
 intro R1 y R2 h
 obtain ⟨k1, k2, ky, hl⟩ := run_split h
 rw [← List.append_assoc, ← List.append_assoc, near_keep c (keeps_revl k1 hk) (keeps_app k2 (runK_keeps m p' q')) ky]
 have e1 : (rest.take (c - (R2 ++ runK m p' q').length)).any chg = false := by
  rcases h1 with rfl | ⟨h1, h2⟩
  ·rw [List.take_nil]; rfl
  ·rw [any_hd h1, List.length_append, runK_len, decide_eq_false (by omega)]
 have e2 : (l0.take (c - (R1.reverse ++ ks).length)).any chg = false := by
  rcases h0 with rfl | ⟨h1, h2⟩
  ·rw [List.take_nil]; rfl
  ·rw [any_hd h1, List.length_append, decide_eq_false (by omega)]
 rw [e1, e2]
 rfl
/-! ### Runs as edits -/
def NoLast (E : List EdS) (op : Int) : Prop := ∀ e, E.getLast? = some e → e.f0 ≠ op
theorem withS_other {E : List EdS} {s : Stp} (h : NoLast E s.op) : withS E s = E ++ [⟨s.op, 1, s.ls⟩] := by
 unfold withS
 unfold NoLast at h
 cases e : E.getLast? with
 | none => rw [List.getLast?_eq_none_iff.1 e]; rfl
 | some x => simp only []; rw [if_neg (h x e)]
theorem foldK : ∀ (n : Nat) (p q : Int) (E : List EdS) (k : Int) (L : List ByteArray), (runK n p q).foldl withS (E ++ [⟨1, k, L⟩]) = E ++ [⟨1, k + n, L⟩]
 | 0, _, _, E, k, L => by simp [runK]
 | n + 1, p, q, E, k, L => by
  rw [runK, List.foldl_cons, withS_snoc, if_pos rfl, List.append_nil, foldK n _ _ E (k + 1) L, show k + 1 + (n : Int) = k + ((n + 1 : Nat) : Int) by omega]
theorem foldC : ∀ (n : Nat) (p q : Int) (E : List EdS) (k : Int) (L : List ByteArray), (runC n p q).foldl withS (E ++ [⟨2, k, L⟩]) = E ++ [⟨2, k + n, L⟩]
 | 0, _, _, E, k, L => by simp [runC]
 | n + 1, p, q, E, k, L => by
  rw [runC, List.foldl_cons, withS_snoc, if_pos rfl, List.append_nil, foldC n _ _ E (k + 1) L, show k + 1 + (n : Int) = k + ((n + 1 : Nat) : Int) by omega]
theorem foldA : ∀ (ls : List ByteArray) (p q : Int) (E : List EdS) (k : Int) (L : List ByteArray), (runA ls p q).foldl withS (E ++ [⟨3, k, L⟩]) = E ++ [⟨3, k + ls.length, L ++ ls⟩]
 | [], _, _, E, k, L => by simp [runA]
 | l :: ls, p, q, E, k, L => by
  rw [runA, List.foldl_cons, withS_snoc, if_pos rfl, foldA ls _ _ E (k + 1) (L ++ [l]), List.length_cons, show k + 1 + (ls.length : Int) = k + ((ls.length + 1 : Nat) : Int) by omega, List.append_assoc]
  rfl
theorem foldK_new (n : Nat) (p q : Int) {E : List EdS} (h : NoLast E 1) (hn : 1 ≤ n) : (runK n p q).foldl withS E = E ++ [⟨1, n, []⟩] := by
 obtain ⟨m, rfl⟩ : ∃ m, n = m + 1 := ⟨n - 1, by omega⟩
 rw [runK, List.foldl_cons, withS_other h, foldK, show (1 : Int) + (m : Int) = ((m + 1 : Nat) : Int) by omega]
theorem fold_exp {x : EdS} (hx : May x) {E : List EdS} (h : NoLast E x.f0) (p q : Int) : (expS x p q).foldl withS E = E ++ [x] := by
 obtain ⟨f0, f1, f2⟩ := x
 obtain ⟨h1, h2⟩ := hx
 simp only at h1 h2 h
 unfold expS
 simp only
 obtain ⟨m, hm⟩ : ∃ m : Nat, f1 = ((m + 1 : Nat) : Int) := ⟨(f1 - 1).toNat, by omega⟩
 subst hm
 rcases h2 with ⟨h2 | h2, h3⟩ | ⟨h2, h3⟩
 ·subst h2 h3
  rw [if_pos rfl, Int.toNat_natCast]
  exact foldK_new (m + 1) p q h (by omega)
 ·subst h2 h3
  rw [if_neg (by decide), if_pos rfl, Int.toNat_natCast, runC, List.foldl_cons, withS_other h, foldC, show (1 : Int) + (m : Int) = ((m + 1 : Nat) : Int) by omega]
 ·subst h2
  rw [if_neg (by decide), if_neg (by decide)]
  cases f2 with
  | nil => simp at h3; omega
  | cons l ls =>
   rw [runA, List.foldl_cons, withS_other h, foldA, ← h3, List.length_cons, show (1 : Int) + (ls.length : Int) = ((ls.length + 1 : Nat) : Int) by omega]
   rfl
theorem exp_chg {x : EdS} (hx : May x) (h : x.f0 ≠ 1) (p q : Int) : ∃ (s : Stp) (R : List Stp), expS x p q = s :: R ∧ s.fr = p ∧ s.tt = q ∧ ∀ y ∈ s :: R, chg y = true := by
 obtain ⟨h1, h2⟩ := hx
 obtain ⟨m, hm⟩ : ∃ m : Nat, x.f1 = ((m + 1 : Nat) : Int) := ⟨(x.f1 - 1).toNat, by omega⟩
 unfold expS
 have cC : ∀ (n : Nat) (p q : Int), ∀ y ∈ runC n p q, chg y = true := by
  intro n
  induction n with
  | zero => intro p q y hy; cases hy
  | succ n ih =>
   intro p q y hy
   rcases List.mem_cons.1 hy with rfl | hy
   ·rfl
   ·exact ih _ _ y hy
 have cA : ∀ (ls : List ByteArray) (p q : Int), ∀ y ∈ runA ls p q, chg y = true := by
  intro ls
  induction ls with
  | nil => intro p q y hy; cases hy
  | cons l ls ih =>
   intro p q y hy
   rcases List.mem_cons.1 hy with rfl | hy
   ·rfl
   ·exact ih _ _ y hy
 rw [if_neg h]
 rcases h2 with ⟨h2 | h2, h3⟩ | ⟨h2, h3⟩
 ·exact absurd h2 h
 ·rw [if_pos h2, hm, Int.toNat_natCast]
  refine ⟨⟨2, [], p, q⟩, runC m (p + 1) q, rfl, rfl, rfl, fun y hy => cC (m + 1) p q y hy⟩
 ·rw [if_neg (by omega)]
  cases e : x.f2 with
  | nil => rw [e] at h3; simp at h3; omega
  | cons l ls => exact ⟨⟨3, [l], p, q⟩, runA ls p (q + 1), rfl, rfl, rfl, fun y hy => cA (l :: ls) p q y hy⟩
/-! ### What the steps make is what the edits make -/
theorem kpL_zero {n : Int} (h : n < 1) : kpL n = [] := by unfold kpL; rw [if_pos h]
theorem steps_hd {y : EdS} {t : List EdS} (hy : May y) (h : y.f0 ≠ 1) (p q : Int) : hd (stepsOf (y :: t) p q) := by
 obtain ⟨s, R, e, _, _, hc⟩ := exp_chg hy h p q
 exact ⟨s, R ++ stepsOf t (adv1 p y) (adv2 q y), by rw [stepsOf, e]; rfl, hc s List.mem_cons_self⟩
def S0 (out : List HkS) (ah p q : Int) : List HkS × Bool := if 1 ≤ ah then (out ++ [⟨p - ah, q - ah, [⟨1, ah, []⟩]⟩], true) else (out, false)
theorem noLast_nil (op : Int) : NoLast [] op := fun e h => by cases h
theorem noLast_snoc {E : List EdS} {e : EdS} {op : Int} (h : e.f0 ≠ op) : NoLast (E ++ [e]) op := fun x hx => by
 rw [List.getLast?_concat] at hx
 rw [← Option.some.inj hx]
 exact h
/-- A change's steps, none being open, or one that keeps alone. -/
theorem go_change0 (c : Nat) {x : EdS} (hx : May x) (h : x.f0 ≠ 1) (left rest : List Stp) (out : List HkS) (p q ah : Int) (ha : 0 ≤ ah) :
  goN c left (expS x p q ++ rest) (S0 out ah p q) = goN c ((expS x p q).reverse ++ left) rest (out ++ [⟨p - ah, q - ah, kpL ah ++ [x]⟩], true) := by
 obtain ⟨s, R, e, h1, h2, hc⟩ := exp_chg hx h p q
 have hn : ∀ R1 y R2, s :: R = R1 ++ y :: R2 → near c (R1.reverse ++ left) y (R2 ++ rest) = true := fun R1 y R2 hr => by
  unfold near
  rw [hc y (by rw [hr]; simp), Bool.true_or, Bool.true_or]
 unfold S0
 by_cases c1 : 1 ≤ ah
 ·rw [if_pos c1, kpL_pos c1, e, go_open c (s :: R) left rest out _ _ _ hn, ← e, fold_exp hx (E := [⟨1, ah, []⟩]) (by
   have := noLast_snoc (E := []) (e := ⟨1, ah, []⟩) (op := x.f0) (Ne.symm h)
   exact this)]
 ·obtain rfl : ah = 0 := by omega
  rw [if_neg c1, kpL_zero (by omega), e, go_new c s R left rest out hn, ← e, fold_exp hx (noLast_nil _), h1, h2]
  simp
/-- A change's steps, one being open. -/
theorem go_change1 (c : Nat) {x : EdS} (hx : May x) (h : x.f0 ≠ 1) (left rest : List Stp) (out : List HkS) (p q F T : Int) {E : List EdS} (hE : NoLast E x.f0) :
  goN c left (expS x p q ++ rest) (out ++ [⟨F, T, E⟩], true) = goN c ((expS x p q).reverse ++ left) rest (out ++ [⟨F, T, E ++ [x]⟩], true) := by
 obtain ⟨s, R, e, h1, h2, hc⟩ := exp_chg hx h p q
 rw [e, go_open c (s :: R) left rest out F T E (fun R1 y R2 hr => by
  unfold near
  rw [hc y (by rw [hr]; simp), Bool.true_or, Bool.true_or]), ← e, fold_exp hx hE]
theorem rev_hd {x : EdS} (hx : May x) (h : x.f0 ≠ 1) (p q : Int) (left : List Stp) : hd ((expS x p q).reverse ++ left) := by
 obtain ⟨s, R, e, _, _, hc⟩ := exp_chg hx h p q
 rw [e]
 rcases List.eq_nil_or_concat (s :: R) with h0 | ⟨L, b, h0⟩
 ·cases h0
 ·rw [List.concat_eq_append] at h0
  rw [h0, List.reverse_append]
  exact ⟨b, L.reverse ++ left, rfl, hc b (by rw [h0]; simp)⟩
/-- The first part of a run, near by the change ahead of it. -/
theorem go_left (c n m : Nat) (p q p' q' : Int) {l0 : List Stp} (rest : List Stp) (h0 : hd l0) (hn : n ≤ c) (out : List HkS) (F T : Int) {E : List EdS} (hE : NoLast E 1) :
  goN c l0 (runK n p q ++ (runK m p' q' ++ rest)) (out ++ [⟨F, T, E⟩], true) = goN c ((runK n p q).reverse ++ l0) (runK m p' q' ++ rest) (out ++ [⟨F, T, E ++ kpL (n : Int)⟩], true) := by
 have h := near_left c n m p q p' q' (ks := []) (l0 := l0) rest (fun x hx => by cases hx) h0 (by rw [List.length_nil]; omega)
 rw [go_open c (runK n p q) l0 (runK m p' q' ++ rest) out F T E h]
 cases n with
 | zero => rw [kpL_zero (by omega), List.append_nil]; rfl
 | succ n => rw [foldK_new (n + 1) p q hE (by omega), kpL_pos (by omega)]
theorem one_of {x : EdS} (hx : May x) (h : x.f0 = 1) : ∃ m : Nat, x = ⟨1, ((m + 1 : Nat) : Int), []⟩ := by
 obtain ⟨f0, f1, f2⟩ := x
 obtain ⟨h1, h2⟩ := hx
 simp only at h h1 h2
 subst h
 rcases h2 with ⟨_, h3⟩ | ⟨h3, _⟩
 ·exact ⟨(f1 - 1).toNat, by rw [h3, show (((f1 - 1).toNat + 1 : Nat) : Int) = f1 by omega]⟩
 ·cases h3
theorem main (c : Nat) (n : Nat) : ∀ t : List EdS, t.length ≤ n → Chn t → (∀ x ∈ t, May x) →
  (∀ left p q ah out x t', t = x :: t' → x.f0 ≠ 1 → 0 ≤ ah → (goN c left (stepsOf t p q) (S0 out ah p q)).1 = out ++ mk0 c t p q ah) ∧
  (∀ left p q out F T E, (∀ x t', t = x :: t' → (x.f0 = 1 → hd left) ∧ NoLast E x.f0) → (goN c left (stepsOf t p q) (out ++ [⟨F, T, E⟩], true)).1 = out ++ mk1 c t p q F T E) := by
 induction n with
 | zero =>
  intro t hl _ _
  obtain rfl : t = [] := List.eq_nil_of_length_eq_zero (by omega)
  exact ⟨fun left p q ah out x t' h => (by cases h), fun left p q out F T E _ => by simp [stepsOf, goN, mk1]⟩
 | succ n ih =>
  intro t hl hc hm
  cases t with
  | nil => exact ⟨fun left p q ah out x t' h => (by cases h), fun left p q out F T E _ => by simp [stepsOf, goN, mk1]⟩
  | cons x t =>
   have hx := hm x List.mem_cons_self
   have hm' : ∀ y ∈ t, May y := fun y hy => hm y (List.mem_cons_of_mem _ hy)
   have hc' : Chn t := by
    cases t with
    | nil => trivial
    | cons y t => exact hc.2
   have hne : ∀ y t', t = y :: t' → x.f0 ≠ y.f0 := fun y t' e => by subst e; exact hc.1.1
   rw [List.length_cons] at hl
   obtain ⟨iA, iB⟩ := ih t (by omega) hc' hm'
   refine ⟨fun left p q ah out y t' e h1 ha => ?_, fun left p q out F T E hh => ?_⟩
   ·injection e with e1 e2
    subst e1 e2
    rw [stepsOf, go_change0 c hx h1 left _ out p q ah ha, iB _ _ _ _ _ _ _ (fun y t' e => ⟨fun _ => rev_hd hx h1 p q left, noLast_snoc (hne y t' e)⟩), mk0, if_neg h1]
   ·obtain ⟨hL, hE⟩ := hh x t rfl
    by_cases h1 : x.f0 = 1
    ·have h0 := hL h1
     rw [h1] at hE
     obtain ⟨m, rfl⟩ := one_of hx h1
     have eS : stepsOf (⟨1, ((m + 1 : Nat) : Int), []⟩ :: t) p q = runK (m + 1) p q ++ stepsOf t (p + ((m + 1 : Nat) : Int)) (q + ((m + 1 : Nat) : Int)) := by
      rw [stepsOf]
      unfold expS adv1 adv2
      simp only [if_true, Int.toNat_natCast]
      rw [if_neg (show ¬ ((1 : Int) = 3) by decide), if_neg (show ¬ ((1 : Int) = 2) by decide)]
     have a1 : adv1 p (⟨1, ((m + 1 : Nat) : Int), []⟩ : EdS) = p + ((m + 1 : Nat) : Int) := by unfold adv1; simp
     have a2 : adv2 q (⟨1, ((m + 1 : Nat) : Int), []⟩ : EdS) = q + ((m + 1 : Nat) : Int) := by unfold adv2; simp
     rw [eS, mk1, a1, a2]
     generalize hP : p + ((m + 1 : Nat) : Int) = P at iA iB ⊢
     generalize hQ : q + ((m + 1 : Nat) : Int) = U at iA iB ⊢
     -- the run's parts: n1 near by the left
     have far_end : ∀ (n1 : Nat) (rest : List Stp) (st : List HkS × Bool), n1 ≤ m + 1 → (n1 = m + 1 ∨ c ≤ n1) → rest = [] → (goN c ((runK n1 p q).reverse ++ left) (runK (m + 1 - n1) (p + n1) (q + n1) ++ rest) st).1 = st.1 := by
      intro n1 rest st hle hor hr
      subst hr
      by_cases e : n1 = m + 1
      ·rw [e, Nat.sub_self]; rfl
      ·have hq := go_far c (runK (m + 1 - n1) (p + n1) (q + n1)) ((runK n1 p q).reverse ++ left) [] st (fun h => by
        have := runK_len (m + 1 - n1) (p + n1) (q + n1)
        rw [h, List.length_nil] at this
        omega) (fun R1 y R2 h => by
        have := near_far c (m + 1 - n1) 0 (p + n1) (q + n1) 0 0 (ks := (runK n1 p q).reverse) (l0 := left) (rest := []) (fun x hx => runK_keeps n1 p q x (List.mem_reverse.1 hx)) (.inr ⟨h0, by rw [List.length_reverse, runK_len]; omega⟩) (.inl rfl) R1 y R2 h
        exact this)
       rw [hq]
       rfl
     cases t with
     | nil =>
      rw [if_pos ⟨rfl, .inr rfl⟩, mk0, stepsOf]
      have hmn : ∃ n1 : Nat, mn ((m + 1 : Nat) : Int) (c : Int) = (n1 : Int) ∧ n1 ≤ m + 1 ∧ n1 ≤ c ∧ (n1 = m + 1 ∨ c ≤ n1) := by
       unfold mn
       split
       ·exact ⟨c, rfl, by omega, by omega, .inr (Nat.le_refl _)⟩
       ·exact ⟨m + 1, rfl, by omega, by omega, .inl rfl⟩
      obtain ⟨n1, e1, e2, e3, e4⟩ := hmn
      have er : runK (m + 1) p q = runK n1 p q ++ runK (m + 1 - n1) (p + n1) (q + n1) := by rw [← runK_add, show n1 + (m + 1 - n1) = m + 1 by omega]
      rw [er, List.append_assoc, go_left c n1 (m + 1 - n1) p q _ _ [] h0 e3 out F T hE, far_end n1 [] _ e2 e4 rfl, e1]
     | cons y t' =>
      have hy := hm y (by simp)
      have hy1 : y.f0 ≠ 1 := fun e => hne y t' rfl e.symm
      have hr := steps_hd (t := t') hy hy1 P U
      by_cases big : ((m + 1 : Nat) : Int) > 2 * (c : Int)
      ·rw [if_pos ⟨rfl, .inl big⟩]
       have e1 : mn ((m + 1 : Nat) : Int) (c : Int) = (c : Int) := by unfold mn; rw [if_pos (by omega)]
       rw [e1]
       have er : runK (m + 1) p q = runK c p q ++ (runK (m + 1 - 2 * c) (p + c) (q + c) ++ runK c (p + c + ((m + 1 - 2 * c : Nat) : Int)) (q + c + ((m + 1 - 2 * c : Nat) : Int))) := by
        rw [← runK_add, ← runK_add, show c + (m + 1 - 2 * c + c) = m + 1 by omega]
       have er2 : runK (m + 1 - 2 * c) (p + c) (q + c) ++ runK c (p + c + ((m + 1 - 2 * c : Nat) : Int)) (q + c + ((m + 1 - 2 * c : Nat) : Int)) = runK (m + 1 - 2 * c + c) (p + c) (q + c) := (runK_add _ _ _ _).symm
       rw [er, List.append_assoc, er2, go_left c c (m + 1 - 2 * c + c) p q _ _ _ h0 (Nat.le_refl _) out F T hE, ← er2, List.append_assoc]
       rw [go_far c (runK (m + 1 - 2 * c) (p + c) (q + c)) _ _ _ (fun h => by
        have := runK_len (m + 1 - 2 * c) (p + c) (q + c)
        rw [h, List.length_nil] at this
        omega) (near_far c (m + 1 - 2 * c) c (p + c) (q + c) _ _ (ks := (runK c p q).reverse) (l0 := left) (fun x hx => runK_keeps c p q x (List.mem_reverse.1 hx)) (.inr ⟨h0, by rw [List.length_reverse, runK_len]; omega⟩) (.inr ⟨hr, Nat.le_refl _⟩))]
       have key : goN c ((runK (m + 1 - 2 * c) (p + c) (q + c)).reverse ++ ((runK c p q).reverse ++ left)) (runK c (p + c + ((m + 1 - 2 * c : Nat) : Int)) (q + c + ((m + 1 - 2 * c : Nat) : Int)) ++ stepsOf (y :: t') P U) (out ++ [⟨F, T, E ++ kpL (c : Int)⟩], false) = goN c ((runK c (p + c + ((m + 1 - 2 * c : Nat) : Int)) (q + c + ((m + 1 - 2 * c : Nat) : Int))).reverse ++ ((runK (m + 1 - 2 * c) (p + c) (q + c)).reverse ++ ((runK c p q).reverse ++ left))) (stepsOf (y :: t') P U) (S0 (out ++ [⟨F, T, E ++ kpL (c : Int)⟩]) (c : Int) P U) := by
        unfold S0
        by_cases c0 : c = 0
        ·subst c0; rw [if_neg (by omega)]; rfl
        ·rw [if_pos (by omega)]
         obtain ⟨d, rfl⟩ : ∃ d, c = d + 1 := ⟨c - 1, by omega⟩
         have hn := near_right (d + 1) (d + 1) (p + ((d + 1 : Nat) : Int) + ((m + 1 - 2 * (d + 1) : Nat) : Int)) (q + ((d + 1 : Nat) : Int) + ((m + 1 - 2 * (d + 1) : Nat) : Int)) (ks := (runK (m + 1 - 2 * (d + 1)) (p + ((d + 1 : Nat) : Int)) (q + ((d + 1 : Nat) : Int))).reverse) (l0 := (runK (d + 1) p q).reverse ++ left) (fun x hx => runK_keeps _ _ _ x (List.mem_reverse.1 hx)) hr (Nat.le_refl _)
         have e5 : P - ((d + 1 : Nat) : Int) = p + ((d + 1 : Nat) : Int) + ((m + 1 - 2 * (d + 1) : Nat) : Int) := by omega
         have e6 : U - ((d + 1 : Nat) : Int) = q + ((d + 1 : Nat) : Int) + ((m + 1 - 2 * (d + 1) : Nat) : Int) := by omega
         rw [e5, e6]
         generalize p + ((d + 1 : Nat) : Int) + ((m + 1 - 2 * (d + 1) : Nat) : Int) = a at hn ⊢
         generalize q + ((d + 1 : Nat) : Int) + ((m + 1 - 2 * (d + 1) : Nat) : Int) = b at hn ⊢
         rw [show runK (d + 1) a b = ⟨1, [], a, b⟩ :: runK d (a + 1) (b + 1) from rfl] at hn ⊢
         rw [go_new (d + 1) ⟨1, [], a, b⟩ (runK d (a + 1) (b + 1)) _ _ _ hn]
         have ef := foldK_new (d + 1) a b (noLast_nil 1) (by omega)
         rw [show runK (d + 1) a b = ⟨1, [], a, b⟩ :: runK d (a + 1) (b + 1) from rfl] at ef
         rw [ef, List.nil_append]
       rw [key, iA _ P U (c : Int) _ y t' rfl hy1 (by omega), List.append_assoc]
       rfl
      ·rw [if_neg (fun h => by rcases h.2 with h | h; exact big h; cases h)]
       have hmn : ∃ n1 : Nat, n1 ≤ m + 1 ∧ n1 ≤ c ∧ m + 1 - n1 ≤ c ∧ 1 ≤ n1 ∨ c = 0 := by
        by_cases c0 : c = 0
        ·exact ⟨0, .inr c0⟩
        ·by_cases c1 : c ≤ m + 1
         ·exact ⟨c, .inl ⟨c1, Nat.le_refl _, by omega, by omega⟩⟩
         ·exact ⟨m + 1, .inl ⟨Nat.le_refl _, by omega, by omega, by omega⟩⟩
       obtain ⟨n1, ⟨e1, e2, e3, e4⟩ | c0⟩ := hmn
       ·have er : runK (m + 1) p q = runK n1 p q ++ runK (m + 1 - n1) (p + n1) (q + n1) := by rw [← runK_add, show n1 + (m + 1 - n1) = m + 1 by omega]
        rw [er, List.append_assoc, go_left c n1 (m + 1 - n1) p q _ _ _ h0 e2 out F T hE]
        rw [go_open c (runK (m + 1 - n1) (p + n1) (q + n1)) _ _ _ _ _ _ (near_right c (m + 1 - n1) (p + n1) (q + n1) (ks := (runK n1 p q).reverse) (l0 := left) (fun x hx => runK_keeps n1 p q x (List.mem_reverse.1 hx)) hr e3), kpL_pos (show (1 : Int) ≤ (n1 : Int) by omega), foldK, show (n1 : Int) + ((m + 1 - n1 : Nat) : Int) = ((m + 1 : Nat) : Int) by omega]
        exact iB _ P U out F T _ (fun z t'' e => ⟨fun hz => absurd hz (by injection e with e; rw [← e]; exact hy1), noLast_snoc (by injection e with e; rw [← e]; exact Ne.symm hy1)⟩)
       ·exfalso; omega
    ·rw [stepsOf, go_change1 c hx h1 left _ out p q F T hE, iB _ _ _ _ _ _ _ (fun y t' e => ⟨fun _ => rev_hd hx h1 p q left, noLast_snoc (hne y t' e)⟩), mk1, if_neg (fun h => h1 h.1)]
/-- The document's hunks are the program's. -/
theorem refMake_made (c : Nat) (s : List EdS) (hc : Chn s) (hm : ∀ x ∈ s, May x) : refMake c s = made c s := by
 unfold refMake made
 cases s with
 | nil => simp [stepsOf, goN, mk0]
 | cons x t =>
  have hx := hm x List.mem_cons_self
  have hm' : ∀ y ∈ t, May y := fun y hy => hm y (List.mem_cons_of_mem _ hy)
  have hc' : Chn t := by
   cases t with
   | nil => trivial
   | cons y t => exact hc.2
  by_cases h1 : x.f0 = 1
  ·obtain ⟨m, rfl⟩ := one_of hx h1
   have eS : stepsOf (⟨1, ((m + 1 : Nat) : Int), []⟩ :: t) 0 0 = runK (m + 1) 0 0 ++ stepsOf t (0 + ((m + 1 : Nat) : Int)) (0 + ((m + 1 : Nat) : Int)) := by
    rw [stepsOf]
    unfold expS adv1 adv2
    simp only [if_true, Int.toNat_natCast]
    rw [if_neg (show ¬ ((1 : Int) = 3) by decide), if_neg (show ¬ ((1 : Int) = 2) by decide)]
   have a1 : adv1 0 (⟨1, ((m + 1 : Nat) : Int), []⟩ : EdS) = 0 + ((m + 1 : Nat) : Int) := by unfold adv1; simp
   have a2 : adv2 0 (⟨1, ((m + 1 : Nat) : Int), []⟩ : EdS) = 0 + ((m + 1 : Nat) : Int) := by unfold adv2; simp
   rw [eS, mk0, if_pos rfl, a1, a2]
   generalize hP : (0 : Int) + ((m + 1 : Nat) : Int) = P
   cases t with
   | nil =>
    rw [mk0, stepsOf]
    rw [go_far c (runK (m + 1) 0 0) [] [] ([], false) (fun h => by
     have := runK_len (m + 1) 0 0
     rw [h] at this
     cases this) (near_far c (m + 1) 0 0 0 0 0 (ks := []) (l0 := []) (rest := []) (fun x hx => by cases hx) (.inl rfl) (.inl rfl))]
    rfl
   | cons y t' =>
    have hy := hm y (by simp)
    have hy1 : y.f0 ≠ 1 := fun e => hc.1.1 e.symm
    have hr := steps_hd (t := t') hy hy1 P P
    obtain ⟨iA, _⟩ := main c _ (y :: t') (Nat.le_refl _) hc' hm'
    have hmn : ∃ n1 : Nat, mn ((m + 1 : Nat) : Int) (c : Int) = (n1 : Int) ∧ n1 ≤ m + 1 ∧ n1 ≤ c ∧ (n1 = m + 1 ∨ n1 = c) := by
     unfold mn
     split
     ·exact ⟨c, rfl, by omega, by omega, .inr rfl⟩
     ·exact ⟨m + 1, rfl, by omega, by omega, .inl rfl⟩
    obtain ⟨n1, e1, e2, e3, e4⟩ := hmn
    rw [e1]
    -- the run: m + 1 - n1 far, n1 near by the right
    have step1 : goN c [] (runK (m + 1) 0 0 ++ stepsOf (y :: t') P P) ([], false) = goN c ((runK (m + 1 - n1) 0 0).reverse ++ []) (runK n1 (0 + ((m + 1 - n1 : Nat) : Int)) (0 + ((m + 1 - n1 : Nat) : Int)) ++ stepsOf (y :: t') P P) ([], false) := by
     have er : runK (m + 1) 0 0 = runK (m + 1 - n1) 0 0 ++ runK n1 (0 + ((m + 1 - n1 : Nat) : Int)) (0 + ((m + 1 - n1 : Nat) : Int)) := by rw [← runK_add, show m + 1 - n1 + n1 = m + 1 by omega]
     by_cases e : n1 = m + 1
     ·subst e
      rw [er, Nat.sub_self]
      rfl
     ·rw [er, List.append_assoc]
      exact go_far c (runK (m + 1 - n1) 0 0) [] _ ([], false) (fun h => by
       have := runK_len (m + 1 - n1) 0 0
       rw [h, List.length_nil] at this
       omega) (near_far c (m + 1 - n1) n1 0 0 _ _ (ks := []) (l0 := []) (fun x hx => by cases hx) (.inl rfl) (.inr ⟨hr, by omega⟩))
    have step2 : goN c ((runK (m + 1 - n1) 0 0).reverse ++ []) (runK n1 (0 + ((m + 1 - n1 : Nat) : Int)) (0 + ((m + 1 - n1 : Nat) : Int)) ++ stepsOf (y :: t') P P) ([], false) = goN c ((runK n1 (0 + ((m + 1 - n1 : Nat) : Int)) (0 + ((m + 1 - n1 : Nat) : Int))).reverse ++ ((runK (m + 1 - n1) 0 0).reverse ++ [])) (stepsOf (y :: t') P P) (S0 [] (n1 : Int) P P) := by
     unfold S0
     by_cases c0 : n1 = 0
     ·subst c0; rw [if_neg (by omega)]; rfl
     ·rw [if_pos (by omega)]
      obtain ⟨d, rfl⟩ : ∃ d, n1 = d + 1 := ⟨n1 - 1, by omega⟩
      have hn := near_right c (d + 1) (0 + ((m + 1 - (d + 1) : Nat) : Int)) (0 + ((m + 1 - (d + 1) : Nat) : Int)) (ks := (runK (m + 1 - (d + 1)) 0 0).reverse) (l0 := []) (fun x hx => runK_keeps _ _ _ x (List.mem_reverse.1 hx)) hr e3
      have e5 : P - ((d + 1 : Nat) : Int) = 0 + ((m + 1 - (d + 1) : Nat) : Int) := by omega
      rw [e5]
      generalize (0 : Int) + ((m + 1 - (d + 1) : Nat) : Int) = a at hn ⊢
      rw [show runK (d + 1) a a = ⟨1, [], a, a⟩ :: runK d (a + 1) (a + 1) from rfl] at hn ⊢
      rw [go_new c ⟨1, [], a, a⟩ (runK d (a + 1) (a + 1)) _ _ _ hn]
      have ef := foldK_new (d + 1) a a (noLast_nil 1) (by omega)
      rw [show runK (d + 1) a a = ⟨1, [], a, a⟩ :: runK d (a + 1) (a + 1) from rfl] at ef
      rw [ef]
      rfl
    rw [step1, step2, iA _ P P (n1 : Int) [] y t' rfl hy1 (by omega), List.nil_append]
  ·obtain ⟨iA, _⟩ := main c _ (x :: t) (Nat.le_refl _) hc hm
   have h := iA [] 0 0 0 [] x t rfl h1 (Int.le_refl _)
   unfold S0 at h
   rw [if_neg (by omega), List.nil_append] at h
   exact h
end Go.Proofs.Ytgobidmfbjmpkaa.Q
end
