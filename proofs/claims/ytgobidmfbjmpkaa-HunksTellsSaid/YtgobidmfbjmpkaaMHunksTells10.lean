/- Texts of this claim, joined: EAll6, Pxf44, Pxf19, Pxf45, Pxf21. -/
import Derived.Lib.Hide
import Derived.Test.YtgobidmfbjmpkaaMHunksTells1
import Derived.Test.YtgobidmfbjmpkaaMHunksTells9
import Derived.Test.YtgobidmfbjmpkaaMHunksTells2
import Derived.Test.YtgobidmfbjmpkaaMHunksTells8
section
/- collatorref06.all: two scripts as one: by a walk of its text. -/
set_option linter.unusedVariables false
set_option linter.unusedSimpArgs false
namespace Go.Proofs.Ytgobidmfbjmpkaa.Held
open Go Go.RowKit Go.Proofs.YtgobidmfbjmpkaaW.PrintWords Go.Proofs.YtgobidmfbjmpkaaW.PrintMore
/-- An append, in a fenced region, as outside. -/
theorem of_wp {F : Fence} {n : Nat} {P : Program} {w : World} {o : Oper} {a : Act} {K : Act → World → Prop} {Q : Exit → Act → World → Prop} (s x : Operand) (t : TypeId) (ho : o.op = .call { callee := .builtin .append, args := #[s, x], argTypes := #[t, t] }) (h : o.wp P a w K Q) : o.wpIn F n P a w K Q := by
 unfold Oper.wp at h
 unfold Oper.wpIn
 refine ⟨by simp [Oper.about, ho, resolve, Target.leads, Sem.run_pure], ?_⟩
 rw [Oper.semAt_eq _ _ _ (by rw [ho]; intro c hc'; cases hc')]
 simp [execOp, ho, resolve, invoke, builtin] at h ⊢
 generalize Sem.run P (Builtin.append_ #[t, t] o.type #[a.eval s, a.eval x]) w = r at h ⊢
 cases r with
 | ok v w' => exact h
 | halt e w' => cases e <;> exact h
/-- An append of a row that is read, in a region that draws its order. -/
theorem N_rows {α : Type} (d : Kd α) {F : Fence} {n : Nat} {P : Program} {w : World} {o : Oper} {a : Act} {K : Act → World → Prop} {Q : Exit → Act → World → Prop} (base : Nat) (s x : Operand) (t e : TypeId) (z : Value) (bytes : Nat)
  (ho : o.op = .call { callee := .builtin .append, args := #[s, x], argTypes := #[t, t] }) (hgd : o.guard = none)
  (ht : P.underlying t = some (.slice e)) (hinfo : (P.info? e).map (fun i => (i.zero, i.size, i.bytes)) = some (some z, d.sz, bytes)) (hz : z.cells.size = d.sz) (hs0 : 0 < d.sz) (hb0 : 0 < bytes)
  (v : Value) (xs ys : List α) (A : Option Addr) (m c : Nat) (ok okp : Nat → Prop) (hs : a.eval s = v) (hx : a.eval x = .slice A m c)
  (HO : Kd.N d e w base ok v xs) (HR : Kd.F d w okp A m ys) (hokp : ∀ k, okp k → ok k ∧ some k ≠ v.ownBlock) (hfresh : ∀ k, w.heap.size ≤ k → ok k) (hbase : base ≤ w.heap.size) (hl : (xs.length + m) * bytes ≤ 140737488355328)
  (h : ∀ v1 w1, Kd.N d e w1 base ok v1 (xs ++ ys) → w.grownBy w1 v.ownBlock → (v1.ownBlock = v.ownBlock ∨ ∃ b, v1.ownBlock = some b ∧ w.heap.size ≤ b) → K (a.put o.dst v1) w1) : o.wpIn F n P a w K Q := by
 refine of_wp s x t ho ?_
 have h1 := Kd.N_append_rows_step (ops := #[]) (Q := Q) (Kc := K) d (w0 := w) base (by simp [Region.wanted, hgd]) s x t e z bytes ho ht hinfo hz hs0 hb0 v xs ys A m c ok okp hs hx HO HR hokp hfresh ((Below.refl _ _)) hbase hl (fun v1 w1 h2 _ h3 h4 => h v1 w1 h2 h3 h4)
 rwa [if_pos (by simp [Region.wanted, hgd])] at h1
/-- An append of strings that are read, in a region that draws its order. -/
theorem R_strs {F : Fence} {n : Nat} {P : Program} {w : World} {o : Oper} {a : Act} {K : Act → World → Prop} {Q : Exit → Act → World → Prop} (base : Nat) (s x : Operand) (t e : TypeId) (z : Value) (bytes : Nat)
  (ho : o.op = .call { callee := .builtin .append, args := #[s, x], argTypes := #[t, t] }) (hgd : o.guard = none)
  (ht : P.underlying t = some (.slice e)) (hinfo : (P.info? e).map (fun i => (i.zero, i.size, i.bytes)) = some (some z, 1, bytes)) (hz : z.cells.size = 1) (hb0 : 0 < bytes)
  (v : Value) (xs ys : List ByteArray) (A : Option Addr) (m c : Nat) (hs : a.eval s = v) (hx : a.eval x = .slice A m c)
  (HO : Kd.R Kd.string e w base (fun k => base ≤ k) v xs) (HR : Kd.C Kd.string w A m ys) (hbase : base ≤ w.heap.size) (hl : (xs.length + m) * bytes ≤ 140737488355328)
  (h : ∀ v1 w1, Kd.R Kd.string e w1 base (fun k => base ≤ k) v1 (xs ++ ys) → w.grownBy w1 v.ownBlock → (v1.ownBlock = v.ownBlock ∨ ∃ b, v1.ownBlock = some b ∧ w.heap.size ≤ b) → K (a.put o.dst v1) w1) : o.wpIn F n P a w K Q := by
 refine of_wp s x t ho ?_
 have h1 := Kd.R_append_rows_step (ops := #[]) (Q := Q) (Kc := K) Kd.string (w0 := w) base (by simp [Region.wanted, hgd]) s x t e z bytes ho ht hinfo hz (by decide) hb0 v xs ys A m c (fun k => base ≤ k) (fun _ => False) hs hx HO HR (fun _ _ h => h) (fun _ h => h.elim) (fun k hk => by omega) (Below.refl _ _) hbase hl (fun v1 w1 h2 _ h3 h4 => h v1 w1 h2 h3 h4)
 rwa [if_pos (by simp [Region.wanted, hgd])] at h1
theorem alloc_ {y u : World} {cs : Array Value} {t : TypeId} (h : y = u.alloc (.cells cs t)) : ∃ b, u.heap.size = b ∧ y.heap[b]? = some (.cells cs t (0, 0)) ∧ Below u.heap.size u y := ⟨_, rfl, by rw [h]; exact heap_alloc_new u _, by rw [h]; exact (Below.refl _ _).alloc (Nat.le_refl _) _⟩
/-- A literal's own block, as a row of one. -/
theorem F_box {α : Type} {d : Kd α} {w : World} {b : Nat} {e : TypeId} {cs : List Value} {p : α} {ok : Nat → Prop} (hb : w.heap[b]? = some (.cells cs.toArray e (0, 0))) (hp : Kd.FK d w ok p cs) : Kd.F d w (fun k => ok k ∨ k = b) (some ⟨b, 0, none⟩) 1 [p] := by
 have hlt : b < w.heap.size := (Array.getElem?_eq_some_iff.1 hb).1
 intro W hW
 refine ⟨rfl, by omega, fun _ => ⟨_, rfl, fun j q hj => ?_⟩⟩
 have hj0 : j = 0 := by have := (List.getElem?_eq_some_iff.1 hj).1; simp at this; omega
 subst hj0
 obtain rfl : p = q := by simpa using hj
 have hbW : W.heap[b]? = some (.cells cs.toArray e (0, 0)) := (hW b (.inr rfl) hlt).trans hb
 refine ⟨cs, d.K_len (Kd.FK_now hp), hp W (fun k hk hl => hW k (.inl hk) hl), fun i u hu => ?_⟩
 rw [Nat.zero_mul, Nat.zero_add]
 have := World.news_of_block (cs := cs.toArray) (t := e) (fr := (0, 0)) hbW i u (by simpa using hu)
 exact this
end Go.Proofs.Ytgobidmfbjmpkaa.Held
namespace Go.Proofs.Ytgobidmfbjmpkaa.P
open Go Go.RowKit Go.Proofs.YtgobidmfbjmpkaaW.PrintWords Go.Proofs.YtgobidmfbjmpkaaW.PrintLast Go.Proofs.YtgobidmfbjmpkaaW.PrintMore
def allL (s t : List S31) : List S31 := match s.getLast?, t with
 | some e, x :: t' => if e.f0 = x.f0 then s.dropLast ++ [⟨x.f0, e.f1 + x.f1, e.f2 ++ x.f2⟩] ++ t' else s ++ t
 | _, _ => s ++ t
theorem rdT_ {s : List S31} {i : Nat} {x : S31} (h : s[i]? = some x) : rd_T31 s (i : Int) = x := by
 unfold rd_T31
 rw [Int.toNat_natCast, List.getD_eq_getElem?_getD, h]; rfl
theorem last_split {l : List S31} {m : Nat} (h : l.length = m + 1) : l = l.take m ++ [rd_T31 l (m : Int)] := by
 have h1 := List.take_append_drop m l
 have h2 : l.drop m = [l[m]'(by omega)] := by rw [List.drop_eq_getElem_cons (by omega), List.drop_of_length_le (by omega)]
 rw [h2] at h1
 rw [rdT_ (List.getElem?_eq_getElem (by omega))]
 exact h1.symm
theorem head_split {l : List S31} (h : 0 < l.length) : l = rd_T31 l 0 :: l.drop 1 := by
 cases l with
 | nil => cases h
 | cons x t => rfl
theorem all_app {l0 l1 : List S31} (hc : l0 = [] ∨ (l0 ≠ [] ∧ l1 = []) ∨ ∃ m e x, l0.length = m + 1 ∧ 0 < l1.length ∧ e = rd_T31 l0 (m : Int) ∧ x = rd_T31 l1 0 ∧ e.f0 ≠ x.f0) : allL l0 l1 = l0 ++ l1 := by
 rcases hc with rfl | ⟨_, rfl⟩ | ⟨m, e, x, hm, hv, hE, hX, hne⟩
 ·rfl
 ·unfold allL
  cases l0.getLast? <;> rfl
 ·rw [last_split hm, head_split hv, ← hE, ← hX]
  unfold allL
  rw [List.getLast?_concat]
  simp [hne]
def AllOk (l : List S31) : Prop := l.length ≤ 1000000000000 ∧ ∀ x ∈ l, (-1000000000000 ≤ x.f1 ∧ x.f1 ≤ 1000000000000) ∧ x.f2.length ≤ 1000000000000
instance (l : List S31) : Decidable (AllOk l) := by unfold AllOk; exact inferInstance
def S5 (p : Addr) (u : Value) (q : Addr) (v : Value) (r : Addr) (t : Value) (p' : Addr) (u' : Value) (q' : Addr) (v' : Value) (w : World) : Prop := w.cell? p = some u ∧ w.cell? q = some v ∧ w.cell? r = some t ∧ w.cell? p' = some u' ∧ w.cell? q' = some v'
theorem tke {F : Fence} {n : Nat} {P : Program} {ops : Array Oper} {Q : Exit → Act → World → Prop} {md : Region.Mode} {z : Nat} {p q r p' q' : Addr} {c1 c2 c3 c4 c5 : Value} {i : Nat} {oi : Oper} {tl : List Oper} {v : Value} {f : Nat} {l : Array Bool} {a a' : Act} {w : World}
  (hi : ops.toList.drop i = oi :: tl) (hS : S5 p c1 q c2 r c3 p' c4 q' c5 w) (h : Held.AnyS F n P md ops Q (S5 p c1 q c2 r c3 p' c4 q' c5) z f (l.setIfInBounds i true) a' w)
  (hy : ∀ w, S5 p c1 q c2 r c3 p' c4 q' c5 w → (execOp a.eval oi).run P w = .ok (.value v) w := by intro w' hw'; obtain ⟨s0, s1, s2, s3, s4⟩ := hw'; go_simp; try (with_reducible rfl))
  (hp : a.put oi.dst v = a' := by simp only [Act.put, List.setIfInBounds_toArray, List.set_cons_zero, List.set_cons_succ]; rfl)
  (hc : (Held.noDefer ops && Region.noSelect ops && Held.tied md ops z i && Region.free md ops l i && (Region.ready md ops l).contains i) = true := by kernel_rfl)
  (hQ : ∀ c a w, Q (.panic c) (a.put oi.dst v) w → Q (.panic c) a w := by exact fun _ _ _ h => h) (hw : Region.wanted oi (yielded ops a.tmps) = true := by rfl) (ha : ∀ w, oi.about P w a.eval = none := by exact fun _ => rfl) : Held.AnyS F n P md ops Q (S5 p c1 q c2 r c3 p' c4 q' c5) z (f + 1) l a w :=
 Held.AnyS.take hi hc hQ hw ha hy hS (hp ▸ h)
theorem set3_ {w : World} {b : Nat} {a0 a1 a2 : Value} {t : TypeId} (h : w.heap[b]? = some (.cells #[a0, a1, a2] t (0, 0))) (v0 v1 v2 : Value) : ∃ w', ((w.setCell ⟨b, 0, none⟩ v0).setCell ⟨b, 1, none⟩ v1).setCell ⟨b, 2, none⟩ v2 = w' ∧ w'.heap[b]? = some (.cells #[v0, v1, v2] t (0, 0)) ∧ (∀ c, c ≠ b → w'.heap[c]? = w.heap[c]?) ∧ ∀ (W : World), Below W.heap.size W w → W.heap.size ≤ b → Below W.heap.size W w' :=
 ⟨_, rfl, blk_set (blk_set (blk_set h 0 v0) 1 v1) 2 v2, fun c hc => by
  rw [Below.heap_setCell _ ⟨b, 2, none⟩ v2 c hc, Below.heap_setCell _ ⟨b, 1, none⟩ v1 c hc, Below.heap_setCell _ ⟨b, 0, none⟩ v0 c hc], fun W hW hb => below_set (below_set (below_set hW hb) hb) hb⟩
def sndA : Nat → Code → Code
 | 0, c => c
 | n + 1, .seq _ b => sndA n b
 | _ + 1, c => c
set_option maxRecDepth 100000 in
set_option maxHeartbeats 4000000 in
theorem all_r5 (P0_ P1_ : Nat → Prop) (ad0 ad1 : Addr) (c0 c1 : Nat) (l0 l1 : List S31) (m : Nat) (ed : S31) (w W : World) (hf0 : Kd.F k31 w (fun k => P0_ k ∧ k < w.heap.size) (some ad0) l0.length l0) (hf1 : Kd.F k31 w (fun k => P1_ k ∧ k < w.heap.size) (some ad1) l1.length l1) (hc0 : l0.length ≤ c0) (hc1 : l1.length ≤ c1) (h0 : AllOk l0) (h1 : AllOk l1) (hm : l0.length = m + 1) (hv : 0 < l1.length) (hp : allL l0 l1 = l0.take m ++ [ed] ++ l1.drop 1)
  (AL : Option Addr) (cL eb : Nat) (x2 x3 x4 x7 x8 x9 x10 x11 x12 x13 x14 x15 x16 x17 x18 x19 x20 x21 x22 x23 x24 x25 x26 x27 x28 x29 x30 x31 x32 x33 x34 x35 x36 x37 x38 x39 x40 x41 x42 x43 x44 x45 x46 x47 x48 x49 x50 x51 x52 x53 x54 x55 x56 x57 x58 x59 x60 x61 x62 x63 x64 x65 x66 x67 x68 x69 x70 x71 : Value) (hL : Kd.R Kd.string 9 W w.heap.size (fun k => w.heap.size ≤ k) (.slice AL ed.f2.length cL) ed.f2) (hB : Below w.heap.size w W) (hE : W.heap[eb]? = some (.cells #[.int .i64 ed.f0, .int .i64 ed.f1, .slice AL ed.f2.length cL] 31 (0, 0))) :
  Code.wp Try.prog (sndA 4 (Try.f43.body.getD .skip)) (bodyPost Try.prog Try.f43 fun e w' => ∃ v0_ : Value, e = .returned v0_ ∧ Kd.N k31 31 w' w.heap.size (fun k_ => ((P0_ k_ ∨ P1_ k_) ∨ w.heap.size ≤ k_)) v0_ (allL l0 l1) ∧ Below w.heap.size w w') ⟨#[.slice (some ad0) l0.length c0, .slice (some ad1) l1.length c1, x2, x3, x4, .int .i64 (l0.length : Int), .pointer (some ⟨eb, 0, none⟩), x7, x8, x9, x10, x11, x12, x13, x14, x15, x16, x17, x18, x19, x20, x21, x22, x23, x24, x25, x26, x27, x28, x29, x30, x31, x32, x33, x34, x35, x36, x37, x38, x39, x40, x41, x42, x43, x44, x45, x46, x47, x48, x49, x50, x51, x52, x53, x54, x55, x56, x57, x58, x59, x60, x61, x62, x63, x64, x65, x66, x67, x68, x69, x70, x71], []⟩ W := by
 conv in sndA 4 _ => whnf
 have HC0 := Lib.hid hc0
 have H0 := Lib.hid h0
 have H1 := Lib.hid h1
 have HM := Lib.hid hm
 have HV := Lib.hid hv
 have HP := Lib.hid hp
 obtain ⟨Z, hZ⟩ : ∃ Z, Z = W.drew := ⟨_, rfl⟩
 have hW : Below W.heap.size W Z := by rw [hZ]; exact (Below.refl _ _).drew
 have hwZ := below_step hB hW
 have HWZ := Lib.hid hwZ.size
 have HBZ := Lib.hid hwZ
 have FA := Lib.hid (show Kd.F k31 Z (fun k => P0_ k ∧ k < w.heap.size) (some ad0) m (l0.take m) by
  have := Kd.F_take (m := m) (Kd.F_below hf0 hwZ) (by omega)
  rwa [show (l0.take m).length = m by rw [List.length_take]; omega] at this)
 have hsb := Kd.F_cut (m := 1) (c := c1) (Kd.F_below hf1 hwZ) (by omega) hc1
 have FE := Lib.hid (show Kd.FK k31 Z (fun k => w.heap.size ≤ k ∧ k < Z.heap.size) ed [.int .i64 ed.f0, .int .i64 ed.f1, .slice AL ed.f2.length cL] from Kd.FK_of_M (k31_mkM Z w.heap.size _ ed (Kd.R_mono (Kd.R_bound (Kd.R_below hL hW)) (fun k hk => ⟨hk.1, hk.2.2.1⟩))))
 have HE := Lib.hid (blk_below hE hW)
 have s1 : IntKind.i64.wrap ((l0.length : Int) - 1) = (m : Int) := by rw [i64_w, hm, show ((m + 1 : Nat) : Int) - 1 = (m : Int) by omega]; have := h0.1; unfold wrap64; omega
 have p0 := eq_true (show 0 ≤ (m : Int) by omega)
 have p1 := eq_true (show (m : Int) ≤ (l0.length : Int) by omega)
 have p2 := eq_true (show m ≤ c0 by omega)
 have p3 := eq_true (show (m : Int) ≤ (c0 : Int) by omega)
 obtain ⟨i0, hi0, _, hsz0, _⟩ := info_parts info31
 have hcut := cut_from (P := Try.prog) 26 31 .i64 Try.underlying26 hi0 3 hsz0 (some ad1) l1.length c1 1 (by omega) (by omega)
 rw [show ((1 : Int)).toNat = 1 from rfl] at hcut
 obtain ⟨A9, hA9⟩ : ∃ A, A = (if c1 = 1 then (some ad1) else ((some ad1) : Option Addr).map (·.add (1 * 3))) := ⟨_, rfl⟩
 obtain ⟨c9, hc9⟩ : ∃ q, q = c1 - 1 := ⟨_, rfl⟩
 have hn9 : (l1.drop 1).length = l1.length - 1 := List.length_drop
 rw [← hA9, ← hc9, ← hn9] at hcut
 have FB := Lib.hid (show Kd.F k31 Z (fun k => P1_ k ∧ k < w.heap.size) A9 (l1.drop 1).length (l1.drop 1) by rw [hA9]; exact hsb)
 clear hf0 hf1 hc0 hc1 h0 h1 hm hv hp hL hB hE hsb hwZ hW hA9 hc9 hi0 hsz0
 generalize hq9 : (l1.drop 1).length = n9 at hcut
 have HQ9 := Lib.hid hq9
 have n_ := Lib.hid (by have := FB.out; rw [hq9] at this; exact this)
 clear FB
 have FB := n_
 clear n_ hn9 hq9
 have HLT := Lib.hid (show (l0.take m).length = m by rw [List.length_take]; have := HM.out; omega)
 go_wp2
 rename_i K5 hEND5
 have HEND5 := Lib.hid hEND5
 clear hEND5
 refine (wpIn_wide (n := 9)).1 ?_
 refine Held.region 11 (Held.Same Z [eb]) (by kernel_rfl) ?_
 rw [← hZ]
 clear hZ
 have hT := Held.Same.refl Z [eb]
 have m0 : Z.cell? ⟨eb, 0, none⟩ = some (#[.int .i64 ed.f0, .int .i64 ed.f1, .slice AL ed.f2.length cL][0]) := (blk_cell HE.out 0).trans rfl
 have m1 : Z.cell? ⟨eb, 1, none⟩ = some (#[.int .i64 ed.f0, .int .i64 ed.f1, .slice AL ed.f2.length cL][1]) := (blk_cell HE.out 1).trans rfl
 have m2 : Z.cell? ⟨eb, 2, none⟩ = some (#[.int .i64 ed.f0, .int .i64 ed.f1, .slice AL ed.f2.length cL][2]) := (blk_cell HE.out 2).trans rfl
 refine Held.tk (i := 0) rfl hT ?_
 try simp only [Act.put, List.setIfInBounds_toArray, List.set_cons_zero, List.set_cons_succ]
 refine Held.tk (i := 1) rfl hT ?_
 try simp only [Act.put, List.setIfInBounds_toArray, List.set_cons_zero, List.set_cons_succ]
 refine Held.tk (i := 2) rfl hT ?_
 try simp only [Act.put, List.setIfInBounds_toArray, List.set_cons_zero, List.set_cons_succ]
 refine Held.tk (i := 3) rfl hT ?_
 try simp only [Act.put, List.setIfInBounds_toArray, List.set_cons_zero, List.set_cons_succ]
 refine Held.tk (i := 5) rfl hT ?_
 try simp only [Act.put, List.setIfInBounds_toArray, List.set_cons_zero, List.set_cons_succ]
 refine Held.tk (i := 8) rfl hT ?_
 try simp only [Act.put, List.setIfInBounds_toArray, List.set_cons_zero, List.set_cons_succ]
 refine Held.tk (i := 9) rfl hT ?_
 try simp only [Act.put, List.setIfInBounds_toArray, List.set_cons_zero, List.set_cons_succ]
 clear m0 m1 m2 s1 p0 p1 p2 p3 hcut hT
 have HD := Lib.hid (Below.refl Z.heap.size Z)
 have HS := Lib.hid (fun w' (h : Below Z.heap.size Z w') => (show Held.Same Z [eb] w' from fun b hb => h.block b (by simp at hb; rcases hb with rfl; exact blk_lt HE.out)))
 clear HE
 refine Held.AnyS.step2 (i := 4) (j := 6) rfl rfl (by kernel_rfl) rfl rfl (fun K hK => ?_) (fun K hK => ?_)
 focus
  refine Held.N_rows k31 Z.heap.size (.const (.slice none 0 0)) (.tmp 64) 26 31 (.agg #[(.int .i64 0), (.int .i64 0), (.slice none 0 0)]) 40 rfl rfl Try.underlying26 (by kernel_rfl) rfl (by decide) (by omega) (.slice none 0 0) ([]) (l0.take m) _ (m) (c0) (fun k_ => ((P0_ k_ ∨ P1_ k_) ∨ w.heap.size ≤ k_)) ((fun k => P0_ k ∧ k < w.heap.size)) rfl rfl (Kd.N_nil _ _ _ _ _) (Kd.F_below FA.out HD.out) (fun k hk => ⟨.inl (.inl hk.1), by simp [Value.ownBlock]⟩) (fun k hk => .inr (by have := HD.out.size; have := HWZ.out; omega)) HD.out.size (by have := H0.out.1; have := H1.out.1; have := HM.out; have := HQ9.out; rw [List.length_drop] at this; (try simp only [List.length_nil, List.length_append, List.length_take, List.length_singleton]); omega) ?_
  intro v1 y ho hgr hat
  rw [List.nil_append] at ho
  obtain ⟨B1, d1, ev⟩ := Kd.N_slice ho
  rw [HLT.out] at ev
  subst ev
  have hD : Below Z.heap.size Z y := HD.out.grown hgr HD.out.size (fun k hk => by simp [Value.ownBlock] at hk)
  refine hK.out _ _ (fun _ => HS.out _ hD) ?_
  have HO := Lib.hid ho
  try (have HNE := Lib.hid (show some b6 ≠ (Value.slice B1 m d1).ownBlock from by rcases hat with hat | ⟨b, hat, hle⟩ <;> rw [hat]; exact (by simp [Value.ownBlock]); exact fun e => by injection e with e; have := blk_lt HBX.out; omega))
  try (have n_ := Lib.hid ((hgr.block _ (blk_lt HBX.out) (by simp [Value.ownBlock])).trans HBX.out); clear HBX; have HBX := n_; clear n_)
  have n_ := Lib.hid hD; clear HD; have HD := n_; clear n_ hD
  clear hK K ho hgr hat
  try simp only [Act.put, List.setIfInBounds_toArray, List.set_cons_zero, List.set_cons_succ]
  refine Held.AnyS.step (i := 6) rfl (by kernel_rfl) rfl (fun K hK => ?_)
  go_simp
  first | refine ⟨trivial, ?_⟩ | skip
  obtain ⟨y5, hy⟩ : ∃ V, V = World.alloc y (.cells #[.int .i64 ed.f0, .int .i64 ed.f1, .slice AL ed.f2.length cL] 31) := ⟨_, rfl⟩
  rw [← hy]
  have hD : Below Z.heap.size Z y5 := by rw [hy]; exact HD.out.alloc HD.out.size _
  refine hK.out _ _ (fun _ => HS.out _ hD) ?_
  obtain ⟨b6, hb1, hb2, hb3⟩ := Held.alloc_ hy
  rw [hb1]
  have HBX := Lib.hid hb2
  try (have HNE := Lib.hid (show some b6 ≠ (Value.slice B1 m d1).ownBlock from fun e => by have := Kd.N_lt HO.out b6 e.symm; omega))
  try (have n_ := Lib.hid (Kd.N_below HO.out hb3); clear HO; have HO := n_; clear n_)
  have HGE := Lib.hid (show Z.heap.size ≤ b6 by rw [← hb1]; exact HD.out.size)
  clear hb1 hb2 hb3 hy
  have n_ := Lib.hid hD; clear HD; have HD := n_; clear n_ hD
  clear hK K
  try simp only [Act.put, List.setIfInBounds_toArray, List.set_cons_zero, List.set_cons_succ]
 rotate_left
 focus
  go_simp
  first | refine ⟨trivial, ?_⟩ | skip
  obtain ⟨y, hy⟩ : ∃ V, V = World.alloc Z (.cells #[.int .i64 ed.f0, .int .i64 ed.f1, .slice AL ed.f2.length cL] 31) := ⟨_, rfl⟩
  rw [← hy]
  have hD : Below Z.heap.size Z y := by rw [hy]; exact HD.out.alloc HD.out.size _
  refine hK.out _ _ (fun _ => HS.out _ hD) ?_
  obtain ⟨b6, hb1, hb2, hb3⟩ := Held.alloc_ hy
  rw [hb1]
  have HBX := Lib.hid hb2
  try (have HNE := Lib.hid (show some b6 ≠ (Value.slice B1 m d1).ownBlock from fun e => by have := Kd.N_lt HO.out b6 e.symm; omega))
  try (have n_ := Lib.hid (Kd.N_below HO.out hb3); clear HO; have HO := n_; clear n_)
  have HGE := Lib.hid (show Z.heap.size ≤ b6 by rw [← hb1]; exact HD.out.size)
  clear hb1 hb2 hb3 hy
  have n_ := Lib.hid hD; clear HD; have HD := n_; clear n_ hD
  clear hK K
  try simp only [Act.put, List.setIfInBounds_toArray, List.set_cons_zero, List.set_cons_succ]
  refine Held.AnyS.step (i := 4) rfl (by kernel_rfl) rfl (fun K hK => ?_)
  refine Held.N_rows k31 Z.heap.size (.const (.slice none 0 0)) (.tmp 64) 26 31 (.agg #[(.int .i64 0), (.int .i64 0), (.slice none 0 0)]) 40 rfl rfl Try.underlying26 (by kernel_rfl) rfl (by decide) (by omega) (.slice none 0 0) ([]) (l0.take m) _ (m) (c0) (fun k_ => ((P0_ k_ ∨ P1_ k_) ∨ w.heap.size ≤ k_)) ((fun k => P0_ k ∧ k < w.heap.size)) rfl rfl (Kd.N_nil _ _ _ _ _) (Kd.F_below FA.out HD.out) (fun k hk => ⟨.inl (.inl hk.1), by simp [Value.ownBlock]⟩) (fun k hk => .inr (by have := HD.out.size; have := HWZ.out; omega)) HD.out.size (by have := H0.out.1; have := H1.out.1; have := HM.out; have := HQ9.out; rw [List.length_drop] at this; (try simp only [List.length_nil, List.length_append, List.length_take, List.length_singleton]); omega) ?_
  intro v1 y ho hgr hat
  rw [List.nil_append] at ho
  obtain ⟨B1, d1, ev⟩ := Kd.N_slice ho
  rw [HLT.out] at ev
  subst ev
  have hD : Below Z.heap.size Z y := HD.out.grown hgr HD.out.size (fun k hk => by simp [Value.ownBlock] at hk)
  refine hK.out _ _ (fun _ => HS.out _ hD) ?_
  have HO := Lib.hid ho
  try (have HNE := Lib.hid (show some b6 ≠ (Value.slice B1 m d1).ownBlock from by rcases hat with hat | ⟨b, hat, hle⟩ <;> rw [hat]; exact (by simp [Value.ownBlock]); exact fun e => by injection e with e; have := blk_lt HBX.out; omega))
  try (have n_ := Lib.hid ((hgr.block _ (blk_lt HBX.out) (by simp [Value.ownBlock])).trans HBX.out); clear HBX; have HBX := n_; clear n_)
  have n_ := Lib.hid hD; clear HD; have HD := n_; clear n_ hD
  clear hK K ho hgr hat
  try simp only [Act.put, List.setIfInBounds_toArray, List.set_cons_zero, List.set_cons_succ]
 all_goals (
  refine Held.AnyS.step (i := 7) rfl (by kernel_rfl) rfl (fun K hK => ?_)
  refine Held.N_rows k31 Z.heap.size (.tmp 65) (.tmp 67) 26 31 (.agg #[(.int .i64 0), (.int .i64 0), (.slice none 0 0)]) 40 rfl rfl Try.underlying26 (by kernel_rfl) rfl (by decide) (by omega) (.slice B1 m d1) (l0.take m) ([ed]) (some ⟨b6, 0, none⟩) (1) (1) (fun k_ => ((P0_ k_ ∨ P1_ k_) ∨ w.heap.size ≤ k_)) (fun k => (w.heap.size ≤ k ∧ k < Z.heap.size) ∨ k = b6) rfl rfl (HO.out) (Held.F_box HBX.out (Kd.FK_below FE.out HD.out)) (fun k hk => ⟨.inr (by have := HGE.out; have := HWZ.out; omega), fun he => by rcases hk with hk | rfl; have := Kd.N_base HO.out k he.symm; omega; exact HNE.out he⟩) (fun k hk => .inr (by have := HD.out.size; have := HWZ.out; omega)) HD.out.size (by have := H0.out.1; have := H1.out.1; have := HM.out; have := HQ9.out; rw [List.length_drop] at this; (try simp only [List.length_nil, List.length_append, List.length_take, List.length_singleton]); omega) ?_
  intro v1 y ho hgr hat
  obtain ⟨B2, d2, ev⟩ := Kd.N_slice ho
  rw [List.length_append, HLT.out, List.length_singleton] at ev
  subst ev
  have hD : Below Z.heap.size Z y := HD.out.grown hgr HD.out.size (fun k hk => Kd.N_base HO.out k hk)
  refine hK.out _ _ (fun _ => HS.out _ hD) ?_
  have HO2 := Lib.hid ho
  have n_ := Lib.hid hD; clear HD; have HD := n_; clear n_ hD
  clear hK K ho hgr hat HO HBX HNE HGE
  try simp only [Act.put, List.setIfInBounds_toArray, List.set_cons_zero, List.set_cons_succ]
  refine Held.AnyS.step (i := 10) rfl (by kernel_rfl) rfl (fun K hK => ?_)
  refine Held.N_rows k31 Z.heap.size (.tmp 68) (.tmp 70) 26 31 (.agg #[(.int .i64 0), (.int .i64 0), (.slice none 0 0)]) 40 rfl rfl Try.underlying26 (by kernel_rfl) rfl (by decide) (by omega) (.slice B2 (m + 1) d2) (l0.take m ++ [ed]) (l1.drop 1) A9 (n9) (c9) (fun k_ => ((P0_ k_ ∨ P1_ k_) ∨ w.heap.size ≤ k_)) ((fun k => P1_ k ∧ k < w.heap.size)) rfl rfl (HO2.out) (Kd.F_below FB.out HD.out) (fun k hk => ⟨.inl (.inr hk.1), fun he => by have := Kd.N_base HO2.out k he.symm; have := HWZ.out; omega⟩) (fun k hk => .inr (by have := HD.out.size; have := HWZ.out; omega)) HD.out.size (by have := H0.out.1; have := H1.out.1; have := HM.out; have := HQ9.out; rw [List.length_drop] at this; (try simp only [List.length_nil, List.length_append, List.length_take, List.length_singleton]); omega) ?_
  intro v1 y ho hgr hat
  rw [← HP.out] at ho
  have hD : Below Z.heap.size Z y := HD.out.grown hgr HD.out.size (fun k hk => Kd.N_base HO2.out k hk)
  refine hK.out _ _ (fun _ => HS.out _ hD) ?_
  have HO3 := Lib.hid (Kd.N_lower ho HWZ.out)
  have n_ := Lib.hid hD; clear HD; have HD := n_; clear n_ hD
  clear hK K ho hgr hat HO2
  try simp only [Act.put, List.setIfInBounds_toArray, List.set_cons_zero, List.set_cons_succ]
  refine Held.AnyS.step (i := 11) rfl (by kernel_rfl) rfl (fun K hK => ?_)
  go_simp
  refine hK.out _ _ (fun h => absurd h (by omega)) ?_
  clear hK K
  refine Held.AnyS.done (by kernel_rfl) ?_ _
  go_simp
  refine HEND5.out _ _ ?_
  go_wp2
  go_ret
  exact ⟨_, rfl, HO3.out, below_step HBZ.out HD.out⟩)
theorem rd_in_ {l : List S31} {i : Nat} (h : i < l.length) : rd_T31 l (i : Int) ∈ l := by rw [rdT_ (List.getElem?_eq_getElem h)]; exact List.getElem_mem _
theorem all_mid {l0 l1 : List S31} {m : Nat} {e x : S31} (hm : l0.length = m + 1) (hv : 0 < l1.length) (hE : e = rd_T31 l0 (m : Int)) (hX : x = rd_T31 l1 0) (h : e.f0 = x.f0) : allL l0 l1 = l0.take m ++ [⟨x.f0, e.f1 + x.f1, e.f2 ++ x.f2⟩] ++ l1.drop 1 := by
 have h1 := last_split hm
 have h2 := head_split hv
 rw [← hE] at h1
 rw [← hX] at h2
 generalize l0.take m = u at h1 ⊢
 generalize l1.drop 1 = v at h2 ⊢
 rw [h1, h2]
 unfold allL
 rw [List.getLast?_concat]
 simp [h]
set_option maxRecDepth 100000 in
set_option maxHeartbeats 4000000 in
theorem all_r4 (P0_ P1_ : Nat → Prop) (ad0 ad1 : Addr) (c0 c1 : Nat) (l0 l1 : List S31) (m : Nat) (e x : S31) (w W : World) (hf0 : Kd.F k31 w (fun k => P0_ k ∧ k < w.heap.size) (some ad0) l0.length l0) (hf1 : Kd.F k31 w (fun k => P1_ k ∧ k < w.heap.size) (some ad1) l1.length l1) (hc0 : l0.length ≤ c0) (hc1 : l1.length ≤ c1) (h0 : AllOk l0) (h1 : AllOk l1) (hm : l0.length = m + 1) (hv : 0 < l1.length) (hE : e = rd_T31 l0 (m : Int)) (hX : x = rd_T31 l1 0) (heq : e.f0 = x.f0) (x2 x3 x4 x6 x7 x8 x9 x10 x11 x12 x13 x14 x15 x16 x17 x18 x19 x20 x21 x22 x23 x24 x25 x26 x27 x28 x29 x30 x31 x32 x33 x34 x35 x36 x37 x38 x39 x40 x41 x42 x43 x44 x45 x46 x47 x48 x49 x50 x51 x52 x53 x54 x55 x56 x57 x58 x59 x60 x61 x62 x63 x64 x65 x66 x67 x68 x69 x70 x71 : Value) (hB : Below w.heap.size w W) :
  Code.wp Try.prog (sndA 3 (Try.f43.body.getD .skip)) (bodyPost Try.prog Try.f43 fun e w' => ∃ v0_ : Value, e = .returned v0_ ∧ Kd.N k31 31 w' w.heap.size (fun k_ => ((P0_ k_ ∨ P1_ k_) ∨ w.heap.size ≤ k_)) v0_ (allL l0 l1) ∧ Below w.heap.size w w') ⟨#[.slice (some ad0) l0.length c0, .slice (some ad1) l1.length c1, x2, x3, x4, .int .i64 (l0.length : Int), x6, x7, x8, x9, x10, x11, x12, x13, x14, x15, x16, x17, x18, x19, x20, x21, x22, x23, x24, x25, x26, x27, x28, x29, x30, x31, x32, x33, x34, x35, x36, x37, x38, x39, x40, x41, x42, x43, x44, x45, x46, x47, x48, x49, x50, x51, x52, x53, x54, x55, x56, x57, x58, x59, x60, x61, x62, x63, x64, x65, x66, x67, x68, x69, x70, x71], []⟩ W := by
 conv in sndA 3 _ => whnf
 have HF0 := Lib.hid hf0
 have HF1 := Lib.hid hf1
 have HC0 := Lib.hid (Kd.F_now hf0)
 have HC1 := Lib.hid (Kd.F_now hf1)
 have HL0 := Lib.hid hc0
 have HL1 := Lib.hid hc1
 have H0 := Lib.hid h0
 have H1 := Lib.hid h1
 have HM := Lib.hid hm
 have HV := Lib.hid hv
 have HP := Lib.hid (show allL l0 l1 = l0.take m ++ [⟨x.f0, e.f1 + x.f1, e.f2 ++ x.f2⟩] ++ l1.drop 1 from all_mid hm hv hE hX heq)
 obtain ⟨Z, hZ⟩ : ∃ Z, Z = W.drew := ⟨_, rfl⟩
 have hW : Below W.heap.size W Z := by rw [hZ]; exact (Below.refl _ _).drew
 have hwZ := below_step hB hW
 have HWZ := Lib.hid hwZ.size
 have HBZ := Lib.hid hwZ
 have s1 : IntKind.i64.wrap ((l0.length : Int) - 1) = (m : Int) := by rw [i64_w, hm, show ((m + 1 : Nat) : Int) - 1 = (m : Int) by omega]; have := H0.out.1; unfold wrap64; omega
 obtain ⟨a0_, B2, d2, e0, hx0, hx1, hx2, hxl, hxc⟩ := at_T31 HC0.out (m : Int) (by omega) (by omega)
 obtain ⟨a1_, B3, d3, e1, hy0, hy1, hy2, hyl, hyc⟩ := at_T31 HC1.out 0 (by omega) (by omega)
 injection e0 with e0
 injection e1 with e1
 subst e0 e1
 rw [← hE] at hx0 hx1 hx2 hxl hxc
 rw [← hX] at hy0 hy1 hy2 hyl hyc
 rw [Int.toNat_natCast] at hx0 hx1 hx2
 have p0 := eq_true (show 0 ≤ (m : Int) by omega)
 have p1 := eq_true (show (m : Int) < (l0.length : Int) by omega)
 have p2 := eq_true (show (0 : Int) < (l1.length : Int) by omega)
 have p3 := eq_true hv
 simp only [Int.toNat_zero, Nat.zero_mul, Addr.add_zero'] at hy0 hy1 hy2
 have hem := h0.2 e (by rw [hE]; exact rd_in_ (by omega))
 have hxm := h1.2 x (by rw [hX]; exact rd_in_ (i := 0) (by omega))
 have HEL := Lib.hid hem.2
 have HXL := Lib.hid hxm.2
 obtain ⟨q, hq⟩ : ∃ q, q = e.f1 + x.f1 := ⟨_, rfl⟩
 have s5 : IntKind.i64.wrap (e.f1 + x.f1) = q := by rw [hq, i64_w]; unfold wrap64; omega
 have HQ := Lib.hid hq
 obtain ⟨nl, hnl⟩ : ∃ n, n = (e.f2 ++ x.f2).length := ⟨_, rfl⟩
 have HNL := Lib.hid hnl
 have HYE := Lib.hid (Kd.C_below hxc hwZ)
 have HYX := Lib.hid (Kd.C_below hyc hwZ)
 have z0 := (hwZ.cell (World.block_lt_of_cell? _ _ hy0)).trans hy0
 have z1 := (hwZ.cell (World.block_lt_of_cell? _ _ hx1)).trans hx1
 have z2 := (hwZ.cell (World.block_lt_of_cell? _ _ hx2)).trans hx2
 have z3 := (hwZ.cell (World.block_lt_of_cell? _ _ hy1)).trans hy1
 have z4 := (hwZ.cell (World.block_lt_of_cell? _ _ hy2)).trans hy2
 have hT : S5 ad1 (.int .i64 x.f0) ⟨(ad0.add (m * 3)).block, (ad0.add (m * 3)).off + 1, none⟩ (.int .i64 e.f1) ⟨(ad0.add (m * 3)).block, (ad0.add (m * 3)).off + 2, none⟩ (.slice B2 e.f2.length d2) ⟨ad1.block, ad1.off + 1, none⟩ (.int .i64 x.f1) ⟨ad1.block, ad1.off + 2, none⟩ (.slice B3 x.f2.length d3) Z := ⟨z0, z1, z2, z3, z4⟩
 clear hf0 hf1 hc0 hc1 h0 h1 hm hv hE hX heq hB hwZ hW hx0 hx1 hx2 hxl hxc hy0 hy1 hy2 hyl hyc hem hxm hq hnl z0 z1 z2 z3 z4
 go_wp2
 rename_i K5 hEND5
 have HEND5 := Lib.hid hEND5
 clear hEND5
 refine (wpIn_wide (n := 9)).1 ?_
 refine Held.region 29 (S5 ad1 (.int .i64 x.f0) ⟨(ad0.add (m * 3)).block, (ad0.add (m * 3)).off + 1, none⟩ (.int .i64 e.f1) ⟨(ad0.add (m * 3)).block, (ad0.add (m * 3)).off + 2, none⟩ (.slice B2 e.f2.length d2) ⟨ad1.block, ad1.off + 1, none⟩ (.int .i64 x.f1) ⟨ad1.block, ad1.off + 2, none⟩ (.slice B3 x.f2.length d3)) (by kernel_rfl) ?_
 rw [← hZ]
 clear hZ
 refine tke (i := 0) rfl hT ?_
 refine tke (i := 1) rfl hT ?_
 refine tke (i := 2) rfl hT ?_
 refine tke (i := 3) rfl hT ?_
 refine tke (i := 4) rfl hT ?_
 refine tke (i := 5) rfl hT ?_
 refine tke (i := 6) rfl hT ?_
 refine tke (i := 7) rfl hT ?_
 refine tke (i := 8) rfl hT ?_
 refine tke (i := 9) rfl hT ?_
 refine tke (i := 10) rfl hT ?_
 refine tke (i := 11) rfl hT ?_
 refine tke (i := 12) rfl hT ?_
 refine tke (i := 13) rfl hT ?_
 refine tke (i := 14) rfl hT ?_
 refine tke (i := 15) rfl hT ?_
 refine tke (i := 16) rfl hT ?_
 refine tke (i := 17) rfl hT ?_
 refine tke (i := 18) rfl hT ?_
 refine tke (i := 19) rfl hT ?_
 refine tke (i := 20) rfl hT ?_
 refine tke (i := 22) rfl hT ?_
 refine tke (i := 23) rfl hT ?_
 refine tke (i := 24) rfl hT ?_
 refine tke (i := 25) rfl hT ?_
 have HD := Lib.hid (Below.refl Z.heap.size Z)
 have HS := Lib.hid (fun w' (h : Below Z.heap.size Z w') => (show S5 ad1 (.int .i64 x.f0) ⟨(ad0.add (m * 3)).block, (ad0.add (m * 3)).off + 1, none⟩ (.int .i64 e.f1) ⟨(ad0.add (m * 3)).block, (ad0.add (m * 3)).off + 2, none⟩ (.slice B2 e.f2.length d2) ⟨ad1.block, ad1.off + 1, none⟩ (.int .i64 x.f1) ⟨ad1.block, ad1.off + 2, none⟩ (.slice B3 x.f2.length d3) w' from ⟨(h.cell (World.block_lt_of_cell? _ _ hT.1)).trans hT.1, (h.cell (World.block_lt_of_cell? _ _ hT.2.1)).trans hT.2.1, (h.cell (World.block_lt_of_cell? _ _ hT.2.2.1)).trans hT.2.2.1, (h.cell (World.block_lt_of_cell? _ _ hT.2.2.2.1)).trans hT.2.2.2.1, (h.cell (World.block_lt_of_cell? _ _ hT.2.2.2.2)).trans hT.2.2.2.2⟩))
 clear hT p0 p1 p2 p3 s1 s5
 refine Held.AnyS.step2 (i := 21) (j := 28) rfl rfl (by kernel_rfl) rfl rfl (fun K hK => ?_) (fun K hK => ?_)
 focus
  refine Held.R_strs Z.heap.size (.const (.slice none 0 0)) (.tmp 53) 29 9 (.string (⟨#[]⟩ : ByteArray)) 16 rfl rfl Try.underlying29 (by kernel_rfl) rfl (by omega) (.slice none 0 0) ([]) (e.f2) B2 e.f2.length _ rfl rfl (Kd.R_nil _ _ _ _ _) (Kd.C_below HYE.out HD.out) HD.out.size (by have := HEL.out; have := HXL.out; (try simp only [List.length_nil]); omega) ?_
  intro v1 y ho hgr hat
  rw [List.nil_append] at ho
  obtain ⟨L1, k1, rfl⟩ := Kd.R_slice ho
  have hD : Below Z.heap.size Z y := HD.out.grown hgr HD.out.size (fun k hk => by simp [Value.ownBlock] at hk)
  refine hK.out _ _ (fun _ => HS.out _ hD) ?_
  have HO := Lib.hid ho
  try (have HNE := Lib.hid (show some b6 ≠ (Value.slice L1 e.f2.length k1).ownBlock from by rcases hat with hat | ⟨b, hat, hle⟩ <;> rw [hat]; exact (by simp [Value.ownBlock]); exact fun e => by injection e with e; have := blk_lt HBX.out; omega))
  try (have n_ := Lib.hid ((hgr.block _ (blk_lt HBX.out) (by simp [Value.ownBlock])).trans HBX.out); clear HBX; have HBX := n_; clear n_)
  have n_ := Lib.hid hD; clear HD; have HD := n_; clear n_ hD
  clear hK K ho hgr hat
  try simp only [Act.put, List.setIfInBounds_toArray, List.set_cons_zero, List.set_cons_succ]
  refine Held.AnyS.step2 (i := 26) (j := 28) rfl rfl (by kernel_rfl) rfl rfl (fun K hK => ?_) (fun K hK => ?_)
  focus
   refine Held.R_strs Z.heap.size (.tmp 54) (.tmp 58) 29 9 (.string (⟨#[]⟩ : ByteArray)) 16 rfl rfl Try.underlying29 (by kernel_rfl) rfl (by omega) (.slice L1 e.f2.length k1) (e.f2) (x.f2) B3 x.f2.length _ rfl rfl (HO.out) (Kd.C_below HYX.out HD.out) HD.out.size (by have := HEL.out; have := HXL.out; (try simp only [List.length_nil]); omega) ?_
   intro v1 y ho hgr hat
   obtain ⟨L2, k2, ev⟩ := Kd.R_slice ho
   rw [← HNL.out] at ev
   subst ev
   have hD : Below Z.heap.size Z y := HD.out.grown hgr HD.out.size (fun k hk => Kd.R_base HO.out k hk)
   refine hK.out _ _ (fun _ => HS.out _ hD) ?_
   have HO2 := Lib.hid ho
   try (have HNE2 := Lib.hid (show some b6 ≠ (Value.slice L2 nl k2).ownBlock from by rcases hat with hat | ⟨b, hat, hle⟩ <;> rw [hat]; exact HNE.out; exact fun e => by injection e with e; have := blk_lt HBX.out; omega))
   try (have n_ := Lib.hid ((hgr.block _ (blk_lt HBX.out) (HNE.out)).trans HBX.out); clear HBX; have HBX := n_; clear n_)
   have n_ := Lib.hid hD; clear HD; have HD := n_; clear n_ hD
   clear hK K ho hgr hat HO
   try simp only [Act.put, List.setIfInBounds_toArray, List.set_cons_zero, List.set_cons_succ]
   refine tke (i := 27) rfl (HS.out _ HD.out) ?_
   refine Held.AnyS.step (i := 28) rfl (by kernel_rfl) rfl (fun K hK => ?_)
   go_simp
   first | refine ⟨trivial, ?_⟩ | skip
   obtain ⟨y5, hy⟩ : ∃ V, V = World.alloc y (.cells #[.int .i64 0, .int .i64 0, .slice none 0 0] 31) := ⟨_, rfl⟩
   rw [← hy]
   have hD : Below Z.heap.size Z y5 := by rw [hy]; exact HD.out.alloc HD.out.size _
   refine hK.out _ _ (fun _ => HS.out _ hD) ?_
   obtain ⟨b6, hb1, hb2, hb3⟩ := Held.alloc_ hy
   rw [hb1]
   have HBX := Lib.hid hb2
   have HNE2 := Lib.hid (show some b6 ≠ (Value.slice L2 nl k2).ownBlock from fun e => by have := Kd.R_lt HO2.out b6 e.symm; omega)
   have n_ := Lib.hid (Kd.R_below HO2.out hb3); clear HO2; have HO2 := n_; clear n_
   have HGE := Lib.hid (show Z.heap.size ≤ b6 by rw [← hb1]; exact HD.out.size)
   clear hb1 hb2 hb3 hy
   have n_ := Lib.hid hD; clear HD; have HD := n_; clear n_ hD
   clear hK K
   try simp only [Act.put, List.setIfInBounds_toArray, List.set_cons_zero, List.set_cons_succ]
  rotate_left
  focus
   go_simp
   first | refine ⟨trivial, ?_⟩ | skip
   obtain ⟨y5, hy⟩ : ∃ V, V = World.alloc y (.cells #[.int .i64 0, .int .i64 0, .slice none 0 0] 31) := ⟨_, rfl⟩
   rw [← hy]
   have hD : Below Z.heap.size Z y5 := by rw [hy]; exact HD.out.alloc HD.out.size _
   refine hK.out _ _ (fun _ => HS.out _ hD) ?_
   obtain ⟨b6, hb1, hb2, hb3⟩ := Held.alloc_ hy
   rw [hb1]
   have HBX := Lib.hid hb2
   have HNE := Lib.hid (show some b6 ≠ (Value.slice L1 e.f2.length k1).ownBlock from fun e => by have := Kd.R_lt HO.out b6 e.symm; omega)
   have n_ := Lib.hid (Kd.R_below HO.out hb3); clear HO; have HO := n_; clear n_
   have HGE := Lib.hid (show Z.heap.size ≤ b6 by rw [← hb1]; exact HD.out.size)
   clear hb1 hb2 hb3 hy
   have n_ := Lib.hid hD; clear HD; have HD := n_; clear n_ hD
   clear hK K
   try simp only [Act.put, List.setIfInBounds_toArray, List.set_cons_zero, List.set_cons_succ]
   refine Held.AnyS.step (i := 26) rfl (by kernel_rfl) rfl (fun K hK => ?_)
   refine Held.R_strs Z.heap.size (.tmp 54) (.tmp 58) 29 9 (.string (⟨#[]⟩ : ByteArray)) 16 rfl rfl Try.underlying29 (by kernel_rfl) rfl (by omega) (.slice L1 e.f2.length k1) (e.f2) (x.f2) B3 x.f2.length _ rfl rfl (HO.out) (Kd.C_below HYX.out HD.out) HD.out.size (by have := HEL.out; have := HXL.out; (try simp only [List.length_nil]); omega) ?_
   intro v1 y ho hgr hat
   obtain ⟨L2, k2, ev⟩ := Kd.R_slice ho
   rw [← HNL.out] at ev
   subst ev
   have hD : Below Z.heap.size Z y := HD.out.grown hgr HD.out.size (fun k hk => Kd.R_base HO.out k hk)
   refine hK.out _ _ (fun _ => HS.out _ hD) ?_
   have HO2 := Lib.hid ho
   try (have HNE2 := Lib.hid (show some b6 ≠ (Value.slice L2 nl k2).ownBlock from by rcases hat with hat | ⟨b, hat, hle⟩ <;> rw [hat]; exact HNE.out; exact fun e => by injection e with e; have := blk_lt HBX.out; omega))
   try (have n_ := Lib.hid ((hgr.block _ (blk_lt HBX.out) (HNE.out)).trans HBX.out); clear HBX; have HBX := n_; clear n_)
   have n_ := Lib.hid hD; clear HD; have HD := n_; clear n_ hD
   clear hK K ho hgr hat HO
   try simp only [Act.put, List.setIfInBounds_toArray, List.set_cons_zero, List.set_cons_succ]
   refine tke (i := 27) rfl (HS.out _ HD.out) ?_
 rotate_left 2
 focus
  go_simp
  first | refine ⟨trivial, ?_⟩ | skip
  obtain ⟨y5, hy⟩ : ∃ V, V = World.alloc Z (.cells #[.int .i64 0, .int .i64 0, .slice none 0 0] 31) := ⟨_, rfl⟩
  rw [← hy]
  have hD : Below Z.heap.size Z y5 := by rw [hy]; exact HD.out.alloc HD.out.size _
  refine hK.out _ _ (fun _ => HS.out _ hD) ?_
  obtain ⟨b6, hb1, hb2, hb3⟩ := Held.alloc_ hy
  rw [hb1]
  have HBX := Lib.hid hb2
  have HGE := Lib.hid (show Z.heap.size ≤ b6 by rw [← hb1]; exact HD.out.size)
  clear hb1 hb2 hb3 hy
  have n_ := Lib.hid hD; clear HD; have HD := n_; clear n_ hD
  clear hK K
  try simp only [Act.put, List.setIfInBounds_toArray, List.set_cons_zero, List.set_cons_succ]
  refine Held.AnyS.step (i := 21) rfl (by kernel_rfl) rfl (fun K hK => ?_)
  refine Held.R_strs Z.heap.size (.const (.slice none 0 0)) (.tmp 53) 29 9 (.string (⟨#[]⟩ : ByteArray)) 16 rfl rfl Try.underlying29 (by kernel_rfl) rfl (by omega) (.slice none 0 0) ([]) (e.f2) B2 e.f2.length _ rfl rfl (Kd.R_nil _ _ _ _ _) (Kd.C_below HYE.out HD.out) HD.out.size (by have := HEL.out; have := HXL.out; (try simp only [List.length_nil]); omega) ?_
  intro v1 y ho hgr hat
  rw [List.nil_append] at ho
  obtain ⟨L1, k1, rfl⟩ := Kd.R_slice ho
  have hD : Below Z.heap.size Z y := HD.out.grown hgr HD.out.size (fun k hk => by simp [Value.ownBlock] at hk)
  refine hK.out _ _ (fun _ => HS.out _ hD) ?_
  have HO := Lib.hid ho
  try (have HNE := Lib.hid (show some b6 ≠ (Value.slice L1 e.f2.length k1).ownBlock from by rcases hat with hat | ⟨b, hat, hle⟩ <;> rw [hat]; exact (by simp [Value.ownBlock]); exact fun e => by injection e with e; have := blk_lt HBX.out; omega))
  try (have n_ := Lib.hid ((hgr.block _ (blk_lt HBX.out) (by simp [Value.ownBlock])).trans HBX.out); clear HBX; have HBX := n_; clear n_)
  have n_ := Lib.hid hD; clear HD; have HD := n_; clear n_ hD
  clear hK K ho hgr hat
  try simp only [Act.put, List.setIfInBounds_toArray, List.set_cons_zero, List.set_cons_succ]
  refine Held.AnyS.step (i := 26) rfl (by kernel_rfl) rfl (fun K hK => ?_)
  refine Held.R_strs Z.heap.size (.tmp 54) (.tmp 58) 29 9 (.string (⟨#[]⟩ : ByteArray)) 16 rfl rfl Try.underlying29 (by kernel_rfl) rfl (by omega) (.slice L1 e.f2.length k1) (e.f2) (x.f2) B3 x.f2.length _ rfl rfl (HO.out) (Kd.C_below HYX.out HD.out) HD.out.size (by have := HEL.out; have := HXL.out; (try simp only [List.length_nil]); omega) ?_
  intro v1 y ho hgr hat
  obtain ⟨L2, k2, ev⟩ := Kd.R_slice ho
  rw [← HNL.out] at ev
  subst ev
  have hD : Below Z.heap.size Z y := HD.out.grown hgr HD.out.size (fun k hk => Kd.R_base HO.out k hk)
  refine hK.out _ _ (fun _ => HS.out _ hD) ?_
  have HO2 := Lib.hid ho
  try (have HNE2 := Lib.hid (show some b6 ≠ (Value.slice L2 nl k2).ownBlock from by rcases hat with hat | ⟨b, hat, hle⟩ <;> rw [hat]; exact HNE.out; exact fun e => by injection e with e; have := blk_lt HBX.out; omega))
  try (have n_ := Lib.hid ((hgr.block _ (blk_lt HBX.out) (HNE.out)).trans HBX.out); clear HBX; have HBX := n_; clear n_)
  have n_ := Lib.hid hD; clear HD; have HD := n_; clear n_ hD
  clear hK K ho hgr hat HO
  try simp only [Act.put, List.setIfInBounds_toArray, List.set_cons_zero, List.set_cons_succ]
  refine tke (i := 27) rfl (HS.out _ HD.out) ?_
 all_goals (
  have g0 := (blk_cell HBX.out 0).trans (rfl : _ = some (Value.int .i64 0))
  have g1 := (blk_cell HBX.out 1).trans (rfl : _ = some (Value.int .i64 0))
  have g2 := (blk_cell HBX.out 2).trans (rfl : _ = some (Value.slice none 0 0))
  have f0 := blk_frozen HBX.out 0
  have f1 := blk_frozen HBX.out 1
  have f2 := blk_frozen HBX.out 2
  refine Held.AnyS.step (i := 29) rfl (by kernel_rfl) rfl (fun K hK => ?_)
  go_simp
  first | refine ⟨trivial, ?_⟩ | skip
  obtain ⟨y6, hy6, hE6, hO6, hB6⟩ := set3_ HBX.out (.int .i64 x.f0) (.int .i64 q) (.slice L2 nl k2)
  rw [hy6]
  refine hK.out _ _ (fun h => absurd h (by omega)) ?_
  clear hK K g0 g1 g2 f0 f1 f2
  have hB7 := hB6 Z HD.out HGE.out
  have HBR := Lib.hid (show Kd.R Kd.string 9 y6 w.heap.size (fun k => w.heap.size ≤ k) (.slice L2 nl k2) (e.f2 ++ x.f2) from by have h8 := Kd.R_step (Kd.R_tight rfl HO2.out) (w1 := y6) (fun k hk _ => hO6 k (fun e => HNE2.out (by rw [← e]; exact hk))); exact Kd.R_mono (Kd.R_lower h8 HWZ.out) (fun k hk => by have := HWZ.out; have := Kd.R_base HO2.out k hk.symm; omega))
  refine Held.AnyS.done (by kernel_rfl) ?_ _
  go_simp
  refine HEND5.out _ _ ?_
  have hn := HNL.out
  have hq := HQ.out
  subst hn hq
  exact all_r5 P0_ P1_ ad0 ad1 c0 c1 l0 l1 m ⟨x.f0, e.f1 + x.f1, e.f2 ++ x.f2⟩ w y6 HF0.out HF1.out HL0.out HL1.out H0.out H1.out HM.out HV.out HP.out L2 k2 b6 _ _ _ _ _ _ _ _ _ _ _ _ _ _ _ _ _ _ _ _ _ _ _ _ _ _ _ _ _ _ _ _ _ _ _ _ _ _ _ _ _ _ _ _ _ _ _ _ _ _ _ _ _ _ _ _ _ _ _ _ _ _ _ _ _ _ _ _ HBR.out (below_step HBZ.out hB7) hE6)
set_option maxRecDepth 100000 in
set_option maxHeartbeats 4000000 in
theorem all_run (P0_ P1_ : Nat → Prop) (A0 A1 : Option Addr) (c0 c1 : Nat) (l0 l1 : List S31) (w : World) (hs0 : Kd.V k31 31 w w.heap.size P0_ (.slice A0 l0.length c0) l0) (hs1 : Kd.V k31 31 w w.heap.size P1_ (.slice A1 l1.length c1) l1) (h0 : AllOk l0) (h1 : AllOk l1) :
  Calls Try.prog 43 #[.slice A0 l0.length c0, .slice A1 l1.length c1] w fun e w' => ∃ v0_ : Value, e = .returned v0_ ∧ Kd.N k31 31 w' w.heap.size (fun k_ => ((P0_ k_ ∨ P1_ k_) ∨ w.heap.size ≤ k_)) v0_ (allL l0 l1) ∧ Below w.heap.size w w' := by
 have HF0 := Lib.hid (Kd.F_bound (Kd.V_F hs0))
 have HF1 := Lib.hid (Kd.F_bound (Kd.V_F hs1))
 have HC0 := Lib.hid (Kd.V_reads' hs0).2.2
 have HC1 := Lib.hid (Kd.V_reads' hs1).2.2
 have HL0 := Lib.hid (Kd.V_reads' hs0).2.1
 have HL1 := Lib.hid (Kd.V_reads' hs1).2.1
 have H0 := Lib.hid h0
 have H1 := Lib.hid h1
 clear hs0 hs1 h0 h1
 go_enter Try.func43, Try.ntmps43
 go_wp2
 rename_i K4 hEND4 K2 hEND2
 have HEND4 := Lib.hid hEND4
 clear hEND4
 by_cases hc : l0 = [] ∨ (l0 ≠ [] ∧ l1 = []) ∨ ∃ m e x, l0.length = m + 1 ∧ 0 < l1.length ∧ e = rd_T31 l0 (m : Int) ∧ x = rd_T31 l1 0 ∧ e.f0 ≠ x.f0
 ·have HR := Lib.hid (show allL l0 l1 = l0 ++ l1 from all_app hc)
  rcases hc with hc | ⟨hd, hc⟩ | ⟨m, e, x, hm, hv, hE, hX, hne⟩
  case' inl =>
   have b0 : ((l0.length : Int) == 0) = true := by rw [hc]; rfl
   clear hc
   go_quiet (fail)
  case' inr.inl =>
   have b0 : ((l0.length : Int) == 0) = false := by have := List.length_pos_iff.2 hd; simp; exact hd
   have b1 : ((l1.length : Int) == 0) = true := by rw [hc]; rfl
   clear hc hd
   go_quiet (fail)
  case' inr.inr =>
   have b0 : ((l0.length : Int) == 0) = false := by simp; intro h; rw [h] at hm; cases hm
   have b1 : ((l1.length : Int) == 0) = false := by simp; intro h; rw [h] at hv; cases hv
   have s1 : IntKind.i64.wrap ((l0.length : Int) - 1) = (m : Int) := by rw [i64_w, hm, show ((m + 1 : Nat) : Int) - 1 = (m : Int) by omega]; have := H0.out.1; unfold wrap64; omega
   obtain ⟨ad0, B2, d2, e0, hx0, hx1, hx2, hxl, hxc⟩ := at_T31 HC0.out (m : Int) (by omega) (by omega)
   obtain ⟨ad1, B3, d3, e1, hy0, hy1, hy2, hyl, hyc⟩ := at_T31 HC1.out 0 (by omega) (by omega)
   subst e0 e1
   rw [← hE] at hx0 hx1 hx2 hxl hxc
   rw [← hX] at hy0 hy1 hy2 hyl hyc
   rw [Int.toNat_natCast] at hx0 hx1 hx2
   have p0 := eq_true (show 0 ≤ (m : Int) by omega)
   have p1 := eq_true (show (m : Int) < (l0.length : Int) by omega)
   have p2 := eq_true (show (0 : Int) < (l1.length : Int) by omega)
   have p3 := eq_true hv
   simp only [Int.toNat_zero, Nat.zero_mul, Addr.add_zero'] at hy0 hy1 hy2
   have b2 : (e.f0 != x.f0) = true := by simp [hne]
   clear hE hX hne hm hv hxl hxc hyl hyc
   go_quiet (fail)
   clear hx0 hx1 hx2 hy0 hy1 hy2 s1 p0 p1 p2 p3
  all_goals (
    obtain ⟨Z, hZ⟩ : ∃ Z, Z = w.drewN nq := ⟨_, rfl⟩
    have HD := Lib.hid (show Below w.heap.size w Z by rw [hZ]; exact pw_below_drewN (Below.refl _ _) _)
    rw [← hZ]
    clear hZ
    go_wp2_with (first | ((with_reducible refine gate_builtin (b := .append) (xs := #[.const (.slice none 0 0), .tmp 29]) rfl ?_); at_builtin; refine Kd.N_append_rows k31 (w0 := w) w.heap.size rfl (.const (.slice none 0 0)) (.tmp 29) 26 31 (.agg #[(.int .i64 0), (.int .i64 0), (.slice none 0 0)]) 40 rfl Try.underlying26 info31 rfl (by decide) (by omega) (.slice none 0 0) ([]) (l0) _ (l0.length) (c0) (fun k_ => ((P0_ k_ ∨ P1_ k_) ∨ w.heap.size ≤ k_)) (fun k => P0_ k ∧ k < w.heap.size) rfl rfl (Kd.N_nil _ _ _ _ _) (Kd.F_below HF0.out HD.out) (fun k hk => ⟨.inl (.inl hk.1), by simp [Value.ownBlock]⟩) (fun k hk => .inr (by have := HD.out.size; omega)) HD.out HD.out.size (by have := H0.out.1; have := H1.out.1; (try simp only [List.length_nil]); omega) ?_; intro v1 y1 ho hb hg hat; rw [List.nil_append] at ho; obtain ⟨B1, d1, rfl⟩ := Kd.N_slice ho; have HO := Lib.hid ho; have n_ := Lib.hid hb; clear HD; have HD := n_; clear n_ ho hb hg hat) | ((with_reducible refine gate_builtin (b := .append) (xs := #[.tmp 30, .tmp 31]) rfl ?_); at_builtin; refine Kd.N_append_rows k31 (w0 := w) w.heap.size rfl (.tmp 30) (.tmp 31) 26 31 (.agg #[(.int .i64 0), (.int .i64 0), (.slice none 0 0)]) 40 rfl Try.underlying26 info31 rfl (by decide) (by omega) (.slice B1 l0.length d1) (l0) (l1) _ (l1.length) (c1) (fun k_ => ((P0_ k_ ∨ P1_ k_) ∨ w.heap.size ≤ k_)) (fun k => P1_ k ∧ k < w.heap.size) rfl rfl (HO.out) (Kd.F_below HF1.out HD.out) (fun k hk => ⟨.inl (.inr hk.1), fun he => by have := Kd.N_base HO.out k he.symm; omega⟩) (fun k hk => .inr (by have := HD.out.size; omega)) HD.out HD.out.size (by have := H0.out.1; have := H1.out.1; (try simp only [List.length_nil]); omega) ?_; intro v2 y2 ho hb hg hat; rw [← HR.out] at ho; have HO2 := Lib.hid ho; have n_ := Lib.hid hb; clear HD; have HD := n_; clear n_ ho hb hg hat))
    go_ret
    exact ⟨_, rfl, HO2.out, HD.out⟩)
 ·have hm1 : l0 ≠ [] := fun h => hc (.inl h)
  have hv1 : l1 ≠ [] := fun h => hc (.inr (.inl ⟨hm1, h⟩))
  obtain ⟨m, hm⟩ : ∃ m, l0.length = m + 1 := ⟨l0.length - 1, by have := List.length_pos_iff.2 hm1; omega⟩
  have hv := List.length_pos_iff.2 hv1
  obtain ⟨e, hE⟩ : ∃ e, e = rd_T31 l0 (m : Int) := ⟨_, rfl⟩
  obtain ⟨x, hX⟩ : ∃ x, x = rd_T31 l1 0 := ⟨_, rfl⟩
  have heq : e.f0 = x.f0 := Decidable.by_contra fun h => hc (.inr (.inr ⟨m, e, x, hm, hv, hE, hX, h⟩))
  clear hc
  have b0 : ((l0.length : Int) == 0) = false := by simp; exact hm1
  have b1 : ((l1.length : Int) == 0) = false := by simp; exact hv1
  have s1 : IntKind.i64.wrap ((l0.length : Int) - 1) = (m : Int) := by rw [i64_w, hm, show ((m + 1 : Nat) : Int) - 1 = (m : Int) by omega]; have := H0.out.1; unfold wrap64; omega
  obtain ⟨ad0, B2, d2, e0, hx0, hx1, hx2, hxl, hxc⟩ := at_T31 HC0.out (m : Int) (by omega) (by omega)
  obtain ⟨ad1, B3, d3, e1, hy0, hy1, hy2, hyl, hyc⟩ := at_T31 HC1.out 0 (by omega) (by omega)
  subst e0 e1
  rw [← hE] at hx0 hx1 hx2 hxl hxc
  rw [← hX] at hy0 hy1 hy2 hyl hyc
  rw [Int.toNat_natCast] at hx0 hx1 hx2
  have p0 := eq_true (show 0 ≤ (m : Int) by omega)
  have p1 := eq_true (show (m : Int) < (l0.length : Int) by omega)
  have p2 := eq_true (show (0 : Int) < (l1.length : Int) by omega)
  have p3 := eq_true hv
  simp only [Int.toNat_zero, Nat.zero_mul, Addr.add_zero'] at hy0 hy1 hy2
  have b2 : (e.f0 != x.f0) = false := by simp [heq]
  have HM := Lib.hid hm
  have HV := Lib.hid hv
  have HE := Lib.hid hE
  have HX := Lib.hid hX
  have HQ := Lib.hid heq
  clear hm hv hE hX heq hm1 hv1 hxl hxc hyl hyc
  go_quiet (fail)
  clear hx0 hx1 hx2 hy0 hy1 hy2 s1 p0 p1 p2 p3 b0 b1
  obtain ⟨Z, hZ⟩ : ∃ Z, Z = w.drewN nq := ⟨_, rfl⟩
  have HD := Lib.hid (show Below w.heap.size w Z by rw [hZ]; exact pw_below_drewN (Below.refl _ _) _)
  rw [← hZ]
  clear hZ
  go_wp2
  refine HEND4.out _ _ ?_
  exact all_r4 P0_ P1_ ad0 ad1 c0 c1 l0 l1 m e x w Z HF0.out HF1.out HL0.out HL1.out H0.out H1.out HM.out HV.out HE.out HX.out HQ.out _ _ _ _ _ _ _ _ _ _ _ _ _ _ _ _ _ _ _ _ _ _ _ _ _ _ _ _ _ _ _ _ _ _ _ _ _ _ _ _ _ _ _ _ _ _ _ _ _ _ _ _ _ _ _ _ _ _ _ _ _ _ _ _ _ _ _ _ _ HD.out
def collatorref06_all.f (l0 : List S31) (l1 : List S31) : Option (List S31) := if AllOk l0 ∧ AllOk l1 then some (allL l0 l1) else none
theorem collatorref06_all.calls (P0_ : Nat → Prop) (A0 : Option Addr) (c0 : Nat) (l0 : List S31) (P1_ : Nat → Prop) (A1 : Option Addr) (c1 : Nat) (l1 : List S31) (r : List S31) (w : World) (hs0 : Kd.V k31 31 w w.heap.size (fun k_ => P0_ k_) (.slice A0 l0.length c0) l0) (hs1 : Kd.V k31 31 w w.heap.size (fun k_ => P1_ k_) (.slice A1 l1.length c1) l1) (h : collatorref06_all.f l0 l1 = some r) :
  Calls Try.prog 43 #[.slice A0 l0.length c0, .slice A1 l1.length c1] w fun e w' => ∃ v0_ : Value, e = .returned v0_ ∧ Kd.N k31 31 w' w.heap.size (fun k_ => ((P0_ k_ ∨ P1_ k_) ∨ w.heap.size ≤ k_)) v0_ r ∧ Below w.heap.size w w' := by
 unfold collatorref06_all.f at h
 split at h
 ·rename_i hk
  obtain rfl := Option.some.inj h
  exact all_run P0_ P1_ A0 A1 c0 c1 l0 l1 w hs0 hs1 hk.1 hk.2
 ·cases h
end Go.Proofs.Ytgobidmfbjmpkaa.P
end
section
/- Laid for this claim by hp.py, this session's program round the kit's print: functions of the program as plain Lean functions, the proofs that the code comes to their answers, and the rows of the laws. Not trusted: Lean checks it. -/
namespace Go.Proofs.Ytgobidmfbjmpkaa.P
open Go.RowKit Go.Proofs.YtgobidmfbjmpkaaW.PrintWords Go.Proofs.YtgobidmfbjmpkaaW.PrintLast Go.Proofs.YtgobidmfbjmpkaaW.PrintMore
attribute [local go_sem] max2_int min2_int max_two min_two max_three min_three max_four min_four   -- for this text's walks alone
set_option linter.unusedVariables false
set_option linter.unusedSimpArgs false

/-! ### collatorref06_keeps: function 44 -/
def collatorref06_keeps.f (l0 : List (S31)) (a1 : Int) : Option ((List (S31))) := if a1 < 1 then (some l0) else ((collatorref06_all.f l0 (([(⟨1, a1, ([] : List ByteArray)⟩ : S31)] : List (S31)))).bind fun t198 => (some t198))
set_option maxHeartbeats 8000000 in
set_option maxRecDepth 100000 in
theorem collatorref06_keeps.calls (P0_ : Nat → Prop) (A0 : Option Addr) (c0 : Nat) (l0 : List (S31)) (a1 : Int) (r : List (S31)) (w : World) (hs0 : Kd.V k31 31 w w.heap.size (fun k_ => P0_ k_) (.slice A0 l0.length c0) l0) (h : collatorref06_keeps.f l0 a1 = some r) :
  Calls Try.prog 44 #[.slice A0 l0.length c0, .int .i64 a1] w fun e w' => ∃ v0_ : Value, e = .returned (v0_) ∧ Kd.V k31 31 w' w.heap.size (fun k_ => (P0_ k_ ∨ w.heap.size ≤ k_)) v0_ r ∧ Below w.heap.size w w' := by
 have hu31 := Try.underlying31
 have HO0 := Aside0.mk (show Kd.V k31 31 w w.heap.size (fun k_ => (P0_ k_ ∨ w.heap.size ≤ k_)) (.slice A0 l0.length c0) l0 from Kd.V_mono hs0 (fun k_ hk => .inl hk))
 have HLV0 := Aside0.mk (Go.Proofs.Ytgobidmfbjmpkaa.HVlt.v_lt hs0)
 have HB := Aside0.mk (Below.refl w.heap.size w)
 have H : (if a1 < 1 then (some l0) else ((collatorref06_all.f l0 (([(⟨1, a1, ([] : List ByteArray)⟩ : S31)] : List (S31)))).bind fun t198 => (some t198))) = some r := h
 clear h
 by_cases c3 : a1 < 1
 ·rw [if_pos c3] at H
  have c3b0 : decide (a1 < 1) = true := decide_eq_true c3
  clear c3
  obtain rfl := Option.some.inj H
  go_enter Try.func44, Try.ntmps44
  go_wp2
  go_ret
  exact ⟨_, by first | rfl | (simp [errW_none, errW_some] <;> rfl) | (simp [*, errW_none, errW_some] <;> rfl), by (with_reducible repeat (first | apply Kd.V_alloc | apply Kd.V_drewN | apply Kd.V_drew)); exact HO0.out, by repeat (first | (with_reducible first | exact HB.out | apply below_alloc | apply pw_below_drewN | apply below_drew1) | exact HB.out)⟩
 ·rw [if_neg c3] at H
  have c3b0 : decide (a1 < 1) = false := decide_eq_false c3
  clear c3
  obtain ⟨y195, hy195⟩ : ∃ y_ : List (S31), y_ = (([(⟨1, a1, ([] : List ByteArray)⟩ : S31)] : List (S31))) := ⟨_, rfl⟩
  replace H : ((collatorref06_all.f l0 y195).bind fun t198 => (some t198)) = some r := by first | (rw [hy195]; with_reducible exact H) | (have H2_ := (Option.bind_some _ _).symm.trans H; rw [hy195]; with_reducible exact H2_) | (have H2_ := (Option.bind_some _ _).symm.trans H; with_reducible exact H2_) | with_reducible exact H | (rw [hy195]; exact H) | exact H
  have Ny195 := Aside0.mk hy195
  clear hy195
  replace H := Option.bind_eq_some_iff.mp H
  obtain ⟨t198, A40, H⟩ := H
  replace H : (some t198) = some r := H
  have A4 := Aside0.mk A40
  clear A40
  obtain rfl := Option.some.inj H
  go_enter Try.func44, Try.ntmps44
  go_wp2_with (first | ((with_reducible refine gate_dst (N := 11) rfl ?_); refine Kd.N_lit k31 _ 31 ?hg (N' := 11) ?hd (xs := ([(⟨1, a1, ([] : List ByteArray)⟩ : S31)] : List (S31))) (inner := [.int .i64 1, .int .i64 a1, .slice none 0 0]) (ok := (fun k_ => (P0_ k_ ∨ w.heap.size ≤ k_))) (okp := (fun k_ => (P0_ k_ ∨ w.heap.size ≤ k_))) ?hr ?hp (fun _ hk => hk) ((show ∀ k_, w.heap.size ≤ k_ → (fun k_ => (P0_ k_ ∨ w.heap.size ≤ k_)) k_ from fun k_ hk => (.inr (Nat.le_trans (below_size hb_) hk))) _ (Nat.le_refl _)) (Below.refl _ _) (Nat.le_refl _) (by simp) ?_; (case hd => rfl); (case hg => rfl); (case hr => first | (go_simp; done) | (go_simp; rfl)); (case hp => exact (Reps.c3 (show Kd.FK k31 _ _ (⟨1, a1, ([] : List ByteArray)⟩ : S31) [.int .i64 1, .int .i64 a1, .slice none 0 0] from (k31_mkF _ _ (⟨1, a1, ([] : List ByteArray)⟩ : S31) (Nat.le_refl _) (Kd.F_nil _ _ _))) (Reps.none _ _))); intro v196 w5 ho6 hb hg_ hnew_; clear hg_ hnew_; (first | rw [← Ny195.out] at ho6 | (simp only [Int.reduceToNat] at ho6; rw [← Ny195.out] at ho6)); have n0_ := Aside0.mk (Kd.V_elder' (by (with_reducible repeat (first | apply Kd.V_alloc | apply Kd.V_drewN | apply Kd.V_drew)); exact HO0.out) (by first | exact Kd.N_base ho6 | exact Kd.S_base ho6 | exact Kd.N_base (Kd.R_N ho6)) hb); have n1_ := Aside0.mk (Kd.N_lower ho6 (below_size hb_)); have n2_ := Aside0.mk (below_step hb_ hb); clear HO0; clear HB; have HO0 := n0_; have HO197 := n1_; have HB := n2_; clear n0_ n1_ n2_; clear hb ho6; (try (obtain ⟨Ao7, co7, eo7⟩ := Kd.N_slice HO197.out; subst eo7))) | ((with_reducible refine gate_callee (f := 43) rfl ?_); refine goesL_ (some 12) rfl rfl Try.func43 (by kernel_rfl) rfl #[.slice A0 l0.length c0, .slice Ao7 y195.length co7] rfl mp_ ?_; (with_reducible refine (collatorref06_all.calls (fun k_ => ((P0_ k_ ∨ w.heap.size ≤ k_) ∧ some k_ ≠ (.slice Ao7 y195.length co7 : Value).ownBlock)) _ _ l0 (fun k_ => (P0_ k_ ∨ w.heap.size ≤ k_)) _ _ y195 t198 _ ?side1 ?side2 A4.out).mono ?_); (case side1 => exact HO0.out); (case side2 => exact Kd.N_V (HO197.out)); rintro e w8 ⟨v199, rfl, ho0, hb⟩; refine ⟨_, rfl, ?_⟩; have n0_ := Aside0.mk (Kd.V_elder' (by (with_reducible repeat (first | apply Kd.V_alloc | apply Kd.V_drewN | apply Kd.V_drew)); exact HO0.out) (by first | exact Kd.N_base ho0 | exact Kd.S_base ho0 | exact Kd.N_base (Kd.R_N ho0)) hb); have n1_ := Aside0.mk (Kd.N_elder' (by (with_reducible repeat (first | apply Kd.N_alloc | apply Kd.N_drewN | apply Kd.N_drew)); exact HO197.out) (by first | exact Kd.N_base ho0 | exact Kd.S_base ho0 | exact Kd.N_base (Kd.R_N ho0)) hb); have n2_ := Aside0.mk (Kd.N_lower (Kd.N_mono (ok' := fun k_ => (P0_ k_ ∨ w.heap.size ≤ k_)) ho0 (fun k_ hk_ => Or.elim hk_ (fun hs_ => Or.elim hs_ (fun hs_ => hs_.1) (fun hs_ => hs_)) (fun hn_ => (.inr (Nat.le_trans (below_size hb_) hn_))))) (below_size hb_)); have n3_ := Aside0.mk (below_step hb_ hb); clear HO0; clear HO197; clear HB; have HO0 := n0_; have HO197 := n1_; have HO200 := n2_; have HB := n3_; clear n0_ n1_ n2_ n3_; (try clear hb); (try clear hb2); (try clear hk); (try clear hi); (try clear ho0)))
  go_ret
  exact ⟨_, by first | rfl | (simp [errW_none, errW_some] <;> rfl) | (simp [*, errW_none, errW_some] <;> rfl), Kd.N_V (by (with_reducible repeat (first | apply Kd.N_alloc | apply Kd.N_drewN | apply Kd.N_drew)); exact HO200.out), by repeat (first | (with_reducible first | exact HB.out | apply below_alloc | apply pw_below_drewN | apply below_drew1) | exact HB.out)⟩

end Go.Proofs.Ytgobidmfbjmpkaa.P
end
section
/- Laid for this claim by hp.py, this session's program round the kit's print: functions of the program as plain Lean functions, the proofs that the code comes to their answers, and the rows of the laws. Not trusted: Lean checks it. -/
namespace Go.Proofs.Ytgobidmfbjmpkaa.P
open Go.RowKit Go.Proofs.YtgobidmfbjmpkaaW.PrintWords Go.Proofs.YtgobidmfbjmpkaaW.PrintLast Go.Proofs.YtgobidmfbjmpkaaW.PrintMore
attribute [local go_sem] max2_int min2_int max_two min_two max_three min_three max_four min_four   -- for this text's walks alone
set_option linter.unusedVariables false
set_option linter.unusedSimpArgs false

/-! ### collatorref06_Script: function 19 -/
mutual
def collatorref06_Script.j0 : Nat → List (S28) → Int → Bool → Option ((List (S31)) × Int)
 | 0, _, _, _ => none
 | k + 1, x0, x1, x23 => if x23 = true then (some (([] : List (S31)), 1)) else (collatorref06_Script.l0 k x0 x1 ([] : List (S31)) 0 0)
def collatorref06_Script.l0 : Nat → List (S28) → Int → List (S31) → Int → Int → Option ((List (S31)) × Int)
 | 0, _, _, _, _, _ => none
 | k + 1, x0, x1, x7, x8, x9 => if x9 < (x0.length : Int) then (if 0 ≤ x9 then ((collatorref06_keeps.f x7 (wrap64 (((rd_T28 x0 x9).f0) - x8))).bind fun t203 => ((collatorref06_all.f t203 ((rd_T28 x0 x9).f2)).bind fun t207 => ((collatorref04_Spans.f k ((rd_T28 x0 x9).f2)).bind fun bt211 => (collatorref06_Script.l0 k x0 x1 t207 (wrap64 (((rd_T28 x0 x9).f0) + bt211.1)) (wrap64 (x9 + 1)))))) else (none)) else (if x8 > x1 then (some (([] : List (S31)), 11)) else ((collatorref06_keeps.f x7 (wrap64 (x1 - x8))).bind fun t214 => (some (t214, 0))))
end
def collatorref06_Script.f (k : Nat) (l0 : List (S28)) (a1 : Int) : Option ((List (S31)) × Int) := (collatorref06_Right.f k l0).bind fun t201 => (if t201 = true then (if a1 < 0 then (collatorref06_Script.j0 k l0 a1 true) else (collatorref06_Script.j0 k l0 a1 (decide (a1 > 1048576)))) else (collatorref06_Script.j0 k l0 a1 true))
def collatorref06_Script.T9 : Bool × List (List Nat × List Nat) := (true, [([], []), ([], []), ([], []), ([1, 2], [1, 2]), ([3], [3]), ([4], [4]), ([], []), ([5, 6], [5, 6]), ([0, 7], [0, 7]), ([], []), ([], []), ([9, 10], [9, 10]), ([11], [11]), ([12], [12]), ([8, 13, 8], [8, 13]), ([14, 14, 0, 1, 2, 3, 4, 5, 6, 7, 8, 9, 10, 11, 12, 13, 14], [0, 14])])
def collatorref06_Script.B9 : List Nat := [0, 0, 0, 6, 14, 30, 0, 126, 255, 0, 0, 1536, 3584, 7680, 16383, 32767]
theorem collatorref06_Script.tab9 : rtab .any (opsOf Try.f19 9) = collatorref06_Script.T9 := by kernel_rfl
theorem collatorref06_Script.bits9 : waitsOk collatorref06_Script.T9.2 collatorref06_Script.B9 = true := by kernel_rfl
set_option maxHeartbeats 8000000 in
set_option maxRecDepth 100000 in
theorem collatorref06_Script.calls (k : Nat) (P0_ : Nat → Prop) (A0 : Option Addr) (c0 : Nat) (l0 : List (S28)) (a1 : Int) (r1 : List (S31)) (r2 : Int) (w : World) (hs0 : Kd.V k28 28 w w.heap.size (fun k_ => P0_ k_) (.slice A0 l0.length c0) l0) (h : collatorref06_Script.f k l0 a1 = some (r1, r2)) :
  Calls Try.prog 19 #[.slice A0 l0.length c0, .int .i64 a1] w fun e w' => ∃ v0_ : Value, e = .returned (.tuple #[v0_, .int .i64 r2]) ∧ Kd.V k31 31 w' w.heap.size (fun k_ => (P0_ k_ ∨ w.heap.size ≤ k_)) v0_ r1 ∧ Below w.heap.size w w' := by
 have HO0 := Aside0.mk (show Kd.V k28 28 w w.heap.size (fun k_ => (P0_ k_ ∨ w.heap.size ≤ k_)) (.slice A0 l0.length c0) l0 from Kd.V_mono hs0 (fun k_ hk => .inl hk))
 have HLV0 := Aside0.mk (Go.Proofs.Ytgobidmfbjmpkaa.HVlt.v_lt hs0)
 have HB := Aside0.mk (Below.refl w.heap.size w)
 have H : ((collatorref06_Right.f k l0).bind fun t201 => (if t201 = true then (if a1 < 0 then (collatorref06_Script.j0 k l0 a1 true) else (collatorref06_Script.j0 k l0 a1 (decide (a1 > 1048576)))) else (collatorref06_Script.j0 k l0 a1 true))) = some (r1, r2) := h
 clear h
 replace H := Option.bind_eq_some_iff.mp H
 obtain ⟨t201, A30, H⟩ := H
 replace H : (if t201 = true then (if a1 < 0 then (collatorref06_Script.j0 k l0 a1 true) else (collatorref06_Script.j0 k l0 a1 (decide (a1 > 1048576)))) else (collatorref06_Script.j0 k l0 a1 true)) = some (r1, r2) := H
 have A3 := Aside0.mk A30
 clear A30
 have HC4 := Aside0.mk H
 clear H
 go_enter Try.func19, Try.ntmps19
 go_upto_region 2 with (first | ((with_reducible refine gate_callee (f := 17) rfl ?_); refine goesL_ (some 13) rfl rfl Try.func17 (by kernel_rfl) rfl #[.slice A0 l0.length c0] rfl mp_ ?_; (with_reducible refine (collatorref06_Right.calls k _ _ l0 t201 _ ?side1 ?side2 A3.out).mono ?_); (case side1 => repeat (first | exact (Kd.V_reads' HO0.out).2.2 | (with_reducible refine Kd.C_alloc ?_ _) | (with_reducible refine Kd.C_drewN ?_ _) | (with_reducible refine Kd.C_drew ?_))); (case side2 => exact (Kd.V_reads' HO0.out).2.1); rintro e w5 ⟨rfl, hb⟩; refine ⟨_, rfl, ?_⟩; have n0_ := Aside0.mk (Kd.V_below (by (with_reducible repeat (first | apply Kd.V_alloc | apply Kd.V_drewN | apply Kd.V_drew)); exact HO0.out) hb); have n1_ := Aside0.mk (below_step hb_ hb); clear HO0; clear HB; have HO0 := n0_; have HB := n1_; clear n0_ n1_; (try clear hb); (try clear hb2); (try clear hk); (try clear hi)))
 (try simp only [Act.put, List.setIfInBounds_toArray, List.set_cons_zero, List.set_cons_succ])
 go_cut [23] (fun v23 wc => ∃ (kq : Nat) (x23_3 : Bool), v23 = .bool x23_3 ∧ Aside0 (collatorref06_Script.j0 kq l0 a1 x23_3 = some (r1, r2)) ∧ Aside0 (kq ≤ k) ∧ Aside0 (Kd.V k28 28 wc w.heap.size (fun k_ => (P0_ k_ ∨ w.heap.size ≤ k_)) (.slice A0 l0.length c0) l0) ∧ Aside0 (Below w.heap.size w wc))
 case first =>
  have H := HC4.out
  clear HC4
  by_cases c6 : t201 = true
  ·subst c6
   have H1 : (if a1 < 0 then (collatorref06_Script.j0 k l0 a1 true) else (collatorref06_Script.j0 k l0 a1 (decide (a1 > 1048576)))) = some (r1, r2) := by rw [if_pos rfl] at H; exact H
   clear H
   have H := H1
   clear H1
   by_cases c7 : a1 < 0
   ·rw [if_pos c7] at H
    have c7b0 : decide (a1 < 0) = true := decide_eq_true c7
    clear c7
    (first | rw [c7b0] | rw [c7b1] | (simp only [i64_w, i32_w]; rw [c7b0]) | skip)
    have H' := Aside0.mk H
    clear H
    go_wp2
    go_meet
    case rel => exact ⟨_, (true), rf_, H', ⟨by first | omega | exact Nat.le_refl _⟩, ⟨by (with_reducible repeat (first | apply Kd.V_alloc | apply Kd.V_drewN | apply Kd.V_drew)); exact HO0.out⟩, ⟨by repeat (first | (with_reducible first | exact HB.out | apply below_alloc | apply pw_below_drewN | apply below_drew1) | exact HB.out)⟩⟩
   ·rw [if_neg c7] at H
    have c7b0 : decide (a1 < 0) = false := decide_eq_false c7
    clear c7
    (first | rw [c7b0] | rw [c7b1] | (simp only [i64_w, i32_w]; rw [c7b0]) | skip)
    have H' := Aside0.mk H
    clear H
    go_wp2
    go_meet
    case rel => exact ⟨_, (decide (a1 > 1048576)), rf_, H', ⟨by first | omega | exact Nat.le_refl _⟩, ⟨by (with_reducible repeat (first | apply Kd.V_alloc | apply Kd.V_drewN | apply Kd.V_drew)); exact HO0.out⟩, ⟨by repeat (first | (with_reducible first | exact HB.out | apply below_alloc | apply pw_below_drewN | apply below_drew1) | exact HB.out)⟩⟩
  ·replace c6 := Bool.eq_false_iff.mpr c6
   subst c6
   have H1 : (collatorref06_Script.j0 k l0 a1 true) = some (r1, r2) := by rw [if_neg (show ¬ (false = true) by decide)] at H; exact H
   clear H
   have H := H1
   clear H1
   have H' := Aside0.mk H
   clear H
   go_wp2
   go_meet
   case rel => exact ⟨_, (true), rf_, H', ⟨by first | omega | exact Nat.le_refl _⟩, ⟨by (with_reducible repeat (first | apply Kd.V_alloc | apply Kd.V_drewN | apply Kd.V_drew)); exact HO0.out⟩, ⟨by repeat (first | (with_reducible first | exact HB.out | apply below_alloc | apply pw_below_drewN | apply below_drew1) | exact HB.out)⟩⟩
 case rest =>
  clear HC4
  (try clear c1);(try clear p2);(try clear c6);(try clear c7);(try clear c7b0)
  obtain ⟨kq, x23_3, rfl, HA, HJ3, HO_0, HB⟩ := hcut
  cases kq with
  | zero => exact absurd HA.out (by simp [collatorref06_Script.j0])
  | succ kj3 =>
   have H := HA.out
   clear HA
   simp only [collatorref06_Script.j0] at H
   by_cases c8 : x23_3 = true
   ·subst c8
    have H1 : (some (([] : List (S31)), 1)) = some (r1, r2) := by rw [if_pos rfl] at H; exact H
    clear H
    have H := H1
    clear H1
    simp only [Option.some.injEq, Prod.mk.injEq] at H
    obtain ⟨rfl, rfl⟩ := H
    go_wp2
    go_ret2
    exact ⟨_, by first | rfl | (simp [errW_none, errW_some] <;> rfl) | (simp [*, errW_none, errW_some] <;> rfl), Kd.N_V (by first | exact Kd.N_nil _ _ _ 0 _ | exact Kd.V_nil _ _ _ _ _ | exact Kd.Q_nil _ _ _ _ _ | exact Kd.R_nil _ _ _ _ _), by repeat (first | (with_reducible first | exact HB.out | apply below_alloc | apply pw_below_drewN | apply below_drew1) | exact HB.out)⟩
   ·replace c8 := Bool.eq_false_iff.mpr c8
    subst c8
    have H1 : (collatorref06_Script.l0 kj3 l0 a1 ([] : List (S31)) 0 0) = some (r1, r2) := by rw [if_neg (show ¬ (false = true) by decide)] at H; exact H
    clear H
    have H := H1
    clear H1
    have H' := Aside0.mk H
    clear H
    go_wp2
    go_loopg [7, 8, 9] kj3 (fun kq v7 v8 v9 w' => ∃ (x7_2 : List (S31)) (x8_2 : Int) (x9_2 : Int), v8 = .int .i64 x8_2 ∧ v9 = .int .i64 x9_2 ∧ Aside0 (collatorref06_Script.l0 kq l0 a1 x7_2 x8_2 x9_2 = some (r1, r2)) ∧ Aside0 (kq ≤ kj3) ∧ Aside0 (Kd.V k28 28 w' w.heap.size (fun k_ => (P0_ k_ ∨ w.heap.size ≤ k_) ∧ some k_ ≠ (v7 : Value).ownBlock) (.slice A0 l0.length c0) l0) ∧ Aside0 (Kd.N k31 31 w' w.heap.size (fun k_ => (P0_ k_ ∨ w.heap.size ≤ k_)) v7 x7_2) ∧ Aside0 (Below w.heap.size w w'))
    case atStart => exact ⟨(([] : List (S31))), (0), (0), rf_, rf_, H', ⟨Nat.le_refl _⟩, ⟨by (with_reducible repeat (first | apply Kd.V_alloc | apply Kd.V_drewN | apply Kd.V_drew)); exact Kd.V_mono HO_0.out (fun _ hk => ⟨hk, (by simp [Value.ownBlock])⟩)⟩, ⟨by first | exact Kd.S_nil _ _ _ _ _ | exact Kd.N_nil _ _ _ _ _ | exact Kd.V_nil _ _ _ _ _ | exact Kd.Q_nil _ _ _ _ _ | exact Kd.R_nil _ _ _ _ _⟩, ⟨by repeat (first | (with_reducible first | exact HB.out | apply below_alloc | apply pw_below_drewN | apply below_drew1) | exact HB.out)⟩⟩
    case round =>
     clear H'
     (try clear c1);(try clear p2);(try clear c6);(try clear c7);(try clear c7b0);(try clear c8);(try clear p2)
     obtain ⟨x7_2, x8_2, x9_2, rfl, rfl, HA, HK2, HO_0, HO_7, HB⟩ := hrel
     cases gk with
     | zero => exact absurd HA.out (by simp [collatorref06_Script.l0])
     | succ k2 =>
      have H := HA.out
      clear HA
      simp only [collatorref06_Script.l0] at H
      by_cases c9 : x9_2 < (l0.length : Int)
      ·rw [if_pos c9] at H
       have c9b0 : decide (x9_2 < (l0.length : Int)) = true := decide_eq_true c9
       clear c9
       by_cases c10 : 0 ≤ x9_2
       ·rw [if_pos c10] at H
        have c10b0 : decide (0 ≤ x9_2) = true := decide_eq_true c10
        clear c10
        replace H := Option.bind_eq_some_iff.mp H
        obtain ⟨t203, A110, H⟩ := H
        replace H : ((collatorref06_all.f t203 ((rd_T28 l0 x9_2).f2)).bind fun t207 => ((collatorref04_Spans.f k2 ((rd_T28 l0 x9_2).f2)).bind fun bt211 => (collatorref06_Script.l0 k2 l0 a1 t207 (wrap64 (((rd_T28 l0 x9_2).f0) + bt211.1)) (wrap64 (x9_2 + 1))))) = some (r1, r2) := H
        have A11 := Aside0.mk A110
        clear A110
        replace H := Option.bind_eq_some_iff.mp H
        obtain ⟨t207, A120, H⟩ := H
        replace H : ((collatorref04_Spans.f k2 ((rd_T28 l0 x9_2).f2)).bind fun bt211 => (collatorref06_Script.l0 k2 l0 a1 t207 (wrap64 (((rd_T28 l0 x9_2).f0) + bt211.1)) (wrap64 (x9_2 + 1)))) = some (r1, r2) := H
        have A12 := Aside0.mk A120
        clear A120
        replace H := Option.bind_eq_some_iff.mp H
        obtain ⟨⟨t211, t212⟩, A130, H⟩ := H
        replace H : (collatorref06_Script.l0 k2 l0 a1 t207 (wrap64 (((rd_T28 l0 x9_2).f0) + t211)) (wrap64 (x9_2 + 1))) = some (r1, r2) := H
        have A13 := Aside0.mk A130
        clear A130
        have H' := Aside0.mk H
        clear H
        try go_wp2
        have n0_ := Aside0.mk (Kd.V_drew HO_0.out)
        have n1_ := Aside0.mk (Kd.N_drew HO_7.out)
        have n2_ := Aside0.mk (below_drew1 HB.out)
        clear HO_0
        clear HO_7
        clear HB
        have HO_0 := n0_
        have HO_7 := n1_
        have HB := n2_
        clear n0_ n1_ n2_
        have p202 : 0 ≤ (x9_2 : Int) := of_decide_eq_true as_
        have q202 : x9_2 < (l0.length : Int) := of_decide_eq_true as_
        obtain ⟨ad202, A202_2, c202_2, e202, hx202_0, hx202_1, hx202_2, hl202_2, hi202_2⟩ := at_T28 (Kd.V_reads' HO_0.out).2.2 x9_2 p202 q202
        cases e202
        obtain ⟨ce202, hce202, hMe202, hcc202⟩ := Kd.V_get HO_0.out z28 x9_2 p202 (by first | exact q202 | exact of_decide_eq_true as_ | (have e_ := (Kd.V_reads' HO_0.out).1; omega))
        obtain ⟨ua202_2, uc202_2, rfl, ul202_2, ge202_2⟩ := k28_openF hMe202
        have hv202_2 := hcc202 2 _ rfl
        rw [add_field _ _ 2 (by omega)] at hv202_2
        replace hv202_2 := Option.some.inj (hv202_2.symm.trans hx202_2)
        injection hv202_2 with hva_ hvn_ hvc_
        rw [hva_] at ge202_2
        rw [hvc_] at ul202_2
        have HL202_2 := Aside0.mk (show Kd.V k31 31 _ w.heap.size _ _ ((rd_T28 l0 x9_2).f2) from Kd.V_mk ul202_2 ge202_2)
        clear hva_ hvn_ hvc_ ge202_2 ul202_2
        clear hcc202 hce202
        have HR202_2 := Aside0.mk hi202_2
        have HC202_2 := Aside0.mk hl202_2
        clear hi202_2 hl202_2
        replace p202 := eq_true p202
        replace q202 := eq_true q202
        have p206 : 0 ≤ (x9_2 : Int) := of_decide_eq_true as_
        have q206 : x9_2 < (l0.length : Int) := of_decide_eq_true as_
        obtain ⟨ad206, A206_2, c206_2, e206, hx206_0, hx206_1, hx206_2, hl206_2, hi206_2⟩ := at_T28 (Kd.V_reads' HO_0.out).2.2 x9_2 p206 q206
        obtain rfl : ad202 = ad206 := (by injection e206)
        obtain ⟨ce206, hce206, hMe206, hcc206⟩ := Kd.V_get HO_0.out z28 x9_2 p206 (by first | exact q206 | exact of_decide_eq_true as_ | (have e_ := (Kd.V_reads' HO_0.out).1; omega))
        obtain ⟨ua206_2, uc206_2, rfl, ul206_2, ge206_2⟩ := k28_openF hMe206
        have hv206_2 := hcc206 2 _ rfl
        rw [add_field _ _ 2 (by omega)] at hv206_2
        replace hv206_2 := Option.some.inj (hv206_2.symm.trans hx206_2)
        injection hv206_2 with hva_ hvn_ hvc_
        rw [hva_] at ge206_2
        rw [hvc_] at ul206_2
        have HL206_2 := Aside0.mk (show Kd.V k31 31 _ w.heap.size _ _ ((rd_T28 l0 x9_2).f2) from Kd.V_mk ul206_2 ge206_2)
        clear hva_ hvn_ hvc_ ge206_2 ul206_2
        clear hcc206 hce206
        have HR206_2 := Aside0.mk hi206_2
        have HC206_2 := Aside0.mk hl206_2
        clear hi206_2 hl206_2
        replace p206 := eq_true p206
        replace q206 := eq_true q206
        have ea_ := Option.some.inj (hx202_2.symm.trans hx206_2)
        injection ea_ with ea_ en_ ec_
        subst ea_
        subst ec_
        clear en_
        obtain ⟨Ao15, co15, eo15⟩ := Kd.N_slice HO_7.out
        (first | subst eo15 | (injection eo15 with f1_ f2_ f3_; have f4_ := f1_.symm; have f5_ := f3_.symm; clear f1_ f2_ f3_; subst f4_; subst f5_))
        refine start_ (n := 16) (S := fun w' => w'.cell? (ad202.add ((x9_2).toNat * 3)) = some (.int .i64 ((rd_T28 l0 x9_2).f0)) ∧ w'.cell? ⟨(ad202.add ((x9_2).toNat * 3)).block, (ad202.add ((x9_2).toNat * 3)).off + 1, none⟩ = some (.int .i64 ((rd_T28 l0 x9_2).f1)) ∧ w'.cell? ⟨(ad202.add ((x9_2).toNat * 3)).block, (ad202.add ((x9_2).toNat * 3)).off + 2, none⟩ = some (.slice A202_2 ((rd_T28 l0 x9_2).f2).length c202_2) ∧ w'.cell? (ad202.add ((x9_2).toNat * 3)) = some (.int .i64 ((rd_T28 l0 x9_2).f0)) ∧ w'.cell? ⟨(ad202.add ((x9_2).toNat * 3)).block, (ad202.add ((x9_2).toNat * 3)).off + 1, none⟩ = some (.int .i64 ((rd_T28 l0 x9_2).f1)) ∧ w'.cell? ⟨(ad202.add ((x9_2).toNat * 3)).block, (ad202.add ((x9_2).toNat * 3)).off + 2, none⟩ = some (.slice A202_2 ((rd_T28 l0 x9_2).f2).length c202_2)) (ds := []) #[false, false, false, false, false, false, false, false, false, false, false, false, false, false, false, false] (by kernel_rfl) rfl rfl ⟨hx202_0, hx202_1, hx202_2, hx206_0, hx206_1, hx206_2⟩ (fun hHeld => ?_); refine with_tabW collatorref06_Script.tab9 collatorref06_Script.bits9 (fun HT_ HW_ => ?_)
        generalize wr.drew = w14 at HO_0 HO_7 HB HL202_2 HL206_2 HR202_2 HR206_2 hx202_0 hx202_1 hx202_2 hx206_0 hx206_1 hx206_2 hHeld ⊢
        refine pu_ (i := 0) (N := some 30) (any_of HT_.out (by kernel_rfl)) ?_
        refine pu_ (i := 1) (N := some 31) (any_of HT_.out (by kernel_rfl)) ?_
        refine pu_ (i := 2) (N := some 32) (any_of HT_.out (by kernel_rfl)) ?_
        refine pu_ (i := 3) (N := some 33) (any_of HT_.out (by kernel_rfl)) ?_
        refine pu_ (i := 4) (N := some 34) (any_of HT_.out (by kernel_rfl)) ?_
        refine pu_ (i := 6) (N := some 36) (any_of HT_.out (by kernel_rfl)) ?_
        refine pu_ (i := 9) (N := some 39) (any_of HT_.out (by kernel_rfl)) ?_
        refine pu_ (i := 10) (N := some 40) (any_of HT_.out (by kernel_rfl)) ?_
        refine pu_ (i := 11) (N := some 41) (any_of HT_.out (by kernel_rfl)) ?_
        refine pu_ (i := 12) (N := some 42) (any_of HT_.out (by kernel_rfl)) ?_
        refine ta_ (i := 5) (N := some 35) (take_ofW HT_.out HW_.out (by kernel_rfl)) hHeld ?_
        refine pu_ (i := 7) (N := some 37) (any_of HT_.out (by kernel_rfl)) ?_
        refine ta_ (i := 13) (N := some 43) (take_ofW HT_.out HW_.out (by kernel_rfl)) hHeld ?_
        refine one_ (i := 8) (N := some 38) #[true, true, true, true, true, true, true, true, true, true, true, true, true, true, false, false] rfl rfl (one_of HT_.out (by kernel_rfl)) (by decide) (fun K hK => ?_)
        refine goes_ Try.func44 (by kernel_rfl) rfl #[.slice Ao15 x7_2.length co15, .int .i64 (wrap64 (((rd_T28 l0 x9_2).f0) - x8_2))] (by rfl) rfl rfl mp_ ?_
        with_reducible refine (collatorref06_keeps.calls (fun k_ => (P0_ k_ ∨ w.heap.size ≤ k_)) _ _ x7_2 (wrap64 (((rd_T28 l0 x9_2).f0) - x8_2)) t203 _ ?side1 A11.out).mono ?_
        (case side1 => exact Kd.N_V (HO_7.out))
        rintro e w16 ⟨v204, rfl, ho0, hb⟩
        have HS0_ := (hb.cell (World.block_lt_of_cell? _ _ (hHeld.1))).trans (hHeld.1)
        have HS1_ := (hb.cell (World.block_lt_of_cell? _ _ (hHeld.2.1))).trans (hHeld.2.1)
        have HS2_ := (hb.cell (World.block_lt_of_cell? _ _ (hHeld.2.2.1))).trans (hHeld.2.2.1)
        have HS3_ := (hb.cell (World.block_lt_of_cell? _ _ (hHeld.2.2.2.1))).trans (hHeld.2.2.2.1)
        have HS4_ := (hb.cell (World.block_lt_of_cell? _ _ (hHeld.2.2.2.2.1))).trans (hHeld.2.2.2.2.1)
        have HS5_ := (hb.cell (World.block_lt_of_cell? _ _ (hHeld.2.2.2.2.2))).trans (hHeld.2.2.2.2.2)
        refine ⟨_, rfl, ?_⟩
        have n0_ := Aside0.mk (Kd.V_below (by (with_reducible repeat (first | apply Kd.V_alloc | apply Kd.V_drewN | apply Kd.V_drew)); exact HO_0.out) hb)
        have n1_ := Aside0.mk (Kd.N_below (by (with_reducible repeat (first | apply Kd.N_alloc | apply Kd.N_drewN | apply Kd.N_drew)); exact HO_7.out) hb)
        have n2_ := Aside0.mk (Kd.V_below (by (with_reducible repeat (first | apply Kd.V_alloc | apply Kd.V_drewN | apply Kd.V_drew)); exact HL202_2.out) hb)
        have n3_ := Aside0.mk (Kd.V_below (by (with_reducible repeat (first | apply Kd.V_alloc | apply Kd.V_drewN | apply Kd.V_drew)); exact HL206_2.out) hb)
        have n4_ := Aside0.mk (Kd.V_lower (Kd.V_mono (ok' := fun k_ => (P0_ k_ ∨ w.heap.size ≤ k_)) ho0 (fun k_ hk_ => Or.elim hk_ (fun hs_ => hs_) (fun hn_ => (.inr (Nat.le_trans (below_size hb_) hn_))))) (below_size hb_))
        have n5_ := Aside0.mk (Kd.C_below (by repeat (first | (with_reducible exact HR202_2.out) | (with_reducible refine Kd.C_alloc ?_ _) | (with_reducible refine Kd.C_drewN ?_ _) | (with_reducible refine Kd.C_drew ?_) | exact HR202_2.out)) hb)
        have n6_ := Aside0.mk (Kd.C_below (by repeat (first | (with_reducible exact HR206_2.out) | (with_reducible refine Kd.C_alloc ?_ _) | (with_reducible refine Kd.C_drewN ?_ _) | (with_reducible refine Kd.C_drew ?_) | exact HR206_2.out)) hb)
        have n7_ := Aside0.mk (below_step hb_ hb)
        clear HO_0
        clear HO_7
        clear HL202_2
        clear HL206_2
        clear HR202_2
        clear HR206_2
        clear HB
        have HO_0 := n0_
        have HO_7 := n1_
        have HL202_2 := n2_
        have HL206_2 := n3_
        have HO205 := n4_
        have HR202_2 := n5_
        have HR206_2 := n6_
        have HB := n7_
        clear n0_ n1_ n2_ n3_ n4_ n5_ n6_ n7_
        (try clear hb)
        (try clear hb2)
        (try clear hk)
        (try clear hi)
        (try clear ho0)
        obtain ⟨Ao17, co17, eo17⟩ := Kd.V_slice HO205.out
        (first | subst eo17 | (injection eo17 with f1_ f2_ f3_; have f4_ := f1_.symm; have f5_ := f3_.symm; clear f1_ f2_ f3_; subst f4_; subst f5_))
        refine hK.out _ _ ⟨HS0_, HS1_, HS2_, HS3_, HS4_, HS5_⟩ (fun hHeld => ?_)
        clear hK K
        refine norm_ (a' := ?_) ?_ ?_
        rotate_left
        ·show Act.put _ (some 38) _ = _
         simp only [Act.put, List.setIfInBounds_toArray, List.set_cons_zero, List.set_cons_succ, i64_w, i32_w]
         rfl
        refine one_ (i := 14) (N := some 44) #[true, true, true, true, true, true, true, true, true, true, true, true, true, true, true, false] rfl rfl (one_of HT_.out (by kernel_rfl)) (by decide) (fun K hK => ?_)
        refine goes_ Try.func43 (by kernel_rfl) rfl #[.slice Ao17 t203.length co17, .slice A202_2 ((rd_T28 l0 x9_2).f2).length c202_2] (by rfl) rfl rfl mp_ ?_
        with_reducible refine (collatorref06_all.calls (fun k_ => (P0_ k_ ∨ w.heap.size ≤ k_)) _ _ t203 (fun k_ => ((P0_ k_ ∨ w.heap.size ≤ k_) ∧ some k_ ≠ (.slice Ao15 x7_2.length co15 : Value).ownBlock)) _ _ ((rd_T28 l0 x9_2).f2) t207 _ ?side1 ?side2 A12.out).mono ?_
        (case side1 => exact HO205.out)
        (case side2 => exact HL206_2.out)
        rintro e w18 ⟨v208, rfl, ho0, hb⟩
        have HS0_ := (hb.cell (World.block_lt_of_cell? _ _ (hHeld.1))).trans (hHeld.1)
        have HS1_ := (hb.cell (World.block_lt_of_cell? _ _ (hHeld.2.1))).trans (hHeld.2.1)
        have HS2_ := (hb.cell (World.block_lt_of_cell? _ _ (hHeld.2.2.1))).trans (hHeld.2.2.1)
        have HS3_ := (hb.cell (World.block_lt_of_cell? _ _ (hHeld.2.2.2.1))).trans (hHeld.2.2.2.1)
        have HS4_ := (hb.cell (World.block_lt_of_cell? _ _ (hHeld.2.2.2.2.1))).trans (hHeld.2.2.2.2.1)
        have HS5_ := (hb.cell (World.block_lt_of_cell? _ _ (hHeld.2.2.2.2.2))).trans (hHeld.2.2.2.2.2)
        refine ⟨_, rfl, ?_⟩
        have n0_ := Aside0.mk (Kd.V_elder' (by (with_reducible repeat (first | apply Kd.V_alloc | apply Kd.V_drewN | apply Kd.V_drew)); exact HO_0.out) (by first | exact Kd.N_base ho0 | exact Kd.S_base ho0 | exact Kd.N_base (Kd.R_N ho0)) hb)
        have n1_ := Aside0.mk (Kd.N_elder' (by (with_reducible repeat (first | apply Kd.N_alloc | apply Kd.N_drewN | apply Kd.N_drew)); exact HO_7.out) (by first | exact Kd.N_base ho0 | exact Kd.S_base ho0 | exact Kd.N_base (Kd.R_N ho0)) hb)
        have n2_ := Aside0.mk (Kd.V_elder' (by (with_reducible repeat (first | apply Kd.V_alloc | apply Kd.V_drewN | apply Kd.V_drew)); exact HL202_2.out) (by first | exact Kd.N_base ho0 | exact Kd.S_base ho0 | exact Kd.N_base (Kd.R_N ho0)) hb)
        have n3_ := Aside0.mk (Kd.V_elder' (by (with_reducible repeat (first | apply Kd.V_alloc | apply Kd.V_drewN | apply Kd.V_drew)); exact HL206_2.out) (by first | exact Kd.N_base ho0 | exact Kd.S_base ho0 | exact Kd.N_base (Kd.R_N ho0)) hb)
        have n4_ := Aside0.mk (Kd.V_elder' (by (with_reducible repeat (first | apply Kd.V_alloc | apply Kd.V_drewN | apply Kd.V_drew)); exact HO205.out) (by first | exact Kd.N_base ho0 | exact Kd.S_base ho0 | exact Kd.N_base (Kd.R_N ho0)) hb)
        have n5_ := Aside0.mk (Kd.N_lower (Kd.N_mono (ok' := fun k_ => (P0_ k_ ∨ w.heap.size ≤ k_)) ho0 (fun k_ hk_ => Or.elim hk_ (fun hs_ => Or.elim hs_ (fun hs_ => hs_) (fun hs_ => hs_.1)) (fun hn_ => (.inr (Nat.le_trans (below_size hb_) hn_))))) (below_size hb_))
        have n6_ := Aside0.mk (Kd.C_below (by repeat (first | (with_reducible exact HR202_2.out) | (with_reducible refine Kd.C_alloc ?_ _) | (with_reducible refine Kd.C_drewN ?_ _) | (with_reducible refine Kd.C_drew ?_) | exact HR202_2.out)) hb)
        have n7_ := Aside0.mk (Kd.C_below (by repeat (first | (with_reducible exact HR206_2.out) | (with_reducible refine Kd.C_alloc ?_ _) | (with_reducible refine Kd.C_drewN ?_ _) | (with_reducible refine Kd.C_drew ?_) | exact HR206_2.out)) hb)
        have n8_ := Aside0.mk (below_step hb_ hb)
        clear HO_0
        clear HO_7
        clear HL202_2
        clear HL206_2
        clear HO205
        clear HR202_2
        clear HR206_2
        clear HB
        have HO_0 := n0_
        have HO_7 := n1_
        have HL202_2 := n2_
        have HL206_2 := n3_
        have HO205 := n4_
        have HO209 := n5_
        have HR202_2 := n6_
        have HR206_2 := n7_
        have HB := n8_
        clear n0_ n1_ n2_ n3_ n4_ n5_ n6_ n7_ n8_
        (try clear hb)
        (try clear hb2)
        (try clear hk)
        (try clear hi)
        (try clear ho0)
        refine hK.out _ _ ⟨HS0_, HS1_, HS2_, HS3_, HS4_, HS5_⟩ (fun hHeld => ?_)
        clear hK K
        refine norm_ (a' := ?_) ?_ ?_
        rotate_left
        ·show Act.put _ (some 44) _ = _
         simp only [Act.put, List.setIfInBounds_toArray, List.set_cons_zero, List.set_cons_succ, i64_w, i32_w]
         rfl
        refine pu_ (i := 15) (N := some 7) (any_of HT_.out (by kernel_rfl)) ?_
        refine done_ (done_of HT_.out (by kernel_rfl)) ?_
        have p210 : 0 ≤ (x9_2 : Int) := of_decide_eq_true as_
        have q210 : x9_2 < (l0.length : Int) := of_decide_eq_true as_
        obtain ⟨ad210, A210_2, c210_2, e210, hx210_0, hx210_1, hx210_2, hl210_2, hi210_2⟩ := at_T28 (Kd.V_reads' HO_0.out).2.2 x9_2 p210 q210
        obtain rfl : ad202 = ad210 := (by injection e210)
        obtain ⟨ce210, hce210, hMe210, hcc210⟩ := Kd.V_get HO_0.out z28 x9_2 p210 (by first | exact q210 | exact of_decide_eq_true as_ | (have e_ := (Kd.V_reads' HO_0.out).1; omega))
        obtain ⟨ua210_2, uc210_2, rfl, ul210_2, ge210_2⟩ := k28_openF hMe210
        have hv210_2 := hcc210 2 _ rfl
        rw [add_field _ _ 2 (by omega)] at hv210_2
        replace hv210_2 := Option.some.inj (hv210_2.symm.trans hx210_2)
        injection hv210_2 with hva_ hvn_ hvc_
        rw [hva_] at ge210_2
        rw [hvc_] at ul210_2
        have HL210_2 := Aside0.mk (show Kd.V k31 31 _ w.heap.size _ _ ((rd_T28 l0 x9_2).f2) from Kd.V_mk ul210_2 ge210_2)
        clear hva_ hvn_ hvc_ ge210_2 ul210_2
        clear hcc210 hce210
        have HR210_2 := Aside0.mk hi210_2
        have HC210_2 := Aside0.mk hl210_2
        clear hi210_2 hl210_2
        replace p210 := eq_true p210
        replace q210 := eq_true q210
        have ea_ := Option.some.inj (hHeld.2.2.1.symm.trans hx210_2)
        injection ea_ with ea_ en_ ec_
        subst ea_
        subst ec_
        clear en_
        try go_wp2_with (first | ((with_reducible refine gate_callee (f := 39) rfl ?_); refine goesL_ (some 51) rfl rfl Try.func39 (by kernel_rfl) rfl #[.slice A202_2 ((rd_T28 l0 x9_2).f2).length c202_2] rfl mp_ ?_; (with_reducible refine (collatorref04_Spans.calls k2 _ _ ((rd_T28 l0 x9_2).f2) t211 t212 _ ?side1 ?side2 A13.out).mono ?_); (case side1 => repeat (first | exact (by repeat (first | (with_reducible exact HR210_2.out) | (with_reducible refine Kd.C_alloc ?_ _) | (with_reducible refine Kd.C_drewN ?_ _) | (with_reducible refine Kd.C_drew ?_) | exact HR210_2.out)) | (with_reducible refine Kd.C_alloc ?_ _) | (with_reducible refine Kd.C_drewN ?_ _) | (with_reducible refine Kd.C_drew ?_))); (case side2 => exact HC210_2.out); rintro e w19 ⟨rfl, hb⟩; refine ⟨_, rfl, ?_⟩; have n0_ := Aside0.mk (Kd.V_below (by (with_reducible repeat (first | apply Kd.V_alloc | apply Kd.V_drewN | apply Kd.V_drew)); exact HO_0.out) hb); have n1_ := Aside0.mk (Kd.N_below (by (with_reducible repeat (first | apply Kd.N_alloc | apply Kd.N_drewN | apply Kd.N_drew)); exact HO_7.out) hb); have n2_ := Aside0.mk (Kd.V_below (by (with_reducible repeat (first | apply Kd.V_alloc | apply Kd.V_drewN | apply Kd.V_drew)); exact HL202_2.out) hb); have n3_ := Aside0.mk (Kd.V_below (by (with_reducible repeat (first | apply Kd.V_alloc | apply Kd.V_drewN | apply Kd.V_drew)); exact HL206_2.out) hb); have n4_ := Aside0.mk (Kd.V_below (by (with_reducible repeat (first | apply Kd.V_alloc | apply Kd.V_drewN | apply Kd.V_drew)); exact HO205.out) hb); have n5_ := Aside0.mk (Kd.N_below (by (with_reducible repeat (first | apply Kd.N_alloc | apply Kd.N_drewN | apply Kd.N_drew)); exact HO209.out) hb); have n6_ := Aside0.mk (Kd.V_below (by (with_reducible repeat (first | apply Kd.V_alloc | apply Kd.V_drewN | apply Kd.V_drew)); exact HL210_2.out) hb); have n7_ := Aside0.mk (Kd.C_below (by repeat (first | (with_reducible exact HR202_2.out) | (with_reducible refine Kd.C_alloc ?_ _) | (with_reducible refine Kd.C_drewN ?_ _) | (with_reducible refine Kd.C_drew ?_) | exact HR202_2.out)) hb); have n8_ := Aside0.mk (Kd.C_below (by repeat (first | (with_reducible exact HR206_2.out) | (with_reducible refine Kd.C_alloc ?_ _) | (with_reducible refine Kd.C_drewN ?_ _) | (with_reducible refine Kd.C_drew ?_) | exact HR206_2.out)) hb); have n9_ := Aside0.mk (Kd.C_below (by repeat (first | (with_reducible exact HR210_2.out) | (with_reducible refine Kd.C_alloc ?_ _) | (with_reducible refine Kd.C_drewN ?_ _) | (with_reducible refine Kd.C_drew ?_) | exact HR210_2.out)) hb); have n10_ := Aside0.mk (below_step hb_ hb); clear HO_0; clear HO_7; clear HL202_2; clear HL206_2; clear HO205; clear HO209; clear HL210_2; clear HR202_2; clear HR206_2; clear HR210_2; clear HB; have HO_0 := n0_; have HO_7 := n1_; have HL202_2 := n2_; have HL206_2 := n3_; have HO205 := n4_; have HO209 := n5_; have HL210_2 := n6_; have HR202_2 := n7_; have HR206_2 := n8_; have HR210_2 := n9_; have HB := n10_; clear n0_ n1_ n2_ n3_ n4_ n5_ n6_ n7_ n8_ n9_ n10_; (try clear hb); (try clear hb2); (try clear hk); (try clear hi); have p213 : 0 ≤ (x9_2 : Int) := of_decide_eq_true as_; have q213 : x9_2 < (l0.length : Int) := of_decide_eq_true as_; obtain ⟨ad213, A213_2, c213_2, e213, hx213_0, hx213_1, hx213_2, hl213_2, hi213_2⟩ := at_T28 (Kd.V_reads' HO_0.out).2.2 x9_2 p213 q213; obtain rfl : ad202 = ad213 := (by injection e213); obtain ⟨ce213, hce213, hMe213, hcc213⟩ := Kd.V_get HO_0.out z28 x9_2 p213 (by first | exact q213 | exact of_decide_eq_true as_ | (have e_ := (Kd.V_reads' HO_0.out).1; omega)); obtain ⟨ua213_2, uc213_2, rfl, ul213_2, ge213_2⟩ := k28_openF hMe213; have hv213_2 := hcc213 2 _ rfl; rw [add_field _ _ 2 (by omega)] at hv213_2; replace hv213_2 := Option.some.inj (hv213_2.symm.trans hx213_2); injection hv213_2 with hva_ hvn_ hvc_; rw [hva_] at ge213_2; rw [hvc_] at ul213_2; have HL213_2 := Aside0.mk (show Kd.V k31 31 _ w.heap.size _ _ ((rd_T28 l0 x9_2).f2) from Kd.V_mk ul213_2 ge213_2); clear hva_ hvn_ hvc_ ge213_2 ul213_2; clear hcc213 hce213; have HR213_2 := Aside0.mk hi213_2; have HC213_2 := Aside0.mk hl213_2; clear hi213_2 hl213_2; replace p213 := eq_true p213; replace q213 := eq_true q213))
        go_roundg k2
        case measure => have := HJ3.out; have := HK2.out; omega
        case rel => exact ⟨(t207), (wrap64 (((rd_T28 l0 x9_2).f0) + t211)), (wrap64 (x9_2 + 1)), rf_, rf_, H', ⟨by have := HJ3.out; have := HK2.out; omega⟩, ⟨by (with_reducible repeat (first | apply Kd.V_alloc | apply Kd.V_drewN | apply Kd.V_drew)); exact Kd.V_mono HO_0.out (fun _ hk => by first | exact ⟨hk.1.1, hk.2⟩ | simp_all)⟩, ⟨by (with_reducible repeat (first | apply Kd.N_alloc | apply Kd.N_drewN | apply Kd.N_drew)); exact HO209.out⟩, ⟨by repeat (first | (with_reducible first | exact HB.out | apply below_alloc | apply pw_below_drewN | apply below_drew1) | exact HB.out)⟩⟩
       ·rw [if_neg c10] at H
        exact absurd H (by simp)
      ·rw [if_neg c9] at H
       have c9b0 : decide (x9_2 < (l0.length : Int)) = false := decide_eq_false c9
       clear c9
       by_cases c20 : x8_2 > a1
       ·rw [if_pos c20] at H
        have c20b0 : decide (a1 < x8_2) = true := decide_eq_true c20
        clear c20
        simp only [Option.some.injEq, Prod.mk.injEq] at H
        obtain ⟨rfl, rfl⟩ := H
        go_wp2
        go_ret2
        exact ⟨_, by first | rfl | (simp [errW_none, errW_some] <;> rfl) | (simp [*, errW_none, errW_some] <;> rfl), Kd.N_V (by first | exact Kd.N_nil _ _ _ 0 _ | exact Kd.V_nil _ _ _ _ _ | exact Kd.Q_nil _ _ _ _ _ | exact Kd.R_nil _ _ _ _ _), by repeat (first | (with_reducible first | exact HB.out | apply below_alloc | apply pw_below_drewN | apply below_drew1) | exact HB.out)⟩
       ·rw [if_neg c20] at H
        have c20b0 : decide (a1 < x8_2) = false := decide_eq_false c20
        clear c20
        replace H := Option.bind_eq_some_iff.mp H
        obtain ⟨t214, A210, H⟩ := H
        replace H : (some (t214, 0)) = some (r1, r2) := H
        have A21 := Aside0.mk A210
        clear A210
        simp only [Option.some.injEq, Prod.mk.injEq] at H
        obtain ⟨rfl, rfl⟩ := H
        obtain ⟨Ao22, co22, eo22⟩ := Kd.N_slice HO_7.out
        subst eo22
        go_wp2_with (first | ((with_reducible refine gate_callee (f := 44) rfl ?_); refine goesL_ (some 68) rfl rfl Try.func44 (by kernel_rfl) rfl #[.slice Ao22 x7_2.length co22, .int .i64 (wrap64 (a1 - x8_2))] rfl mp_ ?_; (with_reducible refine (collatorref06_keeps.calls (fun k_ => (P0_ k_ ∨ w.heap.size ≤ k_)) _ _ x7_2 (wrap64 (a1 - x8_2)) t214 _ ?side1 A21.out).mono ?_); (case side1 => exact Kd.N_V (HO_7.out)); rintro e w23 ⟨v215, rfl, ho0, hb⟩; refine ⟨_, rfl, ?_⟩; have n0_ := Aside0.mk (Kd.V_below (by (with_reducible repeat (first | apply Kd.V_alloc | apply Kd.V_drewN | apply Kd.V_drew)); exact HO_0.out) hb); have n1_ := Aside0.mk (Kd.N_below (by (with_reducible repeat (first | apply Kd.N_alloc | apply Kd.N_drewN | apply Kd.N_drew)); exact HO_7.out) hb); have n2_ := Aside0.mk (Kd.V_lower (Kd.V_mono (ok' := fun k_ => (P0_ k_ ∨ w.heap.size ≤ k_)) ho0 (fun k_ hk_ => Or.elim hk_ (fun hs_ => hs_) (fun hn_ => (.inr (Nat.le_trans (below_size hb_) hn_))))) (below_size hb_)); have n3_ := Aside0.mk (below_step hb_ hb); clear HO_0; clear HO_7; clear HB; have HO_0 := n0_; have HO_7 := n1_; have HO216 := n2_; have HB := n3_; clear n0_ n1_ n2_ n3_; (try clear hb); (try clear hb2); (try clear hk); (try clear hi); (try clear ho0)))
        go_ret2
        exact ⟨_, by first | rfl | (simp [errW_none, errW_some] <;> rfl) | (simp [*, errW_none, errW_some] <;> rfl), by (with_reducible repeat (first | apply Kd.V_alloc | apply Kd.V_drewN | apply Kd.V_drew)); exact HO216.out, by repeat (first | (with_reducible first | exact HB.out | apply below_alloc | apply pw_below_drewN | apply below_drew1) | exact HB.out)⟩

end Go.Proofs.Ytgobidmfbjmpkaa.P
end
section
/- Laid for this claim by hp.py, this session's program round the kit's print: functions of the program as plain Lean functions, the proofs that the code comes to their answers, and the rows of the laws. Not trusted: Lean checks it. -/
namespace Go.Proofs.Ytgobidmfbjmpkaa.P
open Go.RowKit Go.Proofs.YtgobidmfbjmpkaaW.PrintWords Go.Proofs.YtgobidmfbjmpkaaW.PrintLast Go.Proofs.YtgobidmfbjmpkaaW.PrintMore
attribute [local go_sem] max2_int min2_int max_two min_two max_three min_three max_four min_four   -- for this text's walks alone
set_option linter.unusedVariables false
set_option linter.unusedSimpArgs false

/-! ### collatorlaw03_pick: function 45 -/
def collatorlaw03_pick.f (a0 : Int) (a1 : Int) : Option (Int) := if a0 < 0 then (if a1 = 0 then (none) else (some (Int.tmod (wrap64 (-(wrap64 (a0 + 1)))) a1))) else (if a1 = 0 then (none) else (some (Int.tmod a0 a1)))
set_option maxHeartbeats 8000000 in
set_option maxRecDepth 100000 in
theorem collatorlaw03_pick.calls (a0 : Int) (a1 : Int) (r : Int) (w : World) (h : collatorlaw03_pick.f a0 a1 = some r) :
  Calls Try.prog 45 #[.int .i64 a0, .int .i64 a1] w fun e w' => e = .returned (.int .i64 r) ∧ Drawn0 w w' := by
 have H : (if a0 < 0 then (if a1 = 0 then (none) else (some (Int.tmod (wrap64 (-(wrap64 (a0 + 1)))) a1))) else (if a1 = 0 then (none) else (some (Int.tmod a0 a1)))) = some r := h
 clear h
 by_cases c3 : a0 < 0
 ·rw [if_pos c3] at H
  have c3b0 : decide (a0 < 0) = true := decide_eq_true c3
  clear c3
  by_cases c4 : a1 = 0
  ·rw [if_pos c4] at H
   exact absurd H (by simp)
  ·rw [if_neg c4] at H
   have c4b0 : (a1 == 0) = false := beq_eq_false_iff_ne.mpr c4
   have c4b1 : (a1 != 0) = true := bne_iff_ne.mpr c4
   obtain rfl := Option.some.inj H
   go_enter Try.func45, Try.ntmps45
   go_wp2
   go_ret
   exact ⟨by first | rfl | (simp; done) | (simp [*]; done), by repeat (first | exact Drawn0.refl _ | apply Drawn0.step)⟩
 ·rw [if_neg c3] at H
  have c3b0 : decide (a0 < 0) = false := decide_eq_false c3
  clear c3
  by_cases c5 : a1 = 0
  ·rw [if_pos c5] at H
   exact absurd H (by simp)
  ·rw [if_neg c5] at H
   have c5b0 : (a1 == 0) = false := beq_eq_false_iff_ne.mpr c5
   have c5b1 : (a1 != 0) = true := bne_iff_ne.mpr c5
   obtain rfl := Option.some.inj H
   go_enter Try.func45, Try.ntmps45
   go_wp2
   go_ret
   exact ⟨by first | rfl | (simp; done) | (simp [*]; done), by repeat (first | exact Drawn0.refl _ | apply Drawn0.step)⟩

end Go.Proofs.Ytgobidmfbjmpkaa.P
end
section
/- Laid for this claim by hp.py, this session's program round the kit's print: functions of the program as plain Lean functions, the proofs that the code comes to their answers, and the rows of the laws. Not trusted: Lean checks it. -/
namespace Go.Proofs.Ytgobidmfbjmpkaa.P
open Go.RowKit Go.Proofs.YtgobidmfbjmpkaaW.PrintWords Go.Proofs.YtgobidmfbjmpkaaW.PrintLast Go.Proofs.YtgobidmfbjmpkaaW.PrintMore
attribute [local go_sem] max2_int min2_int max_two min_two max_three min_three max_four min_four   -- for this text's walks alone
set_option linter.unusedVariables false
set_option linter.unusedSimpArgs false

/-! ### collatorlaw03_Lines: function 21 -/
def collatorlaw03_Lines.l0 : Nat → List Int → Int → List ByteArray → List ByteArray → Int → Option (List ByteArray)
 | 0, _, _, _, _, _ => none
 | k + 1, x0, x1, x5, x6, x7 => if x7 < (x0.length : Int) then (if x7 < x1 then (if 0 ≤ x7 then ((collatorlaw03_pick.f (rd x0 x7) 5).bind fun t221 => (if 0 ≤ t221 then (if t221 < (x5.length : Int) then (if x6.length < 8796093022208 then (collatorlaw03_Lines.l0 k x0 x1 x5 (x6 ++ [rdOf ByteArray.empty x5 t221]) (wrap64 (x7 + 1))) else (none)) else (none)) else (none))) else (none)) else (if (x6.length : Int) > 0 then (if 0 ≤ (wrap64 ((x6.length : Int) - 1)) then (if (wrap64 ((x6.length : Int) - 1)) < (x0.length : Int) then ((collatorlaw03_pick.f (rd x0 (wrap64 ((x6.length : Int) - 1))) 7).bind fun t227 => (if t227 = 6 then (if (wrap64 ((x6.length : Int) - 1)) < (x6.length : Int) then (some (x6.set ((wrap64 ((x6.length : Int) - 1)) : Int).toNat (⟨#[101, 110, 100]⟩ : ByteArray))) else (none)) else (some x6))) else (none)) else (none)) else (some x6))) else (if (x6.length : Int) > 0 then (if 0 ≤ (wrap64 ((x6.length : Int) - 1)) then (if (wrap64 ((x6.length : Int) - 1)) < (x0.length : Int) then ((collatorlaw03_pick.f (rd x0 (wrap64 ((x6.length : Int) - 1))) 7).bind fun t230 => (if t230 = 6 then (if (wrap64 ((x6.length : Int) - 1)) < (x6.length : Int) then (some (x6.set ((wrap64 ((x6.length : Int) - 1)) : Int).toNat (⟨#[101, 110, 100]⟩ : ByteArray))) else (none)) else (some x6))) else (none)) else (none)) else (some x6))
def collatorlaw03_Lines.f (k : Nat) (l0 : List Int) (a1 : Int) : Option (List ByteArray) := collatorlaw03_Lines.l0 k l0 a1 (([(⟨#[97, 10]⟩ : ByteArray), (⟨#[98, 10]⟩ : ByteArray), (⟨#[99, 10]⟩ : ByteArray), (⟨#[10]⟩ : ByteArray), (⟨#[108, 111, 110, 103, 10]⟩ : ByteArray)] : List ByteArray)) ([] : List ByteArray) 0
set_option maxHeartbeats 8000000 in
set_option maxRecDepth 100000 in
theorem collatorlaw03_Lines.calls (k : Nat) (A0 : Option Addr) (c0 : Nat) (l0 : List Int) (a1 : Int) (r : List ByteArray) (w : World) (hr0 : Kd.C (Kd.int .i64) w A0 l0.length l0) (hc0 : l0.length ≤ c0) (h : collatorlaw03_Lines.f k l0 a1 = some r) :
  Calls Try.prog 21 #[.slice A0 l0.length c0, .int .i64 a1] w fun e w' => ∃ v0_ : Value, e = .returned (v0_) ∧ Kd.R Kd.string 9 w' w.heap.size (fun _ => True) v0_ r ∧ Below w.heap.size w w' := by
 have HR0 := Aside0.mk hr0
 have HC0 := Aside0.mk hc0
 clear hr0 hc0
 have HB := Aside0.mk (Below.refl w.heap.size w)
 have H : (collatorlaw03_Lines.l0 k l0 a1 (([(⟨#[97, 10]⟩ : ByteArray), (⟨#[98, 10]⟩ : ByteArray), (⟨#[99, 10]⟩ : ByteArray), (⟨#[10]⟩ : ByteArray), (⟨#[108, 111, 110, 103, 10]⟩ : ByteArray)] : List ByteArray)) ([] : List ByteArray) 0) = some r := h
 clear h
 obtain ⟨y217, hy217⟩ : ∃ y_ : List ByteArray, y_ = (([(⟨#[97, 10]⟩ : ByteArray), (⟨#[98, 10]⟩ : ByteArray), (⟨#[99, 10]⟩ : ByteArray), (⟨#[10]⟩ : ByteArray), (⟨#[108, 111, 110, 103, 10]⟩ : ByteArray)] : List ByteArray)) := ⟨_, rfl⟩
 replace H : (collatorlaw03_Lines.l0 k l0 a1 y217 ([] : List ByteArray) 0) = some r := by first | (rw [hy217]; with_reducible exact H) | (have H2_ := (Option.bind_some _ _).symm.trans H; rw [hy217]; with_reducible exact H2_) | (have H2_ := (Option.bind_some _ _).symm.trans H; with_reducible exact H2_) | with_reducible exact H | (rw [hy217]; exact H) | exact H
 have Ny217 := Aside0.mk hy217
 clear hy217
 have H' := Aside0.mk H
 clear H
 go_enter Try.func21, Try.ntmps21
 go_wp2_with (first | ((with_reducible refine gate_dst (N := 8) rfl ?_); (try (refine gate_guard (by rfl) ?_; dsimp only)); refine Kd.R_lit Kd.string _ 9 ?hg (N := 8) ?hd (xs := ([(⟨#[97, 10]⟩ : ByteArray), (⟨#[98, 10]⟩ : ByteArray), (⟨#[99, 10]⟩ : ByteArray), (⟨#[10]⟩ : ByteArray), (⟨#[108, 111, 110, 103, 10]⟩ : ByteArray)] : List ByteArray)) (inner := [.string (⟨#[97, 10]⟩ : ByteArray), .string (⟨#[98, 10]⟩ : ByteArray), .string (⟨#[99, 10]⟩ : ByteArray), .string (⟨#[10]⟩ : ByteArray), .string (⟨#[108, 111, 110, 103, 10]⟩ : ByteArray)]) (ok := fun _ => True) (okp := fun _ => True) ?hr ?hp (fun _ hk => hk) trivial (Below.refl _ _) (Nat.le_refl _) (by simp) ?_; (case hd => rfl); (case hg => rfl); (case hr => first | (go_simp; done) | (go_simp; rfl)); (case hp => exact (Reps.one (show Kd.M Kd.string _ _ _ (⟨#[97, 10]⟩ : ByteArray) [.string (⟨#[97, 10]⟩ : ByteArray)] from rfl) (Reps.one (show Kd.M Kd.string _ _ _ (⟨#[98, 10]⟩ : ByteArray) [.string (⟨#[98, 10]⟩ : ByteArray)] from rfl) (Reps.one (show Kd.M Kd.string _ _ _ (⟨#[99, 10]⟩ : ByteArray) [.string (⟨#[99, 10]⟩ : ByteArray)] from rfl) (Reps.one (show Kd.M Kd.string _ _ _ (⟨#[10]⟩ : ByteArray) [.string (⟨#[10]⟩ : ByteArray)] from rfl) (Reps.one (show Kd.M Kd.string _ _ _ (⟨#[108, 111, 110, 103, 10]⟩ : ByteArray) [.string (⟨#[108, 111, 110, 103, 10]⟩ : ByteArray)] from rfl) (Reps.none _ _))))))); intro v218 w3 ho4 hb hg_ hnew_; clear hg_ hnew_; (first | rw [← Ny217.out] at ho4 | (simp only [Int.reduceToNat] at ho4; rw [← Ny217.out] at ho4)); have n0_ := Aside0.mk (Kd.R_lower ho4 (below_size hb_)); have n1_ := Aside0.mk (below_step hb_ hb); clear HB; have HO219 := n0_; have HB := n1_; clear n0_ n1_; clear hb ho4))
 go_loopg [6, 7] k (fun kq v6 v7 w' => ∃ (x6_1 : List ByteArray) (x7_1 : Int), v7 = .int .i64 x7_1 ∧ Aside0 (collatorlaw03_Lines.l0 kq l0 a1 y217 x6_1 x7_1 = some r) ∧ Aside0 (kq ≤ k) ∧ Aside0 (Kd.R Kd.string 9 w' w.heap.size (fun k_ => some k_ ≠ (v6 : Value).ownBlock) v218 y217) ∧ Aside0 (Kd.R Kd.string 9 w' w.heap.size (fun k_ => some k_ ≠ (v218 : Value).ownBlock) v6 x6_1) ∧ Aside0 (Below w.heap.size w w'))
 case atStart => exact ⟨(([] : List ByteArray)), (0), rf_, H', ⟨Nat.le_refl _⟩, ⟨by (with_reducible repeat (first | apply Kd.R_alloc | apply Kd.R_drewN | apply Kd.R_drew)); exact Kd.R_mono HO219.out (fun _ hk => (by simp [Value.ownBlock]))⟩, ⟨by first | exact Kd.R_nil _ _ _ _ _ | exact Kd.N_nil _ _ _ _ _ | exact Kd.V_nil _ _ _ _ _ | exact Kd.Q_nil _ _ _ _ _ | exact Kd.S_nil _ _ _ _ _⟩, ⟨by repeat (first | (with_reducible first | exact HB.out | apply below_alloc | apply pw_below_drewN | apply below_drew1) | exact HB.out)⟩⟩
 case round =>
  clear H'
  (try clear c2);(try clear p2)
  obtain ⟨x6_1, x7_1, rfl, HA, HK1, HO_5, HO_6, HB⟩ := hrel
  cases gk with
  | zero => exact absurd HA.out (by simp [collatorlaw03_Lines.l0])
  | succ k1 =>
   have H := HA.out
   clear HA
   simp only [collatorlaw03_Lines.l0] at H
   by_cases c5 : x7_1 < (l0.length : Int)
   ·rw [if_pos c5] at H
    have c5b0 : decide (x7_1 < (l0.length : Int)) = true := decide_eq_true c5
    clear c5
    by_cases c6 : x7_1 < a1
    ·rw [if_pos c6] at H
     have c6b0 : decide (x7_1 < a1) = true := decide_eq_true c6
     clear c6
     by_cases c7 : 0 ≤ x7_1
     ·rw [if_pos c7] at H
      have c7b0 : decide (0 ≤ x7_1) = true := decide_eq_true c7
      clear c7
      replace H := Option.bind_eq_some_iff.mp H
      obtain ⟨t221, A80, H⟩ := H
      replace H : (if 0 ≤ t221 then (if t221 < (y217.length : Int) then (if x6_1.length < 8796093022208 then (collatorlaw03_Lines.l0 k1 l0 a1 y217 (x6_1 ++ [rdOf ByteArray.empty y217 t221]) (wrap64 (x7_1 + 1))) else (none)) else (none)) else (none)) = some r := H
      have A8 := Aside0.mk A80
      clear A80
      by_cases c9 : 0 ≤ t221
      ·rw [if_pos c9] at H
       have c9b0 : decide (0 ≤ t221) = true := decide_eq_true c9
       clear c9
       by_cases c10 : t221 < (y217.length : Int)
       ·rw [if_pos c10] at H
        have c10b0 : decide (t221 < (y217.length : Int)) = true := decide_eq_true c10
        clear c10
        by_cases c11 : x6_1.length < 8796093022208
        ·rw [if_pos c11] at H
         have LMc11 := Aside0.mk c11
         clear c11
         obtain ⟨y223, hy223⟩ : ∃ y_ : List ByteArray, y_ = (x6_1 ++ [rdOf ByteArray.empty y217 t221]) := ⟨_, rfl⟩
         replace H : (collatorlaw03_Lines.l0 k1 l0 a1 y217 y223 (wrap64 (x7_1 + 1))) = some r := by first | (rw [hy223]; with_reducible exact H) | (have H2_ := (Option.bind_some _ _).symm.trans H; rw [hy223]; with_reducible exact H2_) | (have H2_ := (Option.bind_some _ _).symm.trans H; with_reducible exact H2_) | with_reducible exact H | (rw [hy223]; exact H) | exact H
         have Ny223 := Aside0.mk hy223
         clear hy223
         have H' := Aside0.mk H
         clear H
         have p220 : 0 ≤ (x7_1 : Int) := of_decide_eq_true as_
         have q220 : x7_1 < (l0.length : Int) := of_decide_eq_true as_
         obtain ⟨ad220, e220, hx220_0⟩ := Kd.at_int HR0.out x7_1 p220 q220
         cases e220
         replace hx220_0 := (HB.out.cell (World.block_lt_of_cell? w _ hx220_0)).trans hx220_0
         replace p220 := eq_true p220
         replace q220 := eq_true q220
         go_wp2_with (first | ((with_reducible refine gate_callee (f := 45) rfl ?_); refine goesL_ (some 26) rfl rfl Try.func45 (by kernel_rfl) rfl #[.int .i64 (rd l0 x7_1), .int .i64 5] rfl mp_ ?_; (with_reducible refine (collatorlaw03_pick.calls (rd l0 x7_1) 5 t221 _ A8.out).mono ?_); rintro e w' ⟨rfl, ⟨nd, rfl⟩⟩; refine ⟨_, rfl, ?_⟩; (try (obtain ⟨Ao12, co12, eo12⟩ := Kd.R_slice HO_5.out; subst eo12)); have p222 : 0 ≤ (t221 : Int) := of_decide_eq_true as_; have q222 : t221 < (y217.length : Int) := of_decide_eq_true as_; obtain ⟨ad222, e222, hx222_0⟩ := Kd.at_string (Kd.R_reads' HO_5.out).2.2 t221 p222 q222; cases e222; replace p222 := eq_true p222; replace q222 := eq_true q222) | ((with_reducible refine gate_builtin (b := .append) (xs := #[.tmp 20, .tmp 29]) rfl ?_); (try (refine gate_guard (by rfl) ?_; dsimp only)); at_builtin; refine Kd.R_append Kd.string (w0 := w) w.heap.size rfl (.tmp 20) (.tmp 29) 29 9 (.string ⟨#[]⟩) 16 rfl Try.underlying29 info9 rfl (by decide) (by omega) u6 x6_1 (rdOf ByteArray.empty y217 t221) [.string (rdOf ByteArray.empty y217 t221)] (fun k_ => some k_ ≠ (.slice (some ad222) y217.length co12 : Value).ownBlock) (fun _ => False) rfl rfl ?aP (fun _ hk => hk.elim) ?aF ?aO ?aB ?aS ?aL ?_; (case aP => exact rfl); (case aB => exact hb_); (case aF => exact (fun k_ hk => Kd.fresh' (Kd.R_lt (by (with_reducible repeat (first | apply Kd.R_alloc | apply Kd.R_drewN | apply Kd.R_drew)); exact HO_5.out)) k_ hk)); (case aO => exact (by (with_reducible repeat (first | apply Kd.R_alloc | apply Kd.R_drewN | apply Kd.R_drew)); exact HO_6.out)); (case aS => exact (below_size hb_)); (case aL => have := LMc11.out; omega); intro v224 w13 ho hb hg hat; rw [← Ny223.out] at ho; have n0_ := Aside0.mk (Kd.R_after (ok := (fun _ => True)) (by (with_reducible repeat (first | apply Kd.R_alloc | apply Kd.R_drewN | apply Kd.R_drew)); exact Kd.R_mono HO_5.out (fun _ hk => ⟨trivial, hk⟩)) hg hat); have n1_ := Aside0.mk (hb); have n2_ := Aside0.mk (ho); clear HO_5; clear HB; clear HO_6; have HO_5 := n0_; have HB := n1_; have HO225 := n2_; clear n0_ n1_ n2_; clear ho hb hg hat))
         go_roundg k1
         case measure => have := HK1.out; omega
         case rel => exact ⟨(y223), (wrap64 (x7_1 + 1)), rf_, H', ⟨by have := HK1.out; omega⟩, ⟨by (with_reducible repeat (first | apply Kd.R_alloc | apply Kd.R_drewN | apply Kd.R_drew)); exact Kd.R_mono HO_5.out (fun _ hk => hk.2)⟩, ⟨by (with_reducible repeat (first | apply Kd.R_alloc | apply Kd.R_drewN | apply Kd.R_drew)); exact HO225.out⟩, ⟨by repeat (first | (with_reducible first | exact HB.out | apply below_alloc | apply pw_below_drewN | apply below_drew1) | exact HB.out)⟩⟩
        ·rw [if_neg c11] at H
         exact absurd H (by simp)
       ·rw [if_neg c10] at H
        exact absurd H (by simp)
      ·rw [if_neg c9] at H
       exact absurd H (by simp)
     ·rw [if_neg c7] at H
      exact absurd H (by simp)
    ·rw [if_neg c6] at H
     have c6b0 : decide (x7_1 < a1) = false := decide_eq_false c6
     clear c6
     by_cases c14 : (x6_1.length : Int) > 0
     ·rw [if_pos c14] at H
      have c14b0 : decide (0 < (x6_1.length : Int)) = true := decide_eq_true c14
      have c14b1 : decide (0 < x6_1.length) = true := decide_eq_true (by omega)
      clear c14
      obtain ⟨ji15, hji15⟩ : ∃ j_ : Int, (wrap64 ((x6_1.length : Int) - 1)) = j_ := ⟨_, rfl⟩
      replace H : (if 0 ≤ (ji15) then (if (ji15) < (l0.length : Int) then ((collatorlaw03_pick.f (rd l0 (ji15)) 7).bind fun t227 => (if t227 = 6 then (if (ji15) < (x6_1.length : Int) then (some (x6_1.set ((ji15) : Int).toNat (⟨#[101, 110, 100]⟩ : ByteArray))) else (none)) else (some x6_1))) else (none)) else (none)) = some r := by first | (rw [hji15] at H; exact H) | (simp only [hji15] at H ⊢; exact H)
      have hji15w : (IntKind.i64.wrap ((x6_1.length : Int) - 1)) = ji15 := (i64_w _).trans hji15
      by_cases c16 : 0 ≤ (ji15)
      ·rw [if_pos c16] at H
       have c16b0 : decide (0 ≤ (ji15)) = true := decide_eq_true c16
       clear c16
       by_cases c17 : (ji15) < (l0.length : Int)
       ·rw [if_pos c17] at H
        have c17b0 : decide ((ji15) < (l0.length : Int)) = true := decide_eq_true c17
        clear c17
        replace H := Option.bind_eq_some_iff.mp H
        obtain ⟨t227, A180, H⟩ := H
        replace H : (if t227 = 6 then (if (ji15) < (x6_1.length : Int) then (some (x6_1.set ((ji15) : Int).toNat (⟨#[101, 110, 100]⟩ : ByteArray))) else (none)) else (some x6_1)) = some r := H
        have A18 := Aside0.mk A180
        clear A180
        by_cases c19 : t227 = 6
        ·rw [if_pos c19] at H
         have c19b0 : (t227 == 6) = true := beq_iff_eq.mpr c19
         have c19b1 : (t227 != 6) = false := bne_eq_false_iff_eq.mpr c19
         clear c19
         by_cases c20 : (ji15) < (x6_1.length : Int)
         ·rw [if_pos c20] at H
          have c20b0 : decide ((ji15) < (x6_1.length : Int)) = true := decide_eq_true c20
          clear c20
          obtain ⟨y228, hy228⟩ : ∃ y_ : List ByteArray, y_ = (x6_1.set ((ji15) : Int).toNat (⟨#[101, 110, 100]⟩ : ByteArray)) := ⟨_, rfl⟩
          replace H : (some y228) = some r := by first | (rw [hy228]; with_reducible exact H) | (have H2_ := (Option.bind_some _ _).symm.trans H; rw [hy228]; with_reducible exact H2_) | (have H2_ := (Option.bind_some _ _).symm.trans H; with_reducible exact H2_) | with_reducible exact H | (rw [hy228]; exact H) | exact H
          have Ny228 := Aside0.mk hy228
          clear hy228
          obtain rfl := Option.some.inj H
          obtain ⟨Ao22, co22, eo22⟩ := Kd.R_slice HO_6.out
          subst eo22
          have p226 : 0 ≤ ((ji15) : Int) := of_decide_eq_true as_
          have q226 : (ji15) < (l0.length : Int) := of_decide_eq_true as_
          obtain ⟨ad226, e226, hx226_0⟩ := Kd.at_int HR0.out (ji15) p226 q226
          cases e226
          replace hx226_0 := (HB.out.cell (World.block_lt_of_cell? w _ hx226_0)).trans hx226_0
          replace p226 := eq_true p226
          replace q226 := eq_true q226
          go_wp2_with (first | (go_at_call 45; (with_reducible refine (collatorlaw03_pick.calls (rd l0 (ji15)) 7 t227 _ A18.out).mono ?_); rintro e w' ⟨rfl, ⟨nd, rfl⟩⟩; (try (rw [drewN_self wr]; generalize hq_ : World.drewN wr _ = wr; have n0_ : Aside0 (Kd.R Kd.string 9 wr w.heap.size (fun k_ => some k_ ≠ (.slice Ao22 x6_1.length co22 : Value).ownBlock) v218 y217) := ⟨by rw [← hq_]; exact (by (with_reducible repeat (first | apply Kd.R_alloc | apply Kd.R_drewN | apply Kd.R_drew)); exact HO_5.out)⟩; have n1_ : Aside0 (Kd.R Kd.string 9 wr w.heap.size (fun k_ => some k_ ≠ (v218 : Value).ownBlock) (.slice Ao22 x6_1.length co22) x6_1) := ⟨by rw [← hq_]; exact (by (with_reducible repeat (first | apply Kd.R_alloc | apply Kd.R_drewN | apply Kd.R_drew)); exact HO_6.out)⟩; have n2_ : Aside0 (Below w.heap.size w wr) := ⟨by rw [← hq_]; exact hb_⟩; clear HO_5 HO_6 HB hq_; have HO_5 := n0_; have HO_6 := n1_; have HB := n2_; clear n0_ n1_ n2_)); have p21 : 0 ≤ ((ji15) : Int) := of_decide_eq_true as_; have q21 : ((ji15) : Int) < ((x6_1.length : Int) : Int) := of_decide_eq_true as_; obtain ⟨go21, co21, eo21, gb21, gl21, cl21, HG21⟩ := Kd.R_form HO_6.out (by omega); (first | cases eo21 | (injection eo21 with ea_ en_ ec_; (first | subst ea_ | (injection ea_ with ea_; subst ea_)); subst ec_; clear en_)); have GB21 := Aside0.mk gb21; have GG21 := Aside0.mk HG21; clear gb21 gl21 HG21; obtain ⟨hx21_0, hf21_0⟩ := Kd.R_celln (⟨#[]⟩ : ByteArray) HO_6.out ((ji15) : Int) p21 q21; replace p21 := eq_true p21; replace q21 := eq_true q21; obtain ⟨hy23_, hz23_⟩ := Kd.R_celln (⟨#[]⟩ : ByteArray) HO_6.out ((ji15) : Int) (of_decide_eq_true as_) (of_decide_eq_true as_); have HP23 := Kd.R_putg HO_6.out ((ji15) : Int) (⟨#[101, 110, 100]⟩ : ByteArray)) | ((with_reducible refine gate_store (t := 9) (p := 48) rfl ?_); refine store_event (t := 9) (p := 48) (v := ?vo_w24) (w1 := (wr.setCell ⟨go21, ((ji15) : Int).toNat, none⟩ (.string (⟨#[101, 110, 100]⟩ : ByteArray)))) ?hg ?ho ?hn ?hr ?_; (case ho => rfl); (case hg => rfl); (case hn => rfl); (case hr => first | (go_simp; done) | (go_simp; rfl)); intro w24 hw; have hg : wr.grownBy w24 (some go21) := (by rw [hw]; exact HP23.2); have hp_ : Kd.R Kd.string 9 w24 w.heap.size (fun k_ => some k_ ≠ (v218 : Value).ownBlock) (.slice (some ⟨go21, 0, none⟩) x6_1.length co22) y228 := (by rw [hw, Ny228.out]; exact HP23.1); clear HP23; have n0_ := Aside0.mk (Kd.R_after (v := (.slice (some ⟨go21, 0, none⟩) x6_1.length co22)) (v1 := (.slice (some ⟨go21, 0, none⟩) x6_1.length co22)) (ok := (fun _ => True)) (by (with_reducible repeat (first | apply Kd.R_alloc | apply Kd.R_drewN | apply Kd.R_drew)); exact Kd.R_mono HO_5.out (fun _ hk => ⟨trivial, hk⟩)) hg (.inl rfl)); have n1_ := Aside0.mk (hp_); have n2_ := Aside0.mk ((by rw [hw]; exact below_set (HB.out) GB21.out : Below w.heap.size w w24)); clear HO_5; clear HO_6; clear HB; have HO_5 := n0_; have HO_6 := n1_; have HB := n2_; clear n0_ n1_ n2_; clear hg hw hp_))
          go_ret
          exact ⟨_, by first | rfl | (simp [errW_none, errW_some] <;> rfl) | (simp only [← hji15]; first | rfl | (simp [errW_none, errW_some] <;> rfl)) | (simp [*, errW_none, errW_some] <;> rfl), by (with_reducible repeat (first | apply Kd.R_alloc | apply Kd.R_drewN | apply Kd.R_drew)); exact Kd.R_mono HO_6.out (fun _ hk => trivial), by repeat (first | (with_reducible first | exact HB.out | apply below_alloc | apply pw_below_drewN | apply below_drew1) | exact HB.out)⟩
         ·rw [if_neg c20] at H
          exact absurd H (by simp)
        ·rw [if_neg c19] at H
         have c19b0 : (t227 == 6) = false := beq_eq_false_iff_ne.mpr c19
         have c19b1 : (t227 != 6) = true := bne_iff_ne.mpr c19
         obtain rfl := Option.some.inj H
         obtain ⟨Ao25, co25, eo25⟩ := Kd.R_slice HO_6.out
         subst eo25
         have p226 : 0 ≤ ((ji15) : Int) := of_decide_eq_true as_
         have q226 : (ji15) < (l0.length : Int) := of_decide_eq_true as_
         obtain ⟨ad226, e226, hx226_0⟩ := Kd.at_int HR0.out (ji15) p226 q226
         cases e226
         replace hx226_0 := (HB.out.cell (World.block_lt_of_cell? w _ hx226_0)).trans hx226_0
         replace p226 := eq_true p226
         replace q226 := eq_true q226
         go_wp2_with (first | (go_at_call 45; (with_reducible refine (collatorlaw03_pick.calls (rd l0 (ji15)) 7 t227 _ A18.out).mono ?_); rintro e w' ⟨rfl, ⟨nd, rfl⟩⟩))
         go_ret
         exact ⟨_, by first | rfl | (simp [errW_none, errW_some] <;> rfl) | (simp only [← hji15]; first | rfl | (simp [errW_none, errW_some] <;> rfl)) | (simp [*, errW_none, errW_some] <;> rfl), by (with_reducible repeat (first | apply Kd.R_alloc | apply Kd.R_drewN | apply Kd.R_drew)); exact Kd.R_mono HO_6.out (fun _ hk => trivial), by repeat (first | (with_reducible first | exact HB.out | apply below_alloc | apply pw_below_drewN | apply below_drew1) | exact HB.out)⟩
       ·rw [if_neg c17] at H
        exact absurd H (by simp)
      ·rw [if_neg c16] at H
       exact absurd H (by simp)
     ·rw [if_neg c14] at H
      have c14b0 : decide (0 < (x6_1.length : Int)) = false := decide_eq_false c14
      have c14b1 : decide (0 < x6_1.length) = false := decide_eq_false (by omega)
      clear c14
      obtain rfl := Option.some.inj H
      obtain ⟨Ao26, co26, eo26⟩ := Kd.R_slice HO_6.out
      subst eo26
      go_wp2
      go_ret
      exact ⟨_, by first | rfl | (simp [errW_none, errW_some] <;> rfl) | (simp [*, errW_none, errW_some] <;> rfl), by (with_reducible repeat (first | apply Kd.R_alloc | apply Kd.R_drewN | apply Kd.R_drew)); exact Kd.R_mono HO_6.out (fun _ hk => trivial), by repeat (first | (with_reducible first | exact HB.out | apply below_alloc | apply pw_below_drewN | apply below_drew1) | exact HB.out)⟩
   ·rw [if_neg c5] at H
    have c5b0 : decide (x7_1 < (l0.length : Int)) = false := decide_eq_false c5
    clear c5
    by_cases c27 : (x6_1.length : Int) > 0
    ·rw [if_pos c27] at H
     have c27b0 : decide (0 < (x6_1.length : Int)) = true := decide_eq_true c27
     have c27b1 : decide (0 < x6_1.length) = true := decide_eq_true (by omega)
     clear c27
     obtain ⟨ji28, hji28⟩ : ∃ j_ : Int, (wrap64 ((x6_1.length : Int) - 1)) = j_ := ⟨_, rfl⟩
     replace H : (if 0 ≤ (ji28) then (if (ji28) < (l0.length : Int) then ((collatorlaw03_pick.f (rd l0 (ji28)) 7).bind fun t230 => (if t230 = 6 then (if (ji28) < (x6_1.length : Int) then (some (x6_1.set ((ji28) : Int).toNat (⟨#[101, 110, 100]⟩ : ByteArray))) else (none)) else (some x6_1))) else (none)) else (none)) = some r := by first | (rw [hji28] at H; exact H) | (simp only [hji28] at H ⊢; exact H)
     have hji28w : (IntKind.i64.wrap ((x6_1.length : Int) - 1)) = ji28 := (i64_w _).trans hji28
     by_cases c29 : 0 ≤ (ji28)
     ·rw [if_pos c29] at H
      have c29b0 : decide (0 ≤ (ji28)) = true := decide_eq_true c29
      clear c29
      by_cases c30 : (ji28) < (l0.length : Int)
      ·rw [if_pos c30] at H
       have c30b0 : decide ((ji28) < (l0.length : Int)) = true := decide_eq_true c30
       clear c30
       replace H := Option.bind_eq_some_iff.mp H
       obtain ⟨t230, A310, H⟩ := H
       replace H : (if t230 = 6 then (if (ji28) < (x6_1.length : Int) then (some (x6_1.set ((ji28) : Int).toNat (⟨#[101, 110, 100]⟩ : ByteArray))) else (none)) else (some x6_1)) = some r := H
       have A31 := Aside0.mk A310
       clear A310
       by_cases c32 : t230 = 6
       ·rw [if_pos c32] at H
        have c32b0 : (t230 == 6) = true := beq_iff_eq.mpr c32
        have c32b1 : (t230 != 6) = false := bne_eq_false_iff_eq.mpr c32
        clear c32
        by_cases c33 : (ji28) < (x6_1.length : Int)
        ·rw [if_pos c33] at H
         have c33b0 : decide ((ji28) < (x6_1.length : Int)) = true := decide_eq_true c33
         clear c33
         obtain ⟨y231, hy231⟩ : ∃ y_ : List ByteArray, y_ = (x6_1.set ((ji28) : Int).toNat (⟨#[101, 110, 100]⟩ : ByteArray)) := ⟨_, rfl⟩
         replace H : (some y231) = some r := by first | (rw [hy231]; with_reducible exact H) | (have H2_ := (Option.bind_some _ _).symm.trans H; rw [hy231]; with_reducible exact H2_) | (have H2_ := (Option.bind_some _ _).symm.trans H; with_reducible exact H2_) | with_reducible exact H | (rw [hy231]; exact H) | exact H
         have Ny231 := Aside0.mk hy231
         clear hy231
         obtain rfl := Option.some.inj H
         obtain ⟨Ao35, co35, eo35⟩ := Kd.R_slice HO_6.out
         subst eo35
         have p229 : 0 ≤ ((ji28) : Int) := of_decide_eq_true as_
         have q229 : (ji28) < (l0.length : Int) := of_decide_eq_true as_
         obtain ⟨ad229, e229, hx229_0⟩ := Kd.at_int HR0.out (ji28) p229 q229
         cases e229
         replace hx229_0 := (HB.out.cell (World.block_lt_of_cell? w _ hx229_0)).trans hx229_0
         replace p229 := eq_true p229
         replace q229 := eq_true q229
         go_wp2_with (first | (go_at_call 45; (with_reducible refine (collatorlaw03_pick.calls (rd l0 (ji28)) 7 t230 _ A31.out).mono ?_); rintro e w' ⟨rfl, ⟨nd, rfl⟩⟩; (try (rw [drewN_self wr]; generalize hq_ : World.drewN wr _ = wr; have n0_ : Aside0 (Kd.R Kd.string 9 wr w.heap.size (fun k_ => some k_ ≠ (.slice Ao35 x6_1.length co35 : Value).ownBlock) v218 y217) := ⟨by rw [← hq_]; exact (by (with_reducible repeat (first | apply Kd.R_alloc | apply Kd.R_drewN | apply Kd.R_drew)); exact HO_5.out)⟩; have n1_ : Aside0 (Kd.R Kd.string 9 wr w.heap.size (fun k_ => some k_ ≠ (v218 : Value).ownBlock) (.slice Ao35 x6_1.length co35) x6_1) := ⟨by rw [← hq_]; exact (by (with_reducible repeat (first | apply Kd.R_alloc | apply Kd.R_drewN | apply Kd.R_drew)); exact HO_6.out)⟩; have n2_ : Aside0 (Below w.heap.size w wr) := ⟨by rw [← hq_]; exact hb_⟩; clear HO_5 HO_6 HB hq_; have HO_5 := n0_; have HO_6 := n1_; have HB := n2_; clear n0_ n1_ n2_)); have p34 : 0 ≤ ((ji28) : Int) := of_decide_eq_true as_; have q34 : ((ji28) : Int) < ((x6_1.length : Int) : Int) := of_decide_eq_true as_; obtain ⟨go34, co34, eo34, gb34, gl34, cl34, HG34⟩ := Kd.R_form HO_6.out (by omega); (first | cases eo34 | (injection eo34 with ea_ en_ ec_; (first | subst ea_ | (injection ea_ with ea_; subst ea_)); subst ec_; clear en_)); have GB34 := Aside0.mk gb34; have GG34 := Aside0.mk HG34; clear gb34 gl34 HG34; obtain ⟨hx34_0, hf34_0⟩ := Kd.R_celln (⟨#[]⟩ : ByteArray) HO_6.out ((ji28) : Int) p34 q34; replace p34 := eq_true p34; replace q34 := eq_true q34; obtain ⟨hy36_, hz36_⟩ := Kd.R_celln (⟨#[]⟩ : ByteArray) HO_6.out ((ji28) : Int) (of_decide_eq_true as_) (of_decide_eq_true as_); have HP36 := Kd.R_putg HO_6.out ((ji28) : Int) (⟨#[101, 110, 100]⟩ : ByteArray)) | ((with_reducible refine gate_store (t := 9) (p := 48) rfl ?_); refine store_event (t := 9) (p := 48) (v := ?vo_w37) (w1 := (wr.setCell ⟨go34, ((ji28) : Int).toNat, none⟩ (.string (⟨#[101, 110, 100]⟩ : ByteArray)))) ?hg ?ho ?hn ?hr ?_; (case ho => rfl); (case hg => rfl); (case hn => rfl); (case hr => first | (go_simp; done) | (go_simp; rfl)); intro w37 hw; have hg : wr.grownBy w37 (some go34) := (by rw [hw]; exact HP36.2); have hp_ : Kd.R Kd.string 9 w37 w.heap.size (fun k_ => some k_ ≠ (v218 : Value).ownBlock) (.slice (some ⟨go34, 0, none⟩) x6_1.length co35) y231 := (by rw [hw, Ny231.out]; exact HP36.1); clear HP36; have n0_ := Aside0.mk (Kd.R_after (v := (.slice (some ⟨go34, 0, none⟩) x6_1.length co35)) (v1 := (.slice (some ⟨go34, 0, none⟩) x6_1.length co35)) (ok := (fun _ => True)) (by (with_reducible repeat (first | apply Kd.R_alloc | apply Kd.R_drewN | apply Kd.R_drew)); exact Kd.R_mono HO_5.out (fun _ hk => ⟨trivial, hk⟩)) hg (.inl rfl)); have n1_ := Aside0.mk (hp_); have n2_ := Aside0.mk ((by rw [hw]; exact below_set (HB.out) GB34.out : Below w.heap.size w w37)); clear HO_5; clear HO_6; clear HB; have HO_5 := n0_; have HO_6 := n1_; have HB := n2_; clear n0_ n1_ n2_; clear hg hw hp_))
         go_ret
         exact ⟨_, by first | rfl | (simp [errW_none, errW_some] <;> rfl) | (simp only [← hji28]; first | rfl | (simp [errW_none, errW_some] <;> rfl)) | (simp [*, errW_none, errW_some] <;> rfl), by (with_reducible repeat (first | apply Kd.R_alloc | apply Kd.R_drewN | apply Kd.R_drew)); exact Kd.R_mono HO_6.out (fun _ hk => trivial), by repeat (first | (with_reducible first | exact HB.out | apply below_alloc | apply pw_below_drewN | apply below_drew1) | exact HB.out)⟩
        ·rw [if_neg c33] at H
         exact absurd H (by simp)
       ·rw [if_neg c32] at H
        have c32b0 : (t230 == 6) = false := beq_eq_false_iff_ne.mpr c32
        have c32b1 : (t230 != 6) = true := bne_iff_ne.mpr c32
        obtain rfl := Option.some.inj H
        obtain ⟨Ao38, co38, eo38⟩ := Kd.R_slice HO_6.out
        subst eo38
        have p229 : 0 ≤ ((ji28) : Int) := of_decide_eq_true as_
        have q229 : (ji28) < (l0.length : Int) := of_decide_eq_true as_
        obtain ⟨ad229, e229, hx229_0⟩ := Kd.at_int HR0.out (ji28) p229 q229
        cases e229
        replace hx229_0 := (HB.out.cell (World.block_lt_of_cell? w _ hx229_0)).trans hx229_0
        replace p229 := eq_true p229
        replace q229 := eq_true q229
        go_wp2_with (first | (go_at_call 45; (with_reducible refine (collatorlaw03_pick.calls (rd l0 (ji28)) 7 t230 _ A31.out).mono ?_); rintro e w' ⟨rfl, ⟨nd, rfl⟩⟩))
        go_ret
        exact ⟨_, by first | rfl | (simp [errW_none, errW_some] <;> rfl) | (simp only [← hji28]; first | rfl | (simp [errW_none, errW_some] <;> rfl)) | (simp [*, errW_none, errW_some] <;> rfl), by (with_reducible repeat (first | apply Kd.R_alloc | apply Kd.R_drewN | apply Kd.R_drew)); exact Kd.R_mono HO_6.out (fun _ hk => trivial), by repeat (first | (with_reducible first | exact HB.out | apply below_alloc | apply pw_below_drewN | apply below_drew1) | exact HB.out)⟩
      ·rw [if_neg c30] at H
       exact absurd H (by simp)
     ·rw [if_neg c29] at H
      exact absurd H (by simp)
    ·rw [if_neg c27] at H
     have c27b0 : decide (0 < (x6_1.length : Int)) = false := decide_eq_false c27
     have c27b1 : decide (0 < x6_1.length) = false := decide_eq_false (by omega)
     clear c27
     obtain rfl := Option.some.inj H
     obtain ⟨Ao39, co39, eo39⟩ := Kd.R_slice HO_6.out
     subst eo39
     go_wp2
     go_ret
     exact ⟨_, by first | rfl | (simp [errW_none, errW_some] <;> rfl) | (simp [*, errW_none, errW_some] <;> rfl), by (with_reducible repeat (first | apply Kd.R_alloc | apply Kd.R_drewN | apply Kd.R_drew)); exact Kd.R_mono HO_6.out (fun _ hk => trivial), by repeat (first | (with_reducible first | exact HB.out | apply below_alloc | apply pw_below_drewN | apply below_drew1) | exact HB.out)⟩

end Go.Proofs.Ytgobidmfbjmpkaa.P
end
