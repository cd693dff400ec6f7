/- Texts of this claim, joined: QTM, GLt, PureHunksTells, HStrs, HHk, HRowsI. -/
import Derived.Test.YtgobidmfbjmpkaaMHunksTells11
import Derived.Test.YtgobidmfbjmpkaaMHunksTells1
import Derived.Test.YtgobidmfbjmpkaaMHunksTells8
import Derived.Test.YtgobidmfbjmpkaaMHunksTells6
import Derived.Test.YtgobidmfbjmpkaaMHunksTells9
import Derived.Test.YtgobidmfbjmpkaaMHunksTells10
import Derived.SizedLaws
import Derived.SliceStrings
import Derived.Test.YtgobidmfbjmpkaaWMore
import Derived.OpenShut
import Derived.Deep.Slices
import Derived.Deep.Fields
import Derived.ChangeSame
import Derived.ChangeSlices
import Derived.Deep.Matrix
section
/- HunksTells: the document's Make answers as the program's; hunks are the same as themselves; hunks of raw numbers. -/
set_option linter.unusedVariables false
set_option linter.unusedSimpArgs false
namespace Go.Proofs.Ytgobidmfbjmpkaa.Q
open Go Go.RowKit Go.Proofs.Ytgobidmfbjmpkaa.P Go.Proofs.YtgobidmfbjmpkaaW.PrintWords Go.Proofs.YtgobidmfbjmpkaaW.PrintLast Go.Proofs.YtgobidmfbjmpkaaW.PrintMore
/-! ### The document's Make -/
abbrev StS := S71
def toS (s : StS) : Stp := ⟨s.f0, if s.f0 = 3 then [s.f1] else [], s.f2, s.f3⟩
theorem with_toS (E : List EdS) (s : StS) : withP E s.f0 s.f1 = withS E (toS s) := by
 unfold withP withS toS
 cases e : E.getLast? with
 | none => rfl
 | some x => rfl
theorem rdSt {s : List StS} {i : Nat} {x : StS} (h : s[i]? = some x) : rd_T71 s (i : Int) = x := by
 unfold rd_T71
 rw [Int.toNat_natCast, List.getD_eq_getElem?_getD, h]; rfl
theorem rdHk {s : List HkS} {i : Nat} {x : HkS} (h : s[i]? = some x) : rd_T28 s (i : Int) = x := by
 unfold rd_T28
 rw [Int.toNat_natCast, List.getD_eq_getElem?_getD, h]; rfl
theorem chg_toS (s : StS) : chg (toS s) = !decide (s.f0 = 1) := by
 unfold chg toS
 by_cases h : s.f0 = 1
 ·simp [h]
 ·simp [h]
theorem w64_ {x : Int} (h0 : -9223372036854775808 ≤ x) (h1 : x ≤ 9223372036854775807) : wrap64 x = x := by unfold wrap64; omega
theorem bwd_ev (L : List StS) (hL : L.length ≤ 1000000) (i c : Nat) (hi : i < L.length) (hc : c ≤ 100) : ∀ b : Nat, b ≤ i → Ev (fun k => collatorref06_near.l1 k L (i : Int) (c : Int) ((b : Int) - 1)) ((((L.take b).map toS).reverse.take (b + c - i)).any chg)
 | 0, _ => by
  refine Ev.step (f := fun k => collatorref06_near.j3 k L (i : Int) (c : Int) (-1) false) (fun k => ?_) (Ev.step (f := fun _ => some false) (fun k => ?_) ?_)
  ·simp only [collatorref06_near.l1]
   rw [if_neg (by omega)]
   rfl
  ·simp only [collatorref06_near.j3]
   rw [if_neg (by decide)]
  ·rw [List.take_zero, List.map_nil, List.reverse_nil, List.take_nil]
   exact Ev.now _
 | b + 1, hb => by
  have ih := bwd_ev L hL i c hi hc b (by omega)
  have hlt : b < L.length := by omega
  have hg : L[b]? = some L[b] := List.getElem?_eq_getElem hlt
  have e0 : ((b + 1 : Nat) : Int) - 1 = (b : Int) := by omega
  have e1 : wrap64 ((i : Int) - (c : Int)) = (i : Int) - (c : Int) := w64_ (by omega) (by omega)
  rw [e0]
  by_cases cc : (b : Int) ≥ (i : Int) - (c : Int)
  ·have e2 : ((L.take (b + 1)).map toS).reverse.take (b + 1 + c - i) = toS L[b] :: ((L.take b).map toS).reverse.take (b + c - i) := by
    rw [List.take_succ_eq_append_getElem hlt, List.map_append, List.reverse_append, show b + 1 + c - i = (b + c - i) + 1 by omega]
    rfl
   rw [e2, List.any_cons, chg_toS]
   have h0 : ∀ k, collatorref06_near.l1 (k + 1) L (i : Int) (c : Int) (b : Int) = collatorref06_near.j3 k L (i : Int) (c : Int) (b : Int) true := fun k => by
    simp only [collatorref06_near.l1]
    rw [if_pos (by omega), e1, decide_eq_true cc]
   by_cases c1 : L[b].f0 = 1
   ·rw [decide_eq_true c1, Bool.not_true, Bool.false_or]
    refine Ev.step h0 (Ev.step (fun k => ?_) ih)
    simp only [collatorref06_near.j3]
    rw [if_pos trivial, if_pos (by omega), if_pos (by omega), rdSt hg, if_pos c1, w64_ (by omega) (by omega)]
   ·rw [decide_eq_false c1, Bool.not_false, Bool.true_or]
    refine Ev.step h0 (Ev.step (f := fun _ => some true) (fun k => ?_) (Ev.now _))
    simp only [collatorref06_near.j3]
    rw [if_pos trivial, if_pos (by omega), if_pos (by omega), rdSt hg, if_neg c1]
  ·rw [show b + 1 + c - i = 0 by omega, List.take_zero]
   refine Ev.step (f := fun k => collatorref06_near.j3 k L (i : Int) (c : Int) (b : Int) false) (fun k => ?_) (Ev.step (f := fun _ => some false) (fun k => ?_) (Ev.now _))
   ·simp only [collatorref06_near.l1]
    rw [if_pos (by omega), e1, decide_eq_false cc]
   ·simp only [collatorref06_near.j3]
    rw [if_neg (by decide)]
theorem fwd_ev (L : List StS) (hL : L.length ≤ 1000000) (i c : Nat) (hi : i < L.length) (hc : c ≤ 100) (d : Nat) : ∀ j : Nat, i < j → j + d = L.length + 1 → Ev (fun k => collatorref06_near.l0 k L (i : Int) (c : Int) (j : Int)) ((((L.drop j).map toS).take (i + c + 1 - j)).any chg || (((L.take i).map toS).reverse.take c).any chg) := by
 have stop : ∀ j : Nat, i < j → (j ≥ L.length ∨ j > i + c) → Ev (fun k => collatorref06_near.l0 k L (i : Int) (c : Int) (j : Int)) ((((L.drop j).map toS).take (i + c + 1 - j)).any chg || (((L.take i).map toS).reverse.take c).any chg) := by
  intro j hj hor
  have e : (((L.drop j).map toS).take (i + c + 1 - j)).any chg = false := by
   rcases hor with h | h
   ·rw [List.drop_eq_nil_of_le h, List.map_nil, List.take_nil]; rfl
   ·rw [show i + c + 1 - j = 0 by omega, List.take_zero]; rfl
  have hb := bwd_ev L hL i c hi hc i (Nat.le_refl _)
  rw [show i + c - i = c by omega] at hb
  rw [e, Bool.false_or]
  refine Ev.step (f := fun k => collatorref06_near.j1 k L (i : Int) (c : Int) (j : Int) false) (fun k => ?_) (Ev.step (fun k => ?_) hb)
  ·simp only [collatorref06_near.l0]
   by_cases h : j < L.length
   ·rw [if_pos (by omega), w64_ (by omega) (by omega), decide_eq_false (by omega)]
   ·rw [if_neg (by omega)]
  ·simp only [collatorref06_near.j1]
   rw [if_neg (by decide), w64_ (by omega) (by omega)]
 induction d with
 | zero => intro j hj he; exact stop j hj (.inl (by omega))
 | succ d ih =>
  intro j hj he
  by_cases h : j ≥ L.length ∨ j > i + c
  ·exact stop j hj h
  ·have hlt : j < L.length := by omega
   have hg : L[j]? = some L[j] := List.getElem?_eq_getElem hlt
   have hn := ih (j + 1) (by omega) (by omega)
   have e2 : ((L.drop j).map toS).take (i + c + 1 - j) = toS L[j] :: ((L.drop (j + 1)).map toS).take (i + c + 1 - (j + 1)) := by
    rw [List.drop_eq_getElem_cons hlt, List.map_cons, show i + c + 1 - j = (i + c + 1 - (j + 1)) + 1 by omega]
    rfl
   rw [e2, List.any_cons, chg_toS]
   have h0 : ∀ k, collatorref06_near.l0 (k + 1) L (i : Int) (c : Int) (j : Int) = collatorref06_near.j1 k L (i : Int) (c : Int) (j : Int) true := fun k => by
    simp only [collatorref06_near.l0]
    rw [if_pos (by omega), w64_ (by omega) (by omega), decide_eq_true (by omega)]
   by_cases c1 : L[j].f0 = 1
   ·rw [decide_eq_true c1, Bool.not_true, Bool.false_or]
    refine Ev.step h0 (Ev.step (fun k => ?_) hn)
    simp only [collatorref06_near.j1]
    rw [if_pos trivial, if_pos (by omega), if_pos (by omega), rdSt hg, if_pos c1, w64_ (by omega) (by omega), show (j : Int) + 1 = ((j + 1 : Nat) : Int) by omega]
   ·rw [decide_eq_false c1, Bool.not_false, Bool.true_or, Bool.true_or]
    refine Ev.step h0 (Ev.step (f := fun _ => some true) (fun k => ?_) (Ev.now _))
    simp only [collatorref06_near.j1]
    rw [if_pos trivial, if_pos (by omega), if_pos (by omega), rdSt hg, if_neg c1]
theorem near_ev (L : List StS) (hL : L.length ≤ 1000000) (i c : Nat) (hi : i < L.length) (hc : c ≤ 100) : Ev (fun k => collatorref06_near.f k L (i : Int) (c : Int)) (near c ((L.take i).map toS).reverse (toS L[i]) ((L.drop (i + 1)).map toS)) := by
 have hg : L[i]? = some L[i] := List.getElem?_eq_getElem hi
 have hf := fwd_ev L hL i c hi hc (L.length - i) (i + 1) (by omega) (by omega)
 rw [show i + c + 1 - (i + 1) = c by omega] at hf
 unfold collatorref06_near.f near
 rw [chg_toS]
 simp only [show (0 ≤ (i : Int)) = True from eq_true (by omega), show ((i : Int) < (L.length : Int)) = True from eq_true (by omega), if_true, rdSt hg]
 by_cases c1 : L[i].f0 = 1
 ·simp only [if_pos c1]
  rw [decide_eq_true c1, Bool.not_true, Bool.false_or, w64_ (by omega) (by omega), show (i : Int) + 1 = ((i + 1 : Nat) : Int) by omega]
  exact hf
 ·simp only [if_neg c1]
  rw [decide_eq_false c1, Bool.not_false, Bool.true_or, Bool.true_or]
  exact Ev.now _
/-! ### Steps -/
def rT (op dq : Int) : Nat → Int → Int → List StS
 | 0, _, _ => []
 | n + 1, p, q => ⟨op, (⟨#[]⟩ : ByteArray), p, q⟩ :: rT op dq n (p + 1) (q + dq)
def rA : List ByteArray → Int → Int → List StS
 | [], _, _ => []
 | l :: ls, p, q => ⟨3, l, p, q⟩ :: rA ls p (q + 1)
def expT (x : EdS) (p q : Int) : List StS := if x.f0 = 1 then rT 1 1 x.f1.toNat p q else if x.f0 = 2 then rT 2 0 x.f1.toNat p q else rA x.f2 p q
def stepsT : List EdS → Int → Int → List StS
 | [], _, _ => []
 | x :: t, p, q => expT x p q ++ stepsT t (adv1 p x) (adv2 q x)
theorem rT_K : ∀ (n : Nat) (p q : Int), (rT 1 1 n p q).map toS = runK n p q
 | 0, _, _ => rfl
 | n + 1, p, q => by rw [rT, List.map_cons, rT_K n, runK]; rfl
theorem rT_C : ∀ (n : Nat) (p q : Int), (rT 2 0 n p q).map toS = runC n p q
 | 0, _, _ => rfl
 | n + 1, p, q => by rw [rT, List.map_cons, Int.add_zero, rT_C n, runC]; rfl
theorem rA_A : ∀ (ls : List ByteArray) (p q : Int), (rA ls p q).map toS = runA ls p q
 | [], _, _ => rfl
 | l :: ls, p, q => by rw [rA, List.map_cons, rA_A ls, runA]; rfl
theorem steps_map : ∀ (s : List EdS) (p q : Int), (stepsT s p q).map toS = stepsOf s p q
 | [], _, _ => rfl
 | x :: t, p, q => by
  rw [stepsT, List.map_append, steps_map t, stepsOf]
  congr 1
  unfold expT expS
  split
  ·exact rT_K _ _ _
  ·split
   ·exact rT_C _ _ _
   ·exact rA_A _ _ _
theorem rT_len (op dq : Int) : ∀ (n : Nat) (p q : Int), (rT op dq n p q).length = n
 | 0, _, _ => rfl
 | n + 1, p, q => by rw [rT, List.length_cons, rT_len op dq n]
theorem rA_len : ∀ (ls : List ByteArray) (p q : Int), (rA ls p q).length = ls.length
 | [], _, _ => rfl
 | l :: ls, p, q => by rw [rA, List.length_cons, rA_len ls, List.length_cons]
theorem expT_len {x : EdS} {t : List EdS} (h : Fit (x :: t)) (p q : Int) : (expT x p q).length = x.f1.toNat := by
 obtain ⟨f1, f2, f3, f4, f5⟩ := fit_head h
 unfold expT
 split
 ·exact rT_len _ _ _ _ _
 ·split
  ·exact rT_len _ _ _ _ _
  ·rw [rA_len]; have := f4 (by omega); omega
theorem steps_len : ∀ (s : List EdS) (p q : Int), Fit s → (∀ x ∈ s, x.f1 ≤ 4) → (stepsT s p q).length ≤ 4 * s.length
 | [], _, _, _, _ => Nat.le_refl _
 | x :: t, p, q, hf, h4 => by
  have h1 := steps_len t (adv1 p x) (adv2 q x) (fit_tail hf) (fun y hy => h4 y (List.mem_cons_of_mem _ hy))
  have h2 := h4 x (by simp)
  rw [stepsT, List.length_append, expT_len hf, List.length_cons]
  omega
theorem rdS {s : List ByteArray} {i : Nat} {x : ByteArray} (h : s[i]? = some x) : rdOf ByteArray.empty s (i : Int) = x := rdB h
theorem in_K (s : List EdS) (hs : s.length ≤ 1000) (i : Nat) (x : EdS) (hx : s[i]? = some x) (g2 : x.f0 = 1) (R : List StS) : ∀ (m j : Nat) (p q : Int) (out : List StS), (j : Int) + m = x.f1 → x.f1 ≤ 2000000 → out.length + m ≤ 2000000000 → 0 ≤ p → p + m ≤ 2000000000 → 0 ≤ q → q + m ≤ 2000000000 →
  Ev (fun k => collatorref06_steps.l0 k s (out ++ rT 1 1 m p q) (p + m) (q + m) ((i + 1 : Nat) : Int)) R → Ev (fun k => collatorref06_steps.l1 k s out p q (i : Int) (j : Int)) R := by
 have h1 : i < s.length := (List.getElem?_eq_some_iff.1 hx).1
 intro m
 induction m with
 | zero =>
  intro j p q out hj hb ho hp0 hp1 hq0 hq1 hE
  refine Ev.step (f := fun k => _) (fun k => by simp only [collatorref06_steps.l1]; rfl) ?_
  refine evpos (by omega) (evpos (by omega) ?_)
  simp only [rdT hx, wi (i := i) (by omega)]
  refine evneg (by omega) ?_
  simpa [rT] using hE
 | succ m ih =>
  intro j p q out hj hb ho hp0 hp1 hq0 hq1 hE
  refine Ev.step (f := fun k => _) (fun k => by simp only [collatorref06_steps.l1]; rfl) ?_
  refine evpos (by omega) (evpos (by omega) ?_)
  simp only [rdT hx, wi (i := j) (by omega)]
  refine evpos (by omega) (evneg (by omega) (evneg (by omega) (evpos (by omega) ?_)))
  simp only [w64 (x := p + 1) (by omega) (by omega), w64 (x := q + 1) (by omega) (by omega)]
  refine ih (j + 1) (p + 1) (q + 1) _ (by omega) hb (by rw [List.length_append, List.length_singleton]; omega) (by omega) (by omega) (by omega) (by omega) ?_
  have e : out ++ rT 1 1 (m + 1) p q = out ++ [⟨x.f0, (⟨#[]⟩ : ByteArray), p, q⟩] ++ rT 1 1 m (p + 1) (q + 1) := by rw [rT, g2]; simp
  rw [e, show p + ((m + 1 : Nat) : Int) = p + 1 + (m : Int) by omega, show q + ((m + 1 : Nat) : Int) = q + 1 + (m : Int) by omega] at hE
  exact hE
theorem in_C (s : List EdS) (hs : s.length ≤ 1000) (i : Nat) (x : EdS) (hx : s[i]? = some x) (g2 : x.f0 = 2) (R : List StS) : ∀ (m j : Nat) (p q : Int) (out : List StS), (j : Int) + m = x.f1 → x.f1 ≤ 2000000 → out.length + m ≤ 2000000000 → 0 ≤ p → p + m ≤ 2000000000 →
  Ev (fun k => collatorref06_steps.l0 k s (out ++ rT 2 0 m p q) (p + m) q ((i + 1 : Nat) : Int)) R → Ev (fun k => collatorref06_steps.l1 k s out p q (i : Int) (j : Int)) R := by
 have h1 : i < s.length := (List.getElem?_eq_some_iff.1 hx).1
 intro m
 induction m with
 | zero =>
  intro j p q out hj hb ho hp0 hp1 hE
  refine Ev.step (f := fun k => _) (fun k => by simp only [collatorref06_steps.l1]; rfl) ?_
  refine evpos (by omega) (evpos (by omega) ?_)
  simp only [rdT hx, wi (i := i) (by omega)]
  refine evneg (by omega) ?_
  simpa [rT] using hE
 | succ m ih =>
  intro j p q out hj hb ho hp0 hp1 hE
  refine Ev.step (f := fun k => _) (fun k => by simp only [collatorref06_steps.l1]; rfl) ?_
  refine evpos (by omega) (evpos (by omega) ?_)
  simp only [rdT hx, wi (i := j) (by omega)]
  refine evpos (by omega) (evneg (by omega) (evpos (by omega) (evpos (by omega) ?_)))
  simp only [w64 (x := p + 1) (by omega) (by omega)]
  refine ih (j + 1) (p + 1) q _ (by omega) hb (by rw [List.length_append, List.length_singleton]; omega) (by omega) (by omega) ?_
  have e : out ++ rT 2 0 (m + 1) p q = out ++ [⟨x.f0, (⟨#[]⟩ : ByteArray), p, q⟩] ++ rT 2 0 m (p + 1) q := by rw [rT, g2, Int.add_zero]; simp
  rw [e, show p + ((m + 1 : Nat) : Int) = p + 1 + (m : Int) by omega] at hE
  exact hE
theorem in_A (s : List EdS) (hs : s.length ≤ 1000) (i : Nat) (x : EdS) (hx : s[i]? = some x) (g2 : x.f0 = 3) (g4 : (x.f2.length : Int) = x.f1) (R : List StS) (ls : List ByteArray) : ∀ (j : Nat) (p q : Int) (out : List StS), x.f2.drop j = ls → j ≤ x.f2.length → x.f1 ≤ 2000000 → out.length + ls.length ≤ 2000000000 → 0 ≤ q → q + ls.length ≤ 2000000000 →
  Ev (fun k => collatorref06_steps.l0 k s (out ++ rA ls p q) p (q + ls.length) ((i + 1 : Nat) : Int)) R → Ev (fun k => collatorref06_steps.l1 k s out p q (i : Int) (j : Int)) R := by
 have h1 : i < s.length := (List.getElem?_eq_some_iff.1 hx).1
 induction ls with
 | nil =>
  intro j p q out hd hj hb ho hq0 hq1 hE
  have := drop_nil hd
  refine Ev.step (f := fun k => _) (fun k => by simp only [collatorref06_steps.l1]; rfl) ?_
  refine evpos (by omega) (evpos (by omega) ?_)
  simp only [rdT hx, wi (i := i) (by omega)]
  refine evneg (by omega) ?_
  simpa [rA] using hE
 | cons l ls ih =>
  intro j p q out hd hj hb ho hq0 hq1 hE
  obtain ⟨d1, d2, d3⟩ := drop_cons hd
  rw [List.length_cons] at ho hq1 hE
  refine Ev.step (f := fun k => _) (fun k => by simp only [collatorref06_steps.l1]; rfl) ?_
  refine evpos (by omega) (evpos (by omega) ?_)
  simp only [rdT hx, wi (i := j) (by omega), rdS d2]
  refine evpos (by omega) (evpos (by omega) (evpos (by omega) (evpos (by omega) (evneg (by omega) (evpos (by omega) ?_)))))
  simp only [w64 (x := q + 1) (by omega) (by omega)]
  refine ih (j + 1) p (q + 1) _ d3 (by omega) hb (by rw [List.length_append, List.length_singleton]; omega) (by omega) (by omega) ?_
  have e : out ++ rA (l :: ls) p q = out ++ [⟨x.f0, l, p, q⟩] ++ rA ls p (q + 1) := by rw [rA, g2]; simp
  rw [e, show q + ((ls.length + 1 : Nat) : Int) = q + 1 + (ls.length : Int) by omega] at hE
  exact hE
theorem steps_loop (s : List EdS) (hs : s.length ≤ 1000) (t : List EdS) : ∀ (i : Nat) (p q : Int) (out : List StS), s.drop i = t → Fit t → out.length ≤ 1048576 * i → 0 ≤ p → p ≤ 1048576 * i → 0 ≤ q → q ≤ 1048576 * i → Ev (fun k => collatorref06_steps.l0 k s out p q (i : Int)) (out ++ stepsT t p q) := by
 induction t with
 | nil =>
  intro i p q out hd _ _ _ _ _ _
  have := drop_nil hd
  refine Ev.step (f := fun _ => some (out ++ [])) (fun k => ?_) (Ev.now _)
  simp only [collatorref06_steps.l0]
  rw [if_neg (by omega), List.append_nil]
 | cons x t ih =>
  intro i p q out hd hf ho hp0 hp1 hq0 hq1
  obtain ⟨hi, hx, hd'⟩ := drop_cons hd
  obtain ⟨f1, f2, f3, f4, f5⟩ := fit_head hf
  have hl := expT_len hf p q
  have hn := ih (i + 1) (adv1 p x) (adv2 q x) (out ++ expT x p q) hd' (fit_tail hf) (by rw [List.length_append, hl]; omega) (by unfold adv1; split <;> omega) (by unfold adv1; split <;> omega) (by unfold adv2; split <;> omega) (by unfold adv2; split <;> omega)
  rw [List.append_assoc] at hn
  refine Ev.step (f := fun k => _) (fun k => by simp only [collatorref06_steps.l0]; rfl) (evpos (by omega) ?_)
  rw [stepsT]
  have hm : (x.f1.toNat : Int) = x.f1 := by omega
  unfold expT adv1 adv2 at hn ⊢
  rcases f3 with g | g | g
  ·simp only [g, if_true, show ((1 : Int) = 3) = False from eq_false (by decide), show ((1 : Int) = 2) = False from eq_false (by decide), if_false] at hn ⊢
   refine in_K s hs i x hx g _ x.f1.toNat 0 p q out (by omega) (by omega) (by omega) hp0 (by omega) hq0 (by omega) ?_
   rw [hm]
   exact hn
  ·simp only [g, if_true, show ((2 : Int) = 3) = False from eq_false (by decide), show ((2 : Int) = 1) = False from eq_false (by decide), if_false, Int.add_zero] at hn ⊢
   refine in_C s hs i x hx g _ x.f1.toNat 0 p q out (by omega) (by omega) (by omega) hp0 (by omega) ?_
   rw [hm]
   exact hn
  ·have hk := f4 g
   simp only [g, if_true, show ((3 : Int) = 1) = False from eq_false (by decide), show ((3 : Int) = 2) = False from eq_false (by decide), if_false, Int.add_zero] at hn ⊢
   refine in_A s hs i x hx g hk _ x.f2 0 p q out rfl (by omega) (by omega) (by omega) hq0 (by omega) ?_
   rw [hk]
   exact hn
theorem steps_ev (s : List EdS) (hs : s.length ≤ 1000) (hf : Fit s) : Ev (fun k => collatorref06_steps.f k s) (stepsT s 0 0) := by
 have := steps_loop s hs s 0 0 0 [] rfl hf (by simp) (by omega) (by omega) (by omega) (by omega)
 unfold collatorref06_steps.f
 simpa using this
/-! ### Make -/
theorem withS_wt (E : List EdS) (s : StS) : wt (withS E (toS s)) ≤ wt E + 3 := by
 have hl : (toS s).ls.length ≤ 1 := by unfold toS; show (if _ then _ else _ : List ByteArray).length ≤ 1; split <;> simp
 rcases List.eq_nil_or_concat E with h0 | ⟨u, e, h0⟩
 ·subst h0
  show wt [⟨_, 1, (toS s).ls⟩] ≤ _
  rw [wt_cons, wt_nil]
  unfold wt1
  simp only
  omega
 ·rw [List.concat_eq_append] at h0
  subst h0
  rw [withS_snoc]
  split
  ·simp only [wt_app, wt_cons, wt_nil, wt1, List.length_append]
   omega
  ·simp only [wt_app, wt_cons, wt_nil, wt1]
   omega
theorem with_ok {E : List EdS} (h : wt E ≤ 1000000) (s : StS) : collatorref06_with.f E s.f0 s.f1 s.f2 s.f3 = some (withS E (toS s)) := by
 unfold collatorref06_with.f
 rw [if_pos, with_toS]
 refine ⟨Nat.le_trans (wt_len E) h, fun x hx => ?_⟩
 have := wt_mem hx
 unfold wt1 at this
 omega
theorem set_last (u : List HkS) (h y : HkS) : (u ++ [h]).set u.length y = u ++ [y] := by simp
theorem mk_upd (L : List StS) (hL : L.length ≤ 1000000) (c : Int) (i : Nat) (x : StS) (hi : i < L.length) (out : List HkS) (hne : out ≠ []) (ho : out.length ≤ 1000000) (hw : ∀ h ∈ out, wt h.f2 ≤ 1000000) {R : List HkS × Int} (hn : Ev (fun k => collatorref06_Make.l0 k c L (upd out (toS x)) true ((i + 1 : Nat) : Int)) R) :
  Ev (fun k => if 0 ≤ (wrap64 ((out.length : Int) - 1)) then (if (wrap64 ((out.length : Int) - 1)) < (out.length : Int) then ((collatorref06_with.f ((rd_T28 out (wrap64 ((out.length : Int) - 1))).f2) x.f0 x.f1 x.f2 x.f3).bind fun t => (collatorref06_Make.l0 k c L (out.set ((wrap64 ((out.length : Int) - 1)) : Int).toNat (⟨(rd_T28 out (wrap64 ((out.length : Int) - 1))).f0, (rd_T28 out (wrap64 ((out.length : Int) - 1))).f1, t⟩ : HkS)) true ((i + 1 : Nat) : Int))) else none) else none) R := by
 rcases List.eq_nil_or_concat out with h0 | ⟨u, h, h0⟩
 ·exact absurd h0 hne
 ·rw [List.concat_eq_append] at h0
  subst h0
  rw [List.length_append, List.length_singleton] at ho
  have e : wrap64 (((u ++ [h]).length : Int) - 1) = (u.length : Int) := by rw [List.length_append, List.length_singleton, w64 (by omega) (by omega)]; omega
  have hr : rd_T28 (u ++ [h]) (u.length : Int) = h := rdHk (by simp)
  simp only [e, hr, with_ok (hw h (by simp)) x, Option.bind_some, Int.toNat_natCast, set_last]
  rw [upd_snoc] at hn
  exact evpos (by omega) (evpos (by simp; omega) hn)
theorem make_loop (L : List StS) (hL : L.length ≤ 300000) (c : Nat) (hc : c ≤ 100) (t : List StS) : ∀ (i : Nat) (out : List HkS) (last : Bool), L.drop i = t → (last = true → out ≠ []) → out.length ≤ i → (∀ h ∈ out, wt h.f2 ≤ 3 * i) → Ev (fun k => collatorref06_Make.l0 k (c : Int) L out last (i : Int)) ((goN c ((L.take i).map toS).reverse (t.map toS) (out, last)).1, 0) := by
 induction t with
 | nil =>
  intro i out last hd _ _ _
  have := drop_nil hd
  refine Ev.step (f := fun _ => some (out, 0)) (fun k => ?_) (Ev.now _)
  simp only [collatorref06_Make.l0]
  rw [if_neg (by omega)]
 | cons x t ih =>
  intro i out last hd hlo hol hw
  obtain ⟨hi, hx, hd'⟩ := drop_cons hd
  have hLi : L[i] = x := by rw [List.getElem?_eq_getElem hi] at hx; exact Option.some.inj hx
  have hnear := near_ev L (by omega) i c hi hc
  rw [hLi] at hnear
  have hdr : L.drop (i + 1) = t := hd'
  rw [hdr] at hnear
  obtain ⟨b, hb⟩ : ∃ b, b = near c ((L.take i).map toS).reverse (toS x) (t.map toS) := ⟨_, rfl⟩
  rw [← hb] at hnear
  have hgo : goN c ((L.take i).map toS).reverse ((x :: t).map toS) (out, last) = goN c ((L.take (i + 1)).map toS).reverse (t.map toS) (rstep (out, last) b (toS x)) := by
   rw [List.map_cons, goN, ← hb, List.take_add_one, hx]
   simp
  rw [hgo]
  have hrx : rd_T71 L (i : Int) = x := rdSt hx
  refine Ev.step (f := fun k => _) (fun k => by simp only [collatorref06_Make.l0]; rfl) (evpos (by omega) (Ev.bind hnear ?_))
  have wt_upd : ∀ (o : List HkS), (∀ h ∈ o, wt h.f2 ≤ 3 * i) → ∀ h ∈ upd o (toS x), wt h.f2 ≤ 3 * (i + 1) := by
   intro o hw h hh
   rcases List.eq_nil_or_concat o with h0 | ⟨u, y, h0⟩
   ·subst h0
    cases hh
   ·rw [List.concat_eq_append] at h0
    subst h0
    rw [upd_snoc] at hh
    rcases List.mem_append.1 hh with hh | hh
    ·have := hw h (List.mem_append_left _ hh); omega
    ·obtain rfl := List.mem_singleton.1 hh
     have h1 := hw y (by simp)
     have h2 := withS_wt y.f2 x
     show wt (withS y.f2 (toS x)) ≤ _
     omega
  have len_upd : ∀ (o : List HkS), (upd o (toS x)).length = o.length ∧ (o ≠ [] → upd o (toS x) ≠ []) := by
   intro o
   rcases List.eq_nil_or_concat o with h0 | ⟨u, y, h0⟩
   ·subst h0
    exact ⟨rfl, fun h => absurd rfl h⟩
   ·rw [List.concat_eq_append] at h0
    subst h0
    rw [upd_snoc]
    simp
  cases b with
  | false =>
   refine evneg (by simp) ?_
   refine Ev.step (f := fun k => _) (fun k => by simp only [collatorref06_Make.j2]; rfl) (evneg (by simp) (evneg (by simp) ?_))
   simp only [wi (i := i) (by omega), rstep_no]
   exact ih (i + 1) out false hd' (fun h => by cases h) (by omega) (fun h hh => by have := hw h hh; omega)
  | true =>
   refine evpos rfl ?_
   cases last with
   | true =>
    refine Ev.step (f := fun k => _) (fun k => by simp only [collatorref06_Make.j2]; rfl) ?_
    refine evneg (by simp) ?_
    refine evpos trivial ?_
    have hn := ih (i + 1) (upd out (toS x)) true hd' (fun _ => (len_upd out).2 (hlo rfl)) (by rw [(len_upd out).1]; omega) (wt_upd out hw)
    have e : rstep (out, true) true (toS x) = (upd out (toS x), true) := by simp [rstep]
    rw [e]
    have hu := mk_upd L (by omega) (c : Int) i x hi out (hlo rfl) (by omega) (fun h hh => by have := hw h hh; omega) hn
    simp only [hrx, wi (i := i) (by omega), show (0 ≤ (i : Int)) = True from eq_true (by omega), show ((i : Int) < (L.length : Int)) = True from eq_true (by omega), if_true]
    exact hu
   | false =>
    refine Ev.step (f := fun k => _) (fun k => by simp only [collatorref06_Make.j2]; rfl) ?_
    refine evpos (by simp) ?_
    refine evpos (by omega) (evpos (by omega) (evpos (by omega) ?_))
    simp only [hrx, Option.bind_some, if_true, wi (i := i) (by omega)]
    have hw' : ∀ h ∈ out ++ [(⟨x.f2, x.f3, []⟩ : HkS)], wt h.f2 ≤ 3 * i := fun h hh => by
     rcases List.mem_append.1 hh with hh | hh
     ·exact hw h hh
     ·obtain rfl := List.mem_singleton.1 hh; exact Nat.zero_le _
    have hn := ih (i + 1) (upd (out ++ [⟨x.f2, x.f3, []⟩]) (toS x)) true hd' (fun _ => (len_upd _).2 (by simp)) (by rw [(len_upd _).1, List.length_append, List.length_singleton]; omega) (wt_upd _ hw')
    have e : rstep (out, false) true (toS x) = (upd (out ++ [⟨x.f2, x.f3, []⟩]) (toS x), true) := by simp [rstep]; rfl
    rw [e]
    exact mk_upd L (by omega) (c : Int) i x hi (out ++ [⟨x.f2, x.f3, []⟩]) (by simp) (by rw [List.length_append, List.length_singleton]; omega) (fun h hh => by have := hw' h hh; omega) hn
theorem rmake_ev {s : List EdS} {n : Nat} (h : Raw s n 10) (c : Nat) (hc : c ≤ 100) : Ev (fun k => collatorref06_Make.f k s (c : Int)) (made (c : Int) s, 0) := by
 have hl := h.len
 have hsl := steps_len s 0 0 h.fit h.small
 have hm := make_loop (stepsT s 0 0) (by omega) c hc (stepsT s 0 0) 0 [] false rfl (fun h => by cases h) (Nat.le_refl _) (fun h hh => by cases hh)
 rw [steps_map] at hm
 have e : (goN c (((stepsT s 0 0).take 0).map toS).reverse (stepsOf s 0 0) ([], false)).1 = made (c : Int) s := refMake_made c s h.chn (fun x hx => (h.fit x hx).1)
 rw [e] at hm
 unfold collatorref06_Make.f
 refine Ev.bind (rright_ev s (by omega)) ?_
 rw [h.right]
 refine evpos rfl (evneg (by omega) ?_)
 rw [decide_eq_false (show ¬ (c : Int) > 100 by omega)]
 refine Ev.step (f := fun k => _) (fun k => by simp only [collatorref06_Make.j0]; rfl) ?_
 refine evneg (by decide) ?_
 exact Ev.bind (steps_ev s (by omega) h.fit) hm
theorem make_no {s : List EdS} {n : Nat} (h : Raw s n 10) (c : Int) (hc : c < 0 ∨ c > 100) : Ev (fun k => hunks_Make.f k s c) ([], 1) ∧ Ev (fun k => collatorref06_Make.f k s c) ([], 1) := by
 have hl := h.len
 have no : Ev (fun k => collatorref06_Make.j0 k s c true) ([], 1) := Ev.step (f := fun _ => some ([], 1)) (fun k => by simp only [collatorref06_Make.j0, if_true]) (Ev.now _)
 constructor
 ·unfold hunks_Make.f Iter.hunks_Make.f
  exact Ev.bind (right_ev s (by omega)) (evneg (by omega) (Ev.now _))
 ·unfold collatorref06_Make.f
  refine Ev.bind (rright_ev s (by omega)) ?_
  rw [h.right]
  refine evpos rfl ?_
  by_cases c0 : c < 0
  ·exact evpos c0 no
  ·refine evneg c0 ?_
   rw [decide_eq_true (show c > 100 by omega)]
   exact no
theorem hsame_loop (h : List HkS) (hl : h.length ≤ 1000000) (he : ∀ x ∈ h, x.f2.length ≤ 1000000 ∧ ∀ e ∈ x.f2, e.f2.length ≤ 1000000) (t : List HkS) : ∀ (i : Nat), h.drop i = t → Ev (fun k => collatorref06_Same.l0 k h h (i : Int)) true := by
 induction t with
 | nil =>
  intro i hd
  have := drop_nil hd
  refine Ev.step (f := fun _ => some true) (fun k => ?_) (Ev.now _)
  simp only [collatorref06_Same.l0]
  rw [if_neg (by omega)]
 | cons x t ih =>
  intro i hd
  obtain ⟨hi, hx, hd'⟩ := drop_cons hd
  have hr : rd_T28 h (i : Int) = x := rdH hx
  obtain ⟨h1, h2⟩ := he x (List.mem_of_getElem? hx)
  refine Ev.step (f := fun k => _) (fun k => by simp only [collatorref06_Same.l0]; rfl) (evpos (by omega) (evpos (by omega) (evpos (by omega) ?_)))
  simp only [hr, wi (i := i) (by omega)]
  refine Ev.bind (same_ev x.f2 h1 h2) ?_
  refine evpos rfl ?_
  simp only [if_true]
  exact ih (i + 1) hd'
theorem hsame_ev (h : List HkS) (hl : h.length ≤ 1000000) (he : ∀ x ∈ h, x.f2.length ≤ 1000000 ∧ ∀ e ∈ x.f2, e.f2.length ≤ 1000000) : Ev (fun k => collatorref06_Same.f k h h) true := by
 unfold collatorref06_Same.f
 simp only [if_pos (rfl : (h.length : Int) = (h.length : Int))]
 exact hsame_loop h hl he h 0 rfl
theorem made_sz {s : List EdS} {n : Nat} (h : Raw s n 10) {c : Int} (h0 : 0 ≤ c) (h1 : c ≤ 100) : (made c s).length ≤ 10 ∧ ∀ x ∈ made c s, (wt x.f2 : Int) ≤ 92 + 2 * c ∧ (0 ≤ x.f0 ∧ x.f0 ≤ 2000000) ∧ (-100 ≤ x.f1 ∧ x.f1 ≤ 20000000) := by
 obtain ⟨l1, l2⟩ := (made_wt c h0 s h.fit).1 0 0 0 (Int.le_refl _) h0
 have hw := raw_wt h.fit h.small
 have hl := h.len
 have hto := (made_to c h0 s h.fit).1 0 0 0 (Int.le_refl _) h0
 have hmk : makes s ≤ 1048576 * 10 := by have := (spans_bd h.fit).2.2.2.1; omega
 have hM := (raw_made h h0 h1).ok
 exact ⟨Nat.le_trans l1 hl, fun x hx => ⟨by have := l2 x hx; omega, (hM x hx).1, by have := hto x hx; omega⟩⟩
theorem make_pair {s : List EdS} {n : Nat} (h : Raw s n 10) (c : Int) : ∃ K, ∀ k, K ≤ k → ∃ u v e, hunks_Make.f k s c = some (u, e) ∧ collatorref06_Make.f k s c = some (v, e) ∧ collatorref06_Same.f k u v = some true := by
 by_cases hc : c < 0 ∨ c > 100
 ·obtain ⟨⟨K1, s1⟩, ⟨K2, s2⟩⟩ := make_no h c hc
  obtain ⟨K3, s3⟩ := hsame_ev [] (by simp) (fun x hx => by cases hx)
  exact ⟨max K1 (max K2 K3), fun k hk => ⟨_, _, _, s1 k (by omega), s2 k (by omega), s3 k (by omega)⟩⟩
 ·obtain ⟨m, rfl⟩ : ∃ m : Nat, c = (m : Int) := ⟨c.toNat, by omega⟩
  obtain ⟨z1, z2⟩ := made_sz h (c := (m : Int)) (by omega) (by omega)
  obtain ⟨K1, s1⟩ := make_ev s (by have := h.len; omega) h.right (m : Int) (by omega) (by omega)
  obtain ⟨K2, s2⟩ := rmake_ev h m (by omega)
  obtain ⟨K3, s3⟩ := hsame_ev (made (m : Int) s) (by omega) (fun x hx => by
   have h1 := (z2 x hx).1
   have h2 := wt_len x.f2
   refine ⟨by omega, fun e he => ?_⟩
   have h3 := wt_mem he
   unfold wt1 at h3
   omega)
  exact ⟨max K1 (max K2 K3), fun k hk => ⟨_, _, _, s1 k (by omega), s2 k (by omega), s3 k (by omega)⟩⟩
theorem small_of_wt {h : List HkS} (hl : h.length ≤ 10) (hw : ∀ x ∈ h, wt x.f2 ≤ 110) (hr : ∀ x ∈ h, (-9223372036854775808 ≤ x.f0 ∧ x.f0 ≤ 9223372036854775807) ∧ (-9223372036854775808 ≤ x.f1 ∧ x.f1 ≤ 9223372036854775807)) : Small h := by
 refine ⟨hl, fun x hx => ?_, hr⟩
 have h1 := hw x hx
 have h2 := wt_len x.f2
 refine ⟨by omega, fun e he => ?_⟩
 have h3 := wt_mem he
 unfold wt1 at h3
 omega
theorem made_small {s : List EdS} {n : Nat} (h : Raw s n 10) {c : Int} (h0 : 0 ≤ c) (h1 : c ≤ 5) : Small (made c s) := by
 obtain ⟨z1, z2⟩ := made_sz h h0 (by omega)
 exact small_of_wt z1 (fun x hx => by have := (z2 x hx).1; omega) (fun x hx => by have := (z2 x hx).2; omega)
/-! ### Hunks of raw numbers -/
theorem rdL9 {l : List (List Int)} {i : Nat} {x : List Int} (h : l[i]? = some x) : rd_L10 l (i : Int) = x := by
 unfold rd_L10
 rw [Int.toNat_natCast, List.getD_eq_getElem?_getD, h]; rfl
theorem hunks_loop (m : List (List Int)) (g : List Int) (hm : ∀ x ∈ m, x.length ≤ 9223372036854775807 ∧ ∀ y ∈ x, (Lit.int .i64 y).wf = true) (hg : ∀ x ∈ g, (Lit.int .i64 x).wf = true) (d : Nat) : ∀ (i : Nat) (p q : Int) (out : List HkS), i + d = 4 → out.length = i → 0 ≤ p → p ≤ 20000000 * i → 0 ≤ q → q ≤ 20000000 * i → (∀ x ∈ out, wt x.f2 ≤ 110) → (∀ x ∈ out, (-9223372036854775808 ≤ x.f0 ∧ x.f0 ≤ 9223372036854775807) ∧ (-9223372036854775808 ≤ x.f1 ∧ x.f1 ≤ 9223372036854775807)) →
  ∃ R, Ev (fun k => collatorlaw06_Hunks.l0 k m g out p q (i : Int)) R ∧ Small R := by
 have stop : ∀ (i : Nat) (p q : Int) (out : List HkS), Ev (fun k => collatorlaw06_Hunks.j1 k m g out p q (i : Int) false) out := fun i p q out => Ev.step (f := fun _ => some out) (fun k => by simp [collatorlaw06_Hunks.j1]) (Ev.now _)
 induction d with
 | zero =>
  intro i p q out hi hl _ _ _ _ hw hr
  refine ⟨out, ?_, small_of_wt (by omega) hw hr⟩
  refine Ev.step (f := fun k => _) (fun k => by simp only [collatorlaw06_Hunks.l0]; rfl) ?_
  rw [decide_eq_false (show ¬ (i : Int) < 4 by omega)]
  by_cases c : (i : Int) < (m.length : Int)
  ·exact evpos c (stop i p q out)
  ·exact evneg c (stop i p q out)
 | succ d ih =>
  intro i p q out hi hl hp0 hp1 hq0 hq1 hw hr
  by_cases c : i < m.length
  ·obtain ⟨x, hx⟩ : ∃ x, m[i]? = some x := ⟨_, List.getElem?_eq_getElem c⟩
   obtain ⟨x1, x2⟩ := hm x (List.mem_of_getElem? hx)
   obtain ⟨S, L, hS, hR⟩ := script_raw_ev x [] x2 x1 (fun y hy => by cases hy) (by simp)
   have hf := hR.fit
   have hlen := hR.len
   have hb := spans_bd hf
   have hsw := raw_wt hf hR.small
   have hsp := rspans_ev S (by omega) hR.right
   have rest : ∀ gap : Int, 0 ≤ gap → gap ≤ 9 → ∃ R, Ev (fun k => (collatorlaw04_Script.f k (rd_L10 m (i : Int)) ([] : List Int)).bind fun bt => (if out.length < 3518437208883 then ((collatorref04_Spans.f k bt.1).bind fun bu => (collatorlaw06_Hunks.l0 k m g (out ++ [(⟨wrap64 (p + gap), wrap64 (q + gap), bt.1⟩ : HkS)]) (wrap64 ((wrap64 (p + gap)) + bu.1)) (wrap64 ((wrap64 (q + gap)) + bu.2)) (wrap64 ((i : Int) + 1)))) else (none))) R ∧ Small R := by
    intro gap g0 g1
    rw [rdL9 hx]
    obtain ⟨R, h1, h2⟩ := ih (i + 1) (p + gap + takes S) (q + gap + makes S) (out ++ [⟨p + gap, q + gap, S⟩]) (by omega) (by rw [List.length_append, List.length_singleton, hl]) (by omega) (by omega) (by omega) (by omega)
     (fun y hy => by
      rcases List.mem_append.1 hy with hy | hy
      ·exact hw y hy
      ·obtain rfl := List.mem_singleton.1 hy; show wt S ≤ 110; omega)
     (fun y hy => by
      rcases List.mem_append.1 hy with hy | hy
      ·exact hr y hy
      ·obtain rfl := List.mem_singleton.1 hy; show (_ ≤ p + gap ∧ p + gap ≤ _) ∧ (_ ≤ q + gap ∧ q + gap ≤ _); omega)
    refine ⟨R, Ev.bind hS (evpos (by omega) (Ev.bind hsp ?_)), h2⟩
    simp only [w64 (x := p + gap) (by omega) (by omega), w64 (x := q + gap) (by omega) (by omega), w64 (x := p + gap + takes S) (by omega) (by omega), w64 (x := q + gap + makes S) (by omega) (by omega), wi (i := i) (by omega)]
    exact h1
   by_cases cg : i < g.length
   ·have hgi := rd_mem hg (i := (i : Int)) (by omega) (by omega)
    have hpk := pick6 hgi (m := 9) (n := 9) rfl (by omega)
    have hlt := pk_lt (rd g (i : Int)) (n := 9) (by omega)
    obtain ⟨R, h1, h2⟩ := rest (pk (rd g (i : Int)) 9 : Int) (by omega) (by omega)
    refine ⟨R, ?_, h2⟩
    refine Ev.step (f := fun k => _) (fun k => by simp only [collatorlaw06_Hunks.l0]; rfl) ?_
    rw [decide_eq_true (show (i : Int) < 4 by omega)]
    refine evpos (by omega) ?_
    refine Ev.step (f := fun k => _) (fun k => by simp only [collatorlaw06_Hunks.j1]; rfl) ?_
    refine evpos trivial ?_
    exact evpos (by omega) (evpos (by omega) (evval hpk (evpos (by omega) h1)))
   ·obtain ⟨R, h1, h2⟩ := rest 1 (by omega) (by omega)
    refine ⟨R, ?_, h2⟩
    refine Ev.step (f := fun k => _) (fun k => by simp only [collatorlaw06_Hunks.l0]; rfl) ?_
    rw [decide_eq_true (show (i : Int) < 4 by omega)]
    refine evpos (by omega) ?_
    refine Ev.step (f := fun k => _) (fun k => by simp only [collatorlaw06_Hunks.j1]; rfl) ?_
    refine evpos trivial ?_
    exact evneg (by omega) (evpos (by omega) (evpos (by omega) h1))
  ·refine ⟨out, ?_, small_of_wt (by omega) hw hr⟩
   refine Ev.step (f := fun k => _) (fun k => by simp only [collatorlaw06_Hunks.l0]; rfl) ?_
   exact evneg (by omega) (stop i p q out)
theorem hunks_ev (m : List (List Int)) (g : List Int) (hm : ∀ x ∈ m, x.length ≤ 9223372036854775807 ∧ ∀ y ∈ x, (Lit.int .i64 y).wf = true) (hg : ∀ x ∈ g, (Lit.int .i64 x).wf = true) : ∃ R, Ev (fun k => collatorlaw06_Hunks.f k m g) R ∧ Small R :=
 hunks_loop m g hm hg 4 0 0 0 [] rfl rfl (by omega) (by omega) (by omega) (by omega) (fun x hx => by cases hx) (fun x hx => by cases hx)
end Go.Proofs.Ytgobidmfbjmpkaa.Q
end
section
/- Lines of raw numbers; scripts and their steps: plain lemmas (out of the templates QLines). -/
set_option linter.unusedVariables false
set_option linter.unusedSimpArgs false
namespace Go.Proofs.Ytgobidmfbjmpkaa.Q
open Go Go.RowKit Go.Proofs.Ytgobidmfbjmpkaa.P Go.Proofs.YtgobidmfbjmpkaaW.PrintWords Go.Proofs.YtgobidmfbjmpkaaW.PrintLast Go.Proofs.YtgobidmfbjmpkaaW.PrintMore
theorem pick3 {c : Int} (hc : -9223372036854775808 ≤ c ∧ c ≤ 9223372036854775807) {m : Int} {n : Nat} (hm : m = n) (hn : 0 < n) : collatorlaw03_pick.f c m = some (pk c n : Int) := pick_body hc hm hn
def few : List ByteArray := [(⟨#[97, 10]⟩ : ByteArray), (⟨#[98, 10]⟩ : ByteArray), (⟨#[99, 10]⟩ : ByteArray), (⟨#[10]⟩ : ByteArray), (⟨#[108, 111, 110, 103, 10]⟩ : ByteArray)]
def last_ : ByteArray := ⟨#[101, 110, 100]⟩
/-- Lines of few; the last one may be another one. -/
structure Fine (L : List ByteArray) (most : Nat) : Prop where
 le : L.length ≤ most
 most_ : ∀ j (h : j < L.length), L[j] ∈ few ∨ (L[j] = last_ ∧ j + 1 = L.length)
theorem Fine.mem {L : List ByteArray} {m : Nat} (h : Fine L m) {x : ByteArray} (hx : x ∈ L) : x ∈ few ∨ x = last_ := by
 obtain ⟨j, hj, rfl⟩ := List.mem_iff_getElem.1 hx
 rcases h.most_ j hj with h | h
 ·exact .inl h
 ·exact .inr h.1
theorem few_size : ∀ x ∈ few, x.size ≤ 5 := by decide
theorem Fine.size {L : List ByteArray} {m : Nat} (h : Fine L m) {x : ByteArray} (hx : x ∈ L) : x.size ≤ 5 := by
 rcases h.mem hx with h | h
 ·exact few_size x h
 ·subst h; decide
theorem rdOf_few (c : Int) : rdOf ByteArray.empty few (pk c 5 : Int) ∈ few := by
 have h := pk_lt c (n := 5) (by omega)
 unfold rdOf
 rw [Int.toNat_natCast, List.getD_eq_getElem?_getD, List.getElem?_eq_getElem (by exact h)]
 exact List.getElem_mem _
theorem lines_end (l : List Int) (hw : ∀ x ∈ l, (Lit.int .i64 x).wf = true) (hl : l.length ≤ 9223372036854775807) (acc : List ByteArray) (most : Nat) (hm : acc.length ≤ most) (hml : acc.length ≤ l.length)
  (hf : ∀ x ∈ acc, x ∈ few) : ∃ L, (if (acc.length : Int) > 0 then (if 0 ≤ (wrap64 ((acc.length : Int) - 1)) then (if (wrap64 ((acc.length : Int) - 1)) < (l.length : Int) then ((collatorlaw03_pick.f (rd l (wrap64 ((acc.length : Int) - 1))) 7).bind fun t121 => (if t121 = 6 then (if (wrap64 ((acc.length : Int) - 1)) < (acc.length : Int) then (some (acc.set ((wrap64 ((acc.length : Int) - 1)) : Int).toNat (⟨#[101, 110, 100]⟩ : ByteArray))) else (none)) else (some acc))) else (none)) else (none)) else (some acc)) = some L ∧ Fine L most ∧ L.length = acc.length := by
 by_cases h0 : (acc.length : Int) > 0
 ·rw [if_pos h0, w64 (by omega) (by omega), if_pos (by omega), if_pos (by omega), pick3 (m := 7) (n := 7) (rd_mem hw (by omega) (by omega)) rfl (by omega), Option.bind_some]
  by_cases h6 : (pk (rd l ((acc.length : Int) - 1)) 7 : Int) = 6
  ·rw [if_pos h6, if_pos (by omega)]
   refine ⟨_, rfl, ⟨by rw [List.length_set]; exact hm, fun j hj => ?_⟩, by rw [List.length_set]⟩
   rw [List.length_set] at hj
   rw [List.getElem_set]
   by_cases he : ((acc.length : Int) - 1).toNat = j
   ·rw [if_pos he]; exact .inr ⟨rfl, by rw [List.length_set]; omega⟩
   ·rw [if_neg he]; exact .inl (hf _ (List.getElem_mem _))
  ·rw [if_neg h6]
   exact ⟨_, rfl, ⟨hm, fun j hj => .inl (hf _ (List.getElem_mem _))⟩, rfl⟩
 ·rw [if_neg h0]
  exact ⟨_, rfl, ⟨hm, fun j hj => .inl (hf _ (List.getElem_mem _))⟩, rfl⟩
theorem lines_loop (l : List Int) (hw : ∀ x ∈ l, (Lit.int .i64 x).wf = true) (hl : l.length ≤ 9223372036854775807) (most : Nat) (hmm : most ≤ 1000000) (d : Nat) :
  ∀ (acc : List ByteArray) (i : Nat), acc.length = i → i ≤ l.length → i ≤ most → min l.length most - i = d → (∀ x ∈ acc, x ∈ few) →
  ∃ L, Ev (fun k => collatorlaw03_Lines.l0 k l (most : Int) few acc (i : Int)) L ∧ Fine L most ∧ L.length = min l.length most := by
 induction d with
 | zero =>
  intro acc i ha hi hm hd hf
  obtain ⟨L, hL, hfine, hlen⟩ := lines_end l hw hl acc most (by omega) (by omega) hf
  refine ⟨L, Ev.step (f := fun _ => some L) (fun k => ?_) (Ev.now L), hfine, by omega⟩
  simp only [collatorlaw03_Lines.l0]
  rw [hL]
  by_cases h1 : (i : Int) < (l.length : Int)
  ·rw [if_pos h1, if_neg (by omega)]
  ·rw [if_neg h1]
 | succ d ih =>
  intro acc i ha hi hm hd hf
  obtain ⟨L, hL, hr⟩ := ih (acc ++ [rdOf ByteArray.empty few (pk (rd l i) 5 : Int)]) (i + 1) (by simp [ha]) (by omega) (by omega) (by omega) (by
   intro x hx
   rcases List.mem_append.1 hx with hx | hx
   ·exact hf x hx
   ·rw [List.mem_singleton.1 hx]; exact rdOf_few _)
  refine ⟨L, Ev.step (fun k => ?_) hL, hr⟩
  simp only [collatorlaw03_Lines.l0]
  have h5 := pk_lt (rd l i) (n := 5) (by omega)
  rw [if_pos (by omega), if_pos (by omega), if_pos (by omega), pick3 (m := 5) (n := 5) (rd_mem hw (by omega) (by omega)) rfl (by omega), Option.bind_some, if_pos (by omega), if_pos (by show _ < ((5 : Nat) : Int); omega), if_pos (by omega), w64 (by omega) (by omega)]
  rfl
/-- What Lines makes: lines of few, as many as there are raw numbers, 'most' at the most. -/
theorem lines_ev (l : List Int) (hw : ∀ x ∈ l, (Lit.int .i64 x).wf = true) (hl : l.length ≤ 9223372036854775807) (most : Nat) (hmm : most ≤ 1000000) :
  ∃ L, Ev (fun k => collatorlaw03_Lines.f k l (most : Int)) L ∧ Fine L most ∧ L.length = min l.length most :=
 lines_loop l hw hl most hmm _ [] 0 rfl (Nat.zero_le _) (Nat.zero_le _) rfl (by simp)
end Go.Proofs.Ytgobidmfbjmpkaa.Q
end
section
/- HunksTells: the plain law: what the calls answer agrees, for every input. -/
set_option linter.unusedVariables false
set_option linter.unusedSimpArgs false
namespace Go.Proofs.Ytgobidmfbjmpkaa.Q
open Go Go.RowKit Go.Proofs.Ytgobidmfbjmpkaa.P Go.Proofs.YtgobidmfbjmpkaaW.PrintWords Go.Proofs.YtgobidmfbjmpkaaW.PrintLast Go.Proofs.YtgobidmfbjmpkaaW.PrintMore
theorem odd_small {l : List HkS} (hr : ∀ x ∈ l, (-9223372036854775808 ≤ x.f0 ∧ x.f0 ≤ 9223372036854775807) ∧ (-9223372036854775808 ≤ x.f1 ∧ x.f1 ≤ 9223372036854775807)) : Small (oddL l) := by
 unfold oddL
 refine ⟨by rw [List.length_map, List.length_take]; omega, fun x hx => ?_, fun x hx => ?_⟩
 ·obtain ⟨y, hy, rfl⟩ := List.mem_map.1 hx
  show ((y.f2.take 6).map cutE).length ≤ 110 ∧ ∀ e ∈ (y.f2.take 6).map cutE, e.f1 ≤ 110 ∧ e.f2.length ≤ 110
  refine ⟨by rw [List.length_map, List.length_take]; omega, fun e he => ?_⟩
  obtain ⟨z, hz, rfl⟩ := List.mem_map.1 he
  show mn z.f1 50 ≤ 110 ∧ (z.f2.take (mn (z.f2.length : Int) 10).toNat).length ≤ 110
  rw [List.length_take]
  unfold mn
  constructor
  ·split <;> omega
  ·split <;> omega
 ·obtain ⟨y, hy, rfl⟩ := List.mem_map.1 hx
  exact hr y (List.mem_of_mem_take hy)
theorem each_ok {h : List HkS} (hs : Small h) (a ls : List ByteArray) (ha : a.length ≤ 100000) (hl : ls.length ≤ 100000) (n p : Int) : ∃ K, ∀ k, K ≤ k → EachOk k a ls n p h := by
 obtain ⟨⟨K1, r1⟩, ⟨K2, r2⟩⟩ := hs.rt
 obtain ⟨K3, s1⟩ := scr_one hs n
 obtain ⟨K4, s2⟩ := scr_one hs (a.length : Int)
 obtain ⟨K5, s3⟩ := scr_one hs p
 obtain ⟨K6, a1⟩ := app_one hs a ha
 obtain ⟨K7, a2⟩ := app_one hs ls hl
 refine ⟨K1 + K2 + K3 + K4 + K5 + K6 + K7, fun k hk => ⟨⟨_, r1 k (by omega), r2 k (by omega)⟩, fun x hx => ?_, fun x hx => ?_⟩⟩
 ·rcases hx with rfl | rfl | rfl
  ·exact s1 k (by omega)
  ·exact s2 k (by omega)
  ·exact s3 k (by omega)
 ·rcases hx with rfl | rfl
  ·exact a1 k (by omega)
  ·exact a2 k (by omega)
theorem tells_ok (l0 : List HkS) (hr : ∀ x ∈ l0, (-9223372036854775808 ≤ x.f0 ∧ x.f0 ≤ 9223372036854775807) ∧ (-9223372036854775808 ≤ x.f1 ∧ x.f1 ≤ 9223372036854775807)) (l1 : List Int) (l2 : List (List Int)) (l3 l4 : List Int) (a5 a6 : Int)
  (h1 : l1.length ≤ 9223372036854775807) (w1 : ∀ x ∈ l1, (Lit.int .i64 x).wf = true) (w2 : ∀ x ∈ l2, x.length ≤ 9223372036854775807 ∧ ∀ y ∈ x, (Lit.int .i64 y).wf = true) (w3 : ∀ x ∈ l3, (Lit.int .i64 x).wf = true) (h4 : l4.length ≤ 9223372036854775807) (w4 : ∀ x ∈ l4, (Lit.int .i64 x).wf = true) (w5 : (Lit.int .i64 a5).wf = true) (w6 : (Lit.int .i64 a6).wf = true) :
  ∃ k s a ls p q own hm, TellsOk k (oddL l0) l1 l2 l3 l4 a5 a6 s a ls p q own hm := by
 obtain ⟨S, L, ⟨K1, hS⟩, hR⟩ := script_raw_ev l1 l4 w1 h1 w4 h4
 have hp := pick6 (wf_range w5) (m := 6) (n := 6) rfl (by omega)
 have hq := pick6 (wf_range w6) (m := 60) (n := 60) rfl (by omega)
 have hlt := pk_lt a5 (n := 6) (by omega)
 obtain ⟨hm, ⟨K2, hH⟩, hHs⟩ := hunks_ev l2 l3 w2 w3
 obtain ⟨ls, ⟨K3, hL⟩, _, hLl⟩ := lines_ev l4 w4 h4 30 (by omega)
 obtain ⟨K4, m1⟩ := make_pair hR a5
 obtain ⟨K5, m2⟩ := make_pair hR (pk a5 6 : Int)
 obtain ⟨K6, o1⟩ := rmake_ev hR (pk a5 6) (by omega)
 have ho := made_small hR (c := (pk a5 6 : Int)) (by omega) (by omega)
 have hLa : L.length ≤ 100000 := by have := hR.most; omega
 have hLb : ls.length ≤ 100000 := by rw [hLl]; omega
 obtain ⟨K7, e1⟩ := each_ok (odd_small hr) L ls hLa hLb a6 (pk a6 60 : Int)
 obtain ⟨K8, e2⟩ := each_ok ho L ls hLa hLb a6 (pk a6 60 : Int)
 obtain ⟨K9, e3⟩ := each_ok hHs L ls hLa hLb a6 (pk a6 60 : Int)
 obtain ⟨K, hK⟩ : ∃ K, K = K1 + K2 + K3 + K4 + K5 + K6 + K7 + K8 + K9 := ⟨_, rfl⟩
 refine ⟨K, S, L, ls, _, _, made (pk a5 6 : Int) S, hm, ⟨hS K (by omega), hp, hq, fun c hc => ?_, ⟨_, o1 K (by omega)⟩, hH K (by omega), hL K (by omega), fun h hh => ?_⟩⟩
 ·rcases hc with rfl | rfl
  ·exact m1 K (by omega)
  ·exact m2 K (by omega)
 ·rcases hh with rfl | rfl | rfl
  ·exact e1 K (by omega)
  ·exact e2 K (by omega)
  ·exact e3 K (by omega)
end Go.Proofs.Ytgobidmfbjmpkaa.Q
end
section
/- Words of this session: a law's slice of strings, as its row lays it open. -/
set_option linter.unusedVariables false
namespace Go.Proofs.Ytgobidmfbjmpkaa.HStrs
open Go Go.ChangeShapes Go.WideShapes Go.RowKit Go.Proofs.YtgobidmfbjmpkaaW.PrintWords Go.Proofs.YtgobidmfbjmpkaaW.PrintMore
def IsRowS (w : World) (a : Option Addr) (len cap : Nat) (zs : List ByteArray) : Prop :=
  (a = none ∧ len = 0 ∧ cap = 0 ∧ zs = []) ∨
  ∃ x, a = some x ∧ len ≤ cap ∧ cap ≤ maxLen ∧ zs.length = cap ∧ (∀ i, i < zs.length → w.cell? (x.add i) = some (.string (zs.getD i ByteArray.empty))) ∧ ∀ n ∈ zs, n.size ≤ maxLen
theorem ofRowS {w : World} {a : Option Addr} {len cap : Nat} {zs : List ByteArray} (h : IsRowS w a len cap zs) :
    ∃ l : List ByteArray, len = l.length ∧ Kd.C Kd.string w a l.length l ∧ l.length ≤ maxLen ∧ (∀ x ∈ l, x.size ≤ maxLen) ∧ l.length ≤ cap := by
  rcases h with ⟨rfl, rfl, rfl, rfl⟩ | ⟨x, rfl, hl, hm, hz, hcell, hw⟩
  · exact ⟨[], rfl, Kd.C_nil Kd.string w, Nat.zero_le _, fun x hx => absurd hx (by simp), Nat.le_refl _⟩
  · have e : len = (zs.take len).length := by rw [List.length_take]; omega
    refine ⟨zs.take len, e, ?_, by omega, fun s hs => hw s (List.mem_of_mem_take hs), by omega⟩
    have hm2 : maxLen = 9223372036854775807 := rfl
    refine Kd.C_of_reads (d := ByteArray.empty) (h1 := fun _ => rfl) ⟨rfl, by omega, fun _ => ⟨x, rfl, fun j hj => ?_⟩⟩
    have h1 := hcell j (by omega)
    have h2 : (zs.take len).getD j ByteArray.empty = zs.getD j ByteArray.empty := by
      rw [List.getD_eq_getElem?_getD, List.getD_eq_getElem?_getD, List.getElem?_take, if_pos (by omega)]
    rw [h2]
    exact h1
end Go.Proofs.Ytgobidmfbjmpkaa.HStrs
end
section
/- Words of this session: a law's slice of hunks (two whole numbers, and a slice of edits), as its row lays it open. 'open_slice_fields' is the kit's, copied as its page says. -/
set_option linter.unusedVariables false
namespace Go.Proofs.Ytgobidmfbjmpkaa.HHk
open Go Go.ChangeShapes Go.WideShapes Go.RowKit Go.Deep Go.Proofs.YtgobidmfbjmpkaaW.PrintWords Go.Proofs.YtgobidmfbjmpkaaW.PrintLast Go.Proofs.YtgobidmfbjmpkaaW.PrintMore Go.Proofs.Ytgobidmfbjmpkaa.P
section
variable {H : Type} {enc : TypeId × Value → H} {P : Program} {w : World} {base : Nat} {spare : Nat → Bool} {held : Bool}
theorem open_slice_fields {t e : TypeId} {fs : Array Field} {fuel : Nat} {cs : List Value} {x : DataW H × List MemPlace} (ht : P.underlying t = some (.slice e)) (he : P.underlying e = some (.struct fs))
  (hone : oneCellFields P fs = true) (hC : P.cellsOf e = fs.size) (h : DataW.trod enc P w base spare held fuel t cs = some x) :
  (cs = [.slice none 0 0] ∧ x = (.nil, [])) ∨
  ∃ (a : Addr) (len cap m : Nat) (D : Nat → DataW H) (Pl : Nat → List MemPlace), cs = [.slice (some a) len cap] ∧ base ≤ a.block ∧ len ≤ cap ∧ cap ≤ maxLen ∧ m = (if spare a.block then cap else len) ∧
   x = (.slice ((List.range len).map D) ((List.range (m - len)).map fun j => D (len + j)), MemPlace.row a (m * fs.size) ++ (List.range m).flatMap Pl) ∧
   ∀ i, i < m → ∃ (ys : List (DataW H × List MemPlace)) (n : Nat), D i = .agg (ys.map (·.1)) ∧ Pl i = ys.flatMap (·.2) ∧ ys.length = fs.size ∧
    ∀ (j : Nat) (f : Field), fs[j]? = some f → ∃ (v : Value) (y : DataW H × List MemPlace), w.cell? (a.add (i * fs.size + j)) = some v ∧ ys[j]? = some y ∧ DataW.trod enc P w base spare held n f.type [v] = some y := by
 rcases open_slice ht h with h0 | ⟨a, len, cap, m, n, D, Pl, hcs, hb, hl, hm, hmm, hx, hi⟩
 ·exact .inl h0
 ·refine .inr ⟨a, len, cap, m, D, Pl, hcs, hb, hl, hm, hmm, by rw [hC] at hx; exact hx, fun i him => ?_⟩
  obtain ⟨cs', hc, ht'⟩ := hi i him
  rw [hC] at hc
  obtain ⟨ys, n', hn', hy, hlen, hyl, hf⟩ := DataW.trod_struct he ht'
  obtain ⟨_, hcl, hat⟩ := World.cells?_some hc
  simp only [Prod.mk.injEq] at hy
  refine ⟨ys, n', hy.1, hy.2, hyl, fun j f hj => ?_⟩
  obtain ⟨ho, hk⟩ := hone_of hone j f hj
  have hjl : j < fs.size := (Array.getElem?_eq_some_iff.1 hj).1
  have hcell := hat j hjl
  have hv : cs'[j]? = some (cs'[j]'(by omega)) := List.getElem?_eq_getElem (by omega)
  have h1 := hf j f hj
  rw [ho, hk] at h1
  have hone' : (cs'.drop j).take 1 = [cs'[j]'(by omega)] := by
   rw [List.drop_eq_getElem_cons (by omega)]
   rfl
  rw [hone'] at h1
  have hys : ys[j]? = some (ys[j]'(by omega)) := List.getElem?_eq_getElem (by omega)
  refine ⟨_, _, ?_, hys, h1.trans hys⟩
  rw [← Go.Deep.add_add, hcell, hv]
end
theorem strs_of {H : Type} {enc : TypeId × Value → H} {W : World} {base : Nat} {held : Bool} {fuel : Nat} {v : Value} {d : DataW H × List MemPlace} (h : DataW.trod enc Try.prog W base (fun _ => true) held fuel 29 [v] = some d) :
  ∃ A c l, v = .slice A l.length c ∧ l.length ≤ c ∧ Kd.C Kd.string W A l.length l ∧ True := by
 rcases open_strings Try.underlying29 Try.underlying9 (by kernel_rfl) h with ⟨hcs, _⟩ | ⟨x, l, c, zs, hcs, _, hl, hm, hz, _, hcell, hwz⟩
 ·simp only [List.cons.injEq, and_true] at hcs
  subst hcs
  exact ⟨none, 0, [], rfl, Nat.le_refl _, Kd.C_nil _ W, trivial⟩
 ·simp only [List.cons.injEq, and_true] at hcs
  subst hcs
  obtain ⟨y, h1, h2, _, _, h3⟩ := HStrs.ofRowS (w := W) (a := some x) (len := l) (cap := c) (zs := zs) (.inr ⟨x, rfl, hl, hm, by simpa using hz, hcell, hwz⟩)
  exact ⟨some x, c, y, by rw [h1], h3, h2, trivial⟩
theorem edits_of {H : Type} {enc : TypeId × Value → H} {W : World} {base : Nat} {held : Bool} {fuel : Nat} {v : Value} {d : DataW H × List MemPlace} (h : DataW.trod enc Try.prog W base (fun _ => true) held fuel 26 [v] = some d) :
  ∃ A c l, v = .slice A l.length c ∧ l.length ≤ c ∧ Kd.C k31 W A l.length l ∧ l.length ≤ maxLen ∧ ∀ x ∈ l, (-9223372036854775808 ≤ x.f0 ∧ x.f0 ≤ 9223372036854775807) ∧ (-9223372036854775808 ≤ x.f1 ∧ x.f1 ≤ 9223372036854775807) := by
 have hm2 : maxLen = 9223372036854775807 := rfl
 rcases open_slice_fields Try.underlying26 Try.underlying31 (by kernel_rfl) (by kernel_rfl) h with ⟨hcs, _⟩ | ⟨ad, len, cap, m, D, Pl, hcs, _, hl, hm, hmm, _, hrow⟩
 ·simp only [List.cons.injEq, and_true] at hcs
  subst hcs
  exact ⟨none, 0, [], rfl, Nat.le_refl _, Kd.C_nil _ W, Nat.zero_le _, fun x hx => absurd hx (by simp)⟩
 ·simp only [List.cons.injEq, and_true] at hcs
  subst hcs
  simp only [if_true] at hmm
  subst hmm
  have each : ∀ i, i < len → ∃ x : S31, ((-9223372036854775808 ≤ x.f0 ∧ x.f0 ≤ 9223372036854775807) ∧ (-9223372036854775808 ≤ x.f1 ∧ x.f1 ≤ 9223372036854775807)) ∧ ∃ (A : Option Addr) (q : Nat), x.f2.length ≤ q ∧ Kd.string.C W A x.f2.length x.f2 ∧ W.cell? (ad.add (i * 3 + 0)) = some (.int .i64 x.f0) ∧ W.cell? (ad.add (i * 3 + 1)) = some (.int .i64 x.f1) ∧ W.cell? (ad.add (i * 3 + 2)) = some (.slice A x.f2.length q) := by
   intro i hi
   obtain ⟨ys, n, _, _, _, hg⟩ := hrow i (by omega)
   obtain ⟨v0, y0, c0, _, t0⟩ := hg 0 _ rfl
   obtain ⟨v1, y1, c1, _, t1⟩ := hg 1 _ rfl
   obtain ⟨v2, y2, c2, _, t2⟩ := hg 2 _ rfl
   obtain ⟨n0, e0, _, w0⟩ := DataW.trod_int Try.underlying3 t0
   obtain ⟨n1, e1, _, w1⟩ := DataW.trod_int Try.underlying3 t1
   simp only [List.cons.injEq, and_true] at e0 e1
   subst e0 e1
   obtain ⟨A, q, l2, rfl, hq, hC, _⟩ := strs_of t2
   have b0 := bounds_i64 w0
   have b1 := bounds_i64 w1
   exact ⟨⟨n0, n1, l2⟩, ⟨⟨by show _ ≤ n0; omega, by show n0 ≤ _; omega⟩, by show _ ≤ n1; omega, by show n1 ≤ _; omega⟩, A, q, hq, hC, c0, c1, c2⟩
  haveI : Inhabited S31 := ⟨⟨0, 0, []⟩⟩
  obtain ⟨X, hX⟩ := choose_lt each
  have hlen : ((List.range len).map X).length = len := by rw [List.length_map, List.length_range]
  refine ⟨some ad, m, (List.range len).map X, by rw [hlen], by omega, ?_, by omega, fun y hy => ?_⟩
  ·rw [hlen]
   refine ⟨hlen, by omega, fun _ => ⟨ad, rfl, fun j p hj => ?_⟩⟩
   have hjl : j < len := by have := (List.getElem?_eq_some_iff.1 hj).1; omega
   have hp : p = X j := by
    rw [List.getElem?_map, List.getElem?_range hjl] at hj
    exact (Option.some.inj hj).symm
   subst hp
   obtain ⟨_, A, q, hq, hC, c0, c1, c2⟩ := hX j hjl
   refine ⟨_, rfl, k31_mk W (X j) hq hC, fun i u hu => ?_⟩
   match i, hu with
   | 0, hu => obtain rfl := Option.some.inj hu; exact c0
   | 1, hu => obtain rfl := Option.some.inj hu; exact c1
   | 2, hu => obtain rfl := Option.some.inj hu; exact c2
  ·obtain ⟨r, hr, rfl⟩ := List.mem_map.1 hy
   exact (hX r (List.mem_range.1 hr)).1
theorem hunks_of {H : Type} {enc : TypeId × Value → H} {W : World} {base : Nat} {held : Bool} {fuel : Nat} {v : Value} {d : DataW H × List MemPlace} (h : DataW.trod enc Try.prog W base (fun _ => true) held fuel 22 [v] = some d) :
  ∃ A c l, v = .slice A l.length c ∧ l.length ≤ c ∧ Kd.C k28 W A l.length l ∧ l.length ≤ maxLen ∧ ∀ x ∈ l, (-9223372036854775808 ≤ x.f0 ∧ x.f0 ≤ 9223372036854775807) ∧ (-9223372036854775808 ≤ x.f1 ∧ x.f1 ≤ 9223372036854775807) := by
 have hm2 : maxLen = 9223372036854775807 := rfl
 rcases open_slice_fields Try.underlying22 Try.underlying28 (by kernel_rfl) (by kernel_rfl) h with ⟨hcs, _⟩ | ⟨ad, len, cap, m, D, Pl, hcs, _, hl, hm, hmm, _, hrow⟩
 ·simp only [List.cons.injEq, and_true] at hcs
  subst hcs
  exact ⟨none, 0, [], rfl, Nat.le_refl _, Kd.C_nil _ W, Nat.zero_le _, fun x hx => absurd hx (by simp)⟩
 ·simp only [List.cons.injEq, and_true] at hcs
  subst hcs
  simp only [if_true] at hmm
  subst hmm
  have each : ∀ i, i < len → ∃ x : S28, ((-9223372036854775808 ≤ x.f0 ∧ x.f0 ≤ 9223372036854775807) ∧ (-9223372036854775808 ≤ x.f1 ∧ x.f1 ≤ 9223372036854775807)) ∧ ∃ (A : Option Addr) (q : Nat), x.f2.length ≤ q ∧ k31.C W A x.f2.length x.f2 ∧ W.cell? (ad.add (i * 3 + 0)) = some (.int .i64 x.f0) ∧ W.cell? (ad.add (i * 3 + 1)) = some (.int .i64 x.f1) ∧ W.cell? (ad.add (i * 3 + 2)) = some (.slice A x.f2.length q) := by
   intro i hi
   obtain ⟨ys, n, _, _, _, hg⟩ := hrow i (by omega)
   obtain ⟨v0, y0, c0, _, t0⟩ := hg 0 _ rfl
   obtain ⟨v1, y1, c1, _, t1⟩ := hg 1 _ rfl
   obtain ⟨v2, y2, c2, _, t2⟩ := hg 2 _ rfl
   obtain ⟨n0, e0, _, w0⟩ := DataW.trod_int Try.underlying3 t0
   obtain ⟨n1, e1, _, w1⟩ := DataW.trod_int Try.underlying3 t1
   simp only [List.cons.injEq, and_true] at e0 e1
   subst e0 e1
   obtain ⟨A, q, l2, rfl, hq, hC, _⟩ := edits_of t2
   have b0 := bounds_i64 w0
   have b1 := bounds_i64 w1
   exact ⟨⟨n0, n1, l2⟩, ⟨⟨by show _ ≤ n0; omega, by show n0 ≤ _; omega⟩, by show _ ≤ n1; omega, by show n1 ≤ _; omega⟩, A, q, hq, hC, c0, c1, c2⟩
  haveI : Inhabited S28 := ⟨⟨0, 0, []⟩⟩
  obtain ⟨X, hX⟩ := choose_lt each
  have hlen : ((List.range len).map X).length = len := by rw [List.length_map, List.length_range]
  refine ⟨some ad, m, (List.range len).map X, by rw [hlen], by omega, ?_, by omega, fun y hy => ?_⟩
  ·rw [hlen]
   refine ⟨hlen, by omega, fun _ => ⟨ad, rfl, fun j p hj => ?_⟩⟩
   have hjl : j < len := by have := (List.getElem?_eq_some_iff.1 hj).1; omega
   have hp : p = X j := by
    rw [List.getElem?_map, List.getElem?_range hjl] at hj
    exact (Option.some.inj hj).symm
   subst hp
   obtain ⟨_, A, q, hq, hC, c0, c1, c2⟩ := hX j hjl
   refine ⟨_, rfl, k28_mk W (X j) hq hC, fun i u hu => ?_⟩
   match i, hu with
   | 0, hu => obtain rfl := Option.some.inj hu; exact c0
   | 1, hu => obtain rfl := Option.some.inj hu; exact c1
   | 2, hu => obtain rfl := Option.some.inj hu; exact c2
  ·obtain ⟨r, hr, rfl⟩ := List.mem_map.1 hy
   exact (hX r (List.mem_range.1 hr)).1
/-- The first parameter of HunksTells. -/
theorem row_of {H : Type} {enc : TypeId × Value → H} {W : World} {base : Nat} {held : Bool} {a : Option Addr} {len cap : Nat} {d : DataW H} {ps : List MemPlace}
  (h : DataW.Trod enc Try.prog W base (fun _ => true) held 22 (.slice a len cap) d ps) : ∃ l : List S28, len = l.length ∧ l.length ≤ cap ∧ Kd.C k28 W a l.length l ∧ ∀ x ∈ l, (-9223372036854775808 ≤ x.f0 ∧ x.f0 ≤ 9223372036854775807) ∧ (-9223372036854775808 ≤ x.f1 ∧ x.f1 ≤ 9223372036854775807) := by
 obtain ⟨fuel, hf⟩ := h
 obtain ⟨A, c, l, e, hl, hC, _, hr⟩ := hunks_of (v := .slice a len cap) (by simpa [Value.cells] using hf)
 injection e with e1 e2 e3
 subst e1 e3
 exact ⟨l, e2, hl, hC, hr⟩
end Go.Proofs.Ytgobidmfbjmpkaa.HHk
end
section
/- Words of this session: a law's slice of slices of whole numbers, as its row lays it open. -/
set_option linter.unusedVariables false
namespace Go.Proofs.Ytgobidmfbjmpkaa.HRowsI
open Go Go.ChangeShapes Go.WideShapes Go.RowKit Go.Deep Go.Proofs.YtgobidmfbjmpkaaW.PrintWords Go.Proofs.YtgobidmfbjmpkaaW.PrintMore
def IsRowS (w : World) (a : Option Addr) (len cap : Nat) (zs : List (List Int)) : Prop :=
  len = zs.length ∧ Kd.C (Kd.slice 3 (Kd.int .i64)) w a zs.length zs ∧ zs.length ≤ maxLen ∧ (∀ x ∈ zs, x.length ≤ maxLen ∧ ∀ y ∈ x, (Lit.int .i64 y).wf = true) ∧ zs.length ≤ cap
theorem row_of {H : Type} {enc : TypeId × Value → H} {P : Program} {W : World} {base : Nat} {held : Bool} {t e q : TypeId} {a : Option Addr} {len cap : Nat} {d : DataW H} {ps : List MemPlace}
    (hu : P.underlying t = some (.slice e)) (he : P.underlying e = some (.slice q)) (hq : P.underlying q = some (.int .i64)) (ce : P.cellsOf e = 1) (cq : P.cellsOf q = 1) (h : DataW.Trod enc P W base (fun _ => true) held t (.slice a len cap) d ps) : ∃ zs, IsRowS W a len cap zs := by
  have hm2 : maxLen = 9223372036854775807 := rfl
  obtain ⟨fuel, hf⟩ := h
  rcases open_int_rows hu he hq ce cq hf with ⟨hcs, _⟩ | ⟨x, l, c, A, L, C, Z, hcs, _, hl, hm, _, hrow⟩
  · simp [Value.cells] at hcs
    obtain ⟨rfl, rfl, rfl⟩ := hcs
    exact ⟨[], rfl, Kd.C_nil _ W, Nat.zero_le _, fun x hx => absurd hx (by simp), Nat.le_refl _⟩
  · simp [Value.cells] at hcs
    obtain ⟨rfl, rfl, rfl⟩ := hcs
    have hlen : ((List.range len).map fun r => (Z r).take (L r)).length = len := by rw [List.length_map, List.length_range]
    refine ⟨(List.range len).map fun r => (Z r).take (L r), hlen.symm, ?_, by omega, fun y hy => ?_, by omega⟩
    · rw [hlen]
      refine ⟨hlen, by omega, fun _ => ⟨x, rfl, fun j p hj => ?_⟩⟩
      have hjl : j < len := by have := (List.getElem?_eq_some_iff.1 hj).1; omega
      have hp : p = (Z j).take (L j) := by
        rw [List.getElem?_map, List.getElem?_range hjl] at hj
        exact (Option.some.inj hj).symm
      obtain ⟨r1, r2, r3, r4, r5, r6, r7⟩ := hrow j (by omega)
      have hpl : p.length = L j := by rw [hp, List.length_take]; omega
      refine ⟨[.slice (A j) (L j) (C j)], rfl, ⟨A j, C j, by rw [hpl], by omega, ?_⟩, fun i u hu => ?_⟩
      · refine Kd.C_of_reads (d := (0 : Int)) (h1 := fun _ => rfl) ⟨rfl, by omega, fun h0 => ?_⟩
        cases hA : A j with
        | none => have := r6 hA; omega
        | some a' =>
          refine ⟨a', rfl, fun i hi => ?_⟩
          have h1 := (r7 a' hA).2 i (by omega)
          have h2 : p.getD i 0 = (Z j).getD i 0 := by
            rw [hp, List.getD_eq_getElem?_getD, List.getD_eq_getElem?_getD, List.getElem?_take, if_pos (by omega)]
          rw [h2]
          exact h1
      · cases i with
        | zero =>
          have e : Value.slice (A j) (L j) (C j) = u := by simpa using hu
          rw [← e]
          have e2 : j * (Kd.slice 3 (Kd.int .i64)).sz + 0 = j := Nat.mul_one j
          rw [e2]
          exact r1
        | succ i => simp at hu
    · obtain ⟨r, hr, rfl⟩ := List.mem_map.1 hy
      have hrl := List.mem_range.1 hr
      obtain ⟨r1, r2, r3, r4, r5, r6, r7⟩ := hrow r (by omega)
      exact ⟨by rw [List.length_take]; omega, fun n hn => r5 n (List.mem_of_mem_take hn)⟩
theorem ofRowS {w : World} {a : Option Addr} {len cap : Nat} {zs : List (List Int)} (h : IsRowS w a len cap zs) :
    ∃ l : List (List Int), len = l.length ∧ Kd.C (Kd.slice 3 (Kd.int .i64)) w a l.length l ∧ l.length ≤ maxLen ∧ (∀ x ∈ l, x.length ≤ maxLen ∧ ∀ y ∈ x, (Lit.int .i64 y).wf = true) ∧ l.length ≤ cap := ⟨zs, h⟩
end Go.Proofs.Ytgobidmfbjmpkaa.HRowsI
end
