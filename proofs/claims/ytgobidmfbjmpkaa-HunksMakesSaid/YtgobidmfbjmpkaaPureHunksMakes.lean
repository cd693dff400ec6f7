/- HunksMakes in plain words: hunks of the shortest script make the other list; those of it turned make what was there. -/
import Derived.Test.YtgobidmfbjmpkaaPxf8
import Derived.Test.YtgobidmfbjmpkaaGFo
set_option linter.unusedVariables false
set_option linter.unusedSimpArgs false
namespace Go.Proofs.Ytgobidmfbjmpkaa.Pure
open Go Go.RowKit Go.Proofs.Ytgobidmfbjmpkaa.P Go.Proofs.YtgobidmfbjmpkaaW.PrintWords Go.Proofs.YtgobidmfbjmpkaaW.PrintLast Go.Proofs.YtgobidmfbjmpkaaW.PrintMore Go.Proofs.Ytgobidmfbjmpkaa.Q
/-- The first edit keeps, or there is none. -/
def KF (t : List EdS) : Prop := ∀ x s, t = x :: s → x.f0 = 1
/-- A script turned about. -/
inductive Inv : List EdS → List ByteArray → List EdS → Prop
 | nil : Inv [] [] []
 | keep {n : Int} {t r : List EdS} {a : List ByteArray} : Inv t (a.drop n.toNat) r → Inv (⟨1, n, []⟩ :: t) a (⟨1, n, []⟩ :: r)
 | both {n m : Int} {l : List ByteArray} {t r : List EdS} {a : List ByteArray} : KF t → Inv t (a.drop n.toNat) r → Inv (⟨2, n, []⟩ :: ⟨3, m, l⟩ :: t) a (⟨2, m, []⟩ :: ⟨3, n, a.take n.toNat⟩ :: r)
 | cut {n : Int} {t r : List EdS} {a : List ByteArray} : KF t → Inv t (a.drop n.toNat) r → Inv (⟨2, n, []⟩ :: t) a (⟨3, n, a.take n.toNat⟩ :: r)
 | add {m : Int} {l : List ByteArray} {t r : List EdS} {a : List ByteArray} : KF t → Inv t a r → Inv (⟨3, m, l⟩ :: t) a (⟨2, m, []⟩ :: r)
theorem kf_after {x : EdS} {t : List EdS} (hf : Fit (x :: t)) (hc : Chn (x :: t)) (hx : x.f0 = 3 ∨ (x.f0 = 2 ∧ ∀ y s, t = y :: s → y.f0 ≠ 3)) : KF t := by
 intro y s h
 subst h
 have h1 := (fit_head (fit_tail hf)).2.2.1
 have h2 : After x y := hc.1
 unfold After at h2
 rcases hx with hx | ⟨hx, h3⟩
 ·have h4 : y.f0 ≠ 2 := fun e => h2.2 ⟨hx, e⟩
  have h5 : y.f0 ≠ 3 := fun e => h2.1 (hx.trans e.symm)
  omega
 ·have h4 := h3 y s rfl
  have h5 : y.f0 ≠ 2 := fun e => h2.1 (hx.trans e.symm)
  omega
theorem chn_tl {x : EdS} {t : List EdS} (h : Chn (x :: t)) : Chn t := chn_suf [x] h
theorem inv_ex : ∀ (k : Nat) (t : List EdS) (a : List ByteArray), t.length ≤ k → Fit t → Chn t → takes t = (a.length : Int) → ∃ r, Inv t a r := by
 intro k
 induction k with
 | zero =>
  intro t a hk hf hc ht
  obtain rfl := List.eq_nil_of_length_eq_zero (Nat.le_zero.1 hk)
  obtain rfl : a = [] := List.eq_nil_of_length_eq_zero (by simp only [takes] at ht; omega)
  exact ⟨[], .nil⟩
 | succ k ih =>
  intro t a hk hf hc ht
  cases t with
  | nil =>
   obtain rfl : a = [] := List.eq_nil_of_length_eq_zero (by simp only [takes] at ht; omega)
   exact ⟨[], .nil⟩
  | cons x t =>
   obtain ⟨f1, f2, f3, f4, f5⟩ := fit_head hf
   have hb := (spans_bd (fit_tail hf)).1
   rw [List.length_cons] at hk
   obtain ⟨op, n, ls⟩ := x
   simp only at f1 f2 f3 f4 f5
   rw [takes] at ht
   simp only at ht
   by_cases c3 : op = 3
   ·subst c3
    rw [if_pos rfl] at ht
    obtain ⟨r, hr⟩ := ih t a (by omega) (fit_tail hf) (chn_tl hc) (by omega)
    exact ⟨_, .add (kf_after hf hc (.inl rfl)) hr⟩
   ·have hls := f5 c3
    subst hls
    rw [if_neg c3] at ht
    have hd : ((a.drop n.toNat).length : Int) = a.length - n := by rw [List.length_drop]; omega
    by_cases c1 : op = 1
    ·subst c1
     obtain ⟨r, hr⟩ := ih t (a.drop n.toNat) (by omega) (fit_tail hf) (chn_tl hc) (by omega)
     exact ⟨_, .keep hr⟩
    ·obtain rfl : op = 2 := by omega
     by_cases h3 : ∃ y s, t = y :: s ∧ y.f0 = 3
     ·obtain ⟨y, s, rfl, hy⟩ := h3
      obtain ⟨op', m, l⟩ := y
      simp only at hy
      subst hy
      rw [takes, if_pos rfl] at ht
      rw [List.length_cons] at hk
      obtain ⟨r, hr⟩ := ih s (a.drop n.toNat) (by omega) (fit_tail (fit_tail hf)) (chn_tl (chn_tl hc)) (by omega)
      exact ⟨_, .both (kf_after (fit_tail hf) (chn_tl hc) (.inl rfl)) hr⟩
     ·obtain ⟨r, hr⟩ := ih t (a.drop n.toNat) (by omega) (fit_tail hf) (chn_tl hc) (by omega)
      exact ⟨_, .cut (kf_after hf hc (.inr ⟨rfl, fun y s e hy => h3 ⟨y, s, e, hy⟩⟩)) hr⟩
theorem inv_hd {t : List EdS} {a : List ByteArray} {r : List EdS} (h : Inv t a r) : (t = [] ↔ r = []) ∧ (KF t ↔ KF r) := by
 cases h with
 | nil => exact ⟨Iff.rfl, Iff.rfl⟩
 | keep _ => exact ⟨by simp, by simp [KF]⟩
 | both _ _ => exact ⟨by simp, by simp [KF]⟩
 | cut _ _ => exact ⟨by simp, by simp [KF]⟩
 | add _ _ => exact ⟨by simp, by simp [KF]⟩
/-- Whoever adds next has nothing added ahead. -/
def LastOk (S t : List EdS) : Prop := (∃ x s, t = x :: s ∧ x.f0 = 3) → ∀ S0 y, S = S0 ++ [y] → y.f0 ≠ 3
theorem lastOk_kf {S t : List EdS} (h : KF t) : LastOk S t := fun ⟨x, s, e, h3⟩ => by
 have := h x s e
 omega
theorem putCut_ok {S : List EdS} (c : EdS) (h : ∀ S0 y, S = S0 ++ [y] → y.f0 ≠ 3) : putCut S c = S ++ [c] := by
 rcases List.eq_nil_or_concat S with rfl | ⟨S0, y, rfl⟩
 ·rfl
 ·rw [List.concat_eq_append] at h ⊢
  rw [putCut_snoc, if_neg (h S0 y rfl)]
theorem inv_eq {t : List EdS} {a : List ByteArray} {r : List EdS} (h : Inv t a r) : ∀ S, Fit t → takes t = (a.length : Int) → LastOk S t → invL t S a = some (S ++ r) := by
 induction h with
 | nil => intro S _ _ _; simp [invL]
 | @keep n t r a hI ih =>
  intro S hf ht hS
  obtain ⟨f1, f2, f3, f4, f5⟩ := fit_head hf
  have hb := (spans_bd (fit_tail hf)).1
  simp only at f1 f2
  rw [takes, if_neg (by simp)] at ht
  simp only at ht
  rw [invL, if_pos rfl, if_pos ⟨by simp only; omega, by simp only; omega⟩, ih _ (fit_tail hf) (by rw [List.length_drop]; omega) (fun _ S0 y e => by
   have := (List.append_inj' e rfl).2
   injection this with this
   rw [← this]; simp)]
  simp
 | @both n m l t r a hk hI ih =>
  intro S hf ht hS
  obtain ⟨f1, f2, f3, f4, f5⟩ := fit_head hf
  obtain ⟨g1, g2, g3, g4, g5⟩ := fit_head (fit_tail hf)
  have hb := (spans_bd (fit_tail (fit_tail hf))).1
  simp only at f1 f2
  rw [takes, if_neg (by simp), takes, if_pos rfl] at ht
  simp only at ht
  rw [invL, if_neg (by simp), if_pos rfl, if_pos ⟨by simp only; omega, by simp only; omega⟩, invL, if_neg (by simp), if_neg (by simp), putCut_snoc, if_pos rfl, ih _ (fit_tail (fit_tail hf)) (by rw [List.length_drop]; omega) (lastOk_kf hk)]
  simp
 | @cut n t r a hk hI ih =>
  intro S hf ht hS
  obtain ⟨f1, f2, f3, f4, f5⟩ := fit_head hf
  have hb := (spans_bd (fit_tail hf)).1
  simp only at f1 f2
  rw [takes, if_neg (by simp)] at ht
  simp only at ht
  rw [invL, if_neg (by simp), if_pos rfl, if_pos ⟨by simp only; omega, by simp only; omega⟩, ih _ (fit_tail hf) (by rw [List.length_drop]; omega) (lastOk_kf hk)]
  simp
 | @add m l t r a hk hI ih =>
  intro S hf ht hS
  rw [takes, if_pos rfl, Int.zero_add] at ht
  rw [invL, if_neg (by simp), if_neg (by simp), putCut_ok _ (hS ⟨_, _, rfl, rfl⟩), ih _ (fit_tail hf) ht (lastOk_kf hk)]
  simp
theorem fit_cons {x : EdS} {s : List EdS} (h : May x ∧ x.f1 ≤ 1048576) (hs : Fit s) : Fit (x :: s) := fun y hy => by
 rcases List.mem_cons.1 hy with rfl | hy
 ·exact h
 ·exact hs y hy
theorem chn_put {x : EdS} {s : List EdS} (hx : x.f0 ≠ 1) (h : KF s) (hs : Chn s) : Chn (x :: s) := by
 cases s with
 | nil => trivial
 | cons y s =>
  have h1 := h y s rfl
  exact ⟨⟨fun e => hx (e.trans h1), fun e => by have := e.2; omega⟩, hs⟩
theorem chn_kp {x : EdS} {s : List EdS} (hx : x.f0 = 1) (h : ∀ y t, s = y :: t → y.f0 ≠ 1) (hs : Chn s) : Chn (x :: s) := by
 cases s with
 | nil => trivial
 | cons y s =>
  have h1 := h y s rfl
  exact ⟨⟨fun e => h1 (e.symm.trans hx), fun e => by have := e.1; omega⟩, hs⟩
theorem inv_ok {t : List EdS} {a : List ByteArray} {r : List EdS} (h : Inv t a r) : Fit t → Chn t → takes t = (a.length : Int) → Fit r ∧ Chn r ∧ takes r = makes t ∧ makes r = (a.length : Int) ∧ appl r (appl t a) = a := by
 induction h with
 | nil => intro _ _ _; exact ⟨fun x hx => (by cases hx), trivial, rfl, rfl, rfl⟩
 | @keep n t r a hI ih =>
  intro hf hc ht
  obtain ⟨f1, f2, _, _, _⟩ := fit_head hf
  have hb := (spans_bd (fit_tail hf)).1
  simp only at f1 f2
  rw [takes, if_neg (by simp)] at ht
  simp only at ht
  obtain ⟨i1, i2, i3, i4, i5⟩ := ih (fit_tail hf) (chn_tl hc) (by rw [List.length_drop]; omega)
  have hh := inv_hd hI
  refine ⟨fit_cons ⟨⟨f1, .inl ⟨.inl rfl, rfl⟩⟩, f2⟩ i1, chn_kp rfl (fun y s e => ?_) i2, ?_, ?_, ?_⟩
  ·intro h1
   have h2 : KF r := fun z s' e' => by rw [e] at e'; injection e' with e1 _; rw [← e1]; exact h1
   have h3 := hh.2.2 h2
   cases t with
   | nil => have := hh.1.1 rfl; rw [e] at this; cases this
   | cons z t =>
    have := h3 z t rfl
    have h5 : After _ z := hc.1
    exact h5.1 this.symm
  ·rw [takes, makes, if_neg (by simp), if_neg (by simp), i3]
  ·rw [makes, if_neg (by simp), i4, List.length_drop]
   simp only
   omega
  ·have hlt : (a.take n.toNat).length = n.toNat := by rw [List.length_take]; omega
   rw [appl, if_pos rfl, appl, if_pos rfl]
   simp only
   rw [List.take_left' hlt, List.drop_left' hlt, i5, List.take_append_drop]
 | @both n m l t r a hk hI ih =>
  intro hf hc ht
  obtain ⟨f1, f2, _, _, _⟩ := fit_head hf
  obtain ⟨g1, g2, g3, g4, g5⟩ := fit_head (fit_tail hf)
  have hb := (spans_bd (fit_tail (fit_tail hf))).1
  simp only at f1 f2 g1 g2
  have hlm : (l.length : Int) = m := g4 rfl
  rw [takes, if_neg (by simp), takes, if_pos rfl] at ht
  simp only at ht
  obtain ⟨i1, i2, i3, i4, i5⟩ := ih (fit_tail (fit_tail hf)) (chn_tl (chn_tl hc)) (by rw [List.length_drop]; omega)
  have hkr := (inv_hd hI).2.1 hk
  have hlt : (a.take n.toNat).length = n.toNat := by rw [List.length_take]; omega
  refine ⟨fit_cons ⟨⟨g1, .inl ⟨.inr rfl, rfl⟩⟩, g2⟩ (fit_cons ⟨⟨f1, .inr ⟨rfl, by show ((a.take n.toNat).length : Int) = n; omega⟩⟩, f2⟩ i1), ⟨⟨by simp, by simp⟩, chn_put (by simp) hkr i2⟩, ?_, ?_, ?_⟩
  ·rw [takes, if_neg (by simp), takes, if_pos rfl, makes, if_pos rfl, makes, if_neg (by simp), i3]
   simp only
   omega
  ·rw [makes, if_pos rfl, makes, if_neg (by simp), i4, List.length_drop]
   simp only
   omega
  ·have hml : l.length = m.toNat := by omega
   rw [appl, if_neg (by simp), if_pos rfl, appl, if_neg (by simp), if_neg (by simp), appl, if_neg (by simp), if_pos rfl, appl, if_neg (by simp), if_neg (by simp)]
   simp only
   rw [List.drop_left' hml, i5, List.take_append_drop]
 | @cut n t r a hk hI ih =>
  intro hf hc ht
  obtain ⟨f1, f2, _, _, _⟩ := fit_head hf
  have hb := (spans_bd (fit_tail hf)).1
  simp only at f1 f2
  rw [takes, if_neg (by simp)] at ht
  simp only at ht
  obtain ⟨i1, i2, i3, i4, i5⟩ := ih (fit_tail hf) (chn_tl hc) (by rw [List.length_drop]; omega)
  have hkr := (inv_hd hI).2.1 hk
  have hlt : (a.take n.toNat).length = n.toNat := by rw [List.length_take]; omega
  refine ⟨fit_cons ⟨⟨f1, .inr ⟨rfl, by show ((a.take n.toNat).length : Int) = n; omega⟩⟩, f2⟩ i1, chn_put (by simp) hkr i2, ?_, ?_, ?_⟩
  ·rw [takes, if_pos rfl, makes, if_pos rfl, i3]
  ·rw [makes, if_neg (by simp), i4, List.length_drop]
   simp only
   omega
  ·rw [appl, if_neg (by simp), if_neg (by simp), appl, if_neg (by simp), if_pos rfl]
   simp only
   rw [i5, List.take_append_drop]
 | @add m l t r a hk hI ih =>
  intro hf hc ht
  obtain ⟨g1, g2, g3, g4, g5⟩ := fit_head hf
  simp only at g1 g2
  have hlm : (l.length : Int) = m := g4 rfl
  rw [takes, if_pos rfl, Int.zero_add] at ht
  obtain ⟨i1, i2, i3, i4, i5⟩ := ih (fit_tail hf) (chn_tl hc) ht
  have hkr := (inv_hd hI).2.1 hk
  refine ⟨fit_cons ⟨⟨g1, .inl ⟨.inr rfl, rfl⟩⟩, g2⟩ i1, chn_put (by simp) hkr i2, ?_, ?_, ?_⟩
  ·rw [takes, if_neg (by simp), makes, if_neg (by simp), i3]
  ·rw [makes, if_pos rfl, i4, Int.zero_add]
  ·have hml : l.length = m.toNat := by omega
   rw [appl, if_neg (by simp), if_pos rfl, appl, if_neg (by simp), if_neg (by simp)]
   simp only
   rw [List.drop_left' hml, i5]
/-- Where the hunks stand, on either side. -/
def sides (h : List HkS) : List (Int × Int) := h.map fun x => (x.f0, x.f1)
def turned (h : List HkS) : List (Int × Int) := h.map fun x => (x.f1, x.f0)
theorem inv_made (c : Int) {t : List EdS} {a : List ByteArray} {r : List EdS} (h : Inv t a r) : (∀ p q ah : Int, turned (mk0 c r q p ah) = sides (mk0 c t p q ah)) ∧ (∀ (p q F T : Int) (E E' : List EdS), turned (Q.mk1 c r q p T F E') = sides (Q.mk1 c t p q F T E)) := by
 induction h with
 | nil => exact ⟨fun p q ah => by simp [mk0, turned, sides], fun p q F T E E' => by simp [Q.mk1, turned, sides]⟩
 | @keep n t r a hI ih =>
  have hh := (inv_hd hI).1
  refine ⟨fun p q ah => ?_, fun p q F T E E' => ?_⟩
  ·rw [mk0, if_pos rfl, mk0, if_pos rfl]
   exact ih.1 _ _ _
  ·by_cases k1 : n > 2 * c ∨ t = []
   ·rw [Q.mk1, if_pos ⟨rfl, k1.imp id hh.1⟩, Q.mk1, if_pos ⟨rfl, k1⟩]
    have h1 := ih.1 (adv1 p ⟨1, n, []⟩) (adv2 q ⟨1, n, []⟩) (mn n c)
    unfold turned sides at h1 ⊢
    rw [List.map_cons, List.map_cons]
    exact congrArg _ h1
   ·rw [Q.mk1, if_neg (fun h => k1 (h.2.imp id hh.2)), Q.mk1, if_neg (fun h => k1 h.2)]
    exact ih.2 _ _ _ _ _ _
 | @both n m l t r a hk hI ih =>
  have e1 : ∀ q : Int, adv1 (adv1 q ⟨2, m, []⟩) ⟨3, n, a.take n.toNat⟩ = adv2 (adv2 q ⟨2, n, []⟩) ⟨3, m, l⟩ := fun q => by simp [adv1, adv2]
  have e2 : ∀ p : Int, adv2 (adv2 p ⟨2, m, []⟩) ⟨3, n, a.take n.toNat⟩ = adv1 (adv1 p ⟨2, n, []⟩) ⟨3, m, l⟩ := fun p => by simp [adv1, adv2]
  refine ⟨fun p q ah => ?_, fun p q F T E E' => ?_⟩
  ·rw [mk0, if_neg (by simp), Q.mk1, if_neg (fun h => absurd h.1 (by simp)), mk0, if_neg (by simp), Q.mk1, if_neg (fun h => absurd h.1 (by simp)), e1, e2]
   exact ih.2 _ _ _ _ _ _
  ·rw [Q.mk1, if_neg (fun h => absurd h.1 (by simp)), Q.mk1, if_neg (fun h => absurd h.1 (by simp)), Q.mk1, if_neg (fun h => absurd h.1 (by simp)), Q.mk1, if_neg (fun h => absurd h.1 (by simp)), e1, e2]
   exact ih.2 _ _ _ _ _ _
 | @cut n t r a hk hI ih =>
  have e1 : ∀ q : Int, adv1 q ⟨3, n, a.take n.toNat⟩ = adv2 q ⟨2, n, []⟩ := fun q => by simp [adv1, adv2]
  have e2 : ∀ p : Int, adv2 p ⟨3, n, a.take n.toNat⟩ = adv1 p ⟨2, n, []⟩ := fun p => by simp [adv1, adv2]
  refine ⟨fun p q ah => ?_, fun p q F T E E' => ?_⟩
  ·rw [mk0, if_neg (by simp), mk0, if_neg (by simp), e1, e2]
   exact ih.2 _ _ _ _ _ _
  ·rw [Q.mk1, if_neg (fun h => absurd h.1 (by simp)), Q.mk1, if_neg (fun h => absurd h.1 (by simp)), e1, e2]
   exact ih.2 _ _ _ _ _ _
 | @add m l t r a hk hI ih =>
  have e1 : ∀ q : Int, adv1 q ⟨2, m, []⟩ = adv2 q ⟨3, m, l⟩ := fun q => by simp [adv1, adv2]
  have e2 : ∀ p : Int, adv2 p ⟨2, m, []⟩ = adv1 p ⟨3, m, l⟩ := fun p => by simp [adv1, adv2]
  refine ⟨fun p q ah => ?_, fun p q F T E E' => ?_⟩
  ·rw [mk0, if_neg (by simp), mk0, if_neg (by simp), e1, e2]
   exact ih.2 _ _ _ _ _ _
  ·rw [Q.mk1, if_neg (fun h => absurd h.1 (by simp)), Q.mk1, if_neg (fun h => absurd h.1 (by simp)), e1, e2]
   exact ih.2 _ _ _ _ _ _
theorem wt_fit {s : List EdS} (h : Fit s) : (wt s : Int) ≤ 3 * (takes s + makes s) := by
 induction s with
 | nil => simp [wt_nil, takes, makes]
 | cons x s ih =>
  have h1 := ih (fit_tail h)
  obtain ⟨f1, f2, f3, f4, f5⟩ := fit_head h
  rw [wt_cons, takes, makes]
  unfold wt1
  by_cases c3 : x.f0 = 3
  ·have := f4 c3
   rw [if_pos c3, if_neg (by omega)]
   omega
  ·rw [f5 c3, List.length_nil, if_neg c3]
   split <;> omega
/-- What Make, Script and Apply answer of a right script that is not large. -/
theorem fit_made {s : List EdS} {n : Nat} (hf : Fit s) (hc : Chn s) (ht : takes s = (n : Int)) (hn : n ≤ 100) (hm : makes s ≤ 100) {c : Int} (h0 : 0 ≤ c) (h1 : c ≤ 100) :
  Ev (fun k => hunks_Make.f k s c) (made c s, 0) ∧ Ev (fun k => hunks_Script.f k (made c s) (n : Int)) (s, 0) ∧ s.length ≤ 1000 ∧ (made c s).length ≤ 1000 := by
 have hr : rightB 0 s = true := (right_iff s).2 ⟨hf, hc⟩
 have hR : rightH true 0 0 (made c s) = true := (made_right c h0 h1 s hf).1 0 0 0 true 0 0 hc (Int.le_refl _) h0 (fun _ => ⟨by omega, rfl⟩) (by rw [ht]; omega)
 obtain ⟨l1, l2⟩ := (made_wt c h0 s hf).1 0 0 0 (Int.le_refl _) h0
 have hw := wt_fit hf
 have hl := wt_len s
 have hwt : ∀ x ∈ made c s, wt x.f2 ≤ 1000 := fun x hx => by have := l2 x hx; omega
 have hto := (made_to c h0 s hf).1 0 0 0 (Int.le_refl _) h0
 have hl2 : (made c s).length ≤ 1000 := Nat.le_trans l1 (by omega)
 have hsm : ∀ x ∈ made c s, x.f2.length ≤ 1000 := fun x hx => by have := hwt x hx; have := wt_len x.f2; omega
 have hok : ∀ x ∈ made c s, (0 ≤ x.f0 ∧ x.f0 ≤ 2000000) ∧ rightB 0 x.f2 = true ∧ wt x.f2 ≤ 1000000 := fun x hx => by
  obtain ⟨g1, g2, g3, g4⟩ := right_mem hR x hx
  exact ⟨⟨g3, by omega⟩, g1, by have := hwt x hx; omega⟩
 have hRE : Ev (fun k => hunks_Right.f k (made c s)) true := by
  have := rightH_ev (made c s) (by omega) (fun x hx => ⟨by have := hsm x hx; omega, by have := (right_mem hR x hx).2.2; omega, by have := hto x hx; omega⟩)
  rw [hR] at this
  exact this
 have hend : endH (made c s) 0 ≤ takes s := by
  have := (made_end c h0 s hf).1 0 0 0 0 (Int.le_refl _) (Int.le_refl _)
  rw [Int.zero_add] at this
  exact this
 refine ⟨make_ev s (by omega) hr c h0 h1, ?_, by omega, hl2⟩
 have hs := script_ok hRE hok (by omega) (n := (n : Int)) (by omega) (by omega) (by rw [← ht]; exact hend)
 have hb := (back c h0 s hf).1 0 0 0 [] 0 (Int.le_refl _) (Int.le_refl _) (fun _ => by omega)
 rw [Int.zero_add, ht, joinL_app] at hb
 have hs2 : joinL (joinL [] (flatH (made c s) 0)) (kpL ((n : Int) - endH (made c s) 0)) = s := by
  refine hb.trans ?_
  rw [show (0 : Int) - 0 = 0 by omega, kpL_neg (n := 0) (by omega), joinL_nil, join_chn s [] (by rw [List.nil_append]; exact hc), List.nil_append]
 rw [hs2] at hs
 exact hs
theorem made_apply {s : List EdS} {a : List ByteArray} (hf : Fit s) (hc : Chn s) (ht : takes s = (a.length : Int)) (hs : s.length ≤ 1000) {h : List HkS} (hS : Ev (fun k => hunks_Script.f k h (a.length : Int)) (s, 0)) : Ev (fun k => hunks_Apply.f k h a) (appl s a, 0) := by
 unfold hunks_Apply.f
 refine Ev.bind hS (evpos (by trivial) ?_)
 exact Ev.bind (apply_ev s a (by omega) ((right_iff s).2 ⟨hf, hc⟩) ht) (Ev.now _)
theorem texts_same_ (a : List ByteArray) (ha : a.length ≤ 1000000) (t : List ByteArray) : ∀ i : Nat, a.drop i = t → Ev (fun k => collatorref01_Texts.l0 k a a (i : Int)) true := by
 induction t with
 | nil =>
  intro i hd
  have := drop_nil hd
  refine Ev.step (f := fun _ => some true) (fun k => ?_) (Ev.now _)
  simp only [collatorref01_Texts.l0]
  rw [if_neg (by omega)]
 | cons x t ih =>
  intro i hd
  obtain ⟨hi, hx, hd'⟩ := drop_cons hd
  refine Ev.step (f := fun k => _) (fun k => by simp only [collatorref01_Texts.l0]; rfl) ?_
  refine evpos (by omega) (evpos (by omega) (evpos (by omega) (evpos (by trivial) ?_)))
  simp only [wi (i := i) (by omega)]
  exact ih (i + 1) hd'
theorem texts_self_ (a : List ByteArray) (ha : a.length ≤ 1000000) : Ev (fun k => collatorref01_Texts.f k a a) true := by
 unfold collatorref01_Texts.f
 simp only [if_pos (rfl : (a.length : Int) = (a.length : Int))]
 exact texts_same_ a ha a 0 rfl
theorem makes_loop {A B : List ByteArray} (hA : A.length ≤ 100) (hB : B.length ≤ 100) {h k' : List HkS} (hl : h.length ≤ 1000) (he : turned k' = sides h) (t : List HkS) : ∀ i : Nat, h.drop i = t → Ev (fun k => collatorlaw06_HunksMakes.l0 k true A B h B k' A (i : Int)) true := by
 have hlen : k'.length = h.length := by have := congrArg List.length he; simpa [turned, sides] using this
 induction t with
 | nil =>
  intro i hd
  have := drop_nil hd
  refine Ev.step (f := fun k => _) (fun k => by simp only [collatorlaw06_HunksMakes.l0]; rfl) ?_
  refine evneg (by omega) (evpos (by trivial) ?_)
  refine Ev.bind (texts_self_ B (by omega)) (evpos (by trivial) ?_)
  exact Ev.bind (texts_self_ A (by omega)) (Ev.now _)
 | cons x t ih =>
  intro i hd
  obtain ⟨hi, hx, hd'⟩ := drop_cons hd
  obtain ⟨y, hy⟩ : ∃ y, k'[i]? = some y := ⟨k'[i], List.getElem?_eq_getElem (by omega)⟩
  have e1 : (turned k')[i]? = some (y.f1, y.f0) := by unfold turned; rw [List.getElem?_map, hy]; rfl
  have e2 : (sides h)[i]? = some (x.f0, x.f1) := by unfold sides; rw [List.getElem?_map, hx]; rfl
  rw [he, e2] at e1
  injection e1 with e1
  injection e1 with e3 e4
  refine Ev.step (f := fun k => _) (fun k => by simp only [collatorlaw06_HunksMakes.l0]; rfl) ?_
  refine evpos (by omega) (evpos (by omega) (evpos (by omega) ?_))
  simp only [rdH hx, rdH hy, wi (i := i) (by omega)]
  refine evpos e3 (evpos e4 ?_)
  exact ih (i + 1) hd'
theorem HunksMakes : collatorlaw06_HunksMakes.Pure := by
 intro l0 l1 c0 hm0 hr0 hw0 hm1 hr1 hw1 hc
 unfold maxLen at hm0 hm1
 obtain ⟨A, hA, fA, lA⟩ := lines_ev l0 hw0 (by omega) 40 (by omega)
 obtain ⟨B, hB, fB, lB⟩ := lines_ev l1 hw1 (by omega) 40 (by omega)
 have kA := fA.le
 have kB := fB.le
 clear hm0 hr0 hw0 hm1 hr1 hw1 lA lB fA fB
 have hp := pk_lt c0 (n := 9) (by omega)
 obtain ⟨h1, h2, h3⟩ := steps_ok A B
 have hb := script_bd A B
 have hf : Fit (script A B) := fun x hx => ⟨h2 x hx, by have := hb.2 x hx; omega⟩
 have hd : doSteps (expd (script A B)) A = some B := by rw [h1]; exact pth_makes A B
 obtain ⟨ht, hap⟩ := do_appl hf hd
 have hD : myers_Diff.f A B = some (script A B) := by unfold myers_Diff.f; rw [if_pos ⟨by omega, by omega⟩]
 have hmk : makes (script A B) = (B.length : Int) := by have := takes_appl hf ht; rw [hap] at this; omega
 generalize script A B = d at *
 obtain ⟨r, hI⟩ := inv_ex d.length d A (Nat.le_refl _) hf h3 ht
 obtain ⟨i1, i2, i3, i4, i5⟩ := inv_ok hI hf h3 ht
 rw [hap] at i5
 have hinv := inv_eq hI [] hf ht (fun _ S0 y e => by simp at e)
 rw [List.nil_append] at hinv
 have hs0 : (0 : Int) ≤ (pk c0 9 : Int) := by omega
 have hs1 : (pk c0 9 : Int) ≤ 100 := by omega
 obtain ⟨m1, m2, m3, m4⟩ := fit_made hf h3 ht (by omega) (by omega) hs0 hs1
 obtain ⟨n1, n2, n3, n4⟩ := fit_made i1 i2 (i3.trans hmk) (by omega) (by omega) hs0 hs1
 have hsd : turned (made (pk c0 9 : Int) r) = sides (made (pk c0 9 : Int) d) := (inv_made _ hI).1 0 0 0
 have a1 := made_apply hf h3 ht m3 m2
 have a2 := made_apply i1 i2 (i3.trans hmk) n3 n2
 rw [hap] at a1
 rw [i5] at a2
 have hdr := (right_iff d).2 ⟨hf, h3⟩
 have hiv : Ev (fun k => script_Invert.f k d A) (r, 0) := by
  unfold script_Invert.f
  refine evpos (show d.length ≤ 1000000 ∧ A.length ≤ 1000000000 by omega) ?_
  have hfit := fits_ev d A (by omega) hdr
  rw [if_pos ht] at hfit
  refine Ev.bind hfit ?_
  simp only [if_true, hinv, Option.bind_some]
  exact Ev.now _
 have hlen : (made (pk c0 9 : Int) r).length = (made (pk c0 9 : Int) d).length := by have := congrArg List.length hsd; simpa [turned, sides] using this
 refine Ev.rounds (g := fun k => collatorlaw06_HunksMakes.f k l0 l1 c0) ?_
 unfold collatorlaw06_HunksMakes.f
 show Ev (fun k => (collatorlaw06_awake.f).bind fun t => _) true
 refine evval (show collatorlaw06_awake.f = some true from rfl) ?_
 refine Ev.bind hA ?_
 refine Ev.bind hB ?_
 refine evval hD ?_
 refine evval (pick6 (m := 9) (n := 9) (wf_range hc) rfl (by omega)) ?_
 refine Ev.bind m1 ?_
 refine Ev.bind a1 ?_
 refine Ev.bind hiv ?_
 refine Ev.bind n1 ?_
 refine Ev.bind a2 ?_
 refine evpos (by trivial) (evpos (by trivial) (evpos (by trivial) (evpos (by trivial) (evpos (by trivial) ?_))))
 refine Ev.step (f := fun k => _) (fun k => by simp only [collatorlaw06_HunksMakes.j0]; rfl) ?_
 refine evneg (by simp [hlen]) ?_
 exact makes_loop (by omega) (by omega) m4 hsd _ 0 rfl
end Go.Proofs.Ytgobidmfbjmpkaa.Pure
