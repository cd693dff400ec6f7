/- HunksContext in plain words: how many lines stand around each hunk; with more context there are no more hunks. -/
import Derived.Test.YtgobidmfbjmpkaaPxf6
import Derived.Test.YtgobidmfbjmpkaaGHq
set_option linter.unusedVariables false
set_option linter.unusedSimpArgs false
namespace Go.Proofs.Ytgobidmfbjmpkaa.Pure
open Go Go.RowKit Go.Proofs.Ytgobidmfbjmpkaa.P Go.Proofs.YtgobidmfbjmpkaaW.PrintWords Go.Proofs.YtgobidmfbjmpkaaW.PrintLast Go.Proofs.YtgobidmfbjmpkaaW.PrintMore Go.Proofs.Ytgobidmfbjmpkaa.Q
theorem fewer (c c2 : Int) (hc : c ≤ c2) (t : List EdS) :
  (∀ (p q a p' q' a' : Int), (mk0 c2 t p q a).length ≤ (mk0 c t p' q' a').length) ∧
  (∀ (p q F T p' q' F' T' : Int) (E E' : List EdS), (Q.mk1 c2 t p q F T E).length ≤ (Q.mk1 c t p' q' F' T' E').length) ∧
  (∀ (p q F T p' q' a' : Int) (E : List EdS), (Q.mk1 c2 t p q F T E).length ≤ 1 + (mk0 c t p' q' a').length) := by
 induction t with
 | nil => exact ⟨fun _ _ _ _ _ _ => Nat.le_refl _, fun _ _ _ _ _ _ _ _ _ _ => Nat.le_refl _, fun _ _ _ _ _ _ _ _ => Nat.le_refl _⟩
 | cons x t ih =>
  obtain ⟨i0, i1, i2⟩ := ih
  refine ⟨fun p q a p' q' a' => ?_, fun p q F T p' q' F' T' E E' => ?_, fun p q F T p' q' a' E => ?_⟩
  ·rw [mk0, mk0]
   split
   ·exact i0 _ _ _ _ _ _
   ·exact i1 _ _ _ _ _ _ _ _ _ _
  ·rw [Q.mk1, Q.mk1]
   by_cases k2 : x.f0 = 1 ∧ (x.f1 > 2 * c2 ∨ t = [])
   ·have k1 : x.f0 = 1 ∧ (x.f1 > 2 * c ∨ t = []) := ⟨k2.1, k2.2.imp (fun h => by omega) id⟩
    rw [if_pos k2, if_pos k1, List.length_cons, List.length_cons]
    exact Nat.succ_le_succ (i0 _ _ _ _ _ _)
   ·rw [if_neg k2]
    by_cases k1 : x.f0 = 1 ∧ (x.f1 > 2 * c ∨ t = [])
    ·rw [if_pos k1, List.length_cons, Nat.add_comm]
     exact i2 _ _ _ _ _ _ _ _
    ·rw [if_neg k1]
     exact i1 _ _ _ _ _ _ _ _ _ _
  ·rw [Q.mk1, mk0]
   by_cases k2 : x.f0 = 1 ∧ (x.f1 > 2 * c2 ∨ t = [])
   ·rw [if_pos k2, if_pos k2.1, List.length_cons, Nat.add_comm]
    exact Nat.add_le_add_left (i0 _ _ _ _ _ _) 1
   ·rw [if_neg k2]
    split
    ·exact i2 _ _ _ _ _ _ _ _
    ·exact Nat.le_trans (i1 _ _ _ _ _ _ _ _ _ _) (Nat.le_add_left _ _)
theorem mk1_pos (c : Int) (t : List EdS) : ∀ (p q F T : Int) (E : List EdS), 0 < (Q.mk1 c t p q F T E).length := by
 induction t with
 | nil => intro p q F T E; exact Nat.one_pos
 | cons x t ih =>
  intro p q F T E
  rw [Q.mk1]
  split
  ·exact Nat.succ_pos _
  ·exact ih _ _ _ _ _
theorem none_cost (c : Int) (t : List EdS) : Fit t → ∀ (p q a : Int), (mk0 c t p q a).length = 0 ↔ chgs t = 0 := by
 induction t with
 | nil => intro _ p q a; exact ⟨fun _ => rfl, fun _ => rfl⟩
 | cons x t ih =>
  intro hf p q a
  have h1 := (fit_head hf).1
  have h2 := (spans_bd (fit_tail hf)).2.2.2.2.1
  rw [mk0, chgs]
  by_cases k1 : x.f0 = 1
  ·rw [if_pos k1, if_pos k1, Int.zero_add]
   exact ih (fit_tail hf) _ _ _
  ·rw [if_neg k1, if_neg k1]
   have := mk1_pos c t (adv1 p x) (adv2 q x) (p - a) (q - a) (kpL a ++ [x])
   constructor
   ·intro h; omega
   ·intro h; omega
/-- How many lines are kept at the beginning, at the end. -/
def fk (E : List EdS) : Int := if (rd_T31 E 0).f0 = 1 then (rd_T31 E 0).f1 else 0
def lk (E : List EdS) : Int := if (rd_T31 E ((E.length : Int) - 1)).f0 = 1 then (rd_T31 E ((E.length : Int) - 1)).f1 else 0
def CtxP (c N : Int) : Bool → Int → List HkS → Prop
 | _, e, [] => e ≤ N
 | f, e, x :: t => x.f2 ≠ [] ∧ fk x.f2 ≤ c ∧ lk x.f2 ≤ c ∧ ¬ (fk x.f2 < c ∧ x.f0 > e) ∧ (f = false → x.f0 > e) ∧ ¬ (lk x.f2 < c ∧ x.f0 + takes x.f2 < N) ∧ CtxP c N false (x.f0 + takes x.f2) t
theorem fk_head {ah : Int} {y : EdS} {E : List EdS} (h : 0 ≤ ah) (hy : y.f0 ≠ 1) : fk (kpL ah ++ y :: E) = ah := by
 unfold fk
 have r0 : ∀ (z : EdS) (l : List EdS), rd_T31 (z :: l) 0 = z := fun z l => rfl
 by_cases h1 : 1 ≤ ah
 ·rw [kpL_pos h1, List.singleton_append, r0]; rfl
 ·obtain rfl : ah = 0 := by omega
  rw [kpL_neg (n := 0) (by omega), List.nil_append, r0, if_neg hy]
theorem lk_change {E : List EdS} {y : EdS} (hy : y.f0 ≠ 1) : lk (E ++ [y]) = 0 := by unfold lk; rw [rdT_last, if_neg hy]
theorem lk_keep {E : List EdS} {n : Int} : lk (E ++ [⟨1, n, []⟩]) = n := by unfold lk; rw [rdT_last]; rfl
theorem ctx_ok (c : Int) (hc : 0 ≤ c) (t : List EdS) : Fit t →
  (∀ (p q ah e : Int) (f : Bool), Chn t → 0 ≤ ah → ah ≤ c → e ≤ p → (t ≠ [] → (f = true → e = 0 ∧ (ah < c → p = ah)) ∧ (f = false → ah = c ∧ e < p - ah) ∧ (∀ x t', t = x :: t' → x.f0 = 1 → f = true ∧ p = 0)) → CtxP c (p + takes t) f e (mk0 c t p q ah)) ∧
  (∀ (p q F T e : Int) (f : Bool) (ah : Int) (y : EdS) (E : List EdS), Chn (kpL ah ++ y :: E ++ t) → 0 ≤ ah → ah ≤ c → y.f0 ≠ 1 → takes (kpL ah ++ y :: E) = p - F → (∀ x t', t = x :: t' → x.f0 = 1 → lk (kpL ah ++ y :: E) = 0) → (t = [] → lk (kpL ah ++ y :: E) = 0) → ¬ (ah < c ∧ F > e) → (f = false → F > e) → CtxP c (p + takes t) f e (Q.mk1 c t p q F T (kpL ah ++ y :: E))) := by
 induction t with
 | nil =>
  intro _
  refine ⟨fun p q ah e f _ _ _ h _ => by rw [mk0, CtxP, takes]; omega, fun p q F T e f ah y E h1 h2 h3 h4 h5 _ h6 h7 h8 => ?_⟩
  rw [Q.mk1]
  have hl := h6 rfl
  refine ⟨by simp, by show fk (kpL ah ++ y :: E) ≤ c; rw [fk_head h2 h4]; exact h3, by show lk (kpL ah ++ y :: E) ≤ c; rw [hl]; exact hc, by show ¬ (fk (kpL ah ++ y :: E) < c ∧ F > e); rw [fk_head h2 h4]; exact h7, h8, ?_, ?_⟩
  ·show ¬ (_ ∧ F + takes (kpL ah ++ y :: E) < _)
   rw [h5, takes]; omega
  ·show F + takes (kpL ah ++ y :: E) ≤ _
   rw [h5, takes]; omega
 | cons x t ih =>
  intro hf
  obtain ⟨ih0, ih1⟩ := ih (fit_tail hf)
  refine ⟨fun p q ah e f h1 h2 h3 h4 h5 => ?_, fun p q F T e f ah y E h1 h2 h3 h4 h5 h6 h6' h7 h8 => ?_⟩
  ·obtain ⟨g1, g2, g3⟩ := h5 (by simp)
   rw [takes_one]
   by_cases k1 : x.f0 = 1
   ·obtain ⟨n1, n2, n3, n4⟩ := keep_is hf k1
    obtain ⟨m1, m2, m3, m4⟩ := mn_of (n := x.f1) (by omega) hc
    obtain ⟨rfl, rfl⟩ := g3 x t rfl k1
    rw [mk0, if_pos k1, n3, n4]
    have he := (g1 rfl).1
    refine ih0 _ _ _ e true (chn_suf [x] h1) m1 m3 (by omega) (fun ht => ⟨fun _ => ⟨he, fun hm => by omega⟩, fun h => Bool.noConfusion h, fun z t' hz hk => ?_⟩)
    subst hz
    exact absurd (k1.trans hk.symm) h1.1.1
   ·rw [mk0, if_neg k1]
    refine ih1 _ _ _ _ e f ah x [] ?_ h2 h3 k1 ?_ ?_ (fun _ => lk_change k1) ?_ (fun hh => (g2 hh).2)
    ·rw [List.append_assoc]; exact chn_keep (m := 0) k1 h1
    ·exact adv1_app _ _ (by rw [(kp_takes h2).1]; omega)
    ·intro z t' hz hk; exact lk_change k1
    ·intro hh
     cases f with
     | true => obtain ⟨he, hp⟩ := g1 rfl; have := hp hh.1; omega
     | false => have := (g2 rfl).1; omega
  ·rw [takes_one]
   by_cases k1 : x.f0 = 1 ∧ (x.f1 > 2 * c ∨ t = [])
   ·obtain ⟨n1, n2, n3, n4⟩ := keep_is hf k1.1
    obtain ⟨m1, m2, m3, m4⟩ := mn_of (n := x.f1) (by omega) hc
    rw [Q.mk1, if_pos k1, n3, n4]
    have hl := h6 x t rfl k1.1
    have e1 : fk (kpL ah ++ y :: E ++ kpL (mn x.f1 c)) = ah := by rw [List.append_assoc, List.cons_append]; exact fk_head h2 h4
    have e2 : lk (kpL ah ++ y :: E ++ kpL (mn x.f1 c)) = mn x.f1 c := by
     by_cases hm : 1 ≤ mn x.f1 c
     ·rw [kpL_pos hm]; exact lk_keep
     ·rw [kpL_neg (n := mn x.f1 c) (by omega), List.append_nil, hl]; omega
    have et : F + takes (kpL ah ++ y :: E ++ kpL (mn x.f1 c)) = p + mn x.f1 c := by rw [takes_app, h5, (kp_takes m1).1]; omega
    have hend : ∀ {u}, u = t → t = [] → takes u = 0 := fun h1 h2 => by rw [h1, h2]; rfl
    refine ⟨by simp, ?_, ?_, ?_, h8, ?_, ?_⟩
    ·show fk (kpL ah ++ y :: E ++ kpL (mn x.f1 c)) ≤ c; rw [e1]; exact h3
    ·show lk (kpL ah ++ y :: E ++ kpL (mn x.f1 c)) ≤ c; rw [e2]; exact m3
    ·show ¬ (fk (kpL ah ++ y :: E ++ kpL (mn x.f1 c)) < c ∧ F > e); rw [e1]; exact h7
    ·show ¬ (lk (kpL ah ++ y :: E ++ kpL (mn x.f1 c)) < c ∧ F + takes (kpL ah ++ y :: E ++ kpL (mn x.f1 c)) < _)
     rw [e2, et]
     rintro ⟨a1, a2⟩
     rcases k1.2 with h | h
     ·omega
     ·have := hend rfl h; omega
    ·show CtxP c _ false (F + takes (kpL ah ++ y :: E ++ kpL (mn x.f1 c))) _
     rw [et]
     refine ih0 _ _ _ _ false (chn_suf [x] (chn_suf _ h1)) m1 m3 (by omega) (fun ht => ⟨fun h => Bool.noConfusion h, fun _ => ?_, fun z t' hz hk => ?_⟩)
     ·rcases k1.2 with h | h
      ·exact ⟨by omega, by omega⟩
      ·exact absurd h ht
     ·subst hz
      have hx := chn_suf (kpL ah ++ y :: E) h1
      exact absurd (k1.1.trans hk.symm) hx.1.1
   ·rw [Q.mk1, if_neg k1]
    have e1 : kpL ah ++ y :: E ++ [x] = kpL ah ++ y :: (E ++ [x]) := by simp
    have h1' : Chn (kpL ah ++ y :: E ++ [x] ++ t) := by rw [List.append_assoc]; exact h1
    have hx := chn_suf (kpL ah ++ y :: E) h1
    have ht := adv1_app (kpL ah ++ y :: E) x h5
    rw [e1] at h1' ht ⊢
    refine ih1 _ _ _ _ e f ah y (E ++ [x]) h1' h2 h3 h4 ht ?_ ?_ h7 h8
    ·intro z t' hz hk
     subst hz
     have : x.f0 ≠ 1 := fun h => hx.1.1 (h.trans hk.symm)
     rw [← e1]; exact lk_change this
    ·intro hz
     have : x.f0 ≠ 1 := fun h => k1 ⟨h, .inr hz⟩
     rw [← e1]; exact lk_change this
theorem ctx_loop (h : List HkS) (hl : h.length ≤ 1000) (hb : ∀ x ∈ h, (0 ≤ x.f0 ∧ x.f0 ≤ 2000000) ∧ rightB 0 x.f2 = true ∧ wt x.f2 ≤ 1000000) (a : List ByteArray) (c : Int) (t : List HkS) :
  ∀ (i : Nat) (e : Int), h.drop i = t → CtxP c (a.length : Int) (i == 0) e t → Ev (fun k => collatorlaw06_HunksContext.l0 k true a c h e (i : Int)) true := by
 induction t with
 | nil =>
  intro i e hd hp
  have := drop_nil hd
  refine Ev.step (f := fun k => _) (fun k => by simp only [collatorlaw06_HunksContext.l0]; rfl) ?_
  refine evneg (by omega) (evpos (by trivial) ?_)
  rw [decide_eq_true (show e ≤ (a.length : Int) from hp)]
  exact Ev.now _
 | cons x t ih =>
  intro i e hd ⟨c1, c2, c3, c4, c5, c6, c7⟩
  obtain ⟨hi, hx, hd'⟩ := drop_cons hd
  have hm := List.mem_of_getElem? hx
  obtain ⟨⟨f0, f1⟩, hr, hw⟩ := hb x hm
  have hwl := wt_len x.f2
  obtain ⟨w0, w1⟩ := takes_wt ((right_iff _).1 hr).1
  have hne : 0 < x.f2.length := by
   rcases Nat.eq_zero_or_pos x.f2.length with h0 | h0
   ·exact absurd (List.eq_nil_of_length_eq_zero h0) c1
   ·exact h0
  have next : Ev (fun k => collatorlaw06_HunksContext.l0 k true a c h (wrap64 (x.f0 + takes x.f2)) (wrap64 ((i : Int) + 1))) true := by
   simp only [w64 (x := x.f0 + takes x.f2) (by omega) (by omega), wi (i := i) (by omega)]
   exact ih (i + 1) _ hd' (by rw [show ((i + 1 == 0) : Bool) = false by simp]; exact c7)
  have j4 : Ev (fun k => collatorlaw06_HunksContext.j4 k true a c h (i : Int) (lk x.f2) (takes x.f2) false) true := by
   refine Ev.step (f := fun k => _) (fun k => by simp only [collatorlaw06_HunksContext.j4]; rfl) ?_
   refine evneg (by simp) (evpos (by omega) (evpos (by omega) ?_))
   simp only [rdH hx]
   by_cases k1 : lk x.f2 < c
   ·refine evpos k1 (evneg ?_ next)
    rw [w64 (by omega) (by omega)]
    exact fun hh => c6 ⟨k1, hh⟩
   ·exact evneg k1 next
  have j3 : Ev (fun k => collatorlaw06_HunksContext.j3 k true a c h e (i : Int) (fk x.f2) (lk x.f2)) true := by
   refine Ev.step (f := fun k => _) (fun k => by simp only [collatorlaw06_HunksContext.j3]; rfl) ?_
   refine evpos (by omega) (evpos (by omega) ?_)
   simp only [rdH hx]
   refine Ev.bind (spans_ev x.f2 (by omega) hr) ?_
   refine evneg (by omega) (evneg (by omega) ?_)
   have tail : Ev (fun k => if (i : Int) > 0 then collatorlaw06_HunksContext.j4 k true a c h (i : Int) (lk x.f2) (takes x.f2) (decide (x.f0 ≤ e)) else collatorlaw06_HunksContext.j4 k true a c h (i : Int) (lk x.f2) (takes x.f2) false) true := by
    by_cases i0 : i = 0
    ·subst i0; exact evneg (by simp) j4
    ·refine evpos (by omega) ?_
     have := c5 (by simpa using i0)
     rw [decide_eq_false (by omega : ¬ x.f0 ≤ e)]
     exact j4
   by_cases k1 : fk x.f2 < c
   ·exact evpos k1 (evneg (fun hh => c4 ⟨k1, hh⟩) tail)
   ·exact evneg k1 tail
  have j2 : Ev (fun k => collatorlaw06_HunksContext.j2 k true a c h e (i : Int) (x.f2.length : Int) (fk x.f2)) true := by
   refine Ev.step (f := fun k => _) (fun k => by simp only [collatorlaw06_HunksContext.j2]; rfl) ?_
   have hw1 : wrap64 ((x.f2.length : Int) - 1) = (x.f2.length : Int) - 1 := w64 (by omega) (by omega)
   simp only [rdH hx, hw1]
   refine evpos (by omega) (evpos (by omega) (evpos (by omega) (evpos (by omega) ?_)))
   have hj := j3
   unfold lk at hj
   by_cases k1 : (rd_T31 x.f2 ((x.f2.length : Int) - 1)).f0 = 1
   ·rw [if_pos k1] at hj; exact evpos k1 hj
   ·rw [if_neg k1] at hj; exact evneg k1 hj
  refine Ev.step (f := fun k => _) (fun k => by simp only [collatorlaw06_HunksContext.l0]; rfl) ?_
  simp only [rdH hx]
  refine evpos (by omega) (evpos (by omega) (evneg (by omega) (evpos (by omega) ?_)))
  have hj := j2
  unfold fk at hj
  by_cases k1 : (rd_T31 x.f2 0).f0 = 1
  ·rw [if_pos k1] at hj; exact evpos k1 hj
  ·rw [if_neg k1] at hj; exact evneg k1 hj
theorem HunksContext : collatorlaw06_HunksContext.Pure := by
 intro l0 a1 a2 h1 h2 h3 h4 h5
 refine Ev.rounds (g := fun k => collatorlaw06_HunksContext.f k l0 a1 a2) ?_
 unfold maxLen at h1
 obtain ⟨s, L, hS, hraw⟩ := script_raw_ev l0 [] h3 (by omega) (fun x hx => by cases hx) (by simp)
 have hp := pk_lt a1 (n := 8) (by omega)
 have hp2 := pk_lt a2 (n := 5) (by omega)
 have M := raw_made hraw (c := (pk a1 8 : Int)) (by omega) (by omega)
 have M2 := raw_made hraw (c := (pk a1 8 : Int) + (pk a2 5 : Int)) (by omega) (by omega)
 have hs : s.length ≤ 1000000 := by have := hraw.len; omega
 unfold collatorlaw06_HunksContext.f
 show Ev (fun k => (collatorlaw06_awake.f).bind fun t => _) true
 refine evval (show collatorlaw06_awake.f = some true from rfl) ?_
 refine Ev.bind hS ?_
 refine evval (pick6 (m := 8) (n := 8) (wf_range h4) rfl (by omega)) ?_
 refine Ev.bind M.make ?_
 refine evval (pick6 (m := 5) (n := 5) (wf_range h5) rfl (by omega)) ?_
 simp only [w64 (x := (pk a1 8 : Int) + (pk a2 5 : Int)) (by omega) (by omega)]
 refine Ev.bind M2.make ?_
 refine evpos (by trivial) (evpos (by trivial) ?_)
 have hle := (fewer (pk a1 8 : Int) ((pk a1 8 : Int) + (pk a2 5 : Int)) (by omega) s).1 0 0 0 0 0 0
 refine evneg (by show ¬ (((made _ s).length : Int) > ((made _ s).length : Int)); unfold made; omega) ?_
 refine Ev.bind (scost_ev s hs hraw.right) ?_
 have hz := none_cost (pk a1 8 : Int) s hraw.fit 0 0 0
 have hb : ((((made (pk a1 8 : Int) s).length : Int) == 0) != (chgs s == 0)) = false := by
  have e1 : (((made (pk a1 8 : Int) s).length : Int) == 0) = (chgs s == 0) := by
   rw [Bool.eq_iff_iff, beq_iff_eq, beq_iff_eq, ← hz]
   unfold made
   omega
  rw [e1]; cases (chgs s == 0) <;> rfl
 simp only [hb]
 refine Ev.step (f := fun k => _) (fun k => by simp only [collatorlaw06_HunksContext.j0]; rfl) ?_
 refine evneg (by simp) ?_
 have hcx := (ctx_ok (pk a1 8 : Int) (by omega) s hraw.fit).1 0 0 0 0 true hraw.chn (Int.le_refl _) (by omega) (Int.le_refl _) (fun _ => ⟨fun _ => ⟨rfl, fun _ => rfl⟩, fun h => Bool.noConfusion h, fun _ _ _ _ => ⟨rfl, rfl⟩⟩)
 rw [Int.zero_add, hraw.takes_] at hcx
 exact ctx_loop _ (by have := M.len; omega) M.ok L (pk a1 8 : Int) (made (pk a1 8 : Int) s) 0 0 rfl hcx
end Go.Proofs.Ytgobidmfbjmpkaa.Pure
