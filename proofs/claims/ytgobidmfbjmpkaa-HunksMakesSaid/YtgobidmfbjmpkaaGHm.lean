/- hunks of a right script in plain words: Make, edit by edit; Script undoes it. · What Make makes of a right script: right hunks, whose script is that script. · Raw scripts' hunks: what Make, Right, Script and Cost answer. -/
import Derived.Test.YtgobidmfbjmpkaaGMake
import Derived.Test.YtgobidmfbjmpkaaGScr
import Derived.Test.YtgobidmfbjmpkaaGQm
import Derived.Test.YtgobidmfbjmpkaaEAwake6
import Derived.Test.YtgobidmfbjmpkaaPxf11
section
set_option linter.unusedVariables false
set_option linter.unusedSimpArgs false
namespace Go.Proofs.Ytgobidmfbjmpkaa.Q
open Go Go.RowKit Go.Proofs.Ytgobidmfbjmpkaa.P Go.Proofs.YtgobidmfbjmpkaaW.PrintWords Go.Proofs.YtgobidmfbjmpkaaW.PrintLast Go.Proofs.YtgobidmfbjmpkaaW.PrintMore
abbrev HkS := S28
def adv1 (p : Int) (x : EdS) : Int := p + (if x.f0 = 3 then 0 else x.f1)
def adv2 (p : Int) (x : EdS) : Int := p + (if x.f0 = 2 then 0 else x.f1)
mutual
/-- The hunks from here on, none being open: p lines are taken, q made, ah may stand ahead. -/
def mk0 (c : Int) : List EdS → Int → Int → Int → List HkS
 | [], _, _, _ => []
 | x :: t, p, q, ah => if x.f0 = 1 then mk0 c t (adv1 p x) (adv2 q x) (mn x.f1 c) else mk1 c t (adv1 p x) (adv2 q x) (p - ah) (q - ah) (kpL ah ++ [x])
/-- The same, one being open. -/
def mk1 (c : Int) : List EdS → Int → Int → Int → Int → List EdS → List HkS
 | [], _, _, F, T, E => [⟨F, T, E⟩]
 | x :: t, p, q, F, T, E => if x.f0 = 1 ∧ (x.f1 > 2 * c ∨ t = []) then ⟨F, T, E ++ kpL (mn x.f1 c)⟩ :: mk0 c t (adv1 p x) (adv2 q x) (mn x.f1 c) else mk1 c t (adv1 p x) (adv2 q x) F T (E ++ [x])
end
theorem mk_fold (l : List EdS) (c : Int) (t : List EdS) : ∀ (i : Nat) (st : Iter.MkS), l.drop i = t →
  (st.opn = false → ((List.range' i t.length).foldl (Iter.mkStep l c) st).out = st.out ++ mk0 c t (Iter.ahead1 l i) (Iter.ahead2 l i) st.ahead) ∧
  (∀ o h, st.opn = true → st.out = o ++ [h] → ((List.range' i t.length).foldl (Iter.mkStep l c) st).out = o ++ mk1 c t (Iter.ahead1 l i) (Iter.ahead2 l i) h.f0 h.f1 h.f2) := by
 induction t with
 | nil =>
  intro i st _
  exact ⟨fun _ => by simp [mk0], fun o h _ ho => by simp [mk1, ho]⟩
 | cons x t ih =>
  intro i st hd
  obtain ⟨hi, hx, hd'⟩ := drop_cons hd
  have hr : rd_T31 l (i : Int) = x := rdT hx
  obtain ⟨s1, s2⟩ := Iter.ahead_step l i hi
  rw [hr] at s1 s2
  have hlen : (i + 1 = l.length) ↔ t = [] := by
   have h1 := congrArg List.length hd'
   rw [List.length_drop] at h1
   constructor
   ·intro e; exact List.eq_nil_of_length_eq_zero (by omega)
   ·intro e; rw [e, List.length_nil] at h1; omega
  have e0 : List.range' i (x :: t).length = i :: List.range' (i + 1) t.length := by rw [List.length_cons, List.range'_succ]
  rw [e0, List.foldl_cons]
  have a1 : Iter.ahead1 l (i + 1) = adv1 (Iter.ahead1 l i) x := s1
  have a2 : Iter.ahead2 l (i + 1) = adv2 (Iter.ahead2 l i) x := s2
  constructor
  ·intro ho
   by_cases h1 : x.f0 = 1
   ·have hs : Iter.mkStep l c st i = { st with ahead := mn x.f1 c } := by unfold Iter.mkStep; rw [hr, if_pos ⟨h1, ho⟩]
    rw [hs, (ih (i + 1) { st with ahead := mn x.f1 c } hd').1 ho, a1, a2, mk0, if_pos h1]
   ·have hs : Iter.mkStep l c st i = ⟨st.ahead, true, st.out ++ [⟨Iter.ahead1 l i - st.ahead, Iter.ahead2 l i - st.ahead, Iter.keptL st.ahead ++ [x]⟩]⟩ := by
     unfold Iter.mkStep; rw [hr, if_neg (fun h => h1 h.1), if_neg (fun h => h1 h.1), if_neg (by rw [ho]; simp)]
    rw [hs, (ih (i + 1) _ hd').2 _ _ rfl rfl, a1, a2, mk0, if_neg h1]
    rfl
  ·intro o h ho hout
   by_cases h1 : x.f0 = 1 ∧ (x.f1 > 2 * c ∨ t = [])
   ·have hs : Iter.mkStep l c st i = ⟨mn x.f1 c, false, Iter.upLast st.out (Iter.keptL (mn x.f1 c))⟩ := by
     unfold Iter.mkStep; rw [hr, if_neg (fun h => by rw [ho] at h; cases h.2), if_pos ⟨h1.1, h1.2.imp id hlen.2⟩]
    rw [hs, (ih (i + 1) _ hd').1 rfl, a1, a2, mk1, if_pos h1, hout, Iter.upLast_snoc]
    simp [Iter.keptL, kpL]
   ·have hs : Iter.mkStep l c st i = { st with out := Iter.upLast st.out [x] } := by
     unfold Iter.mkStep; rw [hr, if_neg (fun h => by rw [ho] at h; cases h.2), if_neg (fun h => h1 ⟨h.1, h.2.imp id hlen.1⟩), if_pos ho]
    rw [hs, (ih (i + 1) { st with out := Iter.upLast st.out [x] } hd').2 o ⟨h.f0, h.f1, h.f2 ++ [x]⟩ ho (by rw [hout, Iter.upLast_snoc]), a1, a2, mk1, if_neg h1]
/-- What Make answers. -/
def made (c : Int) (s : List EdS) : List HkS := mk0 c s 0 0 0
theorem mkAll_eq (s : List EdS) (c : Int) : (Iter.mkAll s c (List.range s.length)).out = made c s := by
 have h := (mk_fold s c s 0 ⟨0, false, []⟩ (by simp)).1 rfl
 rw [List.nil_append] at h
 unfold Iter.mkAll
 rw [List.range_eq_range', h]
 rfl
theorem fits_of {s : List EdS} (hs : s.length ≤ 1000000) (hf : Fit s) : Iter.Fits s := ⟨hs, fun x hx => by
 obtain ⟨⟨h1, h2⟩, h3⟩ := hf x hx
 refine ⟨by omega, h3, ?_⟩
 rcases h2 with ⟨_, h2⟩ | ⟨_, h2⟩
 ·rw [h2]; exact Nat.zero_le _
 ·omega⟩
theorem make_ev (s : List EdS) (hs : s.length ≤ 1000000) (hr : rightB 0 s = true) (c : Int) (h0 : 0 ≤ c) (h1 : c ≤ 100) : Ev (fun k => hunks_Make.f k s c) (made c s, 0) := by
 unfold hunks_Make.f Iter.hunks_Make.f
 refine Ev.bind (right_ev s hs) ?_
 simp only [hr, h0, h1, and_self, if_true, if_pos (fits_of hs ((right_iff s).1 hr).1), mkAll_eq]
 exact Ev.now _
/-! ### Edits put together -/
theorem chn_mid (u : List EdS) : ∀ (z x : EdS) (t : List EdS), Chn (u ++ ([z] ++ x :: t)) → After z x := by
 induction u with
 | nil => intro z x t h; exact h.1
 | cons y u ih =>
  intro z x t h
  cases u with
  | nil => exact h.2.1
  | cons w u => exact ih z x t h.2
theorem joinL_app (s a b : List EdS) : joinL s (a ++ b) = joinL (joinL s a) b := List.foldl_append
theorem joinL_nil (s : List EdS) : joinL s [] = s := rfl
theorem joinL_cons (s : List EdS) (x : EdS) (t : List EdS) : joinL s (x :: t) = joinL (join1 s x) t := rfl
theorem join1_two (s : List EdS) (x y : EdS) (h : x.f0 = y.f0) : join1 (join1 s x) y = join1 s ⟨x.f0, x.f1 + y.f1, x.f2 ++ y.f2⟩ := by
 rcases List.eq_nil_or_concat s with h0 | ⟨t, z, h0⟩
 ·subst h0
  have : join1 ([] ++ [x]) y = _ := join1_snoc [] x y
  rw [List.nil_append] at this
  rw [join1_nil, join1_nil, this, if_pos h]
  rfl
 ·rw [List.concat_eq_append] at h0
  subst h0
  rw [join1_snoc, join1_snoc]
  by_cases hz : z.f0 = x.f0
  ·rw [if_pos hz, if_pos hz, join1_snoc, if_pos (show z.f0 = y.f0 from hz.trans h)]
   simp [Int.add_assoc]
  ·rw [if_neg hz, if_neg hz, join1_snoc, if_pos h]
theorem kpL_pos {n : Int} (h : 1 ≤ n) : kpL n = [⟨1, n, []⟩] := if_neg (by omega)
theorem kpL_neg {n : Int} (h : n < 1) : kpL n = [] := if_pos h
theorem join_kp (s : List EdS) {a b : Int} (ha : 0 ≤ a) (hb : 0 ≤ b) : joinL (joinL s (kpL a)) (kpL b) = joinL s (kpL (a + b)) := by
 by_cases h1 : 1 ≤ a
 ·by_cases h2 : 1 ≤ b
  ·rw [kpL_pos h1, kpL_pos h2, kpL_pos (by omega)]
   exact join1_two s _ _ rfl
  ·obtain rfl : b = 0 := by omega
   rw [kpL_neg (n := 0) (by omega), Int.add_zero]; rfl
 ·obtain rfl : a = 0 := by omega
  rw [kpL_neg (n := 0) (by omega), Int.zero_add]; rfl
/-- A right script is put together already. -/
theorem join_chn (t : List EdS) : ∀ (s : List EdS), Chn (s ++ t) → joinL s t = s ++ t := by
 induction t with
 | nil => intro s _; rw [List.append_nil]; rfl
 | cons x t ih =>
  intro s h
  have e : join1 s x = s ++ [x] := by
   rcases List.eq_nil_or_concat s with h0 | ⟨u, z, h0⟩
   ·subst h0; rfl
   ·rw [List.concat_eq_append] at h0
    subst h0
    rw [join1_snoc, if_neg]
    exact (chn_mid u z x t (by rw [List.append_assoc] at h; exact h)).1
  rw [joinL_cons, e, ih (s ++ [x]) (by rw [List.append_assoc]; exact h), List.append_assoc]
  rfl
/-! ### Script of hunks -/
def flatH : List HkS → Int → List EdS
 | [], _ => []
 | x :: t, a => kpL (x.f0 - a) ++ (x.f2 ++ flatH t (x.f0 + takes x.f2))
def endH : List HkS → Int → Int
 | [], a => a
 | x :: t, a => endH t (x.f0 + takes x.f2)
theorem takes_wt {s : List EdS} (h : Fit s) : 0 ≤ takes s ∧ takes s ≤ wt s := by
 induction s with
 | nil => exact ⟨Int.le_refl _, Int.le_refl _⟩
 | cons x s ih =>
  have h1 := ih (fit_tail h)
  obtain ⟨f1, _⟩ := fit_head h
  rw [takes, wt_cons]
  unfold wt1
  split <;> omega
/-- Hunks of no great size. -/
def OkH (h : List HkS) : Prop := ∀ x ∈ h, (0 ≤ x.f0 ∧ x.f0 ≤ 10000000) ∧ rightB 0 x.f2 = true ∧ wt x.f2 ≤ 10000000
theorem wt_ok {s : List EdS} (h : wt s ≤ 10000000) : s.length ≤ 10000000 := Nat.le_trans (wt_len s) h
theorem spans_ev' (s : List EdS) (hs : wt s ≤ 1000000) (hr : rightB 0 s = true) : Ev (fun k => script_Spans.f k s) (takes s, makes s) := spans_ev s (Nat.le_trans (wt_len s) hs) hr
theorem scr_ev : ∀ (h : List HkS) (s : List EdS) (a : Int), (∀ x ∈ h, (0 ≤ x.f0 ∧ x.f0 ≤ 2000000) ∧ rightB 0 x.f2 = true ∧ wt x.f2 ≤ 1000000) → 0 ≤ a → a ≤ 3000000 → wt s + h.length * 10000000 ≤ 1000000000000 →
  Ev (fun k => scrL k h s a) (joinL s (flatH h a), endH h a) ∧ wt (joinL s (flatH h a)) ≤ wt s + h.length * 10000000 ∧ 0 ≤ endH h a ∧ endH h a ≤ 3000000
 | [], s, a => fun _ h0 h1 _ => ⟨Ev.now _, Nat.le_add_right _ _, h0, h1⟩
 | x :: t, s, a => fun hk h0 h1 hw => by
  obtain ⟨⟨f0, f1⟩, fr, fw⟩ := hk x (by simp)
  obtain ⟨t0, t1⟩ := takes_wt ((right_iff _).1 fr).1
  have w1 := wt_joinL (kpL (x.f0 - a)) s
  have w2 := wt_kpL (x.f0 - a)
  have w3 := wt_joinL x.f2 (joinL s (kpL (x.f0 - a)))
  rw [List.length_cons] at hw
  have ih := scr_ev t (joinL (joinL s (kpL (x.f0 - a))) x.f2) (x.f0 + takes x.f2) (fun y hy => hk y (List.mem_cons_of_mem _ hy)) (by omega) (by omega) (by omega)
  have e1 : joinL s (flatH (x :: t) a) = joinL (joinL (joinL s (kpL (x.f0 - a))) x.f2) (flatH t (x.f0 + takes x.f2)) := by rw [flatH, joinL_app, joinL_app]
  have e2 : endH (x :: t) a = endH t (x.f0 + takes x.f2) := rfl
  refine ⟨?_, ?_, ?_, ?_⟩
  ·rw [e1, e2]
   show Ev (fun k => (script_Spans.f k x.f2).bind _) _
   refine Ev.bind (spans_ev' x.f2 fw fr) ?_
   have hc : (0 ≤ x.f0 ∧ x.f0 ≤ 1099511627776) ∧ (0 ≤ a ∧ a ≤ 1099511627776) ∧ (0 ≤ takes x.f2 ∧ takes x.f2 ≤ 549755813888) ∧ wt s + (x.f0 - a).natAbs + 2 + wt x.f2 ≤ 1000000000000 := ⟨⟨by omega, by omega⟩, ⟨by omega, by omega⟩, ⟨by omega, by omega⟩, by omega⟩
   simp only [if_pos hc]
   exact ih.1
  ·rw [e1, List.length_cons]; have := ih.2.1; omega
  ·rw [e2]; exact ih.2.2.1
  ·rw [e2]; exact ih.2.2.2
/-! ### Which hunks may be -/
def chB (s : List EdS) : Bool := s.any (fun x => x.f0 != 1)
def rightH : Bool → Int → Int → List HkS → Bool
 | _, _, _, [] => true
 | f, a, b, x :: t => rightB 0 x.f2 && (chB x.f2 && (decide (0 ≤ x.f0) && (decide (x.f0 ≤ 1048576) && ((if f = true then decide (x.f1 = x.f0) else decide (1 ≤ x.f0 - a) && decide (x.f1 - b = x.f0 - a)) && rightH false (x.f0 + takes x.f2) (x.f1 + makes x.f2) t))))
theorem rdH {h : List HkS} {i : Nat} {x : HkS} (e : h[i]? = some x) : rd_T28 h (i : Int) = x := by
 simp [rd_T28, List.getD_eq_getElem?_getD, e]
theorem changes_ev (s : List EdS) (hs : s.length ≤ 1000000) : hunks_changes.f s = some (chB s) := if_pos (by omega)
theorem right_loopH (h : List HkS) (hs : h.length ≤ 100000) (hb : ∀ x ∈ h, x.f2.length ≤ 100000 ∧ (-9223372036854775808 ≤ x.f0 ∧ x.f0 ≤ 9223372036854775807) ∧ (-9223372036854775808 ≤ x.f1 ∧ x.f1 ≤ 9223372036854775807)) (t : List HkS) :
  ∀ (i : Nat) (a b : Int), h.drop i = t → 0 ≤ a → a ≤ 1000000000000 → 0 ≤ b → b ≤ 1000000000000 * i → Ev (fun k => hunks_Right.l0 k a b h (h.length : Int) (i : Int)) (rightH (i == 0) a b t) := by
 induction t with
 | nil =>
  intro i a b hd _ _ _ _
  refine Ev.step (f := fun _ => some true) (fun k => ?_) (Ev.now true)
  have := drop_nil hd
  simp only [hunks_Right.l0]
  rw [if_neg (by omega)]
 | cons x t ih =>
  intro i a b hd ha0 ha1 hb0 hb1
  obtain ⟨hi, hx, hd'⟩ := drop_cons hd
  have hr : rd_T28 h (i : Int) = x := rdH hx
  obtain ⟨hl, ⟨l0, l1⟩, ⟨m0, m1⟩⟩ := hb x (List.mem_of_getElem? hx)
  have hl' : x.f2.length ≤ 1000000 := by omega
  refine Ev.step (f := fun k => _) (fun k => by simp only [hunks_Right.l0]; rfl) ?_
  refine evpos (by omega) (evpos (by omega) (evpos (by omega) ?_))
  simp only [hr]
  refine Ev.bind (right_ev x.f2 hl') ?_
  cases hR : rightB 0 x.f2 with
  | false =>
   have e : rightH (i == 0) a b (x :: t) = false := by simp [rightH, hR]
   rw [e]
   refine evneg (by simp) (Ev.step (f := fun _ => some false) (fun k => ?_) (Ev.now _))
   simp only [hunks_Right.j1, if_true]
  | true =>
   refine evpos rfl ?_
   simp only [changes_ev x.f2 hl', Option.bind_some]
   obtain ⟨hF, hC⟩ := (right_iff _).1 hR
   obtain ⟨b1, b2, b3, b4, _⟩ := spans_bd hF
   have b5 : (x.f2.length : Int) ≤ 100000 := by omega
   cases hc : chB x.f2 with
   | false =>
    have e : rightH (i == 0) a b (x :: t) = false := by simp [rightH, hR, hc]
    rw [e]
    refine evneg (by simp) (Ev.step (f := fun _ => some false) (fun k => ?_) (Ev.now _))
    simp only [hunks_Right.j1, if_true]
   | true =>
    refine evpos rfl ?_
    by_cases g0 : x.f0 < 0
    ·have e : rightH (i == 0) a b (x :: t) = false := by simp [rightH, hR, hc, show ¬ 0 ≤ x.f0 by omega]
     rw [e]
     refine evpos g0 (Ev.step (f := fun _ => some false) (fun k => ?_) (Ev.now _))
     simp only [hunks_Right.j1, if_true]
    ·refine evneg g0 ?_
     by_cases g1 : x.f0 > 1048576
     ·have e : rightH (i == 0) a b (x :: t) = false := by simp [rightH, hR, hc, show ¬ x.f0 ≤ 1048576 by omega]
      rw [e]
      refine Ev.step (f := fun _ => some false) (fun k => ?_) (Ev.now _)
      simp only [hunks_Right.j1, decide_eq_true g1, if_true]
     ·have e : rightH (i == 0) a b (x :: t) = ((if (i == 0) = true then decide (x.f1 = x.f0) else decide (1 ≤ x.f0 - a) && decide (x.f1 - b = x.f0 - a)) && rightH false (x.f0 + takes x.f2) (x.f1 + makes x.f2) t) := by
       simp [rightH, hR, hc, show 0 ≤ x.f0 by omega, show x.f0 ≤ 1048576 by omega]
      rw [e]
      have gd : ¬ decide (x.f0 > 1048576) = true := by simpa using g1
      have next : (x.f1 ≤ x.f0 ∨ x.f1 ≤ b + x.f0) → 0 ≤ x.f1 → Ev (fun k => (script_Spans.f k x.f2).bind fun bt => hunks_Right.l0 k (wrap64 (x.f0 + bt.1)) (wrap64 (x.f1 + bt.2)) h (h.length : Int) (wrap64 ((i : Int) + 1))) (rightH false (x.f0 + takes x.f2) (x.f1 + makes x.f2) t) := by
       intro hf1 hf2
       refine Ev.bind (spans_ev x.f2 hl' hR) ?_
       have hi' := ih (i + 1) (x.f0 + takes x.f2) (x.f1 + makes x.f2) hd' (by omega) (by omega) (by omega) (by omega)
       rw [show ((i + 1 == 0) : Bool) = false by simp] at hi'
       simp only [w64 (x := x.f0 + takes x.f2) (by omega) (by omega), w64 (x := x.f1 + makes x.f2) (by omega) (by omega), wi (i := i) (by omega)]
       exact hi'
      refine Ev.step (f := fun k => _) (fun k => by simp only [hunks_Right.j1]; rfl) ?_
      refine evneg gd ?_
      by_cases i0 : i = 0
      ·subst i0
       refine evpos rfl ?_
       by_cases g2 : x.f1 = x.f0
       ·rw [if_pos (by rfl), decide_eq_true g2, Bool.true_and]
        refine evpos g2 (evneg (by simp) (next (.inl (by omega)) (by omega)))
       ·rw [if_pos (by rfl), decide_eq_false g2, Bool.false_and]
        exact evneg g2 (Ev.now _)
      ·rw [if_neg (by simpa using i0)]
       refine evneg (by omega) (evpos (by omega) ?_)
       have hw1 : wrap64 (x.f0 - a) = x.f0 - a := w64 (by omega) (by omega)
       simp only [hw1]
       by_cases g2 : x.f0 - a < 1
       ·rw [decide_eq_false (by omega : ¬ 1 ≤ x.f0 - a), Bool.false_and, Bool.false_and]
        exact evpos g2 (Ev.now _)
       ·refine evneg g2 ?_
        rw [decide_eq_true (by omega : 1 ≤ x.f0 - a), Bool.true_and]
        have hi2 : (i : Int) ≤ 100000 := by omega
        have hw2 : wrap64 (x.f1 - b) = x.f0 - a ↔ x.f1 - b = x.f0 - a := by unfold wrap64; omega
        by_cases g3 : x.f1 - b = x.f0 - a
        ·rw [decide_eq_true g3, Bool.true_and]
         exact evpos (hw2.2 g3) (next (.inr (by omega)) (by omega))
        ·rw [decide_eq_false g3, Bool.false_and]
         exact evneg (fun hh => g3 (hw2.1 hh)) (Ev.now _)
theorem rightH_ev (h : List HkS) (hs : h.length ≤ 100000) (hb : ∀ x ∈ h, x.f2.length ≤ 100000 ∧ (-9223372036854775808 ≤ x.f0 ∧ x.f0 ≤ 9223372036854775807) ∧ (-9223372036854775808 ≤ x.f1 ∧ x.f1 ≤ 9223372036854775807)) : Ev (fun k => hunks_Right.f k h) (rightH true 0 0 h) :=
 right_loopH h hs hb h 0 0 0 (by simp) (by omega) (by omega) (by omega) (by omega)
end Go.Proofs.Ytgobidmfbjmpkaa.Q
end
section
set_option linter.unusedVariables false
set_option linter.unusedSimpArgs false
namespace Go.Proofs.Ytgobidmfbjmpkaa.Q
open Go Go.RowKit Go.Proofs.Ytgobidmfbjmpkaa.P Go.Proofs.YtgobidmfbjmpkaaW.PrintWords Go.Proofs.YtgobidmfbjmpkaaW.PrintLast Go.Proofs.YtgobidmfbjmpkaaW.PrintMore
theorem takes_app (s t : List EdS) : takes (s ++ t) = takes s + takes t := by
 induction s with
 | nil => simp [takes]
 | cons x s ih => rw [List.cons_append, takes, takes, ih, Int.add_assoc]
theorem makes_app (s t : List EdS) : makes (s ++ t) = makes s + makes t := by
 induction s with
 | nil => simp [makes]
 | cons x s ih => rw [List.cons_append, makes, makes, ih, Int.add_assoc]
theorem chgs_app (s t : List EdS) : chgs (s ++ t) = chgs s + chgs t := by
 induction s with
 | nil => simp [chgs]
 | cons x s ih => rw [List.cons_append, chgs, chgs, ih, Int.add_assoc]
theorem kp_takes {n : Int} (h : 0 ≤ n) : takes (kpL n) = n ∧ makes (kpL n) = n ∧ chgs (kpL n) = 0 := by
 unfold kpL
 split
 ·rw [show n = 0 by omega]; exact ⟨rfl, rfl, rfl⟩
 ·refine ⟨?_, ?_, rfl⟩
  ·show (if (1 : Int) = 3 then 0 else n) + 0 = n
   rw [if_neg (by decide), Int.add_zero]
  ·show (if (1 : Int) = 2 then 0 else n) + 0 = n
   rw [if_neg (by decide), Int.add_zero]
theorem mn_of {n c : Int} (hn : 0 ≤ n) (hc : 0 ≤ c) : 0 ≤ mn n c ∧ mn n c ≤ n ∧ mn n c ≤ c ∧ (mn n c = n ∨ mn n c = c) := by unfold mn; split <;> omega
theorem keep_is {x : EdS} {t : List EdS} (h : Fit (x :: t)) (h1 : x.f0 = 1) : 1 ≤ x.f1 ∧ [x] = kpL x.f1 ∧ (∀ p, adv1 p x = p + x.f1) ∧ (∀ p, adv2 p x = p + x.f1) := by
 obtain ⟨f1, f2, f3, f4, f5⟩ := fit_head h
 refine ⟨f1, ?_, fun p => by unfold adv1; rw [if_neg (by rw [h1]; decide)], fun p => by unfold adv2; rw [if_neg (by rw [h1]; decide)]⟩
 rw [kpL_pos f1]
 have h5 := f5 (by rw [h1]; decide)
 cases x
 simp at h1 h5
 subst h1 h5
 rfl
theorem takes_one (x : EdS) (t : List EdS) (p : Int) : p + takes (x :: t) = adv1 p x + takes t := by rw [takes]; unfold adv1; omega
theorem adv1_app (E : List EdS) (x : EdS) {p F : Int} (h : takes E = p - F) : takes (E ++ [x]) = adv1 p x - F := by
 rw [takes_app, h, takes, takes]; unfold adv1; omega
theorem adv2_app (E : List EdS) (x : EdS) {p F : Int} (h : makes E = p - F) : makes (E ++ [x]) = adv2 p x - F := by
 rw [makes_app, h, makes, makes]; unfold adv2; omega
theorem adv1_le {x : EdS} {t : List EdS} (h : Fit (x :: t)) (p : Int) : p ≤ adv1 p x := by
 have := (fit_head h).1
 unfold adv1; split <;> omega
theorem back (c : Int) (hc : 0 ≤ c) (t : List EdS) : Fit t →
  (∀ (p q ah : Int) (S : List EdS) (a : Int), 0 ≤ ah → a ≤ p → (t ≠ [] → a ≤ p - ah) → joinL S (flatH (mk0 c t p q ah) a ++ kpL (p + takes t - endH (mk0 c t p q ah) a)) = joinL (joinL S (kpL (p - a))) t) ∧
  (∀ (p q F T : Int) (E S : List EdS) (a : Int), takes E = p - F → a ≤ F → joinL S (flatH (mk1 c t p q F T E) a ++ kpL (p + takes t - endH (mk1 c t p q F T E) a)) = joinL (joinL (joinL S (kpL (F - a))) E) t) := by
 induction t with
 | nil =>
  intro _
  refine ⟨fun p q ah S a _ _ _ => ?_, fun p q F T E S a h1 h2 => ?_⟩
  ·simp only [mk0, flatH, endH, takes, List.nil_append, Int.add_zero, joinL_nil]
  ·simp only [mk1, flatH, endH, takes, List.append_nil, Int.add_zero, joinL_nil]
   rw [h1, show p - (F + (p - F)) = 0 by omega, kpL_neg (n := 0) (by omega), List.append_nil, joinL_app]
 | cons x t ih =>
  intro hf
  obtain ⟨ih0, ih1⟩ := ih (fit_tail hf)
  have ft := spans_bd (fit_tail hf)
  refine ⟨fun p q ah S a h1 h2 h3 => ?_, fun p q F T E S a h1 h2 => ?_⟩
  ·have h3' := h3 (by simp)
   by_cases k1 : x.f0 = 1
   ·obtain ⟨n1, n2, n3, n4⟩ := keep_is hf k1
    obtain ⟨m1, m2, m3, _⟩ := mn_of (n := x.f1) (by omega) hc
    have e : mk0 c (x :: t) p q ah = mk0 c t (p + x.f1) (q + x.f1) (mn x.f1 c) := by rw [mk0, if_pos k1, n3, n4]
    rw [e, takes_one, n3, ih0 _ _ _ S a m1 (by omega) (fun _ => by omega), joinL_cons]
    have e2 : join1 (joinL S (kpL (p - a))) x = joinL (joinL S (kpL (p - a))) [x] := rfl
    rw [e2, n2, join_kp S (by omega) (by omega)]
    congr 3
    omega
   ·have e : mk0 c (x :: t) p q ah = mk1 c t (adv1 p x) (adv2 q x) (p - ah) (q - ah) (kpL ah ++ [x]) := by rw [mk0, if_neg k1]
    rw [e, takes_one, ih1 _ _ _ _ _ S a (by rw [adv1_app (kpL ah) x (p := p) (F := p - ah) (by rw [(kp_takes h1).1]; omega)]) h3', joinL_app, joinL_cons, joinL_cons, joinL_nil, join_kp S (by omega) h1]
    congr 4
    omega
  ·by_cases k1 : x.f0 = 1 ∧ (x.f1 > 2 * c ∨ t = [])
   ·obtain ⟨n1, n2, n3, n4⟩ := keep_is hf k1.1
    obtain ⟨m1, m2, m3, _⟩ := mn_of (n := x.f1) (by omega) hc
    have e : mk1 c (x :: t) p q F T E = ⟨F, T, E ++ kpL (mn x.f1 c)⟩ :: mk0 c t (p + x.f1) (q + x.f1) (mn x.f1 c) := by rw [mk1, if_pos k1, n3, n4]
    have et : F + takes (E ++ kpL (mn x.f1 c)) = p + mn x.f1 c := by rw [takes_app, h1, (kp_takes m1).1]; omega
    rw [e, takes_one, n3]
    simp only [flatH, endH]
    rw [et]
    have e3 : ∀ fl kp : List EdS, joinL S ((kpL (F - a) ++ ((E ++ kpL (mn x.f1 c)) ++ fl)) ++ kp) = joinL (joinL (joinL (joinL S (kpL (F - a))) E) (kpL (mn x.f1 c))) (fl ++ kp) := fun fl kp => by simp only [joinL_app]
    rw [e3, ih0 _ _ _ _ (p + mn x.f1 c) m1 (by omega) (fun ht => by
     rcases k1.2 with h | h
     ·omega
     ·exact absurd h ht), join_kp _ m1 (by omega), show mn x.f1 c + (p + x.f1 - (p + mn x.f1 c)) = x.f1 by omega, ← n2, joinL_cons, joinL_cons, joinL_nil]
   ·have e : mk1 c (x :: t) p q F T E = mk1 c t (adv1 p x) (adv2 q x) F T (E ++ [x]) := by rw [mk1, if_neg k1]
    rw [e, takes_one, ih1 _ _ _ _ _ S a (adv1_app E x h1) h2, joinL_app, joinL_cons, joinL_cons, joinL_nil]
/-- How the next hunk stands to the last one. -/
def Nxt (f : Bool) (a b F T : Int) : Prop := if f = true then T = F else 1 ≤ F - a ∧ T - b = F - a
theorem chn_pre (s : List EdS) : ∀ {t : List EdS}, Chn (s ++ t) → Chn s := by
 induction s with
 | nil => intro t _; trivial
 | cons x s ih =>
  intro t h
  cases s with
  | nil => trivial
  | cons y s => exact ⟨h.1, ih h.2⟩
theorem chn_suf (s : List EdS) : ∀ {t : List EdS}, Chn (s ++ t) → Chn t := by
 induction s with
 | nil => intro t h; exact h
 | cons x s ih =>
  intro t h
  cases s with
  | nil => cases t with
   | nil => trivial
   | cons y t => exact h.2
  | cons y s => exact ih h.2
theorem chn_keep {n m : Int} {x : EdS} {t : List EdS} (hx : x.f0 ≠ 1) (h : Chn (x :: t)) : Chn (kpL n ++ x :: t) := by
 unfold kpL
 split
 ·exact h
 ·exact ⟨⟨fun e => hx e.symm, fun e => absurd (show (1 : Int) = 3 from e.1) (by decide)⟩, h⟩
theorem chn_end {E : List EdS} {x : EdS} {t : List EdS} {m : Int} (h1 : x.f0 = 1) (h : Chn (E ++ x :: t)) : Chn (E ++ kpL m) := by
 have h2 : Chn (E ++ [x]) := by
  have : E ++ x :: t = (E ++ [x]) ++ t := by simp
  rw [this] at h
  exact chn_pre _ h
 unfold kpL
 split
 ·rw [List.append_nil]; exact chn_pre _ h2
 ·exact chn_last E x _ h2 h1
theorem fit_app {s t : List EdS} (h1 : Fit s) (h2 : Fit t) : Fit (s ++ t) := fun x hx => (List.mem_append.1 hx).elim (h1 x) (h2 x)
theorem fit_kp {n : Int} (h : n ≤ 1048576) : Fit (kpL n) := by
 unfold kpL
 split
 ·intro x hx; cases hx
 ·intro x hx
  rw [List.mem_singleton.1 hx]
  exact ⟨⟨by show 1 ≤ n; omega, .inl ⟨.inl rfl, rfl⟩⟩, h⟩
theorem fit_one {x : EdS} {t : List EdS} (h : Fit (x :: t)) : Fit [x] := fun y hy => h y (by rw [List.mem_singleton.1 hy]; simp)
theorem chB_app (s t : List EdS) : chB (s ++ t) = (chB s || chB t) := by simp [chB]
theorem rightH_cons {f : Bool} {a b : Int} {x : HkS} {t : List HkS} (h1 : rightB 0 x.f2 = true) (h2 : chB x.f2 = true) (h3 : 0 ≤ x.f0) (h4 : x.f0 ≤ 1048576) (h5 : Nxt f a b x.f0 x.f1) (h6 : rightH false (x.f0 + takes x.f2) (x.f1 + makes x.f2) t = true) : rightH f a b (x :: t) = true := by
 unfold rightH
 rw [h1, h2, decide_eq_true h3, decide_eq_true h4, h6]
 cases f with
 | true =>
  have h5' : x.f1 = x.f0 := h5
  simpa using h5'
 | false =>
  obtain ⟨g1, g2⟩ : 1 ≤ x.f0 - a ∧ x.f1 - b = x.f0 - a := h5
  simp [g1, g2]
theorem made_right (c : Int) (hc : 0 ≤ c) (hc2 : c ≤ 100) (t : List EdS) : Fit t →
  (∀ (p q ah : Int) (f : Bool) (a b : Int), Chn t → 0 ≤ ah → ah ≤ c → (t ≠ [] → 0 ≤ p - ah ∧ Nxt f a b (p - ah) (q - ah)) → p + takes t ≤ 1048576 → rightH f a b (mk0 c t p q ah) = true) ∧
  (∀ (p q F T : Int) (E : List EdS) (f : Bool) (a b : Int), Chn (E ++ t) → Fit E → chB E = true → takes E = p - F → makes E = q - T → 0 ≤ F → F ≤ 1048576 → Nxt f a b F T → p + takes t ≤ 1048576 → rightH f a b (mk1 c t p q F T E) = true) := by
 induction t with
 | nil =>
  intro _
  refine ⟨fun p q ah f a b _ _ _ _ _ => rfl, fun p q F T E f a b h1 h2 h3 h4 h5 h6 h7 h8 h9 => ?_⟩
  rw [List.append_nil] at h1
  exact rightH_cons ((right_iff _).2 ⟨h2, h1⟩) h3 h6 h7 h8 rfl
 | cons x t ih =>
  intro hf
  obtain ⟨ih0, ih1⟩ := ih (fit_tail hf)
  have ft := spans_bd (fit_tail hf)
  refine ⟨fun p q ah f a b h1 h2 h2' h3 h4 => ?_, fun p q F T E f a b h1 h2 h3 h4 h5 h6 h7 h8 h9 => ?_⟩
  ·obtain ⟨h3a, h3b⟩ := h3 (by simp)
   rw [takes_one] at h4
   by_cases k1 : x.f0 = 1
   ·obtain ⟨n1, n2, n3, n4⟩ := keep_is hf k1
    obtain ⟨m1, m2, m3, _⟩ := mn_of (n := x.f1) (by omega) hc
    rw [mk0, if_pos k1, n3, n4]
    rw [n3] at h4
    refine ih0 _ _ _ f a b (chn_suf [x] h1) m1 m3 (fun _ => ⟨by omega, ?_⟩) h4
    unfold Nxt at h3b ⊢
    split
    ·rename_i hh; rw [if_pos hh] at h3b; omega
    ·rename_i hh; rw [if_neg hh] at h3b; omega
   ·rw [mk0, if_neg k1]
    have ha1 := adv1_le hf p
    refine ih1 _ _ _ _ _ f a b ?_ (fit_app (fit_kp (by omega)) (fit_one hf)) ?_ (adv1_app _ _ (by rw [(kp_takes h2).1]; omega)) (adv2_app _ _ (by rw [(kp_takes h2).2.1]; omega)) h3a (by omega) h3b h4
    ·rw [List.append_assoc]; exact chn_keep (m := 0) k1 h1
    ·rw [chB_app]
     have : chB [x] = true := by simp [chB, k1]
     rw [this, Bool.or_true]
  ·rw [takes_one] at h9
   by_cases k1 : x.f0 = 1 ∧ (x.f1 > 2 * c ∨ t = [])
   ·obtain ⟨n1, n2, n3, n4⟩ := keep_is hf k1.1
    obtain ⟨m1, m2, m3, _⟩ := mn_of (n := x.f1) (by omega) hc
    rw [mk1, if_pos k1, n3, n4]
    rw [n3] at h9
    have et : F + takes (E ++ kpL (mn x.f1 c)) = p + mn x.f1 c := by rw [takes_app, h4, (kp_takes m1).1]; omega
    have em : T + makes (E ++ kpL (mn x.f1 c)) = q + mn x.f1 c := by rw [makes_app, h5, (kp_takes m1).2.1]; omega
    refine rightH_cons ((right_iff _).2 ⟨fit_app h2 (fit_kp (by omega)), chn_end k1.1 h1⟩) (by show chB (E ++ _) = true; rw [chB_app, h3]; rfl) h6 h7 h8 ?_
    show rightH false (F + takes (E ++ kpL (mn x.f1 c))) (T + makes (E ++ kpL (mn x.f1 c))) _ = true
    rw [et, em]
    have hp0 : 0 ≤ p := by have := (spans_bd h2).1; omega
    refine ih0 _ _ _ false _ _ (chn_suf [x] (chn_suf E h1)) m1 m3 (fun ht => ⟨by omega, ?_⟩) h9
    unfold Nxt
    rw [if_neg (by decide)]
    rcases k1.2 with h | h
    ·omega
    ·exact absurd h ht
   ·rw [mk1, if_neg k1]
    exact ih1 _ _ _ _ _ f a b (by rw [List.append_assoc]; exact h1) (fit_app h2 (fit_one hf)) (by rw [chB_app, h3]; rfl) (adv1_app _ _ h4) (adv2_app _ _ h5) h6 h7 h8 h9
def costH (h : List HkS) : Int := (h.map fun x => chgs x.f2).sum
theorem costH_cons (x : HkS) (h : List HkS) : costH (x :: h) = chgs x.f2 + costH h := by simp [costH]
theorem made_cost (c : Int) (hc : 0 ≤ c) (t : List EdS) : Fit t → (∀ (p q ah : Int), 0 ≤ ah → costH (mk0 c t p q ah) = chgs t) ∧ (∀ (p q F T : Int) (E : List EdS), costH (mk1 c t p q F T E) = chgs E + chgs t) := by
 induction t with
 | nil => intro _; exact ⟨fun p q ah _ => rfl, fun p q F T E => by simp [mk1, costH, chgs]⟩
 | cons x t ih =>
  intro hf
  obtain ⟨ih0, ih1⟩ := ih (fit_tail hf)
  refine ⟨fun p q ah h => ?_, fun p q F T E => ?_⟩
  ·by_cases k1 : x.f0 = 1
   ·obtain ⟨n1, _⟩ := keep_is hf k1
    rw [mk0, if_pos k1, ih0 _ _ _ (mn_of (by omega) hc).1, chgs, if_pos k1, Int.zero_add]
   ·rw [mk0, if_neg k1, ih1, chgs_app, (kp_takes h).2.2, chgs, chgs, chgs]
    omega
  ·by_cases k1 : x.f0 = 1 ∧ (x.f1 > 2 * c ∨ t = [])
   ·obtain ⟨n1, _⟩ := keep_is hf k1.1
    rw [mk1, if_pos k1, costH_cons, ih0 _ _ _ (mn_of (by omega) hc).1, chgs_app, (kp_takes (mn_of (by omega) hc).1).2.2, chgs, if_pos k1.1]
    omega
   ·rw [mk1, if_neg k1, ih1, chgs_app, chgs, chgs, chgs]
    omega
theorem wt_kp (n : Int) {c : Int} (h0 : 0 ≤ n) (h : n ≤ c) : (wt (kpL n) : Int) ≤ c + 1 := by have := wt_kpL n; omega
theorem made_wt (c : Int) (hc : 0 ≤ c) (t : List EdS) : Fit t → (∀ (p q ah : Int), 0 ≤ ah → ah ≤ c → (mk0 c t p q ah).length ≤ t.length ∧ ∀ y ∈ mk0 c t p q ah, (wt y.f2 : Int) ≤ wt t + 2 * c + 2) ∧
  (∀ (p q F T : Int) (E : List EdS), (mk1 c t p q F T E).length ≤ t.length + 1 ∧ ∀ y ∈ mk1 c t p q F T E, (wt y.f2 : Int) ≤ wt E + wt t + c + 1 ∨ (wt y.f2 : Int) ≤ wt t + 2 * c + 2) := by
 induction t with
 | nil =>
  intro _
  refine ⟨fun p q ah _ _ => ⟨Nat.le_refl _, fun y hy => by cases hy⟩, fun p q F T E => ⟨Nat.le_refl _, fun y hy => ?_⟩⟩
  rw [mk1] at hy
  rw [List.mem_singleton.1 hy, wt_nil]
  exact .inl (by show (wt E : Int) ≤ _; omega)
 | cons x t ih =>
  intro hf
  obtain ⟨ih0, ih1⟩ := ih (fit_tail hf)
  have hw : wt (x :: t) = wt1 x + wt t := wt_cons x t
  refine ⟨fun p q ah h h' => ?_, fun p q F T E => ?_⟩
  ·by_cases k1 : x.f0 = 1
   ·obtain ⟨n1, _⟩ := keep_is hf k1
    obtain ⟨m1, m2, m3, _⟩ := mn_of (n := x.f1) (by omega) hc
    rw [mk0, if_pos k1]
    obtain ⟨l1, l2⟩ := ih0 (adv1 p x) (adv2 q x) _ m1 m3
    exact ⟨by rw [List.length_cons]; omega, fun y hy => by have := l2 y hy; omega⟩
   ·rw [mk0, if_neg k1]
    obtain ⟨l1, l2⟩ := ih1 (adv1 p x) (adv2 q x) (p - ah) (q - ah) (kpL ah ++ [x])
    refine ⟨by rw [List.length_cons]; exact l1, fun y hy => ?_⟩
    have h1 := wt_kp ah h h'
    have h2 := l2 y hy
    rw [wt_app, wt_cons, wt_nil] at h2
    omega
  ·by_cases k1 : x.f0 = 1 ∧ (x.f1 > 2 * c ∨ t = [])
   ·obtain ⟨n1, _⟩ := keep_is hf k1.1
    obtain ⟨m1, m2, m3, _⟩ := mn_of (n := x.f1) (by omega) hc
    rw [mk1, if_pos k1]
    obtain ⟨l1, l2⟩ := ih0 (adv1 p x) (adv2 q x) _ m1 m3
    refine ⟨by simp only [List.length_cons]; omega, fun y hy => ?_⟩
    rcases List.mem_cons.1 hy with rfl | hy
    ·have := wt_kp _ m1 m3
     left
     show (wt (E ++ _) : Int) ≤ _
     rw [wt_app]; omega
    ·have := l2 y hy; right; omega
   ·rw [mk1, if_neg k1]
    obtain ⟨l1, l2⟩ := ih1 (adv1 p x) (adv2 q x) F T (E ++ [x])
    refine ⟨by rw [List.length_cons]; omega, fun y hy => ?_⟩
    have h2 := l2 y hy
    rw [wt_app, wt_cons, wt_nil] at h2
    omega
end Go.Proofs.Ytgobidmfbjmpkaa.Q
end
section
set_option linter.unusedVariables false
set_option linter.unusedSimpArgs false
namespace Go.Proofs.Ytgobidmfbjmpkaa.Q
open Go Go.RowKit Go.Proofs.Ytgobidmfbjmpkaa.P Go.Proofs.YtgobidmfbjmpkaaW.PrintWords Go.Proofs.YtgobidmfbjmpkaaW.PrintLast Go.Proofs.YtgobidmfbjmpkaaW.PrintMore
theorem pick6 {c : Int} (hc : -9223372036854775808 ≤ c ∧ c ≤ 9223372036854775807) {m : Int} {n : Nat} (hm : m = n) (hn : 0 < n) : collatorlaw06_pick.f c m = some (pk c n : Int) := pick_body hc hm hn
theorem script_ok {h : List HkS} (hr : Ev (fun k => hunks_Right.f k h) true) (hk : ∀ x ∈ h, (0 ≤ x.f0 ∧ x.f0 ≤ 2000000) ∧ rightB 0 x.f2 = true ∧ wt x.f2 ≤ 1000000) (hl : h.length ≤ 10000) {n : Int} (h0 : 0 ≤ n) (h1 : n ≤ 1048576) (he : endH h 0 ≤ n) :
  Ev (fun k => hunks_Script.f k h n) (joinL (joinL [] (flatH h 0)) (kpL (n - endH h 0)), 0) := by
 obtain ⟨s1, s2, s3, s4⟩ := scr_ev h [] 0 hk (Int.le_refl _) (by omega) (by rw [wt_nil]; omega)
 rw [wt_nil] at s2
 unfold hunks_Script.f
 refine Ev.bind hr ?_
 simp only [h0, h1, and_self, if_true, if_pos (show h.length ≤ 1000000000 by omega)]
 refine Ev.bind s1 ?_
 refine evneg (by show ¬ endH h 0 > n; omega) (evpos ⟨s3, ?_⟩ (Ev.now _))
 show wt (joinL [] (flatH h 0)) + n.natAbs + (endH h 0).natAbs + 2 ≤ 1000000000000
 omega
theorem script_no {h : List HkS} (hr : Ev (fun k => hunks_Right.f k h) true) (hk : ∀ x ∈ h, (0 ≤ x.f0 ∧ x.f0 ≤ 2000000) ∧ rightB 0 x.f2 = true ∧ wt x.f2 ≤ 1000000) (hl : h.length ≤ 10000) {n : Int} (h0 : 0 ≤ n) (h1 : n ≤ 1048576) (he : n < endH h 0) :
  Ev (fun k => hunks_Script.f k h n) ([], 11) := by
 obtain ⟨s1, s2, s3, s4⟩ := scr_ev h [] 0 hk (Int.le_refl _) (by omega) (by rw [wt_nil]; omega)
 unfold hunks_Script.f
 refine Ev.bind hr ?_
 simp only [h0, h1, and_self, if_true, if_pos (show h.length ≤ 1000000000 by omega)]
 refine Ev.bind s1 ?_
 exact evpos (by show endH h 0 > n; omega) (Ev.now _)
theorem right_mem {f : Bool} : ∀ {a b : Int} {h : List HkS}, rightH f a b h = true → ∀ x ∈ h, rightB 0 x.f2 = true ∧ chB x.f2 = true ∧ 0 ≤ x.f0 ∧ x.f0 ≤ 1048576 := by
 intro a b h
 induction h generalizing f a b with
 | nil => intro _ x hx; cases hx
 | cons y t ih =>
  intro hr x hx
  unfold rightH at hr
  simp only [Bool.and_eq_true, decide_eq_true_eq] at hr
  obtain ⟨h1, h2, h3, h4, _, h6⟩ := hr
  rcases List.mem_cons.1 hx with rfl | hx
  ·exact ⟨h1, h2, h3, h4⟩
  ·exact ih h6 x hx
/-- Hunks in order: where the last one ends. -/
theorem endH_le {f : Bool} : ∀ {a b : Int} {h : List HkS}, rightH f a b h = true → h = [] ∨ ∃ x ∈ h, endH h a = x.f0 + takes x.f2 := by
 intro a b h
 induction h generalizing f a b with
 | nil => intro _; exact .inl rfl
 | cons y t ih =>
  intro hr
  unfold rightH at hr
  simp only [Bool.and_eq_true, decide_eq_true_eq] at hr
  obtain ⟨_, _, _, _, _, h6⟩ := hr
  right
  rcases ih h6 with h0 | ⟨x, hx, he⟩
  ·subst h0; exact ⟨y, by simp, rfl⟩
  ·exact ⟨x, List.mem_cons_of_mem _ hx, he⟩
theorem made_end (c : Int) (hc : 0 ≤ c) (t : List EdS) : Fit t → (∀ (p q ah a : Int), 0 ≤ ah → a ≤ p → endH (mk0 c t p q ah) a ≤ p + takes t) ∧ (∀ (p q F T : Int) (E : List EdS) (a : Int), takes E = p - F → endH (mk1 c t p q F T E) a ≤ p + takes t) := by
 induction t with
 | nil =>
  intro _
  refine ⟨fun p q ah a _ h => (by simp only [mk0, endH, takes]; omega), fun p q F T E a h => ?_⟩
  simp only [mk1, endH, takes]; omega
 | cons x t ih =>
  intro hf
  obtain ⟨ih0, ih1⟩ := ih (fit_tail hf)
  have ha := adv1_le hf
  refine ⟨fun p q ah a hah h => ?_, fun p q F T E a h => ?_⟩
  ·rw [takes_one]
   by_cases k1 : x.f0 = 1
   ·rw [mk0, if_pos k1]; exact ih0 _ _ _ _ (mn_of (by have := (fit_head hf).1; omega) hc).1 (Int.le_trans h (ha p))
   ·rw [mk0, if_neg k1]; exact ih1 _ _ _ _ _ _ (adv1_app _ _ (show takes (kpL ah) = p - (p - ah) by rw [(kp_takes hah).1]; omega))
  ·rw [takes_one]
   by_cases k1 : x.f0 = 1 ∧ (x.f1 > 2 * c ∨ t = [])
   ·obtain ⟨n1, n2, n3, n4⟩ := keep_is hf k1.1
    obtain ⟨m1, m2, m3, _⟩ := mn_of (n := x.f1) (by omega) hc
    rw [mk1, if_pos k1]
    refine ih0 _ _ _ _ m1 ?_
    show F + takes (E ++ _) ≤ _
    rw [takes_app, h, (kp_takes m1).1, n3]; omega
   ·rw [mk1, if_neg k1]; exact ih1 _ _ _ _ _ _ (adv1_app _ _ h)
/-- All that the laws want of a raw script's hunks. -/
structure Made (s : List EdS) (n : Nat) (c : Int) (h : List HkS) : Prop where
 make : Ev (fun k => hunks_Make.f k s c) (h, 0)
 right : Ev (fun k => hunks_Right.f k h) true
 rightH : rightH true 0 0 h = true
 ok : ∀ x ∈ h, (0 ≤ x.f0 ∧ x.f0 ≤ 2000000) ∧ rightB 0 x.f2 = true ∧ wt x.f2 ≤ 1000000
 len : h.length ≤ 10
 script : Ev (fun k => hunks_Script.f k h (n : Int)) (s, 0)
 cost : costH h = chgs s
 small : ∀ x ∈ h, x.f2.length ≤ 1000
theorem adv2_le {x : EdS} {t : List EdS} (h : Fit (x :: t)) (p : Int) : p ≤ adv2 p x := by
 have := (fit_head h).1
 unfold adv2; split <;> omega
theorem makes_one (x : EdS) (t : List EdS) (p : Int) : p + makes (x :: t) = adv2 p x + makes t := by rw [makes]; unfold adv2; omega
theorem made_to (c : Int) (hc : 0 ≤ c) (t : List EdS) : Fit t → (∀ (p q ah : Int), 0 ≤ ah → ah ≤ c → ∀ y ∈ mk0 c t p q ah, q - c ≤ y.f1 ∧ y.f1 ≤ q + makes t) ∧ (∀ (p q F T : Int) (E : List EdS), ∀ y ∈ mk1 c t p q F T E, y.f1 = T ∨ (q - c ≤ y.f1 ∧ y.f1 ≤ q + makes t)) := by
 induction t with
 | nil =>
  intro _
  refine ⟨fun p q ah _ _ y hy => (by cases hy), fun p q F T E y hy => ?_⟩
  rw [mk1] at hy
  rw [List.mem_singleton.1 hy]
  exact .inl rfl
 | cons x t ih =>
  intro hf
  obtain ⟨ih0, ih1⟩ := ih (fit_tail hf)
  have ha := adv2_le hf
  have hm := (spans_bd (fit_tail hf)).2.2.1
  refine ⟨fun p q ah h h' y hy => ?_, fun p q F T E y hy => ?_⟩
  ·rw [makes_one]
   have hq := ha q
   by_cases k1 : x.f0 = 1
   ·rw [mk0, if_pos k1] at hy
    obtain ⟨m1, m2, m3, _⟩ := mn_of (n := x.f1) (by have := (fit_head hf).1; omega) hc
    have := ih0 _ _ _ m1 m3 y hy
    omega
   ·rw [mk0, if_neg k1] at hy
    have := ih1 _ _ _ _ _ y hy
    omega
  ·rw [makes_one]
   have hq := ha q
   by_cases k1 : x.f0 = 1 ∧ (x.f1 > 2 * c ∨ t = [])
   ·rw [mk1, if_pos k1] at hy
    obtain ⟨m1, m2, m3, _⟩ := mn_of (n := x.f1) (by have := (fit_head hf).1; omega) hc
    rcases List.mem_cons.1 hy with rfl | hy
    ·exact .inl rfl
    ·have := ih0 _ _ _ m1 m3 y hy
     right; omega
   ·rw [mk1, if_neg k1] at hy
    have := ih1 _ _ _ _ _ y hy
    omega
end Go.Proofs.Ytgobidmfbjmpkaa.Q
end
