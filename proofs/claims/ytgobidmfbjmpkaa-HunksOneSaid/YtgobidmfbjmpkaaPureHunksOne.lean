/- HunksOne in plain words: hunks that are applied one by one, the last one first, make what all of them make. -/
import Derived.Test.YtgobidmfbjmpkaaPxf4
import Derived.Test.YtgobidmfbjmpkaaGHq
set_option linter.unusedVariables false
set_option linter.unusedSimpArgs false
namespace Go.Proofs.Ytgobidmfbjmpkaa.Pure
open Go Go.RowKit Go.Proofs.Ytgobidmfbjmpkaa.P Go.Proofs.YtgobidmfbjmpkaaW.PrintWords Go.Proofs.YtgobidmfbjmpkaaW.PrintLast Go.Proofs.YtgobidmfbjmpkaaW.PrintMore Go.Proofs.Ytgobidmfbjmpkaa.Q
/-! ### What edits that are put together make -/
def Ok (s : List EdS) : Prop := ∀ x ∈ s, 0 ≤ x.f1 ∧ (x.f0 = 1 ∨ x.f0 = 2 ∨ x.f0 = 3)
theorem ok_tail {x : EdS} {s : List EdS} (h : Ok (x :: s)) : Ok s := fun y hy => h y (List.mem_cons_of_mem _ hy)
theorem ok_fit {s : List EdS} (h : Fit s) : Ok s := fun x hx => by
 obtain ⟨⟨h1, h2⟩, _⟩ := h x hx
 exact ⟨by omega, by rcases h2 with ⟨h2, _⟩ | ⟨h2, _⟩ <;> omega⟩
theorem ok_kp (n : Int) : Ok (kpL n) := by
 unfold kpL
 split
 ·intro x hx; cases hx
 ·intro x hx; rw [List.mem_singleton.1 hx]; exact ⟨by show 0 ≤ n; omega, .inl rfl⟩
theorem ok_app {s t : List EdS} (h1 : Ok s) (h2 : Ok t) : Ok (s ++ t) := fun x hx => (List.mem_append.1 hx).elim (h1 x) (h2 x)
theorem takes_ok {s : List EdS} (h : Ok s) : 0 ≤ takes s := by
 induction s with
 | nil => exact Int.le_refl _
 | cons x s ih =>
  have h1 := ih (ok_tail h)
  have h2 := (h x (by simp)).1
  rw [takes]
  split <;> omega
theorem appl_app {s : List EdS} (hs : Ok s) (t : List EdS) : ∀ a : List ByteArray, appl (s ++ t) a = appl s a ++ appl t (a.drop (takes s).toNat) := by
 induction s with
 | nil => intro a; simp [appl, takes]
 | cons x s ih =>
  intro a
  obtain ⟨hp, ho⟩ := hs x (by simp)
  have hs' := ok_tail hs
  have ht := takes_ok hs'
  rw [List.cons_append, appl, appl, takes]
  rcases ho with h1 | h1 | h1
  ·rw [if_pos h1, if_pos h1, if_neg (by rw [h1]; decide), ih hs', List.append_assoc, List.drop_drop, show x.f1.toNat + (takes s).toNat = (x.f1 + takes s).toNat by omega]
  ·have n1 : ¬ x.f0 = 1 := by rw [h1]; decide
   have n3 : ¬ x.f0 = 3 := by rw [h1]; decide
   simp only [if_neg n1, if_neg n3, if_pos h1]
   rw [ih hs', List.drop_drop, show x.f1.toNat + (takes s).toNat = (x.f1 + takes s).toNat by omega]
  ·have n1 : ¬ x.f0 = 1 := by rw [h1]; decide
   have n2 : ¬ x.f0 = 2 := by rw [h1]; decide
   simp only [if_neg n1, if_neg n2, if_pos h1]
   rw [ih hs', List.append_assoc, Int.zero_add]
theorem appl_kp {n : Int} (h : 0 ≤ n) (a : List ByteArray) : appl (kpL n) a = a.take n.toNat := by
 unfold kpL
 split
 ·rw [show n = 0 by omega]; simp [appl]
 ·show (if (1 : Int) = 1 then a.take n.toNat ++ [] else _) = _
  rw [if_pos rfl, List.append_nil]
theorem take_two {m n : Int} (hm : 0 ≤ m) (hn : 0 ≤ n) {b : List ByteArray} : b.take (m + n).toNat = b.take m.toNat ++ (b.drop m.toNat).take n.toNat := by
 rw [← List.take_add]; congr 1; omega
theorem join1_ok {s : List EdS} {x : EdS} (hs : Ok s) (hx : 0 ≤ x.f1 ∧ (x.f0 = 1 ∨ x.f0 = 2 ∨ x.f0 = 3)) : Ok (join1 s x) ∧ takes (join1 s x) = takes s + takes [x] ∧ ∀ a, appl (join1 s x) a = appl (s ++ [x]) a := by
 rcases List.eq_nil_or_concat s with h0 | ⟨u, z, h0⟩
 ·subst h0
  exact ⟨fun y hy => by rw [join1_nil] at hy; rw [List.mem_singleton.1 hy]; exact hx, by rw [join1_nil]; simp [takes], fun a => rfl⟩
 ·rw [List.concat_eq_append] at h0
  subst h0
  have hz := hs z (by simp)
  have hu : Ok u := fun y hy => hs y (List.mem_append_left _ hy)
  rw [join1_snoc]
  by_cases hk : z.f0 = x.f0
  ·rw [if_pos hk]
   refine ⟨ok_app hu (fun y hy => by rw [List.mem_singleton.1 hy]; exact ⟨by show 0 ≤ z.f1 + x.f1; omega, hz.2⟩), ?_, fun a => ?_⟩
   ·rw [takes_app, takes_app]
    simp only [takes, ← hk]
    split <;> omega
   ·rw [List.append_assoc, appl_app hu, appl_app hu]
    congr 1
    generalize a.drop (takes u).toNat = b
    rw [List.singleton_append]
    rcases hz.2 with h1 | h1 | h1
    ·have k1 := hk.symm.trans h1
     simp only [appl, if_pos h1, if_pos k1, List.append_nil]
     rw [take_two hz.1 hx.1]
    ·have k1 := hk.symm.trans h1
     have n1 : ¬ z.f0 = 1 := by rw [h1]; decide
     have n2 : ¬ x.f0 = 1 := by rw [k1]; decide
     simp only [appl, if_neg n1, if_neg n2, if_pos h1, if_pos k1]
    ·have k1 := hk.symm.trans h1
     have n1 : ¬ z.f0 = 1 := by rw [h1]; decide
     have n2 : ¬ x.f0 = 1 := by rw [k1]; decide
     have n3 : ¬ z.f0 = 2 := by rw [h1]; decide
     have n4 : ¬ x.f0 = 2 := by rw [k1]; decide
     simp only [appl, if_neg n1, if_neg n2, if_neg n3, if_neg n4, List.append_nil]
  ·rw [if_neg hk]
   refine ⟨ok_app hs (fun y hy => by rw [List.mem_singleton.1 hy]; exact hx), takes_app _ _, fun a => rfl⟩
theorem joinL_ok (t : List EdS) : ∀ {s : List EdS}, Ok s → Ok t → Ok (joinL s t) ∧ takes (joinL s t) = takes s + takes t ∧ ∀ a, appl (joinL s t) a = appl (s ++ t) a := by
 induction t with
 | nil => intro s hs _; exact ⟨hs, by rw [joinL_nil, takes, Int.add_zero], fun a => by rw [joinL_nil, List.append_nil]⟩
 | cons x t ih =>
  intro s hs ht
  obtain ⟨j1, j2, j3⟩ := join1_ok hs (ht x (by simp))
  obtain ⟨i1, i2, i3⟩ := ih j1 (ok_tail ht)
  refine ⟨i1, ?_, fun a => ?_⟩
  ·rw [joinL_cons, i2, j2, takes, takes, takes]; omega
  ·rw [joinL_cons, i3, appl_app j1, j3, j2, ← takes_app, ← appl_app (ok_app hs (fun y hy => by rw [List.mem_singleton.1 hy]; exact ht x (by simp))), List.append_assoc]
   rfl
theorem chn_keep_end {s : List EdS} {r : Int} (h : Chn s) : Chn (joinL s (kpL r)) := by
 unfold kpL
 split
 ·exact h
 ·rcases List.eq_nil_or_concat s with h0 | ⟨u, z, h0⟩
  ·subst h0; trivial
  ·rw [List.concat_eq_append] at h0
   subst h0
   show Chn (join1 _ _)
   rw [join1_snoc]
   split
   ·rename_i hk; exact chn_last u z _ h rfl
   ·rename_i hk
    exact chn_snoc u z _ h ⟨hk, fun e => absurd (show (1 : Int) = 2 from e.2) (by decide)⟩
theorem chn_keep_front {E : List EdS} {F : Int} (h : Chn E) : Chn (joinL (kpL F) E) := by
 unfold kpL
 split
 ·rw [join_chn E [] (by rw [List.nil_append]; exact h), List.nil_append]; exact h
 ·cases E with
  | nil => trivial
  | cons x t =>
   rw [joinL_cons]
   have e : join1 [(⟨1, F, []⟩ : EdS)] x = if (1 : Int) = x.f0 then [⟨1, F + x.f1, [] ++ x.f2⟩] else [⟨1, F, []⟩, x] := join1_snoc [] ⟨1, F, []⟩ x
   rw [e]
   split
   ·rename_i hk
    have hc : Chn ([(⟨1, F + x.f1, [] ++ x.f2⟩ : EdS)] ++ t) := by
     cases t with
     | nil => trivial
     | cons y t => exact ⟨⟨by show (1 : Int) ≠ y.f0; rw [hk]; exact h.1.1, fun e => absurd (show (1 : Int) = 3 from e.1) (by decide)⟩, h.2⟩
    rw [join_chn t _ hc]; exact hc
   ·rename_i hk
    have hc : Chn ([(⟨1, F, []⟩ : EdS), x] ++ t) := ⟨⟨hk, fun e => absurd (show (1 : Int) = 3 from e.1) (by decide)⟩, h⟩
    rw [join_chn t _ hc]; exact hc
theorem fit_join1 {s : List EdS} {x : EdS} (hs : Fit s) (hx : May x) (hb : (wt s : Int) + x.f1 ≤ 1048576) : Fit (join1 s x) := by
 rcases List.eq_nil_or_concat s with h0 | ⟨u, z, h0⟩
 ·subst h0
  intro y hy
  rw [join1_nil] at hy
  rw [List.mem_singleton.1 hy]
  exact ⟨hx, by omega⟩
 ·rw [List.concat_eq_append] at h0
  subst h0
  have hz := hs z (by simp)
  have hu : Fit u := fun y hy => hs y (List.mem_append_left _ hy)
  have hwz := wt_mem (s := u ++ [z]) (e := z) (by simp)
  unfold wt1 at hwz
  rw [join1_snoc]
  split
  ·rename_i hk
   refine fit_app hu (fun y hy => ?_)
   rw [List.mem_singleton.1 hy]
   obtain ⟨⟨z1, z2⟩, z3⟩ := hz
   obtain ⟨x1, x2⟩ := hx
   refine ⟨⟨by show 1 ≤ z.f1 + x.f1; omega, ?_⟩, by show z.f1 + x.f1 ≤ 1048576; omega⟩
   rcases z2 with ⟨z4, z5⟩ | ⟨z4, z5⟩
   ·rcases x2 with ⟨x4, x5⟩ | ⟨x4, x5⟩
    ·exact .inl ⟨z4, by show z.f2 ++ x.f2 = []; rw [z5, x5]; rfl⟩
    ·exfalso; omega
   ·rcases x2 with ⟨x4, x5⟩ | ⟨x4, x5⟩
    ·exfalso; omega
    ·refine .inr ⟨z4, ?_⟩
     show (((z.f2 ++ x.f2).length : Nat) : Int) = z.f1 + x.f1
     rw [List.length_append]; omega
  ·exact fit_app hs (fun y hy => by rw [List.mem_singleton.1 hy]; exact ⟨hx, by omega⟩)
theorem fit_joinL (t : List EdS) : ∀ {s : List EdS}, Fit s → Fit t → (wt s : Int) + wt t ≤ 1048576 → Fit (joinL s t) := by
 induction t with
 | nil => intro s hs _ _; exact hs
 | cons x t ih =>
  intro s hs ht hw
  rw [wt_cons] at hw
  have hx := ht x (by simp)
  have hw1 := wt_join1 s x
  have h1 : x.f1 ≤ (wt1 x : Int) := by unfold wt1; omega
  rw [joinL_cons]
  exact ih (fit_join1 hs hx.1 (by omega)) (fit_tail ht) (by omega)
theorem fit_kp' {n : Int} (h : n ≤ 1000000) : Fit (kpL n) := fit_kp (by omega)
/-! ### One hunk alone -/
theorem apply_one {F : Int} {E : List EdS} (hF : 0 ≤ F ∧ F ≤ 1000) (hE : rightB 0 E = true) (hc : chB E = true) (hw : wt E ≤ 1000) {l : List ByteArray} (hl : l.length ≤ 100000) (he : F + takes E ≤ l.length) :
  Ev (fun k => hunks_Apply.f k [(⟨F, F, E⟩ : HkS)] l) (l.take F.toNat ++ (appl E (l.drop F.toNat) ++ l.drop (F + takes E).toNat), 0) := by
 obtain ⟨hf, hn⟩ := (right_iff E).1 hE
 obtain ⟨t0, t1⟩ := takes_wt hf
 have hwl := wt_len E
 have hR : rightH true 0 0 [(⟨F, F, E⟩ : HkS)] = true := rightH_cons hE hc (by show 0 ≤ F; omega) (by show F ≤ 1048576; omega) (show F = F from rfl) rfl
 have hRE : Ev (fun k => hunks_Right.f k [(⟨F, F, E⟩ : HkS)]) true := by
  have := rightH_ev [(⟨F, F, E⟩ : HkS)] (by simp) (fun x hx => by rw [List.mem_singleton.1 hx]; exact ⟨by show E.length ≤ _; omega, by show -9223372036854775808 ≤ F ∧ F ≤ _; omega, by show -9223372036854775808 ≤ F ∧ F ≤ _; omega⟩)
  rw [hR] at this
  exact this
 have hk : ∀ x ∈ [(⟨F, F, E⟩ : HkS)], (0 ≤ x.f0 ∧ x.f0 ≤ 2000000) ∧ rightB 0 x.f2 = true ∧ wt x.f2 ≤ 1000000 := fun x hx => by
  rw [List.mem_singleton.1 hx]
  exact ⟨⟨by show 0 ≤ F; omega, by show F ≤ _; omega⟩, hE, by show wt E ≤ _; omega⟩
 have hs := script_ok hRE hk (by simp) (n := (l.length : Int)) (by omega) (by omega) he
 have e1 : flatH [(⟨F, F, E⟩ : HkS)] 0 = kpL F ++ E := by simp [flatH]
 have e2 : endH [(⟨F, F, E⟩ : HkS)] 0 = F + takes E := rfl
 rw [e1, e2] at hs
 generalize hr : (l.length : Int) - (F + takes E) = r at hs
 have hS : joinL (joinL [] (kpL F ++ E)) (kpL r) = joinL (joinL (kpL F) E) (kpL r) := by
  rw [joinL_app]
  congr 2
  unfold kpL
  split <;> rfl
 rw [hS] at hs
 have w1 := wt_kpL F
 have w2 := wt_kpL r
 have w3 := wt_joinL E (kpL F)
 have hF1 : Fit (joinL (kpL F) E) := fit_joinL E (fit_kp' (by omega)) hf (by omega)
 have hF2 : Fit (joinL (joinL (kpL F) E) (kpL r)) := fit_joinL _ hF1 (fit_kp' (by omega)) (by omega)
 have hC2 : Chn (joinL (joinL (kpL F) E) (kpL r)) := chn_keep_end (chn_keep_front hn)
 have hB2 : rightB 0 (joinL (joinL (kpL F) E) (kpL r)) = true := (right_iff _).2 ⟨hF2, hC2⟩
 obtain ⟨o1, o2, o3⟩ := joinL_ok E (ok_kp F) (ok_fit hf)
 obtain ⟨p1, p2, p3⟩ := joinL_ok (kpL r) o1 (ok_kp r)
 have hT : takes (joinL (joinL (kpL F) E) (kpL r)) = (l.length : Int) := by
  rw [p2, o2, (kp_takes hF.1).1, (kp_takes (by omega : 0 ≤ r)).1]; omega
 have w4 := wt_len (joinL (joinL (kpL F) E) (kpL r))
 have w5 := wt_joinL (kpL r) (joinL (kpL F) E)
 have ha := apply_ev _ l (by omega) hB2 hT
 have hA : appl (joinL (joinL (kpL F) E) (kpL r)) l = l.take F.toNat ++ (appl E (l.drop F.toNat) ++ l.drop (F + takes E).toNat) := by
  rw [p3, appl_app o1, o3, appl_app (ok_kp F), appl_kp hF.1, o2, (kp_takes hF.1).1, appl_kp (by omega), List.append_assoc]
  congr 2
  exact List.take_of_length_le (by rw [List.length_drop]; omega)
 rw [hA] at ha
 unfold hunks_Apply.f
 refine Ev.bind hs (evpos rfl ?_)
 exact Ev.bind ha (Ev.now _)
/-! ### What the hunks from here on make -/
def Rst (a : List ByteArray) (n e : Int) (h : List HkS) : List ByteArray := a.take e.toNat ++ appl (flatH h e ++ kpL (n - endH h e)) (a.drop e.toNat)
def OrdH : Int → List HkS → Prop
 | _, [] => True
 | e, x :: t => e ≤ x.f0 ∧ 0 ≤ takes x.f2 ∧ OrdH (x.f0 + takes x.f2) t
theorem ord_of {f : Bool} : ∀ {a b : Int} {h : List HkS}, (f = true → a = 0) → rightH f a b h = true → OrdH a h := by
 intro a b h
 induction h generalizing f a b with
 | nil => intro _ _; trivial
 | cons x t ih =>
  intro h0 hr
  unfold rightH at hr
  simp only [Bool.and_eq_true, decide_eq_true_eq] at hr
  obtain ⟨h1, h2, h3, h4, h5, h6⟩ := hr
  refine ⟨?_, (takes_wt ((right_iff _).1 h1).1).1, ih (fun h => Bool.noConfusion h) h6⟩
  cases f with
  | true => rw [h0 rfl]; exact h3
  | false => simp at h5; omega
theorem ord_end : ∀ {e : Int} {h : List HkS}, OrdH e h → e ≤ endH h e := by
 intro e h
 induction h generalizing e with
 | nil => intro _; exact Int.le_refl _
 | cons x t ih => intro ⟨h1, h2, h3⟩; have := ih h3; show e ≤ endH t _; omega
theorem ord_suf : ∀ {e : Int} {p s : List HkS}, OrdH e (p ++ s) → OrdH (endH p e) s := by
 intro e p
 induction p generalizing e with
 | nil => intro s h; exact h
 | cons x p ih => intro s h; exact ih h.2.2
theorem end_app : ∀ (p s : List HkS) (e : Int), endH (p ++ s) e = endH s (endH p e) := by
 intro p
 induction p with
 | nil => intro s e; rfl
 | cons x p ih => intro s e; exact ih s _
theorem appl_le {s : List EdS} (hs : Fit s) : ∀ a : List ByteArray, (appl s a).length ≤ a.length + wt s := by
 induction s with
 | nil => intro a; simp [appl]
 | cons x s ih =>
  intro a
  have ih' := ih (fit_tail hs)
  obtain ⟨f1, f2, f3, f4, f5⟩ := fit_head hs
  rw [appl, wt_cons]
  unfold wt1
  split
  ·have := ih' (a.drop x.f1.toNat)
   rw [List.length_append, List.length_take]
   rw [List.length_drop] at this
   omega
  ·split
   ·have := ih' (a.drop x.f1.toNat)
    rw [List.length_drop] at this
    omega
   ·have := ih' a
    rw [List.length_append]
    omega
theorem appl_take {s : List EdS} (hs : Ok s) : ∀ (a b : List ByteArray), takes s ≤ a.length → appl s (a ++ b) = appl s a := by
 induction s with
 | nil => intro a b _; rfl
 | cons x s ih =>
  intro a b h
  obtain ⟨hp, ho⟩ := hs x (by simp)
  have hs' := ok_tail hs
  have ht := takes_ok hs'
  rw [takes] at h
  rw [appl, appl]
  rcases ho with h1 | h1 | h1
  ·rw [if_neg (by rw [h1]; decide)] at h
   rw [if_pos h1, if_pos h1, List.take_append_of_le_length (by omega), List.drop_append_of_le_length (by omega), ih hs' _ _ (by rw [List.length_drop]; omega)]
  ·rw [if_neg (by rw [h1]; decide)] at h
   have n1 : ¬ x.f0 = 1 := by rw [h1]; decide
   simp only [if_neg n1, if_pos h1]
   rw [List.drop_append_of_le_length (by omega), ih hs' _ _ (by rw [List.length_drop]; omega)]
  ·rw [if_pos h1] at h
   have n1 : ¬ x.f0 = 1 := by rw [h1]; decide
   have n2 : ¬ x.f0 = 2 := by rw [h1]; decide
   simp only [if_neg n1, if_neg n2]
   rw [ih hs' _ _ (by omega)]
theorem rst_step (a : List ByteArray) (x : HkS) (t : List HkS) (e : Int) (he : 0 ≤ e) (h1 : e ≤ x.f0) (hE : Ok x.f2) (hend : x.f0 + takes x.f2 ≤ a.length) :
  Rst a (a.length : Int) e (x :: t) = (Rst a (a.length : Int) (x.f0 + takes x.f2) t).take x.f0.toNat ++ (appl x.f2 ((Rst a (a.length : Int) (x.f0 + takes x.f2) t).drop x.f0.toNat) ++ (Rst a (a.length : Int) (x.f0 + takes x.f2) t).drop (x.f0 + takes x.f2).toNat) := by
 have ht := takes_ok hE
 generalize hW : appl (flatH t (x.f0 + takes x.f2) ++ kpL ((a.length : Int) - endH t (x.f0 + takes x.f2))) (a.drop (x.f0 + takes x.f2).toNat) = W
 have e1 : Rst a (a.length : Int) (x.f0 + takes x.f2) t = a.take (x.f0 + takes x.f2).toNat ++ W := by unfold Rst; rw [hW]
 have l1 : (a.take (x.f0 + takes x.f2).toNat).length = (x.f0 + takes x.f2).toNat := by rw [List.length_take]; omega
 have e2 : (a.take (x.f0 + takes x.f2).toNat ++ W).take x.f0.toNat = a.take x.f0.toNat := by
  rw [List.take_append_of_le_length (by omega), List.take_take]; congr 1; omega
 have e3 : (a.take (x.f0 + takes x.f2).toNat ++ W).drop (x.f0 + takes x.f2).toNat = W := List.drop_left' l1
 have e4 : appl x.f2 ((a.take (x.f0 + takes x.f2).toNat ++ W).drop x.f0.toNat) = appl x.f2 (a.drop x.f0.toNat) := by
  rw [List.drop_append_of_le_length (by omega), appl_take hE _ _ (by rw [List.length_drop]; omega)]
  have : a.drop x.f0.toNat = (a.take (x.f0 + takes x.f2).toNat).drop x.f0.toNat ++ a.drop (x.f0 + takes x.f2).toNat := by
   rw [← List.drop_append_of_le_length (by omega), List.take_append_drop]
  rw [this, appl_take hE _ _ (by rw [List.length_drop]; omega)]
 rw [e1, e2, e3, e4]
 unfold Rst
 have e5 : flatH (x :: t) e ++ kpL ((a.length : Int) - endH (x :: t) e) = kpL (x.f0 - e) ++ (x.f2 ++ (flatH t (x.f0 + takes x.f2) ++ kpL ((a.length : Int) - endH t (x.f0 + takes x.f2)))) := by
  rw [flatH, List.append_assoc, List.append_assoc]; rfl
 rw [e5, appl_app (ok_kp _), appl_kp (by omega), (kp_takes (by omega : 0 ≤ x.f0 - e)).1, appl_app hE, List.drop_drop, List.drop_drop]
 rw [show e.toNat + (x.f0 - e).toNat = x.f0.toNat by omega, show x.f0.toNat + (takes x.f2).toNat = (x.f0 + takes x.f2).toNat by omega, hW, ← List.append_assoc, List.append_assoc]
 rw [← List.append_assoc]
 congr 1
 have h6 : a.take x.f0.toNat = a.take e.toNat ++ (a.drop e.toNat).take (x.f0 - e).toNat := by
  rw [← List.take_add]; congr 1; omega
 exact h6.symm
/-! ### Texts -/
theorem rdB' {s : List ByteArray} {i : Nat} {x : ByteArray} (h : s[i]? = some x) : rdOf ByteArray.empty s (i : Int) = x := rdB h
theorem texts_same (a : List ByteArray) (ha : a.length ≤ 1000000) (t : List ByteArray) : ∀ i : Nat, a.drop i = t → Ev (fun k => collatorref01_Texts.l0 k a a (i : Int)) true := by
 induction t with
 | nil =>
  intro i hd
  have := drop_nil hd
  refine Ev.step (f := fun _ => some true) (fun k => ?_) (Ev.now _)
  simp only [collatorref01_Texts.l0]
  rw [if_neg (by omega)]
 | cons x t ih =>
  intro i hd
  obtain ⟨hi, hx, hd'⟩ := drop_cons hd
  refine Ev.step (f := fun k => _) (fun k => by simp only [collatorref01_Texts.l0]; rfl) ?_
  refine evpos (by omega) (evpos (by omega) (evpos (by omega) (evpos (by trivial) ?_)))
  simp only [wi (i := i) (by omega)]
  exact ih (i + 1) hd'
theorem texts_self (a : List ByteArray) (ha : a.length ≤ 1000000) : Ev (fun k => collatorref01_Texts.f k a a) true := by
 unfold collatorref01_Texts.f
 simp only [if_pos (rfl : (a.length : Int) = (a.length : Int))]
 exact texts_same a ha a 0 rfl
theorem one_loop {h : List HkS} {a : List ByteArray} (hR : rightH true 0 0 h = true) (hsm : ∀ x ∈ h, wt x.f2 ≤ 1000 ∧ x.f0 ≤ 1000) (hl : h.length ≤ 10) (hend : endH h 0 ≤ a.length) (ha : a.length ≤ 1000) (hfl : ∀ p s : List HkS, h = p ++ s → Fit (flatH s (endH p 0) ++ kpL ((a.length : Int) - endH h 0)) ∧ wt (flatH s (endH p 0) ++ kpL ((a.length : Int) - endH h 0)) ≤ 50000) :
  ∀ (n : Nat), n ≤ h.length → Ev (fun k => collatorlaw06_HunksOne.l0 k true h 0 (Rst a (a.length : Int) 0 h) 0 (Rst a (a.length : Int) (endH (h.take n) 0) (h.drop n)) ((n : Int) - 1)) true := by
 have hO := ord_of (a := 0) (b := 0) (fun _ => rfl) hR
 have lenR : ∀ n, (Rst a (a.length : Int) (endH (h.take n) 0) (h.drop n)).length ≤ 60000 := by
  intro n
  obtain ⟨g1, g2⟩ := hfl (h.take n) (h.drop n) (List.take_append_drop n h).symm
  have e : endH (h.drop n) (endH (h.take n) 0) = endH h 0 := by rw [← end_app, List.take_append_drop]
  unfold Rst
  rw [e, List.length_append, List.length_take]
  have := appl_le g1 (a.drop (endH (h.take n) 0).toNat)
  rw [List.length_drop] at this
  omega
 intro n
 induction n with
 | zero =>
  intro _
  refine Ev.step (f := fun k => _) (fun k => by simp only [collatorlaw06_HunksOne.l0]; rfl) ?_
  refine evneg (by omega) (evpos (by trivial) (evpos (by trivial) (evpos (by trivial) ?_)))
  have h0 := lenR 0
  simp only [List.take_zero, List.drop_zero] at h0 ⊢
  exact Ev.bind (texts_self _ (by show (Rst a (a.length : Int) 0 h).length ≤ _; exact Nat.le_trans h0 (by omega))) (Ev.now _)
 | succ n ih =>
  intro hn
  have hi : n < h.length := by omega
  have hx : h[n]? = some h[n] := List.getElem?_eq_getElem hi
  obtain ⟨x, hxe⟩ : ∃ x, x = h[n] := ⟨_, rfl⟩
  rw [← hxe] at hx
  have hm : x ∈ h := List.mem_of_getElem? hx
  obtain ⟨r1, r2, r3, r4⟩ := right_mem hR x hm
  obtain ⟨w1, w2⟩ := hsm x hm
  have hd : h.drop n = x :: h.drop (n + 1) := by rw [hxe]; exact List.drop_eq_getElem_cons hi
  have ht : h.take (n + 1) = h.take n ++ [x] := by rw [List.take_add_one, hx]; rfl
  have e1 : endH (h.take (n + 1)) 0 = x.f0 + takes x.f2 := by rw [ht, end_app]; rfl
  have hO1 : OrdH (endH (h.take n) 0) (x :: h.drop (n + 1)) := by
   rw [← hd]
   exact ord_suf (p := h.take n) (by rw [List.take_append_drop]; exact hO)
  have hO2 := ord_end hO1.2.2
  have e3 : endH (h.drop (n + 1)) (x.f0 + takes x.f2) = endH h 0 := by rw [← e1, ← end_app, List.take_append_drop]
  rw [e3] at hO2
  have he0 : 0 ≤ endH (h.take n) 0 := by
   have : OrdH 0 (h.take n) := by
    have gen : ∀ (p s : List HkS) (e : Int), OrdH e (p ++ s) → OrdH e p := by
     intro p
     induction p with
     | nil => intro _ _ _; trivial
     | cons y p ih => intro s e h; exact ⟨h.1, h.2.1, ih s _ h.2.2⟩
    exact gen _ (h.drop n) _ (by rw [List.take_append_drop]; exact hO)
   exact ord_end this
  have hst := rst_step a x (h.drop (n + 1)) (endH (h.take n) 0) he0 hO1.1 (ok_fit ((right_iff _).1 r1).1) (by omega)
  have hl1 := lenR (n + 1)
  rw [e1] at hl1
  have hlen : x.f0 + takes x.f2 ≤ ((Rst a (a.length : Int) (x.f0 + takes x.f2) (h.drop (n + 1))).length : Int) := by
   unfold Rst
   rw [List.length_append, List.length_take]
   have := (takes_wt ((right_iff _).1 r1).1).1
   omega
  have hap := apply_one ⟨r3, w2⟩ r1 r2 w1 (l := Rst a (a.length : Int) (x.f0 + takes x.f2) (h.drop (n + 1))) (by omega) hlen
  rw [← hst, ← hd] at hap
  rw [e1]
  refine Ev.step (f := fun k => _) (fun k => by simp only [collatorlaw06_HunksOne.l0]; rfl) ?_
  have en : (((n + 1 : Nat) : Int) - 1) = (n : Int) := by omega
  simp only [en]
  refine evpos (by omega) (evpos (by omega) (evpos (by omega) ?_))
  simp only [rdH hx]
  refine Ev.bind hap (evpos (by trivial) ?_)
  simp only [w64 (x := (n : Int) - 1) (by omega) (by omega)]
  exact ih (by omega)
theorem HunksOne : collatorlaw06_HunksOne.Pure := by
 intro l0 l1 a2 h1 h2 h3 h4 h5 h6 h7
 refine Ev.rounds (g := fun k => collatorlaw06_HunksOne.f k l0 l1 a2) ?_
 unfold maxLen at h1 h4
 obtain ⟨s, L, hS, hraw⟩ := script_raw_ev l0 l1 h3 (by omega) h6 (by omega)
 have hp := pk_lt a2 (n := 6) (by omega)
 obtain ⟨c, hc⟩ : ∃ c : Int, c = (pk a2 6 : Int) := ⟨_, rfl⟩
 have M := raw_made hraw (c := c) (by omega) (by omega)
 have hmost := hraw.most
 have hs : s.length ≤ 1000000 := by have := hraw.len; omega
 obtain ⟨x1, x2⟩ := (made_wt c (by omega) s hraw.fit).1 0 0 0 (Int.le_refl _) (by omega)
 have hww := raw_wt hraw.fit hraw.small
 have hlen := hraw.len
 have hend : endH (made c s) 0 ≤ takes s := by
  have := (made_end c (by omega) s hraw.fit).1 0 0 0 0 (Int.le_refl _) (Int.le_refl _)
  rw [Int.zero_add] at this
  exact this
 have hO := ord_of (a := 0) (b := 0) (fun _ => rfl) M.rightH
 have hff : ∀ x ∈ made c s, x.f0 ≤ 1000 := by
  have gen : ∀ (h : List HkS) (e : Int), OrdH e h → ∀ x ∈ h, x.f0 ≤ endH h e := by
   intro h
   induction h with
   | nil => intro _ _ x hx; cases hx
   | cons y t ih =>
    intro e ho x hx
    rcases List.mem_cons.1 hx with rfl | hx
    ·have h1 := ord_end ho.2.2
     have h2 := ho.2.1
     show x.f0 ≤ endH t _
     omega
    ·exact ih _ ho.2.2 x hx
  intro x hx
  have := gen _ _ hO x hx
  have := hraw.takes_
  omega
 have ht := hraw.takes_
 have hwx : ∀ x ∈ made c s, wt x.f2 ≤ 1000 := fun x hx => by have := x2 x hx; omega
 -- all at once
 have hb := (back c (by omega) s hraw.fit).1 0 0 0 [] 0 (Int.le_refl _) (Int.le_refl _) (fun _ => by omega)
 rw [Int.zero_add, show (0 : Int) - 0 = 0 by omega, kpL_neg (n := 0) (by omega), joinL_nil, join_chn s [] (by rw [List.nil_append]; exact hraw.chn), List.nil_append] at hb
 have hfit : ∀ p q : List HkS, made c s = p ++ q → Fit (flatH q (endH p 0)) ∧ wt (flatH q (endH p 0)) ≤ q.length * 3000 := by
  have gen : ∀ (q : List HkS) (e : Int), 0 ≤ e → e ≤ 2000 → (∀ x ∈ q, rightB 0 x.f2 = true ∧ wt x.f2 ≤ 1000 ∧ 0 ≤ x.f0 ∧ x.f0 ≤ 1000) → OrdH e q → Fit (flatH q e) ∧ wt (flatH q e) ≤ q.length * 3000 := by
   intro q
   induction q with
   | nil => intro e _ _ _ _; exact ⟨fun x hx => (by cases hx), Nat.zero_le _⟩
   | cons x q ih =>
    intro e h0 h1 hq ho
    obtain ⟨g1, g2, g3, g4⟩ := hq x (by simp)
    obtain ⟨gf, _⟩ := (right_iff _).1 g1
    obtain ⟨t0, t1⟩ := takes_wt gf
    obtain ⟨i1, i2⟩ := ih (x.f0 + takes x.f2) (by omega) (by omega) (fun y hy => hq y (List.mem_cons_of_mem _ hy)) ho.2.2
    have hk := wt_kpL (x.f0 - e)
    have ho1 : e ≤ x.f0 := ho.1
    refine ⟨fit_app (fit_kp (by omega)) (fit_app gf i1), ?_⟩
    rw [flatH, wt_app, wt_app, List.length_cons]
    omega
  intro p q hpq
  have hpq' : OrdH 0 (p ++ q) := by rw [← hpq]; exact hO
  have he1 := ord_end (ord_suf hpq')
  have e2 : endH q (endH p 0) = endH (made c s) 0 := by rw [hpq, end_app]
  rw [e2] at he1
  refine gen q _ ?_ (by omega) (fun x hx => ?_) (ord_suf hpq')
  ·have : OrdH 0 p := by
    have gen : ∀ (p s : List HkS) (e : Int), OrdH e (p ++ s) → OrdH e p := by
     intro p
     induction p with
     | nil => intro _ _ _; trivial
     | cons y p ih => intro s e h; exact ⟨h.1, h.2.1, ih s _ h.2.2⟩
    exact gen _ q _ hpq'
   exact ord_end this
  ·have hm : x ∈ made c s := by rw [hpq]; exact List.mem_append_right _ hx
   obtain ⟨r1, r2, r3, r4⟩ := right_mem M.rightH x hm
   exact ⟨r1, hwx x hm, r3, hff x hm⟩
 have hall : appl s L = Rst L (L.length : Int) 0 (made c s) := by
  obtain ⟨g1, g2⟩ := hfit [] (made c s) rfl
  obtain ⟨o1, o2, o3⟩ := joinL_ok (flatH (made c s) 0 ++ kpL (takes s - endH (made c s) 0)) (s := []) (fun x hx => by cases hx) (ok_app (ok_fit g1) (ok_kp _))
  have hb' : joinL [] (flatH (made c s) 0 ++ kpL (takes s - endH (made c s) 0)) = s := hb
  have h3 := o3 L
  rw [hb', List.nil_append, ht] at h3
  rw [h3]
  unfold Rst
  simp
 have hA : Ev (fun k => hunks_Apply.f k (made c s) L) (appl s L, 0) := by
  unfold hunks_Apply.f
  refine Ev.bind M.script (evpos (by trivial) ?_)
  exact Ev.bind (apply_ev s L hs hraw.right ht) (Ev.now _)
 unfold collatorlaw06_HunksOne.f
 show Ev (fun k => (collatorlaw06_awake.f).bind fun t => _) true
 refine evval (show collatorlaw06_awake.f = some true from rfl) ?_
 refine Ev.bind hS ?_
 refine evval (pick6 (m := 6) (n := 6) (wf_range h7) rfl (by omega)) ?_
 rw [← hc]
 refine Ev.bind M.make ?_
 refine Ev.bind hA ?_
 have hml := M.len
 have hl := one_loop (a := L) M.rightH (fun x hx => ⟨hwx x hx, hff x hx⟩) M.len (by rw [← ht]; exact hend) (by omega) (fun p q hpq => by
  obtain ⟨g1, g2⟩ := hfit p q hpq
  have hk := wt_kpL ((L.length : Int) - endH (made c s) 0)
  have hq : q.length ≤ 10 := by have := congrArg List.length hpq; rw [List.length_append] at this; omega
  have he0 := ord_end hO
  refine ⟨fit_app g1 (fit_kp (by omega)), ?_⟩
  rw [wt_app]
  omega) (made c s).length (Nat.le_refl _)
 simp only [w64 (x := ((made c s).length : Int) - 1) (by omega) (by omega), hall]
 have e0 : Rst L (L.length : Int) (endH ((made c s).take (made c s).length) 0) ((made c s).drop (made c s).length) = L := by
  rw [List.take_length, List.drop_length]
  unfold Rst
  have he0 := ord_end hO
  rw [flatH, endH, List.nil_append, appl_kp (by omega), List.take_of_length_le (i := ((L.length : Int) - endH (made c s) 0).toNat) (by rw [List.length_drop]; omega), List.take_append_drop]
 rw [e0] at hl
 exact hl
end Go.Proofs.Ytgobidmfbjmpkaa.Pure
