/- HunksFewer in plain words: without one of them hunks change all else. -/
import Derived.Test.YtgobidmfbjmpkaaPxf7
import Derived.Test.YtgobidmfbjmpkaaGHq
set_option linter.unusedVariables false
set_option linter.unusedSimpArgs false
namespace Go.Proofs.Ytgobidmfbjmpkaa.Pure
open Go Go.RowKit Go.Proofs.Ytgobidmfbjmpkaa.P Go.Proofs.YtgobidmfbjmpkaaW.PrintWords Go.Proofs.YtgobidmfbjmpkaaW.PrintLast Go.Proofs.YtgobidmfbjmpkaaW.PrintMore Go.Proofs.Ytgobidmfbjmpkaa.Q
/-! ### Edits that are joined -/
theorem join1_sums {s : List EdS} {x : EdS} : chgs (join1 s x) = chgs s + chgs [x] ∧ takes (join1 s x) = takes s + takes [x] := by
 rcases List.eq_nil_or_concat s with h0 | ⟨u, z, h0⟩
 ·subst h0; rw [join1_nil]; simp [chgs, takes]
 ·rw [List.concat_eq_append] at h0
  subst h0
  rw [join1_snoc]
  by_cases hk : z.f0 = x.f0
  ·rw [if_pos hk, chgs_app, chgs_app, takes_app, takes_app]
   simp only [chgs, takes, ← hk]
   refine ⟨?_, ?_⟩ <;> split <;> omega
  ·rw [if_neg hk]
   exact ⟨chgs_app _ _, takes_app _ _⟩
theorem joinL_sums (t : List EdS) : ∀ {s : List EdS}, chgs (joinL s t) = chgs s + chgs t ∧ takes (joinL s t) = takes s + takes t := by
 induction t with
 | nil => intro s; rw [joinL_nil]; simp [chgs, takes]
 | cons x t ih =>
  intro s
  obtain ⟨i1, i2⟩ := ih (s := join1 s x)
  obtain ⟨j1, j2⟩ := join1_sums (s := s) (x := x)
  rw [joinL_cons, i1, i2, j1, j2]
  simp only [chgs, takes]
  omega
theorem fit_join1 {s : List EdS} {x : EdS} (hs : Fit s) (hx : May x) (hb : (wt s : Int) + x.f1 ≤ 1048576) : Fit (join1 s x) := by
 rcases List.eq_nil_or_concat s with h0 | ⟨u, z, h0⟩
 ·subst h0
  intro y hy
  rw [join1_nil] at hy
  rw [List.mem_singleton.1 hy]
  exact ⟨hx, by omega⟩
 ·rw [List.concat_eq_append] at h0
  subst h0
  have hz := hs z (by simp)
  have hu : Fit u := fun y hy => hs y (List.mem_append_left _ hy)
  have hwz := wt_mem (s := u ++ [z]) (e := z) (by simp)
  unfold wt1 at hwz
  rw [join1_snoc]
  split
  ·rename_i hk
   refine fit_app hu (fun y hy => ?_)
   rw [List.mem_singleton.1 hy]
   obtain ⟨⟨z1, z2⟩, z3⟩ := hz
   obtain ⟨x1, x2⟩ := hx
   refine ⟨⟨by show 1 ≤ z.f1 + x.f1; omega, ?_⟩, by show z.f1 + x.f1 ≤ 1048576; omega⟩
   rcases z2 with ⟨z4, z5⟩ | ⟨z4, z5⟩
   ·rcases x2 with ⟨x4, x5⟩ | ⟨x4, x5⟩
    ·exact .inl ⟨z4, by show z.f2 ++ x.f2 = []; rw [z5, x5]; rfl⟩
    ·exfalso; omega
   ·rcases x2 with ⟨x4, x5⟩ | ⟨x4, x5⟩
    ·exfalso; omega
    ·refine .inr ⟨z4, ?_⟩
     show (((z.f2 ++ x.f2).length : Nat) : Int) = z.f1 + x.f1
     rw [List.length_append]; omega
  ·exact fit_app hs (fun y hy => by rw [List.mem_singleton.1 hy]; exact ⟨hx, by omega⟩)
theorem fit_joinL (t : List EdS) : ∀ {s : List EdS}, Fit s → Fit t → (wt s : Int) + wt t ≤ 1048576 → Fit (joinL s t) := by
 induction t with
 | nil => intro s hs _ _; exact hs
 | cons x t ih =>
  intro s hs ht hw
  rw [wt_cons] at hw
  have hx := ht x (by simp)
  have hw1 := wt_join1 s x
  have h1 : x.f1 ≤ (wt1 x : Int) := by unfold wt1; omega
  rw [joinL_cons]
  exact ih (fit_join1 hs hx.1 (by omega)) (fit_tail ht) (by omega)
theorem chn_keep_end {s : List EdS} {r : Int} (h : Chn s) : Chn (joinL s (kpL r)) := by
 unfold kpL
 split
 ·exact h
 ·rcases List.eq_nil_or_concat s with h0 | ⟨u, z, h0⟩
  ·subst h0; trivial
  ·rw [List.concat_eq_append] at h0
   subst h0
   show Chn (join1 _ _)
   rw [join1_snoc]
   split
   ·rename_i hk; exact chn_last u z _ h rfl
   ·rename_i hk
    exact chn_snoc u z _ h ⟨hk, fun e => absurd (show (1 : Int) = 2 from e.2) (by decide)⟩
theorem chn_glue (u : List EdS) {z : EdS} {t : List EdS} : Chn (u ++ [z]) → Chn (z :: t) → Chn (u ++ z :: t) := by
 induction u with
 | nil => intro _ h; exact h
 | cons y u ih =>
  intro h1 h2
  cases u with
  | nil => exact ⟨h1.1, h2⟩
  | cons v u => exact ⟨h1.1, ih h1.2 h2⟩
theorem chn_keep (u : List EdS) {z : EdS} {E : List EdS} (hz : z.f0 = 1) (h1 : Chn (u ++ [z])) (h2 : Chn E) : Chn (joinL (u ++ [z]) E) := by
 cases E with
 | nil => exact h1
 | cons x t =>
  rw [joinL_cons, join1_snoc]
  split
  ·rename_i hk
   have hc : Chn ((u ++ [(⟨z.f0, z.f1 + x.f1, z.f2 ++ x.f2⟩ : EdS)]) ++ t) := by
    rw [List.append_assoc]
    refine chn_glue u (chn_last u z _ h1 rfl) ?_
    cases t with
    | nil => trivial
    | cons y t => exact ⟨⟨by show z.f0 ≠ y.f0; rw [hk]; exact h2.1.1, fun e => absurd (hz.symm.trans (show z.f0 = 3 from e.1)) (by decide)⟩, h2.2⟩
   rw [join_chn t _ hc]; exact hc
  ·rename_i hk
   have hc : Chn ((u ++ [z] ++ [x]) ++ t) := by
    rw [List.append_assoc, List.append_assoc]
    exact chn_glue u h1 ⟨⟨hk, fun e => absurd (hz.symm.trans e.1) (by decide)⟩, h2⟩
   rw [join_chn t _ hc]; exact hc
theorem chn_hunk {s E : List EdS} {g : Int} (hs : Chn s) (hE : Chn E) (hg : 1 ≤ g ∨ s = []) : Chn (joinL (joinL s (kpL g)) E) := by
 have h1 := chn_keep_end (r := g) hs
 by_cases k : 1 ≤ g
 ·rw [kpL_pos k] at h1 ⊢
  rcases List.eq_nil_or_concat s with h0 | ⟨u, z, h0⟩
  ·subst h0
   exact chn_keep [] (z := ⟨1, g, []⟩) rfl trivial hE
  ·rw [List.concat_eq_append] at h0
   subst h0
   have e : joinL (u ++ [z]) [(⟨1, g, []⟩ : EdS)] = join1 (u ++ [z]) ⟨1, g, []⟩ := rfl
   rw [e, join1_snoc] at h1 ⊢
   split at h1
   ·rename_i hk
    rw [if_pos hk]
    exact chn_keep u hk h1 hE
   ·rename_i hk
    rw [if_neg hk]
    exact chn_keep (u ++ [z]) rfl h1 hE
 ·rcases hg with hg | hg
  ·exact absurd hg k
  ·subst hg
   rw [kpL_neg (by omega), joinL_nil, join_chn E [] (by rw [List.nil_append]; exact hE), List.nil_append]
   exact hE
theorem chn_flat : ∀ {f : Bool} {a b : Int} {h : List HkS} {s : List EdS}, rightH f a b h = true → Chn s → (f = true → s = []) → Chn (joinL s (flatH h a)) := by
 intro f a b h
 induction h generalizing f a b with
 | nil => intro s _ hs _; exact hs
 | cons x t ih =>
  intro s hr hs hf
  unfold rightH at hr
  simp only [Bool.and_eq_true, decide_eq_true_eq] at hr
  obtain ⟨h1, h2, h3, h4, h5, h6⟩ := hr
  rw [flatH, joinL_app, joinL_app]
  refine ih h6 (chn_hunk hs ((right_iff _).1 h1).2 ?_) (fun h => Bool.noConfusion h)
  cases f with
  | true => exact .inr (hf rfl)
  | false => simp at h5; left; omega
/-! ### Hunks that begin anew -/
def sh (n m : Int) (x : HkS) : HkS := ⟨x.f0, x.f1 - m + n, x.f2⟩
theorem right_sh (n m : Int) {f : Bool} : ∀ {q : List HkS} {a b : Int}, f = false → rightH f a b q = true → rightH f a (b - m + n) (q.map (sh n m)) = true := by
 intro q
 induction q generalizing f with
 | nil => intro a b _ _; rfl
 | cons y q ih =>
  intro a b hf hr
  subst hf
  unfold rightH at hr
  simp only [Bool.and_eq_true, decide_eq_true_eq] at hr
  obtain ⟨h1, h2, h3, h4, h5, h6⟩ := hr
  simp at h5
  refine rightH_cons h1 h2 h3 h4 (show Nxt false a (b - m + n) y.f0 (y.f1 - m + n) from ?_) ?_
  ·exact ⟨by omega, by omega⟩
  ·have := ih rfl h6
   rw [show y.f1 + makes y.f2 - m + n = (y.f1 - m + n) + makes y.f2 by omega] at this
   exact this
theorem right_less {f : Bool} {a b : Int} {x : HkS} {q : List HkS} (h0 : f = true → a = 0) (hr : rightH f a b (x :: q) = true) : rightH f a b (q.map (sh (takes x.f2) (makes x.f2))) = true := by
 cases q with
 | nil => rfl
 | cons y q =>
  unfold rightH at hr
  simp only [Bool.and_eq_true, decide_eq_true_eq] at hr
  obtain ⟨h1, h2, h3, h4, h5, h6⟩ := hr
  unfold rightH at h6
  simp only [Bool.and_eq_true, decide_eq_true_eq] at h6
  obtain ⟨g1, g2, g3, g4, g5, g6⟩ := h6
  have ht := (takes_wt ((right_iff _).1 h1).1).1
  have g7 := right_sh (takes x.f2) (makes x.f2) rfl g6
  rw [show y.f1 + makes y.f2 - makes x.f2 + takes x.f2 = (y.f1 - makes x.f2 + takes x.f2) + makes y.f2 by omega] at g7
  simp at g5
  refine rightH_cons g1 g2 g3 g4 (show Nxt f a b y.f0 (y.f1 - makes x.f2 + takes x.f2) from ?_) g7
  cases f with
  | true => simp at h5; show y.f1 - makes x.f2 + takes x.f2 = y.f0; omega
  | false => simp at h5; exact ⟨by omega, by omega⟩
theorem right_fewer {x : HkS} {q : List HkS} : ∀ {p : List HkS} {f : Bool} {a b : Int}, (f = true → a = 0) → rightH f a b (p ++ x :: q) = true → rightH f a b (p ++ q.map (sh (takes x.f2) (makes x.f2))) = true := by
 intro p
 induction p with
 | nil => intro f a b h0 hr; exact right_less h0 hr
 | cons y p ih =>
  intro f a b h0 hr
  rw [List.cons_append] at hr ⊢
  unfold rightH at hr
  simp only [Bool.and_eq_true, decide_eq_true_eq] at hr
  obtain ⟨h1, h2, h3, h4, h5, h6⟩ := hr
  refine rightH_cons h1 h2 h3 h4 ?_ (ih (fun h => Bool.noConfusion h) h6)
  cases f with
  | true => simp at h5; exact h5
  | false => simp at h5; exact ⟨by omega, by omega⟩
def OrdH : Int → List HkS → Prop
 | _, [] => True
 | e, x :: t => e ≤ x.f0 ∧ 0 ≤ takes x.f2 ∧ OrdH (x.f0 + takes x.f2) t
theorem ord_of {f : Bool} : ∀ {a b : Int} {h : List HkS}, (f = true → a = 0) → rightH f a b h = true → OrdH a h := by
 intro a b h
 induction h generalizing f a b with
 | nil => intro _ _; trivial
 | cons x t ih =>
  intro h0 hr
  unfold rightH at hr
  simp only [Bool.and_eq_true, decide_eq_true_eq] at hr
  obtain ⟨h1, h2, h3, h4, h5, h6⟩ := hr
  refine ⟨?_, (takes_wt ((right_iff _).1 h1).1).1, ih (fun h => Bool.noConfusion h) h6⟩
  cases f with
  | true => rw [h0 rfl]; exact h3
  | false => simp at h5; omega
theorem ord_end : ∀ {e : Int} {h : List HkS}, OrdH e h → e ≤ endH h e := by
 intro e h
 induction h generalizing e with
 | nil => intro _; exact Int.le_refl _
 | cons x t ih => intro ⟨h1, h2, h3⟩; have := ih h3; show e ≤ endH t _; omega
theorem flat_sums : ∀ {h : List HkS} {e : Int}, OrdH e h → takes (flatH h e) = endH h e - e ∧ chgs (flatH h e) = costH h := by
 intro h
 induction h with
 | nil => intro e _; exact ⟨by show (0 : Int) = e - e; omega, rfl⟩
 | cons x t ih =>
  intro e ⟨h1, h2, h3⟩
  obtain ⟨i1, i2⟩ := ih h3
  obtain ⟨k1, _, k3⟩ := kp_takes (show 0 ≤ x.f0 - e by omega)
  rw [flatH, takes_app, takes_app, chgs_app, chgs_app, i1, i2, k1, k3, costH_cons]
  exact ⟨by show _ = endH t _ - e; omega, by omega⟩
theorem end_less (x : HkS) (q : List HkS) (n m : Int) : ∀ (p : List HkS) (e : Int), OrdH e (p ++ x :: q) → endH (p ++ q.map (sh n m)) e ≤ endH (p ++ x :: q) e := by
 intro p
 induction p with
 | nil =>
  intro e h
  cases q with
  | nil => exact ord_end h
  | cons y q =>
   have gen : ∀ (q : List HkS) (e : Int), endH (q.map (sh n m)) e = endH q e := by
    intro q
    induction q with
    | nil => intro e; rfl
    | cons z q ih => intro e; exact ih _
   exact Int.le_of_eq (gen q _)
 | cons y p ih => intro e h; exact ih _ h.2.2
theorem cost_less (x : HkS) (q : List HkS) (n m : Int) : ∀ p : List HkS, costH (p ++ q.map (sh n m)) = costH (p ++ x :: q) - chgs x.f2 := by
 intro p
 induction p with
 | nil =>
  have gen : ∀ (q : List HkS), costH (q.map (sh n m)) = costH q := by
   intro q
   induction q with
   | nil => rfl
   | cons z q ih => rw [List.map_cons, costH_cons, costH_cons, ih]; rfl
  rw [List.nil_append, List.nil_append, gen, costH_cons]; omega
 | cons y p ih => rw [List.cons_append, List.cons_append, costH_cons, costH_cons, ih]; omega
theorem fit_flat : ∀ (q : List HkS) (e : Int), 0 ≤ e → e ≤ 2000 → (∀ x ∈ q, rightB 0 x.f2 = true ∧ wt x.f2 ≤ 1000 ∧ 0 ≤ x.f0 ∧ x.f0 ≤ 1000) → OrdH e q → Fit (flatH q e) ∧ wt (flatH q e) ≤ q.length * 3000 := by
 intro q
 induction q with
 | nil => intro e _ _ _ _; exact ⟨fun x hx => (by cases hx), Nat.zero_le _⟩
 | cons x q ih =>
  intro e h0 h1 hq ho
  obtain ⟨g1, g2, g3, g4⟩ := hq x (by simp)
  obtain ⟨gf, _⟩ := (right_iff _).1 g1
  obtain ⟨t0, t1⟩ := takes_wt gf
  obtain ⟨i1, i2⟩ := ih (x.f0 + takes x.f2) (by omega) (by omega) (fun y hy => hq y (List.mem_cons_of_mem _ hy)) ho.2.2
  have hk := wt_kpL (x.f0 - e)
  have ho1 : e ≤ x.f0 := ho.1
  refine ⟨fit_app (fit_kp (by omega)) (fit_app gf i1), ?_⟩
  rw [flatH, wt_app, wt_app, List.length_cons]
  omega
theorem fewer_loop {s : List EdS} {L : List ByteArray} {h less : List HkS} {j : Nat} {x : HkS} {n m : Int} (hn : 0 ≤ n ∧ n ≤ 100000000000) (hm : 0 ≤ m ∧ m ≤ 100000000000) (hb : ∀ y ∈ h, -100000000000 ≤ y.f1 ∧ y.f1 ≤ 100000000000) (hl : h.length ≤ 10) (hx : h[j]? = some x) (hll : less.length ≤ 10)
  {t : List EdS} (hS : Ev (fun k => hunks_Script.f k less (L.length : Int)) (t, 0)) {tm : Int} (hT : Ev (fun k => script_Spans.f k t) ((L.length : Int), tm)) (hR : Ev (fun k => hunks_Right.f k less) true) (hC : Ev (fun k => script_Cost.f k t) (chgs s - chgs x.f2)) (hs : Ev (fun k => script_Cost.f k s) (chgs s)) (hE : Ev (fun k => script_Cost.f k x.f2) (chgs x.f2)) (hcb : -100000000000 ≤ chgs s - chgs x.f2 ∧ chgs s - chgs x.f2 ≤ 100000000000)
  (q : List HkS) : ∀ (i : Nat) (acc : List HkS), h.drop i = q → acc ++ q.map (sh n m) = less → Ev (fun k => collatorlaw06_HunksFewer.l0 k true s L h (j : Int) n m acc (i : Int)) true := by
 have hj : j < h.length := by
  rcases Nat.lt_or_ge j h.length with hc | hc
  ·exact hc
  ·rw [List.getElem?_eq_none hc] at hx; cases hx
 induction q with
 | nil =>
  intro i acc hd ha
  have hi := drop_nil hd
  rw [List.map_nil, List.append_nil] at ha
  subst ha
  refine Ev.step (f := fun k => _) (fun k => by simp only [collatorlaw06_HunksFewer.l0]; rfl) ?_
  refine evneg (by omega) ?_
  refine Ev.bind hS (Ev.bind hT (evpos (by trivial) (evpos (by trivial) ?_)))
  refine Ev.bind hR (evpos rfl (evpos rfl ?_))
  refine Ev.bind hC (Ev.bind hs (evpos (by omega) (evpos (by omega) ?_)))
  simp only [rdH hx]
  refine Ev.bind hE ?_
  simp only [w64 (x := chgs s - chgs x.f2) (by omega) (by omega)]
  rw [show (chgs s - chgs x.f2 == chgs s - chgs x.f2) = true by simp]
  exact Ev.now _
 | cons y q ih =>
  intro i acc hd ha
  obtain ⟨hi, hy, hd'⟩ := drop_cons hd
  have hyb := hb y (List.mem_of_getElem? hy)
  have hal : acc.length ≤ 10 := by have := congrArg List.length ha; rw [List.length_append] at this; omega
  refine Ev.step (f := fun k => _) (fun k => by simp only [collatorlaw06_HunksFewer.l0]; rfl) ?_
  refine evpos (by omega) (evpos (by omega) (evpos (by omega) ?_))
  simp only [rdH hy]
  simp only [w64 (x := y.f1 - m) (by omega) (by omega), w64 (x := y.f1 - m + n) (by omega) (by omega), wi (i := i) (by omega)]
  exact ih (i + 1) (acc ++ [sh n m y]) hd' (by rw [List.append_assoc]; exact ha)
theorem HunksFewer : collatorlaw06_HunksFewer.Pure := by
 intro l0 a1 a2 h1 h2 h3 h4 h5
 refine Ev.rounds (g := fun k => collatorlaw06_HunksFewer.f k l0 a1 a2) ?_
 unfold maxLen at h1
 obtain ⟨s, L, hS, hraw⟩ := script_raw_ev l0 [] h3 (by omega) (fun x hx => by cases hx) (by simp)
 have hp := pk_lt a1 (n := 4) (by omega)
 obtain ⟨c, hc⟩ : ∃ c : Int, c = (pk a1 4 : Int) := ⟨_, rfl⟩
 have M := raw_made hraw (c := c) (by omega) (by omega)
 have hs : s.length ≤ 1000000 := by have := hraw.len; omega
 have hmost := hraw.most
 have hlen := hraw.len
 have ht := hraw.takes_
 have hto : ∀ y ∈ made c s, 0 - c ≤ y.f1 ∧ y.f1 ≤ 0 + makes s := (made_to c (by omega) s hraw.fit).1 0 0 0 (Int.le_refl _) (by omega)
 obtain ⟨_, x2⟩ := (made_wt c (by omega) s hraw.fit).1 0 0 0 (Int.le_refl _) (by omega)
 have hww := raw_wt hraw.fit hraw.small
 have hwx : ∀ y ∈ made c s, wt y.f2 ≤ 1000 := fun y hy => by have := x2 y hy; omega
 clear x2
 obtain ⟨sb1, sb2, sb3, sb4, sb5, sb6⟩ := spans_bd hraw.fit
 have hend : endH (made c s) 0 ≤ takes s := by
  have := (made_end c (by omega) s hraw.fit).1 0 0 0 0 (Int.le_refl _) (Int.le_refl _)
  rw [Int.zero_add] at this
  exact this
 unfold collatorlaw06_HunksFewer.f
 show Ev (fun k => (collatorlaw06_awake.f).bind fun t => _) true
 refine evval (show collatorlaw06_awake.f = some true from rfl) ?_
 refine Ev.bind hS ?_
 refine evval (pick6 (m := 4) (n := 4) (wf_range h4) rfl (by omega)) ?_
 rw [← hc]
 refine Ev.bind M.make ?_
 refine evpos rfl ?_
 have hcost := M.cost
 have hRH := M.rightH
 have hrm := right_mem hRH
 have hml := M.len
 generalize made c s = h at *
 by_cases h0 : h = []
 ·subst h0
  refine evpos rfl (evpos rfl (Ev.bind (scost_ev s hs hraw.right) ?_))
  rw [show chgs s = 0 from hcost.symm]
  exact Ev.now _
 have hlp : 0 < h.length := List.length_pos_iff.2 h0
 refine evneg (by show ¬ ((h.length : Int) = 0); omega) ?_
 refine evval (pick6 (m := (h.length : Int)) (n := h.length) (wf_range h5) rfl hlp) ?_
 have hj := pk_lt a2 hlp
 generalize pk a2 h.length = j at hj
 obtain ⟨x, hxe⟩ : ∃ x, x = h[j] := ⟨_, rfl⟩
 have hx : h[j]? = some x := by rw [hxe]; exact List.getElem?_eq_getElem hj
 have hm : x ∈ h := List.mem_of_getElem? hx
 obtain ⟨r1, r2, r3, r4⟩ := hrm x hm
 have hxl := wt_len x.f2
 have hxw := hwx x hm
 obtain ⟨b1, b2, b3, b4, b5, b6⟩ := spans_bd ((right_iff _).1 r1).1
 have hsplit : h = h.take j ++ x :: h.drop (j + 1) := by
  rw [hxe, ← List.drop_eq_getElem_cons hj, List.take_append_drop]
 refine evpos (by show (0 : Int) ≤ (j : Int); omega) (evpos (by show (j : Int) < (h.length : Int); omega) ?_)
 simp only [rdH hx]
 refine Ev.bind (spans_ev x.f2 (by omega) r1) (evpos (by show (j : Int) ≤ (h.length : Int); omega) ?_)
 refine evval rfl ?_
 rw [show ((j : Nat) : Int).toNat = j from rfl]
 refine evpos (by rw [List.length_nil, List.length_take]; omega) ?_
 rw [List.nil_append]
 simp only [wi (i := j) (by omega)]
 -- the hunks that are left
 obtain ⟨p, hpe⟩ : ∃ p, p = h.take j := ⟨_, rfl⟩
 obtain ⟨q, hqe⟩ : ∃ q, q = h.drop (j + 1) := ⟨_, rfl⟩
 rw [← hpe, ← hqe] at hsplit
 obtain ⟨less, hle⟩ : ∃ l, l = p ++ q.map (sh (takes x.f2) (makes x.f2)) := ⟨_, rfl⟩
 have hpq : p.length + 1 + q.length = h.length := by
  have := congrArg List.length hsplit
  rw [List.length_append, List.length_cons] at this; omega
 have hll : less.length ≤ 10 := by rw [hle, List.length_append, List.length_map]; omega
 have hRL : rightH true 0 0 less = true := by
  rw [hle]
  refine right_fewer (fun _ => rfl) ?_
  rw [← hsplit]; exact hRH
 have hO := ord_of (a := 0) (b := 0) (fun _ => rfl) hRH
 have hOL := ord_of (a := 0) (b := 0) (fun _ => rfl) hRL
 have hff : ∀ y ∈ h, y.f0 ≤ 1000 := by
  have gen : ∀ (h : List HkS) (e : Int), OrdH e h → ∀ x ∈ h, x.f0 ≤ endH h e := by
   intro h
   induction h with
   | nil => intro _ _ x hx; cases hx
   | cons y t ih =>
    intro e ho x hx
    rcases List.mem_cons.1 hx with rfl | hx
    ·have h1 := ord_end ho.2.2
     have h2 := ho.2.1
     show x.f0 ≤ endH t _
     omega
    ·exact ih _ ho.2.2 x hx
  intro y hy
  have := gen _ _ hO y hy
  omega
 have hlm : ∀ y ∈ less, rightB 0 y.f2 = true ∧ wt y.f2 ≤ 1000 ∧ (0 ≤ y.f0 ∧ y.f0 ≤ 1000) ∧ -100000000000 ≤ y.f1 ∧ y.f1 ≤ 100000000000 := by
  intro y hy
  rw [hle] at hy
  rcases List.mem_append.1 hy with hy | hy
  ·have hyh : y ∈ h := by rw [hsplit]; exact List.mem_append_left _ hy
   obtain ⟨g1, g2, g3, g4⟩ := hrm y hyh
   have := hto y hyh
   exact ⟨g1, hwx y hyh, ⟨g3, hff y hyh⟩, by omega, by omega⟩
  ·obtain ⟨z, hz, rfl⟩ := List.mem_map.1 hy
   have hzh : z ∈ h := by rw [hsplit]; exact List.mem_append_right _ (List.mem_cons_of_mem _ hz)
   obtain ⟨g1, g2, g3, g4⟩ := hrm z hzh
   have := hto z hzh
   exact ⟨g1, hwx z hzh, ⟨g3, hff z hzh⟩, by show -100000000000 ≤ z.f1 - makes x.f2 + takes x.f2; omega, by show z.f1 - makes x.f2 + takes x.f2 ≤ _; omega⟩
 have hRE : Ev (fun k => hunks_Right.f k less) true := by
  have := rightH_ev less (by omega) (fun y hy => by
   obtain ⟨g1, g2, g3, g4, g5⟩ := hlm y hy
   have := wt_len y.f2
   exact ⟨by omega, by omega, by omega⟩)
  rw [hRL] at this
  exact this
 have hel : endH less 0 ≤ (L.length : Int) := by
  have := end_less x q (takes x.f2) (makes x.f2) p 0 (by rw [← hsplit]; exact hO)
  rw [← hsplit, ← hle] at this
  omega
 have he0 := ord_end hOL
 have hSc := script_ok hRE (fun y hy => by
  obtain ⟨g1, g2, g3, g4, g5⟩ := hlm y hy
  exact ⟨⟨by omega, by omega⟩, g1, by omega⟩) (by omega) (n := (L.length : Int)) (by omega) (by omega) hel
 generalize hr : (L.length : Int) - endH less 0 = r at hSc
 obtain ⟨f1, f2⟩ := fit_flat less 0 (by omega) (by omega) (fun y hy => by
  obtain ⟨g1, g2, g3, g4, g5⟩ := hlm y hy
  exact ⟨g1, g2, g3.1, g3.2⟩) hOL
 obtain ⟨t1, t2⟩ := flat_sums hOL
 have hwk := wt_kpL r
 have hwj := wt_joinL (flatH less 0) []
 rw [wt_nil] at hwj
 have hF1 : Fit (joinL [] (flatH less 0)) := fit_joinL _ (fun x hx => (by cases hx)) f1 (by rw [wt_nil]; omega)
 have hF2 : Fit (joinL (joinL [] (flatH less 0)) (kpL r)) := fit_joinL _ hF1 (fit_kp (by omega)) (by omega)
 have hC2 : Chn (joinL (joinL [] (flatH less 0)) (kpL r)) := chn_keep_end (chn_flat hRL trivial (fun _ => rfl))
 have hB2 : rightB 0 (joinL (joinL [] (flatH less 0)) (kpL r)) = true := (right_iff _).2 ⟨hF2, hC2⟩
 obtain ⟨s1, s2⟩ := joinL_sums (kpL r) (s := joinL [] (flatH less 0))
 obtain ⟨s3, s4⟩ := joinL_sums (flatH less 0) (s := [])
 obtain ⟨k1, k2, k3⟩ := kp_takes (show 0 ≤ r by omega)
 have hcl := cost_less x q (takes x.f2) (makes x.f2) p
 rw [← hsplit, ← hle, hcost] at hcl
 have hT : takes (joinL (joinL [] (flatH less 0)) (kpL r)) = (L.length : Int) := by
  rw [s2, s4, t1, k1, takes]; omega
 have hC : chgs (joinL (joinL [] (flatH less 0)) (kpL r)) = chgs s - chgs x.f2 := by
  rw [s1, s3, t2, k3, hcl, chgs]; omega
 have hwt := wt_joinL (kpL r) (joinL [] (flatH less 0))
 have hlt := wt_len (joinL (joinL [] (flatH less 0)) (kpL r))
 have e1 := spans_ev _ (by omega) hB2
 have e2 := scost_ev _ (by omega) hB2
 rw [hT] at e1
 rw [hC] at e2
 rw [← hpe]
 exact fewer_loop (less := less) (by omega) (by omega) (fun y hy => by have := hto y hy; omega) hml hx hll hSc e1 hRE e2 (scost_ev s hs hraw.right) (scost_ev x.f2 (by omega) r1) (by omega) q (j + 1) p hqe.symm hle.symm
end Go.Proofs.Ytgobidmfbjmpkaa.Pure
