/- Plain words of evaluation; how a raw number picks. · What layer 4 of the program answers of scripts: plain lemmas over the printed functions (without myers). -/
import Derived.Test.YtgobidmfbjmpkaaPx0
import Derived.OpenShut
import Derived.Test.YtgobidmfbjmpkaaPxf46
import Derived.Test.YtgobidmfbjmpkaaPxf25
import Derived.Test.YtgobidmfbjmpkaaPxf20
section
set_option linter.unusedVariables false
set_option linter.unusedSimpArgs false
namespace Go.Proofs.Ytgobidmfbjmpkaa.Q
open Go Go.RowKit Go.Proofs.Ytgobidmfbjmpkaa.P Go.Proofs.YtgobidmfbjmpkaaW.PrintWords Go.Proofs.YtgobidmfbjmpkaaW.PrintLast
theorem evpos {α : Type} {c : Prop} [Decidable c] {f g : Nat → Option α} {r : α} (hc : c) (h : Ev f r) : Ev (fun k => if c then f k else g k) r := by simp only [if_pos hc]; exact h
theorem evneg {α : Type} {c : Prop} [Decidable c] {f g : Nat → Option α} {r : α} (hc : ¬ c) (h : Ev g r) : Ev (fun k => if c then f k else g k) r := by simp only [if_neg hc]; exact h
theorem evval {α β : Type} {x : Option β} {a : β} {f : Nat → β → Option α} {r : α} (hx : x = some a) (h : Ev (fun k => f k a) r) : Ev (fun k => x.bind (f k)) r := by subst hx; exact h
theorem w64 {x : Int} (h0 : -9223372036854775808 ≤ x) (h1 : x ≤ 9223372036854775807) : wrap64 x = x := by unfold wrap64; omega
/-- Which of n things a raw number speaks of. -/
def pk (c : Int) (n : Nat) : Nat := (if c < 0 then -(c + 1) else c).toNat % n
theorem pk_lt (c : Int) {n : Nat} (h : 0 < n) : pk c n < n := Nat.mod_lt _ h
theorem wf_range {c : Int} (h : (Lit.int .i64 c).wf = true) : -9223372036854775808 ≤ c ∧ c ≤ 9223372036854775807 := by
 have h2 := (bounds_i64 h)
 omega
theorem pick_body {c : Int} (hc : -9223372036854775808 ≤ c ∧ c ≤ 9223372036854775807) {m : Int} {n : Nat} (hm : m = n) (hn : 0 < n) :
  (if c < 0 then (if m = 0 then (none : Option Int) else (some (Int.tmod (wrap64 (-(wrap64 (c + 1)))) m))) else (if m = 0 then (none) else (some (Int.tmod c m)))) = some (pk c n : Int) := by
 subst hm
 have h0 : ¬ ((n : Int) = 0) := by omega
 unfold pk
 by_cases h : c < 0
 ·rw [if_pos h, if_neg h0, if_pos h, w64 (x := c + 1) (by omega) (by omega), w64 (by omega) (by omega), Int.tmod_eq_emod_of_nonneg (by omega)]
  congr 1
  rw [Int.natCast_emod, Int.toNat_of_nonneg (by omega)]
 ·rw [if_neg h, if_neg h0, if_neg h, Int.tmod_eq_emod_of_nonneg (by omega)]
  congr 1
  rw [Int.natCast_emod, Int.toNat_of_nonneg (by omega)]
theorem rd_mem {l : List Int} (hw : ∀ x ∈ l, (Lit.int .i64 x).wf = true) {i : Int} (h0 : 0 ≤ i) (h1 : i < l.length) : -9223372036854775808 ≤ rd l i ∧ rd l i ≤ 9223372036854775807 := by
 refine wf_range (hw _ ?_)
 unfold rd
 rw [List.getD_eq_getElem?_getD, List.getElem?_eq_getElem (by omega)]
 exact List.getElem_mem _
end Go.Proofs.Ytgobidmfbjmpkaa.Q
end
section
set_option linter.unusedVariables false
set_option linter.unusedSimpArgs false
namespace Go.Proofs.Ytgobidmfbjmpkaa.Q
section
open Go.Proofs.Ytgobidmfbjmpkaa.P
abbrev EdS := S31
/-- An edit that may be. -/
def May (x : EdS) : Prop := 1 ≤ x.f1 ∧ (((x.f0 = 1 ∨ x.f0 = 2) ∧ x.f2 = []) ∨ (x.f0 = 3 ∧ (x.f2.length : Int) = x.f1))
def After (x y : EdS) : Prop := x.f0 ≠ y.f0 ∧ ¬ (x.f0 = 3 ∧ y.f0 = 2)
/-- Each one behind the next one. -/
def Chn : List EdS → Prop
 | [] => True
 | [_] => True
 | x :: y :: s => After x y ∧ Chn (y :: s)
theorem chn_snoc (s : List EdS) : ∀ (x y : EdS), Chn (s ++ [x]) → After x y → Chn (s ++ [x] ++ [y]) := by
 induction s with
 | nil => intro x y _ h; exact ⟨h, trivial⟩
 | cons z s ih =>
  intro x y h1 h2
  cases s with
  | nil => exact ⟨h1.1, h2, trivial⟩
  | cons u s => exact ⟨h1.1, ih x y h1.2 h2⟩
theorem chn_last (s : List EdS) : ∀ (x y : EdS), Chn (s ++ [x]) → x.f0 = y.f0 → Chn (s ++ [y]) := by
 induction s with
 | nil => intro x y _ _; exact trivial
 | cons z s ih =>
  intro x y h1 h2
  cases s with
  | nil =>
   have h3 : After z x := h1.1
   refine ⟨?_, trivial⟩
   unfold After at h3 ⊢
   rw [← h2]
   exact h3
  | cons u s => exact ⟨h1.1, ih x y h1.2 h2⟩
end
section
open Go Go.RowKit Go.Proofs.Ytgobidmfbjmpkaa.P Go.Proofs.YtgobidmfbjmpkaaW.PrintWords Go.Proofs.YtgobidmfbjmpkaaW.PrintLast
theorem drop_cons {α : Type} {s : List α} {i : Nat} {x : α} {t : List α} (h : s.drop i = x :: t) : i < s.length ∧ s[i]? = some x ∧ s.drop (i + 1) = t := by
 have h1 : i < s.length := by
  rcases Nat.lt_or_ge i s.length with h1 | h1
  ·exact h1
  ·rw [List.drop_eq_nil_of_le h1] at h; cases h
 rw [List.drop_eq_getElem_cons h1] at h
 injection h with h2 h3
 exact ⟨h1, by rw [List.getElem?_eq_getElem h1, h2], h3⟩
theorem drop_nil {α : Type} {s : List α} {i : Nat} (h : s.drop i = []) : s.length ≤ i := List.drop_eq_nil_iff.1 h
theorem rdT {s : List EdS} {i : Nat} {x : EdS} (h : s[i]? = some x) : rd_T31 s (i : Int) = x := by
 unfold rd_T31
 rw [Int.toNat_natCast, List.getD_eq_getElem?_getD, h]; rfl
theorem rdB {s : List ByteArray} {i : Nat} {x : ByteArray} (h : s[i]? = some x) : rdOf ByteArray.empty s (i : Int) = x := by
 unfold rdOf
 rw [Int.toNat_natCast, List.getD_eq_getElem?_getD, h]; rfl
theorem rdI {s : List Int} {i : Nat} {x : Int} (h : s[i]? = some x) : rd s (i : Int) = x := by
 unfold rd
 rw [Int.toNat_natCast, List.getD_eq_getElem?_getD, h]; rfl
theorem wi {i : Nat} (h : i ≤ 1000000000) : wrap64 ((i : Int) + 1) = ((i + 1 : Nat) : Int) := by rw [w64 (by omega) (by omega)]; omega
def mayB (op n : Int) (ls : List ByteArray) : Bool := if n < 1 then false else if n > 1048576 then false else if op = 1 then ((ls.length : Int) == 0) else if op = 2 then ((ls.length : Int) == 0) else if op = 3 then ((ls.length : Int) == n) else false
theorem may_j1 (op : Int) (b : Bool) (n : Int) (ls : List ByteArray) : Ev (fun k => script_may.j1 k op b op n ls) (if b = true then ((ls.length : Int) == 0) else if op = 3 then ((ls.length : Int) == n) else false) := by
 refine Ev.step (f := fun _ => some _) (fun k => ?_) (Ev.now _)
 simp only [script_may.j1]
 split
 ·rfl
 ·split <;> rfl
theorem may_ev (op n : Int) (ls : List ByteArray) : Ev (fun k => script_may.f k op n ls) (mayB op n ls) := by
 unfold script_may.f mayB
 by_cases h1 : n < 1
 ·simp only [if_pos h1]
  refine Ev.step (f := fun _ => some false) (fun k => ?_) (Ev.now _)
  simp only [script_may.j0, if_true]
 ·simp only [if_neg h1]
  by_cases h2 : n > 1048576
  ·rw [if_pos h2]
   refine Ev.step (f := fun _ => some false) (fun k => ?_) (Ev.now _)
   simp only [script_may.j0]; rw [if_pos (decide_eq_true h2)]
  ·rw [if_neg h2]
   by_cases h3 : op = 1
   ·rw [if_pos h3]
    have h := Ev.step (g := fun k => script_may.j0 k (decide (n > 1048576)) op n ls) (fun k => by simp only [script_may.j0]; rw [if_neg (by rw [decide_eq_false h2]; decide), if_pos h3]) (may_j1 op (op == 1) n ls)
    rwa [if_pos (by rw [h3]; rfl)] at h
   ·rw [if_neg h3]
    have h := Ev.step (g := fun k => script_may.j0 k (decide (n > 1048576)) op n ls) (fun k => by simp only [script_may.j0]; rw [if_neg (by rw [decide_eq_false h2]; decide), if_neg h3]) (may_j1 op (op == 2) n ls)
    by_cases h4 : op = 2
    ·rw [if_pos (by rw [h4]; rfl)] at h
     rwa [if_pos h4]
    ·rw [if_neg (by simpa using h4)] at h
     rwa [if_neg h4]
/-- May a script be, behind an edit of this kind. -/
def rightB : Int → List EdS → Bool
 | _, [] => true
 | last, x :: s => if mayB x.f0 x.f1 x.f2 = true then (if x.f0 = last then false else if last = 3 then (if x.f0 = 2 then false else rightB x.f0 s) else rightB x.f0 s) else false
theorem right_loop (s : List EdS) (hs : s.length ≤ 1000000) (t : List EdS) : ∀ (i : Nat) (last : Int), s.drop i = t → Ev (fun k => script_Right.l0 k last s (s.length : Int) (i : Int)) (rightB last t) := by
 induction t with
 | nil =>
  intro i last h
  have hi := drop_nil h
  refine Ev.step (f := fun _ => some true) (fun k => ?_) (Ev.now _)
  simp only [script_Right.l0]; rw [if_neg (by omega)]
 | cons x t ih =>
  intro i last h
  obtain ⟨h1, h2, h3⟩ := drop_cons h
  refine Ev.step (f := fun k => (script_may.f k x.f0 x.f1 x.f2).bind fun t651 => (if t651 = true then (if x.f0 = last then (some false) else (if last = 3 then (if x.f0 = 2 then (some false) else (script_Right.l0 k x.f0 s (s.length : Int) ((i + 1 : Nat) : Int))) else (script_Right.l0 k x.f0 s (s.length : Int) ((i + 1 : Nat) : Int)))) else (some false))) (fun k => ?_) (Ev.bind (may_ev _ _ _) ?_)
  ·simp only [script_Right.l0]; rw [if_pos (by omega), if_pos (by omega), if_pos (by omega), rdT h2, wi (by omega)]
  ·unfold rightB
   have h4 := ih (i + 1) x.f0 h3
   by_cases c1 : mayB x.f0 x.f1 x.f2 = true
   ·simp only [if_pos c1]
    by_cases c2 : x.f0 = last
    ·simp only [if_pos c2]; exact Ev.now _
    ·simp only [if_neg c2]
     by_cases c3 : last = 3
     ·simp only [if_pos c3]
      by_cases c4 : x.f0 = 2
      ·simp only [if_pos c4]; exact Ev.now _
      ·simp only [if_neg c4]; exact h4
     ·simp only [if_neg c3]; exact h4
   ·simp only [if_neg c1]; exact Ev.now _
theorem right_ev (s : List EdS) (hs : s.length ≤ 1000000) : Ev (fun k => script_Right.f k s) (rightB 0 s) := right_loop s hs s 0 0 (by simp)
/-- Edits of a right script. -/
def Fit (s : List EdS) : Prop := ∀ x ∈ s, May x ∧ x.f1 ≤ 1048576
theorem mayB_iff (x : EdS) : mayB x.f0 x.f1 x.f2 = true ↔ May x ∧ x.f1 ≤ 1048576 := by
 unfold mayB May
 by_cases h1 : x.f1 < 1
 ·rw [if_pos h1]; constructor
  ·intro h; cases h
  ·rintro ⟨⟨h2, _⟩, _⟩; omega
 ·rw [if_neg h1]
  by_cases h2 : x.f1 > 1048576
  ·rw [if_pos h2]; constructor
   ·intro h; cases h
   ·rintro ⟨_, h⟩; omega
  ·rw [if_neg h2]
   have hl : ((x.f2.length : Int) == 0) = true ↔ x.f2 = [] := by rw [beq_iff_eq, ← List.length_eq_zero_iff]; omega
   by_cases h3 : x.f0 = 1
   ·rw [if_pos h3, hl]
    constructor
    ·intro h; exact ⟨⟨by omega, .inl ⟨.inl h3, h⟩⟩, by omega⟩
    ·rintro ⟨⟨_, h | h⟩, _⟩
     ·exact h.2
     ·omega
   ·rw [if_neg h3]
    by_cases h4 : x.f0 = 2
    ·rw [if_pos h4, hl]
     constructor
     ·intro h; exact ⟨⟨by omega, .inl ⟨.inr h4, h⟩⟩, by omega⟩
     ·rintro ⟨⟨_, h | h⟩, _⟩
      ·exact h.2
      ·omega
    ·rw [if_neg h4]
     by_cases h5 : x.f0 = 3
     ·rw [if_pos h5, beq_iff_eq]
      constructor
      ·intro h; exact ⟨⟨by omega, .inr ⟨h5, h⟩⟩, by omega⟩
      ·rintro ⟨⟨_, h | h⟩, _⟩
       ·omega
       ·exact h.2
     ·rw [if_neg h5]
      constructor
      ·intro h; cases h
      ·rintro ⟨⟨_, h | h⟩, _⟩ <;> omega
theorem rightB_iff (s : List EdS) : ∀ last : Int, rightB last s = true ↔ Fit s ∧ Chn s ∧ ∀ x t, s = x :: t → x.f0 ≠ last ∧ ¬ (last = 3 ∧ x.f0 = 2) := by
 induction s with
 | nil => intro last; exact ⟨fun _ => ⟨fun x hx => absurd hx (by simp), trivial, fun x t h => by cases h⟩, fun _ => rfl⟩
 | cons x s ih =>
  intro last
  have hi := ih x.f0
  have key : rightB last (x :: s) = true ↔ (May x ∧ x.f1 ≤ 1048576) ∧ x.f0 ≠ last ∧ ¬ (last = 3 ∧ x.f0 = 2) ∧ rightB x.f0 s = true := by
   rw [rightB, ← mayB_iff]
   by_cases c1 : mayB x.f0 x.f1 x.f2 = true
   ·rw [if_pos c1]
    by_cases c2 : x.f0 = last
    ·rw [if_pos c2]; simp [c2]
    ·rw [if_neg c2]
     by_cases c3 : last = 3
     ·rw [if_pos c3]
      by_cases c4 : x.f0 = 2
      ·rw [if_pos c4]; simp [c3, c4]
      ·rw [if_neg c4]; simp [c1, c2, c4]
     ·rw [if_neg c3]; simp [c1, c2, c3]
   ·rw [if_neg c1]; simp [c1]
  rw [key, hi]
  constructor
  ·rintro ⟨h1, h2, h3, h4, h5, h6⟩
   refine ⟨fun y hy => ?_, ?_, fun y t e => ?_⟩
   ·rcases List.mem_cons.1 hy with rfl | hy
    ·exact h1
    ·exact h4 y hy
   ·cases s with
    | nil => exact trivial
    | cons y t => exact ⟨⟨fun e => (h6 y t rfl).1 e.symm, (h6 y t rfl).2⟩, h5⟩
   ·injection e with e1 _
    rw [← e1]; exact ⟨h2, h3⟩
  ·rintro ⟨h1, h2, h3⟩
   refine ⟨h1 x List.mem_cons_self, (h3 x s rfl).1, (h3 x s rfl).2, fun y hy => h1 y (List.mem_cons_of_mem _ hy), ?_, fun y t e => ?_⟩
   ·cases s with
    | nil => exact trivial
    | cons y t => exact h2.2
   ·subst e
    exact ⟨fun e => h2.1.1 e.symm, h2.1.2⟩
theorem right_iff (s : List EdS) : rightB 0 s = true ↔ Fit s ∧ Chn s := by
 rw [rightB_iff]
 constructor
 ·rintro ⟨h1, h2, _⟩; exact ⟨h1, h2⟩
 ·rintro ⟨h1, h2⟩
  refine ⟨h1, h2, fun x t e => ?_⟩
  have := (h1 x (by rw [e]; exact List.mem_cons_self)).1.2
  omega
/-- How many lines a script takes, makes, changes. -/
def takes : List EdS → Int
 | [] => 0
 | x :: s => (if x.f0 = 3 then 0 else x.f1) + takes s
def makes : List EdS → Int
 | [] => 0
 | x :: s => (if x.f0 = 2 then 0 else x.f1) + makes s
def chgs : List EdS → Int
 | [] => 0
 | x :: s => (if x.f0 = 1 then 0 else x.f1) + chgs s
theorem fit_tail {x : EdS} {s : List EdS} (h : Fit (x :: s)) : Fit s := fun y hy => h y (List.mem_cons_of_mem _ hy)
theorem fit_head {x : EdS} {s : List EdS} (h : Fit (x :: s)) : 1 ≤ x.f1 ∧ x.f1 ≤ 1048576 ∧ (x.f0 = 1 ∨ x.f0 = 2 ∨ x.f0 = 3) ∧ (x.f0 = 3 → (x.f2.length : Int) = x.f1) ∧ (x.f0 ≠ 3 → x.f2 = []) := by
 obtain ⟨⟨h1, h2⟩, h3⟩ := h x List.mem_cons_self
 refine ⟨h1, h3, ?_, fun h4 => ?_, fun h4 => ?_⟩
 ·rcases h2 with h2 | h2 <;> omega
 ·rcases h2 with h2 | h2
  ·omega
  ·exact h2.2
 ·rcases h2 with h2 | h2
  ·exact h2.2
  ·exact absurd h2.1 h4
theorem spans_bd {s : List EdS} (h : Fit s) : 0 ≤ takes s ∧ takes s ≤ 1048576 * s.length ∧ 0 ≤ makes s ∧ makes s ≤ 1048576 * s.length ∧ 0 ≤ chgs s ∧ chgs s ≤ 1048576 * s.length := by
 induction s with
 | nil => simp [takes, makes, chgs]
 | cons x s ih =>
  have h1 := ih (fit_tail h)
  have h2 := fit_head h
  simp only [takes, makes, chgs, List.length_cons]
  split <;> split <;> split <;> omega
theorem spans_loop (s : List EdS) (hs : s.length ≤ 1000000) (t : List EdS) : ∀ (i : Nat) (a b : Int), Fit t → s.drop i = t → 0 ≤ a → a ≤ 1048576 * i → 0 ≤ b → b ≤ 1048576 * i → Ev (fun k => script_Spans.l0 k a b s (s.length : Int) (i : Int)) (a + takes t, b + makes t) := by
 induction t with
 | nil =>
  intro i a b _ h _ _ _ _
  have hi := drop_nil h
  refine Ev.step (f := fun _ => some (a + 0, b + 0)) (fun k => ?_) (Ev.now _)
  simp only [script_Spans.l0]; rw [if_neg (by omega), Int.add_zero, Int.add_zero]
 | cons x t ih =>
  intro i a b hf h ha1 ha2 hb1 hb2
  obtain ⟨h1, h2, h3⟩ := drop_cons h
  obtain ⟨f1, f2, f3, f4⟩ := fit_head hf
  have hlen : i + 1 ≤ 1000000 := by omega
  have ea : wrap64 (a + x.f1) = a + x.f1 := w64 (by omega) (by omega)
  have eb : wrap64 (b + x.f1) = b + x.f1 := w64 (by omega) (by omega)
  simp only [takes, makes]
  by_cases c1 : x.f0 = 1
  ·rw [if_neg (by omega), if_neg (by omega), ← Int.add_assoc, ← Int.add_assoc]
   refine Ev.step (fun k => ?_) (ih (i + 1) (a + x.f1) (b + x.f1) (fit_tail hf) h3 (by omega) (by omega) (by omega) (by omega))
   simp only [script_Spans.l0]; rw [if_pos (by omega), if_pos (by omega), if_pos (by omega), rdT h2, if_pos c1, wi (by omega), ea, eb]
  ·by_cases c2 : x.f0 = 3
   ·rw [if_pos c2, if_neg (by omega), Int.zero_add, ← Int.add_assoc]
    refine Ev.step (fun k => ?_) (ih (i + 1) a (b + x.f1) (fit_tail hf) h3 (by omega) (by omega) (by omega) (by omega))
    simp only [script_Spans.l0]; rw [if_pos (by omega), if_pos (by omega), if_pos (by omega), rdT h2, if_neg c1, if_pos c2, wi (by omega), eb]
   ·rw [if_neg c2, if_pos (by omega), Int.zero_add, ← Int.add_assoc]
    refine Ev.step (fun k => ?_) (ih (i + 1) (a + x.f1) b (fit_tail hf) h3 (by omega) (by omega) (by omega) (by omega))
    simp only [script_Spans.l0]; rw [if_pos (by omega), if_pos (by omega), if_pos (by omega), rdT h2, if_neg c1, if_neg c2, wi (by omega), ea]
theorem spans_ev (s : List EdS) (hs : s.length ≤ 1000000) (hr : rightB 0 s = true) : Ev (fun k => script_Spans.f k s) (takes s, makes s) := by
 unfold script_Spans.f
 refine Ev.bind (right_ev s hs) ?_
 simp only [if_pos hr]
 have h := spans_loop s hs s 0 0 0 ((right_iff s).1 hr).1 (by simp) (by omega) (by omega) (by omega) (by omega)
 rw [Int.zero_add, Int.zero_add] at h
 exact h
theorem spans_no (s : List EdS) (hs : s.length ≤ 1000000) (hr : rightB 0 s = false) : Ev (fun k => script_Spans.f k s) (0, 0) := by
 unfold script_Spans.f
 refine Ev.bind (right_ev s hs) ?_
 simp only [hr]
 exact Ev.now _
theorem cost_loop (s : List EdS) (hs : s.length ≤ 1000000) (t : List EdS) : ∀ (i : Nat) (a : Int), Fit t → s.drop i = t → 0 ≤ a → a ≤ 1048576 * i → Ev (fun k => script_Cost.l0 k a s (s.length : Int) (i : Int)) (a + chgs t) := by
 induction t with
 | nil =>
  intro i a _ h _ _
  have hi := drop_nil h
  refine Ev.step (f := fun _ => some (a + 0)) (fun k => ?_) (Ev.now _)
  simp only [script_Cost.l0]; rw [if_neg (by omega), Int.add_zero]
 | cons x t ih =>
  intro i a hf h ha1 ha2
  obtain ⟨h1, h2, h3⟩ := drop_cons h
  obtain ⟨f1, f2, f3, f4⟩ := fit_head hf
  have hlen : i + 1 ≤ 1000000 := by omega
  have ea : wrap64 (a + x.f1) = a + x.f1 := w64 (by omega) (by omega)
  simp only [chgs]
  by_cases c1 : x.f0 = 1
  ·rw [if_pos c1, Int.zero_add]
   refine Ev.step (fun k => ?_) (ih (i + 1) a (fit_tail hf) h3 (by omega) (by omega))
   simp only [script_Cost.l0]; rw [if_pos (by omega), if_pos (by omega), if_pos (by omega), rdT h2, if_pos c1, wi (by omega)]
  ·rw [if_neg c1, ← Int.add_assoc]
   refine Ev.step (fun k => ?_) (ih (i + 1) (a + x.f1) (fit_tail hf) h3 (by omega) (by omega))
   simp only [script_Cost.l0]; rw [if_pos (by omega), if_pos (by omega), if_pos (by omega), rdT h2, if_neg c1, wi (by omega), ea]
theorem scost_ev (s : List EdS) (hs : s.length ≤ 1000000) (hr : rightB 0 s = true) : Ev (fun k => script_Cost.f k s) (chgs s) := by
 unfold script_Cost.f
 refine Ev.bind (right_ev s hs) ?_
 simp only [if_pos hr]
 have h := cost_loop s hs s 0 0 ((right_iff s).1 hr).1 (by simp) (by omega) (by omega)
 rw [Int.zero_add] at h
 exact h
theorem fits_ev (s : List EdS) (a : List ByteArray) (hs : s.length ≤ 1000000) (hr : rightB 0 s = true) : Ev (fun k => script_fits.f k s a) (if takes s = (a.length : Int) then 0 else 11) := by
 unfold script_fits.f
 refine Ev.bind (spans_ev s hs hr) ?_
 refine Ev.bind (right_ev s hs) ?_
 simp only [if_pos hr]
 by_cases c : takes s = (a.length : Int)
 ·simp only [if_pos c]; exact Ev.now _
 ·simp only [if_neg c]; exact Ev.now _
/-- What a script makes of lines. -/
def appl : List EdS → List ByteArray → List ByteArray
 | [], _ => []
 | x :: s, a => if x.f0 = 1 then a.take x.f1.toNat ++ appl s (a.drop x.f1.toNat) else if x.f0 = 2 then appl s (a.drop x.f1.toNat) else x.f2 ++ appl s a
theorem apply_loop (s : List EdS) (hs : s.length ≤ 1000000) (t : List EdS) : ∀ (i : Nat) (a out : List ByteArray), Fit t → s.drop i = t → takes t = (a.length : Int) → out.length ≤ 1048576 * i → Ev (fun k => script_Apply.l0 k a out s (s.length : Int) (i : Int)) (out ++ appl t a, 0) := by
 induction t with
 | nil =>
  intro i a out _ h _ _
  have hi := drop_nil h
  refine Ev.step (f := fun _ => some (out ++ [], 0)) (fun k => ?_) (Ev.now _)
  simp only [script_Apply.l0]; rw [if_neg (by omega), List.append_nil]
 | cons x t ih =>
  intro i a out hf h ht ho
  obtain ⟨h1, h2, h3⟩ := drop_cons h
  obtain ⟨f1, f2, f3, f4, f5⟩ := fit_head hf
  have hb := spans_bd (fit_tail hf)
  simp only [takes] at ht
  simp only [appl]
  have hlen : i + 1 ≤ 1000000 := by omega
  by_cases c1 : x.f0 = 1
  ·rw [if_neg (by omega)] at ht
   rw [if_pos c1, ← List.append_assoc]
   refine Ev.step (fun k => ?_) (ih (i + 1) (a.drop x.f1.toNat) (out ++ a.take x.f1.toNat) (fit_tail hf) h3 (by rw [List.length_drop]; omega) (by rw [List.length_append, List.length_take]; omega))
   simp only [script_Apply.l0]
   rw [if_pos (by omega), if_pos (by omega), if_pos (by omega), rdT h2, if_pos c1, if_pos (by omega), if_pos (by omega), Option.bind_some, if_pos (by rw [List.length_take]; omega), wi (by omega)]
  ·by_cases c2 : x.f0 = 2
   ·rw [if_neg (by omega)] at ht
    rw [if_neg c1, if_pos c2]
    refine Ev.step (fun k => ?_) (ih (i + 1) (a.drop x.f1.toNat) out (fit_tail hf) h3 (by rw [List.length_drop]; omega) (by omega))
    simp only [script_Apply.l0]
    rw [if_pos (by omega), if_pos (by omega), if_pos (by omega), rdT h2, if_neg c1, if_pos c2, if_pos (by omega), if_pos (by omega), wi (by omega)]
   ·have c3 : x.f0 = 3 := by omega
    rw [if_pos c3, Int.zero_add] at ht
    rw [if_neg c1, if_neg c2, ← List.append_assoc]
    have f6 := f4 c3
    refine Ev.step (fun k => ?_) (ih (i + 1) a (out ++ x.f2) (fit_tail hf) h3 ht (by rw [List.length_append]; omega))
    simp only [script_Apply.l0]
    rw [if_pos (by omega), if_pos (by omega), if_pos (by omega), rdT h2, if_neg c1, if_neg c2, if_pos (by omega), wi (by omega)]
theorem apply_ev (s : List EdS) (a : List ByteArray) (hs : s.length ≤ 1000000) (hr : rightB 0 s = true) (ht : takes s = (a.length : Int)) : Ev (fun k => script_Apply.f k s a) (appl s a, 0) := by
 unfold script_Apply.f
 have hf := fits_ev s a hs hr
 rw [if_pos ht] at hf
 refine Ev.bind hf ?_
 simp only [if_pos (rfl : (0 : Int) = 0)]
 exact apply_loop s hs s 0 a [] ((right_iff s).1 hr).1 (by simp) ht (by simp)
theorem same_lines (s t : List EdS) (hs : s.length ≤ 1000000) (i : Nat) (x : EdS) (hx : s[i]? = some x) (hl : x.f2.length ≤ 1000000) (u : List ByteArray) {b : Bool} (hn : Ev (fun k => collatorref04_Same.l0 k s s ((i + 1 : Nat) : Int)) b) : ∀ (j : Nat), x.f2.drop j = u → Ev (fun k => collatorref04_Same.l1 k s s (i : Int) (j : Int)) b := by
 have h1 : i < s.length := (List.getElem?_eq_some_iff.1 hx).1
 induction u with
 | nil =>
  intro j h
  have hj := drop_nil h
  refine Ev.step (fun k => ?_) hn
  simp only [collatorref04_Same.l1]
  rw [if_pos (by omega), if_pos (by omega), rdT hx, if_neg (by omega), wi (by omega)]
 | cons y u ih =>
  intro j h
  obtain ⟨g1, g2, g3⟩ := drop_cons h
  refine Ev.step (fun k => ?_) (ih (j + 1) g3)
  simp only [collatorref04_Same.l1]
  rw [if_pos (by omega), if_pos (by omega), rdT hx, if_pos (by omega), if_pos (by omega), if_pos (by omega), if_pos (by omega), if_true, wi (by omega)]
theorem same_loop (s : List EdS) (hs : s.length ≤ 1000000) (hl : ∀ x ∈ s, x.f2.length ≤ 1000000) (t : List EdS) : ∀ (i : Nat), s.drop i = t → Ev (fun k => collatorref04_Same.l0 k s s (i : Int)) true := by
 induction t with
 | nil =>
  intro i h
  have hi := drop_nil h
  refine Ev.step (f := fun _ => some true) (fun k => ?_) (Ev.now _)
  simp only [collatorref04_Same.l0]; rw [if_neg (by omega)]
 | cons x t ih =>
  intro i h
  obtain ⟨h1, h2, h3⟩ := drop_cons h
  refine Ev.step (f := fun k => collatorref04_Same.j1 k s s (i : Int) false) (fun k => ?_) (Ev.step (fun k => ?_) (same_lines s s hs i x h2 (hl x (List.mem_of_getElem? h2)) x.f2 (ih (i + 1) h3) 0 (by simp)))
  ·simp only [collatorref04_Same.l0]
   rw [if_pos (by omega), if_pos (by omega), if_pos (by omega), if_true, if_true, bne_self_eq_false]
  ·simp only [collatorref04_Same.j1]
   rw [if_neg (by decide)]
   rfl
theorem same_ev (s : List EdS) (hs : s.length ≤ 1000000) (hl : ∀ x ∈ s, x.f2.length ≤ 1000000) : Ev (fun k => collatorref04_Same.f k s s) true := by
 unfold collatorref04_Same.f
 simp only [if_pos (rfl : (s.length : Int) = (s.length : Int))]
 exact same_loop s hs hl s 0 (by simp)
end
end Go.Proofs.Ytgobidmfbjmpkaa.Q
end
