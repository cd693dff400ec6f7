/- Scripts and their steps, and what layer 4 of the program answers of them: plain lemmas over the printed functions. -/
import Derived.Test.YthplelgkneipjaaEDiff
import Derived.Test.YthplelgkneipjaaQMyers
import Derived.Test.YthplelgkneipjaaPxf39
import Derived.Test.YthplelgkneipjaaPxf41
import Derived.Test.YthplelgkneipjaaPxf28
import Derived.Test.YthplelgkneipjaaQLines
set_option linter.unusedVariables false
set_option linter.unusedSimpArgs false
namespace Go.Proofs.Ythplelgkneipjaa.Q
section
open Go.Proofs.Ythplelgkneipjaa.P
abbrev EdS := S49
/-- The steps of an edit. -/
def exp1 (x : EdS) : List Step := if x.f0 = 3 then x.f2.map (fun l => (3, [l])) else List.replicate x.f1.toNat (x.f0, [])
/-- The steps of a script. -/
def expd (s : List EdS) : List Step := s.flatMap exp1
theorem expd_nil : expd [] = [] := rfl
theorem expd_cons (x : EdS) (s : List EdS) : expd (x :: s) = exp1 x ++ expd s := by simp [expd]
theorem expd_append (s t : List EdS) : expd (s ++ t) = expd s ++ expd t := by simp [expd]
theorem expd_one (x : EdS) : expd [x] = exp1 x := by simp [expd]
/-- An edit that may be. -/
def May (x : EdS) : Prop := 1 ≤ x.f1 ∧ (((x.f0 = 1 ∨ x.f0 = 2) ∧ x.f2 = []) ∨ (x.f0 = 3 ∧ (x.f2.length : Int) = x.f1))
def After (x y : EdS) : Prop := x.f0 ≠ y.f0 ∧ ¬ (x.f0 = 3 ∧ y.f0 = 2)
/-- Each one behind the next one. -/
def Chn : List EdS → Prop
  | [] => True
  | [_] => True
  | x :: y :: s => After x y ∧ Chn (y :: s)
theorem chn_snoc (s : List EdS) : ∀ (x y : EdS), Chn (s ++ [x]) → After x y → Chn (s ++ [x] ++ [y]) := by
  induction s with
  | nil => intro x y _ h; exact ⟨h, trivial⟩
  | cons z s ih =>
    intro x y h1 h2
    cases s with
    | nil => exact ⟨h1.1, h2, trivial⟩
    | cons u s => exact ⟨h1.1, ih x y h1.2 h2⟩
theorem chn_last (s : List EdS) : ∀ (x y : EdS), Chn (s ++ [x]) → x.f0 = y.f0 → Chn (s ++ [y]) := by
  induction s with
  | nil => intro x y _ _; exact trivial
  | cons z s ih =>
    intro x y h1 h2
    cases s with
    | nil =>
      have h3 : After z x := h1.1
      refine ⟨?_, trivial⟩
      unfold After at h3 ⊢
      rw [← h2]
      exact h3
    | cons u s => exact ⟨h1.1, ih x y h1.2 h2⟩
def Kinds (st : List Step) : Prop := ∀ s ∈ st, (s = (1, []) ∨ s = (2, []) ∨ ∃ b, s = (3, [b]))
def NoCut (st : List Step) : Prop := ∀ (s t : Step) (l m : List Step), st = l ++ s :: t :: m → s.1 = 3 → t.1 ≠ 2
theorem exp1_one {op : Int} {ls : List ByteArray} (h : ((op, ls) : Step) = (1, []) ∨ ((op, ls) : Step) = (2, []) ∨ ∃ b, ((op, ls) : Step) = (3, [b])) : exp1 ⟨op, 1, ls⟩ = [(op, ls)] ∧ May ⟨op, 1, ls⟩ := by
  rcases h with h | h | ⟨b, h⟩ <;> (injection h with h1 h2; subst h1 h2; exact ⟨rfl, by unfold May; simp⟩)
theorem exp1_more {x : EdS} {ls : List ByteArray} (hm : May x) (h : ((x.f0, ls) : Step) = (1, []) ∨ ((x.f0, ls) : Step) = (2, []) ∨ ∃ b, ((x.f0, ls) : Step) = (3, [b])) :
    exp1 ⟨x.f0, x.f1 + 1, x.f2 ++ ls⟩ = exp1 x ++ [(x.f0, ls)] ∧ May ⟨x.f0, x.f1 + 1, x.f2 ++ ls⟩ := by
  obtain ⟨h1, h2⟩ := hm
  have e : (x.f1 + 1).toNat = x.f1.toNat + 1 := by omega
  rcases h with h | h | ⟨b, h⟩
  · injection h with g1 g2
    subst g2
    unfold exp1 May
    simp only [g1]
    rw [if_neg (by decide), if_neg (by decide), e, List.replicate_succ']
    rcases h2 with ⟨_, h2⟩ | ⟨h2, _⟩
    · exact ⟨rfl, by omega, .inl ⟨.inl trivial, by rw [h2]; rfl⟩⟩
    · rw [g1] at h2; exact absurd h2 (by decide)
  · injection h with g1 g2
    subst g2
    unfold exp1 May
    simp only [g1]
    rw [if_neg (by decide), if_neg (by decide), e, List.replicate_succ']
    rcases h2 with ⟨_, h2⟩ | ⟨h2, _⟩
    · exact ⟨rfl, by omega, .inl ⟨.inr trivial, by rw [h2]; rfl⟩⟩
    · rw [g1] at h2; exact absurd h2 (by decide)
  · injection h with g1 g2
    subst g2
    unfold exp1 May
    simp only [g1]
    simp only [if_true]
    rw [List.map_append]
    rcases h2 with ⟨h2, _⟩ | ⟨_, h2⟩
    · rw [g1] at h2; omega
    · exact ⟨rfl, by omega, .inr ⟨trivial, by rw [List.length_append]; simp; omega⟩⟩
theorem may_last {x : EdS} (hm : May x) : ∃ l s, exp1 x = l ++ [s] ∧ s.1 = x.f0 := by
  obtain ⟨h1, h2⟩ := hm
  unfold exp1
  split
  · rename_i h3
    rcases h2 with ⟨h2, _⟩ | ⟨_, h2⟩
    · omega
    · rcases List.eq_nil_or_concat x.f2 with h0 | ⟨l, b, h0⟩
      · rw [h0] at h2; simp at h2; omega
      · rw [h0, List.concat_eq_append, List.map_append]
        exact ⟨_, (3, [b]), rfl, h3.symm⟩
  · obtain ⟨n, hn⟩ : ∃ n, x.f1.toNat = n + 1 := ⟨x.f1.toNat - 1, by omega⟩
    rw [hn, List.replicate_succ']
    exact ⟨_, _, rfl, rfl⟩
/-- Steps that are put together are right, and the same steps. -/
theorem folded_ok (st : List Step) (hk : Kinds st) (hn : NoCut st) : expd (folded st) = st ∧ (∀ x ∈ folded st, May x) ∧ Chn (folded st) := by
  have gen : ∀ (n : Nat) (st : List Step), st.length = n → Kinds st → NoCut st → expd (folded st) = st ∧ (∀ x ∈ folded st, May x) ∧ Chn (folded st) := by
    intro n
    induction n with
    | zero =>
      intro st h _ _
      have : st = [] := List.eq_nil_of_length_eq_zero h
      subst this
      exact ⟨rfl, fun x hx => absurd hx (by simp [folded]), trivial⟩
    | succ n ih =>
      intro st h hk hn
      rcases List.eq_nil_or_concat st with h0 | ⟨st, t, h0⟩
      · subst h0; simp at h
      · rw [List.concat_eq_append] at h0
        subst h0
        have hl : st.length = n := by simpa using h
        obtain ⟨i1, i2, i3⟩ := ih st hl (fun s hs => hk s (List.mem_append_left _ hs)) (fun s t' l m e => hn s t' l (m ++ [t]) (by rw [e]; simp))
        have ht := hk t (by simp)
        obtain ⟨op, ls⟩ := t
        rw [folded_snoc]
        rcases List.eq_nil_or_concat (folded st) with h0 | ⟨s0, x, h0⟩
        · rw [h0] at i1 ⊢
          rw [← i1, note_nil, expd_one]
          obtain ⟨g1, g2⟩ := exp1_one ht
          exact ⟨by rw [g1]; rfl, fun y hy => by rw [List.mem_singleton.1 hy]; exact g2, trivial⟩
        · rw [List.concat_eq_append] at h0
          rw [h0] at i1 i2 i3 ⊢
          have hmx := i2 x (by simp)
          rw [note_snoc]
          split
          · rename_i hop
            have hop' : x.f0 = op := hop
            subst hop'
            obtain ⟨g1, g2⟩ := exp1_more hmx ht
            refine ⟨?_, fun y hy => ?_, chn_last s0 x _ i3 rfl⟩
            · rw [expd_append, expd_one]
              show expd s0 ++ exp1 ⟨x.f0, x.f1 + 1, x.f2 ++ ls⟩ = _
              rw [g1, ← List.append_assoc, ← expd_one x, ← expd_append, i1]
            · rcases List.mem_append.1 hy with hy | hy
              · exact i2 y (List.mem_append_left _ hy)
              · rw [List.mem_singleton.1 hy]; exact g2
          · rename_i hop
            obtain ⟨g1, g2⟩ := exp1_one ht
            refine ⟨?_, fun y hy => ?_, chn_snoc s0 x _ i3 ⟨hop, ?_⟩⟩
            · rw [expd_append, i1, expd_one]
              exact congrArg (st ++ ·) g1
            · rcases List.mem_append.1 hy with hy | hy
              · exact i2 y hy
              · rw [List.mem_singleton.1 hy]; exact g2
            · rintro ⟨a1, a2⟩
              obtain ⟨l, s, e1, e2⟩ := may_last hmx
              have e3 : st = expd s0 ++ l ++ [s] := by rw [← i1, expd_append, expd_one, e1, List.append_assoc]
              exact hn s (op, ls) (expd s0 ++ l) [] (by rw [e3]; simp) (by rw [e2]; exact a1) a2
  exact gen _ st rfl hk hn
theorem script_ok (a b : List ByteArray) : expd (script a b) = pth a b ∧ (∀ x ∈ script a b, May x) ∧ Chn (script a b) :=
  folded_ok _ (pth_kinds a b) (fun s t l m e => pth_right a b s t l m e)
theorem script_bd (a b : List ByteArray) : (script a b).length ≤ a.length + b.length ∧ ∀ x ∈ script a b, 0 ≤ x.f1 ∧ x.f1 ≤ (a.length + b.length : Nat) ∧ x.f2.length ≤ a.length + b.length := by
  have h := folded_bd (pth a b) (pth_small a b).2
  have h2 := (pth_small a b).1
  refine ⟨Nat.le_trans h.1 h2, fun x hx => ?_⟩
  have := h.2 x hx
  omega
/-- The last one of the script is no such one. -/
def Fresh (s : List EdS) (op : Int) : Prop := ∀ s0 x, s = s0 ++ [x] → x.f0 ≠ op
theorem fresh_nil (op : Int) : Fresh [] op := fun s0 x h => absurd h (by simp)
theorem fresh_snoc (s : List EdS) (x : EdS) (op : Int) (h : x.f0 ≠ op) : Fresh (s ++ [x]) op := fun s0 y e => by
  have := List.append_inj_right' e rfl
  injection this with h1 _
  rw [← h1]; exact h
def foldOn (s : List EdS) (st : List Step) : List EdS := st.foldl (fun s x => note s x.1 x.2) s
theorem folded_eq (st : List Step) : folded st = foldOn [] st := rfl
theorem foldOn_append (s : List EdS) (a b : List Step) : foldOn s (a ++ b) = foldOn (foldOn s a) b := List.foldl_append
theorem foldOn_cons (s : List EdS) (x : Step) (b : List Step) : foldOn s (x :: b) = foldOn (note s x.1 x.2) b := rfl
theorem note_fresh {s : List EdS} {op : Int} (h : Fresh s op) (ls : List ByteArray) : note s op ls = s ++ [⟨op, 1, ls⟩] := by
  rcases List.eq_nil_or_concat s with h0 | ⟨s0, x, h0⟩
  · rw [h0]; rfl
  · rw [List.concat_eq_append] at h0
    rw [h0, note_snoc, if_neg (h s0 x h0)]
theorem fold_same (s : List EdS) (op n : Int) (l : List ByteArray) (k : Nat) : foldOn (s ++ [⟨op, n, l⟩]) (List.replicate k (op, [])) = s ++ [⟨op, n + k, l⟩] := by
  induction k generalizing n with
  | zero => simp [foldOn]
  | succ k ih =>
    rw [List.replicate_succ, foldOn_cons, note_snoc, if_pos rfl]
    show foldOn (s ++ [⟨op, n + 1, l ++ []⟩]) _ = _
    rw [List.append_nil, ih]
    have : n + 1 + (k : Int) = n + ((k + 1 : Nat) : Int) := by omega
    rw [this]
theorem fold_rep {s : List EdS} {op : Int} (h : Fresh s op) {k : Nat} (hk : 0 < k) : foldOn s (List.replicate k (op, [])) = s ++ [⟨op, (k : Int), []⟩] := by
  obtain ⟨k, rfl⟩ : ∃ m, k = m + 1 := ⟨k - 1, by omega⟩
  rw [List.replicate_succ, foldOn_cons, note_fresh h, fold_same]
  have : (1 : Int) + k = ((k + 1 : Nat) : Int) := by omega
  rw [this]
theorem fold_addm (s : List EdS) (n : Int) (l ls : List ByteArray) : foldOn (s ++ [⟨3, n, l⟩]) (ls.map fun b => (3, [b])) = s ++ [⟨3, n + ls.length, l ++ ls⟩] := by
  induction ls generalizing n l with
  | nil => simp [foldOn]
  | cons b ls ih =>
    rw [List.map_cons, foldOn_cons, note_snoc, if_pos rfl]
    show foldOn (s ++ [⟨3, n + 1, l ++ [b]⟩]) _ = _
    rw [ih]
    have : n + 1 + (ls.length : Int) = n + ((b :: ls).length : Nat) := by rw [List.length_cons]; omega
    rw [this]
    simp
theorem fold_adds {s : List EdS} (h : Fresh s 3) {ls : List ByteArray} (hk : 0 < ls.length) : foldOn s (ls.map fun b => (3, [b])) = s ++ [⟨3, (ls.length : Int), ls⟩] := by
  cases ls with
  | nil => simp at hk
  | cons b ls =>
    rw [List.map_cons, foldOn_cons, note_fresh h]
    show foldOn (s ++ [⟨3, 1, [b]⟩]) _ = _
    rw [fold_addm]
    have : (1 : Int) + ls.length = ((b :: ls).length : Nat) := by rw [List.length_cons]; omega
    rw [this]
    rfl
def orNone (k : Nat) (e : EdS) : List EdS := if 0 < k then [e] else []
theorem fold_rep' {s : List EdS} {op : Int} (h : Fresh s op) (k : Nat) : foldOn s (List.replicate k (op, [])) = s ++ orNone k ⟨op, (k : Int), []⟩ := by
  unfold orNone
  split
  · rename_i hk; exact fold_rep h hk
  · rename_i hk
    have : k = 0 := by omega
    subst this
    simp [foldOn]
theorem fold_adds' {s : List EdS} (h : Fresh s 3) (ls : List ByteArray) : foldOn s (ls.map fun b => (3, [b])) = s ++ orNone ls.length ⟨3, (ls.length : Int), ls⟩ := by
  unfold orNone
  split
  · rename_i hk; exact fold_adds h hk
  · rename_i hk
    have : ls = [] := List.eq_nil_of_length_eq_zero (by omega)
    subst this
    simp [foldOn]
theorem fresh_or {k : Nat} {e : EdS} {op : Int} (h : e.f0 ≠ op) : Fresh (orNone k e) op := by
  unfold orNone
  split
  · exact fresh_snoc [] e op h
  · exact fresh_nil op
theorem script_behind (a b : List ByteArray) : script a (a ++ b) = orNone a.length ⟨1, (a.length : Int), []⟩ ++ orNone b.length ⟨3, (b.length : Int), b⟩ := by
  unfold script
  rw [folded_eq, pth_behind, foldOn_append, fold_rep' (fresh_nil 1), List.nil_append, fold_adds' (fresh_or (by show (1 : Int) ≠ 3; decide))]
theorem script_behind' (a b : List ByteArray) : script (a ++ b) a = orNone a.length ⟨1, (a.length : Int), []⟩ ++ orNone b.length ⟨2, (b.length : Int), []⟩ := by
  unfold script
  rw [folded_eq, pth_behind', foldOn_append, fold_rep' (fresh_nil 1), List.nil_append, fold_rep' (fresh_or (by show (1 : Int) ≠ 2; decide))]
theorem script_new (p : List ByteArray) (x z : ByteArray) (A : List ByteArray) (hx : x ≠ z) (hz : z ∉ A) :
    script (p ++ x :: A) (p ++ z :: A) = orNone p.length ⟨1, (p.length : Int), []⟩ ++ [⟨2, 1, []⟩, ⟨3, 1, [z]⟩] ++ orNone A.length ⟨1, (A.length : Int), []⟩ := by
  unfold script
  rw [folded_eq, pth_pre, foldOn_append, fold_rep' (fresh_nil 1), List.nil_append, pth_new x z A hx hz, foldOn_cons, foldOn_cons]
  have h1 : Fresh (orNone p.length (⟨1, (p.length : Int), []⟩ : EdS)) 2 := fresh_or (by show (1 : Int) ≠ 2; decide)
  have h2 : Fresh (orNone p.length (⟨1, (p.length : Int), []⟩ : EdS) ++ [⟨2, 1, []⟩]) 3 := fresh_snoc _ _ _ (by show (2 : Int) ≠ 3; decide)
  have h3 : Fresh (orNone p.length (⟨1, (p.length : Int), []⟩ : EdS) ++ [⟨2, 1, []⟩] ++ [⟨3, 1, [z]⟩]) 1 := fresh_snoc _ _ _ (by show (3 : Int) ≠ 1; decide)
  have e1 : note (orNone p.length (⟨1, (p.length : Int), []⟩ : EdS)) 2 [] = _ := note_fresh h1 []
  have e2 := note_fresh h2 [z]
  show foldOn (note (note _ 2 []) 3 [z]) _ = _
  rw [e1, e2, fold_rep' h3]
  simp
end
section
open Go Go.RowKit Go.Proofs.Ythplelgkneipjaa.P Go.Proofs.YthplelgkneipjaaW.PrintWords Go.Proofs.YthplelgkneipjaaW.PrintLast
theorem drop_cons {α : Type} {s : List α} {i : Nat} {x : α} {t : List α} (h : s.drop i = x :: t) : i < s.length ∧ s[i]? = some x ∧ s.drop (i + 1) = t := by
  have h1 : i < s.length := by
    rcases Nat.lt_or_ge i s.length with h1 | h1
    · exact h1
    · rw [List.drop_eq_nil_of_le h1] at h; cases h
  rw [List.drop_eq_getElem_cons h1] at h
  injection h with h2 h3
  exact ⟨h1, by rw [List.getElem?_eq_getElem h1, h2], h3⟩
theorem drop_nil {α : Type} {s : List α} {i : Nat} (h : s.drop i = []) : s.length ≤ i := List.drop_eq_nil_iff.1 h
theorem rdT {s : List EdS} {i : Nat} {x : EdS} (h : s[i]? = some x) : rd_T49 s (i : Int) = x := by
  unfold rd_T49
  rw [Int.toNat_natCast, List.getD_eq_getElem?_getD, h]; rfl
theorem rdB {s : List ByteArray} {i : Nat} {x : ByteArray} (h : s[i]? = some x) : rdOf ByteArray.empty s (i : Int) = x := by
  unfold rdOf
  rw [Int.toNat_natCast, List.getD_eq_getElem?_getD, h]; rfl
theorem rdI {s : List Int} {i : Nat} {x : Int} (h : s[i]? = some x) : rd s (i : Int) = x := by
  unfold rd
  rw [Int.toNat_natCast, List.getD_eq_getElem?_getD, h]; rfl
theorem wi {i : Nat} (h : i ≤ 1000000000) : wrap64 ((i : Int) + 1) = ((i + 1 : Nat) : Int) := by rw [w64 (by omega) (by omega)]; omega
def mayB (op n : Int) (ls : List ByteArray) : Bool := if n < 1 then false else if n > 1048576 then false else if op = 1 then ((ls.length : Int) == 0) else if op = 2 then ((ls.length : Int) == 0) else if op = 3 then ((ls.length : Int) == n) else false
theorem may_j1 (op : Int) (b : Bool) (n : Int) (ls : List ByteArray) : Ev (fun k => script_may.j1 k op b op n ls) (if b = true then ((ls.length : Int) == 0) else if op = 3 then ((ls.length : Int) == n) else false) := by
  refine Ev.step (f := fun _ => some _) (fun k => ?_) (Ev.now _)
  simp only [script_may.j1]
  split
  · rfl
  · split <;> rfl
theorem may_ev (op n : Int) (ls : List ByteArray) : Ev (fun k => script_may.f k op n ls) (mayB op n ls) := by
  unfold script_may.f mayB
  by_cases h1 : n < 1
  · simp only [if_pos h1]
    refine Ev.step (f := fun _ => some false) (fun k => ?_) (Ev.now _)
    simp only [script_may.j0, if_true]
  · simp only [if_neg h1]
    by_cases h2 : n > 1048576
    · rw [if_pos h2]
      refine Ev.step (f := fun _ => some false) (fun k => ?_) (Ev.now _)
      simp only [script_may.j0]; rw [if_pos (decide_eq_true h2)]
    · rw [if_neg h2]
      by_cases h3 : op = 1
      · rw [if_pos h3]
        have h := Ev.step (g := fun k => script_may.j0 k (decide (n > 1048576)) op n ls) (fun k => by simp only [script_may.j0]; rw [if_neg (by rw [decide_eq_false h2]; decide), if_pos h3]) (may_j1 op (op == 1) n ls)
        rwa [if_pos (by rw [h3]; rfl)] at h
      · rw [if_neg h3]
        have h := Ev.step (g := fun k => script_may.j0 k (decide (n > 1048576)) op n ls) (fun k => by simp only [script_may.j0]; rw [if_neg (by rw [decide_eq_false h2]; decide), if_neg h3]) (may_j1 op (op == 2) n ls)
        by_cases h4 : op = 2
        · rw [if_pos (by rw [h4]; rfl)] at h
          rwa [if_pos h4]
        · rw [if_neg (by simpa using h4)] at h
          rwa [if_neg h4]
/-- May a script be, behind an edit of this kind. -/
def rightB : Int → List EdS → Bool
  | _, [] => true
  | last, x :: s => if mayB x.f0 x.f1 x.f2 = true then (if x.f0 = last then false else if last = 3 then (if x.f0 = 2 then false else rightB x.f0 s) else rightB x.f0 s) else false
theorem right_loop (s : List EdS) (hs : s.length ≤ 1000000) (t : List EdS) : ∀ (i : Nat) (last : Int), s.drop i = t → Ev (fun k => script_Right.l0 k last s (s.length : Int) (i : Int)) (rightB last t) := by
  induction t with
  | nil =>
    intro i last h
    have hi := drop_nil h
    refine Ev.step (f := fun _ => some true) (fun k => ?_) (Ev.now _)
    simp only [script_Right.l0]; rw [if_neg (by omega)]
  | cons x t ih =>
    intro i last h
    obtain ⟨h1, h2, h3⟩ := drop_cons h
    refine Ev.step (f := fun k => (script_may.f k x.f0 x.f1 x.f2).bind fun t651 => (if t651 = true then (if x.f0 = last then (some false) else (if last = 3 then (if x.f0 = 2 then (some false) else (script_Right.l0 k x.f0 s (s.length : Int) ((i + 1 : Nat) : Int))) else (script_Right.l0 k x.f0 s (s.length : Int) ((i + 1 : Nat) : Int)))) else (some false))) (fun k => ?_) (Ev.bind (may_ev _ _ _) ?_)
    · simp only [script_Right.l0]; rw [if_pos (by omega), if_pos (by omega), if_pos (by omega), rdT h2, wi (by omega)]
    · unfold rightB
      have h4 := ih (i + 1) x.f0 h3
      by_cases c1 : mayB x.f0 x.f1 x.f2 = true
      · simp only [if_pos c1]
        by_cases c2 : x.f0 = last
        · simp only [if_pos c2]; exact Ev.now _
        · simp only [if_neg c2]
          by_cases c3 : last = 3
          · simp only [if_pos c3]
            by_cases c4 : x.f0 = 2
            · simp only [if_pos c4]; exact Ev.now _
            · simp only [if_neg c4]; exact h4
          · simp only [if_neg c3]; exact h4
      · simp only [if_neg c1]; exact Ev.now _
theorem right_ev (s : List EdS) (hs : s.length ≤ 1000000) : Ev (fun k => script_Right.f k s) (rightB 0 s) := right_loop s hs s 0 0 (by simp)
/-- Edits of a right script. -/
def Fit (s : List EdS) : Prop := ∀ x ∈ s, May x ∧ x.f1 ≤ 1048576
theorem mayB_iff (x : EdS) : mayB x.f0 x.f1 x.f2 = true ↔ May x ∧ x.f1 ≤ 1048576 := by
  unfold mayB May
  by_cases h1 : x.f1 < 1
  · rw [if_pos h1]; constructor
    · intro h; cases h
    · rintro ⟨⟨h2, _⟩, _⟩; omega
  · rw [if_neg h1]
    by_cases h2 : x.f1 > 1048576
    · rw [if_pos h2]; constructor
      · intro h; cases h
      · rintro ⟨_, h⟩; omega
    · rw [if_neg h2]
      have hl : ((x.f2.length : Int) == 0) = true ↔ x.f2 = [] := by rw [beq_iff_eq, ← List.length_eq_zero_iff]; omega
      by_cases h3 : x.f0 = 1
      · rw [if_pos h3, hl]
        constructor
        · intro h; exact ⟨⟨by omega, .inl ⟨.inl h3, h⟩⟩, by omega⟩
        · rintro ⟨⟨_, h | h⟩, _⟩
          · exact h.2
          · omega
      · rw [if_neg h3]
        by_cases h4 : x.f0 = 2
        · rw [if_pos h4, hl]
          constructor
          · intro h; exact ⟨⟨by omega, .inl ⟨.inr h4, h⟩⟩, by omega⟩
          · rintro ⟨⟨_, h | h⟩, _⟩
            · exact h.2
            · omega
        · rw [if_neg h4]
          by_cases h5 : x.f0 = 3
          · rw [if_pos h5, beq_iff_eq]
            constructor
            · intro h; exact ⟨⟨by omega, .inr ⟨h5, h⟩⟩, by omega⟩
            · rintro ⟨⟨_, h | h⟩, _⟩
              · omega
              · exact h.2
          · rw [if_neg h5]
            constructor
            · intro h; cases h
            · rintro ⟨⟨_, h | h⟩, _⟩ <;> omega
theorem rightB_iff (s : List EdS) : ∀ last : Int, rightB last s = true ↔ Fit s ∧ Chn s ∧ ∀ x t, s = x :: t → x.f0 ≠ last ∧ ¬ (last = 3 ∧ x.f0 = 2) := by
  induction s with
  | nil => intro last; exact ⟨fun _ => ⟨fun x hx => absurd hx (by simp), trivial, fun x t h => by cases h⟩, fun _ => rfl⟩
  | cons x s ih =>
    intro last
    have hi := ih x.f0
    have key : rightB last (x :: s) = true ↔ (May x ∧ x.f1 ≤ 1048576) ∧ x.f0 ≠ last ∧ ¬ (last = 3 ∧ x.f0 = 2) ∧ rightB x.f0 s = true := by
      rw [rightB, ← mayB_iff]
      by_cases c1 : mayB x.f0 x.f1 x.f2 = true
      · rw [if_pos c1]
        by_cases c2 : x.f0 = last
        · rw [if_pos c2]; simp [c2]
        · rw [if_neg c2]
          by_cases c3 : last = 3
          · rw [if_pos c3]
            by_cases c4 : x.f0 = 2
            · rw [if_pos c4]; simp [c3, c4]
            · rw [if_neg c4]; simp [c1, c2, c4]
          · rw [if_neg c3]; simp [c1, c2, c3]
      · rw [if_neg c1]; simp [c1]
    rw [key, hi]
    constructor
    · rintro ⟨h1, h2, h3, h4, h5, h6⟩
      refine ⟨fun y hy => ?_, ?_, fun y t e => ?_⟩
      · rcases List.mem_cons.1 hy with rfl | hy
        · exact h1
        · exact h4 y hy
      · cases s with
        | nil => exact trivial
        | cons y t => exact ⟨⟨fun e => (h6 y t rfl).1 e.symm, (h6 y t rfl).2⟩, h5⟩
      · injection e with e1 _
        rw [← e1]; exact ⟨h2, h3⟩
    · rintro ⟨h1, h2, h3⟩
      refine ⟨h1 x List.mem_cons_self, (h3 x s rfl).1, (h3 x s rfl).2, fun y hy => h1 y (List.mem_cons_of_mem _ hy), ?_, fun y t e => ?_⟩
      · cases s with
        | nil => exact trivial
        | cons y t => exact h2.2
      · subst e
        exact ⟨fun e => h2.1.1 e.symm, h2.1.2⟩
theorem right_iff (s : List EdS) : rightB 0 s = true ↔ Fit s ∧ Chn s := by
  rw [rightB_iff]
  constructor
  · rintro ⟨h1, h2, _⟩; exact ⟨h1, h2⟩
  · rintro ⟨h1, h2⟩
    refine ⟨h1, h2, fun x t e => ?_⟩
    have := (h1 x (by rw [e]; exact List.mem_cons_self)).1.2
    omega
/-- How many lines a script takes, makes, changes. -/
def takes : List EdS → Int
  | [] => 0
  | x :: s => (if x.f0 = 3 then 0 else x.f1) + takes s
def makes : List EdS → Int
  | [] => 0
  | x :: s => (if x.f0 = 2 then 0 else x.f1) + makes s
def chgs : List EdS → Int
  | [] => 0
  | x :: s => (if x.f0 = 1 then 0 else x.f1) + chgs s
theorem fit_tail {x : EdS} {s : List EdS} (h : Fit (x :: s)) : Fit s := fun y hy => h y (List.mem_cons_of_mem _ hy)
theorem fit_head {x : EdS} {s : List EdS} (h : Fit (x :: s)) : 1 ≤ x.f1 ∧ x.f1 ≤ 1048576 ∧ (x.f0 = 1 ∨ x.f0 = 2 ∨ x.f0 = 3) ∧ (x.f0 = 3 → (x.f2.length : Int) = x.f1) ∧ (x.f0 ≠ 3 → x.f2 = []) := by
  obtain ⟨⟨h1, h2⟩, h3⟩ := h x List.mem_cons_self
  refine ⟨h1, h3, ?_, fun h4 => ?_, fun h4 => ?_⟩
  · rcases h2 with h2 | h2 <;> omega
  · rcases h2 with h2 | h2
    · omega
    · exact h2.2
  · rcases h2 with h2 | h2
    · exact h2.2
    · exact absurd h2.1 h4
theorem spans_bd {s : List EdS} (h : Fit s) : 0 ≤ takes s ∧ takes s ≤ 1048576 * s.length ∧ 0 ≤ makes s ∧ makes s ≤ 1048576 * s.length ∧ 0 ≤ chgs s ∧ chgs s ≤ 1048576 * s.length := by
  induction s with
  | nil => simp [takes, makes, chgs]
  | cons x s ih =>
    have h1 := ih (fit_tail h)
    have h2 := fit_head h
    simp only [takes, makes, chgs, List.length_cons]
    split <;> split <;> split <;> omega
theorem spans_loop (s : List EdS) (hs : s.length ≤ 1000000) (t : List EdS) : ∀ (i : Nat) (a b : Int), Fit t → s.drop i = t → 0 ≤ a → a ≤ 1048576 * i → 0 ≤ b → b ≤ 1048576 * i → Ev (fun k => script_Spans.l0 k a b s (s.length : Int) (i : Int)) (a + takes t, b + makes t) := by
  induction t with
  | nil =>
    intro i a b _ h _ _ _ _
    have hi := drop_nil h
    refine Ev.step (f := fun _ => some (a + 0, b + 0)) (fun k => ?_) (Ev.now _)
    simp only [script_Spans.l0]; rw [if_neg (by omega), Int.add_zero, Int.add_zero]
  | cons x t ih =>
    intro i a b hf h ha1 ha2 hb1 hb2
    obtain ⟨h1, h2, h3⟩ := drop_cons h
    obtain ⟨f1, f2, f3, f4⟩ := fit_head hf
    have hlen : i + 1 ≤ 1000000 := by omega
    have ea : wrap64 (a + x.f1) = a + x.f1 := w64 (by omega) (by omega)
    have eb : wrap64 (b + x.f1) = b + x.f1 := w64 (by omega) (by omega)
    simp only [takes, makes]
    by_cases c1 : x.f0 = 1
    · rw [if_neg (by omega), if_neg (by omega), ← Int.add_assoc, ← Int.add_assoc]
      refine Ev.step (fun k => ?_) (ih (i + 1) (a + x.f1) (b + x.f1) (fit_tail hf) h3 (by omega) (by omega) (by omega) (by omega))
      simp only [script_Spans.l0]; rw [if_pos (by omega), if_pos (by omega), if_pos (by omega), rdT h2, if_pos c1, wi (by omega), ea, eb]
    · by_cases c2 : x.f0 = 3
      · rw [if_pos c2, if_neg (by omega), Int.zero_add, ← Int.add_assoc]
        refine Ev.step (fun k => ?_) (ih (i + 1) a (b + x.f1) (fit_tail hf) h3 (by omega) (by omega) (by omega) (by omega))
        simp only [script_Spans.l0]; rw [if_pos (by omega), if_pos (by omega), if_pos (by omega), rdT h2, if_neg c1, if_pos c2, wi (by omega), eb]
      · rw [if_neg c2, if_pos (by omega), Int.zero_add, ← Int.add_assoc]
        refine Ev.step (fun k => ?_) (ih (i + 1) (a + x.f1) b (fit_tail hf) h3 (by omega) (by omega) (by omega) (by omega))
        simp only [script_Spans.l0]; rw [if_pos (by omega), if_pos (by omega), if_pos (by omega), rdT h2, if_neg c1, if_neg c2, wi (by omega), ea]
theorem spans_ev (s : List EdS) (hs : s.length ≤ 1000000) (hr : rightB 0 s = true) : Ev (fun k => script_Spans.f k s) (takes s, makes s) := by
  unfold script_Spans.f
  refine Ev.bind (right_ev s hs) ?_
  simp only [if_pos hr]
  have h := spans_loop s hs s 0 0 0 ((right_iff s).1 hr).1 (by simp) (by omega) (by omega) (by omega) (by omega)
  rw [Int.zero_add, Int.zero_add] at h
  exact h
theorem spans_no (s : List EdS) (hs : s.length ≤ 1000000) (hr : rightB 0 s = false) : Ev (fun k => script_Spans.f k s) (0, 0) := by
  unfold script_Spans.f
  refine Ev.bind (right_ev s hs) ?_
  simp only [hr]
  exact Ev.now _
theorem cost_loop (s : List EdS) (hs : s.length ≤ 1000000) (t : List EdS) : ∀ (i : Nat) (a : Int), Fit t → s.drop i = t → 0 ≤ a → a ≤ 1048576 * i → Ev (fun k => script_Cost.l0 k a s (s.length : Int) (i : Int)) (a + chgs t) := by
  induction t with
  | nil =>
    intro i a _ h _ _
    have hi := drop_nil h
    refine Ev.step (f := fun _ => some (a + 0)) (fun k => ?_) (Ev.now _)
    simp only [script_Cost.l0]; rw [if_neg (by omega), Int.add_zero]
  | cons x t ih =>
    intro i a hf h ha1 ha2
    obtain ⟨h1, h2, h3⟩ := drop_cons h
    obtain ⟨f1, f2, f3, f4⟩ := fit_head hf
    have hlen : i + 1 ≤ 1000000 := by omega
    have ea : wrap64 (a + x.f1) = a + x.f1 := w64 (by omega) (by omega)
    simp only [chgs]
    by_cases c1 : x.f0 = 1
    · rw [if_pos c1, Int.zero_add]
      refine Ev.step (fun k => ?_) (ih (i + 1) a (fit_tail hf) h3 (by omega) (by omega))
      simp only [script_Cost.l0]; rw [if_pos (by omega), if_pos (by omega), if_pos (by omega), rdT h2, if_pos c1, wi (by omega)]
    · rw [if_neg c1, ← Int.add_assoc]
      refine Ev.step (fun k => ?_) (ih (i + 1) (a + x.f1) (fit_tail hf) h3 (by omega) (by omega))
      simp only [script_Cost.l0]; rw [if_pos (by omega), if_pos (by omega), if_pos (by omega), rdT h2, if_neg c1, wi (by omega), ea]
theorem scost_ev (s : List EdS) (hs : s.length ≤ 1000000) (hr : rightB 0 s = true) : Ev (fun k => script_Cost.f k s) (chgs s) := by
  unfold script_Cost.f
  refine Ev.bind (right_ev s hs) ?_
  simp only [if_pos hr]
  have h := cost_loop s hs s 0 0 ((right_iff s).1 hr).1 (by simp) (by omega) (by omega)
  rw [Int.zero_add] at h
  exact h
theorem fits_ev (s : List EdS) (a : List ByteArray) (hs : s.length ≤ 1000000) (hr : rightB 0 s = true) : Ev (fun k => script_fits.f k s a) (if takes s = (a.length : Int) then 0 else 11) := by
  unfold script_fits.f
  refine Ev.bind (spans_ev s hs hr) ?_
  refine Ev.bind (right_ev s hs) ?_
  simp only [if_pos hr]
  by_cases c : takes s = (a.length : Int)
  · simp only [if_pos c]; exact Ev.now _
  · simp only [if_neg c]; exact Ev.now _
/-- What a script makes of lines. -/
def appl : List EdS → List ByteArray → List ByteArray
  | [], _ => []
  | x :: s, a => if x.f0 = 1 then a.take x.f1.toNat ++ appl s (a.drop x.f1.toNat) else if x.f0 = 2 then appl s (a.drop x.f1.toNat) else x.f2 ++ appl s a
theorem apply_loop (s : List EdS) (hs : s.length ≤ 1000000) (t : List EdS) : ∀ (i : Nat) (a out : List ByteArray), Fit t → s.drop i = t → takes t = (a.length : Int) → out.length ≤ 1048576 * i → Ev (fun k => script_Apply.l0 k a out s (s.length : Int) (i : Int)) (out ++ appl t a, 0) := by
  induction t with
  | nil =>
    intro i a out _ h _ _
    have hi := drop_nil h
    refine Ev.step (f := fun _ => some (out ++ [], 0)) (fun k => ?_) (Ev.now _)
    simp only [script_Apply.l0]; rw [if_neg (by omega), List.append_nil]
  | cons x t ih =>
    intro i a out hf h ht ho
    obtain ⟨h1, h2, h3⟩ := drop_cons h
    obtain ⟨f1, f2, f3, f4, f5⟩ := fit_head hf
    have hb := spans_bd (fit_tail hf)
    simp only [takes] at ht
    simp only [appl]
    have hlen : i + 1 ≤ 1000000 := by omega
    by_cases c1 : x.f0 = 1
    · rw [if_neg (by omega)] at ht
      rw [if_pos c1, ← List.append_assoc]
      refine Ev.step (fun k => ?_) (ih (i + 1) (a.drop x.f1.toNat) (out ++ a.take x.f1.toNat) (fit_tail hf) h3 (by rw [List.length_drop]; omega) (by rw [List.length_append, List.length_take]; omega))
      simp only [script_Apply.l0]
      rw [if_pos (by omega), if_pos (by omega), if_pos (by omega), rdT h2, if_pos c1, if_pos (by omega), if_pos (by omega), Option.bind_some, if_pos (by rw [List.length_take]; omega), wi (by omega)]
    · by_cases c2 : x.f0 = 2
      · rw [if_neg (by omega)] at ht
        rw [if_neg c1, if_pos c2]
        refine Ev.step (fun k => ?_) (ih (i + 1) (a.drop x.f1.toNat) out (fit_tail hf) h3 (by rw [List.length_drop]; omega) (by omega))
        simp only [script_Apply.l0]
        rw [if_pos (by omega), if_pos (by omega), if_pos (by omega), rdT h2, if_neg c1, if_pos c2, if_pos (by omega), if_pos (by omega), wi (by omega)]
      · have c3 : x.f0 = 3 := by omega
        rw [if_pos c3, Int.zero_add] at ht
        rw [if_neg c1, if_neg c2, ← List.append_assoc]
        have f6 := f4 c3
        refine Ev.step (fun k => ?_) (ih (i + 1) a (out ++ x.f2) (fit_tail hf) h3 ht (by rw [List.length_append]; omega))
        simp only [script_Apply.l0]
        rw [if_pos (by omega), if_pos (by omega), if_pos (by omega), rdT h2, if_neg c1, if_neg c2, if_pos (by omega), wi (by omega)]
theorem apply_ev (s : List EdS) (a : List ByteArray) (hs : s.length ≤ 1000000) (hr : rightB 0 s = true) (ht : takes s = (a.length : Int)) : Ev (fun k => script_Apply.f k s a) (appl s a, 0) := by
  unfold script_Apply.f
  have hf := fits_ev s a hs hr
  rw [if_pos ht] at hf
  refine Ev.bind hf ?_
  simp only [if_pos (rfl : (0 : Int) = 0)]
  exact apply_loop s hs s 0 a [] ((right_iff s).1 hr).1 (by simp) ht (by simp)
theorem same_lines (s t : List EdS) (hs : s.length ≤ 1000000) (i : Nat) (x : EdS) (hx : s[i]? = some x) (hl : x.f2.length ≤ 1000000) (u : List ByteArray) {b : Bool} (hn : Ev (fun k => collatorref04_Same.l0 k s s ((i + 1 : Nat) : Int)) b) : ∀ (j : Nat), x.f2.drop j = u → Ev (fun k => collatorref04_Same.l1 k s s (i : Int) (j : Int)) b := by
  have h1 : i < s.length := (List.getElem?_eq_some_iff.1 hx).1
  induction u with
  | nil =>
    intro j h
    have hj := drop_nil h
    refine Ev.step (fun k => ?_) hn
    simp only [collatorref04_Same.l1]
    rw [if_pos (by omega), if_pos (by omega), rdT hx, if_neg (by omega), wi (by omega)]
  | cons y u ih =>
    intro j h
    obtain ⟨g1, g2, g3⟩ := drop_cons h
    refine Ev.step (fun k => ?_) (ih (j + 1) g3)
    simp only [collatorref04_Same.l1]
    rw [if_pos (by omega), if_pos (by omega), rdT hx, if_pos (by omega), if_pos (by omega), if_pos (by omega), if_pos (by omega), if_true, wi (by omega)]
theorem same_loop (s : List EdS) (hs : s.length ≤ 1000000) (hl : ∀ x ∈ s, x.f2.length ≤ 1000000) (t : List EdS) : ∀ (i : Nat), s.drop i = t → Ev (fun k => collatorref04_Same.l0 k s s (i : Int)) true := by
  induction t with
  | nil =>
    intro i h
    have hi := drop_nil h
    refine Ev.step (f := fun _ => some true) (fun k => ?_) (Ev.now _)
    simp only [collatorref04_Same.l0]; rw [if_neg (by omega)]
  | cons x t ih =>
    intro i h
    obtain ⟨h1, h2, h3⟩ := drop_cons h
    refine Ev.step (f := fun k => collatorref04_Same.j1 k s s (i : Int) false) (fun k => ?_) (Ev.step (fun k => ?_) (same_lines s s hs i x h2 (hl x (List.mem_of_getElem? h2)) x.f2 (ih (i + 1) h3) 0 (by simp)))
    · simp only [collatorref04_Same.l0]
      rw [if_pos (by omega), if_pos (by omega), if_pos (by omega), if_true, if_true, bne_self_eq_false]
    · simp only [collatorref04_Same.j1]
      rw [if_neg (by decide)]
      rfl
theorem same_ev (s : List EdS) (hs : s.length ≤ 1000000) (hl : ∀ x ∈ s, x.f2.length ≤ 1000000) : Ev (fun k => collatorref04_Same.f k s s) true := by
  unfold collatorref04_Same.f
  simp only [if_pos (rfl : (s.length : Int) = (s.length : Int))]
  exact same_loop s hs hl s 0 (by simp)
end
section
open Go Go.RowKit Go.Proofs.Ythplelgkneipjaa.P Go.Proofs.YthplelgkneipjaaW.PrintWords Go.Proofs.YthplelgkneipjaaW.PrintLast
/-- The kinds of a script's steps. -/
def opsS : List EdS → List Int
  | [] => []
  | x :: s => List.replicate x.f1.toNat x.f0 ++ opsS s
theorem ops_append (a b : List Step) : ops (a ++ b) = ops a ++ ops b := List.map_append
theorem ops_expd {s : List EdS} (h : Fit s) : ops (expd s) = opsS s := by
  induction s with
  | nil => rfl
  | cons x s ih =>
    obtain ⟨f1, f2, f3, f4, f5⟩ := fit_head h
    rw [expd_cons, ops_append, ih (fit_tail h), opsS]
    congr 1
    unfold exp1 ops
    split
    · rename_i h3
      have := f4 h3
      rw [List.map_map, h3]
      apply List.ext_getElem
      · simp; omega
      · intro i h1 h2; simp
    · simp
theorem chgs_ops {s : List EdS} (h : Fit s) : chgs s = (chg (opsS s) : Int) := by
  induction s with
  | nil => rfl
  | cons x s ih =>
    obtain ⟨f1, f2, f3, f4, f5⟩ := fit_head h
    rw [chgs, opsS, chg_append, chg_replicate, ih (fit_tail h)]
    split
    · omega
    · omega
theorem do_keep (n : Nat) (st : List Step) : ∀ {A B : List ByteArray}, doSteps (List.replicate n ((1 : Int), ([] : List ByteArray)) ++ st) A = some B → n ≤ A.length ∧ ∃ B', doSteps st (A.drop n) = some B' ∧ B = A.take n ++ B' := by
  induction n with
  | zero => intro A B h; exact ⟨Nat.zero_le _, B, by simpa using h, by simp⟩
  | succ n ih =>
    intro A B h
    rw [List.replicate_succ, List.cons_append, doSteps_cons, if_neg (by show ¬ (1 : Int) = 3; decide)] at h
    cases A with
    | nil => cases h
    | cons x A =>
      have h' : (if (1 : Int) = 1 then (doSteps (List.replicate n (1, []) ++ st) A).map (x :: ·) else doSteps (List.replicate n (1, []) ++ st) A) = some B := h
      rw [if_pos rfl] at h'
      obtain ⟨C, h1, rfl⟩ := Option.map_eq_some_iff.1 h'
      obtain ⟨h2, B', h3, rfl⟩ := ih h1
      exact ⟨by simp only [List.length_cons]; omega, B', by simpa using h3, by simp⟩
theorem do_cut (n : Nat) (st : List Step) : ∀ {A B : List ByteArray}, doSteps (List.replicate n ((2 : Int), ([] : List ByteArray)) ++ st) A = some B → n ≤ A.length ∧ doSteps st (A.drop n) = some B := by
  induction n with
  | zero => intro A B h; exact ⟨Nat.zero_le _, by simpa using h⟩
  | succ n ih =>
    intro A B h
    rw [List.replicate_succ, List.cons_append, doSteps_cons, if_neg (by show ¬ (2 : Int) = 3; decide)] at h
    cases A with
    | nil => cases h
    | cons x A =>
      have h' : (if (2 : Int) = 1 then (doSteps (List.replicate n (2, []) ++ st) A).map (x :: ·) else doSteps (List.replicate n (2, []) ++ st) A) = some B := h
      rw [if_neg (by decide)] at h'
      obtain ⟨h2, h3⟩ := ih h'
      exact ⟨by simp only [List.length_cons]; omega, by simpa using h3⟩
theorem do_add (ls : List ByteArray) (st : List Step) : ∀ {A B : List ByteArray}, doSteps ((ls.map fun l => ((3 : Int), [l])) ++ st) A = some B → ∃ B', doSteps st A = some B' ∧ B = ls ++ B' := by
  induction ls with
  | nil => intro A B h; exact ⟨B, h, rfl⟩
  | cons l ls ih =>
    intro A B h
    rw [List.map_cons, List.cons_append, doSteps_cons, if_pos rfl] at h
    obtain ⟨C, h1, rfl⟩ := Option.map_eq_some_iff.1 h
    obtain ⟨B', h3, rfl⟩ := ih h1
    exact ⟨B', h3, rfl⟩
theorem do_appl {s : List EdS} (h : Fit s) : ∀ {A B : List ByteArray}, doSteps (expd s) A = some B → takes s = (A.length : Int) ∧ appl s A = B := by
  induction s with
  | nil =>
    intro A B hd
    cases A with
    | nil => injection hd with hd; exact ⟨rfl, hd⟩
    | cons x A => cases hd
  | cons x s ih =>
    intro A B hd
    obtain ⟨f1, f2, f3, f4, f5⟩ := fit_head h
    rw [expd_cons] at hd
    unfold exp1 at hd
    simp only [takes, appl]
    by_cases c3 : x.f0 = 3
    · rw [if_pos c3] at hd
      obtain ⟨B', h1, rfl⟩ := do_add _ _ hd
      obtain ⟨h2, h3⟩ := ih (fit_tail h) h1
      rw [if_pos c3, if_neg (by omega), if_neg (by omega), h3]
      exact ⟨by omega, rfl⟩
    · rw [if_neg c3] at hd
      by_cases c1 : x.f0 = 1
      · rw [c1] at hd
        obtain ⟨h0, B', h1, rfl⟩ := do_keep _ _ hd
        obtain ⟨h2, h3⟩ := ih (fit_tail h) h1
        rw [if_neg c3, if_pos c1, h3]
        rw [List.length_drop] at h2
        exact ⟨by omega, rfl⟩
      · have c2 : x.f0 = 2 := by omega
        rw [c2] at hd
        obtain ⟨h0, h1⟩ := do_cut _ _ hd
        obtain ⟨h2, h3⟩ := ih (fit_tail h) h1
        rw [if_neg c3, if_neg c1, if_pos c2, h3]
        rw [List.length_drop] at h2
        exact ⟨by omega, rfl⟩
theorem trn_keep (n : Nat) {o : List Int} : ∀ {A B : List ByteArray}, n ≤ A.length → Trn o (A.drop n) B → Trn (List.replicate n 1 ++ o) A (A.take n ++ B) := by
  induction n with
  | zero => intro A B _ h; simpa using h
  | succ n ih =>
    intro A B hn h
    cases A with
    | nil => simp at hn
    | cons x A =>
      simp only [List.length_cons] at hn
      exact Trn.keep x (ih (by omega) (by simpa using h))
theorem trn_cut (n : Nat) {o : List Int} : ∀ {A B : List ByteArray}, n ≤ A.length → Trn o (A.drop n) B → Trn (List.replicate n 2 ++ o) A B := by
  induction n with
  | zero => intro A B _ h; simpa using h
  | succ n ih =>
    intro A B hn h
    cases A with
    | nil => simp at hn
    | cons x A =>
      simp only [List.length_cons] at hn
      exact Trn.cut x (ih (by omega) (by simpa using h))
theorem trn_add (ls : List ByteArray) {o : List Int} {A B : List ByteArray} (h : Trn o A B) : Trn (List.replicate ls.length 3 ++ o) A (ls ++ B) := by
  induction ls with
  | nil => exact h
  | cons l ls ih => exact Trn.add l ih
/-- A right script that fits makes its lines by its steps. -/
theorem trn_of {s : List EdS} (h : Fit s) : ∀ {A : List ByteArray}, takes s = (A.length : Int) → Trn (opsS s) A (appl s A) := by
  induction s with
  | nil =>
    intro A ht
    have : A = [] := List.eq_nil_of_length_eq_zero (by simp only [takes] at ht; omega)
    subst this
    exact Trn.nil
  | cons x s ih =>
    intro A ht
    obtain ⟨f1, f2, f3, f4, f5⟩ := fit_head h
    have hb := spans_bd (fit_tail h)
    simp only [takes] at ht
    simp only [opsS, appl]
    by_cases c3 : x.f0 = 3
    · have e : x.f1.toNat = x.f2.length := by have := f4 c3; omega
      rw [if_pos c3] at ht
      rw [if_neg (by omega), if_neg (by omega), c3, e]
      exact trn_add x.f2 (ih (fit_tail h) (by omega))
    · rw [if_neg c3] at ht
      have hd : takes s = ((A.drop x.f1.toNat).length : Int) := by rw [List.length_drop]; omega
      by_cases c1 : x.f0 = 1
      · rw [if_pos c1, c1]
        exact trn_keep _ (by omega) (ih (fit_tail h) hd)
      · have c2 : x.f0 = 2 := by omega
        rw [if_neg c1, if_pos c2, c2]
        exact trn_cut _ (by omega) (ih (fit_tail h) hd)
theorem takes_appl {s : List EdS} (h : Fit s) : ∀ {A : List ByteArray}, takes s = (A.length : Int) → ((appl s A).length : Int) = makes s := by
  induction s with
  | nil => intro A _; rfl
  | cons x s ih =>
    intro A ht
    obtain ⟨f1, f2, f3, f4, f5⟩ := fit_head h
    have hb := spans_bd (fit_tail h)
    simp only [takes] at ht
    simp only [appl, makes]
    by_cases c3 : x.f0 = 3
    · have := f4 c3
      rw [if_pos c3] at ht
      have h2 := ih (fit_tail h) (A := A) (by omega)
      rw [if_neg (by omega), if_neg (by omega), if_neg (by omega), List.length_append]
      omega
    · rw [if_neg c3] at ht
      have h2 := ih (fit_tail h) (A := A.drop x.f1.toNat) (by rw [List.length_drop]; omega)
      by_cases c1 : x.f0 = 1
      · rw [if_pos c1, if_neg (by omega), List.length_append, List.length_take]
        omega
      · rw [if_neg c1, if_pos (by omega), if_pos (by omega)]
        omega
theorem script_fit (a b : List ByteArray) (h : a.length + b.length ≤ 1048576) : Fit (script a b) ∧ rightB 0 (script a b) = true ∧ takes (script a b) = (a.length : Int) ∧ appl (script a b) a = b ∧ chgs (script a b) = (cost a b : Int) := by
  obtain ⟨h1, h2, h3⟩ := script_ok a b
  have hb := script_bd a b
  have hf : Fit (script a b) := fun x hx => ⟨h2 x hx, by have := hb.2 x hx; omega⟩
  have hd : doSteps (expd (script a b)) a = some b := by rw [h1]; exact pth_makes a b
  obtain ⟨g1, g2⟩ := do_appl hf hd
  refine ⟨hf, (right_iff _).2 ⟨hf, h3⟩, g1, g2, ?_⟩
  rw [chgs_ops hf, ← ops_expd hf, h1, (trn_pth a b).2]
end
end Go.Proofs.Ythplelgkneipjaa.Q
