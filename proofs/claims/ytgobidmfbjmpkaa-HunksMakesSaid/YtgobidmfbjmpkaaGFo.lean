/- Lines of raw numbers; scripts and their steps: plain lemmas (out of the templates QLines, QScriptEv). -/
import Derived.Test.YtgobidmfbjmpkaaGDf
import Derived.Test.YtgobidmfbjmpkaaGHm
import Derived.Test.YtgobidmfbjmpkaaPxf45
import Derived.Test.YtgobidmfbjmpkaaPxf21
set_option linter.unusedVariables false
set_option linter.unusedSimpArgs false
namespace Go.Proofs.Ytgobidmfbjmpkaa.Q
open Go Go.RowKit Go.Proofs.Ytgobidmfbjmpkaa.P Go.Proofs.YtgobidmfbjmpkaaW.PrintWords Go.Proofs.YtgobidmfbjmpkaaW.PrintLast Go.Proofs.YtgobidmfbjmpkaaW.PrintMore
theorem pick3 {c : Int} (hc : -9223372036854775808 ≤ c ∧ c ≤ 9223372036854775807) {m : Int} {n : Nat} (hm : m = n) (hn : 0 < n) : collatorlaw03_pick.f c m = some (pk c n : Int) := pick_body hc hm hn
def few : List ByteArray := [(⟨#[97, 10]⟩ : ByteArray), (⟨#[98, 10]⟩ : ByteArray), (⟨#[99, 10]⟩ : ByteArray), (⟨#[10]⟩ : ByteArray), (⟨#[108, 111, 110, 103, 10]⟩ : ByteArray)]
def last_ : ByteArray := ⟨#[101, 110, 100]⟩
/-- Lines of few; the last one may be another one. -/
structure Fine (L : List ByteArray) (most : Nat) : Prop where
 le : L.length ≤ most
 most_ : ∀ j (h : j < L.length), L[j] ∈ few ∨ (L[j] = last_ ∧ j + 1 = L.length)
theorem Fine.mem {L : List ByteArray} {m : Nat} (h : Fine L m) {x : ByteArray} (hx : x ∈ L) : x ∈ few ∨ x = last_ := by
 obtain ⟨j, hj, rfl⟩ := List.mem_iff_getElem.1 hx
 rcases h.most_ j hj with h | h
 ·exact .inl h
 ·exact .inr h.1
theorem few_size : ∀ x ∈ few, x.size ≤ 5 := by decide
theorem Fine.size {L : List ByteArray} {m : Nat} (h : Fine L m) {x : ByteArray} (hx : x ∈ L) : x.size ≤ 5 := by
 rcases h.mem hx with h | h
 ·exact few_size x h
 ·subst h; decide
theorem rdOf_few (c : Int) : rdOf ByteArray.empty few (pk c 5 : Int) ∈ few := by
 have h := pk_lt c (n := 5) (by omega)
 unfold rdOf
 rw [Int.toNat_natCast, List.getD_eq_getElem?_getD, List.getElem?_eq_getElem (by exact h)]
 exact List.getElem_mem _
theorem lines_end (l : List Int) (hw : ∀ x ∈ l, (Lit.int .i64 x).wf = true) (hl : l.length ≤ 9223372036854775807) (acc : List ByteArray) (most : Nat) (hm : acc.length ≤ most) (hml : acc.length ≤ l.length)
  (hf : ∀ x ∈ acc, x ∈ few) : ∃ L, (if (acc.length : Int) > 0 then (if 0 ≤ (wrap64 ((acc.length : Int) - 1)) then (if (wrap64 ((acc.length : Int) - 1)) < (l.length : Int) then ((collatorlaw03_pick.f (rd l (wrap64 ((acc.length : Int) - 1))) 7).bind fun t121 => (if t121 = 6 then (if (wrap64 ((acc.length : Int) - 1)) < (acc.length : Int) then (some (acc.set ((wrap64 ((acc.length : Int) - 1)) : Int).toNat (⟨#[101, 110, 100]⟩ : ByteArray))) else (none)) else (some acc))) else (none)) else (none)) else (some acc)) = some L ∧ Fine L most ∧ L.length = acc.length := by
 by_cases h0 : (acc.length : Int) > 0
 ·rw [if_pos h0, w64 (by omega) (by omega), if_pos (by omega), if_pos (by omega), pick3 (m := 7) (n := 7) (rd_mem hw (by omega) (by omega)) rfl (by omega), Option.bind_some]
  by_cases h6 : (pk (rd l ((acc.length : Int) - 1)) 7 : Int) = 6
  ·rw [if_pos h6, if_pos (by omega)]
   refine ⟨_, rfl, ⟨by rw [List.length_set]; exact hm, fun j hj => ?_⟩, by rw [List.length_set]⟩
   rw [List.length_set] at hj
   rw [List.getElem_set]
   by_cases he : ((acc.length : Int) - 1).toNat = j
   ·rw [if_pos he]; exact .inr ⟨rfl, by rw [List.length_set]; omega⟩
   ·rw [if_neg he]; exact .inl (hf _ (List.getElem_mem _))
  ·rw [if_neg h6]
   exact ⟨_, rfl, ⟨hm, fun j hj => .inl (hf _ (List.getElem_mem _))⟩, rfl⟩
 ·rw [if_neg h0]
  exact ⟨_, rfl, ⟨hm, fun j hj => .inl (hf _ (List.getElem_mem _))⟩, rfl⟩
theorem lines_loop (l : List Int) (hw : ∀ x ∈ l, (Lit.int .i64 x).wf = true) (hl : l.length ≤ 9223372036854775807) (most : Nat) (hmm : most ≤ 1000000) (d : Nat) :
  ∀ (acc : List ByteArray) (i : Nat), acc.length = i → i ≤ l.length → i ≤ most → min l.length most - i = d → (∀ x ∈ acc, x ∈ few) →
  ∃ L, Ev (fun k => collatorlaw03_Lines.l0 k l (most : Int) few acc (i : Int)) L ∧ Fine L most ∧ L.length = min l.length most := by
 induction d with
 | zero =>
  intro acc i ha hi hm hd hf
  obtain ⟨L, hL, hfine, hlen⟩ := lines_end l hw hl acc most (by omega) (by omega) hf
  refine ⟨L, Ev.step (f := fun _ => some L) (fun k => ?_) (Ev.now L), hfine, by omega⟩
  simp only [collatorlaw03_Lines.l0]
  rw [hL]
  by_cases h1 : (i : Int) < (l.length : Int)
  ·rw [if_pos h1, if_neg (by omega)]
  ·rw [if_neg h1]
 | succ d ih =>
  intro acc i ha hi hm hd hf
  obtain ⟨L, hL, hr⟩ := ih (acc ++ [rdOf ByteArray.empty few (pk (rd l i) 5 : Int)]) (i + 1) (by simp [ha]) (by omega) (by omega) (by omega) (by
   intro x hx
   rcases List.mem_append.1 hx with hx | hx
   ·exact hf x hx
   ·rw [List.mem_singleton.1 hx]; exact rdOf_few _)
  refine ⟨L, Ev.step (fun k => ?_) hL, hr⟩
  simp only [collatorlaw03_Lines.l0]
  have h5 := pk_lt (rd l i) (n := 5) (by omega)
  rw [if_pos (by omega), if_pos (by omega), if_pos (by omega), pick3 (m := 5) (n := 5) (rd_mem hw (by omega) (by omega)) rfl (by omega), Option.bind_some, if_pos (by omega), if_pos (by show _ < ((5 : Nat) : Int); omega), if_pos (by omega), w64 (by omega) (by omega)]
  rfl
/-- What Lines makes: lines of few, as many as there are raw numbers, 'most' at the most. -/
theorem lines_ev (l : List Int) (hw : ∀ x ∈ l, (Lit.int .i64 x).wf = true) (hl : l.length ≤ 9223372036854775807) (most : Nat) (hmm : most ≤ 1000000) :
  ∃ L, Ev (fun k => collatorlaw03_Lines.f k l (most : Int)) L ∧ Fine L most ∧ L.length = min l.length most :=
 lines_loop l hw hl most hmm _ [] 0 rfl (Nat.zero_le _) (Nat.zero_le _) rfl (by simp)
/-- The steps of an edit. -/
def exp1 (x : EdS) : List Step := if x.f0 = 3 then x.f2.map (fun l => (3, [l])) else List.replicate x.f1.toNat (x.f0, [])
/-- The steps of a script. -/
def expd (s : List EdS) : List Step := s.flatMap exp1
theorem expd_nil : expd [] = [] := rfl
theorem expd_cons (x : EdS) (s : List EdS) : expd (x :: s) = exp1 x ++ expd s := by simp [expd]
theorem expd_append (s t : List EdS) : expd (s ++ t) = expd s ++ expd t := by simp [expd]
theorem expd_one (x : EdS) : expd [x] = exp1 x := by simp [expd]
def Kinds (st : List Step) : Prop := ∀ s ∈ st, (s = (1, []) ∨ s = (2, []) ∨ ∃ b, s = (3, [b]))
def NoCut (st : List Step) : Prop := ∀ (s t : Step) (l m : List Step), st = l ++ s :: t :: m → s.1 = 3 → t.1 ≠ 2
theorem exp1_one {op : Int} {ls : List ByteArray} (h : ((op, ls) : Step) = (1, []) ∨ ((op, ls) : Step) = (2, []) ∨ ∃ b, ((op, ls) : Step) = (3, [b])) : exp1 ⟨op, 1, ls⟩ = [(op, ls)] ∧ May ⟨op, 1, ls⟩ := by
 rcases h with h | h | ⟨b, h⟩ <;> (injection h with h1 h2; subst h1 h2; exact ⟨rfl, by unfold May; simp⟩)
theorem exp1_more {x : EdS} {ls : List ByteArray} (hm : May x) (h : ((x.f0, ls) : Step) = (1, []) ∨ ((x.f0, ls) : Step) = (2, []) ∨ ∃ b, ((x.f0, ls) : Step) = (3, [b])) :
  exp1 ⟨x.f0, x.f1 + 1, x.f2 ++ ls⟩ = exp1 x ++ [(x.f0, ls)] ∧ May ⟨x.f0, x.f1 + 1, x.f2 ++ ls⟩ := by
 obtain ⟨h1, h2⟩ := hm
 have e : (x.f1 + 1).toNat = x.f1.toNat + 1 := by omega
 rcases h with h | h | ⟨b, h⟩
 ·injection h with g1 g2
  subst g2
  unfold exp1 May
  simp only [g1]
  rw [if_neg (by decide), if_neg (by decide), e, List.replicate_succ']
  rcases h2 with ⟨_, h2⟩ | ⟨h2, _⟩
  ·exact ⟨rfl, by omega, .inl ⟨.inl trivial, by rw [h2]; rfl⟩⟩
  ·rw [g1] at h2; exact absurd h2 (by decide)
 ·injection h with g1 g2
  subst g2
  unfold exp1 May
  simp only [g1]
  rw [if_neg (by decide), if_neg (by decide), e, List.replicate_succ']
  rcases h2 with ⟨_, h2⟩ | ⟨h2, _⟩
  ·exact ⟨rfl, by omega, .inl ⟨.inr trivial, by rw [h2]; rfl⟩⟩
  ·rw [g1] at h2; exact absurd h2 (by decide)
 ·injection h with g1 g2
  subst g2
  unfold exp1 May
  simp only [g1]
  simp only [if_true]
  rw [List.map_append]
  rcases h2 with ⟨h2, _⟩ | ⟨_, h2⟩
  ·rw [g1] at h2; omega
  ·exact ⟨rfl, by omega, .inr ⟨trivial, by rw [List.length_append]; simp; omega⟩⟩
theorem may_last {x : EdS} (hm : May x) : ∃ l s, exp1 x = l ++ [s] ∧ s.1 = x.f0 := by
 obtain ⟨h1, h2⟩ := hm
 unfold exp1
 split
 ·rename_i h3
  rcases h2 with ⟨h2, _⟩ | ⟨_, h2⟩
  ·omega
  ·rcases List.eq_nil_or_concat x.f2 with h0 | ⟨l, b, h0⟩
   ·rw [h0] at h2; simp at h2; omega
   ·rw [h0, List.concat_eq_append, List.map_append]
    exact ⟨_, (3, [b]), rfl, h3.symm⟩
 ·obtain ⟨n, hn⟩ : ∃ n, x.f1.toNat = n + 1 := ⟨x.f1.toNat - 1, by omega⟩
  rw [hn, List.replicate_succ']
  exact ⟨_, _, rfl, rfl⟩
/-- Steps that are put together are right, and the same steps. -/
theorem folded_ok (st : List Step) (hk : Kinds st) (hn : NoCut st) : expd (folded st) = st ∧ (∀ x ∈ folded st, May x) ∧ Chn (folded st) := by
 have gen : ∀ (n : Nat) (st : List Step), st.length = n → Kinds st → NoCut st → expd (folded st) = st ∧ (∀ x ∈ folded st, May x) ∧ Chn (folded st) := by
  intro n
  induction n with
  | zero =>
   intro st h _ _
   have : st = [] := List.eq_nil_of_length_eq_zero h
   subst this
   exact ⟨rfl, fun x hx => absurd hx (by simp [folded]), trivial⟩
  | succ n ih =>
   intro st h hk hn
   rcases List.eq_nil_or_concat st with h0 | ⟨st, t, h0⟩
   ·subst h0; simp at h
   ·rw [List.concat_eq_append] at h0
    subst h0
    have hl : st.length = n := by simpa using h
    obtain ⟨i1, i2, i3⟩ := ih st hl (fun s hs => hk s (List.mem_append_left _ hs)) (fun s t' l m e => hn s t' l (m ++ [t]) (by rw [e]; simp))
    have ht := hk t (by simp)
    obtain ⟨op, ls⟩ := t
    rw [folded_snoc]
    rcases List.eq_nil_or_concat (folded st) with h0 | ⟨s0, x, h0⟩
    ·rw [h0] at i1 ⊢
     rw [← i1, note_nil, expd_one]
     obtain ⟨g1, g2⟩ := exp1_one ht
     exact ⟨by rw [g1]; rfl, fun y hy => by rw [List.mem_singleton.1 hy]; exact g2, trivial⟩
    ·rw [List.concat_eq_append] at h0
     rw [h0] at i1 i2 i3 ⊢
     have hmx := i2 x (by simp)
     rw [note_snoc]
     split
     ·rename_i hop
      have hop' : x.f0 = op := hop
      subst hop'
      obtain ⟨g1, g2⟩ := exp1_more hmx ht
      refine ⟨?_, fun y hy => ?_, chn_last s0 x _ i3 rfl⟩
      ·rw [expd_append, expd_one]
       show expd s0 ++ exp1 ⟨x.f0, x.f1 + 1, x.f2 ++ ls⟩ = _
       rw [g1, ← List.append_assoc, ← expd_one x, ← expd_append, i1]
      ·rcases List.mem_append.1 hy with hy | hy
       ·exact i2 y (List.mem_append_left _ hy)
       ·rw [List.mem_singleton.1 hy]; exact g2
     ·rename_i hop
      obtain ⟨g1, g2⟩ := exp1_one ht
      refine ⟨?_, fun y hy => ?_, chn_snoc s0 x _ i3 ⟨hop, ?_⟩⟩
      ·rw [expd_append, i1, expd_one]
       exact congrArg (st ++ ·) g1
      ·rcases List.mem_append.1 hy with hy | hy
       ·exact i2 y hy
       ·rw [List.mem_singleton.1 hy]; exact g2
      ·rintro ⟨a1, a2⟩
       obtain ⟨l, s, e1, e2⟩ := may_last hmx
       have e3 : st = expd s0 ++ l ++ [s] := by rw [← i1, expd_append, expd_one, e1, List.append_assoc]
       exact hn s (op, ls) (expd s0 ++ l) [] (by rw [e3]; simp) (by rw [e2]; exact a1) a2
 exact gen _ st rfl hk hn
theorem steps_ok (a b : List ByteArray) : expd (script a b) = pth a b ∧ (∀ x ∈ script a b, May x) ∧ Chn (script a b) :=
 folded_ok _ (pth_kinds a b) (fun s t l m e => pth_right a b s t l m e)
theorem script_bd (a b : List ByteArray) : (script a b).length ≤ a.length + b.length ∧ ∀ x ∈ script a b, 0 ≤ x.f1 ∧ x.f1 ≤ (a.length + b.length : Nat) ∧ x.f2.length ≤ a.length + b.length := by
 have h := folded_bd (pth a b) (pth_small a b).2
 have h2 := (pth_small a b).1
 refine ⟨Nat.le_trans h.1 h2, fun x hx => ?_⟩
 have := h.2 x hx
 omega
theorem do_keep (n : Nat) (st : List Step) : ∀ {A B : List ByteArray}, doSteps (List.replicate n ((1 : Int), ([] : List ByteArray)) ++ st) A = some B → n ≤ A.length ∧ ∃ B', doSteps st (A.drop n) = some B' ∧ B = A.take n ++ B' := by
 induction n with
 | zero => intro A B h; exact ⟨Nat.zero_le _, B, by simpa using h, by simp⟩
 | succ n ih =>
  intro A B h
  rw [List.replicate_succ, List.cons_append, doSteps_cons, if_neg (by show ¬ (1 : Int) = 3; decide)] at h
  cases A with
  | nil => cases h
  | cons x A =>
   have h' : (if (1 : Int) = 1 then (doSteps (List.replicate n (1, []) ++ st) A).map (x :: ·) else doSteps (List.replicate n (1, []) ++ st) A) = some B := h
   rw [if_pos rfl] at h'
   obtain ⟨C, h1, rfl⟩ := Option.map_eq_some_iff.1 h'
   obtain ⟨h2, B', h3, rfl⟩ := ih h1
   exact ⟨by simp only [List.length_cons]; omega, B', by simpa using h3, by simp⟩
theorem do_cut (n : Nat) (st : List Step) : ∀ {A B : List ByteArray}, doSteps (List.replicate n ((2 : Int), ([] : List ByteArray)) ++ st) A = some B → n ≤ A.length ∧ doSteps st (A.drop n) = some B := by
 induction n with
 | zero => intro A B h; exact ⟨Nat.zero_le _, by simpa using h⟩
 | succ n ih =>
  intro A B h
  rw [List.replicate_succ, List.cons_append, doSteps_cons, if_neg (by show ¬ (2 : Int) = 3; decide)] at h
  cases A with
  | nil => cases h
  | cons x A =>
   have h' : (if (2 : Int) = 1 then (doSteps (List.replicate n (2, []) ++ st) A).map (x :: ·) else doSteps (List.replicate n (2, []) ++ st) A) = some B := h
   rw [if_neg (by decide)] at h'
   obtain ⟨h2, h3⟩ := ih h'
   exact ⟨by simp only [List.length_cons]; omega, by simpa using h3⟩
theorem do_add (ls : List ByteArray) (st : List Step) : ∀ {A B : List ByteArray}, doSteps ((ls.map fun l => ((3 : Int), [l])) ++ st) A = some B → ∃ B', doSteps st A = some B' ∧ B = ls ++ B' := by
 induction ls with
 | nil => intro A B h; exact ⟨B, h, rfl⟩
 | cons l ls ih =>
  intro A B h
  rw [List.map_cons, List.cons_append, doSteps_cons, if_pos rfl] at h
  obtain ⟨C, h1, rfl⟩ := Option.map_eq_some_iff.1 h
  obtain ⟨B', h3, rfl⟩ := ih h1
  exact ⟨B', h3, rfl⟩
theorem do_appl {s : List EdS} (h : Fit s) : ∀ {A B : List ByteArray}, doSteps (expd s) A = some B → takes s = (A.length : Int) ∧ appl s A = B := by
 induction s with
 | nil =>
  intro A B hd
  cases A with
  | nil => injection hd with hd; exact ⟨rfl, hd⟩
  | cons x A => cases hd
 | cons x s ih =>
  intro A B hd
  obtain ⟨f1, f2, f3, f4, f5⟩ := fit_head h
  rw [expd_cons] at hd
  unfold exp1 at hd
  simp only [takes, appl]
  by_cases c3 : x.f0 = 3
  ·rw [if_pos c3] at hd
   obtain ⟨B', h1, rfl⟩ := do_add _ _ hd
   obtain ⟨h2, h3⟩ := ih (fit_tail h) h1
   rw [if_pos c3, if_neg (by omega), if_neg (by omega), h3]
   exact ⟨by omega, rfl⟩
  ·rw [if_neg c3] at hd
   by_cases c1 : x.f0 = 1
   ·rw [c1] at hd
    obtain ⟨h0, B', h1, rfl⟩ := do_keep _ _ hd
    obtain ⟨h2, h3⟩ := ih (fit_tail h) h1
    rw [if_neg c3, if_pos c1, h3]
    rw [List.length_drop] at h2
    exact ⟨by omega, rfl⟩
   ·have c2 : x.f0 = 2 := by omega
    rw [c2] at hd
    obtain ⟨h0, h1⟩ := do_cut _ _ hd
    obtain ⟨h2, h3⟩ := ih (fit_tail h) h1
    rw [if_neg c3, if_neg c1, if_pos c2, h3]
    rw [List.length_drop] at h2
    exact ⟨by omega, rfl⟩
theorem takes_appl {s : List EdS} (h : Fit s) : ∀ {A : List ByteArray}, takes s = (A.length : Int) → ((appl s A).length : Int) = makes s := by
 induction s with
 | nil => intro A _; rfl
 | cons x s ih =>
  intro A ht
  obtain ⟨f1, f2, f3, f4, f5⟩ := fit_head h
  have hb := spans_bd (fit_tail h)
  simp only [takes] at ht
  simp only [appl, makes]
  by_cases c3 : x.f0 = 3
  ·have := f4 c3
   rw [if_pos c3] at ht
   have h2 := ih (fit_tail h) (A := A) (by omega)
   rw [if_neg (by omega), if_neg (by omega), if_neg (by omega), List.length_append]
   omega
  ·rw [if_neg c3] at ht
   have h2 := ih (fit_tail h) (A := A.drop x.f1.toNat) (by rw [List.length_drop]; omega)
   by_cases c1 : x.f0 = 1
   ·rw [if_pos c1, if_neg (by omega), List.length_append, List.length_take]
    omega
   ·rw [if_neg c1, if_pos (by omega), if_pos (by omega)]
    omega
end Go.Proofs.Ytgobidmfbjmpkaa.Q
