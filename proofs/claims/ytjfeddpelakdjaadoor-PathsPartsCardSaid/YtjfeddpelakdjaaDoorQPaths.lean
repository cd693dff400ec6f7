/- Texts in parts, their order, and what is within what: the plain theory. No program in sight. -/
set_option linter.unusedVariables false
set_option linter.unusedSimpArgs false
namespace Go.Proofs.YtjfeddpelakdjaaDoor.Q
open List
abbrev Bs := List UInt8
/-- A sign's place among all. -/
def rkb (c : UInt8) : Nat := if c = 47 then 1 else c.toNat + 2
def lex : List Nat → List Nat → Int
  | [], [] => 0
  | [], _ :: _ => -1
  | _ :: _, [] => 1
  | x :: xs, y :: ys => if x < y then -1 else if y < x then 1 else lex xs ys
theorem lex_nil : lex [] [] = 0 := rfl
theorem lex_nl (y : Nat) (ys : List Nat) : lex [] (y :: ys) = -1 := rfl
theorem lex_nr (x : Nat) (xs : List Nat) : lex (x :: xs) [] = 1 := rfl
theorem lex_cons (x y : Nat) (xs ys : List Nat) : lex (x :: xs) (y :: ys) = if x < y then -1 else if y < x then 1 else lex xs ys := rfl
theorem lex_same (x : Nat) (xs ys : List Nat) : lex (x :: xs) (x :: ys) = lex xs ys := by rw [lex_cons, if_neg (by omega), if_neg (by omega)]
theorem lex_range : ∀ (a b : List Nat), lex a b = -1 ∨ lex a b = 0 ∨ lex a b = 1 := by
  intro a
  induction a with
  | nil => intro b; cases b <;> simp [lex]
  | cons x a ih =>
    intro b
    cases b with
    | nil => simp [lex]
    | cons y b =>
      rw [lex_cons]
      split
      · exact .inl rfl
      · split
        · exact .inr (.inr rfl)
        · exact ih b
theorem lex_neg : ∀ (a b : List Nat), lex b a = -lex a b := by
  intro a
  induction a with
  | nil => intro b; cases b <;> simp [lex]
  | cons x a ih =>
    intro b
    cases b with
    | nil => simp [lex]
    | cons y b =>
      rw [lex_cons, lex_cons, ih b]
      split <;> split <;> first | rfl | omega
theorem lex_zero : ∀ (a b : List Nat), lex a b = 0 ↔ a = b := by
  intro a
  induction a with
  | nil => intro b; cases b <;> simp [lex]
  | cons x a ih =>
    intro b
    cases b with
    | nil => simp [lex]
    | cons y b =>
      rw [lex_cons, List.cons.injEq, ← ih b]
      split
      · exact ⟨fun h => (by cases h), fun h => (by omega)⟩
      · split
        · exact ⟨fun h => (by cases h), fun h => (by omega)⟩
        · exact ⟨fun h => ⟨by omega, h⟩, fun h => h.2⟩
theorem lex_self (a : List Nat) : lex a a = 0 := (lex_zero a a).2 rfl
/-- Who is no greater than who is no greater is no greater; and less, if one of both is. -/
theorem lex_trans : ∀ (a b c : List Nat), lex a b ≤ 0 → lex b c ≤ 0 → lex a c ≤ 0 ∧ (lex a b < 0 ∨ lex b c < 0 → lex a c < 0) := by
  intro a
  induction a with
  | nil =>
    intro b c h1 h2
    cases c with
    | nil =>
      cases b with
      | nil => simp [lex]
      | cons y b => rw [lex_nr] at h2; omega
    | cons z c => rw [lex_nl]; omega
  | cons x a ih =>
    intro b c h1 h2
    cases b with
    | nil => rw [lex_nr] at h1; omega
    | cons y b =>
      cases c with
      | nil => rw [lex_nr] at h2; omega
      | cons z c =>
        rw [lex_cons] at h1 h2 ⊢
        rw [lex_cons, lex_cons]
        have := ih b c
        by_cases c1 : x < y
        · by_cases c2 : z < y
          · rw [if_neg (by omega : ¬ y < z), if_pos c2] at h2; omega
          · rw [if_pos (by omega : x < z)]
            exact ⟨by omega, fun _ => by omega⟩
        · by_cases c2 : y < x
          · rw [if_neg c1, if_pos c2] at h1; omega
          · have e : x = y := by omega
            subst e
            rw [if_neg c1, if_neg c1] at h1
            by_cases c3 : x < z
            · rw [if_pos c3]; exact ⟨by omega, fun _ => by omega⟩
            · by_cases c4 : z < x
              · rw [if_neg c3, if_pos c4] at h2; omega
              · rw [if_neg c3, if_neg c4] at h2
                rw [if_neg c3, if_neg c4, if_neg c1, if_neg c1, if_neg c3, if_neg c4]
                exact this h1 h2
theorem lex_app (p a b : List Nat) : lex (p ++ a) (p ++ b) = lex a b := by
  induction p with
  | nil => rfl
  | cons x p ih => rw [List.cons_append, List.cons_append, lex_same, ih]
theorem lex_front (p : List Nat) {b : List Nat} (h : b ≠ []) : lex p (p ++ b) = -1 := by
  have := lex_app p [] b
  rw [List.append_nil] at this
  rw [this]
  cases b with
  | nil => exact absurd rfl h
  | cons y b => rfl
/-- What stands between two that begin with p begins with p. -/
theorem lex_between (p : List Nat) : ∀ {a b z : List Nat}, lex (p ++ a) z ≤ 0 → lex z (p ++ b) ≤ 0 → ∃ r, z = p ++ r := by
  induction p with
  | nil => intro a b z _ _; exact ⟨z, rfl⟩
  | cons x p ih =>
    intro a b z h1 h2
    cases z with
    | nil => rw [List.cons_append, lex_nr] at h1; omega
    | cons y z =>
      rw [List.cons_append, lex_cons] at h1 h2
      by_cases c1 : x < y
      · rw [if_neg (by omega), if_pos c1] at h2; omega
      · by_cases c2 : y < x
        · rw [if_neg c1, if_pos c2] at h1; omega
        · have e : x = y := by omega
          subst e
          rw [if_neg c1, if_neg c1] at h1 h2
          obtain ⟨r, hr⟩ := ih h1 h2
          exact ⟨r, by rw [hr]; rfl⟩
def rks (l : Bs) : List Nat := l.map rkb
theorem rkb_inj {x y : UInt8} (h : rkb x = rkb y) : x = y := by
  unfold rkb at h
  split at h
  · rename_i h1
    split at h
    · rename_i h2; rw [h1, h2]
    · omega
  · split at h
    · omega
    · exact UInt8.toNat_inj.1 (by omega)
theorem rks_inj : ∀ {a b : Bs}, rks a = rks b → a = b := by
  intro a
  induction a with
  | nil => intro b h; cases b with
    | nil => rfl
    | cons y b => cases h
  | cons x a ih =>
    intro b h
    cases b with
    | nil => cases h
    | cons y b =>
      injection h with h1 h2
      rw [rkb_inj h1, ih h2]
theorem rks_append (a b : Bs) : rks (a ++ b) = rks a ++ rks b := List.map_append
theorem rks_front {p : Bs} : ∀ {z : Bs} {r : List Nat}, rks z = rks p ++ r → ∃ q, z = p ++ q ∧ rks q = r := by
  induction p with
  | nil => intro z r h; exact ⟨z, rfl, h⟩
  | cons x p ih =>
    intro z r h
    cases z with
    | nil => cases h
    | cons y z =>
      injection h with h1 h2
      obtain ⟨q, rfl, hq⟩ := ih h2
      exact ⟨q, by rw [rkb_inj h1]; rfl, hq⟩
/-- Which path is less. -/
def pcmp (a b : Bs) : Int := lex (rks a) (rks b)
theorem pcmp_range (a b : Bs) : pcmp a b = -1 ∨ pcmp a b = 0 ∨ pcmp a b = 1 := lex_range _ _
theorem pcmp_neg (a b : Bs) : pcmp b a = -pcmp a b := lex_neg _ _
theorem pcmp_zero (a b : Bs) : pcmp a b = 0 ↔ a = b := (lex_zero _ _).trans ⟨rks_inj, fun h => by rw [h]⟩
theorem pcmp_trans (a b c : Bs) : pcmp a b ≤ 0 → pcmp b c ≤ 0 → pcmp a c ≤ 0 ∧ (pcmp a b < 0 ∨ pcmp b c < 0 → pcmp a c < 0) := lex_trans _ _ _
theorem pcmp_app (p a b : Bs) : pcmp (p ++ a) (p ++ b) = pcmp a b := by unfold pcmp; rw [rks_append, rks_append, lex_app]
theorem pcmp_front (p : Bs) {b : Bs} (h : b ≠ []) : pcmp p (p ++ b) = -1 := by
  unfold pcmp
  rw [rks_append]
  exact lex_front _ (by cases b with
    | nil => exact absurd rfl h
    | cons x b => exact fun h => by cases h)
theorem pcmp_between {p a b z : Bs} (h1 : pcmp (p ++ a) z ≤ 0) (h2 : pcmp z (p ++ b) ≤ 0) : ∃ q, z = p ++ q := by
  unfold pcmp at h1 h2
  rw [rks_append] at h1 h2
  obtain ⟨r, hr⟩ := lex_between _ h1 h2
  obtain ⟨q, hq, _⟩ := rks_front hr
  exact ⟨q, hq⟩
/-- A path that is less than another one, which is not within it: so is what is within it. -/
theorem pcmp_in (r : Bs) : ∀ {p q : Bs}, pcmp p q < 0 → (∀ t, q ≠ p ++ 47 :: t) → pcmp (p ++ 47 :: r) q < 0 := by
  intro p
  induction p with
  | nil =>
    intro q h1 h2
    cases q with
    | nil => have : pcmp [] [] = 0 := rfl; omega
    | cons y q =>
      have hy : y ≠ 47 := fun h => h2 q (by rw [h]; rfl)
      show lex (rkb 47 :: rks r) (rkb y :: rks q) < 0
      have e1 : rkb 47 = 1 := rfl
      have e2 : rkb y = y.toNat + 2 := by unfold rkb; rw [if_neg hy]
      rw [lex_cons, e1, e2, if_pos (by omega)]
      omega
  | cons x p ih =>
    intro q h1 h2
    cases q with
    | nil => have : pcmp (x :: p) [] = 1 := rfl; omega
    | cons y q =>
      have h1' : lex (rkb x :: rks p) (rkb y :: rks q) < 0 := h1
      show lex (rkb x :: rks (p ++ 47 :: r)) (rkb y :: rks q) < 0
      rw [lex_cons] at h1' ⊢
      by_cases c1 : rkb x < rkb y
      · rw [if_pos c1]; omega
      · rw [if_neg c1] at h1' ⊢
        by_cases c2 : rkb y < rkb x
        · rw [if_pos c2] at h1'; omega
        · rw [if_neg c2] at h1' ⊢
          have e : x = y := rkb_inj (by omega)
          subst e
          exact ih h1' (fun t ht => h2 t (by rw [ht]; rfl))
/-- The parts of a text. -/
def parts : Bs → List Bs
  | [] => [[]]
  | c :: l => if c = 47 then [] :: parts l else match parts l with
    | [] => [[c]]
    | p :: ps => (c :: p) :: ps
theorem parts_nil : parts [] = [[]] := rfl
theorem parts_slash (l : Bs) : parts (47 :: l) = [] :: parts l := rfl
theorem parts_ne (l : Bs) : ∃ p ps, parts l = p :: ps := by
  induction l with
  | nil => exact ⟨[], [], rfl⟩
  | cons c l ih =>
    obtain ⟨p, ps, h⟩ := ih
    unfold parts
    split
    · exact ⟨_, _, rfl⟩
    · rw [h]; exact ⟨_, _, rfl⟩
theorem parts_cons {c : UInt8} (hc : c ≠ 47) {l p : Bs} {ps : List Bs} (h : parts l = p :: ps) : parts (c :: l) = (c :: p) :: ps := by
  rw [parts, if_neg hc, h]
theorem parts_app (a b : Bs) : parts (a ++ 47 :: b) = parts a ++ parts b := by
  induction a with
  | nil => rfl
  | cons c a ih =>
    rw [List.cons_append]
    by_cases hc : c = 47
    · subst hc
      rw [parts_slash, parts_slash, ih]
      rfl
    · obtain ⟨p, ps, h⟩ := parts_ne a
      rw [parts_cons hc h]
      rw [h] at ih
      exact parts_cons hc ih
theorem parts_one {l : Bs} (h : 47 ∉ l) : parts l = [l] := by
  induction l with
  | nil => rfl
  | cons c l ih =>
    have hc : c ≠ 47 := fun e => h (by rw [e]; exact List.mem_cons_self)
    exact parts_cons hc (ih (fun hm => h (List.mem_cons_of_mem _ hm)))
theorem parts_no (l : Bs) : ∀ p ∈ parts l, 47 ∉ p := by
  induction l with
  | nil => intro p hp; rw [parts_nil, List.mem_singleton] at hp; rw [hp]; simp
  | cons c l ih =>
    intro p hp
    by_cases hc : c = 47
    · subst hc
      rw [parts_slash] at hp
      rcases List.mem_cons.1 hp with rfl | hp
      · simp
      · exact ih p hp
    · obtain ⟨q, qs, h⟩ := parts_ne l
      rw [parts_cons hc h] at hp
      rcases List.mem_cons.1 hp with rfl | hp
      · intro hm
        rcases List.mem_cons.1 hm with e | hm
        · exact hc e.symm
        · exact ih q (by rw [h]; exact List.mem_cons_self) hm
      · exact ih p (by rw [h]; exact List.mem_cons_of_mem _ hp)
/-- Parts as a text. -/
def glue : List Bs → Bs
  | [] => []
  | [p] => p
  | p :: q :: ps => p ++ 47 :: glue (q :: ps)
theorem glue_parts (l : Bs) : glue (parts l) = l := by
  induction l with
  | nil => rfl
  | cons c l ih =>
    obtain ⟨p, ps, h⟩ := parts_ne l
    by_cases hc : c = 47
    · subst hc
      rw [parts_slash, h]
      rw [h] at ih
      show [] ++ 47 :: glue (p :: ps) = _
      rw [ih]; rfl
    · rw [parts_cons hc h]
      rw [h] at ih
      cases ps with
      | nil =>
        have e : p = l := ih
        show c :: p = c :: l
        rw [e]
      | cons q ps =>
        have e : p ++ 47 :: glue (q :: ps) = l := ih
        show (c :: p) ++ 47 :: glue (q :: ps) = c :: l
        rw [← e]; rfl
theorem parts_inj {a b : Bs} (h : parts a = parts b) : a = b := by rw [← glue_parts a, ← glue_parts b, h]
theorem glue_app (a b : List Bs) (ha : a ≠ []) (hb : b ≠ []) : glue (a ++ b) = glue a ++ 47 :: glue b := by
  induction a with
  | nil => exact absurd rfl ha
  | cons p a ih =>
    cases a with
    | nil =>
      cases b with
      | nil => exact absurd rfl hb
      | cons q b => rfl
    | cons r a =>
      have := ih (by simp)
      show p ++ 47 :: glue (r :: a ++ b) = (p ++ 47 :: glue (r :: a)) ++ 47 :: glue b
      rw [this]
      simp
theorem parts_glue {ps : List Bs} (h : ps ≠ []) (hn : ∀ p ∈ ps, 47 ∉ p) : parts (glue ps) = ps := by
  induction ps with
  | nil => exact absurd rfl h
  | cons p ps ih =>
    cases ps with
    | nil => exact parts_one (hn p List.mem_cons_self)
    | cons q ps =>
      show parts (p ++ 47 :: glue (q :: ps)) = _
      rw [parts_app, parts_one (hn p List.mem_cons_self), ih (by simp) (fun r hr => hn r (List.mem_cons_of_mem _ hr))]
      rfl
/-- The last part, and what stands ahead of it. -/
theorem parts_last (l : Bs) : (47 ∉ l ∧ parts l = [l]) ∨ ∃ a b, l = a ++ 47 :: b ∧ 47 ∉ b ∧ parts l = parts a ++ [b] := by
  by_cases h : 47 ∈ l
  · right
    have gen : ∀ n (l : Bs), l.length = n → 47 ∈ l → ∃ a b, l = a ++ 47 :: b ∧ 47 ∉ b := by
      intro n
      induction n with
      | zero => intro l hl h; rw [List.eq_nil_of_length_eq_zero hl] at h; cases h
      | succ n ih =>
        intro l hl h
        cases l with
        | nil => cases h
        | cons c l =>
          by_cases h2 : 47 ∈ l
          · obtain ⟨a, b, rfl, hb⟩ := ih l (by simpa using hl) h2
            exact ⟨c :: a, b, rfl, hb⟩
          · rcases List.mem_cons.1 h with e | h
            · exact ⟨[], l, by rw [e]; rfl, h2⟩
            · exact absurd h h2
    obtain ⟨a, b, rfl, hb⟩ := gen _ l rfl h
    exact ⟨a, b, rfl, hb, by rw [parts_app, parts_one hb]⟩
  · exact .inl ⟨h, parts_one h⟩
def nats (l : Bs) : List Nat := l.map UInt8.toNat
/-- Which text is less, by bytes. -/
def bcmp (a b : Bs) : Int := lex (nats a) (nats b)
def cmpP : List Bs → List Bs → Int
  | [], [] => 0
  | [], _ :: _ => -1
  | _ :: _, [] => 1
  | p :: ps, q :: qs => if bcmp p q < 0 then -1 else if bcmp p q > 0 then 1 else cmpP ps qs
theorem bcmp_cons (x y : UInt8) (a b : Bs) : bcmp (x :: a) (y :: b) = if x.toNat < y.toNat then -1 else if y.toNat < x.toNat then 1 else bcmp a b := rfl
theorem cmp_parts : ∀ (a b : Bs), cmpP (parts a) (parts b) = pcmp a b := by
  intro a
  induction a with
  | nil =>
    intro b
    cases b with
    | nil => rfl
    | cons y b =>
      have e : pcmp [] (y :: b) = -1 := rfl
      rw [e, parts_nil]
      obtain ⟨q, qs, h⟩ := parts_ne b
      by_cases hy : y = 47
      · subst hy
        rw [parts_slash, h]
        show (if bcmp [] [] < 0 then (-1 : Int) else if bcmp [] [] > 0 then 1 else -1) = -1
        rfl
      · rw [parts_cons hy h]; rfl
  | cons x a ih =>
    intro b
    obtain ⟨p, ps, hp⟩ := parts_ne a
    cases b with
    | nil =>
      have e : pcmp (x :: a) [] = 1 := rfl
      rw [e, parts_nil]
      by_cases hx : x = 47
      · subst hx; rw [parts_slash, hp]; rfl
      · rw [parts_cons hx hp]; rfl
    | cons y b =>
      obtain ⟨q, qs, hq⟩ := parts_ne b
      have hi := ih b
      have e : pcmp (x :: a) (y :: b) = if rkb x < rkb y then -1 else if rkb y < rkb x then 1 else pcmp a b := rfl
      rw [e]
      by_cases hx : x = 47
      · subst hx
        have e1 : rkb 47 = 1 := rfl
        by_cases hy : y = 47
        · subst hy
          rw [parts_slash, parts_slash, if_neg (by omega), if_neg (by omega), ← hi]
          rfl
        · have e2 : rkb y = y.toNat + 2 := by unfold rkb; rw [if_neg hy]
          rw [parts_slash, parts_cons hy hq, e1, e2, if_pos (by omega)]
          rfl
      · have e1 : rkb x = x.toNat + 2 := by unfold rkb; rw [if_neg hx]
        by_cases hy : y = 47
        · subst hy
          have e2 : rkb 47 = 1 := rfl
          rw [parts_slash, parts_cons hx hp, e1, e2, if_neg (by omega), if_pos (by omega)]
          rfl
        · have e2 : rkb y = y.toNat + 2 := by unfold rkb; rw [if_neg hy]
          rw [parts_cons hx hp, parts_cons hy hq, e1, e2]
          show (if bcmp (x :: p) (y :: q) < 0 then (-1 : Int) else if bcmp (x :: p) (y :: q) > 0 then 1 else cmpP ps qs) = _
          rw [bcmp_cons]
          by_cases c1 : x.toNat < y.toNat
          · rw [if_pos c1, if_pos (by omega), if_pos (by omega)]
          · by_cases c2 : y.toNat < x.toNat
            · rw [if_neg c1, if_pos c2, if_neg (by omega), if_pos (by omega), if_neg (by omega), if_pos (by omega)]
            · rw [if_neg c1, if_neg c2, if_neg (show ¬ x.toNat + 2 < y.toNat + 2 by omega), if_neg (show ¬ y.toNat + 2 < x.toNat + 2 by omega), ← hi, hp, hq]
              rfl
/-- What is within a dir begins with it, and what parts. -/
theorem within_iff : ∀ (d p : Bs), (parts d <+: parts p ∧ (parts d).length < (parts p).length) ↔ ∃ r, p = d ++ 47 :: r := by
  intro d
  induction d with
  | nil =>
    intro p
    rw [parts_nil]
    cases p with
    | nil => rw [parts_nil]; simp
    | cons y p =>
      obtain ⟨q, qs, hq⟩ := parts_ne p
      by_cases hy : y = 47
      · subst hy
        rw [parts_slash, hq]
        exact ⟨fun _ => ⟨p, rfl⟩, fun _ => ⟨⟨q :: qs, rfl⟩, by simp⟩⟩
      · rw [parts_cons hy hq]
        refine ⟨fun ⟨h, _⟩ => ?_, fun ⟨r, h⟩ => ?_⟩
        · obtain ⟨t, h⟩ := h
          injection h with h1 _
          cases h1
        · injection h with h1 _
          exact absurd h1 hy
  | cons x d ih =>
    intro p
    obtain ⟨e, es, he⟩ := parts_ne d
    cases p with
    | nil =>
      rw [parts_nil]
      refine ⟨fun ⟨_, h⟩ => ?_, fun ⟨r, h⟩ => by cases h⟩
      by_cases hx : x = 47
      · subst hx; rw [parts_slash, he] at h; simp at h
      · rw [parts_cons hx he] at h; simp at h
    | cons y p =>
      obtain ⟨q, qs, hq⟩ := parts_ne p
      have hi := ih p
      have hr : (∃ r, y :: p = x :: d ++ 47 :: r) ↔ x = y ∧ ∃ r, p = d ++ 47 :: r := by
        constructor
        · rintro ⟨r, h⟩
          injection h with h1 h2
          exact ⟨h1.symm, r, h2⟩
        · rintro ⟨h1, r, h2⟩
          exact ⟨r, by rw [h1, h2]; rfl⟩
      rw [hr, ← hi]
      by_cases hx : x = 47
      · subst hx
        by_cases hy : y = 47
        · subst hy
          rw [parts_slash, parts_slash, List.cons_prefix_cons, List.length_cons, List.length_cons]
          exact ⟨fun ⟨h1, h2⟩ => ⟨rfl, h1.2, by omega⟩, fun ⟨_, h1, h2⟩ => ⟨⟨rfl, h1⟩, by omega⟩⟩
        · rw [parts_slash, parts_cons hy hq, List.cons_prefix_cons]
          exact ⟨fun ⟨h1, _⟩ => (by cases h1.1), fun ⟨h1, _⟩ => absurd h1.symm hy⟩
      · rw [parts_cons hx he]
        by_cases hy : y = 47
        · subst hy
          rw [parts_slash, List.cons_prefix_cons]
          exact ⟨fun ⟨h1, _⟩ => (by cases h1.1), fun ⟨h1, _⟩ => absurd h1 hx⟩
        · rw [parts_cons hy hq, he, hq, List.cons_prefix_cons, List.cons_prefix_cons, List.cons.injEq, List.length_cons, List.length_cons, List.length_cons, List.length_cons]
          exact ⟨fun ⟨h1, h2⟩ => ⟨h1.1.1, ⟨h1.1.2, h1.2⟩, h2⟩, fun ⟨h0, h1, h2⟩ => ⟨⟨⟨h0, h1.1⟩, h1.2⟩, h2⟩⟩
end Go.Proofs.YtjfeddpelakdjaaDoor.Q
