/- Paths: the plain theory of texts in parts; what the functions of layer 1 answer; raw paths. -/
import Derived.Test.YtjfeddpelakdjaaDoorPxf17
import Derived.Test.YtjfeddpelakdjaaDoorPxf19
import Derived.Test.YtjfeddpelakdjaaDoorPxf15
import Derived.Test.YtjfeddpelakdjaaDoorPxf21
import Derived.Test.YtjfeddpelakdjaaDoorPxf23
import Derived.Test.YtjfeddpelakdjaaDoorPxf25
import Derived.Test.YtjfeddpelakdjaaDoorPxf11
import Derived.Test.YtjfeddpelakdjaaDoorPxf10
import Derived.Lib.SplitLaws
import Derived.OpenShut
set_option linter.unusedVariables false
set_option linter.unusedSimpArgs false
namespace Go.Proofs.YtjfeddpelakdjaaDoor.Q
section
open List
abbrev Bs := List UInt8
/-- A sign's place among all. -/
def rkb (c : UInt8) : Nat := if c = 47 then 1 else c.toNat + 2
def lex : List Nat → List Nat → Int
  | [], [] => 0
  | [], _ :: _ => -1
  | _ :: _, [] => 1
  | x :: xs, y :: ys => if x < y then -1 else if y < x then 1 else lex xs ys
theorem lex_nil : lex [] [] = 0 := rfl
theorem lex_nl (y : Nat) (ys : List Nat) : lex [] (y :: ys) = -1 := rfl
theorem lex_nr (x : Nat) (xs : List Nat) : lex (x :: xs) [] = 1 := rfl
theorem lex_cons (x y : Nat) (xs ys : List Nat) : lex (x :: xs) (y :: ys) = if x < y then -1 else if y < x then 1 else lex xs ys := rfl
theorem lex_same (x : Nat) (xs ys : List Nat) : lex (x :: xs) (x :: ys) = lex xs ys := by rw [lex_cons, if_neg (by omega), if_neg (by omega)]
theorem lex_range : ∀ (a b : List Nat), lex a b = -1 ∨ lex a b = 0 ∨ lex a b = 1 := by
  intro a
  induction a with
  | nil => intro b; cases b <;> simp [lex]
  | cons x a ih =>
    intro b
    cases b with
    | nil => simp [lex]
    | cons y b =>
      rw [lex_cons]
      split
      · exact .inl rfl
      · split
        · exact .inr (.inr rfl)
        · exact ih b
theorem lex_neg : ∀ (a b : List Nat), lex b a = -lex a b := by
  intro a
  induction a with
  | nil => intro b; cases b <;> simp [lex]
  | cons x a ih =>
    intro b
    cases b with
    | nil => simp [lex]
    | cons y b =>
      rw [lex_cons, lex_cons, ih b]
      split <;> split <;> first | rfl | omega
theorem lex_zero : ∀ (a b : List Nat), lex a b = 0 ↔ a = b := by
  intro a
  induction a with
  | nil => intro b; cases b <;> simp [lex]
  | cons x a ih =>
    intro b
    cases b with
    | nil => simp [lex]
    | cons y b =>
      rw [lex_cons, List.cons.injEq, ← ih b]
      split
      · exact ⟨fun h => (by cases h), fun h => (by omega)⟩
      · split
        · exact ⟨fun h => (by cases h), fun h => (by omega)⟩
        · exact ⟨fun h => ⟨by omega, h⟩, fun h => h.2⟩
theorem lex_self (a : List Nat) : lex a a = 0 := (lex_zero a a).2 rfl
/-- Who is no greater than who is no greater is no greater; and less, if one of both is. -/
theorem lex_trans : ∀ (a b c : List Nat), lex a b ≤ 0 → lex b c ≤ 0 → lex a c ≤ 0 ∧ (lex a b < 0 ∨ lex b c < 0 → lex a c < 0) := by
  intro a
  induction a with
  | nil =>
    intro b c h1 h2
    cases c with
    | nil =>
      cases b with
      | nil => simp [lex]
      | cons y b => rw [lex_nr] at h2; omega
    | cons z c => rw [lex_nl]; omega
  | cons x a ih =>
    intro b c h1 h2
    cases b with
    | nil => rw [lex_nr] at h1; omega
    | cons y b =>
      cases c with
      | nil => rw [lex_nr] at h2; omega
      | cons z c =>
        rw [lex_cons] at h1 h2 ⊢
        rw [lex_cons, lex_cons]
        have := ih b c
        by_cases c1 : x < y
        · by_cases c2 : z < y
          · rw [if_neg (by omega : ¬ y < z), if_pos c2] at h2; omega
          · rw [if_pos (by omega : x < z)]
            exact ⟨by omega, fun _ => by omega⟩
        · by_cases c2 : y < x
          · rw [if_neg c1, if_pos c2] at h1; omega
          · have e : x = y := by omega
            subst e
            rw [if_neg c1, if_neg c1] at h1
            by_cases c3 : x < z
            · rw [if_pos c3]; exact ⟨by omega, fun _ => by omega⟩
            · by_cases c4 : z < x
              · rw [if_neg c3, if_pos c4] at h2; omega
              · rw [if_neg c3, if_neg c4] at h2
                rw [if_neg c3, if_neg c4, if_neg c1, if_neg c1, if_neg c3, if_neg c4]
                exact this h1 h2
theorem lex_app (p a b : List Nat) : lex (p ++ a) (p ++ b) = lex a b := by
  induction p with
  | nil => rfl
  | cons x p ih => rw [List.cons_append, List.cons_append, lex_same, ih]
theorem lex_front (p : List Nat) {b : List Nat} (h : b ≠ []) : lex p (p ++ b) = -1 := by
  have := lex_app p [] b
  rw [List.append_nil] at this
  rw [this]
  cases b with
  | nil => exact absurd rfl h
  | cons y b => rfl
/-- What stands between two that begin with p begins with p. -/
theorem lex_between (p : List Nat) : ∀ {a b z : List Nat}, lex (p ++ a) z ≤ 0 → lex z (p ++ b) ≤ 0 → ∃ r, z = p ++ r := by
  induction p with
  | nil => intro a b z _ _; exact ⟨z, rfl⟩
  | cons x p ih =>
    intro a b z h1 h2
    cases z with
    | nil => rw [List.cons_append, lex_nr] at h1; omega
    | cons y z =>
      rw [List.cons_append, lex_cons] at h1 h2
      by_cases c1 : x < y
      · rw [if_neg (by omega), if_pos c1] at h2; omega
      · by_cases c2 : y < x
        · rw [if_neg c1, if_pos c2] at h1; omega
        · have e : x = y := by omega
          subst e
          rw [if_neg c1, if_neg c1] at h1 h2
          obtain ⟨r, hr⟩ := ih h1 h2
          exact ⟨r, by rw [hr]; rfl⟩
def rks (l : Bs) : List Nat := l.map rkb
theorem rkb_inj {x y : UInt8} (h : rkb x = rkb y) : x = y := by
  unfold rkb at h
  split at h
  · rename_i h1
    split at h
    · rename_i h2; rw [h1, h2]
    · omega
  · split at h
    · omega
    · exact UInt8.toNat_inj.1 (by omega)
theorem rks_inj : ∀ {a b : Bs}, rks a = rks b → a = b := by
  intro a
  induction a with
  | nil => intro b h; cases b with
    | nil => rfl
    | cons y b => cases h
  | cons x a ih =>
    intro b h
    cases b with
    | nil => cases h
    | cons y b =>
      injection h with h1 h2
      rw [rkb_inj h1, ih h2]
theorem rks_append (a b : Bs) : rks (a ++ b) = rks a ++ rks b := List.map_append
theorem rks_front {p : Bs} : ∀ {z : Bs} {r : List Nat}, rks z = rks p ++ r → ∃ q, z = p ++ q ∧ rks q = r := by
  induction p with
  | nil => intro z r h; exact ⟨z, rfl, h⟩
  | cons x p ih =>
    intro z r h
    cases z with
    | nil => cases h
    | cons y z =>
      injection h with h1 h2
      obtain ⟨q, rfl, hq⟩ := ih h2
      exact ⟨q, by rw [rkb_inj h1]; rfl, hq⟩
/-- Which path is less. -/
def pcmp (a b : Bs) : Int := lex (rks a) (rks b)
theorem pcmp_range (a b : Bs) : pcmp a b = -1 ∨ pcmp a b = 0 ∨ pcmp a b = 1 := lex_range _ _
theorem pcmp_neg (a b : Bs) : pcmp b a = -pcmp a b := lex_neg _ _
theorem pcmp_zero (a b : Bs) : pcmp a b = 0 ↔ a = b := (lex_zero _ _).trans ⟨rks_inj, fun h => by rw [h]⟩
theorem pcmp_trans (a b c : Bs) : pcmp a b ≤ 0 → pcmp b c ≤ 0 → pcmp a c ≤ 0 ∧ (pcmp a b < 0 ∨ pcmp b c < 0 → pcmp a c < 0) := lex_trans _ _ _
theorem pcmp_app (p a b : Bs) : pcmp (p ++ a) (p ++ b) = pcmp a b := by unfold pcmp; rw [rks_append, rks_append, lex_app]
theorem pcmp_front (p : Bs) {b : Bs} (h : b ≠ []) : pcmp p (p ++ b) = -1 := by
  unfold pcmp
  rw [rks_append]
  exact lex_front _ (by cases b with
    | nil => exact absurd rfl h
    | cons x b => exact fun h => by cases h)
theorem pcmp_between {p a b z : Bs} (h1 : pcmp (p ++ a) z ≤ 0) (h2 : pcmp z (p ++ b) ≤ 0) : ∃ q, z = p ++ q := by
  unfold pcmp at h1 h2
  rw [rks_append] at h1 h2
  obtain ⟨r, hr⟩ := lex_between _ h1 h2
  obtain ⟨q, hq, _⟩ := rks_front hr
  exact ⟨q, hq⟩
/-- A path that is less than another one, which is not within it: so is what is within it. -/
theorem pcmp_in (r : Bs) : ∀ {p q : Bs}, pcmp p q < 0 → (∀ t, q ≠ p ++ 47 :: t) → pcmp (p ++ 47 :: r) q < 0 := by
  intro p
  induction p with
  | nil =>
    intro q h1 h2
    cases q with
    | nil => have : pcmp [] [] = 0 := rfl; omega
    | cons y q =>
      have hy : y ≠ 47 := fun h => h2 q (by rw [h]; rfl)
      show lex (rkb 47 :: rks r) (rkb y :: rks q) < 0
      have e1 : rkb 47 = 1 := rfl
      have e2 : rkb y = y.toNat + 2 := by unfold rkb; rw [if_neg hy]
      rw [lex_cons, e1, e2, if_pos (by omega)]
      omega
  | cons x p ih =>
    intro q h1 h2
    cases q with
    | nil => have : pcmp (x :: p) [] = 1 := rfl; omega
    | cons y q =>
      have h1' : lex (rkb x :: rks p) (rkb y :: rks q) < 0 := h1
      show lex (rkb x :: rks (p ++ 47 :: r)) (rkb y :: rks q) < 0
      rw [lex_cons] at h1' ⊢
      by_cases c1 : rkb x < rkb y
      · rw [if_pos c1]; omega
      · rw [if_neg c1] at h1' ⊢
        by_cases c2 : rkb y < rkb x
        · rw [if_pos c2] at h1'; omega
        · rw [if_neg c2] at h1' ⊢
          have e : x = y := rkb_inj (by omega)
          subst e
          exact ih h1' (fun t ht => h2 t (by rw [ht]; rfl))
/-- The parts of a text. -/
def parts : Bs → List Bs
  | [] => [[]]
  | c :: l => if c = 47 then [] :: parts l else match parts l with
    | [] => [[c]]
    | p :: ps => (c :: p) :: ps
theorem parts_nil : parts [] = [[]] := rfl
theorem parts_slash (l : Bs) : parts (47 :: l) = [] :: parts l := rfl
theorem parts_ne (l : Bs) : ∃ p ps, parts l = p :: ps := by
  induction l with
  | nil => exact ⟨[], [], rfl⟩
  | cons c l ih =>
    obtain ⟨p, ps, h⟩ := ih
    unfold parts
    split
    · exact ⟨_, _, rfl⟩
    · rw [h]; exact ⟨_, _, rfl⟩
theorem parts_cons {c : UInt8} (hc : c ≠ 47) {l p : Bs} {ps : List Bs} (h : parts l = p :: ps) : parts (c :: l) = (c :: p) :: ps := by
  rw [parts, if_neg hc, h]
theorem parts_app (a b : Bs) : parts (a ++ 47 :: b) = parts a ++ parts b := by
  induction a with
  | nil => rfl
  | cons c a ih =>
    rw [List.cons_append]
    by_cases hc : c = 47
    · subst hc
      rw [parts_slash, parts_slash, ih]
      rfl
    · obtain ⟨p, ps, h⟩ := parts_ne a
      rw [parts_cons hc h]
      rw [h] at ih
      exact parts_cons hc ih
theorem parts_one {l : Bs} (h : 47 ∉ l) : parts l = [l] := by
  induction l with
  | nil => rfl
  | cons c l ih =>
    have hc : c ≠ 47 := fun e => h (by rw [e]; exact List.mem_cons_self)
    exact parts_cons hc (ih (fun hm => h (List.mem_cons_of_mem _ hm)))
theorem parts_no (l : Bs) : ∀ p ∈ parts l, 47 ∉ p := by
  induction l with
  | nil => intro p hp; rw [parts_nil, List.mem_singleton] at hp; rw [hp]; simp
  | cons c l ih =>
    intro p hp
    by_cases hc : c = 47
    · subst hc
      rw [parts_slash] at hp
      rcases List.mem_cons.1 hp with rfl | hp
      · simp
      · exact ih p hp
    · obtain ⟨q, qs, h⟩ := parts_ne l
      rw [parts_cons hc h] at hp
      rcases List.mem_cons.1 hp with rfl | hp
      · intro hm
        rcases List.mem_cons.1 hm with e | hm
        · exact hc e.symm
        · exact ih q (by rw [h]; exact List.mem_cons_self) hm
      · exact ih p (by rw [h]; exact List.mem_cons_of_mem _ hp)
/-- Parts as a text. -/
def glue : List Bs → Bs
  | [] => []
  | [p] => p
  | p :: q :: ps => p ++ 47 :: glue (q :: ps)
theorem glue_parts (l : Bs) : glue (parts l) = l := by
  induction l with
  | nil => rfl
  | cons c l ih =>
    obtain ⟨p, ps, h⟩ := parts_ne l
    by_cases hc : c = 47
    · subst hc
      rw [parts_slash, h]
      rw [h] at ih
      show [] ++ 47 :: glue (p :: ps) = _
      rw [ih]; rfl
    · rw [parts_cons hc h]
      rw [h] at ih
      cases ps with
      | nil =>
        have e : p = l := ih
        show c :: p = c :: l
        rw [e]
      | cons q ps =>
        have e : p ++ 47 :: glue (q :: ps) = l := ih
        show (c :: p) ++ 47 :: glue (q :: ps) = c :: l
        rw [← e]; rfl
theorem parts_inj {a b : Bs} (h : parts a = parts b) : a = b := by rw [← glue_parts a, ← glue_parts b, h]
theorem glue_app (a b : List Bs) (ha : a ≠ []) (hb : b ≠ []) : glue (a ++ b) = glue a ++ 47 :: glue b := by
  induction a with
  | nil => exact absurd rfl ha
  | cons p a ih =>
    cases a with
    | nil =>
      cases b with
      | nil => exact absurd rfl hb
      | cons q b => rfl
    | cons r a =>
      have := ih (by simp)
      show p ++ 47 :: glue (r :: a ++ b) = (p ++ 47 :: glue (r :: a)) ++ 47 :: glue b
      rw [this]
      simp
theorem parts_glue {ps : List Bs} (h : ps ≠ []) (hn : ∀ p ∈ ps, 47 ∉ p) : parts (glue ps) = ps := by
  induction ps with
  | nil => exact absurd rfl h
  | cons p ps ih =>
    cases ps with
    | nil => exact parts_one (hn p List.mem_cons_self)
    | cons q ps =>
      show parts (p ++ 47 :: glue (q :: ps)) = _
      rw [parts_app, parts_one (hn p List.mem_cons_self), ih (by simp) (fun r hr => hn r (List.mem_cons_of_mem _ hr))]
      rfl
/-- The last part, and what stands ahead of it. -/
theorem parts_last (l : Bs) : (47 ∉ l ∧ parts l = [l]) ∨ ∃ a b, l = a ++ 47 :: b ∧ 47 ∉ b ∧ parts l = parts a ++ [b] := by
  by_cases h : 47 ∈ l
  · right
    have gen : ∀ n (l : Bs), l.length = n → 47 ∈ l → ∃ a b, l = a ++ 47 :: b ∧ 47 ∉ b := by
      intro n
      induction n with
      | zero => intro l hl h; rw [List.eq_nil_of_length_eq_zero hl] at h; cases h
      | succ n ih =>
        intro l hl h
        cases l with
        | nil => cases h
        | cons c l =>
          by_cases h2 : 47 ∈ l
          · obtain ⟨a, b, rfl, hb⟩ := ih l (by simpa using hl) h2
            exact ⟨c :: a, b, rfl, hb⟩
          · rcases List.mem_cons.1 h with e | h
            · exact ⟨[], l, by rw [e]; rfl, h2⟩
            · exact absurd h h2
    obtain ⟨a, b, rfl, hb⟩ := gen _ l rfl h
    exact ⟨a, b, rfl, hb, by rw [parts_app, parts_one hb]⟩
  · exact .inl ⟨h, parts_one h⟩
def nats (l : Bs) : List Nat := l.map UInt8.toNat
/-- Which text is less, by bytes. -/
def bcmp (a b : Bs) : Int := lex (nats a) (nats b)
def cmpP : List Bs → List Bs → Int
  | [], [] => 0
  | [], _ :: _ => -1
  | _ :: _, [] => 1
  | p :: ps, q :: qs => if bcmp p q < 0 then -1 else if bcmp p q > 0 then 1 else cmpP ps qs
theorem bcmp_cons (x y : UInt8) (a b : Bs) : bcmp (x :: a) (y :: b) = if x.toNat < y.toNat then -1 else if y.toNat < x.toNat then 1 else bcmp a b := rfl
theorem cmp_parts : ∀ (a b : Bs), cmpP (parts a) (parts b) = pcmp a b := by
  intro a
  induction a with
  | nil =>
    intro b
    cases b with
    | nil => rfl
    | cons y b =>
      have e : pcmp [] (y :: b) = -1 := rfl
      rw [e, parts_nil]
      obtain ⟨q, qs, h⟩ := parts_ne b
      by_cases hy : y = 47
      · subst hy
        rw [parts_slash, h]
        show (if bcmp [] [] < 0 then (-1 : Int) else if bcmp [] [] > 0 then 1 else -1) = -1
        rfl
      · rw [parts_cons hy h]; rfl
  | cons x a ih =>
    intro b
    obtain ⟨p, ps, hp⟩ := parts_ne a
    cases b with
    | nil =>
      have e : pcmp (x :: a) [] = 1 := rfl
      rw [e, parts_nil]
      by_cases hx : x = 47
      · subst hx; rw [parts_slash, hp]; rfl
      · rw [parts_cons hx hp]; rfl
    | cons y b =>
      obtain ⟨q, qs, hq⟩ := parts_ne b
      have hi := ih b
      have e : pcmp (x :: a) (y :: b) = if rkb x < rkb y then -1 else if rkb y < rkb x then 1 else pcmp a b := rfl
      rw [e]
      by_cases hx : x = 47
      · subst hx
        have e1 : rkb 47 = 1 := rfl
        by_cases hy : y = 47
        · subst hy
          rw [parts_slash, parts_slash, if_neg (by omega), if_neg (by omega), ← hi]
          rfl
        · have e2 : rkb y = y.toNat + 2 := by unfold rkb; rw [if_neg hy]
          rw [parts_slash, parts_cons hy hq, e1, e2, if_pos (by omega)]
          rfl
      · have e1 : rkb x = x.toNat + 2 := by unfold rkb; rw [if_neg hx]
        by_cases hy : y = 47
        · subst hy
          have e2 : rkb 47 = 1 := rfl
          rw [parts_slash, parts_cons hx hp, e1, e2, if_neg (by omega), if_pos (by omega)]
          rfl
        · have e2 : rkb y = y.toNat + 2 := by unfold rkb; rw [if_neg hy]
          rw [parts_cons hx hp, parts_cons hy hq, e1, e2]
          show (if bcmp (x :: p) (y :: q) < 0 then (-1 : Int) else if bcmp (x :: p) (y :: q) > 0 then 1 else cmpP ps qs) = _
          rw [bcmp_cons]
          by_cases c1 : x.toNat < y.toNat
          · rw [if_pos c1, if_pos (by omega), if_pos (by omega)]
          · by_cases c2 : y.toNat < x.toNat
            · rw [if_neg c1, if_pos c2, if_neg (by omega), if_pos (by omega), if_neg (by omega), if_pos (by omega)]
            · rw [if_neg c1, if_neg c2, if_neg (show ¬ x.toNat + 2 < y.toNat + 2 by omega), if_neg (show ¬ y.toNat + 2 < x.toNat + 2 by omega), ← hi, hp, hq]
              rfl
/-- What is within a dir begins with it, and what parts. -/
theorem within_iff : ∀ (d p : Bs), (parts d <+: parts p ∧ (parts d).length < (parts p).length) ↔ ∃ r, p = d ++ 47 :: r := by
  intro d
  induction d with
  | nil =>
    intro p
    rw [parts_nil]
    cases p with
    | nil => rw [parts_nil]; simp
    | cons y p =>
      obtain ⟨q, qs, hq⟩ := parts_ne p
      by_cases hy : y = 47
      · subst hy
        rw [parts_slash, hq]
        exact ⟨fun _ => ⟨p, rfl⟩, fun _ => ⟨⟨q :: qs, rfl⟩, by simp⟩⟩
      · rw [parts_cons hy hq]
        refine ⟨fun ⟨h, _⟩ => ?_, fun ⟨r, h⟩ => ?_⟩
        · obtain ⟨t, h⟩ := h
          injection h with h1 _
          cases h1
        · injection h with h1 _
          exact absurd h1 hy
  | cons x d ih =>
    intro p
    obtain ⟨e, es, he⟩ := parts_ne d
    cases p with
    | nil =>
      rw [parts_nil]
      refine ⟨fun ⟨_, h⟩ => ?_, fun ⟨r, h⟩ => by cases h⟩
      by_cases hx : x = 47
      · subst hx; rw [parts_slash, he] at h; simp at h
      · rw [parts_cons hx he] at h; simp at h
    | cons y p =>
      obtain ⟨q, qs, hq⟩ := parts_ne p
      have hi := ih p
      have hr : (∃ r, y :: p = x :: d ++ 47 :: r) ↔ x = y ∧ ∃ r, p = d ++ 47 :: r := by
        constructor
        · rintro ⟨r, h⟩
          injection h with h1 h2
          exact ⟨h1.symm, r, h2⟩
        · rintro ⟨h1, r, h2⟩
          exact ⟨r, by rw [h1, h2]; rfl⟩
      rw [hr, ← hi]
      by_cases hx : x = 47
      · subst hx
        by_cases hy : y = 47
        · subst hy
          rw [parts_slash, parts_slash, List.cons_prefix_cons, List.length_cons, List.length_cons]
          exact ⟨fun ⟨h1, h2⟩ => ⟨rfl, h1.2, by omega⟩, fun ⟨_, h1, h2⟩ => ⟨⟨rfl, h1⟩, by omega⟩⟩
        · rw [parts_slash, parts_cons hy hq, List.cons_prefix_cons]
          exact ⟨fun ⟨h1, _⟩ => (by cases h1.1), fun ⟨h1, _⟩ => absurd h1.symm hy⟩
      · rw [parts_cons hx he]
        by_cases hy : y = 47
        · subst hy
          rw [parts_slash, List.cons_prefix_cons]
          exact ⟨fun ⟨h1, _⟩ => (by cases h1.1), fun ⟨h1, _⟩ => absurd h1 hx⟩
        · rw [parts_cons hy hq, he, hq, List.cons_prefix_cons, List.cons_prefix_cons, List.cons.injEq, List.length_cons, List.length_cons, List.length_cons, List.length_cons]
          exact ⟨fun ⟨h1, h2⟩ => ⟨h1.1.1, ⟨h1.1.2, h1.2⟩, h2⟩, fun ⟨h0, h1, h2⟩ => ⟨⟨⟨h0, h1.1⟩, h1.2⟩, h2⟩⟩
end
open Go Go.RowKit Go.Proofs.YtjfeddpelakdjaaDoor.P Go.Proofs.YtjfeddpelakdjaaDoorW.PrintWords Go.Proofs.YtjfeddpelakdjaaDoorW.PrintLast Go.Proofs.YtjfeddpelakdjaaDoorW.PrintMore
theorem evpos {α : Type} {c : Prop} [Decidable c] {f g : Nat → Option α} {r : α} (hc : c) (h : Ev f r) : Ev (fun k => if c then f k else g k) r := by simp only [if_pos hc]; exact h
theorem evneg {α : Type} {c : Prop} [Decidable c] {f g : Nat → Option α} {r : α} (hc : ¬ c) (h : Ev g r) : Ev (fun k => if c then f k else g k) r := by simp only [if_neg hc]; exact h
theorem evval {α β : Type} {x : Option β} {a : β} {f : Nat → β → Option α} {r : α} (hx : x = some a) (h : Ev (fun k => f k a) r) : Ev (fun k => x.bind (f k)) r := by subst hx; exact h
theorem w64 {x : Int} (h0 : -9223372036854775808 ≤ x) (h1 : x ≤ 9223372036854775807) : wrap64 x = x := by unfold wrap64; omega
theorem wi {i : Nat} (h : i ≤ 1000000000000) : wrap64 ((i : Int) + 1) = ((i + 1 : Nat) : Int) := by rw [w64 (by omega) (by omega)]; omega
/-- A text's bytes. -/
def tl (s : ByteArray) : Bs := s.data.toList
def ofB (l : Bs) : ByteArray := ⟨l.toArray⟩
theorem tl_ofB (l : Bs) : tl (ofB l) = l := rfl
theorem tl_inj {a b : ByteArray} (h : tl a = tl b) : a = b := by
  cases a; cases b
  exact congrArg ByteArray.mk (Array.toList_inj.1 h)
theorem ofB_tl (s : ByteArray) : ofB (tl s) = s := tl_inj rfl
theorem ofB_eq {s : ByteArray} {l : Bs} (h : tl s = l) : s = ofB l := tl_inj h
theorem tl_size (s : ByteArray) : (tl s).length = s.size := (Lib.size_eq s).symm
theorem tl_append (a b : ByteArray) : tl (a ++ b) = tl a ++ tl b := by
  show (a ++ b).data.toList = _
  rw [ByteArray.data_append, Array.toList_append]
  rfl
theorem toList_tl (s : ByteArray) : s.toList = tl s := ByteArray.toList_eq s
theorem toList_eq_iff {a b : ByteArray} : a.toList = b.toList ↔ a = b := ⟨fun h => tl_inj (by rw [← toList_tl, ← toList_tl, h]), fun h => by rw [h]⟩
theorem tl_take (s : ByteArray) (a : Nat) : tl (s.extract 0 a) = (tl s).take a := Lib.extract_from_zero s a
theorem tl_drop (s : ByteArray) (a : Nat) : tl (s.extract a s.size) = (tl s).drop a := Lib.extract_to_end s a
theorem tl_cut (s : ByteArray) (a b : Nat) : tl (s.extract a b) = ((tl s).drop a).take (b - a) := Lib.extract_data s a b
theorem size_append (a b : ByteArray) : (a ++ b).size = a.size + b.size := by rw [← tl_size, ← tl_size, ← tl_size, tl_append, List.length_append]
theorem drop_cons {α : Type} {s : List α} {i : Nat} {x : α} {t : List α} (h : s.drop i = x :: t) : i < s.length ∧ s[i]? = some x ∧ s.drop (i + 1) = t := by
  have h1 : i < s.length := by
    rcases Nat.lt_or_ge i s.length with h1 | h1
    · exact h1
    · rw [List.drop_eq_nil_of_le h1] at h; cases h
  rw [List.drop_eq_getElem_cons h1] at h
  injection h with h2 h3
  exact ⟨h1, by rw [List.getElem?_eq_getElem h1, h2], h3⟩
theorem drop_nil {α : Type} {s : List α} {i : Nat} (h : s.drop i = []) : s.length ≤ i := List.drop_eq_nil_iff.1 h
theorem rdB {s : List ByteArray} {i : Nat} {x : ByteArray} (h : s[i]? = some x) : rdOf ByteArray.empty s (i : Int) = x := by
  unfold rdOf
  rw [Int.toNat_natCast, List.getD_eq_getElem?_getD, h]; rfl
theorem rdI {s : List Int} {i : Nat} {x : Int} (h : s[i]? = some x) : rd s (i : Int) = x := by
  unfold rd
  rw [Int.toNat_natCast, List.getD_eq_getElem?_getD, h]; rfl
theorem bt_tl {s : ByteArray} {i : Nat} {c : UInt8} (h : (tl s)[i]? = some c) : bt s (i : Int) = (c.toNat : Int) := by
  obtain ⟨h1, h2⟩ := List.getElem?_eq_some_iff.1 h
  have h3 : i < s.size := by rw [← tl_size]; exact h1
  unfold bt
  rw [dif_pos (by rw [Int.toNat_natCast]; exact h3)]
  have : s[(i : Int).toNat]'(by rw [Int.toNat_natCast]; exact h3) = c := by
    rw [← h2]
    rfl
  rw [this]
/-- The parts of a text, as texts. -/
def pieces (s : ByteArray) : List ByteArray := (parts (tl s)).map ofB
theorem map_tl_inj : ∀ {a b : List ByteArray}, a.map tl = b.map tl → a = b := by
  intro a
  induction a with
  | nil => intro b h; cases b with
    | nil => rfl
    | cons y b => cases h
  | cons x a ih =>
    intro b h
    cases b with
    | nil => cases h
    | cons y b =>
      injection h with h1 h2
      rw [tl_inj h1, ih h2]
theorem pieces_tl (s : ByteArray) : (pieces s).map tl = parts (tl s) := by
  unfold pieces
  rw [List.map_map]
  exact List.map_id _
theorem index_first : ∀ {a b : Bs} {c : UInt8}, c ∉ a → Lib.indexByte (a ++ c :: b) c = (a.length : Int) := by
  intro a
  induction a with
  | nil => intro b c _; show (if c == c then (0 : Int) else _) = 0; rw [beq_self_eq_true]; rfl
  | cons x a ih =>
    intro b c h
    have hx : (x == c) = false := by rw [beq_eq_false_iff_ne]; intro e; exact h (by rw [e]; exact List.mem_cons_self)
    have h2 := ih (b := b) (fun hm => h (List.mem_cons_of_mem x hm))
    show (if x == c then (0 : Int) else if Lib.indexByte (a ++ c :: b) c == -1 then -1 else Lib.indexByte (a ++ c :: b) c + 1) = _
    have h3 : (((a.length : Nat) : Int) == -1) = false := by rw [beq_eq_false_iff_ne]; omega
    rw [hx, h2, h3]
    simp
theorem index_ge {l : Bs} {c : UInt8} : 0 ≤ Lib.indexByte l c ↔ c ∈ l := by
  induction l with
  | nil => constructor
           · intro h
             have : Lib.indexByte [] c = -1 := rfl
             omega
           · intro h; cases h
  | cons x l ih =>
    have e : Lib.indexByte (x :: l) c = if x == c then 0 else if Lib.indexByte l c == -1 then -1 else Lib.indexByte l c + 1 := rfl
    have hg := Lib.indexByte_ge l c
    rw [e, List.mem_cons, ← ih]
    by_cases hx : x = c
    · rw [if_pos (by rw [hx]; exact beq_self_eq_true c)]; simp [hx]
    · rw [if_neg (by rw [beq_iff_eq]; exact hx)]
      by_cases h1 : Lib.indexByte l c = -1
      · rw [if_pos (beq_iff_eq.2 h1)]
        constructor
        · intro h; omega
        · rintro (h | h)
          · exact absurd h.symm hx
          · omega
      · rw [if_neg (by rw [beq_iff_eq]; exact h1)]
        exact ⟨fun _ => .inr (by omega), fun _ => by omega⟩
theorem first_slash {l : Bs} (h : 47 ∈ l) : ∃ a b, l = a ++ 47 :: b ∧ 47 ∉ a := by
  induction l with
  | nil => cases h
  | cons x l ih =>
    by_cases hx : x = 47
    · exact ⟨[], l, by rw [hx]; rfl, by simp⟩
    · rcases List.mem_cons.1 h with e | h
      · exact absurd e.symm hx
      · obtain ⟨a, b, rfl, ha⟩ := ih h
        refine ⟨x :: a, b, rfl, fun hm => ?_⟩
        rcases List.mem_cons.1 hm with e | hm
        · exact hx e.symm
        · exact ha hm
theorem splitK_parts : ∀ (n : Nat) (l : Bs), l.count 47 = n → Lib.splitK [47] 0 n l = parts l := by
  intro n
  induction n with
  | zero =>
    intro l h
    rw [parts_one (List.count_eq_zero.1 h)]
    rfl
  | succ n ih =>
    intro l h
    obtain ⟨a, b, rfl, ha⟩ := first_slash (List.count_pos_iff.1 (by rw [h]; omega))
    have hi : Lib.index (a ++ 47 :: b) [47] = (a.length : Int) := by rw [Lib.index_one, index_first ha]
    have hc : b.count 47 = n := by
      rw [List.count_append, List.count_eq_zero.2 ha, List.count_cons_self] at h
      omega
    have h3 : (((a.length : Nat) : Int) == -1) = false := by rw [beq_eq_false_iff_ne]; omega
    have hu : Lib.splitK [47] 0 (n + 1) (a ++ 47 :: b) = if Lib.index (a ++ 47 :: b) [47] == -1 then [a ++ 47 :: b] else (a ++ 47 :: b).take ((Lib.index (a ++ 47 :: b) [47]).toNat + 0) :: Lib.splitK [47] 0 n ((a ++ 47 :: b).drop ((Lib.index (a ++ 47 :: b) [47]).toNat + 1)) := rfl
    rw [hu, hi, h3, Int.toNat_natCast, parts_app, parts_one ha]
    have hd : (a ++ 47 :: b).drop (a.length + 1) = b := by rw [← List.drop_drop, List.drop_left]; rfl
    rw [hd, ih b hc, Nat.add_zero, List.take_left]
    rfl
theorem split_ok {s : ByteArray} (h : s.size < 4294967281) : strings_Split.f s (⟨#[47]⟩ : ByteArray) = some (pieces s) := by
  unfold strings_Split.f
  rw [if_pos ⟨rfl, h⟩]
  congr 1
  apply map_tl_inj
  rw [pieces_tl]
  have h1 := Lib.splitB_data (⟨#[47]⟩ : ByteArray) 0 (Lib.countB s ⟨#[47]⟩) s
  have h2 : Lib.countB s ⟨#[47]⟩ = (tl s).count 47 := Lib.count_one 47 (tl s)
  rw [h2] at h1 ⊢
  exact h1.trans (splitK_parts _ _ rfl)
/-- May a part not be. -/
def oddb (l : Bs) : Bool := decide (l = [] ∨ l = [46] ∨ l = [46, 46] ∨ l.length > 64 ∨ (0 : UInt8) ∈ l)
theorem odd_ok (s : ByteArray) : paths_odd.f s = some (oddb (tl s)) := by
  unfold paths_odd.f oddb
  rw [toList_tl]
  by_cases h1 : tl s = []
  · rw [if_pos h1, decide_eq_true (.inl h1)]
  · rw [if_neg h1]
    by_cases h2 : tl s = [46]
    · rw [if_pos h2, decide_eq_true (.inr (.inl h2))]
    · rw [if_neg h2]
      by_cases h3 : tl s = [46, 46]
      · rw [if_pos h3, decide_eq_true (.inr (.inr (.inl h3)))]
      · rw [if_neg h3]
        have hl := tl_size s
        by_cases h4 : (s.size : Int) > 64
        · rw [if_pos h4, decide_eq_true (.inr (.inr (.inr (.inl (by omega)))))]
        · rw [if_neg h4]
          unfold strings_IndexByte.f
          rw [Option.bind_some]
          congr 1
          have e : ((0 : Int).toNat.toUInt8) = 0 := rfl
          rw [e, decide_eq_decide]
          show 0 ≤ Lib.indexByte (tl s) 0 ↔ _
          rw [index_ge]
          constructor
          · intro h; exact .inr (.inr (.inr (.inr h)))
          · rintro (h | h | h | h | h)
            · exact absurd h h1
            · exact absurd h h2
            · exact absurd h h3
            · omega
            · exact h
/-- What is wrong with a path of such parts. -/
def chk (ps : List Bs) : Int := if ps.any oddb then 2 else if ps.length > 16 then 3 else 0
theorem check_loop (ps : List ByteArray) (hp : ps.length ≤ 1000000000000) (t : List ByteArray) : ∀ i : Nat, ps.drop i = t → Ev (fun k => paths_Check.l0 k ps ps (ps.length : Int) (i : Int)) (if (t.map tl).any oddb then 2 else if ps.length > 16 then 3 else 0) := by
  induction t with
  | nil =>
    intro i h
    have hi := drop_nil h
    refine Ev.step (f := fun _ => some _) (fun k => ?_) (Ev.now _)
    simp only [paths_Check.l0]
    rw [if_neg (by omega)]
    show _ = some (if ps.length > 16 then (3 : Int) else 0)
    by_cases c : ps.length > 16
    · rw [if_pos (by omega), if_pos c]
    · rw [if_neg (by omega), if_neg c]
  | cons x t ih =>
    intro i h
    obtain ⟨h1, h2, h3⟩ := drop_cons h
    rw [List.map_cons, List.any_cons]
    cases hx : oddb (tl x) with
    | true =>
      refine Ev.step (f := fun _ => some 2) (fun k => ?_) (Ev.now _)
      simp only [paths_Check.l0]
      rw [if_pos (by omega), if_pos (by omega), if_pos (by omega), rdB h2, odd_ok, Option.bind_some, if_pos hx]
    | false =>
      rw [Bool.false_or]
      refine Ev.step (fun k => ?_) (ih (i + 1) h3)
      simp only [paths_Check.l0]
      rw [if_pos (by omega), if_pos (by omega), if_pos (by omega), rdB h2, odd_ok, Option.bind_some, if_neg (by rw [hx]; decide), wi (by omega)]
theorem parts_length (l : Bs) : (parts l).length ≤ l.length + 1 := by
  induction l with
  | nil => exact Nat.le_refl _
  | cons c l ih =>
    by_cases hc : c = 47
    · subst hc; rw [parts_slash]; simp only [List.length_cons]; omega
    · obtain ⟨p, ps, h⟩ := parts_ne l
      rw [parts_cons hc h]
      rw [h] at ih
      simp only [List.length_cons] at ih ⊢; omega
theorem pieces_length (s : ByteArray) : (pieces s).length ≤ s.size + 1 := by
  unfold pieces
  rw [List.length_map]
  have := parts_length (tl s)
  rw [tl_size] at this
  exact this
theorem check_ok {s : ByteArray} (h : s.size ≤ 4000000) : Ev (fun k => paths_Check.f k s) (chk (parts (tl s))) := by
  unfold paths_Check.f
  refine evval (split_ok (by omega)) ?_
  have hl := pieces_length s
  have := check_loop (pieces s) (by omega) (pieces s) 0 (by simp)
  rw [pieces_tl] at this
  have e : (pieces s).length = (parts (tl s)).length := List.length_map ..
  rw [e] at this ⊢
  exact this
theorem parts_okf {s : ByteArray} (h : s.size ≤ 4000000) : Ev (fun k => paths_Parts.f k s) (if chk (parts (tl s)) = 0 then pieces s else []) := by
  unfold paths_Parts.f
  refine Ev.bind (check_ok h) ?_
  by_cases c : chk (parts (tl s)) = 0
  · have e : (if chk (parts (tl s)) = 0 then pieces s else []) = pieces s := if_pos c
    rw [e]
    exact evpos c (evval (split_ok (s := s) (by omega)) (Ev.now _))
  · have e : (if chk (parts (tl s)) = 0 then pieces s else []) = [] := if_neg c
    rw [e]
    exact evneg c (Ev.now _)
theorem lastIdx_none {s : ByteArray} : ∀ {k : Nat}, k ≤ s.size → (∀ j, j < k → (tl s)[j]? ≠ some 47) → Lib.lastIdx s 47 k = -1 := by
  intro k
  induction k with
  | zero => intro _ _; rfl
  | succ k ih =>
    intro hk h
    have hlt : k < (tl s).length := by rw [tl_size]; omega
    have e : s.data[k]! = (tl s)[k] := by
      have hk2 : k < s.data.size := hk
      rw [getElem!_pos s.data k hk2]
      rfl
    have hne : (tl s)[k] ≠ 47 := fun he => h k (by omega) (by rw [List.getElem?_eq_getElem hlt, he])
    show (if ((s.data[k]!).toNat : Int) = 47 then (k : Int) else Lib.lastIdx s 47 k) = -1
    rw [e, if_neg (fun hh => hne (UInt8.toNat_inj.1 (by have : ((47 : UInt8).toNat : Int) = 47 := rfl; omega)))]
    exact ih (by omega) (fun j hj => h j (by omega))
theorem lastIdx_at {s : ByteArray} {p : Nat} (hp : (tl s)[p]? = some 47) : ∀ {k : Nat}, k ≤ s.size → p < k → (∀ j, p < j → j < k → (tl s)[j]? ≠ some 47) → Lib.lastIdx s 47 k = (p : Int) := by
  intro k
  induction k with
  | zero => intro _ h; omega
  | succ k ih =>
    intro hk hpk h
    have hlt : k < (tl s).length := by rw [tl_size]; omega
    have e : s.data[k]! = (tl s)[k] := by
      have hk2 : k < s.data.size := hk
      rw [getElem!_pos s.data k hk2]
      rfl
    show (if ((s.data[k]!).toNat : Int) = 47 then (k : Int) else Lib.lastIdx s 47 k) = (p : Int)
    rw [e]
    by_cases hkp : k = p
    · subst hkp
      rw [List.getElem?_eq_getElem hlt] at hp
      rw [Option.some.inj hp, if_pos (show ((UInt8.toNat 47 : Nat) : Int) = 47 from rfl)]
    · have hne : (tl s)[k] ≠ 47 := fun he => h k (by omega) (by omega) (by rw [List.getElem?_eq_getElem hlt, he])
      rw [if_neg (fun hh => hne (UInt8.toNat_inj.1 (by have : ((47 : UInt8).toNat : Int) = 47 := rfl; omega)))]
      exact ih (by omega) (by omega) (fun j h1 h2 => h j h1 (by omega))
theorem last_none {s : ByteArray} (hs : s.size ≤ 4000000) (h : 47 ∉ tl s) : strings_LastIndex.f s (⟨#[47]⟩ : ByteArray) = some (-1) := by
  unfold strings_LastIndex.f
  rw [dif_pos (show (⟨#[47]⟩ : ByteArray).size = 1 from rfl), if_pos (by omega)]
  exact congrArg some (lastIdx_none (Nat.le_refl _) (fun j _ hj => h (List.mem_of_getElem? hj)))
theorem last_at {s : ByteArray} (hs : s.size ≤ 4000000) {a b : Bs} (h : tl s = a ++ 47 :: b) (hb : 47 ∉ b) : strings_LastIndex.f s (⟨#[47]⟩ : ByteArray) = some (a.length : Int) := by
  unfold strings_LastIndex.f
  rw [dif_pos (show (⟨#[47]⟩ : ByteArray).size = 1 from rfl), if_pos (by omega)]
  have hl : s.size = a.length + (b.length + 1) := by rw [← tl_size, h, List.length_append, List.length_cons]
  refine congrArg some (lastIdx_at (by rw [h, List.getElem?_append_right (Nat.le_refl _), Nat.sub_self]; rfl) (Nat.le_refl _) (by omega) (fun j h1 h2 hj => hb ?_))
  rw [h, List.getElem?_append_right (by omega)] at hj
  obtain ⟨n, hn⟩ : ∃ n, j - a.length = n + 1 := ⟨j - a.length - 1, by omega⟩
  rw [hn, List.getElem?_cons_succ] at hj
  exact List.mem_of_getElem? hj
/-- What stands ahead of the last part, and that. -/
def dirB (l : Bs) : Bs := if chk (parts l) = 0 then glue (parts l).dropLast else []
def baseB (l : Bs) : Bs := if chk (parts l) = 0 then (parts l).getLastD [] else []
theorem glue_parts_dir (l : Bs) : (47 ∉ l ∧ glue (parts l).dropLast = [] ∧ (parts l).getLastD [] = l) ∨ ∃ a b, l = a ++ 47 :: b ∧ 47 ∉ b ∧ glue (parts l).dropLast = a ∧ (parts l).getLastD [] = b := by
  rcases parts_last l with ⟨h1, h2⟩ | ⟨a, b, h1, h2, h3⟩
  · exact .inl ⟨h1, by rw [h2]; rfl, by rw [h2]; rfl⟩
  · refine .inr ⟨a, b, h1, h2, ?_, ?_⟩
    · rw [h3, List.dropLast_concat, glue_parts]
    · rw [h3, List.getLastD_concat]
theorem cut_ok {s : ByteArray} (hs : s.size ≤ 4000000) {at_ : Int} (h : strings_LastIndex.f s (⟨#[47]⟩ : ByteArray) = some at_) : Ev (fun k => paths_cut.f k s) (at_, (chk (parts (tl s)) == 0)) := by
  unfold paths_cut.f
  exact evval h (Ev.bind (check_ok hs) (Ev.now _))
theorem dir_ok {s : ByteArray} (hs : s.size ≤ 4000000) : Ev (fun k => paths_Dir.f k s) (ofB (dirB (tl s))) := by
  unfold paths_Dir.f dirB
  rcases glue_parts_dir (tl s) with ⟨h1, h2, _⟩ | ⟨a, b, h1, h2, h3, _⟩
  · refine Ev.bind (cut_ok hs (last_none hs h1)) ?_
    by_cases c : chk (parts (tl s)) = 0
    · rw [if_pos c, h2]
      exact evpos (beq_iff_eq.2 c) (evpos (by show (-1 : Int) < 0; omega) (Ev.now _))
    · rw [if_neg c]
      exact evneg (by rw [beq_iff_eq]; exact c) (Ev.now _)
  · refine Ev.bind (cut_ok hs (last_at hs h1 h2)) ?_
    have hl : s.size = a.length + (b.length + 1) := by rw [← tl_size, h1, List.length_append, List.length_cons]
    by_cases c : chk (parts (tl s)) = 0
    · rw [if_pos c, h3]
      refine evpos (beq_iff_eq.2 c) (evneg (by show ¬ ((a.length : Int) < 0); omega) (evpos (by show (0 : Int) ≤ (a.length : Int); omega) (evpos (by show (a.length : Int) ≤ _; omega) ?_)))
      have e : s.extract 0 ((a.length : Int)).toNat = ofB a := ofB_eq (by rw [tl_take, Int.toNat_natCast, h1, List.take_left])
      show Ev (fun _ => some (s.extract 0 ((a.length : Int)).toNat)) _
      rw [e]
      exact Ev.now _
    · rw [if_neg c]
      exact evneg (by rw [beq_iff_eq]; exact c) (Ev.now _)
theorem base_ok {s : ByteArray} (hs : s.size ≤ 4000000) : Ev (fun k => paths_Base.f k s) (ofB (baseB (tl s))) := by
  unfold paths_Base.f baseB
  rcases glue_parts_dir (tl s) with ⟨h1, _, h2⟩ | ⟨a, b, h1, h2, _, h3⟩
  · refine Ev.bind (cut_ok hs (last_none hs h1)) ?_
    by_cases c : chk (parts (tl s)) = 0
    · rw [if_pos c, h2]
      have e0 : wrap64 ((-1 : Int) + 1) = 0 := (w64 (x := (-1 : Int) + 1) (by omega) (by omega)).trans (by omega)
      refine evpos (beq_iff_eq.2 c) (evpos (by show 0 ≤ wrap64 ((-1 : Int) + 1); rw [e0]; omega) (evpos (by show wrap64 ((-1 : Int) + 1) ≤ _; rw [e0]; omega) ?_))
      show Ev (fun _ => some (s.extract (wrap64 ((-1 : Int) + 1)).toNat s.size)) _
      have e : s.extract (wrap64 ((-1 : Int) + 1)).toNat s.size = ofB (tl s) := ofB_eq (by rw [e0, tl_drop]; rfl)
      rw [e]
      exact Ev.now _
    · rw [if_neg c]
      exact evneg (by rw [beq_iff_eq]; exact c) (Ev.now _)
  · refine Ev.bind (cut_ok hs (last_at hs h1 h2)) ?_
    have hl : s.size = a.length + (b.length + 1) := by rw [← tl_size, h1, List.length_append, List.length_cons]
    by_cases c : chk (parts (tl s)) = 0
    · rw [if_pos c, h3]
      have e0 : wrap64 ((a.length : Int) + 1) = ((a.length + 1 : Nat) : Int) := wi (by omega)
      refine evpos (beq_iff_eq.2 c) (evpos (by show 0 ≤ wrap64 ((a.length : Int) + 1); rw [e0]; omega) (evpos (by show wrap64 ((a.length : Int) + 1) ≤ _; rw [e0]; omega) ?_))
      show Ev (fun _ => some (s.extract (wrap64 ((a.length : Int) + 1)).toNat s.size)) _
      have e : s.extract (wrap64 ((a.length : Int) + 1)).toNat s.size = ofB b := ofB_eq (by
        rw [e0, tl_drop, Int.toNat_natCast, h1, ← List.drop_drop, List.drop_left]; rfl)
      rw [e]
      exact Ev.now _
    · rw [if_neg c]
      exact evneg (by rw [beq_iff_eq]; exact c) (Ev.now _)
theorem rank_at {s : ByteArray} {i : Nat} {c : UInt8} (h : (tl s)[i]? = some c) : paths_rank.f s (i : Int) = some (rkb c : Int) := by
  have h1 : i < s.size := by rw [← tl_size]; exact (List.getElem?_eq_some_iff.1 h).1
  have h47 : bt (⟨#[47]⟩ : ByteArray) 0 = 47 := rfl
  have hc := c.toNat_lt
  unfold paths_rank.f rkb
  rw [if_neg (by omega), if_pos (by omega), if_pos (by omega), if_pos (by omega), bt_tl h, h47]
  by_cases e : c = 47
  · rw [if_pos (by rw [e]; rfl), if_pos e]; rfl
  · rw [if_neg (fun hh => e (UInt8.toNat_inj.1 (by have : ((47 : UInt8).toNat : Int) = 47 := rfl; omega))), if_neg e, w64 (x := (c.toNat : Int)) (by omega) (by omega), w64 (by omega) (by omega)]
    congr 1
    omega
theorem rank_end {s : ByteArray} {i : Nat} (h : s.size ≤ i) : paths_rank.f s (i : Int) = some 0 := by
  unfold paths_rank.f
  rw [if_pos (by omega)]
theorem rkb_pos (c : UInt8) : 1 ≤ rkb c := by unfold rkb; split <;> omega
theorem compare_loop (a b : ByteArray) (ha : a.size ≤ 4000000) (hb : b.size ≤ 4000000) (d : Nat) : ∀ i : Nat, (max a.size b.size) - i = d → i ≤ max a.size b.size → Ev (fun k => paths_Compare.l0 k a b ((max a.size b.size : Nat) : Int) (i : Int)) (lex ((rks (tl a)).drop i) ((rks (tl b)).drop i)) := by
  have la : (rks (tl a)).length = a.size := by unfold rks; rw [List.length_map, tl_size]
  have lb : (rks (tl b)).length = b.size := by unfold rks; rw [List.length_map, tl_size]
  induction d with
  | zero =>
    intro i hd hi
    rw [List.drop_eq_nil_of_le (by omega), List.drop_eq_nil_of_le (by omega)]
    refine Ev.step (f := fun _ => some 0) (fun k => ?_) (Ev.now _)
    simp only [paths_Compare.l0]; rw [if_neg (by omega)]
  | succ d ih =>
    intro i hd hi
    have hn := ih (i + 1) (by omega) (by omega)
    have key : ∀ (x y : Int) (r : Int), paths_rank.f a (i : Int) = some x → paths_rank.f b (i : Int) = some y → (x < y → r = -1) → (y < x → r = 1) → (x = y → r = lex ((rks (tl a)).drop (i + 1)) ((rks (tl b)).drop (i + 1))) → Ev (fun k => paths_Compare.l0 k a b ((max a.size b.size : Nat) : Int) (i : Int)) r := by
      intro x y r hx hy h1 h2 h3
      by_cases c1 : x < y
      · rw [h1 c1]
        refine Ev.step (f := fun _ => some (-1)) (fun k => ?_) (Ev.now _)
        simp only [paths_Compare.l0]
        rw [if_pos (by omega), hx, Option.bind_some, hy, Option.bind_some, cmp_Compare_int.f, Option.bind_some, Lib.compareInt, if_pos c1, if_neg (by decide)]
      · by_cases c2 : y < x
        · rw [h2 c2]
          refine Ev.step (f := fun _ => some 1) (fun k => ?_) (Ev.now _)
          simp only [paths_Compare.l0]
          rw [if_pos (by omega), hx, Option.bind_some, hy, Option.bind_some, cmp_Compare_int.f, Option.bind_some, Lib.compareInt, if_neg c1, if_pos c2, if_neg (by decide)]
        · rw [h3 (by omega)]
          refine Ev.step (fun k => ?_) hn
          simp only [paths_Compare.l0]
          rw [if_pos (by omega), hx, Option.bind_some, hy, Option.bind_some, cmp_Compare_int.f, Option.bind_some, Lib.compareInt, if_neg c1, if_neg c2, if_pos rfl, wi (by omega)]
    by_cases ca : i < a.size
    · have ga : (tl a)[i]? = some ((tl a)[i]'(by rw [tl_size]; exact ca)) := List.getElem?_eq_getElem _
      have da : (rks (tl a)).drop i = rkb ((tl a)[i]'(by rw [tl_size]; exact ca)) :: (rks (tl a)).drop (i + 1) := by
        rw [List.drop_eq_getElem_cons (by rw [la]; exact ca)]
        congr 1
        unfold rks
        rw [List.getElem_map]
      by_cases cb : i < b.size
      · have gb : (tl b)[i]? = some ((tl b)[i]'(by rw [tl_size]; exact cb)) := List.getElem?_eq_getElem _
        have db : (rks (tl b)).drop i = rkb ((tl b)[i]'(by rw [tl_size]; exact cb)) :: (rks (tl b)).drop (i + 1) := by
          rw [List.drop_eq_getElem_cons (by rw [lb]; exact cb)]
          congr 1
          unfold rks
          rw [List.getElem_map]
        refine key _ _ _ (rank_at ga) (rank_at gb) (fun h => ?_) (fun h => ?_) (fun h => ?_) <;> rw [da, db, lex_cons]
        · rw [if_pos (by omega)]
        · rw [if_neg (by omega), if_pos (by omega)]
        · rw [if_neg (by omega), if_neg (by omega)]
      · have h0 := rkb_pos ((tl a)[i]'(by rw [tl_size]; exact ca))
        refine key _ _ _ (rank_at ga) (rank_end (by omega)) (fun h => by omega) (fun h => ?_) (fun h => by omega)
        rw [da, List.drop_eq_nil_of_le (by omega : (rks (tl b)).length ≤ i)]
        rfl
    · have cb : i < b.size := by omega
      have gb : (tl b)[i]? = some ((tl b)[i]'(by rw [tl_size]; exact cb)) := List.getElem?_eq_getElem _
      have db : (rks (tl b)).drop i = rkb ((tl b)[i]'(by rw [tl_size]; exact cb)) :: (rks (tl b)).drop (i + 1) := by
        rw [List.drop_eq_getElem_cons (by rw [lb]; exact cb)]
        congr 1
        unfold rks
        rw [List.getElem_map]
      have h0 := rkb_pos ((tl b)[i]'(by rw [tl_size]; exact cb))
      refine key _ _ _ (rank_end (by omega)) (rank_at gb) (fun h => ?_) (fun h => by omega) (fun h => by omega)
      rw [db, List.drop_eq_nil_of_le (by omega : (rks (tl a)).length ≤ i)]
      rfl
theorem compare_ok {a b : ByteArray} (ha : a.size ≤ 4000000) (hb : b.size ≤ 4000000) : Ev (fun k => paths_Compare.f k a b) (pcmp (tl a) (tl b)) := by
  unfold paths_Compare.f
  have h := compare_loop a b ha hb (max a.size b.size) 0 (by omega) (by omega)
  have e : mx (a.size : Int) (b.size : Int) = ((max a.size b.size : Nat) : Int) := by unfold mx; split <;> omega
  rw [e]
  exact h
/-- Is one within another one. -/
def withinB (d p : Bs) : Bool := if d = [] then p != [] else (d ++ [47]).isPrefixOf p
theorem within_ok {d p : ByteArray} (hd : d.size ≤ 4000000) : paths_Within.f d p = some (withinB (tl d) (tl p)) := by
  unfold paths_Within.f withinB
  rw [toList_tl, toList_tl]
  by_cases h : tl d = []
  · rw [if_pos h, if_pos h]
  · rw [if_neg h, if_neg h, if_pos (by omega)]
    unfold strings_HasPrefix.f
    rw [Option.bind_some]
    show some ((tl (d ++ (⟨#[47]⟩ : ByteArray))).isPrefixOf (tl p)) = _
    rw [tl_append]
    rfl
theorem within_true {d p : Bs} (hd : d ≠ []) : withinB d p = true ↔ ∃ r, p = d ++ 47 :: r := by
  unfold withinB
  rw [if_neg hd, List.isPrefixOf_iff_prefix]
  constructor
  · rintro ⟨r, rfl⟩; exact ⟨r, by simp⟩
  · rintro ⟨r, rfl⟩; exact ⟨r, by simp⟩
theorem within_nil (p : Bs) : withinB [] p = (p != []) := rfl
/-- A path of two. -/
def joinB (d n : Bs) : Bs := if d = [] then n else d ++ 47 :: n
theorem join_ok {d n : ByteArray} (hd : d.size ≤ 4000000) (hn : n.size ≤ 4000000) : paths_Join.f d n = some (ofB (joinB (tl d) (tl n))) := by
  unfold paths_Join.f joinB
  rw [toList_tl]
  by_cases h : tl d = []
  · rw [if_pos h, if_pos h, ofB_tl]
  · have hs := size_append d (⟨#[47]⟩ : ByteArray)
    have h1 : (⟨#[47]⟩ : ByteArray).size = 1 := rfl
    rw [if_neg h, if_neg h, if_pos (by omega), if_pos (by omega)]
    refine congrArg some (ofB_eq ?_)
    rw [tl_append, tl_append]
    show tl d ++ [47] ++ tl n = _
    simp
theorem rjoin_ok {d n : ByteArray} (hd : d.size ≤ 4000000) (hn : n.size ≤ 4000000) : collatorref01_Join.f d n = some (ofB (joinB (tl d) (tl n))) := join_ok hd hn
theorem joinB_size (d n : Bs) : (joinB d n).length ≤ d.length + n.length + 1 := by
  unfold joinB
  split
  · omega
  · simp only [List.length_append, List.length_cons]; omega
theorem ofB_size (l : Bs) : (ofB l).size = l.length := by rw [← tl_size]; rfl
theorem awake1_ok : Ev (fun k => collatorlaw01_awake.f k) true := Ev.of (k := 40) collatorlaw01_awake.mono (by decide +kernel)
theorem mn_take (a : ByteArray) (n : Nat) : 0 ≤ mn (a.size : Int) (n : Int) ∧ mn (a.size : Int) (n : Int) ≤ (a.size : Int) ∧ (a.extract 0 ((mn (a.size : Int) (n : Int)) : Int).toNat).size ≤ n := by
  have e : mn (a.size : Int) (n : Int) = ((min a.size n : Nat) : Int) := by unfold mn; split <;> omega
  have h : (a.extract 0 (((min a.size n : Nat) : Int)).toNat).size ≤ n := by
    rw [← tl_size, tl_take, List.length_take, Int.toNat_natCast]
    omega
  rw [e]
  exact ⟨by omega, by omega, h⟩
/-- Which of n things a raw number speaks of. -/
def pk (c : Int) (n : Nat) : Nat := (if c < 0 then -(c + 1) else c).toNat % n
theorem pk_lt (c : Int) {n : Nat} (h : 0 < n) : pk c n < n := Nat.mod_lt _ h
theorem wf_range {c : Int} (h : (Lit.int .i64 c).wf = true) : -9223372036854775808 ≤ c ∧ c ≤ 9223372036854775807 := by
  have h2 := (bounds_i64 h)
  omega
theorem pick1 {c : Int} (hc : -9223372036854775808 ≤ c ∧ c ≤ 9223372036854775807) {m : Int} {n : Nat} (hm : m = n) (hn : 0 < n) : collatorlaw01_pick.f c m = some (pk c n : Int) := by
  subst hm
  have h0 : ¬ ((n : Int) = 0) := by omega
  unfold pk collatorlaw01_pick.f
  by_cases h : c < 0
  · rw [if_pos h, if_neg h0, if_pos h, w64 (x := c + 1) (by omega) (by omega), w64 (by omega) (by omega), Int.tmod_eq_emod_of_nonneg (by omega)]
    congr 1
    rw [Int.natCast_emod, Int.toNat_of_nonneg (by omega)]
  · rw [if_neg h, if_neg h0, if_neg h, Int.tmod_eq_emod_of_nonneg (by omega)]
    congr 1
    rw [Int.natCast_emod, Int.toNat_of_nonneg (by omega)]
theorem rd_mem {l : List Int} (hw : ∀ x ∈ l, (Lit.int .i64 x).wf = true) {i : Int} (h0 : 0 ≤ i) (h1 : i < l.length) : -9223372036854775808 ≤ rd l i ∧ rd l i ≤ 9223372036854775807 := by
  refine wf_range (hw _ ?_)
  unfold rd
  rw [List.getD_eq_getElem?_getD, List.getElem?_eq_getElem (by omega)]
  exact List.getElem_mem _
def names : List ByteArray := [(⟨#[97]⟩ : ByteArray), (⟨#[98]⟩ : ByteArray), (⟨#[97, 98]⟩ : ByteArray), (⟨#[97, 33]⟩ : ByteArray), (⟨#[97, 46, 98]⟩ : ByteArray), (⟨#[46, 46, 46]⟩ : ByteArray), (⟨#[90]⟩ : ByteArray), (⟨#[255]⟩ : ByteArray)]
/-- A name that may be. -/
def Name (q : Bs) : Prop := q ≠ [] ∧ (47 : UInt8) ∉ q ∧ oddb q = false ∧ q.length ≤ 3
theorem names_ok : ∀ s ∈ names, Name (tl s) := by unfold Name; decide
theorem name_a : Name [97] := by unfold Name; decide
/-- A path of few parts. -/
structure Good (ps : List Bs) (most : Nat) : Prop where
  ne : ps ≠ []
  le : ps.length ≤ most
  all : ∀ q ∈ ps, Name q
theorem Good.mono {ps : List Bs} {m n : Nat} (h : Good ps m) (hmn : m ≤ n) : Good ps n := ⟨h.ne, Nat.le_trans h.le hmn, h.all⟩
theorem Good.no {ps : List Bs} {m : Nat} (h : Good ps m) : ∀ q ∈ ps, (47 : UInt8) ∉ q := fun q hq => (h.all q hq).2.1
theorem Good.chk {ps : List Bs} {m : Nat} (h : Good ps m) (hm : m ≤ 16) : chk ps = 0 := by
  have := h.le
  unfold Q.chk
  rw [if_neg, if_neg (by omega)]
  rw [Bool.not_eq_true, List.any_eq_false]
  intro q hq
  rw [(h.all q hq).2.2.1]
  decide
theorem glue_ne {ps : List Bs} (h : ps ≠ []) (hn : ∀ q ∈ ps, q ≠ []) : glue ps ≠ [] := by
  cases ps with
  | nil => exact absurd rfl h
  | cons p ps =>
    cases ps with
    | nil => exact hn p List.mem_cons_self
    | cons q ps => intro e; have := congrArg List.length e; simp [glue] at this
theorem Good.glue {ps : List Bs} {m : Nat} (h : Good ps m) : parts (glue ps) = ps ∧ glue ps ≠ [] :=
  ⟨parts_glue h.ne h.no, glue_ne h.ne (fun q hq => (h.all q hq).1)⟩
theorem glue_snoc {ps : List Bs} (h : ps ≠ []) (q : Bs) : glue (ps ++ [q]) = glue ps ++ 47 :: q := by
  have := glue_app ps [q] h (by simp)
  exact this
theorem path_loop (l : List Int) (hw : ∀ x ∈ l, (Lit.int .i64 x).wf = true) (hl : l.length ≤ 9223372036854775807) (d : Nat) :
    ∀ (i : Nat) (out : ByteArray) (ps : List Bs), i + d = 8 → tl out = glue ps → ps.length = i → (∀ q ∈ ps, Name q) → out.size ≤ 4 * i →
    ∃ P, Ev (fun k => collatorlaw01_Path.l0 k l names out (i : Int)) P ∧ Good (parts (tl P)) 8 ∧ P.size ≤ 40 := by
  have stop : ∀ (i : Nat) (out : ByteArray) (ps : List Bs), i ≤ 8 → tl out = glue ps → ps.length = i → (∀ q ∈ ps, Name q) → out.size ≤ 4 * i → ∃ P, Ev (fun k => collatorlaw01_Path.j1 k l names out (i : Int) false) P ∧ Good (parts (tl P)) 8 ∧ P.size ≤ 40 := by
    intro i out ps hi ht hp hn hs
    by_cases c : ps = []
    · refine ⟨⟨#[97]⟩, Ev.step (f := fun _ => some (⟨#[97]⟩ : ByteArray)) (fun k => ?_) (Ev.now _), ?_, by decide⟩
      · simp only [collatorlaw01_Path.j1]
        rw [if_neg (by decide), toList_tl, ht, c, if_pos (show glue [] = ([] : Bs) from rfl)]
      · exact ⟨by decide, by decide, fun q hq => by
          have : q ∈ [([97] : Bs)] := hq
          rw [List.mem_singleton.1 this]; exact name_a⟩
    · have hg : Good ps 8 := ⟨c, by omega, hn⟩
      refine ⟨out, Ev.step (f := fun _ => some out) (fun k => ?_) (Ev.now _), by rw [ht, hg.glue.1]; exact hg, by omega⟩
      simp only [collatorlaw01_Path.j1]
      rw [if_neg (by decide), toList_tl, ht, if_neg hg.glue.2]
  induction d with
  | zero =>
    intro i out ps hi ht hp hn hs
    obtain ⟨P, hP, hR⟩ := stop i out ps (by omega) ht hp hn hs
    refine ⟨P, Ev.step (fun k => ?_) hP, hR⟩
    simp only [collatorlaw01_Path.l0]
    rw [decide_eq_false (by omega : ¬ (i : Int) < 8)]
    split <;> rfl
  | succ d ih =>
    intro i out ps hi ht hp hn hs
    by_cases c : (i : Int) < (l.length : Int)
    · have h8 := pk_lt (rd l i) (n := 8) (by omega)
      have hx : names[pk (rd l i) 8]? = some (names[pk (rd l i) 8]'h8) := List.getElem?_eq_getElem _
      have p8 := pick1 (c := rd l i) (rd_mem hw (by omega) c) (m := 8) (n := 8) rfl (by omega)
      generalize hnm : names[pk (rd l i) 8]'h8 = nm at hx
      have hname := names_ok nm (by rw [← hnm]; exact List.getElem_mem _)
      have hsz : nm.size ≤ 3 := by have := hname.2.2.2; rw [tl_size] at this; exact this
      generalize pk (rd l i) 8 = j at *
      have hj := rjoin_ok (d := out) (n := nm) (by omega) (by omega)
      have hjs := joinB_size (tl out) (tl nm)
      rw [tl_size, tl_size] at hjs
      obtain ⟨P, hP, hR⟩ := ih (i + 1) (ofB (joinB (tl out) (tl nm))) (ps ++ [tl nm]) (by omega) (by
        rw [tl_ofB, ht]
        by_cases c0 : ps = []
        · rw [c0]; rfl
        · rw [glue_snoc c0]
          unfold joinB
          rw [if_neg (glue_ne c0 (fun q hq => (hn q hq).1))]) (by rw [List.length_append, hp]; rfl) (fun q hq => by
        rcases List.mem_append.1 hq with hq | hq
        · exact hn q hq
        · rw [List.mem_singleton.1 hq]; exact hname) (by rw [ofB_size]; omega)
      refine ⟨P, Ev.step (f := fun k => collatorlaw01_Path.j1 k l names out (i : Int) true) (fun k => ?_) (Ev.step (fun k => ?_) hP), hR⟩
      · simp only [collatorlaw01_Path.l0]
        rw [if_pos c, decide_eq_true (by omega : (i : Int) < 8)]
      · simp only [collatorlaw01_Path.j1]
        rw [if_true, if_pos (by omega), if_pos c, p8, Option.bind_some, if_pos (by omega), if_pos (by show (j : Int) < ((8 : Nat) : Int); omega), rdB hx, hj, Option.bind_some, wi (by omega)]
    · obtain ⟨P, hP, hR⟩ := stop i out ps (by omega) ht hp hn hs
      refine ⟨P, Ev.step (fun k => ?_) hP, hR⟩
      simp only [collatorlaw01_Path.l0]
      rw [if_neg c]
theorem path_ev (l : List Int) (hw : ∀ x ∈ l, (Lit.int .i64 x).wf = true) (hl : l.length ≤ 9223372036854775807) : ∃ P, Ev (fun k => collatorlaw01_Path.f k l) P ∧ Good (parts (tl P)) 8 ∧ P.size ≤ 40 :=
  path_loop l hw hl 8 0 (⟨#[]⟩ : ByteArray) [] rfl rfl rfl (by simp) (by decide)
end Go.Proofs.YtjfeddpelakdjaaDoor.Q
