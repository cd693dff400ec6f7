/- What the given function Lines makes of raw numbers, and how a raw number picks: plain lemmas over the printed functions. -/
import Derived.Test.YthplelgkneipjaaPxf43
import Derived.Test.YthplelgkneipjaaPxf18
import Derived.Test.YthplelgkneipjaaQComm
import Derived.OpenShut
set_option linter.unusedVariables false
set_option linter.unusedSimpArgs false
namespace Go.Proofs.Ythplelgkneipjaa.Q
open Go Go.RowKit Go.Proofs.Ythplelgkneipjaa.P Go.Proofs.YthplelgkneipjaaW.PrintWords Go.Proofs.YthplelgkneipjaaW.PrintLast

theorem evpos {α : Type} {c : Prop} [Decidable c] {f g : Nat → Option α} {r : α} (hc : c) (h : Ev f r) : Ev (fun k => if c then f k else g k) r := by simp only [if_pos hc]; exact h
theorem evneg {α : Type} {c : Prop} [Decidable c] {f g : Nat → Option α} {r : α} (hc : ¬ c) (h : Ev g r) : Ev (fun k => if c then f k else g k) r := by simp only [if_neg hc]; exact h
theorem evval {α β : Type} {x : Option β} {a : β} {f : Nat → β → Option α} {r : α} (hx : x = some a) (h : Ev (fun k => f k a) r) : Ev (fun k => x.bind (f k)) r := by subst hx; exact h
theorem w64 {x : Int} (h0 : -9223372036854775808 ≤ x) (h1 : x ≤ 9223372036854775807) : wrap64 x = x := by unfold wrap64; omega
/-- Which of n things a raw number speaks of. -/
def pk (c : Int) (n : Nat) : Nat := (if c < 0 then -(c + 1) else c).toNat % n
theorem pk_lt (c : Int) {n : Nat} (h : 0 < n) : pk c n < n := Nat.mod_lt _ h
theorem wf_range {c : Int} (h : (Lit.int .i64 c).wf = true) : -9223372036854775808 ≤ c ∧ c ≤ 9223372036854775807 := by
  have h2 := (bounds_i64 h)
  omega
theorem pick_body {c : Int} (hc : -9223372036854775808 ≤ c ∧ c ≤ 9223372036854775807) {m : Int} {n : Nat} (hm : m = n) (hn : 0 < n) :
    (if c < 0 then (if m = 0 then (none : Option Int) else (some (Int.tmod (wrap64 (-(wrap64 (c + 1)))) m))) else (if m = 0 then (none) else (some (Int.tmod c m)))) = some (pk c n : Int) := by
  subst hm
  have h0 : ¬ ((n : Int) = 0) := by omega
  unfold pk
  by_cases h : c < 0
  · rw [if_pos h, if_neg h0, if_pos h, w64 (x := c + 1) (by omega) (by omega), w64 (by omega) (by omega), Int.tmod_eq_emod_of_nonneg (by omega)]
    congr 1
    rw [Int.natCast_emod, Int.toNat_of_nonneg (by omega)]
  · rw [if_neg h, if_neg h0, if_neg h, Int.tmod_eq_emod_of_nonneg (by omega)]
    congr 1
    rw [Int.natCast_emod, Int.toNat_of_nonneg (by omega)]
theorem pick3 {c : Int} (hc : -9223372036854775808 ≤ c ∧ c ≤ 9223372036854775807) {m : Int} {n : Nat} (hm : m = n) (hn : 0 < n) : collatorlaw03_pick.f c m = some (pk c n : Int) := pick_body hc hm hn

def few : List ByteArray := [(⟨#[97, 10]⟩ : ByteArray), (⟨#[98, 10]⟩ : ByteArray), (⟨#[99, 10]⟩ : ByteArray), (⟨#[10]⟩ : ByteArray), (⟨#[108, 111, 110, 103, 10]⟩ : ByteArray)]
def last_ : ByteArray := ⟨#[101, 110, 100]⟩
/-- Lines of few; the last one may be another one. -/
structure Fine (L : List ByteArray) (most : Nat) : Prop where
  le : L.length ≤ most
  most_ : ∀ j (h : j < L.length), L[j] ∈ few ∨ (L[j] = last_ ∧ j + 1 = L.length)
theorem Fine.mem {L : List ByteArray} {m : Nat} (h : Fine L m) {x : ByteArray} (hx : x ∈ L) : x ∈ few ∨ x = last_ := by
  obtain ⟨j, hj, rfl⟩ := List.mem_iff_getElem.1 hx
  rcases h.most_ j hj with h | h
  · exact .inl h
  · exact .inr h.1
theorem few_size : ∀ x ∈ few, x.size ≤ 5 := by decide
theorem Fine.size {L : List ByteArray} {m : Nat} (h : Fine L m) {x : ByteArray} (hx : x ∈ L) : x.size ≤ 5 := by
  rcases h.mem hx with h | h
  · exact few_size x h
  · subst h; decide
theorem Fine.not_mem {L : List ByteArray} {m : Nat} (h : Fine L m) {x : ByteArray} (hx : 5 < x.size) : x ∉ L := fun hm => by have := h.size hm; omega

theorem rd_mem {l : List Int} (hw : ∀ x ∈ l, (Lit.int .i64 x).wf = true) {i : Int} (h0 : 0 ≤ i) (h1 : i < l.length) : -9223372036854775808 ≤ rd l i ∧ rd l i ≤ 9223372036854775807 := by
  refine wf_range (hw _ ?_)
  unfold rd
  rw [List.getD_eq_getElem?_getD, List.getElem?_eq_getElem (by omega)]
  exact List.getElem_mem _
theorem rdOf_few (c : Int) : rdOf ByteArray.empty few (pk c 5 : Int) ∈ few := by
  have h := pk_lt c (n := 5) (by omega)
  unfold rdOf
  rw [Int.toNat_natCast, List.getD_eq_getElem?_getD, List.getElem?_eq_getElem (by exact h)]
  exact List.getElem_mem _

theorem lines_end (l : List Int) (hw : ∀ x ∈ l, (Lit.int .i64 x).wf = true) (hl : l.length ≤ 9223372036854775807) (acc : List ByteArray) (most : Nat) (hm : acc.length ≤ most) (hml : acc.length ≤ l.length)
    (hf : ∀ x ∈ acc, x ∈ few) : ∃ L, (if (acc.length : Int) > 0 then (if 0 ≤ (wrap64 ((acc.length : Int) - 1)) then (if (wrap64 ((acc.length : Int) - 1)) < (l.length : Int) then ((collatorlaw03_pick.f (rd l (wrap64 ((acc.length : Int) - 1))) 7).bind fun t121 => (if t121 = 6 then (if (wrap64 ((acc.length : Int) - 1)) < (acc.length : Int) then (some (acc.set ((wrap64 ((acc.length : Int) - 1)) : Int).toNat (⟨#[101, 110, 100]⟩ : ByteArray))) else (none)) else (some acc))) else (none)) else (none)) else (some acc)) = some L ∧ Fine L most ∧ L.length = acc.length := by
  by_cases h0 : (acc.length : Int) > 0
  · rw [if_pos h0, w64 (by omega) (by omega), if_pos (by omega), if_pos (by omega), pick3 (m := 7) (n := 7) (rd_mem hw (by omega) (by omega)) rfl (by omega), Option.bind_some]
    by_cases h6 : (pk (rd l ((acc.length : Int) - 1)) 7 : Int) = 6
    · rw [if_pos h6, if_pos (by omega)]
      refine ⟨_, rfl, ⟨by rw [List.length_set]; exact hm, fun j hj => ?_⟩, by rw [List.length_set]⟩
      rw [List.length_set] at hj
      rw [List.getElem_set]
      by_cases he : ((acc.length : Int) - 1).toNat = j
      · rw [if_pos he]; exact .inr ⟨rfl, by rw [List.length_set]; omega⟩
      · rw [if_neg he]; exact .inl (hf _ (List.getElem_mem _))
    · rw [if_neg h6]
      exact ⟨_, rfl, ⟨hm, fun j hj => .inl (hf _ (List.getElem_mem _))⟩, rfl⟩
  · rw [if_neg h0]
    exact ⟨_, rfl, ⟨hm, fun j hj => .inl (hf _ (List.getElem_mem _))⟩, rfl⟩

theorem lines_loop (l : List Int) (hw : ∀ x ∈ l, (Lit.int .i64 x).wf = true) (hl : l.length ≤ 9223372036854775807) (most : Nat) (hmm : most ≤ 1000000) (d : Nat) :
    ∀ (acc : List ByteArray) (i : Nat), acc.length = i → i ≤ l.length → i ≤ most → min l.length most - i = d → (∀ x ∈ acc, x ∈ few) →
    ∃ L, Ev (fun k => collatorlaw03_Lines.l0 k l (most : Int) few acc (i : Int)) L ∧ Fine L most ∧ L.length = min l.length most := by
  induction d with
  | zero =>
    intro acc i ha hi hm hd hf
    obtain ⟨L, hL, hfine, hlen⟩ := lines_end l hw hl acc most (by omega) (by omega) hf
    refine ⟨L, Ev.step (f := fun _ => some L) (fun k => ?_) (Ev.now L), hfine, by omega⟩
    simp only [collatorlaw03_Lines.l0]
    rw [hL]
    by_cases h1 : (i : Int) < (l.length : Int)
    · rw [if_pos h1, if_neg (by omega)]
    · rw [if_neg h1]
  | succ d ih =>
    intro acc i ha hi hm hd hf
    obtain ⟨L, hL, hr⟩ := ih (acc ++ [rdOf ByteArray.empty few (pk (rd l i) 5 : Int)]) (i + 1) (by simp [ha]) (by omega) (by omega) (by omega) (by
      intro x hx
      rcases List.mem_append.1 hx with hx | hx
      · exact hf x hx
      · rw [List.mem_singleton.1 hx]; exact rdOf_few _)
    refine ⟨L, Ev.step (fun k => ?_) hL, hr⟩
    simp only [collatorlaw03_Lines.l0]
    have h5 := pk_lt (rd l i) (n := 5) (by omega)
    rw [if_pos (by omega), if_pos (by omega), if_pos (by omega), pick3 (m := 5) (n := 5) (rd_mem hw (by omega) (by omega)) rfl (by omega), Option.bind_some, if_pos (by omega), if_pos (by show _ < ((5 : Nat) : Int); omega), if_pos (by omega), w64 (by omega) (by omega)]
    rfl

/-- What Lines makes: lines of few, as many as there are raw numbers, 'most' at the most. -/
theorem lines_ev (l : List Int) (hw : ∀ x ∈ l, (Lit.int .i64 x).wf = true) (hl : l.length ≤ 9223372036854775807) (most : Nat) (hmm : most ≤ 1000000) :
    ∃ L, Ev (fun k => collatorlaw03_Lines.f k l (most : Int)) L ∧ Fine L most ∧ L.length = min l.length most :=
  lines_loop l hw hl most hmm _ [] 0 rfl (Nat.zero_le _) (Nat.zero_le _) rfl (by simp)
end Go.Proofs.Ythplelgkneipjaa.Q
