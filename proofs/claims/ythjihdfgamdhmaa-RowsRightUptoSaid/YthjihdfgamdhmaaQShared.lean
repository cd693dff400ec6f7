/- What rows.Shared counts: plain lemmas over the printed function. -/
import Derived.Test.YthjihdfgamdhmaaPxf13
import Derived.Test.YthjihdfgamdhmaaEAwake3
import Derived.Test.YthjihdfgamdhmaaQLines
set_option linter.unusedVariables false
set_option linter.unusedSimpArgs false
namespace Go.Proofs.Ythjihdfgamdhmaa.Q
open Go Go.RowKit Go.Proofs.Ythjihdfgamdhmaa.P Go.Proofs.YthjihdfgamdhmaaW.PrintWords Go.Proofs.YthjihdfgamdhmaaW.PrintLast Go.Proofs.YthjihdfgamdhmaaW.PrintMore
theorem awake3_ok : collatorlaw03_awake.f = some true := rfl
theorem bytes_iff {x y : ByteArray} : x.toList = y.toList ↔ x = y := by
  constructor
  · intro h
    rw [ByteArray.toList_eq, ByteArray.toList_eq] at h
    exact ByteArray.ext (Array.toList_inj.1 h)
  · intro h; rw [h]
theorem rdOf_at (l : List ByteArray) (i : Nat) (h : i < l.length) : rdOf ByteArray.empty l (i : Int) = l[i] := by
  simp [rdOf, List.getD_eq_getElem?_getD, List.getElem?_eq_getElem h]
theorem mn_nat (a b : Nat) : mn (a : Int) (b : Int) = ((min a b : Nat) : Int) := by unfold mn; split <;> omega
/-- n lines are the same ahead. -/
structure Ahead (a b : List ByteArray) (n : Nat) : Prop where
  le : n ≤ min a.length b.length
  same : ∀ i, i < n → a[i]? = b[i]?
  stop : n < min a.length b.length → a[n]? ≠ b[n]?
/-- m lines are the same behind, of those that n leave. -/
structure Behind (a b : List ByteArray) (n m : Nat) : Prop where
  le : n + m ≤ min a.length b.length
  same : ∀ i, i < m → a[a.length - 1 - i]? = b[b.length - 1 - i]?
  stop : n + m < min a.length b.length → a[a.length - 1 - m]? ≠ b[b.length - 1 - m]?
theorem Ahead.unique {a b : List ByteArray} {n p : Nat} (h : Ahead a b n) (k : Ahead a b p) : n = p := by
  rcases Nat.lt_trichotomy n p with hlt | rfl | hlt
  · exact absurd (k.same n hlt) (h.stop (Nat.lt_of_lt_of_le hlt k.le))
  · rfl
  · exact absurd (h.same p hlt) (k.stop (Nat.lt_of_lt_of_le hlt h.le))
theorem Behind.unique {a b : List ByteArray} {n m q : Nat} (h : Behind a b n m) (k : Behind a b n q) : m = q := by
  have h1 := h.le
  have k1 := k.le
  rcases Nat.lt_trichotomy m q with hlt | rfl | hlt
  · exact absurd (k.same m hlt) (h.stop (by omega))
  · rfl
  · exact absurd (h.same q hlt) (k.stop (by omega))
theorem Ahead.symm {a b : List ByteArray} {n : Nat} (h : Ahead a b n) : Ahead b a n := ⟨by rw [Nat.min_comm]; exact h.le, fun i hi => (h.same i hi).symm, fun hl e => h.stop (by rw [Nat.min_comm]; exact hl) e.symm⟩
theorem Behind.symm {a b : List ByteArray} {n m : Nat} (h : Behind a b n m) : Behind b a n m := ⟨by rw [Nat.min_comm]; exact h.le, fun i hi => (h.same i hi).symm, fun hl e => h.stop (by rw [Nat.min_comm]; exact hl) e.symm⟩
theorem shared_l1 (a b : List ByteArray) (ha : a.length ≤ 1000000) (hb : b.length ≤ 1000000) (n : Nat) (hn : n ≤ min a.length b.length) (d : Nat) : ∀ (m : Nat), n + m + d = min a.length b.length → (∀ i, i < m → a[a.length - 1 - i]? = b[b.length - 1 - i]?) →
    ∃ q, Behind a b n q ∧ Ev (fun k => rows_Shared.l1 k a b (n : Int) (m : Int) ((min a.length b.length : Nat) : Int)) ((n : Int), (q : Int)) := by
  induction d with
  | zero =>
    intro m hm hs
    refine ⟨m, ⟨by omega, hs, by omega⟩, Ev.step (f := fun _ => some ((n : Int), (m : Int))) (fun k => ?_) (Ev.now _)⟩
    simp only [rows_Shared.l1]
    rw [w64 (by omega) (by omega), if_neg (by omega)]
  | succ d ih =>
    intro m hm hs
    have la : a.length - 1 - m < a.length := by omega
    have lb : b.length - 1 - m < b.length := by omega
    have ea : wrap64 (wrap64 ((a.length : Int) - 1) - (m : Int)) = ((a.length - 1 - m : Nat) : Int) := by rw [w64 (x := (a.length : Int) - 1) (by omega) (by omega), w64 (by omega) (by omega)]; omega
    have eb : wrap64 (wrap64 ((b.length : Int) - 1) - (m : Int)) = ((b.length - 1 - m : Nat) : Int) := by rw [w64 (x := (b.length : Int) - 1) (by omega) (by omega), w64 (by omega) (by omega)]; omega
    have en : wrap64 (((min a.length b.length : Nat) : Int) - (n : Int)) = ((min a.length b.length : Nat) : Int) - (n : Int) := w64 (by omega) (by omega)
    by_cases hc : a[a.length - 1 - m] = b[b.length - 1 - m]
    · obtain ⟨q, hq, hE⟩ := ih (m + 1) (by omega) (fun i hi => by
        by_cases h : i < m
        · exact hs i h
        · have : i = m := by omega
          subst this
          rw [List.getElem?_eq_getElem la, List.getElem?_eq_getElem lb, hc])
      refine ⟨q, hq, Ev.step (fun k => ?_) hE⟩
      simp only [rows_Shared.l1]
      rw [ea, eb, en, if_pos (by omega), if_pos (by omega), if_pos (by omega), if_pos (by omega), if_pos (by omega), rdOf_at _ _ la, rdOf_at _ _ lb, if_pos (by rw [hc]), w64 (by omega) (by omega)]
      rfl
    · refine ⟨m, ⟨by omega, hs, fun _ e => hc ?_⟩, Ev.step (f := fun _ => some ((n : Int), (m : Int))) (fun k => ?_) (Ev.now _)⟩
      · rw [List.getElem?_eq_getElem la, List.getElem?_eq_getElem lb] at e
        exact Option.some.inj e
      · simp only [rows_Shared.l1]
        rw [ea, eb, en, if_pos (by omega), if_pos (by omega), if_pos (by omega), if_pos (by omega), if_pos (by omega), rdOf_at _ _ la, rdOf_at _ _ lb, if_neg (fun h => hc (bytes_iff.1 h))]
theorem shared_j1 (a b : List ByteArray) (ha : a.length ≤ 1000000) (hb : b.length ≤ 1000000) (n : Nat) (h : Ahead a b n) : ∃ q, Behind a b n q ∧ Ev (fun k => rows_Shared.j1 k a b (n : Int) 0 ((min a.length b.length : Nat) : Int)) ((n : Int), (q : Int)) := by
  obtain ⟨q, hq, hE⟩ := shared_l1 a b ha hb n h.le (min a.length b.length - n) 0 (by have := h.le; omega) (fun i hi => absurd hi (Nat.not_lt_zero _))
  exact ⟨q, hq, Ev.step (fun k => by simp only [rows_Shared.j1]; rfl) hE⟩
theorem shared_l0 (a b : List ByteArray) (ha : a.length ≤ 1000000) (hb : b.length ≤ 1000000) (d : Nat) : ∀ (n : Nat), n + d = min a.length b.length → (∀ i, i < n → a[i]? = b[i]?) →
    ∃ p q, Ahead a b p ∧ Behind a b p q ∧ Ev (fun k => rows_Shared.l0 k a b (n : Int) 0 ((min a.length b.length : Nat) : Int)) ((p : Int), (q : Int)) := by
  induction d with
  | zero =>
    intro n hn hs
    have hA : Ahead a b n := ⟨by omega, hs, by omega⟩
    obtain ⟨q, hq, hE⟩ := shared_j1 a b ha hb n hA
    refine ⟨n, q, hA, hq, Ev.step (fun k => ?_) hE⟩
    simp only [rows_Shared.l0]
    rw [if_neg (by omega)]
  | succ d ih =>
    intro n hn hs
    have la : n < a.length := by omega
    have lb : n < b.length := by omega
    by_cases hc : a[n] = b[n]
    · obtain ⟨p, q, hA, hq, hE⟩ := ih (n + 1) (by omega) (fun i hi => by
        by_cases h : i < n
        · exact hs i h
        · have : i = n := by omega
          subst this
          rw [List.getElem?_eq_getElem la, List.getElem?_eq_getElem lb, hc])
      refine ⟨p, q, hA, hq, Ev.step (fun k => ?_) hE⟩
      simp only [rows_Shared.l0]
      rw [if_pos (by omega), if_pos (by omega), if_pos (by omega), if_pos (by omega), rdOf_at _ _ la, rdOf_at _ _ lb, if_pos (by rw [hc]), w64 (by omega) (by omega)]
      rfl
    · have hA : Ahead a b n := ⟨by omega, hs, fun _ e => hc (by
        rw [List.getElem?_eq_getElem la, List.getElem?_eq_getElem lb] at e
        exact Option.some.inj e)⟩
      obtain ⟨q, hq, hE⟩ := shared_j1 a b ha hb n hA
      refine ⟨n, q, hA, hq, Ev.step (fun k => ?_) hE⟩
      simp only [rows_Shared.l0]
      rw [if_pos (by omega), if_pos (by omega), if_pos (by omega), if_pos (by omega), rdOf_at _ _ la, rdOf_at _ _ lb, if_neg (fun h => hc (bytes_iff.1 h))]
theorem shared_ev (a b : List ByteArray) (ha : a.length ≤ 1000000) (hb : b.length ≤ 1000000) : ∃ n m : Nat, Ahead a b n ∧ Behind a b n m ∧ Ev (fun k => rows_Shared.f k a b) ((n : Int), (m : Int)) := by
  obtain ⟨p, q, hA, hq, hE⟩ := shared_l0 a b ha hb (min a.length b.length) 0 (by omega) (fun i hi => absurd hi (Nat.not_lt_zero _))
  refine ⟨p, q, hA, hq, Ev.congr (fun k => ?_) hE⟩
  unfold rows_Shared.f
  rw [mn_nat]
  rfl
theorem Ahead.self (a : List ByteArray) : Ahead a a a.length := ⟨by omega, fun _ _ => rfl, by omega⟩
theorem Behind.self (a : List ByteArray) : Behind a a a.length 0 := ⟨by omega, fun _ h => absurd h (Nat.not_lt_zero _), by omega⟩
theorem shared_self (a : List ByteArray) (ha : a.length ≤ 1000000) : Ev (fun k => rows_Shared.f k a a) ((a.length : Int), (0 : Int)) := by
  obtain ⟨n, m, hA, hB, hE⟩ := shared_ev a a ha ha
  obtain rfl := hA.unique (Ahead.self a)
  obtain rfl := hB.unique (Behind.self a)
  exact hE
end Go.Proofs.Ythjihdfgamdhmaa.Q
