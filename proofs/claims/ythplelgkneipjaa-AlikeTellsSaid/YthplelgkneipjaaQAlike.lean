/- What alike.Score, alike.Best answer, in plain words; over the printed functions. -/
import Derived.Test.YthplelgkneipjaaQLines
import Derived.Test.YthplelgkneipjaaECommon
import Derived.Test.YthplelgkneipjaaPxf21
import Derived.Test.YthplelgkneipjaaPxf23
import Derived.Test.YthplelgkneipjaaPxf17
import Derived.Test.YthplelgkneipjaaPxf25
import Derived.Test.YthplelgkneipjaaPxf26
set_option linter.unusedVariables false
set_option linter.unusedSimpArgs false
namespace Go.Proofs.Ythplelgkneipjaa.Q
open Go Go.RowKit Go.Proofs.Ythplelgkneipjaa.P Go.Proofs.YthplelgkneipjaaW.PrintWords Go.Proofs.YthplelgkneipjaaW.PrintLast

/-- Lists of lines that the calls take. -/
def Okl (a : List ByteArray) : Prop := a.length ≤ 1000000 ∧ ∀ s ∈ a, s.size ≤ 9223372036854775807
theorem Fine.okl {L : List ByteArray} {m : Nat} (h : Fine L m) (hm : m ≤ 1000000) : Okl L := ⟨Nat.le_trans h.le hm, fun s hs => by have := h.size hs; omega⟩
theorem Okl.perm {a b : List ByteArray} (h : Okl a) (hp : a.Perm b) : Okl b := ⟨by rw [← hp.length_eq]; exact h.1, fun s hs => h.2 s (hp.mem_iff.2 hs)⟩
theorem okl_nil : Okl [] := ⟨by simp, by simp⟩

theorem common_ok {a b : List ByteArray} (ha : Okl a) (hb : Okl b) : alike_Common.f a b = some ((comm a b : Nat) : Int) := by
  unfold alike_Common.f
  have h1 := ha.1
  have h2 := hb.1
  exact if_pos ⟨⟨ha.2, hb.2⟩, by omega, by omega⟩
theorem score_ok {a b : List ByteArray} (ha : Okl a) (hb : Okl b) : alike_Score.f a b = some (score a b) := by
  have h1 := ha.1
  have h2 := hb.1
  have h3 := comm_le b a
  unfold alike_Score.f score
  rw [w64 (x := (a.length : Int) + (b.length : Int)) (by omega) (by omega)]
  by_cases h : a.length + b.length = 0
  · rw [if_pos (by omega), if_pos h]
  · rw [if_neg (by omega), if_neg h, common_ok ha hb, Option.bind_some, w64 (x := 200 * (comm a b : Int)) (by omega) (by omega), Int.tdiv_eq_ediv_of_nonneg (by omega)]
    have h4 := score_range a b
    unfold score at h4
    rw [if_neg h] at h4
    have h5 : (a.length : Int) + (b.length : Int) = ((a.length + b.length : Nat) : Int) := by omega
    rw [h5, w64 (by omega) (by omega)]

/-- The first one of the greatest scores. -/
def bestGo (a : List ByteArray) : List (List ByteArray) → Nat → Int × Int → Int × Int
  | [], _, r => r
  | b :: bs, i, (at_, s) => bestGo a bs (i + 1) (if at_ = -1 ∨ score a b > s then ((i : Int), score a b) else (at_, s))
theorem best_loop (a : List ByteArray) (ha : Okl a) (l : List (List ByteArray)) (hl : l.length ≤ 1000000) (ho : ∀ b ∈ l, Okl b) (d : Nat) : ∀ (i : Nat) (at_ s : Int), i + d = l.length →
    Ev (fun k => alike_Best.l0 k a at_ s l (l.length : Int) (i : Int)) (bestGo a (l.drop i) i (at_, s)) := by
  induction d with
  | zero =>
    intro i at_ s hi
    refine Ev.step (f := fun _ => some (at_, s)) (fun k => ?_) ?_
    · simp only [alike_Best.l0]; rw [if_neg (by omega)]
    · rw [List.drop_eq_nil_of_le (by omega)]; exact Ev.now _
  | succ d ih =>
    intro i at_ s hi
    have hlt : i < l.length := by omega
    rw [List.drop_eq_getElem_cons hlt]
    have hr : rd_L1 l (i : Int) = l[i] := by
      simp [rd_L1, List.getD_eq_getElem?_getD, List.getElem?_eq_getElem hlt]
    have hs := score_ok ha (ho _ (List.getElem_mem hlt))
    simp only [bestGo]
    by_cases hc : at_ = -1 ∨ score a l[i] > s
    · rw [if_pos hc]
      refine Ev.step (fun k => ?_) (ih (i + 1) (i : Int) (score a l[i]) (by omega))
      simp only [alike_Best.l0]
      rw [if_pos (by omega), if_pos (by omega), if_pos (by omega), hr, hs, Option.bind_some, w64 (by omega) (by omega)]
      by_cases h1 : at_ = -1
      · rw [if_pos h1]; rfl
      · rw [if_neg h1, if_pos (hc.resolve_left h1)]; rfl
    · rw [if_neg hc]
      refine Ev.step (fun k => ?_) (ih (i + 1) at_ s (by omega))
      simp only [alike_Best.l0]
      rw [if_pos (by omega), if_pos (by omega), if_pos (by omega), hr, hs, Option.bind_some, w64 (by omega) (by omega), if_neg (fun h => hc (.inl h)), if_neg (fun h => hc (.inr h))]
      rfl
theorem best_ev (a : List ByteArray) (ha : Okl a) (l : List (List ByteArray)) (hl : l.length ≤ 1000000) (ho : ∀ b ∈ l, Okl b) : Ev (fun k => alike_Best.f k a l) (bestGo a l 0 (-1, 0)) :=
  best_loop a ha l hl ho _ 0 (-1) 0 (Nat.zero_add _)
theorem awake_ev : Ev (fun k => collatorlaw07_awake.f k) true := Ev.of (k := 6) (fun k => collatorlaw07_awake.mono k) (by decide +kernel)
theorem pick7 {c : Int} (hc : -9223372036854775808 ≤ c ∧ c ≤ 9223372036854775807) {m : Int} {n : Nat} (hm : m = n) (hn : 0 < n) : collatorlaw07_pick.f c m = some (pk c n : Int) := pick_body hc hm hn

theorem toList_iff {x y : ByteArray} : x.toList = y.toList ↔ x = y := by
  constructor
  · intro h
    rw [ByteArray.toList_eq, ByteArray.toList_eq] at h
    cases x; cases y
    congr 1
    exact Array.toList_inj.1 h
  · intro h; rw [h]
theorem times_loop (l : List ByteArray) (s : ByteArray) (hl : l.length ≤ 1000000) (d : Nat) : ∀ (i : Nat) (n : Nat), n ≤ i → i + d = l.length →
    Ev (fun k => collatorlaw07_times.l0 k l s (n : Int) (i : Int)) ((n + (l.drop i).count s : Nat) : Int) := by
  induction d with
  | zero =>
    intro i n hn hi
    refine Ev.step (f := fun _ => some (n : Int)) (fun k => ?_) ?_
    · simp only [collatorlaw07_times.l0]; rw [if_neg (by omega)]
    · rw [List.drop_eq_nil_of_le (by omega)]; exact Ev.now _
  | succ d ih =>
    intro i n hn hi
    have hlt : i < l.length := by omega
    have hr : rdOf ByteArray.empty l (i : Int) = l[i] := by
      simp [rdOf, List.getD_eq_getElem?_getD, List.getElem?_eq_getElem hlt]
    rw [List.drop_eq_getElem_cons hlt]
    by_cases hc : l[i] = s
    · have h2 := ih (i + 1) (n + 1) (by omega) (by omega)
      have h3 : n + (l[i] :: l.drop (i + 1)).count s = n + 1 + (l.drop (i + 1)).count s := by rw [hc, List.count_cons_self]; omega
      rw [h3]
      refine Ev.step (fun k => ?_) h2
      simp only [collatorlaw07_times.l0]
      rw [if_pos (by omega), if_pos (by omega), hr, if_pos (toList_iff.2 hc), w64 (by omega) (by omega), w64 (by omega) (by omega)]
      rfl
    · have h2 := ih (i + 1) n (by omega) (by omega)
      have h3 : (l[i] :: l.drop (i + 1)).count s = (l.drop (i + 1)).count s := by rw [List.count_cons]; simp [hc]
      rw [h3]
      refine Ev.step (fun k => ?_) h2
      simp only [collatorlaw07_times.l0]
      rw [if_pos (by omega), if_pos (by omega), hr, if_neg (fun h => hc (toList_iff.1 h)), w64 (by omega) (by omega)]
      rfl
theorem times_ev (l : List ByteArray) (s : ByteArray) (hl : l.length ≤ 1000000) : Ev (fun k => collatorlaw07_times.f k l s) ((l.count s : Nat) : Int) := by
  have := times_loop l s hl l.length 0 0 (Nat.le_refl _) (by omega)
  rw [List.drop_zero, Nat.zero_add] at this
  exact this
end Go.Proofs.Ythplelgkneipjaa.Q
