/- What the small functions of layer 5's laws answer: plain. -/
import Derived.Test.YthplelgkneipjaaQMCost
import Derived.Test.YthplelgkneipjaaQMyers
import Derived.Test.YthplelgkneipjaaEDiff
import Derived.Test.YthplelgkneipjaaEAwake5
import Derived.Test.YthplelgkneipjaaPxf35
import Derived.Test.YthplelgkneipjaaPxf36
set_option linter.unusedVariables false
set_option linter.unusedSimpArgs false
namespace Go.Proofs.Ythplelgkneipjaa.Q
open Go Go.RowKit Go.Proofs.Ythplelgkneipjaa.P Go.Proofs.YthplelgkneipjaaW.PrintWords Go.Proofs.YthplelgkneipjaaW.PrintLast
theorem awake5_ok : collatorlaw05_awake.f = some true := rfl
theorem rdOf_get (l : List ByteArray) (i : Nat) (h : i < l.length) : rdOf ByteArray.empty l (i : Int) = l[i] := by
  simp [rdOf, List.getD_eq_getElem?_getD, List.getElem?_eq_getElem h]
theorem texts_loop (a b : List ByteArray) (hl : a.length = b.length) (ha : a.length ≤ 1000000) (d : Nat) : ∀ i, i + d = a.length → Ev (fun k => collatorref01_Texts.l0 k a b (i : Int)) (decide (a.drop i = b.drop i)) := by
  induction d with
  | zero =>
    intro i hi
    refine Ev.step (f := fun _ => some true) (fun k => ?_) ?_
    · simp only [collatorref01_Texts.l0]; rw [if_neg (by omega)]
    · rw [List.drop_eq_nil_of_le (by omega), List.drop_eq_nil_of_le (by omega)]; exact Ev.now _
  | succ d ih =>
    intro i hi
    have h1 : i < a.length := by omega
    have h2 : i < b.length := by omega
    rw [List.drop_eq_getElem_cons h1, List.drop_eq_getElem_cons h2]
    by_cases hc : a[i] = b[i]
    · have h3 := ih (i + 1) (by omega)
      have e : (decide (a[i] :: a.drop (i + 1) = b[i] :: b.drop (i + 1))) = decide (a.drop (i + 1) = b.drop (i + 1)) := decide_eq_decide.2 ⟨fun h => (List.cons.inj h).2, fun h => by rw [hc, h]⟩
      rw [e]
      refine Ev.step (fun k => ?_) h3
      simp only [collatorref01_Texts.l0]
      rw [if_pos (by omega), if_pos (by omega), if_pos (by omega), rdOf_get _ _ h1, rdOf_get _ _ h2, if_pos (by rw [hc]), w64 (by omega) (by omega)]
      rfl
    · have e : (decide (a[i] :: a.drop (i + 1) = b[i] :: b.drop (i + 1))) = false := decide_eq_false (fun h => hc (List.cons.inj h).1)
      rw [e]
      refine Ev.step (f := fun _ => some false) (fun k => ?_) (Ev.now _)
      simp only [collatorref01_Texts.l0]
      rw [if_pos (by omega), if_pos (by omega), if_pos (by omega), rdOf_get _ _ h1, rdOf_get _ _ h2, if_neg (fun h => hc (bytes_inj h))]
theorem texts_ev (a b : List ByteArray) (ha : a.length ≤ 1000000) (hb : b.length ≤ 1000000) : Ev (fun k => collatorref01_Texts.f k a b) (decide (a = b)) := by
  unfold collatorref01_Texts.f
  by_cases hl : a.length = b.length
  · simp only [if_pos (show ((a.length : Nat) : Int) = (b.length : Nat) from congrArg Int.ofNat hl)]
    exact texts_loop a b hl ha a.length 0 (by omega)
  · simp only [if_neg (show ¬ ((a.length : Nat) : Int) = (b.length : Nat) from fun h => hl (Int.ofNat.inj h))]
    rw [decide_eq_false (fun h => hl (by rw [h]))]
    exact Ev.now _
theorem back_loop (l : List ByteArray) (hl : l.length ≤ 1000000) (d : Nat) : ∀ out : List ByteArray, d ≤ l.length → out.length + d = l.length → Ev (fun k => collatorlaw05_back.l0 k l out ((d : Int) - 1)) (out ++ (l.take d).reverse) := by
  induction d with
  | zero =>
    intro out hd ho
    refine Ev.step (f := fun _ => some out) (fun k => ?_) ?_
    · simp only [collatorlaw05_back.l0]; rw [if_neg (by omega)]
    · rw [List.take_zero, List.reverse_nil, List.append_nil]; exact Ev.now _
  | succ d ih =>
    intro out hd ho
    have h1 := ih (out ++ [l[d]]) (by omega) (by simp; omega)
    have e : out ++ (l.take (d + 1)).reverse = out ++ [l[d]] ++ (l.take d).reverse := by
      rw [List.take_succ_eq_append_getElem (by omega), List.reverse_append]
      simp
    rw [e]
    refine Ev.step (fun k => ?_) h1
    simp only [collatorlaw05_back.l0]
    have e1 : ((d + 1 : Nat) : Int) - 1 = (d : Int) := by omega
    rw [e1, if_pos (by omega), if_pos (by omega), if_pos (by omega), if_pos (by omega), rdOf_get _ _ (by omega), w64 (by omega) (by omega)]
theorem back_ev (l : List ByteArray) (hl : l.length ≤ 1000000) : Ev (fun k => collatorlaw05_back.f k l) l.reverse := by
  have h := back_loop l hl l.length [] (Nat.le_refl _) (by simp)
  rw [List.take_length, List.nil_append] at h
  unfold collatorlaw05_back.f
  rw [w64 (by omega) (by omega)]
  exact h
end Go.Proofs.Ythplelgkneipjaa.Q
