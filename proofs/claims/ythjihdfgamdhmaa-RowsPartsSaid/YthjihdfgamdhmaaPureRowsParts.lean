/- RowsParts: lines in two parts are joined as in one; what both parts have in common with others ahead is what is shared, or more: the plain law over the printed function. -/
import Derived.Test.YthjihdfgamdhmaaPxf6
import Derived.Test.YthjihdfgamdhmaaQShared
import Derived.Test.YthjihdfgamdhmaaQCat
set_option linter.unusedVariables false
set_option linter.unusedSimpArgs false
namespace Go.Proofs.Ythjihdfgamdhmaa.Pure
open Go Go.RowKit Go.Proofs.Ythjihdfgamdhmaa.P Go.Proofs.YthjihdfgamdhmaaW.PrintWords Go.Proofs.YthjihdfgamdhmaaW.PrintLast Go.Proofs.YthjihdfgamdhmaaW.PrintMore Go.Proofs.Ythjihdfgamdhmaa.Q
theorem ahead_take {A B : List ByteArray} {n k : Nat} (h : Ahead A B n) (hk : k ≤ A.length) : Ahead (A.take k) B (min n k) := by
  have hl : (A.take k).length = k := by rw [List.length_take]; omega
  have h1 := h.le
  refine ⟨by rw [hl]; omega, fun i hi => ?_, fun hlt => ?_⟩
  · rw [List.getElem?_take, if_pos (by omega)]
    exact h.same i (by omega)
  · rw [hl] at hlt
    have e : min n k = n := by omega
    rw [e, List.getElem?_take, if_pos (by omega)]
    exact h.stop (by omega)
theorem ahead_ne (x y : ByteArray) (A : List ByteArray) (h : x ≠ y) : Ahead (x :: A) (y :: A) 0 :=
  ⟨Nat.zero_le _, fun i hi => absurd hi (Nat.not_lt_zero _), fun _ e => h (by simpa using e)⟩
theorem behind_ne (x y : ByteArray) (A : List ByteArray) (h : x ≠ y) : Behind (x :: A) (y :: A) 0 A.length := by
  refine ⟨by simp, fun i hi => ?_, fun _ e => h ?_⟩
  · simp only [List.length_cons, Nat.add_sub_cancel]
    obtain ⟨j, hj⟩ : ∃ j, A.length - i = j + 1 := ⟨A.length - i - 1, by omega⟩
    rw [hj]
    rfl
  · simpa using e
theorem parts_end (A : List ByteArray) (hf : ∀ x ∈ A, x.size ≤ 5) (hA : A.length ≤ 20) (k n n' m : Nat) (hk : k ≤ A.length) (hn : n' = min n k) :
    Ev (fun K => (if true = true then ((rows_Join.f (A.take ((k : Int)).toNat)).bind fun t242 => ((rows_Join.f (A.drop ((k : Int)).toNat)).bind fun t247 => (if t242.size + t247.size ≤ 9223372036854775807 then ((rows_Join.f A).bind fun t248 => (if (t242 ++ t247).toList = t248.toList then (if (n' : Int) = (mn (n : Int) (k : Int)) then (some ((m : Int) == (m : Int))) else (some false)) else (some false))) else (none)))) else (some false))) true := by
  rw [Int.toNat_natCast, join_ok A (fun x hx => by have := hf x hx; omega) (by omega), join_ok (A.take k) (fun x hx => by have := hf x (List.mem_of_mem_take hx); omega) (by rw [List.length_take]; omega), join_ok (A.drop k) (fun x hx => by have := hf x (List.mem_of_mem_drop hx); omega) (by rw [List.length_drop]; omega)]
  have hs : (cat (A.take k)).size + (cat (A.drop k)).size ≤ 9223372036854775807 := by
    have h1 := cat_size_le (A.take k) 5 (fun x hx => hf x (List.mem_of_mem_take hx))
    have h2 := cat_size_le (A.drop k) 5 (fun x hx => hf x (List.mem_of_mem_drop hx))
    rw [List.length_take] at h1
    rw [List.length_drop] at h2
    omega
  have hc : cat (A.take k) ++ cat (A.drop k) = cat A := by rw [← cat_append, List.take_append_drop]
  have he : (n' : Int) = mn (n : Int) (k : Int) := by rw [mn_nat, hn]
  simp only [Option.bind_some, if_true, hc, if_pos hs, if_pos he, beq_self_eq_true]
  exact Ev.now _
theorem only_ne : (⟨#[111, 110, 108, 121, 32, 111, 110, 101, 10]⟩ : ByteArray) ≠ ⟨#[111, 110, 108, 121, 32, 111, 116, 104, 101, 114, 10]⟩ := by decide
theorem nn (k : Nat) : (0 : Int) ≤ (k : Int) := by omega
theorem room (A : List ByteArray) (x : ByteArray) (hA : A.length ≤ 20) : (([] : List ByteArray) ++ [x]).length + A.length < 8796093022208 := by simp; omega
theorem RowsParts : collatorlaw03_RowsParts.Pure := by
  intro l0 l1 a2 hm0 hr0 hw0 hm1 hr1 hw1 hw2
  obtain ⟨A, hA, fA, lA⟩ := lines_ev l0 hw0 hm0 20 (by decide)
  obtain ⟨B, hB, fB, lB⟩ := lines_ev l1 hw1 hm1 20 (by decide)
  have a20 := fA.le
  have b20 := fB.le
  have hsz : ∀ x ∈ A, x.size ≤ 5 := fun x hx => fA.size hx
  have hpk := pk_lt a2 (n := A.length + 1) (Nat.succ_pos _)
  have hp := pick3 (wf_range hw2) (m := wrap64 ((A.length : Int) + 1)) (n := A.length + 1) (by rw [w64 (by omega) (by omega)]; omega) (Nat.succ_pos _)
  have kl : pk a2 (A.length + 1) ≤ A.length := Nat.le_of_lt_succ hpk
  generalize pk a2 (A.length + 1) = q at *
  obtain ⟨n, m, a, b, hE⟩ := shared_ev A B (Nat.le_trans a20 (by decide)) (Nat.le_trans b20 (by decide))
  obtain ⟨n', m', a', b', hE'⟩ := shared_ev (A.take q) B (by rw [List.length_take]; omega) (Nat.le_trans b20 (by decide))
  obtain ⟨u, v, a3, b3, hE3⟩ := shared_ev (([] : List ByteArray) ++ [(⟨#[111, 110, 108, 121, 32, 111, 110, 101, 10]⟩ : ByteArray)] ++ A) (([] : List ByteArray) ++ [(⟨#[111, 110, 108, 121, 32, 111, 116, 104, 101, 114, 10]⟩ : ByteArray)] ++ A) (by simp; omega) (by simp; omega)
  obtain rfl := a3.unique (ahead_ne _ _ A only_ne)
  obtain rfl := b3.unique (behind_ne _ _ A only_ne)
  have hn := a'.unique (ahead_take a kl)
  have he := parts_end A hsz a20 q n n' A.length kl hn
  have r1 := room A (⟨#[111, 110, 108, 121, 32, 111, 110, 101, 10]⟩ : ByteArray) a20
  have r2 := room A (⟨#[111, 110, 108, 121, 32, 111, 116, 104, 101, 114, 10]⟩ : ByteArray) a20
  have r3 : (q : Int) ≤ (A.length : Int) := Int.ofNat_le.2 kl
  have r0 : ([] : List ByteArray).length < 8796093022208 := by decide
  clear hm0 hr0 hm1 hr1 hw0 hw1 hw2 lA lB a20 b20 hsz hpk kl hn a a' b b' a3 b3
  refine Ev.rounds ?_
  exact evval awake3_ok (Ev.bind hA (Ev.bind hB (evval hp (Ev.bind hE (evpos (nn q) (evpos r3 (Ev.bind hE' (evpos r0 (evval rfl (evpos r1 (evval rfl (evpos r2 (Ev.bind hE3 he)))))))))))))
end Go.Proofs.Ythjihdfgamdhmaa.Pure
