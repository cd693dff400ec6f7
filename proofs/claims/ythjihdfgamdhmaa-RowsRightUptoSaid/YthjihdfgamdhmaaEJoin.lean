/- rows.Join, rows.Right: what they answer. -/
import Derived.Test.YthjihdfgamdhmaaERows
import Derived.Test.YthjihdfgamdhmaaPx0
set_option linter.unusedVariables false
set_option linter.unusedSimpArgs false
namespace Go.Proofs.Ythjihdfgamdhmaa.Q
open Go
/-- Texts one behind the other. -/
def cat (l : List ByteArray) : ByteArray := bts (l.map (·.data.toList)).flatten
theorem join_cat (l : List ByteArray) : (⟨(Lib.join (l.map (·.data.toList)) (⟨#[]⟩ : ByteArray).data.toList).toArray⟩ : ByteArray) = cat l := by
  unfold cat bts Lib.join
  congr 2
  show List.intercalate [] _ = _
  induction l with
  | nil => rfl
  | cons x l ih =>
    cases l with
    | nil => simp [List.intercalate]
    | cons y l =>
      rw [List.map_cons, List.flatten_cons, ← ih]
      simp [List.intercalate]
theorem join_len (l : List ByteArray) : (Lib.join (l.map (·.data.toList)) (⟨#[]⟩ : ByteArray).data.toList).length = (cat l).size := by
  rw [← join_cat]; simp [ByteArray.size]
end Go.Proofs.Ythjihdfgamdhmaa.Q
namespace Go.Proofs.Ythjihdfgamdhmaa.P
open Go Go.RowKit Go.Shelf Go.Proofs.YthjihdfgamdhmaaW.PrintWords Go.Proofs.YthjihdfgamdhmaaW.PrintLast Go.Proofs.YthjihdfgamdhmaaW.PrintMore Go.Proofs.Ythjihdfgamdhmaa.Rng Go.Proofs.Ythjihdfgamdhmaa.Q Go.Proofs.Ythjihdfgamdhmaa.Iter
def rows_Split.f (s : ByteArray) : Option (List ByteArray) := if s.size ≤ 4294967296 then some (Q.lines s) else none
theorem rows_Split.calls (a0 : ByteArray) (r : List ByteArray) (w : World) (h : rows_Split.f a0 = some r) :
    Calls Try.prog 11 #[.string a0] w fun e w' => ∃ v0_ : Value, e = .returned (v0_) ∧ Kd.R Kd.string 9 w' w.heap.size (fun _ => True) v0_ r ∧ Below w.heap.size w w' := by
  unfold rows_Split.f at h
  split at h
  · rename_i hh
    obtain rfl := Option.some.inj h
    refine (split_run a0 hh w).mono ?_
    rintro e w' ⟨v, rfl, hown, hb⟩
    exact ⟨v, rfl, Kd.R_of_own (h1 := fun _ => rfl) (ok := fun _ => True) hown (fun _ _ => trivial), hb⟩
  · cases h
def rows_Join.f (l : List ByteArray) : Option ByteArray := if (Q.cat l).size ≤ 140737488355328 ∧ l.length ≤ 140737488355328 then some (Q.cat l) else none
set_option maxHeartbeats 1000000 in
theorem strings_Join_run (A0 : Option Addr) (c0 : Nat) (l0 : List ByteArray) (w : World) (hr0 : Kd.C Kd.string w A0 l0.length l0) (hc0 : l0.length ≤ c0) (h1 : (Q.cat l0).size ≤ 140737488355328) (h2 : l0.length ≤ 140737488355328) :
    Calls Try.prog 16 #[.slice A0 l0.length c0, .string ⟨#[]⟩] w fun e w' => e = .returned (.string (Q.cat l0)) ∧ Below w.heap.size w w' := by
  cases l0 with
  | nil =>
    refine (Try.strings_Join_none A0 c0 ⟨#[]⟩ w).mono ?_
    rintro e w' ⟨rfl, rfl⟩
    exact ⟨rfl, Below.refl _ _⟩
  | cons x xs =>
    obtain ⟨ad, rfl, hx⟩ := Kd.at_string hr0 0 (by omega) (by simp)
    have hsp : ad.spot = none ∧ ad.block < w.heap.size := by
      have hlt := World.block_lt_of_cell? w _ hx
      simp [Addr.add] at hlt
      simp [Addr.add, World.cell?] at hx
      refine ⟨?_, hlt⟩
      split at hx
      · by_cases hs : ad.spot.isSome = true
        · simp [hs] at hx
        · simpa using hs
      · cases hx
    obtain ⟨bk, o, sp⟩ := ad
    obtain ⟨h3, h4⟩ := hsp
    simp only at h3 h4
    subst h3
    have hcells : ∀ (j : Nat) y, (x :: xs)[j]? = some y → w.cell? ⟨bk, o + j, none⟩ = some (.string y) := by
      intro j y hj
      obtain ⟨hjl, hje⟩ := List.getElem?_eq_some_iff.1 hj
      obtain ⟨ad2, e2, hc⟩ := Kd.at_string hr0 (j : Int) (by omega) (by omega)
      injection e2 with e2
      subst e2
      have e3 : (⟨bk, o, none⟩ : Addr).add (j : Int).toNat = ⟨bk, o + j, none⟩ := by
        simp only [Int.toNat_natCast, Addr.add]
        split
        · rename_i h; rw [h]; rfl
        · rfl
      rw [e3] at hc
      rw [hc]
      congr 2
      simp [rdOf, List.getD_eq_getElem?_getD, hj]
    refine (Try.strings_Join bk o c0 (x :: xs) ⟨#[]⟩ w hcells h4 h2 hc0 (by rw [join_len]; exact h1)).mono ?_
    rintro e w' ⟨rfl, hb⟩
    exact ⟨by rw [join_cat], hb⟩
set_option maxHeartbeats 1000000 in
theorem rows_Join.calls (A0 : Option Addr) (c0 : Nat) (l0 : List ByteArray) (r : ByteArray) (w : World) (hr0 : Kd.C Kd.string w A0 l0.length l0) (hc0 : l0.length ≤ c0) (h : rows_Join.f l0 = some r) :
    Calls Try.prog 12 #[.slice A0 l0.length c0] w fun e w' => e = .returned (.string r) ∧ Below w.heap.size w w' := by
  unfold rows_Join.f at h
  split at h
  · rename_i hh
    obtain rfl := Option.some.inj h
    have cj := strings_Join_run A0 c0 l0 w hr0 hc0 hh.1 hh.2
    clear hh
    go_enter Try.func12, Try.ntmps12
    go_wp2_with (go_at_call 16; refine Calls.mono cj ?_; rintro e w' ⟨rfl, hb⟩)
    go_ret
    exact ⟨rfl, hb⟩
  · cases h
end Go.Proofs.Ythjihdfgamdhmaa.P
