/- RowsRight's row, where the arguments are together of a bounded bulk: what the bound gives. -/
import Derived.Test.YthjihdfgamdhmaaRows
import Derived.Test.YthjihdfgamdhmaaHStrs
import Derived.Test.YthjihdfgamdhmaaPxf3
set_option linter.unusedVariables false
namespace Go.Proofs.Ythjihdfgamdhmaa.Upto
open Go Go.ChangeShapes Go.WideShapes Go.RowKit Go.Proofs.YthjihdfgamdhmaaW.PrintWords Go.Proofs.YthjihdfgamdhmaaW.PrintMore Go.Proofs.Ythjihdfgamdhmaa.HStrs Go.Proofs.Ythjihdfgamdhmaa.P
theorem sum_strs {H : Type} (l : List ByteArray) : (l.map (·.size)).sum ≤ Rows.uptoBulkAll (strs (H := H) l) := by
  induction l with
  | nil => exact Nat.le_refl _
  | cons x l ih =>
    have e : Rows.uptoBulkAll (strs (H := H) (x :: l)) = (x.data.toList.length + 1) + Rows.uptoBulkAll (strs (H := H) l) := by
      simp [strs, Rows.uptoBulkAll, Rows.uptoBulk]
    have e2 : x.data.toList.length = x.size := rfl
    rw [e, List.map_cons, List.sum_cons]
    omega
theorem row_of_bulk {H : Type} {enc : TypeId × Value → H} {P : Program} {W : World} {base : Nat} {held : Bool} {t e : TypeId} {a : Option Addr} {len cap : Nat} {d : DataW H} {ps : List MemPlace}
    (hu : P.underlying t = some (.slice e)) (he : P.underlying e = some .string) (hc : P.cellsOf e = 1) (h : DataW.Trod enc P W base (fun _ => true) held t (.slice a len cap) d ps) : ∃ zs, IsRowS W a len cap zs ∧ (zs.map (·.size)).sum ≤ Rows.uptoBulk d := by
  obtain ⟨fuel, hf⟩ := h
  rcases open_strings hu he hc hf with ⟨hcs, _⟩ | ⟨x, l, c, zs, hcs, _, hl, hm, hz, hx, hcell, hwz⟩
  · simp [Value.cells] at hcs
    obtain ⟨rfl, rfl, rfl⟩ := hcs
    exact ⟨[], .inl ⟨rfl, rfl, rfl, rfl⟩, Nat.zero_le _⟩
  · simp [Value.cells] at hcs
    obtain ⟨rfl, rfl, rfl⟩ := hcs
    obtain ⟨hx, _⟩ := Prod.mk.inj hx
    subst hx
    refine ⟨zs, .inr ⟨_, rfl, hl, hm, by simpa using hz, hcell, hwz⟩, ?_⟩
    have h1 := sum_strs (H := H) (zs.take len)
    have h2 := sum_strs (H := H) (zs.drop len)
    have h3 : (zs.map (·.size)).sum = ((zs.take len).map (·.size)).sum + ((zs.drop len).map (·.size)).sum := by rw [← List.sum_append, ← List.map_append, List.take_append_drop]
    rw [h3]
    simp only [Rows.uptoBulk]
    omega
theorem of_row {w : World} {a : Option Addr} {len cap : Nat} {zs : List ByteArray} (h : IsRowS w a len cap zs) :
    ∃ l : List ByteArray, len = l.length ∧ Kd.C Kd.string w a l.length l ∧ l.length ≤ maxLen ∧ l.length ≤ cap ∧ (l.map (·.size)).sum ≤ (zs.map (·.size)).sum := by
  rcases h with ⟨rfl, rfl, rfl, rfl⟩ | ⟨x, rfl, hl, hm, hz, hcell, hw⟩
  · exact ⟨[], rfl, Kd.C_nil Kd.string w, Nat.zero_le _, Nat.le_refl _, Nat.le_refl _⟩
  · have e : len = (zs.take len).length := by rw [List.length_take]; omega
    have h3 : (zs.map (·.size)).sum = ((zs.take len).map (·.size)).sum + ((zs.drop len).map (·.size)).sum := by rw [← List.sum_append, ← List.map_append, List.take_append_drop]
    refine ⟨zs.take len, e, ?_, by omega, by omega, by omega⟩
    have hm2 : maxLen = 9223372036854775807 := rfl
    refine Kd.C_of_reads (d := ByteArray.empty) (h1 := fun _ => rfl) ⟨rfl, by omega, fun _ => ⟨x, rfl, fun j hj => ?_⟩⟩
    have h1 := hcell j (by omega)
    have h2 : (zs.take len).getD j ByteArray.empty = zs.getD j ByteArray.empty := by
      rw [List.getD_eq_getElem?_getD, List.getD_eq_getElem?_getD, List.getElem?_take, if_pos (by omega)]
    rw [h2]
    exact h1
/-- The plain statement, where all is small. -/
def Pure : Prop := ∀ (l0 : List ByteArray) (l1 : List Int) (a2 : Int) (a3 : ByteArray), (l0.map (·.size)).sum ≤ 1048576 → l1.length ≤ maxLen → (∀ x ∈ l1, (Lit.int .i64 x).wf = true) → (Lit.int .i64 a2).wf = true → a3.size ≤ 1048576 → l0.length ≤ maxLen → ∃ k, collatorlaw03_RowsRight.f k l0 l1 a2 a3 = some true
theorem walk (P : Upto.Pure) (a0 : Option Addr) (len0 cap0 : Nat) (z0 : List ByteArray) (a1 : Option Addr) (len1 cap1 : Nat) (z1 : List Int) (a2 : Int) (a3 : ByteArray) (w : World) (w0 : IsRowS w a0 len0 cap0 z0) (b0 : (z0.map (·.size)).sum ≤ 1048576) (w1 : (a1 = none ∧ len1 = 0 ∧ cap1 = 0 ∧ z1 = []) ∨ ∃ x, a1 = some x ∧ len1 ≤ cap1 ∧ cap1 ≤ maxLen ∧ z1.length = cap1 ∧ (∀ i, i < z1.length → w.cell? (x.add i) = some (.int .i64 (z1.getD i 0))) ∧ ∀ n ∈ z1, (Lit.int .i64 n).wf = true) (w2 : (Lit.int .i64 a2).wf = true) (b3 : a3.size ≤ 1048576) :
    Calls Try.prog 3 #[.slice a0 len0 cap0, .slice a1 len1 cap1, .int .i64 a2, .string a3] w fun e w' => e = .returned (.bool true) ∧ Below w.heap.size w w' := by
  obtain ⟨l0, rfl, hr0, hm0, hc0, hs0⟩ := of_row w0
  obtain ⟨l1, rfl, hr1, hm1, hw1, hc1⟩ := ReadsInt.ofRowC w1
  obtain ⟨k, h⟩ := P l0 l1 a2 a3 (Nat.le_trans hs0 b0) hm1 hw1 w2 b3 hm0
  refine (collatorlaw03_RowsRight.calls k (fun _ => True) _ _ l0 _ _ l1 a2 a3 true w (Go.Proofs.Ythjihdfgamdhmaa.HStrs.v_of hr0 hc0) (Kd.C_of_reads (d := (0 : Int)) (h1 := fun _ => rfl) hr1) hc1 h).mono ?_
  rintro e w' ⟨rfl, hd⟩
  exact ⟨rfl, hd⟩
theorem bound {H : Type} {d0 d1 d2 d3 : DataW H} (hk : Rows.uptoSmall H [d0, d1, d2, d3] = true) : Rows.uptoBulk d0 ≤ 1048576 ∧ Rows.uptoBulk d3 ≤ 1048576 := by
  have h := of_decide_eq_true hk
  simp only [Rows.uptoBulkAll] at h
  omega
end Go.Proofs.Ythjihdfgamdhmaa.Upto
