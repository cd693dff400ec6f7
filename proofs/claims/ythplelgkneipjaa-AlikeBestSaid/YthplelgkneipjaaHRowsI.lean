/- Words of this session: a law's slice of slices of whole numbers, as its row lays it open. -/
import Derived.SizedLaws
import Derived.Deep.Matrix
import Derived.Test.YthplelgkneipjaaWMore
set_option linter.unusedVariables false
namespace Go.Proofs.Ythplelgkneipjaa.HRowsI
open Go Go.ChangeShapes Go.WideShapes Go.RowKit Go.Deep Go.Proofs.YthplelgkneipjaaW.PrintWords Go.Proofs.YthplelgkneipjaaW.PrintMore
def IsRowS (w : World) (a : Option Addr) (len cap : Nat) (zs : List (List Int)) : Prop :=
  len = zs.length ∧ Kd.C (Kd.slice 3 (Kd.int .i64)) w a zs.length zs ∧ zs.length ≤ maxLen ∧ (∀ x ∈ zs, x.length ≤ maxLen ∧ ∀ y ∈ x, (Lit.int .i64 y).wf = true) ∧ zs.length ≤ cap
theorem row_of {H : Type} {enc : TypeId × Value → H} {P : Program} {W : World} {base : Nat} {held : Bool} {t e q : TypeId} {a : Option Addr} {len cap : Nat} {d : DataW H} {ps : List MemPlace}
    (hu : P.underlying t = some (.slice e)) (he : P.underlying e = some (.slice q)) (hq : P.underlying q = some (.int .i64)) (ce : P.cellsOf e = 1) (cq : P.cellsOf q = 1) (h : DataW.Trod enc P W base (fun _ => true) held t (.slice a len cap) d ps) : ∃ zs, IsRowS W a len cap zs := by
  have hm2 : maxLen = 9223372036854775807 := rfl
  obtain ⟨fuel, hf⟩ := h
  rcases open_int_rows hu he hq ce cq hf with ⟨hcs, _⟩ | ⟨x, l, c, A, L, C, Z, hcs, _, hl, hm, _, hrow⟩
  · simp [Value.cells] at hcs
    obtain ⟨rfl, rfl, rfl⟩ := hcs
    exact ⟨[], rfl, Kd.C_nil _ W, Nat.zero_le _, fun x hx => absurd hx (by simp), Nat.le_refl _⟩
  · simp [Value.cells] at hcs
    obtain ⟨rfl, rfl, rfl⟩ := hcs
    have hlen : ((List.range len).map fun r => (Z r).take (L r)).length = len := by rw [List.length_map, List.length_range]
    refine ⟨(List.range len).map fun r => (Z r).take (L r), hlen.symm, ?_, by omega, fun y hy => ?_, by omega⟩
    · rw [hlen]
      refine ⟨hlen, by omega, fun _ => ⟨x, rfl, fun j p hj => ?_⟩⟩
      have hjl : j < len := by have := (List.getElem?_eq_some_iff.1 hj).1; omega
      have hp : p = (Z j).take (L j) := by
        rw [List.getElem?_map, List.getElem?_range hjl] at hj
        exact (Option.some.inj hj).symm
      obtain ⟨r1, r2, r3, r4, r5, r6, r7⟩ := hrow j (by omega)
      have hpl : p.length = L j := by rw [hp, List.length_take]; omega
      refine ⟨[.slice (A j) (L j) (C j)], rfl, ⟨A j, C j, by rw [hpl], by omega, ?_⟩, fun i u hu => ?_⟩
      · refine Kd.C_of_reads (d := (0 : Int)) (h1 := fun _ => rfl) ⟨rfl, by omega, fun h0 => ?_⟩
        cases hA : A j with
        | none => have := r6 hA; omega
        | some a' =>
          refine ⟨a', rfl, fun i hi => ?_⟩
          have h1 := (r7 a' hA).2 i (by omega)
          have h2 : p.getD i 0 = (Z j).getD i 0 := by
            rw [hp, List.getD_eq_getElem?_getD, List.getD_eq_getElem?_getD, List.getElem?_take, if_pos (by omega)]
          rw [h2]
          exact h1
      · cases i with
        | zero =>
          have e : Value.slice (A j) (L j) (C j) = u := by simpa using hu
          rw [← e]
          have e2 : j * (Kd.slice 3 (Kd.int .i64)).sz + 0 = j := Nat.mul_one j
          rw [e2]
          exact r1
        | succ i => simp at hu
    · obtain ⟨r, hr, rfl⟩ := List.mem_map.1 hy
      have hrl := List.mem_range.1 hr
      obtain ⟨r1, r2, r3, r4, r5, r6, r7⟩ := hrow r (by omega)
      exact ⟨by rw [List.length_take]; omega, fun n hn => r5 n (List.mem_of_mem_take hn)⟩
theorem sized_strs {H : Type} {enc : TypeId × Value → H} {P : Program} {W : World} {base : Nat} {held : Bool} {t e q : TypeId} {a : Option Addr} {len cap : Nat} {d : DataW H} {ps : List MemPlace} {ts : List TypeId} {ds : List (DataW H)} {j : Nat}
    (hsz : (DataW.weightsEach P ts ds).all (· ≤ reachBytes) = true) (ht : ts[j]? = some t) (hd : ds[j]? = some d) (hu : P.underlying t = some (.slice e)) (he : P.underlying e = some (.slice q)) (hq : P.underlying q = some (.int .i64)) (ce : P.cellsOf e = 1) (cq : P.cellsOf q = 1) {B : Nat} (hB : P.bytesOf e = B)
    (h : DataW.Trod enc P W base (fun _ => true) held t (.slice a len cap) d ps) : len * B ≤ 140737488351232 := by
  obtain ⟨fuel, hf⟩ := h
  rcases open_int_rows hu he hq ce cq hf with ⟨hcs, _⟩ | ⟨x, l, c, A, L, C, Z, hcs, _, hl, hm, hx, _⟩
  · simp [Value.cells] at hcs
    obtain ⟨rfl, rfl, rfl⟩ := hcs
    simp
  · simp [Value.cells] at hcs
    obtain ⟨rfl, rfl, rfl⟩ := hcs
    obtain ⟨hx, _⟩ := Prod.mk.inj hx
    subst hx
    have z := sized_slice hsz ht hd hu
    rw [hB, List.length_map, List.length_range, List.length_map, List.length_range] at z
    exact Nat.le_trans (Nat.mul_le_mul_right _ (by omega)) z
theorem ofRowS {w : World} {a : Option Addr} {len cap : Nat} {zs : List (List Int)} (h : IsRowS w a len cap zs) :
    ∃ l : List (List Int), len = l.length ∧ Kd.C (Kd.slice 3 (Kd.int .i64)) w a l.length l ∧ l.length ≤ maxLen ∧ (∀ x ∈ l, x.length ≤ maxLen ∧ ∀ y ∈ x, (Lit.int .i64 y).wf = true) ∧ l.length ≤ cap := ⟨zs, h⟩
end Go.Proofs.Ythplelgkneipjaa.HRowsI
