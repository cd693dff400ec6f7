/- What the given function Path of layer 1's laws makes of raw numbers, and what holds of such paths: plain. -/
import Derived.Test.YtjfeddpelakdjaaDoorQPathEv
import Derived.OpenShut
set_option linter.unusedVariables false
set_option linter.unusedSimpArgs false
namespace Go.Proofs.YtjfeddpelakdjaaDoor.Q
open Go Go.RowKit Go.Proofs.YtjfeddpelakdjaaDoor.P Go.Proofs.YtjfeddpelakdjaaDoorW.PrintWords Go.Proofs.YtjfeddpelakdjaaDoorW.PrintLast Go.Proofs.YtjfeddpelakdjaaDoorW.PrintMore
/-- Which of n things a raw number speaks of. -/
def pk (c : Int) (n : Nat) : Nat := (if c < 0 then -(c + 1) else c).toNat % n
theorem pk_lt (c : Int) {n : Nat} (h : 0 < n) : pk c n < n := Nat.mod_lt _ h
theorem wf_range {c : Int} (h : (Lit.int .i64 c).wf = true) : -9223372036854775808 ≤ c ∧ c ≤ 9223372036854775807 := by
  have h2 := (bounds_i64 h)
  omega
theorem pick1 {c : Int} (hc : -9223372036854775808 ≤ c ∧ c ≤ 9223372036854775807) {m : Int} {n : Nat} (hm : m = n) (hn : 0 < n) : collatorlaw01_pick.f c m = some (pk c n : Int) := by
  subst hm
  have h0 : ¬ ((n : Int) = 0) := by omega
  unfold pk collatorlaw01_pick.f
  by_cases h : c < 0
  · rw [if_pos h, if_neg h0, if_pos h, w64 (x := c + 1) (by omega) (by omega), w64 (by omega) (by omega), Int.tmod_eq_emod_of_nonneg (by omega)]
    congr 1
    rw [Int.natCast_emod, Int.toNat_of_nonneg (by omega)]
  · rw [if_neg h, if_neg h0, if_neg h, Int.tmod_eq_emod_of_nonneg (by omega)]
    congr 1
    rw [Int.natCast_emod, Int.toNat_of_nonneg (by omega)]
theorem rd_mem {l : List Int} (hw : ∀ x ∈ l, (Lit.int .i64 x).wf = true) {i : Int} (h0 : 0 ≤ i) (h1 : i < l.length) : -9223372036854775808 ≤ rd l i ∧ rd l i ≤ 9223372036854775807 := by
  refine wf_range (hw _ ?_)
  unfold rd
  rw [List.getD_eq_getElem?_getD, List.getElem?_eq_getElem (by omega)]
  exact List.getElem_mem _
def names : List ByteArray := [(⟨#[97]⟩ : ByteArray), (⟨#[98]⟩ : ByteArray), (⟨#[97, 98]⟩ : ByteArray), (⟨#[97, 33]⟩ : ByteArray), (⟨#[97, 46, 98]⟩ : ByteArray), (⟨#[46, 46, 46]⟩ : ByteArray), (⟨#[90]⟩ : ByteArray), (⟨#[255]⟩ : ByteArray)]
/-- A name that may be. -/
def Name (q : Bs) : Prop := q ≠ [] ∧ (47 : UInt8) ∉ q ∧ oddb q = false ∧ q.length ≤ 3
theorem names_ok : ∀ s ∈ names, Name (tl s) := by unfold Name; decide
theorem name_a : Name [97] := by unfold Name; decide
/-- A path of few parts. -/
structure Good (ps : List Bs) (most : Nat) : Prop where
  ne : ps ≠ []
  le : ps.length ≤ most
  all : ∀ q ∈ ps, Name q
theorem Good.mono {ps : List Bs} {m n : Nat} (h : Good ps m) (hmn : m ≤ n) : Good ps n := ⟨h.ne, Nat.le_trans h.le hmn, h.all⟩
theorem Good.no {ps : List Bs} {m : Nat} (h : Good ps m) : ∀ q ∈ ps, (47 : UInt8) ∉ q := fun q hq => (h.all q hq).2.1
theorem Good.chk {ps : List Bs} {m : Nat} (h : Good ps m) (hm : m ≤ 16) : chk ps = 0 := by
  have := h.le
  unfold Q.chk
  rw [if_neg, if_neg (by omega)]
  rw [Bool.not_eq_true, List.any_eq_false]
  intro q hq
  rw [(h.all q hq).2.2.1]
  decide
theorem glue_ne {ps : List Bs} (h : ps ≠ []) (hn : ∀ q ∈ ps, q ≠ []) : glue ps ≠ [] := by
  cases ps with
  | nil => exact absurd rfl h
  | cons p ps =>
    cases ps with
    | nil => exact hn p List.mem_cons_self
    | cons q ps => intro e; have := congrArg List.length e; simp [glue] at this
theorem Good.glue {ps : List Bs} {m : Nat} (h : Good ps m) : parts (glue ps) = ps ∧ glue ps ≠ [] :=
  ⟨parts_glue h.ne h.no, glue_ne h.ne (fun q hq => (h.all q hq).1)⟩
theorem glue_snoc {ps : List Bs} (h : ps ≠ []) (q : Bs) : glue (ps ++ [q]) = glue ps ++ 47 :: q := by
  have := glue_app ps [q] h (by simp)
  exact this
theorem path_loop (l : List Int) (hw : ∀ x ∈ l, (Lit.int .i64 x).wf = true) (hl : l.length ≤ 9223372036854775807) (d : Nat) :
    ∀ (i : Nat) (out : ByteArray) (ps : List Bs), i + d = 8 → tl out = glue ps → ps.length = i → (∀ q ∈ ps, Name q) → out.size ≤ 4 * i →
    ∃ P, Ev (fun k => collatorlaw01_Path.l0 k l names out (i : Int)) P ∧ Good (parts (tl P)) 8 ∧ P.size ≤ 40 := by
  have stop : ∀ (i : Nat) (out : ByteArray) (ps : List Bs), i ≤ 8 → tl out = glue ps → ps.length = i → (∀ q ∈ ps, Name q) → out.size ≤ 4 * i → ∃ P, Ev (fun k => collatorlaw01_Path.j1 k l names out (i : Int) false) P ∧ Good (parts (tl P)) 8 ∧ P.size ≤ 40 := by
    intro i out ps hi ht hp hn hs
    by_cases c : ps = []
    · refine ⟨⟨#[97]⟩, Ev.step (f := fun _ => some (⟨#[97]⟩ : ByteArray)) (fun k => ?_) (Ev.now _), ?_, by decide⟩
      · simp only [collatorlaw01_Path.j1]
        rw [if_neg (by decide), toList_tl, ht, c, if_pos (show glue [] = ([] : Bs) from rfl)]
      · exact ⟨by decide, by decide, fun q hq => by
          have : q ∈ [([97] : Bs)] := hq
          rw [List.mem_singleton.1 this]; exact name_a⟩
    · have hg : Good ps 8 := ⟨c, by omega, hn⟩
      refine ⟨out, Ev.step (f := fun _ => some out) (fun k => ?_) (Ev.now _), by rw [ht, hg.glue.1]; exact hg, by omega⟩
      simp only [collatorlaw01_Path.j1]
      rw [if_neg (by decide), toList_tl, ht, if_neg hg.glue.2]
  induction d with
  | zero =>
    intro i out ps hi ht hp hn hs
    obtain ⟨P, hP, hR⟩ := stop i out ps (by omega) ht hp hn hs
    refine ⟨P, Ev.step (fun k => ?_) hP, hR⟩
    simp only [collatorlaw01_Path.l0]
    rw [decide_eq_false (by omega : ¬ (i : Int) < 8)]
    split <;> rfl
  | succ d ih =>
    intro i out ps hi ht hp hn hs
    by_cases c : (i : Int) < (l.length : Int)
    · have h8 := pk_lt (rd l i) (n := 8) (by omega)
      have hx : names[pk (rd l i) 8]? = some (names[pk (rd l i) 8]'h8) := List.getElem?_eq_getElem _
      have p8 := pick1 (c := rd l i) (rd_mem hw (by omega) c) (m := 8) (n := 8) rfl (by omega)
      generalize hnm : names[pk (rd l i) 8]'h8 = nm at hx
      have hname := names_ok nm (by rw [← hnm]; exact List.getElem_mem _)
      have hsz : nm.size ≤ 3 := by have := hname.2.2.2; rw [tl_size] at this; exact this
      generalize pk (rd l i) 8 = j at *
      have hj := rjoin_ok (d := out) (n := nm) (by omega) (by omega)
      have hjs := joinB_size (tl out) (tl nm)
      rw [tl_size, tl_size] at hjs
      obtain ⟨P, hP, hR⟩ := ih (i + 1) (ofB (joinB (tl out) (tl nm))) (ps ++ [tl nm]) (by omega) (by
        rw [tl_ofB, ht]
        by_cases c0 : ps = []
        · rw [c0]; rfl
        · rw [glue_snoc c0]
          unfold joinB
          rw [if_neg (glue_ne c0 (fun q hq => (hn q hq).1))]) (by rw [List.length_append, hp]; rfl) (fun q hq => by
        rcases List.mem_append.1 hq with hq | hq
        · exact hn q hq
        · rw [List.mem_singleton.1 hq]; exact hname) (by rw [ofB_size]; omega)
      refine ⟨P, Ev.step (f := fun k => collatorlaw01_Path.j1 k l names out (i : Int) true) (fun k => ?_) (Ev.step (fun k => ?_) hP), hR⟩
      · simp only [collatorlaw01_Path.l0]
        rw [if_pos c, decide_eq_true (by omega : (i : Int) < 8)]
      · simp only [collatorlaw01_Path.j1]
        rw [if_true, if_pos (by omega), if_pos c, p8, Option.bind_some, if_pos (by omega), if_pos (by show (j : Int) < ((8 : Nat) : Int); omega), rdB hx, hj, Option.bind_some, wi (by omega)]
    · obtain ⟨P, hP, hR⟩ := stop i out ps (by omega) ht hp hn hs
      refine ⟨P, Ev.step (fun k => ?_) hP, hR⟩
      simp only [collatorlaw01_Path.l0]
      rw [if_neg c]
theorem path_ev (l : List Int) (hw : ∀ x ∈ l, (Lit.int .i64 x).wf = true) (hl : l.length ≤ 9223372036854775807) : ∃ P, Ev (fun k => collatorlaw01_Path.f k l) P ∧ Good (parts (tl P)) 8 ∧ P.size ≤ 40 :=
  path_loop l hw hl 8 0 (⟨#[]⟩ : ByteArray) [] rfl rfl rfl (by simp) (by decide)
end Go.Proofs.YtjfeddpelakdjaaDoor.Q
