/- MyersTells: the script, its cost and what stays are as the document says: the plain law over the printed function. -/
import Derived.Test.YthplelgkneipjaaPxf8
import Derived.Test.YthplelgkneipjaaQLines
import Derived.Test.YthplelgkneipjaaQMCost
set_option linter.unusedVariables false
set_option linter.unusedSimpArgs false
set_option linter.unusedSectionVars false
namespace Go.Proofs.Ythplelgkneipjaa.Pure
open Go Go.RowKit Go.Proofs.Ythplelgkneipjaa.P Go.Proofs.YthplelgkneipjaaW.PrintWords Go.Proofs.YthplelgkneipjaaW.PrintLast Go.Proofs.YthplelgkneipjaaW.PrintMore Go.Proofs.Ythplelgkneipjaa.Q
theorem awake5_ok : collatorlaw05_awake.f = some true := rfl
abbrev EdS := S49
def foldOn (s : List EdS) (st : List Step) : List EdS := st.foldl (fun s x => note s x.1 x.2) s
theorem foldOn_cons (s : List EdS) (x : Step) (b : List Step) : foldOn s (x :: b) = foldOn (note s x.1 x.2) b := rfl
theorem drop_cons {α : Type} {s : List α} {i : Nat} {x : α} {t : List α} (h : s.drop i = x :: t) : i < s.length ∧ s[i]? = some x ∧ s.drop (i + 1) = t := by
  have h1 : i < s.length := by
    rcases Nat.lt_or_ge i s.length with h1 | h1
    · exact h1
    · rw [List.drop_eq_nil_of_le h1] at h; cases h
  rw [List.drop_eq_getElem_cons h1] at h
  injection h with h2 h3
  exact ⟨h1, by rw [List.getElem?_eq_getElem h1, h2], h3⟩
theorem drop_nil {α : Type} {s : List α} {i : Nat} (h : s.drop i = []) : s.length ≤ i := List.drop_eq_nil_iff.1 h
theorem rdT {s : List EdS} {i : Nat} {x : EdS} (h : s[i]? = some x) : rd_T49 s (i : Int) = x := by
  unfold rd_T49
  rw [Int.toNat_natCast, List.getD_eq_getElem?_getD, h]; rfl
theorem rdB {s : List ByteArray} {i : Nat} {x : ByteArray} (h : s[i]? = some x) : rdOf ByteArray.empty s (i : Int) = x := by
  unfold rdOf
  rw [Int.toNat_natCast, List.getD_eq_getElem?_getD, h]; rfl
theorem rdI {s : List Int} {i : Nat} {x : Int} (h : s[i]? = some x) : rd s (i : Int) = x := by
  unfold rd
  rw [Int.toNat_natCast, List.getD_eq_getElem?_getD, h]; rfl
theorem wi {i : Nat} (h : i ≤ 1000000000) : wrap64 ((i : Int) + 1) = ((i + 1 : Nat) : Int) := by rw [w64 (by omega) (by omega)]; omega
theorem script_bd (a b : List ByteArray) : (script a b).length ≤ a.length + b.length ∧ ∀ x ∈ script a b, 0 ≤ x.f1 ∧ x.f1 ≤ (a.length + b.length : Nat) ∧ x.f2.length ≤ a.length + b.length := by
  have h := folded_bd (pth a b) (pth_small a b).2
  have h2 := (pth_small a b).1
  refine ⟨Nat.le_trans h.1 h2, fun x hx => ?_⟩
  have := h.2 x hx
  omega
theorem same_lines (s t : List EdS) (hs : s.length ≤ 1000000) (i : Nat) (x : EdS) (hx : s[i]? = some x) (hl : x.f2.length ≤ 1000000) (u : List ByteArray) {b : Bool} (hn : Ev (fun k => collatorref04_Same.l0 k s s ((i + 1 : Nat) : Int)) b) : ∀ (j : Nat), x.f2.drop j = u → Ev (fun k => collatorref04_Same.l1 k s s (i : Int) (j : Int)) b := by
  have h1 : i < s.length := (List.getElem?_eq_some_iff.1 hx).1
  induction u with
  | nil =>
    intro j h
    have hj := drop_nil h
    refine Ev.step (fun k => ?_) hn
    simp only [collatorref04_Same.l1]
    rw [if_pos (by omega), if_pos (by omega), rdT hx, if_neg (by omega), wi (by omega)]
  | cons y u ih =>
    intro j h
    obtain ⟨g1, g2, g3⟩ := drop_cons h
    refine Ev.step (fun k => ?_) (ih (j + 1) g3)
    simp only [collatorref04_Same.l1]
    rw [if_pos (by omega), if_pos (by omega), rdT hx, if_pos (by omega), if_pos (by omega), if_pos (by omega), if_pos (by omega), if_true, wi (by omega)]
theorem same_loop (s : List EdS) (hs : s.length ≤ 1000000) (hl : ∀ x ∈ s, x.f2.length ≤ 1000000) (t : List EdS) : ∀ (i : Nat), s.drop i = t → Ev (fun k => collatorref04_Same.l0 k s s (i : Int)) true := by
  induction t with
  | nil =>
    intro i h
    have hi := drop_nil h
    refine Ev.step (f := fun _ => some true) (fun k => ?_) (Ev.now _)
    simp only [collatorref04_Same.l0]; rw [if_neg (by omega)]
  | cons x t ih =>
    intro i h
    obtain ⟨h1, h2, h3⟩ := drop_cons h
    refine Ev.step (f := fun k => collatorref04_Same.j1 k s s (i : Int) false) (fun k => ?_) (Ev.step (fun k => ?_) (same_lines s s hs i x h2 (hl x (List.mem_of_getElem? h2)) x.f2 (ih (i + 1) h3) 0 (by simp)))
    · simp only [collatorref04_Same.l0]
      rw [if_pos (by omega), if_pos (by omega), if_pos (by omega), if_true, if_true, bne_self_eq_false]
    · simp only [collatorref04_Same.j1]
      rw [if_neg (by decide)]
      rfl
theorem same_ev (s : List EdS) (hs : s.length ≤ 1000000) (hl : ∀ x ∈ s, x.f2.length ≤ 1000000) : Ev (fun k => collatorref04_Same.f k s s) true := by
  unfold collatorref04_Same.f
  simp only [if_pos (rfl : (s.length : Int) = (s.length : Int))]
  exact same_loop s hs hl s 0 (by simp)
theorem toList_iff {x y : ByteArray} : x.toList = y.toList ↔ x = y := by
  constructor
  · intro h
    rw [ByteArray.toList_eq, ByteArray.toList_eq] at h
    cases x; cases y
    congr 1
    exact Array.toList_inj.1 h
  · intro h; rw [h]
theorem rd_at (l : List ByteArray) (i : Nat) (h : i < l.length) : rdOf ByteArray.empty l (i : Int) = l[i] := by
  simp [rdOf, List.getD_eq_getElem?_getD, List.getElem?_eq_getElem h]
theorem rdL_at (l : List (List ByteArray)) (i : Nat) (h : i < l.length) : rd_L1 l (i : Int) = l[i] := by
  simp [rd_L1, List.getD_eq_getElem?_getD, List.getElem?_eq_getElem h]
theorem wj {i : Nat} (h : i ≤ 1000000000) : wrap64 ((i : Int) + 1) = ((i + 1 : Nat) : Int) := by rw [w64 (by omega) (by omega)]; omega
/-- A row of the table: what is filled from `lo` on. -/
def tabRow (a b : List ByteArray) (i lo : Nat) : List Int := (List.range (b.length + 1)).map fun j => if lo ≤ j then (lcs (a.drop i) (b.drop j) : Int) else 0
/-- The table: rows behind `i` whole, row `i` from `m` on. -/
def tst (a b : List ByteArray) (i m : Nat) : List (List Int) := (List.range (a.length + 1)).map fun x => if x < i then [] else if x = i then tabRow a b i m else tabRow a b x 0
theorem row_len (a b : List ByteArray) (i lo : Nat) : (tabRow a b i lo).length = b.length + 1 := by simp [tabRow]
theorem tst_len (a b : List ByteArray) (i m : Nat) : (tst a b i m).length = a.length + 1 := by simp [tst]
theorem rd_row (a b : List ByteArray) (i lo j : Nat) (hj : j ≤ b.length) : rd (tabRow a b i lo) (j : Int) = if lo ≤ j then (lcs (a.drop i) (b.drop j) : Int) else 0 := by
  simp [rd, tabRow, List.getD_eq_getElem?_getD, List.getElem?_range (show j < b.length + 1 by omega)]
theorem rd_tst (a b : List ByteArray) (i m x : Nat) (hx : x ≤ a.length) : rd_L3 (tst a b i m) (x : Int) = if x < i then [] else if x = i then tabRow a b i m else tabRow a b x 0 := by
  simp [rd_L3, tst, List.getD_eq_getElem?_getD, List.getElem?_range (show x < a.length + 1 by omega)]
theorem set_map {α : Type} (n : Nat) (F G : Nat → α) (i : Nat) (r : α) (h : ∀ x, x < n → G x = if i = x then r else F x) : ((List.range n).map F).set i r = (List.range n).map G := by
  apply List.ext_getElem (by simp)
  intro x h1 h2
  have hx : x < n := by simpa using h2
  rw [List.getElem_set]
  simp only [List.getElem_map, List.getElem_range]
  rw [h x hx]
theorem row_set (a b : List ByteArray) (i m : Nat) (hm : m ≤ b.length) : (tabRow a b i (m + 1)).set m (lcs (a.drop i) (b.drop m) : Int) = tabRow a b i m := by
  unfold tabRow
  refine set_map _ _ _ _ _ (fun x _ => ?_)
  by_cases c : m = x
  · subst c; simp
  · rw [if_neg c]
    by_cases c2 : m ≤ x
    · rw [if_pos c2, if_pos (by omega)]
    · rw [if_neg c2, if_neg (by omega)]
theorem row_zero (a b : List ByteArray) (i : Nat) : List.replicate (b.length + 1) (0 : Int) = tabRow a b i b.length := by
  apply List.ext_getElem (by simp [tabRow])
  intro x h1 h2
  have hx : x < b.length + 1 := by simpa using h1
  simp only [List.getElem_replicate, tabRow, List.getElem_map, List.getElem_range]
  by_cases c : b.length ≤ x
  · rw [if_pos c, show b.drop x = [] from List.drop_of_length_le (by omega), lcs_nil']; rfl
  · rw [if_neg c]
theorem row_last (a b : List ByteArray) : tabRow a b a.length b.length = tabRow a b a.length 0 := by
  apply List.ext_getElem (by simp [tabRow])
  intro x h1 h2
  simp only [tabRow, List.getElem_map, List.getElem_range]
  rw [List.drop_of_length_le (Nat.le_refl _), lcs_nil]
  simp
theorem tst_set (a b : List ByteArray) (i m m' : Nat) (hi : i ≤ a.length) : (tst a b i m).set i (tabRow a b i m') = tst a b i m' := by
  unfold tst
  refine set_map _ _ _ _ _ (fun x _ => ?_)
  by_cases c : i = x
  · subst c; rw [if_neg (by omega), if_pos rfl, if_pos rfl]
  · rw [if_neg c]
    by_cases c2 : x < i
    · rw [if_pos c2, if_pos c2]
    · rw [if_neg c2, if_neg c2, if_neg (fun e => c e.symm), if_neg (fun e => c e.symm)]
theorem tst_next (a b : List ByteArray) (i m : Nat) (hi : i ≤ a.length) : (tst a b (i + 1) 0).set i (tabRow a b i m) = tst a b i m := by
  unfold tst
  refine set_map _ _ _ _ _ (fun x _ => ?_)
  by_cases c : i = x
  · subst c; rw [if_neg (by omega), if_pos rfl, if_pos rfl]
  · rw [if_neg c]
    by_cases c2 : x < i
    · rw [if_pos c2, if_pos (by omega)]
    · rw [if_neg c2, if_neg (show ¬ x = i from fun e => c e.symm), if_neg (show ¬ x < i + 1 by omega)]
      by_cases c3 : x = i + 1
      · subst c3; rw [if_pos rfl]
      · rw [if_neg c3]
theorem tst_start (a b : List ByteArray) : List.replicate (a.length + 1) ([] : List Int) = tst a b (a.length + 1) 0 := by
  apply List.ext_getElem (by simp [tst])
  intro x h1 h2
  have hx : x < a.length + 1 := by simpa using h1
  simp only [List.getElem_replicate, tst, List.getElem_map, List.getElem_range]
  rw [if_pos hx]
section
variable {a b : List ByteArray} (ha : a.length ≤ 1000) (hb : b.length ≤ 1000)
include ha hb
theorem tab_in (i : Nat) (hi : i ≤ a.length) (hn : Ev (fun k => collatorref05_table.l0 k a b (tst a b i 0) ((i : Int) - 1)) (tst a b 0 0)) : ∀ m : Nat, m ≤ b.length → Ev (fun k => collatorref05_table.l1 k a b (tst a b i m) (i : Int) ((m : Int) - 1)) (tst a b 0 0) := by
  have hw : wrap64 ((i : Int) - 1) = (i : Int) - 1 := w64 (by omega) (by omega)
  have out : ∀ m : Nat, tst a b i m = tst a b i 0 → Ev (fun k => collatorref05_table.j2 k a b (tst a b i m) (i : Int) ((m : Int) - 1) false) (tst a b 0 0) := by
    intro m e
    refine Ev.step (fun k => ?_) hn
    simp only [collatorref05_table.j2]
    rw [if_neg (by decide), hw, e]
  by_cases hlt : i < a.length
  · intro m
    induction m with
    | zero =>
      intro _
      refine Ev.step (fun k => ?_) (out 0 rfl)
      simp only [collatorref05_table.l1]
      rw [if_neg (by omega)]
    | succ m ih =>
      intro hm
      have em : ((m + 1 : Nat) : Int) - 1 = (m : Int) := by omega
      have ew : wrap64 ((m : Int) - 1) = (m : Int) - 1 := w64 (by omega) (by omega)
      have r1 : rd_L3 (tst a b i (m + 1)) (i : Int) = tabRow a b i (m + 1) := by rw [rd_tst _ _ _ _ _ hi, if_neg (by omega), if_pos rfl]
      have r2 : rd_L3 (tst a b i (m + 1)) ((i + 1 : Nat) : Int) = tabRow a b (i + 1) 0 := by rw [rd_tst _ _ _ _ _ (by omega), if_neg (by omega), if_neg (by omega)]
      have d1 : a.drop i = a[i] :: a.drop (i + 1) := (List.drop_eq_getElem_cons hlt)
      have d2 : b.drop m = b[m] :: b.drop (m + 1) := (List.drop_eq_getElem_cons (by omega))
      rw [em]
      have hnx := ih (by omega)
      have fin : ∀ v : Int, v = (lcs (a.drop i) (b.drop m) : Int) → (tst a b i (m + 1)).set (i : Int).toNat ((tabRow a b i (m + 1)).set (m : Int).toNat v) = tst a b i m := by
        intro v hv
        rw [hv, Int.toNat_natCast, Int.toNat_natCast, row_set _ _ _ _ (by omega), tst_set _ _ _ _ _ hi]
      refine Ev.step (f := fun k => collatorref05_table.j2 k a b (tst a b i (m + 1)) (i : Int) (m : Int) true) (fun k => ?_) ?_
      · simp only [collatorref05_table.l1]
        rw [if_pos (by omega), decide_eq_true (by omega)]
      · by_cases c : a[i] = b[m]
        · refine Ev.step (fun k => ?_) hnx
          simp only [collatorref05_table.j2]
          rw [if_pos (by decide), if_pos (by omega), if_pos (by omega), if_pos (by omega), if_pos (by omega), rd_at a i hlt, rd_at b m (by omega), if_pos (by rw [c]), wj (by omega), wj (by omega), tst_len, if_pos (by omega), if_pos (by omega), if_pos (by omega), if_pos (by omega), r1, r2, row_len, row_len, if_pos (by omega), if_pos (by omega), ew, rd_row _ _ _ _ _ (by omega), if_pos (by omega)]
          rw [fin _ (by rw [d1, d2, lcs_cons, if_pos c, w64 (by have := lcs_le_left (a.drop (i + 1)) (b.drop (m + 1)); rw [List.length_drop] at this; omega) (by have := lcs_le_left (a.drop (i + 1)) (b.drop (m + 1)); rw [List.length_drop] at this; omega)]; omega)]
        · refine Ev.step (fun k => ?_) hnx
          simp only [collatorref05_table.j2]
          rw [if_pos (by decide), if_pos (by omega), if_pos (by omega), if_pos (by omega), if_pos (by omega), rd_at a i hlt, rd_at b m (by omega), if_neg (fun h => c (toList_iff.1 h)), wj (by omega), wj (by omega), tst_len, if_pos (by omega), if_pos (by omega), if_pos (by omega), r1, r2, row_len, row_len, if_pos (by omega), if_pos (by omega), if_pos (by omega), if_pos (by omega), ew, rd_row _ _ _ _ _ (by omega), if_pos (by omega), rd_row _ _ _ _ _ (by omega), if_pos (by omega)]
          rw [fin _ (by rw [d1, d2, lcs_cons, if_neg c]; unfold mx; split <;> omega)]
  · intro m hm
    have e : i = a.length := by omega
    have em : tst a b i m = tst a b i 0 := by
      unfold tst
      congr 1
      funext x
      by_cases c : x < i
      · rw [if_pos c, if_pos c]
      · rw [if_neg c, if_neg c]
        by_cases c2 : x = i
        · rw [if_pos c2, if_pos c2]
          apply List.ext_getElem (by simp [tabRow])
          intro y h1 h2
          simp only [tabRow, List.getElem_map, List.getElem_range]
          rw [List.drop_of_length_le (by omega), lcs_nil]
          simp
        · rw [if_neg c2, if_neg c2]
    refine Ev.step (f := fun k => collatorref05_table.j2 k a b (tst a b i m) (i : Int) ((m : Int) - 1) false) (fun k => ?_) (out m em)
    simp only [collatorref05_table.l1]
    rw [show decide ((i : Int) < (a.length : Int)) = false from decide_eq_false (by omega)]
    split <;> rfl
theorem tab_out : ∀ n : Nat, n ≤ a.length + 1 → Ev (fun k => collatorref05_table.l0 k a b (tst a b n 0) ((n : Int) - 1)) (tst a b 0 0) := by
  intro n
  induction n with
  | zero =>
    intro _
    refine Ev.step (f := fun _ => some (tst a b 0 0)) (fun k => ?_) (Ev.now _)
    simp only [collatorref05_table.l0]; rw [if_neg (by omega)]
  | succ i ih =>
    intro hi
    have em : ((i + 1 : Nat) : Int) - 1 = (i : Int) := by omega
    rw [em]
    have ew : wrap64 ((b.length : Int) - 1) = (b.length : Int) - 1 := w64 (by omega) (by omega)
    refine Ev.step (fun k => ?_) (tab_in ha hb i (by omega) (ih (by omega)) b.length (Nat.le_refl _))
    simp only [collatorref05_table.l0]
    rw [if_pos (by omega), wj (by omega), if_pos (by omega), Int.toNat_natCast, if_pos (by omega), if_pos (by omega), tst_len, if_pos (by omega), row_zero a b i, Int.toNat_natCast, tst_next _ _ _ _ (by omega), ew]
theorem table_ev : Ev (fun k => collatorref05_table.f k a b) (tst a b 0 0) := by
  have h := tab_out ha hb (a.length + 1) (Nat.le_refl _)
  have em : ((a.length + 1 : Nat) : Int) - 1 = (a.length : Int) := by omega
  rw [em, ← tst_start] at h
  unfold collatorref05_table.f
  simp only [wj (show a.length ≤ 1000000000 by omega)]
  refine evpos (by omega) (evpos (by rw [Int.toNat_natCast]; omega) ?_)
  rw [Int.toNat_natCast]
  exact h
theorem rd_tab (x y : Nat) (hx : x ≤ a.length) (hy : y ≤ b.length) : rd (rd_L3 (tst a b 0 0) (x : Int)) (y : Int) = (lcs (a.drop x) (b.drop y) : Int) := by
  rw [rd_tst _ _ _ _ _ hx, if_neg (by omega)]
  have e : (if x = 0 then tabRow a b 0 0 else tabRow a b x 0) = tabRow a b x 0 := by split <;> simp_all
  rw [e, rd_row _ _ _ _ _ hy, if_pos (by omega)]
theorem len_tab (x : Nat) (hx : x ≤ a.length) : (rd_L3 (tst a b 0 0) (x : Int)).length = b.length + 1 := by
  rw [rd_tst _ _ _ _ _ hx, if_neg (by omega)]
  split <;> rw [row_len]
theorem rcommon_ev : Ev (fun k => collatorref05_Common.f k a b) (lcs a b : Int) := by
  unfold collatorref05_Common.f
  refine Ev.bind (table_ev ha hb) (evpos (by rw [tst_len]; omega) ?_)
  have e := len_tab ha hb 0 (Nat.zero_le _)
  have r := rd_tab ha hb 0 0 (Nat.zero_le _) (Nat.zero_le _)
  rw [List.drop_zero, List.drop_zero] at r
  refine evpos (by have : ((0 : Nat) : Int) = 0 := rfl; rw [this] at e; rw [e]; omega) ?_
  have : ((0 : Nat) : Int) = 0 := rfl
  rw [this] at r
  rw [r]
  exact Ev.now _
theorem rcost_ev : Ev (fun k => collatorref05_Cost.f k a b) (cost a b : Int) := by
  unfold collatorref05_Cost.f
  refine Ev.bind (rcommon_ev ha hb) ?_
  have h1 := lcs_le_left a b
  have h2 := lcs_le_right a b
  have e : wrap64 ((wrap64 ((a.length : Int) + (b.length : Int))) - (wrap64 (2 * (lcs a b : Int)))) = (cost a b : Int) := by
    rw [w64 (x := (a.length : Int) + (b.length : Int)) (by omega) (by omega), w64 (x := 2 * (lcs a b : Int)) (by omega) (by omega), w64 (by omega) (by omega)]
    unfold cost; omega
  rw [e]
  exact Ev.now _
end
theorem rdT_last (s : List S49) (x : S49) : rd_T49 (s ++ [x]) ((s.length : Nat) : Int) = x := by
  simp [rd_T49, List.getD_eq_getElem?_getD]
theorem with_ok {s : List S49} {n : Nat} (h : Bd n s) (hn : n ≤ 1000000) (op : Int) (ls : List ByteArray) (hl : ls.length ≤ 1000000) : collatorref05_with.f s op ls = some (note s op ls) := by
  rcases List.eq_nil_or_concat s with h0 | ⟨s0, x, h0⟩
  · subst h0
    rw [note_nil]
    simp [collatorref05_with.f]
  · rw [List.concat_eq_append] at h0
    subst h0
    have hx := h.2 x (by simp)
    have hlen := h.1
    rw [List.length_append, List.length_singleton] at hlen
    have el : (s0 ++ [x]).length = s0.length + 1 := by simp
    have ew : wrap64 (((s0.length + 1 : Nat) : Int) - 1) = ((s0.length : Nat) : Int) := by rw [w64 (by omega) (by omega)]; omega
    have e1 : wrap64 (x.f1 + 1) = x.f1 + 1 := w64 (by omega) (by omega)
    rw [note_snoc]
    unfold collatorref05_with.f
    rw [el, if_pos (by omega), ew, if_pos (by omega), if_pos (by omega), rdT_last, Int.toNat_natCast, List.take_left, e1]
    by_cases c : x.f0 = op
    · rw [if_pos c, if_pos c]
      simp only [List.nil_append, Option.bind_some, List.length_nil, Nat.zero_add, List.length_singleton]
      rw [if_pos (by omega), if_pos (by omega), if_pos (by omega), if_pos (by omega), if_pos (by omega)]
    · rw [if_neg c, if_neg c]
      simp only [List.nil_append, Option.bind_some, List.length_nil, Nat.zero_add, List.length_singleton, el]
      rw [if_pos (by omega), if_pos (by omega)]
section
variable {a b : List ByteArray} (ha : a.length ≤ 1000) (hb : b.length ≤ 1000)
include ha hb
theorem rdiff_loop (d : Nat) : ∀ (i j n : Nat) (s : List S49), i ≤ a.length → j ≤ b.length → (a.length - i) + (b.length - j) ≤ d → Bd n s → n + d ≤ 1000000 →
    Ev (fun k => collatorref05_Diff.l0 k a b (tst a b 0 0) s (i : Int) (j : Int)) (foldOn s (pth (a.drop i) (b.drop j))) := by
  induction d with
  | zero =>
    intro i j n s hi hj hd hB hn
    rw [List.drop_of_length_le (by omega), List.drop_of_length_le (by omega), pth_nil]
    refine Ev.step (f := fun k => collatorref05_Diff.j1 k a b (tst a b 0 0) s (i : Int) (j : Int) false) (fun k => ?_) (Ev.step (f := fun _ => some s) (fun k => ?_) (Ev.now _))
    · simp only [collatorref05_Diff.l0]; rw [if_neg (by omega), decide_eq_false (by omega)]
    · simp only [collatorref05_Diff.j1]; rw [if_neg (by decide)]
  | succ d ih =>
    intro i j n s hi hj hd hB hn
    have add : ∀ cj : j < b.length, (pth (a.drop i) (b.drop j) = (3, [b[j]]) :: pth (a.drop i) (b.drop (j + 1))) → Ev (fun k => collatorref05_Diff.j3 k a b (tst a b 0 0) s (i : Int) (j : Int) false) (foldOn s (pth (a.drop i) (b.drop j))) := by
      intro cj e
      rw [e, foldOn_cons]
      refine Ev.step (f := fun k => collatorref05_Diff.l0 k a b (tst a b 0 0) (note s 3 [b[j]]) (i : Int) ((j + 1 : Nat) : Int)) (fun k => ?_) (ih i (j + 1) (n + 1) _ hi (by omega) (by omega) (note_bd hB 3 (show [b[j]].length ≤ 1 from Nat.le_refl _)) (by omega))
      simp only [collatorref05_Diff.j3]
      rw [if_neg (by decide), if_pos (by omega), if_pos (by omega), rd_at b j cj, with_ok hB (by omega) 3 [b[j]] (by simp), wj (by omega)]
      rfl
    by_cases ci : i < a.length
    · have d1 : a.drop i = a[i] :: a.drop (i + 1) := (List.drop_eq_getElem_cons ci)
      refine Ev.step (f := fun k => collatorref05_Diff.j1 k a b (tst a b 0 0) s (i : Int) (j : Int) true) (fun k => by simp only [collatorref05_Diff.l0]; rw [if_pos (by omega)]) ?_
      have cut : (pth (a.drop i) (b.drop j) = (2, []) :: pth (a.drop (i + 1)) (b.drop j)) → Ev (fun k => collatorref05_Diff.j3 k a b (tst a b 0 0) s (i : Int) (j : Int) true) (foldOn s (pth (a.drop i) (b.drop j))) := by
        intro e
        rw [e, foldOn_cons]
        refine Ev.step (f := fun k => collatorref05_Diff.l0 k a b (tst a b 0 0) (note s 2 []) ((i + 1 : Nat) : Int) (j : Int)) (fun k => ?_) (ih (i + 1) j (n + 1) _ (by omega) hj (by omega) (note_bd hB 2 (show ([] : List ByteArray).length ≤ 1 from Nat.zero_le _)) (by omega))
        simp only [collatorref05_Diff.j3]
        rw [if_pos (by trivial), with_ok hB (by omega) 2 [] (by simp), wj (by omega)]
        rfl
      by_cases cj : j < b.length
      · have d2 : b.drop j = b[j] :: b.drop (j + 1) := (List.drop_eq_getElem_cons cj)
        by_cases c : a[i] = b[j]
        · refine Ev.step (f := fun k => collatorref05_Diff.j2 k a b (tst a b 0 0) s (i : Int) (j : Int) true) (fun k => ?_) ?_
          · simp only [collatorref05_Diff.j1]
            rw [if_pos (by trivial), if_pos (by omega), if_pos (by omega), if_pos (by omega), if_pos (by omega), rd_at a i ci, rd_at b j cj, c]
            simp
          · have e : pth (a.drop i) (b.drop j) = (1, []) :: pth (a.drop (i + 1)) (b.drop (j + 1)) := by rw [d1, d2, pth_cons, if_pos c]
            rw [e, foldOn_cons]
            refine Ev.step (f := fun k => collatorref05_Diff.l0 k a b (tst a b 0 0) (note s 1 []) ((i + 1 : Nat) : Int) ((j + 1 : Nat) : Int)) (fun k => ?_) (ih (i + 1) (j + 1) (n + 1) _ (by omega) (by omega) (by omega) (note_bd hB 1 (show ([] : List ByteArray).length ≤ 1 from Nat.zero_le _)) (by omega))
            simp only [collatorref05_Diff.j2]
            rw [if_pos (by trivial), with_ok hB (by omega) 1 [] (by simp), wj (by omega), wj (by omega)]
            rfl
        · have cl : ((rdOf ByteArray.empty a (i : Int)).toList == (rdOf ByteArray.empty b (j : Int)).toList) = false := by
            rw [rd_at a i ci, rd_at b j cj]
            exact beq_eq_false_iff_ne.2 (fun h => c (toList_iff.1 h))
          have e0 : pth (a.drop i) (b.drop j) = if lcs (a.drop i) (b.drop (j + 1)) ≤ lcs (a.drop (i + 1)) (b.drop j) then (2, []) :: pth (a.drop (i + 1)) (b.drop j) else (3, [b[j]]) :: pth (a.drop i) (b.drop (j + 1)) := by
            rw [d1, d2, pth_cons, if_neg c]
          refine Ev.step (f := fun k => collatorref05_Diff.j2 k a b (tst a b 0 0) s (i : Int) (j : Int) false) (fun k => ?_) ?_
          · simp only [collatorref05_Diff.j1]
            rw [if_pos (by trivial), if_pos (by omega), if_pos (by omega), if_pos (by omega), if_pos (by omega), cl]
          · refine Ev.step (f := fun k => collatorref05_Diff.j3 k a b (tst a b 0 0) s (i : Int) (j : Int) (decide ((lcs (a.drop (i + 1)) (b.drop j) : Int) ≥ (lcs (a.drop i) (b.drop (j + 1)) : Int)))) (fun k => ?_) ?_
            · simp only [collatorref05_Diff.j2]
              rw [if_neg (by decide), if_pos (by omega), if_neg (by omega), wj (by omega), wj (by omega), tst_len, len_tab ha hb _ (by omega), len_tab ha hb _ (by omega), if_pos (by omega), if_pos (by omega), if_pos (by omega), if_pos (by omega), if_pos (by omega), if_pos (by omega), if_pos (by omega), if_pos (by omega), rd_tab ha hb _ _ (by omega) (by omega), rd_tab ha hb _ _ (by omega) (by omega)]
            · by_cases cc : lcs (a.drop i) (b.drop (j + 1)) ≤ lcs (a.drop (i + 1)) (b.drop j)
              · rw [if_pos cc] at e0
                have h := cut e0
                rw [decide_eq_true (by omega)]
                exact h
              · rw [if_neg cc] at e0
                have h := add cj e0
                rw [decide_eq_false (by omega)]
                exact h
      · have ej : j = b.length := by omega
        refine Ev.step (f := fun k => collatorref05_Diff.j2 k a b (tst a b 0 0) s (i : Int) (j : Int) false) (fun k => ?_) (Ev.step (f := fun k => collatorref05_Diff.j3 k a b (tst a b 0 0) s (i : Int) (j : Int) true) (fun k => ?_) (cut ?_))
        · simp only [collatorref05_Diff.j1]
          rw [if_pos (by trivial), if_pos (by omega), if_neg (by omega)]
        · simp only [collatorref05_Diff.j2]
          rw [if_neg (by decide), if_pos (by omega), if_pos (by omega)]
        · rw [show b.drop j = [] from List.drop_of_length_le (by omega), d1, pth_cut]
    · have d1 : a.drop i = [] := List.drop_of_length_le (by omega)
      by_cases cj : j < b.length
      · have d2 : b.drop j = b[j] :: b.drop (j + 1) := (List.drop_eq_getElem_cons cj)
        refine Ev.step (f := fun k => collatorref05_Diff.j1 k a b (tst a b 0 0) s (i : Int) (j : Int) true) (fun k => ?_) (Ev.step (f := fun k => collatorref05_Diff.j2 k a b (tst a b 0 0) s (i : Int) (j : Int) false) (fun k => ?_) (Ev.step (f := fun k => collatorref05_Diff.j3 k a b (tst a b 0 0) s (i : Int) (j : Int) false) (fun k => ?_) (add cj ?_)))
        · simp only [collatorref05_Diff.l0]; rw [if_neg (by omega), decide_eq_true (by omega)]
        · simp only [collatorref05_Diff.j1]; rw [if_pos (by trivial), if_neg (by omega)]
        · simp only [collatorref05_Diff.j2]; rw [if_neg (by decide), if_neg (by omega)]
        · rw [d1, d2, pth_add]
      · rw [d1, List.drop_of_length_le (by omega), pth_nil]
        refine Ev.step (f := fun k => collatorref05_Diff.j1 k a b (tst a b 0 0) s (i : Int) (j : Int) false) (fun k => ?_) (Ev.step (f := fun _ => some s) (fun k => ?_) (Ev.now _))
        · simp only [collatorref05_Diff.l0]; rw [if_neg (by omega), decide_eq_false (by omega)]
        · simp only [collatorref05_Diff.j1]; rw [if_neg (by decide)]
theorem rdiff_ev : Ev (fun k => collatorref05_Diff.f k a b) (script a b) := by
  have h := rdiff_loop ha hb (a.length + b.length) 0 0 0 [] (Nat.zero_le _) (Nat.zero_le _) (by omega) ⟨by simp, by simp⟩ (by omega)
  rw [List.drop_zero, List.drop_zero] at h
  exact Ev.bind (table_ev ha hb) h
end
theorem diff_ok {a b : List ByteArray} (ha : a.length ≤ 1000000) (hb : b.length ≤ 1000000) : myers_Diff.f a b = some (script a b) := if_pos ⟨ha, hb⟩
theorem same_script (a b : List ByteArray) (ha : a.length ≤ 100) (hb : b.length ≤ 100) : Ev (fun k => collatorref04_Same.f k (script a b) (script a b)) true := by
  have h := script_bd a b
  exact same_ev _ (by omega) (fun x hx => by have := (h.2 x hx).2.2; omega)
section
variable {x : List (List ByteArray)} (hx : x.length ≤ 100) (ho : ∀ b ∈ x, b.length ≤ 100)
include hx ho
theorem tells_in (i : Nat) (hi : i < x.length) (hn : Ev (fun k => collatorlaw05_MyersTells.l0 k true x x (x.length : Int) ((i + 1 : Nat) : Int)) true) (d : Nat) : ∀ j : Nat, j + d = x.length → Ev (fun k => collatorlaw05_MyersTells.l1 k true x x[i] x (x.length : Int) (i : Int) x (x.length : Int) (j : Int)) true := by
  have oi := ho _ (List.getElem_mem hi)
  induction d with
  | zero =>
    intro j hj
    refine Ev.step (fun k => ?_) hn
    simp only [collatorlaw05_MyersTells.l1]
    rw [if_neg (by omega), wj (by omega)]
  | succ d ih =>
    intro j hj
    have hlt : j < x.length := by omega
    have oj := ho _ (List.getElem_mem hlt)
    have A : x[i].length ≤ 1000000 := by omega
    have B : x[j].length ≤ 1000000 := by omega
    have A' : x[i].length ≤ 1000 := by omega
    have B' : x[j].length ≤ 1000 := by omega
    refine Ev.step (f := fun k => (myers_Diff.f x[i] x[j]).bind fun t447 => (collatorref05_Diff.f k x[i] x[j]).bind fun t450 => (collatorref04_Same.f k t447 t450).bind fun t453 => if t453 = true then (myers_Cost.f x[i] x[j]).bind fun t454 => (collatorref05_Cost.f k x[i] x[j]).bind fun t455 => if t454 = t455 then (myers_Common.f x[i] x[j]).bind fun t456 => (collatorref05_Common.f k x[i] x[j]).bind fun t457 => if t456 = t457 then collatorlaw05_MyersTells.l1 k true x x[i] x (x.length : Int) (i : Int) x (x.length : Int) ((j + 1 : Nat) : Int) else some false else some false else some false) (fun k => ?_)
      (evval (diff_ok A B) (Ev.bind (rdiff_ev A' B') (Ev.bind (same_script _ _ oi oj) (evpos rfl (evval (cost_ok A B) (Ev.bind (rcost_ev A' B') (evpos rfl (evval (stay_ok A B) (Ev.bind (rcommon_ev A' B') (evpos rfl (ih (j + 1) (by omega))))))))))))
    simp only [collatorlaw05_MyersTells.l1]
    rw [if_pos (by omega), if_pos (by omega), if_pos (by omega), rdL_at x j hlt, wj (by omega)]
theorem tells_out (d : Nat) : ∀ i : Nat, i + d = x.length → Ev (fun k => collatorlaw05_MyersTells.l0 k true x x (x.length : Int) (i : Int)) true := by
  induction d with
  | zero =>
    intro i hi
    refine Ev.step (f := fun _ => some true) (fun k => ?_) (Ev.now _)
    simp only [collatorlaw05_MyersTells.l0]; rw [if_neg (by omega)]
  | succ d ih =>
    intro i hi
    refine Ev.step (fun k => ?_) (tells_in hx ho i (by omega) (ih (i + 1) (by omega)) x.length 0 (by omega))
    simp only [collatorlaw05_MyersTells.l0]; rw [if_pos (by omega), if_pos (by omega), if_pos (by omega), rdL_at x i (by omega)]; rfl
end
theorem mn_taken (l : List ByteArray) (hl : l.length ≤ maxLen) : 0 ≤ mn (l.length : Int) 20 ∧ mn (l.length : Int) 20 ≤ (l.length : Int) ∧ (l.take (mn (l.length : Int) 20).toNat).length ≤ 100 := by
  have e : mn (l.length : Int) 20 = ((min l.length 20 : Nat) : Int) := by unfold mn; split <;> omega
  rw [e, Int.toNat_natCast]
  exact ⟨by omega, by omega, by rw [List.length_take]; omega⟩
theorem MyersTells : collatorlaw05_MyersTells.Pure := by
  intro l0 l1 l2 l3 hm0 hr0 hw0 hm1 hr1 hw1 hm2 hr2 hw2 hm3 hr3 hw3
  obtain ⟨A, hA, fA, lA⟩ := lines_ev l2 hw2 hm2 40 (by decide)
  obtain ⟨B, hB, fB, lB⟩ := lines_ev l3 hw3 hm3 40 (by decide)
  obtain ⟨a1, a2, a3⟩ := mn_taken l0 hm0
  obtain ⟨b1, b2, b3⟩ := mn_taken l1 hm1
  have A4 : A.length ≤ 100 := Nat.le_trans fA.le (by decide)
  have B4 : B.length ≤ 100 := Nat.le_trans fB.le (by decide)
  refine Ev.rounds ?_
  unfold collatorlaw05_MyersTells.f
  refine evval awake5_ok (evpos a1 (evpos a2 (evpos b1 (evpos b2 (Ev.bind hA (Ev.bind hB ?_))))))
  refine tells_out (by simp) (fun b hb => ?_) 4 0 rfl
  simp only [List.mem_cons, List.not_mem_nil, or_false] at hb
  rcases hb with rfl | rfl | rfl | rfl
  · exact a3
  · exact b3
  · exact A4
  · exact B4
end Go.Proofs.Ythplelgkneipjaa.Pure
