/- RowsRight: Split undoes Join of lines that are right, and of no others: the plain law over the printed function, where all is small. -/
import Derived.Test.YthjihdfgamdhmaaEUpto
import Derived.Test.YthjihdfgamdhmaaQShared
import Derived.Test.YthjihdfgamdhmaaQCat
set_option linter.unusedVariables false
set_option linter.unusedSimpArgs false
namespace Go.Proofs.Ythjihdfgamdhmaa.Pure
open Go Go.RowKit Go.Proofs.Ythjihdfgamdhmaa.P Go.Proofs.YthjihdfgamdhmaaW.PrintWords Go.Proofs.YthjihdfgamdhmaaW.PrintLast Go.Proofs.YthjihdfgamdhmaaW.PrintMore Go.Proofs.Ythjihdfgamdhmaa.Q
theorem texts_loop (a b : List ByteArray) (hl : a.length = b.length) (ha : a.length ≤ 100000000) (d : Nat) : ∀ i, i + d = a.length → Ev (fun k => collatorref01_Texts.l0 k a b (i : Int)) (decide (a.drop i = b.drop i)) := by
  induction d with
  | zero =>
    intro i hi
    refine Ev.step (f := fun _ => some true) (fun k => ?_) ?_
    · simp only [collatorref01_Texts.l0]; rw [if_neg (by omega)]
    · rw [List.drop_eq_nil_of_le (by omega), List.drop_eq_nil_of_le (by omega)]; exact Ev.now _
  | succ d ih =>
    intro i hi
    have h1 : i < a.length := by omega
    have h2 : i < b.length := by omega
    rw [List.drop_eq_getElem_cons h1, List.drop_eq_getElem_cons h2]
    by_cases hc : a[i] = b[i]
    · have h3 := ih (i + 1) (by omega)
      have e : (decide (a[i] :: a.drop (i + 1) = b[i] :: b.drop (i + 1))) = decide (a.drop (i + 1) = b.drop (i + 1)) := decide_eq_decide.2 ⟨fun h => (List.cons.inj h).2, fun h => by rw [hc, h]⟩
      rw [e]
      refine Ev.step (fun k => ?_) h3
      simp only [collatorref01_Texts.l0]
      rw [if_pos (by omega), if_pos (by omega), if_pos (by omega), rdOf_at _ _ h1, rdOf_at _ _ h2, if_pos (by rw [hc]), w64 (by omega) (by omega)]
      rfl
    · have e : (decide (a[i] :: a.drop (i + 1) = b[i] :: b.drop (i + 1))) = false := decide_eq_false (fun h => hc (List.cons.inj h).1)
      rw [e]
      refine Ev.step (f := fun _ => some false) (fun k => ?_) (Ev.now _)
      simp only [collatorref01_Texts.l0]
      rw [if_pos (by omega), if_pos (by omega), if_pos (by omega), rdOf_at _ _ h1, rdOf_at _ _ h2, if_neg (fun h => hc (bytes_iff.1 h))]
theorem texts_ev (a b : List ByteArray) (ha : a.length ≤ 100000000) : Ev (fun k => collatorref01_Texts.f k a b) (decide (a = b)) := by
  unfold collatorref01_Texts.f
  by_cases h : a.length = b.length
  · exact evpos (by omega) (by have := texts_loop a b h ha a.length 0 (by omega); simpa using this)
  · rw [decide_eq_false (fun e => h (by rw [e]))]
    exact evneg (by omega) (Ev.now _)
/-- Lines of which one can tell. -/
def Some_ (X : List ByteArray) : Prop := (cat X).size ≤ 4000000 ∧ X.length ≤ 1000
theorem right_ok {X : List ByteArray} (h : Some_ X) : rows_Right.f X = some (decide (lines (cat X) = X)) := by
  unfold rows_Right.f
  rw [if_pos ⟨Nat.le_trans h.1 (by decide), Nat.le_trans h.2 (by decide)⟩]
theorem join_ok' {X : List ByteArray} (h : Some_ X) : rows_Join.f X = some (cat X) := by
  unfold rows_Join.f
  rw [if_pos ⟨Nat.le_trans h.1 (by decide), Nat.le_trans h.2 (by decide)⟩]
theorem right_l0 (l1 : List Int) (A : List ByteArray) (hA : Ev (fun k => collatorlaw03_Lines.f k l1 20) A) (hS : Some_ A) (hR : lines (cat A) = A) (LL : List (List ByteArray)) (hLL : LL.length ≤ 10) (hs : ∀ X ∈ LL, Some_ X) (d : Nat) : ∀ i : Nat, i + d = LL.length → Ev (fun k => collatorlaw03_RowsRight.l0 k l1 true LL (LL.length : Int) (i : Int)) true := by
  induction d with
  | zero =>
    intro i hi
    have hr := right_ok hS
    rw [decide_eq_true hR] at hr
    refine Ev.step (f := fun k => (collatorlaw03_Lines.f k l1 20).bind fun t134 => ((rows_Right.f t134).bind fun t137 => (some t137))) (fun k => ?_) (Ev.bind hA (evval hr (Ev.now _)))
    simp only [collatorlaw03_RowsRight.l0]
    rw [if_neg (by omega), if_pos trivial]
  | succ d ih =>
    intro i hi
    have h : i < LL.length := by omega
    have hX := hs LL[i] (List.getElem_mem h)
    have er : rd_L3 LL (i : Int) = LL[i] := by simp [rd_L3, List.getD_eq_getElem?_getD, List.getElem?_eq_getElem h]
    have hsp := split_ok (cat LL[i]) (Nat.le_trans hX.1 (by decide))
    have hlen := lines_length_le (cat LL[i])
    have ht := texts_ev (lines (cat LL[i])) LL[i] (by have := hX.1; omega)
    have hn := ih (i + 1) (by omega)
    refine Ev.step (f := fun k => (rows_Right.f LL[i]).bind fun t139 => ((rows_Join.f LL[i]).bind fun t140 => ((rows_Split.f t140).bind fun t141 => ((collatorref01_Texts.f k t141 LL[i]).bind fun t144 => (if (t139 != t144) = true then (some false) else (collatorlaw03_RowsRight.l0 k l1 true LL (LL.length : Int) ((i + 1 : Nat) : Int))))))) (fun k => ?_) ?_
    · simp only [collatorlaw03_RowsRight.l0]
      rw [if_pos (by omega), if_pos (by omega), if_pos (by omega), er, w64 (by omega) (by omega)]
      rfl
    · refine evval (right_ok hX) (evval (join_ok' hX) (evval hsp (Ev.bind ht ?_)))
      simp only [bne_self_eq_false, Bool.false_eq_true, if_false]
      exact hn
theorem cat_sum (L : List ByteArray) : (cat L).size = (L.map (·.size)).sum := by
  induction L with
  | nil => rfl
  | cons x L ih => rw [cat_cons, ByteArray.size_append, ih]; rfl
theorem lines_few (x : ByteArray) (hx : x ∈ few) (y : List UInt8) : lnL (x.data.toList ++ y) = x.data.toList :: lnL y := by
  simp only [few, List.mem_cons, List.not_mem_nil, or_false] at hx
  rcases hx with rfl | rfl | rfl | rfl | rfl <;> simp [lnL]
theorem cat_data (x : ByteArray) (L : List ByteArray) : (cat (x :: L)).data.toList = x.data.toList ++ (cat L).data.toList := by
  unfold cat
  rw [List.map_cons, List.flatten_cons, data_bts, data_bts]
theorem lines_of (L : List ByteArray) : (∀ j (h : j < L.length), L[j] ∈ few ∨ (L[j] = Q.last_ ∧ j + 1 = L.length)) → lines (cat L) = L := by
  induction L with
  | nil => intro _; rfl
  | cons x L ih =>
    intro h
    have h0 := h 0 (by simp)
    have ht : lines (cat L) = L := ih (fun j hj => by
      have := h (j + 1) (by simpa using hj)
      simpa using this)
    rcases h0 with h0 | ⟨h0, h1⟩
    · have h0' : x ∈ few := h0
      have e : lnL (cat (x :: L)).data.toList = x.data.toList :: lnL (cat L).data.toList := by rw [cat_data, lines_few x h0']
      have h2 : (lnL (cat (x :: L)).data.toList).map bts = x :: L := by
        rw [e, List.map_cons, bts_data]
        exact congrArg (x :: ·) ht
      exact h2
    · have hL : L = [] := by
        cases L with
        | nil => rfl
        | cons y L => simp at h1
      subst hL
      have h0' : x = Q.last_ := h0
      subst h0'
      decide
theorem some_fine {A : List ByteArray} (h : Fine A 20) : Some_ A := by
  refine ⟨?_, Nat.le_trans h.le (by decide)⟩
  have h1 := cat_size_le A 5 (fun x hx => h.size hx)
  have h2 := h.le
  omega
theorem some_set {A : List ByteArray} (h : Fine A 20) (i : Nat) (s : ByteArray) (hs : s.size ≤ 1048576) : Some_ (A.set i s) := by
  have h2 := h.le
  refine ⟨?_, by rw [List.length_set]; omega⟩
  have key : ∀ (l : List ByteArray) (i : Nat), (∀ x ∈ l, x.size ≤ 5) → ((l.set i s).map (·.size)).sum ≤ 5 * l.length + 1048576 := by
    intro l
    induction l with
    | nil => intro i _; simp
    | cons x l ih =>
      intro i hx
      have hl : (l.map (·.size)).sum ≤ 5 * l.length := by
        have := cat_size_le l 5 (fun y hy => hx y (List.mem_cons_of_mem _ hy))
        rw [cat_sum] at this
        exact this
      have h5 := hx x (by simp)
      cases i with
      | zero => simp only [List.set_cons_zero, List.map_cons, List.sum_cons, List.length_cons]; omega
      | succ i =>
        have := ih i (fun y hy => hx y (List.mem_cons_of_mem _ hy))
        simp only [List.set_cons_succ, List.map_cons, List.sum_cons, List.length_cons]
        omega
  have := key A i (fun x hx => h.size hx)
  rw [cat_sum]
  omega
theorem some_take (l : List ByteArray) (h : (l.map (·.size)).sum ≤ 1048576) (n : Nat) (hn : n ≤ 20) : Some_ (l.take n) := by
  refine ⟨?_, by rw [List.length_take]; omega⟩
  have h3 : (l.map (·.size)).sum = ((l.take n).map (·.size)).sum + ((l.drop n).map (·.size)).sum := by rw [← List.sum_append, ← List.map_append, List.take_append_drop]
  rw [cat_sum]
  omega
theorem right_j1 (l0 : List ByteArray) (l1 : List Int) (A X : List ByteArray) (h0 : (l0.map (·.size)).sum ≤ 1048576) (hA : Ev (fun k => collatorlaw03_Lines.f k l1 20) A) (hS : Some_ A) (hR : lines (cat A) = A) (hX : Some_ X) : Ev (fun k => collatorlaw03_RowsRight.j1 k l0 l1 true X) true := by
  have h1 : 0 ≤ mn (l0.length : Int) 20 := by unfold mn; split <;> omega
  have h2 : mn (l0.length : Int) 20 ≤ (l0.length : Int) := by unfold mn; split <;> omega
  have h3 : mn (l0.length : Int) 20 ≤ 20 := by unfold mn; split <;> omega
  obtain ⟨q, hmq⟩ : ∃ q : Int, mn (l0.length : Int) 20 = q := ⟨_, rfl⟩
  rw [hmq] at h1 h2 h3
  have hT := some_take l0 h0 q.toNat (by omega)
  have hl := right_l0 l1 A hA hS hR [l0.take q.toNat, X, A] (by simp) (by
    intro Y hY
    simp only [List.mem_cons, List.not_mem_nil, or_false] at hY
    rcases hY with rfl | rfl | rfl
    · exact hT
    · exact hX
    · exact hS) 3 0 (by simp)
  have hq : (q : Int) = ((q.toNat : Nat) : Int) := by omega
  refine Ev.step (f := fun k => (collatorlaw03_Lines.f k l1 20).bind fun t128 => ((some (([l0.take (q : Int).toNat, X, t128] : List (List ByteArray)) : List (List ByteArray))).bind fun y131 => (collatorlaw03_RowsRight.l0 k l1 true y131 (y131.length : Int) 0))) (fun k => ?_) (Ev.bind hA (evval rfl hl))
  simp only [collatorlaw03_RowsRight.j1]
  rw [hmq, if_pos h1, if_pos h2]
theorem RowsRight : Upto.Pure := by
  intro l0 l1 a2 a3 h0 hm1 hw1 hw2 h3 hm0
  obtain ⟨A, hA, fA, lA⟩ := lines_ev l1 hw1 hm1 20 (by decide)
  have a20 := fA.le
  have hS := some_fine fA
  have hR : lines (cat A) = A := lines_of A fA.most_
  have w2 := wf_range hw2
  have hj : ∀ X, Some_ X → Ev (fun k => collatorlaw03_RowsRight.j1 k l0 l1 true X) true := fun X hX => right_j1 l0 l1 A X h0 hA hS hR hX
  have h0j : Ev (fun k => collatorlaw03_RowsRight.j0 k l0 l1 a2 a3 true A false) true :=
    Ev.step (fun k => by simp only [collatorlaw03_RowsRight.j0, Bool.false_eq_true, if_false]) (hj A hS)
  refine Ev.rounds ?_
  refine evval awake3_ok (Ev.bind hA ?_)
  by_cases hp : (A.length : Int) > 0
  · refine evpos hp ?_
    by_cases hc : a2 ≥ 0
    · have e1 : 0 ≤ Int.tmod a2 (A.length : Int) := Int.tmod_nonneg _ hc
      have e2 : Int.tmod a2 (A.length : Int) < (A.length : Int) := Int.tmod_lt_of_pos _ hp
      refine Ev.step (fun k => ?_) (hj _ (some_set fA (Int.tmod a2 (A.length : Int)).toNat a3 h3))
      simp only [collatorlaw03_RowsRight.j0, decide_eq_true hc, if_true]
      rw [if_neg (by omega), if_pos e1, if_pos e2]
    · rw [decide_eq_false hc]
      exact h0j
  · exact evneg hp h0j
end Go.Proofs.Ythjihdfgamdhmaa.Pure
