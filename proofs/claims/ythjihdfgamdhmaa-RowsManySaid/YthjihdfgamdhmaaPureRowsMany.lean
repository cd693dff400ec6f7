/- RowsMany: there are as many lines as line feeds, and one more, if the last byte is none; lines have as many bytes as the text: the plain law over the printed function. -/
import Derived.Test.YthjihdfgamdhmaaPxf5
import Derived.Test.YthjihdfgamdhmaaQShared
import Derived.Test.YthjihdfgamdhmaaQCat
set_option linter.unusedVariables false
set_option linter.unusedSimpArgs false
namespace Go.Proofs.Ythjihdfgamdhmaa.Pure
open Go Go.RowKit Go.Proofs.Ythjihdfgamdhmaa.P Go.Proofs.YthjihdfgamdhmaaW.PrintWords Go.Proofs.YthjihdfgamdhmaaW.PrintLast Go.Proofs.YthjihdfgamdhmaaW.PrintMore Go.Proofs.Ythjihdfgamdhmaa.Q
theorem bt_nat (t : ByteArray) (i : Nat) (h : i < t.data.toList.length) : bt t (i : Int) = ((t.data.toList[i].toNat : Nat) : Int) := by
  have h' : i < t.size := h
  unfold bt
  rw [Int.toNat_natCast, dif_pos h']
  rfl
theorem ten_iff (c : UInt8) : ((c.toNat : Nat) : Int) = 10 ↔ c = 10 := by
  constructor
  · intro h
    have : c.toNat = 10 := by omega
    exact UInt8.toNat_inj.1 this
  · rintro rfl; rfl
def sumTo (L : List ByteArray) (i : Nat) : Nat := ((L.take i).map (·.size)).sum
theorem sumTo_succ (L : List ByteArray) (i : Nat) (h : i < L.length) : sumTo L (i + 1) = sumTo L i + L[i].size := by
  unfold sumTo
  rw [List.take_succ_eq_append_getElem h, List.map_append, List.sum_append]
  simp
theorem cat_sum (L : List ByteArray) : (cat L).size = (L.map (·.size)).sum := by
  induction L with
  | nil => rfl
  | cons x L ih => rw [cat_cons, ByteArray.size_append, ih]; rfl
theorem sumTo_all (t : ByteArray) : sumTo (lines t) (lines t).length = t.size := by
  unfold sumTo
  rw [List.take_length, ← cat_sum, lines_cat]
theorem sumTo_le (t : ByteArray) (i : Nat) : sumTo (lines t) i ≤ t.size := by
  have h : sumTo (lines t) i + (((lines t).drop i).map (·.size)).sum = t.size := by
    unfold sumTo
    rw [← List.sum_append, ← List.map_append, List.take_append_drop, ← cat_sum, lines_cat]
  omega
theorem many_l1 (t : ByteArray) (ht : t.size ≤ 200) (n : Int) (hn : ((lines t).length : Int) = n) (d : Nat) : ∀ (i : Nat), i + d = (lines t).length → Ev (fun k => collatorlaw03_RowsMany.l1 k true t (lines t) n ((sumTo (lines t) i : Nat) : Int) (i : Int)) true := by
  have hl := lines_length_le t
  induction d with
  | zero =>
    intro i hi
    have e : sumTo (lines t) i = t.size := by rw [show i = (lines t).length by omega]; exact sumTo_all t
    refine Ev.step (f := fun _ => some true) (fun k => ?_) (Ev.now _)
    simp only [collatorlaw03_RowsMany.l1]
    rw [if_neg (by omega), if_pos trivial, if_pos hn, e, beq_self_eq_true]
  | succ d ih =>
    intro i hi
    have h : i < (lines t).length := by omega
    have hne := lines_ne t (List.getElem_mem h)
    have hs := sumTo_le t (i + 1)
    rw [sumTo_succ _ _ h] at hs
    have hi1 := ih (i + 1) (by omega)
    rw [sumTo_succ _ _ h] at hi1
    refine Ev.step (fun k => ?_) hi1
    simp only [collatorlaw03_RowsMany.l1]
    rw [if_pos (by omega), if_pos (by omega), rdOf_at _ _ h, if_neg hne, w64 (by omega) (by omega), w64 (by omega) (by omega)]
    rfl
theorem many_j1 (t : ByteArray) (ht : t.size ≤ 200) (c : Nat) (b : Bool) (hc : (lines t).length = c + (if b = true then 1 else 0)) : Ev (fun k => collatorlaw03_RowsMany.j1 k true t (lines t) (c : Int) b) true := by
  have hl := lines_length_le t
  have go : ∀ n : Int, ((lines t).length : Int) = n → Ev (fun k => collatorlaw03_RowsMany.j2 k true t (lines t) n) true := fun n hn =>
    Ev.step (fun k => by simp only [collatorlaw03_RowsMany.j2]; rfl) (many_l1 t ht n hn (lines t).length 0 (by omega))
  cases b with
  | true =>
    have hc' : (lines t).length = c + 1 := hc
    refine Ev.step (fun k => ?_) (go ((c : Int) + 1) (by omega))
    simp only [collatorlaw03_RowsMany.j1]
    rw [if_pos trivial, w64 (by omega) (by omega)]
  | false =>
    have hc' : (lines t).length = c := hc
    refine Ev.step (fun k => ?_) (go (c : Int) (by omega))
    simp only [collatorlaw03_RowsMany.j1]
    rw [if_neg (by decide)]
theorem lines_len (t : ByteArray) : (lines t).length = t.data.toList.count 10 + lastNot t.data.toList := by
  unfold lines
  rw [List.length_map]
  exact lnL_count _
theorem many_l0 (t : ByteArray) (ht : t.size ≤ 200) (d : Nat) : ∀ (i : Nat), i + d = t.data.toList.length → Ev (fun k => collatorlaw03_RowsMany.l0 k true t (lines t) (((t.data.toList.take i).count 10 : Nat) : Int) (i : Int)) true := by
  have hlen : t.data.toList.length = t.size := rfl
  induction d with
  | zero =>
    intro i hi
    rw [List.take_of_length_le (by omega)]
    have hL := lines_len t
    by_cases he : t.toList = []
    · have hd : t.data.toList = [] := by rw [← ByteArray.toList_eq]; exact he
      have hln : lastNot t.data.toList = 0 := by rw [hd]; rfl
      refine Ev.step (fun k => ?_) (many_j1 t ht (t.data.toList.count 10) false (by rw [hL, hln]; rfl))
      simp only [collatorlaw03_RowsMany.l0]
      rw [if_neg (by omega), if_pos he]
    · have hd : t.data.toList ≠ [] := by rw [← ByteArray.toList_eq]; exact he
      have hpos : 0 < t.data.toList.length := List.length_pos_iff.2 hd
      have hg : t.data.toList.getLast? = some (t.data.toList[t.data.toList.length - 1]'(by omega)) := by
        rw [List.getLast?_eq_getElem?, List.getElem?_eq_getElem (by omega)]
      have ew : wrap64 ((t.size : Int) - 1) = ((t.data.toList.length - 1 : Nat) : Int) := by rw [w64 (by omega) (by omega)]; omega
      have eb := bt_nat t (t.data.toList.length - 1) (by omega)
      have hb : (lines t).length = t.data.toList.count 10 + (if (((t.data.toList[t.data.toList.length - 1]'(by omega)).toNat : Int) != 10) = true then 1 else 0) := by
        rw [hL]
        congr 1
        unfold lastNot
        rw [hg]
        simp only [bne_iff_ne, ne_eq]
        by_cases hc : t.data.toList[t.data.toList.length - 1]'(by omega) = 10
        · rw [if_pos hc, if_neg (fun h => h ((ten_iff _).2 hc))]
        · rw [if_neg hc, if_pos (fun h => hc ((ten_iff _).1 h))]
      refine Ev.step (fun k => ?_) (many_j1 t ht (t.data.toList.count 10) _ hb)
      simp only [collatorlaw03_RowsMany.l0]
      rw [if_neg (by omega), if_neg he, ew, if_pos (by omega), if_pos (by omega), eb]
  | succ d ih =>
    intro i hi
    have h : i < t.data.toList.length := by omega
    have hi1 := ih (i + 1) (by omega)
    rw [List.take_succ_eq_append_getElem h, List.count_append] at hi1
    have hle : (t.data.toList.take i).count 10 ≤ i := Nat.le_trans List.count_le_length (by rw [List.length_take]; omega)
    by_cases hc : t.data.toList[i] = 10
    · have e : [t.data.toList[i]].count 10 = 1 := by rw [hc]; rfl
      rw [e] at hi1
      refine Ev.step (fun k => ?_) hi1
      simp only [collatorlaw03_RowsMany.l0]
      rw [if_pos (by omega), if_pos (by omega), bt_nat t i h, if_pos ((ten_iff _).2 hc), w64 (by omega) (by omega), w64 (by omega) (by omega)]
      rfl
    · have e : [t.data.toList[i]].count 10 = 0 := by rw [List.count_cons_of_ne hc, List.count_nil]
      rw [e, Nat.add_zero] at hi1
      refine Ev.step (fun k => ?_) hi1
      simp only [collatorlaw03_RowsMany.l0]
      rw [if_pos (by omega), if_pos (by omega), bt_nat t i h, if_neg (fun h2 => hc ((ten_iff _).1 h2)), w64 (by omega) (by omega)]
      rfl
theorem many_ok (t : ByteArray) (ht : t.size ≤ 200) : Ev (fun k => (rows_Split.f t).bind fun t203 => collatorlaw03_RowsMany.l0 k true t t203 0 0) true :=
  evval (split_ok t (Nat.le_trans ht (by decide))) (many_l0 t ht t.data.toList.length 0 (Nat.zero_add _))
theorem cut_size (s : ByteArray) (j : Int) (h : j ≤ 200) : (s.extract 0 j.toNat).size ≤ 200 := by rw [ByteArray.size_extract]; omega
theorem RowsMany : collatorlaw03_RowsMany.Pure := by
  intro a0 h0
  have h1 : 0 ≤ mn (a0.size : Int) 200 := by unfold mn; split <;> omega
  have h2 : mn (a0.size : Int) 200 ≤ (a0.size : Int) := by unfold mn; split <;> omega
  have h3 : mn (a0.size : Int) 200 ≤ 200 := by unfold mn; split <;> omega
  have hm := many_ok _ (cut_size a0 _ h3)
  refine Ev.rounds ?_
  exact evval awake3_ok (evpos h1 (evpos h2 hm))
end Go.Proofs.Ythjihdfgamdhmaa.Pure
