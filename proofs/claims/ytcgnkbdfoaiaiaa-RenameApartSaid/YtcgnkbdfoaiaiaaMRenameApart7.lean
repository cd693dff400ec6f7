/- Texts of this claim, joined: QRef, QTree, QPairs, QOrder, PureRenameApart, EApartW. -/
import Derived.Test.YtcgnkbdfoaiaiaaMRenameApart1
import Derived.Test.YtcgnkbdfoaiaiaaMRenameApart3
import Derived.Test.YtcgnkbdfoaiaiaaMRenameApart5
import Derived.Test.YtcgnkbdfoaiaiaaMRenameApart2
import Derived.Test.YtcgnkbdfoaiaiaaMRenameApart6
section
/- What the document's own functions of layer 1 answer (out of the template PurePathsTells). -/
set_option linter.unusedVariables false
set_option linter.unusedSimpArgs false
namespace Go.Proofs.Ytcgnkbdfoaiaiaa.Q
open Go Go.RowKit Go.Proofs.Ytcgnkbdfoaiaiaa.P Go.Proofs.YtcgnkbdfoaiaiaaW.PrintWords Go.Proofs.YtcgnkbdfoaiaiaaW.PrintLast Go.Proofs.YtcgnkbdfoaiaiaaW.PrintMore
/-- The parts, and what is left of the one that is open. -/
theorem rsplit_loop (s : ByteArray) (hs : s.size ≤ 4000000) (d : Nat) : ∀ (i from_ : Nat) (acc : List ByteArray), i + d = s.size → from_ ≤ i → acc.length ≤ i → (∀ c ∈ ((tl s).drop from_).take (i - from_), c ≠ 47) →
    Ev (fun k => collatorref01_split.l0 k s acc (from_ : Int) (i : Int)) (acc ++ (parts ((tl s).drop from_)).map ofB) := by
  induction d with
  | zero =>
    intro i from_ acc hi hf ha hc
    have hno : (47 : UInt8) ∉ (tl s).drop from_ := fun h => by
      refine hc 47 ?_ rfl
      rw [List.take_of_length_le (by rw [List.length_drop, tl_size]; omega)]
      exact h
    rw [parts_one hno]
    have e : s.extract from_ s.size = ofB ((tl s).drop from_) := ofB_eq (tl_drop s from_)
    refine Ev.step (f := fun _ => some (acc ++ [ofB ((tl s).drop from_)])) (fun k => ?_) (Ev.now _)
    simp only [collatorref01_split.l0]
    rw [if_neg (by omega), if_pos (by omega), if_pos (by omega), if_pos (by omega), Int.toNat_natCast, e]
  | succ d ih =>
    intro i from_ acc hi hf ha hc
    have hlt : i < (tl s).length := by rw [tl_size]; omega
    have hget : (tl s)[i]? = some (tl s)[i] := List.getElem?_eq_getElem hlt
    have hb := bt_tl hget
    have hsplit : (tl s).drop from_ = ((tl s).drop from_).take (i - from_) ++ (tl s)[i] :: (tl s).drop (i + 1) := by
      have h1 : ((tl s).drop from_).drop (i - from_) = (tl s)[i] :: (tl s).drop (i + 1) := by
        rw [List.drop_drop, show from_ + (i - from_) = i by omega, List.drop_eq_getElem_cons hlt]
      rw [← h1, List.take_append_drop]
    by_cases c : (tl s)[i] = 47
    · have hno : (47 : UInt8) ∉ ((tl s).drop from_).take (i - from_) := fun h => hc 47 h rfl
      have e : s.extract from_ i = ofB (((tl s).drop from_).take (i - from_)) := ofB_eq (tl_cut s from_ i)
      have hn := ih (i + 1) (i + 1) (acc ++ [ofB (((tl s).drop from_).take (i - from_))]) (by omega) (Nat.le_refl _) (by rw [List.length_append, List.length_singleton]; omega) (fun x hx => by
        rw [Nat.sub_self, List.take_zero] at hx; cases hx)
      rw [hsplit, c, parts_app, parts_one hno, List.singleton_append, List.map_cons, ← List.singleton_append, ← List.append_assoc]
      refine Ev.step (fun k => ?_) hn
      simp only [collatorref01_split.l0]
      rw [if_pos (by omega), if_pos (by omega), hb, c, if_pos (by rfl), if_pos (by omega), if_pos (by omega), if_pos (by omega), if_pos (by omega), Int.toNat_natCast, Int.toNat_natCast, e, wi (by omega)]
    · have hn := ih (i + 1) from_ acc (by omega) (by omega) (by omega) (fun x hx => by
        have h2 : ((tl s).drop from_).take (i + 1 - from_) = ((tl s).drop from_).take (i - from_) ++ [(tl s)[i]] := by
          have h3 : i + 1 - from_ = (i - from_) + 1 := by omega
          have h4 : ((tl s).drop from_)[i - from_]? = some (tl s)[i] := by rw [List.getElem?_drop, show from_ + (i - from_) = i by omega, hget]
          rw [h3, List.take_add_one, h4]
          rfl
        rw [h2] at hx
        rcases List.mem_append.1 hx with hx | hx
        · exact hc x hx
        · rw [List.mem_singleton.1 hx]; exact c)
      refine Ev.step (fun k => ?_) hn
      simp only [collatorref01_split.l0]
      rw [if_pos (by omega), if_pos (by omega), hb, if_neg (fun h => c (UInt8.toNat_inj.1 (by have : ((47 : UInt8).toNat : Int) = 47 := rfl; omega))), wi (by omega)]
theorem rsplit_ev (s : ByteArray) (hs : s.size ≤ 4000000) : Ev (fun k => collatorref01_split.f k s) (pieces s) := by
  have h := rsplit_loop s hs s.size 0 0 [] (by omega) (Nat.le_refl _) (Nat.le_refl _) (fun c hc => by
    rw [Nat.sub_self, List.take_zero] at hc; cases hc)
  exact h
theorem may_l0 (s : ByteArray) (hs : s.size ≤ 4000000) (t : Bs) : ∀ i : Nat, (tl s).drop i = t → Ev (fun k => collatorref01_may.l0 k s (i : Int)) (decide ((0 : UInt8) ∉ t)) := by
  induction t with
  | nil =>
    intro i h
    have hi := drop_nil h
    rw [tl_size] at hi
    refine Ev.step (f := fun _ => some true) (fun k => ?_) (Ev.now _)
    simp only [collatorref01_may.l0]; rw [if_neg (by omega)]
  | cons c t ih =>
    intro i h
    obtain ⟨h1, h2, h3⟩ := drop_cons h
    rw [tl_size] at h1
    have hb := bt_tl h2
    by_cases hc : c = 0
    · rw [decide_eq_false (by rw [hc]; simp)]
      refine Ev.step (f := fun _ => some false) (fun k => ?_) (Ev.now _)
      simp only [collatorref01_may.l0]
      rw [if_pos (by omega), if_pos (by omega), hb, hc, if_pos (by rfl)]
    · have e : decide ((0 : UInt8) ∉ c :: t) = decide ((0 : UInt8) ∉ t) := by
        rw [decide_eq_decide, List.mem_cons, not_or]
        exact ⟨fun h => h.2, fun h => ⟨fun e => hc e.symm, h⟩⟩
      rw [e]
      refine Ev.step (fun k => ?_) (ih (i + 1) h3)
      simp only [collatorref01_may.l0]
      rw [if_pos (by omega), if_pos (by omega), hb, if_neg (fun h => hc (UInt8.toNat_inj.1 (by have : ((0 : UInt8).toNat : Int) = 0 := rfl; omega))), wi (by omega)]
theorem may_ev (s : ByteArray) (hs : s.size ≤ 4000000) : Ev (fun k => collatorref01_may.f k s) (!oddb (tl s)) := by
  have hj : ∀ b : Bool, Ev (fun k => collatorref01_may.j0 k s b) (if b = true then false else decide ((0 : UInt8) ∉ tl s)) := fun b => by
    cases b with
    | true =>
      refine Ev.step (f := fun _ => some false) (fun k => ?_) (Ev.now _)
      simp only [collatorref01_may.j0]; rw [if_true]
    | false =>
      refine Ev.step (fun k => ?_) (may_l0 s hs (tl s) 0 rfl)
      simp only [collatorref01_may.j0]; rw [if_neg (by decide)]; rfl
  have hl := tl_size s
  unfold collatorref01_may.f
  rw [toList_tl]
  by_cases h1 : tl s = []
  · have e : oddb (tl s) = true := decide_eq_true (.inl h1)
    rw [e]
    exact evpos h1 (hj true)
  · refine evneg h1 ?_
    by_cases h2 : tl s = [46]
    · have e : oddb (tl s) = true := decide_eq_true (.inr (.inl h2))
      rw [e]
      exact evpos h2 (hj true)
    · refine evneg h2 ?_
      by_cases h3 : tl s = [46, 46]
      · have e : oddb (tl s) = true := decide_eq_true (.inr (.inr (.inl h3)))
        rw [e]
        exact evpos h3 (hj true)
      · refine evneg h3 ?_
        by_cases h4 : (s.size : Int) > 64
        · have e : oddb (tl s) = true := decide_eq_true (.inr (.inr (.inr (.inl (by omega)))))
          rw [e, decide_eq_true h4]
          exact hj true
        · have e : (!oddb (tl s)) = decide ((0 : UInt8) ∉ tl s) := by
            unfold oddb
            rw [← decide_not, decide_eq_decide]
            constructor
            · intro h5 h6; exact h5 (.inr (.inr (.inr (.inr h6))))
            · rintro h5 (h6 | h6 | h6 | h6 | h6)
              · exact h1 h6
              · exact h2 h6
              · exact h3 h6
              · omega
              · exact h5 h6
          rw [e, decide_eq_false h4]
          exact hj false
theorem rcheck_loop (ps : List ByteArray) (hp : ps.length ≤ 1000000000000) (hz : ∀ q ∈ ps, q.size ≤ 4000000) (t : List ByteArray) : ∀ i : Nat, ps.drop i = t → Ev (fun k => collatorref01_Check.l0 k ps (i : Int)) (if (t.map tl).any oddb then 2 else if ps.length > 16 then 3 else 0) := by
  induction t with
  | nil =>
    intro i h
    have hi := drop_nil h
    refine Ev.step (f := fun _ => some _) (fun k => ?_) (Ev.now _)
    simp only [collatorref01_Check.l0]
    rw [if_neg (by omega)]
    show _ = some (if ps.length > 16 then (3 : Int) else 0)
    by_cases c : ps.length > 16
    · rw [if_pos (by omega), if_pos c]
    · rw [if_neg (by omega), if_neg c]
  | cons x t ih =>
    intro i h
    obtain ⟨h1, h2, h3⟩ := drop_cons h
    have hm := may_ev x (hz x (List.mem_of_getElem? h2))
    rw [List.map_cons, List.any_cons]
    refine Ev.step (f := fun k => (collatorref01_may.f k x).bind fun t161 => if t161 = true then collatorref01_Check.l0 k ps ((i + 1 : Nat) : Int) else some 2) (fun k => ?_) (Ev.bind hm ?_)
    · simp only [collatorref01_Check.l0]
      rw [if_pos (by omega), if_pos (by omega), rdB h2, wi (by omega)]
    · cases hx : oddb (tl x) with
      | true => exact evneg (by decide) (Ev.now _)
      | false => exact evpos rfl (ih (i + 1) h3)
theorem pieces_small (s : ByteArray) : ∀ q ∈ pieces s, q.size ≤ s.size := by
  have gen : ∀ l : Bs, ∀ p ∈ parts l, p.length ≤ l.length := by
    intro l
    induction l with
    | nil => intro p hp; rw [parts_nil, List.mem_singleton] at hp; rw [hp]; exact Nat.le_refl _
    | cons c l ih =>
      intro p hp
      by_cases hc : c = 47
      · subst hc
        rw [parts_slash] at hp
        rcases List.mem_cons.1 hp with rfl | hp
        · exact Nat.zero_le _
        · have := ih p hp; rw [List.length_cons]; omega
      · obtain ⟨q, qs, h⟩ := parts_ne l
        rw [parts_cons hc h] at hp
        rcases List.mem_cons.1 hp with rfl | hp
        · have := ih q (by rw [h]; exact List.mem_cons_self); simp only [List.length_cons]; omega
        · have := ih p (by rw [h]; exact List.mem_cons_of_mem _ hp); rw [List.length_cons]; omega
  intro q hq
  obtain ⟨p, hp, rfl⟩ := List.mem_map.1 hq
  have := gen (tl s) p hp
  rw [ofB_size, ← tl_size]
  exact this
theorem rcheck_ev (s : ByteArray) (hs : s.size ≤ 4000000) : Ev (fun k => collatorref01_Check.f k s) (Q.chk (parts (tl s))) := by
  unfold collatorref01_Check.f
  refine Ev.bind (rsplit_ev s hs) ?_
  have hl := pieces_length s
  have := rcheck_loop (pieces s) (by omega) (fun q hq => Nat.le_trans (pieces_small s q hq) hs) (pieces s) 0 rfl
  rw [pieces_tl] at this
  have e : (pieces s).length = (parts (tl s)).length := List.length_map ..
  rw [e] at this
  exact this
theorem rparts_ev (s : ByteArray) (hs : s.size ≤ 4000000) : Ev (fun k => collatorref01_Parts.f k s) (if Q.chk (parts (tl s)) = 0 then pieces s else []) := by
  unfold collatorref01_Parts.f
  refine Ev.bind (rcheck_ev s hs) ?_
  by_cases c : Q.chk (parts (tl s)) = 0
  · have e : (if Q.chk (parts (tl s)) = 0 then pieces s else []) = pieces s := if_pos c
    rw [e]
    exact evpos c (Ev.bind (rsplit_ev s hs) (Ev.now _))
  · have e : (if Q.chk (parts (tl s)) = 0 then pieces s else []) = [] := if_neg c
    rw [e]
    exact evneg c (Ev.now _)
theorem ok_parts {ps : List Bs} (h : Q.chk ps = 0) : ∀ p ∈ ps, p ≠ [] := by
  intro p hp he
  unfold Q.chk at h
  have : ps.any oddb = true := List.any_eq_true.2 ⟨p, hp, by rw [he]; rfl⟩
  rw [if_pos this] at h
  cases h
theorem rdir_loop (ps : List Bs) (hn : ∀ p ∈ ps, p ≠ []) (hp : ps.length ≤ 4000001) (d : Nat) : ∀ (i : Nat), i + d + 1 = ps.length → (∀ j, (glue (ps.take j)).length ≤ 3000000) → (∀ p ∈ ps, p.length ≤ 3000000) → Ev (fun k => collatorref01_Dir.l0 k (ps.map ofB) (ofB (glue (ps.take i))) (i : Int)) (ofB (glue ps.dropLast)) := by
  have hl : (ps.map ofB).length = ps.length := List.length_map ..
  induction d with
  | zero =>
    intro i hi h1 h2
    refine Ev.step (f := fun _ => some (ofB (glue ps.dropLast))) (fun k => ?_) (Ev.now _)
    simp only [collatorref01_Dir.l0]
    rw [wi (by omega), if_neg (by omega), List.dropLast_eq_take, show ps.length - 1 = i by omega]
  | succ d ih =>
    intro i hi h1 h2
    have hlt : i < ps.length := by omega
    have hget : (ps.map ofB)[i]? = some (ofB ps[i]) := by rw [List.getElem?_map, List.getElem?_eq_getElem hlt]; rfl
    have hj := rjoin_ok (d := ofB (glue (ps.take i))) (n := ofB ps[i]) (by rw [ofB_size]; have := h1 i; omega) (by rw [ofB_size]; have := h2 _ (List.getElem_mem hlt); omega)
    have e : joinB (tl (ofB (glue (ps.take i)))) (tl (ofB ps[i])) = glue (ps.take (i + 1)) := by
      rw [tl_ofB, tl_ofB, List.take_succ_eq_append_getElem hlt]
      by_cases c : ps.take i = []
      · rw [c]; rfl
      · rw [glue_snoc c]
        unfold joinB
        rw [if_neg (glue_ne c (fun q hq => hn q (List.mem_of_mem_take hq)))]
    rw [e] at hj
    refine Ev.step (fun k => ?_) (ih (i + 1) (by omega) h1 h2)
    simp only [collatorref01_Dir.l0]
    rw [wi (by omega), if_pos (by omega), if_pos (by omega), if_pos (by omega), rdB hget, hj, Option.bind_some]
theorem glue_take (ps : List Bs) (j : Nat) : (glue (ps.take j)).length ≤ (glue ps).length := by
  by_cases c1 : ps.take j = []
  · rw [c1]; exact Nat.zero_le _
  · by_cases c2 : ps.drop j = []
    · have := List.take_append_drop j ps
      rw [c2, List.append_nil] at this
      rw [this]
      exact Nat.le_refl _
    · have := glue_app _ _ c1 c2
      rw [List.take_append_drop] at this
      rw [this, List.length_append]
      omega
theorem rdir_ev (s : ByteArray) (hs : s.size ≤ 1000) : Ev (fun k => collatorref01_Dir.f k s) (ofB (dirB (tl s))) := by
  unfold collatorref01_Dir.f dirB
  refine Ev.bind (rparts_ev s (by omega)) ?_
  by_cases c : Q.chk (parts (tl s)) = 0
  · rw [if_pos c, if_pos c]
    obtain ⟨p, ps, hp⟩ := parts_ne (tl s)
    have hl := parts_length (tl s)
    rw [tl_size] at hl
    refine rdir_loop (parts (tl s)) (ok_parts c) (by omega) ((parts (tl s)).length - 1) 0 (by rw [hp]; simp) (fun j => ?_) (fun q hq => ?_)
    · have := glue_take (parts (tl s)) j
      rw [glue_parts, tl_size] at this
      omega
    · have := pieces_small s (ofB q) (List.mem_map_of_mem hq)
      rw [ofB_size] at this
      omega
  · rw [if_neg c, if_neg c]
    refine Ev.step (f := fun _ => some (⟨#[]⟩ : ByteArray)) (fun k => ?_) (Ev.now _)
    simp only [collatorref01_Dir.l0]
    have e : wrap64 ((0 : Int) + 1) = 1 := (w64 (x := (0 : Int) + 1) (by omega) (by omega)).trans (by omega)
    rw [e, if_neg (by decide)]
theorem less_cmp (a b : Bs) : Op.bytesLess a b = decide (bcmp a b < 0) := by
  induction a generalizing b with
  | nil => cases b <;> rfl
  | cons x a ih =>
    cases b with
    | nil => rfl
    | cons y b =>
      show (decide (x < y) || (x == y && Op.bytesLess a b)) = _
      rw [bcmp_cons, ih b]
      by_cases c1 : x.toNat < y.toNat
      · rw [if_pos c1, decide_eq_true (UInt8.lt_iff_toNat_lt.2 c1)]; rfl
      · have h1 : ¬ x < y := fun h => c1 (UInt8.lt_iff_toNat_lt.1 h)
        rw [if_neg c1, decide_eq_false h1, Bool.false_or]
        by_cases c2 : y.toNat < x.toNat
        · have h2 : (x == y) = false := by rw [beq_eq_false_iff_ne]; intro h; rw [h] at c2; omega
          rw [if_pos c2, h2]; rfl
        · have h2 : (x == y) = true := by rw [beq_iff_eq]; exact UInt8.toNat_inj.1 (by omega)
          rw [if_neg c2, h2, Bool.true_and]
theorem bcmp_neg (a b : Bs) : bcmp b a = -bcmp a b := lex_neg _ _
theorem rcompare_loop (xs ys : List Bs) (hx : xs.length ≤ 100000) (hy : ys.length ≤ 100000) (u : List Bs) : ∀ (v : List Bs) (i : Nat), xs.drop i = u → ys.drop i = v → i ≤ xs.length → i ≤ ys.length → Ev (fun k => collatorref01_Compare.l0 k (xs.map ofB) (ys.map ofB) (i : Int)) (cmpP u v) := by
  have lx : (xs.map ofB).length = xs.length := List.length_map ..
  have ly : (ys.map ofB).length = ys.length := List.length_map ..
  induction u with
  | nil =>
    intro v i hu hv h1 h2
    have g1 := drop_nil hu
    refine Ev.step (f := fun k => collatorref01_Compare.j1 k (xs.map ofB) (ys.map ofB) (i : Int) false) (fun k => ?_) (Ev.step (f := fun _ => some (cmpP [] v)) (fun k => ?_) (Ev.now _))
    · simp only [collatorref01_Compare.l0]; rw [if_neg (by omega)]
    · simp only [collatorref01_Compare.j1]
      rw [if_neg (by decide)]
      cases v with
      | nil =>
        have g2 := drop_nil hv
        rw [if_neg (by omega), if_neg (by omega)]; rfl
      | cons y v =>
        obtain ⟨g2, _, _⟩ := drop_cons hv
        rw [if_pos (by omega)]; rfl
  | cons x u ih =>
    intro v i hu hv h1 h2
    obtain ⟨a1, a2, a3⟩ := drop_cons hu
    cases v with
    | nil =>
      have g2 := drop_nil hv
      refine Ev.step (f := fun k => collatorref01_Compare.j1 k (xs.map ofB) (ys.map ofB) (i : Int) false) (fun k => ?_) (Ev.step (f := fun _ => some (cmpP (x :: u) [])) (fun k => ?_) (Ev.now _))
      · simp only [collatorref01_Compare.l0]; rw [if_pos (by omega), decide_eq_false (by omega : ¬ (i : Int) < ((ys.map ofB).length : Int))]
      · simp only [collatorref01_Compare.j1]
        rw [if_neg (by decide), if_neg (by omega), if_pos (by omega)]; rfl
    | cons y v =>
      obtain ⟨b1, b2, b3⟩ := drop_cons hv
      have ga : (xs.map ofB)[i]? = some (ofB x) := by rw [List.getElem?_map, a2]; rfl
      have gb : (ys.map ofB)[i]? = some (ofB y) := by rw [List.getElem?_map, b2]; rfl
      have hn := ih v (i + 1) a3 b3 (by omega) (by omega)
      have hng := bcmp_neg x y
      show Ev _ (if bcmp x y < 0 then (-1 : Int) else if bcmp x y > 0 then 1 else cmpP u v)
      refine Ev.step (f := fun k => collatorref01_Compare.j1 k (xs.map ofB) (ys.map ofB) (i : Int) true) (fun k => ?_) ?_
      · simp only [collatorref01_Compare.l0]; rw [if_pos (by omega), decide_eq_true (by omega : (i : Int) < ((ys.map ofB).length : Int))]
      · by_cases c1 : bcmp x y < 0
        · rw [if_pos c1]
          refine Ev.step (f := fun _ => some (-1)) (fun k => ?_) (Ev.now _)
          simp only [collatorref01_Compare.j1]
          rw [if_true, if_pos (by omega), if_pos (by omega), if_pos (by omega), rdB ga, rdB gb, toList_tl, toList_tl, tl_ofB, tl_ofB, less_cmp, if_pos (decide_eq_true c1)]
        · rw [if_neg c1]
          by_cases c2 : bcmp x y > 0
          · rw [if_pos c2]
            refine Ev.step (f := fun _ => some 1) (fun k => ?_) (Ev.now _)
            simp only [collatorref01_Compare.j1]
            rw [if_true, if_pos (by omega), if_pos (by omega), if_pos (by omega), rdB ga, rdB gb, toList_tl, toList_tl, tl_ofB, tl_ofB, less_cmp, less_cmp, if_neg (by rw [decide_eq_false c1]; decide), if_pos (decide_eq_true (by omega))]
          · rw [if_neg c2]
            refine Ev.step (fun k => ?_) hn
            simp only [collatorref01_Compare.j1]
            rw [if_true, if_pos (by omega), if_pos (by omega), if_pos (by omega), rdB ga, rdB gb, toList_tl, toList_tl, tl_ofB, tl_ofB, less_cmp, less_cmp, if_neg (by rw [decide_eq_false c1]; decide), if_neg (by rw [decide_eq_false (by omega : ¬ bcmp y x < 0)]; decide), wi (by omega)]
theorem rcompare_ev (a b : ByteArray) (ha : a.size ≤ 1000) (hb : b.size ≤ 1000) : Ev (fun k => collatorref01_Compare.f k a b) (pcmp (tl a) (tl b)) := by
  unfold collatorref01_Compare.f
  refine Ev.bind (rsplit_ev a (by omega)) (Ev.bind (rsplit_ev b (by omega)) ?_)
  have h1 := parts_length (tl a)
  have h2 := parts_length (tl b)
  rw [tl_size] at h1 h2
  have h := rcompare_loop (parts (tl a)) (parts (tl b)) (by omega) (by omega) _ _ 0 rfl rfl (by omega) (by omega)
  rw [List.drop_zero, List.drop_zero, cmp_parts] at h
  exact h
end Go.Proofs.Ytcgnkbdfoaiaiaa.Q
end
section
/- Trees of raw items: what collatorlaw02.Tree makes: at most two hundred items, short paths, short texts, no path twice. -/
set_option linter.unusedVariables false
set_option linter.unusedSimpArgs false
namespace Go.Proofs.Ytcgnkbdfoaiaiaa.Q
open Go Go.RowKit Go.Proofs.Ytcgnkbdfoaiaiaa.P Go.Proofs.YtcgnkbdfoaiaiaaW.PrintWords Go.Proofs.YtcgnkbdfoaiaiaaW.PrintLast Go.Proofs.YtcgnkbdfoaiaiaaW.PrintMore
abbrev It := S33
abbrev Rw := S41
theorem rdIt {s : List It} {i : Nat} {x : It} (h : s[i]? = some x) : rd_T33 s (i : Int) = x := by
  unfold rd_T33
  rw [Int.toNat_natCast, List.getD_eq_getElem?_getD, h]; rfl
theorem rdRw {s : List Rw} {i : Nat} {x : Rw} (h : s[i]? = some x) : rd_T41 s (i : Int) = x := by
  unfold rd_T41
  rw [Int.toNat_natCast, List.getD_eq_getElem?_getD, h]; rfl
def cnt (t : List It) (p : ByteArray) : Nat := t.countP (fun x => decide (x.f0 = p))
theorem count_loop (t : List It) (p : ByteArray) (ht : t.length ≤ 100000) (d : Nat) : ∀ i n : Nat, i + d = t.length → n ≤ i → Ev (fun k => collatorref02_count.l0 k t p (n : Int) (i : Int)) ((n + cnt (t.drop i) p : Nat) : Int) := by
  induction d with
  | zero =>
    intro i n hi hn
    rw [List.drop_eq_nil_of_le (by omega)]
    refine Ev.step (f := fun _ => some ((n : Nat) : Int)) (fun k => ?_) (Ev.now _)
    simp only [collatorref02_count.l0]
    rw [if_neg (by omega)]
  | succ d ih =>
    intro i n hi hn
    have hlt : i < t.length := by omega
    have hg : t[i]? = some t[i] := List.getElem?_eq_getElem hlt
    rw [List.drop_eq_getElem_cons hlt]
    unfold cnt at ih ⊢
    rw [List.countP_cons]
    by_cases c : t[i].f0 = p
    · rw [decide_eq_true c, if_pos rfl]
      have h := ih (i + 1) (n + 1) (by omega) (by omega)
      rw [show n + (List.countP (fun x => decide (x.f0 = p)) (t.drop (i + 1)) + 1) = n + 1 + List.countP (fun x => decide (x.f0 = p)) (t.drop (i + 1)) by omega]
      refine Ev.step (fun k => ?_) h
      simp only [collatorref02_count.l0]
      rw [if_pos (by omega), if_pos (by omega), rdIt hg, if_pos (by rw [c]), wi (by omega), wi (by omega)]
    · rw [decide_eq_false c, if_neg (by decide), Nat.add_zero]
      refine Ev.step (fun k => ?_) (ih (i + 1) n (by omega) (by omega))
      simp only [collatorref02_count.l0]
      rw [if_pos (by omega), if_pos (by omega), rdIt hg, if_neg (fun h => c (toList_eq_iff.1 h)), wi (by omega)]
theorem count_ev (t : List It) (p : ByteArray) (ht : t.length ≤ 100000) : Ev (fun k => collatorref02_count.f k t p) ((cnt t p : Nat) : Int) := by
  have h := count_loop t p ht t.length 0 0 (by omega) (Nat.le_refl _)
  rw [Nat.zero_add] at h
  exact h
theorem find_loop (t : List It) (p : ByteArray) (ht : t.length ≤ 100000) (d : Nat) : ∀ i : Nat, i + d = t.length → ∃ r, Ev (fun k => collatorref02_Find.l0 k t p (i : Int)) r := by
  induction d with
  | zero =>
    intro i hi
    refine ⟨_, Ev.step (f := fun _ => some ((⟨#[]⟩ : ByteArray), 0, (⟨#[]⟩ : ByteArray), false, false)) (fun k => ?_) (Ev.now _)⟩
    simp only [collatorref02_Find.l0]
    rw [if_neg (by omega)]
  | succ d ih =>
    intro i hi
    have hlt : i < t.length := by omega
    have hg : t[i]? = some t[i] := List.getElem?_eq_getElem hlt
    by_cases c : t[i].f0 = p
    · refine ⟨_, Ev.step (f := fun _ => some (t[i].f0, t[i].f1, t[i].f2, t[i].f3, true)) (fun k => ?_) (Ev.now _)⟩
      simp only [collatorref02_Find.l0]
      rw [if_pos (by omega), if_pos (by omega), rdIt hg, if_pos (by rw [c])]
    · obtain ⟨r, h⟩ := ih (i + 1) (by omega)
      refine ⟨r, Ev.step (fun k => ?_) h⟩
      simp only [collatorref02_Find.l0]
      rw [if_pos (by omega), if_pos (by omega), rdIt hg, if_neg (fun h => c (toList_eq_iff.1 h)), wi (by omega)]
theorem find_ev (t : List It) (p : ByteArray) (ht : t.length ≤ 100000) : ∃ r, Ev (fun k => collatorref02_Find.f k t p) r := find_loop t p ht t.length 0 (by omega)
theorem dir_loop (t : List It) (p : ByteArray) (ht : t.length ≤ 100000) (d : Nat) : ∀ i : Nat, i + d = t.length → ∃ r, Ev (fun k => collatorref02_dir.l0 k t p (i : Int)) r := by
  induction d with
  | zero =>
    intro i hi
    refine ⟨_, Ev.step (f := fun _ => some false) (fun k => ?_) (Ev.now _)⟩
    simp only [collatorref02_dir.l0]
    rw [if_neg (by omega)]
  | succ d ih =>
    intro i hi
    have hlt : i < t.length := by omega
    have hg : t[i]? = some t[i] := List.getElem?_eq_getElem hlt
    obtain ⟨r, h⟩ := ih (i + 1) (by omega)
    by_cases c : t[i].f0 = p
    · by_cases c2 : t[i].f1 = 1
      · refine ⟨_, Ev.step (f := fun _ => some true) (fun k => ?_) (Ev.now _)⟩
        simp only [collatorref02_dir.l0]
        rw [if_pos (by omega), if_pos (by omega), rdIt hg, if_pos (by rw [c]), if_pos c2]
      · refine ⟨r, Ev.step (fun k => ?_) h⟩
        simp only [collatorref02_dir.l0]
        rw [if_pos (by omega), if_pos (by omega), rdIt hg, if_pos (by rw [c]), if_neg c2, wi (by omega)]
    · refine ⟨r, Ev.step (fun k => ?_) h⟩
      simp only [collatorref02_dir.l0]
      rw [if_pos (by omega), if_pos (by omega), rdIt hg, if_neg (fun h => c (toList_eq_iff.1 h)), wi (by omega)]
theorem idir_ev (t : List It) (p : ByteArray) (ht : t.length ≤ 100000) : ∃ r, Ev (fun k => collatorref02_dir.f k t p) r := dir_loop t p ht t.length 0 (by omega)
theorem ite_ev {α : Type} {c : Prop} [Decidable c] {f g : Nat → Option α} (hf : ∃ r, Ev f r) (hg : ∃ r, Ev g r) : ∃ r, Ev (fun k => if c then f k else g k) r := by
  by_cases h : c
  · obtain ⟨r, hr⟩ := hf; exact ⟨r, evpos h hr⟩
  · obtain ⟨r, hr⟩ := hg; exact ⟨r, evneg h hr⟩
theorem now_ev {α : Type} (r : α) : ∃ q, Ev (fun _ => some r) q := ⟨r, Ev.now r⟩
theorem some_loop (t : List It) (p : ByteArray) (n m : Int) (ht : t.length ≤ 100000) (d : Nat) : ∀ i : Nat, i + d = t.length → ∃ r, Ev (fun k => collatorref02_some.l0 k t p n m (i : Int)) r := by
  induction d with
  | zero =>
    intro i hi
    refine ⟨_, Ev.step (f := fun _ => some false) (fun k => ?_) (Ev.now _)⟩
    simp only [collatorref02_some.l0]
    rw [if_neg (by omega)]
  | succ d ih =>
    intro i hi
    have hlt : i < t.length := by omega
    have hg : t[i]? = some t[i] := List.getElem?_eq_getElem hlt
    have hn := ih (i + 1) (by omega)
    have hj : ∀ (b : Bool) (q0 : ByteArray) (q1 : Int) (q2 : ByteArray) (q3 : Bool), ∃ r, Ev (fun k => collatorref02_some.j1 k t p n m (i : Int) b q0 q1 q2 q3) r := by
      intro b q0 q1 q2 q3
      have h : ∃ r, Ev (fun k => if b = true then (some true) else (if m = 7 then (if (q2.size : Int) > n then (some true) else (if m = 9 then (if q3 = true then (some true) else (collatorref02_some.l0 k t p n m ((i + 1 : Nat) : Int))) else (collatorref02_some.l0 k t p n m ((i + 1 : Nat) : Int)))) else (if m = 9 then (if q3 = true then (some true) else (collatorref02_some.l0 k t p n m ((i + 1 : Nat) : Int))) else (collatorref02_some.l0 k t p n m ((i + 1 : Nat) : Int))))) r :=
        ite_ev (now_ev _) (ite_ev (ite_ev (now_ev _) (ite_ev (ite_ev (now_ev _) hn) hn)) (ite_ev (ite_ev (now_ev _) hn) hn))
      obtain ⟨r, h⟩ := h
      refine ⟨r, Ev.step (fun k => ?_) h⟩
      simp only [collatorref02_some.j1]
      rw [wi (by omega)]
    have h : ∃ r, Ev (fun k => if (t[i].f0).toList = p.toList then (if m = 5 then (if t[i].f1 < 1 then (collatorref02_some.j1 k t p n m (i : Int) true t[i].f0 t[i].f1 t[i].f2 t[i].f3) else (if t[i].f1 > 3 then (collatorref02_some.j1 k t p n m (i : Int) true t[i].f0 t[i].f1 t[i].f2 t[i].f3) else (if t[i].f1 = 1 then (collatorref02_some.j1 k t p n m (i : Int) ((t[i].f2).toList != ([] : List UInt8)) t[i].f0 t[i].f1 t[i].f2 t[i].f3) else (collatorref02_some.j1 k t p n m (i : Int) false t[i].f0 t[i].f1 t[i].f2 t[i].f3)))) else (collatorref02_some.j1 k t p n m (i : Int) false t[i].f0 t[i].f1 t[i].f2 t[i].f3)) else (collatorref02_some.l0 k t p n m ((i + 1 : Nat) : Int))) r :=
      ite_ev (ite_ev (ite_ev (hj _ _ _ _ _) (ite_ev (hj _ _ _ _ _) (ite_ev (hj _ _ _ _ _) (hj _ _ _ _ _)))) (hj _ _ _ _ _)) hn
    obtain ⟨r, h⟩ := h
    refine ⟨r, Ev.step (fun k => ?_) h⟩
    simp only [collatorref02_some.l0]
    rw [if_pos (by omega), if_pos (by omega), rdIt hg, wi (by omega)]
theorem some_ev (t : List It) (p : ByteArray) (n m : Int) (ht : t.length ≤ 100000) : ∃ r, Ev (fun k => collatorref02_some.f k t p n m) r := some_loop t p n m ht t.length 0 (by omega)
theorem bind_ev {α β : Type} {g : Nat → Option α} {f : Nat → α → Option β} (hg : ∃ a, Ev g a) (hf : ∀ a, ∃ r, Ev (fun n => f n a) r) : ∃ r, Ev (fun n => (g n).bind (f n)) r := by
  obtain ⟨a, ha⟩ := hg
  obtain ⟨r, hr⟩ := hf a
  exact ⟨r, Ev.bind ha hr⟩
theorem fault_ev (t : List It) (p : ByteArray) (ht : t.length ≤ 100000) (hp : p.size ≤ 1000) : ∃ e, Ev (fun k => collatorref02_fault.f k t 16 1000 200 p) e ∧ (e = 0 → cnt t p ≤ 1) := by
  have hj : ∀ b : Bool, ∃ r : Int, Ev (fun k => collatorref02_fault.j0 k t p b 16 1000 200) r := fun b => by
    have h : ∃ r : Int, Ev (fun k => if b = true then (some 6) else ((collatorref02_some.f k t p 1000 7).bind fun t301 => (if t301 = true then (some 7) else ((collatorref02_some.f k t p 1000 9).bind fun t302 => (if t302 = true then (some 9) else (some 0)))))) r :=
      ite_ev (now_ev (6 : Int)) (bind_ev (some_ev t p 1000 7 ht) (fun a => ite_ev (now_ev _) (bind_ev (some_ev t p 1000 9 ht) (fun b => ite_ev (now_ev _) (now_ev _)))))
    obtain ⟨r, h⟩ := h
    refine ⟨r, Ev.step (fun k => ?_) h⟩
    simp only [collatorref02_fault.j0]
  unfold collatorref02_fault.f
  have h1 := rcheck_ev p (by omega)
  by_cases c : Q.chk (parts (tl p)) = 0
  · by_cases c3 : (((if Q.chk (parts (tl p)) = 0 then pieces p else []).length : Nat) : Int) > 16
    · exact ⟨3, Ev.bind h1 (evpos c (Ev.bind (rparts_ev p (by omega)) (evpos c3 (Ev.now _)))), fun h => by cases h⟩
    · by_cases c4 : ((cnt t p : Nat) : Int) > 1
      · exact ⟨4, Ev.bind h1 (evpos c (Ev.bind (rparts_ev p (by omega)) (evneg c3 (Ev.bind (count_ev t p ht) (evpos c4 (Ev.now _)))))), fun h => by cases h⟩
      · have h : ∃ r, Ev (fun k => (collatorref02_some.f k t p 1000 5).bind fun t298 => (if t298 = true then (some 5) else ((collatorref01_Dir.f k p).bind fun t299 => (if t299.toList = ([] : List UInt8) then (collatorref02_fault.j0 k t p false 16 1000 200) else ((collatorref02_dir.f k t t299).bind fun t300 => (collatorref02_fault.j0 k t p (!t300) 16 1000 200)))))) r :=
          bind_ev (some_ev t p 1000 5 ht) (fun a => ite_ev (now_ev _) (bind_ev ⟨_, rdir_ev p hp⟩ (fun q => ite_ev (hj _) (bind_ev (idir_ev t q ht) (fun b => hj _)))))
        obtain ⟨r, h⟩ := h
        exact ⟨r, Ev.bind h1 (evpos c (Ev.bind (rparts_ev p (by omega)) (evneg c3 (Ev.bind (count_ev t p ht) (evneg c4 h))))), fun _ => by omega⟩
  · exact ⟨_, Ev.bind h1 (evneg c (Ev.now _)), fun h => absurd h c⟩
theorem tcheck_loop (t : List It) (ht : t.length ≤ 100000) (hz : ∀ x ∈ t, x.f0.size ≤ 1000) (d : Nat) : ∀ (i : Nat) (p : ByteArray) (c : Int), i + d = t.length → p.size ≤ 1000 → ∃ r, Ev (fun k => collatorref02_Check.l0 k t (i : Int) 16 1000 200 p c) r ∧ (r.2 = 0 → c = 0 ∧ ∀ x ∈ t.drop i, cnt t x.f0 ≤ 1) := by
  induction d with
  | zero =>
    intro i p c hi hp
    refine ⟨(p, c), Ev.step (f := fun _ => some (p, c)) (fun k => ?_) (Ev.now _), fun h => ⟨h, fun x hx => ?_⟩⟩
    · simp only [collatorref02_Check.l0]
      rw [if_neg (by omega)]
    · rw [List.drop_eq_nil_of_le (by omega)] at hx; cases hx
  | succ d ih =>
    intro i p c hi hp
    have hlt : i < t.length := by omega
    have hg : t[i]? = some t[i] := List.getElem?_eq_getElem hlt
    have hs := hz _ (List.getElem_mem hlt)
    obtain ⟨e, he, he0⟩ := fault_ev t t[i].f0 ht hs
    rw [List.drop_eq_getElem_cons hlt]
    by_cases c1 : e = 0
    · obtain ⟨r, h, hr⟩ := ih (i + 1) p c (by omega) hp
      refine ⟨r, Ev.step (f := fun k => (collatorref02_fault.f k t 16 1000 200 t[i].f0).bind fun t307 => (if t307 = 0 then (collatorref02_Check.l0 k t ((i + 1 : Nat) : Int) 16 1000 200 p c) else (if c = 0 then (collatorref02_Check.l0 k t ((i + 1 : Nat) : Int) 16 1000 200 t[i].f0 t307) else ((collatorref01_Compare.f k t[i].f0 p).bind fun t310 => (if t310 < 0 then (collatorref02_Check.l0 k t ((i + 1 : Nat) : Int) 16 1000 200 t[i].f0 t307) else (collatorref02_Check.l0 k t ((i + 1 : Nat) : Int) 16 1000 200 p c)))))) (fun k => ?_) (Ev.bind he (evpos c1 h)), fun h0 => ⟨(hr h0).1, fun x hx => ?_⟩⟩
      · simp only [collatorref02_Check.l0]
        rw [if_pos (by omega), if_pos (by omega), rdIt hg, wi (by omega)]
      · rcases List.mem_cons.1 hx with rfl | hx
        · exact he0 c1
        · exact (hr h0).2 x hx
    · obtain ⟨r1, g1, k1⟩ := ih (i + 1) t[i].f0 e (by omega) hs
      have no1 : r1.2 ≠ 0 := fun h => c1 (k1 h).1
      by_cases c2 : c = 0
      · refine ⟨r1, Ev.step (f := fun k => (collatorref02_fault.f k t 16 1000 200 t[i].f0).bind fun t307 => (if t307 = 0 then (collatorref02_Check.l0 k t ((i + 1 : Nat) : Int) 16 1000 200 p c) else (if c = 0 then (collatorref02_Check.l0 k t ((i + 1 : Nat) : Int) 16 1000 200 t[i].f0 t307) else ((collatorref01_Compare.f k t[i].f0 p).bind fun t310 => (if t310 < 0 then (collatorref02_Check.l0 k t ((i + 1 : Nat) : Int) 16 1000 200 t[i].f0 t307) else (collatorref02_Check.l0 k t ((i + 1 : Nat) : Int) 16 1000 200 p c)))))) (fun k => ?_) (Ev.bind he (evneg c1 (evpos c2 g1))), fun h0 => absurd h0 no1⟩
        simp only [collatorref02_Check.l0]
        rw [if_pos (by omega), if_pos (by omega), rdIt hg, wi (by omega)]
      · obtain ⟨r2, g2, k2⟩ := ih (i + 1) p c (by omega) hp
        have no2 : r2.2 ≠ 0 := fun h => c2 (k2 h).1
        have hcmp := rcompare_ev t[i].f0 p hs hp
        by_cases c3 : pcmp (tl t[i].f0) (tl p) < 0
        · refine ⟨r1, Ev.step (f := fun k => (collatorref02_fault.f k t 16 1000 200 t[i].f0).bind fun t307 => (if t307 = 0 then (collatorref02_Check.l0 k t ((i + 1 : Nat) : Int) 16 1000 200 p c) else (if c = 0 then (collatorref02_Check.l0 k t ((i + 1 : Nat) : Int) 16 1000 200 t[i].f0 t307) else ((collatorref01_Compare.f k t[i].f0 p).bind fun t310 => (if t310 < 0 then (collatorref02_Check.l0 k t ((i + 1 : Nat) : Int) 16 1000 200 t[i].f0 t307) else (collatorref02_Check.l0 k t ((i + 1 : Nat) : Int) 16 1000 200 p c)))))) (fun k => ?_) (Ev.bind he (evneg c1 (evneg c2 (Ev.bind hcmp (evpos c3 g1))))), fun h0 => absurd h0 no1⟩
          simp only [collatorref02_Check.l0]
          rw [if_pos (by omega), if_pos (by omega), rdIt hg, wi (by omega)]
        · refine ⟨r2, Ev.step (f := fun k => (collatorref02_fault.f k t 16 1000 200 t[i].f0).bind fun t307 => (if t307 = 0 then (collatorref02_Check.l0 k t ((i + 1 : Nat) : Int) 16 1000 200 p c) else (if c = 0 then (collatorref02_Check.l0 k t ((i + 1 : Nat) : Int) 16 1000 200 t[i].f0 t307) else ((collatorref01_Compare.f k t[i].f0 p).bind fun t310 => (if t310 < 0 then (collatorref02_Check.l0 k t ((i + 1 : Nat) : Int) 16 1000 200 t[i].f0 t307) else (collatorref02_Check.l0 k t ((i + 1 : Nat) : Int) 16 1000 200 p c)))))) (fun k => ?_) (Ev.bind he (evneg c1 (evneg c2 (Ev.bind hcmp (evneg c3 g2))))), fun h0 => absurd h0 no2⟩
          simp only [collatorref02_Check.l0]
          rw [if_pos (by omega), if_pos (by omega), rdIt hg, wi (by omega)]
/-- No path stands twice. -/
def Once (t : List It) : Prop := ∀ p, cnt t p ≤ 1
theorem tcheck_ev (t : List It) (ht : t.length ≤ 100000) (hz : ∀ x ∈ t, x.f0.size ≤ 1000) : ∃ r, Ev (fun k => collatorref02_Check.f k t 16 1000 200) r ∧ (r.2 = 0 → t.length ≤ 200 ∧ Once t) := by
  unfold collatorref02_Check.f
  by_cases c : (t.length : Int) > 200
  · exact ⟨((⟨#[]⟩ : ByteArray), 8), evpos c (Ev.now _), fun h => by cases h⟩
  · obtain ⟨r, h, hr⟩ := tcheck_loop t ht hz t.length 0 (⟨#[]⟩ : ByteArray) 0 (by omega) (by decide)
    refine ⟨r, evneg c h, fun h0 => ⟨by omega, fun p => ?_⟩⟩
    rcases Nat.eq_zero_or_pos (cnt t p) with h | h
    · omega
    · obtain ⟨x, hx, hp⟩ := List.countP_pos_iff.1 h
      have := (hr h0).2 x (by rw [List.drop_zero]; exact hx)
      rw [of_decide_eq_true hp] at this
      exact this
theorem pick2 {c : Int} (hc : -9223372036854775808 ≤ c ∧ c ≤ 9223372036854775807) {m : Int} {n : Nat} (hm : m = n) (hn : 0 < n) : collatorlaw02_pick.f c m = some (pk c n : Int) := by
  subst hm
  have h0 : ¬ ((n : Int) = 0) := by omega
  unfold pk collatorlaw02_pick.f
  by_cases h : c < 0
  · rw [if_pos h, if_neg h0, if_pos h, w64 (x := c + 1) (by omega) (by omega), w64 (by omega) (by omega), Int.tmod_eq_emod_of_nonneg (by omega)]
    congr 1
    rw [Int.natCast_emod, Int.toNat_of_nonneg (by omega)]
  · rw [if_neg h, if_neg h0, if_neg h, Int.tmod_eq_emod_of_nonneg (by omega)]
    congr 1
    rw [Int.natCast_emod, Int.toNat_of_nonneg (by omega)]
theorem item_ev (x : Rw) (h : HRaw.OkRaw x) : ∃ (p : ByteArray) (kd : Int) (dt : ByteArray) (bd : Bool), Ev (fun k => collatorlaw02_Item.f k x.f0 x.f1 x.f2 x.f3) (p, kd, dt, bd) ∧ Good (parts (tl p)) 8 ∧ p.size ≤ 40 ∧ dt.size ≤ 60 ∧ 1 ≤ kd ∧ kd ≤ 3 := by
  obtain ⟨h0, hw, h1, h2, h3⟩ := h
  have hm2 : maxLen = 9223372036854775807 := rfl
  obtain ⟨P, hP, hg, hs⟩ := path_ev x.f0 hw (by omega)
  have k1 := pick2 (wf_range h1) (m := 3) (n := 3) rfl (by decide)
  have k2 := pick2 (wf_range h3) (m := 12) (n := 12) rfl (by decide)
  have l1 := pk_lt x.f1 (n := 3) (by decide)
  have ew : wrap64 (1 + ((pk x.f1 3 : Nat) : Int)) = 1 + ((pk x.f1 3 : Nat) : Int) := w64 (by omega) (by omega)
  refine ⟨P, wrap64 (1 + ((pk x.f1 3 : Nat) : Int)), if wrap64 (1 + ((pk x.f1 3 : Nat) : Int)) = 1 then (⟨#[]⟩ : ByteArray) else x.f2.extract 0 ((mn (x.f2.size : Int) 60) : Int).toNat, (((pk x.f3 12 : Nat) : Int) == 0), ?_, hg, hs, ?_, by omega, by omega⟩
  · unfold collatorlaw02_Item.f
    exact Ev.bind hP (evval k1 (evval k2 (Ev.now _)))
  · split
    · exact Nat.zero_le _
    · exact (mn_take x.f2 60).2.2
/-- What a tree is here. -/
structure TreeOk (t : List It) : Prop where
  len : t.length ≤ 200
  size : ∀ x ∈ t, x.f0.size ≤ 400 ∧ x.f2.size ≤ 60
  once : Once t
theorem TreeOk.nil : TreeOk [] := ⟨Nat.zero_le _, fun x hx => absurd hx (by simp), fun p => Nat.zero_le _⟩
theorem with_loop (x0 : List Rw) (t : List It) (ht : TreeOk t) (P : ByteArray) (kd : Int) (dt : ByteArray) (hP : P.size ≤ 40) (hd : dt.size ≤ 60) (hl : (pieces P).length ≤ 8) (i : Nat)
    (next : ∀ T, TreeOk T → ∃ R, Ev (fun k => collatorlaw02_Tree.l0 k x0 T (wrap64 ((i : Int) + 1))) R ∧ TreeOk R) (e : Nat) :
    ∀ (j : Nat) (w : List It) (p : ByteArray), j + 1 + e = (pieces P).length → w.length ≤ 200 + j → (∀ x ∈ w, x.f0.size ≤ 400 ∧ x.f2.size ≤ 60) → p.size ≤ 41 * j → ∃ R, Ev (fun k => collatorlaw02_Tree.l1 k x0 t (i : Int) (pieces P) w p (j : Int) P kd dt false) R ∧ TreeOk R := by
  induction e with
  | zero =>
    intro j w p hj hw hz hp
    have hz2 : ∀ x ∈ w ++ [(⟨P, kd, dt, false⟩ : It)], x.f0.size ≤ 400 ∧ x.f2.size ≤ 60 := fun x hx => by
      rcases List.mem_append.1 hx with hx | hx
      · exact hz x hx
      · rw [List.mem_singleton.1 hx]; exact ⟨by show P.size ≤ 400; omega, hd⟩
    obtain ⟨r, hr, hr0⟩ := tcheck_ev (w ++ [(⟨P, kd, dt, false⟩ : It)]) (by rw [List.length_append, List.length_singleton]; omega) (fun x hx => by have := hz2 x hx; omega)
    have hW : collatorlaw02_Wide.f = some (16, 1000, 200) := rfl
    have hb : ∃ R, Ev (fun k => ((some (w ++ [(⟨P, kd, dt, false⟩ : It)] : List It)).bind fun y336 => ((collatorlaw02_Wide.f).bind fun bt339 => ((collatorref02_Check.f k y336 bt339.1 bt339.2.1 bt339.2.2).bind fun bt342 => (if bt342.2 = 0 then (collatorlaw02_Tree.l0 k x0 y336 (wrap64 ((i : Int) + 1))) else (collatorlaw02_Tree.l0 k x0 t (wrap64 ((i : Int) + 1)))))))) R ∧ TreeOk R := by
      by_cases c : r.2 = 0
      · obtain ⟨R, h1, h2⟩ := next _ ⟨(hr0 c).1, hz2, (hr0 c).2⟩
        exact ⟨R, evval rfl (evval hW (Ev.bind hr (evpos c h1))), h2⟩
      · obtain ⟨R, h1, h2⟩ := next t ht
        exact ⟨R, evval rfl (evval hW (Ev.bind hr (evneg c h1))), h2⟩
    obtain ⟨R, h1, h2⟩ := hb
    refine ⟨R, Ev.step (fun k => ?_) h1, h2⟩
    simp only [collatorlaw02_Tree.l1]
    rw [if_neg (by rw [wi (by omega)]; omega), if_pos (by omega)]
  | succ e ih =>
    intro j w p hj hw hz hp
    have hlt : j < (pieces P).length := by omega
    have hg : (pieces P)[j]? = some (pieces P)[j] := List.getElem?_eq_getElem hlt
    have hq := pieces_small P _ (List.getElem_mem hlt)
    have hjn := rjoin_ok (d := p) (n := (pieces P)[j]) (by omega) (by omega)
    have hs : (ofB (joinB (tl p) (tl (pieces P)[j]))).size ≤ 41 * (j + 1) := by
      have := joinB_size (tl p) (tl (pieces P)[j])
      rw [tl_size, tl_size] at this
      rw [ofB_size]
      omega
    obtain ⟨r, hr⟩ := find_ev w (ofB (joinB (tl p) (tl (pieces P)[j]))) (by omega)
    have hb : ∃ R, Ev (fun k => (collatorref02_Find.f k w (ofB (joinB (tl p) (tl (pieces P)[j])))).bind fun bt327 => (if bt327.2.2.2.2 = true then (collatorlaw02_Tree.l1 k x0 t (i : Int) (pieces P) w (ofB (joinB (tl p) (tl (pieces P)[j]))) ((j + 1 : Nat) : Int) P kd dt false) else (collatorlaw02_Tree.l1 k x0 t (i : Int) (pieces P) (w ++ [(⟨ofB (joinB (tl p) (tl (pieces P)[j])), 1, (⟨#[]⟩ : ByteArray), false⟩ : It)]) (ofB (joinB (tl p) (tl (pieces P)[j]))) ((j + 1 : Nat) : Int) P kd dt false))) R ∧ TreeOk R := by
      by_cases c : r.2.2.2.2 = true
      · obtain ⟨R, h1, h2⟩ := ih (j + 1) w _ (by omega) (by omega) hz hs
        exact ⟨R, Ev.bind hr (evpos c h1), h2⟩
      · obtain ⟨R, h1, h2⟩ := ih (j + 1) (w ++ [(⟨ofB (joinB (tl p) (tl (pieces P)[j])), 1, (⟨#[]⟩ : ByteArray), false⟩ : It)]) _ (by omega) (by rw [List.length_append, List.length_singleton]; omega) (fun x hx => by
          rcases List.mem_append.1 hx with hx | hx
          · exact hz x hx
          · rw [List.mem_singleton.1 hx]; exact ⟨by show (ofB (joinB (tl p) (tl (pieces P)[j]))).size ≤ 400; omega, Nat.zero_le _⟩) hs
        exact ⟨R, Ev.bind hr (evneg c h1), h2⟩
    obtain ⟨R, h1, h2⟩ := hb
    refine ⟨R, Ev.step (fun k => ?_) h1, h2⟩
    simp only [collatorlaw02_Tree.l1]
    rw [wi (by omega), if_pos (by omega), if_pos (by omega), if_pos (by omega), rdB hg, hjn, Option.bind_some]
    refine congrArg _ (funext fun b => ?_)
    rw [if_pos (show w.length < 2932031007402 by omega)]
theorem tree_loop (x0 : List Rw) (hx : ∀ x ∈ x0, HRaw.OkRaw x) (d : Nat) : ∀ (i : Nat) (t : List It), i + d = 14 → TreeOk t → ∃ R, Ev (fun k => collatorlaw02_Tree.l0 k x0 t (i : Int)) R ∧ TreeOk R := by
  have stop : ∀ (i : Nat) (t : List It), TreeOk t → ∃ R, Ev (fun k => collatorlaw02_Tree.j1 k x0 t (i : Int) false) R ∧ TreeOk R := fun i t ht => by
    refine ⟨t, Ev.step (f := fun _ => some t) (fun k => ?_) (Ev.now _), ht⟩
    simp only [collatorlaw02_Tree.j1]
    rw [if_neg (by decide)]
  induction d with
  | zero =>
    intro i t hi ht
    obtain ⟨R, h1, h2⟩ := stop i t ht
    refine ⟨R, Ev.step (fun k => ?_) h1, h2⟩
    simp only [collatorlaw02_Tree.l0]
    rw [decide_eq_false (by omega : ¬ (i : Int) < 14), ite_self]
  | succ d ih =>
    intro i t hi ht
    by_cases c : i < x0.length
    · have hg : x0[i]? = some x0[i] := List.getElem?_eq_getElem c
      obtain ⟨P, kd, dt, bd, hI, hG, hs, hd, _, _⟩ := item_ev x0[i] (hx _ (List.getElem_mem c))
      have hp := rparts_ev P (by omega)
      rw [if_pos (hG.chk (by omega))] at hp
      have hl : (pieces P).length = (parts (tl P)).length := List.length_map ..
      have hle := hG.le
      have hne : (parts (tl P)).length ≠ 0 := fun h => hG.ne (List.eq_nil_of_length_eq_zero h)
      have htl := ht.len
      obtain ⟨R, h1, h2⟩ := with_loop x0 t ht P kd dt hs hd (by omega) i (fun T hT => by rw [wi (by omega)]; exact ih (i + 1) T (by omega) hT) ((pieces P).length - 1) 0 t (⟨#[]⟩ : ByteArray) (by omega) (by omega) ht.size (by decide)
      refine ⟨R, Ev.step (f := fun k => collatorlaw02_Tree.j1 k x0 t (i : Int) true) (fun k => ?_) (Ev.step (f := fun k => (collatorlaw02_Item.f k x0[i].f0 x0[i].f1 x0[i].f2 x0[i].f3).bind fun bt314 => ((collatorref01_Parts.f k bt314.1).bind fun t319 => collatorlaw02_Tree.l1 k x0 t (i : Int) t319 t (⟨#[]⟩ : ByteArray) 0 bt314.1 bt314.2.1 bt314.2.2.1 false)) (fun k => ?_) (Ev.bind hI (Ev.bind hp h1))), h2⟩
      · simp only [collatorlaw02_Tree.l0]
        rw [if_pos (by omega), decide_eq_true (by omega : (i : Int) < 14)]
      · simp only [collatorlaw02_Tree.j1]
        rw [if_true, if_pos (by omega), if_pos (by omega), rdRw hg]
        refine congrArg _ (funext fun b => ?_)
        refine congrArg _ (funext fun q => ?_)
        rw [if_pos (show ([] : List It).length + t.length < 2932031007402 by rw [List.length_nil]; omega), List.nil_append]
    · obtain ⟨R, h1, h2⟩ := stop i t ht
      refine ⟨R, Ev.step (fun k => ?_) h1, h2⟩
      simp only [collatorlaw02_Tree.l0]
      rw [if_neg (by omega)]
theorem tree_ev (x0 : List Rw) (hx : ∀ x ∈ x0, HRaw.OkRaw x) : ∃ R, Ev (fun k => collatorlaw02_Tree.f k x0) R ∧ TreeOk R := tree_loop x0 hx 14 0 [] rfl TreeOk.nil
end Go.Proofs.Ytcgnkbdfoaiaiaa.Q
end
section
/- Pairs, plain: what the document's Same answers, awake, and how pairs hang on the threshold. -/
set_option linter.unusedVariables false
set_option linter.unusedSimpArgs false
namespace Go.Proofs.Ytcgnkbdfoaiaiaa.Q
open Go Go.RowKit Go.Proofs.Ytcgnkbdfoaiaiaa.P Go.Proofs.YtcgnkbdfoaiaiaaW.PrintWords Go.Proofs.YtcgnkbdfoaiaiaaW.PrintLast Go.Proofs.YtcgnkbdfoaiaiaaW.PrintMore
theorem rdPr {s : List PrS} {i : Nat} {x : PrS} (h : s[i]? = some x) : rd_T35 s (i : Int) = x := by
  unfold rd_T35
  rw [Int.toNat_natCast, List.getD_eq_getElem?_getD, h]; rfl
theorem pick8 {c : Int} (hc : -9223372036854775808 ≤ c ∧ c ≤ 9223372036854775807) {m : Int} {n : Nat} (hm : m = n) (hn : 0 < n) : collatorlaw08_pick.f c m = some (pk c n : Int) := pick2 hc hm hn
theorem same_loop (l : List PrS) (hl : l.length ≤ 1000000) (d : Nat) : ∀ i : Nat, i + d = l.length → Ev (fun k => collatorref08_Same.l0 k l l (i : Int)) true := by
  induction d with
  | zero =>
    intro i hi
    refine Ev.step (f := fun _ => some true) (fun k => ?_) (Ev.now _)
    simp only [collatorref08_Same.l0]
    rw [if_neg (by omega)]
  | succ d ih =>
    intro i hi
    refine Ev.step (fun k => ?_) (ih (i + 1) (by omega))
    simp only [collatorref08_Same.l0]
    rw [if_pos (by omega), if_pos (by omega), if_pos (by omega), if_neg (by simp), wi (by omega)]
theorem same_ev (l : List PrS) (hl : l.length ≤ 1000000) : Ev (fun k => collatorref08_Same.f k l l) true := by
  unfold collatorref08_Same.f
  exact evpos rfl (same_loop l hl l.length 0 (by omega))
theorem merge_sorted {c : PrS → PrS → Int} (hc : CmpOk c) (l : List PrS) : (l.mergeSort (fun x y => decide (c x y ≤ 0))).Pairwise (fun x y => c x y ≤ 0) := by
  have := List.pairwise_mergeSort (le := fun x y => decide (c x y ≤ 0)) (fun x y z h1 h2 => by
    simp only [decide_eq_true_eq] at *
    exact (hc.tr x y z h1 h2).1) (fun x y => by
    have := hc.neg x y
    by_cases h : c x y ≤ 0
    · simp [h]
    · have : c y x ≤ 0 := by omega
      simp [this]) l
  exact this.imp (fun h => by simpa using h)
theorem sort_filter {c : PrS → PrS → Int} (hc : CmpOk c) (h0 : ∀ x y, c x y = 0 → x = y) (l : List PrS) (p : PrS → Bool) : (l.mergeSort (fun x y => decide (c x y ≤ 0))).filter p = (l.filter p).mergeSort (fun x y => decide (c x y ≤ 0)) :=
  sort_uniq hc h0 ((List.mergeSort_perm l _).filter p) ((merge_sorted hc l).filter p)
theorem sort_same {c : PrS → PrS → Int} (hc : CmpOk c) (h0 : ∀ x y, c x y = 0 → x = y) {l : List PrS} (hs : l.Pairwise (fun x y => c x y ≤ 0)) : l.mergeSort (fun x y => decide (c x y ≤ 0)) = l := (sort_uniq hc h0 (List.Perm.refl l) hs).symm
/-- Lists of the same elements are sorted alike. -/
theorem sort_perm {c : PrS → PrS → Int} (hc : CmpOk c) (h0 : ∀ x y, c x y = 0 → x = y) {l l' : List PrS} (h : l.Perm l') : l.mergeSort (fun x y => decide (c x y ≤ 0)) = l'.mergeSort (fun x y => decide (c x y ≤ 0)) :=
  sort_uniq hc h0 ((List.mergeSort_perm l _).trans h) (merge_sorted hc l)
theorem cB_score {x y : PrS} (h : cB x y ≤ 0) : y.f2 ≤ x.f2 := by
  refine Int.not_lt.1 (fun c => ?_)
  have e : ci y.f2 x.f2 = 1 := by unfold ci; rw [if_neg (by omega), if_pos c]
  unfold cB or3 at h
  rw [e, if_pos (by decide)] at h
  omega
theorem split_sorted (u : Int) : ∀ {l : List PrS}, l.Pairwise (fun x y => cB x y ≤ 0) → l = l.filter (fun x => decide (u ≤ x.f2)) ++ l.filter (fun x => !decide (u ≤ x.f2))
  | [], _ => rfl
  | x :: l, h => by
    obtain ⟨h1, h2⟩ := List.pairwise_cons.1 h
    by_cases c : u ≤ x.f2
    · rw [List.filter_cons_of_pos (by simpa using c), List.filter_cons_of_neg (by simpa using c), List.cons_append, ← split_sorted u h2]
    · have e1 : l.filter (fun x => decide (u ≤ x.f2)) = [] := List.filter_eq_nil_iff.2 (fun y hy => by
        have := cB_score (h1 y hy)
        simp
        omega)
      have e2 : l.filter (fun x => !decide (u ≤ x.f2)) = l := List.filter_eq_self.2 (fun y hy => by
        have := cB_score (h1 y hy)
        simp
        omega)
      rw [List.filter_cons_of_neg (by simpa using c), List.filter_cons_of_pos (by simpa using c), e1, e2, List.nil_append]
/-- What is taken behind a state: some of those that come. -/
theorem take_ext : ∀ (l : List PrS) (st : List ByteArray × List ByteArray × List PrS), ∃ C, (l.foldl take1 st).2.2 = st.2.2 ++ C ∧ (∀ x ∈ C, x ∈ l) ∧ C.length ≤ l.length
  | [], st => ⟨[], by simp, fun x hx => hx, Nat.le_refl _⟩
  | p :: l, st => by
    obtain ⟨C, h1, h2, h3⟩ := take_ext l (take1 st p)
    rw [List.foldl_cons, h1]
    unfold take1
    split
    · exact ⟨p :: C, by simp, fun x hx => by
        rcases List.mem_cons.1 hx with rfl | hx
        · exact List.mem_cons_self
        · exact List.mem_cons_of_mem _ (h2 x hx), by simp; omega⟩
    · exact ⟨C, rfl, fun x hx => List.mem_cons_of_mem _ (h2 x hx), by simp; omega⟩
theorem greedy_mem (l : List PrS) : ∀ x ∈ greedy l, x ∈ l := by
  obtain ⟨C, h1, h2, _⟩ := take_ext l ([], [], [])
  intro x hx
  unfold greedy at hx
  rw [h1, List.nil_append] at hx
  exact h2 x hx
theorem greedy_len (l : List PrS) : (greedy l).length ≤ l.length := by
  obtain ⟨C, h1, _, h3⟩ := take_ext l ([], [], [])
  unfold greedy
  rw [h1, List.nil_append]
  exact h3
theorem greedy_append (a b : List PrS) : ∃ C, greedy (a ++ b) = greedy a ++ C ∧ ∀ x ∈ C, x ∈ b := by
  unfold greedy
  rw [List.foldl_append]
  obtain ⟨C, h1, h2, _⟩ := take_ext b (a.foldl take1 ([], [], []))
  exact ⟨C, h1, h2⟩
theorem greedy_filter {l : List PrS} (u : Int) (h : l.Pairwise (fun x y => cB x y ≤ 0)) : (greedy l).filter (fun x => decide (u ≤ x.f2)) = greedy (l.filter (fun x => decide (u ≤ x.f2))) := by
  have e := split_sorted u h
  obtain ⟨C, h1, h2⟩ := greedy_append (l.filter (fun x => decide (u ≤ x.f2))) (l.filter (fun x => !decide (u ≤ x.f2)))
  rw [← e] at h1
  rw [h1, List.filter_append]
  have e1 : (greedy (l.filter (fun x => decide (u ≤ x.f2)))).filter (fun x => decide (u ≤ x.f2)) = greedy (l.filter (fun x => decide (u ≤ x.f2))) := List.filter_eq_self.2 (fun x hx => (List.mem_filter.1 (greedy_mem _ x hx)).2)
  have e2 : C.filter (fun x => decide (u ≤ x.f2)) = [] := List.filter_eq_nil_iff.2 (fun x hx => by
    have := (List.mem_filter.1 (h2 x hx)).2
    simpa using this)
  rw [e1, e2, List.append_nil]
theorem cand1_more (a : ByteArray × List ByteArray) {t u : Int} (h : t ≤ u) : ∀ l : List (ByteArray × List ByteArray), cand1 a l u = (cand1 a l t).filter (fun x => decide (u ≤ x.f2))
  | [] => rfl
  | b :: l => by
    have ih := cand1_more a h l
    unfold cand1 at ih ⊢
    rw [List.filterMap_cons, List.filterMap_cons]
    by_cases c : mx t 1 ≤ score a.2 b.2
    · rw [if_pos c]
      by_cases d : u ≤ score a.2 b.2
      · have e : mx u 1 ≤ score a.2 b.2 := by unfold mx at c ⊢; (repeat' split at c) <;> (repeat' split) <;> omega
        rw [if_pos e]
        simp only []
        rw [ih, List.filter_cons_of_pos (by simpa using d)]
      · have e : ¬ mx u 1 ≤ score a.2 b.2 := by unfold mx; (repeat' split) <;> omega
        rw [if_neg e]
        simp only []
        rw [ih, List.filter_cons_of_neg (by simpa using d)]
    · have e : ¬ mx u 1 ≤ score a.2 b.2 := by unfold mx at c ⊢; (repeat' split at c) <;> (repeat' split) <;> omega
      rw [if_neg e, if_neg c]
      exact ih
theorem candL_more (fresh : List (ByteArray × List ByteArray)) {t u : Int} (h : t ≤ u) : ∀ l : List (ByteArray × List ByteArray), candL l fresh u = (candL l fresh t).filter (fun x => decide (u ≤ x.f2))
  | [] => rfl
  | a :: l => by
    have ih := candL_more fresh h l
    unfold candL at ih ⊢
    rw [List.flatMap_cons, List.flatMap_cons, List.filter_append, cand1_more a h, ih]
/-- At a greater threshold there are those that score so much. -/
theorem pairs_more (old fresh : List It) {t u : Int} (h : t ≤ u) : pairsL old fresh u = (pairsL old fresh t).filter (fun x => decide (u ≤ x.f2)) := by
  unfold pairsL sortT
  rw [sort_filter cT_cmp (fun _ _ => cT_zero)]
  unfold sortB
  rw [greedy_filter u (merge_sorted cB_cmp _), sort_filter cB_cmp (fun _ _ => cB_zero), ← candL_more _ h]
theorem cand1_len (a : ByteArray × List ByteArray) (l : List (ByteArray × List ByteArray)) (t : Int) : (cand1 a l t).length ≤ l.length := List.length_filterMap_le _ _
theorem candL_len (fresh : List (ByteArray × List ByteArray)) (t : Int) : ∀ l : List (ByteArray × List ByteArray), (candL l fresh t).length ≤ l.length * fresh.length
  | [] => Nat.zero_le _
  | a :: l => by
    have h1 := cand1_len a fresh t
    have h2 := candL_len fresh t l
    unfold candL at h2 ⊢
    rw [List.flatMap_cons, List.length_append, List.length_cons, Nat.add_mul, Nat.one_mul]
    omega
theorem pairs_len {old fresh : List It} (t : Int) (h0 : old.length ≤ 1000) (h1 : fresh.length ≤ 1000) : (pairsL old fresh t).length ≤ 1000000 := by
  unfold pairsL sortT
  rw [List.length_mergeSort]
  refine Nat.le_trans (greedy_len _) ?_
  unfold sortB
  rw [List.length_mergeSort]
  refine Nat.le_trans (candL_len _ _ _) ?_
  exact Nat.mul_le_mul (Nat.le_trans (filesL_len _) h0) (Nat.le_trans (filesL_len _) h1)
theorem TreeOk.pairs {t : List It} (h : TreeOk t) : PairsOk t := ⟨by have := h.len; omega, fun x hx => by have := h.size x hx; omega⟩
theorem pairs_f {a b : List It} (ha : PairsOk a) (hb : PairsOk b) (t : Int) : rename_Pairs.f a b t = some (pairsL a b t) := by
  unfold rename_Pairs.f
  rw [if_pos ⟨ha, hb⟩]
/-! ### awake -/
def A8 : List It := [(⟨(⟨#[97]⟩ : ByteArray), 2, (⟨#[120, 10, 121, 10]⟩ : ByteArray), false⟩ : It), (⟨(⟨#[98]⟩ : ByteArray), 2, (⟨#[120, 10]⟩ : ByteArray), false⟩ : It)]
def F8 : List It := [(⟨(⟨#[99]⟩ : ByteArray), 2, (⟨#[120, 10, 121, 10]⟩ : ByteArray), false⟩ : It)]
def P8 : PrS := ⟨(⟨#[97]⟩ : ByteArray), (⟨#[99]⟩ : ByteArray), 100⟩
def Q8 : PrS := ⟨(⟨#[98]⟩ : ByteArray), (⟨#[99]⟩ : ByteArray), 66⟩
theorem cand50 : candL (filesL A8) (filesL F8) 50 = [P8, Q8] := by kernel_rfl
theorem cand101 : candL (filesL A8) (filesL F8) 101 = [] := by kernel_rfl
theorem pairs50 : pairsL A8 F8 50 = [P8] := by
  unfold pairsL
  rw [cand50]
  have e1 : sortB [P8, Q8] = [P8, Q8] := sort_same cB_cmp (fun _ _ => cB_zero) (by decide +kernel)
  have e2 : greedy [P8, Q8] = [P8] := by kernel_rfl
  rw [e1, e2]
  exact sort_same cT_cmp (fun _ _ => cT_zero) (List.pairwise_singleton _ _)
theorem pairs_none {a b : List It} {t : Int} (h : candL (filesL a) (filesL b) t = []) : pairsL a b t = [] := by
  unfold pairsL sortB sortT
  have e : greedy [] = [] := rfl
  rw [h, List.mergeSort_nil, e, List.mergeSort_nil]
theorem awake8_ev : Ev (fun k => collatorlaw08_awake.f k) true := by
  unfold collatorlaw08_awake.f
  have o1 : PairsOk A8 := by decide +kernel
  have o2 : PairsOk F8 := by decide +kernel
  have o3 : PairsOk [] := by decide +kernel
  have h1 : rename_Pairs.f A8 F8 50 = some [P8] := (pairs_f o1 o2 50).trans (by rw [pairs50])
  have h2 : rename_Pairs.f A8 F8 101 = some [] := (pairs_f o1 o2 101).trans (by rw [pairs_none cand101])
  have h3 : rename_Pairs.f [] F8 0 = some [] := (pairs_f o3 o2 0).trans (by rw [pairs_none (by kernel_rfl)])
  exact evval rfl (evval rfl (evval h1 (Ev.bind (same_ev [P8] (by decide)) (evpos rfl (evval h2 (evpos rfl (evval h3 (Ev.now _))))))))
end Go.Proofs.Ytcgnkbdfoaiaiaa.Q
end
section
/- Pairs do not hang on the order of items, if no path is there twice; of a tree and itself in turn each file is paired with itself. -/
set_option linter.unusedVariables false
set_option linter.unusedSimpArgs false
namespace Go.Proofs.Ytcgnkbdfoaiaiaa.Q
open Go Go.RowKit Go.Proofs.Ytcgnkbdfoaiaiaa.P Go.Proofs.YtcgnkbdfoaiaiaaW.PrintWords Go.Proofs.YtcgnkbdfoaiaiaaW.PrintLast Go.Proofs.YtcgnkbdfoaiaiaaW.PrintMore
abbrev Fi := ByteArray × List ByteArray
/-- The files of a tree, where no path stands twice. -/
def fil (l : List It) : List Fi := (l.filter (fun x => decide (x.f1 = 2))).map (fun x => (x.f0, Q.lines x.f2))
theorem cnt_perm {l l' : List It} (h : l.Perm l') (p : ByteArray) : cnt l p = cnt l' p := h.countP_eq _
theorem Once.perm {l l' : List It} (h : Once l) (hp : l.Perm l') : Once l' := fun p => by rw [← cnt_perm hp]; exact h p
theorem Once.tail {x : It} {l : List It} (h : Once (x :: l)) : Once l ∧ ∀ y ∈ l, y.f0 ≠ x.f0 := by
  refine ⟨fun p => ?_, fun y hy e => ?_⟩
  · have h1 := h p
    unfold cnt at h1 ⊢
    rw [List.countP_cons] at h1
    omega
  · have h1 := h x.f0
    unfold cnt at h1
    rw [List.countP_cons, if_pos (by simp)] at h1
    have h2 : 0 < l.countP (fun z => decide (z.f0 = x.f0)) := List.countP_pos_iff.2 ⟨y, hy, by simpa using e⟩
    omega
theorem files_gen : ∀ (l : List It) (st : List ByteArray × List Fi), Once l → (∀ x ∈ l, x.f0 ∉ st.1) → (l.foldl stepF st).2 = st.2 ++ fil l
  | [], st, _, _ => by simp [fil]
  | x :: l, st, h, hn => by
    obtain ⟨h1, h2⟩ := h.tail
    rw [List.foldl_cons]
    unfold stepF fil
    by_cases c : x.f1 = 2
    · rw [if_pos ⟨c, hn x List.mem_cons_self⟩, List.filter_cons_of_pos (by simpa using c), List.map_cons]
      have := files_gen l (x.f0 :: st.1, st.2 ++ [(x.f0, Q.lines x.f2)]) h1 (fun y hy => by
        simp only [List.mem_cons, not_or]
        exact ⟨h2 y hy, hn y (List.mem_cons_of_mem _ hy)⟩)
      unfold stepF fil at this
      rw [this, List.append_assoc]
      rfl
    · rw [if_neg (fun hh => c hh.1), List.filter_cons_of_neg (by simpa using c)]
      have := files_gen l st h1 (fun y hy => hn y (List.mem_cons_of_mem _ hy))
      unfold stepF fil at this
      exact this
theorem files_fil {l : List It} (h : Once l) : filesL l = fil l := by
  unfold filesL
  rw [files_gen l ([], []) h (by simp)]
  rfl
theorem fil_perm {l l' : List It} (h : l.Perm l') : (fil l).Perm (fil l') := (h.filter _).map _
theorem flat_perm {α β : Type} {f g : α → List β} (h : ∀ x, (f x).Perm (g x)) : ∀ l : List α, (l.flatMap f).Perm (l.flatMap g)
  | [] => List.Perm.refl _
  | x :: l => by rw [List.flatMap_cons, List.flatMap_cons]; exact (h x).append (flat_perm h l)
theorem cand_perm {a a' b b' : List Fi} (ha : a.Perm a') (hb : b.Perm b') (t : Int) : (candL a b t).Perm (candL a' b' t) := by
  unfold candL
  refine (ha.flatMap_right _).trans ?_
  exact flat_perm (fun x => hb.filterMap _) a'
/-- The order of items does not matter. -/
theorem pairs_perm {a a' b b' : List It} (oa : Once a) (ob : Once b) (ha : a.Perm a') (hb : b.Perm b') (t : Int) : pairsL a b t = pairsL a' b' t := by
  unfold pairsL sortT
  have e : sortB (candL (filesL a) (filesL b) t) = sortB (candL (filesL a') (filesL b') t) := by
    rw [files_fil oa, files_fil ob, files_fil (oa.perm ha), files_fil (ob.perm hb)]
    exact sort_perm cB_cmp (fun _ _ => cB_zero) (cand_perm (fil_perm ha) (fil_perm hb) t)
  rw [e]
/-! ### A tree and itself -/
def diag (e : PrS) : Bool := decide (e.f0 = e.f1)
theorem before {A B : List PrS} {z e : PrS} (hs : (A ++ e :: B).Pairwise (fun x y => cB x y ≤ 0)) (hz : z ∈ A ++ e :: B) (h : cB z e < 0) : z ∈ A := by
  rcases List.mem_append.1 hz with hz | hz
  · exact hz
  · rcases List.mem_cons.1 hz with rfl | hz
    · rw [cB_cmp.self] at h; omega
    · have h1 := (List.pairwise_cons.1 (List.pairwise_append.1 hs).2.1).1 z hz
      have h2 := cB_cmp.neg e z
      omega
/-- What makes an element of the candidates of a tree and itself. -/
structure Self (L : List PrS) : Prop where
  sorted : L.Pairwise (fun x y => cB x y ≤ 0)
  nodup : L.Nodup
  same : ∀ e ∈ L, e.f0 = e.f1 → e.f2 = 100
  most : ∀ e ∈ L, e.f2 ≤ 100
  own0 : ∀ e ∈ L, (⟨e.f0, e.f0, 100⟩ : PrS) ∈ L
  own1 : ∀ e ∈ L, (⟨e.f1, e.f1, 100⟩ : PrS) ∈ L
theorem cB_first {x y : PrS} (h : y.f2 < x.f2) : cB x y < 0 := by
  have e : ci y.f2 x.f2 = -1 := by unfold ci; rw [if_pos h]
  unfold cB or3
  rw [e, if_pos (by decide)]
  omega
theorem cB_from {x y : PrS} (h : x.f2 = y.f2) (h1 : pcmp (tl x.f0) (tl y.f0) < 0) : cB x y < 0 := by
  have e : ci y.f2 x.f2 = 0 := by unfold ci; rw [if_neg (by omega), if_neg (by omega)]
  unfold cB or3
  rw [e, if_neg (by decide), if_pos (by omega)]
  exact h1
theorem cB_to {x y : PrS} (h : x.f2 = y.f2) (h0 : x.f0 = y.f0) (h1 : pcmp (tl x.f1) (tl y.f1) < 0) : cB x y < 0 := by
  have e : ci y.f2 x.f2 = 0 := by unfold ci; rw [if_neg (by omega), if_neg (by omega)]
  have e2 : pcmp (tl x.f0) (tl y.f0) = 0 := by rw [h0]; exact (pcmp_zero _ _).2 rfl
  unfold cB or3
  rw [e, if_neg (by decide), if_neg (by omega)]
  exact h1
theorem greedy_diag {L : List PrS} (hL : Self L) : ∀ (B A : List PrS) (st : List ByteArray × List ByteArray × List PrS), L = A ++ B → (∀ p, p ∈ st.1 ↔ (⟨p, p, 100⟩ : PrS) ∈ A) → (∀ p, p ∈ st.2.1 ↔ (⟨p, p, 100⟩ : PrS) ∈ A) → (B.foldl take1 st).2.2 = st.2.2 ++ B.filter diag
  | [], A, st, _, _, _ => by simp
  | e :: B, A, st, h, h0, h1 => by
    have hm : e ∈ L := by rw [h]; exact List.mem_append_right _ List.mem_cons_self
    have hs := hL.sorted
    have hn := hL.nodup
    rw [h] at hs hn
    have h' : L = (A ++ [e]) ++ B := by rw [h, List.append_assoc]; rfl
    rw [List.foldl_cons]
    by_cases c : e.f0 = e.f1
    · have he : e = (⟨e.f0, e.f0, 100⟩ : PrS) := by
        have := hL.same e hm c
        cases e
        simp at c this
        subst c this
        rfl
      have hna : e ∉ A := fun ha => (List.nodup_append.1 hn).2.2 e ha e List.mem_cons_self rfl
      have hf : e.f0 ∉ st.1 := fun hh => hna (by rw [he]; exact (h0 _).1 hh)
      have ht : e.f1 ∉ st.2.1 := fun hh => hna (by rw [he, c]; exact (h1 _).1 hh)
      have hd : diag e = true := by unfold diag; exact decide_eq_true c
      have ht1 : take1 st e = (e.f0 :: st.1, e.f1 :: st.2.1, st.2.2 ++ [e]) := by unfold take1; rw [if_pos ⟨hf, ht⟩]
      have key : ∀ p, p = e.f0 ↔ (⟨p, p, 100⟩ : PrS) = e := fun p => ⟨fun hp => by rw [hp]; exact he.symm, fun hp => by rw [← hp]⟩
      rw [ht1, greedy_diag hL B (A ++ [e]) _ h' (fun p => by
        rw [List.mem_cons, List.mem_append, List.mem_singleton, h0 p, key p]; exact Or.comm) (fun p => by
        rw [List.mem_cons, List.mem_append, List.mem_singleton, h1 p, ← c, key p]; exact Or.comm), List.filter_cons_of_pos hd, List.append_assoc]
      rfl
    · have hd : ¬ diag e = true := by unfold diag; simpa using c
      have hskip : ¬ (e.f0 ∉ st.1 ∧ e.f1 ∉ st.2.1) := by
        rintro ⟨f1, f2⟩
        have o0 := hL.own0 e hm
        have o1 := hL.own1 e hm
        rw [h] at o0 o1
        have hmost := hL.most e hm
        by_cases c2 : e.f2 < 100
        · exact f1 ((h0 _).2 (before hs o0 (cB_first (x := ⟨e.f0, e.f0, 100⟩) c2)))
        · have h100 : e.f2 = 100 := by omega
          rcases Int.lt_trichotomy (pcmp (tl e.f0) (tl e.f1)) 0 with c3 | c3 | c3
          · exact f1 ((h0 _).2 (before hs o0 (cB_to (x := ⟨e.f0, e.f0, 100⟩) h100.symm rfl c3)))
          · exact c (tl_inj ((pcmp_zero _ _).1 c3))
          · have := pcmp_neg (tl e.f0) (tl e.f1)
            exact f2 ((h1 _).2 (before hs o1 (cB_from (x := ⟨e.f1, e.f1, 100⟩) h100.symm (by show pcmp (tl e.f1) (tl e.f0) < 0; omega))))
      have ht1 : take1 st e = st := by unfold take1; rw [if_neg hskip]
      have hne : ∀ p, (⟨p, p, 100⟩ : PrS) ≠ e := fun p hp => c (by rw [← hp])
      rw [ht1, greedy_diag hL B (A ++ [e]) st h' (fun p => by
        rw [List.mem_append, List.mem_singleton, h0 p]; exact ⟨.inl, fun hh => hh.resolve_right (hne p)⟩) (fun p => by
        rw [List.mem_append, List.mem_singleton, h1 p]; exact ⟨.inl, fun hh => hh.resolve_right (hne p)⟩), List.filter_cons_of_neg hd]
theorem score_self (a : List ByteArray) : score a a = 100 := (score_full a a).2 (fun _ => rfl)
/-- Files of which no path stands twice. -/
def FOnce (F : List Fi) : Prop := F.Pairwise (fun a b => a.1 ≠ b.1)
theorem fil_once {l : List It} (h : Once l) : FOnce (fil l) := by
  unfold FOnce fil
  rw [List.pairwise_map]
  induction l with
  | nil => exact List.Pairwise.nil
  | cons x l ih =>
    obtain ⟨h1, h2⟩ := h.tail
    by_cases c : x.f1 = 2
    · rw [List.filter_cons_of_pos (by simpa using c)]
      exact List.pairwise_cons.2 ⟨fun y hy => (h2 y (List.mem_filter.1 hy).1).symm, ih h1⟩
    · rw [List.filter_cons_of_neg (by simpa using c)]
      exact ih h1
theorem FOnce.eq {F : List Fi} (h : FOnce F) {a b : Fi} (ha : a ∈ F) (hb : b ∈ F) (e : a.1 = b.1) : a = b := by
  induction F with
  | nil => cases ha
  | cons x F ih =>
    obtain ⟨h1, h2⟩ := List.pairwise_cons.1 h
    rcases List.mem_cons.1 ha with rfl | ha'
    · rcases List.mem_cons.1 hb with rfl | hb'
      · rfl
      · exact absurd e (h1 b hb')
    · rcases List.mem_cons.1 hb with rfl | hb'
      · exact absurd e.symm (h1 a ha')
      · exact ih h2 ha' hb'
theorem cand_mem {F G : List Fi} {t : Int} {e : PrS} : e ∈ candL F G t ↔ ∃ a ∈ F, ∃ b ∈ G, mx t 1 ≤ score a.2 b.2 ∧ e = ⟨a.1, b.1, score a.2 b.2⟩ := by
  unfold candL cand1
  constructor
  · intro h
    obtain ⟨a, ha, h⟩ := List.mem_flatMap.1 h
    obtain ⟨b, hb, h⟩ := List.mem_filterMap.1 h
    by_cases c : mx t 1 ≤ score a.2 b.2
    · rw [if_pos c] at h
      exact ⟨a, ha, b, hb, c, (Option.some.inj h).symm⟩
    · rw [if_neg c] at h; cases h
  · rintro ⟨a, ha, b, hb, c, rfl⟩
    exact List.mem_flatMap.2 ⟨a, ha, List.mem_filterMap.2 ⟨b, hb, by rw [if_pos c]⟩⟩
theorem cand1_nodup {a : Fi} {G : List Fi} (h : FOnce G) (t : Int) : (cand1 a G t).Nodup := by
  unfold cand1 List.Nodup
  rw [List.pairwise_filterMap]
  refine List.Pairwise.imp ?_ h
  intro x y hxy e he e' he' hh
  split at he
  · split at he'
    · rw [← Option.some.inj he, ← Option.some.inj he'] at hh
      injection hh with _ h2 _
      exact hxy h2
    · cases he'
  · cases he
theorem cand_nodup {F G : List Fi} (hF : FOnce F) (hG : FOnce G) (t : Int) : (candL F G t).Nodup := by
  unfold candL List.Nodup
  rw [List.pairwise_flatMap]
  refine ⟨fun a _ => cand1_nodup hG t, List.Pairwise.imp ?_ hF⟩
  intro a b hab x hx y hy hxy
  have h1 : x.f0 = a.1 := by
    obtain ⟨q, _, h⟩ := List.mem_filterMap.1 hx
    split at h
    · rw [← Option.some.inj h]
    · cases h
  have h2 : y.f0 = b.1 := by
    obtain ⟨q, _, h⟩ := List.mem_filterMap.1 hy
    split at h
    · rw [← Option.some.inj h]
    · cases h
  exact hab (by rw [← h1, ← h2, hxy])
theorem cand_self {F : List Fi} (h : FOnce F) {t : Int} (ht : t ≤ 100) : Self (sortB (candL F F t)) := by
  have hp : (sortB (candL F F t)).Perm (candL F F t) := List.mergeSort_perm _ _
  have hm : mx t 1 ≤ 100 := by unfold mx; split <;> omega
  have own : ∀ a ∈ F, (⟨a.1, a.1, 100⟩ : PrS) ∈ sortB (candL F F t) := fun a ha => hp.mem_iff.2 (cand_mem.2 ⟨a, ha, a, ha, by rw [score_self]; exact hm, by rw [score_self]⟩)
  refine ⟨merge_sorted cB_cmp _, hp.symm.nodup (cand_nodup h h t), fun e he c => ?_, fun e he => ?_, fun e he => ?_, fun e he => ?_⟩
  · obtain ⟨a, ha, b, hb, _, rfl⟩ := cand_mem.1 (hp.mem_iff.1 he)
    have := h.eq ha hb c
    subst this
    exact score_self _
  · obtain ⟨a, ha, b, hb, _, rfl⟩ := cand_mem.1 (hp.mem_iff.1 he)
    exact (score_range _ _).2
  · obtain ⟨a, ha, b, hb, _, rfl⟩ := cand_mem.1 (hp.mem_iff.1 he)
    exact own a ha
  · obtain ⟨a, ha, b, hb, _, rfl⟩ := cand_mem.1 (hp.mem_iff.1 he)
    exact own b hb
theorem diag1 {F : List Fi} (h : FOnce F) {t : Int} (ht : t ≤ 100) {a : Fi} : ∀ G : List Fi, FOnce G → (∀ x ∈ G, x ∈ F) → a ∈ F → ((cand1 a G t).filter diag).length = if a ∈ G then 1 else 0 := by
  have hm : mx t 1 ≤ 100 := by unfold mx; split <;> omega
  intro G
  induction G with
  | nil => intro _ _ _; rfl
  | cons b G ih =>
    intro hG hs ha
    obtain ⟨g1, g2⟩ := List.pairwise_cons.1 hG
    have ih := ih g2 (fun x hx => hs x (List.mem_cons_of_mem _ hx)) ha
    unfold cand1 at ih ⊢
    rw [List.filterMap_cons]
    by_cases c : a = b
    · subst c
      have hna : a ∉ G := fun hh => g1 a hh rfl
      rw [if_neg hna] at ih
      rw [if_pos (by rw [score_self]; exact hm), if_pos List.mem_cons_self]
      simp only []
      rw [List.filter_cons_of_pos (by unfold diag; simp), List.length_cons, ih]
    · have hne : a.1 ≠ b.1 := fun e => c (h.eq ha (hs b List.mem_cons_self) e)
      have e1 : (if a ∈ b :: G then 1 else 0) = (if a ∈ G then 1 else 0 : Nat) := by
        by_cases d : a ∈ G
        · rw [if_pos d, if_pos (List.mem_cons_of_mem _ d)]
        · rw [if_neg d, if_neg (fun hh => (List.mem_cons.1 hh).elim c d)]
      rw [e1, ← ih]
      by_cases d : mx t 1 ≤ score a.2 b.2
      · rw [if_pos d]
        simp only []
        rw [List.filter_cons_of_neg (by unfold diag; simpa using hne)]
      · rw [if_neg d]
theorem diag_len {F : List Fi} (h : FOnce F) {t : Int} (ht : t ≤ 100) : ∀ E : List Fi, (∀ x ∈ E, x ∈ F) → ((candL E F t).filter diag).length = E.length
  | [], _ => rfl
  | a :: E, hE => by
    have ih := diag_len h ht E (fun x hx => hE x (List.mem_cons_of_mem _ hx))
    have h1 := diag1 h ht (a := a) F h (fun x hx => hx) (hE a List.mem_cons_self)
    rw [if_pos (hE a List.mem_cons_self)] at h1
    unfold candL at ih ⊢
    rw [List.flatMap_cons, List.filter_append, List.length_append, ih, h1, List.length_cons]
    omega
/-- Of a tree and itself each file is paired with itself, at 100. -/
theorem pairs_self {a c : List It} (o : Once a) (hp : a.Perm c) {t : Int} (ht : t ≤ 100) : (pairsL a c t).length = (fil a).length ∧ ∀ e ∈ pairsL a c t, e.f2 = 100 := by
  have e0 : pairsL a c t = pairsL a a t := pairs_perm o (o.perm hp) (List.Perm.refl _) hp.symm t
  have hS := cand_self (fil_once o) ht
  have hg : greedy (sortB (candL (fil a) (fil a) t)) = (sortB (candL (fil a) (fil a) t)).filter diag := by
    have := greedy_diag hS (sortB (candL (fil a) (fil a) t)) [] ([], [], []) rfl (by simp) (by simp)
    unfold greedy
    simpa using this
  have hpm : (sortB (candL (fil a) (fil a) t)).Perm (candL (fil a) (fil a) t) := List.mergeSort_perm _ _
  rw [e0]
  unfold pairsL sortT
  rw [files_fil o, hg]
  refine ⟨?_, fun e he => ?_⟩
  · rw [List.length_mergeSort, (hpm.filter _).length_eq]
    exact diag_len (fil_once o) ht _ (fun x hx => hx)
  · have h1 := (List.mergeSort_perm _ _).mem_iff.1 he
    obtain ⟨h2, h3⟩ := List.mem_filter.1 h1
    exact hS.same e h2 (of_decide_eq_true h3)
end Go.Proofs.Ytcgnkbdfoaiaiaa.Q
end
section
/- RenameApart: a file more that has nothing in common with any one changes nothing; a dir, or a link, does not either. -/
set_option linter.unusedVariables false
set_option linter.unusedSimpArgs false
namespace Go.Proofs.Ytcgnkbdfoaiaiaa.Pure
open Go Go.RowKit Go.Proofs.Ytcgnkbdfoaiaiaa.P Go.Proofs.YtcgnkbdfoaiaiaaW.PrintWords Go.Proofs.YtcgnkbdfoaiaiaaW.PrintLast Go.Proofs.YtcgnkbdfoaiaiaaW.PrintMore Go.Proofs.Ytcgnkbdfoaiaiaa.Q
theorem lnL_small : ∀ (l : List UInt8), ∀ x ∈ lnL l, x.length ≤ l.length
  | [], x, hx => by cases hx
  | c :: cs, x, hx => by
    rw [lnL_cons] at hx
    have ih := lnL_small cs
    split at hx
    · rcases List.mem_cons.1 hx with rfl | hx
      · simp
      · have := ih x hx
        simp
        omega
    · split at hx <;> rename_i h
      · rw [List.mem_singleton.1 hx]; simp
      · rcases List.mem_cons.1 hx with rfl | hx
        · have := ih _ (by rw [h]; exact List.mem_cons_self)
          simp at this ⊢
          omega
        · have := ih x (by rw [h]; exact List.mem_cons_of_mem _ hx)
          simp
          omega
theorem lines_small (s : ByteArray) : ∀ x ∈ lines s, x.size ≤ s.size := by
  intro x hx
  unfold lines at hx
  obtain ⟨y, hy, rfl⟩ := List.mem_map.1 hx
  exact lnL_small _ y hy
theorem score_none {a b : List ByteArray} (h : ∀ x ∈ a, x ∉ b) (hn : a.length ≠ 0) : score a b = 0 := by
  unfold score
  rw [if_neg (by omega), (comm_zero a b).2 h]
  simp
theorem mx_pos (t : Int) : 1 ≤ mx t 1 := by
  unfold mx
  (repeat' split) <;> omega
theorem cand1_far {f : Fi} {l : List Fi} (h : ∀ b ∈ l, score f.2 b.2 = 0) (t : Int) : cand1 f l t = [] := by
  unfold cand1
  rw [List.filterMap_eq_nil_iff]
  intro b hb
  rw [if_neg (by rw [h b hb]; have := mx_pos t; omega)]
theorem cand_left {F G : List Fi} {f : Fi} (h : ∀ b ∈ G, score f.2 b.2 = 0) (t : Int) : candL (F ++ [f]) G t = candL F G t := by
  unfold candL
  rw [List.flatMap_append, List.flatMap_cons, List.flatMap_nil, cand1_far h, List.append_nil, List.append_nil]
theorem cand1_right {a f : Fi} (G : List Fi) (h : score a.2 f.2 = 0) (t : Int) : cand1 a (G ++ [f]) t = cand1 a G t := by
  have e := cand1_far (f := a) (l := [f]) (fun b hb => by rw [List.mem_singleton.1 hb]; exact h) t
  unfold cand1 at e ⊢
  rw [List.filterMap_append, e, List.append_nil]
theorem cand_right {G : List Fi} {f : Fi} (t : Int) : ∀ F : List Fi, (∀ a ∈ F, score a.2 f.2 = 0) → candL F (G ++ [f]) t = candL F G t
  | [], _ => rfl
  | a :: F, h => by
    have ih := cand_right (G := G) t F (fun x hx => h x (List.mem_cons_of_mem _ hx))
    unfold candL at ih ⊢
    rw [List.flatMap_cons, List.flatMap_cons, ih, cand1_right G (h a List.mem_cons_self)]
theorem cand_more {F F' G G' : List Fi} {x z : Fi} (hF : F' = F ∨ F' = F ++ [x]) (hG : G' = G ∨ G' = G ++ [z]) (h1 : ∀ b ∈ G, score x.2 b.2 = 0) (h2 : ∀ a ∈ F, score a.2 z.2 = 0) (h3 : score x.2 z.2 = 0) (t : Int) : candL F' G' t = candL F G t := by
  have e : candL F' G' t = candL F G' t := by
    rcases hF with rfl | rfl
    · rfl
    · refine cand_left (fun b hb => ?_) t
      rcases hG with rfl | rfl
      · exact h1 b hb
      · rcases List.mem_append.1 hb with hb | hb
        · exact h1 b hb
        · rw [List.mem_singleton.1 hb]; exact h3
  rw [e]
  rcases hG with rfl | rfl
  · rfl
  · exact cand_right t F h2
theorem files_skip (y : It) (h : y.f1 ≠ 2) (l : List It) : filesL (y :: l) = filesL l := by
  have e : stepF ([], []) y = ([], []) := by unfold stepF; rw [if_neg (fun c => h c.1)]
  unfold filesL
  rw [List.foldl_cons, e]
theorem files_snoc (l : List It) (x : It) : filesL (l ++ [x]) = filesL l ∨ filesL (l ++ [x]) = filesL l ++ [(x.f0, lines x.f2)] := by
  unfold filesL
  rw [List.foldl_append, List.foldl_cons, List.foldl_nil]
  generalize l.foldl stepF ([], []) = st
  unfold stepF
  split
  · exact .inr rfl
  · exact .inl rfl
theorem files_from : ∀ (l : List It) (st : List ByteArray × List Fi), ∀ f ∈ (l.foldl stepF st).2, f ∈ st.2 ∨ ∃ x ∈ l, f.2 = lines x.f2
  | [], st, f, hf => .inl hf
  | x :: l, st, f, hf => by
    rw [List.foldl_cons] at hf
    rcases files_from l _ f hf with h | ⟨y, hy, e⟩
    · unfold stepF at h
      split at h
      · rcases List.mem_append.1 h with h | h
        · exact .inl h
        · exact .inr ⟨x, List.mem_cons_self, by rw [List.mem_singleton.1 h]⟩
      · exact .inl h
    · exact .inr ⟨y, List.mem_cons_of_mem _ hy, e⟩
theorem files_small {a : List It} (h : TreeOk a) : ∀ f ∈ filesL a, ∀ x ∈ f.2, x.size ≤ 60 := by
  intro f hf x hx
  rcases files_from a ([], []) f hf with h0 | ⟨y, hy, e⟩
  · cases h0
  · rw [e] at hx
    have h1 := lines_small _ x hx
    have h2 := (h.size y hy).2
    omega
theorem big_x : ∀ x ∈ lines dataX, 60 < x.size := by decide +kernel
theorem big_z : ∀ x ∈ lines dataZ, 60 < x.size := by decide +kernel
theorem no_xz : ∀ x ∈ lines dataX, x ∉ lines dataZ := by decide +kernel
theorem len_x : (lines dataX).length ≠ 0 := by decide +kernel
theorem len_z : (lines dataZ).length ≠ 0 := by decide +kernel
theorem size_x : dataX.size = 151 := by decide +kernel
theorem size_z : dataZ.size = 90 := by decide +kernel
theorem far {l : List ByteArray} (hb : ∀ x ∈ l, 60 < x.size) (hl : l.length ≠ 0) {a : List It} (h : TreeOk a) : ∀ b ∈ filesL a, score l b.2 = 0 := by
  intro b hb2
  refine score_none (fun x hx hx2 => ?_) hl
  have h1 := hb x hx
  have h2 := files_small h b hb2 x hx2
  omega
theorem more_ok {a : List It} (h : TreeOk a) (y x : It) (hy : y.f0.size ≤ 400 ∧ y.f2.size ≤ 400) (hx : x.f0.size ≤ 400 ∧ x.f2.size ≤ 400) : PairsOk ([y] ++ a ++ [x]) := by
  refine ⟨by have := h.len; simp; omega, fun i hi => ?_⟩
  rcases List.mem_append.1 hi with hi | hi
  · rcases List.mem_append.1 hi with hi | hi
    · rw [List.mem_singleton.1 hi]; omega
    · have := h.size i hi; omega
  · rw [List.mem_singleton.1 hi]; omega
theorem files_more (a : List It) (y x : It) (hy : y.f1 ≠ 2) : filesL ([y] ++ a ++ [x]) = filesL a ∨ filesL ([y] ++ a ++ [x]) = filesL a ++ [(x.f0, lines x.f2)] := by
  rw [List.append_assoc, List.singleton_append, files_skip y hy]
  exact files_snoc a x
theorem RenameApart (l0 l1 : List Rw) (a2 a3 : Int) (h0 : ∀ x ∈ l0, HRaw.OkRaw x) (h1 : ∀ x ∈ l1, HRaw.OkRaw x) (h2 : (Lit.int .i64 a2).wf = true) (h3 : (Lit.int .i64 a3).wf = true) : ∃ (k : Nat) (a b : List It) (t q : Int) (l : List PrS), ApartOk k l0 l1 a2 a3 a b t q l := by
  obtain ⟨a, ⟨Ka, hA⟩, oA⟩ := tree_ev l0 h0
  obtain ⟨b, ⟨Kb, hB⟩, oB⟩ := tree_ev l1 h1
  obtain ⟨Kw, hW⟩ := awake8_ev
  have k2 := pick8 (wf_range h2) (m := 101) (n := 101) rfl (by decide)
  have k3 := pick8 (wf_range h3) (m := 2) (n := 2) rfl (by decide)
  have z3 := pk_lt a3 (n := 2) (by decide)
  have la := oA.len
  have lb := oB.len
  have ey : (itY ((pk a3 2 : Nat) : Int)).f1 ≠ 2 := by
    show wrap64 (1 + wrap64 (2 * ((pk a3 2 : Nat) : Int))) ≠ 2
    rw [w64 (x := 2 * ((pk a3 2 : Nat) : Int)) (by omega) (by omega), w64 (by omega) (by omega)]
    omega
  have sy : (itY ((pk a3 2 : Nat) : Int)).f0.size ≤ 400 ∧ (itY ((pk a3 2 : Nat) : Int)).f2.size ≤ 400 := ⟨show 2 ≤ 400 by decide, show 4 ≤ 400 by decide⟩
  have sx : itX.f0.size ≤ 400 ∧ itX.f2.size ≤ 400 := ⟨show 2 ≤ 400 by decide, by show dataX.size ≤ 400; rw [size_x]; decide⟩
  have sz : itZ.f0.size ≤ 400 ∧ itZ.f2.size ≤ 400 := ⟨show 2 ≤ 400 by decide, by show dataZ.size ≤ 400; rw [size_z]; decide⟩
  obtain ⟨Ks, hS⟩ := same_ev (pairsL a b ((pk a2 101 : Nat) : Int)) (pairs_len _ (by omega) (by omega))
  have g1 := far big_x len_x oB
  have g2 : ∀ f ∈ filesL a, score f.2 (lines dataZ) = 0 := fun f hf => by rw [score_symm]; exact far big_z len_z oA f hf
  have g3 : score (lines dataX) (lines dataZ) = 0 := score_none no_xz len_x
  have m1 := files_more a (itY ((pk a3 2 : Nat) : Int)) itX ey
  have m2 := files_more b (itY ((pk a3 2 : Nat) : Int)) itZ ey
  have c1 := cand_more (x := (itX.f0, lines dataX)) (z := (itZ.f0, lines dataZ)) m1 (.inl rfl) g1 g2 g3 ((pk a2 101 : Nat) : Int)
  have c2 := cand_more (x := (itX.f0, lines dataX)) (z := (itZ.f0, lines dataZ)) (.inl rfl) m2 g1 g2 g3 ((pk a2 101 : Nat) : Int)
  have c3 := cand_more (x := (itX.f0, lines dataX)) (z := (itZ.f0, lines dataZ)) m1 m2 g1 g2 g3 ((pk a2 101 : Nat) : Int)
  refine ⟨Ka + Kb + Kw + Ks, a, b, ((pk a2 101 : Nat) : Int), ((pk a3 2 : Nat) : Int), pairsL a b ((pk a2 101 : Nat) : Int), ⟨hW _ (by omega), hA _ (by omega), hB _ (by omega), k2, k3, pairs_f oA.pairs oB.pairs _, ?_, ?_, ?_, hS _ (by omega), by omega, by omega⟩⟩
  · rw [pairs_f (more_ok oA _ _ sy sx) oB.pairs]; unfold pairsL; rw [c1]
  · rw [pairs_f oA.pairs (more_ok oB _ _ sy sz)]; unfold pairsL; rw [c2]
  · rw [pairs_f (more_ok oA _ _ sy sx) (more_ok oB _ _ sy sz)]; unfold pairsL; rw [c3]
end Go.Proofs.Ytcgnkbdfoaiaiaa.Pure
end
section
/- RenameApart: the walk and the plain law, joined. -/
set_option linter.unusedVariables false
namespace Go.Proofs.Ytcgnkbdfoaiaiaa.P
open Go Go.RowKit
theorem apart_walk (a0 : Option Addr) (len0 cap0 : Nat) (z0 : List S41) (a1 : Option Addr) (len1 cap1 : Nat) (z1 : List S41) (a2 a3 : Int) (w : World) (w0 : HRaw.IsRowS w a0 len0 cap0 z0) (w1 : HRaw.IsRowS w a1 len1 cap1 z1) (w2 : (Lit.int .i64 a2).wf = true) (w3 : (Lit.int .i64 a3).wf = true) :
    Calls Try.prog 6 #[.slice a0 len0 cap0, .slice a1 len1 cap1, .int .i64 a2, .int .i64 a3] w fun e w' => e = .returned (.bool true) ∧ Below w.heap.size w w' := by
  obtain ⟨l0, rfl, hr0, hm0, hw0, hc0⟩ := HRaw.ofRowS w0
  obtain ⟨l1, rfl, hr1, hm1, hw1, hc1⟩ := HRaw.ofRowS w1
  obtain ⟨k, a, b, t, q, l, h⟩ := Pure.RenameApart l0 l1 a2 a3 hw0 hw1 w2 w3
  exact apart_run k _ _ l0 _ _ l1 a2 a3 w hr0 hc0 hr1 hc1 a b t q l h
end Go.Proofs.Ytcgnkbdfoaiaiaa.P
end
