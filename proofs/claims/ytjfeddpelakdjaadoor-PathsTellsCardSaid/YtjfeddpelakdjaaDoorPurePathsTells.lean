/- PathsTells: which texts are paths, their parts, their order, and what is within what, is as the document says: the plain law over the printed function. -/
import Derived.Test.YtjfeddpelakdjaaDoorPxf3
import Derived.Test.YtjfeddpelakdjaaDoorQPathEv
set_option linter.unusedVariables false
set_option linter.unusedSimpArgs false
namespace Go.Proofs.YtjfeddpelakdjaaDoor.Pure
open Go Go.RowKit Go.Proofs.YtjfeddpelakdjaaDoor.P Go.Proofs.YtjfeddpelakdjaaDoorW.PrintWords Go.Proofs.YtjfeddpelakdjaaDoorW.PrintLast Go.Proofs.YtjfeddpelakdjaaDoorW.PrintMore Go.Proofs.YtjfeddpelakdjaaDoor.Q
/-- The parts, and what is left of the one that is open. -/
theorem rsplit_loop (s : ByteArray) (hs : s.size ≤ 4000000) (d : Nat) : ∀ (i from_ : Nat) (acc : List ByteArray), i + d = s.size → from_ ≤ i → acc.length ≤ i → (∀ c ∈ ((tl s).drop from_).take (i - from_), c ≠ 47) →
    Ev (fun k => collatorref01_split.l0 k s acc (from_ : Int) (i : Int)) (acc ++ (parts ((tl s).drop from_)).map ofB) := by
  induction d with
  | zero =>
    intro i from_ acc hi hf ha hc
    have hno : (47 : UInt8) ∉ (tl s).drop from_ := fun h => by
      refine hc 47 ?_ rfl
      rw [List.take_of_length_le (by rw [List.length_drop, tl_size]; omega)]
      exact h
    rw [parts_one hno]
    have e : s.extract from_ s.size = ofB ((tl s).drop from_) := ofB_eq (tl_drop s from_)
    refine Ev.step (f := fun _ => some (acc ++ [ofB ((tl s).drop from_)])) (fun k => ?_) (Ev.now _)
    simp only [collatorref01_split.l0]
    rw [if_neg (by omega), if_pos (by omega), if_pos (by omega), if_pos (by omega), Int.toNat_natCast, e]
  | succ d ih =>
    intro i from_ acc hi hf ha hc
    have hlt : i < (tl s).length := by rw [tl_size]; omega
    have hget : (tl s)[i]? = some (tl s)[i] := List.getElem?_eq_getElem hlt
    have hb := bt_tl hget
    have hsplit : (tl s).drop from_ = ((tl s).drop from_).take (i - from_) ++ (tl s)[i] :: (tl s).drop (i + 1) := by
      have h1 : ((tl s).drop from_).drop (i - from_) = (tl s)[i] :: (tl s).drop (i + 1) := by
        rw [List.drop_drop, show from_ + (i - from_) = i by omega, List.drop_eq_getElem_cons hlt]
      rw [← h1, List.take_append_drop]
    by_cases c : (tl s)[i] = 47
    · have hno : (47 : UInt8) ∉ ((tl s).drop from_).take (i - from_) := fun h => hc 47 h rfl
      have e : s.extract from_ i = ofB (((tl s).drop from_).take (i - from_)) := ofB_eq (tl_cut s from_ i)
      have hn := ih (i + 1) (i + 1) (acc ++ [ofB (((tl s).drop from_).take (i - from_))]) (by omega) (Nat.le_refl _) (by rw [List.length_append, List.length_singleton]; omega) (fun x hx => by
        rw [Nat.sub_self, List.take_zero] at hx; cases hx)
      rw [hsplit, c, parts_app, parts_one hno, List.singleton_append, List.map_cons, ← List.singleton_append, ← List.append_assoc]
      refine Ev.step (fun k => ?_) hn
      simp only [collatorref01_split.l0]
      rw [if_pos (by omega), if_pos (by omega), hb, c, if_pos (by rfl), if_pos (by omega), if_pos (by omega), if_pos (by omega), if_pos (by omega), Int.toNat_natCast, Int.toNat_natCast, e, wi (by omega)]
    · have hn := ih (i + 1) from_ acc (by omega) (by omega) (by omega) (fun x hx => by
        have h2 : ((tl s).drop from_).take (i + 1 - from_) = ((tl s).drop from_).take (i - from_) ++ [(tl s)[i]] := by
          have h3 : i + 1 - from_ = (i - from_) + 1 := by omega
          have h4 : ((tl s).drop from_)[i - from_]? = some (tl s)[i] := by rw [List.getElem?_drop, show from_ + (i - from_) = i by omega, hget]
          rw [h3, List.take_add_one, h4]
          rfl
        rw [h2] at hx
        rcases List.mem_append.1 hx with hx | hx
        · exact hc x hx
        · rw [List.mem_singleton.1 hx]; exact c)
      refine Ev.step (fun k => ?_) hn
      simp only [collatorref01_split.l0]
      rw [if_pos (by omega), if_pos (by omega), hb, if_neg (fun h => c (UInt8.toNat_inj.1 (by have : ((47 : UInt8).toNat : Int) = 47 := rfl; omega))), wi (by omega)]
theorem rsplit_ev (s : ByteArray) (hs : s.size ≤ 4000000) : Ev (fun k => collatorref01_split.f k s) (pieces s) := by
  have h := rsplit_loop s hs s.size 0 0 [] (by omega) (Nat.le_refl _) (Nat.le_refl _) (fun c hc => by
    rw [Nat.sub_self, List.take_zero] at hc; cases hc)
  exact h
theorem may_l0 (s : ByteArray) (hs : s.size ≤ 4000000) (t : Bs) : ∀ i : Nat, (tl s).drop i = t → Ev (fun k => collatorref01_may.l0 k s (i : Int)) (decide ((0 : UInt8) ∉ t)) := by
  induction t with
  | nil =>
    intro i h
    have hi := drop_nil h
    rw [tl_size] at hi
    refine Ev.step (f := fun _ => some true) (fun k => ?_) (Ev.now _)
    simp only [collatorref01_may.l0]; rw [if_neg (by omega)]
  | cons c t ih =>
    intro i h
    obtain ⟨h1, h2, h3⟩ := drop_cons h
    rw [tl_size] at h1
    have hb := bt_tl h2
    by_cases hc : c = 0
    · rw [decide_eq_false (by rw [hc]; simp)]
      refine Ev.step (f := fun _ => some false) (fun k => ?_) (Ev.now _)
      simp only [collatorref01_may.l0]
      rw [if_pos (by omega), if_pos (by omega), hb, hc, if_pos (by rfl)]
    · have e : decide ((0 : UInt8) ∉ c :: t) = decide ((0 : UInt8) ∉ t) := by
        rw [decide_eq_decide, List.mem_cons, not_or]
        exact ⟨fun h => h.2, fun h => ⟨fun e => hc e.symm, h⟩⟩
      rw [e]
      refine Ev.step (fun k => ?_) (ih (i + 1) h3)
      simp only [collatorref01_may.l0]
      rw [if_pos (by omega), if_pos (by omega), hb, if_neg (fun h => hc (UInt8.toNat_inj.1 (by have : ((0 : UInt8).toNat : Int) = 0 := rfl; omega))), wi (by omega)]
theorem may_ev (s : ByteArray) (hs : s.size ≤ 4000000) : Ev (fun k => collatorref01_may.f k s) (!oddb (tl s)) := by
  have hj : ∀ b : Bool, Ev (fun k => collatorref01_may.j0 k s b) (if b = true then false else decide ((0 : UInt8) ∉ tl s)) := fun b => by
    cases b with
    | true =>
      refine Ev.step (f := fun _ => some false) (fun k => ?_) (Ev.now _)
      simp only [collatorref01_may.j0]; rw [if_true]
    | false =>
      refine Ev.step (fun k => ?_) (may_l0 s hs (tl s) 0 rfl)
      simp only [collatorref01_may.j0]; rw [if_neg (by decide)]; rfl
  have hl := tl_size s
  unfold collatorref01_may.f
  rw [toList_tl]
  by_cases h1 : tl s = []
  · have e : oddb (tl s) = true := decide_eq_true (.inl h1)
    rw [e]
    exact evpos h1 (hj true)
  · refine evneg h1 ?_
    by_cases h2 : tl s = [46]
    · have e : oddb (tl s) = true := decide_eq_true (.inr (.inl h2))
      rw [e]
      exact evpos h2 (hj true)
    · refine evneg h2 ?_
      by_cases h3 : tl s = [46, 46]
      · have e : oddb (tl s) = true := decide_eq_true (.inr (.inr (.inl h3)))
        rw [e]
        exact evpos h3 (hj true)
      · refine evneg h3 ?_
        by_cases h4 : (s.size : Int) > 64
        · have e : oddb (tl s) = true := decide_eq_true (.inr (.inr (.inr (.inl (by omega)))))
          rw [e, decide_eq_true h4]
          exact hj true
        · have e : (!oddb (tl s)) = decide ((0 : UInt8) ∉ tl s) := by
            unfold oddb
            rw [← decide_not, decide_eq_decide]
            constructor
            · intro h5 h6; exact h5 (.inr (.inr (.inr (.inr h6))))
            · rintro h5 (h6 | h6 | h6 | h6 | h6)
              · exact h1 h6
              · exact h2 h6
              · exact h3 h6
              · omega
              · exact h5 h6
          rw [e, decide_eq_false h4]
          exact hj false
theorem rcheck_loop (ps : List ByteArray) (hp : ps.length ≤ 1000000000000) (hz : ∀ q ∈ ps, q.size ≤ 4000000) (t : List ByteArray) : ∀ i : Nat, ps.drop i = t → Ev (fun k => collatorref01_Check.l0 k ps (i : Int)) (if (t.map tl).any oddb then 2 else if ps.length > 16 then 3 else 0) := by
  induction t with
  | nil =>
    intro i h
    have hi := drop_nil h
    refine Ev.step (f := fun _ => some _) (fun k => ?_) (Ev.now _)
    simp only [collatorref01_Check.l0]
    rw [if_neg (by omega)]
    show _ = some (if ps.length > 16 then (3 : Int) else 0)
    by_cases c : ps.length > 16
    · rw [if_pos (by omega), if_pos c]
    · rw [if_neg (by omega), if_neg c]
  | cons x t ih =>
    intro i h
    obtain ⟨h1, h2, h3⟩ := drop_cons h
    have hm := may_ev x (hz x (List.mem_of_getElem? h2))
    rw [List.map_cons, List.any_cons]
    refine Ev.step (f := fun k => (collatorref01_may.f k x).bind fun t161 => if t161 = true then collatorref01_Check.l0 k ps ((i + 1 : Nat) : Int) else some 2) (fun k => ?_) (Ev.bind hm ?_)
    · simp only [collatorref01_Check.l0]
      rw [if_pos (by omega), if_pos (by omega), rdB h2, wi (by omega)]
    · cases hx : oddb (tl x) with
      | true => exact evneg (by decide) (Ev.now _)
      | false => exact evpos rfl (ih (i + 1) h3)
theorem pieces_small (s : ByteArray) : ∀ q ∈ pieces s, q.size ≤ s.size := by
  have gen : ∀ l : Bs, ∀ p ∈ parts l, p.length ≤ l.length := by
    intro l
    induction l with
    | nil => intro p hp; rw [parts_nil, List.mem_singleton] at hp; rw [hp]; exact Nat.le_refl _
    | cons c l ih =>
      intro p hp
      by_cases hc : c = 47
      · subst hc
        rw [parts_slash] at hp
        rcases List.mem_cons.1 hp with rfl | hp
        · exact Nat.zero_le _
        · have := ih p hp; rw [List.length_cons]; omega
      · obtain ⟨q, qs, h⟩ := parts_ne l
        rw [parts_cons hc h] at hp
        rcases List.mem_cons.1 hp with rfl | hp
        · have := ih q (by rw [h]; exact List.mem_cons_self); simp only [List.length_cons]; omega
        · have := ih p (by rw [h]; exact List.mem_cons_of_mem _ hp); rw [List.length_cons]; omega
  intro q hq
  obtain ⟨p, hp, rfl⟩ := List.mem_map.1 hq
  have := gen (tl s) p hp
  rw [ofB_size, ← tl_size]
  exact this
theorem rcheck_ev (s : ByteArray) (hs : s.size ≤ 4000000) : Ev (fun k => collatorref01_Check.f k s) (Q.chk (parts (tl s))) := by
  unfold collatorref01_Check.f
  refine Ev.bind (rsplit_ev s hs) ?_
  have hl := pieces_length s
  have := rcheck_loop (pieces s) (by omega) (fun q hq => Nat.le_trans (pieces_small s q hq) hs) (pieces s) 0 rfl
  rw [pieces_tl] at this
  have e : (pieces s).length = (parts (tl s)).length := List.length_map ..
  rw [e] at this
  exact this
theorem rparts_ev (s : ByteArray) (hs : s.size ≤ 4000000) : Ev (fun k => collatorref01_Parts.f k s) (if Q.chk (parts (tl s)) = 0 then pieces s else []) := by
  unfold collatorref01_Parts.f
  refine Ev.bind (rcheck_ev s hs) ?_
  by_cases c : Q.chk (parts (tl s)) = 0
  · have e : (if Q.chk (parts (tl s)) = 0 then pieces s else []) = pieces s := if_pos c
    rw [e]
    exact evpos c (Ev.bind (rsplit_ev s hs) (Ev.now _))
  · have e : (if Q.chk (parts (tl s)) = 0 then pieces s else []) = [] := if_neg c
    rw [e]
    exact evneg c (Ev.now _)
theorem ok_parts {ps : List Bs} (h : Q.chk ps = 0) : ∀ p ∈ ps, p ≠ [] := by
  intro p hp he
  unfold Q.chk at h
  have : ps.any oddb = true := List.any_eq_true.2 ⟨p, hp, by rw [he]; rfl⟩
  rw [if_pos this] at h
  cases h
theorem rdir_loop (ps : List Bs) (hn : ∀ p ∈ ps, p ≠ []) (hp : ps.length ≤ 4000001) (d : Nat) : ∀ (i : Nat), i + d + 1 = ps.length → (∀ j, (glue (ps.take j)).length ≤ 3000000) → (∀ p ∈ ps, p.length ≤ 3000000) → Ev (fun k => collatorref01_Dir.l0 k (ps.map ofB) (ofB (glue (ps.take i))) (i : Int)) (ofB (glue ps.dropLast)) := by
  have hl : (ps.map ofB).length = ps.length := List.length_map ..
  induction d with
  | zero =>
    intro i hi h1 h2
    refine Ev.step (f := fun _ => some (ofB (glue ps.dropLast))) (fun k => ?_) (Ev.now _)
    simp only [collatorref01_Dir.l0]
    rw [wi (by omega), if_neg (by omega), List.dropLast_eq_take, show ps.length - 1 = i by omega]
  | succ d ih =>
    intro i hi h1 h2
    have hlt : i < ps.length := by omega
    have hget : (ps.map ofB)[i]? = some (ofB ps[i]) := by rw [List.getElem?_map, List.getElem?_eq_getElem hlt]; rfl
    have hj := rjoin_ok (d := ofB (glue (ps.take i))) (n := ofB ps[i]) (by rw [ofB_size]; have := h1 i; omega) (by rw [ofB_size]; have := h2 _ (List.getElem_mem hlt); omega)
    have e : joinB (tl (ofB (glue (ps.take i)))) (tl (ofB ps[i])) = glue (ps.take (i + 1)) := by
      rw [tl_ofB, tl_ofB, List.take_succ_eq_append_getElem hlt]
      by_cases c : ps.take i = []
      · rw [c]; rfl
      · rw [glue_snoc c]
        unfold joinB
        rw [if_neg (glue_ne c (fun q hq => hn q (List.mem_of_mem_take hq)))]
    rw [e] at hj
    refine Ev.step (fun k => ?_) (ih (i + 1) (by omega) h1 h2)
    simp only [collatorref01_Dir.l0]
    rw [wi (by omega), if_pos (by omega), if_pos (by omega), if_pos (by omega), rdB hget, hj, Option.bind_some]
theorem glue_take (ps : List Bs) (j : Nat) : (glue (ps.take j)).length ≤ (glue ps).length := by
  by_cases c1 : ps.take j = []
  · rw [c1]; exact Nat.zero_le _
  · by_cases c2 : ps.drop j = []
    · have := List.take_append_drop j ps
      rw [c2, List.append_nil] at this
      rw [this]
      exact Nat.le_refl _
    · have := glue_app _ _ c1 c2
      rw [List.take_append_drop] at this
      rw [this, List.length_append]
      omega
theorem rdir_ev (s : ByteArray) (hs : s.size ≤ 1000) : Ev (fun k => collatorref01_Dir.f k s) (ofB (dirB (tl s))) := by
  unfold collatorref01_Dir.f dirB
  refine Ev.bind (rparts_ev s (by omega)) ?_
  by_cases c : Q.chk (parts (tl s)) = 0
  · rw [if_pos c, if_pos c]
    obtain ⟨p, ps, hp⟩ := parts_ne (tl s)
    have hl := parts_length (tl s)
    rw [tl_size] at hl
    refine rdir_loop (parts (tl s)) (ok_parts c) (by omega) ((parts (tl s)).length - 1) 0 (by rw [hp]; simp) (fun j => ?_) (fun q hq => ?_)
    · have := glue_take (parts (tl s)) j
      rw [glue_parts, tl_size] at this
      omega
    · have := pieces_small s (ofB q) (List.mem_map_of_mem hq)
      rw [ofB_size] at this
      omega
  · rw [if_neg c, if_neg c]
    refine Ev.step (f := fun _ => some (⟨#[]⟩ : ByteArray)) (fun k => ?_) (Ev.now _)
    simp only [collatorref01_Dir.l0]
    have e : wrap64 ((0 : Int) + 1) = 1 := (w64 (x := (0 : Int) + 1) (by omega) (by omega)).trans (by omega)
    rw [e, if_neg (by decide)]
theorem rbase_ev (s : ByteArray) (hs : s.size ≤ 1000) : Ev (fun k => collatorref01_Base.f k s) (ofB (baseB (tl s))) := by
  unfold collatorref01_Base.f baseB
  refine Ev.bind (rparts_ev s (by omega)) ?_
  by_cases c : Q.chk (parts (tl s)) = 0
  · rw [if_pos c, if_pos c]
    obtain ⟨p, ps, hp⟩ := parts_ne (tl s)
    have hl := pieces_length s
    have hlen : (pieces s).length = (parts (tl s)).length := List.length_map ..
    have hpos : 0 < (parts (tl s)).length := by rw [hp]; simp
    have e1 : wrap64 (((pieces s).length : Int) - 1) = (((pieces s).length - 1 : Nat) : Int) := by rw [w64 (by omega) (by omega)]; omega
    have hget : (pieces s)[(pieces s).length - 1]? = some (ofB ((parts (tl s)).getLastD [])) := by
      unfold pieces
      rw [List.length_map, List.getElem?_map, List.getLastD_eq_getLast?, List.getLast?_eq_getElem?, List.getElem?_eq_getElem (by omega)]
      rfl
    refine evneg (by omega) (evpos (by rw [e1]; omega) (evpos (by rw [e1]; omega) ?_))
    rw [e1, rdB hget]
    exact Ev.now _
  · rw [if_neg c, if_neg c]
    exact evpos rfl (Ev.now _)
theorem less_cmp (a b : Bs) : Op.bytesLess a b = decide (bcmp a b < 0) := by
  induction a generalizing b with
  | nil => cases b <;> rfl
  | cons x a ih =>
    cases b with
    | nil => rfl
    | cons y b =>
      show (decide (x < y) || (x == y && Op.bytesLess a b)) = _
      rw [bcmp_cons, ih b]
      by_cases c1 : x.toNat < y.toNat
      · rw [if_pos c1, decide_eq_true (UInt8.lt_iff_toNat_lt.2 c1)]; rfl
      · have h1 : ¬ x < y := fun h => c1 (UInt8.lt_iff_toNat_lt.1 h)
        rw [if_neg c1, decide_eq_false h1, Bool.false_or]
        by_cases c2 : y.toNat < x.toNat
        · have h2 : (x == y) = false := by rw [beq_eq_false_iff_ne]; intro h; rw [h] at c2; omega
          rw [if_pos c2, h2]; rfl
        · have h2 : (x == y) = true := by rw [beq_iff_eq]; exact UInt8.toNat_inj.1 (by omega)
          rw [if_neg c2, h2, Bool.true_and]
theorem bcmp_neg (a b : Bs) : bcmp b a = -bcmp a b := lex_neg _ _
theorem rcompare_loop (xs ys : List Bs) (hx : xs.length ≤ 100000) (hy : ys.length ≤ 100000) (u : List Bs) : ∀ (v : List Bs) (i : Nat), xs.drop i = u → ys.drop i = v → i ≤ xs.length → i ≤ ys.length → Ev (fun k => collatorref01_Compare.l0 k (xs.map ofB) (ys.map ofB) (i : Int)) (cmpP u v) := by
  have lx : (xs.map ofB).length = xs.length := List.length_map ..
  have ly : (ys.map ofB).length = ys.length := List.length_map ..
  induction u with
  | nil =>
    intro v i hu hv h1 h2
    have g1 := drop_nil hu
    refine Ev.step (f := fun k => collatorref01_Compare.j1 k (xs.map ofB) (ys.map ofB) (i : Int) false) (fun k => ?_) (Ev.step (f := fun _ => some (cmpP [] v)) (fun k => ?_) (Ev.now _))
    · simp only [collatorref01_Compare.l0]; rw [if_neg (by omega)]
    · simp only [collatorref01_Compare.j1]
      rw [if_neg (by decide)]
      cases v with
      | nil =>
        have g2 := drop_nil hv
        rw [if_neg (by omega), if_neg (by omega)]; rfl
      | cons y v =>
        obtain ⟨g2, _, _⟩ := drop_cons hv
        rw [if_pos (by omega)]; rfl
  | cons x u ih =>
    intro v i hu hv h1 h2
    obtain ⟨a1, a2, a3⟩ := drop_cons hu
    cases v with
    | nil =>
      have g2 := drop_nil hv
      refine Ev.step (f := fun k => collatorref01_Compare.j1 k (xs.map ofB) (ys.map ofB) (i : Int) false) (fun k => ?_) (Ev.step (f := fun _ => some (cmpP (x :: u) [])) (fun k => ?_) (Ev.now _))
      · simp only [collatorref01_Compare.l0]; rw [if_pos (by omega), decide_eq_false (by omega : ¬ (i : Int) < ((ys.map ofB).length : Int))]
      · simp only [collatorref01_Compare.j1]
        rw [if_neg (by decide), if_neg (by omega), if_pos (by omega)]; rfl
    | cons y v =>
      obtain ⟨b1, b2, b3⟩ := drop_cons hv
      have ga : (xs.map ofB)[i]? = some (ofB x) := by rw [List.getElem?_map, a2]; rfl
      have gb : (ys.map ofB)[i]? = some (ofB y) := by rw [List.getElem?_map, b2]; rfl
      have hn := ih v (i + 1) a3 b3 (by omega) (by omega)
      have hng := bcmp_neg x y
      show Ev _ (if bcmp x y < 0 then (-1 : Int) else if bcmp x y > 0 then 1 else cmpP u v)
      refine Ev.step (f := fun k => collatorref01_Compare.j1 k (xs.map ofB) (ys.map ofB) (i : Int) true) (fun k => ?_) ?_
      · simp only [collatorref01_Compare.l0]; rw [if_pos (by omega), decide_eq_true (by omega : (i : Int) < ((ys.map ofB).length : Int))]
      · by_cases c1 : bcmp x y < 0
        · rw [if_pos c1]
          refine Ev.step (f := fun _ => some (-1)) (fun k => ?_) (Ev.now _)
          simp only [collatorref01_Compare.j1]
          rw [if_true, if_pos (by omega), if_pos (by omega), if_pos (by omega), rdB ga, rdB gb, toList_tl, toList_tl, tl_ofB, tl_ofB, less_cmp, if_pos (decide_eq_true c1)]
        · rw [if_neg c1]
          by_cases c2 : bcmp x y > 0
          · rw [if_pos c2]
            refine Ev.step (f := fun _ => some 1) (fun k => ?_) (Ev.now _)
            simp only [collatorref01_Compare.j1]
            rw [if_true, if_pos (by omega), if_pos (by omega), if_pos (by omega), rdB ga, rdB gb, toList_tl, toList_tl, tl_ofB, tl_ofB, less_cmp, less_cmp, if_neg (by rw [decide_eq_false c1]; decide), if_pos (decide_eq_true (by omega))]
          · rw [if_neg c2]
            refine Ev.step (fun k => ?_) hn
            simp only [collatorref01_Compare.j1]
            rw [if_true, if_pos (by omega), if_pos (by omega), if_pos (by omega), rdB ga, rdB gb, toList_tl, toList_tl, tl_ofB, tl_ofB, less_cmp, less_cmp, if_neg (by rw [decide_eq_false c1]; decide), if_neg (by rw [decide_eq_false (by omega : ¬ bcmp y x < 0)]; decide), wi (by omega)]
theorem rcompare_ev (a b : ByteArray) (ha : a.size ≤ 1000) (hb : b.size ≤ 1000) : Ev (fun k => collatorref01_Compare.f k a b) (pcmp (tl a) (tl b)) := by
  unfold collatorref01_Compare.f
  refine Ev.bind (rsplit_ev a (by omega)) (Ev.bind (rsplit_ev b (by omega)) ?_)
  have h1 := parts_length (tl a)
  have h2 := parts_length (tl b)
  rw [tl_size] at h1 h2
  have h := rcompare_loop (parts (tl a)) (parts (tl b)) (by omega) (by omega) _ _ 0 rfl rfl (by omega) (by omega)
  rw [List.drop_zero, List.drop_zero, cmp_parts] at h
  exact h
theorem rwithin_loop (xs ys : List Bs) (hx : xs.length ≤ 100000) (hy : ys.length ≤ 100000) (u : List Bs) : ∀ (v : List Bs) (i : Nat), xs.drop i = u → ys.drop i = v → i ≤ ys.length → i ≤ xs.length → Ev (fun k => collatorref01_Within.l0 k (xs.map ofB) (ys.map ofB) (i : Int)) (decide (u <+: v ∧ u.length < v.length)) := by
  have lx : (xs.map ofB).length = xs.length := List.length_map ..
  have ly : (ys.map ofB).length = ys.length := List.length_map ..
  induction u with
  | nil =>
    intro v i hu hv h1 h0
    have g1 := drop_nil hu
    have hvl : v.length = ys.length - i := by rw [← hv, List.length_drop]
    refine Ev.step (f := fun _ => some (decide (([] : List Bs) <+: v ∧ ([] : List Bs).length < v.length))) (fun k => ?_) (Ev.now _)
    simp only [collatorref01_Within.l0]
    rw [if_neg (by omega)]
    congr 1
    rw [decide_eq_decide]
    constructor
    · intro h; exact ⟨List.nil_prefix, by rw [List.length_nil]; omega⟩
    · rintro ⟨_, h⟩; rw [List.length_nil] at h; omega
  | cons x u ih =>
    intro v i hu hv h1 h0
    obtain ⟨a1, a2, a3⟩ := drop_cons hu
    cases v with
    | nil =>
      have g2 := drop_nil hv
      rw [decide_eq_false (by rintro ⟨_, h⟩; simp at h)]
      refine Ev.step (f := fun _ => some false) (fun k => ?_) (Ev.now _)
      simp only [collatorref01_Within.l0]
      rw [if_pos (by omega), if_pos (by omega)]
    | cons y v =>
      obtain ⟨b1, b2, b3⟩ := drop_cons hv
      have ga : (xs.map ofB)[i]? = some (ofB x) := by rw [List.getElem?_map, a2]; rfl
      have gb : (ys.map ofB)[i]? = some (ofB y) := by rw [List.getElem?_map, b2]; rfl
      by_cases c : x = y
      · have e : decide (x :: u <+: y :: v ∧ (x :: u).length < (y :: v).length) = decide (u <+: v ∧ u.length < v.length) := by
          rw [decide_eq_decide, List.cons_prefix_cons, List.length_cons, List.length_cons]
          exact ⟨fun ⟨h1, h2⟩ => ⟨h1.2, by omega⟩, fun ⟨h1, h2⟩ => ⟨⟨c, h1⟩, by omega⟩⟩
        rw [e]
        refine Ev.step (fun k => ?_) (ih v (i + 1) a3 b3 (by omega) (by omega))
        simp only [collatorref01_Within.l0]
        rw [if_pos (by omega), if_neg (by omega), if_pos (by omega), if_pos (by omega), rdB ga, rdB gb, if_pos (by rw [c]), wi (by omega)]
      · rw [decide_eq_false (by rintro ⟨h, _⟩; exact c (List.cons_prefix_cons.1 h).1)]
        refine Ev.step (f := fun _ => some false) (fun k => ?_) (Ev.now _)
        simp only [collatorref01_Within.l0]
        rw [if_pos (by omega), if_neg (by omega), if_pos (by omega), if_pos (by omega), rdB ga, rdB gb, if_neg (fun h => c (by rw [toList_tl, toList_tl, tl_ofB, tl_ofB] at h; exact h))]
theorem rwithin_ev (d p : ByteArray) (hd : d.size ≤ 1000) (hp : p.size ≤ 1000) : Ev (fun k => collatorref01_Within.f k d p) (withinB (tl d) (tl p)) := by
  unfold collatorref01_Within.f
  by_cases h : tl d = []
  · refine evpos (by rw [toList_tl]; exact h) ?_
    rw [toList_tl, h]
    exact Ev.now _
  · refine evneg (by rw [toList_tl]; exact h) (Ev.bind (rsplit_ev d (by omega)) (Ev.bind (rsplit_ev p (by omega)) ?_))
    have h1 := parts_length (tl d)
    have h2 := parts_length (tl p)
    rw [tl_size] at h1 h2
    have hw := rwithin_loop (parts (tl d)) (parts (tl p)) (by omega) (by omega) _ _ 0 rfl rfl (by omega) (by omega)
    rw [List.drop_zero, List.drop_zero] at hw
    have e : decide (parts (tl d) <+: parts (tl p) ∧ (parts (tl d)).length < (parts (tl p)).length) = withinB (tl d) (tl p) := by
      rw [Bool.eq_iff_iff, decide_eq_true_iff, Q.within_iff, within_true h]
    rw [e] at hw
    exact hw
theorem rtexts_loop (l : List ByteArray) (hl : l.length ≤ 1000000) (d : Nat) : ∀ i : Nat, i + d = l.length → Ev (fun k => collatorref01_Texts.l0 k l l (i : Int)) true := by
  induction d with
  | zero =>
    intro i hi
    refine Ev.step (f := fun _ => some true) (fun k => ?_) (Ev.now _)
    simp only [collatorref01_Texts.l0]; rw [if_neg (by omega)]
  | succ d ih =>
    intro i hi
    refine Ev.step (fun k => ?_) (ih (i + 1) (by omega))
    simp only [collatorref01_Texts.l0]
    rw [if_pos (by omega), if_pos (by omega), if_pos (by omega), if_true, wi (by omega)]
theorem rtexts_ev (l : List ByteArray) (hl : l.length ≤ 1000000) : Ev (fun k => collatorref01_Texts.f k l l) true := by
  unfold collatorref01_Texts.f
  exact evpos rfl (rtexts_loop l hl l.length 0 (by omega))
section
variable {L : List ByteArray} (hL : L.length = 6) (hs : ∀ p ∈ L, p.size ≤ 900)
include hL hs
theorem tells_l1 (x : ByteArray) (hx : x.size ≤ 900) (i : Nat) (hi : i ≤ 6) (hn : Ev (fun k => collatorlaw01_PathsTells.l0 k true L L 6 ((i + 1 : Nat) : Int)) true) (d : Nat) : ∀ j : Nat, j + d = 6 → Ev (fun k => collatorlaw01_PathsTells.l1 k true L x L 6 (i : Int) L 6 (j : Int)) true := by
  induction d with
  | zero =>
    intro j hj
    refine Ev.step (fun k => ?_) hn
    simp only [collatorlaw01_PathsTells.l1]
    rw [if_neg (by omega), wi (by omega)]
  | succ d ih =>
    intro j hj
    have hget : L[j]? = some (L[j]'(by omega)) := List.getElem?_eq_getElem _
    have hq := hs _ (List.getElem_mem (show j < L.length by omega))
    generalize L[j]'(by omega) = q at hget hq
    have c1 := compare_ok (a := x) (b := q) (by omega) (by omega)
    have c2 := rcompare_ev x q (by omega) (by omega)
    have w1 := within_ok (d := x) (p := q) (by omega)
    have w2 := rwithin_ev x q (by omega) (by omega)
    have j1 := join_ok (d := x) (n := q) (by omega) (by omega)
    have j2 := rjoin_ok (d := x) (n := q) (by omega) (by omega)
    refine Ev.step (f := fun k => (paths_Compare.f k x q).bind fun t214 => (collatorref01_Compare.f k x q).bind fun t215 => if t214 = t215 then (paths_Within.f x q).bind fun t216 => (collatorref01_Within.f k x q).bind fun t217 => if (t216 != t217) = true then some false else (paths_Join.f x q).bind fun t218 => (collatorref01_Join.f x q).bind fun t219 => if t218.toList = t219.toList then collatorlaw01_PathsTells.l1 k true L x L 6 (i : Int) L 6 ((j + 1 : Nat) : Int) else some false else some false) (fun k => ?_) (Ev.bind c1 (Ev.bind c2 (evpos rfl (evval w1 (Ev.bind w2 (evneg (by rw [bne_self_eq_false]; decide) (evval j1 (evval j2 (evpos rfl (ih (j + 1) (by omega)))))))))))
    simp only [collatorlaw01_PathsTells.l1]
    rw [if_pos (by omega), if_pos (by omega), if_pos (by omega), rdB hget, wi (by omega)]
theorem tells_l0 (d : Nat) : ∀ i : Nat, i + d = 6 → Ev (fun k => collatorlaw01_PathsTells.l0 k true L L 6 (i : Int)) true := by
  induction d with
  | zero =>
    intro i hi
    refine Ev.step (f := fun _ => some true) (fun k => ?_) (Ev.now _)
    simp only [collatorlaw01_PathsTells.l0]; rw [if_neg (by omega)]
  | succ d ih =>
    intro i hi
    have hget : L[i]? = some (L[i]'(by omega)) := List.getElem?_eq_getElem _
    have hp := hs _ (List.getElem_mem (show i < L.length by omega))
    have hin := fun x hx => tells_l1 hL hs x hx i (by omega) (ih (i + 1) (by omega)) 6 0 rfl
    generalize L[i]'(by omega) = p at hget hp
    have c1 := check_ok (s := p) (by omega)
    have c2 := rcheck_ev p (by omega)
    have p1 := parts_okf (s := p) (by omega)
    have p2 := rparts_ev p (by omega)
    have d1 := dir_ok (s := p) (by omega)
    have d2 := rdir_ev p (by omega)
    have b1 := base_ok (s := p) (by omega)
    have b2 := rbase_ev p (by omega)
    have hpl := pieces_length p
    have hlen : (if Q.chk (parts (tl p)) = 0 then pieces p else []).length ≤ 1000000 := by
      split
      · omega
      · exact Nat.zero_le _
    have t1 := rtexts_ev _ hlen
    refine Ev.step (f := fun k => (paths_Check.f k p).bind fun t200 => (collatorref01_Check.f k p).bind fun t201 => if t200 = t201 then (paths_Parts.f k p).bind fun t202 => (collatorref01_Parts.f k p).bind fun t205 => (collatorref01_Texts.f k t202 t205).bind fun t208 => if t208 = true then (paths_Dir.f k p).bind fun t209 => (collatorref01_Dir.f k p).bind fun t210 => if t209.toList = t210.toList then (paths_Base.f k p).bind fun t211 => (collatorref01_Base.f k p).bind fun t212 => collatorlaw01_PathsTells.j1 k true L p L 6 (i : Int) (t211.toList != t212.toList) else collatorlaw01_PathsTells.j1 k true L p L 6 (i : Int) true else collatorlaw01_PathsTells.j1 k true L p L 6 (i : Int) true else collatorlaw01_PathsTells.j1 k true L p L 6 (i : Int) true) (fun k => ?_) (Ev.bind c1 (Ev.bind c2 (evpos rfl (Ev.bind p1 (Ev.bind p2 (Ev.bind t1 (evpos rfl (Ev.bind d1 (Ev.bind d2 (evpos rfl (Ev.bind b1 (Ev.bind b2 ?_))))))))))))
    · simp only [collatorlaw01_PathsTells.l0]
      rw [if_pos (by omega), if_pos (by omega), if_pos (by omega), rdB hget]
    · rw [bne_self_eq_false]
      refine Ev.step (fun k => ?_) (hin p hp)
      simp only [collatorlaw01_PathsTells.j1]
      rw [if_neg (by decide), hL]
      rfl
end
theorem PathsTells : collatorlaw01_PathsTells.Pure := by
  intro a b l2 l3 _ _ hm2 hr2 hw2 hm3 hr3 hw3
  obtain ⟨p, hP, _, sp⟩ := path_ev l2 hw2 (by omega)
  obtain ⟨q, hQ, _, sq⟩ := path_ev l3 hw3 (by omega)
  obtain ⟨a1, a2, a3⟩ := mn_take a 200
  obtain ⟨b1, b2, b3⟩ := mn_take b 200
  have e200 : ((200 : Nat) : Int) = 200 := rfl
  rw [e200] at a1 a2 a3 b1 b2 b3
  refine Ev.rounds ?_
  unfold collatorlaw01_PathsTells.f
  have hs1 : (⟨#[47]⟩ : ByteArray).size = 1 := rfl
  have h1 := size_append (a.extract 0 (mn (a.size : Int) 200).toNat) (⟨#[47]⟩ : ByteArray)
  have h2 := size_append ((a.extract 0 (mn (a.size : Int) 200).toNat) ++ (⟨#[47]⟩ : ByteArray)) (b.extract 0 (mn (b.size : Int) 200).toNat)
  have h3 := size_append p (⟨#[47]⟩ : ByteArray)
  have h4 := size_append (p ++ (⟨#[47]⟩ : ByteArray)) (a.extract 0 (mn (a.size : Int) 200).toNat)
  refine Ev.bind awake1_ok (evpos a1 (evpos a2 (evpos b1 (evpos b2 (Ev.bind hP (Ev.bind hQ (evpos (by omega) (evpos (by omega) (evpos (by omega) (evpos (by omega) (evval rfl ?_)))))))))))
  refine tells_l0 rfl (fun u hu => ?_) 6 0 rfl
  simp only [List.mem_cons, List.not_mem_nil, or_false] at hu
  rcases hu with rfl | rfl | rfl | rfl | rfl | rfl <;> omega
end Go.Proofs.YtjfeddpelakdjaaDoor.Pure
