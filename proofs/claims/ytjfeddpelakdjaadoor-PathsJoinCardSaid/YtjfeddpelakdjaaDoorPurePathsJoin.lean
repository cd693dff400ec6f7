/- PathsJoin: Join of Dir and Base is the path; its parts; a path with a part more: the plain law over the printed function. -/
import Derived.Test.YtjfeddpelakdjaaDoorPxf6
import Derived.Test.YtjfeddpelakdjaaDoorQPathEv
set_option linter.unusedVariables false
set_option linter.unusedSimpArgs false
namespace Go.Proofs.YtjfeddpelakdjaaDoor.Pure
open Go Go.RowKit Go.Proofs.YtjfeddpelakdjaaDoor.P Go.Proofs.YtjfeddpelakdjaaDoorW.PrintWords Go.Proofs.YtjfeddpelakdjaaDoorW.PrintLast Go.Proofs.YtjfeddpelakdjaaDoorW.PrintMore Go.Proofs.YtjfeddpelakdjaaDoor.Q
theorem jtexts_loop (l : List ByteArray) (hl : l.length ≤ 1000000) (d : Nat) : ∀ i : Nat, i + d = l.length → Ev (fun k => collatorref01_Texts.l0 k l l (i : Int)) true := by
  induction d with
  | zero =>
    intro i hi
    refine Ev.step (f := fun _ => some true) (fun k => ?_) (Ev.now _)
    simp only [collatorref01_Texts.l0]
    rw [if_neg (by omega)]
  | succ d ih =>
    intro i hi
    refine Ev.step (fun k => ?_) (ih (i + 1) (by omega))
    simp only [collatorref01_Texts.l0]
    rw [if_pos (by omega), if_pos (by omega), if_pos (by omega), if_true, wi (by omega)]
theorem jtexts_ev (l : List ByteArray) (hl : l.length ≤ 1000000) : Ev (fun k => collatorref01_Texts.f k l l) true := by
  unfold collatorref01_Texts.f
  exact evpos rfl (jtexts_loop l hl l.length 0 (by omega))
theorem chk_zero {ps : List Bs} (h : Q.chk ps = 0) : ps.any oddb = false ∧ ps.length ≤ 16 := by
  unfold Q.chk at h
  by_cases c : ps.any oddb = true
  · rw [if_pos c] at h; omega
  · rw [if_neg c] at h
    by_cases c2 : ps.length > 16
    · rw [if_pos c2] at h; omega
    · exact ⟨Bool.not_eq_true _ ▸ c, by omega⟩
theorem zero_chk {ps : List Bs} (h : ps.any oddb = false) (h2 : ps.length ≤ 16) : Q.chk ps = 0 := by
  unfold Q.chk
  rw [if_neg (by rw [h]; decide), if_neg (by omega)]
theorem odd_nil : oddb [] = true := by decide
/-- What a path is made of. -/
theorem path_two {l : Bs} (h : Q.chk (parts l) = 0) : (dirB l = [] ∧ baseB l = l ∧ parts l = [l] ∧ l ≠ []) ∨ (dirB l ≠ [] ∧ l = dirB l ++ 47 :: baseB l ∧ parts l = parts (dirB l) ++ [baseB l] ∧ Q.chk (parts (dirB l)) = 0 ∧ l ≠ []) := by
  obtain ⟨h1, h2⟩ := chk_zero h
  unfold dirB baseB
  rw [if_pos h, if_pos h]
  rcases parts_last l with ⟨g1, g2⟩ | ⟨a, b, g1, g2, g3⟩
  · refine .inl ⟨by rw [g2]; rfl, by rw [g2]; rfl, g2, fun e => ?_⟩
    rw [g2, e, List.any_cons, odd_nil] at h1; cases h1
  · have hd : glue (parts l).dropLast = a := by rw [g3, List.dropLast_concat, glue_parts]
    have hb : (parts l).getLastD [] = b := by rw [g3, List.getLastD_concat]
    rw [hd, hb]
    rw [g3, List.any_append, Bool.or_eq_false_iff] at h1
    rw [g3, List.length_append, List.length_singleton] at h2
    refine .inr ⟨fun e => ?_, g1, g3, zero_chk h1.1 (by omega), fun e => ?_⟩
    · have h3 := h1.1
      rw [e, parts_nil, List.any_cons, odd_nil] at h3; cases h3
    · rw [g1] at e; have := congrArg List.length e; simp at this
theorem odd_x : oddb [120] = false := by decide
theorem parts_x (l : Bs) : parts (l ++ 47 :: [120]) = parts l ++ [[120]] := by rw [parts_app, parts_one (l := [120]) (by decide)]
theorem chk_x {l : Bs} (h : Q.chk (parts l) = 0) : Q.chk (parts l ++ [[120]]) = if (parts l).length < 16 then 0 else 3 := by
  obtain ⟨h1, h2⟩ := chk_zero h
  unfold Q.chk
  rw [List.any_append, h1, List.any_cons, odd_x, if_neg (by decide), List.length_append, List.length_singleton]
  by_cases c : (parts l).length < 16
  · rw [if_neg (by omega), if_pos c]
  · rw [if_pos (by omega), if_neg c]
theorem ofB_toList (l : Bs) : (ofB l).toList = l := by rw [toList_tl, tl_ofB]
section
variable {p : ByteArray} (hs : p.size ≤ 900) (hc : Q.chk (parts (tl p)) = 0) {y : List ByteArray} {i : Nat} (hi : i < 2) (hn : Ev (fun k => collatorlaw01_PathsJoin.l0 k true y (y.length : Int) ((i + 1 : Nat) : Int)) true)
include hs hc hi hn
theorem join_j1 (hp : tl p ≠ []) : Ev (fun k => collatorlaw01_PathsJoin.j1 k true p (pieces p) y (y.length : Int) (i : Int) false) true := by
  have e := fun k => collatorlaw01_PathsJoin.j1.eq_2 true p (pieces p) y (y.length : Int) (i : Int) false k
  refine Ev.step e ?_
  have hx : joinB (tl p) (tl (⟨#[120]⟩ : ByteArray)) = tl p ++ 47 :: [120] := by
    unfold joinB; rw [if_neg hp]; rfl
  have hj := join_ok (d := p) (n := (⟨#[120]⟩ : ByteArray)) (by omega) (by decide)
  rw [hx] at hj
  have hq : (ofB (tl p ++ 47 :: [120])).size ≤ 1000 := by
    rw [ofB_size, List.length_append, tl_size, List.length_cons, List.length_singleton]; omega
  have hl : (pieces p).length = (parts (tl p)).length := List.length_map ..
  obtain ⟨h1, h2⟩ := chk_zero hc
  have ck := check_ok (s := ofB (tl p ++ 47 :: [120])) (by omega)
  have dk := dir_ok (s := ofB (tl p ++ 47 :: [120])) (by omega)
  have bk := base_ok (s := ofB (tl p ++ 47 :: [120])) (by omega)
  rw [tl_ofB, parts_x, chk_x hc] at ck
  rw [tl_ofB] at dk bk
  have hw : wrap64 ((i : Int) + 1) = ((i + 1 : Nat) : Int) := wi (by omega)
  rw [hw]
  refine evneg (by decide) (evval hj ?_)
  by_cases c : (parts (tl p)).length < 16
  · rw [if_pos c] at ck
    have h0 : Q.chk (parts (tl p ++ 47 :: [120])) = 0 := by rw [parts_x, chk_x hc, if_pos c]
    have hd : dirB (tl p ++ 47 :: [120]) = tl p := by
      unfold dirB; rw [if_pos h0, parts_x, List.dropLast_concat, glue_parts]
    have hb : baseB (tl p ++ 47 :: [120]) = [120] := by
      unfold baseB; rw [if_pos h0, parts_x, List.getLastD_concat]
    rw [hd] at dk
    rw [hb] at bk
    exact evpos (by omega) (Ev.bind ck (evpos rfl (Ev.bind dk (evpos (by rw [ofB_toList, toList_tl]) (Ev.bind bk (evpos (ofB_toList _) (evneg (by omega) hn)))))))
  · rw [if_neg c] at ck
    exact evneg (by omega) (evpos (by omega) (Ev.bind ck (evpos rfl hn)))
end
theorem join_step {p : ByteArray} (hs : p.size ≤ 900) {y : List ByteArray} {i : Nat} (hy : y.length = 2) (hg : y[i]? = some p) (hn : Ev (fun k => collatorlaw01_PathsJoin.l0 k true y (y.length : Int) ((i + 1 : Nat) : Int)) true) : Ev (fun k => collatorlaw01_PathsJoin.l0 k true y (y.length : Int) (i : Int)) true := by
  have hi : i < y.length := (List.getElem?_eq_some_iff.1 hg).1
  have e := fun k => collatorlaw01_PathsJoin.l0.eq_2 true y (y.length : Int) (i : Int) k
  have hw : wrap64 ((i : Int) + 1) = ((i + 1 : Nat) : Int) := wi (by omega)
  rw [rdB hg, hw] at e
  refine Ev.step e ?_
  have ck := check_ok (s := p) (by omega)
  have pk_ := parts_okf (s := p) (by omega)
  have dk := dir_ok (s := p) (by omega)
  have bk := base_ok (s := p) (by omega)
  refine evpos (by omega) (evpos (by omega) (evpos (by omega) (Ev.bind ck ?_)))
  by_cases hc : Q.chk (parts (tl p)) = 0
  · rw [if_pos hc] at pk_
    have hl : (pieces p).length = (parts (tl p)).length := List.length_map ..
    have h2 := (chk_zero hc).2
    refine evpos hc (Ev.bind pk_ (Ev.bind dk (Ev.bind bk ?_)))
    rcases path_two hc with ⟨q1, q2, q3, q4⟩ | ⟨q1, q2, q3, q4, q5⟩
    · have hj := join_ok (d := ofB (dirB (tl p))) (n := ofB (baseB (tl p))) (by rw [q1, ofB_size]; decide) (by rw [q2, ofB_tl]; omega)
      rw [tl_ofB, tl_ofB, q1, q2] at hj
      rw [q1, q2]
      rw [q2] at bk
      have hl1 : (pieces p).length = 1 := by rw [hl, q3]; rfl
      have hw1 : wrap64 (((pieces p).length : Int) - 1) = ((0 : Nat) : Int) := by rw [hl1, w64 (by omega) (by omega)]; omega
      have hlast : (pieces p)[0]? = some (ofB (tl p)) := by unfold pieces; rw [q3]; rfl
      have j := join_j1 hs hc (by omega) hn q4
      rw [hw1, rdB hlast]
      refine evval hj (evpos (by rw [show joinB [] (tl p) = tl p from rfl, ofB_tl]) (evneg (by omega) (evpos (by omega) (evpos (by omega) (Ev.bind bk (evpos rfl (evneg (by rw [ofB_toList, hl1]; decide) (evpos (ofB_toList _) j))))))))
    · have hls : (tl p).length = (dirB (tl p)).length + ((baseB (tl p)).length + 1) := by
        have := congrArg List.length q2
        rw [List.length_append, List.length_cons] at this; exact this
      rw [tl_size] at hls
      have hj := join_ok (d := ofB (dirB (tl p))) (n := ofB (baseB (tl p))) (by rw [ofB_size]; omega) (by rw [ofB_size]; omega)
      have hjj : ofB (joinB (tl (ofB (dirB (tl p)))) (tl (ofB (baseB (tl p))))) = p := by
        rw [tl_ofB, tl_ofB]
        unfold joinB
        rw [if_neg q1, ← q2, ofB_tl]
      rw [hjj] at hj
      have hpl : (parts (tl p)).length = (parts (dirB (tl p))).length + 1 := by rw [q3, List.length_append, List.length_singleton]
      have hpd : 0 < (parts (dirB (tl p))).length := by
        obtain ⟨u, us, hu⟩ := parts_ne (dirB (tl p))
        rw [hu]; exact Nat.succ_pos _
      have hw1 : wrap64 (((pieces p).length : Int) - 1) = (((parts (dirB (tl p))).length : Nat) : Int) := by rw [w64 (by omega) (by omega)]; omega
      have hm : pieces p = pieces (ofB (dirB (tl p))) ++ [ofB (baseB (tl p))] := by
        unfold pieces; rw [q3, tl_ofB, List.map_append]; rfl
      have hml : (pieces (ofB (dirB (tl p)))).length = (parts (dirB (tl p))).length := by unfold pieces; rw [List.length_map, tl_ofB]
      have hlast : (pieces p)[(parts (dirB (tl p))).length]? = some (ofB (baseB (tl p))) := by
        rw [hm, ← hml, List.getElem?_append_right (Nat.le_refl _), Nat.sub_self]; rfl
      have htake : (pieces p).take (((parts (dirB (tl p))).length : Nat) : Int).toNat = pieces (ofB (dirB (tl p))) := by
        rw [hm, Int.toNat_natCast, ← hml, List.take_left]
      have pd := parts_okf (s := ofB (dirB (tl p))) (by rw [ofB_size]; omega)
      rw [tl_ofB, if_pos q4] at pd
      have tx := jtexts_ev (pieces (ofB (dirB (tl p)))) (by omega)
      have j := join_j1 hs hc (by omega) hn q5
      rw [hw1, rdB hlast, htake]
      refine evval hj (evpos rfl (evneg (by omega) (evpos (by omega) (evpos (by omega) (Ev.bind bk (evpos rfl (evneg ?_ (evneg (by rw [ofB_toList]; exact q1) (Ev.bind pd (evpos (by omega) (Ev.bind tx j)))))))))))
      rw [ofB_toList, show (dirB (tl p) == ([] : List UInt8)) = false from beq_eq_false_iff_ne.2 q1, show (((pieces p).length : Int) == 1) = false from beq_eq_false_iff_ne.2 (by omega)]
      decide
  · rw [if_neg hc] at pk_
    have hd0 : dirB (tl p) = [] := by unfold dirB; rw [if_neg hc]
    have hb0 : baseB (tl p) = [] := by unfold baseB; rw [if_neg hc]
    rw [hd0] at dk
    rw [hb0] at bk
    exact evneg hc (Ev.bind pk_ (evneg (by decide) (Ev.bind dk (evpos (ofB_toList _) (Ev.bind bk (evpos (ofB_toList _) hn))))))
theorem PathsJoin : collatorlaw01_PathsJoin.Pure := by
  intro a0 l1 hz0 hm1 hr1 hw1
  obtain ⟨p, hP, gp, sp⟩ := path_ev l1 hw1 (by omega)
  obtain ⟨m1, m2, m3⟩ := mn_take a0 200
  clear hz0 hm1 hr1 hw1
  refine Ev.rounds ?_
  unfold collatorlaw01_PathsJoin.f
  refine Ev.bind awake1_ok (evpos m1 (evpos m2 (Ev.bind hP (evval rfl ?_))))
  refine join_step (p := a0.extract 0 (mn (a0.size : Int) 200 : Int).toNat) (i := 0) (Nat.le_trans m3 (by omega)) rfl rfl (join_step (p := p) (i := 1) (by omega) rfl rfl ?_)
  refine Ev.step (f := fun _ => some true) (fun k => ?_) (Ev.now _)
  rw [collatorlaw01_PathsJoin.l0.eq_2, if_neg (by show ¬ ((2 : Nat) : Int) < ((2 : Nat) : Int); omega)]
end Go.Proofs.YtjfeddpelakdjaaDoor.Pure
