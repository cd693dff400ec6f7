/- MyersReplace: of lines and the same, of which one has become one that is nowhere else, one is cut, and one added: the plain law over the printed function. -/
import Derived.Test.YthplelgkneipjaaPxf12
import Derived.Test.YthplelgkneipjaaQScriptEv
import Derived.Test.YthplelgkneipjaaQMyersEv
set_option linter.unusedVariables false
set_option linter.unusedSimpArgs false
namespace Go.Proofs.Ythplelgkneipjaa.Pure
open Go Go.RowKit Go.Proofs.Ythplelgkneipjaa.P Go.Proofs.YthplelgkneipjaaW.PrintWords Go.Proofs.YthplelgkneipjaaW.PrintLast Go.Proofs.Ythplelgkneipjaa.Q
def nowhere : ByteArray := ⟨#[110, 111, 119, 104, 101, 114, 101, 32, 101, 108, 115, 101, 10]⟩
theorem pick5 {c : Int} (hc : -9223372036854775808 ≤ c ∧ c ≤ 9223372036854775807) {m : Int} {n : Nat} (hm : m = n) (hn : 0 < n) : collatorlaw05_pick.f c m = some (pk c n : Int) := pick_body hc hm hn
theorem or_len (k : Nat) (e : EdS) : (orNone k e).length ≤ 1 := by unfold orNone; split <;> simp
theorem replace_j1 {A B : List ByteArray} (hA : A.length ≤ 30) (hB : B.length ≤ 30) {s : List EdS} (hs : script A B = s) (hl : s.length ≤ 100) (hl2 : ∀ x ∈ s, x.f2.length ≤ 100) (hc : cost A B = 2) (hL : (lcs A B : Int) = wrap64 ((A.length : Int) - 1)) :
    Ev (fun k => collatorlaw05_MyersReplace.j1 k true A B s) true := by
  have hd := diff_ok (a := A) (b := B) (by omega) (by omega)
  rw [hs] at hd
  have hC := cost_ok (a := A) (b := B) (by omega) (by omega)
  rw [hc] at hC
  have hS := stay_ok (a := A) (b := B) (by omega) (by omega)
  refine Ev.step (f := fun k => (myers_Diff.f A B).bind fun t570 => ((collatorref04_Same.f k t570 s).bind fun t573 => (if t573 = true then ((myers_Cost.f A B).bind fun t574 => (if t574 = 2 then ((myers_Common.f A B).bind fun t575 => (some (t575 == (wrap64 ((A.length : Int) - 1))))) else (some false))) else (some false)))) (fun k => ?_) ?_
  · simp only [collatorlaw05_MyersReplace.j1]; rw [if_true]
  · refine evval hd (Ev.bind (same_ev s (by omega) (fun x hx => by have := hl2 x hx; omega)) (evpos rfl (evval hC (evpos rfl (evval hS ?_)))))
    rw [hL, beq_self_eq_true]
    exact Ev.now _
theorem replace_fin {p A : List ByteArray} {x : ByteArray} (hl : p.length + A.length + 1 ≤ 30) (hx : x ≠ nowhere) (hz : nowhere ∉ A) (w : List EdS) (hw : w = orNone p.length ⟨1, (p.length : Int), []⟩) :
    Ev (fun k => collatorlaw05_MyersReplace.j0 k true (p ++ x :: A) (p.length : Int) (p ++ nowhere :: A) w) true := by
  have hLen : (p ++ x :: A).length = p.length + (A.length + 1) := by simp
  have hLen2 : (p ++ nowhere :: A).length = p.length + (A.length + 1) := by simp
  have e1 : wrap64 ((p.length : Int) + 1) = ((p.length + 1 : Nat) : Int) := wi (by omega)
  have hcut : ((p ++ nowhere :: A).take (((p.length + 1 : Nat) : Int)).toNat).drop ((p.length : Int)).toNat = [nowhere] := by
    rw [Int.toNat_natCast, Int.toNat_natCast, List.drop_take]
    simp
  have hscr := script_new p x nowhere A hx hz
  have hcost : cost (p ++ x :: A) (p ++ nowhere :: A) = 2 := by
    have h1 := lcs_new x nowhere p A hx hz
    unfold cost
    rw [h1, hLen, hLen2]
    omega
  have hlcs : (lcs (p ++ x :: A) (p ++ nowhere :: A) : Int) = wrap64 (((p ++ x :: A).length : Int) - 1) := by
    rw [lcs_new x nowhere p A hx hz, hLen, w64 (by omega) (by omega)]
    omega
  have hwl := or_len p.length ⟨1, (p.length : Int), []⟩
  rw [← hw] at hscr hwl
  have hbd := script_bd (p ++ x :: A) (p ++ nowhere :: A)
  rw [hLen, hLen2] at hbd
  have hj : ∀ s, script (p ++ x :: A) (p ++ nowhere :: A) = s → Ev (fun k => collatorlaw05_MyersReplace.j1 k true (p ++ x :: A) (p ++ nowhere :: A) s) true := fun s e =>
    replace_j1 (by omega) (by omega) e (by rw [← e]; omega) (fun y hy => by rw [← e] at hy; have := hbd.2 y hy; omega) hcost hlcs
  by_cases c : (A.length : Nat) = 0
  · refine Ev.step (fun k => ?_) (hj (w ++ [⟨2, 1, []⟩, ⟨3, 1, [nowhere]⟩]) (by rw [hscr]; unfold orNone; rw [if_neg (by omega), List.append_nil]))
    simp only [collatorlaw05_MyersReplace.j0]
    rw [if_pos (by omega), e1, if_pos (by omega), if_pos (by omega), hcut, Option.bind_some, if_pos (by show w.length + 2 < _; omega), Option.bind_some, if_neg (by omega)]
  · have e2 : wrap64 (wrap64 (((p ++ x :: A).length : Int) - (p.length : Int)) - 1) = (A.length : Int) := by
      rw [w64 (x := ((p ++ x :: A).length : Int) - (p.length : Int)) (by omega) (by omega), w64 (by omega) (by omega)]
      omega
    refine Ev.step (fun k => ?_) (hj (w ++ [⟨2, 1, []⟩, ⟨3, 1, [nowhere]⟩] ++ [⟨1, (A.length : Int), []⟩]) (by rw [hscr]; unfold orNone; rw [if_pos (show 0 < A.length by omega)]))
    simp only [collatorlaw05_MyersReplace.j0]
    rw [if_pos (by omega), e1, if_pos (by omega), if_pos (by omega), hcut, Option.bind_some, if_pos (by show w.length + 2 < _; omega), Option.bind_some, if_pos (by omega), if_pos (by rw [List.length_append]; show w.length + 2 < _; omega), e2]
theorem MyersReplace : collatorlaw05_MyersReplace.Pure := by
  intro l0 a1 hm0 hr0 hw0 hw1
  obtain ⟨L, hL, fL, lL⟩ := lines_ev l0 hw0 (by omega) 30 (by omega)
  have kL := fL.le
  have hr1 := wf_range hw1
  clear hm0 hr0 hw0 hw1 lL
  refine Ev.rounds ?_
  unfold collatorlaw05_MyersReplace.f
  refine evval awake5_ok (Ev.bind hL ?_)
  by_cases c : (L.length : Int) = 0
  · exact evpos c (Ev.now _)
  · have hpk := pk_lt a1 (n := L.length) (by omega)
    have hno : nowhere ∉ L := fL.not_mem (by decide)
    refine evneg c (evval (pick5 hr1 (n := L.length) rfl (by omega)) (evpos (by simp only [List.length_nil]; omega) (evval rfl (evpos (by omega) (evpos ?_ (evval rfl ?_))))))
    · rw [List.nil_append]; omega
    · generalize hi : pk a1 L.length = i at hpk
      have e0 : L = L.take i ++ L[i] :: L.drop (i + 1) := by rw [← List.drop_eq_getElem_cons hpk, List.take_append_drop]
      have e1 : (L.take i).length = i := by rw [List.length_take]; omega
      have e2 : (L.drop (i + 1)).length = L.length - (i + 1) := List.length_drop
      have hset : ([] ++ L).set ((i : Int)).toNat nowhere = L.take i ++ nowhere :: L.drop (i + 1) := by
        rw [List.nil_append, Int.toNat_natCast, List.set_eq_take_append_cons_drop, if_pos hpk]
      have hfin := replace_fin (p := L.take i) (A := L.drop (i + 1)) (x := L[i]) (by omega) (fun e => hno (by rw [← e]; exact List.getElem_mem hpk)) (fun h => hno (List.mem_of_mem_drop h))
      rw [e1, ← e0, ← hset] at hfin
      by_cases c2 : (i : Int) > 0
      · refine evpos c2 (evpos (by simp only [List.length_nil]; omega) ?_)
        exact hfin _ (by unfold orNone; rw [if_pos (by omega)]; rfl)
      · refine evneg c2 ?_
        exact hfin _ (by unfold orNone; rw [if_neg (by omega)])
end Go.Proofs.Ythplelgkneipjaa.Pure
