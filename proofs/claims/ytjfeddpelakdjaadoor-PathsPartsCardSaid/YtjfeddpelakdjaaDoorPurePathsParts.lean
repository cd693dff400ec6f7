/- PathsParts: a path with one part that may not be, in any place, is none: the plain law over the printed function. -/
import Derived.Test.YtjfeddpelakdjaaDoorPxf7
import Derived.Test.YtjfeddpelakdjaaDoorQPathRaw
set_option linter.unusedVariables false
set_option linter.unusedSimpArgs false
namespace Go.Proofs.YtjfeddpelakdjaaDoor.Pure
open Go Go.RowKit Go.Proofs.YtjfeddpelakdjaaDoor.P Go.Proofs.YtjfeddpelakdjaaDoorW.PrintWords Go.Proofs.YtjfeddpelakdjaaDoorW.PrintLast Go.Proofs.YtjfeddpelakdjaaDoorW.PrintMore Go.Proofs.YtjfeddpelakdjaaDoor.Q
def sl : ByteArray := ⟨#[47]⟩
theorem sl_size : (⟨#[47]⟩ : ByteArray).size = 1 := rfl
theorem tl_sl : tl (⟨#[47]⟩ : ByteArray) = [47] := rfl
theorem chk_bad {ps : List Bs} (h : ps.any oddb = true) : Q.chk ps = 2 := by unfold Q.chk; rw [if_pos h]
theorem parts_two (a b : ByteArray) : parts (tl ((a ++ (⟨#[47]⟩ : ByteArray)) ++ b)) = parts (tl a) ++ parts (tl b) := by
  rw [tl_append, tl_append, tl_sl, List.append_assoc, List.singleton_append, parts_app]
def bads : List ByteArray := [(⟨#[]⟩ : ByteArray), (⟨#[46]⟩ : ByteArray), (⟨#[46, 46]⟩ : ByteArray), (⟨#[97, 0, 98]⟩ : ByteArray), (⟨#[120, 47]⟩ : ByteArray), (⟨#[47, 120]⟩ : ByteArray)]
theorem bads_bad : ∀ m ∈ bads, (parts (tl m)).any oddb = true ∧ m.size ≤ 3 := by decide
theorem any_mid {a b c : List Bs} (h : b.any oddb = true) : (a ++ b ++ c).any oddb = true := by rw [List.any_append, List.any_append, h]; simp
section
variable {p q long : ByteArray} (gp : Q.Good (parts (tl p)) 8) (sp : p.size ≤ 40) (gq : Q.Good (parts (tl q)) 8) (sq : q.size ≤ 40) {n : Nat} (hl : tl long = List.replicate n 120) (hn : 60 ≤ n) (hn2 : n ≤ 68)
include gp sp gq sq hl hn hn2
theorem parts_end : Ev (fun k => if true = true then (if p.size + 1 ≤ 9223372036854775807 then (if (p ++ (⟨#[47]⟩ : ByteArray)).size + long.size ≤ 9223372036854775807 then ((paths_Check.f k ((p ++ (⟨#[47]⟩ : ByteArray)) ++ long)).bind fun t283 => (if ((t283 == 0) == (decide ((long.size : Int) ≤ 64))) = true then ((paths_Check.f k p).bind fun t284 => (if t284 = 0 then (if (p ++ (⟨#[47]⟩ : ByteArray)).size + q.size ≤ 9223372036854775807 then ((paths_Check.f k ((p ++ (⟨#[47]⟩ : ByteArray)) ++ q)).bind fun t285 => (some (t285 == 0))) else (none)) else (some false))) else (some false))) else (none)) else (none)) else (some false)) true := by
  have h1 := size_append p (⟨#[47]⟩ : ByteArray)
  have h2 := size_append (p ++ (⟨#[47]⟩ : ByteArray)) long
  have h3 := size_append (p ++ (⟨#[47]⟩ : ByteArray)) q
  rw [sl_size] at h1
  have hls : long.size = n := by rw [← tl_size, hl, List.length_replicate]
  have c1 := check_ok (s := (p ++ (⟨#[47]⟩ : ByteArray)) ++ long) (by omega)
  have c2 := check_ok (s := p) (by omega)
  have c3 := check_ok (s := (p ++ (⟨#[47]⟩ : ByteArray)) ++ q) (by omega)
  have hno : (47 : UInt8) ∉ tl long := by rw [hl]; intro h; exact absurd (List.eq_of_mem_replicate h) (by decide)
  rw [parts_two, parts_one hno] at c1
  rw [parts_two] at c3
  rw [gp.chk (by omega)] at c2
  have gpq : Q.Good (parts (tl p) ++ parts (tl q)) 16 := ⟨by intro h; exact gp.ne (List.append_eq_nil_iff.1 h).1, by have := gp.le; have := gq.le; rw [List.length_append]; omega, fun r hr => by
    rcases List.mem_append.1 hr with hr | hr
    · exact gp.all r hr
    · exact gq.all r hr⟩
  rw [gpq.chk (by omega)] at c3
  have hodd : oddb (tl long) = decide (n > 64) := by
    unfold oddb
    rw [decide_eq_decide, hl, List.length_replicate]
    constructor
    · rintro (h | h | h | h | h)
      · have := congrArg List.length h; rw [List.length_replicate, List.length_nil] at this; omega
      · have := congrArg List.length h; rw [List.length_replicate, List.length_singleton] at this; omega
      · have := congrArg List.length h; rw [List.length_replicate] at this; simp at this; omega
      · exact h
      · exact absurd (List.eq_of_mem_replicate h) (by decide)
    · intro h; exact .inr (.inr (.inr (.inl h)))
  have hpno : (parts (tl p)).any oddb = false := by
    rw [List.any_eq_false]
    intro r hr
    rw [(gp.all r hr).2.2.1]
    decide
  have key : ((Q.chk (parts (tl p) ++ [tl long]) == 0) == decide ((long.size : Int) ≤ 64)) = true := by
    have hle := gp.le
    unfold Q.chk
    rw [List.any_append, hpno, List.any_cons, hodd, List.any_nil, hls]
    by_cases c : n > 64
    · rw [decide_eq_true c, decide_eq_false (by omega : ¬ (n : Int) ≤ 64)]
      rfl
    · rw [decide_eq_false c, decide_eq_true (by omega : (n : Int) ≤ 64)]
      rw [if_neg (by decide), if_neg (by rw [List.length_append, List.length_singleton]; omega)]
      rfl
  exact evpos rfl (evpos (by omega) (evpos (by omega) (Ev.bind c1 (evpos key (Ev.bind c2 (evpos rfl (evpos (by omega) (Ev.bind c3 (Ev.now _)))))))))
theorem parts_l1 (d : Nat) : ∀ i : Nat, i + d = 6 → Ev (fun k => collatorlaw01_PathsParts.l1 k true p q long bads 6 (i : Int)) true := by
  induction d with
  | zero =>
    intro i hi
    refine Ev.step (fun k => ?_) (parts_end gp sp gq sq hl hn hn2)
    simp only [collatorlaw01_PathsParts.l1]
    rw [if_neg (by omega)]
  | succ d ih =>
    intro i hi
    have hlt : i < bads.length := by show i < 6; omega
    have hget : bads[i]? = some bads[i] := List.getElem?_eq_getElem _
    obtain ⟨hb, hs⟩ := bads_bad bads[i] (List.getElem_mem hlt)
    generalize bads[i] = m at hget hb hs
    have h1 := size_append p (⟨#[47]⟩ : ByteArray)
    have h2 := size_append (p ++ (⟨#[47]⟩ : ByteArray)) m
    have h3 := size_append ((p ++ (⟨#[47]⟩ : ByteArray)) ++ m) (⟨#[47]⟩ : ByteArray)
    have h4 := size_append (((p ++ (⟨#[47]⟩ : ByteArray)) ++ m) ++ (⟨#[47]⟩ : ByteArray)) q
    have h5 := size_append m (⟨#[47]⟩ : ByteArray)
    have h6 := size_append (m ++ (⟨#[47]⟩ : ByteArray)) q
    rw [sl_size] at h1 h3 h5
    have c1 := check_ok (s := (((p ++ (⟨#[47]⟩ : ByteArray)) ++ m) ++ (⟨#[47]⟩ : ByteArray)) ++ q) (by omega)
    have c2 := check_ok (s := (m ++ (⟨#[47]⟩ : ByteArray)) ++ q) (by omega)
    have c3 := check_ok (s := (p ++ (⟨#[47]⟩ : ByteArray)) ++ m) (by omega)
    rw [parts_two, parts_two, chk_bad (any_mid hb)] at c1
    rw [parts_two, chk_bad (by rw [List.any_append, hb]; rfl)] at c2
    rw [parts_two, chk_bad (by rw [List.any_append, hb]; simp)] at c3
    refine Ev.step (f := fun k => (paths_Check.f k ((((p ++ (⟨#[47]⟩ : ByteArray)) ++ m) ++ (⟨#[47]⟩ : ByteArray)) ++ q)).bind fun t287 => if t287 = 2 then (paths_Check.f k ((m ++ (⟨#[47]⟩ : ByteArray)) ++ q)).bind fun t288 => if t288 = 2 then (paths_Check.f k ((p ++ (⟨#[47]⟩ : ByteArray)) ++ m)).bind fun t289 => if t289 = 2 then collatorlaw01_PathsParts.l1 k true p q long bads 6 ((i + 1 : Nat) : Int) else some false else some false else some false) (fun k => ?_) (Ev.bind c1 (evpos rfl (Ev.bind c2 (evpos rfl (Ev.bind c3 (evpos rfl (ih (i + 1) (by omega))))))))
    simp only [collatorlaw01_PathsParts.l1]
    rw [if_pos (by omega), if_pos (by omega), if_pos (by show (i : Int) < ((6 : Nat) : Int); omega), rdB hget, if_pos (by omega), if_pos (by omega), if_pos (by omega), if_pos (by omega), if_pos (show m.size + 1 ≤ 9223372036854775807 by omega), if_pos (show (m ++ (⟨#[47]⟩ : ByteArray)).size + q.size ≤ 9223372036854775807 by omega), wi (by omega)]
end
theorem parts_l0 {p q : ByteArray} (gp : Q.Good (parts (tl p)) 8) (sp : p.size ≤ 40) (gq : Q.Good (parts (tl q)) 8) (sq : q.size ≤ 40) {a : Int} (ha : -9223372036854775808 ≤ a ∧ a ≤ 9223372036854775807) (d : Nat) : ∀ (i : Nat) (long : ByteArray), i + d = 60 + pk a 9 → tl long = List.replicate i 120 → Ev (fun k => collatorlaw01_PathsParts.l0 k a true p q long (i : Int)) true := by
  have h9 := pk_lt a (n := 9) (by omega)
  have hp := pick1 (c := a) ha (m := 9) (n := 9) rfl (by omega)
  have e1 : wrap64 (60 + (pk a 9 : Int)) = ((60 + pk a 9 : Nat) : Int) := by rw [w64 (by omega) (by omega)]; omega
  induction d with
  | zero =>
    intro i long hi ht
    refine Ev.step (fun k => ?_) (parts_l1 gp sp gq sq ht (by omega) (by omega) 6 0 rfl)
    simp only [collatorlaw01_PathsParts.l0]
    rw [hp, Option.bind_some, e1, if_neg (by omega), Option.bind_some]
    rfl
  | succ d ih =>
    intro i long hi ht
    have hs : long.size = i := by rw [← tl_size, ht, List.length_replicate]
    refine Ev.step (fun k => ?_) (ih (i + 1) (long ++ (⟨#[120]⟩ : ByteArray)) (by omega) (by
      rw [tl_append, ht, List.replicate_succ']
      rfl))
    simp only [collatorlaw01_PathsParts.l0]
    rw [hp, Option.bind_some, e1, if_pos (by omega), if_pos (by omega), wi (by omega)]
theorem PathsParts : collatorlaw01_PathsParts.Pure := by
  intro l0 l1 a2 hm0 hr0 hw0 hm1 hr1 hw1 hw2
  obtain ⟨p, hP, gp, sp⟩ := path_ev l0 hw0 (by omega)
  obtain ⟨q, hQ, gq, sq⟩ := path_ev l1 hw1 (by omega)
  have ha := wf_range hw2
  clear hm0 hr0 hw0 hm1 hr1 hw1 hw2
  refine Ev.rounds ?_
  unfold collatorlaw01_PathsParts.f
  exact Ev.bind awake1_ok (Ev.bind hP (Ev.bind hQ (parts_l0 gp sp gq sq ha (60 + pk a2 9) 0 (⟨#[]⟩ : ByteArray) (by omega) rfl)))
end Go.Proofs.YtjfeddpelakdjaaDoor.Pure
