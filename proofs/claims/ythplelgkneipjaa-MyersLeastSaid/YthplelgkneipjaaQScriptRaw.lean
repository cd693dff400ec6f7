/- What the given function Script of layer 4's laws makes of raw numbers: plain. -/
import Derived.Test.YthplelgkneipjaaPxf42
import Derived.Test.YthplelgkneipjaaQScriptEv
set_option linter.unusedVariables false
set_option linter.unusedSimpArgs false
namespace Go.Proofs.Ythplelgkneipjaa.Q
open Go Go.RowKit Go.Proofs.Ythplelgkneipjaa.P Go.Proofs.YthplelgkneipjaaW.PrintWords Go.Proofs.YthplelgkneipjaaW.PrintLast
theorem pick4 {c : Int} (hc : -9223372036854775808 ≤ c ∧ c ≤ 9223372036854775807) {m : Int} {n : Nat} (hm : m = n) (hn : 0 < n) : collatorlaw04_pick.f c m = some (pk c n : Int) := pick_body hc hm hn
def few4 : List ByteArray := [(⟨#[97, 10]⟩ : ByteArray), (⟨#[98, 10]⟩ : ByteArray), (⟨#[99, 10]⟩ : ByteArray), (⟨#[]⟩ : ByteArray), (⟨#[120, 58, 121, 59]⟩ : ByteArray)]
theorem tdiv3 {c : Int} (h : -9223372036854775808 ≤ c ∧ c ≤ 9223372036854775807) : -9223372036854775808 ≤ Int.tdiv c 3 ∧ Int.tdiv c 3 ≤ 9223372036854775807 := by
  by_cases h0 : 0 ≤ c
  · rw [Int.tdiv_eq_ediv_of_nonneg h0]; omega
  · have e : c = -(-c) := by omega
    rw [e, Int.neg_tdiv, Int.tdiv_eq_ediv_of_nonneg (by omega)]
    omega
theorem full_loop (l : List Int) (hw : ∀ x ∈ l, (Lit.int .i64 x).wf = true) (hl : l.length ≤ 9223372036854775807) (n : Nat) (hn : n ≤ 1000000) (d : Nat) : ∀ (i : Nat) (out : List ByteArray), i + d = n → out.length = i → ∃ L, Ev (fun k => collatorlaw04_full.l0 k l (n : Int) out (i : Int)) L ∧ L.length = n := by
  induction d with
  | zero =>
    intro i out hi ho
    refine ⟨out, Ev.step (f := fun _ => some out) (fun k => ?_) (Ev.now _), by omega⟩
    simp only [collatorlaw04_full.l0]; rw [if_neg (by omega)]
  | succ d ih =>
    intro i out hi ho
    by_cases c : (i : Int) < (l.length : Int)
    · obtain ⟨L, hL, hr⟩ := ih (i + 1) (out ++ [rdOf ByteArray.empty few4 (pk (rd l i) 5 : Int)]) (by omega) (by rw [List.length_append, List.length_singleton]; omega)
      refine ⟨L, Ev.step (fun k => ?_) hL, hr⟩
      have h5 := pk_lt (rd l i) (n := 5) (by omega)
      simp only [collatorlaw04_full.l0]
      rw [if_pos (by omega), if_pos c, if_pos (by omega), Option.bind_some, pick4 (m := 5) (n := 5) (rd_mem hw (by omega) (by omega)) rfl (by omega), Option.bind_some, if_pos (by omega), if_pos (by show _ < ((5 : Nat) : Int); omega), if_pos (by omega), wi (by omega)]
      rfl
    · obtain ⟨L, hL, hr⟩ := ih (i + 1) (out ++ [rdOf ByteArray.empty few4 (pk (i : Int) 5 : Int)]) (by omega) (by rw [List.length_append, List.length_singleton]; omega)
      refine ⟨L, Ev.step (fun k => ?_) hL, hr⟩
      have h5 := pk_lt (i : Int) (n := 5) (by omega)
      simp only [collatorlaw04_full.l0]
      rw [if_pos (by omega), if_neg c, Option.bind_some, pick4 (m := 5) (n := 5) (by omega) rfl (by omega), Option.bind_some, if_pos (by omega), if_pos (by show _ < ((5 : Nat) : Int); omega), if_pos (by omega), wi (by omega)]
      rfl
theorem full_ev (l : List Int) (hw : ∀ x ∈ l, (Lit.int .i64 x).wf = true) (hl : l.length ≤ 9223372036854775807) (n : Nat) (hn : n ≤ 1000000) : ∃ L, Ev (fun k => collatorlaw04_full.f k l (n : Int)) L ∧ L.length = n :=
  full_loop l hw hl n hn n 0 [] (by omega) rfl
theorem takes_append (s t : List EdS) : takes (s ++ t) = takes s + takes t := by
  induction s with
  | nil => simp [takes]
  | cons x s ih => simp only [List.cons_append, takes, ih]; omega
/-- A script of raw numbers, so far. -/
structure Raw (s : List EdS) (take i : Nat) : Prop where
  fit : Fit s
  chn : Chn s
  takes_ : takes s = (take : Int)
  len : s.length ≤ i
  most : take ≤ 4 * i
  small : ∀ x ∈ s, x.f1 ≤ 4
theorem Raw.nil : Raw [] 0 0 := ⟨fun x hx => absurd hx (by simp), trivial, rfl, Nat.le_refl _, Nat.le_refl _, fun x hx => absurd hx (by simp)⟩
theorem Raw.more {s : List EdS} {take i : Nat} (h : Raw s take i) : Raw s take (i + 1) := ⟨h.fit, h.chn, h.takes_, by have := h.len; omega, by have := h.most; omega, h.small⟩
theorem Raw.snoc {s : List EdS} {take i : Nat} (h : Raw s take i) {x : EdS} (hx : May x) (h4 : x.f1 ≤ 4) (ha : ∀ s0 y, s = s0 ++ [y] → After y x) {take' : Nat} (ht : (take' : Int) = take + (if x.f0 = 3 then 0 else x.f1)) : Raw (s ++ [x]) take' (i + 1) := by
  refine ⟨fun y hy => ?_, ?_, ?_, ?_, ?_, fun y hy => ?_⟩
  · rcases List.mem_append.1 hy with hy | hy
    · exact h.fit y hy
    · rw [List.mem_singleton.1 hy]; exact ⟨hx, by omega⟩
  · rcases List.eq_nil_or_concat s with h0 | ⟨s0, y, h0⟩
    · rw [h0]; exact trivial
    · rw [List.concat_eq_append] at h0
      have hc := h.chn
      rw [h0] at hc ⊢
      exact chn_snoc s0 y x hc (ha s0 y h0)
  · rw [takes_append, h.takes_, ht]
    simp [takes]
  · have := h.len
    rw [List.length_append, List.length_singleton]; omega
  · have := h.most
    have := hx.1
    split at ht <;> omega
  · rcases List.mem_append.1 hy with hy | hy
    · exact h.small y hy
    · rw [List.mem_singleton.1 hy]; exact h4
theorem rdT_last {s0 : List EdS} {y : EdS} : rd_T49 (s0 ++ [y]) (((s0 ++ [y]).length : Int) - 1) = y := by
  have e : (((s0 ++ [y]).length : Int) - 1) = ((s0.length : Nat) : Int) := by rw [List.length_append, List.length_singleton]; omega
  rw [e]
  exact rdT (by rw [List.getElem?_append_right (Nat.le_refl _)]; simp)
section
variable (raw l : List Int) (hw : ∀ x ∈ raw, (Lit.int .i64 x).wf = true) (hl : raw.length ≤ 9223372036854775807) (hw2 : ∀ x ∈ l, (Lit.int .i64 x).wf = true) (hl2 : l.length ≤ 9223372036854775807)
include hw hl hw2 hl2
theorem script_raw (d : Nat) : ∀ (i : Nat) (s : List EdS) (take : Nat), i + d = 10 → Raw s take i → ∃ S L, Ev (fun k => collatorlaw04_Script.l0 k raw l s (take : Int) (i : Int)) (S, L) ∧ Raw S L.length 10 := by
  have stop : ∀ (i : Nat) (s : List EdS) (take : Nat), i ≤ 10 → Raw s take i → ∃ S L, Ev (fun k => collatorlaw04_Script.j1 k raw l s (take : Int) (i : Int) false) (S, L) ∧ Raw S L.length 10 := by
    intro i s take hi h
    obtain ⟨L, hL, hlen⟩ := full_ev l hw2 hl2 take (by have := h.most; omega)
    refine ⟨s, L, Ev.step (f := fun k => (collatorlaw04_full.f k l (take : Int)).bind fun t721 => some (s, t721)) (fun k => ?_) (Ev.bind hL (Ev.now _)), ?_⟩
    · simp only [collatorlaw04_Script.j1]; rw [if_neg (by decide)]
    · rw [hlen]
      exact ⟨h.fit, h.chn, h.takes_, by have := h.len; omega, by have := h.most; omega, h.small⟩
  induction d with
  | zero =>
    intro i s take hi h
    obtain ⟨S, L, hS, hR⟩ := stop i s take (by omega) h
    refine ⟨S, L, Ev.step (fun k => ?_) hS, hR⟩
    simp only [collatorlaw04_Script.l0]
    rw [decide_eq_false (by omega : ¬ (i : Int) < 10)]
    split <;> rfl
  | succ d ih =>
    intro i s take hi h
    by_cases c : (i : Int) < (raw.length : Int)
    · have r1 := rd_mem hw (i := (i : Int)) (by omega) c
      have h3 := pk_lt (rd raw i) (n := 3) (by omega)
      have td := tdiv3 r1
      have e0 : wrap64 (Int.tdiv (rd raw i) 3) = Int.tdiv (rd raw i) 3 := w64 td.1 td.2
      have p3 := pick4 (c := rd raw i) r1 (m := 3) (n := 3) rfl (by omega)
      have p4 := pick4 (c := Int.tdiv (rd raw i) 3) td (m := 4) (n := 4) rfl (by omega)
      clear td r1
      have h4 := pk_lt (Int.tdiv (rd raw i) 3) (n := 4) (by omega)
      generalize pk (rd raw i) 3 = op at h3 p3
      generalize pk (Int.tdiv (rd raw i) 3) 4 = nn at h4 p4
      have e1 : wrap64 (1 + (op : Int)) = ((op + 1 : Nat) : Int) := by rw [w64 (by omega) (by omega)]; omega
      have e2 : wrap64 (1 + (nn : Int)) = ((nn + 1 : Nat) : Int) := by rw [w64 (by omega) (by omega)]; omega
      have hlen := h.len
      have hmost := h.most
      -- behind the new edit
      have j3 : ∀ (ls : List ByteArray) (b : Bool), (op + 1 ≠ 3 → ls = []) → (op + 1 = 3 → ls.length = nn + 1) → (b = false → ∀ s0 y, s = s0 ++ [y] → y.f0 ≠ ((op + 1 : Nat) : Int) ∧ ¬ (y.f0 = 3 ∧ ((op + 1 : Nat) : Int) = 2)) → ∃ S L, Ev (fun k => collatorlaw04_Script.j3 k raw l s (take : Int) (i : Int) b ((op + 1 : Nat) : Int) ((nn + 1 : Nat) : Int) ls) (S, L) ∧ Raw S L.length 10 := by
        intro ls b g1 g2 g3
        cases b with
        | true =>
          obtain ⟨S, L, hS, hR⟩ := ih (i + 1) s take (by omega) h.more
          refine ⟨S, L, Ev.step (fun k => ?_) hS, hR⟩
          simp only [collatorlaw04_Script.j3]
          rw [if_true, wi (by omega)]
        | false =>
          have hmay : May ⟨((op + 1 : Nat) : Int), ((nn + 1 : Nat) : Int), ls⟩ := by
            refine ⟨by show (1 : Int) ≤ ((nn + 1 : Nat) : Int); omega, ?_⟩
            by_cases c3 : op + 1 = 3
            · exact .inr ⟨by show ((op + 1 : Nat) : Int) = 3; omega, by show (ls.length : Int) = ((nn + 1 : Nat) : Int); rw [g2 c3]⟩
            · exact .inl ⟨by show ((op + 1 : Nat) : Int) = 1 ∨ ((op + 1 : Nat) : Int) = 2; omega, g1 c3⟩
          by_cases c3 : ((op + 1 : Nat) : Int) = 3
          · obtain ⟨S, L, hS, hR⟩ := ih (i + 1) (s ++ [⟨((op + 1 : Nat) : Int), ((nn + 1 : Nat) : Int), ls⟩]) take (by omega) (h.snoc hmay (by show ((nn + 1 : Nat) : Int) ≤ 4; omega) (g3 rfl) (by show (take : Int) = take + (if ((op + 1 : Nat) : Int) = 3 then 0 else _); rw [if_pos c3]; omega))
            refine ⟨S, L, Ev.step (fun k => ?_) hS, hR⟩
            simp only [collatorlaw04_Script.j3]
            rw [if_neg (by decide), if_pos (by omega), Option.bind_some, if_pos c3, wi (by omega)]
          · obtain ⟨S, L, hS, hR⟩ := ih (i + 1) (s ++ [⟨((op + 1 : Nat) : Int), ((nn + 1 : Nat) : Int), ls⟩]) (take + (nn + 1)) (by omega) (h.snoc hmay (by show ((nn + 1 : Nat) : Int) ≤ 4; omega) (g3 rfl) (by show ((take + (nn + 1) : Nat) : Int) = take + (if ((op + 1 : Nat) : Int) = 3 then 0 else ((nn + 1 : Nat) : Int)); rw [if_neg c3]; omega))
            refine ⟨S, L, Ev.step (fun k => ?_) hS, hR⟩
            have e3 : wrap64 ((take : Int) + ((nn + 1 : Nat) : Int)) = ((take + (nn + 1) : Nat) : Int) := by rw [w64 (by omega) (by omega)]; omega
            simp only [collatorlaw04_Script.j3]
            rw [if_neg (by decide), if_pos (by omega), Option.bind_some, if_neg c3, wi (by omega), e3]
      have j2 : ∀ (ls : List ByteArray), (op + 1 ≠ 3 → ls = []) → (op + 1 = 3 → ls.length = nn + 1) → ∃ S L, Ev (fun k => collatorlaw04_Script.j2 k raw l s (take : Int) (i : Int) ((op + 1 : Nat) : Int) ((nn + 1 : Nat) : Int) ls) (S, L) ∧ Raw S L.length 10 := by
        intro ls g1 g2
        rcases List.eq_nil_or_concat s with h0 | ⟨s0, y, h0⟩
        · obtain ⟨S, L, hS, hR⟩ := j3 ls false g1 g2 (fun _ s0 y e => by rw [h0] at e; simp at e)
          refine ⟨S, L, Ev.step (fun k => ?_) hS, hR⟩
          simp only [collatorlaw04_Script.j2]
          rw [if_neg (by rw [h0]; simp)]
        · rw [List.concat_eq_append] at h0
          have e5 : wrap64 ((s.length : Int) - 1) = (s.length : Int) - 1 := w64 (by omega) (by omega)
          have e6 : rd_T49 s ((s.length : Int) - 1) = y := by rw [h0]; exact rdT_last
          have e7 : 0 < s.length := by rw [h0, List.length_append, List.length_singleton]; omega
          have last : ∀ s0' y', s = s0' ++ [y'] → y' = y := fun s0' y' e => by
            rw [h0] at e
            have := List.append_inj_right' e rfl
            injection this with h1 _
            exact h1.symm
          by_cases c1 : y.f0 = ((op + 1 : Nat) : Int)
          · obtain ⟨S, L, hS, hR⟩ := j3 ls true g1 g2 (fun e => by cases e)
            refine ⟨S, L, Ev.step (fun k => ?_) hS, hR⟩
            simp only [collatorlaw04_Script.j2]
            rw [if_pos (by omega), e5, if_pos (by omega), if_pos (by omega), e6, if_pos c1]
          · by_cases c2 : y.f0 = 3
            · obtain ⟨S, L, hS, hR⟩ := j3 ls (((op + 1 : Nat) : Int) == 2) g1 g2 (fun e s0' y' e' => by
                rw [last s0' y' e']
                exact ⟨c1, fun hh => by rw [beq_eq_false_iff_ne] at e; exact e hh.2⟩)
              refine ⟨S, L, Ev.step (fun k => ?_) hS, hR⟩
              simp only [collatorlaw04_Script.j2]
              rw [if_pos (by omega), e5, if_pos (by omega), if_pos (by omega), e6, if_neg c1, if_pos c2]
            · obtain ⟨S, L, hS, hR⟩ := j3 ls false g1 g2 (fun _ s0' y' e' => by
                rw [last s0' y' e']
                exact ⟨c1, fun hh => c2 hh.1⟩)
              refine ⟨S, L, Ev.step (fun k => ?_) hS, hR⟩
              simp only [collatorlaw04_Script.j2]
              rw [if_pos (by omega), e5, if_pos (by omega), if_pos (by omega), e6, if_neg c1, if_neg c2]
      by_cases c3 : ((op + 1 : Nat) : Int) = 3
      · obtain ⟨M, hM, hMl⟩ := full_ev (raw.drop i) (fun x hx => hw x (List.mem_of_mem_drop hx)) (by rw [List.length_drop]; omega) (nn + 1) (by omega)
        obtain ⟨S, L, hS, hR⟩ := j2 M (fun h => absurd c3 (by omega)) (fun _ => hMl)
        refine ⟨S, L, Ev.step (f := fun k => collatorlaw04_Script.j1 k raw l s (take : Int) (i : Int) true) (fun k => ?_) (Ev.step (f := fun k => (collatorlaw04_full.f k (raw.drop i) ((nn + 1 : Nat) : Int)).bind fun t730 => (collatorlaw04_Script.j2 k raw l s (take : Int) (i : Int) ((op + 1 : Nat) : Int) ((nn + 1 : Nat) : Int) t730)) (fun k => ?_) (Ev.bind hM hS)), hR⟩
        · simp only [collatorlaw04_Script.l0]
          rw [if_pos c, decide_eq_true (by omega : (i : Int) < 10)]
        · simp only [collatorlaw04_Script.j1]
          rw [if_true, if_pos (by omega), if_pos c, p3, Option.bind_some, e0, p4, Option.bind_some, e1, e2, if_pos c3, if_pos (by omega), Int.toNat_natCast]
      · obtain ⟨S, L, hS, hR⟩ := j2 [] (fun _ => rfl) (fun h => absurd h (by omega))
        refine ⟨S, L, Ev.step (f := fun k => collatorlaw04_Script.j1 k raw l s (take : Int) (i : Int) true) (fun k => ?_) (Ev.step (fun k => ?_) hS), hR⟩
        · simp only [collatorlaw04_Script.l0]
          rw [if_pos c, decide_eq_true (by omega : (i : Int) < 10)]
        · simp only [collatorlaw04_Script.j1]
          rw [if_true, if_pos (by omega), if_pos c, p3, Option.bind_some, e0, p4, Option.bind_some, e1, e2, if_neg c3]
    · obtain ⟨S, L, hS, hR⟩ := stop i s take (by omega) h
      refine ⟨S, L, Ev.step (fun k => ?_) hS, hR⟩
      simp only [collatorlaw04_Script.l0]
      rw [if_neg c]
theorem script_raw_ev : ∃ S L, Ev (fun k => collatorlaw04_Script.f k raw l) (S, L) ∧ Raw S L.length 10 := script_raw raw l hw hl hw2 hl2 10 0 [] 0 rfl Raw.nil
end
theorem Raw.right {s : List EdS} {t i : Nat} (h : Raw s t i) : rightB 0 s = true := (right_iff s).2 ⟨h.fit, h.chn⟩
end Go.Proofs.Ythplelgkneipjaa.Q
