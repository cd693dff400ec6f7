/- Texts of this claim, joined: EPairsR, EPairsW, EPairsC, Pxf7, Pxf9, Pxf4. -/
import Derived.Test.YtcgnkbdfoaiaiaaMRenameOrder4
import Derived.Test.YtcgnkbdfoaiaiaaMRenameOrder1
import Derived.Test.YtcgnkbdfoaiaiaaMRenameOrder3
section
/- rename.Pairs: the walk of its text. -/
set_option linter.unusedVariables false
set_option linter.unusedSimpArgs false
namespace Go.Proofs.Ytcgnkbdfoaiaiaa.P
open Go Go.RowKit Go.Sort Go.Proofs.YtcgnkbdfoaiaiaaW.PrintWords Go.Proofs.YtcgnkbdfoaiaiaaW.PrintLast Go.Proofs.YtcgnkbdfoaiaiaaW.PrintMore Go.Proofs.Ytcgnkbdfoaiaiaa.Q Go.Proofs.Ytcgnkbdfoaiaiaa.HSet
/-! ### Reading files, pairs -/
theorem Fls.less {b base : Nat} {w : World} {v : Value} {es : List Fe} (h : Fls b w v es) (hle : base ≤ b) : Fls base w v es := ⟨own_less h.1 hle, fun e he => own_less (h.2 e he) hle⟩
theorem Fls.other {base : Nat} {w w' : World} {v u : Value} {es : List Fe} {b n s : Nat} {e : TypeId} {xs : List Value} (h : Fls base w v es) (ho : w.ownsRow b e s u n xs) (hg : w.grownBy w' u.ownBlock) (h1 : 46 ≠ e) (h2 : 9 ≠ e) : Fls base w' v es :=
  ⟨own_other h.1 hg (own_type_ne h.1 ho h1), fun x hx => own_other (h.2 x hx) hg (own_type_ne (h.2 x hx) ho h2)⟩
theorem fflat_seg (es : List Fe) : ∀ (j : Nat) (e : Fe), es[j]? = some e → (fflat es)[j * 2]? = some (.string e.p) ∧ (fflat es)[j * 2 + 1]? = some e.v := by
  induction es with
  | nil => intro j e h; simp at h
  | cons x es ih =>
    intro j e h
    have e0 : fflat (x :: es) = x.cells ++ fflat es := by simp [fflat]
    rw [e0]
    cases j with
    | zero => simp at h; subst h; exact ⟨rfl, rfl⟩
    | succ j =>
      obtain ⟨h1, h2⟩ := ih j e (by simpa using h)
      rw [List.getElem?_append_right (by simp [Fe.cells]; omega), List.getElem?_append_right (by simp [Fe.cells]; omega)]
      have e1 : (j + 1) * 2 - x.cells.length = j * 2 := by simp [Fe.cells]; omega
      have e2 : (j + 1) * 2 + 1 - x.cells.length = j * 2 + 1 := by simp [Fe.cells]; omega
      rw [e1, e2]
      exact ⟨h1, h2⟩
theorem own_at {base e size n : Nat} {w : World} {v : Value} {xs : List Value} (h : w.ownsRow base e size v n xs) (hn : 0 < n) (hs : 0 < size) : ∃ g cap, v = .slice (some ⟨g, 0, none⟩) n cap ∧ ∀ j u, xs[j]? = some u → w.cell? ⟨g, j, none⟩ = some u := by
  rcases h.2 with ⟨_, h0⟩ | ⟨g, cap, cur, rfl, _, hh, _, _, _, ht⟩
  · omega
  · refine ⟨g, cap, rfl, fun j u hj => (blk_cell hh j).trans ?_⟩
    have hl := (List.getElem?_eq_some_iff.1 hj).1
    rw [← ht, List.getElem?_take, if_pos (by have := h.1; omega), Array.getElem?_toList] at hj
    exact hj
/-- File i: its cells, and its lines. -/
theorem Fls.at {base : Nat} {w : World} {A : Option Addr} {n c : Nat} {es : List Fe} (h : Fls base w (.slice A n c) es) (i : Nat) (e : Fe) (hi : es[i]? = some e) :
    ∃ g Ae ce, A = some ⟨g, 0, none⟩ ∧ e.v = .slice Ae e.l.length ce ∧ e.l.length ≤ ce ∧ w.cell? ⟨g, i * 2, none⟩ = some (.string e.p) ∧ w.cell? ⟨g, i * 2 + 1, none⟩ = some (.slice Ae e.l.length ce) ∧ Kd.C Kd.string w Ae e.l.length e.l := by
  have hl := (List.getElem?_eq_some_iff.1 hi).1
  obtain ⟨g, cap, hv, hc⟩ := own_at h.1 (by omega) (by decide)
  obtain ⟨f1, f2⟩ := fflat_seg es i e hi
  have hm : e ∈ es := List.mem_of_getElem? hi
  have hR := Kd.R_of_own (h1 := fun _ => rfl) (ok := fun _ => True) (h.2 e hm) (fun _ _ => trivial)
  obtain ⟨Ae, ce, he, hle, hC⟩ := Kd.R_reads hR
  injection hv with h1 h2 h3
  exact ⟨g, Ae, ce, h1, he, hle, hc _ _ f1, by rw [← he]; exact hc _ _ f2, hC⟩
theorem Fls.reads {base : Nat} {w : World} {v : Value} {es : List Fe} (h : Fls base w v es) {e : Fe} (hm : e ∈ es) {A : Option Addr} {n c : Nat} (he : e.v = .slice A n c) : Kd.C Kd.string w A e.l.length e.l := by
  have hR := Kd.R_of_own (h1 := fun _ => rfl) (ok := fun _ => True) (h.2 e hm) (fun _ _ => trivial)
  obtain ⟨Ae, ce, he', hle, hC⟩ := Kd.R_reads hR
  rw [he] at he'
  injection he' with h1 h2 h3
  rw [h1]
  exact hC
def mkPr (p : S35) (h0 : p.f0.size ≤ 4000000) (h1 : p.f1.size ≤ 4000000) : Pr := ⟨p, h0, h1⟩
theorem pflat_at {base : Nat} {w : World} {A : Option Addr} {n c : Nat} {l : List Pr} (h : w.ownsRow base 35 3 (.slice A n c) l.length (pflat l)) (i : Nat) (x : Pr) (hi : l[i]? = some x) :
    ∃ g, A = some ⟨g, 0, none⟩ ∧ w.cell? ⟨g, i * 3, none⟩ = some (.string x.val.f0) ∧ w.cell? ⟨g, i * 3 + 1, none⟩ = some (.string x.val.f1) ∧ w.cell? ⟨g, i * 3 + 2, none⟩ = some (.int .i64 x.val.f2) := by
  have hl := (List.getElem?_eq_some_iff.1 hi).1
  obtain ⟨g, cap, hv, hc⟩ := own_at h (by omega) (by decide)
  have hg : ∀ r, r < 3 → (pflat l)[i * 3 + r]? = some ((encP x)[r]!) := fun r hr => by
    rw [pflat_get l _ (by omega), show (i * 3 + r) / 3 = i by omega, show (i * 3 + r) % 3 = r by omega, getElem!_pos l i hl]
    rw [List.getElem?_eq_getElem hl] at hi
    injection hi with hi
    rw [hi]
  injection hv with h1 h2 h3
  exact ⟨g, h1, hc _ _ (hg 0 (by omega)), hc _ _ (hg 1 (by omega)), hc _ _ (hg 2 (by omega))⟩
/-! ### What the files are -/
theorem filesL_mem (l : List S33) : ∀ q ∈ filesL l, ∃ x ∈ l, q.1 = x.f0 ∧ q.2 = Q.lines x.f2 ∧ x.f1 = 2 := by
  have gen : ∀ (t : List S33) (st : List ByteArray × List (ByteArray × List ByteArray)), (∀ q ∈ st.2, ∃ x ∈ l, q.1 = x.f0 ∧ q.2 = Q.lines x.f2 ∧ x.f1 = 2) → (∀ x ∈ t, x ∈ l) → ∀ q ∈ (t.foldl stepF st).2, ∃ x ∈ l, q.1 = x.f0 ∧ q.2 = Q.lines x.f2 ∧ x.f1 = 2 := by
    intro t
    induction t with
    | nil => intro st h _; exact h
    | cons x t ih =>
      intro st h ht
      refine ih _ ?_ (fun y hy => ht y (List.mem_cons_of_mem _ hy))
      unfold stepF
      split
      · rename_i hx
        intro q hq
        rcases List.mem_append.1 hq with hq | hq
        · exact h q hq
        · rw [List.mem_singleton.1 hq]; exact ⟨x, ht x List.mem_cons_self, rfl, rfl, hx.1⟩
      · exact h
  exact gen l ([], []) (by simp) (fun x hx => hx)
theorem filesL_len (l : List S33) : (filesL l).length ≤ l.length := by
  have gen : ∀ (t : List S33) (st : List ByteArray × List (ByteArray × List ByteArray)), (t.foldl stepF st).2.length ≤ st.2.length + t.length := by
    intro t
    induction t with
    | nil => intro st; simp
    | cons x t ih =>
      intro st
      have h := ih (stepF st x)
      have h2 : (stepF st x).2.length ≤ st.2.length + 1 := by unfold stepF; split <;> simp
      rw [List.foldl_cons, List.length_cons]
      omega
  have := gen l ([], [])
  unfold filesL
  simpa using this
theorem lnL_size (l : List UInt8) : ∀ q ∈ lnL l, q.length ≤ l.length := by
  intro q hq
  induction l generalizing q with
  | nil => simp [lnL] at hq
  | cons c cs ih =>
    rw [lnL_cons] at hq
    split at hq
    · rcases List.mem_cons.1 hq with rfl | hq
      · rw [List.length_cons, List.length_cons, List.length_nil]; omega
      · have := ih q hq; rw [List.length_cons]; omega
    · split at hq
      · rw [List.mem_singleton.1 hq, List.length_cons, List.length_cons, List.length_nil]; omega
      · rename_i p ps hp
        rcases List.mem_cons.1 hq with rfl | hq
        · have := ih p (by rw [hp]; exact List.mem_cons_self); rw [List.length_cons, List.length_cons]; omega
        · have := ih q (by rw [hp]; exact List.mem_cons_of_mem _ hq); rw [List.length_cons]; omega
theorem lines_size (s : ByteArray) : ∀ q ∈ Q.lines s, q.size ≤ s.size := by
  intro q hq
  unfold Q.lines at hq
  obtain ⟨r, hr, rfl⟩ := List.mem_map.1 hq
  have h1 := lnL_size _ r hr
  have h2 : (bts r).size = r.length := List.size_toArray
  have h3 : s.data.toList.length = s.size := Array.length_toList
  omega
/-- Files of items of which one can tell. -/
def FeOk (e : Fe) : Prop := e.p.size ≤ 4000000 ∧ e.l.length ≤ 4000000 ∧ ∀ s ∈ e.l, s.size ≤ 4000000
theorem feOk_of {l : List S33} (h : PairsOk l) {es : List Fe} (he : es.map Fe.plain = filesL l) : (∀ e ∈ es, FeOk e) ∧ es.length ≤ 1000 := by
  refine ⟨fun e hm => ?_, ?_⟩
  · have h1 : e.plain ∈ filesL l := by rw [← he]; exact List.mem_map_of_mem hm
    obtain ⟨x, hx, h2, h3, _⟩ := filesL_mem l _ h1
    have h4 := h.2 x hx
    have h2' : e.p = x.f0 := h2
    have h3' : e.l = Q.lines x.f2 := h3
    refine ⟨by rw [h2']; exact h4.1, by rw [h3']; have := lines_length_le x.f2; omega, fun s hs => ?_⟩
    rw [h3'] at hs
    have := lines_size x.f2 s hs
    omega
  · have := filesL_len l
    rw [← he, List.length_map] at this
    have := h.1
    omega
theorem score_run (A0 : Option Addr) (c0 : Nat) (l0 : List ByteArray) (A1 : Option Addr) (c1 : Nat) (l1 : List ByteArray) (w : World) (hr0 : Kd.C Kd.string w A0 l0.length l0) (hc0 : l0.length ≤ c0) (hr1 : Kd.C Kd.string w A1 l1.length l1) (hc1 : l1.length ≤ c1)
    (h0 : l0.length ≤ 4000000 ∧ ∀ s ∈ l0, s.size ≤ 4000000) (h1 : l1.length ≤ 4000000 ∧ ∀ s ∈ l1, s.size ≤ 4000000) :
    Calls Try.prog 16 #[.slice A0 l0.length c0, .slice A1 l1.length c1] w fun e w' => e = .returned (.int .i64 (score l0 l1)) ∧ Below w.heap.size w w' := by
  refine alike_Score.calls A0 c0 l0 A1 c1 l1 (score l0 l1) w hr0 hc0 hr1 hc1 ?_
  have h3 := comm_le l1 l0
  obtain ⟨h0, g0⟩ := h0
  obtain ⟨h1, g1⟩ := h1
  have hcm : alike_Common.f l0 l1 = some ((comm l0 l1 : Nat) : Int) := by
    unfold alike_Common.f
    exact if_pos ⟨⟨fun s hs => by have := g0 s hs; omega, fun s hs => by have := g1 s hs; omega⟩, by omega, by omega⟩
  unfold alike_Score.f score
  rw [w64 (x := (l0.length : Int) + (l1.length : Int)) (by omega) (by omega)]
  by_cases h : l0.length + l1.length = 0
  · rw [if_pos (by omega), if_pos h]
  · rw [if_neg (by omega), if_neg h, hcm, Option.bind_some, w64 (x := 200 * (comm l0 l1 : Int)) (by omega) (by omega), Int.tdiv_eq_ediv_of_nonneg (by omega)]
    have h4 := score_range l0 l1
    unfold score at h4
    rw [if_neg h] at h4
    have h5 : (l0.length : Int) + (l1.length : Int) = ((l0.length + l1.length : Nat) : Int) := by omega
    rw [h5, w64 (by omega) (by omega)]
theorem candL_take (old fresh : List (ByteArray × List ByteArray)) (t : Int) (i : Nat) (a : ByteArray × List ByteArray) (h : old[i]? = some a) : candL (old.take (i + 1)) fresh t = candL (old.take i) fresh t ++ cand1 a fresh t := by
  obtain ⟨hi, rfl⟩ := List.getElem?_eq_some_iff.1 h
  rw [List.take_succ_eq_append_getElem hi]
  unfold candL
  rw [List.flatMap_append, List.flatMap_cons, List.flatMap_nil, List.append_nil]
theorem cand1_take (a : ByteArray × List ByteArray) (fresh : List (ByteArray × List ByteArray)) (t : Int) (j : Nat) (b : ByteArray × List ByteArray) (h : fresh[j]? = some b) : cand1 a (fresh.take (j + 1)) t = cand1 a (fresh.take j) t ++ if mx t 1 ≤ score a.2 b.2 then [⟨a.1, b.1, score a.2 b.2⟩] else [] := by
  obtain ⟨hj, rfl⟩ := List.getElem?_eq_some_iff.1 h
  rw [List.take_succ_eq_append_getElem hj]
  unfold cand1
  rw [List.filterMap_append]
  congr 1
  split
  · rename_i h1; simp [h1]
  · rename_i h1; simp [h1]
theorem CmpOk.comap {α β : Type} {c : α → α → Int} (h : CmpOk c) (f : β → α) : CmpOk (fun x y => c (f x) (f y)) := ⟨fun x y => h.neg _ _, fun x y z => h.tr _ _ _⟩
theorem better_ok : CmpOk betterC := cB_cmp.comap Subtype.val
theorem first_ok : CmpOk firstC := (pcmp_cmp (fun x : PrS => x.f1)).comap Subtype.val
theorem lt_le {c : Pr → Pr → Int} (hc : CmpOk c) {x y : Pr} (h : Go.Proofs.ltOf (cmpOf c) y x = false) : c x y ≤ 0 := by
  have e : cmpOf c y x = c y x := by
    unfold cmpOf
    split
    · rename_i h; rw [h, hc.self]
    · rfl
  simp only [Go.Proofs.ltOf, e, decide_eq_false_iff_not] at h
  have := hc.neg y x
  omega
/-- What the better-sort leaves. -/
theorem sortB_of {ps ps' : List Pr} (hp : ps'.Perm ps) (hs : ps'.Pairwise (fun x y => Go.Proofs.ltOf (cmpOf betterC) y x = false)) : ps'.map Subtype.val = sortB (ps.map Subtype.val) :=
  sort_uniq cB_cmp (fun x y => cB_zero) (hp.map _) (List.pairwise_map.2 (hs.imp (fun h => lt_le better_ok h)))
theorem take1_inv : ∀ (l : List PrS) (st : List ByteArray × List ByteArray × List PrS), (st.2.1 = (st.2.2.map (fun p => p.f1)).reverse ∧ (st.2.2.map (fun p => p.f1)).Nodup) →
    ((l.foldl take1 st).2.1 = ((l.foldl take1 st).2.2.map (fun p => p.f1)).reverse ∧ ((l.foldl take1 st).2.2.map (fun p => p.f1)).Nodup) := by
  intro l
  induction l with
  | nil => intro st h; exact h
  | cons p l ih =>
    intro st h
    refine ih _ ?_
    unfold take1
    split
    · rename_i hc
      refine ⟨by simp [h.1], ?_⟩
      rw [List.map_append]
      refine List.nodup_append.2 ⟨h.2, by simp, fun a ha b hb e => ?_⟩
      subst e
      refine hc.2 ?_
      rw [h.1, List.mem_reverse]
      have : a = p.f1 := by simpa using hb
      rw [← this]
      exact ha
    · exact h
theorem greedy_nodup (l : List PrS) : ((greedy l).map (fun p => p.f1)).Nodup := (take1_inv l ([], [], []) ⟨rfl, by simp⟩).2
/-- What the To-sort leaves, where no To stands twice. -/
theorem sortT_of {ps ps' : List Pr} (hp : ps'.Perm ps) (hs : ps'.Pairwise (fun x y => Go.Proofs.ltOf (cmpOf firstC) y x = false)) (hn : ((ps.map Subtype.val).map (fun p => p.f1)).Nodup) : ps'.map Subtype.val = sortT (ps.map Subtype.val) := by
  refine sort_uniq cT_cmp (fun x y => cT_zero) (hp.map _) (List.pairwise_map.2 ?_)
  have hn' : ((ps'.map Subtype.val).map (fun p => p.f1)).Nodup := ((hp.map _).map _).nodup_iff.2 hn
  have hn3 := List.pairwise_map.1 (List.nodup_iff_pairwise_ne.1 hn')
  have hn2 : ps'.Pairwise (fun x y => x.val.f1 ≠ y.val.f1) := (List.pairwise_map (R := fun a b : PrS => a.f1 ≠ b.f1) (f := Subtype.val)).1 hn3
  refine (hs.and hn2).imp ?_
  rintro x y ⟨h1, h2⟩
  have h3 := lt_le first_ok h1
  have h4 : pcmp (tl x.val.f1) (tl y.val.f1) ≠ 0 := fun e => h2 (tl_inj ((pcmp_zero _ _).1 e))
  unfold cT
  rw [if_pos h4]
  exact h3
theorem greedy_take (l : List PrS) (k : Nat) (p : PrS) (h : l[k]? = some p) (st : List ByteArray × List ByteArray × List PrS) (hst : (l.take k).foldl take1 ([], [], []) = st) : (l.take (k + 1)).foldl take1 ([], [], []) = take1 st p := by
  obtain ⟨hk, rfl⟩ := List.getElem?_eq_some_iff.1 h
  rw [List.take_succ_eq_append_getElem hk, List.foldl_append, hst]
  rfl
end Go.Proofs.Ytcgnkbdfoaiaiaa.P
end
section
/- rename.Pairs: the walk of its text. -/
set_option linter.unusedVariables false
set_option linter.unusedSimpArgs false
namespace Go.Proofs.Ytcgnkbdfoaiaiaa.P
open Go Go.RowKit Go.Sort Go.Proofs.YtcgnkbdfoaiaiaaW.PrintWords Go.Proofs.YtcgnkbdfoaiaiaaW.PrintLast Go.Proofs.YtcgnkbdfoaiaiaaW.PrintMore Go.Proofs.Ytcgnkbdfoaiaiaa.Q Go.Proofs.Ytcgnkbdfoaiaiaa.HSet
def vals (ps : List Pr) : List PrS := ps.map Subtype.val
theorem vals_app (a b : List Pr) : vals (a ++ b) = vals a ++ vals b := List.map_append
theorem vals_length (qs : List Pr) : (vals qs).length = qs.length := List.length_map _
theorem vals_get {qs : List Pr} {k : Nat} {p : Pr} (h : qs[k]? = some p) : (vals qs)[k]? = some p.val := by
  show (List.map (fun x : Pr => x.val) qs)[k]? = _
  rw [List.getElem?_map, h]
  rfl
def PEnd (B : Nat) (r : List PrS) (w : World) (e : Ending) (w' : World) : Prop := ∃ v ps, e = .returned v ∧ vals ps = r ∧ w'.ownsRow B 35 3 v ps.length (pflat ps) ∧ Below B w w'
section
attribute [local go_sem] Go.Proofs.Ytcgnkbdfoaiaiaa.HMin.max2_mx Go.Proofs.Ytcgnkbdfoaiaiaa.HMin.min2_mn max_two min_two
set_option maxRecDepth 100000 in
set_option maxHeartbeats 8000000 in
theorem pairs_run (A0 : Option Addr) (c0 : Nat) (l0 : List S33) (A1 : Option Addr) (c1 : Nat) (l1 : List S33) (t : Int) (w : World) (hr0 : Kd.C k33 w A0 l0.length l0) (hc0 : l0.length ≤ c0) (hr1 : Kd.C k33 w A1 l1.length l1) (hc1 : l1.length ≤ c1) (h0 : PairsOk l0) (h1 : PairsOk l1) :
    Calls Try.prog 11 #[.slice A0 l0.length c0, .slice A1 l1.length c1, .int .i64 t] w (PEnd w.heap.size (pairsL l0 l1 t) w) := by
  have CF1 := Lib.hid (files_run A1 c1 l1 w hr1 hc1 h1.items)
  have HR0 := Lib.hid hr0
  have HC0 := Lib.hid hc0
  have H0 := Lib.hid h0
  have H1 := Lib.hid h1
  have hmm := @run_makeMap Try.prog
  obtain ⟨T, hT⟩ : ∃ T, T = mx t 1 := ⟨_, rfl⟩
  obtain ⟨R, hR⟩ : ∃ R, R = pairsL l0 l1 t := ⟨_, rfl⟩
  rw [← hR]
  have HRR := Lib.hid hR
  clear hr0 hr1 hc0 hc1 h0 h1 hR
  go_enter Try.func11, Try.ntmps11
  go_wp2_with fail
  refine CF1.out.mono ?_
  rintro e w1 ⟨v1, es1, rfl, hF1, hp1, hb1⟩
  obtain ⟨Af, cf, rfl⟩ := own_slice hF1.1
  have CF0 := Lib.hid (files_run A0 c0 l0 w1 (Kd.C_below HR0.out hb1) HC0.out H0.out.items)
  have HF1 := Lib.hid hF1
  have HP1 := Lib.hid hp1
  have HB1 := Lib.hid hb1
  clear hF1 hp1 hb1 CF1
  go_wp2_with fail
  refine CF0.out.mono ?_
  rintro e w2 ⟨v0, es0, rfl, hF0, hp0, hb2⟩
  obtain ⟨Ao, co, rfl⟩ := own_slice hF0.1
  have HFF := Lib.hid (HF1.out.below hb2)
  have HFO := Lib.hid (hF0.less HB1.out.size)
  have HB2 := Lib.hid (HB1.out.trans (hb2.mono HB1.out.size))
  have HP0 := Lib.hid hp0
  have HE1 := Lib.hid (feOk_of H1.out HP1.out)
  have HE0 := Lib.hid (feOk_of H0.out hp0)
  have he1 := HE1.out.2
  have he0 := HE0.out.2
  clear hF0 hp0 hb2 CF0
  go_wp2_with fail
  go_loopw [7, 23] (fun v7 v23 wr => ∃ (i : Nat) (ps : List Pr), v23 = .int .i64 (i : Int) ∧ i ≤ es0.length ∧ ps.length ≤ i * 1000 ∧ Hid (wr.ownsRow w.heap.size 35 3 v7 ps.length (pflat ps)) ∧ Hid (Fls w.heap.size wr (.slice Ao es0.length co) es0) ∧ Hid (Fls w.heap.size wr (.slice Af es1.length cf) es1) ∧ Hid (vals ps = candL ((es0.map Fe.plain).take i) (es1.map Fe.plain) t) ∧ Hid (Below w.heap.size w wr)) (fun _ v23 _ => es0.length - (intOf v23).toNat)
  case atStart => exact ⟨0, [], rfl, Nat.zero_le _, Nat.zero_le _, own_nil _ _ _ _, HFO, HFF, rfl, HB2⟩
  case round =>
    clear HFO HFF HB2
    obtain ⟨i, ps, rfl, hi, hps, HO, HFO, HFF, HV, HB⟩ := hrel
    obtain ⟨wo, hwo⟩ : ∃ wo, wo = wr := ⟨_, rfl⟩
    subst hwo
    by_cases ci_ : i < es0.length
    · have cb : decide ((i : Int) < (es0.length : Int)) = true := decide_eq_true (by omega)
      have cb' : decide (i < es0.length) = true := decide_eq_true ci_
      obtain ⟨a, ha⟩ : ∃ a, es0[i]? = some a := ⟨es0[i], List.getElem?_eq_getElem ci_⟩
      obtain ⟨g, Aa, ca, rfl, hav, hac, x0, x1, hCa⟩ := HFO.out.at i a ha
      obtain ⟨Ap, cp, rfl⟩ := own_slice HO.out
      have hOa := HE0.out.1 a (List.mem_of_getElem? ha)
      have p1 := eq_true (show 0 ≤ (i : Int) by omega)
      have q1 := eq_true (show (i : Int) < (es0.length : Int) by omega)
      obtain ⟨X, hX⟩ : ∃ X, X = wo.alloc (.cells #[.string a.p, .slice Aa a.l.length ca] 46) := ⟨_, rfl⟩
      have qX : X.heap[wo.heap.size]? = some (.cells #[.string a.p, .slice Aa a.l.length ca] 46 (0, 0)) := by rw [hX]; exact heap_alloc_new wo _
      have bX : Below wo.heap.size wo X := by rw [hX]; exact (Below.refl _ _).alloc (Nat.le_refl _) _
      have HTA := Lib.hid (candL_take (es0.map Fe.plain) (es1.map Fe.plain) t i a.plain (by rw [List.getElem?_map, ha]; rfl))
      have HOX := Lib.hid (pw_own_below HO.out bX)
      have HFOX := Lib.hid (HFO.out.below bX)
      have HFFX := Lib.hid (HFF.out.below bX)
      have HBX := Lib.hid (HB.out.trans (bX.mono HB.out.size))
      have HQX := Lib.hid qX
      have HXX := Lib.hid hX
      have HOA := Lib.hid hOa
      have HAV := Lib.hid hav
      have HAC := Lib.hid hac
      have HAA := Lib.hid ha
      have HCA := Lib.hid (Kd.C_below hCa bX)
      have hwb := HB.out.size
      clear hX qX bX ha hav hac hCa hOa
      go_wp2_with (first | rw [← HXX.out])
      go_loopw [7, 29] (fun v7 v29 wr => ∃ (j : Nat) (qs : List Pr), v29 = .int .i64 (j : Int) ∧ j ≤ es1.length ∧ qs.length ≤ ps.length + j ∧ Hid (wr.ownsRow w.heap.size 35 3 v7 qs.length (pflat qs)) ∧ Hid (Fls w.heap.size wr (.slice (some ⟨g, 0, none⟩) es0.length co) es0) ∧ Hid (Fls w.heap.size wr (.slice Af es1.length cf) es1) ∧ Hid (vals qs = vals ps ++ cand1 a.plain ((es1.map Fe.plain).take j) t) ∧ Hid (Below w.heap.size w wr) ∧ Hid (wr.heap[wo.heap.size]? = some (.cells #[.string a.p, .slice Aa a.l.length ca] 46 (0, 0))) ) (fun _ v29 _ => es1.length - (intOf v29).toNat)
      case atStart => exact ⟨0, ps, rfl, Nat.zero_le _, by omega, HOX, HFOX, HFFX, Lib.hid (by simp [cand1]), HBX, HQX⟩
      case round =>
        clear HO HFO HFF HB HOX HFOX HFFX HBX HQX HXX HCA
        obtain ⟨j, qs, rfl, hj, hqs, HO, HFO, HFF, HW, HB, HQX⟩ := hrel
        have HCA := Lib.hid (HFO.out.reads (List.mem_of_getElem? HAA.out) HAV.out)
        obtain ⟨Aq, cq, rfl⟩ := own_slice HO.out
        by_cases cj : j < es1.length
        · have db : decide ((j : Int) < (es1.length : Int)) = true := decide_eq_true (by omega)
          have db' : decide (j < es1.length) = true := decide_eq_true cj
          obtain ⟨b, hb⟩ : ∃ b, es1[j]? = some b := ⟨es1[j], List.getElem?_eq_getElem cj⟩
          obtain ⟨g1, Ab, cb1, rfl, hbv, hbc, y0, y1, hCb⟩ := HFF.out.at j b hb
          have hOb := HE1.out.1 b (List.mem_of_getElem? hb)
          have p2 := eq_true (show 0 ≤ (j : Int) by omega)
          have q2 := eq_true (show (j : Int) < (es1.length : Int) by omega)
          obtain ⟨Y, hY⟩ : ∃ Y, Y = wr.alloc (.cells #[.string b.p, .slice Ab b.l.length cb1] 46) := ⟨_, rfl⟩
          have qY : Y.heap[wr.heap.size]? = some (.cells #[.string b.p, .slice Ab b.l.length cb1] 46 (0, 0)) := by rw [hY]; exact heap_alloc_new wr _
          have bY : Below wr.heap.size wr Y := by rw [hY]; exact (Below.refl _ _).alloc (Nat.le_refl _) _
          have qXY : Y.heap[wo.heap.size]? = some (.cells #[.string a.p, .slice Aa a.l.length ca] 46 (0, 0)) := (bY.block _ (blk_lt HQX.out)).trans HQX.out
          have ya1 : Y.cell? ⟨wo.heap.size, 1, none⟩ = some (.slice Aa a.l.length ca) := by simp [World.cell?, qXY]
          have yb1 : Y.cell? ⟨wr.heap.size, 1, none⟩ = some (.slice Ab b.l.length cb1) := by simp [World.cell?, qY]
          have CS := Lib.hid (score_run Aa ca a.l Ab cb1 b.l Y (Kd.C_below HCA.out bY) HAC.out (Kd.C_below hCb bY) hbc ⟨HOA.out.2.1, HOA.out.2.2⟩ ⟨hOb.2.1, hOb.2.2⟩)
          have HTB := Lib.hid (cand1_take a.plain (es1.map Fe.plain) t j b.plain (by rw [List.getElem?_map, hb]; rfl))
          have HOY := Lib.hid (pw_own_below HO.out bY)
          have HFOY := Lib.hid (HFO.out.below bY)
          have HFFY := Lib.hid (HFF.out.below bY)
          have HBY := Lib.hid (HB.out.trans (bY.mono HB.out.size))
          have HCY := Lib.hid (Kd.C_below HCA.out bY)
          have HQY := Lib.hid qY
          have HQXY := Lib.hid qXY
          have HYY := Lib.hid hY
          have HOB := Lib.hid hOb
          have hwb2 := HB.out.size
          have hyb2 := HBY.out.size
          clear hY qY bY qXY hb hbv hbc hCb hOb
          obtain ⟨S, hS⟩ : ∃ S, S = score a.l b.l := ⟨_, rfl⟩
          rw [← hS] at CS
          have HSS := Lib.hid hS
          clear hS
          have hmx : mx t 1 = T := hT.symm
          by_cases hc : T ≤ S
          · have kc : decide (T ≤ S) = true := decide_eq_true hc
            have HIF := Lib.hid (show vals (qs ++ [mkPr ⟨a.p, b.p, S⟩ HOA.out.1 HOB.out.1]) = vals ps ++ cand1 a.plain ((es1.map Fe.plain).take (j + 1)) t by
              rw [vals_app, HW.out, HTB.out, List.append_assoc, if_pos (show mx t 1 ≤ score a.plain.2 b.plain.2 by rw [hmx]; show T ≤ score a.l b.l; rw [← HSS.out]; exact hc), HSS.out]
              rfl)
            clear hc hT
            go_wp2_with (first | rw [← HYY.out] | (go_at_call 16; refine CS.out.mono ?_; rintro e w3 ⟨rfl, hb3⟩; have HO3 := Lib.hid (pw_own_below HOY.out hb3); have HFO3 := Lib.hid (HFOY.out.below hb3); have HFF3 := Lib.hid (HFFY.out.below hb3); have HB3 := Lib.hid (HBY.out.trans (hb3.mono hyb2)); have HQ3 := Lib.hid ((hb3.block _ (blk_lt HQXY.out)).trans HQXY.out); have HR3 := Lib.hid ((hb3.block _ (blk_lt HQY.out)).trans HQY.out); have za0 : w3.cell? ⟨wo.heap.size, 0, none⟩ = some (.string a.p) := (blk_cell HQ3.out 0).trans rfl; have zb0 : w3.cell? ⟨wr.heap.size, 0, none⟩ = some (.string b.p) := (blk_cell HR3.out 0).trans rfl; clear hb3) | (at_builtin; refine print_append_cells (w0 := w) w.heap.size rfl (.tmp 42) (.tmp 49) 29 35 (.agg #[(.string ⟨#[]⟩), (.string ⟨#[]⟩), (.int .i64 0)]) 3 40 rfl Try.underlying29 (by kernel_rfl) rfl (by omega) (by omega) (.slice Aq qs.length cq) qs.length (pflat qs) [.string a.p, .string b.p, .int .i64 S] rfl (by first | (go_simp; done) | (go_simp; rfl)) rfl ?h1 ?hO ?hB ?hs ?hl ?_; (case h1 => intro u hu; simp at hu; rcases hu with rfl | rfl | rfl <;> rfl); (case hO => exact HO3.out); (case hB => exact HB3.out); (case hs => exact HB3.out.size); (case hl => omega); intro v5 w5 hown hb5 hgr hat; have HO5 := Lib.hid hown; have HB5 := Lib.hid hb5; have HFO5 := Lib.hid (HFO3.out.other HO3.out hgr (by decide) (by decide)); have HFF5 := Lib.hid (HFF3.out.other HO3.out hgr (by decide) (by decide)); have HQ5 := Lib.hid (blk_grown HQ3.out hgr (own_ne HO3.out HQ3.out (by decide))); clear hown hb5 hgr hat))
            exact ⟨⟨j + 1, qs ++ [mkPr ⟨a.p, b.p, S⟩ HOA.out.1 HOB.out.1], by simp, cj, by simp; omega, Lib.hid (by rw [List.length_append, pflat_snoc]; exact HO5.out), HFO5, HFF5, HIF, HB5, HQ5⟩, by simp [intOf]; omega⟩
          · have kc : decide (T ≤ S) = false := decide_eq_false hc
            have HIF := Lib.hid (show vals qs = vals ps ++ cand1 a.plain ((es1.map Fe.plain).take (j + 1)) t by
              rw [HW.out, HTB.out, if_neg (show ¬ mx t 1 ≤ score a.plain.2 b.plain.2 by rw [hmx]; show ¬ T ≤ score a.l b.l; rw [← HSS.out]; exact hc), List.append_nil])
            clear hc hT
            go_wp2_with (first | rw [← HYY.out] | (go_at_call 16; refine CS.out.mono ?_; rintro e w3 ⟨rfl, hb3⟩; have HO3 := Lib.hid (pw_own_below HOY.out hb3); have HFO3 := Lib.hid (HFOY.out.below hb3); have HFF3 := Lib.hid (HFFY.out.below hb3); have HB3 := Lib.hid (HBY.out.trans (hb3.mono hyb2)); have HQ3 := Lib.hid ((hb3.block _ (blk_lt HQXY.out)).trans HQXY.out); clear hb3))
            exact ⟨⟨j + 1, qs, by simp, cj, by omega, HO3, HFO3, HFF3, HIF, HB3, HQ3⟩, by simp [intOf]; omega⟩
        · have db : decide ((j : Int) < (es1.length : Int)) = false := decide_eq_false (by omega)
          have db' : decide (j < es1.length) = false := decide_eq_false cj
          obtain rfl : j = es1.length := by omega
          have HIF := Lib.hid (show vals qs = candL ((es0.map Fe.plain).take (i + 1)) (es1.map Fe.plain) t by
            have h1 := HW.out
            rw [List.take_of_length_le (by simp)] at h1
            rw [HTA.out, h1, HV.out])
          have hq2 : qs.length ≤ (i + 1) * 1000 := by omega
          clear HW
          go_wp2
          exact ⟨⟨i + 1, qs, by simp, ci_, hq2, HO, HFO, HFF, HIF, HB⟩, by simp [intOf]; omega⟩
    · have cb : decide ((i : Int) < (es0.length : Int)) = false := decide_eq_false (by omega)
      have cb' : decide (i < es0.length) = false := decide_eq_false ci_
      obtain rfl : i = es0.length := by omega
      have HVF := Lib.hid (show vals ps = candL (filesL l0) (filesL l1) t by
        have h1 := HV.out
        rw [List.take_of_length_le (by simp), HP0.out, HP1.out] at h1
        exact h1)
      have eg17 : ∀ args w, (callFunc 17 args).run Try.prog w = .ok (.enter 17 args) w := enters_of Try.func17 (by kernel_rfl) rfl
      obtain ⟨Ap, cp, rfl⟩ := own_slice HO.out
      have SR := Lib.hid (sort_run 17 eg17 betterC better_run (swo_of better_ok) w.heap.size (.slice Ap ps.length cp) ps wo HO.out (by omega))
      have hwo := HB.out.size
      have hpsl : ps.length ≤ 1000000 := by omega
      clear HV ci_ eg17 HFO HFF HE0 HE1
      go_wp2_with fail
      refine SR.out.mono ?_
      rintro e w3 ⟨rfl, qs, hperm, hsort, hown, w3', hb3, hg3⟩
      have hql := hperm.length_eq
      have HB3 := Lib.hid ((HB.out.trans (hb3.mono hwo)).grown hg3 (by have := hb3.size; omega) (own_base HO.out))
      have HSQ := Lib.hid (show vals qs = sortB (candL (filesL l0) (filesL l1) t) by rw [← HVF.out]; exact sortB_of hperm hsort)
      have HO3 := Lib.hid hown
      clear hperm hsort hown hb3 hg3 SR HO HB
      obtain ⟨M1, hM1⟩ : ∃ M1, M1 = w3.alloc (.map #[] 0) := ⟨_, rfl⟩
      obtain ⟨M2, hM2⟩ : ∃ M2, M2 = M1.alloc (.map #[] 0) := ⟨_, rfl⟩
      have bM1 : Below w3.heap.size w3 M1 := by rw [hM1]; exact (Below.refl _ _).alloc (Nat.le_refl _) _
      have bM2 : Below M1.heap.size M1 M2 := by rw [hM2]; exact (Below.refl _ _).alloc (Nat.le_refl _) _
      have sM1 : M1.heap.size = w3.heap.size + 1 := by rw [hM1]; simp
      have HA1 := Lib.hid (show Has Try.prog 9 4 M2 w3.heap.size 0 [] from (show Has Try.prog 9 4 M1 w3.heap.size 0 [] by rw [hM1]; exact Has.made w3 _ _ _).below bM2)
      have HA2 := Lib.hid (show Has Try.prog 9 4 M2 M1.heap.size 0 [] by rw [hM2]; exact Has.made M1 _ _ _)
      have hm1 : w3.heap.size < M1.heap.size := by omega
      have HO4 := Lib.hid (pw_own_below (pw_own_below HO3.out bM1) bM2)
      have HB4 := Lib.hid (bM1.trans (bM2.mono (by omega)))
      have HM1 := Lib.hid hM1
      have HM2 := Lib.hid hM2
      have hb3s := HB3.out.size
      have HLT := Lib.hid (show ∀ k, (Value.slice Ap ps.length cp).ownBlock = some k → k < w3.heap.size from fun k hk => own_lt HO3.out k hk)
      clear hM1 hM2 bM1 bM2 sM1
      go_wp2_with (first | rw [← HM1.out] | rw [← HM2.out])
      go_loopw [6, 60] (fun v6 v60 wr => ∃ (k : Nat) (rs : List Pr) (S1 S2 : List ByteArray), v60 = .int .i64 (k : Int) ∧ k ≤ ps.length ∧ rs.length ≤ k ∧ Hid (Has Try.prog 9 4 wr w3.heap.size k S1) ∧ Hid (Has Try.prog 9 4 wr M1.heap.size k S2) ∧ Hid (wr.ownsRow w3.heap.size 35 3 v6 rs.length (pflat rs)) ∧ Hid (wr.ownsRow w.heap.size 35 3 (.slice Ap ps.length cp) qs.length (pflat qs)) ∧ Hid (((vals qs).take k).foldl take1 ([], [], []) = (S1, S2, vals rs)) ∧ Hid (Below w3.heap.size w3 wr)) (fun _ v60 _ => ps.length - (intOf v60).toNat)
      case atStart => exact ⟨0, [], [], [], rfl, Nat.zero_le _, Nat.zero_le _, HA1, HA2, own_nil _ _ _ _, HO4, rfl, HB4⟩
      case round =>
        clear HA1 HA2 HO4 HB4 HM1 HM2
        obtain ⟨k, rs, S1, S2, rfl, hk, hrs, HA1, HA2, HOR, HOQ, HG, HB⟩ := hrel
        obtain ⟨Ar, cr, rfl⟩ := own_slice HOR.out
        by_cases ck : k < ps.length
        · have db : decide ((k : Int) < (ps.length : Int)) = true := decide_eq_true (by omega)
          have db' : decide (k < ps.length) = true := decide_eq_true ck
          obtain ⟨p, hp⟩ : ∃ p, qs[k]? = some p := ⟨qs[k], List.getElem?_eq_getElem (by omega)⟩
          obtain ⟨g, rfl, x0, x1, x2⟩ := pflat_at HOQ.out k p hp
          have p2 := eq_true (show 0 ≤ (k : Int) by omega)
          have q2 := eq_true (show (k : Int) < (ps.length : Int) by omega)
          have HTK := Lib.hid (greedy_take (vals qs) k p.val (vals_get hp) _ HG.out)
          obtain ⟨Y, hY⟩ : ∃ Y, Y = wr.alloc (.cells #[.string p.val.f0, .string p.val.f1, .int .i64 p.val.f2] 35) := ⟨_, rfl⟩
          have qY : Y.heap[wr.heap.size]? = some (.cells #[.string p.val.f0, .string p.val.f1, .int .i64 p.val.f2] 35 (0, 0)) := by rw [hY]; exact heap_alloc_new wr _
          have bY : Below wr.heap.size wr Y := by rw [hY]; exact (Below.refl _ _).alloc (Nat.le_refl _) _
          have z0 : Y.cell? ⟨wr.heap.size, 0, none⟩ = some (.string p.val.f0) := by simp [World.cell?, qY]
          have z1 : Y.cell? ⟨wr.heap.size, 1, none⟩ = some (.string p.val.f1) := by simp [World.cell?, qY]
          have HA1Y := Lib.hid (HA1.out.below bY)
          have HA2Y := Lib.hid (HA2.out.below bY)
          have HORY := Lib.hid (pw_own_below HOR.out bY)
          have HOQY := Lib.hid (pw_own_below HOQ.out bY)
          have HBY := Lib.hid (HB.out.trans (bY.mono HB.out.size))
          have HQY := Lib.hid qY
          have HYY := Lib.hid hY
          have hsb := HB.out.size
          have HPS := Lib.hid p.property
          have hl1 := HA1.out.lt
          have hl2 := HA2.out.lt
          have lk1 := HA1Y.out.look (t := 52) Try.underlying9 Try.underlying52 Try.underlying4 (by kernel_rfl) (s := p.val.f0) (by have := HPS.out.1; unfold maxLen; omega)
          have lk2 := HA2Y.out.look (t := 52) Try.underlying9 Try.underlying52 Try.underlying4 (by kernel_rfl) (s := p.val.f1) (by have := HPS.out.2; unfold maxLen; omega)
          clear hY qY bY hp
          by_cases m1 : p.val.f0 ∈ S1
          · have dm : decide (p.val.f0 ∈ S1) = true := decide_eq_true m1
            rw [dm] at lk1
            have HST := Lib.hid (show ((vals qs).take (k + 1)).foldl take1 ([], [], []) = (S1, S2, vals rs) by rw [HTK.out]; unfold take1; rw [if_neg (fun h => h.1 m1)])
            clear dm m1 lk2
            go_wp2_with (first | rw [← HYY.out])
            exact ⟨⟨k + 1, rs, S1, S2, by simp, ck, by omega, HA1Y.out.mono (by omega), HA2Y.out.mono (by omega), HORY, HOQY, HST, HBY⟩, by simp [intOf]; omega⟩
          · have dm : decide (p.val.f0 ∈ S1) = false := decide_eq_false m1
            rw [dm] at lk1
            by_cases m2 : p.val.f1 ∈ S2
            · have dm2 : decide (p.val.f1 ∈ S2) = true := decide_eq_true m2
              rw [dm2] at lk2
              have HST := Lib.hid (show ((vals qs).take (k + 1)).foldl take1 ([], [], []) = (S1, S2, vals rs) by rw [HTK.out]; unfold take1; rw [if_neg (fun h => h.2 m2)])
              clear dm m1 dm2 m2
              go_wp2_with (first | rw [← HYY.out])
              exact ⟨⟨k + 1, rs, S1, S2, by simp, ck, by omega, HA1Y.out.mono (by omega), HA2Y.out.mono (by omega), HORY, HOQY, HST, HBY⟩, by simp [intOf]; omega⟩
            · have dm2 : decide (p.val.f1 ∈ S2) = false := decide_eq_false m2
              rw [dm2] at lk2
              have HST := Lib.hid (show ((vals qs).take (k + 1)).foldl take1 ([], [], []) = (p.val.f0 :: S1, p.val.f1 :: S2, vals (rs ++ [p])) by rw [HTK.out]; unfold take1; rw [if_pos ⟨m1, m2⟩, vals_app]; rfl)
              obtain ⟨Z, hZ⟩ : ∃ Z, Z = Y.drew := ⟨_, rfl⟩
              have bZ : Below Y.heap.size Y Z := by rw [hZ]; exact (Below.refl _ _).drew
              have qZ : Z.heap[wr.heap.size]? = some (.cells #[.string p.val.f0, .string p.val.f1, .int .i64 p.val.f2] 35 (0, 0)) := by rw [hZ]; exact HQY.out
              have m0 : Z.cell? ⟨wr.heap.size, 0, none⟩ = some (.string p.val.f0) := by simp [World.cell?, qZ]
              have m1' : Z.cell? ⟨wr.heap.size, 1, none⟩ = some (.string p.val.f1) := by simp [World.cell?, qZ]
              obtain ⟨w4, hr4, hh4, hg4⟩ := Has.put (t := 52) (HA1Y.out.below bZ) Try.underlying9 Try.underlying52 Try.underlying4 (by unfold maxLen; omega) (s := p.val.f0) (by have := HPS.out.1; unfold maxLen; omega)
              obtain ⟨w5, hr5, hh5, hg5⟩ := Has.put (t := 52) ((HA2Y.out.below bZ).grown hg4 (by simp; omega)) Try.underlying9 Try.underlying52 Try.underlying4 (by unfold maxLen; omega) (s := p.val.f1) (by have := HPS.out.2; unfold maxLen; omega)
              have HH4 := Lib.hid (hh4.grown hg5 (by simp; omega))
              have HH5 := Lib.hid hh5
              have HZ8 := Lib.hid (show ∀ b ∈ [wr.heap.size], b < Z.heap.size by intro b hb; rw [List.mem_singleton.1 hb]; exact blk_lt qZ)
              have q4 : w4.heap[wr.heap.size]? = some (.cells #[.string p.val.f0, .string p.val.f1, .int .i64 p.val.f2] 35 (0, 0)) := blk_grown qZ hg4 (by simp; omega)
              have q5 : w5.heap[wr.heap.size]? = some (.cells #[.string p.val.f0, .string p.val.f1, .int .i64 p.val.f2] 35 (0, 0)) := blk_grown q4 hg5 (by simp; omega)
              have e0 : w5.cell? ⟨wr.heap.size, 0, none⟩ = some (.string p.val.f0) := by simp [World.cell?, q5]
              have e1 : w5.cell? ⟨wr.heap.size, 1, none⟩ = some (.string p.val.f1) := by simp [World.cell?, q5]
              have e2 : w5.cell? ⟨wr.heap.size, 2, none⟩ = some (.int .i64 p.val.f2) := by simp [World.cell?, q5]
              have HQ5 := Lib.hid q5
              have hasZ := HA1Y.out.below bZ
              have hasZ2 := (HA2Y.out.below bZ).grown hg4 (by simp; omega)
              have keep : ∀ {base e s n : Nat} {v : Value} {xs : List Value}, Y.ownsRow base e s v n xs → w5.ownsRow base e s v n xs := fun h => by
                have h1 := pw_own_below h bZ
                have h2 := h1.kept hg4 (.inr (fun e' => has_ne_own hasZ h1 e'.symm))
                exact h2.kept hg5 (.inr (fun e' => has_ne_own hasZ2 h2 e'.symm))
              have HOR5 := Lib.hid (keep HORY.out)
              have HOQ5 := Lib.hid (keep HOQY.out)
              have HB5 := Lib.hid (((HBY.out.trans (bZ.mono HBY.out.size)).grown hg4 (by have := bZ.size; have := HBY.out.size; omega) (fun k hk => by injection hk with hk; omega)).grown hg5 (by have := bZ.size; have := HBY.out.size; have := hg4.size; omega) (fun k hk => by injection hk with hk; omega))
              have HZZ := Lib.hid hZ
              have hT0 := Held.Same.refl Z [wr.heap.size]
              have hT4 : Held.Same Z [wr.heap.size] w4 := fun b hb => by rw [List.mem_singleton.1 hb, q4, qZ]
              have HT4 := Lib.hid hT4
              clear hZ bZ qZ q4 q5 hh4 hh5 hg4 hg5 hasZ hasZ2 keep dm m1 dm2 m2 hT4
              go_wp2_with (first | rw [← HYY.out])
              refine (wpIn_wide (n := 9)).1 ?_
              refine Held.region 7 (Held.Same Z [wr.heap.size]) (by kernel_rfl) ?_
              rw [← HZZ.out]
              refine Held.tk (i := 0) rfl hT0 ?_
              try simp only [Act.put, List.setIfInBounds_toArray, List.set_cons_zero, List.set_cons_succ]
              refine Held.tk (i := 1) rfl hT0 ?_
              try simp only [Act.put, List.setIfInBounds_toArray, List.set_cons_zero, List.set_cons_succ]
              refine Held.tk (i := 2) rfl hT0 ?_
              try simp only [Act.put, List.setIfInBounds_toArray, List.set_cons_zero, List.set_cons_succ]
              refine Held.tk (i := 3) rfl hT0 ?_
              try simp only [Act.put, List.setIfInBounds_toArray, List.set_cons_zero, List.set_cons_succ]
              refine Held.tk (i := 4) rfl hT0 ?_
              try simp only [Act.put, List.setIfInBounds_toArray, List.set_cons_zero, List.set_cons_succ]
              refine Held.tk (i := 5) rfl hT0 ?_
              try simp only [Act.put, List.setIfInBounds_toArray, List.set_cons_zero, List.set_cons_succ]
              refine Held.AnyS.step (i := 6) rfl (by kernel_rfl) rfl (fun K hK => ?_)
              go_simp
              refine hK.out _ _ (fun _ => HT4.out) ?_
              clear hK K
              try simp only [Act.put, List.setIfInBounds_toArray, List.set_cons_zero, List.set_cons_succ]
              refine Held.AnyS.step (i := 7) rfl (by kernel_rfl) rfl (fun K hK => ?_)
              go_simp
              refine hK.out _ _ (fun h => absurd h (by omega)) ?_
              clear hK K hT0
              refine Held.AnyS.done (by kernel_rfl) ?_ _
              have hb5s := HB5.out.size
              have HNE6 := Lib.hid (show (Value.slice (some ⟨g, 0, none⟩) ps.length cp).ownBlock ≠ (Value.slice Ar rs.length cr).ownBlock from fun e' => by
                have hz : ∃ z, (Value.slice (some ⟨g, 0, none⟩) ps.length cp).ownBlock = some z := ⟨g, rfl⟩
                obtain ⟨z, hz⟩ := hz
                have h1 := HLT.out z hz
                have h2 := own_base HOR5.out z (e'.symm.trans hz)
                omega)
              go_simp
              go_wp2_with (first | (at_builtin; refine print_append_cells (w0 := w3) w3.heap.size rfl (.tmp 82) (.tmp 84) 29 35 (.agg #[(.string ⟨#[]⟩), (.string ⟨#[]⟩), (.int .i64 0)]) 3 40 rfl Try.underlying29 (by kernel_rfl) rfl (by omega) (by omega) (.slice Ar rs.length cr) rs.length (pflat rs) [.string p.val.f0, .string p.val.f1, .int .i64 p.val.f2] rfl (by first | (go_simp; done) | (go_simp; rfl)) rfl ?h1 ?hO ?hB ?hs ?hl ?_; (case h1 => intro u hu; simp at hu; rcases hu with rfl | rfl | rfl <;> rfl); (case hO => exact HOR5.out); (case hB => exact HB5.out); (case hs => exact HB5.out.size); (case hl => omega); intro v6 w6 hown hb6 hgr hat; have HO6 := Lib.hid hown; have HB6 := Lib.hid hb6; have HA16 := Lib.hid (HH4.out.grown hgr (has_ne_own HH4.out HOR5.out)); have HA26 := Lib.hid (HH5.out.grown hgr (has_ne_own HH5.out HOR5.out)); have HOQ6 := Lib.hid (HOQ5.out.kept hgr (.inr HNE6.out)); clear hown hb6 hgr hat))
              exact ⟨⟨k + 1, rs ++ [p], _, _, by simp, ck, by simp; omega, HA16, HA26, Lib.hid (by rw [List.length_append, pflat_snoc]; exact HO6.out), HOQ6, HST, HB6⟩, by simp [intOf]; omega⟩
        · have db : decide ((k : Int) < (ps.length : Int)) = false := decide_eq_false (by omega)
          have db' : decide (k < ps.length) = false := decide_eq_false ck
          obtain rfl : k = ps.length := by omega
          have HGR := Lib.hid (show vals rs = greedy (sortB (candL (filesL l0) (filesL l1) t)) by
            have h1 := HG.out
            rw [List.take_of_length_le (by rw [vals_length]; omega), HSQ.out] at h1
            unfold greedy
            rw [h1])
          have eg19 : ∀ args w, (callFunc 19 args).run Try.prog w = .ok (.enter 19 args) w := enters_of Try.func19 (by kernel_rfl) rfl
          have SR := Lib.hid (sort_run 19 eg19 firstC first_run (swo_of first_ok) w3.heap.size (.slice Ar rs.length cr) rs wr HOR.out (by omega))
          have hsb := HB.out.size
          clear HG eg19 HA1 HA2 HOQ
          go_wp2_with fail
          refine SR.out.mono ?_
          rintro e w7 ⟨rfl, ts, hperm, hsort, hown, w7', hb7, hg7⟩
          have HT7 := Lib.hid (show vals ts = R by
            rw [HRR.out]
            unfold pairsL
            rw [← HGR.out]
            exact sortT_of hperm hsort (by have := greedy_nodup (sortB (candL (filesL l0) (filesL l1) t)); rw [← HGR.out] at this; exact this))
          have hb7s := hb7.size
          have HB7 := Lib.hid ((HB3.out.trans ((HB.out.trans (hb7.mono hsb)).mono hb3s)).grown hg7 (by omega) (fun k hk => Nat.le_trans hb3s (own_base HOR.out k hk)))
          have HO7 := Lib.hid (own_less hown hb3s)
          have hln := hperm.length_eq
          clear hperm hsort hown hb7 hg7
          go_wp2_with fail
          go_ret
          exact ⟨_, ts, rfl, HT7.out, HO7.out, HB7.out⟩
end
end Go.Proofs.Ytcgnkbdfoaiaiaa.P
end
section
/- rename.Pairs: its contract, as the print asks for it. -/
set_option linter.unusedVariables false
set_option linter.unusedSimpArgs false
namespace Go.Proofs.Ytcgnkbdfoaiaiaa.P
open Go Go.RowKit Go.Proofs.YtcgnkbdfoaiaiaaW.PrintWords Go.Proofs.YtcgnkbdfoaiaiaaW.PrintLast Go.Proofs.YtcgnkbdfoaiaiaaW.PrintMore Go.Proofs.Ytcgnkbdfoaiaiaa.Q
def rename_Pairs.f (l0 l1 : List S33) (t : Int) : Option (List S35) := if PairsOk l0 ∧ PairsOk l1 then some (pairsL l0 l1 t) else none
theorem reps_pflat (w : World) (base : Nat) (ok : Nat → Prop) (ps : List Pr) : Reps (k35.M w base ok) 3 (vals ps) (pflat ps) := by
  induction ps with
  | nil => exact Reps.none _ _
  | cons p ps ih =>
    have h1 : Reps (k35.M w base ok) 3 [p.val] (encP p) := Reps.snoc (Reps.none _ _) (k35_mkM w base ok p.val) rfl
    have h2 := Kd.reps_append h1 ih
    have e : pflat (p :: ps) = encP p ++ pflat ps := by simp [pflat]
    rw [e]
    exact h2
theorem rename_Pairs.calls (A0 : Option Addr) (c0 : Nat) (l0 : List S33) (A1 : Option Addr) (c1 : Nat) (l1 : List S33) (t : Int) (r : List S35) (w : World) (hr0 : Kd.C k33 w A0 l0.length l0) (hc0 : l0.length ≤ c0) (hr1 : Kd.C k33 w A1 l1.length l1) (hc1 : l1.length ≤ c1) (h : rename_Pairs.f l0 l1 t = some r) :
    Calls Try.prog 11 #[.slice A0 l0.length c0, .slice A1 l1.length c1, .int .i64 t] w fun e w' => ∃ v0_ : Value, e = .returned (v0_) ∧ Kd.R k35 35 w' w.heap.size (fun _ => True) v0_ r ∧ Below w.heap.size w w' := by
  unfold rename_Pairs.f at h
  split at h
  · rename_i hh
    obtain rfl := Option.some.inj h
    refine (pairs_run A0 c0 l0 A1 c1 l1 t w hr0 hc0 hr1 hc1 hh.1 hh.2).mono ?_
    rintro e w' ⟨v, ps, rfl, hv, ho, hb⟩
    refine ⟨v, rfl, ⟨fun _ _ => trivial, pflat ps, ?_, ?_⟩, hb⟩
    · rw [← hv, vals_length]; exact ho
    · rw [← hv]; exact reps_pflat _ _ _ ps
  · cases h
end Go.Proofs.Ytcgnkbdfoaiaiaa.P
end
section
/- Laid for this claim by hp.py, this session's program round the kit's print: functions of the program as plain Lean functions, the proofs that the code comes to their answers, and the rows of the laws. Not trusted: Lean checks it. -/
namespace Go.Proofs.Ytcgnkbdfoaiaiaa.P
open Go.RowKit Go.Proofs.YtcgnkbdfoaiaiaaW.PrintWords Go.Proofs.YtcgnkbdfoaiaiaaW.PrintLast Go.Proofs.YtcgnkbdfoaiaiaaW.PrintMore
attribute [local go_sem] max2_int min2_int max_two min_two max_three min_three max_four min_four   -- for this text's walks alone
set_option linter.unusedVariables false
set_option linter.unusedSimpArgs false

/-! ### collatorlaw08_awake: function 7 -/
def collatorlaw08_awake.f (k : Nat)  : Option (Bool) := (some (([(⟨(⟨#[97]⟩ : ByteArray), 2, (⟨#[120, 10, 121, 10]⟩ : ByteArray), false⟩ : S33), (⟨(⟨#[98]⟩ : ByteArray), 2, (⟨#[120, 10]⟩ : ByteArray), false⟩ : S33)] : List (S33)) : List (S33))).bind fun y103 => ((some (([(⟨(⟨#[99]⟩ : ByteArray), 2, (⟨#[120, 10, 121, 10]⟩ : ByteArray), false⟩ : S33)] : List (S33)) : List (S33))).bind fun y106 => ((rename_Pairs.f y103 y106 50).bind fun t109 => ((collatorref08_Same.f k t109 (([(⟨(⟨#[97]⟩ : ByteArray), (⟨#[99]⟩ : ByteArray), 100⟩ : S35)] : List (S35)))).bind fun t115 => (if t115 = true then ((rename_Pairs.f y103 y106 101).bind fun t116 => (if (t116.length : Int) = 0 then ((rename_Pairs.f ([] : List (S33)) y106 0).bind fun t119 => (some ((t119.length : Int) == 0))) else (some false))) else (some false)))))
theorem collatorlaw08_awake.mono : ∀ k, LeO (collatorlaw08_awake.f k ) (collatorlaw08_awake.f (k + 1) ) := by
 intro  k
 unfold collatorlaw08_awake.f
 repeat' first
   | (with_reducible exact collatorref08_Same.mono _ _ _)
   | (with_reducible exact LeO.refl _)
   | (with_reducible exact LeO.none _)
   | (with_reducible refine LeO.ite ?_ ?_)
   | (with_reducible refine LeO.bind ?_ (fun _ => ?_))
   | exact collatorref08_Same.mono _ _ _
   | exact LeO.none _
   | refine LeO.ite ?_ ?_
   | refine LeO.bind ?_ (fun _ => ?_)
set_option maxHeartbeats 8000000 in
set_option maxRecDepth 100000 in
theorem collatorlaw08_awake.calls (k : Nat)  (r : Bool) (w : World) (h : collatorlaw08_awake.f k  = some r) :
  Calls Try.prog 7 #[] w fun e w' => e = .returned (.bool r) ∧ Below w.heap.size w w' := by
 have hu33 := Try.underlying33
 have hu35 := Try.underlying35
 have HB := Aside0.mk (Below.refl w.heap.size w)
 have H : ((some (([(⟨(⟨#[97]⟩ : ByteArray), 2, (⟨#[120, 10, 121, 10]⟩ : ByteArray), false⟩ : S33), (⟨(⟨#[98]⟩ : ByteArray), 2, (⟨#[120, 10]⟩ : ByteArray), false⟩ : S33)] : List (S33)) : List (S33))).bind fun y103 => ((some (([(⟨(⟨#[99]⟩ : ByteArray), 2, (⟨#[120, 10, 121, 10]⟩ : ByteArray), false⟩ : S33)] : List (S33)) : List (S33))).bind fun y106 => ((rename_Pairs.f y103 y106 50).bind fun t109 => ((collatorref08_Same.f k t109 (([(⟨(⟨#[97]⟩ : ByteArray), (⟨#[99]⟩ : ByteArray), 100⟩ : S35)] : List (S35)))).bind fun t115 => (if t115 = true then ((rename_Pairs.f y103 y106 101).bind fun t116 => (if (t116.length : Int) = 0 then ((rename_Pairs.f ([] : List (S33)) y106 0).bind fun t119 => (some ((t119.length : Int) == 0))) else (some false))) else (some false)))))) = some r := h
 clear h
 obtain ⟨y103, hy103⟩ : ∃ y_ : List (S33), y_ = (([(⟨(⟨#[97]⟩ : ByteArray), 2, (⟨#[120, 10, 121, 10]⟩ : ByteArray), false⟩ : S33), (⟨(⟨#[98]⟩ : ByteArray), 2, (⟨#[120, 10]⟩ : ByteArray), false⟩ : S33)] : List (S33))) := ⟨_, rfl⟩
 replace H : ((some (([(⟨(⟨#[99]⟩ : ByteArray), 2, (⟨#[120, 10, 121, 10]⟩ : ByteArray), false⟩ : S33)] : List (S33)) : List (S33))).bind fun y106 => ((rename_Pairs.f y103 y106 50).bind fun t109 => ((collatorref08_Same.f k t109 (([(⟨(⟨#[97]⟩ : ByteArray), (⟨#[99]⟩ : ByteArray), 100⟩ : S35)] : List (S35)))).bind fun t115 => (if t115 = true then ((rename_Pairs.f y103 y106 101).bind fun t116 => (if (t116.length : Int) = 0 then ((rename_Pairs.f ([] : List (S33)) y106 0).bind fun t119 => (some ((t119.length : Int) == 0))) else (some false))) else (some false))))) = some r := by first | (rw [hy103]; with_reducible exact H) | (have H2_ := (Option.bind_some _ _).symm.trans H; rw [hy103]; with_reducible exact H2_) | (have H2_ := (Option.bind_some _ _).symm.trans H; with_reducible exact H2_) | with_reducible exact H | (rw [hy103]; exact H) | exact H
 have Ny103 := Aside0.mk hy103
 clear hy103
 obtain ⟨y106, hy106⟩ : ∃ y_ : List (S33), y_ = (([(⟨(⟨#[99]⟩ : ByteArray), 2, (⟨#[120, 10, 121, 10]⟩ : ByteArray), false⟩ : S33)] : List (S33))) := ⟨_, rfl⟩
 replace H : ((rename_Pairs.f y103 y106 50).bind fun t109 => ((collatorref08_Same.f k t109 (([(⟨(⟨#[97]⟩ : ByteArray), (⟨#[99]⟩ : ByteArray), 100⟩ : S35)] : List (S35)))).bind fun t115 => (if t115 = true then ((rename_Pairs.f y103 y106 101).bind fun t116 => (if (t116.length : Int) = 0 then ((rename_Pairs.f ([] : List (S33)) y106 0).bind fun t119 => (some ((t119.length : Int) == 0))) else (some false))) else (some false)))) = some r := by first | (rw [hy106]; with_reducible exact H) | (have H2_ := (Option.bind_some _ _).symm.trans H; rw [hy106]; with_reducible exact H2_) | (have H2_ := (Option.bind_some _ _).symm.trans H; with_reducible exact H2_) | with_reducible exact H | (rw [hy106]; exact H) | exact H
 have Ny106 := Aside0.mk hy106
 clear hy106
 replace H := Option.bind_eq_some_iff.mp H
 obtain ⟨t109, A10, H⟩ := H
 replace H : ((collatorref08_Same.f k t109 (([(⟨(⟨#[97]⟩ : ByteArray), (⟨#[99]⟩ : ByteArray), 100⟩ : S35)] : List (S35)))).bind fun t115 => (if t115 = true then ((rename_Pairs.f y103 y106 101).bind fun t116 => (if (t116.length : Int) = 0 then ((rename_Pairs.f ([] : List (S33)) y106 0).bind fun t119 => (some ((t119.length : Int) == 0))) else (some false))) else (some false))) = some r := H
 have A1 := Aside0.mk A10
 clear A10
 obtain ⟨y112, hy112⟩ : ∃ y_ : List (S35), y_ = (([(⟨(⟨#[97]⟩ : ByteArray), (⟨#[99]⟩ : ByteArray), 100⟩ : S35)] : List (S35))) := ⟨_, rfl⟩
 replace H : ((collatorref08_Same.f k t109 y112).bind fun t115 => (if t115 = true then ((rename_Pairs.f y103 y106 101).bind fun t116 => (if (t116.length : Int) = 0 then ((rename_Pairs.f ([] : List (S33)) y106 0).bind fun t119 => (some ((t119.length : Int) == 0))) else (some false))) else (some false))) = some r := by first | (rw [hy112]; with_reducible exact H) | (have H2_ := (Option.bind_some _ _).symm.trans H; rw [hy112]; with_reducible exact H2_) | (have H2_ := (Option.bind_some _ _).symm.trans H; with_reducible exact H2_) | with_reducible exact H | (rw [hy112]; exact H) | exact H
 have Ny112 := Aside0.mk hy112
 clear hy112
 replace H := Option.bind_eq_some_iff.mp H
 obtain ⟨t115, A20, H⟩ := H
 replace H : (if t115 = true then ((rename_Pairs.f y103 y106 101).bind fun t116 => (if (t116.length : Int) = 0 then ((rename_Pairs.f ([] : List (S33)) y106 0).bind fun t119 => (some ((t119.length : Int) == 0))) else (some false))) else (some false)) = some r := H
 have A2 := Aside0.mk A20
 clear A20
 by_cases c3 : t115 = true
 ·subst c3
  have H1 : ((rename_Pairs.f y103 y106 101).bind fun t116 => (if (t116.length : Int) = 0 then ((rename_Pairs.f ([] : List (S33)) y106 0).bind fun t119 => (some ((t119.length : Int) == 0))) else (some false))) = some r := by rw [if_pos rfl] at H; exact H
  clear H
  have H := H1
  clear H1
  replace H := Option.bind_eq_some_iff.mp H
  obtain ⟨t116, A40, H⟩ := H
  replace H : (if (t116.length : Int) = 0 then ((rename_Pairs.f ([] : List (S33)) y106 0).bind fun t119 => (some ((t119.length : Int) == 0))) else (some false)) = some r := H
  have A4 := Aside0.mk A40
  clear A40
  by_cases c5 : (t116.length : Int) = 0
  ·rw [if_pos c5] at H
   have c5b0 : ((t116.length : Int) == 0) = true := beq_iff_eq.mpr c5
   have c5b1 : ((t116.length : Int) != 0) = false := bne_eq_false_iff_eq.mpr c5
   clear c5
   replace H := Option.bind_eq_some_iff.mp H
   obtain ⟨t119, A60, H⟩ := H
   replace H : (some ((t119.length : Int) == 0)) = some r := H
   have A6 := Aside0.mk A60
   clear A60
   obtain rfl := Option.some.inj H
   go_enter Try.func7, Try.ntmps7
   go_wp2_with (first | ((with_reducible refine gate_dst (N := 5) rfl ?_); (try (refine gate_guard (by rfl) ?_; dsimp only)); refine Kd.R_lit k33 _ 33 ?hg (N := 5) ?hd (xs := ([(⟨(⟨#[97]⟩ : ByteArray), 2, (⟨#[120, 10, 121, 10]⟩ : ByteArray), false⟩ : S33), (⟨(⟨#[98]⟩ : ByteArray), 2, (⟨#[120, 10]⟩ : ByteArray), false⟩ : S33)] : List (S33))) (inner := [.string (⟨#[97]⟩ : ByteArray), .int .i64 2, .string (⟨#[120, 10, 121, 10]⟩ : ByteArray), .bool false, .string (⟨#[98]⟩ : ByteArray), .int .i64 2, .string (⟨#[120, 10]⟩ : ByteArray), .bool false]) (ok := fun _ => True) (okp := fun _ => True) ?hr ?hp (fun _ hk => hk) trivial (Below.refl _ _) (Nat.le_refl _) (by simp) ?_; (case hd => rfl); (case hg => rfl); (case hr => first | (go_simp; done) | (go_simp; rfl)); (case hp => exact (Reps.c4 (show Kd.M k33 _ _ _ (⟨(⟨#[97]⟩ : ByteArray), 2, (⟨#[120, 10, 121, 10]⟩ : ByteArray), false⟩ : S33) [.string (⟨#[97]⟩ : ByteArray), .int .i64 2, .string (⟨#[120, 10, 121, 10]⟩ : ByteArray), .bool false] from (k33_mkM _ _ _ (⟨(⟨#[97]⟩ : ByteArray), 2, (⟨#[120, 10, 121, 10]⟩ : ByteArray), false⟩ : S33) )) (Reps.c4 (show Kd.M k33 _ _ _ (⟨(⟨#[98]⟩ : ByteArray), 2, (⟨#[120, 10]⟩ : ByteArray), false⟩ : S33) [.string (⟨#[98]⟩ : ByteArray), .int .i64 2, .string (⟨#[120, 10]⟩ : ByteArray), .bool false] from (k33_mkM _ _ _ (⟨(⟨#[98]⟩ : ByteArray), 2, (⟨#[120, 10]⟩ : ByteArray), false⟩ : S33) )) (Reps.none _ _)))); intro v104 w7 ho8 hb hg_ hnew_; clear hg_ hnew_; (first | rw [← Ny103.out] at ho8 | (simp only [Int.reduceToNat] at ho8; rw [← Ny103.out] at ho8)); have n0_ := Aside0.mk (Kd.R_lower ho8 (below_size (by repeat (first | (with_reducible first | exact HB.out | apply below_alloc | apply pw_below_drewN | apply below_drew1) | exact HB.out)))); have n1_ := Aside0.mk (below_step (by repeat (first | (with_reducible first | exact HB.out | apply below_alloc | apply pw_below_drewN | apply below_drew1) | exact HB.out)) hb); clear HB; have HO105 := n0_; have HB := n1_; clear n0_ n1_; clear hb ho8) | ((with_reducible refine gate_dst (N := 7) rfl ?_); (try (refine gate_guard (by rfl) ?_; dsimp only)); refine Kd.R_lit k33 _ 33 ?hg (N := 7) ?hd (xs := ([(⟨(⟨#[99]⟩ : ByteArray), 2, (⟨#[120, 10, 121, 10]⟩ : ByteArray), false⟩ : S33)] : List (S33))) (inner := [.string (⟨#[99]⟩ : ByteArray), .int .i64 2, .string (⟨#[120, 10, 121, 10]⟩ : ByteArray), .bool false]) (ok := fun _ => True) (okp := fun _ => True) ?hr ?hp (fun _ hk => hk) trivial (Below.refl _ _) (Nat.le_refl _) (by simp) ?_; (case hd => rfl); (case hg => rfl); (case hr => first | (go_simp; done) | (go_simp; rfl)); (case hp => exact (Reps.c4 (show Kd.M k33 _ _ _ (⟨(⟨#[99]⟩ : ByteArray), 2, (⟨#[120, 10, 121, 10]⟩ : ByteArray), false⟩ : S33) [.string (⟨#[99]⟩ : ByteArray), .int .i64 2, .string (⟨#[120, 10, 121, 10]⟩ : ByteArray), .bool false] from (k33_mkM _ _ _ (⟨(⟨#[99]⟩ : ByteArray), 2, (⟨#[120, 10, 121, 10]⟩ : ByteArray), false⟩ : S33) )) (Reps.none _ _))); intro v107 w9 ho10 hb hg_ hnew_; clear hg_ hnew_; (first | rw [← Ny106.out] at ho10 | (simp only [Int.reduceToNat] at ho10; rw [← Ny106.out] at ho10)); have n0_ := Aside0.mk (Kd.R_elder' (by (with_reducible repeat (first | apply Kd.R_alloc | apply Kd.R_drewN | apply Kd.R_drew)); exact HO105.out) (Kd.R_base ho10) hb); have n1_ := Aside0.mk (Kd.R_lower (Kd.R_new' ho10 (Kd.R_lt (by (with_reducible repeat (first | apply Kd.R_alloc | apply Kd.R_drewN | apply Kd.R_drew)); exact HO105.out))) (below_size (by repeat (first | (with_reducible first | exact HB.out | apply below_alloc | apply pw_below_drewN | apply below_drew1) | exact HB.out)))); have n2_ := Aside0.mk (below_step (by repeat (first | (with_reducible first | exact HB.out | apply below_alloc | apply pw_below_drewN | apply below_drew1) | exact HB.out)) hb); clear HO105; clear HB; have HO105 := n0_; have HO108 := n1_; have HB := n2_; clear n0_ n1_ n2_; clear hb ho10; (try (obtain ⟨Ao11, co11, eo11⟩ := Kd.R_slice HO105.out; subst eo11)); (try (obtain ⟨Ao12, co12, eo12⟩ := Kd.R_slice HO108.out; subst eo12))) | ((with_reducible refine gate_callee (f := 11) rfl ?_); refine goesL_ _ rfl rfl Try.func11 (by kernel_rfl) rfl #[.slice Ao11 y103.length co11, .slice Ao12 y106.length co12, .int .i64 50] rfl (by (try simp only [List.map_toArray, List.map_cons, List.map_nil]); first | done | rfl | (simp only [List.length_drop, List.length_take]; rfl)) ?_; (with_reducible refine (rename_Pairs.calls _ _ y103 _ _ y106 50 t109 _ ?side1 ?side2 ?side3 ?side4 A1.out).mono ?_); (case side1 => repeat (first | exact (Kd.R_reads' HO105.out).2.2 | (with_reducible refine Kd.C_alloc ?_ _) | (with_reducible refine Kd.C_drewN ?_ _) | (with_reducible refine Kd.C_drew ?_))); (case side2 => exact (Kd.R_reads' HO105.out).2.1); (case side3 => repeat (first | exact (Kd.R_reads' HO108.out).2.2 | (with_reducible refine Kd.C_alloc ?_ _) | (with_reducible refine Kd.C_drewN ?_ _) | (with_reducible refine Kd.C_drew ?_))); (case side4 => exact (Kd.R_reads' HO108.out).2.1); rintro e w13 ⟨v110, rfl, ho0, hb⟩; refine ⟨_, rfl, ?_⟩; have n0_ := Aside0.mk (Kd.R_below (by (with_reducible repeat (first | apply Kd.R_alloc | apply Kd.R_drewN | apply Kd.R_drew)); exact HO105.out) hb); have n1_ := Aside0.mk (Kd.R_below (by (with_reducible repeat (first | apply Kd.R_alloc | apply Kd.R_drewN | apply Kd.R_drew)); exact HO108.out) hb); have n2_ := Aside0.mk (Kd.R_lower ho0 (below_size (by repeat (first | (with_reducible first | exact HB.out | apply below_alloc | apply pw_below_drewN | apply below_drew1) | exact HB.out)))); have n3_ := Aside0.mk (below_step (by repeat (first | (with_reducible first | exact HB.out | apply below_alloc | apply pw_below_drewN | apply below_drew1) | exact HB.out)) hb); clear HO105; clear HO108; clear HB; have HO105 := n0_; have HO108 := n1_; have HO111 := n2_; have HB := n3_; clear n0_ n1_ n2_ n3_; (try clear hb); (try clear hb2); (try clear hk); (try clear hi); (try clear ho0)) | ((with_reducible refine gate_dst (N := 12) rfl ?_); (try (refine gate_guard (by rfl) ?_; dsimp only)); refine Kd.R_lit k35 _ 35 ?hg (N := 12) ?hd (xs := ([(⟨(⟨#[97]⟩ : ByteArray), (⟨#[99]⟩ : ByteArray), 100⟩ : S35)] : List (S35))) (inner := [.string (⟨#[97]⟩ : ByteArray), .string (⟨#[99]⟩ : ByteArray), .int .i64 100]) (ok := fun _ => True) (okp := fun _ => True) ?hr ?hp (fun _ hk => hk) trivial (Below.refl _ _) (Nat.le_refl _) (by simp) ?_; (case hd => rfl); (case hg => rfl); (case hr => first | (go_simp; done) | (go_simp; rfl)); (case hp => exact (Reps.c3 (show Kd.M k35 _ _ _ (⟨(⟨#[97]⟩ : ByteArray), (⟨#[99]⟩ : ByteArray), 100⟩ : S35) [.string (⟨#[97]⟩ : ByteArray), .string (⟨#[99]⟩ : ByteArray), .int .i64 100] from (k35_mkM _ _ _ (⟨(⟨#[97]⟩ : ByteArray), (⟨#[99]⟩ : ByteArray), 100⟩ : S35) )) (Reps.none _ _))); intro v113 w14 ho15 hb hg_ hnew_; clear hg_ hnew_; (first | rw [← Ny112.out] at ho15 | (simp only [Int.reduceToNat] at ho15; rw [← Ny112.out] at ho15)); have n0_ := Aside0.mk (Kd.R_below (by (with_reducible repeat (first | apply Kd.R_alloc | apply Kd.R_drewN | apply Kd.R_drew)); exact HO105.out) hb); have n1_ := Aside0.mk (Kd.R_below (by (with_reducible repeat (first | apply Kd.R_alloc | apply Kd.R_drewN | apply Kd.R_drew)); exact HO108.out) hb); have n2_ := Aside0.mk (Kd.R_elder' (by (with_reducible repeat (first | apply Kd.R_alloc | apply Kd.R_drewN | apply Kd.R_drew)); exact HO111.out) (Kd.R_base ho15) hb); have n3_ := Aside0.mk (Kd.R_lower (Kd.R_new' ho15 (Kd.R_lt (by (with_reducible repeat (first | apply Kd.R_alloc | apply Kd.R_drewN | apply Kd.R_drew)); exact HO111.out))) (below_size (by repeat (first | (with_reducible first | exact HB.out | apply below_alloc | apply pw_below_drewN | apply below_drew1) | exact HB.out)))); have n4_ := Aside0.mk (below_step (by repeat (first | (with_reducible first | exact HB.out | apply below_alloc | apply pw_below_drewN | apply below_drew1) | exact HB.out)) hb); clear HO105; clear HO108; clear HO111; clear HB; have HO105 := n0_; have HO108 := n1_; have HO111 := n2_; have HO114 := n3_; have HB := n4_; clear n0_ n1_ n2_ n3_ n4_; clear hb ho15; (try (obtain ⟨Ao16, co16, eo16⟩ := Kd.R_slice HO111.out; subst eo16)); (try (obtain ⟨Ao17, co17, eo17⟩ := Kd.R_slice HO114.out; subst eo17))) | ((with_reducible refine gate_callee (f := 10) rfl ?_); refine goesL_ _ rfl rfl Try.func10 (by kernel_rfl) rfl #[.slice Ao16 t109.length co16, .slice Ao17 y112.length co17] rfl (by (try simp only [List.map_toArray, List.map_cons, List.map_nil]); first | done | rfl | (simp only [List.length_drop, List.length_take]; rfl)) ?_; (with_reducible refine (collatorref08_Same.calls k _ _ t109 _ _ y112 true _ ?side1 ?side2 ?side3 ?side4 A2.out).mono ?_); (case side1 => repeat (first | exact (Kd.R_reads' HO111.out).2.2 | (with_reducible refine Kd.C_alloc ?_ _) | (with_reducible refine Kd.C_drewN ?_ _) | (with_reducible refine Kd.C_drew ?_))); (case side2 => exact (Kd.R_reads' HO111.out).2.1); (case side3 => repeat (first | exact (Kd.R_reads' HO114.out).2.2 | (with_reducible refine Kd.C_alloc ?_ _) | (with_reducible refine Kd.C_drewN ?_ _) | (with_reducible refine Kd.C_drew ?_))); (case side4 => exact (Kd.R_reads' HO114.out).2.1); rintro e w' ⟨rfl, ⟨nd, rfl⟩⟩; refine ⟨_, rfl, ?_⟩) | (go_at_call 11; (with_reducible refine (rename_Pairs.calls _ _ y103 _ _ y106 101 t116 _ ?side1 ?side2 ?side3 ?side4 A4.out).mono ?_); (case side1 => repeat (first | exact (Kd.R_reads' HO105.out).2.2 | (with_reducible refine Kd.C_alloc ?_ _) | (with_reducible refine Kd.C_drewN ?_ _) | (with_reducible refine Kd.C_drew ?_))); (case side2 => exact (Kd.R_reads' HO105.out).2.1); (case side3 => repeat (first | exact (Kd.R_reads' HO108.out).2.2 | (with_reducible refine Kd.C_alloc ?_ _) | (with_reducible refine Kd.C_drewN ?_ _) | (with_reducible refine Kd.C_drew ?_))); (case side4 => exact (Kd.R_reads' HO108.out).2.1); rintro e w18 ⟨v117, rfl, ho0, hb⟩; have n0_ := Aside0.mk (Kd.R_below (by (with_reducible repeat (first | apply Kd.R_alloc | apply Kd.R_drewN | apply Kd.R_drew)); exact HO105.out) hb); have n1_ := Aside0.mk (Kd.R_below (by (with_reducible repeat (first | apply Kd.R_alloc | apply Kd.R_drewN | apply Kd.R_drew)); exact HO108.out) hb); have n2_ := Aside0.mk (Kd.R_elder' (by (with_reducible repeat (first | apply Kd.R_alloc | apply Kd.R_drewN | apply Kd.R_drew)); exact HO111.out) (Kd.R_base ho0) hb); have n3_ := Aside0.mk (Kd.R_elder' (by (with_reducible repeat (first | apply Kd.R_alloc | apply Kd.R_drewN | apply Kd.R_drew)); exact HO114.out) (Kd.R_base ho0) hb); have n4_ := Aside0.mk (Kd.R_lower (Kd.R_new' (Kd.R_new' ho0 (Kd.R_lt (by (with_reducible repeat (first | apply Kd.R_alloc | apply Kd.R_drewN | apply Kd.R_drew)); exact HO111.out))) (Kd.R_lt (by (with_reducible repeat (first | apply Kd.R_alloc | apply Kd.R_drewN | apply Kd.R_drew)); exact HO114.out))) (below_size (by repeat (first | (with_reducible first | exact HB.out | apply below_alloc | apply pw_below_drewN | apply below_drew1) | exact HB.out)))); have n5_ := Aside0.mk (below_step (by repeat (first | (with_reducible first | exact HB.out | apply below_alloc | apply pw_below_drewN | apply below_drew1) | exact HB.out)) hb); clear HO105; clear HO108; clear HO111; clear HO114; clear HB; have HO105 := n0_; have HO108 := n1_; have HO111 := n2_; have HO114 := n3_; have HO118 := n4_; have HB := n5_; clear n0_ n1_ n2_ n3_ n4_ n5_; (try clear hb); (try clear hb2); (try clear hk); (try clear hi); (try clear ho0); (try (obtain ⟨Ao19, co19, eo19⟩ := Kd.R_slice HO118.out; subst eo19))) | (go_at_call 11; (refine (rename_Pairs.calls _ _ ([] : List (S33)) _ _ y106 0 t119 _ ?side1 ?side2 ?side3 ?side4 A6.out).mono ?_); (case side1 => exact Kd.C_nil _ _); (case side2 => exact Nat.le_refl _); (case side3 => repeat (first | exact (Kd.R_reads' HO108.out).2.2 | (with_reducible refine Kd.C_alloc ?_ _) | (with_reducible refine Kd.C_drewN ?_ _) | (with_reducible refine Kd.C_drew ?_))); (case side4 => exact (Kd.R_reads' HO108.out).2.1); rintro e w20 ⟨v120, rfl, ho0, hb⟩; have n0_ := Aside0.mk (Kd.R_below (by (with_reducible repeat (first | apply Kd.R_alloc | apply Kd.R_drewN | apply Kd.R_drew)); exact HO105.out) hb); have n1_ := Aside0.mk (Kd.R_below (by (with_reducible repeat (first | apply Kd.R_alloc | apply Kd.R_drewN | apply Kd.R_drew)); exact HO108.out) hb); have n2_ := Aside0.mk (Kd.R_elder' (by (with_reducible repeat (first | apply Kd.R_alloc | apply Kd.R_drewN | apply Kd.R_drew)); exact HO111.out) (Kd.R_base ho0) hb); have n3_ := Aside0.mk (Kd.R_elder' (by (with_reducible repeat (first | apply Kd.R_alloc | apply Kd.R_drewN | apply Kd.R_drew)); exact HO114.out) (Kd.R_base ho0) hb); have n4_ := Aside0.mk (Kd.R_elder' (by (with_reducible repeat (first | apply Kd.R_alloc | apply Kd.R_drewN | apply Kd.R_drew)); exact HO118.out) (Kd.R_base ho0) hb); have n5_ := Aside0.mk (Kd.R_lower (Kd.R_new' (Kd.R_new' (Kd.R_new' ho0 (Kd.R_lt (by (with_reducible repeat (first | apply Kd.R_alloc | apply Kd.R_drewN | apply Kd.R_drew)); exact HO111.out))) (Kd.R_lt (by (with_reducible repeat (first | apply Kd.R_alloc | apply Kd.R_drewN | apply Kd.R_drew)); exact HO114.out))) (Kd.R_lt (by (with_reducible repeat (first | apply Kd.R_alloc | apply Kd.R_drewN | apply Kd.R_drew)); exact HO118.out))) (below_size (by repeat (first | (with_reducible first | exact HB.out | apply below_alloc | apply pw_below_drewN | apply below_drew1) | exact HB.out)))); have n6_ := Aside0.mk (below_step (by repeat (first | (with_reducible first | exact HB.out | apply below_alloc | apply pw_below_drewN | apply below_drew1) | exact HB.out)) hb); clear HO105; clear HO108; clear HO111; clear HO114; clear HO118; clear HB; have HO105 := n0_; have HO108 := n1_; have HO111 := n2_; have HO114 := n3_; have HO118 := n4_; have HO121 := n5_; have HB := n6_; clear n0_ n1_ n2_ n3_ n4_ n5_ n6_; (try clear hb); (try clear hb2); (try clear hk); (try clear hi); (try clear ho0); (try (obtain ⟨Ao21, co21, eo21⟩ := Kd.R_slice HO121.out; subst eo21))))
   go_ret
   exact ⟨by first | rfl | (simp [errW_none, errW_some] <;> rfl) | (simp [*, errW_none, errW_some] <;> rfl), by repeat (first | (with_reducible first | exact HB.out | apply below_alloc | apply pw_below_drewN | apply below_drew1) | exact HB.out)⟩
  ·rw [if_neg c5] at H
   have c5b0 : ((t116.length : Int) == 0) = false := beq_eq_false_iff_ne.mpr c5
   have c5b1 : ((t116.length : Int) != 0) = true := bne_iff_ne.mpr c5
   have c5b2 : ¬ (t116 = []) := fun h_ => c5 (by rw [h_]; rfl)
   obtain rfl := Option.some.inj H
   go_enter Try.func7, Try.ntmps7
   go_wp2_with (first | ((with_reducible refine gate_dst (N := 5) rfl ?_); (try (refine gate_guard (by rfl) ?_; dsimp only)); refine Kd.R_lit k33 _ 33 ?hg (N := 5) ?hd (xs := ([(⟨(⟨#[97]⟩ : ByteArray), 2, (⟨#[120, 10, 121, 10]⟩ : ByteArray), false⟩ : S33), (⟨(⟨#[98]⟩ : ByteArray), 2, (⟨#[120, 10]⟩ : ByteArray), false⟩ : S33)] : List (S33))) (inner := [.string (⟨#[97]⟩ : ByteArray), .int .i64 2, .string (⟨#[120, 10, 121, 10]⟩ : ByteArray), .bool false, .string (⟨#[98]⟩ : ByteArray), .int .i64 2, .string (⟨#[120, 10]⟩ : ByteArray), .bool false]) (ok := fun _ => True) (okp := fun _ => True) ?hr ?hp (fun _ hk => hk) trivial (Below.refl _ _) (Nat.le_refl _) (by simp) ?_; (case hd => rfl); (case hg => rfl); (case hr => first | (go_simp; done) | (go_simp; rfl)); (case hp => exact (Reps.c4 (show Kd.M k33 _ _ _ (⟨(⟨#[97]⟩ : ByteArray), 2, (⟨#[120, 10, 121, 10]⟩ : ByteArray), false⟩ : S33) [.string (⟨#[97]⟩ : ByteArray), .int .i64 2, .string (⟨#[120, 10, 121, 10]⟩ : ByteArray), .bool false] from (k33_mkM _ _ _ (⟨(⟨#[97]⟩ : ByteArray), 2, (⟨#[120, 10, 121, 10]⟩ : ByteArray), false⟩ : S33) )) (Reps.c4 (show Kd.M k33 _ _ _ (⟨(⟨#[98]⟩ : ByteArray), 2, (⟨#[120, 10]⟩ : ByteArray), false⟩ : S33) [.string (⟨#[98]⟩ : ByteArray), .int .i64 2, .string (⟨#[120, 10]⟩ : ByteArray), .bool false] from (k33_mkM _ _ _ (⟨(⟨#[98]⟩ : ByteArray), 2, (⟨#[120, 10]⟩ : ByteArray), false⟩ : S33) )) (Reps.none _ _)))); intro v104 w22 ho23 hb hg_ hnew_; clear hg_ hnew_; (first | rw [← Ny103.out] at ho23 | (simp only [Int.reduceToNat] at ho23; rw [← Ny103.out] at ho23)); have n0_ := Aside0.mk (Kd.R_lower ho23 (below_size (by repeat (first | (with_reducible first | exact HB.out | apply below_alloc | apply pw_below_drewN | apply below_drew1) | exact HB.out)))); have n1_ := Aside0.mk (below_step (by repeat (first | (with_reducible first | exact HB.out | apply below_alloc | apply pw_below_drewN | apply below_drew1) | exact HB.out)) hb); clear HB; have HO105 := n0_; have HB := n1_; clear n0_ n1_; clear hb ho23) | ((with_reducible refine gate_dst (N := 7) rfl ?_); (try (refine gate_guard (by rfl) ?_; dsimp only)); refine Kd.R_lit k33 _ 33 ?hg (N := 7) ?hd (xs := ([(⟨(⟨#[99]⟩ : ByteArray), 2, (⟨#[120, 10, 121, 10]⟩ : ByteArray), false⟩ : S33)] : List (S33))) (inner := [.string (⟨#[99]⟩ : ByteArray), .int .i64 2, .string (⟨#[120, 10, 121, 10]⟩ : ByteArray), .bool false]) (ok := fun _ => True) (okp := fun _ => True) ?hr ?hp (fun _ hk => hk) trivial (Below.refl _ _) (Nat.le_refl _) (by simp) ?_; (case hd => rfl); (case hg => rfl); (case hr => first | (go_simp; done) | (go_simp; rfl)); (case hp => exact (Reps.c4 (show Kd.M k33 _ _ _ (⟨(⟨#[99]⟩ : ByteArray), 2, (⟨#[120, 10, 121, 10]⟩ : ByteArray), false⟩ : S33) [.string (⟨#[99]⟩ : ByteArray), .int .i64 2, .string (⟨#[120, 10, 121, 10]⟩ : ByteArray), .bool false] from (k33_mkM _ _ _ (⟨(⟨#[99]⟩ : ByteArray), 2, (⟨#[120, 10, 121, 10]⟩ : ByteArray), false⟩ : S33) )) (Reps.none _ _))); intro v107 w24 ho25 hb hg_ hnew_; clear hg_ hnew_; (first | rw [← Ny106.out] at ho25 | (simp only [Int.reduceToNat] at ho25; rw [← Ny106.out] at ho25)); have n0_ := Aside0.mk (Kd.R_elder' (by (with_reducible repeat (first | apply Kd.R_alloc | apply Kd.R_drewN | apply Kd.R_drew)); exact HO105.out) (Kd.R_base ho25) hb); have n1_ := Aside0.mk (Kd.R_lower (Kd.R_new' ho25 (Kd.R_lt (by (with_reducible repeat (first | apply Kd.R_alloc | apply Kd.R_drewN | apply Kd.R_drew)); exact HO105.out))) (below_size (by repeat (first | (with_reducible first | exact HB.out | apply below_alloc | apply pw_below_drewN | apply below_drew1) | exact HB.out)))); have n2_ := Aside0.mk (below_step (by repeat (first | (with_reducible first | exact HB.out | apply below_alloc | apply pw_below_drewN | apply below_drew1) | exact HB.out)) hb); clear HO105; clear HB; have HO105 := n0_; have HO108 := n1_; have HB := n2_; clear n0_ n1_ n2_; clear hb ho25; (try (obtain ⟨Ao26, co26, eo26⟩ := Kd.R_slice HO105.out; subst eo26)); (try (obtain ⟨Ao27, co27, eo27⟩ := Kd.R_slice HO108.out; subst eo27))) | ((with_reducible refine gate_callee (f := 11) rfl ?_); refine goesL_ _ rfl rfl Try.func11 (by kernel_rfl) rfl #[.slice Ao26 y103.length co26, .slice Ao27 y106.length co27, .int .i64 50] rfl (by (try simp only [List.map_toArray, List.map_cons, List.map_nil]); first | done | rfl | (simp only [List.length_drop, List.length_take]; rfl)) ?_; (with_reducible refine (rename_Pairs.calls _ _ y103 _ _ y106 50 t109 _ ?side1 ?side2 ?side3 ?side4 A1.out).mono ?_); (case side1 => repeat (first | exact (Kd.R_reads' HO105.out).2.2 | (with_reducible refine Kd.C_alloc ?_ _) | (with_reducible refine Kd.C_drewN ?_ _) | (with_reducible refine Kd.C_drew ?_))); (case side2 => exact (Kd.R_reads' HO105.out).2.1); (case side3 => repeat (first | exact (Kd.R_reads' HO108.out).2.2 | (with_reducible refine Kd.C_alloc ?_ _) | (with_reducible refine Kd.C_drewN ?_ _) | (with_reducible refine Kd.C_drew ?_))); (case side4 => exact (Kd.R_reads' HO108.out).2.1); rintro e w28 ⟨v110, rfl, ho0, hb⟩; refine ⟨_, rfl, ?_⟩; have n0_ := Aside0.mk (Kd.R_below (by (with_reducible repeat (first | apply Kd.R_alloc | apply Kd.R_drewN | apply Kd.R_drew)); exact HO105.out) hb); have n1_ := Aside0.mk (Kd.R_below (by (with_reducible repeat (first | apply Kd.R_alloc | apply Kd.R_drewN | apply Kd.R_drew)); exact HO108.out) hb); have n2_ := Aside0.mk (Kd.R_lower ho0 (below_size (by repeat (first | (with_reducible first | exact HB.out | apply below_alloc | apply pw_below_drewN | apply below_drew1) | exact HB.out)))); have n3_ := Aside0.mk (below_step (by repeat (first | (with_reducible first | exact HB.out | apply below_alloc | apply pw_below_drewN | apply below_drew1) | exact HB.out)) hb); clear HO105; clear HO108; clear HB; have HO105 := n0_; have HO108 := n1_; have HO111 := n2_; have HB := n3_; clear n0_ n1_ n2_ n3_; (try clear hb); (try clear hb2); (try clear hk); (try clear hi); (try clear ho0)) | ((with_reducible refine gate_dst (N := 12) rfl ?_); (try (refine gate_guard (by rfl) ?_; dsimp only)); refine Kd.R_lit k35 _ 35 ?hg (N := 12) ?hd (xs := ([(⟨(⟨#[97]⟩ : ByteArray), (⟨#[99]⟩ : ByteArray), 100⟩ : S35)] : List (S35))) (inner := [.string (⟨#[97]⟩ : ByteArray), .string (⟨#[99]⟩ : ByteArray), .int .i64 100]) (ok := fun _ => True) (okp := fun _ => True) ?hr ?hp (fun _ hk => hk) trivial (Below.refl _ _) (Nat.le_refl _) (by simp) ?_; (case hd => rfl); (case hg => rfl); (case hr => first | (go_simp; done) | (go_simp; rfl)); (case hp => exact (Reps.c3 (show Kd.M k35 _ _ _ (⟨(⟨#[97]⟩ : ByteArray), (⟨#[99]⟩ : ByteArray), 100⟩ : S35) [.string (⟨#[97]⟩ : ByteArray), .string (⟨#[99]⟩ : ByteArray), .int .i64 100] from (k35_mkM _ _ _ (⟨(⟨#[97]⟩ : ByteArray), (⟨#[99]⟩ : ByteArray), 100⟩ : S35) )) (Reps.none _ _))); intro v113 w29 ho30 hb hg_ hnew_; clear hg_ hnew_; (first | rw [← Ny112.out] at ho30 | (simp only [Int.reduceToNat] at ho30; rw [← Ny112.out] at ho30)); have n0_ := Aside0.mk (Kd.R_below (by (with_reducible repeat (first | apply Kd.R_alloc | apply Kd.R_drewN | apply Kd.R_drew)); exact HO105.out) hb); have n1_ := Aside0.mk (Kd.R_below (by (with_reducible repeat (first | apply Kd.R_alloc | apply Kd.R_drewN | apply Kd.R_drew)); exact HO108.out) hb); have n2_ := Aside0.mk (Kd.R_elder' (by (with_reducible repeat (first | apply Kd.R_alloc | apply Kd.R_drewN | apply Kd.R_drew)); exact HO111.out) (Kd.R_base ho30) hb); have n3_ := Aside0.mk (Kd.R_lower (Kd.R_new' ho30 (Kd.R_lt (by (with_reducible repeat (first | apply Kd.R_alloc | apply Kd.R_drewN | apply Kd.R_drew)); exact HO111.out))) (below_size (by repeat (first | (with_reducible first | exact HB.out | apply below_alloc | apply pw_below_drewN | apply below_drew1) | exact HB.out)))); have n4_ := Aside0.mk (below_step (by repeat (first | (with_reducible first | exact HB.out | apply below_alloc | apply pw_below_drewN | apply below_drew1) | exact HB.out)) hb); clear HO105; clear HO108; clear HO111; clear HB; have HO105 := n0_; have HO108 := n1_; have HO111 := n2_; have HO114 := n3_; have HB := n4_; clear n0_ n1_ n2_ n3_ n4_; clear hb ho30; (try (obtain ⟨Ao31, co31, eo31⟩ := Kd.R_slice HO111.out; subst eo31)); (try (obtain ⟨Ao32, co32, eo32⟩ := Kd.R_slice HO114.out; subst eo32))) | ((with_reducible refine gate_callee (f := 10) rfl ?_); refine goesL_ _ rfl rfl Try.func10 (by kernel_rfl) rfl #[.slice Ao31 t109.length co31, .slice Ao32 y112.length co32] rfl (by (try simp only [List.map_toArray, List.map_cons, List.map_nil]); first | done | rfl | (simp only [List.length_drop, List.length_take]; rfl)) ?_; (with_reducible refine (collatorref08_Same.calls k _ _ t109 _ _ y112 true _ ?side1 ?side2 ?side3 ?side4 A2.out).mono ?_); (case side1 => repeat (first | exact (Kd.R_reads' HO111.out).2.2 | (with_reducible refine Kd.C_alloc ?_ _) | (with_reducible refine Kd.C_drewN ?_ _) | (with_reducible refine Kd.C_drew ?_))); (case side2 => exact (Kd.R_reads' HO111.out).2.1); (case side3 => repeat (first | exact (Kd.R_reads' HO114.out).2.2 | (with_reducible refine Kd.C_alloc ?_ _) | (with_reducible refine Kd.C_drewN ?_ _) | (with_reducible refine Kd.C_drew ?_))); (case side4 => exact (Kd.R_reads' HO114.out).2.1); rintro e w' ⟨rfl, ⟨nd, rfl⟩⟩; refine ⟨_, rfl, ?_⟩) | (go_at_call 11; (with_reducible refine (rename_Pairs.calls _ _ y103 _ _ y106 101 t116 _ ?side1 ?side2 ?side3 ?side4 A4.out).mono ?_); (case side1 => repeat (first | exact (Kd.R_reads' HO105.out).2.2 | (with_reducible refine Kd.C_alloc ?_ _) | (with_reducible refine Kd.C_drewN ?_ _) | (with_reducible refine Kd.C_drew ?_))); (case side2 => exact (Kd.R_reads' HO105.out).2.1); (case side3 => repeat (first | exact (Kd.R_reads' HO108.out).2.2 | (with_reducible refine Kd.C_alloc ?_ _) | (with_reducible refine Kd.C_drewN ?_ _) | (with_reducible refine Kd.C_drew ?_))); (case side4 => exact (Kd.R_reads' HO108.out).2.1); rintro e w33 ⟨v117, rfl, ho0, hb⟩; have n0_ := Aside0.mk (Kd.R_below (by (with_reducible repeat (first | apply Kd.R_alloc | apply Kd.R_drewN | apply Kd.R_drew)); exact HO105.out) hb); have n1_ := Aside0.mk (Kd.R_below (by (with_reducible repeat (first | apply Kd.R_alloc | apply Kd.R_drewN | apply Kd.R_drew)); exact HO108.out) hb); have n2_ := Aside0.mk (Kd.R_elder' (by (with_reducible repeat (first | apply Kd.R_alloc | apply Kd.R_drewN | apply Kd.R_drew)); exact HO111.out) (Kd.R_base ho0) hb); have n3_ := Aside0.mk (Kd.R_elder' (by (with_reducible repeat (first | apply Kd.R_alloc | apply Kd.R_drewN | apply Kd.R_drew)); exact HO114.out) (Kd.R_base ho0) hb); have n4_ := Aside0.mk (Kd.R_lower (Kd.R_new' (Kd.R_new' ho0 (Kd.R_lt (by (with_reducible repeat (first | apply Kd.R_alloc | apply Kd.R_drewN | apply Kd.R_drew)); exact HO111.out))) (Kd.R_lt (by (with_reducible repeat (first | apply Kd.R_alloc | apply Kd.R_drewN | apply Kd.R_drew)); exact HO114.out))) (below_size (by repeat (first | (with_reducible first | exact HB.out | apply below_alloc | apply pw_below_drewN | apply below_drew1) | exact HB.out)))); have n5_ := Aside0.mk (below_step (by repeat (first | (with_reducible first | exact HB.out | apply below_alloc | apply pw_below_drewN | apply below_drew1) | exact HB.out)) hb); clear HO105; clear HO108; clear HO111; clear HO114; clear HB; have HO105 := n0_; have HO108 := n1_; have HO111 := n2_; have HO114 := n3_; have HO118 := n4_; have HB := n5_; clear n0_ n1_ n2_ n3_ n4_ n5_; (try clear hb); (try clear hb2); (try clear hk); (try clear hi); (try clear ho0); (try (obtain ⟨Ao34, co34, eo34⟩ := Kd.R_slice HO118.out; subst eo34))))
   go_ret
   exact ⟨by first | rfl | (simp [errW_none, errW_some] <;> rfl) | (simp [*, errW_none, errW_some] <;> rfl), by repeat (first | (with_reducible first | exact HB.out | apply below_alloc | apply pw_below_drewN | apply below_drew1) | exact HB.out)⟩
 ·replace c3 := Bool.eq_false_iff.mpr c3
  subst c3
  have H1 : (some false) = some r := by rw [if_neg (show ¬ (false = true) by decide)] at H; exact H
  clear H
  have H := H1
  clear H1
  obtain rfl := Option.some.inj H
  go_enter Try.func7, Try.ntmps7
  go_wp2_with (first | ((with_reducible refine gate_dst (N := 5) rfl ?_); (try (refine gate_guard (by rfl) ?_; dsimp only)); refine Kd.R_lit k33 _ 33 ?hg (N := 5) ?hd (xs := ([(⟨(⟨#[97]⟩ : ByteArray), 2, (⟨#[120, 10, 121, 10]⟩ : ByteArray), false⟩ : S33), (⟨(⟨#[98]⟩ : ByteArray), 2, (⟨#[120, 10]⟩ : ByteArray), false⟩ : S33)] : List (S33))) (inner := [.string (⟨#[97]⟩ : ByteArray), .int .i64 2, .string (⟨#[120, 10, 121, 10]⟩ : ByteArray), .bool false, .string (⟨#[98]⟩ : ByteArray), .int .i64 2, .string (⟨#[120, 10]⟩ : ByteArray), .bool false]) (ok := fun _ => True) (okp := fun _ => True) ?hr ?hp (fun _ hk => hk) trivial (Below.refl _ _) (Nat.le_refl _) (by simp) ?_; (case hd => rfl); (case hg => rfl); (case hr => first | (go_simp; done) | (go_simp; rfl)); (case hp => exact (Reps.c4 (show Kd.M k33 _ _ _ (⟨(⟨#[97]⟩ : ByteArray), 2, (⟨#[120, 10, 121, 10]⟩ : ByteArray), false⟩ : S33) [.string (⟨#[97]⟩ : ByteArray), .int .i64 2, .string (⟨#[120, 10, 121, 10]⟩ : ByteArray), .bool false] from (k33_mkM _ _ _ (⟨(⟨#[97]⟩ : ByteArray), 2, (⟨#[120, 10, 121, 10]⟩ : ByteArray), false⟩ : S33) )) (Reps.c4 (show Kd.M k33 _ _ _ (⟨(⟨#[98]⟩ : ByteArray), 2, (⟨#[120, 10]⟩ : ByteArray), false⟩ : S33) [.string (⟨#[98]⟩ : ByteArray), .int .i64 2, .string (⟨#[120, 10]⟩ : ByteArray), .bool false] from (k33_mkM _ _ _ (⟨(⟨#[98]⟩ : ByteArray), 2, (⟨#[120, 10]⟩ : ByteArray), false⟩ : S33) )) (Reps.none _ _)))); intro v104 w35 ho36 hb hg_ hnew_; clear hg_ hnew_; (first | rw [← Ny103.out] at ho36 | (simp only [Int.reduceToNat] at ho36; rw [← Ny103.out] at ho36)); have n0_ := Aside0.mk (Kd.R_lower ho36 (below_size (by repeat (first | (with_reducible first | exact HB.out | apply below_alloc | apply pw_below_drewN | apply below_drew1) | exact HB.out)))); have n1_ := Aside0.mk (below_step (by repeat (first | (with_reducible first | exact HB.out | apply below_alloc | apply pw_below_drewN | apply below_drew1) | exact HB.out)) hb); clear HB; have HO105 := n0_; have HB := n1_; clear n0_ n1_; clear hb ho36) | ((with_reducible refine gate_dst (N := 7) rfl ?_); (try (refine gate_guard (by rfl) ?_; dsimp only)); refine Kd.R_lit k33 _ 33 ?hg (N := 7) ?hd (xs := ([(⟨(⟨#[99]⟩ : ByteArray), 2, (⟨#[120, 10, 121, 10]⟩ : ByteArray), false⟩ : S33)] : List (S33))) (inner := [.string (⟨#[99]⟩ : ByteArray), .int .i64 2, .string (⟨#[120, 10, 121, 10]⟩ : ByteArray), .bool false]) (ok := fun _ => True) (okp := fun _ => True) ?hr ?hp (fun _ hk => hk) trivial (Below.refl _ _) (Nat.le_refl _) (by simp) ?_; (case hd => rfl); (case hg => rfl); (case hr => first | (go_simp; done) | (go_simp; rfl)); (case hp => exact (Reps.c4 (show Kd.M k33 _ _ _ (⟨(⟨#[99]⟩ : ByteArray), 2, (⟨#[120, 10, 121, 10]⟩ : ByteArray), false⟩ : S33) [.string (⟨#[99]⟩ : ByteArray), .int .i64 2, .string (⟨#[120, 10, 121, 10]⟩ : ByteArray), .bool false] from (k33_mkM _ _ _ (⟨(⟨#[99]⟩ : ByteArray), 2, (⟨#[120, 10, 121, 10]⟩ : ByteArray), false⟩ : S33) )) (Reps.none _ _))); intro v107 w37 ho38 hb hg_ hnew_; clear hg_ hnew_; (first | rw [← Ny106.out] at ho38 | (simp only [Int.reduceToNat] at ho38; rw [← Ny106.out] at ho38)); have n0_ := Aside0.mk (Kd.R_elder' (by (with_reducible repeat (first | apply Kd.R_alloc | apply Kd.R_drewN | apply Kd.R_drew)); exact HO105.out) (Kd.R_base ho38) hb); have n1_ := Aside0.mk (Kd.R_lower (Kd.R_new' ho38 (Kd.R_lt (by (with_reducible repeat (first | apply Kd.R_alloc | apply Kd.R_drewN | apply Kd.R_drew)); exact HO105.out))) (below_size (by repeat (first | (with_reducible first | exact HB.out | apply below_alloc | apply pw_below_drewN | apply below_drew1) | exact HB.out)))); have n2_ := Aside0.mk (below_step (by repeat (first | (with_reducible first | exact HB.out | apply below_alloc | apply pw_below_drewN | apply below_drew1) | exact HB.out)) hb); clear HO105; clear HB; have HO105 := n0_; have HO108 := n1_; have HB := n2_; clear n0_ n1_ n2_; clear hb ho38; (try (obtain ⟨Ao39, co39, eo39⟩ := Kd.R_slice HO105.out; subst eo39)); (try (obtain ⟨Ao40, co40, eo40⟩ := Kd.R_slice HO108.out; subst eo40))) | ((with_reducible refine gate_callee (f := 11) rfl ?_); refine goesL_ _ rfl rfl Try.func11 (by kernel_rfl) rfl #[.slice Ao39 y103.length co39, .slice Ao40 y106.length co40, .int .i64 50] rfl (by (try simp only [List.map_toArray, List.map_cons, List.map_nil]); first | done | rfl | (simp only [List.length_drop, List.length_take]; rfl)) ?_; (with_reducible refine (rename_Pairs.calls _ _ y103 _ _ y106 50 t109 _ ?side1 ?side2 ?side3 ?side4 A1.out).mono ?_); (case side1 => repeat (first | exact (Kd.R_reads' HO105.out).2.2 | (with_reducible refine Kd.C_alloc ?_ _) | (with_reducible refine Kd.C_drewN ?_ _) | (with_reducible refine Kd.C_drew ?_))); (case side2 => exact (Kd.R_reads' HO105.out).2.1); (case side3 => repeat (first | exact (Kd.R_reads' HO108.out).2.2 | (with_reducible refine Kd.C_alloc ?_ _) | (with_reducible refine Kd.C_drewN ?_ _) | (with_reducible refine Kd.C_drew ?_))); (case side4 => exact (Kd.R_reads' HO108.out).2.1); rintro e w41 ⟨v110, rfl, ho0, hb⟩; refine ⟨_, rfl, ?_⟩; have n0_ := Aside0.mk (Kd.R_below (by (with_reducible repeat (first | apply Kd.R_alloc | apply Kd.R_drewN | apply Kd.R_drew)); exact HO105.out) hb); have n1_ := Aside0.mk (Kd.R_below (by (with_reducible repeat (first | apply Kd.R_alloc | apply Kd.R_drewN | apply Kd.R_drew)); exact HO108.out) hb); have n2_ := Aside0.mk (Kd.R_lower ho0 (below_size (by repeat (first | (with_reducible first | exact HB.out | apply below_alloc | apply pw_below_drewN | apply below_drew1) | exact HB.out)))); have n3_ := Aside0.mk (below_step (by repeat (first | (with_reducible first | exact HB.out | apply below_alloc | apply pw_below_drewN | apply below_drew1) | exact HB.out)) hb); clear HO105; clear HO108; clear HB; have HO105 := n0_; have HO108 := n1_; have HO111 := n2_; have HB := n3_; clear n0_ n1_ n2_ n3_; (try clear hb); (try clear hb2); (try clear hk); (try clear hi); (try clear ho0)) | ((with_reducible refine gate_dst (N := 12) rfl ?_); (try (refine gate_guard (by rfl) ?_; dsimp only)); refine Kd.R_lit k35 _ 35 ?hg (N := 12) ?hd (xs := ([(⟨(⟨#[97]⟩ : ByteArray), (⟨#[99]⟩ : ByteArray), 100⟩ : S35)] : List (S35))) (inner := [.string (⟨#[97]⟩ : ByteArray), .string (⟨#[99]⟩ : ByteArray), .int .i64 100]) (ok := fun _ => True) (okp := fun _ => True) ?hr ?hp (fun _ hk => hk) trivial (Below.refl _ _) (Nat.le_refl _) (by simp) ?_; (case hd => rfl); (case hg => rfl); (case hr => first | (go_simp; done) | (go_simp; rfl)); (case hp => exact (Reps.c3 (show Kd.M k35 _ _ _ (⟨(⟨#[97]⟩ : ByteArray), (⟨#[99]⟩ : ByteArray), 100⟩ : S35) [.string (⟨#[97]⟩ : ByteArray), .string (⟨#[99]⟩ : ByteArray), .int .i64 100] from (k35_mkM _ _ _ (⟨(⟨#[97]⟩ : ByteArray), (⟨#[99]⟩ : ByteArray), 100⟩ : S35) )) (Reps.none _ _))); intro v113 w42 ho43 hb hg_ hnew_; clear hg_ hnew_; (first | rw [← Ny112.out] at ho43 | (simp only [Int.reduceToNat] at ho43; rw [← Ny112.out] at ho43)); have n0_ := Aside0.mk (Kd.R_below (by (with_reducible repeat (first | apply Kd.R_alloc | apply Kd.R_drewN | apply Kd.R_drew)); exact HO105.out) hb); have n1_ := Aside0.mk (Kd.R_below (by (with_reducible repeat (first | apply Kd.R_alloc | apply Kd.R_drewN | apply Kd.R_drew)); exact HO108.out) hb); have n2_ := Aside0.mk (Kd.R_elder' (by (with_reducible repeat (first | apply Kd.R_alloc | apply Kd.R_drewN | apply Kd.R_drew)); exact HO111.out) (Kd.R_base ho43) hb); have n3_ := Aside0.mk (Kd.R_lower (Kd.R_new' ho43 (Kd.R_lt (by (with_reducible repeat (first | apply Kd.R_alloc | apply Kd.R_drewN | apply Kd.R_drew)); exact HO111.out))) (below_size (by repeat (first | (with_reducible first | exact HB.out | apply below_alloc | apply pw_below_drewN | apply below_drew1) | exact HB.out)))); have n4_ := Aside0.mk (below_step (by repeat (first | (with_reducible first | exact HB.out | apply below_alloc | apply pw_below_drewN | apply below_drew1) | exact HB.out)) hb); clear HO105; clear HO108; clear HO111; clear HB; have HO105 := n0_; have HO108 := n1_; have HO111 := n2_; have HO114 := n3_; have HB := n4_; clear n0_ n1_ n2_ n3_ n4_; clear hb ho43; (try (obtain ⟨Ao44, co44, eo44⟩ := Kd.R_slice HO111.out; subst eo44)); (try (obtain ⟨Ao45, co45, eo45⟩ := Kd.R_slice HO114.out; subst eo45))) | ((with_reducible refine gate_callee (f := 10) rfl ?_); refine goesL_ _ rfl rfl Try.func10 (by kernel_rfl) rfl #[.slice Ao44 t109.length co44, .slice Ao45 y112.length co45] rfl (by (try simp only [List.map_toArray, List.map_cons, List.map_nil]); first | done | rfl | (simp only [List.length_drop, List.length_take]; rfl)) ?_; (with_reducible refine (collatorref08_Same.calls k _ _ t109 _ _ y112 false _ ?side1 ?side2 ?side3 ?side4 A2.out).mono ?_); (case side1 => repeat (first | exact (Kd.R_reads' HO111.out).2.2 | (with_reducible refine Kd.C_alloc ?_ _) | (with_reducible refine Kd.C_drewN ?_ _) | (with_reducible refine Kd.C_drew ?_))); (case side2 => exact (Kd.R_reads' HO111.out).2.1); (case side3 => repeat (first | exact (Kd.R_reads' HO114.out).2.2 | (with_reducible refine Kd.C_alloc ?_ _) | (with_reducible refine Kd.C_drewN ?_ _) | (with_reducible refine Kd.C_drew ?_))); (case side4 => exact (Kd.R_reads' HO114.out).2.1); rintro e w' ⟨rfl, ⟨nd, rfl⟩⟩; refine ⟨_, rfl, ?_⟩))
  go_ret
  exact ⟨by first | rfl | (simp [errW_none, errW_some] <;> rfl) | (simp [*, errW_none, errW_some] <;> rfl), by repeat (first | (with_reducible first | exact HB.out | apply below_alloc | apply pw_below_drewN | apply below_drew1) | exact HB.out)⟩

end Go.Proofs.Ytcgnkbdfoaiaiaa.P
end
section
/- Laid for this claim by hp.py, this session's program round the kit's print: functions of the program as plain Lean functions, the proofs that the code comes to their answers, and the rows of the laws. Not trusted: Lean checks it. -/
namespace Go.Proofs.Ytcgnkbdfoaiaiaa.P
open Go.RowKit Go.Proofs.YtcgnkbdfoaiaiaaW.PrintWords Go.Proofs.YtcgnkbdfoaiaiaaW.PrintLast Go.Proofs.YtcgnkbdfoaiaiaaW.PrintMore
attribute [local go_sem] max2_int min2_int max_two min_two max_three min_three max_four min_four   -- for this text's walks alone
set_option linter.unusedVariables false
set_option linter.unusedSimpArgs false

/-! ### collatorlaw08_pick: function 9 -/
def collatorlaw08_pick.f (a0 : Int) (a1 : Int) : Option (Int) := if a0 < 0 then (if a1 = 0 then (none) else (some (Int.tmod (wrap64 (-(wrap64 (a0 + 1)))) a1))) else (if a1 = 0 then (none) else (some (Int.tmod a0 a1)))
set_option maxHeartbeats 8000000 in
set_option maxRecDepth 100000 in
theorem collatorlaw08_pick.calls (a0 : Int) (a1 : Int) (r : Int) (w : World) (h : collatorlaw08_pick.f a0 a1 = some r) :
  Calls Try.prog 9 #[.int .i64 a0, .int .i64 a1] w fun e w' => e = .returned (.int .i64 r) ∧ Drawn0 w w' := by
 have H : (if a0 < 0 then (if a1 = 0 then (none) else (some (Int.tmod (wrap64 (-(wrap64 (a0 + 1)))) a1))) else (if a1 = 0 then (none) else (some (Int.tmod a0 a1)))) = some r := h
 clear h
 by_cases c3 : a0 < 0
 ·rw [if_pos c3] at H
  have c3b0 : decide (a0 < 0) = true := decide_eq_true c3
  clear c3
  by_cases c4 : a1 = 0
  ·rw [if_pos c4] at H
   exact absurd H (by simp)
  ·rw [if_neg c4] at H
   have c4b0 : (a1 == 0) = false := beq_eq_false_iff_ne.mpr c4
   have c4b1 : (a1 != 0) = true := bne_iff_ne.mpr c4
   obtain rfl := Option.some.inj H
   go_enter Try.func9, Try.ntmps9
   go_wp2
   go_ret
   exact ⟨by first | rfl | (simp; done) | (simp [*]; done), by repeat (first | exact Drawn0.refl _ | apply Drawn0.step)⟩
 ·rw [if_neg c3] at H
  have c3b0 : decide (a0 < 0) = false := decide_eq_false c3
  clear c3
  by_cases c5 : a1 = 0
  ·rw [if_pos c5] at H
   exact absurd H (by simp)
  ·rw [if_neg c5] at H
   have c5b0 : (a1 == 0) = false := beq_eq_false_iff_ne.mpr c5
   have c5b1 : (a1 != 0) = true := bne_iff_ne.mpr c5
   obtain rfl := Option.some.inj H
   go_enter Try.func9, Try.ntmps9
   go_wp2
   go_ret
   exact ⟨by first | rfl | (simp; done) | (simp [*]; done), by repeat (first | exact Drawn0.refl _ | apply Drawn0.step)⟩

end Go.Proofs.Ytcgnkbdfoaiaiaa.P
end
section
/- Laid for this claim by hp.py, this session's program round the kit's print: functions of the program as plain Lean functions, the proofs that the code comes to their answers, and the rows of the laws. Not trusted: Lean checks it. -/
namespace Go.Proofs.Ytcgnkbdfoaiaiaa.P
open Go.RowKit Go.Proofs.YtcgnkbdfoaiaiaaW.PrintWords Go.Proofs.YtcgnkbdfoaiaiaaW.PrintLast Go.Proofs.YtcgnkbdfoaiaiaaW.PrintMore
attribute [local go_sem] max2_int min2_int max_two min_two max_three min_three max_four min_four   -- for this text's walks alone
set_option linter.unusedVariables false
set_option linter.unusedSimpArgs false

/-! ### collatorlaw08_RenameOrder: function 4 -/
mutual
def collatorlaw08_RenameOrder.l0 : Nat → Bool → List (S33) → List (S33) → Int → List (S33) → List (S33) → List (S35) → Int → Int → Option (Bool)
 | 0, _, _, _, _, _, _, _, _, _ => none
 | k + 1, x11, x12, x13, x14, x17, x18, x19, x20, x21 => if x21 < (x12.length : Int) then (if 0 ≤ x21 then (if ((rd_T33 x12 x21).f1) = 2 then (collatorlaw08_RenameOrder.l0 k x11 x12 x13 x14 x17 x18 x19 (wrap64 (x20 + 1)) (wrap64 (x21 + 1))) else (collatorlaw08_RenameOrder.l0 k x11 x12 x13 x14 x17 x18 x19 x20 (wrap64 (x21 + 1)))) else (none)) else (collatorlaw08_RenameOrder.l1 k x11 x12 x13 x14 x17 x18 x19 x20 0)
def collatorlaw08_RenameOrder.l1 : Nat → Bool → List (S33) → List (S33) → Int → List (S33) → List (S33) → List (S35) → Int → Int → Option (Bool)
 | 0, _, _, _, _, _, _, _, _, _ => none
 | k + 1, x11, x12, x13, x14, x17, x18, x19, x20, x22 => if x22 < (x19.length : Int) then (if 0 ≤ x22 then (if ((rd_T35 x19 x22).f2) = 100 then (collatorlaw08_RenameOrder.l1 k x11 x12 x13 x14 x17 x18 x19 x20 (wrap64 (x22 + 1))) else (some false)) else (none)) else (if x11 = true then ((rename_Pairs.f x12 x13 x14).bind fun t387 => ((rename_Pairs.f x17 x18 x14).bind fun t390 => ((collatorref08_Same.f k t387 t390).bind fun t393 => (if t393 = true then (some ((x19.length : Int) == x20)) else (some false))))) else (some false))
end
def collatorlaw08_RenameOrder.f (k : Nat) (l0 : List (S41)) (l1 : List (S41)) (a2 : Int) (a3 : Int) (a4 : Int) : Option (Bool) := (collatorlaw08_awake.f k).bind fun t344 => ((collatorlaw02_Tree.f k l0).bind fun t345 => ((collatorlaw02_Tree.f k l1).bind fun t348 => ((collatorlaw08_pick.f a2 101).bind fun t351 => ((collatorlaw08_pick.f a3 (wrap64 ((t345.length : Int) + 1))).bind fun t352 => ((collatorlaw08_pick.f a4 (wrap64 ((t348.length : Int) + 1))).bind fun t353 => (if 0 ≤ t352 then (if t352 ≤ (t345.length : Int) then ((some (t345.drop (t352 : Int).toNat : List (S33))).bind fun y354 => (if ([] : List (S33)).length + y354.length < 2932031007402 then ((some (([] : List (S33)) ++ y354 : List (S33))).bind fun y358 => ((some (t345.take (t352 : Int).toNat : List (S33))).bind fun y361 => (if y358.length + y361.length < 2932031007402 then ((some (y358 ++ y361 : List (S33))).bind fun y365 => (if 0 ≤ t353 then (if t353 ≤ (t348.length : Int) then ((some (t348.drop (t353 : Int).toNat : List (S33))).bind fun y368 => (if ([] : List (S33)).length + y368.length < 2932031007402 then ((some (([] : List (S33)) ++ y368 : List (S33))).bind fun y372 => ((some (t348.take (t353 : Int).toNat : List (S33))).bind fun y375 => (if y372.length + y375.length < 2932031007402 then ((rename_Pairs.f t345 y365 t351).bind fun t382 => (collatorlaw08_RenameOrder.l0 k t344 t345 t348 t351 y365 (y372 ++ y375) t382 0 0)) else (none)))) else (none))) else (none)) else (none))) else (none)))) else (none))) else (none)) else (none)))))))
theorem collatorlaw08_RenameOrder.mono_l : ∀ k, (∀ y0 y1 y2 y3 y4 y5 y6 y7 y8, LeO (collatorlaw08_RenameOrder.l0 k y0 y1 y2 y3 y4 y5 y6 y7 y8) (collatorlaw08_RenameOrder.l0 (k + 1) y0 y1 y2 y3 y4 y5 y6 y7 y8)) ∧ (∀ y0 y1 y2 y3 y4 y5 y6 y7 y8, LeO (collatorlaw08_RenameOrder.l1 k y0 y1 y2 y3 y4 y5 y6 y7 y8) (collatorlaw08_RenameOrder.l1 (k + 1) y0 y1 y2 y3 y4 y5 y6 y7 y8))
 | 0 => ⟨fun _ _ _ _ _ _ _ _ _ r h => by simp [collatorlaw08_RenameOrder.l0] at h, fun _ _ _ _ _ _ _ _ _ r h => by simp [collatorlaw08_RenameOrder.l1] at h⟩
 | k + 1 => by
  obtain ⟨ih0, ih1⟩ := collatorlaw08_RenameOrder.mono_l k
  refine ⟨?_, ?_⟩
  ·intro y0 y1 y2 y3 y4 y5 y6 y7 y8
   unfold collatorlaw08_RenameOrder.l0
   repeat' first
   | (with_reducible exact ih0 _ _ _ _ _ _ _ _ _)
   | (with_reducible exact ih1 _ _ _ _ _ _ _ _ _)
   | (with_reducible exact collatorlaw02_Tree.mono _ _)
   | (with_reducible exact collatorlaw08_awake.mono _)
   | (with_reducible exact collatorref08_Same.mono _ _ _)
   | (with_reducible exact LeO.refl _)
   | (with_reducible exact LeO.none _)
   | (with_reducible refine LeO.ite ?_ ?_)
   | (with_reducible refine LeO.bind ?_ (fun _ => ?_))
   | exact ih0 _ _ _ _ _ _ _ _ _
   | exact ih1 _ _ _ _ _ _ _ _ _
   | exact collatorlaw02_Tree.mono _ _
   | exact collatorlaw08_awake.mono _
   | exact collatorref08_Same.mono _ _ _
   | exact LeO.none _
   | refine LeO.ite ?_ ?_
   | refine LeO.bind ?_ (fun _ => ?_)
  ·intro y0 y1 y2 y3 y4 y5 y6 y7 y8
   unfold collatorlaw08_RenameOrder.l1
   repeat' first
   | (with_reducible exact ih0 _ _ _ _ _ _ _ _ _)
   | (with_reducible exact ih1 _ _ _ _ _ _ _ _ _)
   | (with_reducible exact collatorlaw02_Tree.mono _ _)
   | (with_reducible exact collatorlaw08_awake.mono _)
   | (with_reducible exact collatorref08_Same.mono _ _ _)
   | (with_reducible exact LeO.refl _)
   | (with_reducible exact LeO.none _)
   | (with_reducible refine LeO.ite ?_ ?_)
   | (with_reducible refine LeO.bind ?_ (fun _ => ?_))
   | exact ih0 _ _ _ _ _ _ _ _ _
   | exact ih1 _ _ _ _ _ _ _ _ _
   | exact collatorlaw02_Tree.mono _ _
   | exact collatorlaw08_awake.mono _
   | exact collatorref08_Same.mono _ _ _
   | exact LeO.none _
   | refine LeO.ite ?_ ?_
   | refine LeO.bind ?_ (fun _ => ?_)
theorem collatorlaw08_RenameOrder.mono : ∀ a0 a1 a2 a3 a4 k, LeO (collatorlaw08_RenameOrder.f k a0 a1 a2 a3 a4) (collatorlaw08_RenameOrder.f (k + 1) a0 a1 a2 a3 a4) := by
 intro a0 a1 a2 a3 a4 k
 obtain ⟨ih0, ih1⟩ := collatorlaw08_RenameOrder.mono_l k
 unfold collatorlaw08_RenameOrder.f
 repeat' first
   | (with_reducible exact ih0 _ _ _ _ _ _ _ _ _)
   | (with_reducible exact ih1 _ _ _ _ _ _ _ _ _)
   | (with_reducible exact collatorlaw02_Tree.mono _ _)
   | (with_reducible exact collatorlaw08_awake.mono _)
   | (with_reducible exact collatorref08_Same.mono _ _ _)
   | (with_reducible exact LeO.refl _)
   | (with_reducible exact LeO.none _)
   | (with_reducible refine LeO.ite ?_ ?_)
   | (with_reducible refine LeO.bind ?_ (fun _ => ?_))
   | exact ih0 _ _ _ _ _ _ _ _ _
   | exact ih1 _ _ _ _ _ _ _ _ _
   | exact collatorlaw02_Tree.mono _ _
   | exact collatorlaw08_awake.mono _
   | exact collatorref08_Same.mono _ _ _
   | exact LeO.none _
   | refine LeO.ite ?_ ?_
   | refine LeO.bind ?_ (fun _ => ?_)
def collatorlaw08_RenameOrder.T7 : Bool × List (List Nat × List Nat) := (true, [([], []), ([], []), ([0, 1], [0, 1]), ([2], [2]), ([], []), ([], []), ([4, 5], [4, 5]), ([3, 6, 3], [3, 6]), ([7, 7, 0, 1, 2, 3, 4, 5, 6, 7], [7])])
def collatorlaw08_RenameOrder.B7 : List Nat := [0, 0, 3, 7, 0, 0, 48, 127, 255]
theorem collatorlaw08_RenameOrder.tab7 : rtab .any (opsOf Try.f4 7) = collatorlaw08_RenameOrder.T7 := by kernel_rfl
theorem collatorlaw08_RenameOrder.bits7 : waitsOk collatorlaw08_RenameOrder.T7.2 collatorlaw08_RenameOrder.B7 = true := by kernel_rfl
def collatorlaw08_RenameOrder.T8 : Bool × List (List Nat × List Nat) := (true, [([], []), ([], []), ([0, 1], [0, 1]), ([2], [2]), ([], []), ([], []), ([4, 5], [4, 5]), ([3, 6, 3], [3, 6]), ([7, 7, 0, 1, 2, 3, 4, 5, 6, 7], [7])])
def collatorlaw08_RenameOrder.B8 : List Nat := [0, 0, 3, 7, 0, 0, 48, 127, 255]
theorem collatorlaw08_RenameOrder.tab8 : rtab .any (opsOf Try.f4 8) = collatorlaw08_RenameOrder.T8 := by kernel_rfl
theorem collatorlaw08_RenameOrder.bits8 : waitsOk collatorlaw08_RenameOrder.T8.2 collatorlaw08_RenameOrder.B8 = true := by kernel_rfl
set_option maxHeartbeats 8000000 in
set_option maxRecDepth 100000 in
theorem collatorlaw08_RenameOrder.calls (k : Nat) (A0 : Option Addr) (c0 : Nat) (l0 : List (S41)) (A1 : Option Addr) (c1 : Nat) (l1 : List (S41)) (a2 : Int) (a3 : Int) (a4 : Int) (r : Bool) (w : World) (hr0 : Kd.C k41 w A0 l0.length l0) (hc0 : l0.length ≤ c0) (hr1 : Kd.C k41 w A1 l1.length l1) (hc1 : l1.length ≤ c1) (h : collatorlaw08_RenameOrder.f k l0 l1 a2 a3 a4 = some r) :
  Calls Try.prog 4 #[.slice A0 l0.length c0, .slice A1 l1.length c1, .int .i64 a2, .int .i64 a3, .int .i64 a4] w fun e w' => e = .returned (.bool r) ∧ Below w.heap.size w w' := by
 have HR0 := Aside0.mk hr0
 have HC0 := Aside0.mk hc0
 clear hr0 hc0
 have HR1 := Aside0.mk hr1
 have HC1 := Aside0.mk hc1
 clear hr1 hc1
 have HB := Aside0.mk (Below.refl w.heap.size w)
 have H : ((collatorlaw08_awake.f k).bind fun t344 => ((collatorlaw02_Tree.f k l0).bind fun t345 => ((collatorlaw02_Tree.f k l1).bind fun t348 => ((collatorlaw08_pick.f a2 101).bind fun t351 => ((collatorlaw08_pick.f a3 (wrap64 ((t345.length : Int) + 1))).bind fun t352 => ((collatorlaw08_pick.f a4 (wrap64 ((t348.length : Int) + 1))).bind fun t353 => (if 0 ≤ t352 then (if t352 ≤ (t345.length : Int) then ((some (t345.drop (t352 : Int).toNat : List (S33))).bind fun y354 => (if ([] : List (S33)).length + y354.length < 2932031007402 then ((some (([] : List (S33)) ++ y354 : List (S33))).bind fun y358 => ((some (t345.take (t352 : Int).toNat : List (S33))).bind fun y361 => (if y358.length + y361.length < 2932031007402 then ((some (y358 ++ y361 : List (S33))).bind fun y365 => (if 0 ≤ t353 then (if t353 ≤ (t348.length : Int) then ((some (t348.drop (t353 : Int).toNat : List (S33))).bind fun y368 => (if ([] : List (S33)).length + y368.length < 2932031007402 then ((some (([] : List (S33)) ++ y368 : List (S33))).bind fun y372 => ((some (t348.take (t353 : Int).toNat : List (S33))).bind fun y375 => (if y372.length + y375.length < 2932031007402 then ((rename_Pairs.f t345 y365 t351).bind fun t382 => (collatorlaw08_RenameOrder.l0 k t344 t345 t348 t351 y365 (y372 ++ y375) t382 0 0)) else (none)))) else (none))) else (none)) else (none))) else (none)))) else (none))) else (none)) else (none)))))))) = some r := h
 clear h
 replace H := Option.bind_eq_some_iff.mp H
 obtain ⟨t344, A60, H⟩ := H
 replace H : ((collatorlaw02_Tree.f k l0).bind fun t345 => ((collatorlaw02_Tree.f k l1).bind fun t348 => ((collatorlaw08_pick.f a2 101).bind fun t351 => ((collatorlaw08_pick.f a3 (wrap64 ((t345.length : Int) + 1))).bind fun t352 => ((collatorlaw08_pick.f a4 (wrap64 ((t348.length : Int) + 1))).bind fun t353 => (if 0 ≤ t352 then (if t352 ≤ (t345.length : Int) then ((some (t345.drop (t352 : Int).toNat : List (S33))).bind fun y354 => (if ([] : List (S33)).length + y354.length < 2932031007402 then ((some (([] : List (S33)) ++ y354 : List (S33))).bind fun y358 => ((some (t345.take (t352 : Int).toNat : List (S33))).bind fun y361 => (if y358.length + y361.length < 2932031007402 then ((some (y358 ++ y361 : List (S33))).bind fun y365 => (if 0 ≤ t353 then (if t353 ≤ (t348.length : Int) then ((some (t348.drop (t353 : Int).toNat : List (S33))).bind fun y368 => (if ([] : List (S33)).length + y368.length < 2932031007402 then ((some (([] : List (S33)) ++ y368 : List (S33))).bind fun y372 => ((some (t348.take (t353 : Int).toNat : List (S33))).bind fun y375 => (if y372.length + y375.length < 2932031007402 then ((rename_Pairs.f t345 y365 t351).bind fun t382 => (collatorlaw08_RenameOrder.l0 k t344 t345 t348 t351 y365 (y372 ++ y375) t382 0 0)) else (none)))) else (none))) else (none)) else (none))) else (none)))) else (none))) else (none)) else (none))))))) = some r := H
 have A6 := Aside0.mk A60
 clear A60
 replace H := Option.bind_eq_some_iff.mp H
 obtain ⟨t345, A70, H⟩ := H
 replace H : ((collatorlaw02_Tree.f k l1).bind fun t348 => ((collatorlaw08_pick.f a2 101).bind fun t351 => ((collatorlaw08_pick.f a3 (wrap64 ((t345.length : Int) + 1))).bind fun t352 => ((collatorlaw08_pick.f a4 (wrap64 ((t348.length : Int) + 1))).bind fun t353 => (if 0 ≤ t352 then (if t352 ≤ (t345.length : Int) then ((some (t345.drop (t352 : Int).toNat : List (S33))).bind fun y354 => (if ([] : List (S33)).length + y354.length < 2932031007402 then ((some (([] : List (S33)) ++ y354 : List (S33))).bind fun y358 => ((some (t345.take (t352 : Int).toNat : List (S33))).bind fun y361 => (if y358.length + y361.length < 2932031007402 then ((some (y358 ++ y361 : List (S33))).bind fun y365 => (if 0 ≤ t353 then (if t353 ≤ (t348.length : Int) then ((some (t348.drop (t353 : Int).toNat : List (S33))).bind fun y368 => (if ([] : List (S33)).length + y368.length < 2932031007402 then ((some (([] : List (S33)) ++ y368 : List (S33))).bind fun y372 => ((some (t348.take (t353 : Int).toNat : List (S33))).bind fun y375 => (if y372.length + y375.length < 2932031007402 then ((rename_Pairs.f t345 y365 t351).bind fun t382 => (collatorlaw08_RenameOrder.l0 k t344 t345 t348 t351 y365 (y372 ++ y375) t382 0 0)) else (none)))) else (none))) else (none)) else (none))) else (none)))) else (none))) else (none)) else (none)))))) = some r := H
 have A7 := Aside0.mk A70
 clear A70
 replace H := Option.bind_eq_some_iff.mp H
 obtain ⟨t348, A80, H⟩ := H
 replace H : ((collatorlaw08_pick.f a2 101).bind fun t351 => ((collatorlaw08_pick.f a3 (wrap64 ((t345.length : Int) + 1))).bind fun t352 => ((collatorlaw08_pick.f a4 (wrap64 ((t348.length : Int) + 1))).bind fun t353 => (if 0 ≤ t352 then (if t352 ≤ (t345.length : Int) then ((some (t345.drop (t352 : Int).toNat : List (S33))).bind fun y354 => (if ([] : List (S33)).length + y354.length < 2932031007402 then ((some (([] : List (S33)) ++ y354 : List (S33))).bind fun y358 => ((some (t345.take (t352 : Int).toNat : List (S33))).bind fun y361 => (if y358.length + y361.length < 2932031007402 then ((some (y358 ++ y361 : List (S33))).bind fun y365 => (if 0 ≤ t353 then (if t353 ≤ (t348.length : Int) then ((some (t348.drop (t353 : Int).toNat : List (S33))).bind fun y368 => (if ([] : List (S33)).length + y368.length < 2932031007402 then ((some (([] : List (S33)) ++ y368 : List (S33))).bind fun y372 => ((some (t348.take (t353 : Int).toNat : List (S33))).bind fun y375 => (if y372.length + y375.length < 2932031007402 then ((rename_Pairs.f t345 y365 t351).bind fun t382 => (collatorlaw08_RenameOrder.l0 k t344 t345 t348 t351 y365 (y372 ++ y375) t382 0 0)) else (none)))) else (none))) else (none)) else (none))) else (none)))) else (none))) else (none)) else (none))))) = some r := H
 have A8 := Aside0.mk A80
 clear A80
 replace H := Option.bind_eq_some_iff.mp H
 obtain ⟨t351, A90, H⟩ := H
 replace H : ((collatorlaw08_pick.f a3 (wrap64 ((t345.length : Int) + 1))).bind fun t352 => ((collatorlaw08_pick.f a4 (wrap64 ((t348.length : Int) + 1))).bind fun t353 => (if 0 ≤ t352 then (if t352 ≤ (t345.length : Int) then ((some (t345.drop (t352 : Int).toNat : List (S33))).bind fun y354 => (if ([] : List (S33)).length + y354.length < 2932031007402 then ((some (([] : List (S33)) ++ y354 : List (S33))).bind fun y358 => ((some (t345.take (t352 : Int).toNat : List (S33))).bind fun y361 => (if y358.length + y361.length < 2932031007402 then ((some (y358 ++ y361 : List (S33))).bind fun y365 => (if 0 ≤ t353 then (if t353 ≤ (t348.length : Int) then ((some (t348.drop (t353 : Int).toNat : List (S33))).bind fun y368 => (if ([] : List (S33)).length + y368.length < 2932031007402 then ((some (([] : List (S33)) ++ y368 : List (S33))).bind fun y372 => ((some (t348.take (t353 : Int).toNat : List (S33))).bind fun y375 => (if y372.length + y375.length < 2932031007402 then ((rename_Pairs.f t345 y365 t351).bind fun t382 => (collatorlaw08_RenameOrder.l0 k t344 t345 t348 t351 y365 (y372 ++ y375) t382 0 0)) else (none)))) else (none))) else (none)) else (none))) else (none)))) else (none))) else (none)) else (none)))) = some r := H
 have A9 := Aside0.mk A90
 clear A90
 replace H := Option.bind_eq_some_iff.mp H
 obtain ⟨t352, A100, H⟩ := H
 replace H : ((collatorlaw08_pick.f a4 (wrap64 ((t348.length : Int) + 1))).bind fun t353 => (if 0 ≤ t352 then (if t352 ≤ (t345.length : Int) then ((some (t345.drop (t352 : Int).toNat : List (S33))).bind fun y354 => (if ([] : List (S33)).length + y354.length < 2932031007402 then ((some (([] : List (S33)) ++ y354 : List (S33))).bind fun y358 => ((some (t345.take (t352 : Int).toNat : List (S33))).bind fun y361 => (if y358.length + y361.length < 2932031007402 then ((some (y358 ++ y361 : List (S33))).bind fun y365 => (if 0 ≤ t353 then (if t353 ≤ (t348.length : Int) then ((some (t348.drop (t353 : Int).toNat : List (S33))).bind fun y368 => (if ([] : List (S33)).length + y368.length < 2932031007402 then ((some (([] : List (S33)) ++ y368 : List (S33))).bind fun y372 => ((some (t348.take (t353 : Int).toNat : List (S33))).bind fun y375 => (if y372.length + y375.length < 2932031007402 then ((rename_Pairs.f t345 y365 t351).bind fun t382 => (collatorlaw08_RenameOrder.l0 k t344 t345 t348 t351 y365 (y372 ++ y375) t382 0 0)) else (none)))) else (none))) else (none)) else (none))) else (none)))) else (none))) else (none)) else (none))) = some r := H
 have A10 := Aside0.mk A100
 clear A100
 replace H := Option.bind_eq_some_iff.mp H
 obtain ⟨t353, A110, H⟩ := H
 replace H : (if 0 ≤ t352 then (if t352 ≤ (t345.length : Int) then ((some (t345.drop (t352 : Int).toNat : List (S33))).bind fun y354 => (if ([] : List (S33)).length + y354.length < 2932031007402 then ((some (([] : List (S33)) ++ y354 : List (S33))).bind fun y358 => ((some (t345.take (t352 : Int).toNat : List (S33))).bind fun y361 => (if y358.length + y361.length < 2932031007402 then ((some (y358 ++ y361 : List (S33))).bind fun y365 => (if 0 ≤ t353 then (if t353 ≤ (t348.length : Int) then ((some (t348.drop (t353 : Int).toNat : List (S33))).bind fun y368 => (if ([] : List (S33)).length + y368.length < 2932031007402 then ((some (([] : List (S33)) ++ y368 : List (S33))).bind fun y372 => ((some (t348.take (t353 : Int).toNat : List (S33))).bind fun y375 => (if y372.length + y375.length < 2932031007402 then ((rename_Pairs.f t345 y365 t351).bind fun t382 => (collatorlaw08_RenameOrder.l0 k t344 t345 t348 t351 y365 (y372 ++ y375) t382 0 0)) else (none)))) else (none))) else (none)) else (none))) else (none)))) else (none))) else (none)) else (none)) = some r := H
 have A11 := Aside0.mk A110
 clear A110
 by_cases c12 : 0 ≤ t352
 ·rw [if_pos c12] at H
  have c12b0 := eq_true c12
  have c12b1 : decide (0 ≤ t352) = true := decide_eq_true c12
  clear c12
  by_cases c13 : t352 ≤ (t345.length : Int)
  ·rw [if_pos c13] at H
   have c13b0 := eq_true c13
   have c13b1 : decide (t352 ≤ (t345.length : Int)) = true := decide_eq_true c13
   clear c13
   obtain ⟨y354, hy354⟩ : ∃ y_ : List (S33), y_ = (t345.drop (t352 : Int).toNat) := ⟨_, rfl⟩
   replace H : (if ([] : List (S33)).length + y354.length < 2932031007402 then ((some (([] : List (S33)) ++ y354 : List (S33))).bind fun y358 => ((some (t345.take (t352 : Int).toNat : List (S33))).bind fun y361 => (if y358.length + y361.length < 2932031007402 then ((some (y358 ++ y361 : List (S33))).bind fun y365 => (if 0 ≤ t353 then (if t353 ≤ (t348.length : Int) then ((some (t348.drop (t353 : Int).toNat : List (S33))).bind fun y368 => (if ([] : List (S33)).length + y368.length < 2932031007402 then ((some (([] : List (S33)) ++ y368 : List (S33))).bind fun y372 => ((some (t348.take (t353 : Int).toNat : List (S33))).bind fun y375 => (if y372.length + y375.length < 2932031007402 then ((rename_Pairs.f t345 y365 t351).bind fun t382 => (collatorlaw08_RenameOrder.l0 k t344 t345 t348 t351 y365 (y372 ++ y375) t382 0 0)) else (none)))) else (none))) else (none)) else (none))) else (none)))) else (none)) = some r := by first | (rw [hy354]; with_reducible exact H) | (have H2_ := (Option.bind_some _ _).symm.trans H; rw [hy354]; with_reducible exact H2_) | (have H2_ := (Option.bind_some _ _).symm.trans H; with_reducible exact H2_) | with_reducible exact H | (rw [hy354]; exact H) | exact H
   have Ny354 := Aside0.mk hy354
   clear hy354
   by_cases c14 : ([] : List (S33)).length + y354.length < 2932031007402
   ·rw [if_pos c14] at H
    have LMc14 := Aside0.mk c14
    clear c14
    obtain ⟨y358, hy358⟩ : ∃ y_ : List (S33), y_ = (([] : List (S33)) ++ y354) := ⟨_, rfl⟩
    replace H : ((some (t345.take (t352 : Int).toNat : List (S33))).bind fun y361 => (if y358.length + y361.length < 2932031007402 then ((some (y358 ++ y361 : List (S33))).bind fun y365 => (if 0 ≤ t353 then (if t353 ≤ (t348.length : Int) then ((some (t348.drop (t353 : Int).toNat : List (S33))).bind fun y368 => (if ([] : List (S33)).length + y368.length < 2932031007402 then ((some (([] : List (S33)) ++ y368 : List (S33))).bind fun y372 => ((some (t348.take (t353 : Int).toNat : List (S33))).bind fun y375 => (if y372.length + y375.length < 2932031007402 then ((rename_Pairs.f t345 y365 t351).bind fun t382 => (collatorlaw08_RenameOrder.l0 k t344 t345 t348 t351 y365 (y372 ++ y375) t382 0 0)) else (none)))) else (none))) else (none)) else (none))) else (none))) = some r := by first | (rw [hy358]; with_reducible exact H) | (have H2_ := (Option.bind_some _ _).symm.trans H; rw [hy358]; with_reducible exact H2_) | (have H2_ := (Option.bind_some _ _).symm.trans H; with_reducible exact H2_) | with_reducible exact H | (rw [hy358]; exact H) | exact H
    have Ny358 := Aside0.mk hy358
    clear hy358
    have c15b0 := eq_true (of_decide_eq_true (by first | (with_reducible assumption) | assumption) : 0 ≤ t352)
    have c16b0 := eq_true (of_decide_eq_true (by first | (with_reducible assumption) | assumption) : t352 ≤ (t345.length : Int))
    obtain ⟨y361, hy361⟩ : ∃ y_ : List (S33), y_ = (t345.take (t352 : Int).toNat) := ⟨_, rfl⟩
    replace H : (if y358.length + y361.length < 2932031007402 then ((some (y358 ++ y361 : List (S33))).bind fun y365 => (if 0 ≤ t353 then (if t353 ≤ (t348.length : Int) then ((some (t348.drop (t353 : Int).toNat : List (S33))).bind fun y368 => (if ([] : List (S33)).length + y368.length < 2932031007402 then ((some (([] : List (S33)) ++ y368 : List (S33))).bind fun y372 => ((some (t348.take (t353 : Int).toNat : List (S33))).bind fun y375 => (if y372.length + y375.length < 2932031007402 then ((rename_Pairs.f t345 y365 t351).bind fun t382 => (collatorlaw08_RenameOrder.l0 k t344 t345 t348 t351 y365 (y372 ++ y375) t382 0 0)) else (none)))) else (none))) else (none)) else (none))) else (none)) = some r := by first | (rw [hy361]; with_reducible exact H) | (have H2_ := (Option.bind_some _ _).symm.trans H; rw [hy361]; with_reducible exact H2_) | (have H2_ := (Option.bind_some _ _).symm.trans H; with_reducible exact H2_) | with_reducible exact H | (rw [hy361]; exact H) | exact H
    have Ny361 := Aside0.mk hy361
    clear hy361
    by_cases c17 : y358.length + y361.length < 2932031007402
    ·rw [if_pos c17] at H
     have LMc17 := Aside0.mk c17
     clear c17
     obtain ⟨y365, hy365⟩ : ∃ y_ : List (S33), y_ = (y358 ++ y361) := ⟨_, rfl⟩
     replace H : (if 0 ≤ t353 then (if t353 ≤ (t348.length : Int) then ((some (t348.drop (t353 : Int).toNat : List (S33))).bind fun y368 => (if ([] : List (S33)).length + y368.length < 2932031007402 then ((some (([] : List (S33)) ++ y368 : List (S33))).bind fun y372 => ((some (t348.take (t353 : Int).toNat : List (S33))).bind fun y375 => (if y372.length + y375.length < 2932031007402 then ((rename_Pairs.f t345 y365 t351).bind fun t382 => (collatorlaw08_RenameOrder.l0 k t344 t345 t348 t351 y365 (y372 ++ y375) t382 0 0)) else (none)))) else (none))) else (none)) else (none)) = some r := by first | (rw [hy365]; with_reducible exact H) | (have H2_ := (Option.bind_some _ _).symm.trans H; rw [hy365]; with_reducible exact H2_) | (have H2_ := (Option.bind_some _ _).symm.trans H; with_reducible exact H2_) | with_reducible exact H | (rw [hy365]; exact H) | exact H
     have Ny365 := Aside0.mk hy365
     clear hy365
     by_cases c18 : 0 ≤ t353
     ·rw [if_pos c18] at H
      have c18b0 := eq_true c18
      have c18b1 : decide (0 ≤ t353) = true := decide_eq_true c18
      clear c18
      by_cases c19 : t353 ≤ (t348.length : Int)
      ·rw [if_pos c19] at H
       have c19b0 := eq_true c19
       have c19b1 : decide (t353 ≤ (t348.length : Int)) = true := decide_eq_true c19
       clear c19
       obtain ⟨y368, hy368⟩ : ∃ y_ : List (S33), y_ = (t348.drop (t353 : Int).toNat) := ⟨_, rfl⟩
       replace H : (if ([] : List (S33)).length + y368.length < 2932031007402 then ((some (([] : List (S33)) ++ y368 : List (S33))).bind fun y372 => ((some (t348.take (t353 : Int).toNat : List (S33))).bind fun y375 => (if y372.length + y375.length < 2932031007402 then ((rename_Pairs.f t345 y365 t351).bind fun t382 => (collatorlaw08_RenameOrder.l0 k t344 t345 t348 t351 y365 (y372 ++ y375) t382 0 0)) else (none)))) else (none)) = some r := by first | (rw [hy368]; with_reducible exact H) | (have H2_ := (Option.bind_some _ _).symm.trans H; rw [hy368]; with_reducible exact H2_) | (have H2_ := (Option.bind_some _ _).symm.trans H; with_reducible exact H2_) | with_reducible exact H | (rw [hy368]; exact H) | exact H
       have Ny368 := Aside0.mk hy368
       clear hy368
       by_cases c20 : ([] : List (S33)).length + y368.length < 2932031007402
       ·rw [if_pos c20] at H
        have LMc20 := Aside0.mk c20
        clear c20
        obtain ⟨y372, hy372⟩ : ∃ y_ : List (S33), y_ = (([] : List (S33)) ++ y368) := ⟨_, rfl⟩
        replace H : ((some (t348.take (t353 : Int).toNat : List (S33))).bind fun y375 => (if y372.length + y375.length < 2932031007402 then ((rename_Pairs.f t345 y365 t351).bind fun t382 => (collatorlaw08_RenameOrder.l0 k t344 t345 t348 t351 y365 (y372 ++ y375) t382 0 0)) else (none))) = some r := by first | (rw [hy372]; with_reducible exact H) | (have H2_ := (Option.bind_some _ _).symm.trans H; rw [hy372]; with_reducible exact H2_) | (have H2_ := (Option.bind_some _ _).symm.trans H; with_reducible exact H2_) | with_reducible exact H | (rw [hy372]; exact H) | exact H
        have Ny372 := Aside0.mk hy372
        clear hy372
        have c21b0 := eq_true (of_decide_eq_true (by first | (with_reducible assumption) | assumption) : 0 ≤ t353)
        have c22b0 := eq_true (of_decide_eq_true (by first | (with_reducible assumption) | assumption) : t353 ≤ (t348.length : Int))
        obtain ⟨y375, hy375⟩ : ∃ y_ : List (S33), y_ = (t348.take (t353 : Int).toNat) := ⟨_, rfl⟩
        replace H : (if y372.length + y375.length < 2932031007402 then ((rename_Pairs.f t345 y365 t351).bind fun t382 => (collatorlaw08_RenameOrder.l0 k t344 t345 t348 t351 y365 (y372 ++ y375) t382 0 0)) else (none)) = some r := by first | (rw [hy375]; with_reducible exact H) | (have H2_ := (Option.bind_some _ _).symm.trans H; rw [hy375]; with_reducible exact H2_) | (have H2_ := (Option.bind_some _ _).symm.trans H; with_reducible exact H2_) | with_reducible exact H | (rw [hy375]; exact H) | exact H
        have Ny375 := Aside0.mk hy375
        clear hy375
        by_cases c23 : y372.length + y375.length < 2932031007402
        ·rw [if_pos c23] at H
         have LMc23 := Aside0.mk c23
         clear c23
         obtain ⟨y379, hy379⟩ : ∃ y_ : List (S33), y_ = (y372 ++ y375) := ⟨_, rfl⟩
         replace H : ((rename_Pairs.f t345 y365 t351).bind fun t382 => (collatorlaw08_RenameOrder.l0 k t344 t345 t348 t351 y365 y379 t382 0 0)) = some r := by first | (rw [hy379]; with_reducible exact H) | (have H2_ := (Option.bind_some _ _).symm.trans H; rw [hy379]; with_reducible exact H2_) | (have H2_ := (Option.bind_some _ _).symm.trans H; with_reducible exact H2_) | with_reducible exact H | (rw [hy379]; exact H) | exact H
         have Ny379 := Aside0.mk hy379
         clear hy379
         replace H := Option.bind_eq_some_iff.mp H
         obtain ⟨t382, A240, H⟩ := H
         replace H : (collatorlaw08_RenameOrder.l0 k t344 t345 t348 t351 y365 y379 t382 0 0) = some r := H
         have A24 := Aside0.mk A240
         clear A240
         have H' := Aside0.mk H
         clear H
         go_enter Try.func4, Try.ntmps4
         try go_wp2_with (first | ((with_reducible refine gate_callee (f := 7) rfl ?_); refine goesL_ _ rfl rfl Try.func7 (by kernel_rfl) rfl #[] rfl (by (try simp only [List.map_toArray, List.map_cons, List.map_nil]); first | done | rfl | (simp only [List.length_drop, List.length_take]; rfl)) ?_; (with_reducible refine (collatorlaw08_awake.calls k  t344 _ A6.out).mono ?_); rintro e w25 ⟨rfl, hb⟩; refine ⟨_, rfl, ?_⟩; have n0_ := Aside0.mk (below_step (by repeat (first | (with_reducible first | exact HB.out | apply below_alloc | apply pw_below_drewN | apply below_drew1) | exact HB.out)) hb); clear HB; have HB := n0_; clear n0_; (try clear hb); (try clear hb2); (try clear hk); (try clear hi)) | ((with_reducible refine gate_callee (f := 13) rfl ?_); refine goesL_ _ rfl rfl Try.func13 (by kernel_rfl) rfl #[.slice A0 l0.length c0] rfl (by (try simp only [List.map_toArray, List.map_cons, List.map_nil]); first | done | rfl | (simp only [List.length_drop, List.length_take]; rfl)) ?_; (with_reducible refine (collatorlaw02_Tree.calls k _ _ l0 t345 _ ?side1 ?side2 A7.out).mono ?_); (case side1 => repeat (first | exact (Kd.C_below HR0.out HB.out) | (with_reducible refine Kd.C_alloc ?_ _) | (with_reducible refine Kd.C_drewN ?_ _) | (with_reducible refine Kd.C_drew ?_))); (case side2 => exact HC0.out); rintro e w26 ⟨v346, rfl, ho0, hb⟩; refine ⟨_, rfl, ?_⟩; have n0_ := Aside0.mk (Kd.R_lower ho0 (below_size (by repeat (first | (with_reducible first | exact HB.out | apply below_alloc | apply pw_below_drewN | apply below_drew1) | exact HB.out)))); have n1_ := Aside0.mk (below_step (by repeat (first | (with_reducible first | exact HB.out | apply below_alloc | apply pw_below_drewN | apply below_drew1) | exact HB.out)) hb); clear HB; have HO347 := n0_; have HB := n1_; clear n0_ n1_; (try clear hb); (try clear hb2); (try clear hk); (try clear hi); (try clear ho0)) | ((with_reducible refine gate_callee (f := 13) rfl ?_); refine goesL_ _ rfl rfl Try.func13 (by kernel_rfl) rfl #[.slice A1 l1.length c1] rfl (by (try simp only [List.map_toArray, List.map_cons, List.map_nil]); first | done | rfl | (simp only [List.length_drop, List.length_take]; rfl)) ?_; (with_reducible refine (collatorlaw02_Tree.calls k _ _ l1 t348 _ ?side1 ?side2 A8.out).mono ?_); (case side1 => repeat (first | exact (Kd.C_below HR1.out HB.out) | (with_reducible refine Kd.C_alloc ?_ _) | (with_reducible refine Kd.C_drewN ?_ _) | (with_reducible refine Kd.C_drew ?_))); (case side2 => exact HC1.out); rintro e w27 ⟨v349, rfl, ho0, hb⟩; refine ⟨_, rfl, ?_⟩; have n0_ := Aside0.mk (Kd.R_elder' (by (with_reducible repeat (first | apply Kd.R_alloc | apply Kd.R_drewN | apply Kd.R_drew)); exact HO347.out) (Kd.R_base ho0) hb); have n1_ := Aside0.mk (Kd.R_lower (Kd.R_new' ho0 (Kd.R_lt (by (with_reducible repeat (first | apply Kd.R_alloc | apply Kd.R_drewN | apply Kd.R_drew)); exact HO347.out))) (below_size (by repeat (first | (with_reducible first | exact HB.out | apply below_alloc | apply pw_below_drewN | apply below_drew1) | exact HB.out)))); have n2_ := Aside0.mk (below_step (by repeat (first | (with_reducible first | exact HB.out | apply below_alloc | apply pw_below_drewN | apply below_drew1) | exact HB.out)) hb); clear HO347; clear HB; have HO347 := n0_; have HO350 := n1_; have HB := n2_; clear n0_ n1_ n2_; (try clear hb); (try clear hb2); (try clear hk); (try clear hi); (try clear ho0)) | ((with_reducible refine gate_callee (f := 9) rfl ?_); refine goesL_ _ rfl rfl Try.func9 (by kernel_rfl) rfl #[.int .i64 a2, .int .i64 101] rfl (by (try simp only [List.map_toArray, List.map_cons, List.map_nil]); first | done | rfl | (simp only [List.length_drop, List.length_take]; rfl)) ?_; (with_reducible refine (collatorlaw08_pick.calls a2 101 t351 _ A9.out).mono ?_); rintro e w' ⟨rfl, ⟨nd, rfl⟩⟩; refine ⟨_, rfl, ?_⟩; (try (obtain ⟨Ao28, co28, eo28⟩ := Kd.R_slice HO347.out; subst eo28))) | ((with_reducible refine gate_callee (f := 9) rfl ?_); refine goesL_ _ rfl rfl Try.func9 (by kernel_rfl) rfl #[.int .i64 a3, .int .i64 (wrap64 ((t345.length : Int) + 1))] rfl (by (try simp only [List.map_toArray, List.map_cons, List.map_nil]); first | done | rfl | (simp only [List.length_drop, List.length_take]; rfl)) ?_; (with_reducible refine (collatorlaw08_pick.calls a3 (wrap64 ((t345.length : Int) + 1)) t352 _ A10.out).mono ?_); rintro e w' ⟨rfl, ⟨nd, rfl⟩⟩; refine ⟨_, rfl, ?_⟩; (try (obtain ⟨Ao29, co29, eo29⟩ := Kd.R_slice HO350.out; subst eo29))) | ((with_reducible refine gate_callee (f := 9) rfl ?_); refine goesL_ _ rfl rfl Try.func9 (by kernel_rfl) rfl #[.int .i64 a4, .int .i64 (wrap64 ((t348.length : Int) + 1))] rfl (by (try simp only [List.map_toArray, List.map_cons, List.map_nil]); first | done | rfl | (simp only [List.length_drop, List.length_take]; rfl)) ?_; (with_reducible refine (collatorlaw08_pick.calls a4 (wrap64 ((t348.length : Int) + 1)) t353 _ A11.out).mono ?_); rintro e w' ⟨rfl, ⟨nd, rfl⟩⟩; refine ⟨_, rfl, ?_⟩))
         (try (rw [drewN_self w27]; generalize hq_ : World.drewN w27 _ = w27; have n0_ : Aside0 (Kd.R k33 33 w27 w.heap.size (fun k_ => some k_ ≠ (.slice Ao29 t348.length co29 : Value).ownBlock) (.slice Ao28 t345.length co28) t345) := ⟨by rw [← hq_]; exact (by (with_reducible repeat (first | apply Kd.R_alloc | apply Kd.R_drewN | apply Kd.R_drew)); exact Kd.R_mono HO347.out (fun _ hk => hk.2))⟩; have n1_ : Aside0 (Kd.R k33 33 w27 w.heap.size (fun k_ => some k_ ≠ (.slice Ao28 t345.length co28 : Value).ownBlock) (.slice Ao29 t348.length co29) t348) := ⟨by rw [← hq_]; exact (by (with_reducible repeat (first | apply Kd.R_alloc | apply Kd.R_drewN | apply Kd.R_drew)); exact Kd.R_mono HO350.out (fun _ hk => hk.2))⟩; have n2_ : Aside0 (Below w.heap.size w w27) := ⟨by rw [← hq_]; exact (by repeat (first | (with_reducible first | exact HB.out | apply below_alloc | apply pw_below_drewN | apply below_drew1) | exact HB.out))⟩; clear HO347 HO350 HB hq_; have HO347 := n0_; have HO350 := n1_; have HB := n2_; clear n0_ n1_ n2_))
         have n0_ := Aside0.mk (Kd.R_drew HO347.out)
         have n1_ := Aside0.mk (Kd.R_drew HO350.out)
         have n2_ := Aside0.mk (below_drew1 HB.out)
         clear HO347
         clear HO350
         clear HB
         have HO347 := n0_
         have HO350 := n1_
         have HB := n2_
         clear n0_ n1_ n2_
         have q31 : (t352 : Int) ≤ ((t345.length : Int) : Int) := of_decide_eq_true (by first | (with_reducible assumption) | assumption)
         obtain ⟨i031, hi031, _, hsz31, _⟩ := info_parts info33
         have hroom31 : t345.length ≤ co28 := (Kd.R_reads' HO347.out).2.1
         have hC31 : Kd.C k33 _ Ao28 t345.length t345 := (Kd.R_reads' HO347.out).2.2
         have q031 : (0 : Int) ≤ (t352 : Int) := of_decide_eq_true (by first | (with_reducible assumption) | assumption)
         have hcut31 := cut_from (P := Try.prog) 23 33 .i64 Try.underlying23 hi031 4 hsz31 Ao28 t345.length co28 t352 q031 q31
         have hr31 := Kd.C_drop (m := (t352 : Int).toNat) (c := co28) hC31 (by omega) hroom31
         obtain ⟨A31, hA31⟩ : ∃ A1, A1 = (if co28 = (t352 : Int).toNat then Ao28 else (Ao28 : Option Addr).map (·.add ((t352 : Int).toNat * 4))) := ⟨_, rfl⟩
         obtain ⟨c31, hc31⟩ : ∃ c1, c1 = co28 - (t352 : Int).toNat := ⟨_, rfl⟩
         have hy31 : y354.length = t345.length - (t352 : Int).toNat := (by rw [Ny354.out, List.length_drop] <;> omega)
         rw [show (t345).drop (t352 : Int).toNat = y354 from Ny354.out.symm] at hr31
         replace hr31 : Kd.C k33 _ A31 y354.length y354 := (by rw [hA31]; exact hr31)
         rw [← hy31, ← hA31, ← hc31] at hcut31
         have HR357 := Aside0.mk hr31
         have HC357 := Aside0.mk (show y354.length ≤ c31 from by rw [hy31, hc31]; exact Nat.sub_le_sub_right hroom31 _)
         clear hr31 hC31 hroom31 hi031 hsz31 hc31
         have KY31 := Aside0.mk hy31
         have KA31 := Aside0.mk hA31
         clear hy31 hA31
         have KL31 := Aside0.mk (show (t352 : Int).toNat ≤ t345.length from by omega)
         replace q31 := eq_true q31
         have q32 : (t352 : Int) ≤ ((t345.length : Int) : Int) := of_decide_eq_true (by first | (with_reducible assumption) | assumption)
         obtain ⟨i032, hi032, _, hsz32, _⟩ := info_parts info33
         have hroom32 : t345.length ≤ co28 := (Kd.R_reads' HO347.out).2.1
         have hC32 : Kd.C k33 _ Ao28 t345.length t345 := (Kd.R_reads' HO347.out).2.2
         have hcut32 := cut_to (P := Try.prog) 23 33 .i64 Try.underlying23 hi032 Ao28 t345.length co28 t352 (of_decide_eq_true (by first | (with_reducible assumption) | assumption)) q32 hroom32
         have hr32 := Kd.C_take (m := (t352 : Int).toNat) hC32 (by omega)
         have hy32 : y361.length = (t352 : Int).toNat := (by rw [Ny361.out, List.length_take]; omega)
         rw [← Ny361.out] at hr32
         rw [← hy32] at hcut32
         have HR364 := Aside0.mk hr32
         have HC364 := Aside0.mk (show y361.length ≤ co28 from by omega)
         clear hr32 hC32 hroom32 hi032 hsz32
         have KY32 := Aside0.mk hy32
         clear hy32
         have KL32 := Aside0.mk (show (t352 : Int).toNat ≤ t345.length from by omega)
         replace q32 := eq_true q32
         refine start_ (n := 9) (S := fun w' => True) (ds := []) #[false, false, false, false, false, false, false, false, false] (by kernel_rfl) rfl rfl trivial (fun hHeld => ?_); refine with_tabW collatorlaw08_RenameOrder.tab7 collatorlaw08_RenameOrder.bits7 (fun HT_ HW_ => ?_)
         generalize w27.drew = w30 at HO347 HO350 HB HR357 HR364 hHeld ⊢
         refine pure_ (i := 0) (N := some 40) (v := ?_) (a' := ?_) #[true, false, false, false, false, false, false, false, false] rfl rfl (any_of HT_.out (by kernel_rfl)) (fun _ _ _ h => h) (Or.inl ⟨by rfl, ?_⟩) ?_ ?_
         rotate_left
         ·intro w'
          go_simp
          with_reducible rfl
         rotate_left
         ·simp only [Act.put, List.setIfInBounds_toArray, List.set_cons_zero, List.set_cons_succ, i64_w, i32_w]
          rfl
         refine pure_ (i := 1) (N := some 41) (v := ?_) (a' := ?_) #[true, true, false, false, false, false, false, false, false] rfl rfl (any_of HT_.out (by kernel_rfl)) (fun _ _ _ h => h) (Or.inl ⟨by rfl, ?_⟩) ?_ ?_
         rotate_left
         ·intro w'
          go_simp
          with_reducible rfl
         rotate_left
         ·simp only [Act.put, List.setIfInBounds_toArray, List.set_cons_zero, List.set_cons_succ, i64_w, i32_w]
          rfl
         refine pure_ (i := 2) (N := some 42) (v := ?_) (a' := ?_) #[true, true, true, false, false, false, false, false, false] rfl rfl (any_of HT_.out (by kernel_rfl)) (fun _ _ _ h => h) (Or.inl ⟨by rfl, ?_⟩) ?_ ?_
         rotate_left
         ·intro w'
          go_simp
          with_reducible rfl
         rotate_left
         ·simp only [Act.put, List.setIfInBounds_toArray, List.set_cons_zero, List.set_cons_succ, i64_w, i32_w]
          rfl
         refine pure_ (i := 4) (N := some 44) (v := ?_) (a' := ?_) #[true, true, true, false, true, false, false, false, false] rfl rfl (any_of HT_.out (by kernel_rfl)) (fun _ _ _ h => h) (Or.inl ⟨by rfl, ?_⟩) ?_ ?_
         rotate_left
         ·intro w'
          go_simp
          with_reducible rfl
         rotate_left
         ·simp only [Act.put, List.setIfInBounds_toArray, List.set_cons_zero, List.set_cons_succ, i64_w, i32_w]
          rfl
         refine pure_ (i := 5) (N := some 45) (v := ?_) (a' := ?_) #[true, true, true, false, true, true, false, false, false] rfl rfl (any_of HT_.out (by kernel_rfl)) (fun _ _ _ h => h) (Or.inl ⟨by rfl, ?_⟩) ?_ ?_
         rotate_left
         ·intro w'
          go_simp
          with_reducible rfl
         rotate_left
         ·simp only [Act.put, List.setIfInBounds_toArray, List.set_cons_zero, List.set_cons_succ, i64_w, i32_w]
          rfl
         refine pure_ (i := 6) (N := some 46) (v := ?_) (a' := ?_) #[true, true, true, false, true, true, true, false, false] rfl rfl (any_of HT_.out (by kernel_rfl)) (fun _ _ _ h => h) (Or.inl ⟨by rfl, ?_⟩) ?_ ?_
         rotate_left
         ·intro w'
          go_simp
          with_reducible rfl
         rotate_left
         ·simp only [Act.put, List.setIfInBounds_toArray, List.set_cons_zero, List.set_cons_succ, i64_w, i32_w]
          rfl
         refine one_ (i := 3) (N := some 43) #[true, true, true, true, true, true, true, false, false] rfl rfl (one_of HT_.out (by kernel_rfl)) (by decide) (fun K hK => ?_)
         refine Kd.R_append_rows_step k33 (w0 := w) w.heap.size (by rfl) (.const (.slice none 0 0)) (.tmp 42) 23 33 (.agg #[(.string ⟨#[]⟩), (.int .i64 0), (.string ⟨#[]⟩), (.bool false)]) 48 rfl Try.underlying23 info33 rfl (by decide) (by omega) (.slice none 0 0) ([] : List (S33)) y354 _ _ _ (fun k_ => some k_ ≠ (.slice Ao28 t345.length co28 : Value).ownBlock ∧ some k_ ≠ (.slice Ao29 t348.length co29 : Value).ownBlock) (fun _ => False) rfl rfl ?aO ?aR (fun _ _ h => h) (fun _ h => h.elim) ?aF ?aB ?aS ?aL ?_
         (case aR => repeat (first | exact (by repeat (first | (with_reducible exact HR357.out) | (with_reducible refine Kd.C_alloc ?_ _) | (with_reducible refine Kd.C_drewN ?_ _) | (with_reducible refine Kd.C_drew ?_) | exact HR357.out)) | (with_reducible refine Kd.C_alloc ?_ _) | (with_reducible refine Kd.C_drewN ?_ _) | (with_reducible refine Kd.C_drew ?_)))
         (case aB => exact (by repeat (first | (with_reducible first | exact HB.out | apply below_alloc | apply pw_below_drewN | apply below_drew1) | exact HB.out)))
         (case aF => exact (fun k_ hk => ⟨Kd.fresh' (Kd.R_lt (by (with_reducible repeat (first | apply Kd.R_alloc | apply Kd.R_drewN | apply Kd.R_drew)); exact HO347.out)) k_ hk, Kd.fresh' (Kd.R_lt (by (with_reducible repeat (first | apply Kd.R_alloc | apply Kd.R_drewN | apply Kd.R_drew)); exact HO350.out)) k_ hk⟩))
         (case aO => exact ((Kd.R_nil _ _ _ _ (fun k_ => some k_ ≠ (.slice Ao28 t345.length co28 : Value).ownBlock ∧ some k_ ≠ (.slice Ao29 t348.length co29 : Value).ownBlock))))
         (case aS => exact (below_size (by repeat (first | (with_reducible first | exact HB.out | apply below_alloc | apply pw_below_drewN | apply below_drew1) | exact HB.out))))
         (case aL => have := LMc14.out; omega)
         intro v359 w33 ho hb hg hat
         rw [← Ny358.out] at ho
         have n0_ := Aside0.mk (Kd.R_after (Kd.R_apart_nil (by (with_reducible repeat (first | apply Kd.R_alloc | apply Kd.R_drewN | apply Kd.R_drew)); exact HO347.out)) hg hat)
         have n1_ := Aside0.mk (Kd.R_after (Kd.R_apart_nil (by (with_reducible repeat (first | apply Kd.R_alloc | apply Kd.R_drewN | apply Kd.R_drew)); exact HO350.out)) hg hat)
         have n2_ := Aside0.mk (hb)
         have n3_ := Aside0.mk ((show Kd.C k33 w33 A31 y354.length y354 from by rw [Ny354.out, KA31.out]; exact Kd.C_drop (m := (t352 : Int).toNat) (c := co28) ((Kd.R_reads' (Kd.R_after (Kd.R_apart_nil (by (with_reducible repeat (first | apply Kd.R_alloc | apply Kd.R_drewN | apply Kd.R_drew)); exact HO347.out)) hg hat)).2.2) KL31.out ((Kd.R_reads' (Kd.R_after (Kd.R_apart_nil (by (with_reducible repeat (first | apply Kd.R_alloc | apply Kd.R_drewN | apply Kd.R_drew)); exact HO347.out)) hg hat)).2.1)))
         have n4_ := Aside0.mk ((show Kd.C k33 w33 Ao28 y361.length y361 from by rw [Ny361.out]; exact Kd.C_take (m := (t352 : Int).toNat) ((Kd.R_reads' (Kd.R_after (Kd.R_apart_nil (by (with_reducible repeat (first | apply Kd.R_alloc | apply Kd.R_drewN | apply Kd.R_drew)); exact HO347.out)) hg hat)).2.2) KL32.out))
         have n5_ := Aside0.mk (ho)
         clear HO347
         clear HO350
         clear HB
         clear HR357
         clear HR364
         have HO347 := n0_
         have HO350 := n1_
         have HB := n2_
         have HR357 := n3_
         have HR364 := n4_
         have HO360 := n5_
         clear n0_ n1_ n2_ n3_ n4_ n5_
         clear ho hb hg hat
         refine hK.out _ _ trivial (fun hHeld => ?_)
         clear hK K
         refine norm_ (a' := ?_) ?_ ?_
         rotate_left
         ·show Act.put _ (some 43) _ = _
          simp only [Act.put, List.setIfInBounds_toArray, List.set_cons_zero, List.set_cons_succ, i64_w, i32_w]
          rfl
         refine one_ (i := 7) (N := some 47) #[true, true, true, true, true, true, true, true, false] rfl rfl (one_of HT_.out (by kernel_rfl)) (by decide) (fun K hK => ?_)
         refine Kd.R_append_rows_step k33 (w0 := w) w.heap.size (by rfl) (.tmp 43) (.tmp 46) 23 33 (.agg #[(.string ⟨#[]⟩), (.int .i64 0), (.string ⟨#[]⟩), (.bool false)]) 48 rfl Try.underlying23 info33 rfl (by decide) (by omega) v359 y358 y361 _ _ _ (fun k_ => some k_ ≠ (.slice Ao28 t345.length co28 : Value).ownBlock ∧ some k_ ≠ (.slice Ao29 t348.length co29 : Value).ownBlock) (fun _ => False) rfl rfl ?aO ?aR (fun _ _ h => h) (fun _ h => h.elim) ?aF ?aB ?aS ?aL ?_
         (case aR => repeat (first | exact (by repeat (first | (with_reducible exact HR364.out) | (with_reducible refine Kd.C_alloc ?_ _) | (with_reducible refine Kd.C_drewN ?_ _) | (with_reducible refine Kd.C_drew ?_) | exact HR364.out)) | (with_reducible refine Kd.C_alloc ?_ _) | (with_reducible refine Kd.C_drewN ?_ _) | (with_reducible refine Kd.C_drew ?_)))
         (case aB => exact (by repeat (first | (with_reducible first | exact HB.out | apply below_alloc | apply pw_below_drewN | apply below_drew1) | exact HB.out)))
         (case aF => exact (fun k_ hk => ⟨Kd.fresh' (Kd.R_lt (by (with_reducible repeat (first | apply Kd.R_alloc | apply Kd.R_drewN | apply Kd.R_drew)); exact HO347.out)) k_ hk, Kd.fresh' (Kd.R_lt (by (with_reducible repeat (first | apply Kd.R_alloc | apply Kd.R_drewN | apply Kd.R_drew)); exact HO350.out)) k_ hk⟩))
         (case aO => exact (by (with_reducible repeat (first | apply Kd.R_alloc | apply Kd.R_drewN | apply Kd.R_drew)); exact HO360.out))
         (case aS => exact (below_size (by repeat (first | (with_reducible first | exact HB.out | apply below_alloc | apply pw_below_drewN | apply below_drew1) | exact HB.out))))
         (case aL => have := LMc17.out; omega)
         intro v366 w34 ho hb hg hat
         rw [← Ny365.out] at ho
         have n0_ := Aside0.mk (Kd.R_after (ok := (fun k_ => some k_ ≠ (.slice Ao29 t348.length co29 : Value).ownBlock)) (by (with_reducible repeat (first | apply Kd.R_alloc | apply Kd.R_drewN | apply Kd.R_drew)); exact Kd.R_mono HO347.out (fun _ hk => by first | exact ⟨hk.1.2, hk.2⟩ | simp_all)) hg hat)
         have n1_ := Aside0.mk (Kd.R_after (ok := (fun k_ => some k_ ≠ (.slice Ao28 t345.length co28 : Value).ownBlock)) (by (with_reducible repeat (first | apply Kd.R_alloc | apply Kd.R_drewN | apply Kd.R_drew)); exact Kd.R_mono HO350.out (fun _ hk => by first | exact ⟨hk.1.2, hk.2⟩ | simp_all)) hg hat)
         have n2_ := Aside0.mk (hb)
         have n3_ := Aside0.mk ((show Kd.C k33 w34 A31 y354.length y354 from by rw [Ny354.out, KA31.out]; exact Kd.C_drop (m := (t352 : Int).toNat) (c := co28) ((Kd.R_reads' (Kd.R_after (ok := (fun k_ => some k_ ≠ (.slice Ao29 t348.length co29 : Value).ownBlock)) (by (with_reducible repeat (first | apply Kd.R_alloc | apply Kd.R_drewN | apply Kd.R_drew)); exact Kd.R_mono HO347.out (fun _ hk => by first | exact ⟨hk.1.2, hk.2⟩ | simp_all)) hg hat)).2.2) KL31.out ((Kd.R_reads' (Kd.R_after (ok := (fun k_ => some k_ ≠ (.slice Ao29 t348.length co29 : Value).ownBlock)) (by (with_reducible repeat (first | apply Kd.R_alloc | apply Kd.R_drewN | apply Kd.R_drew)); exact Kd.R_mono HO347.out (fun _ hk => by first | exact ⟨hk.1.2, hk.2⟩ | simp_all)) hg hat)).2.1)))
         have n4_ := Aside0.mk ((show Kd.C k33 w34 Ao28 y361.length y361 from by rw [Ny361.out]; exact Kd.C_take (m := (t352 : Int).toNat) ((Kd.R_reads' (Kd.R_after (ok := (fun k_ => some k_ ≠ (.slice Ao29 t348.length co29 : Value).ownBlock)) (by (with_reducible repeat (first | apply Kd.R_alloc | apply Kd.R_drewN | apply Kd.R_drew)); exact Kd.R_mono HO347.out (fun _ hk => by first | exact ⟨hk.1.2, hk.2⟩ | simp_all)) hg hat)).2.2) KL32.out))
         have n5_ := Aside0.mk (ho)
         clear HO347
         clear HO350
         clear HB
         clear HR357
         clear HR364
         clear HO360
         have HO347 := n0_
         have HO350 := n1_
         have HB := n2_
         have HR357 := n3_
         have HR364 := n4_
         have HO367 := n5_
         clear n0_ n1_ n2_ n3_ n4_ n5_
         clear ho hb hg hat
         refine hK.out _ _ trivial (fun hHeld => ?_)
         clear hK K
         refine norm_ (a' := ?_) ?_ ?_
         rotate_left
         ·show Act.put _ (some 47) _ = _
          simp only [Act.put, List.setIfInBounds_toArray, List.set_cons_zero, List.set_cons_succ, i64_w, i32_w]
          rfl
         refine pure_ (i := 8) (N := some 17) (v := ?_) (a' := ?_) #[true, true, true, true, true, true, true, true, true] rfl rfl (any_of HT_.out (by kernel_rfl)) (fun _ _ _ h => h) (Or.inl ⟨by rfl, ?_⟩) ?_ ?_
         rotate_left
         ·intro w'
          go_simp
          with_reducible rfl
         rotate_left
         ·simp only [Act.put, List.setIfInBounds_toArray, List.set_cons_zero, List.set_cons_succ, i64_w, i32_w]
          rfl
         refine done_ (done_of HT_.out (by kernel_rfl)) ?_
         try go_wp2
         have n0_ := Aside0.mk (Kd.R_drew HO347.out)
         have n1_ := Aside0.mk (Kd.R_drew HO350.out)
         have n2_ := Aside0.mk (Kd.R_drew HO367.out)
         have n3_ := Aside0.mk (Kd.C_drew HR357.out)
         have n4_ := Aside0.mk (Kd.C_drew HR364.out)
         have n5_ := Aside0.mk (below_drew1 HB.out)
         clear HO347
         clear HO350
         clear HO367
         clear HR357
         clear HR364
         clear HB
         have HO347 := n0_
         have HO350 := n1_
         have HO367 := n2_
         have HR357 := n3_
         have HR364 := n4_
         have HB := n5_
         clear n0_ n1_ n2_ n3_ n4_ n5_
         have q36 : (t353 : Int) ≤ ((t348.length : Int) : Int) := of_decide_eq_true (by first | (with_reducible assumption) | assumption)
         obtain ⟨i036, hi036, _, hsz36, _⟩ := info_parts info33
         have hroom36 : t348.length ≤ co29 := (Kd.R_reads' HO350.out).2.1
         have hC36 : Kd.C k33 _ Ao29 t348.length t348 := (Kd.R_reads' HO350.out).2.2
         have q036 : (0 : Int) ≤ (t353 : Int) := of_decide_eq_true (by first | (with_reducible assumption) | assumption)
         have hcut36 := cut_from (P := Try.prog) 23 33 .i64 Try.underlying23 hi036 4 hsz36 Ao29 t348.length co29 t353 q036 q36
         have hr36 := Kd.C_drop (m := (t353 : Int).toNat) (c := co29) hC36 (by omega) hroom36
         obtain ⟨A36, hA36⟩ : ∃ A1, A1 = (if co29 = (t353 : Int).toNat then Ao29 else (Ao29 : Option Addr).map (·.add ((t353 : Int).toNat * 4))) := ⟨_, rfl⟩
         obtain ⟨c36, hc36⟩ : ∃ c1, c1 = co29 - (t353 : Int).toNat := ⟨_, rfl⟩
         have hy36 : y368.length = t348.length - (t353 : Int).toNat := (by rw [Ny368.out, List.length_drop] <;> omega)
         rw [show (t348).drop (t353 : Int).toNat = y368 from Ny368.out.symm] at hr36
         replace hr36 : Kd.C k33 _ A36 y368.length y368 := (by rw [hA36]; exact hr36)
         rw [← hy36, ← hA36, ← hc36] at hcut36
         have HR371 := Aside0.mk hr36
         have HC371 := Aside0.mk (show y368.length ≤ c36 from by rw [hy36, hc36]; exact Nat.sub_le_sub_right hroom36 _)
         clear hr36 hC36 hroom36 hi036 hsz36 hc36
         have KY36 := Aside0.mk hy36
         have KA36 := Aside0.mk hA36
         clear hy36 hA36
         have KL36 := Aside0.mk (show (t353 : Int).toNat ≤ t348.length from by omega)
         replace q36 := eq_true q36
         have q37 : (t353 : Int) ≤ ((t348.length : Int) : Int) := of_decide_eq_true (by first | (with_reducible assumption) | assumption)
         obtain ⟨i037, hi037, _, hsz37, _⟩ := info_parts info33
         have hroom37 : t348.length ≤ co29 := (Kd.R_reads' HO350.out).2.1
         have hC37 : Kd.C k33 _ Ao29 t348.length t348 := (Kd.R_reads' HO350.out).2.2
         have hcut37 := cut_to (P := Try.prog) 23 33 .i64 Try.underlying23 hi037 Ao29 t348.length co29 t353 (of_decide_eq_true (by first | (with_reducible assumption) | assumption)) q37 hroom37
         have hr37 := Kd.C_take (m := (t353 : Int).toNat) hC37 (by omega)
         have hy37 : y375.length = (t353 : Int).toNat := (by rw [Ny375.out, List.length_take]; omega)
         rw [← Ny375.out] at hr37
         rw [← hy37] at hcut37
         have HR378 := Aside0.mk hr37
         have HC378 := Aside0.mk (show y375.length ≤ co29 from by omega)
         clear hr37 hC37 hroom37 hi037 hsz37
         have KY37 := Aside0.mk hy37
         clear hy37
         have KL37 := Aside0.mk (show (t353 : Int).toNat ≤ t348.length from by omega)
         replace q37 := eq_true q37
         refine start_ (n := 9) (S := fun w' => True) (ds := []) #[false, false, false, false, false, false, false, false, false] (by kernel_rfl) rfl rfl trivial (fun hHeld => ?_); refine with_tabW collatorlaw08_RenameOrder.tab8 collatorlaw08_RenameOrder.bits8 (fun HT_ HW_ => ?_)
         generalize w34.drew = w35 at HO347 HO350 HO367 HR357 HR364 HB HR371 HR378 hHeld ⊢
         refine pure_ (i := 0) (N := some 48) (v := ?_) (a' := ?_) #[true, false, false, false, false, false, false, false, false] rfl rfl (any_of HT_.out (by kernel_rfl)) (fun _ _ _ h => h) (Or.inl ⟨by rfl, ?_⟩) ?_ ?_
         rotate_left
         ·intro w'
          go_simp
          with_reducible rfl
         rotate_left
         ·simp only [Act.put, List.setIfInBounds_toArray, List.set_cons_zero, List.set_cons_succ, i64_w, i32_w]
          rfl
         refine pure_ (i := 1) (N := some 49) (v := ?_) (a' := ?_) #[true, true, false, false, false, false, false, false, false] rfl rfl (any_of HT_.out (by kernel_rfl)) (fun _ _ _ h => h) (Or.inl ⟨by rfl, ?_⟩) ?_ ?_
         rotate_left
         ·intro w'
          go_simp
          with_reducible rfl
         rotate_left
         ·simp only [Act.put, List.setIfInBounds_toArray, List.set_cons_zero, List.set_cons_succ, i64_w, i32_w]
          rfl
         refine pure_ (i := 2) (N := some 50) (v := ?_) (a' := ?_) #[true, true, true, false, false, false, false, false, false] rfl rfl (any_of HT_.out (by kernel_rfl)) (fun _ _ _ h => h) (Or.inl ⟨by rfl, ?_⟩) ?_ ?_
         rotate_left
         ·intro w'
          go_simp
          with_reducible rfl
         rotate_left
         ·simp only [Act.put, List.setIfInBounds_toArray, List.set_cons_zero, List.set_cons_succ, i64_w, i32_w]
          rfl
         refine pure_ (i := 4) (N := some 52) (v := ?_) (a' := ?_) #[true, true, true, false, true, false, false, false, false] rfl rfl (any_of HT_.out (by kernel_rfl)) (fun _ _ _ h => h) (Or.inl ⟨by rfl, ?_⟩) ?_ ?_
         rotate_left
         ·intro w'
          go_simp
          with_reducible rfl
         rotate_left
         ·simp only [Act.put, List.setIfInBounds_toArray, List.set_cons_zero, List.set_cons_succ, i64_w, i32_w]
          rfl
         refine pure_ (i := 5) (N := some 53) (v := ?_) (a' := ?_) #[true, true, true, false, true, true, false, false, false] rfl rfl (any_of HT_.out (by kernel_rfl)) (fun _ _ _ h => h) (Or.inl ⟨by rfl, ?_⟩) ?_ ?_
         rotate_left
         ·intro w'
          go_simp
          with_reducible rfl
         rotate_left
         ·simp only [Act.put, List.setIfInBounds_toArray, List.set_cons_zero, List.set_cons_succ, i64_w, i32_w]
          rfl
         refine pure_ (i := 6) (N := some 54) (v := ?_) (a' := ?_) #[true, true, true, false, true, true, true, false, false] rfl rfl (any_of HT_.out (by kernel_rfl)) (fun _ _ _ h => h) (Or.inl ⟨by rfl, ?_⟩) ?_ ?_
         rotate_left
         ·intro w'
          go_simp
          with_reducible rfl
         rotate_left
         ·simp only [Act.put, List.setIfInBounds_toArray, List.set_cons_zero, List.set_cons_succ, i64_w, i32_w]
          rfl
         refine one_ (i := 3) (N := some 51) #[true, true, true, true, true, true, true, false, false] rfl rfl (one_of HT_.out (by kernel_rfl)) (by decide) (fun K hK => ?_)
         refine Kd.R_append_rows_step k33 (w0 := w) w.heap.size (by rfl) (.const (.slice none 0 0)) (.tmp 50) 23 33 (.agg #[(.string ⟨#[]⟩), (.int .i64 0), (.string ⟨#[]⟩), (.bool false)]) 48 rfl Try.underlying23 info33 rfl (by decide) (by omega) (.slice none 0 0) ([] : List (S33)) y368 _ _ _ (fun k_ => some k_ ≠ (.slice Ao28 t345.length co28 : Value).ownBlock ∧ some k_ ≠ (.slice Ao29 t348.length co29 : Value).ownBlock ∧ some k_ ≠ (v366 : Value).ownBlock) (fun _ => False) rfl rfl ?aO ?aR (fun _ _ h => h) (fun _ h => h.elim) ?aF ?aB ?aS ?aL ?_
         (case aR => repeat (first | exact (by repeat (first | (with_reducible exact HR371.out) | (with_reducible refine Kd.C_alloc ?_ _) | (with_reducible refine Kd.C_drewN ?_ _) | (with_reducible refine Kd.C_drew ?_) | exact HR371.out)) | (with_reducible refine Kd.C_alloc ?_ _) | (with_reducible refine Kd.C_drewN ?_ _) | (with_reducible refine Kd.C_drew ?_)))
         (case aB => exact (by repeat (first | (with_reducible first | exact HB.out | apply below_alloc | apply pw_below_drewN | apply below_drew1) | exact HB.out)))
         (case aF => exact (fun k_ hk => ⟨Kd.fresh' (Kd.R_lt (by (with_reducible repeat (first | apply Kd.R_alloc | apply Kd.R_drewN | apply Kd.R_drew)); exact HO347.out)) k_ hk, Kd.fresh' (Kd.R_lt (by (with_reducible repeat (first | apply Kd.R_alloc | apply Kd.R_drewN | apply Kd.R_drew)); exact HO350.out)) k_ hk, Kd.fresh' (Kd.R_lt (by (with_reducible repeat (first | apply Kd.R_alloc | apply Kd.R_drewN | apply Kd.R_drew)); exact HO367.out)) k_ hk⟩))
         (case aO => exact ((Kd.R_nil _ _ _ _ (fun k_ => some k_ ≠ (.slice Ao28 t345.length co28 : Value).ownBlock ∧ some k_ ≠ (.slice Ao29 t348.length co29 : Value).ownBlock ∧ some k_ ≠ (v366 : Value).ownBlock))))
         (case aS => exact (below_size (by repeat (first | (with_reducible first | exact HB.out | apply below_alloc | apply pw_below_drewN | apply below_drew1) | exact HB.out))))
         (case aL => have := LMc20.out; omega)
         intro v373 w38 ho hb hg hat
         rw [← Ny372.out] at ho
         have n0_ := Aside0.mk (Kd.R_after (Kd.R_apart_nil (by (with_reducible repeat (first | apply Kd.R_alloc | apply Kd.R_drewN | apply Kd.R_drew)); exact HO347.out)) hg hat)
         have n1_ := Aside0.mk (Kd.R_after (Kd.R_apart_nil (by (with_reducible repeat (first | apply Kd.R_alloc | apply Kd.R_drewN | apply Kd.R_drew)); exact HO350.out)) hg hat)
         have n2_ := Aside0.mk (Kd.R_after (Kd.R_apart_nil (by (with_reducible repeat (first | apply Kd.R_alloc | apply Kd.R_drewN | apply Kd.R_drew)); exact HO367.out)) hg hat)
         have n3_ := Aside0.mk (hb)
         have n4_ := Aside0.mk ((show Kd.C k33 w38 A31 y354.length y354 from by rw [Ny354.out, KA31.out]; exact Kd.C_drop (m := (t352 : Int).toNat) (c := co28) ((Kd.R_reads' (Kd.R_after (Kd.R_apart_nil (by (with_reducible repeat (first | apply Kd.R_alloc | apply Kd.R_drewN | apply Kd.R_drew)); exact HO347.out)) hg hat)).2.2) KL31.out ((Kd.R_reads' (Kd.R_after (Kd.R_apart_nil (by (with_reducible repeat (first | apply Kd.R_alloc | apply Kd.R_drewN | apply Kd.R_drew)); exact HO347.out)) hg hat)).2.1)))
         have n5_ := Aside0.mk ((show Kd.C k33 w38 Ao28 y361.length y361 from by rw [Ny361.out]; exact Kd.C_take (m := (t352 : Int).toNat) ((Kd.R_reads' (Kd.R_after (Kd.R_apart_nil (by (with_reducible repeat (first | apply Kd.R_alloc | apply Kd.R_drewN | apply Kd.R_drew)); exact HO347.out)) hg hat)).2.2) KL32.out))
         have n6_ := Aside0.mk ((show Kd.C k33 w38 A36 y368.length y368 from by rw [Ny368.out, KA36.out]; exact Kd.C_drop (m := (t353 : Int).toNat) (c := co29) ((Kd.R_reads' (Kd.R_after (Kd.R_apart_nil (by (with_reducible repeat (first | apply Kd.R_alloc | apply Kd.R_drewN | apply Kd.R_drew)); exact HO350.out)) hg hat)).2.2) KL36.out ((Kd.R_reads' (Kd.R_after (Kd.R_apart_nil (by (with_reducible repeat (first | apply Kd.R_alloc | apply Kd.R_drewN | apply Kd.R_drew)); exact HO350.out)) hg hat)).2.1)))
         have n7_ := Aside0.mk ((show Kd.C k33 w38 Ao29 y375.length y375 from by rw [Ny375.out]; exact Kd.C_take (m := (t353 : Int).toNat) ((Kd.R_reads' (Kd.R_after (Kd.R_apart_nil (by (with_reducible repeat (first | apply Kd.R_alloc | apply Kd.R_drewN | apply Kd.R_drew)); exact HO350.out)) hg hat)).2.2) KL37.out))
         have n8_ := Aside0.mk (ho)
         clear HO347
         clear HO350
         clear HO367
         clear HB
         clear HR357
         clear HR364
         clear HR371
         clear HR378
         have HO347 := n0_
         have HO350 := n1_
         have HO367 := n2_
         have HB := n3_
         have HR357 := n4_
         have HR364 := n5_
         have HR371 := n6_
         have HR378 := n7_
         have HO374 := n8_
         clear n0_ n1_ n2_ n3_ n4_ n5_ n6_ n7_ n8_
         clear ho hb hg hat
         refine hK.out _ _ trivial (fun hHeld => ?_)
         clear hK K
         refine norm_ (a' := ?_) ?_ ?_
         rotate_left
         ·show Act.put _ (some 51) _ = _
          simp only [Act.put, List.setIfInBounds_toArray, List.set_cons_zero, List.set_cons_succ, i64_w, i32_w]
          rfl
         refine one_ (i := 7) (N := some 55) #[true, true, true, true, true, true, true, true, false] rfl rfl (one_of HT_.out (by kernel_rfl)) (by decide) (fun K hK => ?_)
         refine Kd.R_append_rows_step k33 (w0 := w) w.heap.size (by rfl) (.tmp 51) (.tmp 54) 23 33 (.agg #[(.string ⟨#[]⟩), (.int .i64 0), (.string ⟨#[]⟩), (.bool false)]) 48 rfl Try.underlying23 info33 rfl (by decide) (by omega) v373 y372 y375 _ _ _ (fun k_ => some k_ ≠ (.slice Ao28 t345.length co28 : Value).ownBlock ∧ some k_ ≠ (.slice Ao29 t348.length co29 : Value).ownBlock ∧ some k_ ≠ (v366 : Value).ownBlock) (fun _ => False) rfl rfl ?aO ?aR (fun _ _ h => h) (fun _ h => h.elim) ?aF ?aB ?aS ?aL ?_
         (case aR => repeat (first | exact (by repeat (first | (with_reducible exact HR378.out) | (with_reducible refine Kd.C_alloc ?_ _) | (with_reducible refine Kd.C_drewN ?_ _) | (with_reducible refine Kd.C_drew ?_) | exact HR378.out)) | (with_reducible refine Kd.C_alloc ?_ _) | (with_reducible refine Kd.C_drewN ?_ _) | (with_reducible refine Kd.C_drew ?_)))
         (case aB => exact (by repeat (first | (with_reducible first | exact HB.out | apply below_alloc | apply pw_below_drewN | apply below_drew1) | exact HB.out)))
         (case aF => exact (fun k_ hk => ⟨Kd.fresh' (Kd.R_lt (by (with_reducible repeat (first | apply Kd.R_alloc | apply Kd.R_drewN | apply Kd.R_drew)); exact HO347.out)) k_ hk, Kd.fresh' (Kd.R_lt (by (with_reducible repeat (first | apply Kd.R_alloc | apply Kd.R_drewN | apply Kd.R_drew)); exact HO350.out)) k_ hk, Kd.fresh' (Kd.R_lt (by (with_reducible repeat (first | apply Kd.R_alloc | apply Kd.R_drewN | apply Kd.R_drew)); exact HO367.out)) k_ hk⟩))
         (case aO => exact (by (with_reducible repeat (first | apply Kd.R_alloc | apply Kd.R_drewN | apply Kd.R_drew)); exact HO374.out))
         (case aS => exact (below_size (by repeat (first | (with_reducible first | exact HB.out | apply below_alloc | apply pw_below_drewN | apply below_drew1) | exact HB.out))))
         (case aL => have := LMc23.out; omega)
         intro v380 w39 ho hb hg hat
         rw [← Ny379.out] at ho
         have n0_ := Aside0.mk (Kd.R_after (ok := (fun k_ => some k_ ≠ (.slice Ao29 t348.length co29 : Value).ownBlock ∧ some k_ ≠ (v366 : Value).ownBlock)) (by (with_reducible repeat (first | apply Kd.R_alloc | apply Kd.R_drewN | apply Kd.R_drew)); exact HO347.out) hg hat)
         have n1_ := Aside0.mk (Kd.R_after (ok := (fun k_ => some k_ ≠ (.slice Ao28 t345.length co28 : Value).ownBlock ∧ some k_ ≠ (v366 : Value).ownBlock)) (by (with_reducible repeat (first | apply Kd.R_alloc | apply Kd.R_drewN | apply Kd.R_drew)); exact HO350.out) hg hat)
         have n2_ := Aside0.mk (Kd.R_after (ok := (fun k_ => some k_ ≠ (.slice Ao28 t345.length co28 : Value).ownBlock ∧ some k_ ≠ (.slice Ao29 t348.length co29 : Value).ownBlock)) (by (with_reducible repeat (first | apply Kd.R_alloc | apply Kd.R_drewN | apply Kd.R_drew)); exact HO367.out) hg hat)
         have n3_ := Aside0.mk (hb)
         have n4_ := Aside0.mk ((show Kd.C k33 w39 A31 y354.length y354 from by rw [Ny354.out, KA31.out]; exact Kd.C_drop (m := (t352 : Int).toNat) (c := co28) ((Kd.R_reads' (Kd.R_after (ok := (fun k_ => some k_ ≠ (.slice Ao29 t348.length co29 : Value).ownBlock ∧ some k_ ≠ (v366 : Value).ownBlock)) (by (with_reducible repeat (first | apply Kd.R_alloc | apply Kd.R_drewN | apply Kd.R_drew)); exact HO347.out) hg hat)).2.2) KL31.out ((Kd.R_reads' (Kd.R_after (ok := (fun k_ => some k_ ≠ (.slice Ao29 t348.length co29 : Value).ownBlock ∧ some k_ ≠ (v366 : Value).ownBlock)) (by (with_reducible repeat (first | apply Kd.R_alloc | apply Kd.R_drewN | apply Kd.R_drew)); exact HO347.out) hg hat)).2.1)))
         have n5_ := Aside0.mk ((show Kd.C k33 w39 Ao28 y361.length y361 from by rw [Ny361.out]; exact Kd.C_take (m := (t352 : Int).toNat) ((Kd.R_reads' (Kd.R_after (ok := (fun k_ => some k_ ≠ (.slice Ao29 t348.length co29 : Value).ownBlock ∧ some k_ ≠ (v366 : Value).ownBlock)) (by (with_reducible repeat (first | apply Kd.R_alloc | apply Kd.R_drewN | apply Kd.R_drew)); exact HO347.out) hg hat)).2.2) KL32.out))
         have n6_ := Aside0.mk ((show Kd.C k33 w39 A36 y368.length y368 from by rw [Ny368.out, KA36.out]; exact Kd.C_drop (m := (t353 : Int).toNat) (c := co29) ((Kd.R_reads' (Kd.R_after (ok := (fun k_ => some k_ ≠ (.slice Ao28 t345.length co28 : Value).ownBlock ∧ some k_ ≠ (v366 : Value).ownBlock)) (by (with_reducible repeat (first | apply Kd.R_alloc | apply Kd.R_drewN | apply Kd.R_drew)); exact HO350.out) hg hat)).2.2) KL36.out ((Kd.R_reads' (Kd.R_after (ok := (fun k_ => some k_ ≠ (.slice Ao28 t345.length co28 : Value).ownBlock ∧ some k_ ≠ (v366 : Value).ownBlock)) (by (with_reducible repeat (first | apply Kd.R_alloc | apply Kd.R_drewN | apply Kd.R_drew)); exact HO350.out) hg hat)).2.1)))
         have n7_ := Aside0.mk ((show Kd.C k33 w39 Ao29 y375.length y375 from by rw [Ny375.out]; exact Kd.C_take (m := (t353 : Int).toNat) ((Kd.R_reads' (Kd.R_after (ok := (fun k_ => some k_ ≠ (.slice Ao28 t345.length co28 : Value).ownBlock ∧ some k_ ≠ (v366 : Value).ownBlock)) (by (with_reducible repeat (first | apply Kd.R_alloc | apply Kd.R_drewN | apply Kd.R_drew)); exact HO350.out) hg hat)).2.2) KL37.out))
         have n8_ := Aside0.mk (ho)
         clear HO347
         clear HO350
         clear HO367
         clear HB
         clear HR357
         clear HR364
         clear HR371
         clear HR378
         clear HO374
         have HO347 := n0_
         have HO350 := n1_
         have HO367 := n2_
         have HB := n3_
         have HR357 := n4_
         have HR364 := n5_
         have HR371 := n6_
         have HR378 := n7_
         have HO381 := n8_
         clear n0_ n1_ n2_ n3_ n4_ n5_ n6_ n7_ n8_
         clear ho hb hg hat
         refine hK.out _ _ trivial (fun hHeld => ?_)
         clear hK K
         refine norm_ (a' := ?_) ?_ ?_
         rotate_left
         ·show Act.put _ (some 55) _ = _
          simp only [Act.put, List.setIfInBounds_toArray, List.set_cons_zero, List.set_cons_succ, i64_w, i32_w]
          rfl
         refine pure_ (i := 8) (N := some 18) (v := ?_) (a' := ?_) #[true, true, true, true, true, true, true, true, true] rfl rfl (any_of HT_.out (by kernel_rfl)) (fun _ _ _ h => h) (Or.inl ⟨by rfl, ?_⟩) ?_ ?_
         rotate_left
         ·intro w'
          go_simp
          with_reducible rfl
         rotate_left
         ·simp only [Act.put, List.setIfInBounds_toArray, List.set_cons_zero, List.set_cons_succ, i64_w, i32_w]
          rfl
         refine done_ (done_of HT_.out (by kernel_rfl)) ?_
         obtain ⟨Ao40, co40, eo40⟩ := Kd.R_slice HO367.out
         subst eo40
         try go_wp2_with (first | ((with_reducible refine gate_callee (f := 11) rfl ?_); refine goesL_ _ rfl rfl Try.func11 (by kernel_rfl) rfl #[.slice Ao28 t345.length co28, .slice Ao40 y365.length co40, .int .i64 t351] rfl (by (try simp only [List.map_toArray, List.map_cons, List.map_nil]); first | done | rfl | (simp only [List.length_drop, List.length_take]; rfl)) ?_; (with_reducible refine (rename_Pairs.calls _ _ t345 _ _ y365 t351 t382 _ ?side1 ?side2 ?side3 ?side4 A24.out).mono ?_); (case side1 => repeat (first | exact (Kd.R_reads' HO347.out).2.2 | (with_reducible refine Kd.C_alloc ?_ _) | (with_reducible refine Kd.C_drewN ?_ _) | (with_reducible refine Kd.C_drew ?_))); (case side2 => exact (Kd.R_reads' HO347.out).2.1); (case side3 => repeat (first | exact (Kd.R_reads' HO367.out).2.2 | (with_reducible refine Kd.C_alloc ?_ _) | (with_reducible refine Kd.C_drewN ?_ _) | (with_reducible refine Kd.C_drew ?_))); (case side4 => exact (Kd.R_reads' HO367.out).2.1); rintro e w41 ⟨v383, rfl, ho0, hb⟩; refine ⟨_, rfl, ?_⟩; have n0_ := Aside0.mk (Kd.R_below (by (with_reducible repeat (first | apply Kd.R_alloc | apply Kd.R_drewN | apply Kd.R_drew)); exact HO347.out) hb); have n1_ := Aside0.mk (Kd.R_below (by (with_reducible repeat (first | apply Kd.R_alloc | apply Kd.R_drewN | apply Kd.R_drew)); exact HO350.out) hb); have n2_ := Aside0.mk (Kd.R_below (by (with_reducible repeat (first | apply Kd.R_alloc | apply Kd.R_drewN | apply Kd.R_drew)); exact HO367.out) hb); have n3_ := Aside0.mk (Kd.R_below (by (with_reducible repeat (first | apply Kd.R_alloc | apply Kd.R_drewN | apply Kd.R_drew)); exact HO381.out) hb); have n4_ := Aside0.mk (Kd.R_lower ho0 (below_size (by repeat (first | (with_reducible first | exact HB.out | apply below_alloc | apply pw_below_drewN | apply below_drew1) | exact HB.out)))); have n5_ := Aside0.mk (Kd.C_below (by repeat (first | (with_reducible exact HR357.out) | (with_reducible refine Kd.C_alloc ?_ _) | (with_reducible refine Kd.C_drewN ?_ _) | (with_reducible refine Kd.C_drew ?_) | exact HR357.out)) hb); have n6_ := Aside0.mk (Kd.C_below (by repeat (first | (with_reducible exact HR364.out) | (with_reducible refine Kd.C_alloc ?_ _) | (with_reducible refine Kd.C_drewN ?_ _) | (with_reducible refine Kd.C_drew ?_) | exact HR364.out)) hb); have n7_ := Aside0.mk (Kd.C_below (by repeat (first | (with_reducible exact HR371.out) | (with_reducible refine Kd.C_alloc ?_ _) | (with_reducible refine Kd.C_drewN ?_ _) | (with_reducible refine Kd.C_drew ?_) | exact HR371.out)) hb); have n8_ := Aside0.mk (Kd.C_below (by repeat (first | (with_reducible exact HR378.out) | (with_reducible refine Kd.C_alloc ?_ _) | (with_reducible refine Kd.C_drewN ?_ _) | (with_reducible refine Kd.C_drew ?_) | exact HR378.out)) hb); have n9_ := Aside0.mk (below_step (by repeat (first | (with_reducible first | exact HB.out | apply below_alloc | apply pw_below_drewN | apply below_drew1) | exact HB.out)) hb); clear HO347; clear HO350; clear HO367; clear HO381; clear HR357; clear HR364; clear HR371; clear HR378; clear HB; have HO347 := n0_; have HO350 := n1_; have HO367 := n2_; have HO381 := n3_; have HO384 := n4_; have HR357 := n5_; have HR364 := n6_; have HR371 := n7_; have HR378 := n8_; have HB := n9_; clear n0_ n1_ n2_ n3_ n4_ n5_ n6_ n7_ n8_ n9_; (try clear hb); (try clear hb2); (try clear hk); (try clear hi); (try clear ho0)))
         go_loopg [20, 21] k (fun kq v20 v21 w' => ∃ (x20_1 : Int) (x21_1 : Int), v20 = .int .i64 x20_1 ∧ v21 = .int .i64 x21_1 ∧ Aside0 (collatorlaw08_RenameOrder.l0 kq t344 t345 t348 t351 y365 y379 t382 x20_1 x21_1 = some r) ∧ Aside0 (kq ≤ k) ∧ Aside0 (Kd.R k33 33 w' w.heap.size (fun k_ => some k_ ≠ ((.slice Ao29 t348.length co29) : Value).ownBlock ∧ some k_ ≠ ((.slice Ao40 y365.length co40) : Value).ownBlock ∧ some k_ ≠ (v380 : Value).ownBlock) (.slice Ao28 t345.length co28) t345) ∧ Aside0 (Kd.R k33 33 w' w.heap.size (fun k_ => some k_ ≠ ((.slice Ao28 t345.length co28) : Value).ownBlock ∧ some k_ ≠ ((.slice Ao40 y365.length co40) : Value).ownBlock ∧ some k_ ≠ (v380 : Value).ownBlock) (.slice Ao29 t348.length co29) t348) ∧ Aside0 (Kd.R k33 33 w' w.heap.size (fun k_ => some k_ ≠ ((.slice Ao28 t345.length co28) : Value).ownBlock ∧ some k_ ≠ ((.slice Ao29 t348.length co29) : Value).ownBlock ∧ some k_ ≠ (v380 : Value).ownBlock) (.slice Ao40 y365.length co40) y365) ∧ Aside0 (Kd.R k33 33 w' w.heap.size (fun k_ => some k_ ≠ ((.slice Ao28 t345.length co28) : Value).ownBlock ∧ some k_ ≠ ((.slice Ao29 t348.length co29) : Value).ownBlock ∧ some k_ ≠ ((.slice Ao40 y365.length co40) : Value).ownBlock) v380 y379) ∧ Aside0 (Kd.R k35 35 w' w.heap.size (fun _ => True) v383 t382) ∧ Aside0 (Below w.heap.size w w'))
         case atStart => exact ⟨(0), (0), (by first | rfl | (simp; done) | (simp [*]; done)), (by first | rfl | (simp; done) | (simp [*]; done)), H', ⟨Nat.le_refl _⟩, ⟨by (with_reducible repeat (first | apply Kd.R_alloc | apply Kd.R_drewN | apply Kd.R_drew)); exact Kd.R_mono HO347.out (fun _ hk => ⟨hk.1.1, ⟨hk.1.2, hk.2⟩⟩)⟩, ⟨by (with_reducible repeat (first | apply Kd.R_alloc | apply Kd.R_drewN | apply Kd.R_drew)); exact Kd.R_mono HO350.out (fun _ hk => ⟨hk.1.1, ⟨hk.1.2, hk.2⟩⟩)⟩, ⟨by (with_reducible repeat (first | apply Kd.R_alloc | apply Kd.R_drewN | apply Kd.R_drew)); exact Kd.R_mono HO367.out (fun _ hk => ⟨hk.1.1, ⟨hk.1.2, hk.2⟩⟩)⟩, ⟨by (with_reducible repeat (first | apply Kd.R_alloc | apply Kd.R_drewN | apply Kd.R_drew)); exact HO381.out⟩, ⟨by (with_reducible repeat (first | apply Kd.R_alloc | apply Kd.R_drewN | apply Kd.R_drew)); exact HO384.out⟩, ⟨by repeat (first | (with_reducible first | exact HB.out | apply below_alloc | apply pw_below_drewN | apply below_drew1) | exact HB.out)⟩⟩
         case round =>
          clear H'
          (try clear c1);(try clear c2);(try clear p2);(try clear c3);(try clear q3);(try clear c4);(try clear p6);(try clear c7);(try clear c9);(try clear c11);(try clear c12);(try clear c12b0);(try clear c12b1);(try clear c13);(try clear c13b0);(try clear c13b1);(try clear c14);(try clear c15);(try clear c15b0);(try clear c16);(try clear c16b0);(try clear c17);(try clear c18);(try clear c18b0);(try clear c18b1);(try clear c19);(try clear c19b0);(try clear c19b1);(try clear c20);(try clear c21);(try clear c21b0);(try clear c22);(try clear c22b0);(try clear c23);(try clear c31);(try clear q31);(try clear q32);(try clear c36);(try clear q36);(try clear q37);(try clear q031);(try clear q036);(try clear q31);(try clear q32);(try clear q36);(try clear q37)
          obtain ⟨x20_1, x21_1, rfl, rfl, HA, HK1, HO_12, HO_13, HO_17, HO_18, HO_19, HB⟩ := hrel
          cases gk with
          | zero => exact absurd HA.out (by simp [collatorlaw08_RenameOrder.l0])
          | succ k1 =>
           have H := HA.out
           clear HA
           simp only [collatorlaw08_RenameOrder.l0] at H
           by_cases c42 : x21_1 < (t345.length : Int)
           ·rw [if_pos c42] at H
            have c42b0 : decide (x21_1 < (t345.length : Int)) = true := decide_eq_true c42
            clear c42
            by_cases c43 : 0 ≤ x21_1
            ·rw [if_pos c43] at H
             have c43b0 : decide (0 ≤ x21_1) = true := decide_eq_true c43
             clear c43
             by_cases c44 : ((rd_T33 t345 x21_1).f1) = 2
             ·rw [if_pos c44] at H
              have c44b0 : (((rd_T33 t345 x21_1).f1) == 2) = true := beq_iff_eq.mpr c44
              have c44b1 : (((rd_T33 t345 x21_1).f1) != 2) = false := bne_eq_false_iff_eq.mpr c44
              clear c44
              have H' := Aside0.mk H
              clear H
              have p385 : 0 ≤ (x21_1 : Int) := of_decide_eq_true (by first | (with_reducible assumption) | assumption)
              have q385 : x21_1 < (t345.length : Int) := of_decide_eq_true (by first | (with_reducible assumption) | assumption)
              obtain ⟨ad385, e385, hx385_0, hx385_1, hx385_2, hx385_3⟩ := at_T33 (Kd.R_reads' HO_12.out).2.2 x21_1 p385 q385
              cases e385
              replace p385 := eq_true p385
              replace q385 := eq_true q385
              go_wp2
              go_roundg k1
              case measure => have := HK1.out; omega
              case rel => exact ⟨(wrap64 (x20_1 + 1)), (wrap64 (x21_1 + 1)), (by first | rfl | (simp; done) | (simp [*]; done)), (by first | rfl | (simp; done) | (simp [*]; done)), H', ⟨by have := HK1.out; omega⟩, ⟨by (with_reducible repeat (first | apply Kd.R_alloc | apply Kd.R_drewN | apply Kd.R_drew)); exact HO_12.out⟩, ⟨by (with_reducible repeat (first | apply Kd.R_alloc | apply Kd.R_drewN | apply Kd.R_drew)); exact HO_13.out⟩, ⟨by (with_reducible repeat (first | apply Kd.R_alloc | apply Kd.R_drewN | apply Kd.R_drew)); exact HO_17.out⟩, ⟨by (with_reducible repeat (first | apply Kd.R_alloc | apply Kd.R_drewN | apply Kd.R_drew)); exact HO_18.out⟩, ⟨by (with_reducible repeat (first | apply Kd.R_alloc | apply Kd.R_drewN | apply Kd.R_drew)); exact HO_19.out⟩, ⟨by repeat (first | (with_reducible first | exact HB.out | apply below_alloc | apply pw_below_drewN | apply below_drew1) | exact HB.out)⟩⟩
             ·rw [if_neg c44] at H
              have c44b0 : (((rd_T33 t345 x21_1).f1) == 2) = false := beq_eq_false_iff_ne.mpr c44
              have c44b1 : (((rd_T33 t345 x21_1).f1) != 2) = true := bne_iff_ne.mpr c44
              have H' := Aside0.mk H
              clear H
              have p385 : 0 ≤ (x21_1 : Int) := of_decide_eq_true (by first | (with_reducible assumption) | assumption)
              have q385 : x21_1 < (t345.length : Int) := of_decide_eq_true (by first | (with_reducible assumption) | assumption)
              obtain ⟨ad385, e385, hx385_0, hx385_1, hx385_2, hx385_3⟩ := at_T33 (Kd.R_reads' HO_12.out).2.2 x21_1 p385 q385
              cases e385
              replace p385 := eq_true p385
              replace q385 := eq_true q385
              go_wp2
              go_roundg k1
              case measure => have := HK1.out; omega
              case rel => exact ⟨(x20_1), (wrap64 (x21_1 + 1)), (by first | rfl | (simp; done) | (simp [*]; done)), (by first | rfl | (simp; done) | (simp [*]; done)), H', ⟨by have := HK1.out; omega⟩, ⟨by (with_reducible repeat (first | apply Kd.R_alloc | apply Kd.R_drewN | apply Kd.R_drew)); exact HO_12.out⟩, ⟨by (with_reducible repeat (first | apply Kd.R_alloc | apply Kd.R_drewN | apply Kd.R_drew)); exact HO_13.out⟩, ⟨by (with_reducible repeat (first | apply Kd.R_alloc | apply Kd.R_drewN | apply Kd.R_drew)); exact HO_17.out⟩, ⟨by (with_reducible repeat (first | apply Kd.R_alloc | apply Kd.R_drewN | apply Kd.R_drew)); exact HO_18.out⟩, ⟨by (with_reducible repeat (first | apply Kd.R_alloc | apply Kd.R_drewN | apply Kd.R_drew)); exact HO_19.out⟩, ⟨by repeat (first | (with_reducible first | exact HB.out | apply below_alloc | apply pw_below_drewN | apply below_drew1) | exact HB.out)⟩⟩
            ·rw [if_neg c43] at H
             exact absurd H (by simp)
           ·rw [if_neg c42] at H
            have c42b0 : decide (x21_1 < (t345.length : Int)) = false := decide_eq_false c42
            clear c42
            have H' := Aside0.mk H
            clear H
            go_wp2
            go_loopg [22] k1 (fun kq v22 w' => ∃ (x22_2 : Int), v22 = .int .i64 x22_2 ∧ Aside0 (collatorlaw08_RenameOrder.l1 kq t344 t345 t348 t351 y365 y379 t382 x20_1 x22_2 = some r) ∧ Aside0 (kq ≤ k1) ∧ Aside0 (Kd.R k33 33 w' w.heap.size (fun k_ => some k_ ≠ ((.slice Ao29 t348.length co29) : Value).ownBlock ∧ some k_ ≠ ((.slice Ao40 y365.length co40) : Value).ownBlock ∧ some k_ ≠ (v380 : Value).ownBlock) (.slice Ao28 t345.length co28) t345) ∧ Aside0 (Kd.R k33 33 w' w.heap.size (fun k_ => some k_ ≠ ((.slice Ao28 t345.length co28) : Value).ownBlock ∧ some k_ ≠ ((.slice Ao40 y365.length co40) : Value).ownBlock ∧ some k_ ≠ (v380 : Value).ownBlock) (.slice Ao29 t348.length co29) t348) ∧ Aside0 (Kd.R k33 33 w' w.heap.size (fun k_ => some k_ ≠ ((.slice Ao28 t345.length co28) : Value).ownBlock ∧ some k_ ≠ ((.slice Ao29 t348.length co29) : Value).ownBlock ∧ some k_ ≠ (v380 : Value).ownBlock) (.slice Ao40 y365.length co40) y365) ∧ Aside0 (Kd.R k33 33 w' w.heap.size (fun k_ => some k_ ≠ ((.slice Ao28 t345.length co28) : Value).ownBlock ∧ some k_ ≠ ((.slice Ao29 t348.length co29) : Value).ownBlock ∧ some k_ ≠ ((.slice Ao40 y365.length co40) : Value).ownBlock) v380 y379) ∧ Aside0 (Kd.R k35 35 w' w.heap.size (fun _ => True) v383 t382) ∧ Aside0 (Below w.heap.size w w'))
            case atStart => exact ⟨(0), (by first | rfl | (simp; done) | (simp [*]; done)), H', ⟨Nat.le_refl _⟩, ⟨by (with_reducible repeat (first | apply Kd.R_alloc | apply Kd.R_drewN | apply Kd.R_drew)); exact HO_12.out⟩, ⟨by (with_reducible repeat (first | apply Kd.R_alloc | apply Kd.R_drewN | apply Kd.R_drew)); exact HO_13.out⟩, ⟨by (with_reducible repeat (first | apply Kd.R_alloc | apply Kd.R_drewN | apply Kd.R_drew)); exact HO_17.out⟩, ⟨by (with_reducible repeat (first | apply Kd.R_alloc | apply Kd.R_drewN | apply Kd.R_drew)); exact HO_18.out⟩, ⟨by (with_reducible repeat (first | apply Kd.R_alloc | apply Kd.R_drewN | apply Kd.R_drew)); exact HO_19.out⟩, ⟨by repeat (first | (with_reducible first | exact HB.out | apply below_alloc | apply pw_below_drewN | apply below_drew1) | exact HB.out)⟩⟩
            case round =>
             clear H'
             (try clear c1);(try clear c2);(try clear p2);(try clear c3);(try clear p3);(try clear q3);(try clear hx3);(try clear c4);(try clear p6);(try clear c7);(try clear c9);(try clear c11);(try clear c12);(try clear c12b0);(try clear c12b1);(try clear c13);(try clear c13b0);(try clear c13b1);(try clear c14);(try clear c15);(try clear c15b0);(try clear c16);(try clear c16b0);(try clear c17);(try clear c18);(try clear c18b0);(try clear c18b1);(try clear c19);(try clear c19b0);(try clear c19b1);(try clear c20);(try clear c21);(try clear c21b0);(try clear c22);(try clear c22b0);(try clear c23);(try clear c31);(try clear q31);(try clear q32);(try clear c36);(try clear q36);(try clear q37);(try clear p38);(try clear q38);(try clear hx38);(try clear c42);(try clear c42b0);(try clear c43);(try clear c43b0);(try clear c44);(try clear c44b0);(try clear c44b1);(try clear hx385_0);(try clear hx385_1);(try clear hx385_2);(try clear hx385_3);(try clear p2);(try clear p385);(try clear p6);(try clear q031);(try clear q036);(try clear q3);(try clear q31);(try clear q32);(try clear q36);(try clear q37);(try clear q385)
             obtain ⟨x22_2, rfl, HA, HK2, HO_12, HO_13, HO_17, HO_18, HO_19, HB⟩ := hrel
             cases gk with
             | zero => exact absurd HA.out (by simp [collatorlaw08_RenameOrder.l1])
             | succ k2 =>
              have H := HA.out
              clear HA
              simp only [collatorlaw08_RenameOrder.l1] at H
              by_cases c45 : x22_2 < (t382.length : Int)
              ·rw [if_pos c45] at H
               have c45b0 : decide (x22_2 < (t382.length : Int)) = true := decide_eq_true c45
               clear c45
               by_cases c46 : 0 ≤ x22_2
               ·rw [if_pos c46] at H
                have c46b0 : decide (0 ≤ x22_2) = true := decide_eq_true c46
                clear c46
                by_cases c47 : ((rd_T35 t382 x22_2).f2) = 100
                ·rw [if_pos c47] at H
                 have c47b0 : (((rd_T35 t382 x22_2).f2) == 100) = true := beq_iff_eq.mpr c47
                 have c47b1 : (((rd_T35 t382 x22_2).f2) != 100) = false := bne_eq_false_iff_eq.mpr c47
                 clear c47
                 have H' := Aside0.mk H
                 clear H
                 obtain ⟨Ao48, co48, eo48⟩ := Kd.R_slice HO_19.out
                 subst eo48
                 have p386 : 0 ≤ (x22_2 : Int) := of_decide_eq_true (by first | (with_reducible assumption) | assumption)
                 have q386 : x22_2 < (t382.length : Int) := of_decide_eq_true (by first | (with_reducible assumption) | assumption)
                 obtain ⟨ad386, e386, hx386_0, hx386_1, hx386_2⟩ := at_T35 (Kd.R_reads' HO_19.out).2.2 x22_2 p386 q386
                 cases e386
                 replace p386 := eq_true p386
                 replace q386 := eq_true q386
                 go_wp2
                 go_roundg k2
                 case measure => have := HK1.out; have := HK2.out; omega
                 case rel => exact ⟨(wrap64 (x22_2 + 1)), (by first | rfl | (simp; done) | (simp [*]; done)), H', ⟨by have := HK1.out; have := HK2.out; omega⟩, ⟨by (with_reducible repeat (first | apply Kd.R_alloc | apply Kd.R_drewN | apply Kd.R_drew)); exact HO_12.out⟩, ⟨by (with_reducible repeat (first | apply Kd.R_alloc | apply Kd.R_drewN | apply Kd.R_drew)); exact HO_13.out⟩, ⟨by (with_reducible repeat (first | apply Kd.R_alloc | apply Kd.R_drewN | apply Kd.R_drew)); exact HO_17.out⟩, ⟨by (with_reducible repeat (first | apply Kd.R_alloc | apply Kd.R_drewN | apply Kd.R_drew)); exact HO_18.out⟩, ⟨by (with_reducible repeat (first | apply Kd.R_alloc | apply Kd.R_drewN | apply Kd.R_drew)); exact HO_19.out⟩, ⟨by repeat (first | (with_reducible first | exact HB.out | apply below_alloc | apply pw_below_drewN | apply below_drew1) | exact HB.out)⟩⟩
                ·rw [if_neg c47] at H
                 have c47b0 : (((rd_T35 t382 x22_2).f2) == 100) = false := beq_eq_false_iff_ne.mpr c47
                 have c47b1 : (((rd_T35 t382 x22_2).f2) != 100) = true := bne_iff_ne.mpr c47
                 obtain rfl := Option.some.inj H
                 obtain ⟨Ao49, co49, eo49⟩ := Kd.R_slice HO_19.out
                 subst eo49
                 have p386 : 0 ≤ (x22_2 : Int) := of_decide_eq_true (by first | (with_reducible assumption) | assumption)
                 have q386 : x22_2 < (t382.length : Int) := of_decide_eq_true (by first | (with_reducible assumption) | assumption)
                 obtain ⟨ad386, e386, hx386_0, hx386_1, hx386_2⟩ := at_T35 (Kd.R_reads' HO_19.out).2.2 x22_2 p386 q386
                 cases e386
                 replace p386 := eq_true p386
                 replace q386 := eq_true q386
                 go_wp2
                 go_ret
                 exact ⟨by first | rfl | (simp [errW_none, errW_some] <;> rfl) | (simp [*, errW_none, errW_some] <;> rfl), by repeat (first | (with_reducible first | exact HB.out | apply below_alloc | apply pw_below_drewN | apply below_drew1) | exact HB.out)⟩
               ·rw [if_neg c46] at H
                exact absurd H (by simp)
              ·rw [if_neg c45] at H
               have c45b0 : decide (x22_2 < (t382.length : Int)) = false := decide_eq_false c45
               clear c45
               by_cases c50 : t344 = true
               ·subst c50
                have H1 : ((rename_Pairs.f t345 t348 t351).bind fun t387 => ((rename_Pairs.f y365 y379 t351).bind fun t390 => ((collatorref08_Same.f k2 t387 t390).bind fun t393 => (if t393 = true then (some ((t382.length : Int) == x20_1)) else (some false))))) = some r := by rw [if_pos rfl] at H; exact H
                clear H
                have H := H1
                clear H1
                replace H := Option.bind_eq_some_iff.mp H
                obtain ⟨t387, A510, H⟩ := H
                replace H : ((rename_Pairs.f y365 y379 t351).bind fun t390 => ((collatorref08_Same.f k2 t387 t390).bind fun t393 => (if t393 = true then (some ((t382.length : Int) == x20_1)) else (some false)))) = some r := H
                have A51 := Aside0.mk A510
                clear A510
                replace H := Option.bind_eq_some_iff.mp H
                obtain ⟨t390, A520, H⟩ := H
                replace H : ((collatorref08_Same.f k2 t387 t390).bind fun t393 => (if t393 = true then (some ((t382.length : Int) == x20_1)) else (some false))) = some r := H
                have A52 := Aside0.mk A520
                clear A520
                replace H := Option.bind_eq_some_iff.mp H
                obtain ⟨t393, A530, H⟩ := H
                replace H : (if t393 = true then (some ((t382.length : Int) == x20_1)) else (some false)) = some r := H
                have A53 := Aside0.mk A530
                clear A530
                by_cases c54 : t393 = true
                ·subst c54
                 have H1 : (some ((t382.length : Int) == x20_1)) = some r := by rw [if_pos rfl] at H; exact H
                 clear H
                 have H := H1
                 clear H1
                 obtain rfl := Option.some.inj H
                 obtain ⟨Ao55, co55, eo55⟩ := Kd.R_slice HO_19.out
                 subst eo55
                 go_wp2_with (first | (go_at_call 11; (with_reducible refine (rename_Pairs.calls _ _ t345 _ _ t348 t351 t387 _ ?side1 ?side2 ?side3 ?side4 A51.out).mono ?_); (case side1 => repeat (first | exact (Kd.R_reads' HO_12.out).2.2 | (with_reducible refine Kd.C_alloc ?_ _) | (with_reducible refine Kd.C_drewN ?_ _) | (with_reducible refine Kd.C_drew ?_))); (case side2 => exact (Kd.R_reads' HO_12.out).2.1); (case side3 => repeat (first | exact (Kd.R_reads' HO_13.out).2.2 | (with_reducible refine Kd.C_alloc ?_ _) | (with_reducible refine Kd.C_drewN ?_ _) | (with_reducible refine Kd.C_drew ?_))); (case side4 => exact (Kd.R_reads' HO_13.out).2.1); rintro e w56 ⟨v388, rfl, ho0, hb⟩; have n0_ := Aside0.mk (Kd.R_below (by (with_reducible repeat (first | apply Kd.R_alloc | apply Kd.R_drewN | apply Kd.R_drew)); exact HO_12.out) hb); have n1_ := Aside0.mk (Kd.R_below (by (with_reducible repeat (first | apply Kd.R_alloc | apply Kd.R_drewN | apply Kd.R_drew)); exact HO_13.out) hb); have n2_ := Aside0.mk (Kd.R_below (by (with_reducible repeat (first | apply Kd.R_alloc | apply Kd.R_drewN | apply Kd.R_drew)); exact HO_17.out) hb); have n3_ := Aside0.mk (Kd.R_below (by (with_reducible repeat (first | apply Kd.R_alloc | apply Kd.R_drewN | apply Kd.R_drew)); exact HO_18.out) hb); have n4_ := Aside0.mk (Kd.R_elder' (by (with_reducible repeat (first | apply Kd.R_alloc | apply Kd.R_drewN | apply Kd.R_drew)); exact HO_19.out) (Kd.R_base ho0) hb); have n5_ := Aside0.mk (Kd.R_lower (Kd.R_new' ho0 (Kd.R_lt (by (with_reducible repeat (first | apply Kd.R_alloc | apply Kd.R_drewN | apply Kd.R_drew)); exact HO_19.out))) (below_size (by repeat (first | (with_reducible first | exact HB.out | apply below_alloc | apply pw_below_drewN | apply below_drew1) | exact HB.out)))); have n10_ := Aside0.mk (below_step (by repeat (first | (with_reducible first | exact HB.out | apply below_alloc | apply pw_below_drewN | apply below_drew1) | exact HB.out)) hb); clear HO_12; clear HO_13; clear HO_17; clear HO_18; clear HO_19; clear HB; have HO_12 := n0_; have HO_13 := n1_; have HO_17 := n2_; have HO_18 := n3_; have HO_19 := n4_; have HO389 := n5_; have HB := n10_; clear n0_ n1_ n2_ n3_ n4_ n5_ ; (try clear hb); (try clear hb2); (try clear hk); (try clear hi); (try clear ho0); (try (obtain ⟨Ao57, co57, eo57⟩ := Kd.R_slice HO_18.out; subst eo57))) | (go_at_call 11; (with_reducible refine (rename_Pairs.calls _ _ y365 _ _ y379 t351 t390 _ ?side1 ?side2 ?side3 ?side4 A52.out).mono ?_); (case side1 => repeat (first | exact (Kd.R_reads' HO_17.out).2.2 | (with_reducible refine Kd.C_alloc ?_ _) | (with_reducible refine Kd.C_drewN ?_ _) | (with_reducible refine Kd.C_drew ?_))); (case side2 => exact (Kd.R_reads' HO_17.out).2.1); (case side3 => repeat (first | exact (Kd.R_reads' HO_18.out).2.2 | (with_reducible refine Kd.C_alloc ?_ _) | (with_reducible refine Kd.C_drewN ?_ _) | (with_reducible refine Kd.C_drew ?_))); (case side4 => exact (Kd.R_reads' HO_18.out).2.1); rintro e w58 ⟨v391, rfl, ho0, hb⟩; have n0_ := Aside0.mk (Kd.R_below (by (with_reducible repeat (first | apply Kd.R_alloc | apply Kd.R_drewN | apply Kd.R_drew)); exact HO_12.out) hb); have n1_ := Aside0.mk (Kd.R_below (by (with_reducible repeat (first | apply Kd.R_alloc | apply Kd.R_drewN | apply Kd.R_drew)); exact HO_13.out) hb); have n2_ := Aside0.mk (Kd.R_below (by (with_reducible repeat (first | apply Kd.R_alloc | apply Kd.R_drewN | apply Kd.R_drew)); exact HO_17.out) hb); have n3_ := Aside0.mk (Kd.R_below (by (with_reducible repeat (first | apply Kd.R_alloc | apply Kd.R_drewN | apply Kd.R_drew)); exact HO_18.out) hb); have n4_ := Aside0.mk (Kd.R_elder' (by (with_reducible repeat (first | apply Kd.R_alloc | apply Kd.R_drewN | apply Kd.R_drew)); exact HO_19.out) (Kd.R_base ho0) hb); have n5_ := Aside0.mk (Kd.R_elder' (by (with_reducible repeat (first | apply Kd.R_alloc | apply Kd.R_drewN | apply Kd.R_drew)); exact HO389.out) (Kd.R_base ho0) hb); have n6_ := Aside0.mk (Kd.R_lower (Kd.R_new' (Kd.R_new' ho0 (Kd.R_lt (by (with_reducible repeat (first | apply Kd.R_alloc | apply Kd.R_drewN | apply Kd.R_drew)); exact HO_19.out))) (Kd.R_lt (by (with_reducible repeat (first | apply Kd.R_alloc | apply Kd.R_drewN | apply Kd.R_drew)); exact HO389.out))) (below_size (by repeat (first | (with_reducible first | exact HB.out | apply below_alloc | apply pw_below_drewN | apply below_drew1) | exact HB.out)))); have n11_ := Aside0.mk (below_step (by repeat (first | (with_reducible first | exact HB.out | apply below_alloc | apply pw_below_drewN | apply below_drew1) | exact HB.out)) hb); clear HO_12; clear HO_13; clear HO_17; clear HO_18; clear HO_19; clear HO389; clear HB; have HO_12 := n0_; have HO_13 := n1_; have HO_17 := n2_; have HO_18 := n3_; have HO_19 := n4_; have HO389 := n5_; have HO392 := n6_; have HB := n11_; clear n0_ n1_ n2_ n3_ n4_ n5_ n6_ n10_ n11_; (try clear hb); (try clear hb2); (try clear hk); (try clear hi); (try clear ho0); (try (obtain ⟨Ao59, co59, eo59⟩ := Kd.R_slice HO389.out; subst eo59)); (try (obtain ⟨Ao60, co60, eo60⟩ := Kd.R_slice HO392.out; subst eo60))) | (go_at_call 10; (with_reducible refine (collatorref08_Same.calls k2 _ _ t387 _ _ t390 true _ ?side1 ?side2 ?side3 ?side4 A53.out).mono ?_); (case side1 => repeat (first | exact (Kd.R_reads' HO389.out).2.2 | (with_reducible refine Kd.C_alloc ?_ _) | (with_reducible refine Kd.C_drewN ?_ _) | (with_reducible refine Kd.C_drew ?_))); (case side2 => exact (Kd.R_reads' HO389.out).2.1); (case side3 => repeat (first | exact (Kd.R_reads' HO392.out).2.2 | (with_reducible refine Kd.C_alloc ?_ _) | (with_reducible refine Kd.C_drewN ?_ _) | (with_reducible refine Kd.C_drew ?_))); (case side4 => exact (Kd.R_reads' HO392.out).2.1); rintro e w' ⟨rfl, ⟨nd, rfl⟩⟩))
                 go_ret
                 exact ⟨by first | rfl | (simp [errW_none, errW_some] <;> rfl) | (simp [*, errW_none, errW_some] <;> rfl), by repeat (first | (with_reducible first | exact HB.out | apply below_alloc | apply pw_below_drewN | apply below_drew1) | exact HB.out)⟩
                ·replace c54 := Bool.eq_false_iff.mpr c54
                 subst c54
                 have H1 : (some false) = some r := by rw [if_neg (show ¬ (false = true) by decide)] at H; exact H
                 clear H
                 have H := H1
                 clear H1
                 obtain rfl := Option.some.inj H
                 obtain ⟨Ao61, co61, eo61⟩ := Kd.R_slice HO_19.out
                 subst eo61
                 go_wp2_with (first | (go_at_call 11; (with_reducible refine (rename_Pairs.calls _ _ t345 _ _ t348 t351 t387 _ ?side1 ?side2 ?side3 ?side4 A51.out).mono ?_); (case side1 => repeat (first | exact (Kd.R_reads' HO_12.out).2.2 | (with_reducible refine Kd.C_alloc ?_ _) | (with_reducible refine Kd.C_drewN ?_ _) | (with_reducible refine Kd.C_drew ?_))); (case side2 => exact (Kd.R_reads' HO_12.out).2.1); (case side3 => repeat (first | exact (Kd.R_reads' HO_13.out).2.2 | (with_reducible refine Kd.C_alloc ?_ _) | (with_reducible refine Kd.C_drewN ?_ _) | (with_reducible refine Kd.C_drew ?_))); (case side4 => exact (Kd.R_reads' HO_13.out).2.1); rintro e w62 ⟨v388, rfl, ho0, hb⟩; have n0_ := Aside0.mk (Kd.R_below (by (with_reducible repeat (first | apply Kd.R_alloc | apply Kd.R_drewN | apply Kd.R_drew)); exact HO_12.out) hb); have n1_ := Aside0.mk (Kd.R_below (by (with_reducible repeat (first | apply Kd.R_alloc | apply Kd.R_drewN | apply Kd.R_drew)); exact HO_13.out) hb); have n2_ := Aside0.mk (Kd.R_below (by (with_reducible repeat (first | apply Kd.R_alloc | apply Kd.R_drewN | apply Kd.R_drew)); exact HO_17.out) hb); have n3_ := Aside0.mk (Kd.R_below (by (with_reducible repeat (first | apply Kd.R_alloc | apply Kd.R_drewN | apply Kd.R_drew)); exact HO_18.out) hb); have n4_ := Aside0.mk (Kd.R_elder' (by (with_reducible repeat (first | apply Kd.R_alloc | apply Kd.R_drewN | apply Kd.R_drew)); exact HO_19.out) (Kd.R_base ho0) hb); have n5_ := Aside0.mk (Kd.R_lower (Kd.R_new' ho0 (Kd.R_lt (by (with_reducible repeat (first | apply Kd.R_alloc | apply Kd.R_drewN | apply Kd.R_drew)); exact HO_19.out))) (below_size (by repeat (first | (with_reducible first | exact HB.out | apply below_alloc | apply pw_below_drewN | apply below_drew1) | exact HB.out)))); have n10_ := Aside0.mk (below_step (by repeat (first | (with_reducible first | exact HB.out | apply below_alloc | apply pw_below_drewN | apply below_drew1) | exact HB.out)) hb); clear HO_12; clear HO_13; clear HO_17; clear HO_18; clear HO_19; clear HB; have HO_12 := n0_; have HO_13 := n1_; have HO_17 := n2_; have HO_18 := n3_; have HO_19 := n4_; have HO389 := n5_; have HB := n10_; clear n0_ n1_ n2_ n3_ n4_ n5_ ; (try clear hb); (try clear hb2); (try clear hk); (try clear hi); (try clear ho0); (try (obtain ⟨Ao63, co63, eo63⟩ := Kd.R_slice HO_18.out; subst eo63))) | (go_at_call 11; (with_reducible refine (rename_Pairs.calls _ _ y365 _ _ y379 t351 t390 _ ?side1 ?side2 ?side3 ?side4 A52.out).mono ?_); (case side1 => repeat (first | exact (Kd.R_reads' HO_17.out).2.2 | (with_reducible refine Kd.C_alloc ?_ _) | (with_reducible refine Kd.C_drewN ?_ _) | (with_reducible refine Kd.C_drew ?_))); (case side2 => exact (Kd.R_reads' HO_17.out).2.1); (case side3 => repeat (first | exact (Kd.R_reads' HO_18.out).2.2 | (with_reducible refine Kd.C_alloc ?_ _) | (with_reducible refine Kd.C_drewN ?_ _) | (with_reducible refine Kd.C_drew ?_))); (case side4 => exact (Kd.R_reads' HO_18.out).2.1); rintro e w64 ⟨v391, rfl, ho0, hb⟩; have n0_ := Aside0.mk (Kd.R_below (by (with_reducible repeat (first | apply Kd.R_alloc | apply Kd.R_drewN | apply Kd.R_drew)); exact HO_12.out) hb); have n1_ := Aside0.mk (Kd.R_below (by (with_reducible repeat (first | apply Kd.R_alloc | apply Kd.R_drewN | apply Kd.R_drew)); exact HO_13.out) hb); have n2_ := Aside0.mk (Kd.R_below (by (with_reducible repeat (first | apply Kd.R_alloc | apply Kd.R_drewN | apply Kd.R_drew)); exact HO_17.out) hb); have n3_ := Aside0.mk (Kd.R_below (by (with_reducible repeat (first | apply Kd.R_alloc | apply Kd.R_drewN | apply Kd.R_drew)); exact HO_18.out) hb); have n4_ := Aside0.mk (Kd.R_elder' (by (with_reducible repeat (first | apply Kd.R_alloc | apply Kd.R_drewN | apply Kd.R_drew)); exact HO_19.out) (Kd.R_base ho0) hb); have n5_ := Aside0.mk (Kd.R_elder' (by (with_reducible repeat (first | apply Kd.R_alloc | apply Kd.R_drewN | apply Kd.R_drew)); exact HO389.out) (Kd.R_base ho0) hb); have n6_ := Aside0.mk (Kd.R_lower (Kd.R_new' (Kd.R_new' ho0 (Kd.R_lt (by (with_reducible repeat (first | apply Kd.R_alloc | apply Kd.R_drewN | apply Kd.R_drew)); exact HO_19.out))) (Kd.R_lt (by (with_reducible repeat (first | apply Kd.R_alloc | apply Kd.R_drewN | apply Kd.R_drew)); exact HO389.out))) (below_size (by repeat (first | (with_reducible first | exact HB.out | apply below_alloc | apply pw_below_drewN | apply below_drew1) | exact HB.out)))); have n11_ := Aside0.mk (below_step (by repeat (first | (with_reducible first | exact HB.out | apply below_alloc | apply pw_below_drewN | apply below_drew1) | exact HB.out)) hb); clear HO_12; clear HO_13; clear HO_17; clear HO_18; clear HO_19; clear HO389; clear HB; have HO_12 := n0_; have HO_13 := n1_; have HO_17 := n2_; have HO_18 := n3_; have HO_19 := n4_; have HO389 := n5_; have HO392 := n6_; have HB := n11_; clear n0_ n1_ n2_ n3_ n4_ n5_ n6_ n10_ n11_; (try clear hb); (try clear hb2); (try clear hk); (try clear hi); (try clear ho0); (try (obtain ⟨Ao65, co65, eo65⟩ := Kd.R_slice HO389.out; subst eo65)); (try (obtain ⟨Ao66, co66, eo66⟩ := Kd.R_slice HO392.out; subst eo66))) | (go_at_call 10; (with_reducible refine (collatorref08_Same.calls k2 _ _ t387 _ _ t390 false _ ?side1 ?side2 ?side3 ?side4 A53.out).mono ?_); (case side1 => repeat (first | exact (Kd.R_reads' HO389.out).2.2 | (with_reducible refine Kd.C_alloc ?_ _) | (with_reducible refine Kd.C_drewN ?_ _) | (with_reducible refine Kd.C_drew ?_))); (case side2 => exact (Kd.R_reads' HO389.out).2.1); (case side3 => repeat (first | exact (Kd.R_reads' HO392.out).2.2 | (with_reducible refine Kd.C_alloc ?_ _) | (with_reducible refine Kd.C_drewN ?_ _) | (with_reducible refine Kd.C_drew ?_))); (case side4 => exact (Kd.R_reads' HO392.out).2.1); rintro e w' ⟨rfl, ⟨nd, rfl⟩⟩))
                 go_ret
                 exact ⟨by first | rfl | (simp [errW_none, errW_some] <;> rfl) | (simp [*, errW_none, errW_some] <;> rfl), by repeat (first | (with_reducible first | exact HB.out | apply below_alloc | apply pw_below_drewN | apply below_drew1) | exact HB.out)⟩
               ·replace c50 := Bool.eq_false_iff.mpr c50
                subst c50
                have H1 : (some false) = some r := by rw [if_neg (show ¬ (false = true) by decide)] at H; exact H
                clear H
                have H := H1
                clear H1
                obtain rfl := Option.some.inj H
                obtain ⟨Ao67, co67, eo67⟩ := Kd.R_slice HO_19.out
                subst eo67
                go_wp2
                go_ret
                exact ⟨by first | rfl | (simp [errW_none, errW_some] <;> rfl) | (simp [*, errW_none, errW_some] <;> rfl), by repeat (first | (with_reducible first | exact HB.out | apply below_alloc | apply pw_below_drewN | apply below_drew1) | exact HB.out)⟩
        ·rw [if_neg c23] at H
         exact absurd H (by simp)
       ·rw [if_neg c20] at H
        exact absurd H (by simp)
      ·rw [if_neg c19] at H
       exact absurd H (by simp)
     ·rw [if_neg c18] at H
      exact absurd H (by simp)
    ·rw [if_neg c17] at H
     exact absurd H (by simp)
   ·rw [if_neg c14] at H
    exact absurd H (by simp)
  ·rw [if_neg c13] at H
   exact absurd H (by simp)
 ·rw [if_neg c12] at H
  exact absurd H (by simp)

/-- THE ONE PURE STATEMENT of collatorlaw08_RenameOrder: yours. -/
def collatorlaw08_RenameOrder.Pure : Prop := ∀ (l0 : List (S41)) (l1 : List (S41)) (a2 : Int) (a3 : Int) (a4 : Int), l0.length ≤ maxLen → l0.length * 56 ≤ 140737488351232 → (∀ x ∈ l0, Go.Proofs.Ytcgnkbdfoaiaiaa.HRaw.OkRaw x) → l1.length ≤ maxLen → l1.length * 56 ≤ 140737488351232 → (∀ x ∈ l1, Go.Proofs.Ytcgnkbdfoaiaiaa.HRaw.OkRaw x) → (Lit.int .i64 a2).wf = true → (Lit.int .i64 a3).wf = true → (Lit.int .i64 a4).wf = true → ∃ k, collatorlaw08_RenameOrder.f k l0 l1 a2 a3 a4 = some true
theorem collatorlaw08_RenameOrder.walk (P : collatorlaw08_RenameOrder.Pure) (a0 : Option Addr) (len0 cap0 : Nat) (z0 : List S41) (a1 : Option Addr) (len1 cap1 : Nat) (z1 : List S41) (a2 : Int) (a3 : Int) (a4 : Int) (w : World) (w0 : Go.Proofs.Ytcgnkbdfoaiaiaa.HRaw.IsRowS w a0 len0 cap0 z0) (y0 : len0 * 56 ≤ 140737488351232) (w1 : Go.Proofs.Ytcgnkbdfoaiaiaa.HRaw.IsRowS w a1 len1 cap1 z1) (y1 : len1 * 56 ≤ 140737488351232) (w2 : (Lit.int .i64 a2).wf = true) (w3 : (Lit.int .i64 a3).wf = true) (w4 : (Lit.int .i64 a4).wf = true) :
  Calls Try.prog 4 #[.slice a0 len0 cap0, .slice a1 len1 cap1, .int .i64 a2, .int .i64 a3, .int .i64 a4] w fun e w' => e = .returned (.bool true) ∧ Below w.heap.size w w' := by
 obtain ⟨l0, rfl, hr0, hm0, hw0, hc0⟩ := Go.Proofs.Ytcgnkbdfoaiaiaa.HRaw.ofRowS w0
 obtain ⟨l1, rfl, hr1, hm1, hw1, hc1⟩ := Go.Proofs.Ytcgnkbdfoaiaiaa.HRaw.ofRowS w1
 obtain ⟨k, h⟩ := P l0 l1 a2 a3 a4 hm0 y0 hw0 hm1 y1 hw1 w2 w3 w4
 refine (collatorlaw08_RenameOrder.calls k _ _ l0 _ _ l1 a2 a3 a4 true w hr0 hc0 hr1 hc1 h).mono ?_
 rintro e w' ⟨rfl, hd⟩
 exact ⟨rfl, hd⟩

end Go.Proofs.Ytcgnkbdfoaiaiaa.P
end
