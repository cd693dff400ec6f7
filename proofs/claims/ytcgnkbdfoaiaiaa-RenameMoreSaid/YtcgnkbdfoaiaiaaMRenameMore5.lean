/- Texts of this claim, joined: EPairsR, EPairsW, EPairsC, Pxf7, Pxf9, Pxf5, QRef, QTree, QPairs, PureRenameMore. -/
import Derived.Test.YtcgnkbdfoaiaiaaMRenameMore4
import Derived.Test.YtcgnkbdfoaiaiaaMRenameMore1
import Derived.Test.YtcgnkbdfoaiaiaaMRenameMore3
section
/- rename.Pairs: the walk of its text. -/
set_option linter.unusedVariables false
set_option linter.unusedSimpArgs false
namespace Go.Proofs.Ytcgnkbdfoaiaiaa.P
open Go Go.RowKit Go.Sort Go.Proofs.YtcgnkbdfoaiaiaaW.PrintWords Go.Proofs.YtcgnkbdfoaiaiaaW.PrintLast Go.Proofs.YtcgnkbdfoaiaiaaW.PrintMore Go.Proofs.Ytcgnkbdfoaiaiaa.Q Go.Proofs.Ytcgnkbdfoaiaiaa.HSet
/-! ### Reading files, pairs -/
theorem Fls.less {b base : Nat} {w : World} {v : Value} {es : List Fe} (h : Fls b w v es) (hle : base ≤ b) : Fls base w v es := ⟨own_less h.1 hle, fun e he => own_less (h.2 e he) hle⟩
theorem Fls.other {base : Nat} {w w' : World} {v u : Value} {es : List Fe} {b n s : Nat} {e : TypeId} {xs : List Value} (h : Fls base w v es) (ho : w.ownsRow b e s u n xs) (hg : w.grownBy w' u.ownBlock) (h1 : 46 ≠ e) (h2 : 9 ≠ e) : Fls base w' v es :=
  ⟨own_other h.1 hg (own_type_ne h.1 ho h1), fun x hx => own_other (h.2 x hx) hg (own_type_ne (h.2 x hx) ho h2)⟩
theorem fflat_seg (es : List Fe) : ∀ (j : Nat) (e : Fe), es[j]? = some e → (fflat es)[j * 2]? = some (.string e.p) ∧ (fflat es)[j * 2 + 1]? = some e.v := by
  induction es with
  | nil => intro j e h; simp at h
  | cons x es ih =>
    intro j e h
    have e0 : fflat (x :: es) = x.cells ++ fflat es := by simp [fflat]
    rw [e0]
    cases j with
    | zero => simp at h; subst h; exact ⟨rfl, rfl⟩
    | succ j =>
      obtain ⟨h1, h2⟩ := ih j e (by simpa using h)
      rw [List.getElem?_append_right (by simp [Fe.cells]; omega), List.getElem?_append_right (by simp [Fe.cells]; omega)]
      have e1 : (j + 1) * 2 - x.cells.length = j * 2 := by simp [Fe.cells]; omega
      have e2 : (j + 1) * 2 + 1 - x.cells.length = j * 2 + 1 := by simp [Fe.cells]; omega
      rw [e1, e2]
      exact ⟨h1, h2⟩
theorem own_at {base e size n : Nat} {w : World} {v : Value} {xs : List Value} (h : w.ownsRow base e size v n xs) (hn : 0 < n) (hs : 0 < size) : ∃ g cap, v = .slice (some ⟨g, 0, none⟩) n cap ∧ ∀ j u, xs[j]? = some u → w.cell? ⟨g, j, none⟩ = some u := by
  rcases h.2 with ⟨_, h0⟩ | ⟨g, cap, cur, rfl, _, hh, _, _, _, ht⟩
  · omega
  · refine ⟨g, cap, rfl, fun j u hj => (blk_cell hh j).trans ?_⟩
    have hl := (List.getElem?_eq_some_iff.1 hj).1
    rw [← ht, List.getElem?_take, if_pos (by have := h.1; omega), Array.getElem?_toList] at hj
    exact hj
/-- File i: its cells, and its lines. -/
theorem Fls.at {base : Nat} {w : World} {A : Option Addr} {n c : Nat} {es : List Fe} (h : Fls base w (.slice A n c) es) (i : Nat) (e : Fe) (hi : es[i]? = some e) :
    ∃ g Ae ce, A = some ⟨g, 0, none⟩ ∧ e.v = .slice Ae e.l.length ce ∧ e.l.length ≤ ce ∧ w.cell? ⟨g, i * 2, none⟩ = some (.string e.p) ∧ w.cell? ⟨g, i * 2 + 1, none⟩ = some (.slice Ae e.l.length ce) ∧ Kd.C Kd.string w Ae e.l.length e.l := by
  have hl := (List.getElem?_eq_some_iff.1 hi).1
  obtain ⟨g, cap, hv, hc⟩ := own_at h.1 (by omega) (by decide)
  obtain ⟨f1, f2⟩ := fflat_seg es i e hi
  have hm : e ∈ es := List.mem_of_getElem? hi
  have hR := Kd.R_of_own (h1 := fun _ => rfl) (ok := fun _ => True) (h.2 e hm) (fun _ _ => trivial)
  obtain ⟨Ae, ce, he, hle, hC⟩ := Kd.R_reads hR
  injection hv with h1 h2 h3
  exact ⟨g, Ae, ce, h1, he, hle, hc _ _ f1, by rw [← he]; exact hc _ _ f2, hC⟩
theorem Fls.reads {base : Nat} {w : World} {v : Value} {es : List Fe} (h : Fls base w v es) {e : Fe} (hm : e ∈ es) {A : Option Addr} {n c : Nat} (he : e.v = .slice A n c) : Kd.C Kd.string w A e.l.length e.l := by
  have hR := Kd.R_of_own (h1 := fun _ => rfl) (ok := fun _ => True) (h.2 e hm) (fun _ _ => trivial)
  obtain ⟨Ae, ce, he', hle, hC⟩ := Kd.R_reads hR
  rw [he] at he'
  injection he' with h1 h2 h3
  rw [h1]
  exact hC
def mkPr (p : S35) (h0 : p.f0.size ≤ 4000000) (h1 : p.f1.size ≤ 4000000) : Pr := ⟨p, h0, h1⟩
theorem pflat_at {base : Nat} {w : World} {A : Option Addr} {n c : Nat} {l : List Pr} (h : w.ownsRow base 35 3 (.slice A n c) l.length (pflat l)) (i : Nat) (x : Pr) (hi : l[i]? = some x) :
    ∃ g, A = some ⟨g, 0, none⟩ ∧ w.cell? ⟨g, i * 3, none⟩ = some (.string x.val.f0) ∧ w.cell? ⟨g, i * 3 + 1, none⟩ = some (.string x.val.f1) ∧ w.cell? ⟨g, i * 3 + 2, none⟩ = some (.int .i64 x.val.f2) := by
  have hl := (List.getElem?_eq_some_iff.1 hi).1
  obtain ⟨g, cap, hv, hc⟩ := own_at h (by omega) (by decide)
  have hg : ∀ r, r < 3 → (pflat l)[i * 3 + r]? = some ((encP x)[r]!) := fun r hr => by
    rw [pflat_get l _ (by omega), show (i * 3 + r) / 3 = i by omega, show (i * 3 + r) % 3 = r by omega, getElem!_pos l i hl]
    rw [List.getElem?_eq_getElem hl] at hi
    injection hi with hi
    rw [hi]
  injection hv with h1 h2 h3
  exact ⟨g, h1, hc _ _ (hg 0 (by omega)), hc _ _ (hg 1 (by omega)), hc _ _ (hg 2 (by omega))⟩
/-! ### What the files are -/
theorem filesL_mem (l : List S33) : ∀ q ∈ filesL l, ∃ x ∈ l, q.1 = x.f0 ∧ q.2 = Q.lines x.f2 ∧ x.f1 = 2 := by
  have gen : ∀ (t : List S33) (st : List ByteArray × List (ByteArray × List ByteArray)), (∀ q ∈ st.2, ∃ x ∈ l, q.1 = x.f0 ∧ q.2 = Q.lines x.f2 ∧ x.f1 = 2) → (∀ x ∈ t, x ∈ l) → ∀ q ∈ (t.foldl stepF st).2, ∃ x ∈ l, q.1 = x.f0 ∧ q.2 = Q.lines x.f2 ∧ x.f1 = 2 := by
    intro t
    induction t with
    | nil => intro st h _; exact h
    | cons x t ih =>
      intro st h ht
      refine ih _ ?_ (fun y hy => ht y (List.mem_cons_of_mem _ hy))
      unfold stepF
      split
      · rename_i hx
        intro q hq
        rcases List.mem_append.1 hq with hq | hq
        · exact h q hq
        · rw [List.mem_singleton.1 hq]; exact ⟨x, ht x List.mem_cons_self, rfl, rfl, hx.1⟩
      · exact h
  exact gen l ([], []) (by simp) (fun x hx => hx)
theorem filesL_len (l : List S33) : (filesL l).length ≤ l.length := by
  have gen : ∀ (t : List S33) (st : List ByteArray × List (ByteArray × List ByteArray)), (t.foldl stepF st).2.length ≤ st.2.length + t.length := by
    intro t
    induction t with
    | nil => intro st; simp
    | cons x t ih =>
      intro st
      have h := ih (stepF st x)
      have h2 : (stepF st x).2.length ≤ st.2.length + 1 := by unfold stepF; split <;> simp
      rw [List.foldl_cons, List.length_cons]
      omega
  have := gen l ([], [])
  unfold filesL
  simpa using this
theorem lnL_size (l : List UInt8) : ∀ q ∈ lnL l, q.length ≤ l.length := by
  intro q hq
  induction l generalizing q with
  | nil => simp [lnL] at hq
  | cons c cs ih =>
    rw [lnL_cons] at hq
    split at hq
    · rcases List.mem_cons.1 hq with rfl | hq
      · rw [List.length_cons, List.length_cons, List.length_nil]; omega
      · have := ih q hq; rw [List.length_cons]; omega
    · split at hq
      · rw [List.mem_singleton.1 hq, List.length_cons, List.length_cons, List.length_nil]; omega
      · rename_i p ps hp
        rcases List.mem_cons.1 hq with rfl | hq
        · have := ih p (by rw [hp]; exact List.mem_cons_self); rw [List.length_cons, List.length_cons]; omega
        · have := ih q (by rw [hp]; exact List.mem_cons_of_mem _ hq); rw [List.length_cons]; omega
theorem lines_size (s : ByteArray) : ∀ q ∈ Q.lines s, q.size ≤ s.size := by
  intro q hq
  unfold Q.lines at hq
  obtain ⟨r, hr, rfl⟩ := List.mem_map.1 hq
  have h1 := lnL_size _ r hr
  have h2 : (bts r).size = r.length := List.size_toArray
  have h3 : s.data.toList.length = s.size := Array.length_toList
  omega
/-- Files of items of which one can tell. -/
def FeOk (e : Fe) : Prop := e.p.size ≤ 4000000 ∧ e.l.length ≤ 4000000 ∧ ∀ s ∈ e.l, s.size ≤ 4000000
theorem feOk_of {l : List S33} (h : PairsOk l) {es : List Fe} (he : es.map Fe.plain = filesL l) : (∀ e ∈ es, FeOk e) ∧ es.length ≤ 1000 := by
  refine ⟨fun e hm => ?_, ?_⟩
  · have h1 : e.plain ∈ filesL l := by rw [← he]; exact List.mem_map_of_mem hm
    obtain ⟨x, hx, h2, h3, _⟩ := filesL_mem l _ h1
    have h4 := h.2 x hx
    have h2' : e.p = x.f0 := h2
    have h3' : e.l = Q.lines x.f2 := h3
    refine ⟨by rw [h2']; exact h4.1, by rw [h3']; have := lines_length_le x.f2; omega, fun s hs => ?_⟩
    rw [h3'] at hs
    have := lines_size x.f2 s hs
    omega
  · have := filesL_len l
    rw [← he, List.length_map] at this
    have := h.1
    omega
theorem score_run (A0 : Option Addr) (c0 : Nat) (l0 : List ByteArray) (A1 : Option Addr) (c1 : Nat) (l1 : List ByteArray) (w : World) (hr0 : Kd.C Kd.string w A0 l0.length l0) (hc0 : l0.length ≤ c0) (hr1 : Kd.C Kd.string w A1 l1.length l1) (hc1 : l1.length ≤ c1)
    (h0 : l0.length ≤ 4000000 ∧ ∀ s ∈ l0, s.size ≤ 4000000) (h1 : l1.length ≤ 4000000 ∧ ∀ s ∈ l1, s.size ≤ 4000000) :
    Calls Try.prog 16 #[.slice A0 l0.length c0, .slice A1 l1.length c1] w fun e w' => e = .returned (.int .i64 (score l0 l1)) ∧ Below w.heap.size w w' := by
  refine alike_Score.calls A0 c0 l0 A1 c1 l1 (score l0 l1) w hr0 hc0 hr1 hc1 ?_
  have h3 := comm_le l1 l0
  obtain ⟨h0, g0⟩ := h0
  obtain ⟨h1, g1⟩ := h1
  have hcm : alike_Common.f l0 l1 = some ((comm l0 l1 : Nat) : Int) := by
    unfold alike_Common.f
    exact if_pos ⟨⟨fun s hs => by have := g0 s hs; omega, fun s hs => by have := g1 s hs; omega⟩, by omega, by omega⟩
  unfold alike_Score.f score
  rw [w64 (x := (l0.length : Int) + (l1.length : Int)) (by omega) (by omega)]
  by_cases h : l0.length + l1.length = 0
  · rw [if_pos (by omega), if_pos h]
  · rw [if_neg (by omega), if_neg h, hcm, Option.bind_some, w64 (x := 200 * (comm l0 l1 : Int)) (by omega) (by omega), Int.tdiv_eq_ediv_of_nonneg (by omega)]
    have h4 := score_range l0 l1
    unfold score at h4
    rw [if_neg h] at h4
    have h5 : (l0.length : Int) + (l1.length : Int) = ((l0.length + l1.length : Nat) : Int) := by omega
    rw [h5, w64 (by omega) (by omega)]
theorem candL_take (old fresh : List (ByteArray × List ByteArray)) (t : Int) (i : Nat) (a : ByteArray × List ByteArray) (h : old[i]? = some a) : candL (old.take (i + 1)) fresh t = candL (old.take i) fresh t ++ cand1 a fresh t := by
  obtain ⟨hi, rfl⟩ := List.getElem?_eq_some_iff.1 h
  rw [List.take_succ_eq_append_getElem hi]
  unfold candL
  rw [List.flatMap_append, List.flatMap_cons, List.flatMap_nil, List.append_nil]
theorem cand1_take (a : ByteArray × List ByteArray) (fresh : List (ByteArray × List ByteArray)) (t : Int) (j : Nat) (b : ByteArray × List ByteArray) (h : fresh[j]? = some b) : cand1 a (fresh.take (j + 1)) t = cand1 a (fresh.take j) t ++ if mx t 1 ≤ score a.2 b.2 then [⟨a.1, b.1, score a.2 b.2⟩] else [] := by
  obtain ⟨hj, rfl⟩ := List.getElem?_eq_some_iff.1 h
  rw [List.take_succ_eq_append_getElem hj]
  unfold cand1
  rw [List.filterMap_append]
  congr 1
  split
  · rename_i h1; simp [h1]
  · rename_i h1; simp [h1]
theorem CmpOk.comap {α β : Type} {c : α → α → Int} (h : CmpOk c) (f : β → α) : CmpOk (fun x y => c (f x) (f y)) := ⟨fun x y => h.neg _ _, fun x y z => h.tr _ _ _⟩
theorem better_ok : CmpOk betterC := cB_cmp.comap Subtype.val
theorem first_ok : CmpOk firstC := (pcmp_cmp (fun x : PrS => x.f1)).comap Subtype.val
theorem lt_le {c : Pr → Pr → Int} (hc : CmpOk c) {x y : Pr} (h : Go.Proofs.ltOf (cmpOf c) y x = false) : c x y ≤ 0 := by
  have e : cmpOf c y x = c y x := by
    unfold cmpOf
    split
    · rename_i h; rw [h, hc.self]
    · rfl
  simp only [Go.Proofs.ltOf, e, decide_eq_false_iff_not] at h
  have := hc.neg y x
  omega
/-- What the better-sort leaves. -/
theorem sortB_of {ps ps' : List Pr} (hp : ps'.Perm ps) (hs : ps'.Pairwise (fun x y => Go.Proofs.ltOf (cmpOf betterC) y x = false)) : ps'.map Subtype.val = sortB (ps.map Subtype.val) :=
  sort_uniq cB_cmp (fun x y => cB_zero) (hp.map _) (List.pairwise_map.2 (hs.imp (fun h => lt_le better_ok h)))
theorem take1_inv : ∀ (l : List PrS) (st : List ByteArray × List ByteArray × List PrS), (st.2.1 = (st.2.2.map (fun p => p.f1)).reverse ∧ (st.2.2.map (fun p => p.f1)).Nodup) →
    ((l.foldl take1 st).2.1 = ((l.foldl take1 st).2.2.map (fun p => p.f1)).reverse ∧ ((l.foldl take1 st).2.2.map (fun p => p.f1)).Nodup) := by
  intro l
  induction l with
  | nil => intro st h; exact h
  | cons p l ih =>
    intro st h
    refine ih _ ?_
    unfold take1
    split
    · rename_i hc
      refine ⟨by simp [h.1], ?_⟩
      rw [List.map_append]
      refine List.nodup_append.2 ⟨h.2, by simp, fun a ha b hb e => ?_⟩
      subst e
      refine hc.2 ?_
      rw [h.1, List.mem_reverse]
      have : a = p.f1 := by simpa using hb
      rw [← this]
      exact ha
    · exact h
theorem greedy_nodup (l : List PrS) : ((greedy l).map (fun p => p.f1)).Nodup := (take1_inv l ([], [], []) ⟨rfl, by simp⟩).2
/-- What the To-sort leaves, where no To stands twice. -/
theorem sortT_of {ps ps' : List Pr} (hp : ps'.Perm ps) (hs : ps'.Pairwise (fun x y => Go.Proofs.ltOf (cmpOf firstC) y x = false)) (hn : ((ps.map Subtype.val).map (fun p => p.f1)).Nodup) : ps'.map Subtype.val = sortT (ps.map Subtype.val) := by
  refine sort_uniq cT_cmp (fun x y => cT_zero) (hp.map _) (List.pairwise_map.2 ?_)
  have hn' : ((ps'.map Subtype.val).map (fun p => p.f1)).Nodup := ((hp.map _).map _).nodup_iff.2 hn
  have hn3 := List.pairwise_map.1 (List.nodup_iff_pairwise_ne.1 hn')
  have hn2 : ps'.Pairwise (fun x y => x.val.f1 ≠ y.val.f1) := (List.pairwise_map (R := fun a b : PrS => a.f1 ≠ b.f1) (f := Subtype.val)).1 hn3
  refine (hs.and hn2).imp ?_
  rintro x y ⟨h1, h2⟩
  have h3 := lt_le first_ok h1
  have h4 : pcmp (tl x.val.f1) (tl y.val.f1) ≠ 0 := fun e => h2 (tl_inj ((pcmp_zero _ _).1 e))
  unfold cT
  rw [if_pos h4]
  exact h3
theorem greedy_take (l : List PrS) (k : Nat) (p : PrS) (h : l[k]? = some p) (st : List ByteArray × List ByteArray × List PrS) (hst : (l.take k).foldl take1 ([], [], []) = st) : (l.take (k + 1)).foldl take1 ([], [], []) = take1 st p := by
  obtain ⟨hk, rfl⟩ := List.getElem?_eq_some_iff.1 h
  rw [List.take_succ_eq_append_getElem hk, List.foldl_append, hst]
  rfl
end Go.Proofs.Ytcgnkbdfoaiaiaa.P
end
section
/- rename.Pairs: the walk of its text. -/
set_option linter.unusedVariables false
set_option linter.unusedSimpArgs false
namespace Go.Proofs.Ytcgnkbdfoaiaiaa.P
open Go Go.RowKit Go.Sort Go.Proofs.YtcgnkbdfoaiaiaaW.PrintWords Go.Proofs.YtcgnkbdfoaiaiaaW.PrintLast Go.Proofs.YtcgnkbdfoaiaiaaW.PrintMore Go.Proofs.Ytcgnkbdfoaiaiaa.Q Go.Proofs.Ytcgnkbdfoaiaiaa.HSet
def vals (ps : List Pr) : List PrS := ps.map Subtype.val
theorem vals_app (a b : List Pr) : vals (a ++ b) = vals a ++ vals b := List.map_append
theorem vals_length (qs : List Pr) : (vals qs).length = qs.length := List.length_map _
theorem vals_get {qs : List Pr} {k : Nat} {p : Pr} (h : qs[k]? = some p) : (vals qs)[k]? = some p.val := by
  show (List.map (fun x : Pr => x.val) qs)[k]? = _
  rw [List.getElem?_map, h]
  rfl
def PEnd (B : Nat) (r : List PrS) (w : World) (e : Ending) (w' : World) : Prop := ∃ v ps, e = .returned v ∧ vals ps = r ∧ w'.ownsRow B 35 3 v ps.length (pflat ps) ∧ Below B w w'
section
attribute [local go_sem] Go.Proofs.Ytcgnkbdfoaiaiaa.HMin.max2_mx Go.Proofs.Ytcgnkbdfoaiaiaa.HMin.min2_mn max_two min_two
set_option maxRecDepth 100000 in
set_option maxHeartbeats 8000000 in
theorem pairs_run (A0 : Option Addr) (c0 : Nat) (l0 : List S33) (A1 : Option Addr) (c1 : Nat) (l1 : List S33) (t : Int) (w : World) (hr0 : Kd.C k33 w A0 l0.length l0) (hc0 : l0.length ≤ c0) (hr1 : Kd.C k33 w A1 l1.length l1) (hc1 : l1.length ≤ c1) (h0 : PairsOk l0) (h1 : PairsOk l1) :
    Calls Try.prog 11 #[.slice A0 l0.length c0, .slice A1 l1.length c1, .int .i64 t] w (PEnd w.heap.size (pairsL l0 l1 t) w) := by
  have CF1 := Lib.hid (files_run A1 c1 l1 w hr1 hc1 h1.items)
  have HR0 := Lib.hid hr0
  have HC0 := Lib.hid hc0
  have H0 := Lib.hid h0
  have H1 := Lib.hid h1
  have hmm := @run_makeMap Try.prog
  obtain ⟨T, hT⟩ : ∃ T, T = mx t 1 := ⟨_, rfl⟩
  obtain ⟨R, hR⟩ : ∃ R, R = pairsL l0 l1 t := ⟨_, rfl⟩
  rw [← hR]
  have HRR := Lib.hid hR
  clear hr0 hr1 hc0 hc1 h0 h1 hR
  go_enter Try.func11, Try.ntmps11
  go_wp2_with fail
  refine CF1.out.mono ?_
  rintro e w1 ⟨v1, es1, rfl, hF1, hp1, hb1⟩
  obtain ⟨Af, cf, rfl⟩ := own_slice hF1.1
  have CF0 := Lib.hid (files_run A0 c0 l0 w1 (Kd.C_below HR0.out hb1) HC0.out H0.out.items)
  have HF1 := Lib.hid hF1
  have HP1 := Lib.hid hp1
  have HB1 := Lib.hid hb1
  clear hF1 hp1 hb1 CF1
  go_wp2_with fail
  refine CF0.out.mono ?_
  rintro e w2 ⟨v0, es0, rfl, hF0, hp0, hb2⟩
  obtain ⟨Ao, co, rfl⟩ := own_slice hF0.1
  have HFF := Lib.hid (HF1.out.below hb2)
  have HFO := Lib.hid (hF0.less HB1.out.size)
  have HB2 := Lib.hid (HB1.out.trans (hb2.mono HB1.out.size))
  have HP0 := Lib.hid hp0
  have HE1 := Lib.hid (feOk_of H1.out HP1.out)
  have HE0 := Lib.hid (feOk_of H0.out hp0)
  have he1 := HE1.out.2
  have he0 := HE0.out.2
  clear hF0 hp0 hb2 CF0
  go_wp2_with fail
  go_loopw [7, 23] (fun v7 v23 wr => ∃ (i : Nat) (ps : List Pr), v23 = .int .i64 (i : Int) ∧ i ≤ es0.length ∧ ps.length ≤ i * 1000 ∧ Hid (wr.ownsRow w.heap.size 35 3 v7 ps.length (pflat ps)) ∧ Hid (Fls w.heap.size wr (.slice Ao es0.length co) es0) ∧ Hid (Fls w.heap.size wr (.slice Af es1.length cf) es1) ∧ Hid (vals ps = candL ((es0.map Fe.plain).take i) (es1.map Fe.plain) t) ∧ Hid (Below w.heap.size w wr)) (fun _ v23 _ => es0.length - (intOf v23).toNat)
  case atStart => exact ⟨0, [], rfl, Nat.zero_le _, Nat.zero_le _, own_nil _ _ _ _, HFO, HFF, rfl, HB2⟩
  case round =>
    clear HFO HFF HB2
    obtain ⟨i, ps, rfl, hi, hps, HO, HFO, HFF, HV, HB⟩ := hrel
    obtain ⟨wo, hwo⟩ : ∃ wo, wo = wr := ⟨_, rfl⟩
    subst hwo
    by_cases ci_ : i < es0.length
    · have cb : decide ((i : Int) < (es0.length : Int)) = true := decide_eq_true (by omega)
      have cb' : decide (i < es0.length) = true := decide_eq_true ci_
      obtain ⟨a, ha⟩ : ∃ a, es0[i]? = some a := ⟨es0[i], List.getElem?_eq_getElem ci_⟩
      obtain ⟨g, Aa, ca, rfl, hav, hac, x0, x1, hCa⟩ := HFO.out.at i a ha
      obtain ⟨Ap, cp, rfl⟩ := own_slice HO.out
      have hOa := HE0.out.1 a (List.mem_of_getElem? ha)
      have p1 := eq_true (show 0 ≤ (i : Int) by omega)
      have q1 := eq_true (show (i : Int) < (es0.length : Int) by omega)
      obtain ⟨X, hX⟩ : ∃ X, X = wo.alloc (.cells #[.string a.p, .slice Aa a.l.length ca] 46) := ⟨_, rfl⟩
      have qX : X.heap[wo.heap.size]? = some (.cells #[.string a.p, .slice Aa a.l.length ca] 46 (0, 0)) := by rw [hX]; exact heap_alloc_new wo _
      have bX : Below wo.heap.size wo X := by rw [hX]; exact (Below.refl _ _).alloc (Nat.le_refl _) _
      have HTA := Lib.hid (candL_take (es0.map Fe.plain) (es1.map Fe.plain) t i a.plain (by rw [List.getElem?_map, ha]; rfl))
      have HOX := Lib.hid (pw_own_below HO.out bX)
      have HFOX := Lib.hid (HFO.out.below bX)
      have HFFX := Lib.hid (HFF.out.below bX)
      have HBX := Lib.hid (HB.out.trans (bX.mono HB.out.size))
      have HQX := Lib.hid qX
      have HXX := Lib.hid hX
      have HOA := Lib.hid hOa
      have HAV := Lib.hid hav
      have HAC := Lib.hid hac
      have HAA := Lib.hid ha
      have HCA := Lib.hid (Kd.C_below hCa bX)
      have hwb := HB.out.size
      clear hX qX bX ha hav hac hCa hOa
      go_wp2_with (first | rw [← HXX.out])
      go_loopw [7, 29] (fun v7 v29 wr => ∃ (j : Nat) (qs : List Pr), v29 = .int .i64 (j : Int) ∧ j ≤ es1.length ∧ qs.length ≤ ps.length + j ∧ Hid (wr.ownsRow w.heap.size 35 3 v7 qs.length (pflat qs)) ∧ Hid (Fls w.heap.size wr (.slice (some ⟨g, 0, none⟩) es0.length co) es0) ∧ Hid (Fls w.heap.size wr (.slice Af es1.length cf) es1) ∧ Hid (vals qs = vals ps ++ cand1 a.plain ((es1.map Fe.plain).take j) t) ∧ Hid (Below w.heap.size w wr) ∧ Hid (wr.heap[wo.heap.size]? = some (.cells #[.string a.p, .slice Aa a.l.length ca] 46 (0, 0))) ) (fun _ v29 _ => es1.length - (intOf v29).toNat)
      case atStart => exact ⟨0, ps, rfl, Nat.zero_le _, by omega, HOX, HFOX, HFFX, Lib.hid (by simp [cand1]), HBX, HQX⟩
      case round =>
        clear HO HFO HFF HB HOX HFOX HFFX HBX HQX HXX HCA
        obtain ⟨j, qs, rfl, hj, hqs, HO, HFO, HFF, HW, HB, HQX⟩ := hrel
        have HCA := Lib.hid (HFO.out.reads (List.mem_of_getElem? HAA.out) HAV.out)
        obtain ⟨Aq, cq, rfl⟩ := own_slice HO.out
        by_cases cj : j < es1.length
        · have db : decide ((j : Int) < (es1.length : Int)) = true := decide_eq_true (by omega)
          have db' : decide (j < es1.length) = true := decide_eq_true cj
          obtain ⟨b, hb⟩ : ∃ b, es1[j]? = some b := ⟨es1[j], List.getElem?_eq_getElem cj⟩
          obtain ⟨g1, Ab, cb1, rfl, hbv, hbc, y0, y1, hCb⟩ := HFF.out.at j b hb
          have hOb := HE1.out.1 b (List.mem_of_getElem? hb)
          have p2 := eq_true (show 0 ≤ (j : Int) by omega)
          have q2 := eq_true (show (j : Int) < (es1.length : Int) by omega)
          obtain ⟨Y, hY⟩ : ∃ Y, Y = wr.alloc (.cells #[.string b.p, .slice Ab b.l.length cb1] 46) := ⟨_, rfl⟩
          have qY : Y.heap[wr.heap.size]? = some (.cells #[.string b.p, .slice Ab b.l.length cb1] 46 (0, 0)) := by rw [hY]; exact heap_alloc_new wr _
          have bY : Below wr.heap.size wr Y := by rw [hY]; exact (Below.refl _ _).alloc (Nat.le_refl _) _
          have qXY : Y.heap[wo.heap.size]? = some (.cells #[.string a.p, .slice Aa a.l.length ca] 46 (0, 0)) := (bY.block _ (blk_lt HQX.out)).trans HQX.out
          have ya1 : Y.cell? ⟨wo.heap.size, 1, none⟩ = some (.slice Aa a.l.length ca) := by simp [World.cell?, qXY]
          have yb1 : Y.cell? ⟨wr.heap.size, 1, none⟩ = some (.slice Ab b.l.length cb1) := by simp [World.cell?, qY]
          have CS := Lib.hid (score_run Aa ca a.l Ab cb1 b.l Y (Kd.C_below HCA.out bY) HAC.out (Kd.C_below hCb bY) hbc ⟨HOA.out.2.1, HOA.out.2.2⟩ ⟨hOb.2.1, hOb.2.2⟩)
          have HTB := Lib.hid (cand1_take a.plain (es1.map Fe.plain) t j b.plain (by rw [List.getElem?_map, hb]; rfl))
          have HOY := Lib.hid (pw_own_below HO.out bY)
          have HFOY := Lib.hid (HFO.out.below bY)
          have HFFY := Lib.hid (HFF.out.below bY)
          have HBY := Lib.hid (HB.out.trans (bY.mono HB.out.size))
          have HCY := Lib.hid (Kd.C_below HCA.out bY)
          have HQY := Lib.hid qY
          have HQXY := Lib.hid qXY
          have HYY := Lib.hid hY
          have HOB := Lib.hid hOb
          have hwb2 := HB.out.size
          have hyb2 := HBY.out.size
          clear hY qY bY qXY hb hbv hbc hCb hOb
          obtain ⟨S, hS⟩ : ∃ S, S = score a.l b.l := ⟨_, rfl⟩
          rw [← hS] at CS
          have HSS := Lib.hid hS
          clear hS
          have hmx : mx t 1 = T := hT.symm
          by_cases hc : T ≤ S
          · have kc : decide (T ≤ S) = true := decide_eq_true hc
            have HIF := Lib.hid (show vals (qs ++ [mkPr ⟨a.p, b.p, S⟩ HOA.out.1 HOB.out.1]) = vals ps ++ cand1 a.plain ((es1.map Fe.plain).take (j + 1)) t by
              rw [vals_app, HW.out, HTB.out, List.append_assoc, if_pos (show mx t 1 ≤ score a.plain.2 b.plain.2 by rw [hmx]; show T ≤ score a.l b.l; rw [← HSS.out]; exact hc), HSS.out]
              rfl)
            clear hc hT
            go_wp2_with (first | rw [← HYY.out] | (go_at_call 16; refine CS.out.mono ?_; rintro e w3 ⟨rfl, hb3⟩; have HO3 := Lib.hid (pw_own_below HOY.out hb3); have HFO3 := Lib.hid (HFOY.out.below hb3); have HFF3 := Lib.hid (HFFY.out.below hb3); have HB3 := Lib.hid (HBY.out.trans (hb3.mono hyb2)); have HQ3 := Lib.hid ((hb3.block _ (blk_lt HQXY.out)).trans HQXY.out); have HR3 := Lib.hid ((hb3.block _ (blk_lt HQY.out)).trans HQY.out); have za0 : w3.cell? ⟨wo.heap.size, 0, none⟩ = some (.string a.p) := (blk_cell HQ3.out 0).trans rfl; have zb0 : w3.cell? ⟨wr.heap.size, 0, none⟩ = some (.string b.p) := (blk_cell HR3.out 0).trans rfl; clear hb3) | (at_builtin; refine print_append_cells (w0 := w) w.heap.size rfl (.tmp 42) (.tmp 49) 29 35 (.agg #[(.string ⟨#[]⟩), (.string ⟨#[]⟩), (.int .i64 0)]) 3 40 rfl Try.underlying29 (by kernel_rfl) rfl (by omega) (by omega) (.slice Aq qs.length cq) qs.length (pflat qs) [.string a.p, .string b.p, .int .i64 S] rfl (by first | (go_simp; done) | (go_simp; rfl)) rfl ?h1 ?hO ?hB ?hs ?hl ?_; (case h1 => intro u hu; simp at hu; rcases hu with rfl | rfl | rfl <;> rfl); (case hO => exact HO3.out); (case hB => exact HB3.out); (case hs => exact HB3.out.size); (case hl => omega); intro v5 w5 hown hb5 hgr hat; have HO5 := Lib.hid hown; have HB5 := Lib.hid hb5; have HFO5 := Lib.hid (HFO3.out.other HO3.out hgr (by decide) (by decide)); have HFF5 := Lib.hid (HFF3.out.other HO3.out hgr (by decide) (by decide)); have HQ5 := Lib.hid (blk_grown HQ3.out hgr (own_ne HO3.out HQ3.out (by decide))); clear hown hb5 hgr hat))
            exact ⟨⟨j + 1, qs ++ [mkPr ⟨a.p, b.p, S⟩ HOA.out.1 HOB.out.1], by simp, cj, by simp; omega, Lib.hid (by rw [List.length_append, pflat_snoc]; exact HO5.out), HFO5, HFF5, HIF, HB5, HQ5⟩, by simp [intOf]; omega⟩
          · have kc : decide (T ≤ S) = false := decide_eq_false hc
            have HIF := Lib.hid (show vals qs = vals ps ++ cand1 a.plain ((es1.map Fe.plain).take (j + 1)) t by
              rw [HW.out, HTB.out, if_neg (show ¬ mx t 1 ≤ score a.plain.2 b.plain.2 by rw [hmx]; show ¬ T ≤ score a.l b.l; rw [← HSS.out]; exact hc), List.append_nil])
            clear hc hT
            go_wp2_with (first | rw [← HYY.out] | (go_at_call 16; refine CS.out.mono ?_; rintro e w3 ⟨rfl, hb3⟩; have HO3 := Lib.hid (pw_own_below HOY.out hb3); have HFO3 := Lib.hid (HFOY.out.below hb3); have HFF3 := Lib.hid (HFFY.out.below hb3); have HB3 := Lib.hid (HBY.out.trans (hb3.mono hyb2)); have HQ3 := Lib.hid ((hb3.block _ (blk_lt HQXY.out)).trans HQXY.out); clear hb3))
            exact ⟨⟨j + 1, qs, by simp, cj, by omega, HO3, HFO3, HFF3, HIF, HB3, HQ3⟩, by simp [intOf]; omega⟩
        · have db : decide ((j : Int) < (es1.length : Int)) = false := decide_eq_false (by omega)
          have db' : decide (j < es1.length) = false := decide_eq_false cj
          obtain rfl : j = es1.length := by omega
          have HIF := Lib.hid (show vals qs = candL ((es0.map Fe.plain).take (i + 1)) (es1.map Fe.plain) t by
            have h1 := HW.out
            rw [List.take_of_length_le (by simp)] at h1
            rw [HTA.out, h1, HV.out])
          have hq2 : qs.length ≤ (i + 1) * 1000 := by omega
          clear HW
          go_wp2
          exact ⟨⟨i + 1, qs, by simp, ci_, hq2, HO, HFO, HFF, HIF, HB⟩, by simp [intOf]; omega⟩
    · have cb : decide ((i : Int) < (es0.length : Int)) = false := decide_eq_false (by omega)
      have cb' : decide (i < es0.length) = false := decide_eq_false ci_
      obtain rfl : i = es0.length := by omega
      have HVF := Lib.hid (show vals ps = candL (filesL l0) (filesL l1) t by
        have h1 := HV.out
        rw [List.take_of_length_le (by simp), HP0.out, HP1.out] at h1
        exact h1)
      have eg17 : ∀ args w, (callFunc 17 args).run Try.prog w = .ok (.enter 17 args) w := enters_of Try.func17 (by kernel_rfl) rfl
      obtain ⟨Ap, cp, rfl⟩ := own_slice HO.out
      have SR := Lib.hid (sort_run 17 eg17 betterC better_run (swo_of better_ok) w.heap.size (.slice Ap ps.length cp) ps wo HO.out (by omega))
      have hwo := HB.out.size
      have hpsl : ps.length ≤ 1000000 := by omega
      clear HV ci_ eg17 HFO HFF HE0 HE1
      go_wp2_with fail
      refine SR.out.mono ?_
      rintro e w3 ⟨rfl, qs, hperm, hsort, hown, w3', hb3, hg3⟩
      have hql := hperm.length_eq
      have HB3 := Lib.hid ((HB.out.trans (hb3.mono hwo)).grown hg3 (by have := hb3.size; omega) (own_base HO.out))
      have HSQ := Lib.hid (show vals qs = sortB (candL (filesL l0) (filesL l1) t) by rw [← HVF.out]; exact sortB_of hperm hsort)
      have HO3 := Lib.hid hown
      clear hperm hsort hown hb3 hg3 SR HO HB
      obtain ⟨M1, hM1⟩ : ∃ M1, M1 = w3.alloc (.map #[] 0) := ⟨_, rfl⟩
      obtain ⟨M2, hM2⟩ : ∃ M2, M2 = M1.alloc (.map #[] 0) := ⟨_, rfl⟩
      have bM1 : Below w3.heap.size w3 M1 := by rw [hM1]; exact (Below.refl _ _).alloc (Nat.le_refl _) _
      have bM2 : Below M1.heap.size M1 M2 := by rw [hM2]; exact (Below.refl _ _).alloc (Nat.le_refl _) _
      have sM1 : M1.heap.size = w3.heap.size + 1 := by rw [hM1]; simp
      have HA1 := Lib.hid (show Has Try.prog 9 4 M2 w3.heap.size 0 [] from (show Has Try.prog 9 4 M1 w3.heap.size 0 [] by rw [hM1]; exact Has.made w3 _ _ _).below bM2)
      have HA2 := Lib.hid (show Has Try.prog 9 4 M2 M1.heap.size 0 [] by rw [hM2]; exact Has.made M1 _ _ _)
      have hm1 : w3.heap.size < M1.heap.size := by omega
      have HO4 := Lib.hid (pw_own_below (pw_own_below HO3.out bM1) bM2)
      have HB4 := Lib.hid (bM1.trans (bM2.mono (by omega)))
      have HM1 := Lib.hid hM1
      have HM2 := Lib.hid hM2
      have hb3s := HB3.out.size
      have HLT := Lib.hid (show ∀ k, (Value.slice Ap ps.length cp).ownBlock = some k → k < w3.heap.size from fun k hk => own_lt HO3.out k hk)
      clear hM1 hM2 bM1 bM2 sM1
      go_wp2_with (first | rw [← HM1.out] | rw [← HM2.out])
      go_loopw [6, 60] (fun v6 v60 wr => ∃ (k : Nat) (rs : List Pr) (S1 S2 : List ByteArray), v60 = .int .i64 (k : Int) ∧ k ≤ ps.length ∧ rs.length ≤ k ∧ Hid (Has Try.prog 9 4 wr w3.heap.size k S1) ∧ Hid (Has Try.prog 9 4 wr M1.heap.size k S2) ∧ Hid (wr.ownsRow w3.heap.size 35 3 v6 rs.length (pflat rs)) ∧ Hid (wr.ownsRow w.heap.size 35 3 (.slice Ap ps.length cp) qs.length (pflat qs)) ∧ Hid (((vals qs).take k).foldl take1 ([], [], []) = (S1, S2, vals rs)) ∧ Hid (Below w3.heap.size w3 wr)) (fun _ v60 _ => ps.length - (intOf v60).toNat)
      case atStart => exact ⟨0, [], [], [], rfl, Nat.zero_le _, Nat.zero_le _, HA1, HA2, own_nil _ _ _ _, HO4, rfl, HB4⟩
      case round =>
        clear HA1 HA2 HO4 HB4 HM1 HM2
        obtain ⟨k, rs, S1, S2, rfl, hk, hrs, HA1, HA2, HOR, HOQ, HG, HB⟩ := hrel
        obtain ⟨Ar, cr, rfl⟩ := own_slice HOR.out
        by_cases ck : k < ps.length
        · have db : decide ((k : Int) < (ps.length : Int)) = true := decide_eq_true (by omega)
          have db' : decide (k < ps.length) = true := decide_eq_true ck
          obtain ⟨p, hp⟩ : ∃ p, qs[k]? = some p := ⟨qs[k], List.getElem?_eq_getElem (by omega)⟩
          obtain ⟨g, rfl, x0, x1, x2⟩ := pflat_at HOQ.out k p hp
          have p2 := eq_true (show 0 ≤ (k : Int) by omega)
          have q2 := eq_true (show (k : Int) < (ps.length : Int) by omega)
          have HTK := Lib.hid (greedy_take (vals qs) k p.val (vals_get hp) _ HG.out)
          obtain ⟨Y, hY⟩ : ∃ Y, Y = wr.alloc (.cells #[.string p.val.f0, .string p.val.f1, .int .i64 p.val.f2] 35) := ⟨_, rfl⟩
          have qY : Y.heap[wr.heap.size]? = some (.cells #[.string p.val.f0, .string p.val.f1, .int .i64 p.val.f2] 35 (0, 0)) := by rw [hY]; exact heap_alloc_new wr _
          have bY : Below wr.heap.size wr Y := by rw [hY]; exact (Below.refl _ _).alloc (Nat.le_refl _) _
          have z0 : Y.cell? ⟨wr.heap.size, 0, none⟩ = some (.string p.val.f0) := by simp [World.cell?, qY]
          have z1 : Y.cell? ⟨wr.heap.size, 1, none⟩ = some (.string p.val.f1) := by simp [World.cell?, qY]
          have HA1Y := Lib.hid (HA1.out.below bY)
          have HA2Y := Lib.hid (HA2.out.below bY)
          have HORY := Lib.hid (pw_own_below HOR.out bY)
          have HOQY := Lib.hid (pw_own_below HOQ.out bY)
          have HBY := Lib.hid (HB.out.trans (bY.mono HB.out.size))
          have HQY := Lib.hid qY
          have HYY := Lib.hid hY
          have hsb := HB.out.size
          have HPS := Lib.hid p.property
          have hl1 := HA1.out.lt
          have hl2 := HA2.out.lt
          have lk1 := HA1Y.out.look (t := 52) Try.underlying9 Try.underlying52 Try.underlying4 (by kernel_rfl) (s := p.val.f0) (by have := HPS.out.1; unfold maxLen; omega)
          have lk2 := HA2Y.out.look (t := 52) Try.underlying9 Try.underlying52 Try.underlying4 (by kernel_rfl) (s := p.val.f1) (by have := HPS.out.2; unfold maxLen; omega)
          clear hY qY bY hp
          by_cases m1 : p.val.f0 ∈ S1
          · have dm : decide (p.val.f0 ∈ S1) = true := decide_eq_true m1
            rw [dm] at lk1
            have HST := Lib.hid (show ((vals qs).take (k + 1)).foldl take1 ([], [], []) = (S1, S2, vals rs) by rw [HTK.out]; unfold take1; rw [if_neg (fun h => h.1 m1)])
            clear dm m1 lk2
            go_wp2_with (first | rw [← HYY.out])
            exact ⟨⟨k + 1, rs, S1, S2, by simp, ck, by omega, HA1Y.out.mono (by omega), HA2Y.out.mono (by omega), HORY, HOQY, HST, HBY⟩, by simp [intOf]; omega⟩
          · have dm : decide (p.val.f0 ∈ S1) = false := decide_eq_false m1
            rw [dm] at lk1
            by_cases m2 : p.val.f1 ∈ S2
            · have dm2 : decide (p.val.f1 ∈ S2) = true := decide_eq_true m2
              rw [dm2] at lk2
              have HST := Lib.hid (show ((vals qs).take (k + 1)).foldl take1 ([], [], []) = (S1, S2, vals rs) by rw [HTK.out]; unfold take1; rw [if_neg (fun h => h.2 m2)])
              clear dm m1 dm2 m2
              go_wp2_with (first | rw [← HYY.out])
              exact ⟨⟨k + 1, rs, S1, S2, by simp, ck, by omega, HA1Y.out.mono (by omega), HA2Y.out.mono (by omega), HORY, HOQY, HST, HBY⟩, by simp [intOf]; omega⟩
            · have dm2 : decide (p.val.f1 ∈ S2) = false := decide_eq_false m2
              rw [dm2] at lk2
              have HST := Lib.hid (show ((vals qs).take (k + 1)).foldl take1 ([], [], []) = (p.val.f0 :: S1, p.val.f1 :: S2, vals (rs ++ [p])) by rw [HTK.out]; unfold take1; rw [if_pos ⟨m1, m2⟩, vals_app]; rfl)
              obtain ⟨Z, hZ⟩ : ∃ Z, Z = Y.drew := ⟨_, rfl⟩
              have bZ : Below Y.heap.size Y Z := by rw [hZ]; exact (Below.refl _ _).drew
              have qZ : Z.heap[wr.heap.size]? = some (.cells #[.string p.val.f0, .string p.val.f1, .int .i64 p.val.f2] 35 (0, 0)) := by rw [hZ]; exact HQY.out
              have m0 : Z.cell? ⟨wr.heap.size, 0, none⟩ = some (.string p.val.f0) := by simp [World.cell?, qZ]
              have m1' : Z.cell? ⟨wr.heap.size, 1, none⟩ = some (.string p.val.f1) := by simp [World.cell?, qZ]
              obtain ⟨w4, hr4, hh4, hg4⟩ := Has.put (t := 52) (HA1Y.out.below bZ) Try.underlying9 Try.underlying52 Try.underlying4 (by unfold maxLen; omega) (s := p.val.f0) (by have := HPS.out.1; unfold maxLen; omega)
              obtain ⟨w5, hr5, hh5, hg5⟩ := Has.put (t := 52) ((HA2Y.out.below bZ).grown hg4 (by simp; omega)) Try.underlying9 Try.underlying52 Try.underlying4 (by unfold maxLen; omega) (s := p.val.f1) (by have := HPS.out.2; unfold maxLen; omega)
              have HH4 := Lib.hid (hh4.grown hg5 (by simp; omega))
              have HH5 := Lib.hid hh5
              have HZ8 := Lib.hid (show ∀ b ∈ [wr.heap.size], b < Z.heap.size by intro b hb; rw [List.mem_singleton.1 hb]; exact blk_lt qZ)
              have q4 : w4.heap[wr.heap.size]? = some (.cells #[.string p.val.f0, .string p.val.f1, .int .i64 p.val.f2] 35 (0, 0)) := blk_grown qZ hg4 (by simp; omega)
              have q5 : w5.heap[wr.heap.size]? = some (.cells #[.string p.val.f0, .string p.val.f1, .int .i64 p.val.f2] 35 (0, 0)) := blk_grown q4 hg5 (by simp; omega)
              have e0 : w5.cell? ⟨wr.heap.size, 0, none⟩ = some (.string p.val.f0) := by simp [World.cell?, q5]
              have e1 : w5.cell? ⟨wr.heap.size, 1, none⟩ = some (.string p.val.f1) := by simp [World.cell?, q5]
              have e2 : w5.cell? ⟨wr.heap.size, 2, none⟩ = some (.int .i64 p.val.f2) := by simp [World.cell?, q5]
              have HQ5 := Lib.hid q5
              have hasZ := HA1Y.out.below bZ
              have hasZ2 := (HA2Y.out.below bZ).grown hg4 (by simp; omega)
              have keep : ∀ {base e s n : Nat} {v : Value} {xs : List Value}, Y.ownsRow base e s v n xs → w5.ownsRow base e s v n xs := fun h => by
                have h1 := pw_own_below h bZ
                have h2 := h1.kept hg4 (.inr (fun e' => has_ne_own hasZ h1 e'.symm))
                exact h2.kept hg5 (.inr (fun e' => has_ne_own hasZ2 h2 e'.symm))
              have HOR5 := Lib.hid (keep HORY.out)
              have HOQ5 := Lib.hid (keep HOQY.out)
              have HB5 := Lib.hid (((HBY.out.trans (bZ.mono HBY.out.size)).grown hg4 (by have := bZ.size; have := HBY.out.size; omega) (fun k hk => by injection hk with hk; omega)).grown hg5 (by have := bZ.size; have := HBY.out.size; have := hg4.size; omega) (fun k hk => by injection hk with hk; omega))
              have HZZ := Lib.hid hZ
              have hT0 := Held.Same.refl Z [wr.heap.size]
              have hT4 : Held.Same Z [wr.heap.size] w4 := fun b hb => by rw [List.mem_singleton.1 hb, q4, qZ]
              have HT4 := Lib.hid hT4
              clear hZ bZ qZ q4 q5 hh4 hh5 hg4 hg5 hasZ hasZ2 keep dm m1 dm2 m2 hT4
              go_wp2_with (first | rw [← HYY.out])
              refine (wpIn_wide (n := 9)).1 ?_
              refine Held.region 7 (Held.Same Z [wr.heap.size]) (by kernel_rfl) ?_
              rw [← HZZ.out]
              refine Held.tk (i := 0) rfl hT0 ?_
              try simp only [Act.put, List.setIfInBounds_toArray, List.set_cons_zero, List.set_cons_succ]
              refine Held.tk (i := 1) rfl hT0 ?_
              try simp only [Act.put, List.setIfInBounds_toArray, List.set_cons_zero, List.set_cons_succ]
              refine Held.tk (i := 2) rfl hT0 ?_
              try simp only [Act.put, List.setIfInBounds_toArray, List.set_cons_zero, List.set_cons_succ]
              refine Held.tk (i := 3) rfl hT0 ?_
              try simp only [Act.put, List.setIfInBounds_toArray, List.set_cons_zero, List.set_cons_succ]
              refine Held.tk (i := 4) rfl hT0 ?_
              try simp only [Act.put, List.setIfInBounds_toArray, List.set_cons_zero, List.set_cons_succ]
              refine Held.tk (i := 5) rfl hT0 ?_
              try simp only [Act.put, List.setIfInBounds_toArray, List.set_cons_zero, List.set_cons_succ]
              refine Held.AnyS.step (i := 6) rfl (by kernel_rfl) rfl (fun K hK => ?_)
              go_simp
              refine hK.out _ _ (fun _ => HT4.out) ?_
              clear hK K
              try simp only [Act.put, List.setIfInBounds_toArray, List.set_cons_zero, List.set_cons_succ]
              refine Held.AnyS.step (i := 7) rfl (by kernel_rfl) rfl (fun K hK => ?_)
              go_simp
              refine hK.out _ _ (fun h => absurd h (by omega)) ?_
              clear hK K hT0
              refine Held.AnyS.done (by kernel_rfl) ?_ _
              have hb5s := HB5.out.size
              have HNE6 := Lib.hid (show (Value.slice (some ⟨g, 0, none⟩) ps.length cp).ownBlock ≠ (Value.slice Ar rs.length cr).ownBlock from fun e' => by
                have hz : ∃ z, (Value.slice (some ⟨g, 0, none⟩) ps.length cp).ownBlock = some z := ⟨g, rfl⟩
                obtain ⟨z, hz⟩ := hz
                have h1 := HLT.out z hz
                have h2 := own_base HOR5.out z (e'.symm.trans hz)
                omega)
              go_simp
              go_wp2_with (first | (at_builtin; refine print_append_cells (w0 := w3) w3.heap.size rfl (.tmp 82) (.tmp 84) 29 35 (.agg #[(.string ⟨#[]⟩), (.string ⟨#[]⟩), (.int .i64 0)]) 3 40 rfl Try.underlying29 (by kernel_rfl) rfl (by omega) (by omega) (.slice Ar rs.length cr) rs.length (pflat rs) [.string p.val.f0, .string p.val.f1, .int .i64 p.val.f2] rfl (by first | (go_simp; done) | (go_simp; rfl)) rfl ?h1 ?hO ?hB ?hs ?hl ?_; (case h1 => intro u hu; simp at hu; rcases hu with rfl | rfl | rfl <;> rfl); (case hO => exact HOR5.out); (case hB => exact HB5.out); (case hs => exact HB5.out.size); (case hl => omega); intro v6 w6 hown hb6 hgr hat; have HO6 := Lib.hid hown; have HB6 := Lib.hid hb6; have HA16 := Lib.hid (HH4.out.grown hgr (has_ne_own HH4.out HOR5.out)); have HA26 := Lib.hid (HH5.out.grown hgr (has_ne_own HH5.out HOR5.out)); have HOQ6 := Lib.hid (HOQ5.out.kept hgr (.inr HNE6.out)); clear hown hb6 hgr hat))
              exact ⟨⟨k + 1, rs ++ [p], _, _, by simp, ck, by simp; omega, HA16, HA26, Lib.hid (by rw [List.length_append, pflat_snoc]; exact HO6.out), HOQ6, HST, HB6⟩, by simp [intOf]; omega⟩
        · have db : decide ((k : Int) < (ps.length : Int)) = false := decide_eq_false (by omega)
          have db' : decide (k < ps.length) = false := decide_eq_false ck
          obtain rfl : k = ps.length := by omega
          have HGR := Lib.hid (show vals rs = greedy (sortB (candL (filesL l0) (filesL l1) t)) by
            have h1 := HG.out
            rw [List.take_of_length_le (by rw [vals_length]; omega), HSQ.out] at h1
            unfold greedy
            rw [h1])
          have eg19 : ∀ args w, (callFunc 19 args).run Try.prog w = .ok (.enter 19 args) w := enters_of Try.func19 (by kernel_rfl) rfl
          have SR := Lib.hid (sort_run 19 eg19 firstC first_run (swo_of first_ok) w3.heap.size (.slice Ar rs.length cr) rs wr HOR.out (by omega))
          have hsb := HB.out.size
          clear HG eg19 HA1 HA2 HOQ
          go_wp2_with fail
          refine SR.out.mono ?_
          rintro e w7 ⟨rfl, ts, hperm, hsort, hown, w7', hb7, hg7⟩
          have HT7 := Lib.hid (show vals ts = R by
            rw [HRR.out]
            unfold pairsL
            rw [← HGR.out]
            exact sortT_of hperm hsort (by have := greedy_nodup (sortB (candL (filesL l0) (filesL l1) t)); rw [← HGR.out] at this; exact this))
          have hb7s := hb7.size
          have HB7 := Lib.hid ((HB3.out.trans ((HB.out.trans (hb7.mono hsb)).mono hb3s)).grown hg7 (by omega) (fun k hk => Nat.le_trans hb3s (own_base HOR.out k hk)))
          have HO7 := Lib.hid (own_less hown hb3s)
          have hln := hperm.length_eq
          clear hperm hsort hown hb7 hg7
          go_wp2_with fail
          go_ret
          exact ⟨_, ts, rfl, HT7.out, HO7.out, HB7.out⟩
end
end Go.Proofs.Ytcgnkbdfoaiaiaa.P
end
section
/- rename.Pairs: its contract, as the print asks for it. -/
set_option linter.unusedVariables false
set_option linter.unusedSimpArgs false
namespace Go.Proofs.Ytcgnkbdfoaiaiaa.P
open Go Go.RowKit Go.Proofs.YtcgnkbdfoaiaiaaW.PrintWords Go.Proofs.YtcgnkbdfoaiaiaaW.PrintLast Go.Proofs.YtcgnkbdfoaiaiaaW.PrintMore Go.Proofs.Ytcgnkbdfoaiaiaa.Q
def rename_Pairs.f (l0 l1 : List S33) (t : Int) : Option (List S35) := if PairsOk l0 ∧ PairsOk l1 then some (pairsL l0 l1 t) else none
theorem reps_pflat (w : World) (base : Nat) (ok : Nat → Prop) (ps : List Pr) : Reps (k35.M w base ok) 3 (vals ps) (pflat ps) := by
  induction ps with
  | nil => exact Reps.none _ _
  | cons p ps ih =>
    have h1 : Reps (k35.M w base ok) 3 [p.val] (encP p) := Reps.snoc (Reps.none _ _) (k35_mkM w base ok p.val) rfl
    have h2 := Kd.reps_append h1 ih
    have e : pflat (p :: ps) = encP p ++ pflat ps := by simp [pflat]
    rw [e]
    exact h2
theorem rename_Pairs.calls (A0 : Option Addr) (c0 : Nat) (l0 : List S33) (A1 : Option Addr) (c1 : Nat) (l1 : List S33) (t : Int) (r : List S35) (w : World) (hr0 : Kd.C k33 w A0 l0.length l0) (hc0 : l0.length ≤ c0) (hr1 : Kd.C k33 w A1 l1.length l1) (hc1 : l1.length ≤ c1) (h : rename_Pairs.f l0 l1 t = some r) :
    Calls Try.prog 11 #[.slice A0 l0.length c0, .slice A1 l1.length c1, .int .i64 t] w fun e w' => ∃ v0_ : Value, e = .returned (v0_) ∧ Kd.R k35 35 w' w.heap.size (fun _ => True) v0_ r ∧ Below w.heap.size w w' := by
  unfold rename_Pairs.f at h
  split at h
  · rename_i hh
    obtain rfl := Option.some.inj h
    refine (pairs_run A0 c0 l0 A1 c1 l1 t w hr0 hc0 hr1 hc1 hh.1 hh.2).mono ?_
    rintro e w' ⟨v, ps, rfl, hv, ho, hb⟩
    refine ⟨v, rfl, ⟨fun _ _ => trivial, pflat ps, ?_, ?_⟩, hb⟩
    · rw [← hv, vals_length]; exact ho
    · rw [← hv]; exact reps_pflat _ _ _ ps
  · cases h
end Go.Proofs.Ytcgnkbdfoaiaiaa.P
end
section
/- Laid for this claim by hp.py, this session's program round the kit's print: functions of the program as plain Lean functions, the proofs that the code comes to their answers, and the rows of the laws. Not trusted: Lean checks it. -/
namespace Go.Proofs.Ytcgnkbdfoaiaiaa.P
open Go.RowKit Go.Proofs.YtcgnkbdfoaiaiaaW.PrintWords Go.Proofs.YtcgnkbdfoaiaiaaW.PrintLast Go.Proofs.YtcgnkbdfoaiaiaaW.PrintMore
attribute [local go_sem] max2_int min2_int max_two min_two max_three min_three max_four min_four   -- for this text's walks alone
set_option linter.unusedVariables false
set_option linter.unusedSimpArgs false

/-! ### collatorlaw08_awake: function 7 -/
def collatorlaw08_awake.f (k : Nat)  : Option (Bool) := (some (([(⟨(⟨#[97]⟩ : ByteArray), 2, (⟨#[120, 10, 121, 10]⟩ : ByteArray), false⟩ : S33), (⟨(⟨#[98]⟩ : ByteArray), 2, (⟨#[120, 10]⟩ : ByteArray), false⟩ : S33)] : List (S33)) : List (S33))).bind fun y103 => ((some (([(⟨(⟨#[99]⟩ : ByteArray), 2, (⟨#[120, 10, 121, 10]⟩ : ByteArray), false⟩ : S33)] : List (S33)) : List (S33))).bind fun y106 => ((rename_Pairs.f y103 y106 50).bind fun t109 => ((collatorref08_Same.f k t109 (([(⟨(⟨#[97]⟩ : ByteArray), (⟨#[99]⟩ : ByteArray), 100⟩ : S35)] : List (S35)))).bind fun t115 => (if t115 = true then ((rename_Pairs.f y103 y106 101).bind fun t116 => (if (t116.length : Int) = 0 then ((rename_Pairs.f ([] : List (S33)) y106 0).bind fun t119 => (some ((t119.length : Int) == 0))) else (some false))) else (some false)))))
theorem collatorlaw08_awake.mono : ∀ k, LeO (collatorlaw08_awake.f k ) (collatorlaw08_awake.f (k + 1) ) := by
 intro  k
 unfold collatorlaw08_awake.f
 repeat' first
   | (with_reducible exact collatorref08_Same.mono _ _ _)
   | (with_reducible exact LeO.refl _)
   | (with_reducible exact LeO.none _)
   | (with_reducible refine LeO.ite ?_ ?_)
   | (with_reducible refine LeO.bind ?_ (fun _ => ?_))
   | exact collatorref08_Same.mono _ _ _
   | exact LeO.none _
   | refine LeO.ite ?_ ?_
   | refine LeO.bind ?_ (fun _ => ?_)
set_option maxHeartbeats 8000000 in
set_option maxRecDepth 100000 in
theorem collatorlaw08_awake.calls (k : Nat)  (r : Bool) (w : World) (h : collatorlaw08_awake.f k  = some r) :
  Calls Try.prog 7 #[] w fun e w' => e = .returned (.bool r) ∧ Below w.heap.size w w' := by
 have hu33 := Try.underlying33
 have hu35 := Try.underlying35
 have HB := Aside0.mk (Below.refl w.heap.size w)
 have H : ((some (([(⟨(⟨#[97]⟩ : ByteArray), 2, (⟨#[120, 10, 121, 10]⟩ : ByteArray), false⟩ : S33), (⟨(⟨#[98]⟩ : ByteArray), 2, (⟨#[120, 10]⟩ : ByteArray), false⟩ : S33)] : List (S33)) : List (S33))).bind fun y103 => ((some (([(⟨(⟨#[99]⟩ : ByteArray), 2, (⟨#[120, 10, 121, 10]⟩ : ByteArray), false⟩ : S33)] : List (S33)) : List (S33))).bind fun y106 => ((rename_Pairs.f y103 y106 50).bind fun t109 => ((collatorref08_Same.f k t109 (([(⟨(⟨#[97]⟩ : ByteArray), (⟨#[99]⟩ : ByteArray), 100⟩ : S35)] : List (S35)))).bind fun t115 => (if t115 = true then ((rename_Pairs.f y103 y106 101).bind fun t116 => (if (t116.length : Int) = 0 then ((rename_Pairs.f ([] : List (S33)) y106 0).bind fun t119 => (some ((t119.length : Int) == 0))) else (some false))) else (some false)))))) = some r := h
 clear h
 obtain ⟨y103, hy103⟩ : ∃ y_ : List (S33), y_ = (([(⟨(⟨#[97]⟩ : ByteArray), 2, (⟨#[120, 10, 121, 10]⟩ : ByteArray), false⟩ : S33), (⟨(⟨#[98]⟩ : ByteArray), 2, (⟨#[120, 10]⟩ : ByteArray), false⟩ : S33)] : List (S33))) := ⟨_, rfl⟩
 replace H : ((some (([(⟨(⟨#[99]⟩ : ByteArray), 2, (⟨#[120, 10, 121, 10]⟩ : ByteArray), false⟩ : S33)] : List (S33)) : List (S33))).bind fun y106 => ((rename_Pairs.f y103 y106 50).bind fun t109 => ((collatorref08_Same.f k t109 (([(⟨(⟨#[97]⟩ : ByteArray), (⟨#[99]⟩ : ByteArray), 100⟩ : S35)] : List (S35)))).bind fun t115 => (if t115 = true then ((rename_Pairs.f y103 y106 101).bind fun t116 => (if (t116.length : Int) = 0 then ((rename_Pairs.f ([] : List (S33)) y106 0).bind fun t119 => (some ((t119.length : Int) == 0))) else (some false))) else (some false))))) = some r := by first | (rw [hy103]; with_reducible exact H) | (have H2_ := (Option.bind_some _ _).symm.trans H; rw [hy103]; with_reducible exact H2_) | (have H2_ := (Option.bind_some _ _).symm.trans H; with_reducible exact H2_) | with_reducible exact H | (rw [hy103]; exact H) | exact H
 have Ny103 := Aside0.mk hy103
 clear hy103
 obtain ⟨y106, hy106⟩ : ∃ y_ : List (S33), y_ = (([(⟨(⟨#[99]⟩ : ByteArray), 2, (⟨#[120, 10, 121, 10]⟩ : ByteArray), false⟩ : S33)] : List (S33))) := ⟨_, rfl⟩
 replace H : ((rename_Pairs.f y103 y106 50).bind fun t109 => ((collatorref08_Same.f k t109 (([(⟨(⟨#[97]⟩ : ByteArray), (⟨#[99]⟩ : ByteArray), 100⟩ : S35)] : List (S35)))).bind fun t115 => (if t115 = true then ((rename_Pairs.f y103 y106 101).bind fun t116 => (if (t116.length : Int) = 0 then ((rename_Pairs.f ([] : List (S33)) y106 0).bind fun t119 => (some ((t119.length : Int) == 0))) else (some false))) else (some false)))) = some r := by first | (rw [hy106]; with_reducible exact H) | (have H2_ := (Option.bind_some _ _).symm.trans H; rw [hy106]; with_reducible exact H2_) | (have H2_ := (Option.bind_some _ _).symm.trans H; with_reducible exact H2_) | with_reducible exact H | (rw [hy106]; exact H) | exact H
 have Ny106 := Aside0.mk hy106
 clear hy106
 replace H := Option.bind_eq_some_iff.mp H
 obtain ⟨t109, A10, H⟩ := H
 replace H : ((collatorref08_Same.f k t109 (([(⟨(⟨#[97]⟩ : ByteArray), (⟨#[99]⟩ : ByteArray), 100⟩ : S35)] : List (S35)))).bind fun t115 => (if t115 = true then ((rename_Pairs.f y103 y106 101).bind fun t116 => (if (t116.length : Int) = 0 then ((rename_Pairs.f ([] : List (S33)) y106 0).bind fun t119 => (some ((t119.length : Int) == 0))) else (some false))) else (some false))) = some r := H
 have A1 := Aside0.mk A10
 clear A10
 obtain ⟨y112, hy112⟩ : ∃ y_ : List (S35), y_ = (([(⟨(⟨#[97]⟩ : ByteArray), (⟨#[99]⟩ : ByteArray), 100⟩ : S35)] : List (S35))) := ⟨_, rfl⟩
 replace H : ((collatorref08_Same.f k t109 y112).bind fun t115 => (if t115 = true then ((rename_Pairs.f y103 y106 101).bind fun t116 => (if (t116.length : Int) = 0 then ((rename_Pairs.f ([] : List (S33)) y106 0).bind fun t119 => (some ((t119.length : Int) == 0))) else (some false))) else (some false))) = some r := by first | (rw [hy112]; with_reducible exact H) | (have H2_ := (Option.bind_some _ _).symm.trans H; rw [hy112]; with_reducible exact H2_) | (have H2_ := (Option.bind_some _ _).symm.trans H; with_reducible exact H2_) | with_reducible exact H | (rw [hy112]; exact H) | exact H
 have Ny112 := Aside0.mk hy112
 clear hy112
 replace H := Option.bind_eq_some_iff.mp H
 obtain ⟨t115, A20, H⟩ := H
 replace H : (if t115 = true then ((rename_Pairs.f y103 y106 101).bind fun t116 => (if (t116.length : Int) = 0 then ((rename_Pairs.f ([] : List (S33)) y106 0).bind fun t119 => (some ((t119.length : Int) == 0))) else (some false))) else (some false)) = some r := H
 have A2 := Aside0.mk A20
 clear A20
 by_cases c3 : t115 = true
 ·subst c3
  have H1 : ((rename_Pairs.f y103 y106 101).bind fun t116 => (if (t116.length : Int) = 0 then ((rename_Pairs.f ([] : List (S33)) y106 0).bind fun t119 => (some ((t119.length : Int) == 0))) else (some false))) = some r := by rw [if_pos rfl] at H; exact H
  clear H
  have H := H1
  clear H1
  replace H := Option.bind_eq_some_iff.mp H
  obtain ⟨t116, A40, H⟩ := H
  replace H : (if (t116.length : Int) = 0 then ((rename_Pairs.f ([] : List (S33)) y106 0).bind fun t119 => (some ((t119.length : Int) == 0))) else (some false)) = some r := H
  have A4 := Aside0.mk A40
  clear A40
  by_cases c5 : (t116.length : Int) = 0
  ·rw [if_pos c5] at H
   have c5b0 : ((t116.length : Int) == 0) = true := beq_iff_eq.mpr c5
   have c5b1 : ((t116.length : Int) != 0) = false := bne_eq_false_iff_eq.mpr c5
   clear c5
   replace H := Option.bind_eq_some_iff.mp H
   obtain ⟨t119, A60, H⟩ := H
   replace H : (some ((t119.length : Int) == 0)) = some r := H
   have A6 := Aside0.mk A60
   clear A60
   obtain rfl := Option.some.inj H
   go_enter Try.func7, Try.ntmps7
   go_wp2_with (first | ((with_reducible refine gate_dst (N := 5) rfl ?_); (try (refine gate_guard (by rfl) ?_; dsimp only)); refine Kd.R_lit k33 _ 33 ?hg (N := 5) ?hd (xs := ([(⟨(⟨#[97]⟩ : ByteArray), 2, (⟨#[120, 10, 121, 10]⟩ : ByteArray), false⟩ : S33), (⟨(⟨#[98]⟩ : ByteArray), 2, (⟨#[120, 10]⟩ : ByteArray), false⟩ : S33)] : List (S33))) (inner := [.string (⟨#[97]⟩ : ByteArray), .int .i64 2, .string (⟨#[120, 10, 121, 10]⟩ : ByteArray), .bool false, .string (⟨#[98]⟩ : ByteArray), .int .i64 2, .string (⟨#[120, 10]⟩ : ByteArray), .bool false]) (ok := fun _ => True) (okp := fun _ => True) ?hr ?hp (fun _ hk => hk) trivial (Below.refl _ _) (Nat.le_refl _) (by simp) ?_; (case hd => rfl); (case hg => rfl); (case hr => first | (go_simp; done) | (go_simp; rfl)); (case hp => exact (Reps.c4 (show Kd.M k33 _ _ _ (⟨(⟨#[97]⟩ : ByteArray), 2, (⟨#[120, 10, 121, 10]⟩ : ByteArray), false⟩ : S33) [.string (⟨#[97]⟩ : ByteArray), .int .i64 2, .string (⟨#[120, 10, 121, 10]⟩ : ByteArray), .bool false] from (k33_mkM _ _ _ (⟨(⟨#[97]⟩ : ByteArray), 2, (⟨#[120, 10, 121, 10]⟩ : ByteArray), false⟩ : S33) )) (Reps.c4 (show Kd.M k33 _ _ _ (⟨(⟨#[98]⟩ : ByteArray), 2, (⟨#[120, 10]⟩ : ByteArray), false⟩ : S33) [.string (⟨#[98]⟩ : ByteArray), .int .i64 2, .string (⟨#[120, 10]⟩ : ByteArray), .bool false] from (k33_mkM _ _ _ (⟨(⟨#[98]⟩ : ByteArray), 2, (⟨#[120, 10]⟩ : ByteArray), false⟩ : S33) )) (Reps.none _ _)))); intro v104 w7 ho8 hb hg_ hnew_; clear hg_ hnew_; (first | rw [← Ny103.out] at ho8 | (simp only [Int.reduceToNat] at ho8; rw [← Ny103.out] at ho8)); have n0_ := Aside0.mk (Kd.R_lower ho8 (below_size (by repeat (first | (with_reducible first | exact HB.out | apply below_alloc | apply pw_below_drewN | apply below_drew1) | exact HB.out)))); have n1_ := Aside0.mk (below_step (by repeat (first | (with_reducible first | exact HB.out | apply below_alloc | apply pw_below_drewN | apply below_drew1) | exact HB.out)) hb); clear HB; have HO105 := n0_; have HB := n1_; clear n0_ n1_; clear hb ho8) | ((with_reducible refine gate_dst (N := 7) rfl ?_); (try (refine gate_guard (by rfl) ?_; dsimp only)); refine Kd.R_lit k33 _ 33 ?hg (N := 7) ?hd (xs := ([(⟨(⟨#[99]⟩ : ByteArray), 2, (⟨#[120, 10, 121, 10]⟩ : ByteArray), false⟩ : S33)] : List (S33))) (inner := [.string (⟨#[99]⟩ : ByteArray), .int .i64 2, .string (⟨#[120, 10, 121, 10]⟩ : ByteArray), .bool false]) (ok := fun _ => True) (okp := fun _ => True) ?hr ?hp (fun _ hk => hk) trivial (Below.refl _ _) (Nat.le_refl _) (by simp) ?_; (case hd => rfl); (case hg => rfl); (case hr => first | (go_simp; done) | (go_simp; rfl)); (case hp => exact (Reps.c4 (show Kd.M k33 _ _ _ (⟨(⟨#[99]⟩ : ByteArray), 2, (⟨#[120, 10, 121, 10]⟩ : ByteArray), false⟩ : S33) [.string (⟨#[99]⟩ : ByteArray), .int .i64 2, .string (⟨#[120, 10, 121, 10]⟩ : ByteArray), .bool false] from (k33_mkM _ _ _ (⟨(⟨#[99]⟩ : ByteArray), 2, (⟨#[120, 10, 121, 10]⟩ : ByteArray), false⟩ : S33) )) (Reps.none _ _))); intro v107 w9 ho10 hb hg_ hnew_; clear hg_ hnew_; (first | rw [← Ny106.out] at ho10 | (simp only [Int.reduceToNat] at ho10; rw [← Ny106.out] at ho10)); have n0_ := Aside0.mk (Kd.R_elder' (by (with_reducible repeat (first | apply Kd.R_alloc | apply Kd.R_drewN | apply Kd.R_drew)); exact HO105.out) (Kd.R_base ho10) hb); have n1_ := Aside0.mk (Kd.R_lower (Kd.R_new' ho10 (Kd.R_lt (by (with_reducible repeat (first | apply Kd.R_alloc | apply Kd.R_drewN | apply Kd.R_drew)); exact HO105.out))) (below_size (by repeat (first | (with_reducible first | exact HB.out | apply below_alloc | apply pw_below_drewN | apply below_drew1) | exact HB.out)))); have n2_ := Aside0.mk (below_step (by repeat (first | (with_reducible first | exact HB.out | apply below_alloc | apply pw_below_drewN | apply below_drew1) | exact HB.out)) hb); clear HO105; clear HB; have HO105 := n0_; have HO108 := n1_; have HB := n2_; clear n0_ n1_ n2_; clear hb ho10; (try (obtain ⟨Ao11, co11, eo11⟩ := Kd.R_slice HO105.out; subst eo11)); (try (obtain ⟨Ao12, co12, eo12⟩ := Kd.R_slice HO108.out; subst eo12))) | ((with_reducible refine gate_callee (f := 11) rfl ?_); refine goesL_ _ rfl rfl Try.func11 (by kernel_rfl) rfl #[.slice Ao11 y103.length co11, .slice Ao12 y106.length co12, .int .i64 50] rfl (by (try simp only [List.map_toArray, List.map_cons, List.map_nil]); first | done | rfl | (simp only [List.length_drop, List.length_take]; rfl)) ?_; (with_reducible refine (rename_Pairs.calls _ _ y103 _ _ y106 50 t109 _ ?side1 ?side2 ?side3 ?side4 A1.out).mono ?_); (case side1 => repeat (first | exact (Kd.R_reads' HO105.out).2.2 | (with_reducible refine Kd.C_alloc ?_ _) | (with_reducible refine Kd.C_drewN ?_ _) | (with_reducible refine Kd.C_drew ?_))); (case side2 => exact (Kd.R_reads' HO105.out).2.1); (case side3 => repeat (first | exact (Kd.R_reads' HO108.out).2.2 | (with_reducible refine Kd.C_alloc ?_ _) | (with_reducible refine Kd.C_drewN ?_ _) | (with_reducible refine Kd.C_drew ?_))); (case side4 => exact (Kd.R_reads' HO108.out).2.1); rintro e w13 ⟨v110, rfl, ho0, hb⟩; refine ⟨_, rfl, ?_⟩; have n0_ := Aside0.mk (Kd.R_below (by (with_reducible repeat (first | apply Kd.R_alloc | apply Kd.R_drewN | apply Kd.R_drew)); exact HO105.out) hb); have n1_ := Aside0.mk (Kd.R_below (by (with_reducible repeat (first | apply Kd.R_alloc | apply Kd.R_drewN | apply Kd.R_drew)); exact HO108.out) hb); have n2_ := Aside0.mk (Kd.R_lower ho0 (below_size (by repeat (first | (with_reducible first | exact HB.out | apply below_alloc | apply pw_below_drewN | apply below_drew1) | exact HB.out)))); have n3_ := Aside0.mk (below_step (by repeat (first | (with_reducible first | exact HB.out | apply below_alloc | apply pw_below_drewN | apply below_drew1) | exact HB.out)) hb); clear HO105; clear HO108; clear HB; have HO105 := n0_; have HO108 := n1_; have HO111 := n2_; have HB := n3_; clear n0_ n1_ n2_ n3_; (try clear hb); (try clear hb2); (try clear hk); (try clear hi); (try clear ho0)) | ((with_reducible refine gate_dst (N := 12) rfl ?_); (try (refine gate_guard (by rfl) ?_; dsimp only)); refine Kd.R_lit k35 _ 35 ?hg (N := 12) ?hd (xs := ([(⟨(⟨#[97]⟩ : ByteArray), (⟨#[99]⟩ : ByteArray), 100⟩ : S35)] : List (S35))) (inner := [.string (⟨#[97]⟩ : ByteArray), .string (⟨#[99]⟩ : ByteArray), .int .i64 100]) (ok := fun _ => True) (okp := fun _ => True) ?hr ?hp (fun _ hk => hk) trivial (Below.refl _ _) (Nat.le_refl _) (by simp) ?_; (case hd => rfl); (case hg => rfl); (case hr => first | (go_simp; done) | (go_simp; rfl)); (case hp => exact (Reps.c3 (show Kd.M k35 _ _ _ (⟨(⟨#[97]⟩ : ByteArray), (⟨#[99]⟩ : ByteArray), 100⟩ : S35) [.string (⟨#[97]⟩ : ByteArray), .string (⟨#[99]⟩ : ByteArray), .int .i64 100] from (k35_mkM _ _ _ (⟨(⟨#[97]⟩ : ByteArray), (⟨#[99]⟩ : ByteArray), 100⟩ : S35) )) (Reps.none _ _))); intro v113 w14 ho15 hb hg_ hnew_; clear hg_ hnew_; (first | rw [← Ny112.out] at ho15 | (simp only [Int.reduceToNat] at ho15; rw [← Ny112.out] at ho15)); have n0_ := Aside0.mk (Kd.R_below (by (with_reducible repeat (first | apply Kd.R_alloc | apply Kd.R_drewN | apply Kd.R_drew)); exact HO105.out) hb); have n1_ := Aside0.mk (Kd.R_below (by (with_reducible repeat (first | apply Kd.R_alloc | apply Kd.R_drewN | apply Kd.R_drew)); exact HO108.out) hb); have n2_ := Aside0.mk (Kd.R_elder' (by (with_reducible repeat (first | apply Kd.R_alloc | apply Kd.R_drewN | apply Kd.R_drew)); exact HO111.out) (Kd.R_base ho15) hb); have n3_ := Aside0.mk (Kd.R_lower (Kd.R_new' ho15 (Kd.R_lt (by (with_reducible repeat (first | apply Kd.R_alloc | apply Kd.R_drewN | apply Kd.R_drew)); exact HO111.out))) (below_size (by repeat (first | (with_reducible first | exact HB.out | apply below_alloc | apply pw_below_drewN | apply below_drew1) | exact HB.out)))); have n4_ := Aside0.mk (below_step (by repeat (first | (with_reducible first | exact HB.out | apply below_alloc | apply pw_below_drewN | apply below_drew1) | exact HB.out)) hb); clear HO105; clear HO108; clear HO111; clear HB; have HO105 := n0_; have HO108 := n1_; have HO111 := n2_; have HO114 := n3_; have HB := n4_; clear n0_ n1_ n2_ n3_ n4_; clear hb ho15; (try (obtain ⟨Ao16, co16, eo16⟩ := Kd.R_slice HO111.out; subst eo16)); (try (obtain ⟨Ao17, co17, eo17⟩ := Kd.R_slice HO114.out; subst eo17))) | ((with_reducible refine gate_callee (f := 10) rfl ?_); refine goesL_ _ rfl rfl Try.func10 (by kernel_rfl) rfl #[.slice Ao16 t109.length co16, .slice Ao17 y112.length co17] rfl (by (try simp only [List.map_toArray, List.map_cons, List.map_nil]); first | done | rfl | (simp only [List.length_drop, List.length_take]; rfl)) ?_; (with_reducible refine (collatorref08_Same.calls k _ _ t109 _ _ y112 true _ ?side1 ?side2 ?side3 ?side4 A2.out).mono ?_); (case side1 => repeat (first | exact (Kd.R_reads' HO111.out).2.2 | (with_reducible refine Kd.C_alloc ?_ _) | (with_reducible refine Kd.C_drewN ?_ _) | (with_reducible refine Kd.C_drew ?_))); (case side2 => exact (Kd.R_reads' HO111.out).2.1); (case side3 => repeat (first | exact (Kd.R_reads' HO114.out).2.2 | (with_reducible refine Kd.C_alloc ?_ _) | (with_reducible refine Kd.C_drewN ?_ _) | (with_reducible refine Kd.C_drew ?_))); (case side4 => exact (Kd.R_reads' HO114.out).2.1); rintro e w' ⟨rfl, ⟨nd, rfl⟩⟩; refine ⟨_, rfl, ?_⟩) | (go_at_call 11; (with_reducible refine (rename_Pairs.calls _ _ y103 _ _ y106 101 t116 _ ?side1 ?side2 ?side3 ?side4 A4.out).mono ?_); (case side1 => repeat (first | exact (Kd.R_reads' HO105.out).2.2 | (with_reducible refine Kd.C_alloc ?_ _) | (with_reducible refine Kd.C_drewN ?_ _) | (with_reducible refine Kd.C_drew ?_))); (case side2 => exact (Kd.R_reads' HO105.out).2.1); (case side3 => repeat (first | exact (Kd.R_reads' HO108.out).2.2 | (with_reducible refine Kd.C_alloc ?_ _) | (with_reducible refine Kd.C_drewN ?_ _) | (with_reducible refine Kd.C_drew ?_))); (case side4 => exact (Kd.R_reads' HO108.out).2.1); rintro e w18 ⟨v117, rfl, ho0, hb⟩; have n0_ := Aside0.mk (Kd.R_below (by (with_reducible repeat (first | apply Kd.R_alloc | apply Kd.R_drewN | apply Kd.R_drew)); exact HO105.out) hb); have n1_ := Aside0.mk (Kd.R_below (by (with_reducible repeat (first | apply Kd.R_alloc | apply Kd.R_drewN | apply Kd.R_drew)); exact HO108.out) hb); have n2_ := Aside0.mk (Kd.R_elder' (by (with_reducible repeat (first | apply Kd.R_alloc | apply Kd.R_drewN | apply Kd.R_drew)); exact HO111.out) (Kd.R_base ho0) hb); have n3_ := Aside0.mk (Kd.R_elder' (by (with_reducible repeat (first | apply Kd.R_alloc | apply Kd.R_drewN | apply Kd.R_drew)); exact HO114.out) (Kd.R_base ho0) hb); have n4_ := Aside0.mk (Kd.R_lower (Kd.R_new' (Kd.R_new' ho0 (Kd.R_lt (by (with_reducible repeat (first | apply Kd.R_alloc | apply Kd.R_drewN | apply Kd.R_drew)); exact HO111.out))) (Kd.R_lt (by (with_reducible repeat (first | apply Kd.R_alloc | apply Kd.R_drewN | apply Kd.R_drew)); exact HO114.out))) (below_size (by repeat (first | (with_reducible first | exact HB.out | apply below_alloc | apply pw_below_drewN | apply below_drew1) | exact HB.out)))); have n5_ := Aside0.mk (below_step (by repeat (first | (with_reducible first | exact HB.out | apply below_alloc | apply pw_below_drewN | apply below_drew1) | exact HB.out)) hb); clear HO105; clear HO108; clear HO111; clear HO114; clear HB; have HO105 := n0_; have HO108 := n1_; have HO111 := n2_; have HO114 := n3_; have HO118 := n4_; have HB := n5_; clear n0_ n1_ n2_ n3_ n4_ n5_; (try clear hb); (try clear hb2); (try clear hk); (try clear hi); (try clear ho0); (try (obtain ⟨Ao19, co19, eo19⟩ := Kd.R_slice HO118.out; subst eo19))) | (go_at_call 11; (refine (rename_Pairs.calls _ _ ([] : List (S33)) _ _ y106 0 t119 _ ?side1 ?side2 ?side3 ?side4 A6.out).mono ?_); (case side1 => exact Kd.C_nil _ _); (case side2 => exact Nat.le_refl _); (case side3 => repeat (first | exact (Kd.R_reads' HO108.out).2.2 | (with_reducible refine Kd.C_alloc ?_ _) | (with_reducible refine Kd.C_drewN ?_ _) | (with_reducible refine Kd.C_drew ?_))); (case side4 => exact (Kd.R_reads' HO108.out).2.1); rintro e w20 ⟨v120, rfl, ho0, hb⟩; have n0_ := Aside0.mk (Kd.R_below (by (with_reducible repeat (first | apply Kd.R_alloc | apply Kd.R_drewN | apply Kd.R_drew)); exact HO105.out) hb); have n1_ := Aside0.mk (Kd.R_below (by (with_reducible repeat (first | apply Kd.R_alloc | apply Kd.R_drewN | apply Kd.R_drew)); exact HO108.out) hb); have n2_ := Aside0.mk (Kd.R_elder' (by (with_reducible repeat (first | apply Kd.R_alloc | apply Kd.R_drewN | apply Kd.R_drew)); exact HO111.out) (Kd.R_base ho0) hb); have n3_ := Aside0.mk (Kd.R_elder' (by (with_reducible repeat (first | apply Kd.R_alloc | apply Kd.R_drewN | apply Kd.R_drew)); exact HO114.out) (Kd.R_base ho0) hb); have n4_ := Aside0.mk (Kd.R_elder' (by (with_reducible repeat (first | apply Kd.R_alloc | apply Kd.R_drewN | apply Kd.R_drew)); exact HO118.out) (Kd.R_base ho0) hb); have n5_ := Aside0.mk (Kd.R_lower (Kd.R_new' (Kd.R_new' (Kd.R_new' ho0 (Kd.R_lt (by (with_reducible repeat (first | apply Kd.R_alloc | apply Kd.R_drewN | apply Kd.R_drew)); exact HO111.out))) (Kd.R_lt (by (with_reducible repeat (first | apply Kd.R_alloc | apply Kd.R_drewN | apply Kd.R_drew)); exact HO114.out))) (Kd.R_lt (by (with_reducible repeat (first | apply Kd.R_alloc | apply Kd.R_drewN | apply Kd.R_drew)); exact HO118.out))) (below_size (by repeat (first | (with_reducible first | exact HB.out | apply below_alloc | apply pw_below_drewN | apply below_drew1) | exact HB.out)))); have n6_ := Aside0.mk (below_step (by repeat (first | (with_reducible first | exact HB.out | apply below_alloc | apply pw_below_drewN | apply below_drew1) | exact HB.out)) hb); clear HO105; clear HO108; clear HO111; clear HO114; clear HO118; clear HB; have HO105 := n0_; have HO108 := n1_; have HO111 := n2_; have HO114 := n3_; have HO118 := n4_; have HO121 := n5_; have HB := n6_; clear n0_ n1_ n2_ n3_ n4_ n5_ n6_; (try clear hb); (try clear hb2); (try clear hk); (try clear hi); (try clear ho0); (try (obtain ⟨Ao21, co21, eo21⟩ := Kd.R_slice HO121.out; subst eo21))))
   go_ret
   exact ⟨by first | rfl | (simp [errW_none, errW_some] <;> rfl) | (simp [*, errW_none, errW_some] <;> rfl), by repeat (first | (with_reducible first | exact HB.out | apply below_alloc | apply pw_below_drewN | apply below_drew1) | exact HB.out)⟩
  ·rw [if_neg c5] at H
   have c5b0 : ((t116.length : Int) == 0) = false := beq_eq_false_iff_ne.mpr c5
   have c5b1 : ((t116.length : Int) != 0) = true := bne_iff_ne.mpr c5
   have c5b2 : ¬ (t116 = []) := fun h_ => c5 (by rw [h_]; rfl)
   obtain rfl := Option.some.inj H
   go_enter Try.func7, Try.ntmps7
   go_wp2_with (first | ((with_reducible refine gate_dst (N := 5) rfl ?_); (try (refine gate_guard (by rfl) ?_; dsimp only)); refine Kd.R_lit k33 _ 33 ?hg (N := 5) ?hd (xs := ([(⟨(⟨#[97]⟩ : ByteArray), 2, (⟨#[120, 10, 121, 10]⟩ : ByteArray), false⟩ : S33), (⟨(⟨#[98]⟩ : ByteArray), 2, (⟨#[120, 10]⟩ : ByteArray), false⟩ : S33)] : List (S33))) (inner := [.string (⟨#[97]⟩ : ByteArray), .int .i64 2, .string (⟨#[120, 10, 121, 10]⟩ : ByteArray), .bool false, .string (⟨#[98]⟩ : ByteArray), .int .i64 2, .string (⟨#[120, 10]⟩ : ByteArray), .bool false]) (ok := fun _ => True) (okp := fun _ => True) ?hr ?hp (fun _ hk => hk) trivial (Below.refl _ _) (Nat.le_refl _) (by simp) ?_; (case hd => rfl); (case hg => rfl); (case hr => first | (go_simp; done) | (go_simp; rfl)); (case hp => exact (Reps.c4 (show Kd.M k33 _ _ _ (⟨(⟨#[97]⟩ : ByteArray), 2, (⟨#[120, 10, 121, 10]⟩ : ByteArray), false⟩ : S33) [.string (⟨#[97]⟩ : ByteArray), .int .i64 2, .string (⟨#[120, 10, 121, 10]⟩ : ByteArray), .bool false] from (k33_mkM _ _ _ (⟨(⟨#[97]⟩ : ByteArray), 2, (⟨#[120, 10, 121, 10]⟩ : ByteArray), false⟩ : S33) )) (Reps.c4 (show Kd.M k33 _ _ _ (⟨(⟨#[98]⟩ : ByteArray), 2, (⟨#[120, 10]⟩ : ByteArray), false⟩ : S33) [.string (⟨#[98]⟩ : ByteArray), .int .i64 2, .string (⟨#[120, 10]⟩ : ByteArray), .bool false] from (k33_mkM _ _ _ (⟨(⟨#[98]⟩ : ByteArray), 2, (⟨#[120, 10]⟩ : ByteArray), false⟩ : S33) )) (Reps.none _ _)))); intro v104 w22 ho23 hb hg_ hnew_; clear hg_ hnew_; (first | rw [← Ny103.out] at ho23 | (simp only [Int.reduceToNat] at ho23; rw [← Ny103.out] at ho23)); have n0_ := Aside0.mk (Kd.R_lower ho23 (below_size (by repeat (first | (with_reducible first | exact HB.out | apply below_alloc | apply pw_below_drewN | apply below_drew1) | exact HB.out)))); have n1_ := Aside0.mk (below_step (by repeat (first | (with_reducible first | exact HB.out | apply below_alloc | apply pw_below_drewN | apply below_drew1) | exact HB.out)) hb); clear HB; have HO105 := n0_; have HB := n1_; clear n0_ n1_; clear hb ho23) | ((with_reducible refine gate_dst (N := 7) rfl ?_); (try (refine gate_guard (by rfl) ?_; dsimp only)); refine Kd.R_lit k33 _ 33 ?hg (N := 7) ?hd (xs := ([(⟨(⟨#[99]⟩ : ByteArray), 2, (⟨#[120, 10, 121, 10]⟩ : ByteArray), false⟩ : S33)] : List (S33))) (inner := [.string (⟨#[99]⟩ : ByteArray), .int .i64 2, .string (⟨#[120, 10, 121, 10]⟩ : ByteArray), .bool false]) (ok := fun _ => True) (okp := fun _ => True) ?hr ?hp (fun _ hk => hk) trivial (Below.refl _ _) (Nat.le_refl _) (by simp) ?_; (case hd => rfl); (case hg => rfl); (case hr => first | (go_simp; done) | (go_simp; rfl)); (case hp => exact (Reps.c4 (show Kd.M k33 _ _ _ (⟨(⟨#[99]⟩ : ByteArray), 2, (⟨#[120, 10, 121, 10]⟩ : ByteArray), false⟩ : S33) [.string (⟨#[99]⟩ : ByteArray), .int .i64 2, .string (⟨#[120, 10, 121, 10]⟩ : ByteArray), .bool false] from (k33_mkM _ _ _ (⟨(⟨#[99]⟩ : ByteArray), 2, (⟨#[120, 10, 121, 10]⟩ : ByteArray), false⟩ : S33) )) (Reps.none _ _))); intro v107 w24 ho25 hb hg_ hnew_; clear hg_ hnew_; (first | rw [← Ny106.out] at ho25 | (simp only [Int.reduceToNat] at ho25; rw [← Ny106.out] at ho25)); have n0_ := Aside0.mk (Kd.R_elder' (by (with_reducible repeat (first | apply Kd.R_alloc | apply Kd.R_drewN | apply Kd.R_drew)); exact HO105.out) (Kd.R_base ho25) hb); have n1_ := Aside0.mk (Kd.R_lower (Kd.R_new' ho25 (Kd.R_lt (by (with_reducible repeat (first | apply Kd.R_alloc | apply Kd.R_drewN | apply Kd.R_drew)); exact HO105.out))) (below_size (by repeat (first | (with_reducible first | exact HB.out | apply below_alloc | apply pw_below_drewN | apply below_drew1) | exact HB.out)))); have n2_ := Aside0.mk (below_step (by repeat (first | (with_reducible first | exact HB.out | apply below_alloc | apply pw_below_drewN | apply below_drew1) | exact HB.out)) hb); clear HO105; clear HB; have HO105 := n0_; have HO108 := n1_; have HB := n2_; clear n0_ n1_ n2_; clear hb ho25; (try (obtain ⟨Ao26, co26, eo26⟩ := Kd.R_slice HO105.out; subst eo26)); (try (obtain ⟨Ao27, co27, eo27⟩ := Kd.R_slice HO108.out; subst eo27))) | ((with_reducible refine gate_callee (f := 11) rfl ?_); refine goesL_ _ rfl rfl Try.func11 (by kernel_rfl) rfl #[.slice Ao26 y103.length co26, .slice Ao27 y106.length co27, .int .i64 50] rfl (by (try simp only [List.map_toArray, List.map_cons, List.map_nil]); first | done | rfl | (simp only [List.length_drop, List.length_take]; rfl)) ?_; (with_reducible refine (rename_Pairs.calls _ _ y103 _ _ y106 50 t109 _ ?side1 ?side2 ?side3 ?side4 A1.out).mono ?_); (case side1 => repeat (first | exact (Kd.R_reads' HO105.out).2.2 | (with_reducible refine Kd.C_alloc ?_ _) | (with_reducible refine Kd.C_drewN ?_ _) | (with_reducible refine Kd.C_drew ?_))); (case side2 => exact (Kd.R_reads' HO105.out).2.1); (case side3 => repeat (first | exact (Kd.R_reads' HO108.out).2.2 | (with_reducible refine Kd.C_alloc ?_ _) | (with_reducible refine Kd.C_drewN ?_ _) | (with_reducible refine Kd.C_drew ?_))); (case side4 => exact (Kd.R_reads' HO108.out).2.1); rintro e w28 ⟨v110, rfl, ho0, hb⟩; refine ⟨_, rfl, ?_⟩; have n0_ := Aside0.mk (Kd.R_below (by (with_reducible repeat (first | apply Kd.R_alloc | apply Kd.R_drewN | apply Kd.R_drew)); exact HO105.out) hb); have n1_ := Aside0.mk (Kd.R_below (by (with_reducible repeat (first | apply Kd.R_alloc | apply Kd.R_drewN | apply Kd.R_drew)); exact HO108.out) hb); have n2_ := Aside0.mk (Kd.R_lower ho0 (below_size (by repeat (first | (with_reducible first | exact HB.out | apply below_alloc | apply pw_below_drewN | apply below_drew1) | exact HB.out)))); have n3_ := Aside0.mk (below_step (by repeat (first | (with_reducible first | exact HB.out | apply below_alloc | apply pw_below_drewN | apply below_drew1) | exact HB.out)) hb); clear HO105; clear HO108; clear HB; have HO105 := n0_; have HO108 := n1_; have HO111 := n2_; have HB := n3_; clear n0_ n1_ n2_ n3_; (try clear hb); (try clear hb2); (try clear hk); (try clear hi); (try clear ho0)) | ((with_reducible refine gate_dst (N := 12) rfl ?_); (try (refine gate_guard (by rfl) ?_; dsimp only)); refine Kd.R_lit k35 _ 35 ?hg (N := 12) ?hd (xs := ([(⟨(⟨#[97]⟩ : ByteArray), (⟨#[99]⟩ : ByteArray), 100⟩ : S35)] : List (S35))) (inner := [.string (⟨#[97]⟩ : ByteArray), .string (⟨#[99]⟩ : ByteArray), .int .i64 100]) (ok := fun _ => True) (okp := fun _ => True) ?hr ?hp (fun _ hk => hk) trivial (Below.refl _ _) (Nat.le_refl _) (by simp) ?_; (case hd => rfl); (case hg => rfl); (case hr => first | (go_simp; done) | (go_simp; rfl)); (case hp => exact (Reps.c3 (show Kd.M k35 _ _ _ (⟨(⟨#[97]⟩ : ByteArray), (⟨#[99]⟩ : ByteArray), 100⟩ : S35) [.string (⟨#[97]⟩ : ByteArray), .string (⟨#[99]⟩ : ByteArray), .int .i64 100] from (k35_mkM _ _ _ (⟨(⟨#[97]⟩ : ByteArray), (⟨#[99]⟩ : ByteArray), 100⟩ : S35) )) (Reps.none _ _))); intro v113 w29 ho30 hb hg_ hnew_; clear hg_ hnew_; (first | rw [← Ny112.out] at ho30 | (simp only [Int.reduceToNat] at ho30; rw [← Ny112.out] at ho30)); have n0_ := Aside0.mk (Kd.R_below (by (with_reducible repeat (first | apply Kd.R_alloc | apply Kd.R_drewN | apply Kd.R_drew)); exact HO105.out) hb); have n1_ := Aside0.mk (Kd.R_below (by (with_reducible repeat (first | apply Kd.R_alloc | apply Kd.R_drewN | apply Kd.R_drew)); exact HO108.out) hb); have n2_ := Aside0.mk (Kd.R_elder' (by (with_reducible repeat (first | apply Kd.R_alloc | apply Kd.R_drewN | apply Kd.R_drew)); exact HO111.out) (Kd.R_base ho30) hb); have n3_ := Aside0.mk (Kd.R_lower (Kd.R_new' ho30 (Kd.R_lt (by (with_reducible repeat (first | apply Kd.R_alloc | apply Kd.R_drewN | apply Kd.R_drew)); exact HO111.out))) (below_size (by repeat (first | (with_reducible first | exact HB.out | apply below_alloc | apply pw_below_drewN | apply below_drew1) | exact HB.out)))); have n4_ := Aside0.mk (below_step (by repeat (first | (with_reducible first | exact HB.out | apply below_alloc | apply pw_below_drewN | apply below_drew1) | exact HB.out)) hb); clear HO105; clear HO108; clear HO111; clear HB; have HO105 := n0_; have HO108 := n1_; have HO111 := n2_; have HO114 := n3_; have HB := n4_; clear n0_ n1_ n2_ n3_ n4_; clear hb ho30; (try (obtain ⟨Ao31, co31, eo31⟩ := Kd.R_slice HO111.out; subst eo31)); (try (obtain ⟨Ao32, co32, eo32⟩ := Kd.R_slice HO114.out; subst eo32))) | ((with_reducible refine gate_callee (f := 10) rfl ?_); refine goesL_ _ rfl rfl Try.func10 (by kernel_rfl) rfl #[.slice Ao31 t109.length co31, .slice Ao32 y112.length co32] rfl (by (try simp only [List.map_toArray, List.map_cons, List.map_nil]); first | done | rfl | (simp only [List.length_drop, List.length_take]; rfl)) ?_; (with_reducible refine (collatorref08_Same.calls k _ _ t109 _ _ y112 true _ ?side1 ?side2 ?side3 ?side4 A2.out).mono ?_); (case side1 => repeat (first | exact (Kd.R_reads' HO111.out).2.2 | (with_reducible refine Kd.C_alloc ?_ _) | (with_reducible refine Kd.C_drewN ?_ _) | (with_reducible refine Kd.C_drew ?_))); (case side2 => exact (Kd.R_reads' HO111.out).2.1); (case side3 => repeat (first | exact (Kd.R_reads' HO114.out).2.2 | (with_reducible refine Kd.C_alloc ?_ _) | (with_reducible refine Kd.C_drewN ?_ _) | (with_reducible refine Kd.C_drew ?_))); (case side4 => exact (Kd.R_reads' HO114.out).2.1); rintro e w' ⟨rfl, ⟨nd, rfl⟩⟩; refine ⟨_, rfl, ?_⟩) | (go_at_call 11; (with_reducible refine (rename_Pairs.calls _ _ y103 _ _ y106 101 t116 _ ?side1 ?side2 ?side3 ?side4 A4.out).mono ?_); (case side1 => repeat (first | exact (Kd.R_reads' HO105.out).2.2 | (with_reducible refine Kd.C_alloc ?_ _) | (with_reducible refine Kd.C_drewN ?_ _) | (with_reducible refine Kd.C_drew ?_))); (case side2 => exact (Kd.R_reads' HO105.out).2.1); (case side3 => repeat (first | exact (Kd.R_reads' HO108.out).2.2 | (with_reducible refine Kd.C_alloc ?_ _) | (with_reducible refine Kd.C_drewN ?_ _) | (with_reducible refine Kd.C_drew ?_))); (case side4 => exact (Kd.R_reads' HO108.out).2.1); rintro e w33 ⟨v117, rfl, ho0, hb⟩; have n0_ := Aside0.mk (Kd.R_below (by (with_reducible repeat (first | apply Kd.R_alloc | apply Kd.R_drewN | apply Kd.R_drew)); exact HO105.out) hb); have n1_ := Aside0.mk (Kd.R_below (by (with_reducible repeat (first | apply Kd.R_alloc | apply Kd.R_drewN | apply Kd.R_drew)); exact HO108.out) hb); have n2_ := Aside0.mk (Kd.R_elder' (by (with_reducible repeat (first | apply Kd.R_alloc | apply Kd.R_drewN | apply Kd.R_drew)); exact HO111.out) (Kd.R_base ho0) hb); have n3_ := Aside0.mk (Kd.R_elder' (by (with_reducible repeat (first | apply Kd.R_alloc | apply Kd.R_drewN | apply Kd.R_drew)); exact HO114.out) (Kd.R_base ho0) hb); have n4_ := Aside0.mk (Kd.R_lower (Kd.R_new' (Kd.R_new' ho0 (Kd.R_lt (by (with_reducible repeat (first | apply Kd.R_alloc | apply Kd.R_drewN | apply Kd.R_drew)); exact HO111.out))) (Kd.R_lt (by (with_reducible repeat (first | apply Kd.R_alloc | apply Kd.R_drewN | apply Kd.R_drew)); exact HO114.out))) (below_size (by repeat (first | (with_reducible first | exact HB.out | apply below_alloc | apply pw_below_drewN | apply below_drew1) | exact HB.out)))); have n5_ := Aside0.mk (below_step (by repeat (first | (with_reducible first | exact HB.out | apply below_alloc | apply pw_below_drewN | apply below_drew1) | exact HB.out)) hb); clear HO105; clear HO108; clear HO111; clear HO114; clear HB; have HO105 := n0_; have HO108 := n1_; have HO111 := n2_; have HO114 := n3_; have HO118 := n4_; have HB := n5_; clear n0_ n1_ n2_ n3_ n4_ n5_; (try clear hb); (try clear hb2); (try clear hk); (try clear hi); (try clear ho0); (try (obtain ⟨Ao34, co34, eo34⟩ := Kd.R_slice HO118.out; subst eo34))))
   go_ret
   exact ⟨by first | rfl | (simp [errW_none, errW_some] <;> rfl) | (simp [*, errW_none, errW_some] <;> rfl), by repeat (first | (with_reducible first | exact HB.out | apply below_alloc | apply pw_below_drewN | apply below_drew1) | exact HB.out)⟩
 ·replace c3 := Bool.eq_false_iff.mpr c3
  subst c3
  have H1 : (some false) = some r := by rw [if_neg (show ¬ (false = true) by decide)] at H; exact H
  clear H
  have H := H1
  clear H1
  obtain rfl := Option.some.inj H
  go_enter Try.func7, Try.ntmps7
  go_wp2_with (first | ((with_reducible refine gate_dst (N := 5) rfl ?_); (try (refine gate_guard (by rfl) ?_; dsimp only)); refine Kd.R_lit k33 _ 33 ?hg (N := 5) ?hd (xs := ([(⟨(⟨#[97]⟩ : ByteArray), 2, (⟨#[120, 10, 121, 10]⟩ : ByteArray), false⟩ : S33), (⟨(⟨#[98]⟩ : ByteArray), 2, (⟨#[120, 10]⟩ : ByteArray), false⟩ : S33)] : List (S33))) (inner := [.string (⟨#[97]⟩ : ByteArray), .int .i64 2, .string (⟨#[120, 10, 121, 10]⟩ : ByteArray), .bool false, .string (⟨#[98]⟩ : ByteArray), .int .i64 2, .string (⟨#[120, 10]⟩ : ByteArray), .bool false]) (ok := fun _ => True) (okp := fun _ => True) ?hr ?hp (fun _ hk => hk) trivial (Below.refl _ _) (Nat.le_refl _) (by simp) ?_; (case hd => rfl); (case hg => rfl); (case hr => first | (go_simp; done) | (go_simp; rfl)); (case hp => exact (Reps.c4 (show Kd.M k33 _ _ _ (⟨(⟨#[97]⟩ : ByteArray), 2, (⟨#[120, 10, 121, 10]⟩ : ByteArray), false⟩ : S33) [.string (⟨#[97]⟩ : ByteArray), .int .i64 2, .string (⟨#[120, 10, 121, 10]⟩ : ByteArray), .bool false] from (k33_mkM _ _ _ (⟨(⟨#[97]⟩ : ByteArray), 2, (⟨#[120, 10, 121, 10]⟩ : ByteArray), false⟩ : S33) )) (Reps.c4 (show Kd.M k33 _ _ _ (⟨(⟨#[98]⟩ : ByteArray), 2, (⟨#[120, 10]⟩ : ByteArray), false⟩ : S33) [.string (⟨#[98]⟩ : ByteArray), .int .i64 2, .string (⟨#[120, 10]⟩ : ByteArray), .bool false] from (k33_mkM _ _ _ (⟨(⟨#[98]⟩ : ByteArray), 2, (⟨#[120, 10]⟩ : ByteArray), false⟩ : S33) )) (Reps.none _ _)))); intro v104 w35 ho36 hb hg_ hnew_; clear hg_ hnew_; (first | rw [← Ny103.out] at ho36 | (simp only [Int.reduceToNat] at ho36; rw [← Ny103.out] at ho36)); have n0_ := Aside0.mk (Kd.R_lower ho36 (below_size (by repeat (first | (with_reducible first | exact HB.out | apply below_alloc | apply pw_below_drewN | apply below_drew1) | exact HB.out)))); have n1_ := Aside0.mk (below_step (by repeat (first | (with_reducible first | exact HB.out | apply below_alloc | apply pw_below_drewN | apply below_drew1) | exact HB.out)) hb); clear HB; have HO105 := n0_; have HB := n1_; clear n0_ n1_; clear hb ho36) | ((with_reducible refine gate_dst (N := 7) rfl ?_); (try (refine gate_guard (by rfl) ?_; dsimp only)); refine Kd.R_lit k33 _ 33 ?hg (N := 7) ?hd (xs := ([(⟨(⟨#[99]⟩ : ByteArray), 2, (⟨#[120, 10, 121, 10]⟩ : ByteArray), false⟩ : S33)] : List (S33))) (inner := [.string (⟨#[99]⟩ : ByteArray), .int .i64 2, .string (⟨#[120, 10, 121, 10]⟩ : ByteArray), .bool false]) (ok := fun _ => True) (okp := fun _ => True) ?hr ?hp (fun _ hk => hk) trivial (Below.refl _ _) (Nat.le_refl _) (by simp) ?_; (case hd => rfl); (case hg => rfl); (case hr => first | (go_simp; done) | (go_simp; rfl)); (case hp => exact (Reps.c4 (show Kd.M k33 _ _ _ (⟨(⟨#[99]⟩ : ByteArray), 2, (⟨#[120, 10, 121, 10]⟩ : ByteArray), false⟩ : S33) [.string (⟨#[99]⟩ : ByteArray), .int .i64 2, .string (⟨#[120, 10, 121, 10]⟩ : ByteArray), .bool false] from (k33_mkM _ _ _ (⟨(⟨#[99]⟩ : ByteArray), 2, (⟨#[120, 10, 121, 10]⟩ : ByteArray), false⟩ : S33) )) (Reps.none _ _))); intro v107 w37 ho38 hb hg_ hnew_; clear hg_ hnew_; (first | rw [← Ny106.out] at ho38 | (simp only [Int.reduceToNat] at ho38; rw [← Ny106.out] at ho38)); have n0_ := Aside0.mk (Kd.R_elder' (by (with_reducible repeat (first | apply Kd.R_alloc | apply Kd.R_drewN | apply Kd.R_drew)); exact HO105.out) (Kd.R_base ho38) hb); have n1_ := Aside0.mk (Kd.R_lower (Kd.R_new' ho38 (Kd.R_lt (by (with_reducible repeat (first | apply Kd.R_alloc | apply Kd.R_drewN | apply Kd.R_drew)); exact HO105.out))) (below_size (by repeat (first | (with_reducible first | exact HB.out | apply below_alloc | apply pw_below_drewN | apply below_drew1) | exact HB.out)))); have n2_ := Aside0.mk (below_step (by repeat (first | (with_reducible first | exact HB.out | apply below_alloc | apply pw_below_drewN | apply below_drew1) | exact HB.out)) hb); clear HO105; clear HB; have HO105 := n0_; have HO108 := n1_; have HB := n2_; clear n0_ n1_ n2_; clear hb ho38; (try (obtain ⟨Ao39, co39, eo39⟩ := Kd.R_slice HO105.out; subst eo39)); (try (obtain ⟨Ao40, co40, eo40⟩ := Kd.R_slice HO108.out; subst eo40))) | ((with_reducible refine gate_callee (f := 11) rfl ?_); refine goesL_ _ rfl rfl Try.func11 (by kernel_rfl) rfl #[.slice Ao39 y103.length co39, .slice Ao40 y106.length co40, .int .i64 50] rfl (by (try simp only [List.map_toArray, List.map_cons, List.map_nil]); first | done | rfl | (simp only [List.length_drop, List.length_take]; rfl)) ?_; (with_reducible refine (rename_Pairs.calls _ _ y103 _ _ y106 50 t109 _ ?side1 ?side2 ?side3 ?side4 A1.out).mono ?_); (case side1 => repeat (first | exact (Kd.R_reads' HO105.out).2.2 | (with_reducible refine Kd.C_alloc ?_ _) | (with_reducible refine Kd.C_drewN ?_ _) | (with_reducible refine Kd.C_drew ?_))); (case side2 => exact (Kd.R_reads' HO105.out).2.1); (case side3 => repeat (first | exact (Kd.R_reads' HO108.out).2.2 | (with_reducible refine Kd.C_alloc ?_ _) | (with_reducible refine Kd.C_drewN ?_ _) | (with_reducible refine Kd.C_drew ?_))); (case side4 => exact (Kd.R_reads' HO108.out).2.1); rintro e w41 ⟨v110, rfl, ho0, hb⟩; refine ⟨_, rfl, ?_⟩; have n0_ := Aside0.mk (Kd.R_below (by (with_reducible repeat (first | apply Kd.R_alloc | apply Kd.R_drewN | apply Kd.R_drew)); exact HO105.out) hb); have n1_ := Aside0.mk (Kd.R_below (by (with_reducible repeat (first | apply Kd.R_alloc | apply Kd.R_drewN | apply Kd.R_drew)); exact HO108.out) hb); have n2_ := Aside0.mk (Kd.R_lower ho0 (below_size (by repeat (first | (with_reducible first | exact HB.out | apply below_alloc | apply pw_below_drewN | apply below_drew1) | exact HB.out)))); have n3_ := Aside0.mk (below_step (by repeat (first | (with_reducible first | exact HB.out | apply below_alloc | apply pw_below_drewN | apply below_drew1) | exact HB.out)) hb); clear HO105; clear HO108; clear HB; have HO105 := n0_; have HO108 := n1_; have HO111 := n2_; have HB := n3_; clear n0_ n1_ n2_ n3_; (try clear hb); (try clear hb2); (try clear hk); (try clear hi); (try clear ho0)) | ((with_reducible refine gate_dst (N := 12) rfl ?_); (try (refine gate_guard (by rfl) ?_; dsimp only)); refine Kd.R_lit k35 _ 35 ?hg (N := 12) ?hd (xs := ([(⟨(⟨#[97]⟩ : ByteArray), (⟨#[99]⟩ : ByteArray), 100⟩ : S35)] : List (S35))) (inner := [.string (⟨#[97]⟩ : ByteArray), .string (⟨#[99]⟩ : ByteArray), .int .i64 100]) (ok := fun _ => True) (okp := fun _ => True) ?hr ?hp (fun _ hk => hk) trivial (Below.refl _ _) (Nat.le_refl _) (by simp) ?_; (case hd => rfl); (case hg => rfl); (case hr => first | (go_simp; done) | (go_simp; rfl)); (case hp => exact (Reps.c3 (show Kd.M k35 _ _ _ (⟨(⟨#[97]⟩ : ByteArray), (⟨#[99]⟩ : ByteArray), 100⟩ : S35) [.string (⟨#[97]⟩ : ByteArray), .string (⟨#[99]⟩ : ByteArray), .int .i64 100] from (k35_mkM _ _ _ (⟨(⟨#[97]⟩ : ByteArray), (⟨#[99]⟩ : ByteArray), 100⟩ : S35) )) (Reps.none _ _))); intro v113 w42 ho43 hb hg_ hnew_; clear hg_ hnew_; (first | rw [← Ny112.out] at ho43 | (simp only [Int.reduceToNat] at ho43; rw [← Ny112.out] at ho43)); have n0_ := Aside0.mk (Kd.R_below (by (with_reducible repeat (first | apply Kd.R_alloc | apply Kd.R_drewN | apply Kd.R_drew)); exact HO105.out) hb); have n1_ := Aside0.mk (Kd.R_below (by (with_reducible repeat (first | apply Kd.R_alloc | apply Kd.R_drewN | apply Kd.R_drew)); exact HO108.out) hb); have n2_ := Aside0.mk (Kd.R_elder' (by (with_reducible repeat (first | apply Kd.R_alloc | apply Kd.R_drewN | apply Kd.R_drew)); exact HO111.out) (Kd.R_base ho43) hb); have n3_ := Aside0.mk (Kd.R_lower (Kd.R_new' ho43 (Kd.R_lt (by (with_reducible repeat (first | apply Kd.R_alloc | apply Kd.R_drewN | apply Kd.R_drew)); exact HO111.out))) (below_size (by repeat (first | (with_reducible first | exact HB.out | apply below_alloc | apply pw_below_drewN | apply below_drew1) | exact HB.out)))); have n4_ := Aside0.mk (below_step (by repeat (first | (with_reducible first | exact HB.out | apply below_alloc | apply pw_below_drewN | apply below_drew1) | exact HB.out)) hb); clear HO105; clear HO108; clear HO111; clear HB; have HO105 := n0_; have HO108 := n1_; have HO111 := n2_; have HO114 := n3_; have HB := n4_; clear n0_ n1_ n2_ n3_ n4_; clear hb ho43; (try (obtain ⟨Ao44, co44, eo44⟩ := Kd.R_slice HO111.out; subst eo44)); (try (obtain ⟨Ao45, co45, eo45⟩ := Kd.R_slice HO114.out; subst eo45))) | ((with_reducible refine gate_callee (f := 10) rfl ?_); refine goesL_ _ rfl rfl Try.func10 (by kernel_rfl) rfl #[.slice Ao44 t109.length co44, .slice Ao45 y112.length co45] rfl (by (try simp only [List.map_toArray, List.map_cons, List.map_nil]); first | done | rfl | (simp only [List.length_drop, List.length_take]; rfl)) ?_; (with_reducible refine (collatorref08_Same.calls k _ _ t109 _ _ y112 false _ ?side1 ?side2 ?side3 ?side4 A2.out).mono ?_); (case side1 => repeat (first | exact (Kd.R_reads' HO111.out).2.2 | (with_reducible refine Kd.C_alloc ?_ _) | (with_reducible refine Kd.C_drewN ?_ _) | (with_reducible refine Kd.C_drew ?_))); (case side2 => exact (Kd.R_reads' HO111.out).2.1); (case side3 => repeat (first | exact (Kd.R_reads' HO114.out).2.2 | (with_reducible refine Kd.C_alloc ?_ _) | (with_reducible refine Kd.C_drewN ?_ _) | (with_reducible refine Kd.C_drew ?_))); (case side4 => exact (Kd.R_reads' HO114.out).2.1); rintro e w' ⟨rfl, ⟨nd, rfl⟩⟩; refine ⟨_, rfl, ?_⟩))
  go_ret
  exact ⟨by first | rfl | (simp [errW_none, errW_some] <;> rfl) | (simp [*, errW_none, errW_some] <;> rfl), by repeat (first | (with_reducible first | exact HB.out | apply below_alloc | apply pw_below_drewN | apply below_drew1) | exact HB.out)⟩

end Go.Proofs.Ytcgnkbdfoaiaiaa.P
end
section
/- Laid for this claim by hp.py, this session's program round the kit's print: functions of the program as plain Lean functions, the proofs that the code comes to their answers, and the rows of the laws. Not trusted: Lean checks it. -/
namespace Go.Proofs.Ytcgnkbdfoaiaiaa.P
open Go.RowKit Go.Proofs.YtcgnkbdfoaiaiaaW.PrintWords Go.Proofs.YtcgnkbdfoaiaiaaW.PrintLast Go.Proofs.YtcgnkbdfoaiaiaaW.PrintMore
attribute [local go_sem] max2_int min2_int max_two min_two max_three min_three max_four min_four   -- for this text's walks alone
set_option linter.unusedVariables false
set_option linter.unusedSimpArgs false

/-! ### collatorlaw08_pick: function 9 -/
def collatorlaw08_pick.f (a0 : Int) (a1 : Int) : Option (Int) := if a0 < 0 then (if a1 = 0 then (none) else (some (Int.tmod (wrap64 (-(wrap64 (a0 + 1)))) a1))) else (if a1 = 0 then (none) else (some (Int.tmod a0 a1)))
set_option maxHeartbeats 8000000 in
set_option maxRecDepth 100000 in
theorem collatorlaw08_pick.calls (a0 : Int) (a1 : Int) (r : Int) (w : World) (h : collatorlaw08_pick.f a0 a1 = some r) :
  Calls Try.prog 9 #[.int .i64 a0, .int .i64 a1] w fun e w' => e = .returned (.int .i64 r) ∧ Drawn0 w w' := by
 have H : (if a0 < 0 then (if a1 = 0 then (none) else (some (Int.tmod (wrap64 (-(wrap64 (a0 + 1)))) a1))) else (if a1 = 0 then (none) else (some (Int.tmod a0 a1)))) = some r := h
 clear h
 by_cases c3 : a0 < 0
 ·rw [if_pos c3] at H
  have c3b0 : decide (a0 < 0) = true := decide_eq_true c3
  clear c3
  by_cases c4 : a1 = 0
  ·rw [if_pos c4] at H
   exact absurd H (by simp)
  ·rw [if_neg c4] at H
   have c4b0 : (a1 == 0) = false := beq_eq_false_iff_ne.mpr c4
   have c4b1 : (a1 != 0) = true := bne_iff_ne.mpr c4
   obtain rfl := Option.some.inj H
   go_enter Try.func9, Try.ntmps9
   go_wp2
   go_ret
   exact ⟨by first | rfl | (simp; done) | (simp [*]; done), by repeat (first | exact Drawn0.refl _ | apply Drawn0.step)⟩
 ·rw [if_neg c3] at H
  have c3b0 : decide (a0 < 0) = false := decide_eq_false c3
  clear c3
  by_cases c5 : a1 = 0
  ·rw [if_pos c5] at H
   exact absurd H (by simp)
  ·rw [if_neg c5] at H
   have c5b0 : (a1 == 0) = false := beq_eq_false_iff_ne.mpr c5
   have c5b1 : (a1 != 0) = true := bne_iff_ne.mpr c5
   obtain rfl := Option.some.inj H
   go_enter Try.func9, Try.ntmps9
   go_wp2
   go_ret
   exact ⟨by first | rfl | (simp; done) | (simp [*]; done), by repeat (first | exact Drawn0.refl _ | apply Drawn0.step)⟩

end Go.Proofs.Ytcgnkbdfoaiaiaa.P
end
section
/- Laid for this claim by hp.py, this session's program round the kit's print: functions of the program as plain Lean functions, the proofs that the code comes to their answers, and the rows of the laws. Not trusted: Lean checks it. -/
namespace Go.Proofs.Ytcgnkbdfoaiaiaa.P
open Go.RowKit Go.Proofs.YtcgnkbdfoaiaiaaW.PrintWords Go.Proofs.YtcgnkbdfoaiaiaaW.PrintLast Go.Proofs.YtcgnkbdfoaiaiaaW.PrintMore
attribute [local go_sem] max2_int min2_int max_two min_two max_three min_three max_four min_four   -- for this text's walks alone
set_option linter.unusedVariables false
set_option linter.unusedSimpArgs false

/-! ### collatorlaw08_RenameMore: function 5 -/
def collatorlaw08_RenameMore.l0 : Nat → Bool → List (S33) → List (S33) → Int → List (S35) → List (S35) → Int → Option (Bool)
 | 0, _, _, _, _, _, _, _ => none
 | k + 1, x9, x10, x11, x13, x14, x15, x16 => if x16 < (x14.length : Int) then (if 0 ≤ x16 then (if ((rd_T35 x14 x16).f2) ≥ x13 then (if x15.length < 3518437208883 then (collatorlaw08_RenameMore.l0 k x9 x10 x11 x13 x14 (x15 ++ [(⟨(rd_T35 x14 x16).f0, (rd_T35 x14 x16).f1, (rd_T35 x14 x16).f2⟩ : S35)]) (wrap64 (x16 + 1))) else (none)) else (collatorlaw08_RenameMore.l0 k x9 x10 x11 x13 x14 x15 (wrap64 (x16 + 1)))) else (none)) else (if x9 = true then ((rename_Pairs.f x10 x11 x13).bind fun t411 => ((collatorref08_Same.f k t411 x15).bind fun t414 => (some t414))) else (some false))
def collatorlaw08_RenameMore.f (k : Nat) (l0 : List (S41)) (l1 : List (S41)) (a2 : Int) (a3 : Int) : Option (Bool) := (collatorlaw08_awake.f k).bind fun t394 => ((collatorlaw02_Tree.f k l0).bind fun t395 => ((collatorlaw02_Tree.f k l1).bind fun t398 => ((collatorlaw08_pick.f a2 101).bind fun t401 => ((collatorlaw08_pick.f a3 60).bind fun t402 => ((rename_Pairs.f t395 t398 t401).bind fun t403 => (collatorlaw08_RenameMore.l0 k t394 t395 t398 (wrap64 (t401 + t402)) t403 ([] : List (S35)) 0))))))
theorem collatorlaw08_RenameMore.mono_l : ∀ k, (∀ y0 y1 y2 y3 y4 y5 y6, LeO (collatorlaw08_RenameMore.l0 k y0 y1 y2 y3 y4 y5 y6) (collatorlaw08_RenameMore.l0 (k + 1) y0 y1 y2 y3 y4 y5 y6))
 | 0 => fun _ _ _ _ _ _ _ r h => by simp [collatorlaw08_RenameMore.l0] at h
 | k + 1 => by
  have ih0 := collatorlaw08_RenameMore.mono_l k
  ·intro y0 y1 y2 y3 y4 y5 y6
   unfold collatorlaw08_RenameMore.l0
   repeat' first
   | (with_reducible exact ih0 _ _ _ _ _ _ _)
   | (with_reducible exact collatorlaw02_Tree.mono _ _)
   | (with_reducible exact collatorlaw08_awake.mono _)
   | (with_reducible exact collatorref08_Same.mono _ _ _)
   | (with_reducible exact LeO.refl _)
   | (with_reducible exact LeO.none _)
   | (with_reducible refine LeO.ite ?_ ?_)
   | (with_reducible refine LeO.bind ?_ (fun _ => ?_))
   | exact ih0 _ _ _ _ _ _ _
   | exact collatorlaw02_Tree.mono _ _
   | exact collatorlaw08_awake.mono _
   | exact collatorref08_Same.mono _ _ _
   | exact LeO.none _
   | refine LeO.ite ?_ ?_
   | refine LeO.bind ?_ (fun _ => ?_)
theorem collatorlaw08_RenameMore.mono : ∀ a0 a1 a2 a3 k, LeO (collatorlaw08_RenameMore.f k a0 a1 a2 a3) (collatorlaw08_RenameMore.f (k + 1) a0 a1 a2 a3) := by
 intro a0 a1 a2 a3 k
 have ih0 := collatorlaw08_RenameMore.mono_l k
 unfold collatorlaw08_RenameMore.f
 repeat' first
   | (with_reducible exact ih0 _ _ _ _ _ _ _)
   | (with_reducible exact collatorlaw02_Tree.mono _ _)
   | (with_reducible exact collatorlaw08_awake.mono _)
   | (with_reducible exact collatorref08_Same.mono _ _ _)
   | (with_reducible exact LeO.refl _)
   | (with_reducible exact LeO.none _)
   | (with_reducible refine LeO.ite ?_ ?_)
   | (with_reducible refine LeO.bind ?_ (fun _ => ?_))
   | exact ih0 _ _ _ _ _ _ _
   | exact collatorlaw02_Tree.mono _ _
   | exact collatorlaw08_awake.mono _
   | exact collatorref08_Same.mono _ _ _
   | exact LeO.none _
   | refine LeO.ite ?_ ?_
   | refine LeO.bind ?_ (fun _ => ?_)
set_option maxHeartbeats 8000000 in
set_option maxRecDepth 100000 in
theorem collatorlaw08_RenameMore.calls (k : Nat) (A0 : Option Addr) (c0 : Nat) (l0 : List (S41)) (A1 : Option Addr) (c1 : Nat) (l1 : List (S41)) (a2 : Int) (a3 : Int) (r : Bool) (w : World) (hr0 : Kd.C k41 w A0 l0.length l0) (hc0 : l0.length ≤ c0) (hr1 : Kd.C k41 w A1 l1.length l1) (hc1 : l1.length ≤ c1) (h : collatorlaw08_RenameMore.f k l0 l1 a2 a3 = some r) :
  Calls Try.prog 5 #[.slice A0 l0.length c0, .slice A1 l1.length c1, .int .i64 a2, .int .i64 a3] w fun e w' => e = .returned (.bool r) ∧ Below w.heap.size w w' := by
 have hu35 := Try.underlying35
 have HR0 := Aside0.mk hr0
 have HC0 := Aside0.mk hc0
 clear hr0 hc0
 have HR1 := Aside0.mk hr1
 have HC1 := Aside0.mk hc1
 clear hr1 hc1
 have HB := Aside0.mk (Below.refl w.heap.size w)
 have H : ((collatorlaw08_awake.f k).bind fun t394 => ((collatorlaw02_Tree.f k l0).bind fun t395 => ((collatorlaw02_Tree.f k l1).bind fun t398 => ((collatorlaw08_pick.f a2 101).bind fun t401 => ((collatorlaw08_pick.f a3 60).bind fun t402 => ((rename_Pairs.f t395 t398 t401).bind fun t403 => (collatorlaw08_RenameMore.l0 k t394 t395 t398 (wrap64 (t401 + t402)) t403 ([] : List (S35)) 0))))))) = some r := h
 clear h
 replace H := Option.bind_eq_some_iff.mp H
 obtain ⟨t394, A50, H⟩ := H
 replace H : ((collatorlaw02_Tree.f k l0).bind fun t395 => ((collatorlaw02_Tree.f k l1).bind fun t398 => ((collatorlaw08_pick.f a2 101).bind fun t401 => ((collatorlaw08_pick.f a3 60).bind fun t402 => ((rename_Pairs.f t395 t398 t401).bind fun t403 => (collatorlaw08_RenameMore.l0 k t394 t395 t398 (wrap64 (t401 + t402)) t403 ([] : List (S35)) 0)))))) = some r := H
 have A5 := Aside0.mk A50
 clear A50
 replace H := Option.bind_eq_some_iff.mp H
 obtain ⟨t395, A60, H⟩ := H
 replace H : ((collatorlaw02_Tree.f k l1).bind fun t398 => ((collatorlaw08_pick.f a2 101).bind fun t401 => ((collatorlaw08_pick.f a3 60).bind fun t402 => ((rename_Pairs.f t395 t398 t401).bind fun t403 => (collatorlaw08_RenameMore.l0 k t394 t395 t398 (wrap64 (t401 + t402)) t403 ([] : List (S35)) 0))))) = some r := H
 have A6 := Aside0.mk A60
 clear A60
 replace H := Option.bind_eq_some_iff.mp H
 obtain ⟨t398, A70, H⟩ := H
 replace H : ((collatorlaw08_pick.f a2 101).bind fun t401 => ((collatorlaw08_pick.f a3 60).bind fun t402 => ((rename_Pairs.f t395 t398 t401).bind fun t403 => (collatorlaw08_RenameMore.l0 k t394 t395 t398 (wrap64 (t401 + t402)) t403 ([] : List (S35)) 0)))) = some r := H
 have A7 := Aside0.mk A70
 clear A70
 replace H := Option.bind_eq_some_iff.mp H
 obtain ⟨t401, A80, H⟩ := H
 replace H : ((collatorlaw08_pick.f a3 60).bind fun t402 => ((rename_Pairs.f t395 t398 t401).bind fun t403 => (collatorlaw08_RenameMore.l0 k t394 t395 t398 (wrap64 (t401 + t402)) t403 ([] : List (S35)) 0))) = some r := H
 have A8 := Aside0.mk A80
 clear A80
 replace H := Option.bind_eq_some_iff.mp H
 obtain ⟨t402, A90, H⟩ := H
 replace H : ((rename_Pairs.f t395 t398 t401).bind fun t403 => (collatorlaw08_RenameMore.l0 k t394 t395 t398 (wrap64 (t401 + t402)) t403 ([] : List (S35)) 0)) = some r := H
 have A9 := Aside0.mk A90
 clear A90
 replace H := Option.bind_eq_some_iff.mp H
 obtain ⟨t403, A100, H⟩ := H
 replace H : (collatorlaw08_RenameMore.l0 k t394 t395 t398 (wrap64 (t401 + t402)) t403 ([] : List (S35)) 0) = some r := H
 have A10 := Aside0.mk A100
 clear A100
 have H' := Aside0.mk H
 clear H
 go_enter Try.func5, Try.ntmps5
 go_wp2_with (first | ((with_reducible refine gate_callee (f := 7) rfl ?_); refine goesL_ _ rfl rfl Try.func7 (by kernel_rfl) rfl #[] rfl (by (try simp only [List.map_toArray, List.map_cons, List.map_nil]); first | done | rfl | (simp only [List.length_drop, List.length_take]; rfl)) ?_; (with_reducible refine (collatorlaw08_awake.calls k  t394 _ A5.out).mono ?_); rintro e w11 ⟨rfl, hb⟩; refine ⟨_, rfl, ?_⟩; have n0_ := Aside0.mk (below_step (by repeat (first | (with_reducible first | exact HB.out | apply below_alloc | apply pw_below_drewN | apply below_drew1) | exact HB.out)) hb); clear HB; have HB := n0_; clear n0_; (try clear hb); (try clear hb2); (try clear hk); (try clear hi)) | ((with_reducible refine gate_callee (f := 13) rfl ?_); refine goesL_ _ rfl rfl Try.func13 (by kernel_rfl) rfl #[.slice A0 l0.length c0] rfl (by (try simp only [List.map_toArray, List.map_cons, List.map_nil]); first | done | rfl | (simp only [List.length_drop, List.length_take]; rfl)) ?_; (with_reducible refine (collatorlaw02_Tree.calls k _ _ l0 t395 _ ?side1 ?side2 A6.out).mono ?_); (case side1 => repeat (first | exact (Kd.C_below HR0.out HB.out) | (with_reducible refine Kd.C_alloc ?_ _) | (with_reducible refine Kd.C_drewN ?_ _) | (with_reducible refine Kd.C_drew ?_))); (case side2 => exact HC0.out); rintro e w12 ⟨v396, rfl, ho0, hb⟩; refine ⟨_, rfl, ?_⟩; have n0_ := Aside0.mk (Kd.R_lower ho0 (below_size (by repeat (first | (with_reducible first | exact HB.out | apply below_alloc | apply pw_below_drewN | apply below_drew1) | exact HB.out)))); have n1_ := Aside0.mk (below_step (by repeat (first | (with_reducible first | exact HB.out | apply below_alloc | apply pw_below_drewN | apply below_drew1) | exact HB.out)) hb); clear HB; have HO397 := n0_; have HB := n1_; clear n0_ n1_; (try clear hb); (try clear hb2); (try clear hk); (try clear hi); (try clear ho0)) | ((with_reducible refine gate_callee (f := 13) rfl ?_); refine goesL_ _ rfl rfl Try.func13 (by kernel_rfl) rfl #[.slice A1 l1.length c1] rfl (by (try simp only [List.map_toArray, List.map_cons, List.map_nil]); first | done | rfl | (simp only [List.length_drop, List.length_take]; rfl)) ?_; (with_reducible refine (collatorlaw02_Tree.calls k _ _ l1 t398 _ ?side1 ?side2 A7.out).mono ?_); (case side1 => repeat (first | exact (Kd.C_below HR1.out HB.out) | (with_reducible refine Kd.C_alloc ?_ _) | (with_reducible refine Kd.C_drewN ?_ _) | (with_reducible refine Kd.C_drew ?_))); (case side2 => exact HC1.out); rintro e w13 ⟨v399, rfl, ho0, hb⟩; refine ⟨_, rfl, ?_⟩; have n0_ := Aside0.mk (Kd.R_elder' (by (with_reducible repeat (first | apply Kd.R_alloc | apply Kd.R_drewN | apply Kd.R_drew)); exact HO397.out) (Kd.R_base ho0) hb); have n1_ := Aside0.mk (Kd.R_lower (Kd.R_new' ho0 (Kd.R_lt (by (with_reducible repeat (first | apply Kd.R_alloc | apply Kd.R_drewN | apply Kd.R_drew)); exact HO397.out))) (below_size (by repeat (first | (with_reducible first | exact HB.out | apply below_alloc | apply pw_below_drewN | apply below_drew1) | exact HB.out)))); have n2_ := Aside0.mk (below_step (by repeat (first | (with_reducible first | exact HB.out | apply below_alloc | apply pw_below_drewN | apply below_drew1) | exact HB.out)) hb); clear HO397; clear HB; have HO397 := n0_; have HO400 := n1_; have HB := n2_; clear n0_ n1_ n2_; (try clear hb); (try clear hb2); (try clear hk); (try clear hi); (try clear ho0)) | ((with_reducible refine gate_callee (f := 9) rfl ?_); refine goesL_ _ rfl rfl Try.func9 (by kernel_rfl) rfl #[.int .i64 a2, .int .i64 101] rfl (by (try simp only [List.map_toArray, List.map_cons, List.map_nil]); first | done | rfl | (simp only [List.length_drop, List.length_take]; rfl)) ?_; (with_reducible refine (collatorlaw08_pick.calls a2 101 t401 _ A8.out).mono ?_); rintro e w' ⟨rfl, ⟨nd, rfl⟩⟩; refine ⟨_, rfl, ?_⟩) | ((with_reducible refine gate_callee (f := 9) rfl ?_); refine goesL_ _ rfl rfl Try.func9 (by kernel_rfl) rfl #[.int .i64 a3, .int .i64 60] rfl (by (try simp only [List.map_toArray, List.map_cons, List.map_nil]); first | done | rfl | (simp only [List.length_drop, List.length_take]; rfl)) ?_; (with_reducible refine (collatorlaw08_pick.calls a3 60 t402 _ A9.out).mono ?_); rintro e w' ⟨rfl, ⟨nd, rfl⟩⟩; refine ⟨_, rfl, ?_⟩; (try (obtain ⟨Ao14, co14, eo14⟩ := Kd.R_slice HO397.out; subst eo14)); (try (obtain ⟨Ao15, co15, eo15⟩ := Kd.R_slice HO400.out; subst eo15))) | ((with_reducible refine gate_callee (f := 11) rfl ?_); refine goesL_ _ rfl rfl Try.func11 (by kernel_rfl) rfl #[.slice Ao14 t395.length co14, .slice Ao15 t398.length co15, .int .i64 t401] rfl (by (try simp only [List.map_toArray, List.map_cons, List.map_nil]); first | done | rfl | (simp only [List.length_drop, List.length_take]; rfl)) ?_; (with_reducible refine (rename_Pairs.calls _ _ t395 _ _ t398 t401 t403 _ ?side1 ?side2 ?side3 ?side4 A10.out).mono ?_); (case side1 => repeat (first | exact (Kd.R_reads' HO397.out).2.2 | (with_reducible refine Kd.C_alloc ?_ _) | (with_reducible refine Kd.C_drewN ?_ _) | (with_reducible refine Kd.C_drew ?_))); (case side2 => exact (Kd.R_reads' HO397.out).2.1); (case side3 => repeat (first | exact (Kd.R_reads' HO400.out).2.2 | (with_reducible refine Kd.C_alloc ?_ _) | (with_reducible refine Kd.C_drewN ?_ _) | (with_reducible refine Kd.C_drew ?_))); (case side4 => exact (Kd.R_reads' HO400.out).2.1); rintro e w16 ⟨v404, rfl, ho0, hb⟩; refine ⟨_, rfl, ?_⟩; have n0_ := Aside0.mk (Kd.R_below (by (with_reducible repeat (first | apply Kd.R_alloc | apply Kd.R_drewN | apply Kd.R_drew)); exact HO397.out) hb); have n1_ := Aside0.mk (Kd.R_below (by (with_reducible repeat (first | apply Kd.R_alloc | apply Kd.R_drewN | apply Kd.R_drew)); exact HO400.out) hb); have n2_ := Aside0.mk (Kd.R_lower ho0 (below_size (by repeat (first | (with_reducible first | exact HB.out | apply below_alloc | apply pw_below_drewN | apply below_drew1) | exact HB.out)))); have n3_ := Aside0.mk (below_step (by repeat (first | (with_reducible first | exact HB.out | apply below_alloc | apply pw_below_drewN | apply below_drew1) | exact HB.out)) hb); clear HO397; clear HO400; clear HB; have HO397 := n0_; have HO400 := n1_; have HO405 := n2_; have HB := n3_; clear n0_ n1_ n2_ n3_; (try clear hb); (try clear hb2); (try clear hk); (try clear hi); (try clear ho0)))
 go_loopg [15, 16] k (fun kq v15 v16 w' => ∃ (x15_1 : List (S35)) (x16_1 : Int), v16 = .int .i64 x16_1 ∧ Aside0 (collatorlaw08_RenameMore.l0 kq t394 t395 t398 (wrap64 (t401 + t402)) t403 x15_1 x16_1 = some r) ∧ Aside0 (kq ≤ k) ∧ Aside0 (Kd.R k33 33 w' w.heap.size (fun k_ => some k_ ≠ ((.slice Ao15 t398.length co15) : Value).ownBlock) (.slice Ao14 t395.length co14) t395) ∧ Aside0 (Kd.R k33 33 w' w.heap.size (fun k_ => some k_ ≠ ((.slice Ao14 t395.length co14) : Value).ownBlock) (.slice Ao15 t398.length co15) t398) ∧ Aside0 (Kd.R k35 35 w' w.heap.size (fun k_ => some k_ ≠ (v15 : Value).ownBlock) v404 t403) ∧ Aside0 (Kd.R k35 35 w' w.heap.size (fun k_ => some k_ ≠ (v404 : Value).ownBlock) v15 x15_1) ∧ Aside0 (Below w.heap.size w w'))
 case atStart => exact ⟨(([] : List (S35))), (0), (by first | rfl | (simp; done) | (simp [*]; done)), H', ⟨Nat.le_refl _⟩, ⟨by (with_reducible repeat (first | apply Kd.R_alloc | apply Kd.R_drewN | apply Kd.R_drew)); exact Kd.R_mono HO397.out (fun _ hk => hk.2)⟩, ⟨by (with_reducible repeat (first | apply Kd.R_alloc | apply Kd.R_drewN | apply Kd.R_drew)); exact Kd.R_mono HO400.out (fun _ hk => hk.2)⟩, ⟨by (with_reducible repeat (first | apply Kd.R_alloc | apply Kd.R_drewN | apply Kd.R_drew)); exact Kd.R_mono HO405.out (fun _ hk => (by simp [Value.ownBlock]))⟩, ⟨by first | exact Kd.R_nil _ _ _ _ _ | exact Kd.N_nil _ _ _ _ _ | exact Kd.V_nil _ _ _ _ _ | exact Kd.Q_nil _ _ _ _ _ | exact Kd.S_nil _ _ _ _ _⟩, ⟨by repeat (first | (with_reducible first | exact HB.out | apply below_alloc | apply pw_below_drewN | apply below_drew1) | exact HB.out)⟩⟩
 case round =>
  clear H'
  (try clear c1);(try clear p2);(try clear c5);(try clear p6);(try clear c7);(try clear c9);(try clear c11);(try clear c13)
  obtain ⟨x15_1, x16_1, rfl, HA, HK1, HO_10, HO_11, HO_14, HO_15, HB⟩ := hrel
  cases gk with
  | zero => exact absurd HA.out (by simp [collatorlaw08_RenameMore.l0])
  | succ k1 =>
   have H := HA.out
   clear HA
   simp only [collatorlaw08_RenameMore.l0] at H
   by_cases c17 : x16_1 < (t403.length : Int)
   ·rw [if_pos c17] at H
    have c17b0 : decide (x16_1 < (t403.length : Int)) = true := decide_eq_true c17
    clear c17
    by_cases c18 : 0 ≤ x16_1
    ·rw [if_pos c18] at H
     have c18b0 : decide (0 ≤ x16_1) = true := decide_eq_true c18
     clear c18
     by_cases c19 : ((rd_T35 t403 x16_1).f2) ≥ (wrap64 (t401 + t402))
     ·rw [if_pos c19] at H
      have c19b0 : decide ((wrap64 (t401 + t402)) ≤ ((rd_T35 t403 x16_1).f2)) = true := decide_eq_true c19
      clear c19
      by_cases c20 : x15_1.length < 3518437208883
      ·rw [if_pos c20] at H
       have LMc20 := Aside0.mk c20
       clear c20
       obtain ⟨y408, hy408⟩ : ∃ y_ : List (S35), y_ = (x15_1 ++ [(⟨(rd_T35 t403 x16_1).f0, (rd_T35 t403 x16_1).f1, (rd_T35 t403 x16_1).f2⟩ : S35)]) := ⟨_, rfl⟩
       replace H : (collatorlaw08_RenameMore.l0 k1 t394 t395 t398 (wrap64 (t401 + t402)) t403 y408 (wrap64 (x16_1 + 1))) = some r := by first | (rw [hy408]; with_reducible exact H) | (have H2_ := (Option.bind_some _ _).symm.trans H; rw [hy408]; with_reducible exact H2_) | (have H2_ := (Option.bind_some _ _).symm.trans H; with_reducible exact H2_) | with_reducible exact H | (rw [hy408]; exact H) | exact H
       have Ny408 := Aside0.mk hy408
       clear hy408
       have H' := Aside0.mk H
       clear H
       obtain ⟨Ao21, co21, eo21⟩ := Kd.R_slice HO_14.out
       subst eo21
       have p406 : 0 ≤ (x16_1 : Int) := of_decide_eq_true (by first | (with_reducible assumption) | assumption)
       have q406 : x16_1 < (t403.length : Int) := of_decide_eq_true (by first | (with_reducible assumption) | assumption)
       obtain ⟨ad406, e406, hx406_0, hx406_1, hx406_2⟩ := at_T35 (Kd.R_reads' HO_14.out).2.2 x16_1 p406 q406
       cases e406
       replace p406 := eq_true p406
       replace q406 := eq_true q406
       have p407 : 0 ≤ (x16_1 : Int) := of_decide_eq_true (by first | (with_reducible assumption) | assumption)
       have q407 : x16_1 < (t403.length : Int) := of_decide_eq_true (by first | (with_reducible assumption) | assumption)
       obtain ⟨ad407, e407, hx407_0, hx407_1, hx407_2⟩ := at_T35 (Kd.R_reads' HO_14.out).2.2 x16_1 p407 q407
       obtain rfl : ad406 = ad407 := (by injection e407)
       replace p407 := eq_true p407
       replace q407 := eq_true q407
       go_wp2_with (first | ((with_reducible refine gate_builtin (b := .append) (xs := #[.tmp 45, .tmp 50]) rfl ?_); at_builtin; refine Kd.R_append k35 (w0 := w) w.heap.size rfl (.tmp 45) (.tmp 50) 29 35 (.agg #[(.string ⟨#[]⟩), (.string ⟨#[]⟩), (.int .i64 0)]) 40 rfl Try.underlying29 info35 rfl (by decide) (by omega) u15 x15_1 (⟨(rd_T35 t403 x16_1).f0, (rd_T35 t403 x16_1).f1, (rd_T35 t403 x16_1).f2⟩ : S35) [.string ((rd_T35 t403 x16_1).f0), .string ((rd_T35 t403 x16_1).f1), .int .i64 ((rd_T35 t403 x16_1).f2)] (fun k_ => some k_ ≠ (.slice (some ad406) t403.length co21 : Value).ownBlock) (fun _ => False) rfl rfl ?aP (fun _ hk => hk.elim) ?aF ?aO ?aB ?aS ?aL ?_; (case aP => exact k35_mkM _ _ _ (⟨(rd_T35 t403 x16_1).f0, (rd_T35 t403 x16_1).f1, (rd_T35 t403 x16_1).f2⟩ : S35)); (case aB => exact (by repeat (first | (with_reducible first | exact HB.out | apply below_alloc | apply pw_below_drewN | apply below_drew1) | exact HB.out))); (case aF => exact (fun k_ hk => Kd.fresh' (Kd.R_lt (by (with_reducible repeat (first | apply Kd.R_alloc | apply Kd.R_drewN | apply Kd.R_drew)); exact HO_14.out)) k_ hk)); (case aO => exact (by (with_reducible repeat (first | apply Kd.R_alloc | apply Kd.R_drewN | apply Kd.R_drew)); exact HO_15.out)); (case aS => exact (below_size (by repeat (first | (with_reducible first | exact HB.out | apply below_alloc | apply pw_below_drewN | apply below_drew1) | exact HB.out)))); (case aL => have := LMc20.out; omega); intro v409 w22 ho hb hg hat; rw [← Ny408.out] at ho; have n0_ := Aside0.mk (Kd.R_over' (by (with_reducible repeat (first | apply Kd.R_alloc | apply Kd.R_drewN | apply Kd.R_drew)); exact HO_10.out) (Kd.R_typed (by (with_reducible repeat (first | apply Kd.R_alloc | apply Kd.R_drewN | apply Kd.R_drew)); exact HO_15.out)) (by decide) hg); have n1_ := Aside0.mk (Kd.R_over' (by (with_reducible repeat (first | apply Kd.R_alloc | apply Kd.R_drewN | apply Kd.R_drew)); exact HO_11.out) (Kd.R_typed (by (with_reducible repeat (first | apply Kd.R_alloc | apply Kd.R_drewN | apply Kd.R_drew)); exact HO_15.out)) (by decide) hg); have n2_ := Aside0.mk (Kd.R_after (ok := (fun _ => True)) (by (with_reducible repeat (first | apply Kd.R_alloc | apply Kd.R_drewN | apply Kd.R_drew)); exact Kd.R_mono HO_14.out (fun _ hk => ⟨trivial, hk⟩)) hg hat); have n3_ := Aside0.mk (hb); have n4_ := Aside0.mk (ho); clear HO_10; clear HO_11; clear HO_14; clear HB; clear HO_15; have HO_10 := n0_; have HO_11 := n1_; have HO_14 := n2_; have HB := n3_; have HO410 := n4_; clear n0_ n1_ n2_ n3_ n4_; clear ho hb hg hat))
       go_roundg k1
       case measure => have := HK1.out; omega
       case rel => exact ⟨(y408), (wrap64 (x16_1 + 1)), (by first | rfl | (simp; done) | (simp [*]; done)), H', ⟨by have := HK1.out; omega⟩, ⟨by (with_reducible repeat (first | apply Kd.R_alloc | apply Kd.R_drewN | apply Kd.R_drew)); exact HO_10.out⟩, ⟨by (with_reducible repeat (first | apply Kd.R_alloc | apply Kd.R_drewN | apply Kd.R_drew)); exact HO_11.out⟩, ⟨by (with_reducible repeat (first | apply Kd.R_alloc | apply Kd.R_drewN | apply Kd.R_drew)); exact Kd.R_mono HO_14.out (fun _ hk => hk.2)⟩, ⟨by (with_reducible repeat (first | apply Kd.R_alloc | apply Kd.R_drewN | apply Kd.R_drew)); exact HO410.out⟩, ⟨by repeat (first | (with_reducible first | exact HB.out | apply below_alloc | apply pw_below_drewN | apply below_drew1) | exact HB.out)⟩⟩
      ·rw [if_neg c20] at H
       exact absurd H (by simp)
     ·rw [if_neg c19] at H
      have c19b0 : decide ((wrap64 (t401 + t402)) ≤ ((rd_T35 t403 x16_1).f2)) = false := decide_eq_false c19
      clear c19
      have H' := Aside0.mk H
      clear H
      obtain ⟨Ao23, co23, eo23⟩ := Kd.R_slice HO_14.out
      subst eo23
      have p406 : 0 ≤ (x16_1 : Int) := of_decide_eq_true (by first | (with_reducible assumption) | assumption)
      have q406 : x16_1 < (t403.length : Int) := of_decide_eq_true (by first | (with_reducible assumption) | assumption)
      obtain ⟨ad406, e406, hx406_0, hx406_1, hx406_2⟩ := at_T35 (Kd.R_reads' HO_14.out).2.2 x16_1 p406 q406
      cases e406
      replace p406 := eq_true p406
      replace q406 := eq_true q406
      go_wp2
      go_roundg k1
      case measure => have := HK1.out; omega
      case rel => exact ⟨(x15_1), (wrap64 (x16_1 + 1)), (by first | rfl | (simp; done) | (simp [*]; done)), H', ⟨by have := HK1.out; omega⟩, ⟨by (with_reducible repeat (first | apply Kd.R_alloc | apply Kd.R_drewN | apply Kd.R_drew)); exact HO_10.out⟩, ⟨by (with_reducible repeat (first | apply Kd.R_alloc | apply Kd.R_drewN | apply Kd.R_drew)); exact HO_11.out⟩, ⟨by (with_reducible repeat (first | apply Kd.R_alloc | apply Kd.R_drewN | apply Kd.R_drew)); exact HO_14.out⟩, ⟨by (with_reducible repeat (first | apply Kd.R_alloc | apply Kd.R_drewN | apply Kd.R_drew)); exact HO_15.out⟩, ⟨by repeat (first | (with_reducible first | exact HB.out | apply below_alloc | apply pw_below_drewN | apply below_drew1) | exact HB.out)⟩⟩
    ·rw [if_neg c18] at H
     exact absurd H (by simp)
   ·rw [if_neg c17] at H
    have c17b0 : decide (x16_1 < (t403.length : Int)) = false := decide_eq_false c17
    clear c17
    by_cases c24 : t394 = true
    ·subst c24
     have H1 : ((rename_Pairs.f t395 t398 (wrap64 (t401 + t402))).bind fun t411 => ((collatorref08_Same.f k1 t411 x15_1).bind fun t414 => (some t414))) = some r := by rw [if_pos rfl] at H; exact H
     clear H
     have H := H1
     clear H1
     replace H := Option.bind_eq_some_iff.mp H
     obtain ⟨t411, A250, H⟩ := H
     replace H : ((collatorref08_Same.f k1 t411 x15_1).bind fun t414 => (some t414)) = some r := H
     have A25 := Aside0.mk A250
     clear A250
     replace H := Option.bind_eq_some_iff.mp H
     obtain ⟨t414, A260, H⟩ := H
     replace H : (some t414) = some r := H
     have A26 := Aside0.mk A260
     clear A260
     obtain rfl := Option.some.inj H
     obtain ⟨Ao27, co27, eo27⟩ := Kd.R_slice HO_14.out
     subst eo27
     go_wp2_with (first | (go_at_call 11; (with_reducible refine (rename_Pairs.calls _ _ t395 _ _ t398 (wrap64 (t401 + t402)) t411 _ ?side1 ?side2 ?side3 ?side4 A25.out).mono ?_); (case side1 => repeat (first | exact (Kd.R_reads' HO_10.out).2.2 | (with_reducible refine Kd.C_alloc ?_ _) | (with_reducible refine Kd.C_drewN ?_ _) | (with_reducible refine Kd.C_drew ?_))); (case side2 => exact (Kd.R_reads' HO_10.out).2.1); (case side3 => repeat (first | exact (Kd.R_reads' HO_11.out).2.2 | (with_reducible refine Kd.C_alloc ?_ _) | (with_reducible refine Kd.C_drewN ?_ _) | (with_reducible refine Kd.C_drew ?_))); (case side4 => exact (Kd.R_reads' HO_11.out).2.1); rintro e w28 ⟨v412, rfl, ho0, hb⟩; have n0_ := Aside0.mk (Kd.R_below (by (with_reducible repeat (first | apply Kd.R_alloc | apply Kd.R_drewN | apply Kd.R_drew)); exact HO_10.out) hb); have n1_ := Aside0.mk (Kd.R_below (by (with_reducible repeat (first | apply Kd.R_alloc | apply Kd.R_drewN | apply Kd.R_drew)); exact HO_11.out) hb); have n2_ := Aside0.mk (Kd.R_elder' (by (with_reducible repeat (first | apply Kd.R_alloc | apply Kd.R_drewN | apply Kd.R_drew)); exact HO_14.out) (Kd.R_base ho0) hb); have n3_ := Aside0.mk (Kd.R_elder' (by (with_reducible repeat (first | apply Kd.R_alloc | apply Kd.R_drewN | apply Kd.R_drew)); exact HO_15.out) (Kd.R_base ho0) hb); have n4_ := Aside0.mk (Kd.R_lower (Kd.R_new' (Kd.R_new' ho0 (Kd.R_lt (by (with_reducible repeat (first | apply Kd.R_alloc | apply Kd.R_drewN | apply Kd.R_drew)); exact HO_14.out))) (Kd.R_lt (by (with_reducible repeat (first | apply Kd.R_alloc | apply Kd.R_drewN | apply Kd.R_drew)); exact HO_15.out))) (below_size (by repeat (first | (with_reducible first | exact HB.out | apply below_alloc | apply pw_below_drewN | apply below_drew1) | exact HB.out)))); have n5_ := Aside0.mk (below_step (by repeat (first | (with_reducible first | exact HB.out | apply below_alloc | apply pw_below_drewN | apply below_drew1) | exact HB.out)) hb); clear HO_10; clear HO_11; clear HO_14; clear HO_15; clear HB; have HO_10 := n0_; have HO_11 := n1_; have HO_14 := n2_; have HO_15 := n3_; have HO413 := n4_; have HB := n5_; clear n0_ n1_ n2_ n3_ n4_ n5_; (try clear hb); (try clear hb2); (try clear hk); (try clear hi); (try clear ho0); (try (obtain ⟨Ao29, co29, eo29⟩ := Kd.R_slice HO413.out; subst eo29)); (try (obtain ⟨Ao30, co30, eo30⟩ := Kd.R_slice HO_15.out; subst eo30))) | (go_at_call 10; (with_reducible refine (collatorref08_Same.calls k1 _ _ t411 _ _ x15_1 t414 _ ?side1 ?side2 ?side3 ?side4 A26.out).mono ?_); (case side1 => repeat (first | exact (Kd.R_reads' HO413.out).2.2 | (with_reducible refine Kd.C_alloc ?_ _) | (with_reducible refine Kd.C_drewN ?_ _) | (with_reducible refine Kd.C_drew ?_))); (case side2 => exact (Kd.R_reads' HO413.out).2.1); (case side3 => repeat (first | exact (Kd.R_reads' HO_15.out).2.2 | (with_reducible refine Kd.C_alloc ?_ _) | (with_reducible refine Kd.C_drewN ?_ _) | (with_reducible refine Kd.C_drew ?_))); (case side4 => exact (Kd.R_reads' HO_15.out).2.1); rintro e w' ⟨rfl, ⟨nd, rfl⟩⟩))
     go_ret
     exact ⟨by first | rfl | (simp [errW_none, errW_some] <;> rfl) | (simp [*, errW_none, errW_some] <;> rfl), by repeat (first | (with_reducible first | exact HB.out | apply below_alloc | apply pw_below_drewN | apply below_drew1) | exact HB.out)⟩
    ·replace c24 := Bool.eq_false_iff.mpr c24
     subst c24
     have H1 : (some false) = some r := by rw [if_neg (show ¬ (false = true) by decide)] at H; exact H
     clear H
     have H := H1
     clear H1
     obtain rfl := Option.some.inj H
     obtain ⟨Ao31, co31, eo31⟩ := Kd.R_slice HO_14.out
     subst eo31
     go_wp2
     go_ret
     exact ⟨by first | rfl | (simp [errW_none, errW_some] <;> rfl) | (simp [*, errW_none, errW_some] <;> rfl), by repeat (first | (with_reducible first | exact HB.out | apply below_alloc | apply pw_below_drewN | apply below_drew1) | exact HB.out)⟩

/-- THE ONE PURE STATEMENT of collatorlaw08_RenameMore: yours. -/
def collatorlaw08_RenameMore.Pure : Prop := ∀ (l0 : List (S41)) (l1 : List (S41)) (a2 : Int) (a3 : Int), l0.length ≤ maxLen → l0.length * 56 ≤ 140737488351232 → (∀ x ∈ l0, Go.Proofs.Ytcgnkbdfoaiaiaa.HRaw.OkRaw x) → l1.length ≤ maxLen → l1.length * 56 ≤ 140737488351232 → (∀ x ∈ l1, Go.Proofs.Ytcgnkbdfoaiaiaa.HRaw.OkRaw x) → (Lit.int .i64 a2).wf = true → (Lit.int .i64 a3).wf = true → ∃ k, collatorlaw08_RenameMore.f k l0 l1 a2 a3 = some true
theorem collatorlaw08_RenameMore.walk (P : collatorlaw08_RenameMore.Pure) (a0 : Option Addr) (len0 cap0 : Nat) (z0 : List S41) (a1 : Option Addr) (len1 cap1 : Nat) (z1 : List S41) (a2 : Int) (a3 : Int) (w : World) (w0 : Go.Proofs.Ytcgnkbdfoaiaiaa.HRaw.IsRowS w a0 len0 cap0 z0) (y0 : len0 * 56 ≤ 140737488351232) (w1 : Go.Proofs.Ytcgnkbdfoaiaiaa.HRaw.IsRowS w a1 len1 cap1 z1) (y1 : len1 * 56 ≤ 140737488351232) (w2 : (Lit.int .i64 a2).wf = true) (w3 : (Lit.int .i64 a3).wf = true) :
  Calls Try.prog 5 #[.slice a0 len0 cap0, .slice a1 len1 cap1, .int .i64 a2, .int .i64 a3] w fun e w' => e = .returned (.bool true) ∧ Below w.heap.size w w' := by
 obtain ⟨l0, rfl, hr0, hm0, hw0, hc0⟩ := Go.Proofs.Ytcgnkbdfoaiaiaa.HRaw.ofRowS w0
 obtain ⟨l1, rfl, hr1, hm1, hw1, hc1⟩ := Go.Proofs.Ytcgnkbdfoaiaiaa.HRaw.ofRowS w1
 obtain ⟨k, h⟩ := P l0 l1 a2 a3 hm0 y0 hw0 hm1 y1 hw1 w2 w3
 refine (collatorlaw08_RenameMore.calls k _ _ l0 _ _ l1 a2 a3 true w hr0 hc0 hr1 hc1 h).mono ?_
 rintro e w' ⟨rfl, hd⟩
 exact ⟨rfl, hd⟩

end Go.Proofs.Ytcgnkbdfoaiaiaa.P
end
section
/- What the document's own functions of layer 1 answer (out of the template PurePathsTells). -/
set_option linter.unusedVariables false
set_option linter.unusedSimpArgs false
namespace Go.Proofs.Ytcgnkbdfoaiaiaa.Q
open Go Go.RowKit Go.Proofs.Ytcgnkbdfoaiaiaa.P Go.Proofs.YtcgnkbdfoaiaiaaW.PrintWords Go.Proofs.YtcgnkbdfoaiaiaaW.PrintLast Go.Proofs.YtcgnkbdfoaiaiaaW.PrintMore
/-- The parts, and what is left of the one that is open. -/
theorem rsplit_loop (s : ByteArray) (hs : s.size ≤ 4000000) (d : Nat) : ∀ (i from_ : Nat) (acc : List ByteArray), i + d = s.size → from_ ≤ i → acc.length ≤ i → (∀ c ∈ ((tl s).drop from_).take (i - from_), c ≠ 47) →
    Ev (fun k => collatorref01_split.l0 k s acc (from_ : Int) (i : Int)) (acc ++ (parts ((tl s).drop from_)).map ofB) := by
  induction d with
  | zero =>
    intro i from_ acc hi hf ha hc
    have hno : (47 : UInt8) ∉ (tl s).drop from_ := fun h => by
      refine hc 47 ?_ rfl
      rw [List.take_of_length_le (by rw [List.length_drop, tl_size]; omega)]
      exact h
    rw [parts_one hno]
    have e : s.extract from_ s.size = ofB ((tl s).drop from_) := ofB_eq (tl_drop s from_)
    refine Ev.step (f := fun _ => some (acc ++ [ofB ((tl s).drop from_)])) (fun k => ?_) (Ev.now _)
    simp only [collatorref01_split.l0]
    rw [if_neg (by omega), if_pos (by omega), if_pos (by omega), if_pos (by omega), Int.toNat_natCast, e]
  | succ d ih =>
    intro i from_ acc hi hf ha hc
    have hlt : i < (tl s).length := by rw [tl_size]; omega
    have hget : (tl s)[i]? = some (tl s)[i] := List.getElem?_eq_getElem hlt
    have hb := bt_tl hget
    have hsplit : (tl s).drop from_ = ((tl s).drop from_).take (i - from_) ++ (tl s)[i] :: (tl s).drop (i + 1) := by
      have h1 : ((tl s).drop from_).drop (i - from_) = (tl s)[i] :: (tl s).drop (i + 1) := by
        rw [List.drop_drop, show from_ + (i - from_) = i by omega, List.drop_eq_getElem_cons hlt]
      rw [← h1, List.take_append_drop]
    by_cases c : (tl s)[i] = 47
    · have hno : (47 : UInt8) ∉ ((tl s).drop from_).take (i - from_) := fun h => hc 47 h rfl
      have e : s.extract from_ i = ofB (((tl s).drop from_).take (i - from_)) := ofB_eq (tl_cut s from_ i)
      have hn := ih (i + 1) (i + 1) (acc ++ [ofB (((tl s).drop from_).take (i - from_))]) (by omega) (Nat.le_refl _) (by rw [List.length_append, List.length_singleton]; omega) (fun x hx => by
        rw [Nat.sub_self, List.take_zero] at hx; cases hx)
      rw [hsplit, c, parts_app, parts_one hno, List.singleton_append, List.map_cons, ← List.singleton_append, ← List.append_assoc]
      refine Ev.step (fun k => ?_) hn
      simp only [collatorref01_split.l0]
      rw [if_pos (by omega), if_pos (by omega), hb, c, if_pos (by rfl), if_pos (by omega), if_pos (by omega), if_pos (by omega), if_pos (by omega), Int.toNat_natCast, Int.toNat_natCast, e, wi (by omega)]
    · have hn := ih (i + 1) from_ acc (by omega) (by omega) (by omega) (fun x hx => by
        have h2 : ((tl s).drop from_).take (i + 1 - from_) = ((tl s).drop from_).take (i - from_) ++ [(tl s)[i]] := by
          have h3 : i + 1 - from_ = (i - from_) + 1 := by omega
          have h4 : ((tl s).drop from_)[i - from_]? = some (tl s)[i] := by rw [List.getElem?_drop, show from_ + (i - from_) = i by omega, hget]
          rw [h3, List.take_add_one, h4]
          rfl
        rw [h2] at hx
        rcases List.mem_append.1 hx with hx | hx
        · exact hc x hx
        · rw [List.mem_singleton.1 hx]; exact c)
      refine Ev.step (fun k => ?_) hn
      simp only [collatorref01_split.l0]
      rw [if_pos (by omega), if_pos (by omega), hb, if_neg (fun h => c (UInt8.toNat_inj.1 (by have : ((47 : UInt8).toNat : Int) = 47 := rfl; omega))), wi (by omega)]
theorem rsplit_ev (s : ByteArray) (hs : s.size ≤ 4000000) : Ev (fun k => collatorref01_split.f k s) (pieces s) := by
  have h := rsplit_loop s hs s.size 0 0 [] (by omega) (Nat.le_refl _) (Nat.le_refl _) (fun c hc => by
    rw [Nat.sub_self, List.take_zero] at hc; cases hc)
  exact h
theorem may_l0 (s : ByteArray) (hs : s.size ≤ 4000000) (t : Bs) : ∀ i : Nat, (tl s).drop i = t → Ev (fun k => collatorref01_may.l0 k s (i : Int)) (decide ((0 : UInt8) ∉ t)) := by
  induction t with
  | nil =>
    intro i h
    have hi := drop_nil h
    rw [tl_size] at hi
    refine Ev.step (f := fun _ => some true) (fun k => ?_) (Ev.now _)
    simp only [collatorref01_may.l0]; rw [if_neg (by omega)]
  | cons c t ih =>
    intro i h
    obtain ⟨h1, h2, h3⟩ := drop_cons h
    rw [tl_size] at h1
    have hb := bt_tl h2
    by_cases hc : c = 0
    · rw [decide_eq_false (by rw [hc]; simp)]
      refine Ev.step (f := fun _ => some false) (fun k => ?_) (Ev.now _)
      simp only [collatorref01_may.l0]
      rw [if_pos (by omega), if_pos (by omega), hb, hc, if_pos (by rfl)]
    · have e : decide ((0 : UInt8) ∉ c :: t) = decide ((0 : UInt8) ∉ t) := by
        rw [decide_eq_decide, List.mem_cons, not_or]
        exact ⟨fun h => h.2, fun h => ⟨fun e => hc e.symm, h⟩⟩
      rw [e]
      refine Ev.step (fun k => ?_) (ih (i + 1) h3)
      simp only [collatorref01_may.l0]
      rw [if_pos (by omega), if_pos (by omega), hb, if_neg (fun h => hc (UInt8.toNat_inj.1 (by have : ((0 : UInt8).toNat : Int) = 0 := rfl; omega))), wi (by omega)]
theorem may_ev (s : ByteArray) (hs : s.size ≤ 4000000) : Ev (fun k => collatorref01_may.f k s) (!oddb (tl s)) := by
  have hj : ∀ b : Bool, Ev (fun k => collatorref01_may.j0 k s b) (if b = true then false else decide ((0 : UInt8) ∉ tl s)) := fun b => by
    cases b with
    | true =>
      refine Ev.step (f := fun _ => some false) (fun k => ?_) (Ev.now _)
      simp only [collatorref01_may.j0]; rw [if_true]
    | false =>
      refine Ev.step (fun k => ?_) (may_l0 s hs (tl s) 0 rfl)
      simp only [collatorref01_may.j0]; rw [if_neg (by decide)]; rfl
  have hl := tl_size s
  unfold collatorref01_may.f
  rw [toList_tl]
  by_cases h1 : tl s = []
  · have e : oddb (tl s) = true := decide_eq_true (.inl h1)
    rw [e]
    exact evpos h1 (hj true)
  · refine evneg h1 ?_
    by_cases h2 : tl s = [46]
    · have e : oddb (tl s) = true := decide_eq_true (.inr (.inl h2))
      rw [e]
      exact evpos h2 (hj true)
    · refine evneg h2 ?_
      by_cases h3 : tl s = [46, 46]
      · have e : oddb (tl s) = true := decide_eq_true (.inr (.inr (.inl h3)))
        rw [e]
        exact evpos h3 (hj true)
      · refine evneg h3 ?_
        by_cases h4 : (s.size : Int) > 64
        · have e : oddb (tl s) = true := decide_eq_true (.inr (.inr (.inr (.inl (by omega)))))
          rw [e, decide_eq_true h4]
          exact hj true
        · have e : (!oddb (tl s)) = decide ((0 : UInt8) ∉ tl s) := by
            unfold oddb
            rw [← decide_not, decide_eq_decide]
            constructor
            · intro h5 h6; exact h5 (.inr (.inr (.inr (.inr h6))))
            · rintro h5 (h6 | h6 | h6 | h6 | h6)
              · exact h1 h6
              · exact h2 h6
              · exact h3 h6
              · omega
              · exact h5 h6
          rw [e, decide_eq_false h4]
          exact hj false
theorem rcheck_loop (ps : List ByteArray) (hp : ps.length ≤ 1000000000000) (hz : ∀ q ∈ ps, q.size ≤ 4000000) (t : List ByteArray) : ∀ i : Nat, ps.drop i = t → Ev (fun k => collatorref01_Check.l0 k ps (i : Int)) (if (t.map tl).any oddb then 2 else if ps.length > 16 then 3 else 0) := by
  induction t with
  | nil =>
    intro i h
    have hi := drop_nil h
    refine Ev.step (f := fun _ => some _) (fun k => ?_) (Ev.now _)
    simp only [collatorref01_Check.l0]
    rw [if_neg (by omega)]
    show _ = some (if ps.length > 16 then (3 : Int) else 0)
    by_cases c : ps.length > 16
    · rw [if_pos (by omega), if_pos c]
    · rw [if_neg (by omega), if_neg c]
  | cons x t ih =>
    intro i h
    obtain ⟨h1, h2, h3⟩ := drop_cons h
    have hm := may_ev x (hz x (List.mem_of_getElem? h2))
    rw [List.map_cons, List.any_cons]
    refine Ev.step (f := fun k => (collatorref01_may.f k x).bind fun t161 => if t161 = true then collatorref01_Check.l0 k ps ((i + 1 : Nat) : Int) else some 2) (fun k => ?_) (Ev.bind hm ?_)
    · simp only [collatorref01_Check.l0]
      rw [if_pos (by omega), if_pos (by omega), rdB h2, wi (by omega)]
    · cases hx : oddb (tl x) with
      | true => exact evneg (by decide) (Ev.now _)
      | false => exact evpos rfl (ih (i + 1) h3)
theorem pieces_small (s : ByteArray) : ∀ q ∈ pieces s, q.size ≤ s.size := by
  have gen : ∀ l : Bs, ∀ p ∈ parts l, p.length ≤ l.length := by
    intro l
    induction l with
    | nil => intro p hp; rw [parts_nil, List.mem_singleton] at hp; rw [hp]; exact Nat.le_refl _
    | cons c l ih =>
      intro p hp
      by_cases hc : c = 47
      · subst hc
        rw [parts_slash] at hp
        rcases List.mem_cons.1 hp with rfl | hp
        · exact Nat.zero_le _
        · have := ih p hp; rw [List.length_cons]; omega
      · obtain ⟨q, qs, h⟩ := parts_ne l
        rw [parts_cons hc h] at hp
        rcases List.mem_cons.1 hp with rfl | hp
        · have := ih q (by rw [h]; exact List.mem_cons_self); simp only [List.length_cons]; omega
        · have := ih p (by rw [h]; exact List.mem_cons_of_mem _ hp); rw [List.length_cons]; omega
  intro q hq
  obtain ⟨p, hp, rfl⟩ := List.mem_map.1 hq
  have := gen (tl s) p hp
  rw [ofB_size, ← tl_size]
  exact this
theorem rcheck_ev (s : ByteArray) (hs : s.size ≤ 4000000) : Ev (fun k => collatorref01_Check.f k s) (Q.chk (parts (tl s))) := by
  unfold collatorref01_Check.f
  refine Ev.bind (rsplit_ev s hs) ?_
  have hl := pieces_length s
  have := rcheck_loop (pieces s) (by omega) (fun q hq => Nat.le_trans (pieces_small s q hq) hs) (pieces s) 0 rfl
  rw [pieces_tl] at this
  have e : (pieces s).length = (parts (tl s)).length := List.length_map ..
  rw [e] at this
  exact this
theorem rparts_ev (s : ByteArray) (hs : s.size ≤ 4000000) : Ev (fun k => collatorref01_Parts.f k s) (if Q.chk (parts (tl s)) = 0 then pieces s else []) := by
  unfold collatorref01_Parts.f
  refine Ev.bind (rcheck_ev s hs) ?_
  by_cases c : Q.chk (parts (tl s)) = 0
  · have e : (if Q.chk (parts (tl s)) = 0 then pieces s else []) = pieces s := if_pos c
    rw [e]
    exact evpos c (Ev.bind (rsplit_ev s hs) (Ev.now _))
  · have e : (if Q.chk (parts (tl s)) = 0 then pieces s else []) = [] := if_neg c
    rw [e]
    exact evneg c (Ev.now _)
theorem ok_parts {ps : List Bs} (h : Q.chk ps = 0) : ∀ p ∈ ps, p ≠ [] := by
  intro p hp he
  unfold Q.chk at h
  have : ps.any oddb = true := List.any_eq_true.2 ⟨p, hp, by rw [he]; rfl⟩
  rw [if_pos this] at h
  cases h
theorem rdir_loop (ps : List Bs) (hn : ∀ p ∈ ps, p ≠ []) (hp : ps.length ≤ 4000001) (d : Nat) : ∀ (i : Nat), i + d + 1 = ps.length → (∀ j, (glue (ps.take j)).length ≤ 3000000) → (∀ p ∈ ps, p.length ≤ 3000000) → Ev (fun k => collatorref01_Dir.l0 k (ps.map ofB) (ofB (glue (ps.take i))) (i : Int)) (ofB (glue ps.dropLast)) := by
  have hl : (ps.map ofB).length = ps.length := List.length_map ..
  induction d with
  | zero =>
    intro i hi h1 h2
    refine Ev.step (f := fun _ => some (ofB (glue ps.dropLast))) (fun k => ?_) (Ev.now _)
    simp only [collatorref01_Dir.l0]
    rw [wi (by omega), if_neg (by omega), List.dropLast_eq_take, show ps.length - 1 = i by omega]
  | succ d ih =>
    intro i hi h1 h2
    have hlt : i < ps.length := by omega
    have hget : (ps.map ofB)[i]? = some (ofB ps[i]) := by rw [List.getElem?_map, List.getElem?_eq_getElem hlt]; rfl
    have hj := rjoin_ok (d := ofB (glue (ps.take i))) (n := ofB ps[i]) (by rw [ofB_size]; have := h1 i; omega) (by rw [ofB_size]; have := h2 _ (List.getElem_mem hlt); omega)
    have e : joinB (tl (ofB (glue (ps.take i)))) (tl (ofB ps[i])) = glue (ps.take (i + 1)) := by
      rw [tl_ofB, tl_ofB, List.take_succ_eq_append_getElem hlt]
      by_cases c : ps.take i = []
      · rw [c]; rfl
      · rw [glue_snoc c]
        unfold joinB
        rw [if_neg (glue_ne c (fun q hq => hn q (List.mem_of_mem_take hq)))]
    rw [e] at hj
    refine Ev.step (fun k => ?_) (ih (i + 1) (by omega) h1 h2)
    simp only [collatorref01_Dir.l0]
    rw [wi (by omega), if_pos (by omega), if_pos (by omega), if_pos (by omega), rdB hget, hj, Option.bind_some]
theorem glue_take (ps : List Bs) (j : Nat) : (glue (ps.take j)).length ≤ (glue ps).length := by
  by_cases c1 : ps.take j = []
  · rw [c1]; exact Nat.zero_le _
  · by_cases c2 : ps.drop j = []
    · have := List.take_append_drop j ps
      rw [c2, List.append_nil] at this
      rw [this]
      exact Nat.le_refl _
    · have := glue_app _ _ c1 c2
      rw [List.take_append_drop] at this
      rw [this, List.length_append]
      omega
theorem rdir_ev (s : ByteArray) (hs : s.size ≤ 1000) : Ev (fun k => collatorref01_Dir.f k s) (ofB (dirB (tl s))) := by
  unfold collatorref01_Dir.f dirB
  refine Ev.bind (rparts_ev s (by omega)) ?_
  by_cases c : Q.chk (parts (tl s)) = 0
  · rw [if_pos c, if_pos c]
    obtain ⟨p, ps, hp⟩ := parts_ne (tl s)
    have hl := parts_length (tl s)
    rw [tl_size] at hl
    refine rdir_loop (parts (tl s)) (ok_parts c) (by omega) ((parts (tl s)).length - 1) 0 (by rw [hp]; simp) (fun j => ?_) (fun q hq => ?_)
    · have := glue_take (parts (tl s)) j
      rw [glue_parts, tl_size] at this
      omega
    · have := pieces_small s (ofB q) (List.mem_map_of_mem hq)
      rw [ofB_size] at this
      omega
  · rw [if_neg c, if_neg c]
    refine Ev.step (f := fun _ => some (⟨#[]⟩ : ByteArray)) (fun k => ?_) (Ev.now _)
    simp only [collatorref01_Dir.l0]
    have e : wrap64 ((0 : Int) + 1) = 1 := (w64 (x := (0 : Int) + 1) (by omega) (by omega)).trans (by omega)
    rw [e, if_neg (by decide)]
theorem less_cmp (a b : Bs) : Op.bytesLess a b = decide (bcmp a b < 0) := by
  induction a generalizing b with
  | nil => cases b <;> rfl
  | cons x a ih =>
    cases b with
    | nil => rfl
    | cons y b =>
      show (decide (x < y) || (x == y && Op.bytesLess a b)) = _
      rw [bcmp_cons, ih b]
      by_cases c1 : x.toNat < y.toNat
      · rw [if_pos c1, decide_eq_true (UInt8.lt_iff_toNat_lt.2 c1)]; rfl
      · have h1 : ¬ x < y := fun h => c1 (UInt8.lt_iff_toNat_lt.1 h)
        rw [if_neg c1, decide_eq_false h1, Bool.false_or]
        by_cases c2 : y.toNat < x.toNat
        · have h2 : (x == y) = false := by rw [beq_eq_false_iff_ne]; intro h; rw [h] at c2; omega
          rw [if_pos c2, h2]; rfl
        · have h2 : (x == y) = true := by rw [beq_iff_eq]; exact UInt8.toNat_inj.1 (by omega)
          rw [if_neg c2, h2, Bool.true_and]
theorem bcmp_neg (a b : Bs) : bcmp b a = -bcmp a b := lex_neg _ _
theorem rcompare_loop (xs ys : List Bs) (hx : xs.length ≤ 100000) (hy : ys.length ≤ 100000) (u : List Bs) : ∀ (v : List Bs) (i : Nat), xs.drop i = u → ys.drop i = v → i ≤ xs.length → i ≤ ys.length → Ev (fun k => collatorref01_Compare.l0 k (xs.map ofB) (ys.map ofB) (i : Int)) (cmpP u v) := by
  have lx : (xs.map ofB).length = xs.length := List.length_map ..
  have ly : (ys.map ofB).length = ys.length := List.length_map ..
  induction u with
  | nil =>
    intro v i hu hv h1 h2
    have g1 := drop_nil hu
    refine Ev.step (f := fun k => collatorref01_Compare.j1 k (xs.map ofB) (ys.map ofB) (i : Int) false) (fun k => ?_) (Ev.step (f := fun _ => some (cmpP [] v)) (fun k => ?_) (Ev.now _))
    · simp only [collatorref01_Compare.l0]; rw [if_neg (by omega)]
    · simp only [collatorref01_Compare.j1]
      rw [if_neg (by decide)]
      cases v with
      | nil =>
        have g2 := drop_nil hv
        rw [if_neg (by omega), if_neg (by omega)]; rfl
      | cons y v =>
        obtain ⟨g2, _, _⟩ := drop_cons hv
        rw [if_pos (by omega)]; rfl
  | cons x u ih =>
    intro v i hu hv h1 h2
    obtain ⟨a1, a2, a3⟩ := drop_cons hu
    cases v with
    | nil =>
      have g2 := drop_nil hv
      refine Ev.step (f := fun k => collatorref01_Compare.j1 k (xs.map ofB) (ys.map ofB) (i : Int) false) (fun k => ?_) (Ev.step (f := fun _ => some (cmpP (x :: u) [])) (fun k => ?_) (Ev.now _))
      · simp only [collatorref01_Compare.l0]; rw [if_pos (by omega), decide_eq_false (by omega : ¬ (i : Int) < ((ys.map ofB).length : Int))]
      · simp only [collatorref01_Compare.j1]
        rw [if_neg (by decide), if_neg (by omega), if_pos (by omega)]; rfl
    | cons y v =>
      obtain ⟨b1, b2, b3⟩ := drop_cons hv
      have ga : (xs.map ofB)[i]? = some (ofB x) := by rw [List.getElem?_map, a2]; rfl
      have gb : (ys.map ofB)[i]? = some (ofB y) := by rw [List.getElem?_map, b2]; rfl
      have hn := ih v (i + 1) a3 b3 (by omega) (by omega)
      have hng := bcmp_neg x y
      show Ev _ (if bcmp x y < 0 then (-1 : Int) else if bcmp x y > 0 then 1 else cmpP u v)
      refine Ev.step (f := fun k => collatorref01_Compare.j1 k (xs.map ofB) (ys.map ofB) (i : Int) true) (fun k => ?_) ?_
      · simp only [collatorref01_Compare.l0]; rw [if_pos (by omega), decide_eq_true (by omega : (i : Int) < ((ys.map ofB).length : Int))]
      · by_cases c1 : bcmp x y < 0
        · rw [if_pos c1]
          refine Ev.step (f := fun _ => some (-1)) (fun k => ?_) (Ev.now _)
          simp only [collatorref01_Compare.j1]
          rw [if_true, if_pos (by omega), if_pos (by omega), if_pos (by omega), rdB ga, rdB gb, toList_tl, toList_tl, tl_ofB, tl_ofB, less_cmp, if_pos (decide_eq_true c1)]
        · rw [if_neg c1]
          by_cases c2 : bcmp x y > 0
          · rw [if_pos c2]
            refine Ev.step (f := fun _ => some 1) (fun k => ?_) (Ev.now _)
            simp only [collatorref01_Compare.j1]
            rw [if_true, if_pos (by omega), if_pos (by omega), if_pos (by omega), rdB ga, rdB gb, toList_tl, toList_tl, tl_ofB, tl_ofB, less_cmp, less_cmp, if_neg (by rw [decide_eq_false c1]; decide), if_pos (decide_eq_true (by omega))]
          · rw [if_neg c2]
            refine Ev.step (fun k => ?_) hn
            simp only [collatorref01_Compare.j1]
            rw [if_true, if_pos (by omega), if_pos (by omega), if_pos (by omega), rdB ga, rdB gb, toList_tl, toList_tl, tl_ofB, tl_ofB, less_cmp, less_cmp, if_neg (by rw [decide_eq_false c1]; decide), if_neg (by rw [decide_eq_false (by omega : ¬ bcmp y x < 0)]; decide), wi (by omega)]
theorem rcompare_ev (a b : ByteArray) (ha : a.size ≤ 1000) (hb : b.size ≤ 1000) : Ev (fun k => collatorref01_Compare.f k a b) (pcmp (tl a) (tl b)) := by
  unfold collatorref01_Compare.f
  refine Ev.bind (rsplit_ev a (by omega)) (Ev.bind (rsplit_ev b (by omega)) ?_)
  have h1 := parts_length (tl a)
  have h2 := parts_length (tl b)
  rw [tl_size] at h1 h2
  have h := rcompare_loop (parts (tl a)) (parts (tl b)) (by omega) (by omega) _ _ 0 rfl rfl (by omega) (by omega)
  rw [List.drop_zero, List.drop_zero, cmp_parts] at h
  exact h
end Go.Proofs.Ytcgnkbdfoaiaiaa.Q
end
section
/- Trees of raw items: what collatorlaw02.Tree makes: at most two hundred items, short paths, short texts, no path twice. -/
set_option linter.unusedVariables false
set_option linter.unusedSimpArgs false
namespace Go.Proofs.Ytcgnkbdfoaiaiaa.Q
open Go Go.RowKit Go.Proofs.Ytcgnkbdfoaiaiaa.P Go.Proofs.YtcgnkbdfoaiaiaaW.PrintWords Go.Proofs.YtcgnkbdfoaiaiaaW.PrintLast Go.Proofs.YtcgnkbdfoaiaiaaW.PrintMore
abbrev It := S33
abbrev Rw := S41
theorem rdIt {s : List It} {i : Nat} {x : It} (h : s[i]? = some x) : rd_T33 s (i : Int) = x := by
  unfold rd_T33
  rw [Int.toNat_natCast, List.getD_eq_getElem?_getD, h]; rfl
theorem rdRw {s : List Rw} {i : Nat} {x : Rw} (h : s[i]? = some x) : rd_T41 s (i : Int) = x := by
  unfold rd_T41
  rw [Int.toNat_natCast, List.getD_eq_getElem?_getD, h]; rfl
def cnt (t : List It) (p : ByteArray) : Nat := t.countP (fun x => decide (x.f0 = p))
theorem count_loop (t : List It) (p : ByteArray) (ht : t.length ≤ 100000) (d : Nat) : ∀ i n : Nat, i + d = t.length → n ≤ i → Ev (fun k => collatorref02_count.l0 k t p (n : Int) (i : Int)) ((n + cnt (t.drop i) p : Nat) : Int) := by
  induction d with
  | zero =>
    intro i n hi hn
    rw [List.drop_eq_nil_of_le (by omega)]
    refine Ev.step (f := fun _ => some ((n : Nat) : Int)) (fun k => ?_) (Ev.now _)
    simp only [collatorref02_count.l0]
    rw [if_neg (by omega)]
  | succ d ih =>
    intro i n hi hn
    have hlt : i < t.length := by omega
    have hg : t[i]? = some t[i] := List.getElem?_eq_getElem hlt
    rw [List.drop_eq_getElem_cons hlt]
    unfold cnt at ih ⊢
    rw [List.countP_cons]
    by_cases c : t[i].f0 = p
    · rw [decide_eq_true c, if_pos rfl]
      have h := ih (i + 1) (n + 1) (by omega) (by omega)
      rw [show n + (List.countP (fun x => decide (x.f0 = p)) (t.drop (i + 1)) + 1) = n + 1 + List.countP (fun x => decide (x.f0 = p)) (t.drop (i + 1)) by omega]
      refine Ev.step (fun k => ?_) h
      simp only [collatorref02_count.l0]
      rw [if_pos (by omega), if_pos (by omega), rdIt hg, if_pos (by rw [c]), wi (by omega), wi (by omega)]
    · rw [decide_eq_false c, if_neg (by decide), Nat.add_zero]
      refine Ev.step (fun k => ?_) (ih (i + 1) n (by omega) (by omega))
      simp only [collatorref02_count.l0]
      rw [if_pos (by omega), if_pos (by omega), rdIt hg, if_neg (fun h => c (toList_eq_iff.1 h)), wi (by omega)]
theorem count_ev (t : List It) (p : ByteArray) (ht : t.length ≤ 100000) : Ev (fun k => collatorref02_count.f k t p) ((cnt t p : Nat) : Int) := by
  have h := count_loop t p ht t.length 0 0 (by omega) (Nat.le_refl _)
  rw [Nat.zero_add] at h
  exact h
theorem find_loop (t : List It) (p : ByteArray) (ht : t.length ≤ 100000) (d : Nat) : ∀ i : Nat, i + d = t.length → ∃ r, Ev (fun k => collatorref02_Find.l0 k t p (i : Int)) r := by
  induction d with
  | zero =>
    intro i hi
    refine ⟨_, Ev.step (f := fun _ => some ((⟨#[]⟩ : ByteArray), 0, (⟨#[]⟩ : ByteArray), false, false)) (fun k => ?_) (Ev.now _)⟩
    simp only [collatorref02_Find.l0]
    rw [if_neg (by omega)]
  | succ d ih =>
    intro i hi
    have hlt : i < t.length := by omega
    have hg : t[i]? = some t[i] := List.getElem?_eq_getElem hlt
    by_cases c : t[i].f0 = p
    · refine ⟨_, Ev.step (f := fun _ => some (t[i].f0, t[i].f1, t[i].f2, t[i].f3, true)) (fun k => ?_) (Ev.now _)⟩
      simp only [collatorref02_Find.l0]
      rw [if_pos (by omega), if_pos (by omega), rdIt hg, if_pos (by rw [c])]
    · obtain ⟨r, h⟩ := ih (i + 1) (by omega)
      refine ⟨r, Ev.step (fun k => ?_) h⟩
      simp only [collatorref02_Find.l0]
      rw [if_pos (by omega), if_pos (by omega), rdIt hg, if_neg (fun h => c (toList_eq_iff.1 h)), wi (by omega)]
theorem find_ev (t : List It) (p : ByteArray) (ht : t.length ≤ 100000) : ∃ r, Ev (fun k => collatorref02_Find.f k t p) r := find_loop t p ht t.length 0 (by omega)
theorem dir_loop (t : List It) (p : ByteArray) (ht : t.length ≤ 100000) (d : Nat) : ∀ i : Nat, i + d = t.length → ∃ r, Ev (fun k => collatorref02_dir.l0 k t p (i : Int)) r := by
  induction d with
  | zero =>
    intro i hi
    refine ⟨_, Ev.step (f := fun _ => some false) (fun k => ?_) (Ev.now _)⟩
    simp only [collatorref02_dir.l0]
    rw [if_neg (by omega)]
  | succ d ih =>
    intro i hi
    have hlt : i < t.length := by omega
    have hg : t[i]? = some t[i] := List.getElem?_eq_getElem hlt
    obtain ⟨r, h⟩ := ih (i + 1) (by omega)
    by_cases c : t[i].f0 = p
    · by_cases c2 : t[i].f1 = 1
      · refine ⟨_, Ev.step (f := fun _ => some true) (fun k => ?_) (Ev.now _)⟩
        simp only [collatorref02_dir.l0]
        rw [if_pos (by omega), if_pos (by omega), rdIt hg, if_pos (by rw [c]), if_pos c2]
      · refine ⟨r, Ev.step (fun k => ?_) h⟩
        simp only [collatorref02_dir.l0]
        rw [if_pos (by omega), if_pos (by omega), rdIt hg, if_pos (by rw [c]), if_neg c2, wi (by omega)]
    · refine ⟨r, Ev.step (fun k => ?_) h⟩
      simp only [collatorref02_dir.l0]
      rw [if_pos (by omega), if_pos (by omega), rdIt hg, if_neg (fun h => c (toList_eq_iff.1 h)), wi (by omega)]
theorem idir_ev (t : List It) (p : ByteArray) (ht : t.length ≤ 100000) : ∃ r, Ev (fun k => collatorref02_dir.f k t p) r := dir_loop t p ht t.length 0 (by omega)
theorem ite_ev {α : Type} {c : Prop} [Decidable c] {f g : Nat → Option α} (hf : ∃ r, Ev f r) (hg : ∃ r, Ev g r) : ∃ r, Ev (fun k => if c then f k else g k) r := by
  by_cases h : c
  · obtain ⟨r, hr⟩ := hf; exact ⟨r, evpos h hr⟩
  · obtain ⟨r, hr⟩ := hg; exact ⟨r, evneg h hr⟩
theorem now_ev {α : Type} (r : α) : ∃ q, Ev (fun _ => some r) q := ⟨r, Ev.now r⟩
theorem some_loop (t : List It) (p : ByteArray) (n m : Int) (ht : t.length ≤ 100000) (d : Nat) : ∀ i : Nat, i + d = t.length → ∃ r, Ev (fun k => collatorref02_some.l0 k t p n m (i : Int)) r := by
  induction d with
  | zero =>
    intro i hi
    refine ⟨_, Ev.step (f := fun _ => some false) (fun k => ?_) (Ev.now _)⟩
    simp only [collatorref02_some.l0]
    rw [if_neg (by omega)]
  | succ d ih =>
    intro i hi
    have hlt : i < t.length := by omega
    have hg : t[i]? = some t[i] := List.getElem?_eq_getElem hlt
    have hn := ih (i + 1) (by omega)
    have hj : ∀ (b : Bool) (q0 : ByteArray) (q1 : Int) (q2 : ByteArray) (q3 : Bool), ∃ r, Ev (fun k => collatorref02_some.j1 k t p n m (i : Int) b q0 q1 q2 q3) r := by
      intro b q0 q1 q2 q3
      have h : ∃ r, Ev (fun k => if b = true then (some true) else (if m = 7 then (if (q2.size : Int) > n then (some true) else (if m = 9 then (if q3 = true then (some true) else (collatorref02_some.l0 k t p n m ((i + 1 : Nat) : Int))) else (collatorref02_some.l0 k t p n m ((i + 1 : Nat) : Int)))) else (if m = 9 then (if q3 = true then (some true) else (collatorref02_some.l0 k t p n m ((i + 1 : Nat) : Int))) else (collatorref02_some.l0 k t p n m ((i + 1 : Nat) : Int))))) r :=
        ite_ev (now_ev _) (ite_ev (ite_ev (now_ev _) (ite_ev (ite_ev (now_ev _) hn) hn)) (ite_ev (ite_ev (now_ev _) hn) hn))
      obtain ⟨r, h⟩ := h
      refine ⟨r, Ev.step (fun k => ?_) h⟩
      simp only [collatorref02_some.j1]
      rw [wi (by omega)]
    have h : ∃ r, Ev (fun k => if (t[i].f0).toList = p.toList then (if m = 5 then (if t[i].f1 < 1 then (collatorref02_some.j1 k t p n m (i : Int) true t[i].f0 t[i].f1 t[i].f2 t[i].f3) else (if t[i].f1 > 3 then (collatorref02_some.j1 k t p n m (i : Int) true t[i].f0 t[i].f1 t[i].f2 t[i].f3) else (if t[i].f1 = 1 then (collatorref02_some.j1 k t p n m (i : Int) ((t[i].f2).toList != ([] : List UInt8)) t[i].f0 t[i].f1 t[i].f2 t[i].f3) else (collatorref02_some.j1 k t p n m (i : Int) false t[i].f0 t[i].f1 t[i].f2 t[i].f3)))) else (collatorref02_some.j1 k t p n m (i : Int) false t[i].f0 t[i].f1 t[i].f2 t[i].f3)) else (collatorref02_some.l0 k t p n m ((i + 1 : Nat) : Int))) r :=
      ite_ev (ite_ev (ite_ev (hj _ _ _ _ _) (ite_ev (hj _ _ _ _ _) (ite_ev (hj _ _ _ _ _) (hj _ _ _ _ _)))) (hj _ _ _ _ _)) hn
    obtain ⟨r, h⟩ := h
    refine ⟨r, Ev.step (fun k => ?_) h⟩
    simp only [collatorref02_some.l0]
    rw [if_pos (by omega), if_pos (by omega), rdIt hg, wi (by omega)]
theorem some_ev (t : List It) (p : ByteArray) (n m : Int) (ht : t.length ≤ 100000) : ∃ r, Ev (fun k => collatorref02_some.f k t p n m) r := some_loop t p n m ht t.length 0 (by omega)
theorem bind_ev {α β : Type} {g : Nat → Option α} {f : Nat → α → Option β} (hg : ∃ a, Ev g a) (hf : ∀ a, ∃ r, Ev (fun n => f n a) r) : ∃ r, Ev (fun n => (g n).bind (f n)) r := by
  obtain ⟨a, ha⟩ := hg
  obtain ⟨r, hr⟩ := hf a
  exact ⟨r, Ev.bind ha hr⟩
theorem fault_ev (t : List It) (p : ByteArray) (ht : t.length ≤ 100000) (hp : p.size ≤ 1000) : ∃ e, Ev (fun k => collatorref02_fault.f k t 16 1000 200 p) e ∧ (e = 0 → cnt t p ≤ 1) := by
  have hj : ∀ b : Bool, ∃ r : Int, Ev (fun k => collatorref02_fault.j0 k t p b 16 1000 200) r := fun b => by
    have h : ∃ r : Int, Ev (fun k => if b = true then (some 6) else ((collatorref02_some.f k t p 1000 7).bind fun t301 => (if t301 = true then (some 7) else ((collatorref02_some.f k t p 1000 9).bind fun t302 => (if t302 = true then (some 9) else (some 0)))))) r :=
      ite_ev (now_ev (6 : Int)) (bind_ev (some_ev t p 1000 7 ht) (fun a => ite_ev (now_ev _) (bind_ev (some_ev t p 1000 9 ht) (fun b => ite_ev (now_ev _) (now_ev _)))))
    obtain ⟨r, h⟩ := h
    refine ⟨r, Ev.step (fun k => ?_) h⟩
    simp only [collatorref02_fault.j0]
  unfold collatorref02_fault.f
  have h1 := rcheck_ev p (by omega)
  by_cases c : Q.chk (parts (tl p)) = 0
  · by_cases c3 : (((if Q.chk (parts (tl p)) = 0 then pieces p else []).length : Nat) : Int) > 16
    · exact ⟨3, Ev.bind h1 (evpos c (Ev.bind (rparts_ev p (by omega)) (evpos c3 (Ev.now _)))), fun h => by cases h⟩
    · by_cases c4 : ((cnt t p : Nat) : Int) > 1
      · exact ⟨4, Ev.bind h1 (evpos c (Ev.bind (rparts_ev p (by omega)) (evneg c3 (Ev.bind (count_ev t p ht) (evpos c4 (Ev.now _)))))), fun h => by cases h⟩
      · have h : ∃ r, Ev (fun k => (collatorref02_some.f k t p 1000 5).bind fun t298 => (if t298 = true then (some 5) else ((collatorref01_Dir.f k p).bind fun t299 => (if t299.toList = ([] : List UInt8) then (collatorref02_fault.j0 k t p false 16 1000 200) else ((collatorref02_dir.f k t t299).bind fun t300 => (collatorref02_fault.j0 k t p (!t300) 16 1000 200)))))) r :=
          bind_ev (some_ev t p 1000 5 ht) (fun a => ite_ev (now_ev _) (bind_ev ⟨_, rdir_ev p hp⟩ (fun q => ite_ev (hj _) (bind_ev (idir_ev t q ht) (fun b => hj _)))))
        obtain ⟨r, h⟩ := h
        exact ⟨r, Ev.bind h1 (evpos c (Ev.bind (rparts_ev p (by omega)) (evneg c3 (Ev.bind (count_ev t p ht) (evneg c4 h))))), fun _ => by omega⟩
  · exact ⟨_, Ev.bind h1 (evneg c (Ev.now _)), fun h => absurd h c⟩
theorem tcheck_loop (t : List It) (ht : t.length ≤ 100000) (hz : ∀ x ∈ t, x.f0.size ≤ 1000) (d : Nat) : ∀ (i : Nat) (p : ByteArray) (c : Int), i + d = t.length → p.size ≤ 1000 → ∃ r, Ev (fun k => collatorref02_Check.l0 k t (i : Int) 16 1000 200 p c) r ∧ (r.2 = 0 → c = 0 ∧ ∀ x ∈ t.drop i, cnt t x.f0 ≤ 1) := by
  induction d with
  | zero =>
    intro i p c hi hp
    refine ⟨(p, c), Ev.step (f := fun _ => some (p, c)) (fun k => ?_) (Ev.now _), fun h => ⟨h, fun x hx => ?_⟩⟩
    · simp only [collatorref02_Check.l0]
      rw [if_neg (by omega)]
    · rw [List.drop_eq_nil_of_le (by omega)] at hx; cases hx
  | succ d ih =>
    intro i p c hi hp
    have hlt : i < t.length := by omega
    have hg : t[i]? = some t[i] := List.getElem?_eq_getElem hlt
    have hs := hz _ (List.getElem_mem hlt)
    obtain ⟨e, he, he0⟩ := fault_ev t t[i].f0 ht hs
    rw [List.drop_eq_getElem_cons hlt]
    by_cases c1 : e = 0
    · obtain ⟨r, h, hr⟩ := ih (i + 1) p c (by omega) hp
      refine ⟨r, Ev.step (f := fun k => (collatorref02_fault.f k t 16 1000 200 t[i].f0).bind fun t307 => (if t307 = 0 then (collatorref02_Check.l0 k t ((i + 1 : Nat) : Int) 16 1000 200 p c) else (if c = 0 then (collatorref02_Check.l0 k t ((i + 1 : Nat) : Int) 16 1000 200 t[i].f0 t307) else ((collatorref01_Compare.f k t[i].f0 p).bind fun t310 => (if t310 < 0 then (collatorref02_Check.l0 k t ((i + 1 : Nat) : Int) 16 1000 200 t[i].f0 t307) else (collatorref02_Check.l0 k t ((i + 1 : Nat) : Int) 16 1000 200 p c)))))) (fun k => ?_) (Ev.bind he (evpos c1 h)), fun h0 => ⟨(hr h0).1, fun x hx => ?_⟩⟩
      · simp only [collatorref02_Check.l0]
        rw [if_pos (by omega), if_pos (by omega), rdIt hg, wi (by omega)]
      · rcases List.mem_cons.1 hx with rfl | hx
        · exact he0 c1
        · exact (hr h0).2 x hx
    · obtain ⟨r1, g1, k1⟩ := ih (i + 1) t[i].f0 e (by omega) hs
      have no1 : r1.2 ≠ 0 := fun h => c1 (k1 h).1
      by_cases c2 : c = 0
      · refine ⟨r1, Ev.step (f := fun k => (collatorref02_fault.f k t 16 1000 200 t[i].f0).bind fun t307 => (if t307 = 0 then (collatorref02_Check.l0 k t ((i + 1 : Nat) : Int) 16 1000 200 p c) else (if c = 0 then (collatorref02_Check.l0 k t ((i + 1 : Nat) : Int) 16 1000 200 t[i].f0 t307) else ((collatorref01_Compare.f k t[i].f0 p).bind fun t310 => (if t310 < 0 then (collatorref02_Check.l0 k t ((i + 1 : Nat) : Int) 16 1000 200 t[i].f0 t307) else (collatorref02_Check.l0 k t ((i + 1 : Nat) : Int) 16 1000 200 p c)))))) (fun k => ?_) (Ev.bind he (evneg c1 (evpos c2 g1))), fun h0 => absurd h0 no1⟩
        simp only [collatorref02_Check.l0]
        rw [if_pos (by omega), if_pos (by omega), rdIt hg, wi (by omega)]
      · obtain ⟨r2, g2, k2⟩ := ih (i + 1) p c (by omega) hp
        have no2 : r2.2 ≠ 0 := fun h => c2 (k2 h).1
        have hcmp := rcompare_ev t[i].f0 p hs hp
        by_cases c3 : pcmp (tl t[i].f0) (tl p) < 0
        · refine ⟨r1, Ev.step (f := fun k => (collatorref02_fault.f k t 16 1000 200 t[i].f0).bind fun t307 => (if t307 = 0 then (collatorref02_Check.l0 k t ((i + 1 : Nat) : Int) 16 1000 200 p c) else (if c = 0 then (collatorref02_Check.l0 k t ((i + 1 : Nat) : Int) 16 1000 200 t[i].f0 t307) else ((collatorref01_Compare.f k t[i].f0 p).bind fun t310 => (if t310 < 0 then (collatorref02_Check.l0 k t ((i + 1 : Nat) : Int) 16 1000 200 t[i].f0 t307) else (collatorref02_Check.l0 k t ((i + 1 : Nat) : Int) 16 1000 200 p c)))))) (fun k => ?_) (Ev.bind he (evneg c1 (evneg c2 (Ev.bind hcmp (evpos c3 g1))))), fun h0 => absurd h0 no1⟩
          simp only [collatorref02_Check.l0]
          rw [if_pos (by omega), if_pos (by omega), rdIt hg, wi (by omega)]
        · refine ⟨r2, Ev.step (f := fun k => (collatorref02_fault.f k t 16 1000 200 t[i].f0).bind fun t307 => (if t307 = 0 then (collatorref02_Check.l0 k t ((i + 1 : Nat) : Int) 16 1000 200 p c) else (if c = 0 then (collatorref02_Check.l0 k t ((i + 1 : Nat) : Int) 16 1000 200 t[i].f0 t307) else ((collatorref01_Compare.f k t[i].f0 p).bind fun t310 => (if t310 < 0 then (collatorref02_Check.l0 k t ((i + 1 : Nat) : Int) 16 1000 200 t[i].f0 t307) else (collatorref02_Check.l0 k t ((i + 1 : Nat) : Int) 16 1000 200 p c)))))) (fun k => ?_) (Ev.bind he (evneg c1 (evneg c2 (Ev.bind hcmp (evneg c3 g2))))), fun h0 => absurd h0 no2⟩
          simp only [collatorref02_Check.l0]
          rw [if_pos (by omega), if_pos (by omega), rdIt hg, wi (by omega)]
/-- No path stands twice. -/
def Once (t : List It) : Prop := ∀ p, cnt t p ≤ 1
theorem tcheck_ev (t : List It) (ht : t.length ≤ 100000) (hz : ∀ x ∈ t, x.f0.size ≤ 1000) : ∃ r, Ev (fun k => collatorref02_Check.f k t 16 1000 200) r ∧ (r.2 = 0 → t.length ≤ 200 ∧ Once t) := by
  unfold collatorref02_Check.f
  by_cases c : (t.length : Int) > 200
  · exact ⟨((⟨#[]⟩ : ByteArray), 8), evpos c (Ev.now _), fun h => by cases h⟩
  · obtain ⟨r, h, hr⟩ := tcheck_loop t ht hz t.length 0 (⟨#[]⟩ : ByteArray) 0 (by omega) (by decide)
    refine ⟨r, evneg c h, fun h0 => ⟨by omega, fun p => ?_⟩⟩
    rcases Nat.eq_zero_or_pos (cnt t p) with h | h
    · omega
    · obtain ⟨x, hx, hp⟩ := List.countP_pos_iff.1 h
      have := (hr h0).2 x (by rw [List.drop_zero]; exact hx)
      rw [of_decide_eq_true hp] at this
      exact this
theorem pick2 {c : Int} (hc : -9223372036854775808 ≤ c ∧ c ≤ 9223372036854775807) {m : Int} {n : Nat} (hm : m = n) (hn : 0 < n) : collatorlaw02_pick.f c m = some (pk c n : Int) := by
  subst hm
  have h0 : ¬ ((n : Int) = 0) := by omega
  unfold pk collatorlaw02_pick.f
  by_cases h : c < 0
  · rw [if_pos h, if_neg h0, if_pos h, w64 (x := c + 1) (by omega) (by omega), w64 (by omega) (by omega), Int.tmod_eq_emod_of_nonneg (by omega)]
    congr 1
    rw [Int.natCast_emod, Int.toNat_of_nonneg (by omega)]
  · rw [if_neg h, if_neg h0, if_neg h, Int.tmod_eq_emod_of_nonneg (by omega)]
    congr 1
    rw [Int.natCast_emod, Int.toNat_of_nonneg (by omega)]
theorem item_ev (x : Rw) (h : HRaw.OkRaw x) : ∃ (p : ByteArray) (kd : Int) (dt : ByteArray) (bd : Bool), Ev (fun k => collatorlaw02_Item.f k x.f0 x.f1 x.f2 x.f3) (p, kd, dt, bd) ∧ Good (parts (tl p)) 8 ∧ p.size ≤ 40 ∧ dt.size ≤ 60 ∧ 1 ≤ kd ∧ kd ≤ 3 := by
  obtain ⟨h0, hw, h1, h2, h3⟩ := h
  have hm2 : maxLen = 9223372036854775807 := rfl
  obtain ⟨P, hP, hg, hs⟩ := path_ev x.f0 hw (by omega)
  have k1 := pick2 (wf_range h1) (m := 3) (n := 3) rfl (by decide)
  have k2 := pick2 (wf_range h3) (m := 12) (n := 12) rfl (by decide)
  have l1 := pk_lt x.f1 (n := 3) (by decide)
  have ew : wrap64 (1 + ((pk x.f1 3 : Nat) : Int)) = 1 + ((pk x.f1 3 : Nat) : Int) := w64 (by omega) (by omega)
  refine ⟨P, wrap64 (1 + ((pk x.f1 3 : Nat) : Int)), if wrap64 (1 + ((pk x.f1 3 : Nat) : Int)) = 1 then (⟨#[]⟩ : ByteArray) else x.f2.extract 0 ((mn (x.f2.size : Int) 60) : Int).toNat, (((pk x.f3 12 : Nat) : Int) == 0), ?_, hg, hs, ?_, by omega, by omega⟩
  · unfold collatorlaw02_Item.f
    exact Ev.bind hP (evval k1 (evval k2 (Ev.now _)))
  · split
    · exact Nat.zero_le _
    · exact (mn_take x.f2 60).2.2
/-- What a tree is here. -/
structure TreeOk (t : List It) : Prop where
  len : t.length ≤ 200
  size : ∀ x ∈ t, x.f0.size ≤ 400 ∧ x.f2.size ≤ 60
  once : Once t
theorem TreeOk.nil : TreeOk [] := ⟨Nat.zero_le _, fun x hx => absurd hx (by simp), fun p => Nat.zero_le _⟩
theorem with_loop (x0 : List Rw) (t : List It) (ht : TreeOk t) (P : ByteArray) (kd : Int) (dt : ByteArray) (hP : P.size ≤ 40) (hd : dt.size ≤ 60) (hl : (pieces P).length ≤ 8) (i : Nat)
    (next : ∀ T, TreeOk T → ∃ R, Ev (fun k => collatorlaw02_Tree.l0 k x0 T (wrap64 ((i : Int) + 1))) R ∧ TreeOk R) (e : Nat) :
    ∀ (j : Nat) (w : List It) (p : ByteArray), j + 1 + e = (pieces P).length → w.length ≤ 200 + j → (∀ x ∈ w, x.f0.size ≤ 400 ∧ x.f2.size ≤ 60) → p.size ≤ 41 * j → ∃ R, Ev (fun k => collatorlaw02_Tree.l1 k x0 t (i : Int) (pieces P) w p (j : Int) P kd dt false) R ∧ TreeOk R := by
  induction e with
  | zero =>
    intro j w p hj hw hz hp
    have hz2 : ∀ x ∈ w ++ [(⟨P, kd, dt, false⟩ : It)], x.f0.size ≤ 400 ∧ x.f2.size ≤ 60 := fun x hx => by
      rcases List.mem_append.1 hx with hx | hx
      · exact hz x hx
      · rw [List.mem_singleton.1 hx]; exact ⟨by show P.size ≤ 400; omega, hd⟩
    obtain ⟨r, hr, hr0⟩ := tcheck_ev (w ++ [(⟨P, kd, dt, false⟩ : It)]) (by rw [List.length_append, List.length_singleton]; omega) (fun x hx => by have := hz2 x hx; omega)
    have hW : collatorlaw02_Wide.f = some (16, 1000, 200) := rfl
    have hb : ∃ R, Ev (fun k => ((some (w ++ [(⟨P, kd, dt, false⟩ : It)] : List It)).bind fun y336 => ((collatorlaw02_Wide.f).bind fun bt339 => ((collatorref02_Check.f k y336 bt339.1 bt339.2.1 bt339.2.2).bind fun bt342 => (if bt342.2 = 0 then (collatorlaw02_Tree.l0 k x0 y336 (wrap64 ((i : Int) + 1))) else (collatorlaw02_Tree.l0 k x0 t (wrap64 ((i : Int) + 1)))))))) R ∧ TreeOk R := by
      by_cases c : r.2 = 0
      · obtain ⟨R, h1, h2⟩ := next _ ⟨(hr0 c).1, hz2, (hr0 c).2⟩
        exact ⟨R, evval rfl (evval hW (Ev.bind hr (evpos c h1))), h2⟩
      · obtain ⟨R, h1, h2⟩ := next t ht
        exact ⟨R, evval rfl (evval hW (Ev.bind hr (evneg c h1))), h2⟩
    obtain ⟨R, h1, h2⟩ := hb
    refine ⟨R, Ev.step (fun k => ?_) h1, h2⟩
    simp only [collatorlaw02_Tree.l1]
    rw [if_neg (by rw [wi (by omega)]; omega), if_pos (by omega)]
  | succ e ih =>
    intro j w p hj hw hz hp
    have hlt : j < (pieces P).length := by omega
    have hg : (pieces P)[j]? = some (pieces P)[j] := List.getElem?_eq_getElem hlt
    have hq := pieces_small P _ (List.getElem_mem hlt)
    have hjn := rjoin_ok (d := p) (n := (pieces P)[j]) (by omega) (by omega)
    have hs : (ofB (joinB (tl p) (tl (pieces P)[j]))).size ≤ 41 * (j + 1) := by
      have := joinB_size (tl p) (tl (pieces P)[j])
      rw [tl_size, tl_size] at this
      rw [ofB_size]
      omega
    obtain ⟨r, hr⟩ := find_ev w (ofB (joinB (tl p) (tl (pieces P)[j]))) (by omega)
    have hb : ∃ R, Ev (fun k => (collatorref02_Find.f k w (ofB (joinB (tl p) (tl (pieces P)[j])))).bind fun bt327 => (if bt327.2.2.2.2 = true then (collatorlaw02_Tree.l1 k x0 t (i : Int) (pieces P) w (ofB (joinB (tl p) (tl (pieces P)[j]))) ((j + 1 : Nat) : Int) P kd dt false) else (collatorlaw02_Tree.l1 k x0 t (i : Int) (pieces P) (w ++ [(⟨ofB (joinB (tl p) (tl (pieces P)[j])), 1, (⟨#[]⟩ : ByteArray), false⟩ : It)]) (ofB (joinB (tl p) (tl (pieces P)[j]))) ((j + 1 : Nat) : Int) P kd dt false))) R ∧ TreeOk R := by
      by_cases c : r.2.2.2.2 = true
      · obtain ⟨R, h1, h2⟩ := ih (j + 1) w _ (by omega) (by omega) hz hs
        exact ⟨R, Ev.bind hr (evpos c h1), h2⟩
      · obtain ⟨R, h1, h2⟩ := ih (j + 1) (w ++ [(⟨ofB (joinB (tl p) (tl (pieces P)[j])), 1, (⟨#[]⟩ : ByteArray), false⟩ : It)]) _ (by omega) (by rw [List.length_append, List.length_singleton]; omega) (fun x hx => by
          rcases List.mem_append.1 hx with hx | hx
          · exact hz x hx
          · rw [List.mem_singleton.1 hx]; exact ⟨by show (ofB (joinB (tl p) (tl (pieces P)[j]))).size ≤ 400; omega, Nat.zero_le _⟩) hs
        exact ⟨R, Ev.bind hr (evneg c h1), h2⟩
    obtain ⟨R, h1, h2⟩ := hb
    refine ⟨R, Ev.step (fun k => ?_) h1, h2⟩
    simp only [collatorlaw02_Tree.l1]
    rw [wi (by omega), if_pos (by omega), if_pos (by omega), if_pos (by omega), rdB hg, hjn, Option.bind_some]
    refine congrArg _ (funext fun b => ?_)
    rw [if_pos (show w.length < 2932031007402 by omega)]
theorem tree_loop (x0 : List Rw) (hx : ∀ x ∈ x0, HRaw.OkRaw x) (d : Nat) : ∀ (i : Nat) (t : List It), i + d = 14 → TreeOk t → ∃ R, Ev (fun k => collatorlaw02_Tree.l0 k x0 t (i : Int)) R ∧ TreeOk R := by
  have stop : ∀ (i : Nat) (t : List It), TreeOk t → ∃ R, Ev (fun k => collatorlaw02_Tree.j1 k x0 t (i : Int) false) R ∧ TreeOk R := fun i t ht => by
    refine ⟨t, Ev.step (f := fun _ => some t) (fun k => ?_) (Ev.now _), ht⟩
    simp only [collatorlaw02_Tree.j1]
    rw [if_neg (by decide)]
  induction d with
  | zero =>
    intro i t hi ht
    obtain ⟨R, h1, h2⟩ := stop i t ht
    refine ⟨R, Ev.step (fun k => ?_) h1, h2⟩
    simp only [collatorlaw02_Tree.l0]
    rw [decide_eq_false (by omega : ¬ (i : Int) < 14), ite_self]
  | succ d ih =>
    intro i t hi ht
    by_cases c : i < x0.length
    · have hg : x0[i]? = some x0[i] := List.getElem?_eq_getElem c
      obtain ⟨P, kd, dt, bd, hI, hG, hs, hd, _, _⟩ := item_ev x0[i] (hx _ (List.getElem_mem c))
      have hp := rparts_ev P (by omega)
      rw [if_pos (hG.chk (by omega))] at hp
      have hl : (pieces P).length = (parts (tl P)).length := List.length_map ..
      have hle := hG.le
      have hne : (parts (tl P)).length ≠ 0 := fun h => hG.ne (List.eq_nil_of_length_eq_zero h)
      have htl := ht.len
      obtain ⟨R, h1, h2⟩ := with_loop x0 t ht P kd dt hs hd (by omega) i (fun T hT => by rw [wi (by omega)]; exact ih (i + 1) T (by omega) hT) ((pieces P).length - 1) 0 t (⟨#[]⟩ : ByteArray) (by omega) (by omega) ht.size (by decide)
      refine ⟨R, Ev.step (f := fun k => collatorlaw02_Tree.j1 k x0 t (i : Int) true) (fun k => ?_) (Ev.step (f := fun k => (collatorlaw02_Item.f k x0[i].f0 x0[i].f1 x0[i].f2 x0[i].f3).bind fun bt314 => ((collatorref01_Parts.f k bt314.1).bind fun t319 => collatorlaw02_Tree.l1 k x0 t (i : Int) t319 t (⟨#[]⟩ : ByteArray) 0 bt314.1 bt314.2.1 bt314.2.2.1 false)) (fun k => ?_) (Ev.bind hI (Ev.bind hp h1))), h2⟩
      · simp only [collatorlaw02_Tree.l0]
        rw [if_pos (by omega), decide_eq_true (by omega : (i : Int) < 14)]
      · simp only [collatorlaw02_Tree.j1]
        rw [if_true, if_pos (by omega), if_pos (by omega), rdRw hg]
        refine congrArg _ (funext fun b => ?_)
        refine congrArg _ (funext fun q => ?_)
        rw [if_pos (show ([] : List It).length + t.length < 2932031007402 by rw [List.length_nil]; omega), List.nil_append]
    · obtain ⟨R, h1, h2⟩ := stop i t ht
      refine ⟨R, Ev.step (fun k => ?_) h1, h2⟩
      simp only [collatorlaw02_Tree.l0]
      rw [if_neg (by omega)]
theorem tree_ev (x0 : List Rw) (hx : ∀ x ∈ x0, HRaw.OkRaw x) : ∃ R, Ev (fun k => collatorlaw02_Tree.f k x0) R ∧ TreeOk R := tree_loop x0 hx 14 0 [] rfl TreeOk.nil
end Go.Proofs.Ytcgnkbdfoaiaiaa.Q
end
section
/- Pairs, plain: what the document's Same answers, awake, and how pairs hang on the threshold. -/
set_option linter.unusedVariables false
set_option linter.unusedSimpArgs false
namespace Go.Proofs.Ytcgnkbdfoaiaiaa.Q
open Go Go.RowKit Go.Proofs.Ytcgnkbdfoaiaiaa.P Go.Proofs.YtcgnkbdfoaiaiaaW.PrintWords Go.Proofs.YtcgnkbdfoaiaiaaW.PrintLast Go.Proofs.YtcgnkbdfoaiaiaaW.PrintMore
theorem rdPr {s : List PrS} {i : Nat} {x : PrS} (h : s[i]? = some x) : rd_T35 s (i : Int) = x := by
  unfold rd_T35
  rw [Int.toNat_natCast, List.getD_eq_getElem?_getD, h]; rfl
theorem pick8 {c : Int} (hc : -9223372036854775808 ≤ c ∧ c ≤ 9223372036854775807) {m : Int} {n : Nat} (hm : m = n) (hn : 0 < n) : collatorlaw08_pick.f c m = some (pk c n : Int) := pick2 hc hm hn
theorem same_loop (l : List PrS) (hl : l.length ≤ 1000000) (d : Nat) : ∀ i : Nat, i + d = l.length → Ev (fun k => collatorref08_Same.l0 k l l (i : Int)) true := by
  induction d with
  | zero =>
    intro i hi
    refine Ev.step (f := fun _ => some true) (fun k => ?_) (Ev.now _)
    simp only [collatorref08_Same.l0]
    rw [if_neg (by omega)]
  | succ d ih =>
    intro i hi
    refine Ev.step (fun k => ?_) (ih (i + 1) (by omega))
    simp only [collatorref08_Same.l0]
    rw [if_pos (by omega), if_pos (by omega), if_pos (by omega), if_neg (by simp), wi (by omega)]
theorem same_ev (l : List PrS) (hl : l.length ≤ 1000000) : Ev (fun k => collatorref08_Same.f k l l) true := by
  unfold collatorref08_Same.f
  exact evpos rfl (same_loop l hl l.length 0 (by omega))
theorem merge_sorted {c : PrS → PrS → Int} (hc : CmpOk c) (l : List PrS) : (l.mergeSort (fun x y => decide (c x y ≤ 0))).Pairwise (fun x y => c x y ≤ 0) := by
  have := List.pairwise_mergeSort (le := fun x y => decide (c x y ≤ 0)) (fun x y z h1 h2 => by
    simp only [decide_eq_true_eq] at *
    exact (hc.tr x y z h1 h2).1) (fun x y => by
    have := hc.neg x y
    by_cases h : c x y ≤ 0
    · simp [h]
    · have : c y x ≤ 0 := by omega
      simp [this]) l
  exact this.imp (fun h => by simpa using h)
theorem sort_filter {c : PrS → PrS → Int} (hc : CmpOk c) (h0 : ∀ x y, c x y = 0 → x = y) (l : List PrS) (p : PrS → Bool) : (l.mergeSort (fun x y => decide (c x y ≤ 0))).filter p = (l.filter p).mergeSort (fun x y => decide (c x y ≤ 0)) :=
  sort_uniq hc h0 ((List.mergeSort_perm l _).filter p) ((merge_sorted hc l).filter p)
theorem sort_same {c : PrS → PrS → Int} (hc : CmpOk c) (h0 : ∀ x y, c x y = 0 → x = y) {l : List PrS} (hs : l.Pairwise (fun x y => c x y ≤ 0)) : l.mergeSort (fun x y => decide (c x y ≤ 0)) = l := (sort_uniq hc h0 (List.Perm.refl l) hs).symm
/-- Lists of the same elements are sorted alike. -/
theorem sort_perm {c : PrS → PrS → Int} (hc : CmpOk c) (h0 : ∀ x y, c x y = 0 → x = y) {l l' : List PrS} (h : l.Perm l') : l.mergeSort (fun x y => decide (c x y ≤ 0)) = l'.mergeSort (fun x y => decide (c x y ≤ 0)) :=
  sort_uniq hc h0 ((List.mergeSort_perm l _).trans h) (merge_sorted hc l)
theorem cB_score {x y : PrS} (h : cB x y ≤ 0) : y.f2 ≤ x.f2 := by
  refine Int.not_lt.1 (fun c => ?_)
  have e : ci y.f2 x.f2 = 1 := by unfold ci; rw [if_neg (by omega), if_pos c]
  unfold cB or3 at h
  rw [e, if_pos (by decide)] at h
  omega
theorem split_sorted (u : Int) : ∀ {l : List PrS}, l.Pairwise (fun x y => cB x y ≤ 0) → l = l.filter (fun x => decide (u ≤ x.f2)) ++ l.filter (fun x => !decide (u ≤ x.f2))
  | [], _ => rfl
  | x :: l, h => by
    obtain ⟨h1, h2⟩ := List.pairwise_cons.1 h
    by_cases c : u ≤ x.f2
    · rw [List.filter_cons_of_pos (by simpa using c), List.filter_cons_of_neg (by simpa using c), List.cons_append, ← split_sorted u h2]
    · have e1 : l.filter (fun x => decide (u ≤ x.f2)) = [] := List.filter_eq_nil_iff.2 (fun y hy => by
        have := cB_score (h1 y hy)
        simp
        omega)
      have e2 : l.filter (fun x => !decide (u ≤ x.f2)) = l := List.filter_eq_self.2 (fun y hy => by
        have := cB_score (h1 y hy)
        simp
        omega)
      rw [List.filter_cons_of_neg (by simpa using c), List.filter_cons_of_pos (by simpa using c), e1, e2, List.nil_append]
/-- What is taken behind a state: some of those that come. -/
theorem take_ext : ∀ (l : List PrS) (st : List ByteArray × List ByteArray × List PrS), ∃ C, (l.foldl take1 st).2.2 = st.2.2 ++ C ∧ (∀ x ∈ C, x ∈ l) ∧ C.length ≤ l.length
  | [], st => ⟨[], by simp, fun x hx => hx, Nat.le_refl _⟩
  | p :: l, st => by
    obtain ⟨C, h1, h2, h3⟩ := take_ext l (take1 st p)
    rw [List.foldl_cons, h1]
    unfold take1
    split
    · exact ⟨p :: C, by simp, fun x hx => by
        rcases List.mem_cons.1 hx with rfl | hx
        · exact List.mem_cons_self
        · exact List.mem_cons_of_mem _ (h2 x hx), by simp; omega⟩
    · exact ⟨C, rfl, fun x hx => List.mem_cons_of_mem _ (h2 x hx), by simp; omega⟩
theorem greedy_mem (l : List PrS) : ∀ x ∈ greedy l, x ∈ l := by
  obtain ⟨C, h1, h2, _⟩ := take_ext l ([], [], [])
  intro x hx
  unfold greedy at hx
  rw [h1, List.nil_append] at hx
  exact h2 x hx
theorem greedy_len (l : List PrS) : (greedy l).length ≤ l.length := by
  obtain ⟨C, h1, _, h3⟩ := take_ext l ([], [], [])
  unfold greedy
  rw [h1, List.nil_append]
  exact h3
theorem greedy_append (a b : List PrS) : ∃ C, greedy (a ++ b) = greedy a ++ C ∧ ∀ x ∈ C, x ∈ b := by
  unfold greedy
  rw [List.foldl_append]
  obtain ⟨C, h1, h2, _⟩ := take_ext b (a.foldl take1 ([], [], []))
  exact ⟨C, h1, h2⟩
theorem greedy_filter {l : List PrS} (u : Int) (h : l.Pairwise (fun x y => cB x y ≤ 0)) : (greedy l).filter (fun x => decide (u ≤ x.f2)) = greedy (l.filter (fun x => decide (u ≤ x.f2))) := by
  have e := split_sorted u h
  obtain ⟨C, h1, h2⟩ := greedy_append (l.filter (fun x => decide (u ≤ x.f2))) (l.filter (fun x => !decide (u ≤ x.f2)))
  rw [← e] at h1
  rw [h1, List.filter_append]
  have e1 : (greedy (l.filter (fun x => decide (u ≤ x.f2)))).filter (fun x => decide (u ≤ x.f2)) = greedy (l.filter (fun x => decide (u ≤ x.f2))) := List.filter_eq_self.2 (fun x hx => (List.mem_filter.1 (greedy_mem _ x hx)).2)
  have e2 : C.filter (fun x => decide (u ≤ x.f2)) = [] := List.filter_eq_nil_iff.2 (fun x hx => by
    have := (List.mem_filter.1 (h2 x hx)).2
    simpa using this)
  rw [e1, e2, List.append_nil]
theorem cand1_more (a : ByteArray × List ByteArray) {t u : Int} (h : t ≤ u) : ∀ l : List (ByteArray × List ByteArray), cand1 a l u = (cand1 a l t).filter (fun x => decide (u ≤ x.f2))
  | [] => rfl
  | b :: l => by
    have ih := cand1_more a h l
    unfold cand1 at ih ⊢
    rw [List.filterMap_cons, List.filterMap_cons]
    by_cases c : mx t 1 ≤ score a.2 b.2
    · rw [if_pos c]
      by_cases d : u ≤ score a.2 b.2
      · have e : mx u 1 ≤ score a.2 b.2 := by unfold mx at c ⊢; (repeat' split at c) <;> (repeat' split) <;> omega
        rw [if_pos e]
        simp only []
        rw [ih, List.filter_cons_of_pos (by simpa using d)]
      · have e : ¬ mx u 1 ≤ score a.2 b.2 := by unfold mx; (repeat' split) <;> omega
        rw [if_neg e]
        simp only []
        rw [ih, List.filter_cons_of_neg (by simpa using d)]
    · have e : ¬ mx u 1 ≤ score a.2 b.2 := by unfold mx at c ⊢; (repeat' split at c) <;> (repeat' split) <;> omega
      rw [if_neg e, if_neg c]
      exact ih
theorem candL_more (fresh : List (ByteArray × List ByteArray)) {t u : Int} (h : t ≤ u) : ∀ l : List (ByteArray × List ByteArray), candL l fresh u = (candL l fresh t).filter (fun x => decide (u ≤ x.f2))
  | [] => rfl
  | a :: l => by
    have ih := candL_more fresh h l
    unfold candL at ih ⊢
    rw [List.flatMap_cons, List.flatMap_cons, List.filter_append, cand1_more a h, ih]
/-- At a greater threshold there are those that score so much. -/
theorem pairs_more (old fresh : List It) {t u : Int} (h : t ≤ u) : pairsL old fresh u = (pairsL old fresh t).filter (fun x => decide (u ≤ x.f2)) := by
  unfold pairsL sortT
  rw [sort_filter cT_cmp (fun _ _ => cT_zero)]
  unfold sortB
  rw [greedy_filter u (merge_sorted cB_cmp _), sort_filter cB_cmp (fun _ _ => cB_zero), ← candL_more _ h]
theorem cand1_len (a : ByteArray × List ByteArray) (l : List (ByteArray × List ByteArray)) (t : Int) : (cand1 a l t).length ≤ l.length := List.length_filterMap_le _ _
theorem candL_len (fresh : List (ByteArray × List ByteArray)) (t : Int) : ∀ l : List (ByteArray × List ByteArray), (candL l fresh t).length ≤ l.length * fresh.length
  | [] => Nat.zero_le _
  | a :: l => by
    have h1 := cand1_len a fresh t
    have h2 := candL_len fresh t l
    unfold candL at h2 ⊢
    rw [List.flatMap_cons, List.length_append, List.length_cons, Nat.add_mul, Nat.one_mul]
    omega
theorem pairs_len {old fresh : List It} (t : Int) (h0 : old.length ≤ 1000) (h1 : fresh.length ≤ 1000) : (pairsL old fresh t).length ≤ 1000000 := by
  unfold pairsL sortT
  rw [List.length_mergeSort]
  refine Nat.le_trans (greedy_len _) ?_
  unfold sortB
  rw [List.length_mergeSort]
  refine Nat.le_trans (candL_len _ _ _) ?_
  exact Nat.mul_le_mul (Nat.le_trans (filesL_len _) h0) (Nat.le_trans (filesL_len _) h1)
theorem TreeOk.pairs {t : List It} (h : TreeOk t) : PairsOk t := ⟨by have := h.len; omega, fun x hx => by have := h.size x hx; omega⟩
theorem pairs_f {a b : List It} (ha : PairsOk a) (hb : PairsOk b) (t : Int) : rename_Pairs.f a b t = some (pairsL a b t) := by
  unfold rename_Pairs.f
  rw [if_pos ⟨ha, hb⟩]
/-! ### awake -/
def A8 : List It := [(⟨(⟨#[97]⟩ : ByteArray), 2, (⟨#[120, 10, 121, 10]⟩ : ByteArray), false⟩ : It), (⟨(⟨#[98]⟩ : ByteArray), 2, (⟨#[120, 10]⟩ : ByteArray), false⟩ : It)]
def F8 : List It := [(⟨(⟨#[99]⟩ : ByteArray), 2, (⟨#[120, 10, 121, 10]⟩ : ByteArray), false⟩ : It)]
def P8 : PrS := ⟨(⟨#[97]⟩ : ByteArray), (⟨#[99]⟩ : ByteArray), 100⟩
def Q8 : PrS := ⟨(⟨#[98]⟩ : ByteArray), (⟨#[99]⟩ : ByteArray), 66⟩
theorem cand50 : candL (filesL A8) (filesL F8) 50 = [P8, Q8] := by kernel_rfl
theorem cand101 : candL (filesL A8) (filesL F8) 101 = [] := by kernel_rfl
theorem pairs50 : pairsL A8 F8 50 = [P8] := by
  unfold pairsL
  rw [cand50]
  have e1 : sortB [P8, Q8] = [P8, Q8] := sort_same cB_cmp (fun _ _ => cB_zero) (by decide +kernel)
  have e2 : greedy [P8, Q8] = [P8] := by kernel_rfl
  rw [e1, e2]
  exact sort_same cT_cmp (fun _ _ => cT_zero) (List.pairwise_singleton _ _)
theorem pairs_none {a b : List It} {t : Int} (h : candL (filesL a) (filesL b) t = []) : pairsL a b t = [] := by
  unfold pairsL sortB sortT
  have e : greedy [] = [] := rfl
  rw [h, List.mergeSort_nil, e, List.mergeSort_nil]
theorem awake8_ev : Ev (fun k => collatorlaw08_awake.f k) true := by
  unfold collatorlaw08_awake.f
  have o1 : PairsOk A8 := by decide +kernel
  have o2 : PairsOk F8 := by decide +kernel
  have o3 : PairsOk [] := by decide +kernel
  have h1 : rename_Pairs.f A8 F8 50 = some [P8] := (pairs_f o1 o2 50).trans (by rw [pairs50])
  have h2 : rename_Pairs.f A8 F8 101 = some [] := (pairs_f o1 o2 101).trans (by rw [pairs_none cand101])
  have h3 : rename_Pairs.f [] F8 0 = some [] := (pairs_f o3 o2 0).trans (by rw [pairs_none (by kernel_rfl)])
  exact evval rfl (evval rfl (evval h1 (Ev.bind (same_ev [P8] (by decide)) (evpos rfl (evval h2 (evpos rfl (evval h3 (Ev.now _))))))))
end Go.Proofs.Ytcgnkbdfoaiaiaa.Q
end
section
/- RenameMore: at a greater threshold there are those pairs that score so much, and no others. -/
set_option linter.unusedVariables false
set_option linter.unusedSimpArgs false
namespace Go.Proofs.Ytcgnkbdfoaiaiaa.Pure
open Go Go.RowKit Go.Proofs.Ytcgnkbdfoaiaiaa.P Go.Proofs.YtcgnkbdfoaiaiaaW.PrintWords Go.Proofs.YtcgnkbdfoaiaiaaW.PrintLast Go.Proofs.YtcgnkbdfoaiaiaaW.PrintMore Go.Proofs.Ytcgnkbdfoaiaiaa.Q
theorem more_loop (a b : List It) (u : Int) (L W : List PrS) (hL : L.length ≤ 1000000) (hW : W.length ≤ 1000000) (hu : rename_Pairs.f a b u = some W) (d : Nat) : ∀ (i : Nat) (acc : List PrS), i + d = L.length → acc.length ≤ i →
    acc ++ (L.drop i).filter (fun x => decide (u ≤ x.f2)) = W → Ev (fun k => collatorlaw08_RenameMore.l0 k true a b u L acc (i : Int)) true := by
  induction d with
  | zero =>
    intro i acc hi ha h
    rw [List.drop_eq_nil_of_le (by omega)] at h
    have e : acc = W := by simpa using h
    subst e
    refine Ev.step (f := fun k => (rename_Pairs.f a b u).bind fun t411 => ((collatorref08_Same.f k t411 acc).bind fun t414 => (some t414))) (fun k => ?_) (evval hu (Ev.bind (same_ev acc hW) (Ev.now _)))
    simp only [collatorlaw08_RenameMore.l0]
    rw [if_neg (by omega), if_true]
  | succ d ih =>
    intro i acc hi ha h
    have hlt : i < L.length := by omega
    have hg : L[i]? = some L[i] := List.getElem?_eq_getElem hlt
    rw [List.drop_eq_getElem_cons hlt] at h
    by_cases c : u ≤ L[i].f2
    · rw [List.filter_cons_of_pos (by simpa using c)] at h
      refine Ev.step (fun k => ?_) (ih (i + 1) (acc ++ [L[i]]) (by omega) (by rw [List.length_append, List.length_singleton]; omega) (by rw [List.append_assoc]; exact h))
      simp only [collatorlaw08_RenameMore.l0]
      rw [if_pos (by omega), if_pos (by omega), rdPr hg, if_pos (by omega), if_pos (by omega), wi (by omega)]
    · rw [List.filter_cons_of_neg (by simpa using c)] at h
      refine Ev.step (fun k => ?_) (ih (i + 1) acc (by omega) (by omega) h)
      simp only [collatorlaw08_RenameMore.l0]
      rw [if_pos (by omega), if_pos (by omega), rdPr hg, if_neg (by omega), wi (by omega)]
theorem RenameMore : collatorlaw08_RenameMore.Pure := by
  intro l0 l1 a2 a3 _ _ h0 _ _ h1 h2 h3
  refine Ev.rounds ?_
  obtain ⟨a, hA, oA⟩ := tree_ev l0 h0
  obtain ⟨b, hB, oB⟩ := tree_ev l1 h1
  have k2 := pick8 (wf_range h2) (m := 101) (n := 101) rfl (by decide)
  have k3 := pick8 (wf_range h3) (m := 60) (n := 60) rfl (by decide)
  have z2 := pk_lt a2 (n := 101) (by decide)
  have z3 := pk_lt a3 (n := 60) (by decide)
  have la := oA.len
  have lb := oB.len
  have ew : wrap64 (((pk a2 101 : Nat) : Int) + ((pk a3 60 : Nat) : Int)) = ((pk a2 101 : Nat) : Int) + ((pk a3 60 : Nat) : Int) := w64 (by omega) (by omega)
  unfold collatorlaw08_RenameMore.f
  refine Ev.bind awake8_ev (Ev.bind hA (Ev.bind hB (evval k2 (evval k3 (evval (pairs_f oA.pairs oB.pairs _) ?_)))))
  rw [ew]
  refine more_loop a b _ (pairsL a b _) (pairsL a b _) (pairs_len _ (by omega) (by omega)) (pairs_len _ (by omega) (by omega)) (pairs_f oA.pairs oB.pairs _) _ 0 [] (Nat.zero_add _) (Nat.le_refl _) ?_
  rw [List.nil_append, List.drop_zero]
  exact (pairs_more a b (by omega)).symm
end Go.Proofs.Ytcgnkbdfoaiaiaa.Pure
end
