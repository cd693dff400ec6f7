/- slices.Insert at []api.Edit: three cells an element (turned from the kit's walk at one cell). -/
import Derived.WalkMore
import Derived.IntWalk
import Derived.Laws.IdiomCopy
import Derived.Deep.Upon
import Derived.Deep.AppendLies
import Derived.Shelf.Spec.SlicesInsertGrow
import Derived.Test.YtgobidmfbjmpkaaPx0
set_option linter.unusedVariables false
set_option linter.unusedSimpArgs false
namespace Go.Proofs.Ytgobidmfbjmpkaa.P
open Go Go.RowKit Go.Proofs.YtgobidmfbjmpkaaW.PrintWords Go.Proofs.YtgobidmfbjmpkaaW.PrintLast Go.Proofs.YtgobidmfbjmpkaaW.PrintMore
theorem run_copy_three {P : Program} (w : World) (dT sT ty elem : TypeId) (b o dLen dCap : Nat) (a : Addr) (sLen sCap n : Nat) (cs : List Value)
  (hu : P.underlying dT = some (.slice elem)) (hs : (P.info? elem).map (·.size) = some 3) (hn : Nat.min sLen dLen = n) (hl : cs.length = n * 3)
  (hsrc : ∀ j v, cs[j]? = some v → w.cell? (a.add j) = some v) (hc : ∀ j, j < cs.length → (w.cell? ⟨b, o + j, none⟩).isSome = true) (hf : ∀ j, j < cs.length → w.frozen? ⟨b, o + j, none⟩ = false) (h1 : ∀ v ∈ cs, v.oneCell' = true) :
  (Builtin.copy_ #[dT, sT] ty #[.slice (some ⟨b, o, none⟩) dLen dCap, .slice (some a) sLen sCap]).run P w = .ok (goInt n) (w.setCells b o cs) := by
 have hld := run_loadCells_list (P := P) w a cs hsrc
 have hst := run_storeCells_cells (P := P) b o cs 0 w (by simpa using hc) (by simpa using hf) h1
 rw [hl] at hld
 cases hq : P.info? elem with
 | none => simp [hq] at hs
 | some i =>
  have hi : i.size = 3 := by simpa [hq] using hs
  simp [Builtin.copy_, run_underlying hu, Builtin.lenOf, Builtin.firstCells, sizeOf, typeInfo, hq, hi, hn, hld, hst]
set_option maxHeartbeats 4000000 in
set_option maxRecDepth 100000 in
theorem insert_shift (b n c i vb vc : Nat) (cs vs : List Value) (w : World) (hi : i < n) (hroom : n + 1 ≤ c) (hc63 : c ≤ 9223372036854775807) (hvb : vb ≠ b)
  (hcl : cs.length = n * 3) (hvl : vs.length = 3)
  (hcs : ∀ j v, cs[j]? = some v → w.cell? ⟨b, j, none⟩ = some v) (hsp : ∀ j, j < (n + 1) * 3 → (w.cell? ⟨b, j, none⟩).isSome = true) (hfz : ∀ j, j < (n + 1) * 3 → w.frozen? ⟨b, j, none⟩ = false)
  (hvs : ∀ j v, vs[j]? = some v → w.cell? ⟨vb, j, none⟩ = some v) (h1c : ∀ v ∈ cs, v.oneCell' = true) (h1v : ∀ v ∈ vs, v.oneCell' = true)
  (tA tB : TypeId) (kA kB : Nat) (hsa : w.shape? vb = some (tA, kA)) (hsb : w.shape? b = some (tB, kB)) (hkB : kB ≠ 0) (hfa : w.frozen? ⟨vb, 0, none⟩ = false) (hfe : w.frozen? ⟨vb, kA, none⟩ = false) :
  Calls Try.prog 53 #[.slice (some ⟨b, 0, none⟩) n c, .int .i64 i, .slice (some ⟨vb, 0, none⟩) 1 vc] w fun e w' =>
   e = .returned (.slice (some ⟨b, 0, none⟩) (n + 1) c) ∧ w' = (w.drew.setCells b ((i + 1) * 3) (cs.drop (i * 3))).setCells b (i * 3) vs := by
 have u26 : Try.prog.underlying 26 = some (.slice 31) := by kernel_rfl
 have hsz : (Try.prog.info? 31).map (·.size) = some 3 := by kernel_rfl
 have hw1 : wrap64 ((n : Int) + 1) = (n : Int) + 1 := by unfold wrap64; omega
 have hw2 : wrap64 ((i : Int) + 1) = (i : Int) + 1 := by unfold wrap64; omega
 have hz2 : ¬ ((i : Int) = (n : Int)) := by omega
 have hz31 : ∀ w, (Go.sizeOf 31).run Try.prog w = .ok 3 w := fun w => by
  cases hq : Try.prog.info? 31 with
  | none => simp [hq] at hsz
  | some i0 =>
   have hi0 : i0.size = 3 := by simpa [hq] using hsz
   simp [sizeOf, typeInfo, hq, hi0]
 have hov : ∀ lb cb, (callFunc 62 #[.slice (some ⟨vb, 0, none⟩) 1 vc, .slice (some ⟨b, (i + 1) * 3, none⟩) lb cb]).run Try.prog w = .ok (.value (.bool false)) w := fun lb cb => by
  rw [run_callFunc_extern Try.func62 (by kernel_rfl) (by kernel_rfl) (by kernel_rfl) (e := Extern.SlicesOverlaps.overlaps #[26, 26] #[4]) (by kernel_rfl),
   Lib.run_overlaps_apart w 26 4 31 u26 3 hz31 ⟨vb, 0, none⟩ ⟨b, (i + 1) * 3, none⟩ 1 vc lb cb hvb tA tB kA kB hsa hsb hkB hfa hfe]
  rfl
 have hdl : (cs.drop (i * 3)).length = (n - i) * 3 := by rw [List.length_drop, hcl]; omega
 have hcp1 : ∀ ty dc sc, (Builtin.copy_ #[26, 26] ty #[.slice (some ⟨b, (i + 1) * 3, none⟩) (n - i) dc, .slice (some ⟨b, i * 3, none⟩) (n + 1 - i) sc]).run Try.prog w.drew = .ok (goInt ((n - i : Nat) : Int)) (w.drew.setCells b ((i + 1) * 3) (cs.drop (i * 3))) := fun ty dc sc =>
  run_copy_three w.drew 26 26 ty 31 b ((i + 1) * 3) (n - i) dc ⟨b, i * 3, none⟩ (n + 1 - i) sc (n - i) (cs.drop (i * 3)) u26 hsz (by simp only [Nat.min_def]; split <;> omega) hdl
   (fun j v hj => by rw [Addr.add_lit]; exact hcs (i * 3 + j) v (by rwa [List.getElem?_drop] at hj))
   (fun j hj => hsp _ (by omega)) (fun j hj => hfz _ (by omega)) (fun v hv => h1c v (List.mem_of_mem_drop hv))
 obtain ⟨W1, hW1⟩ : ∃ W1, W1 = w.drew.setCells b ((i + 1) * 3) (cs.drop (i * 3)) := ⟨_, rfl⟩
 have hsp1 : ∀ k, k < (n + 1) * 3 → (W1.cell? ⟨b, k, none⟩).isSome = true := fun k hk => by
  rw [hW1]
  exact isSome_setCells b (cs.drop (i * 3)) ((i + 1) * 3) w.drew (fun j hj => hsp _ (by omega)) _ (hsp k hk)
 have hcp2 : ∀ (W : World), (∀ x, W.cell? x = W1.cell? x) → (∀ x, W.frozen? x = W1.frozen? x) → ∀ ty dc, (Builtin.copy_ #[26, 26] ty #[.slice (some ⟨b, i * 3, none⟩) (n + 1 - i) dc, .slice (some ⟨vb, 0, none⟩) 1 vc]).run Try.prog W = .ok (goInt ((1 : Nat) : Int)) (W.setCells b (i * 3) vs) := fun W hWc hWf ty dc =>
  run_copy_three W 26 26 ty 31 b (i * 3) (n + 1 - i) dc ⟨vb, 0, none⟩ 1 vc 1 vs u26 hsz (by simp only [Nat.min_def]; split <;> omega) hvl
   (fun j v hj => by
    rw [Addr.add_lit, hWc, hW1, World.cell?_setCells_out b _ _ _ _ (fun h _ => absurd h hvb), Nat.zero_add]
    exact hvs j v hj)
   (fun j hj => by rw [hWc]; exact hsp1 _ (by omega)) (fun j hj => by rw [hWf, hW1, World.frozen?_setCells]; exact hfz _ (by omega)) h1v
 rw [← hW1] at hcp1
 have mixed : Try.prog.follows Departure.mixedOrders = true := by kernel_rfl
 have hw3 : IntKind.i64.wrap ((i : Int) + 1) = (i : Int) + 1 := by rw [IntKind.wrap_i64]; omega
 have hb1 : (0 : Int) ≤ (i : Int) + 1 := by omega
 have hin : i ≤ n := by omega
 have htn : ((i : Int) + 1).toNat = i + 1 := by omega
 have hb2 : ¬ (c = i + 1) := by omega
 have hb3 : (i : Int) ≤ (n : Int) + 1 := by omega
 have hb4 : ¬ (c = i) := by omega
 have hb5 : (i : Int) + 1 ≤ (n : Int) + 1 := by omega
 have hb6 : n + 1 - (i + 1) = n - i := by omega
 go_enter Try.func53, Try.ntmps53
 go_wp2_with (simp only [hov])
 go_region_law_o (refine step_copy_runI rfl _ _ 26 26 rfl _ _ (by simp [Act.eval, Act.put]) (by simp [Act.eval, Act.put]) (hcp1 _ _ _) ?_)
 go_wp2_with (at_builtin; refine wpList_copy_runI _ rfl _ _ 26 26 rfl _ _ rfl rfl (hcp2 _ (fun _ => rfl) (fun _ => rfl) _ _) ?_)
 go_ret
 first | exact ⟨rfl, rfl⟩ | exact ⟨rfl, by rw [hW1]⟩
set_option maxHeartbeats 4000000 in
set_option maxRecDepth 100000 in
theorem insert_end (base n vb vc : Nat) (v : Value) (xs vs : List Value) (w : World) (hown : w.ownsRow base 31 3 v n xs) (hb : base ≤ w.heap.size) (hn : n ≤ 1000000000)
  (hvl : vs.length = 3) (hvs : ∀ j u, vs[j]? = some u → w.cell? ⟨vb, j, none⟩ = some u) (h1v : ∀ v ∈ vs, v.oneCell' = true) :
  Calls Try.prog 53 #[v, .int .i64 n, .slice (some ⟨vb, 0, none⟩) 1 vc] w fun e w' =>
   ∃ v', e = .returned v' ∧ w'.ownsRow base 31 3 v' (n + 1) (xs ++ vs) ∧ w.grownBy w' v.ownBlock := by
 have u26 : Try.prog.underlying 26 = some (.slice 31) := by kernel_rfl
 obtain ⟨i0, hi0, hz0, hs0, hb0⟩ : ∃ i0, Try.prog.info? 31 = some i0 ∧ i0.zero = some (.agg #[(.int .i64 0), (.int .i64 0), (.slice none 0 0)]) ∧ i0.size = 3 ∧ i0.bytes = 40 := by
  have h := info31
  cases hq : Try.prog.info? 31 with
  | none => rw [hq] at h; cases h
  | some i0 => rw [hq] at h; simp at h; exact ⟨i0, rfl, h.1, h.2.1, h.2.2⟩
 have hvs' : ∀ j u, vs[j]? = some u → w.cell? ((⟨vb, 0, none⟩ : Addr).add j) = some u := fun j u hj => by rw [Addr.add_lit, Nat.zero_add]; exact hvs j u hj
 have hml : n + 1 ≤ maxLen := by unfold maxLen; omega
 have how := Aside0.mk hown
 have hfm := hown.2
 clear hown
 rcases hfm with ⟨rfl, rfl⟩ | ⟨g, cap, cur, rfl, hg, hcur, hnc, hcm, hsz, htk⟩
 ·go_enter Try.func53, Try.ntmps53
  go_wp2_with (at_builtin; refine wpList_append_lies _ rfl _ _ 26 rfl base 31 i0 _ 3 40 u26 hi0 hz0 hs0 hb0 rfl (by omega) _ _ xs rfl how.out _ 1 _ vs rfl (by omega) hvs' h1v (by omega) hml (by omega) hb _ rfl (fun g2 cap2 w2 ho2 hg2 _ _ => ?_))
  go_ret
  exact ⟨_, rfl, ho2, hg2⟩
 ·clear hcur hsz htk
  go_enter Try.func53, Try.ntmps53
  go_wp2_with (at_builtin; refine wpList_append_lies _ rfl _ _ 26 rfl base 31 i0 _ 3 40 u26 hi0 hz0 hs0 hb0 rfl (by omega) _ _ xs rfl how.out _ 1 _ vs rfl (by omega) hvs' h1v (by omega) hml (by omega) hb _ rfl (fun g2 cap2 w2 ho2 hg2 _ _ => ?_))
  all_goals (go_ret; exact ⟨_, rfl, ho2, hg2⟩)
set_option maxHeartbeats 4000000 in
set_option maxRecDepth 100000 in
theorem insert_grow (b n c i vb vc : Nat) (cs vs : List Value) (w : World) (hi : i < n) (hnc : n ≤ c) (hroom : c < n + 1) (hbig : (n + 1) * 40 ≤ 140737488355328)
  (hcl : cs.length = n * 3) (hvl : vs.length = 3)
  (hcs : ∀ j v, cs[j]? = some v → w.cell? ⟨b, j, none⟩ = some v) (hvs : ∀ j v, vs[j]? = some v → w.cell? ⟨vb, j, none⟩ = some v) (h1c : ∀ v ∈ cs, v.oneCell' = true) (h1v : ∀ v ∈ vs, v.oneCell' = true) :
  Calls Try.prog 53 #[.slice (some ⟨b, 0, none⟩) n c, .int .i64 i, .slice (some ⟨vb, 0, none⟩) 1 vc] w fun e w' =>
   ∃ G ROW, n + 1 ≤ G ∧ G ≤ maxLen ∧ ROW.size = G * 3 ∧ (∀ j, j < i * 3 → ROW[j]? = cs[j]?) ∧ e = .returned (.slice (some ⟨w.heap.size, 0, none⟩) (n + 1) G) ∧
   w' = (((w.alloc (.cells ROW 31)).drew.setCells w.heap.size (i * 3) vs).drew).setCells w.heap.size ((i + 1) * 3) (cs.drop (i * 3)) := by
 have u26 : Try.prog.underlying 26 = some (.slice 31) := by kernel_rfl
 have u3 : Try.prog.underlying 3 = some (.int .i64) := by kernel_rfl
 have hsz : (Try.prog.info? 31).map (·.size) = some 3 := by kernel_rfl
 obtain ⟨i0, hi0, hz0, hs0, hb0⟩ : ∃ i0, Try.prog.info? 31 = some i0 ∧ i0.zero = some (.agg #[(.int .i64 0), (.int .i64 0), (.slice none 0 0)]) ∧ i0.size = 3 ∧ i0.bytes = 40 := by
  have h := info31
  cases hq : Try.prog.info? 31 with
  | none => rw [hq] at h; cases h
  | some i0 => rw [hq] at h; simp at h; exact ⟨i0, rfl, h.1, h.2.1, h.2.2⟩
 have mixed : Try.prog.follows Departure.mixedOrders = true := by kernel_rfl
 have hz2 : ¬ ((i : Int) = (n : Int)) := by omega
 have hz3 : (c : Int) < (n : Int) + 1 := by omega
 have hbw : b < w.heap.size := block_lt_of_cell (hcs 0 _ (List.getElem?_eq_getElem (by omega)))
 have hvw : vb < w.heap.size := block_lt_of_cell (hvs 0 _ (List.getElem?_eq_getElem (by omega)))
 have hkk : (n : Int) + 1 - (i : Int) = ((n + 1 - i : Nat) : Int) := by omega
 have hik : i + (n + 1 - i) = n + 1 := by omega
 have hold : (Builtin.firstCells i0.size i (.slice (some ⟨b, 0, none⟩) i c)).run Try.prog w.drew = .ok (cs.take (i * 3)).toArray w.drew := by
  rw [hs0]
  exact run_firstCells_some w.drew 3 i ⟨b, 0, none⟩ i c (cs.take (i * 3)) (by rw [List.length_take]; omega) (fun j v hj => by
   rw [Addr.add_lit, Nat.zero_add]
   rw [List.getElem?_take] at hj
   split at hj
   ·exact hcs j v hj
   ·cases hj)
 have hrz : ∀ ty, (Builtin.append_ #[26, 3] ty #[.slice (some ⟨b, 0, none⟩) i c, .int .i64 ((n : Int) + 1 - (i : Int))]).run Try.prog w =
   .ok (.slice (some ⟨w.heap.size, 0, none⟩) (n + 1) (grownCap w (n + 1) c 31)) (w.drew.alloc (.cells ((cs.take (i * 3)).toArray ++ Builtin.zeroCells (Value.agg #[(.int .i64 0), (.int .i64 0), (.slice none 0 0)]).cells (n + 1 - i) ++ Builtin.zeroCells (Value.agg #[(.int .i64 0), (.int .i64 0), (.slice none 0 0)]).cells (grownCap w (n + 1) c 31 - (n + 1))) 31)) := fun ty => by
  have h := Lib.run_append_grow_zeros w 26 3 ty 31 i0 _ .i64 .i64 u26 u3 hi0 hz0 (some ⟨b, 0, none⟩) i c (cs.take (i * 3)) hold (n + 1 - i) (by omega) (by omega) (by omega) (by omega) (by rw [hb0]; omega) (by rw [hb0, hik]; exact growslice_fits hroom hbig)
  rw [hik] at h
  rw [hkk]
  exact h
 obtain ⟨G, hG⟩ : ∃ G, G = grownCap w (n + 1) c 31 := ⟨_, rfl⟩
 obtain ⟨ROW, hROW⟩ : ∃ ROW : Array Value, ROW = (cs.take (i * 3)).toArray ++ Builtin.zeroCells (Value.agg #[(.int .i64 0), (.int .i64 0), (.slice none 0 0)]).cells (n + 1 - i) ++ Builtin.zeroCells (Value.agg #[(.int .i64 0), (.int .i64 0), (.slice none 0 0)]).cells (G - (n + 1)) := ⟨_, rfl⟩
 rw [← hG] at hrz
 rw [← hROW] at hrz
 have hGn : n + 1 ≤ G := by rw [hG]; exact grownCap_ge w _ _ _
 have hGm : G ≤ maxLen := by
  have := grownCap_le_maxLen w (n + 1) c 31 (by unfold maxLen; omega)
  rwa [← hG] at this
 have hzc : (Value.agg #[(.int .i64 0), (.int .i64 0), (.slice none 0 0)]).cells.size = 3 := by kernel_rfl
 have hRs : ROW.size = G * 3 := by
  rw [hROW, Array.size_append, Array.size_append, size_zeroCells, size_zeroCells, hzc, List.size_toArray, List.length_take]
  omega
 have hRt : ∀ j, j < i * 3 → ROW[j]? = cs[j]? := fun j hj => by
  rw [hROW, Array.append_assoc, Array.getElem?_append_left (by rw [List.size_toArray, List.length_take]; omega), List.getElem?_toArray, List.getElem?_take, if_pos hj]
 obtain ⟨W1, hW1⟩ : ∃ W1, W1 = w.drew.alloc (.cells ROW 31) := ⟨_, rfl⟩
 rw [← hW1] at hrz
 have hN : ∀ j, j < (n + 1) * 3 → (W1.cell? ⟨w.heap.size, j, none⟩).isSome = true := fun j hj => by
  rw [hW1, World.cell?_alloc_at (w := w.drew) ROW _ w.heap.size j rfl, Array.getElem?_eq_getElem (by omega)]; rfl
 have hNf : ∀ j, W1.frozen? ⟨w.heap.size, j, none⟩ = false := fun j => by rw [hW1]; exact World.frozen?_alloc_at (w := w.drew) ROW _ w.heap.size j rfl
 have hOb : ∀ j v, w.cell? ⟨b, j, none⟩ = some v → W1.cell? ⟨b, j, none⟩ = some v := fun j v h => by rw [hW1, World.cell?_alloc_past (w := w.drew) _ b j hbw]; exact h
 have hOv : ∀ j v, w.cell? ⟨vb, j, none⟩ = some v → W1.cell? ⟨vb, j, none⟩ = some v := fun j v h => by rw [hW1, World.cell?_alloc_past (w := w.drew) _ vb j hvw]; exact h
 have hcpA : ∀ (W : World), (∀ x, W.cell? x = W1.cell? x) → (∀ x, W.frozen? x = W1.frozen? x) → ∀ ty dc, (Builtin.copy_ #[26, 26] ty #[.slice (some ⟨w.heap.size, i * 3, none⟩) (n + 1 - i) dc, .slice (some ⟨vb, 0, none⟩) 1 vc]).run Try.prog W = .ok (goInt ((1 : Nat) : Int)) (W.setCells w.heap.size (i * 3) vs) := fun W hWc hWf ty dc =>
  run_copy_three W 26 26 ty 31 w.heap.size (i * 3) (n + 1 - i) dc ⟨vb, 0, none⟩ 1 vc 1 vs u26 hsz (by simp only [Nat.min_def]; split <;> omega) hvl
   (fun j v hj => by rw [Addr.add_lit, hWc, Nat.zero_add]; exact hOv _ v (hvs j v hj))
   (fun j hj => by rw [hWc]; exact hN _ (by omega)) (fun j hj => by rw [hWf]; exact hNf _) h1v
 have hGi : ¬ (G = i) := by omega
 have hGim : ¬ (G = i + 1) := by omega
 have hci : ¬ (c = i) := by omega
 have hbN : b ≠ w.heap.size := by omega
 have hdl : (cs.drop (i * 3)).length = (n - i) * 3 := by rw [List.length_drop, hcl]; omega
 have hcpB : ∀ (W : World), (∀ x, W.cell? x = (W1.setCells w.heap.size (i * 3) vs).cell? x) → (∀ x, W.frozen? x = (W1.setCells w.heap.size (i * 3) vs).frozen? x) → ∀ ty dc sc, (Builtin.copy_ #[26, 26] ty #[.slice (some ⟨w.heap.size, (i + 1) * 3, none⟩) (n - i) dc, .slice (some ⟨b, i * 3, none⟩) (n - i) sc]).run Try.prog W = .ok (goInt ((n - i : Nat) : Int)) (W.setCells w.heap.size ((i + 1) * 3) (cs.drop (i * 3))) := fun W hWc hWf ty dc sc =>
  run_copy_three W 26 26 ty 31 w.heap.size ((i + 1) * 3) (n - i) dc ⟨b, i * 3, none⟩ (n - i) sc (n - i) (cs.drop (i * 3)) u26 hsz (by simp only [Nat.min_def]; split <;> omega) hdl
   (fun j v hj => by
    rw [Addr.add_lit, hWc, World.cell?_setCells_out _ _ _ _ _ (fun h _ => absurd h hbN)]
    exact hOb _ v (hcs (i * 3 + j) v (by rwa [List.getElem?_drop] at hj)))
   (fun j hj => by rw [hWc]; exact isSome_setCells w.heap.size vs (i * 3) W1 (fun t ht => hN _ (by omega)) _ (hN _ (by omega)))
   (fun j hj => by rw [hWf, World.frozen?_setCells]; exact hNf _) (fun v hv => h1c v (List.mem_of_mem_drop hv))
 subst hW1
 have hE1 : ∀ x, ((w.alloc (.cells ROW 31)).drew).cell? x = (w.drew.alloc (.cells ROW 31)).cell? x := fun x => rfl
 have hE2 : ∀ x, ((w.alloc (.cells ROW 31)).drew).frozen? x = (w.drew.alloc (.cells ROW 31)).frozen? x := fun x => rfl
 have hF1 : ∀ x, (((w.alloc (.cells ROW 31)).drew.setCells w.heap.size (i * 3) vs).drew).cell? x = ((w.drew.alloc (.cells ROW 31)).setCells w.heap.size (i * 3) vs).cell? x := fun x => rfl
 have hF2 : ∀ x, (((w.alloc (.cells ROW 31)).drew.setCells w.heap.size (i * 3) vs).drew).frozen? x = ((w.drew.alloc (.cells ROW 31)).setCells w.heap.size (i * 3) vs).frozen? x := fun x => rfl
 have hw1 : IntKind.i64.wrap ((i : Int) + 1) = (i : Int) + 1 := by rw [IntKind.wrap_i64]; omega
 have hw2 : IntKind.i64.wrap ((n : Int) + 1) = (n : Int) + 1 := by rw [IntKind.wrap_i64]; omega
 have hw3 : IntKind.i64.wrap ((n : Int) + 1 - (i : Int)) = (n : Int) + 1 - (i : Int) := by rw [IntKind.wrap_i64]; omega
 have hb1 : (0 : Int) ≤ (i : Int) + 1 := by omega
 have hin : i ≤ n := by omega
 have htn : ((i : Int) + 1).toNat = i + 1 := by omega
 have hb3 : (i : Int) ≤ (n : Int) := by omega
 have hb5 : (i : Int) + 1 ≤ (n : Int) + 1 := by omega
 have hb6 : n + 1 - (i + 1) = n - i := by omega
 have hG63 : G ≤ 9223372036854775807 := by unfold maxLen at hGm; omega
 have HRS := Aside0.mk hRs
 have HRT := Aside0.mk hRt
 have HGM := Aside0.mk hGm
 clear hkk hik hold hROW hG hRs hRt hGm hzc
 go_enter Try.func53, Try.ntmps53
 go_wp2_with (first
  | (at_builtin; refine Lib.wpList_append_run _ rfl _ _ _ _ rfl _ _ rfl rfl _ _ (hrz _) ?_)
  | (at_builtin; refine wpList_copy_runI _ rfl _ _ 26 26 rfl _ _ rfl rfl (hcpA _ hE1 hE2 _ _) ?_)
  | (at_builtin; refine wpList_copy_runI _ rfl _ _ 26 26 rfl _ _ rfl rfl (hcpB _ (fun _ => rfl) (fun _ => rfl) _ _ _) ?_))
 go_region_law_o (refine step_copy_runI rfl _ _ 26 26 rfl (.slice (some ⟨w.heap.size, (i + 1) * 3, none⟩) (n - i) (G - (i + 1))) (.slice (some ⟨b, i * 3, none⟩) (n - i) (c - i)) (by simp [Act.eval, Act.put]) (by simp [Act.eval, Act.put]) (hcpB _ hF1 hF2 3 (G - (i + 1)) (c - i)) ?_)
 go_wp2
 go_ret
 exact ⟨G, ROW, hGn, HGM.out, HRS.out, HRT.out, rfl, rfl⟩
theorem blk_setCells {T : TypeId} (g : Nat) : ∀ (vs : List Value) (o : Nat) (w : World) (cur : Array Value), w.heap[g]? = some (.cells cur T (0, 0)) →
  ∃ cur', (w.setCells g o vs).heap[g]? = some (.cells cur' T (0, 0)) ∧ cur'.size = cur.size ∧ ∀ j, j < cur.size → cur'[j]? = if o ≤ j ∧ j < o + vs.length then vs[j - o]? else cur[j]? := by
 intro vs
 induction vs with
 | nil => intro o w cur h; exact ⟨cur, h, rfl, fun j _ => by rw [if_neg (by simp)]⟩
 | cons v vs ih =>
  intro o w cur h
  obtain ⟨cur', h1, h2, h3⟩ := ih (o + 1) (w.setCell ⟨g, o, none⟩ v) (cur.setIfInBounds o v) (blk_set h o v)
  rw [Array.size_setIfInBounds] at h2 h3
  refine ⟨cur', h1, h2, fun j hj => ?_⟩
  rw [h3 j hj]
  by_cases c1 : j = o
  ·subst c1
   rw [if_neg (by omega), if_pos (by simp), Nat.sub_self]
   simp [Array.getElem?_setIfInBounds, hj]
  ·by_cases c2 : o + 1 ≤ j ∧ j < o + 1 + vs.length
   ·rw [if_pos c2, if_pos (by simp; omega), show j - o = (j - (o + 1)) + 1 by omega, List.getElem?_cons_succ]
   ·rw [if_neg c2, if_neg (by simp; omega)]
    rw [Array.getElem?_setIfInBounds_ne (by omega)]
theorem grown_setCells (g : Nat) : ∀ (vs : List Value) (o : Nat) (w : World), w.grownBy (w.setCells g o vs) (some g) := by
 intro vs
 induction vs with
 | nil => intro o w; exact World.grownBy.refl w _
 | cons v vs ih => intro o w; exact (⟨rfl, rfl, rfl, by simp [World.setCell], fun i hi hne => World.heap_setCells_other w g o [v] hi (fun h => hne (by rw [h]))⟩ : w.grownBy (w.setCell ⟨g, o, none⟩ v) (some g)).trans (ih (o + 1) _)
/-- A list with another one put in. -/
theorem mid_get (xs vs : List Value) (k j : Nat) (hk : k ≤ xs.length) : (xs.take k ++ vs ++ xs.drop k)[j]? = if j < k then xs[j]? else if j < k + vs.length then vs[j - k]? else xs[j - vs.length]? := by
 have hl : (xs.take k).length = k := by rw [List.length_take]; omega
 by_cases c1 : j < k
 ·rw [if_pos c1, List.append_assoc, List.getElem?_append_left (by omega), List.getElem?_take, if_pos c1]
 ·rw [if_neg c1]
  by_cases c2 : j < k + vs.length
  ·rw [if_pos c2, List.append_assoc, List.getElem?_append_right (by omega), hl, List.getElem?_append_left (by omega)]
  ·rw [if_neg c2, List.getElem?_append_right (by rw [List.length_append]; omega), List.length_append, hl, List.getElem?_drop]
   congr 1
   omega
theorem insert_mid (base n i vb vc : Nat) (v : Value) (xs vs : List Value) (w : World) (hown : w.ownsRow base 31 3 v n xs) (hi : i < n) (hn : n ≤ 1000000000) (hb : base ≤ w.heap.size)
  (hvl : vs.length = 3) (hvb : w.heap[vb]? = some (.cells vs.toArray 31 (0, 0))) (hne : v.ownBlock ≠ some vb) (h1x : ∀ u ∈ xs, u.oneCell' = true) (h1v : ∀ u ∈ vs, u.oneCell' = true) :
  Calls Try.prog 53 #[v, .int .i64 i, .slice (some ⟨vb, 0, none⟩) 1 vc] w fun e w' =>
   ∃ v', e = .returned v' ∧ w'.ownsRow base 31 3 v' (n + 1) (xs.take (i * 3) ++ vs ++ xs.drop (i * 3)) ∧ w.grownBy w' v.ownBlock := by
 obtain ⟨hxl, hfm⟩ := hown
 have hvs : ∀ j u, vs[j]? = some u → w.cell? ⟨vb, j, none⟩ = some u := fun j u hj => (blk_cell hvb j).trans (by rw [List.getElem?_toArray]; exact hj)
 have hml : (xs.take (i * 3) ++ vs ++ xs.drop (i * 3)).length = (n + 1) * 3 := by simp only [List.length_append, List.length_take, List.length_drop]; omega
 rcases hfm with ⟨rfl, rfl⟩ | ⟨g, cap, cur, rfl, hg, hcur, hnc, hcm, hsz, htk⟩
 ·omega
 have hcs : ∀ j u, xs[j]? = some u → w.cell? ⟨g, j, none⟩ = some u := fun j u hj => by
  refine (blk_cell hcur j).trans ?_
  have hjl := (List.getElem?_eq_some_iff.1 hj).1
  rw [← htk, List.getElem?_take, if_pos (by omega)] at hj
  rwa [Array.getElem?_toList] at hj
 have hgv : vb ≠ g := fun h => hne (by rw [h]; rfl)
 have hgl := blk_lt hcur
 have hvl2 := blk_lt hvb
 have hcx : ∀ j, j < xs.length → cur[j]? = xs[j]? := fun j hj => by
  rw [← htk, List.getElem?_take, if_pos (by omega), Array.getElem?_toList]
 by_cases hroom : n + 1 ≤ cap
 ·refine (insert_shift g n cap i vb vc xs vs w hi hroom (by unfold maxLen at hcm; omega) hgv hxl hvl hcs (fun j hj => by rw [blk_cell hcur, Array.getElem?_eq_getElem (by omega)]; rfl) (fun j _ => blk_frozen hcur j) hvs h1x h1v
   31 31 vs.toArray.size cur.size (by simp [World.shape?, hvb]) (by simp [World.shape?, hcur]) (by omega) (blk_frozen hvb _) (blk_frozen hvb _)).mono ?_
  rintro e w' ⟨rfl, rfl⟩
  obtain ⟨c1, h1, s1, g1⟩ := blk_setCells (w := w.drew) g (xs.drop (i * 3)) ((i + 1) * 3) cur hcur
  obtain ⟨c2, h2, s2, g2⟩ := blk_setCells g vs (i * 3) _ c1 h1
  refine ⟨_, rfl, ⟨hml, .inr ⟨g, cap, c2, rfl, hg, h2, hroom, hcm, by omega, ?_⟩⟩, ?_⟩
  ·refine List.ext_getElem? fun j => ?_
   rw [mid_get _ _ _ _ (by omega), List.getElem?_take]
   by_cases hj : j < (n + 1) * 3
   ·rw [if_pos hj, Array.getElem?_toList, g2 j (by omega), g1 j (by omega)]
    simp only [List.length_drop, List.getElem?_drop]
    by_cases k1 : j < i * 3
    ·rw [if_neg (by omega), if_neg (by omega), if_pos k1, hcx j (by omega)]
    ·rw [if_neg k1]
     by_cases k2 : j < i * 3 + vs.length
     ·rw [if_pos (by omega), if_pos k2]
     ·rw [if_neg (by omega), if_neg k2, if_pos (by omega)]
      congr 1
      omega
   ·rw [if_neg hj, if_neg (by omega), if_neg (by omega), List.getElem?_eq_none (by omega)]
  ·exact ((⟨rfl, rfl, rfl, Nat.le_refl _, fun _ _ _ => rfl⟩ : w.grownBy w.drew (some g)).trans (grown_setCells g _ _ _)).trans (grown_setCells g _ _ _)
 ·refine (insert_grow g n cap i vb vc xs vs w hi hnc (by omega) (by omega) hxl hvl hcs hvs h1x h1v).mono ?_
  rintro e w' ⟨G, ROW, hGn, hGm, hRs, hRt, rfl, rfl⟩
  have h0 : (w.alloc (.cells ROW 31)).drew.heap[w.heap.size]? = some (.cells ROW 31 (0, 0)) := heap_alloc_new w _
  obtain ⟨c1, h1, s1, g1⟩ := blk_setCells w.heap.size vs (i * 3) _ ROW h0
  have h1' : ((w.alloc (.cells ROW 31)).drew.setCells w.heap.size (i * 3) vs).drew.heap[w.heap.size]? = some (.cells c1 31 (0, 0)) := h1
  obtain ⟨c2, h2, s2, g2⟩ := blk_setCells w.heap.size (xs.drop (i * 3)) ((i + 1) * 3) _ c1 h1'
  refine ⟨_, rfl, ⟨hml, .inr ⟨w.heap.size, G, c2, rfl, hb, h2, hGn, hGm, by omega, ?_⟩⟩, ?_⟩
  ·refine List.ext_getElem? fun j => ?_
   rw [mid_get _ _ _ _ (by omega), List.getElem?_take]
   by_cases hj : j < (n + 1) * 3
   ·rw [if_pos hj, Array.getElem?_toList, g2 j (by omega), g1 j (by omega)]
    simp only [List.length_drop, List.getElem?_drop]
    by_cases k1 : j < i * 3
    ·rw [if_neg (by omega), if_neg (by omega), if_pos k1, hRt j k1]
    ·rw [if_neg k1]
     by_cases k2 : j < i * 3 + vs.length
     ·rw [if_neg (by omega), if_pos (by omega), if_pos k2]
     ·rw [if_pos (by omega), if_neg k2]
      congr 1
      omega
   ·rw [if_neg hj, if_neg (by omega), if_neg (by omega), List.getElem?_eq_none (by omega)]
  ·have z0 := World.grownBy_alloc w (.cells ROW 31) (some g)
   have z1 : w.grownBy (w.alloc (.cells ROW 31)).drew (some g) := ⟨z0.os, z0.tape, z0.output, z0.size, z0.block⟩
   have zz : ∀ (o : Nat) (us : List Value) (W : World), w.grownBy W (some g) → w.grownBy (W.setCells w.heap.size o us) (some g) := fun o us W h => ⟨(World.os_setCells W w.heap.size o us).trans h.os, (grown_setCells w.heap.size us o W).tape.trans h.tape, (World.output_setCells W w.heap.size o us).trans h.output, Nat.le_trans h.size (grown_setCells w.heap.size us o W).size, fun i hi hne => (World.heap_setCells_other W _ o us (Nat.lt_of_lt_of_le hi h.size) (by omega)).trans (h.block i hi hne)⟩
   exact zz _ _ _ (by have := zz (i * 3) vs _ z1; exact ⟨this.os, this.tape, this.output, this.size, this.block⟩)
end Go.Proofs.Ytgobidmfbjmpkaa.P
