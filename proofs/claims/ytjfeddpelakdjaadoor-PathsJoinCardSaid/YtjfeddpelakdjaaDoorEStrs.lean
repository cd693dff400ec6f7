/- What Go's library answers of texts (Split at one byte, IndexByte, LastIndex at one byte, HasPrefix; Compare of numbers): the shelf's contracts as functions of this claim. -/
import Derived.Test.YtjfeddpelakdjaaDoorPx0
import Derived.Test.YtjfeddpelakdjaaDoorEShelf
set_option linter.unusedVariables false
set_option linter.unusedSimpArgs false
namespace Go.Proofs.YtjfeddpelakdjaaDoor.P
open Go Go.RowKit Go.Proofs.YtjfeddpelakdjaaDoorW.PrintWords Go.Proofs.YtjfeddpelakdjaaDoorW.PrintLast Go.Proofs.YtjfeddpelakdjaaDoorW.PrintMore

theorem Drawn0_refl (w : World) : Drawn0 w w := ⟨0, rfl⟩
def strings_IndexByte.f (s : ByteArray) (c : Int) : Option Int := some (Lib.indexByte s.data.toList c.toNat.toUInt8)
theorem strings_IndexByte.calls (a0 : ByteArray) (a1 : Int) (r : Int) (w : World) (h : strings_IndexByte.f a0 a1 = some r) :
    Calls Tryd.prog 37 #[.string a0, .int .u8 a1] w fun e w' => e = .returned (.int .i64 r) ∧ Drawn0 w w' := by
  obtain rfl := Option.some.inj h
  refine (Tryd.strings_IndexByte a0 a1 w).mono ?_
  rintro e w' ⟨rfl, rfl⟩
  exact ⟨rfl, Drawn0_refl _⟩
def strings_HasPrefix.f (s p : ByteArray) : Option Bool := some (Lib.hasPrefix s.data.toList p.data.toList)
theorem strings_HasPrefix.calls (a0 : ByteArray) (a1 : ByteArray) (r : Bool) (w : World) (h : strings_HasPrefix.f a0 a1 = some r) :
    Calls Tryd.prog 35 #[.string a0, .string a1] w fun e w' => e = .returned (.bool r) ∧ Drawn0 w w' := by
  obtain rfl := Option.some.inj h
  refine (Tryd.strings_HasPrefix a0 a1 w).mono ?_
  rintro e w' ⟨rfl, rfl⟩
  exact ⟨rfl, Drawn0_refl _⟩
def cmp_Compare_int.f (x y : Int) : Option Int := some (Lib.compareInt x y)
theorem cmp_Compare_int.calls (a0 : Int) (a1 : Int) (r : Int) (w : World) (h : cmp_Compare_int.f a0 a1 = some r) :
    Calls Tryd.prog 33 #[.int .i64 a0, .int .i64 a1] w fun e w' => e = .returned (.int .i64 r) ∧ Drawn0 w w' := by
  obtain rfl := Option.some.inj h
  refine (Tryd.cmp_Compare_int a0 a1 w).mono ?_
  rintro e w' ⟨rfl, rfl⟩
  exact ⟨rfl, Drawn0_refl _⟩
def strings_LastIndex.f (s sub : ByteArray) : Option Int := if h : sub.size = 1 then (if s.size < 4611686018427387904 then some (Lib.lastIndexByte s ((sub[0]'(by omega)).toNat : Int)) else none) else none
theorem strings_LastIndex.calls (a0 : ByteArray) (a1 : ByteArray) (r : Int) (w : World) (h : strings_LastIndex.f a0 a1 = some r) :
    Calls Tryd.prog 38 #[.string a0, .string a1] w fun e w' => e = .returned (.int .i64 r) ∧ Drawn0 w w' := by
  unfold strings_LastIndex.f at h
  split at h
  · rename_i h1
    split at h
    · rename_i h2
      obtain rfl := Option.some.inj h
      refine (Tryd.strings_LastIndex_one a0 a1 h1 h2 w).mono ?_
      rintro e w' ⟨rfl, rfl⟩
      exact ⟨rfl, Drawn0_refl _⟩
    · cases h
  · cases h
def strings_Split.f (s sep : ByteArray) : Option (List ByteArray) := if sep.size = 1 ∧ s.size < 4294967281 then some (Lib.splitB sep 0 (Lib.countB s sep) s) else none
theorem index_b1 (x : ByteArray) (c : UInt8) : Lib.indexB x ⟨#[c]⟩ = Lib.indexByte x.data.toList c := by
  have gen : ∀ l : List UInt8, Lib.index l [c] = Lib.indexByte l c := by
    intro l
    induction l with
    | nil => rfl
    | cons b l ih =>
      rw [Lib.index, Lib.indexByte, ih]
      have e : ([c].isPrefixOf (b :: l)) = (b == c) := by
        show (c == b && List.isPrefixOf [] l) = (b == c)
        have : List.isPrefixOf ([] : List UInt8) l = true := by cases l <;> rfl
        rw [this, Bool.and_true, Bool.eq_iff_iff, beq_iff_eq, beq_iff_eq]
        exact ⟨fun h => h.symm, fun h => h.symm⟩
      rw [e]
  exact gen _
theorem count_b1 (x : ByteArray) (c : UInt8) : (Lib.countB x ⟨#[c]⟩ : Int) = (Lib.countByte x.data.toList c : Int) := by
  show ((Lib.count x.data.toList [c] : Nat) : Int) = _
  rw [Lib.count_one]
  rfl
set_option maxHeartbeats 1000000 in
set_option maxRecDepth 100000 in
theorem split_one (s : ByteArray) (c : UInt8) (w : World) (hs : s.size < 4294967281) :
    Calls Tryd.prog 28 #[.string s, .string ⟨#[c]⟩] w fun e w' =>
      e = .returned (.slice (some ⟨w.heap.size, 0, none⟩) (Lib.countB s ⟨#[c]⟩ + 1) (Lib.countB s ⟨#[c]⟩ + 1)) ∧ w' = w.alloc (.cells ((Lib.splitB ⟨#[c]⟩ 0 (Lib.countB s ⟨#[c]⟩) s).map Value.string).toArray 9) := by
  obtain ⟨sep, hsep⟩ : ∃ sep : ByteArray, sep = ⟨#[c]⟩ := ⟨_, rfl⟩
  have h1 : 1 ≤ sep.size := by rw [hsep]; exact Nat.le_refl 1
  have hle := Lib.countB_le sep h1 s.size s (Nat.le_refl _)
  have hlen := Lib.splitB_all sep h1 0 _ s rfl
  have hI : ∀ (x : ByteArray) (C : Array Value), x.size ≤ s.size → Calls Tryd.prog 43 #[.string x, .string sep] (w.alloc (.cells C 9)) fun e w' => e = .returned (.int .i64 (Lib.indexB x sep)) ∧ w' = w.alloc (.cells C 9) := fun x C _ => by
    rw [hsep, index_b1]
    exact Tryd.strings_Index_one x c _
  have hC : Calls Tryd.prog 42 #[.string s, .string sep] w fun e w' => e = .returned (.int .i64 (Lib.countB s sep)) ∧ w' = w := by
    rw [hsep, count_b1]
    exact Tryd.strings_Count_one s c w
  have cg := Any.strings_genSplit_core Tryd.lays221 (by kernel_rfl) s sep 0 (-1) (Lib.countB s sep + 1) w hs h1 (Nat.zero_le _) hI hC (by decide) (by decide) (by rw [if_pos (by decide)]; omega)
  rw [Nat.add_sub_cancel, hlen] at cg
  have e2 : Lib.cellsOf (Lib.splitB sep 0 (Lib.countB s sep) s) (Lib.countB s sep + 1) = ((Lib.splitB sep 0 (Lib.countB s sep) s).map Value.string).toArray := by rw [← hlen]; exact Lib.cellsOf_full _
  rw [e2] at cg
  rw [← hsep]
  clear hI hC hle hlen e2 hsep
  go_enter Tryd.func28, Tryd.ntmps28
  go_wp2_with (go_at_call 36; refine Calls.mono cg ?_; rintro e w' ⟨rfl, hw⟩; rw [hw])
  go_ret
  exact ⟨rfl, rfl⟩
theorem strings_Split.calls (a0 : ByteArray) (a1 : ByteArray) (r : List ByteArray) (w : World) (h : strings_Split.f a0 a1 = some r) :
    Calls Tryd.prog 28 #[.string a0, .string a1] w fun e w' => ∃ v0_ : Value, e = .returned (v0_) ∧ Kd.R Kd.string 9 w' w.heap.size (fun _ => True) v0_ r ∧ Below w.heap.size w w' := by
  unfold strings_Split.f at h
  split at h
  · rename_i hh
    obtain ⟨h1, h2⟩ := hh
    obtain rfl := Option.some.inj h
    obtain ⟨c, rfl⟩ := Lib.one_byte a1 h1
    have hlen := Lib.splitB_all (⟨#[c]⟩ : ByteArray) (Nat.le_refl 1) 0 _ a0 rfl
    have hle := Lib.countB_le (⟨#[c]⟩ : ByteArray) (Nat.le_refl 1) a0.size a0 (Nat.le_refl _)
    refine (split_one a0 c w h2).mono ?_
    rintro e w' ⟨rfl, rfl⟩
    refine ⟨_, rfl, ?_, below_alloc (Below.refl _ _) _⟩
    rw [← hlen]
    have hown := own_lit_of (enc := Value.string) w w.heap.size 9 (Lib.splitB (⟨#[c]⟩ : ByteArray) 0 (Lib.countB a0 ⟨#[c]⟩) a0) (Nat.le_refl _) (by omega)
    exact Kd.R_of_own (h1 := fun _ => rfl) (ok := fun _ => True) hown (fun _ _ => trivial)
  · cases h
end Go.Proofs.YtjfeddpelakdjaaDoor.P
