/- Words of this session: what came in lies in elder blocks. -/
import Derived.Test.YtgobidmfbjmpkaaWMore
namespace Go.Proofs.Ytgobidmfbjmpkaa.HVlt
open Go Go.RowKit Go.Proofs.YtgobidmfbjmpkaaW.PrintWords
theorem v_lt {α : Type} {d : Kd α} {e base n c : Nat} {w : World} {ok : Nat → Prop} {A : Option Addr} {xs : List α} (h : Kd.V d e w base ok (.slice A n c) xs) (ad : Addr) (hA : A = some ad) (hn : 0 < xs.length) (hs : 0 < d.sz := by decide) : ad.block < w.heap.size := by
  obtain ⟨A', c', he, hl, hF⟩ := h
  injection he with h1 h2 h3
  subst h1
  obtain ⟨hlen, hm, hc⟩ := Kd.F_now hF
  obtain ⟨ad', e', hr⟩ := hc hn
  rw [hA] at e'
  obtain rfl := Option.some.inj e'
  obtain ⟨cs, hcl, hK, hcell⟩ := hr 0 xs[0] (List.getElem?_eq_getElem hn)
  have h0 : cs[0]? = some (cs[0]'(by omega)) := List.getElem?_eq_getElem (by omega)
  have h1 := World.block_lt_of_cell? w _ (hcell 0 _ h0)
  simpa [Addr.add] using h1
end Go.Proofs.Ytgobidmfbjmpkaa.HVlt
