/- Generic laws, part D: more on slices that are read. -/
import Derived.Test.YtefkmdejcdhnjaaKB
namespace Go.Proofs.Ytefkmdejcdhnjaa.K
open Go Go.RowKit

theorem Src.block {w : World} {v : Value} {m : Nat} {cells : List Value} (h : Src w v m cells) (hp : 0 < cells.length) (hm : m ≠ 0) : ∃ b off c, v = .slice (some ⟨b, off, none⟩) m c ∧ Cs w b off cells ∧ b < w.heap.size := by
  obtain ⟨ao, c, rfl, h0, h1⟩ := h.out
  have e0 := List.getElem?_eq_getElem hp
  cases ao with
  | none =>
    exact absurd (h0 rfl).1 hm
  | some a =>
    obtain ⟨b, off, sp⟩ := a
    have := h1 _ rfl 0 _ e0
    have hs := World.cell?_spot this
    simp [Addr.add] at hs
    subst hs
    refine ⟨b, off, c, rfl, fun j u hu => ?_, ?_⟩
    · have := h1 _ rfl j u hu
      rwa [Addr.add_lit] at this
    · have := World.block_lt_of_cell? w _ this
      simpa [Addr.add] using this
end Go.Proofs.Ytefkmdejcdhnjaa.K
