/- What the bound of an Upto statement gives. -/
import Derived.Test.YtefkmdejcdhnjaaRows
import Derived.Test.YtefkmdejcdhnjaaKR
namespace Go.Proofs.Ytefkmdejcdhnjaa.K
open Go Go.RowKit

theorem bulk_one {H : Type} (d : DataW H) : 1 ≤ Rows.uptoBulk d := by
  cases d with
  | lit l => cases l <;> simp [Rows.uptoBulk]
  | _ => simp [Rows.uptoBulk]
theorem bulk_len {H : Type} : ∀ l : List (DataW H), l.length ≤ Rows.uptoBulkAll l
  | [] => by simp [Rows.uptoBulkAll]
  | x :: r => by have := bulk_one x; have := bulk_len r; simp only [Rows.uptoBulkAll, List.length_cons]; omega
theorem bulk_mem {H : Type} {d : DataW H} : ∀ {l : List (DataW H)}, d ∈ l → Rows.uptoBulk d ≤ Rows.uptoBulkAll l
  | [], h => by cases h
  | x :: r, h => by
    simp only [Rows.uptoBulkAll]
    rcases List.mem_cons.1 h with rfl | h
    · omega
    · have := bulk_mem h; omega
theorem bulk_slice {H : Type} (elems spare : List (DataW H)) : elems.length + spare.length + 1 ≤ Rows.uptoBulk (.slice elems spare) := by
  have h1 := bulk_len elems
  have h2 := bulk_len spare
  simp only [Rows.uptoBulk]
  omega
/-- an argument that is a slice has no more values than the bound says -/
theorem sl_bulk {H : Type} {α : Type} {xs : List α} {ds : List (DataW H)} {d : DataW H} (hd : (xs = [] ∧ d = .nil) ∨ ∃ elems spare, d = .slice elems spare ∧ elems.length = xs.length) (hk : Rows.uptoBulkAll ds ≤ 1048576) (hm : d ∈ ds) : xs.length ≤ 1048576 := by
  rcases hd with ⟨rfl, _⟩ | ⟨elems, spare, rfl, hl⟩
  · simp
  · have := bulk_mem hm
    have := bulk_slice elems spare
    omega
end Go.Proofs.Ytefkmdejcdhnjaa.K
