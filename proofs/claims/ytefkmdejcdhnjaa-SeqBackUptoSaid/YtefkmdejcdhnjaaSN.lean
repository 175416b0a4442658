/- Seq: take of a row; Take. -/
import Derived.Test.YtefkmdejcdhnjaaSM
namespace Go.Proofs.Ytefkmdejcdhnjaa.S
open Go Go.RowKit Go.Shelf Go.Proofs.Ytefkmdejcdhnjaa.K
set_option maxRecDepth 100000

theorem take_of {w : World} {p : Nat} {s : Value} {xs : List ElV} (h : Sq w p s xs) {i : Nat} (hi : i < xs.length) :
    Calls Try.prog 67 #[.pointer (some ⟨p, 0, none⟩), .int .i64 i] w fun e w' => e = .returned (.tuple #[]) ∧ ∃ v', Sq w' p v' (delE xs i) ∧ SqStep w w' p s v' := by
  have hlt := h.lt
  have hmem := h.mem
  have hown := h.own
  have hsz := h.sz
  have hc0 : w.cell? ⟨p, 0, none⟩ = some s := by rw [cell_of_row w p 0 _ _ _ hmem]; rfl
  have hpno : p ∉ s.ownBlock.toList := fun hm => h.ne (by simpa using hm)
  have hne := h.ne
  obtain ⟨ao, c, rfl, _⟩ := owns_form hown
  have hwr : IntKind.wrap .i64 ((i : Int) + 1) = (i : Int) + 1 := by
    rw [IntKind.wrap_i64]; omega
  have HH := Lib.hid h
  clear h
  go_enter Try.func67, Try.ntmps67
  go_wp2_with (go_at_call 80; (with_reducible refine (delete_of hown hi hsz).mono ?_); rintro e w3 ⟨v', rfl, hown3, hch3, hvb, g3, c3, rfl⟩; have hm3 := hch3.heap hmem hpno; have q3 := frozen_of_row w3 p 0 _ _ hm3; have q4 : w3.cell? ⟨p, 0, none⟩ = some (.slice ao xs.length c) := by { rw [cell_of_row w3 p 0 _ _ _ hm3]; rfl })
  go_end0
  have hd := delE_len hi
  have hpl : p < w.heap.size := hlt
  refine ⟨rfl, .slice (some ⟨g3, 0, none⟩) (xs.length - 1) c3, ⟨heap_setCell_same _ _ 0 _ _ _ hm3, ?_, hvb ▸ hne, by omega⟩, ⟨?_, ?_⟩⟩
  · rw [hd]
    exact ((Chg.refl [p] w3).setCell (.inl (by simp)) _).owns hown3 (fun g hg hm => by simp at hm; subst hm; exact hne (hvb ▸ hg))
  · exact (hch3.mono (fun x hx _ => List.mem_cons_of_mem _ hx)).setCell (.inl (by simp)) _
  · intro g hg; exact .inl (hvb ▸ hg)
end Go.Proofs.Ytefkmdejcdhnjaa.S
