/- Seq: arguments of the laws, opened. -/
import Derived.Test.YtefkmdejcdhnjaaSI
import Derived.Test.YtefkmdejcdhnjaaKU
namespace Go.Proofs.Ytefkmdejcdhnjaa.S
open Go Go.RowKit Go.Proofs.Ytefkmdejcdhnjaa.K Go.ChangeShapes Go.WideShapes Go.ChangeAt Go.Deep
set_option maxRecDepth 100000

theorem ownK : ownKnob Try.prog.godebug = none := by kernel_rfl
theorem laidOutK : laidOutB Try.prog = true := by kernel_rfl
def putks : List Kd := idks ++ idks
theorem put_of_leaves {cs : List Value} {ls : List Lit} (h : okLeaves putks cs = some ls) : ∃ q, putc q = cs := by
  obtain ⟨l1, l2, rfl, h1, h2⟩ := okLeaves_append h
  obtain ⟨a, ha⟩ := id_of_leaves h1
  obtain ⟨b, hb⟩ := id_of_leaves h2
  exact ⟨⟨a, b⟩, by simp only [putc, ha, hb, List.take_append_drop]⟩
theorem tyPut : FlatTy Try.prog 40 PutV putc 66 (fun _ => True) :=
  ⟨⟨putks, by kernel_rfl, fun cs ls h => by obtain ⟨x, hx⟩ := put_of_leaves h; exact ⟨x, trivial, hx⟩⟩, by kernel_rfl, by decide, putc_len⟩
end Go.Proofs.Ytefkmdejcdhnjaa.S
