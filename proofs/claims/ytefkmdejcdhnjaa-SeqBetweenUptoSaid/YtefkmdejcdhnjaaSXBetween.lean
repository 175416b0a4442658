/- Law SeqBetween of layer 9: for every input (a slice of puts) of bulk at most 1048576 the law returns true and leaves its argument as it was. -/
import Derived.Test.YtefkmdejcdhnjaaSR
import Derived.Test.YtefkmdejcdhnjaaSL
import Derived.Test.YtefkmdejcdhnjaaKL
namespace Go.Proofs.Ytefkmdejcdhnjaa
open Go Go.RowKit Go.Proofs.Ytefkmdejcdhnjaa.K Go.Proofs.Ytefkmdejcdhnjaa.S Go.ChangeShapes Go.WideShapes Go.ChangeAt

set_option maxRecDepth 100000 in
theorem SeqBetweenLifted (os : Os) (started : os.Started) (H : Type) (enc : TypeId × Value → H) (F : Stop.Interp) :
    ReturnsInHanded {} Try.checked os 4 .any ((Rows.OpenSpec.upto Rows.seqBetweenSpec).pre6 enc Try.prog Try.f4 Rows.seqBetweenUptoRow.domain false) (((Rows.OpenSpec.upto Rows.seqBetweenSpec).at F).post enc Try.prog Try.f4 false true false false) := by
  refine returnsInHanded_of_cond (C := Try.checked) (s := Rows.OpenSpec.upto Rows.seqBetweenSpec) (k := Rows.uptoSmall) rfl ownK started (by kernel_rfl) Try.func4
    (OpenSpec.witness (enc := enc) (C := Try.checked) (s := Rows.OpenSpec.upto Rows.seqBetweenSpec) (k := Rows.uptoSmall) rfl false ⟨#[], #[.slice none 0 0], []⟩ 8 (by kernel_rfl) (by kernel_rfl) (by kernel_rfl)
      (x := ([.nil], [], [])) (by kernel_rfl) rfl (by kernel_rfl)) ?_
  intro W base args ds gs before hval0 hW _ hk0 _
  have hval : ∀ (j : Nat) t v, Try.f4.params[j]? = some t → args[j]? = some v → Value.okWide Try.prog W .any base t v := hval0
  have hW' := hW
  obtain ⟨p, q, hA0, hV, rfl, _, _⟩ := hW
  have hA : DataW.TrodAll enc Try.prog W 0 (fun _ => true) true Try.f4.params.toList args.toList ds p := hA0
  rw [Try.params4] at hA hval
  obtain ⟨v0, vs0, d0, ds0, p0, q0, hargs, rfl, rfl, h0, r0⟩ := trodAll_cons hA
  obtain ⟨rfl, rfl, rfl⟩ := trodAll_nil r0
  obtain rfl : args = #[v0] := by cases args; simp_all
  obtain ⟨rfl, rfl⟩ := trodVars_none hV
  have hk : Rows.uptoBulkAll [d0] ≤ 1048576 := of_decide_eq_true hk0
  obtain ⟨a0, len0, cap0, rfl⟩ := okWide_slice Try.underlying22 (hval 0 22 v0 rfl rfl)
  obtain ⟨l, rfl, _, SL, dL⟩ := open_flats tyPut Try.underlying22 h0
  have hll := sl_bulk dL hk (by simp)
  refine (between_walk SL.src hll).mono fun e W' ⟨he, hc⟩ => ⟨_, he, ?_⟩
  exact law_post laidOutK (by kernel_rfl) rfl Try.underlying4 rfl hW' rfl rfl rfl (hc.below (Nat.le_refl _) (by simp))

set_option maxRecDepth 100000 in
theorem SeqBetween_holds : Rows.SeqBetweenUptoSaid :=
  OpenClaim.holds_of_cond 4 Try.f4 rfl rfl rfl rfl rfl rfl rfl ⟨rfl, rfl, rfl, rfl, rfl⟩ rfl rfl rfl rfl rfl (by kernel_rfl) Try.func4 (by kernel_rfl)
    (of_decide_eq_true (by kernel_rfl)) (by unfold Func.isWrapper; first | (rw [if_pos (by decide +kernel)]; kernel_rfl) | (rw [if_neg (by decide +kernel)]; exact ⟨rfl, rfl⟩))
    (fun os started H enc _ F => SeqBetweenLifted os started H enc F)
#print axioms SeqBetween_holds
end Go.Proofs.Ytefkmdejcdhnjaa
