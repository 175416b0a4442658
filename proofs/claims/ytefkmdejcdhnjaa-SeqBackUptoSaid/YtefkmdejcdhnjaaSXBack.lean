/- Law SeqBack of layer 9: for every input (puts, an Id, one behind) of bulk at most 1048576 the law returns true and leaves its arguments as they were. -/
import Derived.Test.YtefkmdejcdhnjaaSR
import Derived.Test.YtefkmdejcdhnjaaSU
import Derived.Test.YtefkmdejcdhnjaaKL
namespace Go.Proofs.Ytefkmdejcdhnjaa
open Go Go.RowKit Go.Proofs.Ytefkmdejcdhnjaa.K Go.Proofs.Ytefkmdejcdhnjaa.S Go.ChangeShapes Go.WideShapes Go.ChangeAt

set_option maxRecDepth 100000 in
theorem SeqBackLifted (os : Os) (started : os.Started) (H : Type) (enc : TypeId × Value → H) (F : Stop.Interp) :
    ReturnsInHanded {} Try.checked os 7 .any ((Rows.OpenSpec.upto Rows.seqBackSpec).pre6 enc Try.prog Try.f7 Rows.seqBackUptoRow.domain false) (((Rows.OpenSpec.upto Rows.seqBackSpec).at F).post enc Try.prog Try.f7 false true false false) := by
  refine returnsInHanded_of_cond (C := Try.checked) (s := Rows.OpenSpec.upto Rows.seqBackSpec) (k := Rows.uptoSmall) rfl ownK started (by kernel_rfl) Try.func7
    (OpenSpec.witness (enc := enc) (C := Try.checked) (s := Rows.OpenSpec.upto Rows.seqBackSpec) (k := Rows.uptoSmall) rfl false ⟨#[], #[.slice none 0 0, zId, zId], []⟩ 8 (by kernel_rfl) (by kernel_rfl) (by kernel_rfl)
      (x := ([.nil, .agg [.agg (List.replicate 32 (.lit (.int .u8 0))), .lit (.int .i64 0)], .agg [.agg (List.replicate 32 (.lit (.int .u8 0))), .lit (.int .i64 0)]], [], [])) (by kernel_rfl) rfl (by kernel_rfl)) ?_
  intro W base args ds gs before hval0 hW _ hk0 _
  have hval : ∀ (j : Nat) t v, Try.f7.params[j]? = some t → args[j]? = some v → Value.okWide Try.prog W .any base t v := hval0
  have hW' := hW
  obtain ⟨p, q, hA0, hV, rfl, _, _⟩ := hW
  have hA : DataW.TrodAll enc Try.prog W 0 (fun _ => true) true Try.f7.params.toList args.toList ds p := hA0
  rw [Try.params7] at hA hval
  obtain ⟨v0, vs0, d0, ds0, p0, q0, hargs, rfl, rfl, h0, r0⟩ := trodAll_cons hA
  obtain ⟨v1, vs1, d1, ds1, p1, q1, rfl, rfl, rfl, h1, r1⟩ := trodAll_cons r0
  obtain ⟨v2, vs2, d2, ds2, p2, q2, rfl, rfl, rfl, h2, r2⟩ := trodAll_cons r1
  obtain ⟨rfl, rfl, rfl⟩ := trodAll_nil r2
  obtain rfl : args = #[v0, v1, v2] := by cases args; simp_all
  obtain ⟨rfl, rfl⟩ := trodVars_none hV
  have hk : Rows.uptoBulkAll [d0, d1, d2] ≤ 1048576 := of_decide_eq_true hk0
  obtain ⟨a0, len0, cap0, rfl⟩ := okWide_slice Try.underlying22 (hval 0 22 v0 rfl rfl)
  obtain ⟨l, rfl, _, SL, dL⟩ := open_flats tyPut Try.underlying22 h0
  have hll := sl_bulk dL hk (by simp)
  obtain ⟨id, _, rfl⟩ := open_agg tyId (by decide) h1
  obtain ⟨behind, _, rfl⟩ := open_agg tyId (by decide) h2
  refine (back_walk SL.src hll id behind).mono fun e W' ⟨he, hc⟩ => ⟨_, he, ?_⟩
  exact law_post laidOutK (by kernel_rfl) rfl Try.underlying4 rfl hW' rfl rfl rfl (hc.below (Nat.le_refl _) (by simp))

set_option maxRecDepth 100000 in
theorem SeqBack_holds : Rows.SeqBackUptoSaid :=
  OpenClaim.holds_of_cond 7 Try.f7 rfl rfl rfl rfl rfl rfl rfl ⟨rfl, rfl, rfl, rfl, rfl⟩ rfl rfl rfl rfl rfl (by kernel_rfl) Try.func7 (by kernel_rfl)
    (of_decide_eq_true (by kernel_rfl)) (by unfold Func.isWrapper; first | (rw [if_pos (by decide +kernel)]; kernel_rfl) | (rw [if_neg (by decide +kernel)]; exact ⟨rfl, rfl⟩))
    (fun os started H enc _ F => SeqBackLifted os started H enc F)
#print axioms SeqBack_holds
end Go.Proofs.Ytefkmdejcdhnjaa
