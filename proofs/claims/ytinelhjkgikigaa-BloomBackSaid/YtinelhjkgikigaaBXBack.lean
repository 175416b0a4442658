/- Law BloomBack of layer 21: for every input (a slice of hashes, bytes, a hash) the law returns true and leaves its arguments as they were; no condition. -/
import Derived.Test.YtinelhjkgikigaaBR
import Derived.Test.YtinelhjkgikigaaBLBack
import Derived.Test.YtinelhjkgikigaaKR
namespace Go.Proofs.Ytinelhjkgikigaa
open Go Go.RowKit Go.Proofs.Ytinelhjkgikigaa.K Go.Proofs.Ytinelhjkgikigaa.B Go.ChangeShapes Go.WideShapes Go.ChangeAt

theorem byteOk_of {x : Int} (h : (Lit.int .u8 x).wf = true) : W.byteOk x := by
  simp [Lit.wf, IntKind.min, IntKind.max, IntKind.signed, IntKind.bits] at h
  exact ⟨h.1, by omega⟩
/-- a hash -/
structure HashV where
  l : List Int
  ok : HashOk l
theorem formHash : FlatTy Try.prog 27 HashV (fun x => x.l.map (Value.int .u8)) 32 (fun _ => True) := by
  refine ⟨⟨List.replicate 32 (.int .u8), by kernel_rfl, fun cs ls h => ?_⟩, by kernel_rfl, by decide, fun x => by simpa using x.ok.1⟩
  obtain ⟨l, hl, rfl⟩ := ints_of_leaves h
  exact ⟨⟨l, ⟨hl.1, fun x hx => byteOk_of (hl.2 x hx)⟩⟩, trivial, rfl⟩

set_option maxRecDepth 100000 in
theorem BloomBackLifted (os : Os) (started : os.Started) (H : Type) (enc : TypeId × Value → H) :
    ReturnsInHanded {} Try.checked os 7 .any (Rows.bloomBackSpec.pre6 enc Try.prog Try.f7 Rows.bloomBackRow.domain false) (Rows.bloomBackSpec.post enc Try.prog Try.f7 false true false false) := by
  refine returnsInHanded_of_change_sized (C := Try.checked) ownK started (by kernel_rfl) Try.func7
    (ChangeSpec.witness6 (enc := enc) (C := Try.checked) false ⟨#[], #[.slice none 0 0, .slice none 0 0, .agg (List.replicate 32 (.int .u8 0)).toArray], []⟩ 8 (by kernel_rfl) (by kernel_rfl) (by kernel_rfl) (by kernel_rfl)) ?_
  intro W base args ds gs before hval0 hW _ hsz0 _
  have hval : ∀ (j : Nat) t v, Try.f7.params[j]? = some t → args[j]? = some v → Value.okWide Try.prog W .any base t v := hval0
  have hsz : (DataW.weightsEach Try.prog (Try.f7.params.toList ++ Rows.bloomBackSpec.plain.varTypes Try.prog) (ds ++ gs)).all (· ≤ reachBytes) = true := hsz0
  have hW' := hW
  obtain ⟨p, q, hA0, hV, rfl, _, _⟩ := hW
  have hA : DataW.TrodAll enc Try.prog W 0 (fun _ => true) true Try.f7.params.toList args.toList ds p := hA0
  rw [Try.params7] at hA hval hsz
  obtain ⟨v0, vs0, d0, ds0, p0, q0, hargs, rfl, rfl, h0, r0⟩ := trodAll_cons hA
  obtain ⟨v1, vs1, d1, ds1, p1, q1, rfl, rfl, rfl, h1, r1⟩ := trodAll_cons r0
  obtain ⟨v2, vs2, d2, ds2, p2, q2, rfl, rfl, rfl, h2, r2⟩ := trodAll_cons r1
  obtain ⟨rfl, rfl, rfl⟩ := trodAll_nil r2
  obtain rfl : args = #[v0, v1, v2] := by cases args; simp_all
  obtain ⟨rfl, rfl⟩ := trodVars_none hV
  obtain ⟨a0, len0, cap0, rfl⟩ := okWide_slice Try.underlying22 (hval 0 22 v0 rfl rfl)
  obtain ⟨b, off, hs, rfl, A⟩ := arg_hs h0 hsz (j := 0) rfl rfl
  obtain ⟨a1, len1, cap1, rfl⟩ := okWide_slice Try.underlying37 (hval 1 37 v1 rfl rfl)
  obtain ⟨B, rfl, hB, SB, dB⟩ := open_flats (form_int (P := Try.prog) Try.underlying5 (by kernel_rfl)) Try.underlying37 h1
  have hBs := sl_sized dB hsz (j := 1) rfl rfl Try.underlying37
  have hb1 : Try.prog.bytesOf 5 = 1 := by kernel_rfl
  rw [hb1, Nat.mul_one] at hBs
  have hBx := SB.src
  rw [flat_single] at hBx
  obtain ⟨⟨hh, hok⟩, _, rfl⟩ := open_agg formHash (by decide) h2
  refine (back_walk A hBx (fun x hx => byteOk_of (hB x hx)) (by simp only [reachBytes] at hBs; omega) hok).mono fun e W' ⟨he, hc⟩ => ⟨_, he, ?_⟩
  exact law_post laidOutK (by kernel_rfl) rfl Try.underlying4 rfl hW' rfl rfl rfl (hc.below (Nat.le_refl _) (by simp))

set_option maxRecDepth 100000 in
theorem BloomBack_holds : Rows.BloomBackSaid :=
  OpenClaim.holds_of_wide 7 Try.f7 rfl rfl rfl rfl rfl rfl rfl ⟨rfl, rfl, rfl, rfl, rfl⟩ rfl rfl rfl rfl rfl (by kernel_rfl) Try.func7 (by kernel_rfl)
    (of_decide_eq_true (by kernel_rfl)) (by unfold Func.isWrapper; first | (rw [if_pos (by decide +kernel)]; kernel_rfl) | (rw [if_neg (by decide +kernel)]; exact ⟨rfl, rfl⟩))
    (fun os started H enc _ => BloomBackLifted os started H enc)
#print axioms BloomBack_holds
end Go.Proofs.Ytinelhjkgikigaa
