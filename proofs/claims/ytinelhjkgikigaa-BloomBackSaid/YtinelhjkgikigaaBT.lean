/- Bloom: the law's sameInts, walked. -/
import Derived.Test.YtinelhjkgikigaaBH
namespace Go.Proofs.Ytinelhjkgikigaa.B
open Go Go.RowKit Go.Proofs.Ytinelhjkgikigaa.K Go.Proofs.Ytinelhjkgikigaa.W
set_option maxRecDepth 100000
theorem sameInts_of {w : World} {x y : Value} {xs ys : List Int} (hx : Src w x xs.length (xs.map (Value.int .i64))) (hy : Src w y ys.length (ys.map (Value.int .i64))) (lx : xs.length ≤ 140737488355328) (ly : ys.length ≤ 140737488355328) :
    Calls Try.prog 28 #[x, y] w fun e w' => e = .returned (.bool (decide (xs = ys))) ∧ Chg [] w w' := by
  by_cases hl : xs.length = ys.length
  · have d1 : ((xs.length : Int) != ys.length) = false := by simp [hl]
    have Hl := Lib.hid hl
    clear hl
    by_cases hz : xs.length = 0
    · have h2 : ys.length = 0 := by have := Hl.out; omega
      obtain rfl := List.eq_nil_of_length_eq_zero hz
      obtain rfl := List.eq_nil_of_length_eq_zero h2
      obtain ⟨ao, c, rfl, _⟩ := hx.out
      obtain ⟨ao', c', rfl, _⟩ := hy.out
      clear hx hy d1 h2 hz
      go_enter Try.func28, Try.ntmps28
      go_wp2
      go_rounds 1
      go_ret
      exact ⟨rfl, Chg.refl _ _⟩
    · obtain ⟨p, o, c, rfl, C1, _⟩ := hx.block (by simp; omega) hz
      obtain ⟨p', o', c', rfl, C2, _⟩ := hy.block (by have := Hl.out; simp; omega) (by have := Hl.out; omega)
      clear hx hy
      have HZ := Lib.hid hz
      clear hz
      go_enter Try.func28, Try.ntmps28
      go_wp2
      go_loopw [5] (fun i wr => ∃ k : Nat, k ≤ xs.length ∧ i = .int .i64 k ∧ xs.take k = ys.take k ∧ Chg [] w wr) (fun i _ => xs.length - (intOf i).toNat)
      case atStart => exact ⟨0, by omega, rfl, rfl, Chg.refl _ _⟩
      case round =>
        obtain ⟨k, hk, rfl, htk, hck⟩ := hrel
        have Htk := Lib.hid htk
        clear htk
        by_cases hlt : k < xs.length
        · obtain ⟨x, hx⟩ : ∃ x, xs[k]? = some x := ⟨_, List.getElem?_eq_getElem hlt⟩
          have hlt' : k < ys.length := by have := Hl.out; omega
          obtain ⟨y, hy⟩ : ∃ y, ys[k]? = some y := ⟨_, List.getElem?_eq_getElem hlt'⟩
          have cx : wr.cell? ⟨p, o + k, none⟩ = some (.int .i64 x) := C1.chg hck (by simp) k _ (by rw [List.getElem?_map, hx]; rfl)
          have cy : wr.cell? ⟨p', o' + k, none⟩ = some (.int .i64 y) := C2.chg hck (by simp) k _ (by rw [List.getElem?_map, hy]; rfl)
          have Hx := Lib.hid hx
          have Hy := Lib.hid hy
          clear hx hy
          go_wp2
          go_region
          go_wp2
          · have hne : (x != y) = true := by assumption
            go_ret
            refine ⟨?_, hck.drew⟩
            have : xs ≠ ys := by
              rintro rfl
              have := Hx.out.symm.trans Hy.out
              simp at this; subst this; simp at hne
            simp [this]
          · have heq : (x != y) = false := by assumption
            have hxy : x = y := by simpa using heq
            go_roundw
            case rel =>
              refine ⟨k + 1, by omega, by go_num, ?_, hck.drew⟩
              rw [List.take_add_one, List.take_add_one, Htk.out, Hx.out, Hy.out, hxy]
            case measure => simp [intOf]; omega
        · obtain rfl : k = xs.length := by omega
          go_wp2
          go_ret
          refine ⟨?_, hck⟩
          have := Htk.out
          rw [List.take_length, Hl.out, List.take_length] at this
          simp [this]
  · obtain ⟨ao, c, rfl, _⟩ := hx.out
    obtain ⟨ao', c', rfl, _⟩ := hy.out
    have d1 : ((xs.length : Int) != ys.length) = true := by simp; omega
    have hne : decide (xs = ys) = false := by simp; rintro rfl; exact hl rfl
    clear hl hx hy
    go_enter Try.func28, Try.ntmps28
    go_wp2
    go_ret
    exact ⟨by rw [hne]; rfl, Chg.refl _ _⟩

end Go.Proofs.Ytinelhjkgikigaa.B
