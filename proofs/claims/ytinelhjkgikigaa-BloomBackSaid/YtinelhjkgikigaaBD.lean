/- Bloom: Set, Join. -/
import Derived.Test.YtinelhjkgikigaaBC
namespace Go.Proofs.Ytinelhjkgikigaa.B
open Go Go.RowKit Go.Proofs.Ytinelhjkgikigaa.K

def pop8 (n : Int) : Nat := (List.range 8).countP fun i => n.toNat.testBit i

def tab8 : List UInt8 := [0, 1, 1, 2, 1, 2, 2, 3, 1, 2, 2, 3, 2, 3, 3, 4, 1, 2, 2, 3, 2, 3, 3, 4, 2, 3, 3, 4, 3, 4, 4, 5, 1, 2, 2, 3, 2, 3, 3, 4, 2, 3, 3, 4, 3, 4, 4, 5, 2, 3, 3, 4, 3, 4, 4, 5, 3, 4, 4, 5, 4, 5, 5, 6, 1, 2, 2, 3, 2, 3, 3, 4, 2, 3, 3, 4, 3, 4, 4, 5, 2, 3, 3, 4, 3, 4, 4, 5, 3, 4, 4, 5, 4, 5, 5, 6, 2, 3, 3, 4, 3, 4, 4, 5, 3, 4, 4, 5, 4, 5, 5, 6, 3, 4, 4, 5, 4, 5, 5, 6, 4, 5, 5, 6, 5, 6, 6, 7, 1, 2, 2, 3, 2, 3, 3, 4, 2, 3, 3, 4, 3, 4, 4, 5, 2, 3, 3, 4, 3, 4, 4, 5, 3, 4, 4, 5, 4, 5, 5, 6, 2, 3, 3, 4, 3, 4, 4, 5, 3, 4, 4, 5, 4, 5, 5, 6, 3, 4, 4, 5, 4, 5, 5, 6, 4, 5, 5, 6, 5, 6, 6, 7, 2, 3, 3, 4, 3, 4, 4, 5, 3, 4, 4, 5, 4, 5, 5, 6, 3, 4, 4, 5, 4, 5, 5, 6, 4, 5, 5, 6, 5, 6, 6, 7, 3, 4, 4, 5, 4, 5, 5, 6, 4, 5, 5, 6, 5, 6, 6, 7, 4, 5, 5, 6, 5, 6, 6, 7, 5, 6, 6, 7, 6, 7, 7, 8]
set_option maxRecDepth 100000 in
theorem ones_of (n : Int) (w : World) (h0 : 0 ≤ n) (h1 : n < 256) : Calls Try.prog 40 #[.int .u8 n] w fun e w' => e = .returned (.int .i64 (pop8 n)) ∧ w = w' := by
  obtain ⟨m, rfl⟩ : ∃ m : Fin 256, n = (m.val : Int) := ⟨⟨n.toNat, by omega⟩, by simp; omega⟩
  go_enter Try.func40, Try.ntmps40
  go_wp2
  go_ret
  refine ⟨?_, rfl⟩
  refine congrArg (fun z => Ending.returned (Value.int .i64 z)) ?_
  have hm : ∀ m : Fin 256, ∀ h : m.val < 256, wrap64 ((tab8[m.val]'h).toNat : Int) = ((pop8 (m.val : Int) : Nat) : Int) := by decide +kernel
  exact hm m m.2

theorem pop8_le (n : Int) : pop8 n ≤ 8 := by
  have := List.countP_le_length (p := fun i => n.toNat.testBit i) (l := List.range 8)
  simpa [pop8] using this
def popAll (bs : List Int) : Nat := (bs.map pop8).sum
theorem popAll_snoc (bs : List Int) (x : Int) : popAll (bs ++ [x]) = popAll bs + pop8 x := by simp [popAll]
theorem popAll_le (bs : List Int) : popAll bs ≤ 8 * bs.length := by
  induction bs with
  | nil => simp [popAll]
  | cons x l ih => have := pop8_le x; simp only [popAll, List.map_cons, List.sum_cons, List.length_cons] at ih ⊢; omega

theorem set_nil (w : World) : Calls Try.prog 14 #[.pointer none] w fun e w' => e = .returned (.int .i64 0) ∧ w = w' := by
  go_enter Try.func14, Try.ntmps14
  go_wp2
  go_ret
  exact ⟨rfl, rfl⟩

set_option maxRecDepth 100000 in
theorem set_of {b g p : Nat} {bs : List Int} {w : World} (F : Fil w b g p bs) : Calls Try.prog 14 #[.pointer (some ⟨b, 0, none⟩)] w fun e w' => e = .returned (.int .i64 (popAll bs)) ∧ w = w' := by
  obtain ⟨c, h0, h1⟩ := F.cells
  have n2 := F.n2
  go_enter Try.func14, Try.ntmps14
  go_wp2
  go_loop [3, 13] (fun s i => ∃ k : Nat, k ≤ bs.length ∧ i = .int .i64 k ∧ s = .int .i64 (popAll (bs.take k))) (fun _ i => bs.length - (intOf i).toNat)
  case atStart => exact ⟨0, by omega, rfl, rfl⟩
  case round =>
    obtain ⟨k, hk, rfl, rfl⟩ := hrel
    by_cases hlt : k < bs.length
    · obtain ⟨x, hx⟩ : ∃ x, bs[k]? = some x := ⟨_, List.getElem?_eq_getElem hlt⟩
      have cb := F.byte hlt
      rw [hx, Option.getD_some] at cb
      obtain ⟨r0, r1⟩ := F.ok x (List.mem_of_getElem? hx)
      have hp := popAll_le (bs.take k)
      have hp2 := pop8_le x
      have hl : (bs.take k).length ≤ 8192 := by rw [List.length_take]; omega
      have Hst := Lib.hid (show popAll (bs.take (k + 1)) = popAll (bs.take k) + pop8 x by rw [List.take_add_one, hx, Option.toList, popAll_snoc])
      clear hx
      generalize hq : popAll (bs.take k) = q at *
      have Hq := Lib.hid hq
      clear hq
      go_wp2_with (go_at_call 40; refine (ones_of x _ r0 r1).mono ?_; rintro e w' ⟨rfl, rfl⟩)
      go_round
      case rel => exact ⟨k + 1, by omega, by go_num, by rw [Hst.out]; go_num⟩
      case measure => simp [intOf]; omega
    · obtain rfl : k = bs.length := by omega
      go_wp2
      go_ret
      exact ⟨by simp, rfl⟩
end Go.Proofs.Ytinelhjkgikigaa.B
