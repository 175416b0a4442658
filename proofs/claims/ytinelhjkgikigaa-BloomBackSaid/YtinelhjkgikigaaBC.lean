/- Bloom: New, Set, Join, Of. -/
import Derived.Test.YtinelhjkgikigaaBB
namespace Go.Proofs.Ytinelhjkgikigaa.B
open Go Go.RowKit Go.Proofs.Ytinelhjkgikigaa.K

def newOk (n p : Int) : Prop := 8 ≤ n ∧ n ≤ 65536 ∧ n % 8 = 0 ∧ 1 ≤ p ∧ p ≤ 16
theorem info5 : (Try.prog.info? 5).map (fun i => (i.zero, i.size, i.bytes)) = some (some (.int .u8 0), 1, 1) := by kernel_rfl

theorem Fil.made {w1 : World} {base g p : Nat} {bs : List Int} {c : Nat} (p1 : 1 ≤ p) (p2 : p ≤ 16) (n1 : 1 ≤ bs.length) (n2 : bs.length ≤ 8192) (ok : ∀ x ∈ bs, byteOk x)
    (hown : w1.ownsRow base 5 1 (.slice (some ⟨g, 0, none⟩) bs.length c) bs.length (bs.map (Value.int .u8))) :
    Fil (w1.alloc (.cells #[.int .i64 p, .slice (some ⟨g, 0, none⟩) bs.length c] 91)) w1.heap.size g p bs := by
  have hg := hown.lt g rfl
  rcases hown.2 with ⟨h, _⟩ | ⟨g', cap, cur, hv, _, hg', hn, hc, hs, ht⟩
  · cases h
  · cases hv
    exact ⟨by omega, p1, p2, n1, n2, ok, _, cur, heap_new _ _, by rw [heap_old _ _ _ hg.2]; exact hg', by simpa using hs, hn, hc, by simpa using ht⟩

theorem new_bad (n p : Int) (w : World) (h : ¬ newOk n p) : Calls Try.prog 16 #[.int .i64 n, .int .i64 p] w fun e w' => e = .returned (.tuple #[.pointer none, .int .i64 2]) ∧ Chg [] w w' := by
  unfold newOk at h
  by_cases h1 : n < 8
  · go_enter Try.func16, Try.ntmps16
    go_wp2
    go_ret2
    exact ⟨rfl, Chg.refl _ _⟩
  by_cases h2 : 65536 < n
  · go_enter Try.func16, Try.ntmps16
    go_wp2
    go_ret2
    exact ⟨rfl, Chg.refl _ _⟩
  have e0 : 0 ≤ n := by omega
  by_cases h3 : n % 8 = 0
  · have e3 : (n % 8 != 0) = false := by simp [h3]
    by_cases h4 : p < 1
    · clear h3
      go_enter Try.func16, Try.ntmps16
      go_wp2
      go_ret2
      exact ⟨rfl, Chg.refl _ _⟩
    · have h5 : 16 < p := by omega
      clear h3
      go_enter Try.func16, Try.ntmps16
      go_wp2
      go_ret2
      exact ⟨rfl, Chg.refl _ _⟩
  · have e3 : (n % 8 != 0) = true := by simp [h3]
    clear h3
    go_enter Try.func16, Try.ntmps16
    go_wp2
    go_ret2
    exact ⟨rfl, Chg.refl _ _⟩

set_option maxRecDepth 100000 in
theorem new_ok (n p : Int) (w : World) (h : newOk n p) : Calls Try.prog 16 #[.int .i64 n, .int .i64 p] w fun e w' =>
    ∃ b g, e = .returned (.tuple #[.pointer (some ⟨b, 0, none⟩), .int .i64 0]) ∧ Fil w' b g p.toNat (List.replicate (n / 8).toNat 0) ∧ Chg [] w w' ∧ w.heap.size ≤ b ∧ w.heap.size ≤ g := by
  obtain ⟨h1, h2, h3, h4, h5⟩ := h
  obtain ⟨i0, hi, hz0, hz1, hz2⟩ := info_parts info5
  have e3 : (n % 8 != 0) = false := by simp [h3]
  clear h3
  obtain ⟨m, hm⟩ : ∃ m : Nat, n / 8 = m := ⟨(n / 8).toNat, by omega⟩
  have hm1 : 1 ≤ m := by omega
  have hm2 : m ≤ 8192 := by omega
  have Hm := Lib.hid hm
  obtain ⟨q, rfl⟩ : ∃ q : Nat, p = q := ⟨p.toNat, by omega⟩
  clear hm
  go_enter Try.func16, Try.ntmps16
  go_wp2_with (at_make; refine wpList_make_full _ rfl _ _ 37 rfl w.heap.size 5 i0 (.int .u8 0) 1 Try.underlying37 hi hz0 hz1 _ _ (n / 8) (n / 8) m rfl rfl Hm.out Hm.out (by rw [hz2]; omega) (by unfold maxLen; omega) (Nat.le_refl _) ?_; intro w1 hown hg)
  go_ret2
  have hlen : (List.replicate (n / 8).toNat (0 : Int)).length = m := by simp; have := Hm.out; omega
  refine ⟨w1.heap.size, w.heap.size, rfl, ?_, (Chg.of_grown hg).alloc _, hg.size, Nat.le_refl _⟩
  have f := Fil.made (w1 := w1) (base := w.heap.size) (g := w.heap.size) (p := q) (bs := List.replicate (n / 8).toNat 0) (c := m) (by omega) (by omega) (by omega) (by omega) ?_ ?_
  · rw [hlen] at f; exact f
  · intro x hx; rw [List.mem_replicate] at hx; rw [hx.2]; exact ⟨by omega, by omega⟩
  · rw [hlen]
    have e : (madeCells (Value.int IntKind.u8 0).cells (m * 1)).toList = (List.replicate (n / 8).toNat (0 : Int)).map (Value.int .u8) := by
      have := Hm.out
      rw [show (n / 8).toNat = m by omega, Nat.mul_one]
      simp [Value.cells, toList_madeCells_one]
    rw [← e]; exact hown
end Go.Proofs.Ytinelhjkgikigaa.B
