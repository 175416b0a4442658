/- Bloom: arguments that are slices of hashes, opened. -/
import Derived.Test.YtinelhjkgikigaaBLNever
import Derived.Test.YtinelhjkgikigaaKL
namespace Go.Proofs.Ytinelhjkgikigaa.B
open Go Go.RowKit Go.Proofs.Ytinelhjkgikigaa.K Go.ChangeShapes Go.WideShapes Go.ChangeAt Go.Deep

theorem ownK : ownKnob Try.prog.godebug = none := by kernel_rfl
theorem laidOutK : laidOutB Try.prog = true := laidOut
theorem cells27 : Try.prog.cellsOf 27 = 32 := by kernel_rfl
theorem bytes27 : Try.prog.bytesOf 27 = 32 := by kernel_rfl

theorem open_hs {H : Type} {enc : TypeId × Value → H} {W : World} {ao : Option Addr} {len cap : Nat} {d : DataW H} {p : List MemPlace} (h : DataW.Trod enc Try.prog W 0 (fun _ => true) true 22 (.slice ao len cap) d p) :
    (ao = none ∧ len = 0 ∧ cap = 0 ∧ d = .nil) ∨ ∃ (b off : Nat) (hs : List (List Int)) (elems spare : List (DataW H)), len = hs.length ∧ d = .slice elems spare ∧ elems.length = hs.length ∧ (hs ≠ [] → ao = some ⟨b, off, none⟩) ∧ (hs ≠ [] → b < W.heap.size) ∧ HsAt W b off hs := by
  obtain ⟨fuel, hf⟩ := h
  rcases open_slice Try.underlying22 hf with ⟨h1, h2⟩ | ⟨a, len', cap', m, n, D, Pl, h1, _, hl, hm, hmm, h2, hx⟩
  · left
    simp [Value.cells] at h1
    simp only [Prod.mk.injEq] at h2
    exact ⟨h1.1, h1.2.1, h1.2.2, h2.1⟩
  · right
    simp [Value.cells] at h1
    obtain ⟨rfl, rfl, rfl⟩ := h1
    simp only [Prod.mk.injEq] at h2
    simp only [if_true] at hmm
    rw [cells27] at hx
    have hx' : ∀ i, i < len → ∃ l, HashOk l ∧ a.spot = none ∧ a.block < W.heap.size ∧ Cs W a.block (a.off + i * 32) (l.map (Value.int .u8)) := by
      intro i hi
      have h0s : a.spot = none := by
        obtain ⟨cs, h3, h4⟩ := hx 0 (by omega)
        obtain ⟨_, hlen, hc⟩ := World.cells?_some h3
        have h0 := hc 0 (by omega)
        rw [List.getElem?_eq_getElem (by omega)] at h0
        simpa [Addr.add] using World.cell?_spot h0
      obtain ⟨cs, h3, h4⟩ := hx i (by omega)
      obtain ⟨l, hok, rfl⟩ := trod_hash h4
      obtain ⟨b, off, sp⟩ := a
      simp only at h0s
      subst h0s
      obtain ⟨h5, h6⟩ := cells?_Cs h3
      have hl0 : 0 < (l.map (Value.int .u8)).length := by omega
      have h7 := h6 0 _ (List.getElem?_eq_getElem hl0)
      exact ⟨l, hok, rfl, World.block_lt_of_cell? W ⟨b, off + i * 32 + 0, none⟩ h7, h6⟩
    obtain ⟨L, hL⟩ := Deep.choose_lt (α := List Int) (p := fun i l => HashOk l ∧ a.spot = none ∧ a.block < W.heap.size ∧ Cs W a.block (a.off + i * 32) (l.map (Value.int .u8))) hx'
    refine ⟨a.block, a.off, (List.range len).map L, _, _, by simp, h2.1, by simp, ?_, ?_, ?_, ?_⟩
    · intro hne
      have : 0 < len := by
        rcases Nat.eq_zero_or_pos len with h | h
        · subst h; simp at hne
        · exact h
      have hs := (hL 0 this).2.1
      obtain ⟨b, off, sp⟩ := a
      simp only at hs ⊢
      rw [hs]
    · intro hne
      have : 0 < len := by
        rcases Nat.eq_zero_or_pos len with h | h
        · subst h; simp at hne
        · exact h
      exact (hL 0 this).2.2.1
    · intro x hx
      obtain ⟨i, hi, rfl⟩ := List.mem_map.1 hx
      exact (hL i (List.mem_range.1 hi)).1
    · intro j x hx
      rw [List.getElem?_map] at hx
      by_cases hj : j < len
      · rw [List.getElem?_range hj] at hx
        simp only [Option.map_some, Option.some.injEq] at hx
        subst hx
        exact (hL j hj).2.2.2
      · rw [List.getElem?_eq_none (by simp; omega)] at hx; cases hx

/-- .. as the walk of a law takes it -/
theorem arg_hs {H : Type} {enc : TypeId × Value → H} {W : World} {ao : Option Addr} {len cap : Nat} {ts : List TypeId} {ds : List (DataW H)} {j : Nat} {d : DataW H} {p : List MemPlace} (h : DataW.Trod enc Try.prog W 0 (fun _ => true) true 22 (.slice ao len cap) d p)
    (hsz : (DataW.weightsEach Try.prog ts ds).all (· ≤ reachBytes) = true) (ht : ts[j]? = some 22) (hd : ds[j]? = some d) : ∃ b off hs, len = hs.length ∧ HsArg W ao b off hs := by
  rcases open_hs h with ⟨rfl, rfl, rfl, rfl⟩ | ⟨b, off, hs, elems, spare, rfl, rfl, hel, h1, h2, h3⟩
  · exact ⟨0, 0, [], rfl, ⟨by simp, by simp, ⟨by simp, by simp⟩, by simp⟩⟩
  · refine ⟨b, off, hs, rfl, h1, h2, h3, ?_⟩
    have := sized_slice hsz ht hd Try.underlying22
    rw [bytes27] at this
    simp only [reachBytes] at this
    omega

end Go.Proofs.Ytinelhjkgikigaa.B
