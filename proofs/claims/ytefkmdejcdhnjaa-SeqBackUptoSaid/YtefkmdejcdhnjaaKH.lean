/- Generic laws, part H: pieces of slices. -/
import Derived.Test.YtefkmdejcdhnjaaKF
import Derived.Test.YtefkmdejcdhnjaaKR
namespace Go.Proofs.Ytefkmdejcdhnjaa.K
open Go Go.RowKit
variable {P : Program}

/-- where a slice from number l on begins -/
def subB (ao : Option Addr) (m l size : Nat) : Option Addr := if m = l then ao else ao.map (·.add (l * size))
section
variable {ρ : Operand → Value} {w : World} {dst : Option Tmp} {T tt e : TypeId} {pos : String} {after : Array Edge} {g : Option (Nat × Bool)} {x lo hi : Operand} {ao : Option Addr} {n c size k : Nat} {y : Int}
theorem ex_sliceTo (hT : P.underlying T = some (.slice e)) (hs : (P.info? e).map (·.size) = some size) (hx : ρ x = .slice ao n c) (hh : ρ hi = .int .i64 y) (hy : y = k) (hk : k ≤ c) : (execOp ρ ⟨dst, .slice T x none (some hi) none, tt, pos, after, g⟩).run P w = .ok (.value (.slice ao k c)) w := by
  subst hy
  rw [Option.map_eq_some_iff] at hs
  obtain ⟨i, hi', hsz⟩ := hs
  have h1 : (k : Int) ≤ c := by omega
  have hao : ∀ l, Option.map (fun x : Addr => x.add (0 * l)) ao = ao := fun l => by cases ao <;> simp [Addr.add]
  unfold execOp
  by_cases hc : c = 0
  · obtain rfl : k = 0 := by omega
    simp [Instr.sliceAt, Instr.slice, Instr.sliceBounds, Instr.sliceBound, run_underlying hT, sizeOf, typeInfo, hi', hsz, hx, hh, hc, asIntOf]
  · simp [Instr.sliceAt, Instr.slice, Instr.sliceBounds, Instr.sliceBound, run_underlying hT, sizeOf, typeInfo, hi', hsz, hx, hh, hc, asIntOf, h1]
    cases ao <;> simp [Addr.add]
    all_goals (intro h; omega)
theorem ex_sliceFrom (hT : P.underlying T = some (.slice e)) (hs : (P.info? e).map (·.size) = some size) (hx : ρ x = .slice ao n c) (hl : ρ lo = .int .i64 y) (hy : y = k) (hk : k ≤ n) : (execOp ρ ⟨dst, .slice T x (some lo) none none, tt, pos, after, g⟩).run P w = .ok (.value (.slice (subB ao c k size) (n - k) (c - k))) w := by
  subst hy
  rw [Option.map_eq_some_iff] at hs
  obtain ⟨i, hi', hsz⟩ := hs
  have h1 : (k : Int) ≤ n := by omega
  unfold execOp
  simp [Instr.sliceAt, Instr.slice, Instr.sliceBounds, Instr.sliceBound, run_underlying hT, sizeOf, typeInfo, hi', hsz, hx, hl, asIntOf, h1, subB]
  intro h; omega
end
theorem src_to {w : World} {ao : Option Addr} {n c k : Nat} {α : Type} {f : α → List Value} {size : Nat} (hf : ∀ x, (f x).length = size) {xs : List α} (h : Src w (.slice ao n c) n (flat f xs)) (hk : k ≤ n) : Src w (.slice ao k c) k (flat f (xs.take k)) := by
  obtain ⟨ao', c', he, h0, h1⟩ := h.out
  simp only [Value.slice.injEq] at he
  obtain ⟨rfl, _, rfl⟩ := he
  refine ⟨⟨ao, c, rfl, fun hn => ⟨by have := (h0 hn).1; omega, (h0 hn).2⟩, fun a ha j u hu => h1 a ha j u ?_⟩⟩
  have hp : flat f xs = flat f (xs.take k) ++ flat f (xs.drop k) := by rw [← flat_append, List.take_append_drop]
  rw [hp, List.getElem?_append_left (List.getElem?_eq_some_iff.1 hu).1]; exact hu
theorem add_add' (a : Addr) (i j : Nat) : (a.add i).add j = a.add (i + j) := by
  unfold Addr.add
  split <;> split <;> simp_all [Nat.add_assoc]
theorem src_from {w : World} {ao : Option Addr} {n c k : Nat} {α : Type} {f : α → List Value} {size : Nat} (hf : ∀ x, (f x).length = size) {xs : List α} (h : Src w (.slice ao n c) n (flat f xs)) (hn : xs.length = n) (hk : k ≤ n) (hc : n ≤ c) : Src w (.slice (subB ao c k size) (n - k) (c - k)) (n - k) (flat f (xs.drop k)) := by
  obtain ⟨ao', c', he, h0, h1⟩ := h.out
  simp only [Value.slice.injEq] at he
  obtain ⟨rfl, _, rfl⟩ := he
  refine ⟨⟨_, _, rfl, fun hz => ?_, fun a ha j u hu => ?_⟩⟩
  · have : ao = none := by
      unfold subB at hz
      split at hz
      · exact hz
      · simpa using hz
    have := h0 this; omega
  · have hp : flat f xs = flat f (xs.take k) ++ flat f (xs.drop k) := by rw [← flat_append, List.take_append_drop]
    have hl : (flat f (xs.take k)).length = k * size := by rw [flat_len hf, List.length_take, Nat.min_eq_left (by omega)]
    have hj := (List.getElem?_eq_some_iff.1 hu).1
    unfold subB at ha
    split at ha
    · rename_i hck
      have h2 : xs.length - k = 0 := by omega
      have : (flat f (xs.drop k)).length = 0 := by rw [flat_len hf, List.length_drop, h2, Nat.zero_mul]
      omega
    · obtain ⟨a0, rfl, rfl⟩ := Option.map_eq_some_iff.1 ha
      rw [add_add']
      refine h1 a0 rfl _ u ?_
      rw [hp, List.getElem?_append_right (by omega), hl, show k * size + j - k * size = j by omega]; exact hu
end Go.Proofs.Ytefkmdejcdhnjaa.K
