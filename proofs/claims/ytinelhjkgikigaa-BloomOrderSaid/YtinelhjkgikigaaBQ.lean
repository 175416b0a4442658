/- Bloom: plain laws on order and repetition. -/
import Derived.Test.YtinelhjkgikigaaBP
namespace Go.Proofs.Ytinelhjkgikigaa.B
open Go Go.RowKit Go.Proofs.Ytinelhjkgikigaa.K

theorem byte_ext {x y : Int} (hx : byteOk x) (hy : byteOk y) (h : ∀ j, j < 8 → x.toNat.testBit j = y.toNat.testBit j) : x = y := by
  obtain ⟨a, rfl⟩ := Int.eq_ofNat_of_zero_le hx.1
  obtain ⟨b, rfl⟩ := Int.eq_ofNat_of_zero_le hy.1
  have ha : a < 2 ^ 8 := by have := hx.2; omega
  have hb : b < 2 ^ 8 := by have := hy.2; omega
  congr 1
  apply Nat.eq_of_testBit_eq
  intro j
  by_cases hj : j < 8
  · simpa using h j hj
  · have e1 : a < 2 ^ j := Nat.lt_of_lt_of_le ha (Nat.pow_le_pow_right (by omega) (by omega))
    have e2 : b < 2 ^ j := Nat.lt_of_lt_of_le hb (Nat.pow_le_pow_right (by omega) (by omega))
    rw [Nat.testBit_lt_two_pow e1, Nat.testBit_lt_two_pow e2]

theorem on_ext {xs ys : List Int} (hx : BytesOk xs) (hy : BytesOk ys) (hl : xs.length = ys.length) (h : ∀ m : Int, 0 ≤ m → m < 8 * xs.length → on xs m = on ys m) : xs = ys := by
  apply List.ext_getElem hl
  intro i h1 h2
  refine byte_ext (hx _ (List.getElem_mem _)) (hy _ (List.getElem_mem _)) (fun j hj => ?_)
  have := h (8 * i + j) (by omega) (by omega)
  unfold on at this
  have e1 : ((8 * (i : Int) + j) / 8).toNat = i := by omega
  have e2 : ((8 * (i : Int) + j) % 8).toNat = j := by omega
  rw [e1, e2, List.getElem?_eq_getElem h1, List.getElem?_eq_getElem h2] at this
  exact this

theorem pop8_pos {x : Int} {j : Nat} (hj : j < 8) (h : x.toNat.testBit j = true) : 0 < pop8 x := by
  unfold pop8
  rw [List.countP_pos_iff]
  exact ⟨j, by simp [hj], h⟩
theorem popAll_pos {xs : List Int} {m : Int} (h0 : 0 ≤ m) (h1 : m < 8 * xs.length) (h : on xs m = true) : 0 < popAll xs := by
  unfold on at h
  have hi : (m / 8).toNat < xs.length := by omega
  rw [List.getElem?_eq_getElem hi, Option.getD_some] at h
  have hp := pop8_pos (by omega) h
  have hmem : pop8 xs[(m / 8).toNat] ∈ xs.map pop8 := List.mem_map_of_mem (List.getElem_mem _)
  unfold popAll
  generalize xs.map pop8 = l at *
  induction l with
  | nil => cases hmem
  | cons y l ih =>
    simp only [List.sum_cons]
    rcases List.mem_cons.1 hmem with e | hm
    · omega
    · have := ih hm; omega

theorem addAll_append (bs : List Int) (p : Nat) (l m : List (List Int)) : addAll bs p (l ++ m) = addAll (addAll bs p l) p m := by simp [addAll]

/-- the second filter's adds: at each number the last ones first, then in order -/
def bothWays (hs : List (List Int)) : Nat → List (List Int)
  | 0 => []
  | k + 1 => bothWays hs k ++ [hs[hs.length - 1 - k]?.getD []] ++ [hs[k]?.getD []]
/-- the third filter's adds: every other one -/
def evens (hs : List (List Int)) : Nat → List (List Int)
  | 0 => []
  | k + 1 => if k % 2 = 0 then evens hs k ++ [hs[k]?.getD []] else evens hs k

theorem bothWays_sub (hs : List (List Int)) : ∀ k, k ≤ hs.length → ∀ h ∈ bothWays hs k, h ∈ hs
  | 0, _, h, hh => by cases hh
  | k + 1, hk, h, hh => by
    simp only [bothWays, List.mem_append, List.mem_singleton] at hh
    rcases hh with (hh | rfl) | rfl
    · exact bothWays_sub hs k (by omega) h hh
    · rw [List.getElem?_eq_getElem (by omega)]; exact List.getElem_mem _
    · rw [List.getElem?_eq_getElem (by omega)]; exact List.getElem_mem _
theorem bothWays_all (hs : List (List Int)) : ∀ k, k ≤ hs.length → ∀ i, i < k → hs[i]?.getD [] ∈ bothWays hs k
  | 0, _, i, hi => by omega
  | k + 1, hk, i, hi => by
    simp only [bothWays, List.mem_append, List.mem_singleton]
    by_cases e : i = k
    · exact .inr (by rw [e])
    · exact .inl (.inl (bothWays_all hs k (by omega) i (by omega)))
theorem evens_sub (hs : List (List Int)) : ∀ k, k ≤ hs.length → ∀ h ∈ evens hs k, h ∈ hs
  | 0, _, h, hh => by cases hh
  | k + 1, hk, h, hh => by
    unfold evens at hh
    split at hh
    · rcases List.mem_append.1 hh with hh | hh
      · exact evens_sub hs k (by omega) h hh
      · simp only [List.mem_singleton] at hh; subst hh
        rw [List.getElem?_eq_getElem (by omega)]; exact List.getElem_mem _
    · exact evens_sub hs k (by omega) h hh

theorem order_pure (hs : List (List Int)) (p n : Nat) (hp : 1 ≤ p) (hn : 1 ≤ n) :
    addAll (List.replicate n 0) p (bothWays hs hs.length) = addAll (List.replicate n 0) p hs ∧
    List.zipWith orB (addAll (List.replicate n 0) p (evens hs hs.length)) (addAll (List.replicate n 0) p hs) = addAll (List.replicate n 0) p hs ∧
    (0 < popAll (addAll (List.replicate n 0) p hs) ↔ 0 < hs.length) := by
  have r := rep_ok n
  have lr : (List.replicate n (0 : Int)).length = n := by simp
  have okA := addAll_ok p hs _ r
  have lA := addAll_len p hs (List.replicate n 0)
  have onA := fun m h => on_addAll p hs _ r (by omega) m h
  refine ⟨?_, ?_, ?_⟩
  · refine on_ext (addAll_ok p _ _ r) okA (by rw [addAll_len, lA]) (fun m h0 h1 => ?_)
    rw [on_addAll p _ _ r (by omega) m h0, onA m h0]
    congr 1
    rw [Bool.eq_iff_iff]
    simp only [decide_eq_true_eq]
    constructor
    · rintro ⟨h, hh, hm⟩; exact ⟨h, bothWays_sub hs _ (Nat.le_refl _) h hh, hm⟩
    · rintro ⟨h, hh, hm⟩
      obtain ⟨i, hi, rfl⟩ := List.mem_iff_getElem.1 hh
      have := bothWays_all hs _ (Nat.le_refl _) i hi
      rw [List.getElem?_eq_getElem hi] at this
      exact ⟨_, this, hm⟩
  · have lE := addAll_len p (evens hs hs.length) (List.replicate n 0)
    refine on_ext or_ok okA (by simp; omega) (fun m h0 h1 => ?_)
    rw [on_or (addAll_ok p _ _ r) okA (by omega), on_addAll p _ _ r (by omega) m h0, onA m h0, on_rep]
    simp only [Bool.false_or]
    rw [Bool.eq_iff_iff]
    simp only [Bool.or_eq_true, decide_eq_true_eq]
    constructor
    · rintro (⟨h, hh, hm⟩ | h)
      · exact ⟨h, evens_sub hs _ (Nat.le_refl _) h hh, hm⟩
      · exact h
    · exact .inr
  · constructor
    · intro h
      rcases Nat.eq_zero_or_pos hs.length with h0 | h0
      · obtain rfl := List.eq_nil_of_length_eq_zero h0
        rw [show addAll (List.replicate n 0) p [] = List.replicate n 0 from rfl, popAll_rep] at h
        omega
      · exact h0
    · intro h
      have hl := spotsOf_len hs[0] p n
      have hm : (spotsOf hs[0] p n)[0]'(by omega) ∈ spotsOf hs[0] p n := List.getElem_mem _
      have hr := spotsOf_rng hs[0] p n hn _ hm
      refine popAll_pos hr.1 (by rw [lA, lr]; exact hr.2) ?_
      rw [onA _ hr.1]
      simp only [Bool.or_eq_true, decide_eq_true_eq]
      exact .inr ⟨hs[0], List.getElem_mem _, by rw [lr]; exact hm⟩
end Go.Proofs.Ytinelhjkgikigaa.B
