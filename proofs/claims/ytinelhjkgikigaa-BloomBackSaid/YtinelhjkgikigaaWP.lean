/- Wire, plain: a number that was written is read, and what is read was written so. -/
import Derived.Test.YtinelhjkgikigaaWB
namespace Go.Proofs.Ytinelhjkgikigaa.W
open Go
set_option maxRecDepth 100000

theorem num_uvar : ∀ (n k acc : Nat) (rest : List Int), n * 2 ^ (7 * k) < 18446744073709551616 → k ≤ 9 → (0 < k → n ≠ 0) → num (uvar n ++ rest) k acc = .val (acc + n * 2 ^ (7 * k)) (k + (uvar n).length) := by
  intro n
  induction n using Nat.strongRecOn with
  | _ n ih =>
    intro k acc rest hb hk h0
    by_cases hn : n ≤ 127
    · rw [uvar_small hn]
      have h9 : k = 9 → n ≤ 1 := by
        intro h; subst h
        have : (2 : Nat) ^ (7 * 9) = 9223372036854775808 := by decide
        rw [this] at hb; omega
      have hbad : ¬ ((k = 9 ∧ 1 < (n : Int)) ∨ (0 < k ∧ (n : Int) = 0)) := by
        rintro (⟨h1, h2⟩ | ⟨h1, h2⟩)
        · have := h9 h1; omega
        · have := h0 h1; omega
      show num ((n : Int) :: rest) k acc = _
      rw [num, if_neg hbad, if_pos (by omega)]
      rfl
    · have hbig : 127 < n := by omega
      rw [uvar_big hbig]
      have h9 : k ≠ 9 := by
        intro h; subst h
        have : (2 : Nat) ^ (7 * 9) = 9223372036854775808 := by decide
        rw [this] at hb; omega
      have e7 : 2 ^ (7 * (k + 1)) = 128 * 2 ^ (7 * k) := by rw [show 7 * (k + 1) = 7 * k + 7 by omega, Nat.pow_add]; omega
      show num (((n % 128 + 128 : Nat) : Int) :: (uvar (n / 128) ++ rest)) k acc = _
      have hbad : ¬ ((k = 9 ∧ 1 < ((n % 128 + 128 : Nat) : Int)) ∨ (0 < k ∧ ((n % 128 + 128 : Nat) : Int) = 0)) := by
        rintro (⟨h1, h2⟩ | ⟨h1, h2⟩)
        · exact h9 h1
        · omega
      have hnb : ¬ ((n % 128 + 128 : Nat) : Int) < 128 := by omega
      rw [num, if_neg hbad, if_neg hnb]
      have hdm : (n / 128) * 128 ≤ n := Nat.div_mul_le_self _ _
      have hmul : (n / 128) * 2 ^ (7 * (k + 1)) = ((n / 128) * 128) * 2 ^ (7 * k) := by rw [e7, Nat.mul_assoc]
      have hle := Nat.mul_le_mul_right (2 ^ (7 * k)) hdm
      rw [ih (n / 128) (by omega) (k + 1) _ rest (by omega) (by omega) (by omega)]
      rw [hmul]
      have ht : ((n % 128 + 128 : Nat) : Int).toNat - 128 = n % 128 := by omega
      rw [ht]
      have hsum : (n % 128) * 2 ^ (7 * k) + (n / 128 * 128) * 2 ^ (7 * k) = n * 2 ^ (7 * k) := by
        rw [← Nat.add_mul]; congr 1; omega
      rw [Nat.add_assoc acc, hsum, List.length_cons, Nat.add_assoc k, Nat.add_comm 1]

theorem num_canon : ∀ (l : List Int) (k acc v m : Nat), (∀ x ∈ l, byteOk x) → num l k acc = .val v m → ∃ n, v = acc + n * 2 ^ (7 * k) ∧ k < m ∧ m ≤ k + l.length ∧ l.take (m - k) = uvar n ∧ (0 < k → n ≠ 0)
  | [], k, acc, v, m, _, h => by simp [num] at h
  | x :: l, k, acc, v, m, hok, h => by
    obtain ⟨x0, x1⟩ := hok x (by simp)
    by_cases hb : (k = 9 ∧ 1 < x) ∨ (0 < k ∧ x = 0)
    · rw [num, if_pos hb] at h; cases h
    · rw [num, if_neg hb] at h
      by_cases hs : x < 128
      · rw [if_pos hs] at h
        cases h
        refine ⟨x.toNat, rfl, by omega, by simp, ?_, by omega⟩
        rw [uvar_small (by omega), show k + 1 - k = 1 by omega]
        simp; omega
      · rw [if_neg hs] at h
        obtain ⟨n, hv, hm, hml, ht, hn0⟩ := num_canon l (k + 1) _ v m (fun y hy => hok y (by simp [hy])) h
        have hn1 := hn0 (by omega)
        have e7 : 2 ^ (7 * (k + 1)) = 128 * 2 ^ (7 * k) := by rw [show 7 * (k + 1) = 7 * k + 7 by omega, Nat.pow_add]; omega
        refine ⟨(x.toNat - 128) + n * 128, ?_, by omega, by simp; omega, ?_, by omega⟩
        · rw [hv, e7, Nat.add_mul, Nat.mul_assoc, Nat.add_assoc]
        · rw [uvar_big (by omega), show m - k = (m - (k + 1)) + 1 by omega, List.take_succ_cons, ht]
          have e1 : (x.toNat - 128 + n * 128) / 128 = n := by omega
          have e2 : ((x.toNat - 128 + n * 128) % 128 + 128 : Nat) = x.toNat := by omega
          rw [e1, e2]
          congr 1
          omega
end Go.Proofs.Ytinelhjkgikigaa.W
