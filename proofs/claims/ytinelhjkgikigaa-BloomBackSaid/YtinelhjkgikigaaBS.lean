/- Bloom, plain: what was encoded is decoded, and what is decoded was encoded so. -/
import Derived.Test.YtinelhjkgikigaaBI
import Derived.Test.YtinelhjkgikigaaWP
namespace Go.Proofs.Ytinelhjkgikigaa.B
open Go Go.RowKit Go.Proofs.Ytinelhjkgikigaa.K Go.Proofs.Ytinelhjkgikigaa.W
set_option maxRecDepth 100000

theorem dec_enc {p : Nat} {bs : List Int} (p1 : 1 ≤ p) (p2 : p ≤ 16) (n1 : 1 ≤ bs.length) (n2 : bs.length ≤ 8192) : (dS6 (encB p bs)).done = (0, 0) ∧ (dS3 (encB p bs)).1 = p ∧ (dS5 (encB p bs)).1 = some bs := by
  obtain ⟨B, hB⟩ : ∃ B, encB p bs = B := ⟨_, rfl⟩
  obtain ⟨u1, h1⟩ : ∃ u1, uvar (8 * bs.length) = u1 := ⟨_, rfl⟩
  obtain ⟨u2, h2⟩ : ∃ u2, uvar bs.length = u2 := ⟨_, rfl⟩
  have hB1 : B = u1 ++ ((p : Int) :: (u2 ++ bs)) := by rw [← hB, ← h1, ← h2]; simp [encB]
  have hlen : B.length = u1.length + 1 + u2.length + bs.length := by rw [hB1]; simp; omega
  have hN1 : num B 0 0 = .val (8 * bs.length) u1.length := by
    rw [hB1, ← h1, num_uvar _ 0 0 _ (by omega) (by omega) (by omega)]; simp
  have hD1 : B.drop (u1.length + 1) = u2 ++ bs := by
    rw [hB1, show u1.length + 1 = u1.length + 1 by rfl, List.drop_append]; simp
  have hN2 : num (B.drop (u1.length + 1)) 0 0 = .val bs.length u2.length := by
    rw [hD1, ← h2, num_uvar _ 0 0 _ (by omega) (by omega) (by omega)]; simp
  have hD2 : B.drop (u1.length + 1 + u2.length) = bs := by
    rw [← List.drop_drop, hD1, List.drop_append]; simp
  have hg : B[u1.length]?.getD 0 = (p : Int) := by rw [hB1]; simp
  rw [hB]
  have e1 : dS1 B = (8 * bs.length, ⟨B, u1.length, 0, 0⟩) := by
    unfold dS1 RS.num
    simp only [if_true, List.drop_zero, hN1, Nat.zero_add]
    rw [if_neg (by omega)]
  have e2 : dS2 B = ⟨B, u1.length, 0, 0⟩ := by
    unfold dS2
    rw [e1, if_pos ⟨by simp; omega, by simp; omega, by simp⟩]
  have e3 : dS3 B = ((p : Int), ⟨B, u1.length + 1, 0, 0⟩) := by
    unfold dS3 RS.byte
    rw [e2]
    simp only [if_true]
    rw [if_neg (by omega), hg]
  have e4 : dS4 B = ⟨B, u1.length + 1, 0, 0⟩ := by
    unfold dS4
    rw [e3, if_neg (by simp; omega)]
  have e5 : dS5 B = (some bs, ⟨B, u1.length + 1 + u2.length + bs.length, 0, 0⟩) := by
    unfold dS5 RS.load
    rw [e4]
    simp only [if_true, hN2, hD2, Nat.mul_one, Nat.div_one]
    rw [if_neg (by omega), if_neg (by omega), List.take_of_length_le (Nat.le_refl _)]
  have e6 : dS6 B = ⟨B, u1.length + 1 + u2.length + bs.length, 0, 0⟩ := by
    unfold dS6
    rw [e5, e1, if_pos (by simp)]
  refine ⟨?_, by rw [e3], by rw [e5]⟩
  rw [e6]
  unfold RS.done
  rw [if_neg (by simp; omega)]

theorem enc_dec {B : List Int} (ok : BytesOk B) (h : (dS6 B).done.1 = 0) : B = encB (dS3 B).1.toNat ((dS5 B).1.getD []) := by
  obtain ⟨g1, g2, g3, g4⟩ := dS6_good h
  have hw6 := done_why h
  have e6 : dS6 B = (dS5 B).2 := by unfold dS6; rw [if_pos g4]
  have e4 : dS4 B = (dS3 B).2 := by unfold dS4; rw [if_neg (by omega)]
  have e2 : dS2 B = (dS1 B).2 := by unfold dS2; rw [if_pos g1]
  have w5 : (dS5 B).2.why = 0 := by rw [← e6]; exact hw6
  have w4 : (dS4 B).why = 0 := load_why w5
  have w2 : (dS2 B).why = 0 := byte_why (by rw [e4] at w4; exact w4)
  have w1 : (dS1 B).2.why = 0 := by rw [← e2]; exact w2
  have hpos : (dS6 B).bs.length ≤ (dS6 B).pos := by
    unfold RS.done at h
    by_cases hq : (dS6 B).why = 0 ∧ (dS6 B).pos < (dS6 B).bs.length
    · rw [if_pos hq] at h; cases h
    · omega
  cases hn : num B 0 0 with
  | short => exfalso; revert w1; simp [dS1, RS.num, hn, RS.fail]
  | form k => exfalso; revert w1; simp [dS1, RS.num, hn, RS.fail]
  | val v m =>
    by_cases hv : 65536 < v
    · exfalso; revert w1; simp [dS1, RS.num, hn, RS.fail, hv]
    · have e1 : dS1 B = (v, ⟨B, m, 0, 0⟩) := by simp [dS1, RS.num, hn, hv]
      obtain ⟨v', hv', _, hml, ht, _⟩ := num_canon B 0 0 v m ok hn
      obtain rfl : v = v' := by simpa using hv'
      rw [e1] at e2
      simp only [Nat.sub_zero] at ht
      by_cases hm : B.length < m + 1
      · exfalso; revert w4; rw [e4]; unfold dS3 RS.byte; rw [e2]; simp [hm]
      · have e3 : dS3 B = (B[m]?.getD 0, ⟨B, m + 1, 0, 0⟩) := by unfold dS3 RS.byte; rw [e2]; simp [hm]
        rw [e3] at e4
        cases hn2 : num (B.drop (m + 1)) 0 0 with
        | short => exfalso; revert w5; unfold dS5 RS.load; rw [e4]; simp [hn2, RS.fail]
        | form k => exfalso; revert w5; unfold dS5 RS.load; rw [e4]; simp [hn2, RS.fail]
        | val v2 m2 =>
          by_cases h3 : (8192 : Int) < v2
          · exfalso; revert w5; unfold dS5 RS.load; rw [e4]; simp [hn2, RS.fail, h3]
          · by_cases h4 : (B.length - (m + 1 + m2)) / 1 < v2
            · exfalso; revert w5; unfold dS5 RS.load; rw [e4]; simp only [if_true, hn2]; rw [if_neg h3, if_pos h4]; simp [RS.fail]
            · have e5 : dS5 B = (some ((B.drop (m + 1 + m2)).take (v2 * 1)), ⟨B, m + 1 + m2 + v2 * 1, 0, 0⟩) := by unfold dS5 RS.load; rw [e4]; simp only [if_true, hn2]; rw [if_neg h3, if_neg h4]
              obtain ⟨v2', hv2', _, hml2, ht2, _⟩ := num_canon _ 0 0 v2 m2 (fun x hx => ok x (List.mem_of_mem_drop hx)) hn2
              obtain rfl : v2 = v2' := by simpa using hv2'
              simp only [Nat.sub_zero] at ht2
              rw [e6, e5] at hpos
              simp only [Nat.mul_one] at hpos e5
              simp only [Nat.div_one] at h4
              simp at hml2
              have hx := hml
              have htk : (B.drop (m + 1 + m2)).take v2 = B.drop (m + 1 + m2) := List.take_of_length_le (by simp; omega)
              rw [htk] at e5
              rw [e5, e1] at g4
              have hlen : (B.drop (m + 1 + m2)).length = v2 := by simp; omega
              rw [e3, e5]
              simp only [Option.getD_some] at g4 ⊢
              unfold encB
              rw [g4, hlen, ← ht, ← ht2]
              have hc : ((B[m]?.getD 0).toNat : Int) = B[m]?.getD 0 := by
                rw [e3] at g2; simp only at g2; omega
              rw [hc]
              have d1 : B.drop m = B[m]?.getD 0 :: B.drop (m + 1) := by
                rw [List.getElem?_eq_getElem (by omega), List.drop_eq_getElem_cons (by omega)]; rfl
              have d2 : B.drop (m + 1) = (B.drop (m + 1)).take m2 ++ B.drop (m + 1 + m2) := by
                have hd : B.drop (m + 1 + m2) = (B.drop (m + 1)).drop m2 := List.drop_drop.symm
                rw [hd, List.take_append_drop]
              calc B = B.take m ++ B.drop m := (List.take_append_drop m B).symm
                _ = B.take m ++ (B[m]?.getD 0 :: ((B.drop (m + 1)).take m2 ++ B.drop (m + 1 + m2))) := by rw [d1, ← d2]
                _ = _ := by simp
end Go.Proofs.Ytinelhjkgikigaa.B
