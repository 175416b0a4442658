/- Seq: slices.Delete at one element; take of a row. -/
import Derived.Test.YtefkmdejcdhnjaaSK
import Derived.Test.YtefkmdejcdhnjaaKH
namespace Go.Proofs.Ytefkmdejcdhnjaa.S
open Go Go.RowKit Go.Shelf Go.Proofs.Ytefkmdejcdhnjaa.K
set_option maxRecDepth 100000

def delE (xs : List ElV) (i : Nat) : List ElV := xs.take i ++ xs.drop (i + 1)
theorem delE_len {xs : List ElV} {i : Nat} (hi : i < xs.length) : (delE xs i).length = xs.length - 1 := by simp [delE]; omega
theorem del_rows {L F : List Value} {a b k : Nat} (hF : L.take b = F) (hb : b ≤ L.length) (ha : a + k ≤ b) :
    (L.take a ++ F.drop (a + k) ++ L.drop (a + (F.drop (a + k)).length)).take (b - k) = F.take a ++ F.drop (a + k) := by
  have hFl : F.length = b := by rw [← hF, List.length_take]; omega
  have h1 : L.take a = F.take a := by rw [← hF, List.take_take, Nat.min_eq_left (by omega)]
  rw [h1, List.take_append_of_le_length (by simp; omega), List.take_of_length_le (by simp; omega)]

theorem delete_of {w : World} {s : Value} {base : Nat} {xs : List ElV} (hown : w.ownsRow base 98 67 s xs.length (flat elc xs)) {i : Nat} (hi : i < xs.length) (hsz : xs.length ≤ 1099511627776) :
    Calls Try.prog 80 #[s, .int .i64 i, .int .i64 ((i : Int) + 1)] w fun e w' =>
      ∃ v', e = .returned v' ∧ w'.ownsRow base 98 67 v' (xs.length - 1) (flat elc (delE xs i)) ∧ Chg s.ownBlock.toList w w' ∧ v'.ownBlock = s.ownBlock ∧ ∃ g c, v' = .slice (some ⟨g, 0, none⟩) (xs.length - 1) c := by
  obtain ⟨g, c, rfl⟩ := owns_some hown (by omega)
  have hG : Cs w g 0 (flat elc xs) := Cs.of_owns hown
  obtain ⟨hxl, h⟩ := hown
  rcases h with ⟨h1, _⟩ | ⟨g', cap, cur, h1, hbg, hg, hle, hmx, hcs, htk⟩
  · cases h1
  simp only [Value.slice.injEq, Option.some.injEq, Addr.mk.injEq] at h1
  obtain ⟨⟨rfl, _⟩, _, rfl⟩ := h1
  have hsz67 : (Try.prog.info? 98).map (·.size) = some 67 := aggEl.size
  have hlen : (flat elc xs).length = xs.length * 67 := flat_len elc_len xs
  have hD : ((flat elc xs).drop ((i + 1) * 67)).length = (xs.length - (i + 1)) * 67 := by rw [List.length_drop, hlen, Nat.sub_mul]
  have hcl : xs.length * 67 ≤ cur.size := by rw [hcs]; exact Nat.mul_le_mul_right _ hle
  have hil : i * 67 + (xs.length - (i + 1)) * 67 + 67 = xs.length * 67 := by
    have : (i + (xs.length - (i + 1)) + 1) * 67 = xs.length * 67 := by congr 1; omega
    omega
  obtain ⟨cur1, hc1⟩ : ∃ cur1 : Array Value, cur1 = (cur.toList.take (0 + i * 67) ++ (flat elc xs).drop ((i + 1) * 67) ++ cur.toList.drop (0 + i * 67 + ((flat elc xs).drop ((i + 1) * 67)).length)).toArray := ⟨_, rfl⟩
  have hc1s : cur1.size = cur.size := by
    rw [hc1]
    generalize hDD : (flat elc xs).drop ((i + 1) * 67) = D at hD ⊢
    simp only [List.size_toArray, List.length_append, List.length_take, List.length_drop, hD, Array.length_toList]
    omega
  obtain ⟨a', ha', hac⟩ : ∃ a', subB (some ⟨g, 0, none⟩) c (i + 1) 67 = some a' ∧ (c ≠ i + 1 → a' = ⟨g, (i + 1) * 67, none⟩) := by
    unfold subB
    split
    · rename_i hc; exact ⟨_, rfl, fun h => absurd hc h⟩
    · exact ⟨_, rfl, fun _ => by show Addr.add _ _ = _; rw [Addr.add_lit, Nat.zero_add]⟩
  have hap : ∀ ty, (Builtin.append_ #[89, 89] ty #[.slice (some ⟨g, 0, none⟩) i c, .slice (some a') (xs.length - (i + 1)) (c - (i + 1))]).run Try.prog w.drew = .ok (.slice (some ⟨g, 0, none⟩) (i + (xs.length - (i + 1))) c) (w.drew.setRow g cur1) := fun ty => by
    rw [hc1]
    refine K.run_append_room w.drew _ ty 98 67 g 0 i c a' _ _ cur 98 _ Try.underlying89 hsz67 hg hD (by omega) ?_ (by rw [hD]; omega) (fun v hv => flat_one' elc_one xs v (List.mem_of_mem_drop hv))
    intro j v hj
    have hj' := (List.getElem?_eq_some_iff.1 hj).1
    rw [hD] at hj'
    have hcne : c ≠ i + 1 := fun e => by
      have : xs.length - (i + 1) = 0 := by omega
      rw [this] at hj'; omega
    rw [hac hcne, Addr.add_lit]
    rw [List.getElem?_drop] at hj
    have := hG _ _ hj
    simpa using this
  have hin : i + (xs.length - (i + 1)) = xs.length - 1 := by omega
  rw [hin] at hap
  have hg1 : (w.drew.setRow g cur1).heap[g]? = some (.cells cur1 98 (0, 0)) := setRow_heap w.drew g cur cur1 _ _ hg
  obtain ⟨W1, hW1⟩ : ∃ W1, W1 = w.drew.setRow g cur1 := ⟨_, rfl⟩
  rw [← hW1] at hap hg1
  have hzc : zEl.cells.size = 67 := by kernel_rfl
  have hz1 : (xs.length - 1) * 67 + 1 * zEl.cells.size ≤ cur1.size := by rw [hzc, hc1s]; omega
  have hzl : zEl.cells.toList = elc ElV.zero := rfl
  have hzone : ∀ c ∈ zEl.cells.toList, c.oneCell' = true := by rw [hzl]; exact elc_one _
  have hl1 : xs.length - (xs.length - 1) = 1 := by omega
  obtain ⟨W2, hW2⟩ : ∃ W2, W2 = W1.setRow g (cur1.toList.take ((xs.length - 1) * 67) ++ (Builtin.zeroCells zEl.cells 1).toList ++ cur1.toList.drop ((xs.length - 1) * 67 + 1 * zEl.cells.size)).toArray := ⟨_, rfl⟩
  have hcl2 : ∀ ty cc, (Builtin.clear_ #[89] ty #[.slice (some ⟨g, (xs.length - 1) * 67, none⟩) (xs.length - (xs.length - 1)) cc]).run Try.prog W1 = .ok (.tuple #[]) W2 := fun ty cc => by
    rw [hl1, hW2]; exact run_clear_rowN W1 _ _ ty zEl Try.underlying89 zeroEl hzone g ((xs.length - 1) * 67) 1 cc (by omega) cur1 98 hg1 hz1
  have hfin : W2.ownsRow base 98 67 (.slice (some ⟨g, 0, none⟩) (xs.length - 1) c) (xs.length - 1) (flat elc (delE xs i)) ∧ Chg [g] w W2 := by
    have hfl : flat elc (delE xs i) = (flat elc xs).take (i * 67) ++ (flat elc xs).drop (i * 67 + 67) := by
      have e1 : (i + 1) * 67 = i * 67 + 67 := by omega
      rw [delE, flat_append, flat_take elc_len, ← e1, flat_drop elc_len]
    have hzs : (Builtin.zeroCells zEl.cells 1).size = 67 := by kernel_rfl
    have hc1l : cur1.toList.length = cur.size := by simpa using hc1s
    have hsub : (xs.length - 1) * 67 = xs.length * 67 - 67 := by omega
    have hrow := del_rows (L := cur.toList) (F := flat elc xs) (a := i * 67) (b := xs.length * 67) (k := 67) htk (by simpa using hcl) (by omega)
    have e1 : (i + 1) * 67 = i * 67 + 67 := by omega
    have hcu : cur1.toList = cur.toList.take (i * 67) ++ (flat elc xs).drop (i * 67 + 67) ++ cur.toList.drop (i * 67 + ((flat elc xs).drop (i * 67 + 67)).length) := by rw [hc1, e1, Nat.zero_add]
    rw [← hcu, ← hsub] at hrow
    refine ⟨⟨?_, .inr ⟨g, c, (cur1.toList.take ((xs.length - 1) * 67) ++ (Builtin.zeroCells zEl.cells 1).toList ++ cur1.toList.drop ((xs.length - 1) * 67 + 1 * zEl.cells.size)).toArray, rfl, hbg, ?_, by omega, hmx, ?_, ?_⟩⟩, ?_⟩
    · rw [flat_len elc_len, delE_len hi]
    · rw [hW2]; exact setRow_heap W1 g cur1 _ _ _ hg1
    · rw [← hcs, hzc]
      have : (Builtin.zeroCells zEl.cells 1).toList.length = 67 := by simpa using hzs
      simp only [List.size_toArray, List.length_append, List.length_take, List.length_drop, this, hc1l]
      omega
    · rw [hfl, ← hrow]
      show List.take _ (_ ++ _ ++ _) = _
      rw [List.append_assoc, List.take_append_of_le_length (by simp only [List.length_take, hc1l]; omega), List.take_take, Nat.min_self]
    · rw [hW2, hW1]; exact ((((Chg.refl _ w).drew).setRow (.inl (by simp)) _).setRow (.inl (by simp)) _)
  have hq1 : ¬ (c = xs.length - 1) := by omega
  have hi1 : (i : Int) + 1 ≤ (xs.length : Int) := by omega
  have hi2 : (0 : Int) ≤ (i : Int) + 1 := by omega
  have hi3 : (xs.length : Int) ≤ (c : Int) := by omega
  have hi4 : (0 : Int) ≤ (i : Int) := by omega
  have hi5 : (i : Int) ≤ (i : Int) + 1 := by omega
  have hi6 : (i : Int) ≤ (c : Int) := by omega
  have hd : ((i : Int) == (i : Int) + 1) = false := by simp; omega
  have htn : ((i : Int) + 1).toNat = i + 1 := by omega
  have HF := Lib.hid hfin
  have ha2 : (if c = i + 1 then (some ⟨g, 0, none⟩ : Option Addr) else some ⟨g, (i + 1) * 67, none⟩) = some a' := by
    rw [← ha']
    unfold subB
    split
    · rfl
    · show _ = some (Addr.add _ _); rw [Addr.add_lit, Nat.zero_add]
  have HA := Lib.hid ha2
  unfold maxLen at hmx
  clear hfin hW2 hbg hl1 ha2 hzl hzone hg1 hc1 htk hc1s hW1 hcs hcl hlen hD hxl hg hG ha' hac hil hzc hz1 hin
  go_enter Try.func80, Try.ntmps80
  go_wp2_with fail
  go_region_law (refine step_appendR rfl _ _ 89 89 rfl _ _ (by simp [Act.eval, Act.put]) (by simp [Act.eval, Act.put, HA.out]) (hap _) ?_)
  go_wp2_with ((with_reducible show wpList _ _ _ (⟨none, _, _, _, _, _⟩ :: _) _ _); refine wpList_clearR _ rfl _ 89 rfl _ rfl (hcl2 _ _) ?_)
  all_goals go_ret
  all_goals first | exact ⟨_, rfl, HF.out.1, HF.out.2, rfl, _, _, rfl⟩ | (have hce : c = i + 1 := (by assumption); subst hce; exact ⟨_, rfl, HF.out.1, HF.out.2, rfl, _, _, rfl⟩)
end Go.Proofs.Ytefkmdejcdhnjaa.S
