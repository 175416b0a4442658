/- Seq: slices.Insert and slices.Delete at elements; put, take. -/
import Derived.Test.YtefkmdejcdhnjaaSD
import Derived.Test.YtefkmdejcdhnjaaKF
import Derived.Deep.RegionLaw
import Derived.Laws.Externs
namespace Go.Proofs.Ytefkmdejcdhnjaa.S
open Go Go.RowKit Go.Shelf Go.Proofs.Ytefkmdejcdhnjaa.K
set_option maxRecDepth 100000

theorem flat_take {α : Type} {f : α → List Value} {c : Nat} (hc : ∀ x, (f x).length = c) : ∀ (xs : List α) (k : Nat), (flat f xs).take (k * c) = flat f (xs.take k)
  | [], k => by simp [flat]
  | x :: xs, 0 => by simp [flat]
  | x :: xs, k + 1 => by
    rw [flat_cons, List.take_succ_cons, flat_cons, Nat.succ_mul, List.take_append, hc, List.take_of_length_le (by rw [hc]; omega), show k * c + c - c = k * c by omega, flat_take hc xs k]
theorem flat_drop {α : Type} {f : α → List Value} {c : Nat} (hc : ∀ x, (f x).length = c) : ∀ (xs : List α) (k : Nat), (flat f xs).drop (k * c) = flat f (xs.drop k)
  | [], k => by simp [flat]
  | x :: xs, 0 => by simp [flat]
  | x :: xs, k + 1 => by
    rw [flat_cons, List.drop_succ_cons, Nat.succ_mul, List.drop_append, hc, List.drop_eq_nil_of_le (by rw [hc]; omega), List.nil_append, show k * c + c - c = k * c by omega, flat_drop hc xs k]
theorem flat_one' {α : Type} {f : α → List Value} (h : ∀ x, ∀ c ∈ f x, c.oneCell' = true) (xs : List α) : ∀ c ∈ flat f xs, c.oneCell' = true := by
  intro c hc
  obtain ⟨x, _, hx⟩ := flat_mem hc
  exact h x c hx

/-- what Insert leaves -/
def InsPost (w : World) (base : Nat) (s : Value) (xs : List ElV) (i : Nat) (x : ElV) (e : Ending) (w' : World) : Prop :=
  ∃ v', e = .returned v' ∧ w'.ownsRow base 98 67 v' (xs.length + 1) (flat elc (xs.take i ++ x :: xs.drop i)) ∧ Chg s.ownBlock.toList w w' ∧ (∀ g, v'.ownBlock = some g → s.ownBlock = some g ∨ w.heap.size ≤ g)

theorem insert_end {w : World} {s : Value} {base : Nat} {xs : List ElV} (hown : w.ownsRow base 98 67 s xs.length (flat elc xs)) (x : ElV) {vb : Nat} (hvb : w.heap[vb]? = some (.cells (elc x).toArray 98 (0, 0))) (hbase : base ≤ w.heap.size) (hsz : xs.length + 1 ≤ 1099511627776) :
    Calls Try.prog 76 #[s, .int .i64 xs.length, .slice (some ⟨vb, 0, none⟩) 1 1] w (InsPost w base s xs xs.length x) := by
  have hsrc : Src w (.slice (some ⟨vb, 0, none⟩) 1 1) 1 (elc x) := Src.of_Cs (Cs.of_heap hvb 0 (by intro j u hu; simpa using hu))
  have hfin : flat elc (xs.take xs.length ++ x :: xs.drop xs.length) = flat elc xs ++ elc x := by simp [flat]
  obtain ⟨ao, c, hs, hao⟩ := owns_form hown
  have hc : xs.length ≤ c ∧ c ≤ maxLen ∧ (ao = none → c = 0) := by
    rcases hown.2 with ⟨h1, h2⟩ | ⟨g, cap, cur, h1, _, _, hle, hmx, _⟩
    · rw [h1] at hs; simp only [Value.slice.injEq] at hs; obtain ⟨rfl, _, rfl⟩ := hs; exact ⟨by omega, by unfold maxLen; omega, fun _ => rfl⟩
    · rw [h1] at hs; simp only [Value.slice.injEq] at hs; obtain ⟨rfl, _, rfl⟩ := hs; exact ⟨hle, hmx, fun h => by cases h⟩
  subst hs
  obtain ⟨hc1, hc2, hc3⟩ := hc
  unfold maxLen at hc2
  have HF := Lib.hid hfin
  have HA := Lib.hid hao
  have H3 := Lib.hid hc3
  clear hfin hao hc3
  go_enter Try.func76, Try.ntmps76
  go_wp2_with ((with_reducible show wpList _ _ _ (⟨some 25, _, _, _, _, _⟩ :: _) _ _); refine wpList_appendSrc slEl (.slice ao xs.length c) xs.length (flat elc xs) (.slice (some ⟨vb, 0, none⟩) 1 1) 1 (elc x) rfl rfl hown hsrc (by simp [elc_len]) (elc_one x) (by omega) (by unfold maxLen; omega) hbase ?_; intro v' w' hown1 hch hnil hloc)
  all_goals go_ret
  all_goals first
    | exact ⟨v', rfl, by rw [HF.out]; exact hown1, hch, hloc⟩
    | (have e : c = xs.length := by omega
       subst e
       exact ⟨v', rfl, by rw [HF.out]; exact hown1, hch, hloc⟩)

theorem ins_rows {L F X : List Value} {a b k : Nat} (hF : L.take b = F) (hb : b ≤ L.length) (ha : a ≤ b) (hX : X.length = k) (hk : b + k ≤ L.length) :
    ((L.take (a + k) ++ F.drop a ++ L.drop (a + k + (F.drop a).length)).take a ++ X ++ (L.take (a + k) ++ F.drop a ++ L.drop (a + k + (F.drop a).length)).drop (a + k)).take (b + k) = F.take a ++ X ++ F.drop a := by
  have hFl : F.length = b := by rw [← hF, List.length_take]; omega
  have h1 : (L.take (a + k) ++ F.drop a ++ L.drop (a + k + (F.drop a).length)).take a = F.take a := by
    rw [List.append_assoc, List.take_append_of_le_length (by rw [List.length_take]; omega), List.take_take, Nat.min_eq_left (by omega), ← hF, List.take_take, Nat.min_eq_left ha]
  have h2 : (L.take (a + k) ++ F.drop a ++ L.drop (a + k + (F.drop a).length)).drop (a + k) = F.drop a ++ L.drop (a + k + (F.drop a).length) := by
    rw [List.append_assoc, List.drop_append, List.drop_eq_nil_of_le (by rw [List.length_take]; omega), List.nil_append, List.length_take, Nat.min_eq_left (by omega), Nat.sub_self, List.drop_zero]
  rw [h1, h2, ← List.append_assoc, List.take_append_of_le_length (by simp; omega), List.take_of_length_le (by simp; omega)]

theorem sizeEl (w : World) : (Go.sizeOf 98).run Try.prog w = .ok 67 w := by
  have h := aggEl.size
  rw [Option.map_eq_some_iff] at h
  obtain ⟨i, hi, h1⟩ := h
  simp [sizeOf, typeInfo, hi, h1]

theorem insert_room {w : World} {base g c i : Nat} {xs : List ElV} (hown : w.ownsRow base 98 67 (.slice (some ⟨g, 0, none⟩) xs.length c) xs.length (flat elc xs)) (hi : i < xs.length) (hroom : xs.length + 1 ≤ c) (x : ElV) {vb : Nat} (hvb : w.heap[vb]? = some (.cells (elc x).toArray 98 (0, 0))) (hne : vb ≠ g) (hsz : xs.length + 1 ≤ 1099511627776) :
    Calls Try.prog 76 #[.slice (some ⟨g, 0, none⟩) xs.length c, .int .i64 i, .slice (some ⟨vb, 0, none⟩) 1 1] w (InsPost w base (.slice (some ⟨g, 0, none⟩) xs.length c) xs i x) := by
  have hsrc : Cs w vb 0 (elc x) := Cs.of_heap hvb 0 (by intro j u hu; simpa using hu)
  have hown0 := hown
  obtain ⟨hxl, h⟩ := hown
  rcases h with ⟨h1, _⟩ | ⟨g', cap, cur, h1, hbg, hg, hle, hmx, hcs, htk⟩
  · cases h1
  simp only [Value.slice.injEq, Option.some.injEq, Addr.mk.injEq] at h1
  obtain ⟨⟨rfl, _⟩, _, rfl⟩ := h1
  have hsz67 : (Try.prog.info? 98).map (·.size) = some 67 := aggEl.size
  have hov : ∀ lb cb, (callFunc 81 #[.slice (some ⟨vb, 0, none⟩) 1 1, .slice (some ⟨g, (i + 1) * 67, none⟩) lb cb]).run Try.prog w = .ok (.value (.bool false)) w := fun lb cb => by
    rw [run_callFunc_extern Try.func81 (by kernel_rfl) (by kernel_rfl) (by kernel_rfl) (e := Extern.SlicesOverlaps.overlaps #[89, 89] #[4]) (by kernel_rfl),
      Lib.run_overlaps_apart w 89 4 98 Try.underlying89 67 (sizeEl) ⟨vb, 0, none⟩ ⟨g, (i + 1) * 67, none⟩ 1 1 lb cb hne 98 98 67 cur.size (by simp [World.shape?, hvb, elc_len]) (by simp [World.shape?, hg]) (by have := Nat.mul_le_mul_right 67 (show 1 ≤ c by omega); omega) (frozen_of_row w vb 0 _ _ hvb) (frozen_of_row w vb 67 _ _ hvb)]
    rfl
  have hlen : (flat elc xs).length = xs.length * 67 := flat_len elc_len xs
  have hD : flat elc (xs.drop i) = (flat elc xs).drop (i * 67) := (flat_drop elc_len xs i).symm
  have hDl : ((flat elc xs).drop (i * 67)).length = (xs.length - i) * 67 := by rw [List.length_drop, hlen, Nat.sub_mul]
  have hcl : (xs.length + 1) * 67 ≤ cur.size := by rw [hcs]; exact Nat.mul_le_mul_right _ hroom
  have hcur1 : ∃ cur1 : Array Value, cur1 = (cur.toList.take ((i + 1) * 67) ++ (flat elc xs).drop (i * 67) ++ cur.toList.drop ((i + 1) * 67 + ((flat elc xs).drop (i * 67)).length)).toArray := ⟨_, rfl⟩
  obtain ⟨cur1, hc1⟩ := hcur1
  have hc1s : cur1.size = cur.size := by rw [hc1]; simp; omega
  have hcp1 : ∀ ty dc sc, (Builtin.copy_ #[89, 89] ty #[.slice (some ⟨g, (i + 1) * 67, none⟩) (xs.length - i) dc, .slice (some ⟨g, i * 67, none⟩) (xs.length + 1 - i) sc]).run Try.prog w.drew = .ok (goInt (Nat.min (xs.length + 1 - i) (xs.length - i))) (w.drew.setRow g cur1) := fun ty dc sc => by
    rw [hc1]
    refine run_copy_rowN w.drew _ _ ty 98 67 g ((i + 1) * 67) _ dc ⟨g, i * 67, none⟩ _ sc cur 98 _ Try.underlying89 hsz67 hg ?_ ?_ ?_ ?_
    · rw [hDl]; congr 1; show _ = min _ _; omega
    · intro j v hj
      rw [Addr.add_lit]
      have := cell_of_row w g (i * 67 + j) cur _ _ hg
      refine Eq.trans (b := w.cell? ⟨g, i * 67 + j, none⟩) rfl ?_
      rw [this]
      rw [List.getElem?_drop] at hj
      have hlt := (List.getElem?_eq_some_iff.1 hj).1
      rw [← htk, List.getElem?_take] at hj
      split at hj
      · simpa using hj
      · cases hj
    · rw [hDl]
      have : (i + 1) * 67 + (xs.length - i) * 67 = (xs.length + 1) * 67 := by rw [← Nat.add_mul]; congr 1; omega
      omega
    · intro v hv; exact flat_one' elc_one xs v (List.mem_of_mem_drop hv)
  have hg1 : (w.drew.setRow g cur1).heap[g]? = some (.cells cur1 98 (0, 0)) := setRow_heap w.drew g cur cur1 _ _ hg
  have hv1 : Cs (w.drew.setRow g cur1) vb 0 (elc x) := hsrc.chg (((Chg.refl [g] w).drew).setRow (.inl (by simp)) _) (by simpa using hne)
  obtain ⟨W1, hW1⟩ : ∃ W1, W1 = w.drew.setRow g cur1 := ⟨_, rfl⟩
  rw [← hW1] at hg1 hv1 hcp1
  have hfit2 : i * 67 + 67 ≤ cur1.size := by
    have := Nat.mul_le_mul_right 67 (show i + 1 ≤ xs.length + 1 by omega)
    omega
  have hmin2 : Nat.min 1 (xs.length + 1 - i) = 1 := by show min _ _ = _; omega
  have hcp2 : ∀ ty dc, (Builtin.copy_ #[89, 89] ty #[.slice (some ⟨g, i * 67, none⟩) (xs.length + 1 - i) dc, .slice (some ⟨vb, 0, none⟩) 1 1]).run Try.prog W1 = .ok (goInt (Nat.min 1 (xs.length + 1 - i))) (W1.setRow g (cur1.toList.take (i * 67) ++ elc x ++ cur1.toList.drop (i * 67 + (elc x).length)).toArray) := fun ty dc =>
    run_copy_rowN W1 _ _ ty 98 67 g (i * 67) (xs.length + 1 - i) dc ⟨vb, 0, none⟩ 1 1 cur1 98 (elc x) Try.underlying89 hsz67 hg1 (by rw [elc_len, hmin2]) (fun j v hj => by rw [Addr.add_lit]; exact hv1 j v hj) (by rw [elc_len]; exact hfit2) (elc_one x)
  have hz2 : ¬ ((i : Int) = (xs.length : Int)) := by omega
  have hq1 : ¬ (c = i + 1) := by omega
  have hq2 : ¬ (c = i) := by omega
  have HO := Lib.hid hown0
  have HH := Lib.hid hg1
  have HC := Lib.hid hc1
  have HT := Lib.hid htk
  have HB := Lib.hid hbg
  have HS := Lib.hid hc1s
  have HW := Lib.hid hW1
  have HCS := Lib.hid hcs
  have HL := Lib.hid hcl
  unfold maxLen at hmx
  clear hmin2 hfit2 hg1 hc1 htk hc1s hW1 hcs hcl hlen hD hDl hxl hg hvb hsrc hv1
  go_enter Try.func76, Try.ntmps76
  go_wp2_with (simp only [hov])
  have hw1 : IntKind.i64.wrap ((i : Int) + 1) = (i : Int) + 1 := by rw [IntKind.wrap_i64]; omega
  have hb1 : (0 : Int) ≤ (i : Int) + 1 := by omega
  have hb3 : (i : Int) ≤ (xs.length : Int) := by omega
  have hb4 : (i : Int) ≤ (xs.length : Int) + 1 := by omega
  have hb5 : (0 : Int) ≤ (i : Int) := by omega
  have hin : i ≤ xs.length := by omega
  have htn : ((i : Int) + 1).toNat = i + 1 := by omega
  go_region_law (refine step_copyR rfl _ _ 89 89 rfl _ _ (by simp [Act.eval, Act.put]) (by simp [Act.eval, Act.put]) (hcp1 _ _ _) ?_)
  go_wp2_with ((with_reducible show wpList _ _ _ (⟨some 82, _, _, _, _, _⟩ :: _) _ _); refine wpList_copyR _ rfl _ _ 89 89 rfl _ _ rfl rfl (hcp2 _ _) ?_)
  go_ret
  have hlen : (flat elc xs).length = xs.length * 67 := flat_len elc_len xs
  have hrow := ins_rows (L := cur.toList) (F := flat elc xs) (X := elc x) (a := i * 67) (b := xs.length * 67) (k := 67) HT.out (by have := HL.out; simp; omega) (Nat.mul_le_mul_right _ (by omega)) (elc_len x) (by have := HL.out; simp; omega)
  have e1 : (i + 1) * 67 = i * 67 + 67 := by omega
  have hcu : cur1.toList = cur.toList.take (i * 67 + 67) ++ (flat elc xs).drop (i * 67) ++ cur.toList.drop (i * 67 + 67 + ((flat elc xs).drop (i * 67)).length) := by rw [HC.out, e1]
  rw [← hcu] at hrow
  have hfl : flat elc (xs.take i ++ x :: xs.drop i) = (flat elc xs).take (i * 67) ++ elc x ++ (flat elc xs).drop (i * 67) := by
    rw [flat_append, flat_cons, flat_take elc_len, flat_drop elc_len, List.append_assoc]
  have hc2l : (cur1.toList.take (i * 67) ++ elc x ++ cur1.toList.drop (i * 67 + 67)).length = cur.size := by
    have := HS.out
    have := HL.out
    have := Nat.mul_le_mul_right 67 (show i + 1 ≤ xs.length + 1 by omega)
    simp [elc_len]; omega
  refine ⟨.slice (some ⟨g, 0, none⟩) (xs.length + 1) c, rfl, ⟨?_, .inr ⟨g, c, (cur1.toList.take (i * 67) ++ elc x ++ cur1.toList.drop (i * 67 + (elc x).length)).toArray, rfl, HB.out, (by have := setRow_heap W1 g cur1 (cur1.toList.take (i * 67) ++ elc x ++ cur1.toList.drop (i * 67 + (elc x).length)).toArray _ _ HH.out; simpa using this), hroom, by unfold maxLen; omega, ?_, ?_⟩⟩, ?_, ?_⟩
  · rw [flat_len elc_len]; simp; omega
  · rw [elc_len, ← HCS.out]; simpa using hc2l
  · rw [elc_len, hfl]
    have e2 : (xs.length + 1) * 67 = xs.length * 67 + 67 := by omega
    rw [e2]; simpa using hrow
  · rw [HW.out]; exact ((((Chg.refl _ w).drew).setRow (.inl (by simp [Value.ownBlock])) _).setRow (.inl (by simp [Value.ownBlock])) _)
  · intro g' hg'; exact .inl hg'

theorem insert_grow {w : World} {base g c i : Nat} {xs : List ElV} (hown : w.ownsRow base 98 67 (.slice (some ⟨g, 0, none⟩) xs.length c) xs.length (flat elc xs)) (hi : i < xs.length) (hroom : c < xs.length + 1) (x : ElV) {vb : Nat} (hvb : w.heap[vb]? = some (.cells (elc x).toArray 98 (0, 0))) (hbase : base ≤ w.heap.size) (hsz : xs.length + 1 ≤ 1099511627776) :
    Calls Try.prog 76 #[.slice (some ⟨g, 0, none⟩) xs.length c, .int .i64 i, .slice (some ⟨vb, 0, none⟩) 1 1] w (InsPost w base (.slice (some ⟨g, 0, none⟩) xs.length c) xs i x) := by
  have hsrc : Cs w vb 0 (elc x) := Cs.of_heap hvb 0 (by intro j u hu; simpa using hu)
  have hG : Cs w g 0 (flat elc xs) := Cs.of_owns hown
  have hgl : g < w.heap.size := (hown.lt g rfl).2
  have hvl : vb < w.heap.size := (Array.getElem?_eq_some_iff.1 hvb).1
  have hnc : xs.length ≤ c := by
    rcases hown.2 with ⟨h1, _⟩ | ⟨g', cap, cur, h1, _, _, hle, _⟩
    · cases h1
    · simp only [Value.slice.injEq] at h1; obtain ⟨_, _, rfl⟩ := h1; exact hle
  obtain rfl : c = xs.length := by omega
  obtain ⟨i0, hi0, hz0, hz1, hz2⟩ := info_parts slEl.info
  have hlen : (flat elc xs).length = xs.length * 67 := flat_len elc_len xs
  have htl : ((flat elc xs).take (i * 67)).length = i * 67 := by rw [List.length_take, hlen]; have := Nat.mul_le_mul_right 67 (show i ≤ xs.length by omega); omega
  have hD : ((flat elc xs).drop (i * 67)).length = (xs.length - i) * 67 := by rw [List.length_drop, hlen, Nat.sub_mul]
  have hm : ((xs.length : Int) + 1 - i) = ((xs.length + 1 - i : Nat) : Int) := by omega
  have hin : i + (xs.length + 1 - i) = xs.length + 1 := by omega
  have hap0 : ∀ ty, (Builtin.append_ #[89, 3] ty #[.slice (some ⟨g, 0, none⟩) i xs.length, .int .i64 ((xs.length : Int) + 1 - i)]).run Try.prog w =
      .ok (.slice (some ⟨w.heap.size, 0, none⟩) (xs.length + 1) (grownCap w (xs.length + 1) xs.length 98)) (w.drew.alloc (.cells (((flat elc xs).take (i * 67)).toArray ++ Builtin.zeroCells zEl.cells (xs.length + 1 - i) ++ Builtin.zeroCells zEl.cells (grownCap w (xs.length + 1) xs.length 98 - (xs.length + 1))) 98)) := fun ty => by
    have := run_append_zeros_grow w 89 3 ty 98 i0 zEl .i64 .i64 Try.underlying89 Try.underlying3 hi0 hz0 ⟨g, 0, none⟩ i xs.length (xs.length + 1 - i) ((flat elc xs).take (i * 67)) (by rw [htl, hz1]) (fun j v hj => by
      rw [Addr.add_lit]
      rw [List.getElem?_take] at hj
      split at hj
      · exact hG j v hj
      · cases hj) (by omega) (by omega) (by omega) (by omega) (by rw [hz2]; omega)
    rw [hin] at this
    rw [hm]; exact this
  have hK1 := grownCap_ge w (xs.length + 1) xs.length 98
  have hK2 := grownCap_le_maxLen w (xs.length + 1) xs.length 98 (by unfold maxLen; omega)
  obtain ⟨K, hK⟩ : ∃ K, grownCap w (xs.length + 1) xs.length 98 = K := ⟨_, rfl⟩
  rw [hK] at hap0 hK1 hK2
  have hzc : zEl.cells.size = 67 := by kernel_rfl
  obtain ⟨row2, hr2⟩ : ∃ row2 : Array Value, row2 = ((flat elc xs).take (i * 67)).toArray ++ Builtin.zeroCells zEl.cells (xs.length + 1 - i) ++ Builtin.zeroCells zEl.cells (K - (xs.length + 1)) := ⟨_, rfl⟩
  have hr2l : row2.toList = (flat elc xs).take (i * 67) ++ ((Builtin.zeroCells zEl.cells (xs.length + 1 - i)).toList ++ (Builtin.zeroCells zEl.cells (K - (xs.length + 1))).toList) := by rw [hr2]; simp
  have hr2s : row2.size = K * 67 := by
    have e1 := zeroCells_len zEl.cells (xs.length + 1 - i)
    have e2 := zeroCells_len zEl.cells (K - (xs.length + 1))
    rw [hzc] at e1 e2
    have : row2.size = row2.toList.length := by simp
    rw [this, hr2l, List.length_append, List.length_append, htl, e1, e2]
    rw [← Nat.add_mul, ← Nat.add_mul]; congr 1; omega
  rw [← hr2] at hap0
  have hKl : (xs.length + 1) * 67 ≤ K * 67 := Nat.mul_le_mul_right _ hK1
  have hil : (i + 1) * 67 ≤ (xs.length + 1) * 67 := Nat.mul_le_mul_right _ (by omega)
  obtain ⟨W2, hW2⟩ : ∃ W2, W2 = w.drew.alloc (.cells row2 98) := ⟨_, rfl⟩
  have hch2 : Chg [] w W2 := by rw [hW2]; exact ((Chg.refl _ _).drew).alloc _
  have hg2 : W2.heap[w.heap.size]? = some (.cells row2 98 (0, 0)) := by rw [hW2]; exact heap_new w.drew _
  rw [← hW2] at hap0
  have hsz67 : (Try.prog.info? 98).map (·.size) = some 67 := aggEl.size
  have hmin2 : Nat.min 1 (xs.length + 1 - i) = 1 := by show min _ _ = _; omega
  obtain ⟨row3, hr3⟩ : ∃ row3 : Array Value, row3 = (row2.toList.take (i * 67) ++ elc x ++ row2.toList.drop (i * 67 + (elc x).length)).toArray := ⟨_, rfl⟩
  have hcp3 : ∀ ty dc, (Builtin.copy_ #[89, 89] ty #[.slice (some ⟨w.heap.size, i * 67, none⟩) (xs.length + 1 - i) dc, .slice (some ⟨vb, 0, none⟩) 1 1]).run Try.prog W2 = .ok (goInt (Nat.min 1 (xs.length + 1 - i))) (W2.setRow w.heap.size row3) := fun ty dc => by
    rw [hr3]
    exact run_copy_rowN W2 _ _ ty 98 67 w.heap.size (i * 67) (xs.length + 1 - i) dc ⟨vb, 0, none⟩ 1 1 row2 98 (elc x) Try.underlying89 hsz67 hg2 (by rw [elc_len, hmin2]) (fun j v hj => by rw [Addr.add_lit]; exact hsrc.chg hch2 (by simp) j v hj) (by rw [elc_len]; omega) (elc_one x)
  have hr3l : row3.toList = (flat elc xs).take (i * 67) ++ (elc x ++ row2.toList.drop (i * 67 + 67)) := by
    rw [hr3, elc_len]
    have : row2.toList.take (i * 67) = (flat elc xs).take (i * 67) := by rw [hr2l, List.take_append_of_le_length (by omega), List.take_of_length_le (by omega)]
    rw [this]; simp
  have hr3s : row3.size = K * 67 := by
    have : row3.size = row3.toList.length := by simp
    rw [this, hr3l]; simp [elc_len, htl]; omega
  obtain ⟨W3, hW3⟩ : ∃ W3, W3 = W2.setRow w.heap.size row3 := ⟨_, rfl⟩
  have hch3 : Chg [] w W3 := by rw [hW3]; exact hch2.trans' ((Chg.refl [w.heap.size] W2).setRow (.inl (by simp)) _) (fun _ h _ => h) (fun i hi hl => by simp at hi; omega)
  have hg3 : W3.heap[w.heap.size]? = some (.cells row3 98 (0, 0)) := by rw [hW3]; exact setRow_heap _ _ _ _ _ _ hg2
  rw [← hW3] at hcp3
  have hG3 := hG.chg hch3 (by simp)
  have hG4 : Cs W3.drew g 0 (flat elc xs) := hG3.chg (Chg.refl [] W3).drew (by simp)
  have hcp4 : ∀ ty dc sc, (Builtin.copy_ #[89, 89] ty #[.slice (some ⟨w.heap.size, (i + 1) * 67, none⟩) (xs.length - i) dc, .slice (some ⟨g, i * 67, none⟩) (xs.length - i) sc]).run Try.prog W3.drew = .ok (goInt (Nat.min (xs.length - i) (xs.length - i))) (W3.drew.setRow w.heap.size (row3.toList.take ((i + 1) * 67) ++ (flat elc xs).drop (i * 67) ++ row3.toList.drop ((i + 1) * 67 + ((flat elc xs).drop (i * 67)).length)).toArray) := fun ty dc sc => by
    refine run_copy_rowN W3.drew _ _ ty 98 67 w.heap.size ((i + 1) * 67) _ dc ⟨g, i * 67, none⟩ _ sc row3 98 _ Try.underlying89 hsz67 hg3 ?_ ?_ ?_ ?_
    · rw [hD]; congr 1; show _ = min _ _; omega
    · intro j v hj
      rw [List.getElem?_drop] at hj
      rw [Addr.add_lit]
      have := hG4 _ _ hj
      simpa using this
    · rw [hD]
      have : (i + 1) * 67 + (xs.length - i) * 67 = (xs.length + 1) * 67 := by rw [← Nat.add_mul]; congr 1; omega
      omega
    · intro v hv; exact flat_one' elc_one xs v (List.mem_of_mem_drop hv)
  have hz2 : ¬ ((i : Int) = (xs.length : Int)) := by omega
  have hq1 : ¬ (K = i + 1) := by omega
  have hq2 : ¬ (K = i) := by omega
  have hq3 : ¬ (xs.length = i) := by omega
  have H1 := Lib.hid hr3l
  have H2 := Lib.hid hr3s
  have H3 := Lib.hid hch3
  have H4 := Lib.hid hg3
  have H5 := Lib.hid htl
  have H6 := Lib.hid hD
  have H7 := Lib.hid hlen
  clear hr3l hr3s hch3 hg3 htl hD hlen hG hG3 hG4 hW3 hr3 hW2 hr2 hr2l hr2s hg2 hch2 hm hin hK hi0 hz0 hz1 hz2 hsrc hvb hmin2
  unfold maxLen at hK2
  have hw3 : (0 : Int) ≤ (xs.length : Int) + 1 - i := by omega
  go_enter Try.func76, Try.ntmps76
  go_wp2_with (first
    | ((with_reducible show wpList _ _ _ (⟨some 40, _, _, _, _, _⟩ :: _) _ _); refine Go.Lib.wpList_append_run _ rfl _ _ _ _ rfl _ _ rfl rfl _ _ (hap0 _) ?_)
    | ((with_reducible show wpList _ _ _ (⟨some 45, _, _, _, _, _⟩ :: _) _ _); refine wpList_copyR _ rfl _ _ 89 89 rfl _ _ rfl rfl (hcp3 _ _) ?_))
  have hw1 : IntKind.i64.wrap ((i : Int) + 1) = (i : Int) + 1 := by rw [IntKind.wrap_i64]; omega
  have hb1 : (0 : Int) ≤ (i : Int) + 1 := by omega
  have hb3 : (i : Int) ≤ (xs.length : Int) := by omega
  have hb4 : (i : Int) ≤ (xs.length : Int) + 1 := by omega
  have hb5 : (0 : Int) ≤ (i : Int) := by omega
  have hin : i ≤ xs.length := by omega
  have htn : ((i : Int) + 1).toNat = i + 1 := by omega
  go_region_law (refine step_copyR rfl _ _ 89 89 rfl _ _ (by simp [Act.eval, Act.put]) (by simp [Act.eval, Act.put]) (hcp4 _ _ _) ?_)
  go_wp2
  go_ret
  have e1 : (i + 1) * 67 = i * 67 + 67 := by omega
  have hfl : flat elc (xs.take i ++ x :: xs.drop i) = (flat elc xs).take (i * 67) ++ (elc x ++ (flat elc xs).drop (i * 67)) := by
    rw [flat_append, flat_cons, flat_take elc_len, flat_drop elc_len]
  have ht3 : row3.toList.take ((i + 1) * 67) = (flat elc xs).take (i * 67) ++ elc x := by
    rw [H1.out, e1, ← List.append_assoc, List.take_append_of_le_length (by simp [elc_len, H5.out]), List.take_of_length_le (by simp [elc_len, H5.out])]
  have hl4 : (row3.toList.take ((i + 1) * 67) ++ (flat elc xs).drop (i * 67) ++ row3.toList.drop ((i + 1) * 67 + ((flat elc xs).drop (i * 67)).length)).length = K * 67 := by
    have h3 : row3.toList.length = K * 67 := by simpa using H2.out
    have h6 : (i + 1) * 67 + (xs.length - i) * 67 = (xs.length + 1) * 67 := by rw [← Nat.add_mul]; congr 1; omega
    have h6' := H6.out
    generalize (flat elc xs).drop (i * 67) = D at h6' ⊢
    rw [List.length_append, List.length_append, List.length_take, List.length_drop, h6', h3]; omega
  refine ⟨.slice (some ⟨w.heap.size, 0, none⟩) (xs.length + 1) K, rfl, ⟨?_, .inr ⟨w.heap.size, K, (row3.toList.take ((i + 1) * 67) ++ (flat elc xs).drop (i * 67) ++ row3.toList.drop ((i + 1) * 67 + ((flat elc xs).drop (i * 67)).length)).toArray, rfl, hbase, (by have := setRow_heap W3.drew w.heap.size row3 (row3.toList.take ((i + 1) * 67) ++ (flat elc xs).drop (i * 67) ++ row3.toList.drop ((i + 1) * 67 + ((flat elc xs).drop (i * 67)).length)).toArray _ _ H4.out; simpa using this), hK1, by unfold maxLen; omega, ?_, ?_⟩⟩, ?_, ?_⟩
  · rw [flat_len elc_len]; simp; omega
  · simpa using hl4
  · rw [hfl, ht3, List.append_assoc, List.append_assoc, ← List.append_assoc (elc x), ← List.append_assoc, List.take_append_of_le_length, List.take_of_length_le]
    · rw [List.length_append, List.length_append, H5.out, elc_len, H6.out]
      have h6 : i * 67 + (67 + (xs.length - i) * 67) = (xs.length + 1) * 67 := by omega
      omega
    · rw [List.length_append, List.length_append, H5.out, elc_len, H6.out]
      omega
  · exact (H3.out.weak).trans' ((((Chg.refl [w.heap.size] W3).drew).setRow (.inl (by simp)) _)) (fun _ h _ => h) (fun i hi hl => by simp at hi; omega)
  · intro g' hg'; right; simp [Value.ownBlock] at hg'; omega

/-- slices.Insert(s, i, x) at a slice that is owned -/
theorem insert_of {w : World} {s : Value} {base : Nat} {xs : List ElV} (hown : w.ownsRow base 98 67 s xs.length (flat elc xs)) {i : Nat} (hi : i ≤ xs.length) (x : ElV) {vb : Nat} (hvb : w.heap[vb]? = some (.cells (elc x).toArray 98 (0, 0))) (hne : s.ownBlock ≠ some vb) (hbase : base ≤ w.heap.size) (hsz : xs.length + 1 ≤ 1099511627776) :
    Calls Try.prog 76 #[s, .int .i64 i, .slice (some ⟨vb, 0, none⟩) 1 1] w (InsPost w base s xs i x) := by
  by_cases h : i = xs.length
  · subst h; exact insert_end hown x hvb hbase hsz
  · obtain ⟨g, c, rfl⟩ := owns_some hown (by omega)
    by_cases hc : xs.length + 1 ≤ c
    · exact insert_room hown (by omega) hc x hvb (fun e => hne (by simp [Value.ownBlock, e])) hsz
    · exact insert_grow hown (by omega) (by omega) x hvb hbase hsz
end Go.Proofs.Ytefkmdejcdhnjaa.S
