/- Seq: Take. -/
import Derived.Test.YtefkmdejcdhnjaaSN
import Derived.Test.YtefkmdejcdhnjaaSG
namespace Go.Proofs.Ytefkmdejcdhnjaa.S
open Go Go.RowKit Go.Shelf Go.Proofs.Ytefkmdejcdhnjaa.K
set_option maxRecDepth 100000
attribute [local go_sem] Oper.semAt_some

def takR (xs : List ElV) (id : IdV) : Int × List ElV :=
  if rankOf xs id < 0 then (4, xs) else if xs.any (fun y => decide (y.behind = id)) then (90, xs) else (0, delE xs (rankOf xs id).toNat)

theorem take_at {w : World} {p : Nat} {s : Value} {xs : List ElV} (h : Sq w p s xs) {i : Nat} (hi : i < xs.length) {y : Int} (hy : y = i) :
    Calls Try.prog 67 #[.pointer (some ⟨p, 0, none⟩), .int .i64 y] w fun e w' => e = .returned (.tuple #[]) ∧ ∃ v', Sq w' p v' (delE xs i) ∧ SqStep w w' p s v' := by
  subst hy; exact take_of h hi
structure TakI (w : World) (id : IdV) (pre : List (Nat × ElV)) (W : World) : Prop where
  no : ∀ x ∈ pre, x.2.behind ≠ id
  bid : W.heap[w.heap.size]? = some (.cells (idc id).toArray 34 (0, 0))
  br : Boxed W (w.heap.size + 1) 37 (.int .i64 0)
theorem takI_own (w : World) (id : IdV) : Own (TakI w id) := fun s A B row hs hg hr =>
  ⟨hs.no, cells_own _ (fun (_ : Unit) => _) (fun _ => rfl) () A B row hs.bid hg hr, boxed_own _ _ (fun (_ : Unit) => _) () A B row hs.br hg hr⟩
theorem ixs_mem {xs : List ElV} {x : ElV} (hx : x ∈ xs) : ∃ i, (i, x) ∈ ixs xs := by
  obtain ⟨i, hi⟩ := List.mem_iff_getElem?.1 hx
  exact ⟨i, List.mem_iff_getElem?.2 ⟨i, by unfold ixs; rw [List.getElem?_map, List.getElem?_zipIdx, hi]; simp⟩⟩

theorem chg_putObj (w : World) (D : Nat) (o : Obj) : Chg [D] w (w.putObj D o) :=
  ⟨rfl, rfl, rfl, by simp [World.putObj], fun i _ hn => by simp at hn; simp only [World.putObj]; rw [Array.getElem?_setIfInBounds_ne (fun e => hn e.symm)]⟩
/-- the round that ends the loop has met the Id as another's behind -/
def TakX (w : World) (id : IdV) (pre : List (Nat × ElV)) (W : World) : Prop := ∃ x ∈ pre, x.2.behind = id ∧ Boxed W (w.heap.size + 1) 37 (.int .i64 90)

set_option maxHeartbeats 1000000 in
theorem takeFn_of {w : World} {p : Nat} {s : Value} {xs : List ElV} (h : Sq w p s xs) (id : IdV) :
    Calls Try.prog 31 #[.pointer (some ⟨p, 0, none⟩), .agg (idc id).toArray] w (InsOut w p s (takR xs id)) := by
  refine (callsIn_wide (n := 5)).1 ?_
  have hC1 : Chg [] w ((w.alloc (.cells (idc id).toArray 34)).alloc (.cells #[.int .i64 0] 37)) := ((Chg.refl _ _).alloc _).alloc _
  have h1 := h.chg hC1 (by simp) (by simp)
  have hbi : ((w.alloc (.cells (idc id).toArray 34)).alloc (.cells #[.int .i64 0] 37)).heap[w.heap.size]? = some (.cells (idc id).toArray 34 (0, 0)) := by rw [heap_old _ _ _ (by simp)]; exact heap_new _ _
  have ci : Cs ((w.alloc (.cells (idc id).toArray 34)).alloc (.cells #[.int .i64 0] 37)) w.heap.size 0 (idc id) := Cs.of_heap hbi 0 (by intro j u hu; simpa using hu)
  have hb4 : Boxed ((w.alloc (.cells (idc id).toArray 34)).alloc (.cells #[.int .i64 0] 37)) (w.heap.size + 1) 37 (.int .i64 0) := Boxed_cast (Boxed.new (w.alloc (.cells (idc id).toArray 34)) 37 (.int .i64 0)) (by simp)
  have hrk := rank_rng xs id
  obtain ⟨r, hr⟩ : ∃ r, takR xs id = r := ⟨_, rfl⟩
  rw [hr]
  have HR0 := Lib.hid hr
  have c4 := hb4.cell
  have f4 := hb4.frozen
  have hsw : ((w.alloc (.cells (idc id).toArray 34)).alloc (.cells #[.int .i64 0] 37)).heap.size = w.heap.size + 2 := by simp
  clear hr
  refine callsIn_of_wp_marks Try.func31 rfl trivial ?_ rfl
  simp only [Try.ntmps31, List.size_toArray, List.length_cons, List.length_nil, Nat.reduceAdd, Nat.reduceSub, Array.replicate_succ, Array.replicate_zero, List.push_toArray, List.append_toArray, List.nil_append, List.cons_append]
  by_cases hk : rankOf xs id < 0
  · gi_wp2_with (first
      | ((with_reducible show wpListIn _ _ _ _ _ (⟨some 13, _, _, _, _, _⟩ :: _) _ _); refine wpListIn_loadAgg aggId rfl ci (idc_len _) ?_)
      | (refine ⟨trivial, ?_⟩; gi_at_call 40; refine ((callsIn_wide (n := 5 - 1)).2 (find_of h1 id)).mono ?_; rintro e w2 ⟨rfl, hc2⟩; have b42 : Boxed w2 (w.heap.size + 1) 37 (.int .i64 0) := hc2.heap hb4 (by simp); have c42 := b42.cell; have f42 := b42.frozen))
    have e : r = (4, xs) := by rw [← HR0.out]; unfold takR; rw [if_pos hk]
    have hch : Chg [w.heap.size + 1] w2 (w2.setCell ⟨w.heap.size + 1, 0, none⟩ (.int .i64 4)) := (Chg.refl _ _).setCell (.inl (by simp)) _
    have hC3 : Chg [] w (w2.setCell ⟨w.heap.size + 1, 0, none⟩ (.int .i64 4)) := (hC1.trans hc2).trans' hch (by simp) (by intro i hi hl; simp at hi; omega)
    have hb5 := (b42.set (.int .i64 4)).cell
    refine ⟨.int .i64 4, by simp [results, Try.f31, go_sem, hb5], by rw [e], s, ?_, SqStep.of_chg hC3⟩
    rw [e]; exact h.chg hC3 (by simp) (by simp)
  · gi_wp2_with (first
      | ((with_reducible show wpListIn _ _ _ _ _ (⟨some 13, _, _, _, _, _⟩ :: _) _ _); refine wpListIn_loadAgg aggId rfl ci (idc_len _) ?_)
      | (refine ⟨trivial, ?_⟩; gi_at_call 40; refine ((callsIn_wide (n := 5 - 1)).2 (find_of h1 id)).mono ?_; rintro e w2 ⟨rfl, hc2⟩; have b42 : Boxed w2 (w.heap.size + 1) 37 (.int .i64 0) := hc2.heap hb4 (by simp); have hbi2 := hc2.heap hbi (by simp))
      | (refine ⟨trivial, ?_⟩; gi_at_call 66; refine (all_in (5 - 1) p _).mono ?_; rintro e w' ⟨rfl, rfl⟩))
    have hlt := h.lt
    have hvl : ∀ g, s.ownBlock = some g → g < w.heap.size := fun g hg => (h.own.lt g hg).2
    have hs2 : w.heap.size + 2 ≤ w2.heap.size := by have := hc2.size; omega
    have hCw : Chg [] w (w2.alloc (.cells #[.pointer (some ⟨p, 0, none⟩)] 112)) := (hC1.trans hc2).alloc _
    have bI : TakI w id [] (w2.alloc (.cells #[.pointer (some ⟨p, 0, none⟩)] 112)) :=
      ⟨by simp, by rw [heap_old _ _ _ (by omega)]; exact hbi2, b42.alloc _⟩
    have hbx : (w2.alloc (.cells #[.pointer (some ⟨p, 0, none⟩)] 112)).cell? ⟨w2.heap.size, 0, none⟩ = some (.pointer (some ⟨p, 0, none⟩)) := (Boxed.new w2 112 (.pointer (some ⟨p, 0, none⟩))).cell
    have hsz : (w2.alloc (.cells #[.pointer (some ⟨p, 0, none⟩)] 112)).heap.size = w2.heap.size + 1 := by simp
    obtain ⟨W0, hW0⟩ : ∃ W0, w2.alloc (.cells #[.pointer (some ⟨p, 0, none⟩)] 112) = W0 := ⟨_, rfl⟩
    rw [hW0]
    rw [hW0] at bI hCw hbx hsz
    clear hW0
    have hB0 : Below w.heap.size w W0 := hCw.below (Nat.le_refl _) (by simp)
    have h0 := h.chg hCw (by simp) (by simp)
    refine wpIn_rangeFunc_ownH (by rfl) (by decide) (gf := 79) (lb := #[.pointer (some ⟨w2.heap.size, 0, none⟩)]) rfl trivial (enters_of Try.func79 (by kernel_rfl) rfl)
      (all_stops (5 - 1) (by decide) w2.heap.size w.heap.size p s xs W0 (by omega) (by omega) hbx h0 hlt hvl) belowK_t (belowK_b (by omega)) (Below.refl _ _) (fun _ => rfl)
      (fun pre W => TakI w id pre W ∧ Below w.heap.size W0 W)
      (fun c pre W => (c = .ret ∧ TakX w id pre W) ∧ Below w.heap.size W0 W)
      (OwnFrom.and (Own.from (takI_own w id) _) (ownFrom_below (by omega) (by omega)))
      (fun c => OwnFrom.and (Own.from (fun s A B row hs hg hr => by
        obtain ⟨h1, x, h2, h3, h4⟩ := hs
        exact ⟨h1, x, h2, h3, boxed_own _ _ (fun (_ : Unit) => _) () A B row h4 hg hr⟩) _) (ownFrom_below (by omega) (by omega)))
      ⟨bI, Below.refl _ _⟩
      (fun x a' W => ∃ Bx, w.heap.size + 1 < Bx ∧ W.heap[Bx]? = some (.cells (elc x.2).toArray 98 (0, 0)) ∧ a' = { tmps := #[.pointer (some ⟨p, 0, none⟩), .agg (idc id).toArray, undef, .pointer (some ⟨w.heap.size, 0, none⟩), .pointer (some ⟨w.heap.size + 1, 0, none⟩), .int .i64 (rankOf xs id), .int .i64 (indexOf xs id), undef, .pointer (some ⟨Bx, 0, none⟩), .pointer (some ⟨p, 0, none⟩), .bool false, .tuple #[.int .i64 (rankOf xs id), .int .i64 (indexOf xs id)], .pointer (some ⟨p, 0, none⟩), .agg (idc id).toArray, .tuple #[.int .i64 (rankOf xs id), .int .i64 (indexOf xs id)], .int .i64 (rankOf xs id), .int .i64 (indexOf xs id), .int .i64 (rankOf xs id), .bool (decide (rankOf xs id < 0)), .pointer (some ⟨p, 0, none⟩), .pointer (some ⟨p, 0, none⟩), .pointer (some ⟨p, 0, none⟩), .func (.func 79) #[] #[.pointer (some ⟨w2.heap.size, 0, none⟩)], .int .i64 (x.1 : Int), .agg (elc x.2).toArray, undef, undef, undef, undef, undef, undef, undef, undef, undef], defers := [] })
      (fun x a' _ A B row hs hg hr => by
        obtain ⟨Bx, h1, h2, h3⟩ := hs
        exact ⟨Bx, h1, cells_own Bx (fun (_ : Unit) => _) (fun _ => rfl) () A B row h2 hg (fun r e => (hr r e).2), h3⟩)
      ?assign ?body ?done ?stop
    case assign =>
      rintro l pre x W K ⟨hI, hB⟩ hK
      have hWn : w.heap.size ≤ W.heap.size := by have := hB.size; omega
      have hlow : w.heap.size + 1 < W.heap.size := by have := hB.size; omega
      simp [ixEnc]
      refine wpIn_region_lit ?_
      refine wpListIn_allocZ zeroEl ?_
      refine wpListIn_storeNew (m := 67) (cs := (elc x.2).toArray) aggEl.size rfl rfl (by simp [elc_len]) (by kernel_rfl) (by simpa using elc_one x.2) ?_
      refine wpListIn_nil ?_
      refine hK _ _ ((KeepsOthers.alloc _ _).from _) ((Below.refl _ W).alloc hWn _) ⟨⟨hI.no, ?_, hI.br.alloc _⟩, hB.alloc hWn _⟩ ⟨W.heap.size, hlow, heap_new _ _, rfl⟩
      rw [heap_old _ _ _ (Array.getElem?_eq_some_iff.1 hI.bid).1]; exact hI.bid
    case body =>
      rintro l pre x a' W hl ⟨r, hr⟩ ⟨hI, hB⟩ ⟨Bx, hBx, bX, rfl⟩ hlen
      have hCx : Cs W Bx 33 (idc x.2.behind) := Cs.of_heap bX 33 (by intro j u hu; simpa using elc_behind x.2 hu)
      have hCi : Cs W w.heap.size 0 (idc id) := Cs.of_heap hI.bid 0 (by intro j u hu; simpa using hu)
      have c4 := hI.br.cell
      have f4 := hI.br.frozen
      have HI := Lib.hid hI
      have HB := Lib.hid hB
      have hWn : w.heap.size ≤ W.heap.size := by have := hB.size; omega
      have HX := Lib.hid bX
      have HL := Lib.hid hr
      have h4 : w.heap.size + 1 < W0.heap.size := by omega
      clear hI hB bX hr hl hlen hbx bI hB0 h0 hCw h b42 hbi2 hc2 hbi ci hb4 h1 hC1
      by_cases hid : x.2.behind = id
      · have HQ : Hid (true = true ↔ (idc x.2.behind).toArray = (idc id).toArray) := Lib.hid (by simp [hid])
        have HD := Lib.hid hid
        clear hid
        gi_wp2_with (first
          | ((with_reducible show wpListIn _ _ _ _ _ (⟨some 26, _, _, _, _, _⟩ :: _) _ _); refine wpListIn_loadAgg aggId rfl hCx (idc_len _) ?_)
          | ((with_reducible show wpListIn _ _ _ _ _ (⟨some 27, _, _, _, _, _⟩ :: _) _ _); refine wpListIn_loadAgg aggId rfl hCi (idc_len _) ?_)
          | ((with_reducible show wpListIn _ _ _ _ _ (⟨some 28, _, _, _, _, _⟩ :: _) _ _); refine wpListIn_eqlFlat flatId guardId rfl rfl (by simpa using idc_leaves x.2.behind) (by simpa using idc_leaves id) HQ.out ?_))
        simp only [ownPostG]
        have hch : Chg [w.heap.size + 1] W (W.setCell ⟨w.heap.size + 1, 0, none⟩ (.int .i64 90)) := (Chg.refl _ _).setCell (.inl (by simp)) _
        refine ⟨(hch.keeps ?_).from _, ⟨trivial, ⟨x, by simp, HD.out, HI.out.br.set _⟩⟩, HB.out.trans (hch.below hWn (by simp))⟩
        intro g hg hgl
        simp at hg
        subst hg
        exact ⟨_, _, _, HI.out.br⟩
      · have HQ : Hid (false = true ↔ (idc x.2.behind).toArray = (idc id).toArray) := Lib.hid (by simp; exact fun e => hid (idc_inj e))
        have HD := Lib.hid hid
        clear hid
        gi_wp2_with (first
          | ((with_reducible show wpListIn _ _ _ _ _ (⟨some 26, _, _, _, _, _⟩ :: _) _ _); refine wpListIn_loadAgg aggId rfl hCx (idc_len _) ?_)
          | ((with_reducible show wpListIn _ _ _ _ _ (⟨some 27, _, _, _, _, _⟩ :: _) _ _); refine wpListIn_loadAgg aggId rfl hCi (idc_len _) ?_)
          | ((with_reducible show wpListIn _ _ _ _ _ (⟨some 28, _, _, _, _, _⟩ :: _) _ _); refine wpListIn_eqlFlat flatId guardId rfl rfl (by simpa using idc_leaves x.2.behind) (by simpa using idc_leaves id) HQ.out ?_))
        simp only [ownPostG]
        refine ⟨KeepsFrom.refl _ _, Below.refl _ _, ⟨?_, HI.out.bid, HI.out.br⟩, HB.out⟩
        intro y hy
        rcases List.mem_append.1 hy with hy | hy
        · exact HI.out.no y hy
        · simp at hy; subst hy; exact HD.out
    case done =>
      rintro D ys W hD rfl ⟨hI, hB⟩ hK
      have c4 := hI.br.cell
      have f4 := hI.br.frozen
      have hWn : w.heap.size ≤ W.heap.size := by have := hB.size; omega
      have hSW : Sq W p s xs := h.chg (Chg.of_below (hB0.trans hB) []) (by simp) (by simp)
      obtain ⟨k, hk'⟩ : ∃ k : Nat, rankOf xs id = k := ⟨(rankOf xs id).toNat, by omega⟩
      have hkl : k < xs.length := by omega
      have hany : xs.any (fun y => decide (y.behind = id)) = false := by
        rw [Bool.eq_false_iff]
        intro hx
        obtain ⟨y, hy, hyb⟩ := List.any_eq_true.1 hx
        obtain ⟨i, hi⟩ := ixs_mem hy
        exact hI.no _ hi (by simpa using hyb)
      have e : r = (0, delE xs k) := by rw [← HR0.out]; unfold takR; rw [if_neg (by omega), hany, hk']; simp
      have hno : ∀ k, w.heap.size ≤ k → k ∉ p :: s.ownBlock.toList := by
        intro k hk hm
        rcases List.mem_cons.1 hm with hm | hm
        · omega
        · have := hvl _ (by simpa using hm); omega
      have HE := Lib.hid e
      have HI := Lib.hid hI
      have HB := Lib.hid hB
      have HK := Lib.hid hk'
      have HD := Lib.hid hK
      have HB0 := Lib.hid hB0
      have hDl : D < W.heap.size := (Array.getElem?_eq_some_iff.1 hK).1
      clear e hany hI hB hk' hK hB0 hbx bI h0 hCw b42 hbi2 hc2 hbi ci hb4 h1 hC1 hrk
      gi_wp2_with (refine ⟨trivial, ?_⟩; gi_at_call 67; refine ((callsIn_wide (n := 5 - 1)).2 (take_at hSW hkl HK.out)).mono ?_; rintro e w5 ⟨rfl, v', hS5, hst5⟩; have b5 : Boxed w5 (w.heap.size + 1) 37 (.int .i64 0) := hst5.chg.heap HI.out.br (hno _ (by omega)); have c5 := b5.cell; have f5 := b5.frozen)
      have hch : Chg [w.heap.size + 1] w5 (w5.setCell ⟨w.heap.size + 1, 0, none⟩ (.int .i64 0)) := (Chg.refl _ _).setCell (.inl (by simp)) _
      have hDn : D ∉ p :: s.ownBlock.toList := hno _ (by omega)
      have hK' : (w5.setCell ⟨w.heap.size + 1, 0, none⟩ (.int .i64 0)).heap[D]? = some (.deferred (some [])) := hch.heap (hst5.chg.heap HD.out hDn) (by simp; omega)
      have b6 := b5.set (.int .i64 0)
      have hc4 := cell_kept b6.cell (grownBy_putObj' _ D (.deferred none)) (fun r e => by cases e; exact ⟨_, hK', rfl⟩)
      have hC7 : Chg [w.heap.size + 1, D] w5 ((w5.setCell ⟨w.heap.size + 1, 0, none⟩ (.int .i64 0)).putObj D (.deferred none)) := hch.trans' (chg_putObj _ D _) (fun _ h _ => by simp at h; simp [h]) (fun _ h _ => by simp at h; simp [h])
      refine ⟨by simp, .inl ⟨_, _, rfl, run_takeDeferred hK', ?_⟩⟩
      refine ⟨.int .i64 0, by simp [results, Try.f31, go_sem, hc4], by rw [HE.out], v', ?_, ?_, ?_⟩
      · rw [HE.out]
        refine hS5.chg hC7 (by simp; omega) (fun g hg hm => ?_)
        have h5 := hst5.loc g hg
        simp at hm
        rcases h5 with h5 | h5
        · have := hvl _ h5; omega
        · omega
      · refine ((Chg.of_below (HB0.out.trans HB.out) []).weak.trans hst5.chg).trans' hC7 (fun _ h _ => h) (by intro i hi hl; simp at hi; omega)
      · intro g hg
        rcases hst5.loc g hg with h5 | h5
        · exact .inl h5
        · exact .inr (by omega)
    case stop =>
      rintro D c pre W hD ⟨k, hk', rfl⟩ ⟨⟨rfl, x, hx, hxb, b1⟩, hB⟩ hK
      gi_wp2
      refine ⟨by simp, .inl ⟨_, _, rfl, run_takeDeferred hK, ?_⟩⟩
      have hc4 := cell_kept b1.cell (grownBy_putObj' _ D (.deferred none)) (fun r e => by cases e; exact ⟨_, hK, rfl⟩)
      have hany : xs.any (fun y => decide (y.behind = id)) = true := by
        refine List.any_eq_true.2 ⟨x.2, ?_, by simpa using hxb⟩
        have := List.mem_map_of_mem (f := (·.2)) (List.mem_of_mem_take hx)
        rwa [ixs_map] at this
      have e : r = (90, xs) := by rw [← HR0.out]; unfold takR; rw [if_neg (by omega), hany]; simp
      refine ⟨.int .i64 90, by simp [results, Try.f31, go_sem, hc4], by rw [e], s, ?_, ?_⟩
      · rw [e]; exact h.chg (Chg.of_below ((hB0.trans hB).trans (belowK_b (w := w) (Nat.le_refl _) _ D _ _ (by omega) hK rfl rfl)) []) (by simp) (by simp)
      · exact SqStep.of_chg (Chg.of_below ((hB0.trans hB).trans (belowK_b (w := w) (Nat.le_refl _) _ D _ _ (by omega) hK rfl rfl)) [])
end Go.Proofs.Ytefkmdejcdhnjaa.S
