/- Seq: ids, Ids, Live, Shown, Rank, Index, Has, Behind, Len, nth, At, Nth. -/
import Derived.Test.YtefkmdejcdhnjaaSC
namespace Go.Proofs.Ytefkmdejcdhnjaa.S
open Go Go.RowKit Go.Shelf Go.Proofs.Ytefkmdejcdhnjaa.K
set_option maxRecDepth 100000
attribute [local go_sem] Oper.semAt_some

def idsOf (hidden : Bool) (xs : List ElV) : List IdV := (xs.filter (fun x => x.shown || hidden)).map (·.id)
theorem idsOf_snoc (hidden : Bool) (xs : List ElV) (x : ElV) : idsOf hidden (xs ++ [x]) = idsOf hidden xs ++ if (x.shown || hidden) = true then [x.id] else [] := by
  simp only [idsOf, List.filter_append, List.map_append]
  cases h : (x.shown || hidden) <;> simp [h]
theorem idsOf_le (hidden : Bool) (xs : List ElV) : (idsOf hidden xs).length ≤ xs.length := by simp [idsOf, List.length_filter_le]

theorem owns_own {β : Type} (base e size n : Nat) (v : Value) (xs : List Value) : Own (fun (_ : β) W => W.ownsRow base e size v n xs) := fun s X Y row hs hg hrow => by
  refine (Chg.of_grown hg).owns hs (fun g hg' hm => ?_)
  rw [Option.mem_toList] at hm
  obtain ⟨o, ho, hc⟩ := hrow g hm
  rcases hs.2 with ⟨rfl, _⟩ | ⟨g', cap, cur, rfl, _, hh, _⟩
  · simp [Value.ownBlock] at hg'
  · simp [Value.ownBlock] at hg'
    subst hg'
    rw [hh] at ho; cases ho; cases hc

theorem owns_far {w : World} {base e size n : Nat} {v : Value} {xs : List Value} {b : Nat} (h : w.ownsRow base e size v n xs) (hb : b < base) : b ∉ v.ownBlock.toList := fun hm => by
  have := (h.lt b (by simpa using hm)).1; omega
theorem owns_cells {w : World} {base e size n : Nat} {v : Value} {xs : List Value} {g : Nat} (h : w.ownsRow base e size v n xs) (hg : v.ownBlock = some g) : ∃ cs t f, w.heap[g]? = some (.cells cs t f) := by
  rcases h.2 with ⟨rfl, _⟩ | ⟨g', cap, cur, rfl, _, hh, _⟩
  · simp [Value.ownBlock] at hg
  · simp [Value.ownBlock] at hg
    subst hg; exact ⟨_, _, _, hh⟩
theorem ids_nil (h : Bool) (w : World) : Calls Try.prog 39 #[.pointer none, .bool h] w fun e w' => e = .returned (.slice none 0 0) ∧ Chg [] w w' := by
  go_enter Try.func39, Try.ntmps39
  go_wp2
  go_ret
  exact ⟨rfl, (Chg.refl _ _).alloc _⟩

structure IdsI (w : World) (base : Nat) (hidden : Bool) (pre : List (Nat × ElV)) (W : World) : Prop where
  bh : Boxed W w.heap.size 4 (.bool hidden)
  list : ∃ u, Boxed W (w.heap.size + 1) 28 u ∧ W.ownsRow base 34 33 u (idsOf hidden (pre.map (·.2))).length (flat idc (idsOf hidden (pre.map (·.2))))
theorem idsI_own (w : World) (base : Nat) (hidden : Bool) : Own (IdsI w base hidden) := fun s A B row hs hg hr => by
  obtain ⟨u, h1, h2⟩ := hs.list
  exact ⟨boxed_own _ _ (fun (_ : Unit) => _) () A B row hs.bh hg hr, u, boxed_own _ _ (fun (_ : Unit) => _) () A B row h1 hg hr, owns_own _ _ _ _ _ _ () A B row h2 hg hr⟩

set_option maxHeartbeats 4000000 in
theorem ids_of {w : World} {p : Nat} {v : Value} {xs : List ElV} (h : Sq w p v xs) (hidden : Bool) : Calls Try.prog 39 #[.pointer (some ⟨p, 0, none⟩), .bool hidden] w fun e w' => ∃ u, e = .returned u ∧ w'.ownsRow w.heap.size 34 33 u (idsOf hidden xs).length (flat idc (idsOf hidden xs)) ∧ Chg [] w w' := by
  refine (callsIn_wide (n := 5)).1 ?_
  refine callsIn_of_wp_marks Try.func39 rfl trivial ?_ rfl
  simp only [Try.ntmps39, List.size_toArray, List.length_cons, List.length_nil, Nat.reduceAdd, Nat.reduceSub, Array.replicate_succ, Array.replicate_zero, List.push_toArray, List.append_toArray, List.nil_append, List.cons_append]
  gi_wp2_with ((refine ⟨trivial, ?_⟩; gi_at_call 66; refine (all_in (5 - 1) p _).mono ?_; rintro e w' ⟨rfl, rfl⟩))
  have hlt := h.lt
  have hvl : ∀ g, v.ownBlock = some g → g < w.heap.size := fun g hg => (h.own.lt g hg).2
  have hC : Chg [] w (((w.alloc (.cells #[.bool hidden] 4)).alloc (.cells #[.slice none 0 0] 28)).alloc (.cells #[.pointer (some ⟨p, 0, none⟩)] 112)) := (((Chg.refl _ _).alloc _).alloc _).alloc _
  have hsz : (((w.alloc (.cells #[.bool hidden] 4)).alloc (.cells #[.slice none 0 0] 28)).alloc (.cells #[.pointer (some ⟨p, 0, none⟩)] 112)).heap.size = w.heap.size + 3 := by simp
  have bI : IdsI w (w.heap.size + 3) hidden [] (((w.alloc (.cells #[.bool hidden] 4)).alloc (.cells #[.slice none 0 0] 28)).alloc (.cells #[.pointer (some ⟨p, 0, none⟩)] 112)) := by
    refine ⟨((Boxed.new w 4 (.bool hidden)).alloc _).alloc _, .slice none 0 0, ?_, World.ownsRow_nil _ _ _ _⟩
    exact Boxed_cast ((Boxed.new (w.alloc (.cells #[.bool hidden] 4)) 28 (.slice none 0 0)).alloc _) (by simp)
  have hbx : (((w.alloc (.cells #[.bool hidden] 4)).alloc (.cells #[.slice none 0 0] 28)).alloc (.cells #[.pointer (some ⟨p, 0, none⟩)] 112)).cell? ⟨w.heap.size + 1 + 1, 0, none⟩ = some (.pointer (some ⟨p, 0, none⟩)) :=
    (Boxed_cast (Boxed.new ((w.alloc (.cells #[.bool hidden] 4)).alloc (.cells #[.slice none 0 0] 28)) 112 (.pointer (some ⟨p, 0, none⟩))) (by simp)).cell
  obtain ⟨W0, hW0⟩ : ∃ W0, ((w.alloc (.cells #[.bool hidden] 4)).alloc (.cells #[.slice none 0 0] 28)).alloc (.cells #[.pointer (some ⟨p, 0, none⟩)] 112) = W0 := ⟨_, rfl⟩
  rw [hW0]
  rw [hW0] at bI hC hbx hsz
  clear hW0
  have hB0 : Below w.heap.size w W0 := hC.below (Nat.le_refl _) (by simp)
  have h0 := h.chg hC (by simp) (by simp)
  have hxl := h.sz
  refine wpIn_rangeFunc_ownH (by rfl) (by decide) (gf := 79) (lb := #[.pointer (some ⟨w.heap.size + 1 + 1, 0, none⟩)]) rfl trivial (enters_of Try.func79 (by kernel_rfl) rfl)
    (all_stops (5 - 1) (by decide) (w.heap.size + 1 + 1) w.heap.size p v xs W0 (by omega) (by omega) hbx h0 hlt hvl) belowK_t (belowK_b (by omega)) (Below.refl _ _) (fun _ => rfl)
    (fun pre W => IdsI w (w.heap.size + 3) hidden pre W ∧ Below w.heap.size W0 W)
    (fun _ _ _ => False)
    (OwnFrom.and (Own.from (idsI_own w _ hidden) _) (ownFrom_below (by omega) (by omega)))
    (fun _ _ _ _ _ hs _ _ => hs)
    ⟨bI, Below.refl _ _⟩
    (fun x a' W => ∃ Bx, w.heap.size + 2 < Bx ∧ W.heap[Bx]? = some (.cells (elc x.2).toArray 98 (0, 0)) ∧ a' = { tmps := #[.pointer (some ⟨p, 0, none⟩), .bool hidden, undef, .pointer (some ⟨w.heap.size, 0, none⟩), .slice none 0 0, .pointer (some ⟨w.heap.size + 1, 0, none⟩), undef, .pointer (some ⟨Bx, 0, none⟩), .pointer (some ⟨p, 0, none⟩), .bool false, .pointer (some ⟨p, 0, none⟩), .pointer (some ⟨p, 0, none⟩), .pointer (some ⟨p, 0, none⟩), .func (.func 79) #[] #[.pointer (some ⟨w.heap.size + 1 + 1, 0, none⟩)], .int .i64 (x.1 : Int), .agg (elc x.2).toArray, undef, undef, undef, undef, undef, undef, undef, undef, undef, undef, undef], defers := [] })
    (fun x a' _ A B row hs hg hr => by
      obtain ⟨Bx, h1, h2, h3⟩ := hs
      exact ⟨Bx, h1, cells_own Bx (fun (_ : Unit) => _) (fun _ => rfl) () A B row h2 hg (fun r e => (hr r e).2), h3⟩)
    ?assign ?body ?done ?stop
  case assign =>
    rintro l pre x W K ⟨hI, hB⟩ hK
    have hWn : w.heap.size ≤ W.heap.size := by have := hB.size; omega
    have hlow : w.heap.size + 2 < W.heap.size := by have := hB.size; omega
    simp [ixEnc]
    refine wpIn_region_lit ?_
    refine wpListIn_allocZ zeroEl ?_
    refine wpListIn_storeNew (m := 67) (cs := (elc x.2).toArray) aggEl.size rfl rfl (by simp [elc_len]) (by kernel_rfl) (by simpa using elc_one x.2) ?_
    refine wpListIn_nil ?_
    obtain ⟨u, h1, h2⟩ := hI.list
    exact hK _ _ ((KeepsOthers.alloc _ _).from _) ((Below.refl _ W).alloc hWn _) ⟨⟨hI.bh.alloc _, u, h1.alloc _, h2.alloc _⟩, hB.alloc hWn _⟩ ⟨W.heap.size, hlow, heap_new _ _, rfl⟩
  case body =>
    rintro l pre x a' W hl ⟨r, hr⟩ ⟨hI, hB⟩ ⟨Bx, hBx, bX, rfl⟩ hlen
    have hCx : Cs W Bx 0 (idc x.2.id) := Cs.of_heap bX 0 (by intro j u hu; rw [Nat.zero_add]; simpa using elc_id x.2 hu)
    have hcs : W.cell? ⟨Bx, 66, none⟩ = some (.bool x.2.shown) := by rw [cell_of_row _ _ _ _ _ _ bX]; simpa using elc_shown x.2
    obtain ⟨u, b5, hown⟩ := hI.list
    have c5 := b5.cell
    have f5 := b5.frozen
    have ch := hI.bh.cell
    have hlv : (idsOf hidden (pre.map (·.2))).length ≤ 1099511627776 := by have := idsOf_le hidden (pre.map (·.2)); simp at *; omega
    have HI := Lib.hid hI
    have HB := Lib.hid hB
    have HL := Lib.hid hr
    have B5 := Lib.hid b5
    have hWn : w.heap.size ≤ W.heap.size := by have := hB.size; omega
    have hW3 : w.heap.size + 3 ≤ W.heap.size := by have := hB.size; omega
    have h4 : w.heap.size + 1 < W0.heap.size := by omega
    have hbase : W0.heap.size = w.heap.size + 3 := hsz
    clear hI hB bX hr hl hlen hbx bI hB0 h0 hC h b5 hsz
    have HZ := Lib.hid hbase
    clear hbase
    by_cases hsh : (x.2.shown || hidden) = true
    · have HS : Hid (idsOf hidden ((pre ++ [x]).map (·.2)) = idsOf hidden (pre.map (·.2)) ++ [x.2.id]) := Lib.hid (by rw [List.map_append, List.map_singleton, idsOf_snoc, if_pos hsh])
      have key : ∀ s : Bool, s = x.2.shown → True := fun _ _ => trivial
      cases hs1 : x.2.shown
      all_goals
        rw [hs1] at hcs hsh
        clear hs1
        try (simp at hsh; rw [hsh] at ch)
        clear hsh
        gi_wp2_with (first
          | ((with_reducible show wpListIn _ _ _ _ _ (⟨some 23, _, _, _, _, _⟩ :: _) _ _); refine wpListIn_loadAgg aggId rfl hCx (idc_len _) ?_)
          | ((with_reducible show wpListIn _ _ _ _ _ (⟨some 24, _, _, _, _, _⟩ :: _) _ _); refine wpListIn_push slId u _ _ (.agg (idc x.2.id).toArray) (of_decide_eq_true rfl) (fun _ => rfl) hown rfl (show (idc x.2.id).toArray.size = 33 by simp [idc_len]) (show ∀ c ∈ (idc x.2.id).toArray.toList, c.oneCell' = true by simpa using idc_one x.2.id) (by omega) (by unfold maxLen; omega) hW3 ?_; intro u' W1 hown1 hch1 hnn hloc; obtain ⟨ao', c', hu', ha'⟩ := owns_form hown1; subst hu'; have B6 := Lib.hid (hch1.heap B5.out (owns_far hown (by omega))); have c6 : W1.cell? ⟨w.heap.size + 1, 0, none⟩ = some u := Boxed.cell B6.out; have f6 : W1.frozen? ⟨w.heap.size + 1, 0, none⟩ = false := Boxed.frozen B6.out))
      all_goals
        simp only [ownPostG]
        have hch2 : Chg (u.ownBlock.toList ++ [w.heap.size + 1]) W (W1.setCell ⟨w.heap.size + 1, 0, none⟩ (.slice ao' ((idsOf hidden (pre.map (·.2))).length + 1) c')) := (hch1.mono (fun i hi _ => by simp [hi])).setCell (.inl (by simp)) _
        have hbel : Below w.heap.size W (W1.setCell ⟨w.heap.size + 1, 0, none⟩ (.slice ao' ((idsOf hidden (pre.map (·.2))).length + 1) c')) := hch2.below hWn (by
          intro i hi
          rcases List.mem_append.1 hi with hi | hi
          · have := (hown.lt i (by simpa using hi)).1; omega
          · simp at hi; omega)
        refine ⟨(hch2.keeps ?_).from _, hbel, ⟨hch2.heap HI.out.bh ?_, _, Boxed.set _ B6.out, ?_⟩, HB.out.trans hbel⟩
        · intro g hg hgl
          rcases List.mem_append.1 hg with hg | hg
          · exact owns_cells hown (by simpa using hg)
          · simp at hg; subst hg; exact ⟨_, _, _, B5.out⟩
        · intro hm
          rcases List.mem_append.1 hm with hm | hm
          · have := (hown.lt _ (by simpa using hm)).1; omega
          · simp at hm
        · rw [HS.out, flat_append, List.length_append, flat_one]
          refine ((Chg.refl [w.heap.size + 1] W1).setCell (.inl (by simp)) _).owns ?_ ?_
          · simpa [Value.cells] using hown1
          · intro g hg hm
            simp at hm; subst hm
            rcases hloc _ hg with h' | h'
            · have := (hown.lt _ h').1; omega
            · omega
    · have HS : Hid (idsOf hidden ((pre ++ [x]).map (·.2)) = idsOf hidden (pre.map (·.2))) := Lib.hid (by rw [List.map_append, List.map_singleton, idsOf_snoc, if_neg hsh, List.append_nil])
      obtain ⟨hs1, hs2⟩ : x.2.shown = false ∧ hidden = false := by simpa using hsh
      rw [hs1] at hcs
      subst hs2
      clear hs1 hsh
      gi_wp2
      simp only [ownPostG]
      refine ⟨KeepsFrom.refl _ _, Below.refl _ _, ⟨HI.out.bh, u, B5.out, ?_⟩, HB.out⟩
      rw [HS.out]; exact hown
  case done =>
    rintro D ys W hD rfl ⟨hI, hB⟩ hK
    obtain ⟨u, b5, hown⟩ := hI.list
    rw [ixs_map] at hown
    have c5 := b5.cell
    gi_wp2
    refine ⟨by simp, .inl ⟨_, _, rfl, run_takeDeferred hK, ?_⟩⟩
    refine ⟨u, by simp [results, Try.f39, go_sem], u, rfl, ?_, Chg.of_below ((hB0.trans hB).trans (belowK_b (w := w) (Nat.le_refl _) _ D _ _ (by omega) hK rfl rfl)) []⟩
    exact owns_base (owns_own _ _ _ _ _ _ () _ _ (some D) hown (grownBy_putObj' _ D (.deferred none)) (fun r e => by cases e; exact ⟨_, hK, rfl⟩)) (fun g hg => by have := (hown.lt g hg).1; omega)
  case stop =>
    rintro D c pre W hD ⟨k, hk, rfl⟩ ⟨⟩

theorem idsFn_of {w : World} {p : Nat} {v : Value} {xs : List ElV} (h : Sq w p v xs) : Calls Try.prog 14 #[.pointer (some ⟨p, 0, none⟩)] w fun e w' => ∃ u, e = .returned u ∧ w'.ownsRow w.heap.size 34 33 u (idsOf true xs).length (flat idc (idsOf true xs)) ∧ Chg [] w w' := by
  go_enter Try.func14, Try.ntmps14
  go_wp2_with (go_at_call 39; refine (ids_of h true).mono ?_; rintro e w1 ⟨u, rfl, ho, hc⟩)
  go_ret
  exact ⟨u, rfl, ho, hc⟩
theorem live_of {w : World} {p : Nat} {v : Value} {xs : List ElV} (h : Sq w p v xs) : Calls Try.prog 23 #[.pointer (some ⟨p, 0, none⟩)] w fun e w' => ∃ u, e = .returned u ∧ w'.ownsRow w.heap.size 34 33 u (idsOf false xs).length (flat idc (idsOf false xs)) ∧ Chg [] w w' := by
  go_enter Try.func23, Try.ntmps23
  go_wp2_with (go_at_call 39; refine (ids_of h false).mono ?_; rintro e w1 ⟨u, rfl, ho, hc⟩)
  go_ret
  exact ⟨u, rfl, ho, hc⟩
theorem shown_of {w : World} {p : Nat} {v : Value} {xs : List ElV} (h : Sq w p v xs) : Calls Try.prog 30 #[.pointer (some ⟨p, 0, none⟩)] w fun e w' => e = .returned (.int .i64 (idsOf false xs).length) ∧ Chg [] w w' := by
  go_enter Try.func30, Try.ntmps30
  go_wp2_with (go_at_call 23; refine (live_of h).mono ?_; rintro e w1 ⟨u, rfl, ho, hc⟩; obtain ⟨ao, c, rfl, ha⟩ := owns_form ho)
  go_ret
  exact ⟨rfl, hc⟩
theorem len_of {w : World} {p : Nat} {v : Value} {xs : List ElV} (h : Sq w p v xs) : Calls Try.prog 19 #[.pointer (some ⟨p, 0, none⟩)] w fun e w' => e = .returned (.int .i64 xs.length) ∧ Chg [] w w' := by
  have hc0 := h.cell.1
  obtain ⟨ao, c, rfl, ha⟩ := owns_form h.own
  go_enter Try.func19, Try.ntmps19
  go_wp2
  go_ret
  exact ⟨rfl, Chg.refl _ _⟩
theorem rank_of {w : World} {p : Nat} {v : Value} {xs : List ElV} (h : Sq w p v xs) (id : IdV) : Calls Try.prog 18 #[.pointer (some ⟨p, 0, none⟩), .agg (idc id).toArray] w fun e w' => e = .returned (.int .i64 (rankOf xs id)) ∧ Chg [] w w' := by
  have hbx : Cs (w.alloc (.cells (idc id).toArray 34)) w.heap.size 0 (idc id) := Cs.of_heap (heap_new _ _) 0 (by intro j u hu; simpa using hu)
  go_enter Try.func18, Try.ntmps18
  go_wp2_with (first
    | ((with_reducible show wpList _ _ _ (⟨_, Op.load 34 _, _, _, _, _⟩ :: _) _ _); refine wpList_loadAgg aggId rfl hbx (idc_len _) ?_)
    | (go_at_call 40; refine (find_of (h.chg (Chg.alloc0 w _) (by simp) (by simp)) id).mono ?_; rintro e w1 ⟨rfl, hc⟩))
  go_ret
  exact ⟨rfl, (Chg.alloc0 w _).trans hc⟩
theorem index_of {w : World} {p : Nat} {v : Value} {xs : List ElV} (h : Sq w p v xs) (id : IdV) : Calls Try.prog 28 #[.pointer (some ⟨p, 0, none⟩), .agg (idc id).toArray] w fun e w' => e = .returned (.int .i64 (indexOf xs id)) ∧ Chg [] w w' := by
  have hbx : Cs (w.alloc (.cells (idc id).toArray 34)) w.heap.size 0 (idc id) := Cs.of_heap (heap_new _ _) 0 (by intro j u hu; simpa using hu)
  go_enter Try.func28, Try.ntmps28
  go_wp2_with (first
    | ((with_reducible show wpList _ _ _ (⟨_, Op.load 34 _, _, _, _, _⟩ :: _) _ _); refine wpList_loadAgg aggId rfl hbx (idc_len _) ?_)
    | (go_at_call 40; refine (find_of (h.chg (Chg.alloc0 w _) (by simp) (by simp)) id).mono ?_; rintro e w1 ⟨rfl, hc⟩))
  go_ret
  exact ⟨rfl, (Chg.alloc0 w _).trans hc⟩
theorem has_of {w : World} {p : Nat} {v : Value} {xs : List ElV} (h : Sq w p v xs) (id : IdV) : Calls Try.prog 32 #[.pointer (some ⟨p, 0, none⟩), .agg (idc id).toArray] w fun e w' => e = .returned (.bool (decide (0 ≤ rankOf xs id))) ∧ Chg [] w w' := by
  have hbx : Cs (w.alloc (.cells (idc id).toArray 34)) w.heap.size 0 (idc id) := Cs.of_heap (heap_new _ _) 0 (by intro j u hu; simpa using hu)
  go_enter Try.func32, Try.ntmps32
  go_wp2_with (first
    | ((with_reducible show wpList _ _ _ (⟨_, Op.load 34 _, _, _, _, _⟩ :: _) _ _); refine wpList_loadAgg aggId rfl hbx (idc_len _) ?_)
    | (go_at_call 18; refine (rank_of (h.chg (Chg.alloc0 w _) (by simp) (by simp)) id).mono ?_; rintro e w1 ⟨rfl, hc⟩))
  go_ret
  exact ⟨rfl, (Chg.alloc0 w _).trans hc⟩
end Go.Proofs.Ytefkmdejcdhnjaa.S
