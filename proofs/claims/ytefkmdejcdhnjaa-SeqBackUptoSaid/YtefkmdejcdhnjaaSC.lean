/- Seq: find. -/
import Derived.Test.YtefkmdejcdhnjaaSB
import Derived.Shelf.RegionOpen
namespace Go.Proofs.Ytefkmdejcdhnjaa.S
open Go Go.RowKit Go.Shelf Go.Proofs.Ytefkmdejcdhnjaa.K
set_option maxRecDepth 100000
attribute [local go_sem] Oper.semAt_some

/-- how many are shown -/
def live (xs : List ElV) : Nat := (xs.filter (·.shown)).length
/-- where an Id stands, and how many shown ones ahead of it -/
def findE (id : IdV) : List ElV → Option (Nat × Nat)
  | [] => none
  | x :: xs => if x.id = id then some (0, 0) else (findE id xs).map fun r => (r.1 + 1, r.2 + if x.shown then 1 else 0)
def rankOf (xs : List ElV) (id : IdV) : Int := match findE id xs with | some r => r.1 | none => -1
def indexOf (xs : List ElV) (id : IdV) : Int := match findE id xs with | some r => r.2 | none => -1
theorem findE_none {id : IdV} : ∀ {xs : List ElV}, (∀ x ∈ xs, x.id ≠ id) → findE id xs = none
  | [], _ => rfl
  | x :: xs, h => by
    rw [findE, if_neg (h x (by simp)), findE_none (fun y hy => h y (by simp [hy]))]; rfl
theorem findE_at {id : IdV} : ∀ {pre : List ElV} {x : ElV} {post : List ElV}, (∀ y ∈ pre, y.id ≠ id) → x.id = id → findE id (pre ++ x :: post) = some (pre.length, live pre)
  | [], x, post, _, hx => by simp [findE, hx, live]
  | y :: pre, x, post, h, hx => by
    rw [List.cons_append, findE, if_neg (h y (by simp)), findE_at (fun z hz => h z (by simp [hz])) hx]
    cases hs : y.shown <;> simp [live, hs]
theorem live_snoc (xs : List ElV) (x : ElV) : live (xs ++ [x]) = live xs + if x.shown then 1 else 0 := by
  simp only [live, List.filter_append, List.length_append]
  cases hs : x.shown <;> simp [hs]
theorem live_le (xs : List ElV) : live xs ≤ xs.length := List.length_filter_le _ _

theorem find_nil (x : IdV) (w : World) : Calls Try.prog 40 #[.pointer none, .agg (idc x).toArray] w fun e w' => e = .returned (.tuple #[.int .i64 (-1), .int .i64 (-1)]) ∧ Chg [] w w' := by
  go_enter Try.func40, Try.ntmps40
  go_wp2
  exact bodyPost_ret (v := .tuple #[.int .i64 (-1), .int .i64 (-1)]) (by simp [results, Try.f40, go_sem]) rfl ⟨rfl, (((Chg.refl _ _).alloc _).alloc _).alloc _⟩

theorem ixs_map (xs : List ElV) : (ixs xs).map (·.2) = xs := by
  unfold ixs
  rw [List.map_map]
  have : ((fun x : Nat × ElV => x.2) ∘ fun x : ElV × Nat => (x.2, x.1)) = Prod.fst := rfl
  rw [this, List.zipIdx_map_fst]
theorem find_split {id : IdV} {xs : List ElV} {k : Nat} (hk : k ≤ xs.length) {ini : List (Nat × ElV)} {last : Nat × ElV} (e1 : (ixs xs).take k = ini ++ [last]) (e2 : ∀ x ∈ ini, x.2.id ≠ id) (e3 : last.2.id = id) :
    rankOf xs id = last.1 ∧ indexOf xs id = live (ini.map (·.2)) := by
  have hl : ini.length + 1 = k := by
    have := congrArg List.length e1
    simp [ixs] at this; omega
  have h1 : xs.take k = ini.map (·.2) ++ [last.2] := by
    rw [← ixs_map (xs.take k), ← ixs_take hk, e1, List.map_append]; rfl
  have h2 : xs = ini.map (·.2) ++ last.2 :: xs.drop k := by
    conv => lhs; rw [← List.take_append_drop k xs, h1]
    simp
  have h3 : last.1 = ini.length := by
    have : ((ixs xs).take k)[ini.length]? = some last := by rw [e1]; simp
    rw [List.getElem?_take, if_pos (by omega)] at this
    unfold ixs at this
    rw [List.getElem?_map, List.getElem?_zipIdx] at this
    cases hx : xs[ini.length]? with
    | none => rw [hx] at this; simp at this
    | some y => rw [hx] at this; simp at this; rw [← this]
  have h4 : findE id xs = some (ini.length, live (ini.map (·.2))) := by
    rw [h2]
    have := findE_at (id := id) (pre := ini.map (·.2)) (x := last.2) (post := xs.drop k) (by
      intro y hy
      obtain ⟨z, hz, rfl⟩ := List.mem_map.1 hy
      exact e2 z hz) e3
    simpa using this
  simp [rankOf, indexOf, h4, h3]
theorem Boxed_cast {W : World} {B B' : Nat} {t : TypeId} {v : Value} (h : Boxed W B t v) (e : B = B') : Boxed W B' t v := e ▸ h
/-- what the round's head knows -/
structure FindI (w : World) (id : IdV) (pre : List (Nat × ElV)) (W : World) : Prop where
  no : ∀ x ∈ pre, x.2.id ≠ id
  bid : W.heap[w.heap.size]? = some (.cells (idc id).toArray 34 (0, 0))
  br : Boxed W (w.heap.size + 1) 3 (.int .i64 0)
  bi : Boxed W (w.heap.size + 1 + 1) 3 (.int .i64 (live (pre.map (·.2)) : Int))

theorem cells_own {β : Type} (B : Nat) (o : β → Obj) (ho : ∀ s, (o s).isCells = true) : Own (fun s W => W.heap[B]? = some (o s)) := fun s X Y row hs hg hrow =>
  (hg.block B (Array.getElem?_eq_some_iff.1 hs).1 (fun e' => by obtain ⟨o', ho', hc⟩ := hrow B e'.symm; rw [hs] at ho'; cases ho'; rw [ho s] at hc; cases hc)).trans hs
theorem findI_own (w : World) (id : IdV) : Own (FindI w id) := fun s A B row hs hg hr =>
  ⟨hs.no, cells_own _ (fun (_ : Unit) => _) (fun _ => rfl) () A B row hs.bid hg hr, boxed_own _ _ (fun (_ : Unit) => _) () A B row hs.br hg hr, boxed_own _ _ (fun (_ : Unit) => _) () A B row hs.bi hg hr⟩
set_option maxHeartbeats 4000000 in
theorem find_of {w : World} {p : Nat} {v : Value} {xs : List ElV} (h : Sq w p v xs) (id : IdV) : Calls Try.prog 40 #[.pointer (some ⟨p, 0, none⟩), .agg (idc id).toArray] w fun e w' => e = .returned (.tuple #[.int .i64 (rankOf xs id), .int .i64 (indexOf xs id)]) ∧ Chg [] w w' := by
  refine (callsIn_wide (n := 5)).1 ?_
  refine callsIn_of_wp_marks Try.func40 rfl trivial ?_ rfl
  simp only [Try.ntmps40, List.size_toArray, List.length_cons, List.length_nil, Nat.reduceAdd, Nat.reduceSub, Array.replicate_succ, Array.replicate_zero, List.push_toArray, List.append_toArray, List.nil_append, List.cons_append]
  gi_wp2_with ((refine ⟨trivial, ?_⟩; gi_at_call 66; refine (all_in (5 - 1) p _).mono ?_; rintro e w' ⟨rfl, rfl⟩))
  have hlt := h.lt
  have hvl : ∀ g, v.ownBlock = some g → g < w.heap.size := fun g hg => (h.own.lt g hg).2
  have bI : FindI w id [] ((((w.alloc (.cells (idc id).toArray 34)).alloc (.cells #[.int .i64 0] 3)).alloc (.cells #[.int .i64 0] 3)).alloc (.cells #[.pointer (some ⟨p, 0, none⟩)] 112)) := by
    refine ⟨by simp, ?_, ?_, ?_⟩
    · rw [heap_old _ _ _ (by simp; omega), heap_old _ _ _ (by simp; omega), heap_old _ _ _ (by simp)]; exact heap_new _ _
    · exact ((Boxed.new (w.alloc (.cells (idc id).toArray 34)) 3 (.int .i64 0)).alloc _).alloc _ |> fun h => Boxed_cast h (by simp)
    · exact ((Boxed.new ((w.alloc (.cells (idc id).toArray 34)).alloc (.cells #[.int .i64 0] 3)) 3 (.int .i64 0))).alloc _ |> fun h => Boxed_cast h (by simp)
  have hC : Chg [] w ((((w.alloc (.cells (idc id).toArray 34)).alloc (.cells #[.int .i64 0] 3)).alloc (.cells #[.int .i64 0] 3)).alloc (.cells #[.pointer (some ⟨p, 0, none⟩)] 112)) := ((((Chg.refl _ _).alloc _).alloc _).alloc _).alloc _
  have hbx : ((((w.alloc (.cells (idc id).toArray 34)).alloc (.cells #[.int .i64 0] 3)).alloc (.cells #[.int .i64 0] 3)).alloc (.cells #[.pointer (some ⟨p, 0, none⟩)] 112)).cell? ⟨w.heap.size + 1 + 1 + 1, 0, none⟩ = some (.pointer (some ⟨p, 0, none⟩)) :=
    (Boxed.new (((w.alloc (.cells (idc id).toArray 34)).alloc (.cells #[.int .i64 0] 3)).alloc (.cells #[.int .i64 0] 3)) 112 (.pointer (some ⟨p, 0, none⟩))) |> fun h => (Boxed_cast h (by simp)).cell
  have hsz : ((((w.alloc (.cells (idc id).toArray 34)).alloc (.cells #[.int .i64 0] 3)).alloc (.cells #[.int .i64 0] 3)).alloc (.cells #[.pointer (some ⟨p, 0, none⟩)] 112)).heap.size = w.heap.size + 4 := by simp
  obtain ⟨W0, hW0⟩ : ∃ W0, (((w.alloc (.cells (idc id).toArray 34)).alloc (.cells #[.int .i64 0] 3)).alloc (.cells #[.int .i64 0] 3)).alloc (.cells #[.pointer (some ⟨p, 0, none⟩)] 112) = W0 := ⟨_, rfl⟩
  rw [hW0]
  rw [hW0] at bI hC hbx hsz
  clear hW0
  have hB0 : Below w.heap.size w W0 := hC.below (Nat.le_refl _) (by simp)
  have h0 := h.chg hC (by simp) (by simp)
  refine wpIn_rangeFunc_ownH (by rfl) (by decide) (gf := 79) (lb := #[.pointer (some ⟨w.heap.size + 1 + 1 + 1, 0, none⟩)]) rfl trivial (enters_of Try.func79 (by kernel_rfl) rfl)
    (all_stops (5 - 1) (by decide) (w.heap.size + 1 + 1 + 1) w.heap.size p v xs W0 (by omega) (by omega) hbx h0 hlt hvl) belowK_t (belowK_b (by omega)) (Below.refl _ _) (fun _ => rfl)
    (fun pre W => FindI w id pre W ∧ Below w.heap.size W0 W)
    (fun c pre W => (c = .ret ∧ ∃ ini last, pre = ini ++ [last] ∧ (∀ x ∈ ini, x.2.id ≠ id) ∧ last.2.id = id ∧ Boxed W (w.heap.size + 1) 3 (.int .i64 (last.1 : Int)) ∧ Boxed W (w.heap.size + 1 + 1) 3 (.int .i64 (live (ini.map (·.2)) : Int))) ∧ Below w.heap.size W0 W)
    (OwnFrom.and (Own.from (findI_own w id) _) (ownFrom_below (by omega) (by omega)))
    (fun c => OwnFrom.and (Own.from (fun s A B row hs hg hr => by
      obtain ⟨h1, ini, last, h2, h3, h4, h5, h6⟩ := hs
      exact ⟨h1, ini, last, h2, h3, h4, boxed_own _ _ (fun (_ : Unit) => _) () A B row h5 hg hr, boxed_own _ _ (fun (_ : Unit) => _) () A B row h6 hg hr⟩) _) (ownFrom_below (by omega) (by omega)))
    ⟨bI, Below.refl _ _⟩
    (fun x a' W => ∃ Bx, w.heap.size + 3 < Bx ∧ W.heap[Bx]? = some (.cells (elc x.2).toArray 98 (0, 0)) ∧ a' = { tmps := #[.pointer (some ⟨p, 0, none⟩), .agg (idc id).toArray, undef, .pointer (some ⟨w.heap.size, 0, none⟩), .pointer (some ⟨w.heap.size + 1, 0, none⟩), .pointer (some ⟨w.heap.size + 1 + 1, 0, none⟩), .int .i64 (x.1 : Int), .pointer (some ⟨Bx, 0, none⟩), .pointer (some ⟨p, 0, none⟩), .bool false, .pointer (some ⟨p, 0, none⟩), .pointer (some ⟨p, 0, none⟩), .pointer (some ⟨p, 0, none⟩), .func (.func 79) #[] #[.pointer (some ⟨w.heap.size + 1 + 1 + 1, 0, none⟩)], .int .i64 (x.1 : Int), .agg (elc x.2).toArray, undef, undef, undef, undef, undef, undef, undef, undef, undef, undef], defers := [] })
    (fun x a' _ A B row hs hg hr => by
      obtain ⟨Bx, h1, h2, h3⟩ := hs
      exact ⟨Bx, h1, cells_own Bx (fun (_ : Unit) => _) (fun _ => rfl) () A B row h2 hg (fun r e => (hr r e).2), h3⟩)
    ?assign ?body ?done ?stop
  case assign =>
    rintro l pre x W K ⟨hI, hB⟩ hK
    have hWn : w.heap.size ≤ W.heap.size := by have := hB.size; omega
    have hlow : w.heap.size + 3 < W.heap.size := by have := hB.size; omega
    gi_wp2_with (first
        | ((with_reducible show wpListIn _ _ _ _ _ (⟨some 7, _, _, _, _, _⟩ :: _) _ _); refine wpListIn_allocZ zeroEl ?_)
        | ((with_reducible show wpListIn _ _ _ _ _ (⟨none, Op.store _ _ (.tmp 15), _, _, _, _⟩ :: _) _ _); refine wpListIn_storeNew (m := 67) aggEl.size rfl rfl (by simp [elc_len]) (by kernel_rfl) (by simpa using elc_one x.2) ?_))
    refine hK _ _ ((KeepsOthers.alloc _ _).from _) ((Below.refl _ W).alloc hWn _) ⟨⟨hI.no, ?_, hI.br.alloc _, hI.bi.alloc _⟩, hB.alloc hWn _⟩ ⟨W.heap.size, hlow, heap_new _ _, rfl⟩
    rw [heap_old _ _ _ (Array.getElem?_eq_some_iff.1 hI.bid).1]; exact hI.bid
  case body =>
    rintro l pre x a' W hl ⟨r, hr⟩ ⟨hI, hB⟩ ⟨Bx, hBx, bX, rfl⟩ hlen
    have hCx : Cs W Bx 0 (idc x.2.id) := Cs.of_heap bX 0 (by intro j u hu; rw [Nat.zero_add]; simpa using elc_id x.2 hu)
    have hCi : Cs W w.heap.size 0 (idc id) := Cs.of_heap hI.bid 0 (by intro j u hu; simpa using hu)
    have hcs : W.cell? ⟨Bx, 66, none⟩ = some (.bool x.2.shown) := by rw [cell_of_row _ _ _ _ _ _ bX]; simpa using elc_shown x.2
    have c5 := hI.bi.cell
    have f5 := hI.bi.frozen
    have c4 := hI.br.cell
    have f4 := hI.br.frozen
    have hlv : live (pre.map (·.2)) ≤ 1099511627776 := by have := live_le (pre.map (·.2)); have := h.sz; simp at *; omega
    have HI := Lib.hid hI
    have HB := Lib.hid hB
    have hWn : w.heap.size ≤ W.heap.size := by have := hB.size; omega
    have HX := Lib.hid bX
    have HL := Lib.hid hr
    have h4 : w.heap.size + 1 < W0.heap.size := by omega
    have h5 : w.heap.size + 1 + 1 < W0.heap.size := by omega
    clear hI hB bX hr hl hlen hbx bI hB0 h0 hC h
    by_cases hid : x.2.id = id
    · have HQ : Hid (true = true ↔ (idc x.2.id).toArray = (idc id).toArray) := Lib.hid (by simp [hid])
      have HD := Lib.hid hid
      clear hid
      gi_wp2_with (first
        | ((with_reducible show wpListIn _ _ _ _ _ (⟨some 17, _, _, _, _, _⟩ :: _) _ _); refine wpListIn_loadAgg aggId rfl hCx (idc_len _) ?_)
        | ((with_reducible show wpListIn _ _ _ _ _ (⟨some 18, _, _, _, _, _⟩ :: _) _ _); refine wpListIn_loadAgg aggId rfl hCi (idc_len _) ?_)
        | ((with_reducible show wpListIn _ _ _ _ _ (⟨some 19, _, _, _, _, _⟩ :: _) _ _); refine wpListIn_eqlFlat flatId guardId rfl rfl (by simpa using idc_leaves x.2.id) (by simpa using idc_leaves id) HQ.out ?_))
      have mixed : Try.prog.follows .mixedOrders = true := by kernel_rfl
      gi_region_with_o (fail)
      all_goals gi_wp2
      all_goals simp only [ownPostG]
      all_goals
        have hch : Chg [w.heap.size + 1, w.heap.size + 1 + 1] W ((W.setCell ⟨w.heap.size + 1, 0, none⟩ (.int .i64 x.1)).setCell ⟨w.heap.size + 1 + 1, 0, none⟩ (.int .i64 (live (pre.map (·.2)) : Int))).drew := (((Chg.refl _ _).setCell (.inl (by simp)) _).setCell (.inl (by simp)) _).drew
        refine ⟨(hch.keeps ?_).from _, ⟨trivial, pre, x, rfl, HI.out.no, HD.out, ?_, ?_⟩, HB.out.trans (hch.below hWn (by simp; omega))⟩
        · intro g hg hgl
          simp at hg
          rcases hg with rfl | rfl
          · exact ⟨_, _, _, HI.out.br⟩
          · exact ⟨_, _, _, HI.out.bi⟩
        · exact ((HI.out.br.set (.int .i64 x.1)).other (by omega) _)
        · exact (HI.out.bi.other (by omega) _).set _
    · have HQ : Hid (false = true ↔ (idc x.2.id).toArray = (idc id).toArray) := Lib.hid (by simp; exact fun e => hid (idc_inj e))
      have HD := Lib.hid hid
      clear hid
      have hno : ∀ y ∈ pre ++ [x], y.2.id ≠ id := by
        intro y hy
        rcases List.mem_append.1 hy with hy | hy
        · exact HI.out.no y hy
        · simp at hy; subst hy; exact HD.out
      have HN := Lib.hid hno
      clear hno
      cases hsh : x.2.shown
      · rw [hsh] at hcs
        have HS := Lib.hid hsh
        clear hsh
        gi_wp2_with (first
          | ((with_reducible show wpListIn _ _ _ _ _ (⟨some 17, _, _, _, _, _⟩ :: _) _ _); refine wpListIn_loadAgg aggId rfl hCx (idc_len _) ?_)
          | ((with_reducible show wpListIn _ _ _ _ _ (⟨some 18, _, _, _, _, _⟩ :: _) _ _); refine wpListIn_loadAgg aggId rfl hCi (idc_len _) ?_)
          | ((with_reducible show wpListIn _ _ _ _ _ (⟨some 19, _, _, _, _, _⟩ :: _) _ _); refine wpListIn_eqlFlat flatId guardId rfl rfl (by simpa using idc_leaves x.2.id) (by simpa using idc_leaves id) HQ.out ?_))
        simp only [ownPostG]
        refine ⟨KeepsFrom.refl _ _, Below.refl _ _, ⟨HN.out, HI.out.bid, HI.out.br, ?_⟩, HB.out⟩
        rw [List.map_append, List.map_singleton, live_snoc, HS.out]
        exact HI.out.bi
      · rw [hsh] at hcs
        have HS := Lib.hid hsh
        clear hsh
        gi_wp2_with (first
          | ((with_reducible show wpListIn _ _ _ _ _ (⟨some 17, _, _, _, _, _⟩ :: _) _ _); refine wpListIn_loadAgg aggId rfl hCx (idc_len _) ?_)
          | ((with_reducible show wpListIn _ _ _ _ _ (⟨some 18, _, _, _, _, _⟩ :: _) _ _); refine wpListIn_loadAgg aggId rfl hCi (idc_len _) ?_)
          | ((with_reducible show wpListIn _ _ _ _ _ (⟨some 19, _, _, _, _, _⟩ :: _) _ _); refine wpListIn_eqlFlat flatId guardId rfl rfl (by simpa using idc_leaves x.2.id) (by simpa using idc_leaves id) HQ.out ?_))
        simp only [ownPostG]
        have hch : Chg [w.heap.size + 1 + 1] W (W.setCell ⟨w.heap.size + 1 + 1, 0, none⟩ (.int .i64 ((live (pre.map (·.2)) : Int) + 1))) := (Chg.refl _ _).setCell (.inl (by simp)) _
        refine ⟨(hch.keeps ?_).from _, hch.below hWn (by simp; omega), ⟨HN.out, ?_, ?_, ?_⟩, HB.out.trans (hch.below hWn (by simp; omega))⟩
        · intro g hg hgl
          simp at hg
          subst hg
          exact ⟨_, _, _, HI.out.bi⟩
        · exact hch.heap HI.out.bid (by simp; omega)
        · exact HI.out.br.other (by omega) _
        · rw [List.map_append, List.map_singleton, live_snoc, HS.out]
          exact HI.out.bi.set _
  case done =>
    rintro D ys W hD rfl ⟨hI, hB⟩ hK
    have c5 := hI.bi.cell
    have f5 := hI.bi.frozen
    have c4 := hI.br.cell
    have f4 := hI.br.frozen
    gi_wp2
    have hch : Chg [w.heap.size + 1, w.heap.size + 1 + 1] W ((W.setCell ⟨w.heap.size + 1, 0, none⟩ (.int .i64 (-1))).setCell ⟨w.heap.size + 1 + 1, 0, none⟩ (.int .i64 (-1))) := ((Chg.refl _ _).setCell (.inl (by simp)) _).setCell (.inl (by simp)) _
    have b1 := ((hI.br.set (.int .i64 (-1))).other (B' := w.heap.size + 1 + 1) (by omega) (.int .i64 (-1)))
    have b2 := (hI.bi.other (B' := w.heap.size + 1) (by omega) (.int .i64 (-1))).set (.int .i64 (-1))
    have hK' : ((W.setCell ⟨w.heap.size + 1, 0, none⟩ (.int .i64 (-1))).setCell ⟨w.heap.size + 1 + 1, 0, none⟩ (.int .i64 (-1))).heap[D]? = some (.deferred (some [])) := hch.heap hK (by simp; omega)
    refine ⟨by simp, .inl ⟨_, _, rfl, run_takeDeferred hK', ?_⟩⟩
    have hc4 := cell_kept b1.cell (grownBy_putObj' _ D (.deferred none)) (fun r e => by cases e; exact ⟨_, hK', rfl⟩)
    have hc5 := cell_kept b2.cell (grownBy_putObj' _ D (.deferred none)) (fun r e => by cases e; exact ⟨_, hK', rfl⟩)
    have hnone := findE_none (id := id) (xs := xs) (fun x hx => by
      obtain ⟨i, hi⟩ := List.mem_iff_getElem?.1 hx
      exact hI.no (i, x) (List.mem_iff_getElem?.2 ⟨i, by unfold ixs; rw [List.getElem?_map, List.getElem?_zipIdx, hi]; simp⟩))
    refine ⟨.tuple #[.int .i64 (-1), .int .i64 (-1)], by simp [results, Try.f40, go_sem, hc4, hc5], ?_, ?_⟩
    · simp [rankOf, indexOf, hnone]
    · exact Chg.of_below (((hB0.trans hB).trans (hch.below (by have := hB.size; omega) (by simp; omega))).trans (belowK_b (w := w) (Nat.le_refl _) _ D _ _ (by omega) hK' rfl rfl)) []
  case stop =>
    rintro D c pre W hD ⟨k, hk, rfl⟩ ⟨⟨rfl, ini, last, e1, e2, e3, b1, b2⟩, hB⟩ hK
    gi_wp2
    refine ⟨by simp, .inl ⟨_, _, rfl, run_takeDeferred hK, ?_⟩⟩
    have hc4 := cell_kept b1.cell (grownBy_putObj' _ D (.deferred none)) (fun r e => by cases e; exact ⟨_, hK, rfl⟩)
    have hc5 := cell_kept b2.cell (grownBy_putObj' _ D (.deferred none)) (fun r e => by cases e; exact ⟨_, hK, rfl⟩)
    obtain ⟨h1, h2⟩ := find_split hk e1 e2 e3
    refine ⟨.tuple #[.int .i64 last.1, .int .i64 (live (ini.map (·.2)))], by simp [results, Try.f40, go_sem, hc4, hc5], ?_, ?_⟩
    · rw [h1, h2]
    · exact Chg.of_below ((hB0.trans hB).trans (belowK_b (w := w) (Nat.le_refl _) _ D _ _ (by omega) hK rfl rfl)) []
end Go.Proofs.Ytefkmdejcdhnjaa.S
