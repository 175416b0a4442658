/- Seq: Insert. -/
import Derived.Test.YtefkmdejcdhnjaaSF
namespace Go.Proofs.Ytefkmdejcdhnjaa.S
open Go Go.RowKit Go.Shelf Go.Proofs.Ytefkmdejcdhnjaa.K
set_option maxRecDepth 100000

theorem placesEl : (match Try.prog.underlying 98 with | some (.struct fs) => fs.toList.mapM (fun f => (Try.prog.info? f.type).map fun i => (f.offset, i.size)) | _ => none) = some [(0, 33), (33, 33), (66, 1)] := by kernel_rfl
theorem placesId : (match Try.prog.underlying 34 with | some (.struct fs) => fs.toList.mapM (fun f => (Try.prog.info? f.type).map fun i => (f.offset, i.size)) | _ => none) = some [(0, 32), (32, 1)] := by kernel_rfl
theorem ex_buildEl {ρ : Operand → Value} {w : World} {dst : Option Tmp} {x y z : Operand} {id behind : IdV} {b : Bool} {tt : TypeId} {pos : String} {after : Array Edge} {g : Option (Nat × Bool)} (hx : ρ x = .agg (idc id).toArray) (hy : ρ y = .agg (idc behind).toArray) (hz : ρ z = .bool b) :
    (execOp ρ ⟨dst, .build 98 #[(0, x), (1, y), (2, z)], tt, pos, after, g⟩).run Try.prog w = .ok (.value (.agg (elc ⟨id, behind, b⟩).toArray)) w := by
  refine ex_buildS zeroEl placesEl ?_
  have h0 : zEl.cells = (elc ElV.zero).toArray := rfl
  have l1 := idc_len id
  have l2 := idc_len behind
  have l3 := idc_len IdV.zero
  simp only [List.map_toArray, List.map_cons, List.map_nil, hx, hy, hz, h0]
  have e1 : splice (elc ElV.zero).toArray 0 (Value.agg (idc id).toArray).cells = (idc id ++ (idc IdV.zero ++ [Value.bool false])).toArray := by
    have : (Value.agg (idc id).toArray).cells = (idc id).toArray := rfl
    rw [this]
    simp [splice, elc, ElV.zero, l1, l3, List.drop_append]
  have e2 : splice (idc id ++ (idc IdV.zero ++ [Value.bool false])).toArray 33 (Value.agg (idc behind).toArray).cells = (idc id ++ (idc behind ++ [Value.bool false])).toArray := by
    have : (Value.agg (idc behind).toArray).cells = (idc behind).toArray := rfl
    rw [this]
    simp [splice, l1, l2, l3, List.take_append, List.drop_append]
  have e3 : splice (idc id ++ (idc behind ++ [Value.bool false])).toArray 66 (Value.bool b).cells = (elc ⟨id, behind, b⟩).toArray := by
    have : (Value.bool b).cells = #[Value.bool b] := rfl
    rw [this]
    simp [splice, elc, l1, l2, List.take_append, List.drop_append]
    rw [List.drop_eq_nil_of_le (by omega), List.drop_eq_nil_of_le (by omega)]
    simp
    try exact List.take_of_length_le (by omega)
  rw [fill_cons (off := 0) (size := 33) rfl (by simp [Value.cells, l1]) (by simp [elc_len]), e1, fill_cons (off := 33) (size := 33) rfl (by simp [Value.cells, l2]) (by simp [l1, l3]), e2, fill_cons (off := 66) (size := 1) rfl rfl (by simp [l1, l2]), e3]
  rfl

theorem ex_eqId {ρ : Operand → Value} {w : World} {dst : Option Tmp} {x y : Operand} {a b : IdV} {T' tt : TypeId} {pos : String} {after : Array Edge} {g : Option (Nat × Bool)} {r : Bool} (hx : ρ x = .agg (idc a).toArray) (hy : ρ y = .agg (idc b).toArray) (hr : decide (a = b) = r) :
    (execOp ρ ⟨dst, .binOp .eql 34 x y T', tt, pos, after, g⟩).run Try.prog w = .ok (.value (.bool r)) w :=
  ex_eqlFlat flatId guardId hx hy (by simpa using idc_leaves a) (by simpa using idc_leaves b) (by rw [← hr]; simp; exact ⟨fun e => by rw [e], fun e => idc_inj e⟩)
theorem ex_neId {ρ : Operand → Value} {w : World} {dst : Option Tmp} {x y : Operand} {a b : IdV} {T' tt : TypeId} {pos : String} {after : Array Edge} {g : Option (Nat × Bool)} {r : Bool} (hx : ρ x = .agg (idc a).toArray) (hy : ρ y = .agg (idc b).toArray) (hr : (!decide (a = b)) = r) :
    (execOp ρ ⟨dst, .binOp .neq 34 x y T', tt, pos, after, g⟩).run Try.prog w = .ok (.value (.bool r)) w := by
  rw [← hr]
  exact ex_neqFlat flatId guardId hx hy (by simpa using idc_leaves a) (by simpa using idc_leaves b) (by simp; exact ⟨fun e => by rw [e], fun e => idc_inj e⟩)
theorem ex_zeroId {ρ : Operand → Value} {w : World} {dst : Option Tmp} {tt : TypeId} {pos : String} {after : Array Edge} {g : Option (Nat × Bool)} : (execOp ρ ⟨dst, .build 34 #[], tt, pos, after, g⟩).run Try.prog w = .ok (.value (.agg (idc IdV.zero).toArray)) w := ex_build0 zeroId placesId

def insR (xs : List ElV) (id behind : IdV) : Int × List ElV :=
  if id.n < 1 then (2, xs) else if 0 ≤ rankOf xs id then (5, xs) else if rankOf xs behind < 0 ∧ behind ≠ .zero then (4, xs) else (0, insE xs (rankOf xs behind + 1).toNat ⟨id, behind, true⟩)

theorem findE_lt {id : IdV} : ∀ {xs : List ElV} {r : Nat × Nat}, findE id xs = some r → r.1 < xs.length
  | [], _, h => by cases h
  | x :: xs, r, h => by
    unfold findE at h
    split at h
    · cases h; simp
    · rw [Option.map_eq_some_iff] at h
      obtain ⟨q, hq, rfl⟩ := h
      have := findE_lt hq
      simp; omega
theorem rank_rng (xs : List ElV) (id : IdV) : -1 ≤ rankOf xs id ∧ rankOf xs id < xs.length := by
  unfold rankOf
  split
  · rename_i r h; have := findE_lt h; omega
  · omega

theorem put_at {w : World} {p : Nat} {s : Value} {xs : List ElV} (h : Sq w p s xs) {i : Nat} (hi : i ≤ xs.length) {y : Int} (hy : y = i) (x : ElV) (hsz : xs.length + 1 ≤ 1099511627776) :
    Calls Try.prog 41 #[.pointer (some ⟨p, 0, none⟩), .int .i64 y, .agg (elc x).toArray] w fun e w' => e = .returned (.tuple #[]) ∧ ∃ v', Sq w' p v' (insE xs i x) ∧ SqStep w w' p s v' := by
  subst hy; exact put_of h hi x hsz

/-- what an Insert leaves -/
def InsOut (w : World) (p : Nat) (s : Value) (r : Int × List ElV) (e : Ending) (w' : World) : Prop := e = .returned (.int .i64 r.1) ∧ ∃ v', Sq w' p v' r.2 ∧ SqStep w w' p s v'
theorem SqStep.of_chg {w w' : World} {p : Nat} {s : Value} (h : Chg [] w w') : SqStep w w' p s s := ⟨h.weak, fun _ h => .inl h⟩

set_option maxHeartbeats 2000000 in
theorem insertFn_of {w : World} {p : Nat} {s : Value} {xs : List ElV} (h : Sq w p s xs) (id behind : IdV) (hsz : xs.length + 1 ≤ 1099511627776) :
    Calls Try.prog 17 #[.pointer (some ⟨p, 0, none⟩), .agg (idc id).toArray, .agg (idc behind).toArray] w (InsOut w p s (insR xs id behind)) := by
  have hC1 : Chg [] w ((w.alloc (.cells (idc id).toArray 34)).alloc (.cells (idc behind).toArray 34)) := ((Chg.refl _ _).alloc _).alloc _
  have hbi : ((w.alloc (.cells (idc id).toArray 34)).alloc (.cells (idc behind).toArray 34)).heap[w.heap.size]? = some (.cells (idc id).toArray 34 (0, 0)) := by rw [heap_old _ _ _ (by simp)]; exact heap_new _ _
  have hbb : ((w.alloc (.cells (idc id).toArray 34)).alloc (.cells (idc behind).toArray 34)).heap[w.heap.size + 1]? = some (.cells (idc behind).toArray 34 (0, 0)) := by
    have := heap_new (w.alloc (.cells (idc id).toArray 34)) (.cells (idc behind).toArray 34)
    simpa using this
  have h1 := h.chg hC1 (by simp) (by simp)
  have ci : Cs ((w.alloc (.cells (idc id).toArray 34)).alloc (.cells (idc behind).toArray 34)) w.heap.size 0 (idc id) := Cs.of_heap hbi 0 (by intro j u hu; simpa using hu)
  have cb : Cs ((w.alloc (.cells (idc id).toArray 34)).alloc (.cells (idc behind).toArray 34)) (w.heap.size + 1) 0 (idc behind) := Cs.of_heap hbb 0 (by intro j u hu; simpa using hu)
  have cn : ((w.alloc (.cells (idc id).toArray 34)).alloc (.cells (idc behind).toArray 34)).cell? ⟨w.heap.size, 32, none⟩ = some (.int .i64 id.n) := ci 32 (.int .i64 id.n) (by simp [idc, id.len])
  obtain ⟨r, hr⟩ : ∃ r, insR xs id behind = r := ⟨_, rfl⟩
  rw [hr]
  have HR0 := Lib.hid hr
  have hrk := rank_rng xs id
  have hrb := rank_rng xs behind
  clear hr hbi hbb h
  have nok := id.nok
  simp only [Lit.wf, IntKind.min, IntKind.max, IntKind.signed, IntKind.bits] at nok
  by_cases hn : id.n < 1
  · clear nok
    go_enter Try.func17, Try.ntmps17
    go_wp2
    go_ret
    have e : r = (2, xs) := by rw [← HR0.out]; simp [insR, hn]
    exact ⟨by rw [e]; rfl, s, by rw [e]; exact h1, SqStep.of_chg hC1⟩
  · have hs1 := h1.sz
    by_cases hk : 0 ≤ rankOf xs id
    · clear nok
      go_enter Try.func17, Try.ntmps17
      go_wp2_with (first
        | ((with_reducible show wpList _ _ _ (⟨some 15, _, _, _, _, _⟩ :: _) _ _); refine wpList_loadAgg aggId rfl ci (idc_len _) ?_)
        | (go_at_call 32; refine (has_of h1 id).mono ?_; rintro e w2 ⟨rfl, hc2⟩; rw [decide_eq_true hk]))
      go_ret
      have e : r = (5, xs) := by rw [← HR0.out]; simp [insR, hn, hk]
      exact ⟨by rw [e]; rfl, s, by rw [e]; exact h1.chg hc2 (by simp) (by simp), SqStep.of_chg (hC1.trans hc2)⟩
    · by_cases hb : rankOf xs behind < 0 ∧ behind ≠ .zero
      · obtain ⟨hb1, hb2⟩ := hb
        have HB2 := Lib.hid hb2
        have HE := Lib.hid (show r = (4, xs) by rw [← HR0.out]; simp only [insR]; rw [if_neg hn, if_neg hk, if_pos ⟨hb1, hb2⟩])
        have hk' : decide (0 ≤ rankOf xs id) = false := by simpa using hk
        clear nok hb2
        go_enter Try.func17, Try.ntmps17
        go_wp2_with (first
          | ((with_reducible show wpList _ _ _ (⟨some 15, _, _, _, _, _⟩ :: _) _ _); refine wpList_loadAgg aggId rfl ci (idc_len _) ?_)
          | ((with_reducible show wpList _ _ _ (⟨some 19, _, _, _, _, _⟩ :: _) _ _); refine wpList_loadAgg aggId rfl cb2 (idc_len _) ?_)
          | ((with_reducible show wpList _ _ _ (⟨some 26, _, _, _, _, _⟩ :: _) _ _); refine wpList_valG (by rfl) (ex_loadAgg aggId rfl cb3 (idc_len _)) ?_)
          | ((with_reducible show wpList _ _ _ (⟨some 27, _, _, _, _, _⟩ :: _) _ _); refine wpList_valG (by rfl) ex_zeroId ?_)
          | ((with_reducible show wpList _ _ _ (⟨some 28, _, _, _, _, _⟩ :: _) _ _); refine wpList_valG (by rfl) (ex_neId (r := true) rfl rfl (by simp [HB2.out])) ?_)
          | (go_at_call 32; refine (has_of h1 id).mono ?_; rintro e w2 ⟨rfl, hc2⟩; rw [hk']; have h2 := h1.chg hc2 (by simp) (by simp); have cb2 := cb.chg hc2 (by simp))
          | (go_at_call 40; refine (find_of h2 behind).mono ?_; rintro e w3 ⟨rfl, hc3⟩; have h3 := h2.chg hc3 (by simp) (by simp); have cb3 := cb2.chg hc3 (by simp)))
        go_ret
        exact ⟨by rw [HE.out]; rfl, s, by rw [HE.out]; exact h3, SqStep.of_chg ((hC1.trans hc2).trans hc3)⟩
      · have e : r = (0, insE xs (rankOf xs behind + 1).toNat ⟨id, behind, true⟩) := by rw [← HR0.out]; simp only [insR]; rw [if_neg hn, if_neg hk, if_neg hb]
        have hk' : decide (0 ≤ rankOf xs id) = false := by simpa using hk
        obtain ⟨ir, hir0⟩ : ∃ ir : Nat, ir = (rankOf xs behind + 1).toNat := ⟨_, rfl⟩
        have hir : ir ≤ xs.length := by omega
        have hirz : rankOf xs behind + 1 = (ir : Int) := by omega
        have HR := Lib.hid hirz
        have HE := Lib.hid e
        have HI := Lib.hid hir0
        clear nok e hirz hir0
        by_cases hb0 : rankOf xs behind < 0
        · have hbz : behind = .zero := by
            by_cases hz : behind = .zero
            · exact hz
            · exact absurd ⟨hb0, hz⟩ hb
          have HZ := Lib.hid hbz
          clear hbz hb
          go_enter Try.func17, Try.ntmps17
          go_wp2_with (first
            | ((with_reducible show wpList _ _ _ (⟨some 15, _, _, _, _, _⟩ :: _) _ _); refine wpList_loadAgg aggId rfl ci (idc_len _) ?_)
            | ((with_reducible show wpList _ _ _ (⟨some 19, _, _, _, _, _⟩ :: _) _ _); refine wpList_loadAgg aggId rfl cb2 (idc_len _) ?_)
            | ((with_reducible show wpList _ _ _ (⟨some 26, _, _, _, _, _⟩ :: _) _ _); refine wpList_valG (by rfl) (ex_loadAgg aggId rfl cb3 (idc_len _)) ?_)
            | ((with_reducible show wpList _ _ _ (⟨some 27, _, _, _, _, _⟩ :: _) _ _); refine wpList_valG (by rfl) ex_zeroId ?_)
            | ((with_reducible show wpList _ _ _ (⟨some 28, _, _, _, _, _⟩ :: _) _ _); refine wpList_valG (by rfl) (ex_neId (r := false) rfl rfl (by simp [HZ.out])) ?_)
            | (go_at_call 32; refine (has_of h1 id).mono ?_; rintro e w2 ⟨rfl, hc2⟩; rw [hk']; have h2 := h1.chg hc2 (by simp) (by simp); have cb2 := cb.chg hc2 (by simp); have ci2 := ci.chg hc2 (by simp))
            | (go_at_call 40; refine (find_of h2 behind).mono ?_; rintro e w3 ⟨rfl, hc3⟩; have h3 := h2.chg hc3 (by simp) (by simp); have cb3 := cb2.chg hc3 (by simp); have ci3 := ci2.chg hc3 (by simp)))
          have hS0 : Chg [] w3 w3.drew := (Chg.refl [] w3).drew
          refine wp_region_U (fun wx => Chg [] w3 wx) [8] (by kernel_rfl) ?_
          refine u_take0 (i := 0) (v := ?_) 30 rfl rfl (by kernel_rfl) (by kernel_rfl) (by kernel_rfl) (fun _ _ _ h => h) (by rfl) ?_ ?_
          case refine_2 => intro wx; go_simp; with_reducible rfl
          try simp only [Act.put, List.setIfInBounds_toArray, List.set_cons_succ, List.set_cons_zero]
          refine u_take0 (i := 1) (v := ?_) 31 rfl rfl (by kernel_rfl) (by kernel_rfl) (by kernel_rfl) (fun _ _ _ h => h) (by rfl) ?_ ?_
          case refine_2 => intro wx; go_simp; with_reducible rfl
          try simp only [Act.put, List.setIfInBounds_toArray, List.set_cons_succ, List.set_cons_zero]
          refine u_take0 (i := 2) (v := ?_) 32 rfl rfl (by kernel_rfl) (by kernel_rfl) (by kernel_rfl) (fun _ _ _ h => h) (by rfl) ?_ ?_
          case refine_2 => intro wx; go_simp; with_reducible rfl
          try simp only [Act.put, List.setIfInBounds_toArray, List.set_cons_succ, List.set_cons_zero]
          refine u_take0 (i := 3) (v := ?_) 33 rfl rfl (by kernel_rfl) (by kernel_rfl) (by kernel_rfl) (fun _ _ _ h => h) (by rfl) ?_ ?_
          case refine_2 => intro wx; go_simp; with_reducible rfl
          try simp only [Act.put, List.setIfInBounds_toArray, List.set_cons_succ, List.set_cons_zero]
          refine u_take0 (i := 4) (v := ?_) 34 rfl rfl (by kernel_rfl) (by kernel_rfl) (by kernel_rfl) (fun _ _ _ h => h) (by rfl) ?_ ?_
          case refine_2 => intro wx; go_simp; with_reducible rfl
          try simp only [Act.put, List.setIfInBounds_toArray, List.set_cons_succ, List.set_cons_zero]
          refine u_take (i := 5) (v := .agg (idc id).toArray) 35 rfl rfl (by kernel_rfl) (by kernel_rfl) (by kernel_rfl) (by kernel_rfl) (fun _ _ _ h => h) (by rfl) (fun wx hwx => ex_loadAgg aggId rfl (Cs.chg ci3 hwx (by simp)) (idc_len _)) hS0 ?_
          try simp only [Act.put, List.setIfInBounds_toArray, List.set_cons_succ, List.set_cons_zero]
          refine u_take (i := 6) (v := .agg (idc behind).toArray) 36 rfl rfl (by kernel_rfl) (by kernel_rfl) (by kernel_rfl) (by kernel_rfl) (fun _ _ _ h => h) (by rfl) (fun wx hwx => ex_loadAgg aggId rfl (Cs.chg cb3 hwx (by simp)) (idc_len _)) hS0 ?_
          try simp only [Act.put, List.setIfInBounds_toArray, List.set_cons_succ, List.set_cons_zero]
          refine u_take (i := 7) (v := .agg (elc ⟨id, behind, true⟩).toArray) 37 rfl rfl (by kernel_rfl) (by kernel_rfl) (by kernel_rfl) (by kernel_rfl) (fun _ _ _ h => h) (by rfl) (fun wx hwx => ex_buildEl rfl rfl rfl) hS0 ?_
          try simp only [Act.put, List.setIfInBounds_toArray, List.set_cons_succ, List.set_cons_zero]
          -- 8: Op.call { callee := Callee.value (Operand.func 41), args := #[Operand.tmp 32, Op
          refine u_step (i := 8) rfl (by kernel_rfl) (fun K hK => ?_)
          go_simp
          go_wp2_with (fail)
          refine (put_at (h3.chg (Chg.refl [] _).drew (by simp) (by simp)) hir (by rw [IntKind.wrap_i64]; have := HR.out; have := rank_rng xs behind; omega) ⟨id, behind, true⟩ hsz).mono ?_; rintro e w4 ⟨rfl, v', hS4, hst4⟩
          refine hK _ _ (fun h => absurd h (by decide)) ?_
          clear hK
          try simp only [Act.put, List.setIfInBounds_toArray, List.set_cons_succ, List.set_cons_zero]
          refine u_done (by kernel_rfl) ?_ _
          go_wp2
          go_ret
          refine ⟨by rw [HE.out]; rfl, v', by rw [HE.out, ← HI.out]; exact hS4, ⟨?_, ?_⟩⟩
          · exact (((hC1.trans hc2).trans hc3).weak.trans (hS0.weak)).trans hst4.chg
          · intro g hg
            refine (hst4.loc g hg).imp (fun x => x) (fun h' => ?_)
            have := ((hC1.trans hc2).trans hc3).size
            exact Nat.le_trans this h'

        · clear hb
          go_enter Try.func17, Try.ntmps17
          go_wp2_with (first
            | ((with_reducible show wpList _ _ _ (⟨some 15, _, _, _, _, _⟩ :: _) _ _); refine wpList_loadAgg aggId rfl ci (idc_len _) ?_)
            | ((with_reducible show wpList _ _ _ (⟨some 19, _, _, _, _, _⟩ :: _) _ _); refine wpList_loadAgg aggId rfl cb2 (idc_len _) ?_)
            | (go_at_call 32; refine (has_of h1 id).mono ?_; rintro e w2 ⟨rfl, hc2⟩; rw [hk']; have h2 := h1.chg hc2 (by simp) (by simp); have cb2 := cb.chg hc2 (by simp); have ci2 := ci.chg hc2 (by simp))
            | (go_at_call 40; refine (find_of h2 behind).mono ?_; rintro e w3 ⟨rfl, hc3⟩; have h3 := h2.chg hc3 (by simp) (by simp); have cb3 := cb2.chg hc3 (by simp); have ci3 := ci2.chg hc3 (by simp)))
          have hS0 : Chg [] w3 w3.drew := (Chg.refl [] w3).drew
          refine wp_region_U (fun wx => Chg [] w3 wx) [8] (by kernel_rfl) ?_
          refine u_take0 (i := 0) (v := ?_) 30 rfl rfl (by kernel_rfl) (by kernel_rfl) (by kernel_rfl) (fun _ _ _ h => h) (by rfl) ?_ ?_
          case refine_2 => intro wx; go_simp; with_reducible rfl
          try simp only [Act.put, List.setIfInBounds_toArray, List.set_cons_succ, List.set_cons_zero]
          refine u_take0 (i := 1) (v := ?_) 31 rfl rfl (by kernel_rfl) (by kernel_rfl) (by kernel_rfl) (fun _ _ _ h => h) (by rfl) ?_ ?_
          case refine_2 => intro wx; go_simp; with_reducible rfl
          try simp only [Act.put, List.setIfInBounds_toArray, List.set_cons_succ, List.set_cons_zero]
          refine u_take0 (i := 2) (v := ?_) 32 rfl rfl (by kernel_rfl) (by kernel_rfl) (by kernel_rfl) (fun _ _ _ h => h) (by rfl) ?_ ?_
          case refine_2 => intro wx; go_simp; with_reducible rfl
          try simp only [Act.put, List.setIfInBounds_toArray, List.set_cons_succ, List.set_cons_zero]
          refine u_take0 (i := 3) (v := ?_) 33 rfl rfl (by kernel_rfl) (by kernel_rfl) (by kernel_rfl) (fun _ _ _ h => h) (by rfl) ?_ ?_
          case refine_2 => intro wx; go_simp; with_reducible rfl
          try simp only [Act.put, List.setIfInBounds_toArray, List.set_cons_succ, List.set_cons_zero]
          refine u_take0 (i := 4) (v := ?_) 34 rfl rfl (by kernel_rfl) (by kernel_rfl) (by kernel_rfl) (fun _ _ _ h => h) (by rfl) ?_ ?_
          case refine_2 => intro wx; go_simp; with_reducible rfl
          try simp only [Act.put, List.setIfInBounds_toArray, List.set_cons_succ, List.set_cons_zero]
          refine u_take (i := 5) (v := .agg (idc id).toArray) 35 rfl rfl (by kernel_rfl) (by kernel_rfl) (by kernel_rfl) (by kernel_rfl) (fun _ _ _ h => h) (by rfl) (fun wx hwx => ex_loadAgg aggId rfl (Cs.chg ci3 hwx (by simp)) (idc_len _)) hS0 ?_
          try simp only [Act.put, List.setIfInBounds_toArray, List.set_cons_succ, List.set_cons_zero]
          refine u_take (i := 6) (v := .agg (idc behind).toArray) 36 rfl rfl (by kernel_rfl) (by kernel_rfl) (by kernel_rfl) (by kernel_rfl) (fun _ _ _ h => h) (by rfl) (fun wx hwx => ex_loadAgg aggId rfl (Cs.chg cb3 hwx (by simp)) (idc_len _)) hS0 ?_
          try simp only [Act.put, List.setIfInBounds_toArray, List.set_cons_succ, List.set_cons_zero]
          refine u_take (i := 7) (v := .agg (elc ⟨id, behind, true⟩).toArray) 37 rfl rfl (by kernel_rfl) (by kernel_rfl) (by kernel_rfl) (by kernel_rfl) (fun _ _ _ h => h) (by rfl) (fun wx hwx => ex_buildEl rfl rfl rfl) hS0 ?_
          try simp only [Act.put, List.setIfInBounds_toArray, List.set_cons_succ, List.set_cons_zero]
          -- 8: Op.call { callee := Callee.value (Operand.func 41), args := #[Operand.tmp 32, Op
          refine u_step (i := 8) rfl (by kernel_rfl) (fun K hK => ?_)
          go_simp
          go_wp2_with (fail)
          refine (put_at (h3.chg (Chg.refl [] _).drew (by simp) (by simp)) hir (by rw [IntKind.wrap_i64]; have := HR.out; have := rank_rng xs behind; omega) ⟨id, behind, true⟩ hsz).mono ?_; rintro e w4 ⟨rfl, v', hS4, hst4⟩
          refine hK _ _ (fun h => absurd h (by decide)) ?_
          clear hK
          try simp only [Act.put, List.setIfInBounds_toArray, List.set_cons_succ, List.set_cons_zero]
          refine u_done (by kernel_rfl) ?_ _
          go_wp2
          go_ret
          refine ⟨by rw [HE.out]; rfl, v', by rw [HE.out, ← HI.out]; exact hS4, ⟨?_, ?_⟩⟩
          · exact (((hC1.trans hc2).trans hc3).weak.trans (hS0.weak)).trans hst4.chg
          · intro g hg
            refine (hst4.loc g hg).imp (fun x => x) (fun h' => ?_)
            have := ((hC1.trans hc2).trans hc3).size
            exact Nat.le_trans this h'

end Go.Proofs.Ytefkmdejcdhnjaa.S
