/- Generic laws, part E: aggregates inside a fence (loads, stores, new variables, comparisons, pushes), over any program; from Chg to the words of a range over a function. -/
import Derived.Test.YtefkmdejcdhnjaaKC
import Derived.Test.YtefkmdejcdhnjaaKD
import Derived.Maps.OwnIn
import Derived.RangeFuncNested
import Derived.RangeFuncLeaves
import Derived.RangeFuncBound
import Derived.RangeFuncCalls
import Derived.Shelf.Abstract
import Derived.OwnWalkIn
import Derived.TacticsInMore
import Derived.LoopNIn
import Derived.LoopIn
namespace Go.Proofs.Ytefkmdejcdhnjaa.K
open Go Go.RowKit
variable {P : Program}

section
variable {ρ : Operand → Value} {w : World} {dst : Option Tmp} {tt : TypeId} {pos : String} {after : Array Edge} {g : Option (Nat × Bool)}
theorem ex_alloc {T : TypeId} {z : Value} (hT : (P.info? T).map (·.zero) = some (some z)) : (execOp ρ ⟨dst, .alloc T, tt, pos, after, g⟩).run P w = .ok (.value (.pointer (some ⟨w.heap.size, 0, none⟩))) (w.alloc (.cells z.cells T)) := by
  rw [Option.map_eq_some_iff] at hT
  obtain ⟨i, hi, hzz⟩ := hT
  unfold execOp
  simp only [Instr.alloc, zeroValue, typeInfo, newVar, newRow, newObj, Sem.run_bind, Sem.run_pure, Result.andThen_ok, program, Sem.run, hi, hzz, World.alloc_eq]
theorem ex_loadAgg {x : Operand} {T : TypeId} {n b off : Nat} {cs : List Value} (hT : IsAgg P T n) (hx : ρ x = .pointer (some ⟨b, off, none⟩)) (hc : Cs w b off cs) (hn : cs.length = n) : (execOp ρ ⟨dst, .load T x, tt, pos, after, g⟩).run P w = .ok (.value (.agg cs.toArray)) w :=
  ex_load hx (run_loadVar_at hT hc hn)
theorem ex_storeAgg {x y : Operand} {T : TypeId} {n gb o : Nat} {cs cur : Array Value} {t : TypeId} (hT : (P.info? T).map (·.size) = some n) (hy : ρ y = .pointer (some ⟨gb, o, none⟩)) (hx : ρ x = .agg cs) (hn : cs.size = n) (h1 : ∀ c ∈ cs.toList, c.oneCell' = true)
    (hg : w.heap[gb]? = some (.cells cur t (0, 0))) (hfit : o + n ≤ cur.size) : (execOp ρ ⟨dst, .store T y x, tt, pos, after, g⟩).run P w = .ok .skip (w.setRow gb (cur.toList.take o ++ cs.toList ++ cur.toList.drop (o + n)).toArray) := by
  unfold execOp
  simp only [hy, hx, Instr.storeAt, Instr.sureAddr, Sem.run_bind, Sem.run_pure, Result.andThen_ok, run_storeVar_at hT hn h1 hg hfit]
theorem ex_eqlFlat {x y : Operand} {T T' : TypeId} {ks : List Kd} {xs ys : Array Value} {lx ly : List Lit} (hF : Flat P T ks) (hgd : P.eqGuardType P.depth T = false)
    (hx : ρ x = .agg xs) (hy : ρ y = .agg ys) (hlx : okLeaves ks xs.toList = some lx) (hly : okLeaves ks ys.toList = some ly) {b : Bool} (hb : b = true ↔ xs = ys) : (execOp ρ ⟨dst, .binOp .eql T x y T', tt, pos, after, g⟩).run P w = .ok (.value (.bool b)) w := by
  have := hF.equal w hlx hly hb
  have hgr := run_eqGuard_agg (P := P) w .eql T x y xs ys hgd
  unfold execOp
  simp only [hx, hy, Sem.run_bind, hgr, Result.andThen_ok, binOp, this, Sem.run_pure]
theorem ex_neqFlat {x y : Operand} {T T' : TypeId} {ks : List Kd} {xs ys : Array Value} {lx ly : List Lit} (hF : Flat P T ks) (hgd : P.eqGuardType P.depth T = false)
    (hx : ρ x = .agg xs) (hy : ρ y = .agg ys) (hlx : okLeaves ks xs.toList = some lx) (hly : okLeaves ks ys.toList = some ly) {b : Bool} (hb : b = true ↔ xs = ys) : (execOp ρ ⟨dst, .binOp .neq T x y T', tt, pos, after, g⟩).run P w = .ok (.value (.bool !b)) w := by
  have := hF.equal w hlx hly hb
  have hgr := run_eqGuard_agg (P := P) w .neq T x y xs ys hgd
  unfold execOp
  simp only [hx, hy, Sem.run_bind, hgr, Result.andThen_ok, binOp, this, Sem.run_pure]
end

section
variable {F : Fence} {n : Nat} {ops : Array Oper} {rest : List Oper} {a : Act} {w : World} {Q : Exit → Act → World → Prop} {dst : Option Tmp} {tt : TypeId} {pos : String} {after : Array Edge}
theorem wpListIn_val {o : Oper} {v : Value} {w' : World} (hg : o.guard = none) (hc : ∀ c, o.op ≠ .call c) (hd : ∀ c, o.op ≠ .defer c) (hr : (execOp a.eval o).run P w = .ok (.value v) w') (h : wpListIn F n P ops Q rest (a.put o.dst v) w') : wpListIn F n P ops Q (o :: rest) a w := by
  refine wpListIn_plain hg fun K hK => ?_
  unfold Oper.wpIn
  refine ⟨fun f hf => ?_, ?_⟩
  · unfold Oper.about at hf
    split at hf
    · rename_i c hop; exact absurd hop (hc c)
    · cases hf
  · rw [Oper.semAt_plain F _ _ hd, hr]; exact hK _ _ h
theorem wpListIn_skp {o : Oper} {w' : World} (hg : o.guard = none) (hdst : o.dst = none) (hc : ∀ c, o.op ≠ .call c) (hd : ∀ c, o.op ≠ .defer c) (hr : (execOp a.eval o).run P w = .ok .skip w') (h : wpListIn F n P ops Q rest a w') : wpListIn F n P ops Q (o :: rest) a w := by
  refine wpListIn_plain hg fun K hK => ?_
  unfold Oper.wpIn
  refine ⟨fun f hf => ?_, ?_⟩
  · unfold Oper.about at hf
    split at hf
    · rename_i c hop; exact absurd hop (hc c)
    · cases hf
  · rw [Oper.semAt_plain F _ _ hd, hr, Oper.uponIn_skip, hdst]; exact hK _ _ h
theorem wpList_val {o : Oper} {v : Value} {w' : World} (hg : o.guard = none) (hr : (execOp a.eval o).run P w = .ok (.value v) w') (h : wpList P ops Q rest (a.put o.dst v) w') : wpList P ops Q (o :: rest) a w := by
  refine wpList_plain hg fun K hK => ?_
  unfold Oper.wp
  rw [hr]; exact hK _ _ h
theorem wpList_skp {o : Oper} {w' : World} (hg : o.guard = none) (hdst : o.dst = none) (hr : (execOp a.eval o).run P w = .ok .skip w') (h : wpList P ops Q rest a w') : wpList P ops Q (o :: rest) a w := by
  refine wpList_plain hg fun K hK => ?_
  unfold Oper.wp
  rw [hr]; simp only [Oper.upon, hdst]; exact hK _ _ h

theorem wpListIn_allocZ {T : TypeId} {z : Value} (hT : (P.info? T).map (·.zero) = some (some z)) (h : wpListIn F n P ops Q rest (a.put dst (.pointer (some ⟨w.heap.size, 0, none⟩))) (w.alloc (.cells z.cells T))) : wpListIn F n P ops Q (⟨dst, .alloc T, tt, pos, after, none⟩ :: rest) a w :=
  wpListIn_val rfl (by simp) (by simp) (ex_alloc hT) h
theorem wpList_allocZ {T : TypeId} {z : Value} (hT : (P.info? T).map (·.zero) = some (some z)) (h : wpList P ops Q rest (a.put dst (.pointer (some ⟨w.heap.size, 0, none⟩))) (w.alloc (.cells z.cells T))) : wpList P ops Q (⟨dst, .alloc T, tt, pos, after, none⟩ :: rest) a w :=
  wpList_val rfl (ex_alloc hT) h
theorem wpListIn_loadAgg {x : Operand} {T : TypeId} {m b off : Nat} {cs : List Value} (hT : IsAgg P T m) (hx : a.eval x = .pointer (some ⟨b, off, none⟩)) (hc : Cs w b off cs) (hn : cs.length = m)
    (h : wpListIn F n P ops Q rest (a.put dst (.agg cs.toArray)) w) : wpListIn F n P ops Q (⟨dst, .load T x, tt, pos, after, none⟩ :: rest) a w :=
  wpListIn_val rfl (by simp) (by simp) (ex_loadAgg hT hx hc hn) h
theorem wpListIn_storeAgg {x y : Operand} {T : TypeId} {m gb o : Nat} {cs cur : Array Value} {t : TypeId} (hT : (P.info? T).map (·.size) = some m) (hy : a.eval y = .pointer (some ⟨gb, o, none⟩)) (hx : a.eval x = .agg cs) (hn : cs.size = m) (h1 : ∀ c ∈ cs.toList, c.oneCell' = true)
    (hg : w.heap[gb]? = some (.cells cur t (0, 0))) (hfit : o + m ≤ cur.size)
    (h : ∀ w', w'.heap[gb]? = some (.cells (cur.toList.take o ++ cs.toList ++ cur.toList.drop (o + m)).toArray t (0, 0)) → Chg [gb] w w' → wpListIn F n P ops Q rest a w') :
    wpListIn F n P ops Q (⟨none, .store T y x, tt, pos, after, none⟩ :: rest) a w :=
  wpListIn_skp rfl rfl (by simp) (by simp) (ex_storeAgg hT hy hx hn h1 hg hfit) (h _ (setRow_heap w gb cur _ t _ hg) ((Chg.refl _ _).setRow (.inl (by simp)) _))
theorem wpListIn_eqlFlat {x y : Operand} {T T' : TypeId} {ks : List Kd} {xs ys : Array Value} {lx ly : List Lit} (hF : Flat P T ks) (hgd : P.eqGuardType P.depth T = false)
    (hx : a.eval x = .agg xs) (hy : a.eval y = .agg ys) (hlx : okLeaves ks xs.toList = some lx) (hly : okLeaves ks ys.toList = some ly) {b : Bool} (hb : b = true ↔ xs = ys)
    (h : wpListIn F n P ops Q rest (a.put dst (.bool b)) w) : wpListIn F n P ops Q (⟨dst, .binOp .eql T x y T', tt, pos, after, none⟩ :: rest) a w :=
  wpListIn_val rfl (by simp) (by simp) (ex_eqlFlat hF hgd hx hy hlx hly hb) h
/-- 'xs = append(xs, x)', xs the call's own, inside a fence -/
theorem wpListIn_push {t1 : Tmp} {s x : Operand} {T tt1 tt2 : TypeId} {p1 p2 : String} {a1 a2 : Array Edge} {base e size bytes : Nat} {z : Value} (ty : SlTy P T e z size bytes)
    (v : Value) (k : Nat) (xs : List Value) (u : Value) (ht1 : t1 < a.tmps.size) (hs : ∀ V, (a.put (some t1) V).eval s = v) (hown : w.ownsRow base e size v k xs) (hx : a.eval x = u) (hu : u.cells.size = size) (h1 : ∀ c ∈ u.cells.toList, c.oneCell' = true)
    (hbytes : (k + 1) * bytes ≤ 140737488355328) (h63 : k + 1 ≤ maxLen) (hbase : base ≤ w.heap.size)
    (h : ∀ v' w', w'.ownsRow base e size v' (k + 1) (xs ++ u.cells.toList) → Chg v.ownBlock.toList w w' → v' ≠ .slice none 0 0 → (∀ g, v'.ownBlock = some g → v.ownBlock = some g ∨ w.heap.size ≤ g) →
      wpListIn F n P ops Q rest ((a.put (some t1) (.slice (some ⟨w.heap.size, 0, none⟩) 1 1)).put dst v') w') :
    wpListIn F n P ops Q (⟨some t1, .buildSlice T 1 #[(0, x)], tt1, p1, a1, none⟩ :: ⟨dst, .call { callee := .builtin .append, args := #[s, .tmp t1], argTypes := #[T, T] }, tt2, p2, a2, none⟩ :: rest) a w := by
  obtain ⟨i_, hi, hz0, hz1, hz2⟩ := info_parts ty.info
  have hp := ty.pos
  have hsm := ty.small
  have hzs := ty.zero
  have hb : (execOp a.eval ⟨some t1, .buildSlice T 1 #[(0, x)], tt1, p1, a1, none⟩).run P w = .ok (.value (.slice (some ⟨w.heap.size, 0, none⟩) 1 1)) (w.alloc (.cells u.cells e)) := by
    have hf : Instr.fill (fun i => some (i * i_.size, i_.size)) ((Array.range (1 * i_.size)).map (z.cells[· % z.cells.size]!)) ((#[(0, x)] : Array (Nat × Operand)).map fun (i, x) => (i, a.eval x)).toList = some u.cells := by
      simp only [List.map_toArray, List.map_cons, List.map_nil, hx, hz1]
      exact fill_one u _ size hu (by simp)
    have := run_buildSlice (P := P) w T e 1 _ u.cells i_ z ty.under hi hz0 (by omega) (by omega) hf
    unfold execOp
    simp only [Sem.run_bind, this, Result.andThen_ok, Sem.run_pure]
  refine wpListIn_val rfl (by simp) (by simp) hb ?_
  refine wpListIn_append_own_at _ rfl s (.tmp t1) T rfl base e i_ z size bytes ty.under hi hz0 hz1 hz2 hzs hp v k xs (hs _) (hown.alloc _) ⟨w.heap.size, 0, none⟩ 1 1 u.cells.toList (eval_put_same _ _ _ ht1) (by simp [hu]) ?_ h1 h63 hbytes (by simp; omega) ?_
  · intro j c hc
    rw [Addr.add_lit]
    have := cell_of_row (w.alloc (.cells u.cells e)) w.heap.size (0 + j) u.cells e (0, 0) (heap_new w _)
    rw [this]; simpa using hc
  · intro v' w' h1' h2' h3' h4'
    refine h v' w' h1' ?_ (fun e => by have := h3'.1 e; omega) ?_
    · exact ((Chg.refl _ _).alloc _).trans' (Chg.of_grown h2') (fun _ h _ => h) (fun i h _ => h)
    · intro g hg
      rcases h4' with h4' | h4'
      · exact .inl (h4' ▸ hg)
      · right
        rw [h4'] at hg
        simp at hg; omega
end

theorem ex_build1 {ρ : Operand → Value} {w : World} {dst : Option Tmp} {x : Operand} {T tt e : TypeId} {pos : String} {after : Array Edge} {g : Option (Nat × Bool)} {size bytes : Nat} {z : Value} (ty : SlTy P T e z size bytes) {u : Array Value} (hx : ρ x = .agg u) (hu : u.size = size) :
    (execOp ρ ⟨dst, .buildSlice T 1 #[(0, x)], tt, pos, after, g⟩).run P w = .ok (.value (.slice (some ⟨w.heap.size, 0, none⟩) 1 1)) (w.alloc (.cells u e)) := by
  obtain ⟨i_, hi, hz0, hz1, hz2⟩ := info_parts ty.info
  have hp := ty.pos
  have hsm := ty.small
  have hf : Instr.fill (fun i => some (i * i_.size, i_.size)) ((Array.range (1 * i_.size)).map (z.cells[· % z.cells.size]!)) ((#[(0, x)] : Array (Nat × Operand)).map fun (i, x) => (i, ρ x)).toList = some u := by
    simp only [List.map_toArray, List.map_cons, List.map_nil, hx, hz1]
    exact fill_one (.agg u) _ size hu (by simp [ty.zero])
  have := run_buildSlice (P := P) w T e 1 _ u i_ z ty.under hi hz0 (by omega) (by omega) hf
  unfold execOp
  simp only [Sem.run_bind, this, Result.andThen_ok, Sem.run_pure]
/-- an operation of a region, carried out -/
theorem step_val {ops : Array Oper} {o : Oper} {a : Act} {w w' : World} {v : Value} {K : Act → World → Prop} {Q : Exit → Act → World → Prop} {E : Prop} (hw : Region.wanted o (yielded ops a.tmps) = true) (hr : (execOp a.eval o).run P w = .ok (.value v) w') (h : K (a.put o.dst v) w') :
    if Region.wanted o (yielded ops a.tmps) = true then Oper.wp P o a w K Q else E := by
  rw [if_pos hw]
  unfold Oper.wp
  rw [hr]; exact h
theorem step_skp {ops : Array Oper} {o : Oper} {a : Act} {w w' : World} {K : Act → World → Prop} {Q : Exit → Act → World → Prop} {E : Prop} (hw : Region.wanted o (yielded ops a.tmps) = true) (hr : (execOp a.eval o).run P w = .ok .skip w') (h : K (a.put o.dst undef) w') :
    if Region.wanted o (yielded ops a.tmps) = true then Oper.wp P o a w K Q else E := by
  rw [if_pos hw]
  unfold Oper.wp
  rw [hr]; exact h

theorem Chg.keeps {S : List Nat} {W W' : World} (h : Chg S W W') (hS : ∀ g ∈ S, g < W.heap.size → ∃ cs t f, W.heap[g]? = some (.cells cs t f)) : KeepsOthers W W' := by
  refine ⟨h.size, fun k o ho hn => ?_⟩
  have hk := (Array.getElem?_eq_some_iff.1 ho).1
  rw [h.block k hk ?_]; exact ho
  intro hm
  obtain ⟨cs, t, f, hc⟩ := hS k hm hk
  rw [ho] at hc; cases hc; cases hn
end Go.Proofs.Ytefkmdejcdhnjaa.K
