/- Generic laws, part B: what a call may have turned (Chg); loads, stores, pushes and comparisons of aggregates, in the form that the walk takes. -/
import Derived.Test.YtefkmdejcdhnjaaKA
import Derived.Lib.Hide
import Derived.Maps.AppendAt
import Derived.Great.BuildSlice
namespace Go.Proofs.Ytefkmdejcdhnjaa.K
open Go Go.RowKit

/-- nothing that was there has turned, but the blocks of S -/
structure Chg (S : List Nat) (w w' : World) : Prop where
  os : w'.os = w.os
  tape : w'.tape = w.tape
  output : w'.output = w.output
  size : w.heap.size ≤ w'.heap.size
  block : ∀ k, k < w.heap.size → k ∉ S → w'.heap[k]? = w.heap[k]?

theorem Chg.refl (S : List Nat) (w : World) : Chg S w w := ⟨rfl, rfl, rfl, Nat.le_refl _, fun _ _ _ => rfl⟩
theorem Chg.trans' {S S' T : List Nat} {a b c : World} (h : Chg S a b) (k : Chg S' b c) (h1 : ∀ i ∈ S, i < a.heap.size → i ∈ T) (h2 : ∀ i ∈ S', i < a.heap.size → i ∈ T) : Chg T a c :=
  ⟨k.os.trans h.os, k.tape.trans h.tape, k.output.trans h.output, Nat.le_trans h.size k.size, fun i hi hn =>
    (k.block i (Nat.lt_of_lt_of_le hi h.size) (fun hm => hn (h2 i hm hi))).trans (h.block i hi (fun hm => hn (h1 i hm hi)))⟩
theorem Chg.trans {S : List Nat} {a b c : World} (h : Chg S a b) (k : Chg S b c) : Chg S a c := h.trans' k (fun _ h _ => h) (fun _ h _ => h)
theorem Chg.mono {S T : List Nat} {a b : World} (h : Chg S a b) (hs : ∀ i ∈ S, i < a.heap.size → i ∈ T) : Chg T a b := (Chg.refl T a).trans' h (fun _ h _ => h) hs
theorem Chg.weak {T : List Nat} {a b : World} (h : Chg [] a b) : Chg T a b := h.mono (fun _ h => by cases h)
theorem Chg.of_below {w w' : World} (h : Below w.heap.size w w') (S : List Nat) : Chg S w w' := ⟨h.os, h.tape, h.output, h.size, fun k hk _ => h.block k hk⟩
theorem Chg.below {S : List Nat} {w w' : World} (h : Chg S w w') {B : Nat} (hB : B ≤ w.heap.size) (hs : ∀ i ∈ S, B ≤ i) : Below B w w' :=
  ⟨h.os, h.tape, h.output, h.size, fun k hk => h.block k (by omega) (fun hm => by have := hs k hm; omega)⟩
theorem Chg.of_grown {w w' : World} {row : Option Nat} (h : w.grownBy w' row) : Chg row.toList w w' :=
  ⟨h.os, h.tape, h.output, h.size, fun k hk hn => h.block k hk (fun e => hn (by simp [← e]))⟩
theorem heap_old (w : World) (o : Obj) (k : Nat) (h : k < w.heap.size) : (w.alloc o).heap[k]? = w.heap[k]? := by
  show (w.heap.push o)[k]? = _
  rw [Array.getElem?_push, if_neg (by omega)]
theorem heap_new (w : World) (o : Obj) : (w.alloc o).heap[w.heap.size]? = some o := by
  show (w.heap.push o)[w.heap.size]? = some o
  simp
theorem setRow_new (w : World) (c d : Array Value) (t : TypeId) : (w.alloc (.cells c t)).setRow w.heap.size d = w.alloc (.cells d t) := by
  unfold World.setRow World.alloc
  congr 1
  apply Array.ext_getElem?
  intro i
  simp only [Array.getElem?_modify, Array.getElem?_push]
  by_cases hi : w.heap.size = i
  · subst hi; simp
  · rw [if_neg hi, if_neg (Ne.symm hi), if_neg (Ne.symm hi)]
theorem cells_agg (cs : Array Value) : (Value.agg cs).cells = cs := rfl
theorem Chg.alloc {S : List Nat} {a w : World} (h : Chg S a w) (o : Obj) : Chg S a (w.alloc o) :=
  h.trans ⟨rfl, rfl, rfl, by simp, fun k hk _ => heap_old w o k hk⟩
theorem Chg.drew {S : List Nat} {a w : World} (h : Chg S a w) : Chg S a w.drew := ⟨h.os, h.tape, h.output, h.size, h.block⟩
theorem Chg.setCell {S : List Nat} {a w : World} (h : Chg S a w) {p : Addr} (hp : p.block ∈ S ∨ a.heap.size ≤ p.block) (u : Value) : Chg S a (w.setCell p u) :=
  h.trans' (S' := [p.block]) ⟨rfl, rfl, rfl, by simp [World.setCell], fun k hk hn => heap_setCell_other _ _ _ _ (by simpa using hn)⟩ (fun _ h _ => h) (fun i hi hl => by
    simp at hi; subst hi
    rcases hp with hp | hp
    · exact hp
    · omega)
theorem Chg.setRow {S : List Nat} {a w : World} (h : Chg S a w) {g : Nat} (hp : g ∈ S ∨ a.heap.size ≤ g) (cs : Array Value) : Chg S a (w.setRow g cs) :=
  h.trans' (S' := [g]) ⟨rfl, rfl, rfl, by simp [World.setRow], fun k hk hn => setRow_other w g k cs (by simpa using hn)⟩ (fun _ h _ => h) (fun i hi hl => by
    simp at hi; subst hi
    rcases hp with hp | hp
    · exact hp
    · omega)
theorem Chg.heap {S : List Nat} {w w' : World} (h : Chg S w w') {k : Nat} {o : Obj} (hk : w.heap[k]? = some o) (hn : k ∉ S) : w'.heap[k]? = some o :=
  (h.block k (Array.getElem?_eq_some_iff.1 hk).1 hn).trans hk
theorem Chg.cell {S : List Nat} {w w' : World} (h : Chg S w w') {p : Addr} {v : Value} (hc : w.cell? p = some v) (hn : p.block ∉ S) : w'.cell? p = some v := by
  have hl := World.block_lt_of_cell? w p hc
  exact (World.cell?_of_block (w := w) (h.block _ hl hn)).trans hc
theorem Chg.owns {S : List Nat} {w w' : World} (h : Chg S w w') {base e size n : Nat} {v : Value} {xs : List Value} (ho : w.ownsRow base e size v n xs) (hn : ∀ g, v.ownBlock = some g → g ∉ S) : w'.ownsRow base e size v n xs := by
  refine ⟨ho.1, ?_⟩
  rcases ho.2 with hh | ⟨g, cap, cur, rfl, hb, hg, rest⟩
  · exact .inl hh
  · exact .inr ⟨g, cap, cur, rfl, hb, h.heap hg (hn g rfl), rest⟩
theorem owns_base {w : World} {base b' e size n : Nat} {v : Value} {xs : List Value} (ho : w.ownsRow base e size v n xs) (hb : ∀ g, v.ownBlock = some g → b' ≤ g) : w.ownsRow b' e size v n xs := by
  refine ⟨ho.1, ?_⟩
  rcases ho.2 with hh | ⟨g, cap, cur, rfl, _, rest⟩
  · exact .inl hh
  · exact .inr ⟨g, cap, cur, rfl, hb g rfl, rest⟩

/-- the cells from (b, off) on read cs -/
def Cs (w : World) (b off : Nat) (cs : List Value) : Prop := ∀ j u, cs[j]? = some u → w.cell? ⟨b, off + j, none⟩ = some u
theorem Cs.chg {S : List Nat} {w w' : World} {b off : Nat} {cs : List Value} (h : Cs w b off cs) (hc : Chg S w w') (hn : b ∉ S) : Cs w' b off cs := fun j u hu => hc.cell (h j u hu) hn
theorem Cs.of_heap {w : World} {b : Nat} {cs : Array Value} {t : TypeId} {fr : Nat × Nat} (h : w.heap[b]? = some (.cells cs t fr)) (off : Nat) {l : List Value} (hl : ∀ j u, l[j]? = some u → cs[off + j]? = some u) : Cs w b off l := by
  intro j u hu
  rw [cell_of_row w b _ cs t fr h]
  exact hl j u hu
theorem Cs.sub {w : World} {b off : Nat} {cs : List Value} (h : Cs w b off cs) {l : List Value} (o : Nat) (hl : ∀ j u, l[j]? = some u → cs[o + j]? = some u) : Cs w b (off + o) l := fun j u hu => by
  rw [Nat.add_assoc]; exact h _ _ (hl j u hu)
theorem Cs.of_owns {w : World} {base e size n c g : Nat} {xs : List Value} (h : w.ownsRow base e size (.slice (some ⟨g, 0, none⟩) n c) n xs) : Cs w g 0 xs := by
  intro j u hu
  have hl : j < n * size := by rw [← h.1]; exact (List.getElem?_eq_some_iff.1 hu).1
  rw [Nat.zero_add, h.cellAt j hl]; exact hu

/-- an aggregate type of n cells -/
structure IsAgg (P : Program) (T : TypeId) (n : Nat) : Prop where
  wide : (match P.underlying T with | some (.array _ _) | some (.struct _) => true | _ => false) = true
  size : (P.info? T).map (·.size) = some n

variable {P : Program}

theorem run_loadVar_at {T : TypeId} {n b off : Nat} {cs : List Value} {w : World} (hT : IsAgg P T n) (hc : Cs w b off cs) (hn : cs.length = n) : (loadVar T ⟨b, off, none⟩).run P w = .ok (.agg cs.toArray) w := by
  have hl := run_loadCells_list (P := P) w ⟨b, off, none⟩ cs (fun j v hv => by rw [Addr.add_lit]; exact hc j v hv)
  have hw := hT.wide
  have hs := hT.size
  rw [Option.map_eq_some_iff] at hs
  obtain ⟨i, hi, hsz⟩ := hs
  have hagg : (isAgg T).run P w = .ok true w := by
    unfold isAgg
    split at hw
    · rename_i hu; simp [run_underlying hu]
    · rename_i hu; simp [run_underlying hu]
    · cases hw
  rw [hn] at hl
  simp [loadVar, hagg, sizeOf, typeInfo, hi, hsz, hl]

section
variable {ops : Array Oper} {rest : List Oper} {a : Act} {w : World} {Q : Exit → Act → World → Prop}

theorem wpList_loadAgg {dst : Option Tmp} {x : Operand} {T tt : TypeId} {pos : String} {after : Array Edge} {n b off : Nat} {cs : List Value} (hT : IsAgg P T n) (hx : a.eval x = .pointer (some ⟨b, off, none⟩)) (hc : Cs w b off cs) (hn : cs.length = n)
    (h : wpList P ops Q rest (a.put dst (.agg cs.toArray)) w) : wpList P ops Q (⟨dst, .load T x, tt, pos, after, none⟩ :: rest) a w := by
  refine wpList_plain rfl fun K hK => ?_
  unfold Oper.wp execOp
  simp only [hx, Instr.loadAt, Instr.sureAddr, Sem.run_bind, Sem.run_pure, Result.andThen_ok, run_loadVar_at hT hc hn]
  exact hK _ _ h

theorem wpList_loadAggG {dst : Option Tmp} {x : Operand} {T tt : TypeId} {pos : String} {after : Array Edge} {g : Option (Nat × Bool)} {n b off : Nat} {cs : List Value} (hw : Region.wanted ⟨dst, .load T x, tt, pos, after, g⟩ (yielded ops a.tmps) = true) (hT : IsAgg P T n) (hx : a.eval x = .pointer (some ⟨b, off, none⟩)) (hc : Cs w b off cs) (hn : cs.length = n)
    (h : wpList P ops Q rest (a.put dst (.agg cs.toArray)) w) : wpList P ops Q (⟨dst, .load T x, tt, pos, after, g⟩ :: rest) a w := by
  refine wpList_step fun K hK => ?_
  rw [if_pos hw]
  unfold Oper.wp execOp
  simp only [hx, Instr.loadAt, Instr.sureAddr, Sem.run_bind, Sem.run_pure, Result.andThen_ok, run_loadVar_at hT hc hn]
  exact hK _ _ h

theorem eval_put_same (a : Act) (t : Tmp) (v : Value) (h : t < a.tmps.size) : (a.put (some t) v).eval (.tmp t) = v := by
  simp [Act.put, Act.eval, Array.getD_eq_getD_getElem?, h]

/-- a new variable of an aggregate type, and its first value stored: one block that holds the value -/
theorem wpList_alloc_store {d : Tmp} {x : Operand} {T t1 t2 : TypeId} {p1 p2 : String} {a1 a2 : Array Edge} {n : Nat} {z : Value} {cs : Array Value} (hT : (P.info? T).map (fun i => (i.zero, i.size)) = some (some z, n)) (hz : z.cells.size = n)
    (hd : d < a.tmps.size) (hx : ∀ V, (a.put (some d) V).eval x = .agg cs) (hn : cs.size = n) (h1 : ∀ c ∈ cs.toList, c.oneCell' = true)
    (h : wpList P ops Q rest (a.put (some d) (.pointer (some ⟨w.heap.size, 0, none⟩))) (w.alloc (.cells cs T))) :
    wpList P ops Q (⟨some d, .alloc T, t1, p1, a1, none⟩ :: ⟨none, .store T (.tmp d) x, t2, p2, a2, none⟩ :: rest) a w := by
  rw [Option.map_eq_some_iff] at hT
  obtain ⟨i, hi, hzz⟩ := hT
  simp only [Prod.mk.injEq] at hzz
  refine wpList_plain rfl fun K hK => ?_
  unfold Oper.wp execOp
  simp only [Instr.alloc, zeroValue, typeInfo, newVar, newRow, newObj, Sem.run_bind, Sem.run_pure, Result.andThen_ok, program, Sem.run, hi, hzz.1]
  refine hK _ _ ?_
  simp only [World.alloc_eq]
  refine wpList_plain rfl fun K2 hK2 => ?_
  unfold Oper.wp execOp
  have e1 := eval_put_same a d (.pointer (some ⟨w.heap.size, 0, none⟩)) hd
  have hst := run_storeCells_at P w.heap.size 0 T cs.toList 0 z.cells (w.alloc (.cells z.cells T)) (heap_new w _) (by simp; omega) h1
  have e2 : (w.alloc (.cells z.cells T)).setRow w.heap.size ((z.cells.toList.take (0 + 0) ++ cs.toList ++ z.cells.toList.drop (0 + 0 + cs.toList.length)).toArray) = w.alloc (.cells cs T) := by
    have e3 : z.cells.toList.drop (0 + 0 + cs.toList.length) = [] := List.drop_eq_nil_of_le (by simp; omega)
    rw [e3, setRow_new]
    simp
  rw [e2] at hst
  simp only [e1, hx, Instr.storeAt, Instr.sureAddr, storeVar, cells_agg, sizeOf, typeInfo, program, Sem.run_bind, Sem.run_pure, Result.andThen_ok, Sem.run, hi, hzz.2, hn, ne_eq, not_true_eq_false, if_false, hst]
  exact hK2 _ _ h

/-- an aggregate stored into a block that is known whole -/
theorem run_storeVar_at {T : TypeId} {n g o : Nat} {cs cur : Array Value} {t : TypeId} {w : World} (hT : (P.info? T).map (·.size) = some n) (hn : cs.size = n) (h1 : ∀ c ∈ cs.toList, c.oneCell' = true)
    (hg : w.heap[g]? = some (.cells cur t (0, 0))) (hfit : o + n ≤ cur.size) :
    (storeVar T ⟨g, o, none⟩ (.agg cs)).run P w = .ok () (w.setRow g (cur.toList.take o ++ cs.toList ++ cur.toList.drop (o + n)).toArray) := by
  rw [Option.map_eq_some_iff] at hT
  obtain ⟨i, hi, hzz⟩ := hT
  have hst := run_storeCells_at P g o t cs.toList 0 cur w hg (by simp; omega) h1
  simp only [storeVar, cells_agg, sizeOf, typeInfo, program, Sem.run_bind, Sem.run_pure, Result.andThen_ok, Sem.run, hi, hzz, hn, ne_eq, not_true_eq_false, if_false, hst]
  simp [hn]

theorem wpList_storeAgg {x y : Operand} {T t2 : TypeId} {p2 : String} {a2 : Array Edge} {n g o : Nat} {cs cur : Array Value} {t : TypeId} (hT : (P.info? T).map (·.size) = some n) (hy : a.eval y = .pointer (some ⟨g, o, none⟩)) (hx : a.eval x = .agg cs) (hn : cs.size = n) (h1 : ∀ c ∈ cs.toList, c.oneCell' = true)
    (hg : w.heap[g]? = some (.cells cur t (0, 0))) (hfit : o + n ≤ cur.size)
    (h : ∀ w', w'.heap[g]? = some (.cells (cur.toList.take o ++ cs.toList ++ cur.toList.drop (o + n)).toArray t (0, 0)) → Chg [g] w w' → wpList P ops Q rest a w') :
    wpList P ops Q (⟨none, .store T y x, t2, p2, a2, none⟩ :: rest) a w := by
  refine wpList_plain rfl fun K hK => ?_
  unfold Oper.wp execOp
  simp only [hy, hx, Instr.storeAt, Instr.sureAddr, Sem.run_bind, Sem.run_pure, Result.andThen_ok, run_storeVar_at hT hn h1 hg hfit]
  exact hK _ _ (h _ (setRow_heap w g cur _ t _ hg) ((Chg.refl _ _).setRow (.inl (by simp)) _))

theorem wpList_eqlFlat {dst : Option Tmp} {x y : Operand} {T T' tt : TypeId} {pos : String} {after : Array Edge} {ks : List Kd} {xs ys : Array Value} {lx ly : List Lit} (hF : Flat P T ks) (hgd : P.eqGuardType P.depth T = false)
    (hx : a.eval x = .agg xs) (hy : a.eval y = .agg ys) (hlx : okLeaves ks xs.toList = some lx) (hly : okLeaves ks ys.toList = some ly) {b : Bool} (hb : b = true ↔ xs = ys)
    (h : wpList P ops Q rest (a.put dst (.bool b)) w) : wpList P ops Q (⟨dst, .binOp .eql T x y T', tt, pos, after, none⟩ :: rest) a w := by
  refine wpList_plain rfl fun K hK => ?_
  unfold Oper.wp execOp
  have := hF.equal w hlx hly hb
  have hgr := run_eqGuard_agg (P := P) w .eql T x y xs ys hgd
  simp only [hx, hy, Sem.run_bind, hgr, Result.andThen_ok, binOp, this, Sem.run_pure]
  exact hK _ _ h

theorem wpList_neqFlat {dst : Option Tmp} {x y : Operand} {T T' tt : TypeId} {pos : String} {after : Array Edge} {ks : List Kd} {xs ys : Array Value} {lx ly : List Lit} (hF : Flat P T ks) (hgd : P.eqGuardType P.depth T = false)
    (hx : a.eval x = .agg xs) (hy : a.eval y = .agg ys) (hlx : okLeaves ks xs.toList = some lx) (hly : okLeaves ks ys.toList = some ly) {b : Bool} (hb : b = true ↔ xs = ys)
    (h : wpList P ops Q rest (a.put dst (.bool (!b))) w) : wpList P ops Q (⟨dst, .binOp .neq T x y T', tt, pos, after, none⟩ :: rest) a w := by
  refine wpList_plain rfl fun K hK => ?_
  unfold Oper.wp execOp
  have := hF.equal w hlx hly hb
  have hgr := run_eqGuard_agg (P := P) w .neq T x y xs ys hgd
  simp only [hx, hy, Sem.run_bind, hgr, Result.andThen_ok, binOp, this, Sem.run_pure]
  exact hK _ _ h

end

/-- a slice type's rows of the table -/
structure SlTy (P : Program) (T e : TypeId) (z : Value) (size bytes : Nat) : Prop where
  under : P.underlying T = some (.slice e)
  info : (P.info? e).map (fun i => (i.zero, i.size, i.bytes)) = some (some z, size, bytes)
  zero : z.cells.size = size
  pos : 0 < size
  small : size ≤ 16777216

theorem foldl_set (cs : List Value) : ∀ (k : Nat) (acc : Array Value), k + cs.length = acc.size → ((cs.zipIdx k).foldl (fun (r : Array Value) (x : Value × Nat) => r.setIfInBounds (0 + x.2) x.1) acc).toList = acc.toList.take k ++ cs := by
  induction cs with
  | nil => intro k acc h; simp at h; simp; exact (List.take_of_length_le (by simp; omega)).symm
  | cons c cs ih =>
    intro k acc h
    simp only [List.zipIdx_cons, List.foldl_cons]
    rw [ih (k + 1) _ (by simp at h ⊢; omega)]
    have hk : k < acc.size := by simp at h; omega
    simp only [Nat.zero_add, Array.toList_setIfInBounds]
    rw [List.take_set, List.take_add_one]
    simp [hk]
    rw [List.set_append]
    simp [Nat.min_eq_left (Nat.le_of_lt hk)]

theorem fill_one (u : Value) (cells : Array Value) (size : Nat) (hu : u.cells.size = size) (hc : cells.size = size) : Instr.fill (fun i => some (i * size, size)) cells [(0, u)] = some u.cells := by
  simp only [Instr.fill, Nat.zero_mul]
  rw [if_neg (by simp [hu, hc])]
  congr 1
  have := foldl_set u.cells.toList 0 cells (by simp [hu, hc])
  apply Array.ext'
  rw [← Array.foldl_toList]
  simpa using this

theorem Value.ownBlock_mem {v : Value} {g : Nat} : g ∈ v.ownBlock.toList ↔ v.ownBlock = some g := by cases v.ownBlock <;> simp [eq_comm]

section
variable {ops : Array Oper} {rest : List Oper} {a : Act} {w : World} {Q : Exit → Act → World → Prop}

/-- 'xs = append(xs, x)', xs the call's own -/
theorem wpList_push {t1 : Tmp} {dst : Option Tmp} {s x : Operand} {T tt1 tt2 : TypeId} {p1 p2 : String} {a1 a2 : Array Edge} {base e size bytes : Nat} {z : Value} (ty : SlTy P T e z size bytes)
    (v : Value) (n : Nat) (xs : List Value) (u : Value) (ht1 : t1 < a.tmps.size) (hs : ∀ V, (a.put (some t1) V).eval s = v) (hown : w.ownsRow base e size v n xs) (hx : a.eval x = u) (hu : u.cells.size = size) (h1 : ∀ c ∈ u.cells.toList, c.oneCell' = true)
    (hbytes : (n + 1) * bytes ≤ 140737488355328) (h63 : n + 1 ≤ maxLen) (hbase : base ≤ w.heap.size)
    (h : ∀ v' w', w'.ownsRow base e size v' (n + 1) (xs ++ u.cells.toList) → Chg v.ownBlock.toList w w' → v' ≠ .slice none 0 0 → (∀ g, v'.ownBlock = some g → v.ownBlock = some g ∨ w.heap.size ≤ g) →
      wpList P ops Q rest ((a.put (some t1) (.slice (some ⟨w.heap.size, 0, none⟩) 1 1)).put dst v') w') :
    wpList P ops Q (⟨some t1, .buildSlice T 1 #[(0, x)], tt1, p1, a1, none⟩ :: ⟨dst, .call { callee := .builtin .append, args := #[s, .tmp t1], argTypes := #[T, T] }, tt2, p2, a2, none⟩ :: rest) a w := by
  obtain ⟨i, hi, hz0, hz1, hz2⟩ := info_parts ty.info
  have hp := ty.pos
  have hsm := ty.small
  have hzs := ty.zero
  refine wpList_buildSlice rfl T e 1 #[(0, x)] rfl u.cells i z ty.under hi hz0 (by omega) (by omega) ?_ ?_
  · simp only [List.map_toArray, List.map_cons, List.map_nil, hx, hz1]
    exact fill_one u _ size hu (by simp)
  · refine wpList_append_own_at _ rfl s (.tmp t1) T rfl base e i z size bytes ty.under hi hz0 hz1 hz2 hzs hp v n xs (hs _) (hown.alloc _) ⟨w.heap.size, 0, none⟩ 1 1 u.cells.toList (eval_put_same _ _ _ ht1) (by simp [hu]) ?_ h1 h63 hbytes (by simp; omega) ?_
    · intro j c hc
      rw [Addr.add_lit]
      have := cell_of_row (w.alloc (.cells u.cells e)) w.heap.size (0 + j) u.cells e (0, 0) (heap_new w _)
      rw [this]; simpa using hc
    · intro v' w' h1' h2' h3' h4'
      refine h v' w' h1' ?_ (fun e => by have := h3'.1 e; omega) ?_
      · exact ((Chg.refl _ _).alloc _).trans' (Chg.of_grown h2') (fun _ h _ => h) (fun i h _ => h)
      · intro g hg
        rcases h4' with h4' | h4'
        · exact .inl (h4' ▸ hg)
        · right
          rw [h4'] at hg
          simp at hg; omega
end

theorem one_int (k : IntKind) (n : Int) : ∀ c ∈ (Value.int k n).cells.toList, c.oneCell' = true := by intro c h; simp [Value.cells] at h; subst h; rfl
theorem one_bool (n : Bool) : ∀ c ∈ (Value.bool n).cells.toList, c.oneCell' = true := by intro c h; simp [Value.cells] at h; subst h; rfl
theorem one_ptr (n : Option Addr) : ∀ c ∈ (Value.pointer n).cells.toList, c.oneCell' = true := by intro c h; simp [Value.cells] at h; subst h; rfl
theorem one_slice (n : Option Addr) (l c : Nat) : ∀ x ∈ (Value.slice n l c).cells.toList, x.oneCell' = true := by intro c h; simp [Value.cells] at h; subst h; rfl
theorem owns_some {w : World} {base e size n : Nat} {v : Value} {xs : List Value} (h : w.ownsRow base e size v n xs) (hn : 0 < n) : ∃ g c, v = .slice (some ⟨g, 0, none⟩) n c := by
  rcases h.2 with ⟨_, h0⟩ | ⟨g, cap, cur, rfl, _⟩
  · omega
  · exact ⟨g, cap, rfl⟩
theorem owns_form {w : World} {base e size n : Nat} {v : Value} {xs : List Value} (h : w.ownsRow base e size v n xs) : ∃ ao c, v = .slice ao n c ∧ ∀ a, ao = some a → ∃ g, a = ⟨g, 0, none⟩ := by
  rcases h.2 with ⟨rfl, h0⟩ | ⟨g, cap, cur, rfl, _⟩
  · exact ⟨none, 0, by rw [h0], fun a h => by cases h⟩
  · exact ⟨_, cap, rfl, fun a h => by cases h; exact ⟨g, rfl⟩⟩
/-- a slice that is read: m elements, the cells 'cells' -/
structure Src (w : World) (v : Value) (m : Nat) (cells : List Value) : Prop where
  out : ∃ ao c, v = .slice ao m c ∧ (ao = none → m = 0 ∧ c = 0) ∧ ∀ a, ao = some a → ∀ j u, cells[j]? = some u → w.cell? (a.add j) = some u
theorem Src.nil (w : World) : Src w (.slice none 0 0) 0 [] := ⟨⟨none, 0, rfl, (fun _ => ⟨rfl, rfl⟩), (fun a h => by cases h)⟩⟩
theorem Src.of_Cs {w : World} {b off m c : Nat} {cells : List Value} (h : Cs w b off cells) : Src w (.slice (some ⟨b, off, none⟩) m c) m cells :=
  ⟨⟨some ⟨b, off, none⟩, c, rfl, (fun h => by cases h), (fun a ha j u hu => by cases ha; rw [Addr.add_lit]; exact h j u hu)⟩⟩
theorem Src.of_owns {w : World} {base e size m : Nat} {v : Value} {cells : List Value} (h : w.ownsRow base e size v m cells) : Src w v m cells := by
  rcases h.2 with ⟨rfl, rfl⟩ | ⟨g, cap, cur, rfl, _⟩
  · have : cells = [] := List.eq_nil_of_length_eq_zero (by simpa using h.1)
    subst this; exact Src.nil w
  · exact Src.of_Cs (Cs.of_owns h)
theorem Src.chg {S : List Nat} {w w' : World} {v : Value} {m : Nat} {cells : List Value} (h : Src w v m cells) (hc : Chg S w w') (hn : ∀ g, v.ownBlock = some g → g ∉ S) : Src w' v m cells := by
  obtain ⟨ao, c, rfl, h1, h2⟩ := h.out
  refine ⟨⟨ao, c, rfl, h1, fun a ha j u hu => hc.cell (h2 a ha j u hu) ?_⟩⟩
  subst ha
  have : (a.add j).block = a.block := by unfold Addr.add; split <;> rfl
  rw [this]; exact hn _ rfl

section
variable {ops : Array Oper} {rest : List Oper} {a : Act} {w : World} {Q : Exit → Act → World → Prop}
/-- 'xs = append(xs, ys...)', xs the call's own, ys whatever is read -/
theorem wpList_appendSrc {dst : Option Tmp} {s x : Operand} {T tt : TypeId} {p : String} {a1 : Array Edge} {base e size bytes : Nat} {z : Value} (ty : SlTy P T e z size bytes)
    (v : Value) (n : Nat) (xs : List Value) (src : Value) (m : Nat) (cells : List Value) (hs : a.eval s = v) (hx : a.eval x = src) (hown : w.ownsRow base e size v n xs) (hsrc : Src w src m cells) (hl : cells.length = m * size) (h1 : ∀ c ∈ cells, c.oneCell' = true)
    (hbytes : (n + m) * bytes ≤ 140737488355328) (h63 : n + m ≤ maxLen) (hbase : base ≤ w.heap.size)
    (h : ∀ v' w', w'.ownsRow base e size v' (n + m) (xs ++ cells) → Chg v.ownBlock.toList w w' → (v' = .slice none 0 0 ↔ v = .slice none 0 0 ∧ m = 0) → (∀ g, v'.ownBlock = some g → v.ownBlock = some g ∨ w.heap.size ≤ g) → wpList P ops Q rest (a.put dst v') w') :
    wpList P ops Q (⟨dst, .call { callee := .builtin .append, args := #[s, x], argTypes := #[T, T] }, tt, p, a1, none⟩ :: rest) a w := by
  obtain ⟨i, hi, hz0, hz1, hz2⟩ := info_parts ty.info
  obtain ⟨ao, c, rfl, hn0, hc⟩ := hsrc.out
  cases ao with
  | some ad =>
    refine wpList_append_own_at _ rfl s x T rfl base e i z size bytes ty.under hi hz0 hz1 hz2 ty.zero ty.pos v n xs hs hown ad m c cells hx hl (hc ad rfl) h1 h63 hbytes hbase ?_
    intro v' w' h1' h2' h3' h4'
    refine h v' w' h1' (Chg.of_grown h2') h3' ?_
    intro g hg
    rcases h4' with h4' | h4'
    · exact .inl (h4' ▸ hg)
    · right; rw [h4'] at hg; simp at hg; omega
  | none =>
    obtain ⟨rfl, rfl⟩ := hn0 rfl
    have hcells : cells = [] := List.eq_nil_of_length_eq_zero (by simpa using hl)
    subst hcells
    refine wpList_plain rfl fun K hK => ?_
    have hrun := run_append_owned_none (P := P) w base T tt e i size ty.under hi v n xs hown
    unfold Oper.wp
    simp [execOp, resolve, invoke, builtin, hs, hx, hrun, Result.andThen]
    exact hK _ _ (h v w (by simpa using hown) (Chg.refl _ _) (by simp) (fun g hg => .inl hg))
end
theorem equalIn_slice_nil {t e : TypeId} (h : P.underlying t = some (.slice e)) (w : World) (d : Nat) (a : Option Addr) (n c : Nat) : (Op.equalIn (d + 1) t (.slice a n c) (.slice none 0 0)).run P w = .ok a.isNone w := by
  cases a <;> simp [Op.equalIn, run_underlying h]
theorem eql_slice_nil {t e : TypeId} (h : P.underlying t = some (.slice e)) (w : World) (a : Option Addr) (n c : Nat) : (binOp .eql t (.slice a n c) (.slice none 0 0)).run P w = .ok (.bool a.isNone) w := by
  have : (Op.equal t (.slice a n c) (.slice none 0 0)).run P w = .ok a.isNone w := equalIn_slice_nil h w 9999 a n c
  simp [binOp, this]
theorem ints_one (k : IntKind) (xs : List Int) : ∀ c ∈ xs.map (Value.int k), c.oneCell' = true := by
  intro c hc; obtain ⟨_, _, rfl⟩ := List.mem_map.1 hc; rfl
/-- the draws, and what stands written out, turn no old block -/
theorem Chg.alloc0 (w : World) (o : Obj) : Chg [] w (w.alloc o) := (Chg.refl _ _).alloc _
end Go.Proofs.Ytefkmdejcdhnjaa.K
