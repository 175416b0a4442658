/- Seq: the iterator over a row's things, its contract. -/
import Derived.Test.YtefkmdejcdhnjaaSA
import Derived.RangeFuncBox
namespace Go.Proofs.Ytefkmdejcdhnjaa.S
open Go Go.RowKit Go.Shelf Go.Proofs.Ytefkmdejcdhnjaa.K
set_option maxRecDepth 100000
attribute [local go_sem] Oper.semAt_some

theorem setRow_alloc (w : World) (zs cs : Array Value) (T : TypeId) : (w.alloc (.cells zs T)).setRow w.heap.size cs = w.alloc (.cells cs T) := setRow_new _ _ _ _

theorem wpListIn_storeNew {F : Fence} {n : Nat} {P : Program} {ops : Array Oper} {rest : List Oper} {a : Act} {w0 : World} {Q : Exit → Act → World → Prop} {tt : TypeId} {pos : String} {after : Array Edge} {x y : Operand} {T T0 : TypeId} {m : Nat} {cs zs : Array Value} (hT : (P.info? T).map (·.size) = some m) (hy : a.eval y = .pointer (some ⟨w0.heap.size, 0, none⟩)) (hx : a.eval x = .agg cs) (hn : cs.size = m) (hz : zs.size = m) (h1 : ∀ c ∈ cs.toList, c.oneCell' = true)
    (h : wpListIn F n P ops Q rest a (w0.alloc (.cells cs T0))) :
    wpListIn F n P ops Q (⟨none, .store T y x, tt, pos, after, none⟩ :: rest) a (w0.alloc (.cells zs T0)) := by
  refine wpListIn_skp rfl rfl (by simp) (by simp) (ex_storeAgg hT hy hx hn h1 (heap_new _ _) (by omega)) ?_
  rw [setRow_alloc]
  have e3 : zs.toList.drop (0 + m) = [] := List.drop_eq_nil_of_le (by simp; omega)
  rw [e3]
  simpa using h

abbrev ixEnc (x : Nat × ElV) : Array Value := #[.int .i64 (x.1 : Int), .agg (elc x.2).toArray]

set_option maxHeartbeats 2000000 in
/-- 'func(yield) { for i, x := range r.things { if !yield(i, x) { return } } }' -/
theorem all1_in (n : Nat) (hn : 1 ≤ n) (l Bs n₀ p : Nat) (v : Value) (xs : List ElV) (hp : p < n₀) (hv : ∀ g, v.ownBlock = some g → g < n₀) (J Jx : List (Nat × ElV) → World → Prop) (W : World) (hJ : AbidesFrom W.heap.size J)
    (hY : ∀ pre x W, J pre W → pre.length < xs.length → YieldAt Fence.wide (n - 1) Try.prog l (ixEnc x) W fun e W' =>
      (e = .returned (.bool true) ∧ J (pre ++ [x]) W' ∧ Below n₀ W W') ∨ (e = .returned (.bool false) ∧ Jx (pre ++ [x]) W'))
    (hBs : W.cell? ⟨Bs, 0, none⟩ = some (.pointer (some ⟨p, 0, none⟩))) (hS : Sq W p v xs) (hn₀ : n₀ ≤ W.heap.size) (h0 : J [] W) :
    CallsIn Fence.wide n Try.prog 79 #[.func (.yield l) #[] #[], .pointer (some ⟨Bs, 0, none⟩)] W fun e W' => (∃ v, e = .returned v) ∧
      ((∃ ys, ys = (xs.zipIdx.map fun x => (x.2, x.1)) ∧ J ys W') ∨ (∃ pre, (∃ k, k ≤ xs.length ∧ pre = (xs.zipIdx.map fun x => (x.2, x.1)).take k) ∧ Jx pre W')) := by
  have hc0 := hS.cell.1
  obtain ⟨ao, c, rfl, ha⟩ := owns_form hS.own
  have hsz := hS.sz
  refine callsIn_of_wp Try.func79 rfl trivial ?_ rfl
  simp only [Try.ntmps79, List.size_toArray, List.length_cons, List.length_nil, Nat.reduceAdd, Nat.reduceSub, Array.replicate_succ, Array.replicate_zero, List.push_toArray, List.append_toArray, List.nil_append, List.cons_append]
  gi_wp2
  gi_loopw [10] (fun i wr => ∃ k : Nat, k ≤ xs.length ∧ i = .int .i64 k ∧ J ((xs.zipIdx.map fun x => (x.2, x.1)).take k) wr ∧ Below n₀ W wr)
    (fun i _ => xs.length - (intOf i).toNat)
  case atStart => exact ⟨0, Nat.zero_le _, rfl, h0, Below.refl _ _⟩
  case round =>
    obtain ⟨k, hk, rfl, hJs, hnx⟩ := hrel
    by_cases hlt : k < xs.length
    · obtain ⟨x, hx⟩ : ∃ x, xs[k]? = some x := ⟨_, List.getElem?_eq_getElem hlt⟩
      obtain ⟨a, rfl⟩ : ∃ a, ao = some a := by
        rcases hS.own.2 with ⟨hv0, h0'⟩ | ⟨g, cap, cur, hv0, _⟩
        · omega
        · cases hv0; exact ⟨_, rfl⟩
      obtain ⟨g, rfl⟩ := ha a rfl
      have hg : g < n₀ := hv g rfl
      have hcs : Cs wr g (k * 67) (elc x) := by
        intro j u hu
        have hj : j < 67 := by rw [← elc_len x]; exact (List.getElem?_eq_some_iff.1 hu).1
        have := Cs.of_owns hS.own (k * 67 + j) u (by rw [flat_get elc_len hx hj]; exact hu)
        rw [Nat.zero_add] at this
        exact (hnx.cell (p := ⟨g, k * 67 + j, none⟩) hg).trans this
      have hwn : n₀ ≤ wr.heap.size := Nat.le_trans hn₀ hnx.size
      have hJ1 : J ((xs.zipIdx.map fun x => (x.2, x.1)).take k) (wr.alloc (.cells (elc x).toArray 98)) := hJ _ _ _ none hJs (World.grownBy_alloc wr _ none) (fun r e => by cases e)
      have hzi : (xs.zipIdx.map fun x => (x.2, x.1))[k]? = some (k, x) := by
        rw [List.getElem?_map, List.getElem?_zipIdx, hx]; simp
      have hts : (xs.zipIdx.map fun x => (x.2, x.1)).take (k + 1) = (xs.zipIdx.map fun x => (x.2, x.1)).take k ++ [(k, x)] := by
        rw [List.take_add_one, hzi]; rfl
      have HTS := Lib.hid hts
      have HX := Lib.hid hx
      have hlen : ((xs.zipIdx.map fun x => (x.2, x.1)).take k).length < xs.length := by simp; omega
      obtain ⟨fn, tmps, assign, body, hy, hR⟩ := hY _ (k, x) _ hJ1 hlen
      dsimp only [ixEnc] at hy
      have hbx : Cs (wr.alloc (.cells (elc x).toArray 98)) wr.heap.size 0 (elc x) := Cs.of_heap (heap_new _ _) 0 (by intro j u hu; simpa using hu)
      have hB1 : Below n₀ wr (wr.alloc (.cells (elc x).toArray 98)) := (Below.refl _ _).alloc hwn _
      clear hts hx hzi hlen hJ1 hY hc0 hS hBs
      gi_wp2_with (first
        | ((with_reducible show wpListIn _ _ _ _ _ (⟨some 14, _, _, _, _, _⟩ :: _) _ _); refine wpListIn_loadAgg aggEl rfl (by simpa using hcs) (elc_len x) ?_)
        | ((with_reducible show wpListIn _ _ _ _ _ (⟨some 4, _, _, _, _, _⟩ :: _) _ _); refine wpListIn_allocZ zeroEl ?_)
        | ((with_reducible show wpListIn _ _ _ _ _ (⟨none, Op.store _ _ (.tmp 14), _, _, _, _⟩ :: _) _ _); refine wpListIn_storeNew (m := 67) aggEl.size rfl rfl (by simp [elc_len]) (by kernel_rfl) (by simpa using elc_one x) ?_)
        | ((with_reducible show wpListIn _ _ _ _ _ (⟨some 17, _, _, _, _, _⟩ :: _) _ _); refine wpListIn_loadAgg aggEl rfl hbx (elc_len x) ?_))
      refine hR.mono ?_
      rintro e W3 (⟨rfl, hJ3, hk3⟩ | ⟨rfl, hJx3⟩)
      · gi_wp2
        go_roundw
        case rel => exact ⟨k + 1, by omega, by simp, by rw [HTS.out]; exact hJ3, (hnx.trans hB1).trans hk3⟩
        case measure => simp [intOf]; omega
      · gi_wp2
        refine bodyPost_ret (results_none rfl _ _ _) rfl ?_
        exact ⟨⟨_, rfl⟩, .inr ⟨_, ⟨k + 1, by omega, HTS.out.symm⟩, hJx3⟩⟩
    · obtain rfl : k = xs.length := by omega
      gi_wp2
      go_end0
      refine ⟨⟨_, rfl⟩, .inl ⟨_, rfl, ?_⟩⟩
      have : (xs.zipIdx.map fun x => (x.2, x.1)).take xs.length = xs.zipIdx.map fun x => (x.2, x.1) := List.take_of_length_le (by simp)
      rw [← this]; exact hJs

def ixs (xs : List ElV) : List (Nat × ElV) := xs.zipIdx.map fun x => (x.2, x.1)
theorem ixs_take {xs : List ElV} {k : Nat} (hk : k ≤ xs.length) : (ixs xs).take k = ixs (xs.take k) := by
  unfold ixs
  rw [← List.map_take]
  congr 1
  apply List.ext_getElem?
  intro i
  rw [List.getElem?_take]
  split
  · rename_i h; rw [List.getElem?_zipIdx, List.getElem?_zipIdx, List.getElem?_take, if_pos h]
  · rename_i h; rw [List.getElem?_zipIdx, List.getElem?_take, if_neg h]; rfl

/-- s.all(): the row's address is boxed; the function value captures the box -/
theorem all_in (n : Nat) (p : Nat) (w : World) :
    CallsIn Fence.wide n Try.prog 66 #[.pointer (some ⟨p, 0, none⟩)] w fun e w' => e = .returned (.func (.func 79) #[] #[.pointer (some ⟨w.heap.size, 0, none⟩)]) ∧ w' = w.alloc (.cells #[.pointer (some ⟨p, 0, none⟩)] 112) := by
  refine callsIn_of_wp Try.func66 rfl trivial ?_ rfl
  simp only [Try.ntmps66, List.size_toArray, List.length_cons, List.length_nil, Nat.reduceAdd, Nat.reduceSub, Array.replicate_succ, Array.replicate_zero, List.push_toArray, List.append_toArray, List.nil_append, List.cons_append]
  gi_wp2
  go_ret
  exact ⟨rfl, rfl⟩

/-- .. which gives all things of the row, each with its number, or the first ones, where a round has said 'no more' -/
theorem all_stops (n : Nat) (hn : 1 ≤ n) (Bs n₀ p : Nat) (v : Value) (xs : List ElV) (w : World) (hBs : Bs < w.heap.size) (hn₀ : n₀ ≤ w.heap.size) (hc : w.cell? ⟨Bs, 0, none⟩ = some (.pointer (some ⟨p, 0, none⟩))) (hS : Sq w p v xs) (hp : p < n₀) (hv : ∀ g, v.ownBlock = some g → g < n₀) :
    SeqStopsK Fence.wide n Try.prog 79 #[.pointer (some ⟨Bs, 0, none⟩)] ixEnc (Below n₀) (fun ys => ys = ixs xs) (fun pre => ∃ k, k ≤ xs.length ∧ pre = (ixs xs).take k) xs.length w := fun l J Jx W hW hJ _ hY h0 => by
  have hc' := (hW.cell (p := ⟨Bs, 0, none⟩) hBs).trans hc
  have hlt := hS.lt
  have hvl : ∀ g, v.ownBlock = some g → g < w.heap.size := fun g hg => (hS.own.lt g hg).2
  have hS' : Sq W p v xs := ⟨(hW.block p hlt).trans hS.mem, (Chg.of_below hW []).owns hS.own (by simp), hS.ne, hS.sz⟩
  exact all1_in n hn l Bs n₀ p v xs hp hv J Jx W hJ hY hc' hS' (Nat.le_trans hn₀ hW.size) h0
end Go.Proofs.Ytefkmdejcdhnjaa.S
