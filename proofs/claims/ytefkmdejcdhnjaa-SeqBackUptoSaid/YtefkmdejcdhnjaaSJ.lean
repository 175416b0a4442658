/- Seq: New; a sequence of the call's own; laid. -/
import Derived.Test.YtefkmdejcdhnjaaSI
namespace Go.Proofs.Ytefkmdejcdhnjaa.S
open Go Go.RowKit Go.Shelf Go.Proofs.Ytefkmdejcdhnjaa.K
set_option maxRecDepth 100000

theorem new_of (w : World) : Calls Try.prog 16 #[] w fun e w' => e = .returned (.pointer (some ⟨w.heap.size, 0, none⟩)) ∧ Sq w' w.heap.size (.slice none 0 0) [] ∧ Chg [] w w' := by
  go_enter Try.func16, Try.ntmps16
  go_wp2
  go_ret
  exact ⟨rfl, ⟨heap_new _ _, World.ownsRow_nil _ _ _ _, by simp [Value.ownBlock], by simp⟩, (Chg.refl _ _).alloc _⟩

/-- a sequence that the call has made -/
structure Mine (w wr : World) (p : Nat) (v : Value) (xs : List ElV) : Prop where
  sq : Sq wr p v xs
  lp : w.heap.size ≤ p
  lv : ∀ g, v.ownBlock = some g → w.heap.size ≤ g
  chg : Chg [] w wr
theorem Mine.mk' {w wr w' : World} {p : Nat} (hc : Chg [] w wr) (hp : p = wr.heap.size) (h : Sq w' p (.slice none 0 0) []) (hc' : Chg [] wr w') : Mine w w' p (.slice none 0 0) [] :=
  ⟨h, by have := hc.size; omega, by simp [Value.ownBlock], hc.trans hc'⟩
theorem Mine.step {w wr w' : World} {p : Nat} {v v' : Value} {xs xs' : List ElV} (h : Mine w wr p v xs) (hs : Sq w' p v' xs') (hst : SqStep wr w' p v v') : Mine w w' p v' xs' :=
  ⟨hs, h.lp, fun g hg => by
    rcases hst.loc g hg with h' | h'
    · exact h.lv g h'
    · have := h.chg.size; omega, h.chg.trans' hst.chg (fun _ h _ => h) (fun i hi hl => by
    rcases List.mem_cons.1 hi with rfl | hi
    · have := h.lp; omega
    · have := h.lv i (by simpa using hi); omega)⟩
theorem Mine.chg' {w wr w' : World} {p : Nat} {v : Value} {xs : List ElV} (h : Mine w wr p v xs) (hc : Chg [] wr w') : Mine w w' p v xs :=
  ⟨h.sq.chg hc (by simp) (by simp), h.lp, h.lv, h.chg.trans hc⟩
/-- a list u of the call's own lies apart from the sequence -/
def Apart (u : Value) (p : Nat) (v : Value) : Prop := ∀ g, u.ownBlock = some g → g ≠ p ∧ v.ownBlock ≠ some g
theorem Apart.nil (p : Nat) (v : Value) : Apart (.slice none 0 0) p v := fun g h => by simp [Value.ownBlock] at h

theorem Apart.notin {u : Value} {p : Nat} {v : Value} (h : Apart u p v) : ∀ g, u.ownBlock = some g → g ∉ p :: v.ownBlock.toList := fun g hg hm => by
  rcases List.mem_cons.1 hm with e | hm
  · exact (h g hg).1 e
  · exact (h g hg).2 (by simpa using hm)
theorem Apart.step {u : Value} {p : Nat} {v v' : Value} {wr w1 w' : World} {base e size n : Nat} {xs : List Value} (h : Apart u p v) (ho : wr.ownsRow base e size u n xs) (hc : Chg [] wr w1) (hst : SqStep w1 w' p v v') : Apart u p v' := fun g hg => ⟨(h g hg).1, fun he => by
  rcases hst.loc g he with h' | h'
  · exact (h g hg).2 h'
  · have := (ho.lt g hg).2; have := hc.size; omega⟩
theorem Apart.push {u u' : Value} {p : Nat} {v : Value} {w wr : World} {xs : List ElV} (h : Apart u p v) (hloc : ∀ g, u'.ownBlock = some g → u.ownBlock = some g ∨ wr.heap.size ≤ g) (hM : Mine w wr p v xs) : Apart u' p v := fun g hg => by
  rcases hloc g hg with h' | h'
  · exact h g h'
  · exact ⟨fun e => by have := hM.sq.lt; omega, fun e => by have := (hM.sq.own.lt g e).2; omega⟩
theorem Mine.chg2 {w wr w' : World} {p : Nat} {v u : Value} {xs : List ElV} (h : Mine w wr p v xs) (hc : Chg u.ownBlock.toList wr w') (hap : ∀ g, g ∈ u.ownBlock.toList → g ≠ p ∧ v.ownBlock ≠ some g) (hu : ∀ g, u.ownBlock = some g → w.heap.size ≤ g := by assumption) : Mine w w' p v xs :=
  ⟨h.sq.chg hc (fun hm => (hap _ hm).1 rfl) (fun g hg hm => (hap g hm).2 hg), h.lp, h.lv, h.chg.trans' hc (fun _ h _ => h) (fun i hi hl => by have := hu i (by simpa using hi); omega)⟩

theorem insR_bad {xs : List ElV} {id behind : IdV} (h : (insR xs id behind).1 ≠ 0) : insR xs id behind = ((insR xs id behind).1, xs) := by
  unfold insR at h ⊢
  split
  · rfl
  · split
    · rfl
    · split
      · rfl
      · rename_i h1 h2 h3
        rw [if_neg h1, if_neg h2, if_neg h3] at h
        exact absurd rfl h
theorem insert_ok {w : World} {p : Nat} {s : Value} {xs : List ElV} (h : Sq w p s xs) (id behind : IdV) (hsz : xs.length + 1 ≤ 1099511627776) (hr : (insR xs id behind).1 = 0) :
    Calls Try.prog 17 #[.pointer (some ⟨p, 0, none⟩), .agg (idc id).toArray, .agg (idc behind).toArray] w fun e w' => e = .returned (.int .i64 0) ∧ ∃ v', Sq w' p v' (insR xs id behind).2 ∧ SqStep w w' p s v' := by
  refine (insertFn_of h id behind hsz).mono ?_
  rintro e w' ⟨he, v', h1, h2⟩
  exact ⟨by rw [he, hr], v', h1, h2⟩
theorem insert_bad {w : World} {p : Nat} {s : Value} {xs : List ElV} (h : Sq w p s xs) (id behind : IdV) (hsz : xs.length + 1 ≤ 1099511627776) (hr : (insR xs id behind).1 ≠ 0) :
    Calls Try.prog 17 #[.pointer (some ⟨p, 0, none⟩), .agg (idc id).toArray, .agg (idc behind).toArray] w fun e w' => ∃ r : Int, e = .returned (.int .i64 r) ∧ (r == 0) = false ∧ ∃ v', Sq w' p v' xs ∧ SqStep w w' p s v' := by
  refine (insertFn_of h id behind hsz).mono ?_
  rintro e w' ⟨he, v', h1, h2⟩
  rw [insR_bad hr] at h1
  exact ⟨_, he, by simpa using hr, v', h1, h2⟩

/-- the sequence of what was put, as far as it can be, and what could -/
def layStep (s : List ElV × List PutV) (q : PutV) : List ElV × List PutV := if (insR s.1 q.id q.behind).1 = 0 then ((insR s.1 q.id q.behind).2, s.2 ++ [q]) else s
def layL (l : List PutV) : List ElV × List PutV := l.foldl layStep ([], [])
theorem layL_snoc (l : List PutV) (q : PutV) : layL (l ++ [q]) = layStep (layL l) q := by simp [layL]
theorem insR_len (xs : List ElV) (id behind : IdV) : (insR xs id behind).2.length ≤ xs.length + 1 := by
  unfold insR
  split
  · simp
  · split
    · simp
    · split
      · simp
      · rename_i h1 h2 h3
        have := rank_rng xs behind
        rw [insE_len (by omega)]; simp
theorem layStep_len (s : List ElV × List PutV) (q : PutV) : (layStep s q).1.length ≤ s.1.length + 1 ∧ (layStep s q).2.length ≤ s.2.length + 1 := by
  unfold layStep
  split
  · exact ⟨insR_len _ _ _, by simp⟩
  · omega
theorem layL_len (l : List PutV) : (layL l).1.length ≤ l.length ∧ (layL l).2.length ≤ l.length := by
  suffices ∀ (l : List PutV) s, (l.foldl layStep s).1.length ≤ s.1.length + l.length ∧ (l.foldl layStep s).2.length ≤ s.2.length + l.length by simpa [layL] using this l ([], [])
  intro l
  induction l with
  | nil => intro s; simp
  | cons q l ih => intro s; have := ih (layStep s q); have := layStep_len s q; simp only [List.foldl_cons, List.length_cons]; omega

def zPut : Value := .agg (putc ⟨.zero, .zero⟩).toArray
theorem infoPut : (Try.prog.info? 40).map (fun i => (i.zero, i.size, i.bytes)) = some (some zPut, 66, 80) := by kernel_rfl
theorem slPut : SlTy Try.prog 22 40 zPut 66 80 := ⟨Try.underlying22, infoPut, by kernel_rfl, by decide, by decide⟩
theorem aggPut : IsAgg Try.prog 40 66 := ⟨by kernel_rfl, by kernel_rfl⟩

/-- what laid leaves -/
def LaidOut (w : World) (l : List PutV) (e : Ending) (w' : World) : Prop :=
  ∃ p v u, e = .returned (.tuple #[.pointer (some ⟨p, 0, none⟩), u]) ∧ Mine w w' p v (layL l).1 ∧ w'.ownsRow w.heap.size 40 66 u (layL l).2.length (flat putc (layL l).2) ∧ Apart u p v

set_option maxHeartbeats 4000000 in
theorem laid_of {w : World} {x : Value} {l : List PutV} (hx : Src w x l.length (flat putc l)) (ll : l.length ≤ 1048576) :
    Calls Try.prog 11 #[x] w (LaidOut w l) := by
  have lfx := flat_len putc_len l
  obtain ⟨ao0, c0, hxe, hx0, hx1⟩ := hx.out
  go_enter Try.func11, Try.ntmps11
  go_wp2_with (go_at_call 16; refine (new_of w).mono ?_; rintro e w1 ⟨rfl, hN, hc1⟩)
  subst hxe
  go_loopw [5, 6] (fun u i wr => ∃ k : Nat, k ≤ l.length ∧ i = .int .i64 k ∧ ∃ v, Mine w wr w.heap.size v (layL (l.take k)).1 ∧ wr.ownsRow w.heap.size 40 66 u (layL (l.take k)).2.length (flat putc (layL (l.take k)).2) ∧ Apart u w.heap.size v) (fun _ i _ => l.length - (intOf i).toNat)
  case atStart => exact ⟨0, by omega, rfl, _, Mine.mk' (Chg.refl _ _) rfl hN hc1, World.ownsRow_nil _ _ _ _, Apart.nil _ _⟩
  case round =>
    obtain ⟨k, hk, rfl, v, hM, hown, hap⟩ := hrel
    by_cases hlt : k < l.length
    · obtain ⟨q, hq⟩ : ∃ q, l[k]? = some q := ⟨_, List.getElem?_eq_getElem hlt⟩
      obtain ⟨pb, po, c, he, C1, _⟩ := hx.block (by omega) (by omega)
      simp only [Value.slice.injEq] at he
      obtain ⟨rfl, _, rfl⟩ := he
      have hLn : layL (l.take (k + 1)) = layStep (layL (l.take k)) q := by rw [List.take_add_one, hq]; exact layL_snoc _ _
      have hLl := layL_len (l.take k)
      obtain ⟨s, hs⟩ : ∃ s, layL (l.take k) = s := ⟨_, rfl⟩
      rw [hs] at hM hown hLn hLl
      obtain ⟨xs, dn⟩ := s
      have hlen : xs.length + 1 ≤ 1099511627776 := by simp at hLl; omega
      have hdn : dn.length ≤ 1048576 := by simp at hLl; omega
      have cq : Cs wr pb (po + k * 66) (putc q) := (Cs.elem putc_len C1 hq).chg hM.chg (by simp)
      obtain ⟨ci, cb, _⟩ := put_cells cq
      have hS0 : Chg [] wr wr.drew := (Chg.refl [] wr).drew
      have hk1 : (k : Int) < (l.length : Int) := by omega
      have hk0 : (0 : Int) ≤ (k : Int) := by omega
      have HLn := Lib.hid hLn
      have HAp := Lib.hid hap
      have HO := Lib.hid hown
      have HQ := Lib.hid hq
      clear hq hs hLn hLl hap lfx hx hx0 hx1 hown hN hc1
      by_cases hr0 : (insR xs q.id q.behind).1 = 0
      · have hst0 : layStep (xs, dn) q = ((insR xs q.id q.behind).2, dn ++ [q]) := by unfold layStep; rw [if_pos hr0]
        have HST := Lib.hid hst0
        clear hst0
        go_wp2
        refine wp_region_U (fun wx => Chg [] wr wx) [11, 12] (by kernel_rfl) ?_
        refine u_take0 (i := 0) (v := ?_) 16 rfl rfl (by kernel_rfl) (by kernel_rfl) (by kernel_rfl) (fun _ _ _ h => h) (by rfl) ?_ ?_
        case refine_2 => intro wx; go_simp; with_reducible rfl
        try simp only [Act.put, List.setIfInBounds_toArray, List.set_cons_succ, List.set_cons_zero]
        refine u_take0 (i := 1) (v := ?_) 17 rfl rfl (by kernel_rfl) (by kernel_rfl) (by kernel_rfl) (fun _ _ _ h => h) (by rfl) ?_ ?_
        case refine_2 => intro wx; go_simp; with_reducible rfl
        try simp only [Act.put, List.setIfInBounds_toArray, List.set_cons_succ, List.set_cons_zero]
        refine u_take0 (i := 2) (v := ?_) 18 rfl rfl (by kernel_rfl) (by kernel_rfl) (by kernel_rfl) (fun _ _ _ h => h) (by rfl) ?_ ?_
        case refine_2 => intro wx; go_simp; with_reducible rfl
        try simp only [Act.put, List.setIfInBounds_toArray, List.set_cons_succ, List.set_cons_zero]
        refine u_take0 (i := 3) (v := ?_) 19 rfl rfl (by kernel_rfl) (by kernel_rfl) (by kernel_rfl) (fun _ _ _ h => h) (by rfl) ?_ ?_
        case refine_2 => intro wx; go_simp; with_reducible rfl
        try simp only [Act.put, List.setIfInBounds_toArray, List.set_cons_succ, List.set_cons_zero]
        refine u_take0 (i := 4) (v := ?_) 20 rfl rfl (by kernel_rfl) (by kernel_rfl) (by kernel_rfl) (fun _ _ _ h => h) (by rfl) ?_ ?_
        case refine_2 => intro wx; go_simp; with_reducible rfl
        try simp only [Act.put, List.setIfInBounds_toArray, List.set_cons_succ, List.set_cons_zero]
        refine u_take (i := 5) (v := .agg (idc q.id).toArray) 21 rfl rfl (by kernel_rfl) (by kernel_rfl) (by kernel_rfl) (by kernel_rfl) (fun _ _ _ h => h) (by rfl) (fun wx hwx => ex_loadAgg aggId rfl (Cs.chg ci hwx (by simp)) (idc_len _)) hS0 ?_
        try simp only [Act.put, List.setIfInBounds_toArray, List.set_cons_succ, List.set_cons_zero]
        refine u_take0 (i := 6) (v := ?_) 22 rfl rfl (by kernel_rfl) (by kernel_rfl) (by kernel_rfl) (fun _ _ _ h => h) (by rfl) ?_ ?_
        case refine_2 => intro wx; go_simp; with_reducible rfl
        try simp only [Act.put, List.setIfInBounds_toArray, List.set_cons_succ, List.set_cons_zero]
        refine u_take0 (i := 7) (v := ?_) 23 rfl rfl (by kernel_rfl) (by kernel_rfl) (by kernel_rfl) (fun _ _ _ h => h) (by rfl) ?_ ?_
        case refine_2 => intro wx; go_simp; with_reducible rfl
        try simp only [Act.put, List.setIfInBounds_toArray, List.set_cons_succ, List.set_cons_zero]
        refine u_take0 (i := 8) (v := ?_) 24 rfl rfl (by kernel_rfl) (by kernel_rfl) (by kernel_rfl) (fun _ _ _ h => h) (by rfl) ?_ ?_
        case refine_2 => intro wx; go_simp; with_reducible rfl
        try simp only [Act.put, List.setIfInBounds_toArray, List.set_cons_succ, List.set_cons_zero]
        refine u_take0 (i := 9) (v := ?_) 25 rfl rfl (by kernel_rfl) (by kernel_rfl) (by kernel_rfl) (fun _ _ _ h => h) (by rfl) ?_ ?_
        case refine_2 => intro wx; go_simp; with_reducible rfl
        try simp only [Act.put, List.setIfInBounds_toArray, List.set_cons_succ, List.set_cons_zero]
        refine u_take (i := 10) (v := .agg (idc q.behind).toArray) 26 rfl rfl (by kernel_rfl) (by kernel_rfl) (by kernel_rfl) (by kernel_rfl) (fun _ _ _ h => h) (by rfl) (fun wx hwx => ex_loadAgg aggId rfl (Cs.chg cb hwx (by simp)) (idc_len _)) hS0 ?_
        try simp only [Act.put, List.setIfInBounds_toArray, List.set_cons_succ, List.set_cons_zero]
        -- 11: Op.call { callee := Callee.value (Operand.func 17), args := #[Operand.tmp 16, Op
        refine u_step (i := 11) rfl (by kernel_rfl) (fun K hK => ?_)
        go_simp
        go_wp2_with (fail)
        refine (insert_ok (hM.sq.chg hS0 (by simp) (by simp)) q.id q.behind hlen hr0).mono ?_; rintro e W2 ⟨rfl, v', hS2, hst⟩
        refine hK _ _ (fun h => absurd h (by decide)) ?_
        clear hK
        try simp only [Act.put, List.setIfInBounds_toArray, List.set_cons_succ, List.set_cons_zero]
        -- 12: Op.binOp BinOp.eql 37 (Operand.tmp 27) (Operand.const (Value.int IntKind.i64 0))
        refine u_step (i := 12) rfl (by kernel_rfl) (fun K hK => ?_)
        go_simp
        refine hK _ _ (fun h => absurd h (by decide)) ?_
        clear hK
        try simp only [Act.put, List.setIfInBounds_toArray, List.set_cons_succ, List.set_cons_zero]
        refine u_done (by kernel_rfl) ?_ _
        have hM2 := (hM.chg' hS0).step hS2 hst
        have hap2 : Apart u5 w.heap.size v' := HAp.out.step HO.out hS0 hst
        have hown2 : W2.ownsRow w.heap.size 40 66 u5 dn.length (flat putc dn) := hst.chg.owns (hS0.owns HO.out (by simp)) (HAp.out.notin)
        have HO2 := Lib.hid hown2
        have HAp2 := Lib.hid hap2
        have cp2 : Cs W2 pb (po + k * 66) (putc q) := (Cs.elem putc_len C1 HQ.out).chg hM2.chg (by simp)
        have hbz : w.heap.size ≤ W2.heap.size := hM2.chg.size
        have HM2 := Lib.hid hM2
        clear hap2 hM2 hS2
        go_wp2_with (first
          | ((with_reducible show wpList _ _ _ (⟨some 33, _, _, _, _, _⟩ :: _) _ _); refine wpList_loadAgg aggPut rfl cp2 (putc_len _) ?_)
          | ((with_reducible show wpList _ _ _ (⟨some 34, _, _, _, _, _⟩ :: _) _ _); refine wpList_push slPut u5 dn.length (flat putc dn) (.agg (putc q).toArray) (of_decide_eq_true rfl) (fun _ => rfl) hown2 rfl (show (putc q).toArray.size = 66 by simp [putc_len]) (show ∀ c ∈ (putc q).toArray.toList, c.oneCell' = true by simpa using putc_one q) (by omega) (by unfold maxLen; omega) hbz ?_; intro u' W3 hown3 hch3 hnn hloc))
        go_roundw
        case rel =>
          refine ⟨k + 1, by omega, by go_num, v', ?_, ?_, ?_⟩
          · rw [HLn.out, HST.out]; exact HM2.out.chg2 hch3 (fun g hg => HAp2.out g (by simpa using hg)) (fun g hg => (HO2.out.lt g hg).1)
          · rw [HLn.out, HST.out, List.length_append, flat_append, flat_one]
            simpa [Value.cells] using hown3
          · exact HAp2.out.push hloc HM2.out
        case measure => simp [intOf]; omega
      · have hst0 : layStep (xs, dn) q = (xs, dn) := by unfold layStep; rw [if_neg hr0]
        have HST := Lib.hid hst0
        clear hst0
        go_wp2
        refine wp_region_U (fun wx => Chg [] wr wx) [11, 12] (by kernel_rfl) ?_
        refine u_take0 (i := 0) (v := ?_) 16 rfl rfl (by kernel_rfl) (by kernel_rfl) (by kernel_rfl) (fun _ _ _ h => h) (by rfl) ?_ ?_
        case refine_2 => intro wx; go_simp; with_reducible rfl
        try simp only [Act.put, List.setIfInBounds_toArray, List.set_cons_succ, List.set_cons_zero]
        refine u_take0 (i := 1) (v := ?_) 17 rfl rfl (by kernel_rfl) (by kernel_rfl) (by kernel_rfl) (fun _ _ _ h => h) (by rfl) ?_ ?_
        case refine_2 => intro wx; go_simp; with_reducible rfl
        try simp only [Act.put, List.setIfInBounds_toArray, List.set_cons_succ, List.set_cons_zero]
        refine u_take0 (i := 2) (v := ?_) 18 rfl rfl (by kernel_rfl) (by kernel_rfl) (by kernel_rfl) (fun _ _ _ h => h) (by rfl) ?_ ?_
        case refine_2 => intro wx; go_simp; with_reducible rfl
        try simp only [Act.put, List.setIfInBounds_toArray, List.set_cons_succ, List.set_cons_zero]
        refine u_take0 (i := 3) (v := ?_) 19 rfl rfl (by kernel_rfl) (by kernel_rfl) (by kernel_rfl) (fun _ _ _ h => h) (by rfl) ?_ ?_
        case refine_2 => intro wx; go_simp; with_reducible rfl
        try simp only [Act.put, List.setIfInBounds_toArray, List.set_cons_succ, List.set_cons_zero]
        refine u_take0 (i := 4) (v := ?_) 20 rfl rfl (by kernel_rfl) (by kernel_rfl) (by kernel_rfl) (fun _ _ _ h => h) (by rfl) ?_ ?_
        case refine_2 => intro wx; go_simp; with_reducible rfl
        try simp only [Act.put, List.setIfInBounds_toArray, List.set_cons_succ, List.set_cons_zero]
        refine u_take (i := 5) (v := .agg (idc q.id).toArray) 21 rfl rfl (by kernel_rfl) (by kernel_rfl) (by kernel_rfl) (by kernel_rfl) (fun _ _ _ h => h) (by rfl) (fun wx hwx => ex_loadAgg aggId rfl (Cs.chg ci hwx (by simp)) (idc_len _)) hS0 ?_
        try simp only [Act.put, List.setIfInBounds_toArray, List.set_cons_succ, List.set_cons_zero]
        refine u_take0 (i := 6) (v := ?_) 22 rfl rfl (by kernel_rfl) (by kernel_rfl) (by kernel_rfl) (fun _ _ _ h => h) (by rfl) ?_ ?_
        case refine_2 => intro wx; go_simp; with_reducible rfl
        try simp only [Act.put, List.setIfInBounds_toArray, List.set_cons_succ, List.set_cons_zero]
        refine u_take0 (i := 7) (v := ?_) 23 rfl rfl (by kernel_rfl) (by kernel_rfl) (by kernel_rfl) (fun _ _ _ h => h) (by rfl) ?_ ?_
        case refine_2 => intro wx; go_simp; with_reducible rfl
        try simp only [Act.put, List.setIfInBounds_toArray, List.set_cons_succ, List.set_cons_zero]
        refine u_take0 (i := 8) (v := ?_) 24 rfl rfl (by kernel_rfl) (by kernel_rfl) (by kernel_rfl) (fun _ _ _ h => h) (by rfl) ?_ ?_
        case refine_2 => intro wx; go_simp; with_reducible rfl
        try simp only [Act.put, List.setIfInBounds_toArray, List.set_cons_succ, List.set_cons_zero]
        refine u_take0 (i := 9) (v := ?_) 25 rfl rfl (by kernel_rfl) (by kernel_rfl) (by kernel_rfl) (fun _ _ _ h => h) (by rfl) ?_ ?_
        case refine_2 => intro wx; go_simp; with_reducible rfl
        try simp only [Act.put, List.setIfInBounds_toArray, List.set_cons_succ, List.set_cons_zero]
        refine u_take (i := 10) (v := .agg (idc q.behind).toArray) 26 rfl rfl (by kernel_rfl) (by kernel_rfl) (by kernel_rfl) (by kernel_rfl) (fun _ _ _ h => h) (by rfl) (fun wx hwx => ex_loadAgg aggId rfl (Cs.chg cb hwx (by simp)) (idc_len _)) hS0 ?_
        try simp only [Act.put, List.setIfInBounds_toArray, List.set_cons_succ, List.set_cons_zero]
        -- 11: Op.call { callee := Callee.value (Operand.func 17), args := #[Operand.tmp 16, Op
        refine u_step (i := 11) rfl (by kernel_rfl) (fun K hK => ?_)
        go_simp
        go_wp2_with (fail)
        refine (insert_bad (hM.sq.chg hS0 (by simp) (by simp)) q.id q.behind hlen hr0).mono ?_; rintro e W2 ⟨rr, rfl, hrr, v', hS2, hst⟩
        refine hK _ _ (fun h => absurd h (by decide)) ?_
        clear hK
        try simp only [Act.put, List.setIfInBounds_toArray, List.set_cons_succ, List.set_cons_zero]
        -- 12: Op.binOp BinOp.eql 37 (Operand.tmp 27) (Operand.const (Value.int IntKind.i64 0))
        refine u_step (i := 12) rfl (by kernel_rfl) (fun K hK => ?_)
        go_simp
        refine hK _ _ (fun h => absurd h (by decide)) ?_
        clear hK
        try simp only [Act.put, List.setIfInBounds_toArray, List.set_cons_succ, List.set_cons_zero]
        refine u_done (by kernel_rfl) ?_ _
        have hM2 := (hM.chg' hS0).step hS2 hst
        have hap2 : Apart u5 w.heap.size v' := HAp.out.step HO.out hS0 hst
        have hown2 : W2.ownsRow w.heap.size 40 66 u5 dn.length (flat putc dn) := hst.chg.owns (hS0.owns HO.out (by simp)) (HAp.out.notin)
        have HO2 := Lib.hid hown2
        have HAp2 := Lib.hid hap2
        have HM2 := Lib.hid hM2
        clear hap2 hM2 hS2 hown2
        go_wp2
        go_roundw
        case rel => exact ⟨k + 1, by omega, by go_num, v', by rw [HLn.out, HST.out]; exact HM2.out, by rw [HLn.out, HST.out]; exact HO2.out, HAp2.out⟩
        case measure => simp [intOf]; omega
    · obtain rfl : k = l.length := by omega
      rw [List.take_length] at hM hown
      go_wp2
      go_ret2
      exact ⟨_, v, _, rfl, hM, hown, hap⟩
end Go.Proofs.Ytefkmdejcdhnjaa.S
