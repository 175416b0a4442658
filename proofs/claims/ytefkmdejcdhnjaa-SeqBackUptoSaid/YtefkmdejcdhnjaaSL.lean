/- Seq: the law SeqBetween, walked. -/
import Derived.Test.YtefkmdejcdhnjaaSK
import Derived.Test.YtefkmdejcdhnjaaKH
namespace Go.Proofs.Ytefkmdejcdhnjaa.S
open Go Go.RowKit Go.Shelf Go.Proofs.Ytefkmdejcdhnjaa.K
set_option maxRecDepth 100000

theorem src_ids {w : World} {base : Nat} {u : Value} {l : List IdV} (h : w.ownsRow base 34 33 u l.length (flat idc l)) : ∃ ao c, u = .slice ao l.length c ∧ l.length ≤ c ∧ Src w (.slice ao l.length c) l.length (flat idc l) := by
  obtain ⟨ao, c, rfl, _⟩ := owns_form h
  refine ⟨ao, c, rfl, ?_, Src.of_owns h⟩
  rcases h.2 with ⟨h1, h2⟩ | ⟨g, cap, cur, h1, _, _, hle, _⟩
  · omega
  · simp only [Value.slice.injEq] at h1; obtain ⟨_, _, rfl⟩ := h1; exact hle

theorem same_at {w : World} {x y : Value} {xs ys : List IdV} {n m : Nat} {b : Bool} (hn : xs.length = n) (hm : ys.length = m) (hx : Src w x n (flat idc xs)) (hy : Src w y m (flat idc ys)) (ln : n ≤ 1099511627776) (hb : decide (xs = ys) = b) :
    Calls Try.prog 13 #[x, y] w fun e w' => e = .returned (.bool b) ∧ Chg [] w w' := by
  subst hn hm hb
  exact same_of hx hy ln

set_option maxHeartbeats 8000000 in
theorem between_walk {w : World} {x : Value} {l : List PutV} (hx : Src w x l.length (flat putc l)) (ll : l.length ≤ 1048576) :
    Calls Try.prog 4 #[x] w fun e w' => e = .returned (.bool true) ∧ Chg [] w w' := by
  have lfx := flat_len putc_len l
  obtain ⟨ao0, c0, hxe, hx0, hx1⟩ := hx.out
  go_enter Try.func4, Try.ntmps4
  go_wp2_with (go_at_call 16; refine (new_of w).mono ?_; rintro e w1 ⟨rfl, hN, hc1⟩)
  subst hxe
  go_loopw [4] (fun i wr => ∃ k : Nat, k ≤ l.length ∧ i = .int .i64 k ∧ ∃ v, Mine w wr w.heap.size v (layL (l.take k)).1) (fun i _ => l.length - (intOf i).toNat)
  case atStart => exact ⟨0, by omega, rfl, _, Mine.mk' (Chg.refl _ _) rfl hN hc1⟩
  case round =>
    obtain ⟨k, hk, rfl, v, hM⟩ := hrel
    by_cases hlt : k < l.length
    · obtain ⟨q, hq⟩ : ∃ q, l[k]? = some q := ⟨_, List.getElem?_eq_getElem hlt⟩
      obtain ⟨pb, po, c, he, C1, _⟩ := hx.block (by omega) (by omega)
      simp only [Value.slice.injEq] at he
      obtain ⟨rfl, _, rfl⟩ := he
      have hLn : layL (l.take (k + 1)) = layStep (layL (l.take k)) q := by rw [List.take_add_one, hq]; exact layL_snoc _ _
      have hLl := layL_len (l.take k)
      have hG := (lay_inv (l.take k)).good
      obtain ⟨s, hs⟩ : ∃ s, layL (l.take k) = s := ⟨_, rfl⟩
      rw [hs] at hM hLn hLl hG
      obtain ⟨xs, dn⟩ := s
      have hlen : xs.length + 1 ≤ 1099511627776 := by simp at hLl; omega
      have hlen2 : xs.length ≤ 1048576 := by simp at hLl; omega
      have cq0 : Cs w pb (po + k * 66) (putc q) := Cs.elem putc_len C1 hq
      have hk1 : (k : Int) < (l.length : Int) := by omega
      have hk0 : (0 : Int) ≤ (k : Int) := by omega
      have HLn := Lib.hid hLn
      have HQ := Lib.hid hq
      have HG := Lib.hid hG
      have HM := Lib.hid hM
      clear hq hs hLn hLl lfx hx hx0 hx1 hN hc1 hG
      go_wp2_with (go_at_call 14; refine (idsFn_of hM.sq).mono ?_; rintro e W1 ⟨u5, rfl, hown5, hcI⟩; obtain ⟨aoW, cW, hu5, hcW, sW0⟩ := src_ids hown5; subst hu5)
      have hM1 := HM.out.chg' hcI
      have ci := (put_cells (cq0.chg hM1.chg (by simp))).1
      have cb := (put_cells (cq0.chg hM1.chg (by simp))).2.1
      have hS0 : Chg [] W1 W1.drew := (Chg.refl [] W1).drew
      have HO5 := Lib.hid hown5
      clear hown5 hM
      by_cases hr0 : (insR xs q.id q.behind).1 = 0
      · have hst0 : layStep (xs, dn) q = ((insR xs q.id q.behind).2, dn ++ [q]) := by unfold layStep; rw [if_pos hr0]
        obtain ⟨r, D⟩ := insR_done hr0
        rw [D.out] at hst0
        have HST := Lib.hid hst0
        have HD := Lib.hid D
        clear hst0 D
        refine wp_region_U (fun wx => Chg [] W1 wx) [11, 12] (by kernel_rfl) ?_
        refine u_take0 (i := 0) (v := ?_) 19 rfl rfl (by kernel_rfl) (by kernel_rfl) (by kernel_rfl) (fun _ _ _ h => h) (by rfl) ?_ ?_
        case refine_2 => intro wx; go_simp; with_reducible rfl
        try simp only [Act.put, List.setIfInBounds_toArray, List.set_cons_succ, List.set_cons_zero]
        refine u_take0 (i := 1) (v := ?_) 20 rfl rfl (by kernel_rfl) (by kernel_rfl) (by kernel_rfl) (fun _ _ _ h => h) (by rfl) ?_ ?_
        case refine_2 => intro wx; go_simp; with_reducible rfl
        try simp only [Act.put, List.setIfInBounds_toArray, List.set_cons_succ, List.set_cons_zero]
        refine u_take0 (i := 2) (v := ?_) 21 rfl rfl (by kernel_rfl) (by kernel_rfl) (by kernel_rfl) (fun _ _ _ h => h) (by rfl) ?_ ?_
        case refine_2 => intro wx; go_simp; with_reducible rfl
        try simp only [Act.put, List.setIfInBounds_toArray, List.set_cons_succ, List.set_cons_zero]
        refine u_take0 (i := 3) (v := ?_) 22 rfl rfl (by kernel_rfl) (by kernel_rfl) (by kernel_rfl) (fun _ _ _ h => h) (by rfl) ?_ ?_
        case refine_2 => intro wx; go_simp; with_reducible rfl
        try simp only [Act.put, List.setIfInBounds_toArray, List.set_cons_succ, List.set_cons_zero]
        refine u_take0 (i := 4) (v := ?_) 23 rfl rfl (by kernel_rfl) (by kernel_rfl) (by kernel_rfl) (fun _ _ _ h => h) (by rfl) ?_ ?_
        case refine_2 => intro wx; go_simp; with_reducible rfl
        try simp only [Act.put, List.setIfInBounds_toArray, List.set_cons_succ, List.set_cons_zero]
        refine u_take (i := 5) (v := .agg (idc q.id).toArray) 24 rfl rfl (by kernel_rfl) (by kernel_rfl) (by kernel_rfl) (by kernel_rfl) (fun _ _ _ h => h) (by rfl) (fun wx hwx => ex_loadAgg aggId rfl (Cs.chg ci hwx (by simp)) (idc_len _)) hS0 ?_
        try simp only [Act.put, List.setIfInBounds_toArray, List.set_cons_succ, List.set_cons_zero]
        refine u_take0 (i := 6) (v := ?_) 25 rfl rfl (by kernel_rfl) (by kernel_rfl) (by kernel_rfl) (fun _ _ _ h => h) (by rfl) ?_ ?_
        case refine_2 => intro wx; go_simp; with_reducible rfl
        try simp only [Act.put, List.setIfInBounds_toArray, List.set_cons_succ, List.set_cons_zero]
        refine u_take0 (i := 7) (v := ?_) 26 rfl rfl (by kernel_rfl) (by kernel_rfl) (by kernel_rfl) (fun _ _ _ h => h) (by rfl) ?_ ?_
        case refine_2 => intro wx; go_simp; with_reducible rfl
        try simp only [Act.put, List.setIfInBounds_toArray, List.set_cons_succ, List.set_cons_zero]
        refine u_take0 (i := 8) (v := ?_) 27 rfl rfl (by kernel_rfl) (by kernel_rfl) (by kernel_rfl) (fun _ _ _ h => h) (by rfl) ?_ ?_
        case refine_2 => intro wx; go_simp; with_reducible rfl
        try simp only [Act.put, List.setIfInBounds_toArray, List.set_cons_succ, List.set_cons_zero]
        refine u_take0 (i := 9) (v := ?_) 28 rfl rfl (by kernel_rfl) (by kernel_rfl) (by kernel_rfl) (fun _ _ _ h => h) (by rfl) ?_ ?_
        case refine_2 => intro wx; go_simp; with_reducible rfl
        try simp only [Act.put, List.setIfInBounds_toArray, List.set_cons_succ, List.set_cons_zero]
        refine u_take (i := 10) (v := .agg (idc q.behind).toArray) 29 rfl rfl (by kernel_rfl) (by kernel_rfl) (by kernel_rfl) (by kernel_rfl) (fun _ _ _ h => h) (by rfl) (fun wx hwx => ex_loadAgg aggId rfl (Cs.chg cb hwx (by simp)) (idc_len _)) hS0 ?_
        try simp only [Act.put, List.setIfInBounds_toArray, List.set_cons_succ, List.set_cons_zero]
        -- 11: Op.call { callee := Callee.value (Operand.func 17), args := #[Operand.tmp 19, Op
        refine u_step (i := 11) rfl (by kernel_rfl) (fun K hK => ?_)
        go_simp
        go_wp2_with (fail)
        refine (insert_ok (hM1.sq.chg hS0 (by simp) (by simp)) q.id q.behind hlen hr0).mono ?_; rintro e W2 ⟨rfl, v', hS2, hst⟩
        refine hK _ _ (fun h => absurd h (by decide)) ?_
        clear hK
        try simp only [Act.put, List.setIfInBounds_toArray, List.set_cons_succ, List.set_cons_zero]
        -- 12: Op.binOp BinOp.neq 37 (Operand.tmp 30) (Operand.const (Value.int IntKind.i64 0))
        refine u_step (i := 12) rfl (by kernel_rfl) (fun K hK => ?_)
        go_simp
        refine hK _ _ (fun h => absurd h (by decide)) ?_
        clear hK
        try simp only [Act.put, List.setIfInBounds_toArray, List.set_cons_succ, List.set_cons_zero]
        refine u_done (by kernel_rfl) ?_ _
        rw [HD.out.out] at hS2
        have hM2 := (hM1.chg' hS0).step hS2 hst
        obtain ⟨hk1', hk2', hk3'⟩ := rank_ins HG.out HD.out
        have hrb := rank_rng xs q.behind
        have hrd := HD.out.rank
        obtain ⟨rb, hrbe⟩ : ∃ rb, rankOf xs q.behind = rb := ⟨_, rfl⟩
        rw [hrbe] at hk2' hrb hrd
        have hrb1 : -1 ≤ rb := hrb.1
        have hrb2 : rb ≤ 1048576 := by omega
        have hrr : r ≤ 1048576 := by have := HD.out.le; omega
        have hd0 : ((r : Int) != rb + 1) = false := by simp; omega
        have HK1 := Lib.hid hk1'
        have HK2 := Lib.hid hk2'
        have HK3 := Lib.hid hk3'
        have sW2 : Src W2 (.slice aoW (idsOf true xs).length cW) (idsOf true xs).length (flat idc (idsOf true xs)) := (sW0.chg hS0 (by simp)).chg hst.chg (fun g hg hm => by
          have h1 := (HO5.out.lt g hg).1
          rcases List.mem_cons.1 hm with e | hm
          · have := HM.out.sq.lt; omega
          · have := (HM.out.sq.own.lt g (by simpa using hm)).2; omega)
        have ci2 := (put_cells (cq0.chg hM2.chg (by simp))).1
        have cb2 := (put_cells (cq0.chg hM2.chg (by simp))).2.1
        clear hk1' hk2' hk3' hrb hrd hrbe hS2 hst ci cb hS0 sW0 hr0
        by_cases hz : q.behind = .zero
        · have hd2 : ((r : Int) != 0) = false := by simp; exact HK3.out hz
          have HZ := Lib.hid hz
          clear hz
          go_wp2_with (first
            | ((with_reducible show wpList _ _ _ (⟨some 37, _, _, _, _, _⟩ :: _) _ _); refine wpList_loadAgg aggId rfl ci2 (idc_len _) ?_)
            | (go_at_call 18; (with_reducible refine (rank_of hM2.sq q.id).mono ?_); rintro e W3 ⟨rfl, hc3⟩; rw [HK1.out]; have hM3 := hM2.chg' hc3; have cb3 := cb2.chg hc3 (by simp))
            | ((with_reducible show wpList _ _ _ (⟨some 45, _, _, _, _, _⟩ :: _) _ _); refine wpList_loadAgg aggId rfl cb3 (idc_len _) ?_)
            | (go_at_call 18; (with_reducible refine (rank_of hM3.sq q.behind).mono ?_); rintro e W4 ⟨rfl, hc4⟩; rw [HK2.out]; have hM4 := hM3.chg' hc4; have cb4 := cb3.chg hc4 (by simp))
            | ((with_reducible show wpList _ _ _ (⟨some 54, _, _, _, _, _⟩ :: _) _ _); refine wpList_valG (by rfl) (ex_loadAgg aggId rfl cb4 (idc_len _)) ?_)
            | ((with_reducible show wpList _ _ _ (⟨some 55, _, _, _, _, _⟩ :: _) _ _); refine wpList_valG (by rfl) ex_zeroId ?_)
            | ((with_reducible show wpList _ _ _ (⟨some 56, _, _, _, _, _⟩ :: _) _ _); refine wpList_valG (by rfl) (ex_eqId (r := true) rfl rfl (by simp [HZ.out])) ?_)
            | (go_at_call 14; refine (idsFn_of hM4.sq).mono ?_; rintro e W5 ⟨u7, rfl, hown7, hc5⟩; obtain ⟨aoN, cN, hu7, hcN, sN0⟩ := src_ids hown7; subst hu7; have hM5 := hM4.chg' hc5))
          have sW5 := ((sW2.chg hc3 (by simp)).chg hc4 (by simp)).chg hc5 (by simp)
          obtain ⟨N0, hN0⟩ : ∃ N0, idsOf true (insE xs r ⟨q.id, q.behind, true⟩) = N0 := ⟨_, rfl⟩
          obtain ⟨V0, hV0⟩ : ∃ V0, idsOf true xs = V0 := ⟨_, rfl⟩
          have hNe : N0 = V0.take r ++ q.id :: V0.drop r := by rw [← hN0, ← hV0]; exact ids_ins
          have hVl : V0.length = xs.length := by rw [← hV0, idsOf_true]; simp
          have hrV : r ≤ V0.length := by have := HD.out.le; omega
          have hNl : N0.length = V0.length + 1 := by rw [hNe]; simp; omega
          have sN := hN0 ▸ sN0
          have sW := hV0 ▸ sW5
          rw [hN0, hV0]
          rw [hN0] at hcN
          rw [hV0] at hcW
          have HE1 : Hid (decide (N0.take r = V0.take r) = true) := Lib.hid (by
            rw [decide_eq_true_eq, hNe, List.take_append_of_le_length (by simp; omega), List.take_take, Nat.min_self])
          have HE2 : Hid (decide (N0.drop (r + 1) = V0.drop r) = true) := Lib.hid (by
            rw [decide_eq_true_eq, hNe, List.drop_append, List.drop_eq_nil_of_le (by simp; omega), List.length_take, Nat.min_eq_left hrV, show r + 1 - r = 1 by omega]; rfl)
          have HL1 : Hid ((N0.take r).length = r) := Lib.hid (by simp; omega)
          have HL2 : Hid ((V0.take r).length = r) := Lib.hid (by simp; omega)
          have HL3 : Hid ((N0.drop (r + 1)).length = N0.length - (r + 1)) := Lib.hid (by simp)
          have HL4 : Hid ((V0.drop r).length = V0.length - r) := Lib.hid (by simp)
          have hrN : r ≤ N0.length := by omega
          have hrN1 : r + 1 ≤ N0.length := by omega
          have hd1 : ((N0.length : Int) != (V0.length : Int) + 1) = false := by simp; omega
          have hV3 : V0.length ≤ 1048576 := by omega
          have hN3 : N0.length ≤ 1048577 := by omega
          have HM5 := Lib.hid hM5
          clear hN0 hV0 hNe hVl hNl sN0 sW5 hM2 hM3 hM4 hM5 hown7 ci2 cb2 cb3 cb4 sW2
          have hw1 : IntKind.i64.wrap ((r : Int) + 1) = (r : Int) + 1 := by rw [IntKind.wrap_i64]; omega
          have hw2 : IntKind.i64.wrap ((V0.length : Int) + 1) = (V0.length : Int) + 1 := by rw [IntKind.wrap_i64]; omega
          have hS5 : Chg [] W5 W5.drew := (Chg.refl [] W5).drew
          refine wp_region_U (fun wx => Chg [] W5 wx) [] (by kernel_rfl) ?_
          refine u_take0 (i := 0) (v := ?_) 64 rfl rfl (by kernel_rfl) (by kernel_rfl) (by kernel_rfl) (fun _ _ _ h => h) (by rfl) ?_ ?_
          case refine_2 => intro wx; go_simp; with_reducible rfl
          try simp only [Act.put, List.setIfInBounds_toArray, List.set_cons_succ, List.set_cons_zero]
          refine u_take0 (i := 1) (v := ?_) 65 rfl rfl (by kernel_rfl) (by kernel_rfl) (by kernel_rfl) (fun _ _ _ h => h) (by rfl) ?_ ?_
          case refine_2 => intro wx; go_simp; with_reducible rfl
          try simp only [Act.put, List.setIfInBounds_toArray, List.set_cons_succ, List.set_cons_zero]
          refine u_take0 (i := 2) (v := ?_) 66 rfl rfl (by kernel_rfl) (by kernel_rfl) (by kernel_rfl) (fun _ _ _ h => h) (by rfl) ?_ ?_
          case refine_2 => intro wx; go_simp; with_reducible rfl
          try simp only [Act.put, List.setIfInBounds_toArray, List.set_cons_succ, List.set_cons_zero]
          refine u_take0 (i := 3) (v := ?_) 67 rfl rfl (by kernel_rfl) (by kernel_rfl) (by kernel_rfl) (fun _ _ _ h => h) (by rfl) ?_ ?_
          case refine_2 => intro wx; go_simp; with_reducible rfl
          try simp only [Act.put, List.setIfInBounds_toArray, List.set_cons_succ, List.set_cons_zero]
          refine u_take0 (i := 4) (v := ?_) 68 rfl rfl (by kernel_rfl) (by kernel_rfl) (by kernel_rfl) (fun _ _ _ h => h) (by rfl) ?_ ?_
          case refine_2 => intro wx; go_simp; with_reducible rfl
          try simp only [Act.put, List.setIfInBounds_toArray, List.set_cons_succ, List.set_cons_zero]
          refine u_take0 (i := 5) (v := ?_) 69 rfl rfl (by kernel_rfl) (by kernel_rfl) (by kernel_rfl) (fun _ _ _ h => h) (by rfl) ?_ ?_
          case refine_2 => intro wx; go_simp; with_reducible rfl
          try simp only [Act.put, List.setIfInBounds_toArray, List.set_cons_succ, List.set_cons_zero]
          refine u_take0 (i := 6) (v := ?_) 70 rfl rfl (by kernel_rfl) (by kernel_rfl) (by kernel_rfl) (fun _ _ _ h => h) (by rfl) ?_ ?_
          case refine_2 => intro wx; go_simp; with_reducible rfl
          try simp only [Act.put, List.setIfInBounds_toArray, List.set_cons_succ, List.set_cons_zero]
          refine u_take0 (i := 7) (v := ?_) 71 rfl rfl (by kernel_rfl) (by kernel_rfl) (by kernel_rfl) (fun _ _ _ h => h) (by rfl) ?_ ?_
          case refine_2 => intro wx; go_simp; with_reducible rfl
          try simp only [Act.put, List.setIfInBounds_toArray, List.set_cons_succ, List.set_cons_zero]
          refine u_take0 (i := 8) (v := ?_) 72 rfl rfl (by kernel_rfl) (by kernel_rfl) (by kernel_rfl) (fun _ _ _ h => h) (by rfl) ?_ ?_
          case refine_2 => intro wx; go_simp; with_reducible rfl
          try simp only [Act.put, List.setIfInBounds_toArray, List.set_cons_succ, List.set_cons_zero]
          refine u_take (i := 9) (v := .slice aoN r cN) 73 rfl rfl (by kernel_rfl) (by kernel_rfl) (by kernel_rfl) (by kernel_rfl) (fun _ _ _ h => h) (by rfl) (fun wx hwx => ex_sliceTo Try.underlying28 aggId.size rfl rfl rfl (by omega)) hS5 ?_
          try simp only [Act.put, List.setIfInBounds_toArray, List.set_cons_succ, List.set_cons_zero]
          refine u_take0 (i := 10) (v := ?_) 74 rfl rfl (by kernel_rfl) (by kernel_rfl) (by kernel_rfl) (fun _ _ _ h => h) (by rfl) ?_ ?_
          case refine_2 => intro wx; go_simp; with_reducible rfl
          try simp only [Act.put, List.setIfInBounds_toArray, List.set_cons_succ, List.set_cons_zero]
          refine u_take0 (i := 11) (v := ?_) 75 rfl rfl (by kernel_rfl) (by kernel_rfl) (by kernel_rfl) (fun _ _ _ h => h) (by rfl) ?_ ?_
          case refine_2 => intro wx; go_simp; with_reducible rfl
          try simp only [Act.put, List.setIfInBounds_toArray, List.set_cons_succ, List.set_cons_zero]
          refine u_take (i := 12) (v := .slice aoW r cW) 76 rfl rfl (by kernel_rfl) (by kernel_rfl) (by kernel_rfl) (by kernel_rfl) (fun _ _ _ h => h) (by rfl) (fun wx hwx => ex_sliceTo Try.underlying28 aggId.size rfl rfl rfl (by omega)) hS5 ?_
          try simp only [Act.put, List.setIfInBounds_toArray, List.set_cons_succ, List.set_cons_zero]
          -- 13: Op.call { callee := Callee.value (Operand.func 13), args := #[Operand.tmp 73, Op
          refine u_step (i := 13) rfl (by kernel_rfl) (fun K hK => ?_)
          go_simp
          go_wp2_with (fail)
          refine (same_at HL1.out HL2.out (src_to idc_len (sN.chg hS5 (by simp)) hrN) (src_to idc_len (sW.chg hS5 (by simp)) hrV) (by omega) HE1.out).mono ?_; rintro e W6 ⟨rfl, hc6⟩; have hS6 := hS5.trans hc6
          refine hK _ _ (fun _ _ => hS6) ?_
          clear hK
          try simp only [Act.put, List.setIfInBounds_toArray, List.set_cons_succ, List.set_cons_zero]
          refine u_take0 (i := 14) (v := ?_) 78 rfl rfl (by kernel_rfl) (by kernel_rfl) (by kernel_rfl) (fun _ _ _ h => h) (by rfl) ?_ ?_
          case refine_2 => intro wx; go_simp; with_reducible rfl
          try simp only [Act.put, List.setIfInBounds_toArray, List.set_cons_succ, List.set_cons_zero]
          refine u_take0 (i := 15) (v := ?_) 79 rfl rfl (by kernel_rfl) (by kernel_rfl) (by kernel_rfl) (fun _ _ _ h => h) (by rfl) ?_ ?_
          case refine_2 => intro wx; go_simp; with_reducible rfl
          try simp only [Act.put, List.setIfInBounds_toArray, List.set_cons_succ, List.set_cons_zero]
          refine u_take0 (i := 16) (v := ?_) 80 rfl rfl (by kernel_rfl) (by kernel_rfl) (by kernel_rfl) (fun _ _ _ h => h) (by rfl) ?_ ?_
          case refine_2 => intro wx; go_simp; with_reducible rfl
          try simp only [Act.put, List.setIfInBounds_toArray, List.set_cons_succ, List.set_cons_zero]
          refine u_take0 (i := 17) (v := ?_) 81 rfl rfl (by kernel_rfl) (by kernel_rfl) (by kernel_rfl) (fun _ _ _ h => h) (by rfl) ?_ ?_
          case refine_2 => intro wx; go_simp; with_reducible rfl
          try simp only [Act.put, List.setIfInBounds_toArray, List.set_cons_succ, List.set_cons_zero]
          refine u_take0 (i := 18) (v := ?_) 82 rfl rfl (by kernel_rfl) (by kernel_rfl) (by kernel_rfl) (fun _ _ _ h => h) (by rfl) ?_ ?_
          case refine_2 => intro wx; go_simp; with_reducible rfl
          try simp only [Act.put, List.setIfInBounds_toArray, List.set_cons_succ, List.set_cons_zero]
          refine u_take0 (i := 19) (v := ?_) 83 rfl rfl (by kernel_rfl) (by kernel_rfl) (by kernel_rfl) (fun _ _ _ h => h) (by rfl) ?_ ?_
          case refine_2 => intro wx; go_simp; with_reducible rfl
          try simp only [Act.put, List.setIfInBounds_toArray, List.set_cons_succ, List.set_cons_zero]
          refine u_take (i := 20) (v := .slice (subB aoN cN (r + 1) 33) (N0.length - (r + 1)) (cN - (r + 1))) 84 rfl rfl (by kernel_rfl) (by kernel_rfl) (by kernel_rfl) (by kernel_rfl) (fun _ _ _ h => h) (by rfl) (fun wx hwx => ex_sliceFrom Try.underlying28 aggId.size rfl rfl (by omega) hrN1) hS6 ?_
          try simp only [Act.put, List.setIfInBounds_toArray, List.set_cons_succ, List.set_cons_zero]
          refine u_take0 (i := 21) (v := ?_) 85 rfl rfl (by kernel_rfl) (by kernel_rfl) (by kernel_rfl) (fun _ _ _ h => h) (by rfl) ?_ ?_
          case refine_2 => intro wx; go_simp; with_reducible rfl
          try simp only [Act.put, List.setIfInBounds_toArray, List.set_cons_succ, List.set_cons_zero]
          refine u_take0 (i := 22) (v := ?_) 86 rfl rfl (by kernel_rfl) (by kernel_rfl) (by kernel_rfl) (fun _ _ _ h => h) (by rfl) ?_ ?_
          case refine_2 => intro wx; go_simp; with_reducible rfl
          try simp only [Act.put, List.setIfInBounds_toArray, List.set_cons_succ, List.set_cons_zero]
          refine u_take (i := 23) (v := .slice (subB aoW cW r 33) (V0.length - r) (cW - r)) 87 rfl rfl (by kernel_rfl) (by kernel_rfl) (by kernel_rfl) (by kernel_rfl) (fun _ _ _ h => h) (by rfl) (fun wx hwx => ex_sliceFrom Try.underlying28 aggId.size rfl rfl rfl hrV) hS6 ?_
          try simp only [Act.put, List.setIfInBounds_toArray, List.set_cons_succ, List.set_cons_zero]
          -- 24: Op.call { callee := Callee.value (Operand.func 13), args := #[Operand.tmp 84, Op
          refine u_step (i := 24) rfl (by kernel_rfl) (fun K hK => ?_)
          go_simp
          go_wp2_with (fail)
          refine (same_at HL3.out HL4.out (src_from idc_len (sN.chg hS6 (by simp)) rfl hrN1 hcN) (src_from idc_len (sW.chg hS6 (by simp)) rfl hrV hcW) (by omega) HE2.out).mono ?_; rintro e W7 ⟨rfl, hc7⟩; have hS7 := hS6.trans hc7
          refine hK _ _ (fun _ _ => hS7) ?_
          clear hK
          try simp only [Act.put, List.setIfInBounds_toArray, List.set_cons_succ, List.set_cons_zero]
          refine u_take0 (i := 25) (v := ?_) 89 rfl rfl (by kernel_rfl) (by kernel_rfl) (by kernel_rfl) (fun _ _ _ h => h) (by rfl) ?_ ?_
          case refine_2 => intro wx; go_simp; with_reducible rfl
          try simp only [Act.put, List.setIfInBounds_toArray, List.set_cons_succ, List.set_cons_zero]
          refine u_take0 (i := 26) (v := ?_) 90 rfl rfl (by kernel_rfl) (by kernel_rfl) (by kernel_rfl) (fun _ _ _ h => h) (by rfl) ?_ ?_
          case refine_2 => intro wx; go_simp; with_reducible rfl
          try simp only [Act.put, List.setIfInBounds_toArray, List.set_cons_succ, List.set_cons_zero]
          refine u_done (by kernel_rfl) ?_ _
          clear hw1 hw2
          go_wp2
          go_roundw
          case rel => exact ⟨k + 1, by omega, by go_num, v', by rw [HLn.out, HST.out]; exact HM5.out.chg' hS7⟩
          case measure => simp [intOf]; omega
        · have HZ := Lib.hid hz
          clear hz
          go_wp2_with (first
            | ((with_reducible show wpList _ _ _ (⟨some 37, _, _, _, _, _⟩ :: _) _ _); refine wpList_loadAgg aggId rfl ci2 (idc_len _) ?_)
            | (go_at_call 18; (with_reducible refine (rank_of hM2.sq q.id).mono ?_); rintro e W3 ⟨rfl, hc3⟩; rw [HK1.out]; have hM3 := hM2.chg' hc3; have cb3 := cb2.chg hc3 (by simp))
            | ((with_reducible show wpList _ _ _ (⟨some 45, _, _, _, _, _⟩ :: _) _ _); refine wpList_loadAgg aggId rfl cb3 (idc_len _) ?_)
            | (go_at_call 18; (with_reducible refine (rank_of hM3.sq q.behind).mono ?_); rintro e W4 ⟨rfl, hc4⟩; rw [HK2.out]; have hM4 := hM3.chg' hc4; have cb4 := cb3.chg hc4 (by simp))
            | ((with_reducible show wpList _ _ _ (⟨some 54, _, _, _, _, _⟩ :: _) _ _); refine wpList_valG (by rfl) (ex_loadAgg aggId rfl cb4 (idc_len _)) ?_)
            | ((with_reducible show wpList _ _ _ (⟨some 55, _, _, _, _, _⟩ :: _) _ _); refine wpList_valG (by rfl) ex_zeroId ?_)
            | ((with_reducible show wpList _ _ _ (⟨some 56, _, _, _, _, _⟩ :: _) _ _); refine wpList_valG (by rfl) (ex_eqId (r := false) rfl rfl (by simp [HZ.out])) ?_)
            | (go_at_call 14; refine (idsFn_of hM4.sq).mono ?_; rintro e W5 ⟨u7, rfl, hown7, hc5⟩; obtain ⟨aoN, cN, hu7, hcN, sN0⟩ := src_ids hown7; subst hu7; have hM5 := hM4.chg' hc5))
          have sW5 := ((sW2.chg hc3 (by simp)).chg hc4 (by simp)).chg hc5 (by simp)
          obtain ⟨N0, hN0⟩ : ∃ N0, idsOf true (insE xs r ⟨q.id, q.behind, true⟩) = N0 := ⟨_, rfl⟩
          obtain ⟨V0, hV0⟩ : ∃ V0, idsOf true xs = V0 := ⟨_, rfl⟩
          have hNe : N0 = V0.take r ++ q.id :: V0.drop r := by rw [← hN0, ← hV0]; exact ids_ins
          have hVl : V0.length = xs.length := by rw [← hV0, idsOf_true]; simp
          have hrV : r ≤ V0.length := by have := HD.out.le; omega
          have hNl : N0.length = V0.length + 1 := by rw [hNe]; simp; omega
          have sN := hN0 ▸ sN0
          have sW := hV0 ▸ sW5
          rw [hN0, hV0]
          rw [hN0] at hcN
          rw [hV0] at hcW
          have HE1 : Hid (decide (N0.take r = V0.take r) = true) := Lib.hid (by
            rw [decide_eq_true_eq, hNe, List.take_append_of_le_length (by simp; omega), List.take_take, Nat.min_self])
          have HE2 : Hid (decide (N0.drop (r + 1) = V0.drop r) = true) := Lib.hid (by
            rw [decide_eq_true_eq, hNe, List.drop_append, List.drop_eq_nil_of_le (by simp; omega), List.length_take, Nat.min_eq_left hrV, show r + 1 - r = 1 by omega]; rfl)
          have HL1 : Hid ((N0.take r).length = r) := Lib.hid (by simp; omega)
          have HL2 : Hid ((V0.take r).length = r) := Lib.hid (by simp; omega)
          have HL3 : Hid ((N0.drop (r + 1)).length = N0.length - (r + 1)) := Lib.hid (by simp)
          have HL4 : Hid ((V0.drop r).length = V0.length - r) := Lib.hid (by simp)
          have hrN : r ≤ N0.length := by omega
          have hrN1 : r + 1 ≤ N0.length := by omega
          have hd1 : ((N0.length : Int) != (V0.length : Int) + 1) = false := by simp; omega
          have hV3 : V0.length ≤ 1048576 := by omega
          have hN3 : N0.length ≤ 1048577 := by omega
          have HM5 := Lib.hid hM5
          clear hN0 hV0 hNe hVl hNl sN0 sW5 hM2 hM3 hM4 hM5 hown7 ci2 cb2 cb3 cb4 sW2
          have hw1 : IntKind.i64.wrap ((r : Int) + 1) = (r : Int) + 1 := by rw [IntKind.wrap_i64]; omega
          have hw2 : IntKind.i64.wrap ((V0.length : Int) + 1) = (V0.length : Int) + 1 := by rw [IntKind.wrap_i64]; omega
          have hS5 : Chg [] W5 W5.drew := (Chg.refl [] W5).drew
          refine wp_region_U (fun wx => Chg [] W5 wx) [] (by kernel_rfl) ?_
          refine u_take0 (i := 0) (v := ?_) 64 rfl rfl (by kernel_rfl) (by kernel_rfl) (by kernel_rfl) (fun _ _ _ h => h) (by rfl) ?_ ?_
          case refine_2 => intro wx; go_simp; with_reducible rfl
          try simp only [Act.put, List.setIfInBounds_toArray, List.set_cons_succ, List.set_cons_zero]
          refine u_take0 (i := 1) (v := ?_) 65 rfl rfl (by kernel_rfl) (by kernel_rfl) (by kernel_rfl) (fun _ _ _ h => h) (by rfl) ?_ ?_
          case refine_2 => intro wx; go_simp; with_reducible rfl
          try simp only [Act.put, List.setIfInBounds_toArray, List.set_cons_succ, List.set_cons_zero]
          refine u_take0 (i := 2) (v := ?_) 66 rfl rfl (by kernel_rfl) (by kernel_rfl) (by kernel_rfl) (fun _ _ _ h => h) (by rfl) ?_ ?_
          case refine_2 => intro wx; go_simp; with_reducible rfl
          try simp only [Act.put, List.setIfInBounds_toArray, List.set_cons_succ, List.set_cons_zero]
          refine u_take0 (i := 3) (v := ?_) 67 rfl rfl (by kernel_rfl) (by kernel_rfl) (by kernel_rfl) (fun _ _ _ h => h) (by rfl) ?_ ?_
          case refine_2 => intro wx; go_simp; with_reducible rfl
          try simp only [Act.put, List.setIfInBounds_toArray, List.set_cons_succ, List.set_cons_zero]
          refine u_take0 (i := 4) (v := ?_) 68 rfl rfl (by kernel_rfl) (by kernel_rfl) (by kernel_rfl) (fun _ _ _ h => h) (by rfl) ?_ ?_
          case refine_2 => intro wx; go_simp; with_reducible rfl
          try simp only [Act.put, List.setIfInBounds_toArray, List.set_cons_succ, List.set_cons_zero]
          refine u_take0 (i := 5) (v := ?_) 69 rfl rfl (by kernel_rfl) (by kernel_rfl) (by kernel_rfl) (fun _ _ _ h => h) (by rfl) ?_ ?_
          case refine_2 => intro wx; go_simp; with_reducible rfl
          try simp only [Act.put, List.setIfInBounds_toArray, List.set_cons_succ, List.set_cons_zero]
          refine u_take0 (i := 6) (v := ?_) 70 rfl rfl (by kernel_rfl) (by kernel_rfl) (by kernel_rfl) (fun _ _ _ h => h) (by rfl) ?_ ?_
          case refine_2 => intro wx; go_simp; with_reducible rfl
          try simp only [Act.put, List.setIfInBounds_toArray, List.set_cons_succ, List.set_cons_zero]
          refine u_take0 (i := 7) (v := ?_) 71 rfl rfl (by kernel_rfl) (by kernel_rfl) (by kernel_rfl) (fun _ _ _ h => h) (by rfl) ?_ ?_
          case refine_2 => intro wx; go_simp; with_reducible rfl
          try simp only [Act.put, List.setIfInBounds_toArray, List.set_cons_succ, List.set_cons_zero]
          refine u_take0 (i := 8) (v := ?_) 72 rfl rfl (by kernel_rfl) (by kernel_rfl) (by kernel_rfl) (fun _ _ _ h => h) (by rfl) ?_ ?_
          case refine_2 => intro wx; go_simp; with_reducible rfl
          try simp only [Act.put, List.setIfInBounds_toArray, List.set_cons_succ, List.set_cons_zero]
          refine u_take (i := 9) (v := .slice aoN r cN) 73 rfl rfl (by kernel_rfl) (by kernel_rfl) (by kernel_rfl) (by kernel_rfl) (fun _ _ _ h => h) (by rfl) (fun wx hwx => ex_sliceTo Try.underlying28 aggId.size rfl rfl rfl (by omega)) hS5 ?_
          try simp only [Act.put, List.setIfInBounds_toArray, List.set_cons_succ, List.set_cons_zero]
          refine u_take0 (i := 10) (v := ?_) 74 rfl rfl (by kernel_rfl) (by kernel_rfl) (by kernel_rfl) (fun _ _ _ h => h) (by rfl) ?_ ?_
          case refine_2 => intro wx; go_simp; with_reducible rfl
          try simp only [Act.put, List.setIfInBounds_toArray, List.set_cons_succ, List.set_cons_zero]
          refine u_take0 (i := 11) (v := ?_) 75 rfl rfl (by kernel_rfl) (by kernel_rfl) (by kernel_rfl) (fun _ _ _ h => h) (by rfl) ?_ ?_
          case refine_2 => intro wx; go_simp; with_reducible rfl
          try simp only [Act.put, List.setIfInBounds_toArray, List.set_cons_succ, List.set_cons_zero]
          refine u_take (i := 12) (v := .slice aoW r cW) 76 rfl rfl (by kernel_rfl) (by kernel_rfl) (by kernel_rfl) (by kernel_rfl) (fun _ _ _ h => h) (by rfl) (fun wx hwx => ex_sliceTo Try.underlying28 aggId.size rfl rfl rfl (by omega)) hS5 ?_
          try simp only [Act.put, List.setIfInBounds_toArray, List.set_cons_succ, List.set_cons_zero]
          -- 13: Op.call { callee := Callee.value (Operand.func 13), args := #[Operand.tmp 73, Op
          refine u_step (i := 13) rfl (by kernel_rfl) (fun K hK => ?_)
          go_simp
          go_wp2_with (fail)
          refine (same_at HL1.out HL2.out (src_to idc_len (sN.chg hS5 (by simp)) hrN) (src_to idc_len (sW.chg hS5 (by simp)) hrV) (by omega) HE1.out).mono ?_; rintro e W6 ⟨rfl, hc6⟩; have hS6 := hS5.trans hc6
          refine hK _ _ (fun _ _ => hS6) ?_
          clear hK
          try simp only [Act.put, List.setIfInBounds_toArray, List.set_cons_succ, List.set_cons_zero]
          refine u_take0 (i := 14) (v := ?_) 78 rfl rfl (by kernel_rfl) (by kernel_rfl) (by kernel_rfl) (fun _ _ _ h => h) (by rfl) ?_ ?_
          case refine_2 => intro wx; go_simp; with_reducible rfl
          try simp only [Act.put, List.setIfInBounds_toArray, List.set_cons_succ, List.set_cons_zero]
          refine u_take0 (i := 15) (v := ?_) 79 rfl rfl (by kernel_rfl) (by kernel_rfl) (by kernel_rfl) (fun _ _ _ h => h) (by rfl) ?_ ?_
          case refine_2 => intro wx; go_simp; with_reducible rfl
          try simp only [Act.put, List.setIfInBounds_toArray, List.set_cons_succ, List.set_cons_zero]
          refine u_take0 (i := 16) (v := ?_) 80 rfl rfl (by kernel_rfl) (by kernel_rfl) (by kernel_rfl) (fun _ _ _ h => h) (by rfl) ?_ ?_
          case refine_2 => intro wx; go_simp; with_reducible rfl
          try simp only [Act.put, List.setIfInBounds_toArray, List.set_cons_succ, List.set_cons_zero]
          refine u_take0 (i := 17) (v := ?_) 81 rfl rfl (by kernel_rfl) (by kernel_rfl) (by kernel_rfl) (fun _ _ _ h => h) (by rfl) ?_ ?_
          case refine_2 => intro wx; go_simp; with_reducible rfl
          try simp only [Act.put, List.setIfInBounds_toArray, List.set_cons_succ, List.set_cons_zero]
          refine u_take0 (i := 18) (v := ?_) 82 rfl rfl (by kernel_rfl) (by kernel_rfl) (by kernel_rfl) (fun _ _ _ h => h) (by rfl) ?_ ?_
          case refine_2 => intro wx; go_simp; with_reducible rfl
          try simp only [Act.put, List.setIfInBounds_toArray, List.set_cons_succ, List.set_cons_zero]
          refine u_take0 (i := 19) (v := ?_) 83 rfl rfl (by kernel_rfl) (by kernel_rfl) (by kernel_rfl) (fun _ _ _ h => h) (by rfl) ?_ ?_
          case refine_2 => intro wx; go_simp; with_reducible rfl
          try simp only [Act.put, List.setIfInBounds_toArray, List.set_cons_succ, List.set_cons_zero]
          refine u_take (i := 20) (v := .slice (subB aoN cN (r + 1) 33) (N0.length - (r + 1)) (cN - (r + 1))) 84 rfl rfl (by kernel_rfl) (by kernel_rfl) (by kernel_rfl) (by kernel_rfl) (fun _ _ _ h => h) (by rfl) (fun wx hwx => ex_sliceFrom Try.underlying28 aggId.size rfl rfl (by omega) hrN1) hS6 ?_
          try simp only [Act.put, List.setIfInBounds_toArray, List.set_cons_succ, List.set_cons_zero]
          refine u_take0 (i := 21) (v := ?_) 85 rfl rfl (by kernel_rfl) (by kernel_rfl) (by kernel_rfl) (fun _ _ _ h => h) (by rfl) ?_ ?_
          case refine_2 => intro wx; go_simp; with_reducible rfl
          try simp only [Act.put, List.setIfInBounds_toArray, List.set_cons_succ, List.set_cons_zero]
          refine u_take0 (i := 22) (v := ?_) 86 rfl rfl (by kernel_rfl) (by kernel_rfl) (by kernel_rfl) (fun _ _ _ h => h) (by rfl) ?_ ?_
          case refine_2 => intro wx; go_simp; with_reducible rfl
          try simp only [Act.put, List.setIfInBounds_toArray, List.set_cons_succ, List.set_cons_zero]
          refine u_take (i := 23) (v := .slice (subB aoW cW r 33) (V0.length - r) (cW - r)) 87 rfl rfl (by kernel_rfl) (by kernel_rfl) (by kernel_rfl) (by kernel_rfl) (fun _ _ _ h => h) (by rfl) (fun wx hwx => ex_sliceFrom Try.underlying28 aggId.size rfl rfl rfl hrV) hS6 ?_
          try simp only [Act.put, List.setIfInBounds_toArray, List.set_cons_succ, List.set_cons_zero]
          -- 24: Op.call { callee := Callee.value (Operand.func 13), args := #[Operand.tmp 84, Op
          refine u_step (i := 24) rfl (by kernel_rfl) (fun K hK => ?_)
          go_simp
          go_wp2_with (fail)
          refine (same_at HL3.out HL4.out (src_from idc_len (sN.chg hS6 (by simp)) rfl hrN1 hcN) (src_from idc_len (sW.chg hS6 (by simp)) rfl hrV hcW) (by omega) HE2.out).mono ?_; rintro e W7 ⟨rfl, hc7⟩; have hS7 := hS6.trans hc7
          refine hK _ _ (fun _ _ => hS7) ?_
          clear hK
          try simp only [Act.put, List.setIfInBounds_toArray, List.set_cons_succ, List.set_cons_zero]
          refine u_take0 (i := 25) (v := ?_) 89 rfl rfl (by kernel_rfl) (by kernel_rfl) (by kernel_rfl) (fun _ _ _ h => h) (by rfl) ?_ ?_
          case refine_2 => intro wx; go_simp; with_reducible rfl
          try simp only [Act.put, List.setIfInBounds_toArray, List.set_cons_succ, List.set_cons_zero]
          refine u_take0 (i := 26) (v := ?_) 90 rfl rfl (by kernel_rfl) (by kernel_rfl) (by kernel_rfl) (fun _ _ _ h => h) (by rfl) ?_ ?_
          case refine_2 => intro wx; go_simp; with_reducible rfl
          try simp only [Act.put, List.setIfInBounds_toArray, List.set_cons_succ, List.set_cons_zero]
          refine u_done (by kernel_rfl) ?_ _
          clear hw1 hw2
          go_wp2
          go_roundw
          case rel => exact ⟨k + 1, by omega, by go_num, v', by rw [HLn.out, HST.out]; exact HM5.out.chg' hS7⟩
          case measure => simp [intOf]; omega
      · have hst0 : layStep (xs, dn) q = (xs, dn) := by unfold layStep; rw [if_neg hr0]
        have HST := Lib.hid hst0
        clear hst0
        refine wp_region_U (fun wx => Chg [] W1 wx) [11, 12] (by kernel_rfl) ?_
        refine u_take0 (i := 0) (v := ?_) 19 rfl rfl (by kernel_rfl) (by kernel_rfl) (by kernel_rfl) (fun _ _ _ h => h) (by rfl) ?_ ?_
        case refine_2 => intro wx; go_simp; with_reducible rfl
        try simp only [Act.put, List.setIfInBounds_toArray, List.set_cons_succ, List.set_cons_zero]
        refine u_take0 (i := 1) (v := ?_) 20 rfl rfl (by kernel_rfl) (by kernel_rfl) (by kernel_rfl) (fun _ _ _ h => h) (by rfl) ?_ ?_
        case refine_2 => intro wx; go_simp; with_reducible rfl
        try simp only [Act.put, List.setIfInBounds_toArray, List.set_cons_succ, List.set_cons_zero]
        refine u_take0 (i := 2) (v := ?_) 21 rfl rfl (by kernel_rfl) (by kernel_rfl) (by kernel_rfl) (fun _ _ _ h => h) (by rfl) ?_ ?_
        case refine_2 => intro wx; go_simp; with_reducible rfl
        try simp only [Act.put, List.setIfInBounds_toArray, List.set_cons_succ, List.set_cons_zero]
        refine u_take0 (i := 3) (v := ?_) 22 rfl rfl (by kernel_rfl) (by kernel_rfl) (by kernel_rfl) (fun _ _ _ h => h) (by rfl) ?_ ?_
        case refine_2 => intro wx; go_simp; with_reducible rfl
        try simp only [Act.put, List.setIfInBounds_toArray, List.set_cons_succ, List.set_cons_zero]
        refine u_take0 (i := 4) (v := ?_) 23 rfl rfl (by kernel_rfl) (by kernel_rfl) (by kernel_rfl) (fun _ _ _ h => h) (by rfl) ?_ ?_
        case refine_2 => intro wx; go_simp; with_reducible rfl
        try simp only [Act.put, List.setIfInBounds_toArray, List.set_cons_succ, List.set_cons_zero]
        refine u_take (i := 5) (v := .agg (idc q.id).toArray) 24 rfl rfl (by kernel_rfl) (by kernel_rfl) (by kernel_rfl) (by kernel_rfl) (fun _ _ _ h => h) (by rfl) (fun wx hwx => ex_loadAgg aggId rfl (Cs.chg ci hwx (by simp)) (idc_len _)) hS0 ?_
        try simp only [Act.put, List.setIfInBounds_toArray, List.set_cons_succ, List.set_cons_zero]
        refine u_take0 (i := 6) (v := ?_) 25 rfl rfl (by kernel_rfl) (by kernel_rfl) (by kernel_rfl) (fun _ _ _ h => h) (by rfl) ?_ ?_
        case refine_2 => intro wx; go_simp; with_reducible rfl
        try simp only [Act.put, List.setIfInBounds_toArray, List.set_cons_succ, List.set_cons_zero]
        refine u_take0 (i := 7) (v := ?_) 26 rfl rfl (by kernel_rfl) (by kernel_rfl) (by kernel_rfl) (fun _ _ _ h => h) (by rfl) ?_ ?_
        case refine_2 => intro wx; go_simp; with_reducible rfl
        try simp only [Act.put, List.setIfInBounds_toArray, List.set_cons_succ, List.set_cons_zero]
        refine u_take0 (i := 8) (v := ?_) 27 rfl rfl (by kernel_rfl) (by kernel_rfl) (by kernel_rfl) (fun _ _ _ h => h) (by rfl) ?_ ?_
        case refine_2 => intro wx; go_simp; with_reducible rfl
        try simp only [Act.put, List.setIfInBounds_toArray, List.set_cons_succ, List.set_cons_zero]
        refine u_take0 (i := 9) (v := ?_) 28 rfl rfl (by kernel_rfl) (by kernel_rfl) (by kernel_rfl) (fun _ _ _ h => h) (by rfl) ?_ ?_
        case refine_2 => intro wx; go_simp; with_reducible rfl
        try simp only [Act.put, List.setIfInBounds_toArray, List.set_cons_succ, List.set_cons_zero]
        refine u_take (i := 10) (v := .agg (idc q.behind).toArray) 29 rfl rfl (by kernel_rfl) (by kernel_rfl) (by kernel_rfl) (by kernel_rfl) (fun _ _ _ h => h) (by rfl) (fun wx hwx => ex_loadAgg aggId rfl (Cs.chg cb hwx (by simp)) (idc_len _)) hS0 ?_
        try simp only [Act.put, List.setIfInBounds_toArray, List.set_cons_succ, List.set_cons_zero]
        -- 11: Op.call { callee := Callee.value (Operand.func 17), args := #[Operand.tmp 19, Op
        refine u_step (i := 11) rfl (by kernel_rfl) (fun K hK => ?_)
        go_simp
        go_wp2_with (fail)
        refine (insert_bad (hM1.sq.chg hS0 (by simp) (by simp)) q.id q.behind hlen hr0).mono ?_; rintro e W2 ⟨rr, rfl, hrr, v', hS2, hst⟩
        refine hK _ _ (fun h => absurd h (by decide)) ?_
        clear hK
        try simp only [Act.put, List.setIfInBounds_toArray, List.set_cons_succ, List.set_cons_zero]
        -- 12: Op.binOp BinOp.neq 37 (Operand.tmp 30) (Operand.const (Value.int IntKind.i64 0))
        refine u_step (i := 12) rfl (by kernel_rfl) (fun K hK => ?_)
        go_simp
        refine hK _ _ (fun h => absurd h (by decide)) ?_
        clear hK
        try simp only [Act.put, List.setIfInBounds_toArray, List.set_cons_succ, List.set_cons_zero]
        refine u_done (by kernel_rfl) ?_ _
        have hM2 := (hM1.chg' hS0).step hS2 hst
        have HM2 := Lib.hid hM2
        clear hM2 hS2
        go_wp2
        go_roundw
        case rel => exact ⟨k + 1, by omega, by go_num, v', by rw [HLn.out, HST.out]; exact HM2.out⟩
        case measure => simp [intOf]; omega
    · obtain rfl : k = l.length := by omega
      rw [List.take_length] at hM
      have hC := lay_inv l
      have hn1 := hC.n1
      have HN := Lib.hid hn1
      clear hn1 hC
      go_wp2_with (first
        | (go_at_call 19; refine (len_of hM.sq).mono ?_; rintro e W1 ⟨rfl, hcL⟩)
        | (go_at_call 12; refine (could_of (hx.chg (hM.chg.trans hcL) (by simp)) ll).mono ?_; rintro e W2 ⟨rfl, hcC⟩; rw [HN.out]))
      go_ret
      exact ⟨by simp, (hM.chg.trans hcL).trans hcC⟩
end Go.Proofs.Ytefkmdejcdhnjaa.S
