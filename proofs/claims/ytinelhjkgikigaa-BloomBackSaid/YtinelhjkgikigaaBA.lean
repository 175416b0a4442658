/- Bloom: the filter in memory; New, Bits, Probes, Spots, Add, Has. -/
import Derived.Test.YtinelhjkgikigaaKB
import Derived.Test.YtinelhjkgikigaaRows
import Derived.Deep.QuietTactic
import Derived.BigQuiet
import Derived.StillTailTactics
namespace Go.Proofs.Ytinelhjkgikigaa.B
open Go Go.RowKit Go.Proofs.Ytinelhjkgikigaa.K

def byteOk (x : Int) : Prop := 0 ≤ x ∧ x < 256

structure Fil (w : World) (b g p : Nat) (bs : List Int) : Prop where
  ne : b ≠ g
  p1 : 1 ≤ p
  p2 : p ≤ 16
  n1 : 1 ≤ bs.length
  n2 : bs.length ≤ 8192
  ok : ∀ x ∈ bs, byteOk x
  mem : ∃ c cur, w.heap[b]? = some (.cells #[.int .i64 p, .slice (some ⟨g, 0, none⟩) bs.length c] 91 (0, 0)) ∧ w.heap[g]? = some (.cells cur 5 (0, 0)) ∧ cur.size = c ∧ bs.length ≤ c ∧ c ≤ maxLen ∧ cur.toList.take bs.length = bs.map (Value.int .u8)

theorem Fil.chg {S : List Nat} {w w' : World} {b g p : Nat} {bs : List Int} (h : Fil w b g p bs) (hc : Chg S w w') (hb : b ∉ S) (hg : g ∉ S) : Fil w' b g p bs := by
  obtain ⟨c, cur, h1, h2, h3⟩ := h.mem
  exact { h with mem := ⟨c, cur, hc.heap h1 hb, hc.heap h2 hg, h3⟩ }
theorem Fil.blt {w : World} {b g p : Nat} {bs : List Int} (h : Fil w b g p bs) : b < w.heap.size ∧ g < w.heap.size := by
  obtain ⟨c, cur, h1, h2, h3⟩ := h.mem
  exact ⟨(Array.getElem?_eq_some_iff.1 h1).1, (Array.getElem?_eq_some_iff.1 h2).1⟩
theorem Fil.cells {w : World} {b g p : Nat} {bs : List Int} (h : Fil w b g p bs) : ∃ c, w.cell? ⟨b, 0, none⟩ = some (.int .i64 p) ∧ w.cell? ⟨b, 1, none⟩ = some (.slice (some ⟨g, 0, none⟩) bs.length c) := by
  obtain ⟨c, cur, h1, h2, h3⟩ := h.mem
  exact ⟨c, by rw [cell_of_row w b 0 _ _ _ h1]; rfl, by rw [cell_of_row w b 1 _ _ _ h1]; rfl⟩
theorem Fil.byte {w : World} {b g p : Nat} {bs : List Int} (h : Fil w b g p bs) {j : Nat} (hj : j < bs.length) : w.cell? ⟨g, j, none⟩ = some (.int .u8 (bs[j]?.getD 0)) := by
  obtain ⟨c, cur, h1, h2, h3, h4, _, h5⟩ := h.mem
  rw [cell_of_row w g j _ _ _ h2]
  have : (cur.toList.take bs.length)[j]? = (bs.map (Value.int .u8))[j]? := by rw [h5]
  rw [List.getElem?_take, if_pos hj] at this
  simpa [hj] using this
theorem Fil.free {w : World} {b g p : Nat} {bs : List Int} (h : Fil w b g p bs) (j : Nat) : w.frozen? ⟨g, j, none⟩ = false := by
  obtain ⟨c, cur, h1, h2, _⟩ := h.mem
  exact frozen_of_row w g j _ _ h2
theorem Fil.rng {w : World} {b g p : Nat} {bs : List Int} (h : Fil w b g p bs) (j : Nat) : 0 ≤ bs[j]?.getD 0 ∧ bs[j]?.getD 0 < 256 := by
  cases hj : bs[j]? with
  | none => simp
  | some x => exact h.ok x (List.mem_of_getElem? hj)
theorem Fil.set {w : World} {b g p : Nat} {bs : List Int} (h : Fil w b g p bs) (j : Nat) (v : Int) (hv : byteOk v) : Fil (w.setCell ⟨g, j, none⟩ (.int .u8 v)) b g p (bs.set j v) := by
  obtain ⟨c, cur, h1, h2, h3, h4, h6, h5⟩ := h.mem
  refine { h with n1 := by simpa using h.n1, n2 := by simpa using h.n2, ok := ?_, mem := ⟨c, cur.setIfInBounds j (.int .u8 v), ?_, ?_, by simpa using h3, by simpa using h4, h6, ?_⟩ }
  · intro x hx
    rcases List.mem_or_eq_of_mem_set hx with hx | rfl
    · exact h.ok x hx
    · exact hv
  · rw [heap_setCell_other _ _ _ _ h.ne, List.length_set]; exact h1
  · exact heap_setCell_same w g j cur 5 _ h2
  · rw [List.length_set, Array.toList_setIfInBounds, List.take_set, h5, List.map_set]

theorem bits_nil (w : World) : Calls Try.prog 13 #[.pointer none] w fun e w' => e = .returned (.int .i64 0) ∧ w = w' := by
  go_enter Try.func13, Try.ntmps13
  go_wp2
  go_ret
  exact ⟨rfl, rfl⟩
theorem bits_of (b n c : Nat) (ao : Option Addr) (hn : n ≤ 8192) (w : World) (h : w.cell? ⟨b, 1, none⟩ = some (.slice ao n c)) : Calls Try.prog 13 #[.pointer (some ⟨b, 0, none⟩)] w fun e w' => e = .returned (.int .i64 (8 * n)) ∧ w = w' := by
  go_enter Try.func13, Try.ntmps13
  go_wp2
  go_ret
  exact ⟨rfl, rfl⟩
theorem probes_nil (w : World) : Calls Try.prog 49 #[.pointer none] w fun e w' => e = .returned (.int .i64 0) ∧ w = w' := by
  go_enter Try.func49, Try.ntmps49
  go_wp2
  go_ret
  exact ⟨rfl, rfl⟩
theorem probes_of (b p : Nat) (w : World) (h : w.cell? ⟨b, 0, none⟩ = some (.int .i64 p)) : Calls Try.prog 49 #[.pointer (some ⟨b, 0, none⟩)] w fun e w' => e = .returned (.int .i64 p) ∧ w = w' := by
  go_enter Try.func49, Try.ntmps49
  go_wp2
  go_ret
  exact ⟨rfl, rfl⟩

theorem info3 : (Try.prog.info? 3).map (fun i => (i.zero, i.size, i.bytes)) = some (some (.int .i64 0), 1, 8) := by kernel_rfl
theorem ty54 : SlTy Try.prog 54 3 (.int .i64 0) 1 8 := ⟨Try.underlying54, info3, rfl, by decide, by decide⟩

/-- a hash: 32 bytes -/
@[reducible] def hv (l : List Int) : Array Value := (l.map (Value.int .u8)).toArray
def HashOk (l : List Int) : Prop := l.length = 32 ∧ ∀ x ∈ l, byteOk x
theorem HashOk.rng {l : List Int} (h : HashOk l) (j : Nat) : 0 ≤ l[j]?.getD 0 ∧ l[j]?.getD 0 < 256 := by
  cases hj : l[j]? with
  | none => simp
  | some x => exact h.2 x (List.mem_of_getElem? hj)

def comb (l : List Int) (o : Nat) : Nat → Int
  | 0 => 0
  | k + 1 => Go.bits BinOp.or IntKind.u64 (IntKind.u64.wrap (comb l o k * 256)) (l[k + o]?.getD 0)
def spotL (y m : Int) : Nat → Int → List Int
  | 0, _ => []
  | k + 1, x => (x % m) :: spotL y m k (IntKind.u64.wrap (x + y))
def spotsOf (l : List Int) (p : Nat) (n : Nat) : List Int := spotL (comb l 8 8) (8 * n) p (comb l 0 8)

theorem spotL_len (y m : Int) : ∀ (k : Nat) (x : Int), (spotL y m k x).length = k
  | 0, _ => rfl
  | k + 1, x => by simp [spotL, spotL_len y m k]
theorem spotL_rng (y m : Int) (hm : 0 < m) : ∀ (k : Nat) (x : Int), ∀ z ∈ spotL y m k x, 0 ≤ z ∧ z < m
  | 0, _, z, h => by simp [spotL] at h
  | k + 1, x, z, h => by
    simp only [spotL, List.mem_cons] at h
    rcases h with rfl | h
    · exact ⟨Int.emod_nonneg _ (by omega), Int.emod_lt_of_pos _ hm⟩
    · exact spotL_rng y m hm k _ z h

theorem u64_nn (x : Int) : 0 ≤ IntKind.u64.wrap x := by
  simp only [IntKind.wrap_u64]
  omega
theorem bits_u64_nn (op : BinOp) (x y : Int) : 0 ≤ Go.bits op .u64 x y := u64_nn _
theorem comb_nn (l : List Int) (o : Nat) : ∀ k, 0 ≤ comb l o k
  | 0 => by simp [comb]
  | k + 1 => bits_u64_nn _ _ _

theorem spots_nil (l : List Int) (w : World) : Calls Try.prog 29 #[.pointer none, .agg (hv l)] w fun e w' => e = .returned (.slice none 0 0) ∧ Chg [] w w' := by
  go_enter Try.func29, Try.ntmps29
  go_wp2
  go_ret
  exact ⟨rfl, Chg.alloc0 _ _⟩

set_option maxRecDepth 100000 in
set_option maxHeartbeats 1000000 in
theorem spots_of {b g p : Nat} {bs : List Int} {w : World} (F : Fil w b g p bs) {l : List Int} (hl : HashOk l) : Calls Try.prog 29 #[.pointer (some ⟨b, 0, none⟩), .agg (hv l)] w fun e w' =>
    ∃ v, e = .returned v ∧ w'.ownsRow w.heap.size 3 1 v p ((spotsOf l p bs.length).map (Value.int .i64)) ∧ Chg [] w w' := by
  obtain ⟨c, h0, h1⟩ := F.cells
  have hb := F.blt.1
  have n1 := F.n1
  have n2 := F.n2
  have p1 := F.p1
  have p2 := F.p2
  go_enter Try.func29, Try.ntmps29
  go_wp2
  go_loop [5, 6, 11] (fun x y i => ∃ k : Nat, k ≤ 8 ∧ i = .int .i64 k ∧ x = .int .u64 (comb l 0 k) ∧ y = .int .u64 (comb l 8 k)) (fun _ _ i => 8 - (intOf i).toNat)
  case atStart => exact ⟨0, by omega, rfl, rfl, rfl⟩
  case round =>
    obtain ⟨k, hk, rfl, rfl, rfl⟩ := hrel
    by_cases hlt : k < 8
    · have r1 := hl.rng k
      have r2 := hl.rng (k + 8)
      have e1 : (hv l)[k]? = some (.int .u8 (l[k]?.getD 0)) := by simp [hv, hl.1, show k < 32 by omega]
      have e2 : (hv l)[k+8]? = some (.int .u8 (l[k + 8]?.getD 0)) := by simp [hv, hl.1, show k + 8 < 32 by omega]
      go_wp2
      go_round
      case rel => exact ⟨k + 1, by omega, by go_num, rfl, rfl⟩
      case measure => simp [intOf]; omega
    · obtain rfl : k = 8 := by omega
      have r0 := comb_nn l 0 8
      have r8 := comb_nn l 8 8
      have HS := Lib.hid (show spotsOf l p bs.length = spotL (comb l 8 8) (8 * bs.length) p (comb l 0 8) from rfl)
      generalize comb l 0 8 = x0 at *
      generalize comb l 8 8 = y0 at *
      go_wp2
      go_loopw [5, 8, 34] (fun x v i wr => ∃ k : Nat, ∃ xc : Int, k ≤ p ∧ i = .int .i64 k ∧ x = .int .u64 xc ∧ 0 ≤ xc ∧ (∃ xs : List Int, xs ++ spotL y0 (8 * bs.length) (p - k) xc = spotsOf l p bs.length ∧ wr.ownsRow w.heap.size 3 1 v k (xs.map (Value.int .i64))) ∧ Below w.heap.size w wr) (fun _ _ i _ => p - (intOf i).toNat)
      case atStart => exact ⟨0, x0, by omega, rfl, rfl, r0, ⟨[], by simp [HS.out], World.ownsRow_nil _ _ _ _⟩, (Below.refl _ _).alloc (Nat.le_refl _) _⟩
      case round =>
        obtain ⟨k, xc, hk, rfl, rfl, hx0, ⟨xs, hxs, hown⟩, hbel⟩ := hrel
        have Hxs := Lib.hid hxs
        clear hxs
        have c1 : wr.cell? ⟨b, 1, none⟩ = some (.slice (some ⟨g, 0, none⟩) bs.length c) := (hbel.cell hb).trans h1
        by_cases hlt : k < p
        · have hm0 : 0 ≤ xc % (8 * (bs.length : Int)) := Int.emod_nonneg _ (by omega)
          have hm1 : xc % (8 * (bs.length : Int)) < 8 * bs.length := Int.emod_lt_of_pos _ (by omega)
          go_wp2_with (first | (go_at_call 13; refine (bits_of b bs.length c _ n2 _ c1).mono ?_; rintro e w' ⟨rfl, rfl⟩) | ((with_reducible show wpList _ _ _ (⟨some 43, _, _, _, _, _⟩ :: _) _ _); refine wpList_push ty54 _ k (xs.map (Value.int .i64)) (.int .i64 (xc % (8 * (bs.length : Int)))) (of_decide_eq_true rfl) (fun _ => rfl) hown rfl rfl (one_int _ _) (by omega) (by unfold maxLen; omega) hbel.size ?_; intro v' w1 hown' hch hnn hloc))
          go_roundw
          case rel =>
            refine ⟨k + 1, _, by omega, by go_num, rfl, u64_nn _, ⟨xs ++ [xc % (8 * (bs.length : Int))], ?_, by simpa [Value.cells] using hown'⟩, hbel.trans (hch.below hbel.size ?_)⟩
            · rw [← Hxs.out, show p - k = (p - (k + 1)) + 1 by omega]
              simp [spotL]
            · intro i hi
              exact (hown.lt i (Value.ownBlock_mem.1 hi)).1
          case measure => simp [intOf]; omega
        · obtain rfl : k = p := by omega
          go_wp2
          go_ret
          refine ⟨_, rfl, ?_, Chg.of_below hbel _⟩
          have := Hxs.out
          simp only [Nat.sub_self, spotL, List.append_nil] at this
          rw [← this]; exact hown
end Go.Proofs.Ytinelhjkgikigaa.B
