/- Bloom: Add, Has. -/
import Derived.Test.YtinelhjkgikigaaBA
namespace Go.Proofs.Ytinelhjkgikigaa.B
open Go Go.RowKit Go.Proofs.Ytinelhjkgikigaa.K

theorem loadHash : IsAgg Try.prog 27 32 := ⟨by kernel_rfl, by kernel_rfl⟩
theorem hv_len {l : List Int} (h : HashOk l) : (l.map (Value.int .u8)).length = 32 := by simp [h.1]

theorem load_box {l : List Int} {w : World} : Cs (w.alloc (.cells (hv l) 27)) w.heap.size 0 (l.map (Value.int .u8)) := Cs.of_heap (heap_new _ _) 0 (by simp [hv])

set_option maxRecDepth 100000 in
theorem add_nil (l : List Int) (w : World) (h : HashOk l) : Calls Try.prog 10 #[.pointer none, .agg (hv l)] w fun e w' => e = .returned (.tuple #[]) ∧ Chg [] w w' := by
  go_enter Try.func10, Try.ntmps10
  go_wp2_with (first | ((with_reducible show wpList _ _ _ (⟨some 7, _, _, _, _, _⟩ :: _) _ _); refine wpList_loadAgg loadHash rfl load_box (hv_len h) ?_) | (go_at_call 29; refine (spots_nil l _).mono ?_; rintro e w' ⟨rfl, hc⟩))
  go_rounds 1
  go_end0
  exact ⟨rfl, ((Chg.refl _ _).alloc _).trans hc⟩

/-- one bit set -/
def setBit (bs : List Int) (n : Int) : List Int := bs.set (n / 8).toNat (Go.bits .or .u8 (bs[(n / 8).toNat]?.getD 0) (2 ^ (n % 8).toNat % 256))
def setBits (bs : List Int) (l : List Int) : List Int := l.foldl setBit bs
theorem setBit_len (bs : List Int) (n : Int) : (setBit bs n).length = bs.length := by simp [setBit]
theorem setBits_len (l : List Int) : ∀ bs, (setBits bs l).length = bs.length := by
  induction l with
  | nil => intro bs; rfl
  | cons x l ih => intro bs; simp only [setBits, List.foldl_cons] at ih ⊢; rw [ih, setBit_len]
theorem bits_u8_ok (op : BinOp) (x y : Int) : byteOk (Go.bits op .u8 x y) := by
  unfold Go.bits byteOk
  simp only [IntKind.wrap_u8]
  omega

set_option maxRecDepth 100000 in
set_option maxHeartbeats 1000000 in
theorem add_of {b g p : Nat} {bs : List Int} {w : World} (F : Fil w b g p bs) {l : List Int} (hl : HashOk l) : Calls Try.prog 10 #[.pointer (some ⟨b, 0, none⟩), .agg (hv l)] w fun e w' =>
    e = .returned (.tuple #[]) ∧ Fil w' b g p (setBits bs (spotsOf l p bs.length)) ∧ Chg [g] w w' := by
  have hlen := spotL_len (comb l 8 8) (8 * bs.length) p (comb l 0 8)
  have hrng := spotL_rng (comb l 8 8) (8 * bs.length) (by have := F.n1; omega) p (comb l 0 8)
  rw [show spotL (comb l 8 8) (8 * bs.length) p (comb l 0 8) = spotsOf l p bs.length from rfl] at hlen hrng
  have Hlen := Lib.hid hlen
  have Hrng := Lib.hid hrng
  clear hlen hrng
  have p2 := F.p2
  go_enter Try.func10, Try.ntmps10
  go_wp2_with (first | ((with_reducible show wpList _ _ _ (⟨some 7, _, _, _, _, _⟩ :: _) _ _); refine wpList_loadAgg loadHash rfl load_box (hv_len hl) ?_) | (go_at_call 29; refine (spots_of (F.chg (Chg.alloc0 _ _) (by simp) (by simp)) hl).mono ?_; rintro e w1 ⟨v, rfl, hown, hc⟩; obtain ⟨r, c2, rfl⟩ := owns_some hown (by have := F.p1; omega)))
  have hcw := (Chg.alloc0 w (.cells (hv l) 27)).trans hc
  have F1 := F.chg hcw (by simp) (by simp)
  have hr := hown.lt r rfl
  have hrg : r ≠ g := by have := F.blt.2; simp at hr; omega
  have hsz := hcw.size
  go_loopw [10] (fun i wr => ∃ k : Nat, k ≤ p ∧ i = .int .i64 k ∧ Fil wr b g p (setBits bs ((spotsOf l p bs.length).take k)) ∧ Chg [g] w1 wr) (fun i _ => p - (intOf i).toNat)
  case atStart => exact ⟨0, by omega, rfl, by simpa [setBits] using F1, Chg.refl _ _⟩
  case round =>
    obtain ⟨k, hk, rfl, Fk, hck⟩ := hrel
    by_cases hlt : k < p
    · obtain ⟨x, hx⟩ : ∃ x, (spotsOf l p bs.length)[k]? = some x := ⟨_, List.getElem?_eq_getElem (by rw [Hlen.out]; exact hlt)⟩
      obtain ⟨hx0, hx1⟩ := Hrng.out x (List.mem_of_getElem? hx)
      have n2 := F.n2
      have cx : wr.cell? ⟨r, k, none⟩ = some (.int .i64 x) := hck.cell (by have := hown.cellAt k (by omega); rw [this]; simp [hx]) (by simpa using hrg)
      obtain ⟨c, h0, h1⟩ := Fk.cells
      have hl8 := setBits_len ((spotsOf l p bs.length).take k) bs
      have Hst := Lib.hid (show setBits bs ((spotsOf l p bs.length).take (k + 1)) = setBit (setBits bs ((spotsOf l p bs.length).take k)) x by rw [List.take_add_one, hx]; simp [setBits])
      clear hx
      generalize setBits bs ((spotsOf l p bs.length).take k) = bk at *
      have hj : (x / 8).toNat < bk.length := by omega
      have cb := Fk.byte hj
      have fb := Fk.free (x / 8).toNat
      rw [hl8] at h1
      have Hl8 := Lib.hid hl8
      clear hl8
      go_wp2
      go_region
      go_wp2
      go_roundw
      case rel =>
        refine ⟨k + 1, by omega, by go_num, ?_, hck.trans ((Chg.refl _ _).setCell (.inl (by simp)) _).drew⟩
        rw [Hst.out, setBit]
        have := Fk.set (x / 8).toNat _ (bits_u8_ok .or (bk[(x / 8).toNat]?.getD 0) (2 ^ (x % 8).toNat % 256))
        have e : bk[(x / 8).toNat]?.getD 0 = bk[(x / 8).toNat] := by simp [hj]
        rw [e] at this ⊢
        exact this.chg (Chg.refl [] _).drew (by simp) (by simp)
      case measure => simp [intOf]; omega
    · obtain rfl : k = p := by omega
      go_wp2
      go_end0
      refine ⟨rfl, ?_, (hcw.weak (T := [g])).trans hck⟩
      rw [List.take_of_length_le (by rw [Hlen.out]; omega)] at Fk
      exact Fk

set_option maxRecDepth 100000 in
theorem has_nil (l : List Int) (w : World) (h : HashOk l) : Calls Try.prog 12 #[.pointer none, .agg (hv l)] w fun e w' => e = .returned (.bool false) ∧ Chg [] w w' := by
  go_enter Try.func12, Try.ntmps12
  go_wp2_with (first | ((with_reducible show wpList _ _ _ (⟨some 8, _, _, _, _, _⟩ :: _) _ _); refine wpList_loadAgg loadHash rfl load_box (hv_len h) ?_) | (go_at_call 29; refine (spots_nil l _).mono ?_; rintro e w' ⟨rfl, hc⟩))
  go_rounds 1
  go_ret
  exact ⟨rfl, ((Chg.refl _ _).alloc _).trans hc⟩

/-- one bit asked -/
def hasBit (bs : List Int) (n : Int) : Bool := !(Go.bits .and .u8 ((bs[(n / 8).toNat]?.getD 0) / 2 ^ (n % 8).toNat) 1 == 0)
def hasBits (bs : List Int) (l : List Int) : Bool := l.all (hasBit bs)

set_option maxRecDepth 100000 in
set_option maxHeartbeats 1000000 in
theorem has_of {b g p : Nat} {bs : List Int} {w : World} (F : Fil w b g p bs) {l : List Int} (hl : HashOk l) : Calls Try.prog 12 #[.pointer (some ⟨b, 0, none⟩), .agg (hv l)] w fun e w' =>
    e = .returned (.bool (hasBits bs (spotsOf l p bs.length))) ∧ Chg [] w w' := by
  have hlen := spotL_len (comb l 8 8) (8 * bs.length) p (comb l 0 8)
  have hrng := spotL_rng (comb l 8 8) (8 * bs.length) (by have := F.n1; omega) p (comb l 0 8)
  rw [show spotL (comb l 8 8) (8 * bs.length) p (comb l 0 8) = spotsOf l p bs.length from rfl] at hlen hrng
  have Hlen := Lib.hid hlen
  have Hrng := Lib.hid hrng
  clear hlen hrng
  have p2 := F.p2
  have n2 := F.n2
  go_enter Try.func12, Try.ntmps12
  go_wp2_with (first | ((with_reducible show wpList _ _ _ (⟨some 8, _, _, _, _, _⟩ :: _) _ _); refine wpList_loadAgg loadHash rfl load_box (hv_len hl) ?_) | (go_at_call 29; refine (spots_of (F.chg (Chg.alloc0 _ _) (by simp) (by simp)) hl).mono ?_; rintro e w1 ⟨v, rfl, hown, hc⟩; obtain ⟨r, c2, rfl⟩ := owns_some hown (by have := F.p1; omega)))
  have hcw := (Chg.alloc0 w (.cells (hv l) 27)).trans hc
  have F1 := F.chg hcw (by simp) (by simp)
  obtain ⟨c, h0, h1⟩ := F1.cells
  go_loop [11] (fun i => ∃ k : Nat, k ≤ p ∧ i = .int .i64 k ∧ hasBits bs ((spotsOf l p bs.length).take k) = true) (fun i => p - (intOf i).toNat)
  case atStart => exact ⟨0, by omega, rfl, rfl⟩
  case round =>
    obtain ⟨k, hk, rfl, hall⟩ := hrel
    have Hall := Lib.hid hall
    clear hall
    by_cases hlt : k < p
    · obtain ⟨x, hx⟩ : ∃ x, (spotsOf l p bs.length)[k]? = some x := ⟨_, List.getElem?_eq_getElem (by rw [Hlen.out]; exact hlt)⟩
      obtain ⟨hx0, hx1⟩ := Hrng.out x (List.mem_of_getElem? hx)
      have cx : w1.cell? ⟨r, k, none⟩ = some (.int .i64 x) := by have := hown.cellAt k (by omega); rw [this]; simp [hx]
      have hj : (x / 8).toNat < bs.length := by omega
      have cb := F1.byte hj
      obtain ⟨r0, r1⟩ := F1.rng (x / 8).toNat
      have Hst := Lib.hid (show hasBits bs ((spotsOf l p bs.length).take (k + 1)) = hasBit bs x by
        have hh := Hall.out
        rw [List.take_add_one, hx]; simp only [hasBits, List.all_append, Option.toList] at hh ⊢; rw [hh]; simp)
      have Hx := Lib.hid hx
      clear hx
      go_wp2
      all_goals have ej : bs[(x / 8).toNat]?.getD 0 = bs[(x / 8).toNat] := by simp [hj]
      · have hno : (Go.bits BinOp.and IntKind.u8 (bs[(x / 8).toNat] / 2 ^ (x % 8).toNat) 1 == 0) = true := by assumption
        go_ret
        refine ⟨?_, hcw⟩
        have hb : hasBit bs x = false := by rw [hasBit, ej, hno]; rfl
        have : hasBits bs (spotsOf l p bs.length) = false := by
          rw [hasBits, List.all_eq_false]
          exact ⟨x, List.mem_of_getElem? Hx.out, by simp [hb]⟩
        rw [this]; rfl
      · have hno : (Go.bits BinOp.and IntKind.u8 (bs[(x / 8).toNat] / 2 ^ (x % 8).toNat) 1 == 0) = false := by assumption
        go_round
        case rel =>
          refine ⟨k + 1, by omega, by go_num, ?_⟩
          rw [Hst.out, hasBit, ej, hno]; rfl
        case measure => simp [intOf]; omega
    · obtain rfl : k = p := by omega
      go_wp2
      go_ret
      have := Hall.out
      rw [List.take_of_length_le (by rw [Hlen.out]; omega)] at this
      refine ⟨?_, hcw⟩
      rw [this]; rfl
end Go.Proofs.Ytinelhjkgikigaa.B
