/- Bloom: Join. -/
import Derived.Test.YtinelhjkgikigaaBE
namespace Go.Proofs.Ytinelhjkgikigaa.B
open Go Go.RowKit Go.Proofs.Ytinelhjkgikigaa.K

theorem join_nil1 (v : Value) (w : World) : Calls Try.prog 11 #[.pointer none, v] w fun e w' => e = .returned (.int .i64 1) ∧ w = w' := by
  go_enter Try.func11, Try.ntmps11
  go_wp2
  go_ret
  exact ⟨rfl, rfl⟩
theorem join_nil2 (a : Addr) (w : World) : Calls Try.prog 11 #[.pointer (some a), .pointer none] w fun e w' => e = .returned (.int .i64 1) ∧ w = w' := by
  go_enter Try.func11, Try.ntmps11
  go_wp2
  go_ret
  exact ⟨rfl, rfl⟩

set_option maxRecDepth 100000 in
theorem join_unlike {b g p b' g' p' : Nat} {xs ys : List Int} {w : World} (F : Fil w b g p xs) (G : Fil w b' g' p' ys) (h : ¬ (xs.length = ys.length ∧ p = p')) :
    Calls Try.prog 11 #[.pointer (some ⟨b, 0, none⟩), .pointer (some ⟨b', 0, none⟩)] w fun e w' => e = .returned (.int .i64 210) ∧ w = w' := by
  obtain ⟨c, f0, f1⟩ := F.cells
  obtain ⟨c', g0, g1⟩ := G.cells
  have hd : decide (xs.length = ys.length ∧ p = p') = false := by simpa using h
  have n2 := F.n2
  have n2' := G.n2
  go_enter Try.func11, Try.ntmps11
  go_wp2_with (go_at_call 39; refine (alike_of _ n2 n2' f0 f1 g0 g1).mono ?_; rintro e w' ⟨rfl, rfl⟩; rw [hd])
  go_ret
  exact ⟨rfl, rfl⟩

def orB (x y : Int) : Int := Go.bits .or .u8 x y
def orAt (xs ys : List Int) (k : Nat) : List Int := List.zipWith orB (xs.take k) (ys.take k) ++ xs.drop k
theorem orAt_len {xs ys : List Int} (h : xs.length = ys.length) (k : Nat) : (orAt xs ys k).length = xs.length := by
  simp [orAt]; omega
theorem orAt_zero (xs ys : List Int) : orAt xs ys 0 = xs := by simp [orAt]
theorem orAt_all {xs ys : List Int} (h : xs.length = ys.length) : orAt xs ys xs.length = List.zipWith orB xs ys := by
  have e1 : xs.take xs.length = xs := List.take_length
  have e2 : ys.take xs.length = ys := by rw [h]; exact List.take_length
  have e3 : xs.drop xs.length = [] := List.drop_length
  rw [orAt, e1, e2, e3, List.append_nil]
theorem orAt_get {xs ys : List Int} (h : xs.length = ys.length) {k : Nat} (hk : k < xs.length) : (orAt xs ys k)[k]? = xs[k]? := by
  rw [orAt, List.getElem?_append_right (by simp; omega)]
  simp
  congr 1
  omega
theorem orAt_succ {xs ys : List Int} (h : xs.length = ys.length) {k : Nat} (hk : k < xs.length) {x y : Int} (hx : xs[k]? = some x) (hy : ys[k]? = some y) : (orAt xs ys k).set k (orB x y) = orAt xs ys (k + 1) := by
  have hl : (List.zipWith orB (xs.take k) (ys.take k)).length = k := by simp; omega
  rw [orAt, orAt, List.set_append_right _ _ (by omega), hl, Nat.sub_self]
  have e0 : xs.drop k = x :: xs.drop (k + 1) := by
    obtain ⟨hk1, rfl⟩ := List.getElem?_eq_some_iff.1 hx
    exact List.drop_eq_getElem_cons hk1
  have e1 : xs.take (k + 1) = xs.take k ++ [x] := by rw [List.take_add_one, hx]; rfl
  have e2 : ys.take (k + 1) = ys.take k ++ [y] := by rw [List.take_add_one, hy]; rfl
  rw [e0, e1, e2, List.zipWith_append (by simp; omega)]
  simp

set_option maxRecDepth 100000 in
set_option maxHeartbeats 1000000 in
theorem join_of {b g p b' g' : Nat} {xs ys : List Int} {w : World} (F : Fil w b g p xs) (G : Fil w b' g' p ys) (h : xs.length = ys.length) (hb : g ≠ b') (hg : g ≠ g') :
    Calls Try.prog 11 #[.pointer (some ⟨b, 0, none⟩), .pointer (some ⟨b', 0, none⟩)] w fun e w' => e = .returned (.int .i64 0) ∧ Fil w' b g p (List.zipWith orB xs ys) ∧ Chg [g] w w' := by
  obtain ⟨c, f0, f1⟩ := F.cells
  obtain ⟨c', g0, g1⟩ := G.cells
  have n2 := F.n2
  have n2' := G.n2
  have hd : decide (xs.length = ys.length ∧ p = p) = true := by simpa using h
  have H := Lib.hid h
  clear h
  go_enter Try.func11, Try.ntmps11
  go_wp2_with (go_at_call 39; refine (alike_of _ n2 n2' f0 f1 g0 g1).mono ?_; rintro e w' ⟨rfl, rfl⟩; rw [hd])
  go_loopw [26] (fun i wr => ∃ k : Nat, k ≤ ys.length ∧ i = .int .i64 k ∧ Fil wr b g p (orAt xs ys k) ∧ Chg [g] w wr) (fun i _ => ys.length - (intOf i).toNat)
  case atStart => exact ⟨0, by omega, rfl, by rw [orAt_zero]; exact F, Chg.refl _ _⟩
  case round =>
    obtain ⟨k, hk, rfl, Fk, hck⟩ := hrel
    have Gk := G.chg hck (by simp; omega) (by simp; omega)
    by_cases hlt : k < ys.length
    · obtain ⟨x, hx⟩ : ∃ x, xs[k]? = some x := ⟨_, List.getElem?_eq_getElem (by rw [H.out]; exact hlt)⟩
      obtain ⟨y, hy⟩ : ∃ y, ys[k]? = some y := ⟨_, List.getElem?_eq_getElem hlt⟩
      have cy := Gk.byte hlt
      rw [hy, Option.getD_some] at cy
      have hlx : k < xs.length := by rw [H.out]; exact hlt
      have cx := Fk.byte (j := k) (by rw [orAt_len H.out]; exact hlx)
      rw [orAt_get H.out hlx, hx, Option.getD_some] at cx
      have fx := Fk.free k
      obtain ⟨c2, f0k, f1k⟩ := Fk.cells
      rw [orAt_len H.out] at f1k
      have hset := Fk.set k (orB x y) (bits_u8_ok _ _ _)
      rw [orAt_succ H.out hlx hx hy] at hset
      have Hset := Lib.hid hset
      clear hx hy hset
      go_wp2
      go_roundw
      case rel => exact ⟨k + 1, by omega, by go_num, Hset.out, hck.trans ((Chg.refl _ _).setCell (.inl (by simp)) _)⟩
      case measure => simp [intOf]; omega
    · obtain rfl : k = ys.length := by omega
      go_wp2
      go_ret
      refine ⟨rfl, ?_, hck⟩
      rw [← H.out, orAt_all H.out] at Fk
      exact Fk
end Go.Proofs.Ytinelhjkgikigaa.B
