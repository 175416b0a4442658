/- Bloom: Encode; bytes that are compared (estuarymem.Same); which. -/
import Derived.Test.YtinelhjkgikigaaBP
import Derived.Test.YtinelhjkgikigaaWA
import Derived.Test.YtinelhjkgikigaaKD
namespace Go.Proofs.Ytinelhjkgikigaa.B
open Go Go.RowKit Go.Proofs.Ytinelhjkgikigaa.K
set_option maxRecDepth 100000

def encB (p : Nat) (bs : List Int) : List Int := W.uvar (8 * bs.length) ++ [(p : Int)] ++ W.uvar bs.length ++ bs

theorem Fil.src {w : World} {b g p : Nat} {bs : List Int} (h : Fil w b g p bs) (c : Nat) : Src w (.slice (some ⟨g, 0, none⟩) bs.length c) bs.length (bs.map (Value.int .u8)) :=
  Src.of_Cs (fun j u hu => by
    have hj : j < bs.length := by have := (List.getElem?_eq_some_iff.1 hu).1; simpa using this
    have := h.byte hj
    rw [Nat.zero_add, this]
    rw [List.getElem?_map] at hu
    simpa [hj] using hu)

theorem encode_nil (w : World) : Calls Try.prog 18 #[.pointer none] w fun e w' => e = .returned (.slice none 0 0) ∧ w = w' := by
  go_enter Try.func18, Try.ntmps18
  go_wp2
  go_ret
  exact ⟨rfl, rfl⟩

theorem encode_of {b g p : Nat} {bs : List Int} {w : World} (F : Fil w b g p bs) : Calls Try.prog 18 #[.pointer (some ⟨b, 0, none⟩)] w fun e w' =>
    ∃ v', e = .returned v' ∧ w'.ownsRow w.heap.size 5 1 v' (encB p bs).length ((encB p bs).map (Value.int .u8)) ∧ Chg [] w w' := by
  obtain ⟨hb, hg⟩ := F.blt
  have n2 := F.n2
  have p2 := F.p2
  have l1 := W.uvar_len (8 * bs.length)
  have l2 := W.uvar_len bs.length
  have hA := Chg.alloc0 w (.cells #[.slice none 0 0, .int .i64 0] 95)
  have F0 := F.chg hA (by simp) (by simp)
  have W0 := W.Wr.made w
  obtain ⟨c, h0, h1⟩ := F0.cells
  go_enter Try.func18, Try.ntmps18
  go_wp2_with fail
  refine (bits_of b bs.length c _ n2 _ h1).mono ?_
  rintro e w' ⟨rfl, rfl⟩
  go_wp2_with fail
  refine (W.uint_at W0 (n := 8 * bs.length) (by omega) (by simp; omega)).mono ?_
  rintro e w1 ⟨v1, rfl, W1, s1⟩
  have F1 := F0.chg s1.chg (by simp [Value.ownBlock]; omega) (by simp [Value.ownBlock]; omega)
  obtain ⟨c1, h2, h3⟩ := F1.cells
  clear h0 h1
  go_wp2_with fail
  refine (W.byte_of W1 (x := (p : Int)) ⟨by omega, by omega⟩ (by simp; omega)).mono ?_
  rintro e w2 ⟨v2, rfl, W2, s2⟩
  have s12 := s1.trans s2
  have F2 := F0.chg s12.chg (by simp [Value.ownBlock]; omega) (by simp [Value.ownBlock]; omega)
  obtain ⟨c2, h4, h5⟩ := F2.cells
  clear h2 h3
  go_wp2_with fail
  refine (W.raw_of W2 (F2.src c2) (fun x hx => F.ok x hx) (fun x hx => ?_) (by simp; omega)).mono ?_
  · simp [Value.ownBlock] at hx
    subst hx
    refine ⟨by omega, fun h => ?_, F2.blt.2⟩
    rcases s12.loc g h with h' | h'
    · simp [Value.ownBlock] at h'
    · simp at h'; omega
  rintro e w3 ⟨v3, rfl, W3, s3⟩
  have s13 := s12.trans s3
  have e3 : [] ++ W.uvar (8 * bs.length) ++ [(p : Int)] ++ W.uvar bs.length ++ bs = encB p bs := by simp [encB]
  rw [e3] at W3
  have hl : (encB p bs).length ≤ 140737488355328 := by simp [encB]; omega
  clear e3 h4 h5
  go_wp2_with fail
  refine (W.done_of W3 hl).mono ?_
  rintro e w4 ⟨v4, rfl, hown, hc4, _⟩
  go_wp2
  go_ret
  have hw3 : Chg [] w w3 := hA.trans' s13.chg (fun _ h _ => h) (fun i hi hl => by simp [Value.ownBlock] at hi; omega)
  exact ⟨v4, rfl, owns_base hown (fun g' hg' => by have := (hown.lt g' hg').1; have := hw3.size; omega), hw3.trans hc4⟩

/-- estuarymem.Same: the bytes of two slices that are read -/
theorem same_of {w : World} {x y : Value} {xs ys : List Int} (hx : Src w x xs.length (xs.map (Value.int .u8))) (hy : Src w y ys.length (ys.map (Value.int .u8))) (lx : xs.length ≤ 140737488355328) (ly : ys.length ≤ 140737488355328) :
    Calls Try.prog 17 #[x, y] w fun e w' => e = .returned (.bool (decide (xs = ys))) ∧ Chg [] w w' := by
  by_cases hl : xs.length = ys.length
  · have d1 : ((xs.length : Int) != ys.length) = false := by simp [hl]
    have Hl := Lib.hid hl
    clear hl
    by_cases hz : xs.length = 0
    · have h2 : ys.length = 0 := by have := Hl.out; omega
      obtain rfl := List.eq_nil_of_length_eq_zero hz
      obtain rfl := List.eq_nil_of_length_eq_zero h2
      obtain ⟨ao, c, rfl, _⟩ := hx.out
      obtain ⟨ao', c', rfl, _⟩ := hy.out
      clear hx hy d1 h2 hz
      go_enter Try.func17, Try.ntmps17
      go_wp2
      go_rounds 1
      go_ret
      exact ⟨rfl, Chg.refl _ _⟩
    · obtain ⟨p, o, c, rfl, C1, _⟩ := hx.block (by simp; omega) hz
      obtain ⟨p', o', c', rfl, C2, _⟩ := hy.block (by have := Hl.out; simp; omega) (by have := Hl.out; omega)
      clear hx hy
      have HZ := Lib.hid hz
      clear hz
      go_enter Try.func17, Try.ntmps17
      go_wp2
      go_loopw [5] (fun i wr => ∃ k : Nat, k ≤ xs.length ∧ i = .int .i64 k ∧ xs.take k = ys.take k ∧ Chg [] w wr) (fun i _ => xs.length - (intOf i).toNat)
      case atStart => exact ⟨0, by omega, rfl, rfl, Chg.refl _ _⟩
      case round =>
        obtain ⟨k, hk, rfl, htk, hck⟩ := hrel
        have Htk := Lib.hid htk
        clear htk
        by_cases hlt : k < xs.length
        · obtain ⟨x, hx⟩ : ∃ x, xs[k]? = some x := ⟨_, List.getElem?_eq_getElem hlt⟩
          have hlt' : k < ys.length := by have := Hl.out; omega
          obtain ⟨y, hy⟩ : ∃ y, ys[k]? = some y := ⟨_, List.getElem?_eq_getElem hlt'⟩
          have cx : wr.cell? ⟨p, o + k, none⟩ = some (.int .u8 x) := C1.chg hck (by simp) k _ (by rw [List.getElem?_map, hx]; rfl)
          have cy : wr.cell? ⟨p', o' + k, none⟩ = some (.int .u8 y) := C2.chg hck (by simp) k _ (by rw [List.getElem?_map, hy]; rfl)
          have Hx := Lib.hid hx
          have Hy := Lib.hid hy
          clear hx hy
          go_wp2
          go_region
          go_wp2
          · have hne : (x != y) = true := by assumption
            go_ret
            refine ⟨?_, hck.drew⟩
            have : xs ≠ ys := by
              rintro rfl
              have := Hx.out.symm.trans Hy.out
              simp at this; subst this; simp at hne
            simp [this]
          · have heq : (x != y) = false := by assumption
            have hxy : x = y := by simpa using heq
            go_roundw
            case rel =>
              refine ⟨k + 1, by omega, by go_num, ?_, hck.drew⟩
              rw [List.take_add_one, List.take_add_one, Htk.out, Hx.out, Hy.out, hxy]
            case measure => simp [intOf]; omega
        · obtain rfl : k = xs.length := by omega
          go_wp2
          go_ret
          refine ⟨?_, hck⟩
          have := Htk.out
          rw [List.take_length, Hl.out, List.take_length] at this
          simp [this]
  · obtain ⟨ao, c, rfl, _⟩ := hx.out
    obtain ⟨ao', c', rfl, _⟩ := hy.out
    have d1 : ((xs.length : Int) != ys.length) = true := by simp; omega
    have hne : decide (xs = ys) = false := by simp; rintro rfl; exact hl rfl
    clear hl hx hy
    go_enter Try.func17, Try.ntmps17
    go_wp2
    go_ret
    exact ⟨by rw [hne]; rfl, Chg.refl _ _⟩

theorem tmod_neg {n k : Int} (hk : 1 ≤ k) (hn : n < 0) : n.tmod k = if n % k = 0 then 0 else n % k - k := by
  rw [Int.tmod_eq_emod]
  by_cases h : n % k = 0
  · rw [if_pos (.inr (Int.dvd_of_emod_eq_zero h)), if_pos h, h]; rfl
  · rw [if_neg (by rintro (h' | h'); · omega
                   · exact h (Int.emod_eq_zero_of_dvd h')), if_neg h]
    omega
theorem which_of (n k : Int) (hk : 1 ≤ k) (hk2 : k ≤ 4611686018427387904) (w : World) : Calls Try.prog 15 #[.int .i64 n, .int .i64 k] w fun e w' => e = .returned (.int .i64 (n % k)) ∧ w = w' := by
  have hm0 : 0 ≤ n % k := Int.emod_nonneg _ (by omega)
  have hm1 : n % k < k := Int.emod_lt_of_pos _ (by omega)
  by_cases hn : 0 ≤ n
  · go_enter Try.func15, Try.ntmps15
    go_wp2
    go_ret
    exact ⟨rfl, rfl⟩
  · have ht := tmod_neg hk (show n < 0 by omega)
    go_enter Try.func15, Try.ntmps15
    go_wp2
    all_goals go_ret
    all_goals exact ⟨rfl, rfl⟩
end Go.Proofs.Ytinelhjkgikigaa.B
