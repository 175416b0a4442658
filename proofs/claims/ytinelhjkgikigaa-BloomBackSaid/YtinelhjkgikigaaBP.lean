/- Bloom: the plain laws on bytes and bits. -/
import Derived.Test.YtinelhjkgikigaaBG
namespace Go.Proofs.Ytinelhjkgikigaa.B
open Go Go.RowKit Go.Proofs.Ytinelhjkgikigaa.K

def BytesOk (bs : List Int) : Prop := ∀ x ∈ bs, byteOk x
theorem BytesOk.rng {bs : List Int} (h : BytesOk bs) (j : Nat) : 0 ≤ bs[j]?.getD 0 ∧ bs[j]?.getD 0 < 256 := by
  cases hj : bs[j]? with
  | none => simp
  | some x => exact h x (List.mem_of_getElem? hj)

theorem or_u8 {x y : Int} (hx : byteOk x) (hy : byteOk y) : Go.bits .or .u8 x y = ((x.toNat ||| y.toNat : Nat) : Int) := by
  obtain ⟨hx0, hx1⟩ := hx
  obtain ⟨hy0, hy1⟩ := hy
  obtain ⟨a, rfl⟩ := Int.eq_ofNat_of_zero_le hx0
  obtain ⟨b, rfl⟩ := Int.eq_ofNat_of_zero_le hy0
  have h := Nat.or_lt_two_pow (n := 8) (x := a) (y := b) (by omega) (by omega)
  have ea : ((a : Int) % 2 ^ 8).toNat = a := by omega
  have eb : ((b : Int) % 2 ^ 8).toNat = b := by omega
  show IntKind.u8.wrap ((BitVec.ofInt 8 (a : Int) ||| BitVec.ofInt 8 (b : Int)).toNat : Int) = _
  rw [BitVec.toNat_or, BitVec.toNat_ofInt, BitVec.toNat_ofInt]
  simp only [IntKind.wrap_u8, Int.toNat_natCast]
  have e1 : ((a : Int) % ((2 ^ 8 : Nat) : Int)).toNat = a := ea
  have e2 : ((b : Int) % ((2 ^ 8 : Nat) : Int)).toNat = b := eb
  rw [e1, e2]
  omega
theorem and_u8 {x : Int} (hx : byteOk x) : Go.bits .and .u8 x 1 = x % 2 := by
  obtain ⟨hx0, hx1⟩ := hx
  obtain ⟨a, rfl⟩ := Int.eq_ofNat_of_zero_le hx0
  have e1 : ((a : Int) % ((2 ^ 8 : Nat) : Int)).toNat = a := by omega
  have e2 : ((1 : Int) % ((2 ^ 8 : Nat) : Int)).toNat = 1 := rfl
  show IntKind.u8.wrap ((BitVec.ofInt 8 (a : Int) &&& BitVec.ofInt 8 1).toNat : Int) = _
  rw [BitVec.toNat_and, BitVec.toNat_ofInt, BitVec.toNat_ofInt, e1, e2, Nat.and_one_is_mod]
  simp only [IntKind.wrap_u8]
  omega

def on (bs : List Int) (n : Int) : Bool := (bs[(n / 8).toNat]?.getD 0).toNat.testBit (n % 8).toNat

theorem hasBit_on {bs : List Int} (h : BytesOk bs) (n : Int) : hasBit bs n = on bs n := by
  obtain ⟨h0, h1⟩ := h.rng (n / 8).toNat
  unfold hasBit on
  generalize bs[(n / 8).toNat]?.getD 0 = x at *
  generalize (n % 8).toNat = j
  obtain ⟨a, rfl⟩ := Int.eq_ofNat_of_zero_le h0
  have e : ((a : Int) / 2 ^ j) = ((a / 2 ^ j : Nat) : Int) := by simp
  have hd : a / 2 ^ j ≤ a := Nat.div_le_self _ _
  rw [e, Int.toNat_natCast, Nat.testBit_eq_decide_div_mod_eq]
  generalize a / 2 ^ j = q at *
  rw [and_u8 ⟨by omega, by omega⟩]
  rw [Bool.eq_iff_iff]
  simp
  omega

theorem setBit_ok {bs : List Int} (h : BytesOk bs) (n : Int) : BytesOk (setBit bs n) := by
  intro x hx
  rcases List.mem_or_eq_of_mem_set hx with hx | rfl
  · exact h x hx
  · exact bits_u8_ok _ _ _
theorem setBits_ok {l : List Int} : ∀ {bs : List Int}, BytesOk bs → BytesOk (setBits bs l) := by
  induction l with
  | nil => intro bs h; exact h
  | cons x l ih => intro bs h; exact ih (setBit_ok h x)

theorem pow_u8 (j : Nat) (h : j < 8) : (2 ^ j % 256 : Int) = ((2 ^ j : Nat) : Int) := by
  have : j = 0 ∨ j = 1 ∨ j = 2 ∨ j = 3 ∨ j = 4 ∨ j = 5 ∨ j = 6 ∨ j = 7 := by omega
  rcases this with rfl | rfl | rfl | rfl | rfl | rfl | rfl | rfl <;> rfl

theorem on_setBit {bs : List Int} (h : BytesOk bs) {n m : Int} (hn0 : 0 ≤ n) (hn1 : n < 8 * bs.length) (hm0 : 0 ≤ m) : on (setBit bs n) m = (on bs m || decide (m = n)) := by
  have hr := h.rng (n / 8).toNat
  have hj : (n % 8).toNat < 8 := by omega
  have hi : (n / 8).toNat < bs.length := by omega
  unfold on setBit
  have hp : byteOk ((2 ^ (n % 8).toNat : Nat) : Int) := by
    have : (2 : Nat) ^ (n % 8).toNat < 2 ^ 8 := Nat.pow_lt_pow_right (by omega) hj
    generalize (2 : Nat) ^ (n % 8).toNat = q at *
    exact ⟨by omega, by omega⟩
  rw [pow_u8 _ hj, or_u8 hr hp, List.getElem?_set]
  by_cases e : (n / 8).toNat = (m / 8).toNat
  · rw [if_pos e, if_pos hi, Option.getD_some, Int.toNat_natCast, Int.toNat_natCast, Nat.testBit_or, Nat.testBit_two_pow, e]
    congr 1
    rw [Bool.eq_iff_iff]
    simp
    omega
  · rw [if_neg e]
    have : m ≠ n := by rintro rfl; exact e rfl
    simp [this]

theorem on_setBits {l : List Int} : ∀ {bs : List Int} (_ : BytesOk bs) (_ : ∀ x ∈ l, 0 ≤ x ∧ x < 8 * bs.length) {m : Int} (_ : 0 ≤ m), on (setBits bs l) m = (on bs m || decide (m ∈ l)) := by
  induction l with
  | nil => intro bs h hl m hm; simp [setBits]
  | cons x l ih =>
    intro bs h hl m hm
    have hx := hl x (by simp)
    have := ih (setBit_ok h x) (fun y hy => by rw [setBit_len]; exact hl y (by simp [hy])) hm
    simp only [setBits, List.foldl_cons] at this ⊢
    rw [this, on_setBit h hx.1 hx.2 hm, Bool.or_assoc]
    congr 1
    rw [Bool.eq_iff_iff]
    simp

theorem spotsOf_rng (h : List Int) (p n : Nat) (hn : 1 ≤ n) : ∀ x ∈ spotsOf h p n, 0 ≤ x ∧ x < 8 * n := spotL_rng _ _ (by omega) _ _
theorem spotsOf_len (h : List Int) (p n : Nat) : (spotsOf h p n).length = p := spotL_len _ _ _ _

theorem addAll_len (p : Nat) : ∀ (hs : List (List Int)) (bs : List Int), (addAll bs p hs).length = bs.length
  | [], bs => rfl
  | h :: hs, bs => by
    have := addAll_len p hs (setBits bs (spotsOf h p bs.length))
    simp only [addAll, List.foldl_cons] at this ⊢
    rw [this, setBits_len]
theorem addAll_ok (p : Nat) : ∀ (hs : List (List Int)) (bs : List Int), BytesOk bs → BytesOk (addAll bs p hs)
  | [], bs, h => h
  | x :: hs, bs, h => by
    have := addAll_ok p hs (setBits bs (spotsOf x p bs.length)) (setBits_ok h)
    simpa only [addAll, List.foldl_cons] using this
theorem on_addAll (p : Nat) : ∀ (hs : List (List Int)) (bs : List Int), BytesOk bs → 1 ≤ bs.length → ∀ m : Int, 0 ≤ m → on (addAll bs p hs) m = (on bs m || decide (∃ h ∈ hs, m ∈ spotsOf h p bs.length))
  | [], bs, h, _, m, _ => by simp [addAll]
  | x :: hs, bs, h, hn, m, hm => by
    have := on_addAll p hs (setBits bs (spotsOf x p bs.length)) (setBits_ok h) (by rw [setBits_len]; exact hn) m hm
    simp only [addAll, List.foldl_cons] at this ⊢
    rw [this, on_setBits h (spotsOf_rng x p bs.length hn) hm, setBits_len, Bool.or_assoc]
    congr 1
    rw [Bool.eq_iff_iff]
    simp

theorem on_or {xs ys : List Int} (hx : BytesOk xs) (hy : BytesOk ys) (h : xs.length = ys.length) (m : Int) : on (List.zipWith orB xs ys) m = (on xs m || on ys m) := by
  unfold on
  rw [List.getElem?_zipWith]
  generalize (m / 8).toNat = i
  by_cases hi : i < xs.length
  · have e1 : xs[i]? = some xs[i] := List.getElem?_eq_getElem hi
    have e2 : ys[i]? = some ys[i] := List.getElem?_eq_getElem (by omega)
    rw [e1, e2]
    simp only [Option.getD_some]
    rw [orB, or_u8 (hx _ (List.getElem_mem _)) (hy _ (List.getElem_mem _)), Int.toNat_natCast, Nat.testBit_or]
  · have e1 : xs[i]? = none := List.getElem?_eq_none (by omega)
    have e2 : ys[i]? = none := List.getElem?_eq_none (by omega)
    rw [e1, e2]
    simp
theorem or_ok {xs ys : List Int} : BytesOk (List.zipWith orB xs ys) := by
  intro x hx
  obtain ⟨i, hi, rfl⟩ := List.mem_iff_getElem.1 hx
  rw [List.getElem_zipWith]
  exact bits_u8_ok _ _ _

theorem hasBits_iff {bs : List Int} (h : BytesOk bs) (l : List Int) : hasBits bs l = true ↔ ∀ m ∈ l, on bs m = true := by
  unfold hasBits
  rw [List.all_eq_true]
  exact ⟨fun h' m hm => by rw [← hasBit_on h]; exact h' m hm, fun h' m hm => by rw [hasBit_on h]; exact h' m hm⟩

theorem rep_ok (n : Nat) : BytesOk (List.replicate n 0) := by
  intro x hx; rw [List.mem_replicate] at hx; rw [hx.2]; exact ⟨by omega, by omega⟩
theorem bitsFor_rng (n : Nat) : 8 ≤ (bitsFor n / 8).toNat ∧ (bitsFor n / 8).toNat ≤ 8192 ∧ bitsFor n = 8 * (bitsFor n / 8).toNat := by
  unfold bitsFor; omega
theorem ofB_len (hs : List (List Int)) : (ofB hs).length = (bitsFor (uniq hs).length / 8).toNat := by rw [ofB, addAll_len, List.length_replicate]
theorem ofB_ok (hs : List (List Int)) : BytesOk (ofB hs) := addAll_ok _ _ _ (rep_ok _)
theorem on_rep (n : Nat) (m : Int) : on (List.replicate n 0) m = false := by
  unfold on
  rw [List.getElem?_replicate]
  split <;> simp
theorem popAll_rep (n : Nat) : popAll (List.replicate n 0) = 0 := by
  simp [popAll, List.map_replicate, List.sum_replicate_nat, pop8]
theorem ofB_nil : ofB [] = List.replicate 8 0 := by decide
end Go.Proofs.Ytinelhjkgikigaa.B
