/- Seq: lists of Ids that are read; SameIds; a sequence of the call's own. -/
import Derived.Test.YtefkmdejcdhnjaaSG
namespace Go.Proofs.Ytefkmdejcdhnjaa.S
open Go Go.RowKit Go.Shelf Go.Proofs.Ytefkmdejcdhnjaa.K
set_option maxRecDepth 100000

/-- an element of a row of values of c cells -/
theorem Cs.elem {w : World} {b off : Nat} {α : Type} {f : α → List Value} {c : Nat} (hc : ∀ x, (f x).length = c) {xs : List α} (h : Cs w b off (flat f xs)) {k : Nat} {x : α} (hx : xs[k]? = some x) : Cs w b (off + k * c) (f x) := fun j u hu => by
  have hj : j < c := by rw [← hc x]; exact (List.getElem?_eq_some_iff.1 hu).1
  have := h (k * c + j) u (by rw [flat_get hc hx hj]; exact hu)
  rwa [← Nat.add_assoc] at this

theorem same_of {w : World} {x y : Value} {xs ys : List IdV} (hx : Src w x xs.length (flat idc xs)) (hy : Src w y ys.length (flat idc ys)) (lx : xs.length ≤ 1099511627776) :
    Calls Try.prog 13 #[x, y] w fun e w' => e = .returned (.bool (decide (xs = ys))) ∧ Chg [] w w' := by
  have lfx := flat_len idc_len xs
  have lfy := flat_len idc_len ys
  by_cases hl : xs.length = ys.length
  · have d1 : ((xs.length : Int) != ys.length) = false := by simp [hl]
    have Hl := Lib.hid hl
    clear hl
    by_cases hz : xs.length = 0
    · have h2 : ys.length = 0 := by have := Hl.out; omega
      obtain rfl := List.eq_nil_of_length_eq_zero hz
      obtain rfl := List.eq_nil_of_length_eq_zero h2
      obtain ⟨ao, c, rfl, _⟩ := hx.out
      obtain ⟨ao', c', rfl, _⟩ := hy.out
      clear hx hy d1 h2 hz lfx lfy
      go_enter Try.func13, Try.ntmps13
      go_wp2
      go_rounds 1
      go_ret
      exact ⟨rfl, Chg.refl _ _⟩
    · obtain ⟨p, o, c, rfl, C1, _⟩ := hx.block (by omega) hz
      obtain ⟨p', o', c', rfl, C2, _⟩ := hy.block (by have := Hl.out; omega) (by have := Hl.out; omega)
      clear hx hy lfx lfy
      have HZ := Lib.hid hz
      clear hz
      go_enter Try.func13, Try.ntmps13
      go_wp2
      go_loopw [5] (fun i wr => ∃ k : Nat, k ≤ xs.length ∧ i = .int .i64 k ∧ xs.take k = ys.take k ∧ Chg [] w wr) (fun i _ => xs.length - (intOf i).toNat)
      case atStart => exact ⟨0, by omega, rfl, rfl, Chg.refl _ _⟩
      case round =>
        obtain ⟨k, hk, rfl, htk, hck⟩ := hrel
        have Htk := Lib.hid htk
        clear htk
        by_cases hlt : k < xs.length
        · obtain ⟨a, ha⟩ : ∃ a, xs[k]? = some a := ⟨_, List.getElem?_eq_getElem hlt⟩
          have hlt' : k < ys.length := by have := Hl.out; omega
          obtain ⟨b, hb⟩ : ∃ b, ys[k]? = some b := ⟨_, List.getElem?_eq_getElem hlt'⟩
          have cx : Cs wr p (o + k * 33) (idc a) := (Cs.elem idc_len C1 ha).chg hck (by simp)
          have cy : Cs wr p' (o' + k * 33) (idc b) := (Cs.elem idc_len C2 hb).chg hck (by simp)
          have Hx := Lib.hid ha
          have Hy := Lib.hid hb
          have hS0 : Chg [] wr wr.drew := (Chg.refl [] wr).drew
          have hk1 : (k : Int) < (xs.length : Int) := by omega
          have hk2 : (k : Int) < (ys.length : Int) := by omega
          have hk0 : (0 : Int) ≤ (k : Int) := by omega
          clear ha hb
          by_cases hab0 : a = b
          · have hab : (!decide (a = b)) = false := by simp [hab0]
            have HAB := Lib.hid hab0
            clear hab0
            go_wp2
            refine wp_region_U (fun wx => Chg [] wr wx) [] (by kernel_rfl) ?_
            refine u_take0 (i := 0) (v := ?_) 17 rfl rfl (by kernel_rfl) (by kernel_rfl) (by kernel_rfl) (fun _ _ _ h => h) (by rfl) ?_ ?_
            case refine_2 => intro wx; go_simp; with_reducible rfl
            try simp only [Act.put, List.setIfInBounds_toArray, List.set_cons_succ, List.set_cons_zero]
            refine u_take0 (i := 1) (v := ?_) 18 rfl rfl (by kernel_rfl) (by kernel_rfl) (by kernel_rfl) (fun _ _ _ h => h) (by rfl) ?_ ?_
            case refine_2 => intro wx; go_simp; with_reducible rfl
            try simp only [Act.put, List.setIfInBounds_toArray, List.set_cons_succ, List.set_cons_zero]
            refine u_take0 (i := 2) (v := ?_) 19 rfl rfl (by kernel_rfl) (by kernel_rfl) (by kernel_rfl) (fun _ _ _ h => h) (by rfl) ?_ ?_
            case refine_2 => intro wx; go_simp; with_reducible rfl
            try simp only [Act.put, List.setIfInBounds_toArray, List.set_cons_succ, List.set_cons_zero]
            refine u_take (i := 3) (v := .agg (idc a).toArray) 20 rfl rfl (by kernel_rfl) (by kernel_rfl) (by kernel_rfl) (by kernel_rfl) (fun _ _ _ h => h) (by rfl) (fun wx hwx => ex_loadAgg aggId rfl (Cs.chg cx hwx (by simp)) (idc_len _)) hS0 ?_
            try simp only [Act.put, List.setIfInBounds_toArray, List.set_cons_succ, List.set_cons_zero]
            refine u_take0 (i := 4) (v := ?_) 21 rfl rfl (by kernel_rfl) (by kernel_rfl) (by kernel_rfl) (fun _ _ _ h => h) (by rfl) ?_ ?_
            case refine_2 => intro wx; go_simp; with_reducible rfl
            try simp only [Act.put, List.setIfInBounds_toArray, List.set_cons_succ, List.set_cons_zero]
            refine u_take0 (i := 5) (v := ?_) 22 rfl rfl (by kernel_rfl) (by kernel_rfl) (by kernel_rfl) (fun _ _ _ h => h) (by rfl) ?_ ?_
            case refine_2 => intro wx; go_simp; with_reducible rfl
            try simp only [Act.put, List.setIfInBounds_toArray, List.set_cons_succ, List.set_cons_zero]
            refine u_take0 (i := 6) (v := ?_) 23 rfl rfl (by kernel_rfl) (by kernel_rfl) (by kernel_rfl) (fun _ _ _ h => h) (by rfl) ?_ ?_
            case refine_2 => intro wx; go_simp; with_reducible rfl
            try simp only [Act.put, List.setIfInBounds_toArray, List.set_cons_succ, List.set_cons_zero]
            refine u_take (i := 7) (v := .agg (idc b).toArray) 24 rfl rfl (by kernel_rfl) (by kernel_rfl) (by kernel_rfl) (by kernel_rfl) (fun _ _ _ h => h) (by rfl) (fun wx hwx => ex_loadAgg aggId rfl (Cs.chg cy hwx (by simp)) (idc_len _)) hS0 ?_
            try simp only [Act.put, List.setIfInBounds_toArray, List.set_cons_succ, List.set_cons_zero]
            refine u_take (i := 8) (v := .bool false) 25 rfl rfl (by kernel_rfl) (by kernel_rfl) (by kernel_rfl) (by kernel_rfl) (fun _ _ _ h => h) (by rfl) (fun wx hwx => ex_neId rfl rfl hab) hS0 ?_
            try simp only [Act.put, List.setIfInBounds_toArray, List.set_cons_succ, List.set_cons_zero]
            refine u_done (by kernel_rfl) ?_ _
            go_wp2
            go_roundw
            case rel =>
              refine ⟨k + 1, by omega, by go_num, ?_, hck.drew⟩
              rw [List.take_add_one, List.take_add_one, Htk.out, Hx.out, Hy.out, HAB.out]
            case measure => simp [intOf]; omega
          · have hab : (!decide (a = b)) = true := by simp [hab0]
            have HAB := Lib.hid hab0
            clear hab0
            go_wp2
            refine wp_region_U (fun wx => Chg [] wr wx) [] (by kernel_rfl) ?_
            refine u_take0 (i := 0) (v := ?_) 17 rfl rfl (by kernel_rfl) (by kernel_rfl) (by kernel_rfl) (fun _ _ _ h => h) (by rfl) ?_ ?_
            case refine_2 => intro wx; go_simp; with_reducible rfl
            try simp only [Act.put, List.setIfInBounds_toArray, List.set_cons_succ, List.set_cons_zero]
            refine u_take0 (i := 1) (v := ?_) 18 rfl rfl (by kernel_rfl) (by kernel_rfl) (by kernel_rfl) (fun _ _ _ h => h) (by rfl) ?_ ?_
            case refine_2 => intro wx; go_simp; with_reducible rfl
            try simp only [Act.put, List.setIfInBounds_toArray, List.set_cons_succ, List.set_cons_zero]
            refine u_take0 (i := 2) (v := ?_) 19 rfl rfl (by kernel_rfl) (by kernel_rfl) (by kernel_rfl) (fun _ _ _ h => h) (by rfl) ?_ ?_
            case refine_2 => intro wx; go_simp; with_reducible rfl
            try simp only [Act.put, List.setIfInBounds_toArray, List.set_cons_succ, List.set_cons_zero]
            refine u_take (i := 3) (v := .agg (idc a).toArray) 20 rfl rfl (by kernel_rfl) (by kernel_rfl) (by kernel_rfl) (by kernel_rfl) (fun _ _ _ h => h) (by rfl) (fun wx hwx => ex_loadAgg aggId rfl (Cs.chg cx hwx (by simp)) (idc_len _)) hS0 ?_
            try simp only [Act.put, List.setIfInBounds_toArray, List.set_cons_succ, List.set_cons_zero]
            refine u_take0 (i := 4) (v := ?_) 21 rfl rfl (by kernel_rfl) (by kernel_rfl) (by kernel_rfl) (fun _ _ _ h => h) (by rfl) ?_ ?_
            case refine_2 => intro wx; go_simp; with_reducible rfl
            try simp only [Act.put, List.setIfInBounds_toArray, List.set_cons_succ, List.set_cons_zero]
            refine u_take0 (i := 5) (v := ?_) 22 rfl rfl (by kernel_rfl) (by kernel_rfl) (by kernel_rfl) (fun _ _ _ h => h) (by rfl) ?_ ?_
            case refine_2 => intro wx; go_simp; with_reducible rfl
            try simp only [Act.put, List.setIfInBounds_toArray, List.set_cons_succ, List.set_cons_zero]
            refine u_take0 (i := 6) (v := ?_) 23 rfl rfl (by kernel_rfl) (by kernel_rfl) (by kernel_rfl) (fun _ _ _ h => h) (by rfl) ?_ ?_
            case refine_2 => intro wx; go_simp; with_reducible rfl
            try simp only [Act.put, List.setIfInBounds_toArray, List.set_cons_succ, List.set_cons_zero]
            refine u_take (i := 7) (v := .agg (idc b).toArray) 24 rfl rfl (by kernel_rfl) (by kernel_rfl) (by kernel_rfl) (by kernel_rfl) (fun _ _ _ h => h) (by rfl) (fun wx hwx => ex_loadAgg aggId rfl (Cs.chg cy hwx (by simp)) (idc_len _)) hS0 ?_
            try simp only [Act.put, List.setIfInBounds_toArray, List.set_cons_succ, List.set_cons_zero]
            refine u_take (i := 8) (v := .bool true) 25 rfl rfl (by kernel_rfl) (by kernel_rfl) (by kernel_rfl) (by kernel_rfl) (fun _ _ _ h => h) (by rfl) (fun wx hwx => ex_neId rfl rfl hab) hS0 ?_
            try simp only [Act.put, List.setIfInBounds_toArray, List.set_cons_succ, List.set_cons_zero]
            refine u_done (by kernel_rfl) ?_ _
            go_wp2
            go_ret
            refine ⟨?_, hck.drew⟩
            have : xs ≠ ys := by
              rintro rfl
              have := Hx.out.symm.trans Hy.out
              simp at this; exact HAB.out this
            simp [this]
        · obtain rfl : k = xs.length := by omega
          go_wp2
          go_ret
          refine ⟨?_, hck⟩
          have := Htk.out
          rw [List.take_length, Hl.out, List.take_length] at this
          simp [this]
  · obtain ⟨ao, c, rfl, _⟩ := hx.out
    obtain ⟨ao', c', rfl, _⟩ := hy.out
    have d1 : ((xs.length : Int) != ys.length) = true := by simp; omega
    have hne : decide (xs = ys) = false := by simp; rintro rfl; exact hl rfl
    clear hl hx hy lfx lfy
    go_enter Try.func13, Try.ntmps13
    go_wp2
    go_ret
    exact ⟨by rw [hne]; rfl, Chg.refl _ _⟩
end Go.Proofs.Ytefkmdejcdhnjaa.S
