/- Bloom: the law BloomBack, walked. -/
import Derived.Test.YtinelhjkgikigaaBS
import Derived.Test.YtinelhjkgikigaaBLNever
import Derived.Test.YtinelhjkgikigaaBT
import Derived.Deep.RegionHeld3
namespace Go.Proofs.Ytinelhjkgikigaa.B
open Go Go.RowKit Go.Proofs.Ytinelhjkgikigaa.K Go.Proofs.Ytinelhjkgikigaa.W
set_option maxRecDepth 100000

theorem encB_len {p : Nat} {bs : List Int} (n2 : bs.length ≤ 8192) : (encB p bs).length ≤ 100000 := by
  have := W.uvar_len (8 * bs.length)
  have := W.uvar_len bs.length
  simp [encB]; omega
theorem encB_ok {p : Nat} {bs : List Int} (p2 : p ≤ 16) (ok : ∀ x ∈ bs, byteOk x) : W.BytesOk (encB p bs) := by
  intro x hx
  simp only [encB, List.mem_append, List.mem_singleton] at hx
  rcases hx with ((hx | rfl) | hx) | hx
  · exact W.uvar_ok _ x hx
  · exact ⟨by omega, by omega⟩
  · exact W.uvar_ok _ x hx
  · exact ok x hx
/-- what was encoded is decoded -/
theorem decode_enc {w : World} {x : Value} {p : Nat} {bs : List Int} (hx : Src w x (encB p bs).length ((encB p bs).map (Value.int .u8))) (p1 : 1 ≤ p) (p2 : p ≤ 16) (n1 : 1 ≤ bs.length) (n2 : bs.length ≤ 8192) (ok : ∀ x ∈ bs, byteOk x) :
    Calls Try.prog 33 #[x] w fun e w' => ∃ b g, e = .returned (.tuple #[.pointer (some ⟨b, 0, none⟩), .int .i64 0, .int .i64 0]) ∧ Chg [] w w' ∧ w.heap.size ≤ b ∧ w.heap.size ≤ g ∧ Fil w' b g p bs := by
  obtain ⟨h1, h2, h3⟩ := dec_enc p1 p2 n1 n2
  refine (decode_of hx (encB_ok p2 ok) (by have := encB_len (p := p) n2; omega)).mono ?_
  rw [h1, h2, h3]
  rintro e w' ⟨P, he, hc, hif⟩
  rw [if_pos rfl] at hif
  obtain ⟨b, g, rfl, hb, hg, hF⟩ := hif
  exact ⟨b, g, by simpa using he, hc, hb, hg, by simpa using hF⟩
/-- what is decoded was encoded so -/
theorem decode_any {w : World} {x : Value} {B : List Int} (hx : Src w x B.length (B.map (Value.int .u8))) (ok : W.BytesOk B) (hsz : B.length ≤ 140737488355328) :
    Calls Try.prog 33 #[x] w fun e w' => Chg [] w w' ∧ ((∃ b g p bs, e = .returned (.tuple #[.pointer (some ⟨b, 0, none⟩), .int .i64 0, .int .i64 0]) ∧ Fil w' b g p bs ∧ B = encB p bs) ∨ ∃ y z, e = .returned (.tuple #[.pointer none, .int .i64 y, .int .i64 z]) ∧ (y != 0) = true) := by
  refine (decode_of hx ok hsz).mono ?_
  rintro e w' ⟨P, he, hc, hif⟩
  refine ⟨hc, ?_⟩
  by_cases hz : (dS6 B).done.1 = 0
  · rw [if_pos hz] at hif he
    obtain ⟨b, g, rfl, hb, hg, hF⟩ := hif
    rw [hz] at he
    exact .inl ⟨b, g, _, _, he, hF, enc_dec ok hz⟩
  · rw [if_neg hz] at hif he
    subst hif
    exact .inr ⟨_, _, he, by simpa using hz⟩

theorem heldB_step {A wx wy : World} {b : Nat} {l : List Value} (h : Chg [] A wx ∧ wx.rangeAt b 0 l) (hc : Chg [] wx wy) : Chg [] A wy ∧ wy.rangeAt b 0 l :=
  ⟨h.1.trans hc, fun j u hu => hc.cell (h.2 j u hu) (by simp)⟩
theorem heldB_same {A wx : World} {b : Nat} {l : List Value} (h : Chg [] A wx ∧ wx.rangeAt b 0 l) : Chg [] A wx ∧ wx.rangeAt b 0 l := h
theorem sameInts_any {w : World} {x y : Value} {n m b b' : Nat} {xs ys : List Int} (hx : w.ownsRow b 3 1 x n (xs.map (Value.int .i64))) (hy : w.ownsRow b' 3 1 y m (ys.map (Value.int .i64))) (lx : xs.length ≤ 16 := by assumption) (ly : ys.length ≤ 16 := by assumption) :
    Calls Try.prog 28 #[x, y] w fun e w' => e = .returned (.bool (decide (xs = ys))) ∧ Chg [] w w' := by
  have h1 : n = xs.length := by have := hx.1; simp at this; omega
  have h2 : m = ys.length := by have := hy.1; simp at this; omega
  subst h1 h2
  exact sameInts_of (Src.of_owns hx) (Src.of_owns hy) (by omega) (by omega)
set_option maxHeartbeats 4000000 in
theorem back_walk {w : World} {ao : Option Addr} {b off c : Nat} {hs : List (List Int)} (A : HsArg w ao b off hs) {x : Value} {B : List Int} (hx : Src w x B.length (B.map (Value.int .u8))) (ok : W.BytesOk B) (hsz : B.length ≤ 140737488355328) {h : List Int} (hok : HashOk h) :
    Calls Try.prog 7 #[.slice ao hs.length c, x, .agg (hv h)] w fun e w' => e = .returned (.bool true) ∧ Chg [] w w' := by
  go_enter Try.func7, Try.ntmps7
  go_wp2_with fail
  refine (of_arg (A.of (Chg.alloc0 w _))).mono ?_
  rintro e w1 ⟨b1, g1, rfl, F1, hc1, hb1, hg1⟩
  go_wp2_with fail
  refine (encode_of F1).mono ?_
  rintro e w2 ⟨v2, rfl, o2, hc2⟩
  have hoB := ofB_ok hs
  have G1 := F1.chg hc2 (by simp) (by simp)
  go_wp2_with fail
  refine (decode_enc (Src.of_owns o2) (by omega) (by omega) F1.n1 F1.n2 F1.ok).mono ?_
  rintro e w3 ⟨b3, g3, rfl, hc3, hb3, hg3, F3⟩
  have G3 := G1.chg hc3 (by simp) (by simp)
  have o3 := hc3.owns o2 (by simp)
  have hbx : Cs w3 w.heap.size 0 (hv h).toList := by
    have h0 : Cs (w.alloc (.cells (hv h) 27)) w.heap.size 0 (hv h).toList := Cs.of_heap (heap_new _ _) 0 (by intro j u hu; simpa using hu)
    exact ((h0.chg hc1 (by simp)).chg hc2 (by simp)).chg hc3 (by simp)
  have hcw3 : Chg [] w w3 := (Chg.alloc0 w _).trans (hc1.trans (hc2.trans hc3))
  clear F1 G1 hc1 hc2 hc3 o2
  go_wp2_with fail
  have hL := hv_len hok
  have u27 : Try.prog.underlying 27 = some (.array 32 5) := by kernel_rfl
  have hi27 : (Try.prog.info? 27).map (·.size) = some (hv h).toList.length := by simp only [Array.length_toList, hL]; kernel_rfl
  have hlX : (encB 7 (ofB hs)).length ≤ 140737488355328 := by have := encB_len (p := 7) F3.n2; omega
  obtain ⟨cF, qF0, qF1⟩ := F3.cells
  have hlS : (spotsOf h 7 (ofB hs).length).length ≤ 16 := by have := spotL_len (comb h 8 8) (8 * (ofB hs).length) 7 (comb h 0 8); unfold spotsOf; omega
  obtain ⟨cG, qG0, qG1⟩ := G3.cells
  have hS0 : Chg [] w3 w3.drew := (Chg.refl [] w3).drew
  refine wp_region_held (S := fun wx => Chg [] w3 wx) (by kernel_rfl) ?_
  change wpAnyH _ _ _ _ _ _ _ _ (World.drew _)
  refine held_take (i := 0) (v := ?_) 24 rfl rfl (by kernel_rfl) (by kernel_rfl) (by kernel_rfl) (fun _ _ _ h => h) (by rfl) ?_ hS0 ?_
  case refine_2 => intro wx hwx; go_simp; with_reducible rfl
  try simp only [Act.put, List.setIfInBounds_toArray, List.set_cons_succ, List.set_cons_zero]
  refine held_take (i := 1) (v := ?_) 25 rfl rfl (by kernel_rfl) (by kernel_rfl) (by kernel_rfl) (fun _ _ _ h => h) (by rfl) ?_ hS0 ?_
  case refine_2 => intro wx hwx; go_simp; with_reducible rfl
  try simp only [Act.put, List.setIfInBounds_toArray, List.set_cons_succ, List.set_cons_zero]
  refine held_take (i := 2) (v := ?_) 26 rfl rfl (by kernel_rfl) (by kernel_rfl) (by kernel_rfl) (fun _ _ _ h => h) (by rfl) ?_ hS0 ?_
  case refine_2 => intro wx hwx; go_simp; with_reducible rfl
  try simp only [Act.put, List.setIfInBounds_toArray, List.set_cons_succ, List.set_cons_zero]
  refine held_take (i := 3) (v := ?_) 27 rfl rfl (by kernel_rfl) (by kernel_rfl) (by kernel_rfl) (fun _ _ _ h => h) (by rfl) ?_ hS0 ?_
  case refine_2 => intro wx hwx; go_simp; with_reducible rfl
  try simp only [Act.put, List.setIfInBounds_toArray, List.set_cons_succ, List.set_cons_zero]
  refine held_take (i := 4) (v := ?_) 28 rfl rfl (by kernel_rfl) (by kernel_rfl) (by kernel_rfl) (fun _ _ _ h => h) (by rfl) ?_ hS0 ?_
  case refine_2 => intro wx hwx; go_simp; with_reducible rfl
  try simp only [Act.put, List.setIfInBounds_toArray, List.set_cons_succ, List.set_cons_zero]
  refine held_take (i := 5) (v := ?_) 29 rfl rfl (by kernel_rfl) (by kernel_rfl) (by kernel_rfl) (fun _ _ _ h => h) (by rfl) ?_ hS0 ?_
  case refine_2 => intro wx hwx; go_simp; with_reducible rfl
  try simp only [Act.put, List.setIfInBounds_toArray, List.set_cons_succ, List.set_cons_zero]
  refine held_take (i := 6) (v := ?_) 30 rfl rfl (by kernel_rfl) (by kernel_rfl) (by kernel_rfl) (fun _ _ _ h => h) (by rfl) ?_ hS0 ?_
  case refine_2 => intro wx hwx; go_simp; with_reducible rfl
  try simp only [Act.put, List.setIfInBounds_toArray, List.set_cons_succ, List.set_cons_zero]
  refine held_take (i := 7) (v := ?_) 31 rfl rfl (by kernel_rfl) (by kernel_rfl) (by kernel_rfl) (fun _ _ _ h => h) (by rfl) ?_ hS0 ?_
  case refine_2 => intro wx hwx; go_simp; with_reducible rfl
  try simp only [Act.put, List.setIfInBounds_toArray, List.set_cons_succ, List.set_cons_zero]
  refine held_take (i := 8) (v := ?_) 32 rfl rfl (by kernel_rfl) (by kernel_rfl) (by kernel_rfl) (fun _ _ _ h => h) (by rfl) ?_ hS0 ?_
  case refine_2 => intro wx hwx; go_simp; with_reducible rfl
  try simp only [Act.put, List.setIfInBounds_toArray, List.set_cons_succ, List.set_cons_zero]
  refine held_take (i := 9) (v := ?_) 33 rfl rfl (by kernel_rfl) (by kernel_rfl) (by kernel_rfl) (fun _ _ _ h => h) (by rfl) ?_ hS0 ?_
  case refine_2 => intro wx hwx; go_simp; with_reducible rfl
  try simp only [Act.put, List.setIfInBounds_toArray, List.set_cons_succ, List.set_cons_zero]
  refine held_take (i := 10) (v := ?_) 34 rfl rfl (by kernel_rfl) (by kernel_rfl) (by kernel_rfl) (fun _ _ _ h => h) (by rfl) ?_ hS0 ?_
  case refine_2 => intro wx hwx; go_simp; with_reducible rfl
  try simp only [Act.put, List.setIfInBounds_toArray, List.set_cons_succ, List.set_cons_zero]
  refine held_take (i := 11) (v := ?_) 35 rfl rfl (by kernel_rfl) (by kernel_rfl) (by kernel_rfl) (fun _ _ _ h => h) (by rfl) ?_ hS0 ?_
  case refine_2 => intro wx hwx; go_simp; with_reducible rfl
  try simp only [Act.put, List.setIfInBounds_toArray, List.set_cons_succ, List.set_cons_zero]
  refine held_take (i := 13) (v := ?_) 37 rfl rfl (by kernel_rfl) (by kernel_rfl) (by kernel_rfl) (fun _ _ _ h => h) (by rfl) ?_ hS0 ?_
  case refine_2 => intro wx hwx; go_simp; with_reducible rfl
  try simp only [Act.put, List.setIfInBounds_toArray, List.set_cons_succ, List.set_cons_zero]
  -- 12: Op.call { callee := Callee.value (Operand.func 18), args := #[Operand.tmp 35], a
  refine held_step (i := 12) rfl (by kernel_rfl) (fun K hK => ?_)
  go_simp
  go_wp2_with (go_at_call 18; (with_reducible refine (encode_of (F3.chg hS0 (by simp) (by simp))).mono ?_); rintro e w4 ⟨v4, rfl, o4, hc4⟩; have hS12 := hS0.trans hc4)
  refine hK _ _ (hS12) ?_
  clear hK
  try simp only [Act.put, List.setIfInBounds_toArray, List.set_cons_succ, List.set_cons_zero]
  -- 14: Op.call { callee := Callee.value (Operand.func 17), args := #[Operand.tmp 36, Op
  refine held_step (i := 14) rfl (by kernel_rfl) (fun K hK => ?_)
  go_simp
  go_wp2_with (go_at_call 17; (with_reducible refine (same_of (Src.of_owns o4) (Src.of_owns (hS12.owns o3 (by simp))) hlX hlX).mono ?_); rintro e w5 ⟨rfl, hc5⟩; rw [decide_eq_true rfl]; have hS14 := hS12.trans hc5)
  refine hK _ _ (hS14) ?_
  clear hK
  try simp only [Act.put, List.setIfInBounds_toArray, List.set_cons_succ, List.set_cons_zero]
  refine held_take (i := 15) (v := ?_) 39 rfl rfl (by kernel_rfl) (by kernel_rfl) (by kernel_rfl) (fun _ _ _ h => h) (by rfl) ?_ hS14 ?_
  case refine_2 => intro wx hwx; go_simp; with_reducible rfl
  try simp only [Act.put, List.setIfInBounds_toArray, List.set_cons_succ, List.set_cons_zero]
  refine held_take (i := 16) (v := ?_) 40 rfl rfl (by kernel_rfl) (by kernel_rfl) (by kernel_rfl) (fun _ _ _ h => h) (by rfl) ?_ hS14 ?_
  case refine_2 => intro wx hwx; go_simp; with_reducible rfl
  try simp only [Act.put, List.setIfInBounds_toArray, List.set_cons_succ, List.set_cons_zero]
  refine held_take (i := 17) (v := ?_) 41 rfl rfl (by kernel_rfl) (by kernel_rfl) (by kernel_rfl) (fun _ _ _ h => h) (by rfl) ?_ hS14 ?_
  case refine_2 => intro wx hwx; go_simp; with_reducible rfl
  try simp only [Act.put, List.setIfInBounds_toArray, List.set_cons_succ, List.set_cons_zero]
  refine held_take (i := 18) (v := ?_) 42 rfl rfl (by kernel_rfl) (by kernel_rfl) (by kernel_rfl) (fun _ _ _ h => h) (by rfl) ?_ hS14 ?_
  case refine_2 => intro wx hwx; go_simp; with_reducible rfl
  try simp only [Act.put, List.setIfInBounds_toArray, List.set_cons_succ, List.set_cons_zero]
  refine held_take (i := 20) (v := ?_) 44 rfl rfl (by kernel_rfl) (by kernel_rfl) (by kernel_rfl) (fun _ _ _ h => h) (by rfl) ?_ hS14 ?_
  case refine_2 => intro wx hwx; go_simp; with_reducible rfl
  try simp only [Act.put, List.setIfInBounds_toArray, List.set_cons_succ, List.set_cons_zero]
  -- 19: Op.call { callee := Callee.value (Operand.func 13), args := #[Operand.tmp 42], a
  refine held_step (i := 19) rfl (by kernel_rfl) (fun K hK => ?_)
  go_simp
  go_wp2_with (go_at_call 13; (with_reducible refine (bits_of b3 _ _ _ F3.n2 _ (hS14.cell qF1 (by simp))).mono ?_); rintro e w' ⟨rfl, rfl⟩)
  refine hK _ _ (hS14) ?_
  clear hK
  try simp only [Act.put, List.setIfInBounds_toArray, List.set_cons_succ, List.set_cons_zero]
  -- 21: Op.call { callee := Callee.value (Operand.func 13), args := #[Operand.tmp 44], a
  refine held_step (i := 21) rfl (by kernel_rfl) (fun K hK => ?_)
  go_simp
  go_wp2_with (go_at_call 13; (with_reducible refine (bits_of b1 _ _ _ F3.n2 _ (hS14.cell qG1 (by simp))).mono ?_); rintro e w' ⟨rfl, rfl⟩)
  refine hK _ _ (hS14) ?_
  clear hK
  try simp only [Act.put, List.setIfInBounds_toArray, List.set_cons_succ, List.set_cons_zero]
  refine held_take (i := 22) (v := ?_) 46 rfl rfl (by kernel_rfl) (by kernel_rfl) (by kernel_rfl) (fun _ _ _ h => h) (by rfl) ?_ hS14 ?_
  case refine_2 => intro wx hwx; go_simp; with_reducible rfl
  try simp only [Act.put, List.setIfInBounds_toArray, List.set_cons_succ, List.set_cons_zero]
  refine held_take (i := 23) (v := ?_) 47 rfl rfl (by kernel_rfl) (by kernel_rfl) (by kernel_rfl) (fun _ _ _ h => h) (by rfl) ?_ hS14 ?_
  case refine_2 => intro wx hwx; go_simp; with_reducible rfl
  try simp only [Act.put, List.setIfInBounds_toArray, List.set_cons_succ, List.set_cons_zero]
  refine held_take (i := 24) (v := ?_) 48 rfl rfl (by kernel_rfl) (by kernel_rfl) (by kernel_rfl) (fun _ _ _ h => h) (by rfl) ?_ hS14 ?_
  case refine_2 => intro wx hwx; go_simp; with_reducible rfl
  try simp only [Act.put, List.setIfInBounds_toArray, List.set_cons_succ, List.set_cons_zero]
  refine held_take (i := 25) (v := ?_) 49 rfl rfl (by kernel_rfl) (by kernel_rfl) (by kernel_rfl) (fun _ _ _ h => h) (by rfl) ?_ hS14 ?_
  case refine_2 => intro wx hwx; go_simp; with_reducible rfl
  try simp only [Act.put, List.setIfInBounds_toArray, List.set_cons_succ, List.set_cons_zero]
  refine held_take (i := 26) (v := .agg (hv h)) 50 rfl rfl (by kernel_rfl) (by kernel_rfl) (by kernel_rfl) (fun _ _ _ h => h) (by rfl) (fun wx hwx => ex_load rfl (run_loadVar_at loadHash (hbx.chg hwx (by simp)) (hv_len hok))) hS14 ?_
  try simp only [Act.put, List.setIfInBounds_toArray, List.set_cons_succ, List.set_cons_zero]
  refine held_take (i := 28) (v := ?_) 52 rfl rfl (by kernel_rfl) (by kernel_rfl) (by kernel_rfl) (fun _ _ _ h => h) (by rfl) ?_ hS14 ?_
  case refine_2 => intro wx hwx; go_simp; with_reducible rfl
  try simp only [Act.put, List.setIfInBounds_toArray, List.set_cons_succ, List.set_cons_zero]
  refine held_take (i := 29) (v := .agg (hv h)) 53 rfl rfl (by kernel_rfl) (by kernel_rfl) (by kernel_rfl) (fun _ _ _ h => h) (by rfl) (fun wx hwx => ex_load rfl (run_loadVar_at loadHash (hbx.chg hwx (by simp)) (hv_len hok))) hS14 ?_
  try simp only [Act.put, List.setIfInBounds_toArray, List.set_cons_succ, List.set_cons_zero]
  -- 27: Op.call { callee := Callee.value (Operand.func 12), args := #[Operand.tmp 49, Op
  refine held_step (i := 27) rfl (by kernel_rfl) (fun K hK => ?_)
  go_simp
  go_wp2_with (go_at_call 12; (with_reducible refine (has_of (F3.chg hS14 (by simp) (by simp)) hok).mono ?_); rintro e w6 ⟨rfl, hc6⟩; have hS27 := hS14.trans hc6)
  refine hK _ _ (hS27) ?_
  clear hK
  try simp only [Act.put, List.setIfInBounds_toArray, List.set_cons_succ, List.set_cons_zero]
  -- 30: Op.call { callee := Callee.value (Operand.func 12), args := #[Operand.tmp 52, Op
  refine held_step (i := 30) rfl (by kernel_rfl) (fun K hK => ?_)
  go_simp
  go_wp2_with (go_at_call 12; (with_reducible refine (has_of (G3.chg hS27 (by simp) (by simp)) hok).mono ?_); rintro e w7 ⟨rfl, hc7⟩; have hS30 := hS27.trans hc7)
  refine hK _ _ (hS30) ?_
  clear hK
  try simp only [Act.put, List.setIfInBounds_toArray, List.set_cons_succ, List.set_cons_zero]
  refine held_take (i := 31) (v := ?_) 55 rfl rfl (by kernel_rfl) (by kernel_rfl) (by kernel_rfl) (fun _ _ _ h => h) (by rfl) ?_ hS30 ?_
  case refine_2 => intro wx hwx; go_simp; with_reducible rfl
  try simp only [Act.put, List.setIfInBounds_toArray, List.set_cons_succ, List.set_cons_zero]
  refine held_take (i := 32) (v := ?_) 56 rfl rfl (by kernel_rfl) (by kernel_rfl) (by kernel_rfl) (fun _ _ _ h => h) (by rfl) ?_ hS30 ?_
  case refine_2 => intro wx hwx; go_simp; with_reducible rfl
  try simp only [Act.put, List.setIfInBounds_toArray, List.set_cons_succ, List.set_cons_zero]
  refine held_take (i := 33) (v := ?_) 57 rfl rfl (by kernel_rfl) (by kernel_rfl) (by kernel_rfl) (fun _ _ _ h => h) (by rfl) ?_ hS30 ?_
  case refine_2 => intro wx hwx; go_simp; with_reducible rfl
  try simp only [Act.put, List.setIfInBounds_toArray, List.set_cons_succ, List.set_cons_zero]
  refine held_take (i := 34) (v := ?_) 58 rfl rfl (by kernel_rfl) (by kernel_rfl) (by kernel_rfl) (fun _ _ _ h => h) (by rfl) ?_ hS30 ?_
  case refine_2 => intro wx hwx; go_simp; with_reducible rfl
  try simp only [Act.put, List.setIfInBounds_toArray, List.set_cons_succ, List.set_cons_zero]
  refine held_take (i := 35) (v := .agg (hv h)) 59 rfl rfl (by kernel_rfl) (by kernel_rfl) (by kernel_rfl) (fun _ _ _ h => h) (by rfl) (fun wx hwx => ex_load rfl (run_loadVar_at loadHash (hbx.chg hwx (by simp)) (hv_len hok))) hS30 ?_
  try simp only [Act.put, List.setIfInBounds_toArray, List.set_cons_succ, List.set_cons_zero]
  refine held_take (i := 37) (v := ?_) 61 rfl rfl (by kernel_rfl) (by kernel_rfl) (by kernel_rfl) (fun _ _ _ h => h) (by rfl) ?_ hS30 ?_
  case refine_2 => intro wx hwx; go_simp; with_reducible rfl
  try simp only [Act.put, List.setIfInBounds_toArray, List.set_cons_succ, List.set_cons_zero]
  refine held_take (i := 38) (v := .agg (hv h)) 62 rfl rfl (by kernel_rfl) (by kernel_rfl) (by kernel_rfl) (fun _ _ _ h => h) (by rfl) (fun wx hwx => ex_load rfl (run_loadVar_at loadHash (hbx.chg hwx (by simp)) (hv_len hok))) hS30 ?_
  try simp only [Act.put, List.setIfInBounds_toArray, List.set_cons_succ, List.set_cons_zero]
  -- 36: Op.call { callee := Callee.value (Operand.func 29), args := #[Operand.tmp 58, Op
  refine held_step (i := 36) rfl (by kernel_rfl) (fun K hK => ?_)
  go_simp
  go_wp2_with (go_at_call 29; (with_reducible refine (spots_of (F3.chg hS30 (by simp) (by simp)) hok).mono ?_); rintro e w8 ⟨v8, rfl, o8, hc8⟩; have hS36 := hS30.trans hc8)
  refine hK _ _ (hS36) ?_
  clear hK
  try simp only [Act.put, List.setIfInBounds_toArray, List.set_cons_succ, List.set_cons_zero]
  -- 39: Op.call { callee := Callee.value (Operand.func 29), args := #[Operand.tmp 61, Op
  refine held_step (i := 39) rfl (by kernel_rfl) (fun K hK => ?_)
  go_simp
  go_wp2_with (go_at_call 29; (with_reducible refine (spots_of (G3.chg hS36 (by simp) (by simp)) hok).mono ?_); rintro e w9 ⟨v9, rfl, o9, hc9⟩; have o8' := hc9.owns o8 (by simp); have hS39 := hS36.trans hc9)
  refine hK _ _ (hS39) ?_
  clear hK
  try simp only [Act.put, List.setIfInBounds_toArray, List.set_cons_succ, List.set_cons_zero]
  -- 40: Op.call { callee := Callee.value (Operand.func 28), args := #[Operand.tmp 60, Op
  refine held_step (i := 40) rfl (by kernel_rfl) (fun K hK => ?_)
  go_simp
  go_wp2_with (go_at_call 28; (with_reducible refine (sameInts_any o8' o9).mono ?_); rintro e w10 ⟨rfl, hc10⟩; rw [decide_eq_true rfl]; have hS40 := hS39.trans hc10)
  refine hK _ _ (hS40) ?_
  clear hK
  try simp only [Act.put, List.setIfInBounds_toArray, List.set_cons_succ, List.set_cons_zero]
  refine held_take (i := 41) (v := ?_) 65 rfl rfl (by kernel_rfl) (by kernel_rfl) (by kernel_rfl) (fun _ _ _ h => h) (by rfl) ?_ hS40 ?_
  case refine_2 => intro wx hwx; go_simp; with_reducible rfl
  try simp only [Act.put, List.setIfInBounds_toArray, List.set_cons_succ, List.set_cons_zero]
  refine held_take (i := 42) (v := ?_) 66 rfl rfl (by kernel_rfl) (by kernel_rfl) (by kernel_rfl) (fun _ _ _ h => h) (by rfl) ?_ hS40 ?_
  case refine_2 => intro wx hwx; go_simp; with_reducible rfl
  try simp only [Act.put, List.setIfInBounds_toArray, List.set_cons_succ, List.set_cons_zero]
  refine wpAnyH_done (by kernel_rfl) ?_ _
  have hxN := hx.chg (hcw3.trans hS40) (by simp)
  clear hS0 hS12 hS14 hS27 hS30 hS36 hS39 o3 o4 o8 o8' o9 qF0 qF1 qG0 qG1 hbx hb1 hg1 hb3 hg3 hlX hlS hL u27 hi27 hoB
  go_wp2_with fail
  refine (decode_any hxN ok hsz).mono ?_
  rintro e w11 ⟨hc11, (⟨b5, g5, p5, bs5, rfl, F5, hB⟩ | ⟨y, z, rfl, hy⟩)⟩
  · have hlB : (encB p5 bs5).length ≤ 140737488355328 := by have := encB_len (p := p5) F5.n2; omega
    have hx11 := hxN.chg hc11 (by simp)
    rw [hB] at hx11
    have hcw11 := (hcw3.trans hS40).trans hc11
    clear hB hxN
    go_wp2_with (first
      | (go_at_call 18; (with_reducible refine (encode_of F5).mono ?_); rintro e w12 ⟨v12, rfl, o12, hc12⟩; have hx12 := hx11.chg hc12 (by simp))
      | (go_at_call 17; (with_reducible refine (same_of (Src.of_owns o12) hx12 hlB hlB).mono ?_); rintro e w13 ⟨rfl, hc13⟩; rw [decide_eq_true rfl]))
    go_ret
    exact ⟨rfl, (hcw11.trans hc12).trans hc13⟩
  · go_wp2
    go_ret
    exact ⟨rfl, (hcw3.trans hS40).trans hc11⟩
end Go.Proofs.Ytinelhjkgikigaa.B
