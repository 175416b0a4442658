/- Seq: put and take of a row; Insert, Take, Show, New, Fork. -/
import Derived.Test.YtefkmdejcdhnjaaSE
import Derived.Test.YtefkmdejcdhnjaaKG
namespace Go.Proofs.Ytefkmdejcdhnjaa.S
open Go Go.RowKit Go.Shelf Go.Proofs.Ytefkmdejcdhnjaa.K
set_option maxRecDepth 100000

/-- what a call on the sequence at p, whose slice was v, may have turned; where its slice lies now -/
structure SqStep (w w' : World) (p : Nat) (v v' : Value) : Prop where
  chg : Chg (p :: v.ownBlock.toList) w w'
  loc : ∀ g, v'.ownBlock = some g → v.ownBlock = some g ∨ w.heap.size ≤ g

def insE (xs : List ElV) (i : Nat) (x : ElV) : List ElV := xs.take i ++ x :: xs.drop i
theorem insE_len {xs : List ElV} {i : Nat} {x : ElV} (hi : i ≤ xs.length) : (insE xs i x).length = xs.length + 1 := by simp [insE]; omega

set_option maxHeartbeats 1000000 in
theorem put_of {w : World} {p : Nat} {s : Value} {xs : List ElV} (h : Sq w p s xs) {i : Nat} (hi : i ≤ xs.length) (x : ElV) (hsz : xs.length + 1 ≤ 1099511627776) :
    Calls Try.prog 41 #[.pointer (some ⟨p, 0, none⟩), .int .i64 i, .agg (elc x).toArray] w fun e w' => e = .returned (.tuple #[]) ∧ ∃ v', Sq w' p v' (insE xs i x) ∧ SqStep w w' p s v' := by
  have hlt := h.lt
  have hvl : ∀ g, s.ownBlock = some g → g < w.heap.size := fun g hg => (h.own.lt g hg).2
  have hB := Chg.alloc0 w (.cells (elc x).toArray 98)
  have hbx : Cs (w.alloc (.cells (elc x).toArray 98)) w.heap.size 0 (elc x) := Cs.of_heap (heap_new _ _) 0 (by intro j u hu; simpa using hu)
  have hmem := hB.heap h.mem (by simp)
  have hown := hB.owns h.own (by simp)
  obtain ⟨w1, hw1⟩ : ∃ w1, w1 = w.alloc (.cells (elc x).toArray 98) := ⟨_, rfl⟩
  have hs1 : w1.heap.size = w.heap.size + 1 := by rw [hw1]; simp
  rw [← hw1] at hbx hmem hown hB
  have hc0 : w1.cell? ⟨p, 0, none⟩ = some s := by rw [cell_of_row w1 p 0 _ _ _ hmem]; rfl
  have hpno : p ∉ s.ownBlock.toList := fun hm => h.ne (by simpa using hm)
  have hS0 : Chg [] w1 w1.drew := (Chg.refl [] w1).drew
  have hS1 : Chg [] w1 (w1.drew.alloc (.cells (elc x).toArray 98)) := hS0.alloc _
  have hvb : (w1.drew.alloc (.cells (elc x).toArray 98)).heap[w1.heap.size]? = some (.cells (elc x).toArray 98 (0, 0)) := heap_new w1.drew _
  have hne2 : s.ownBlock ≠ some w1.heap.size := fun e => by have := hvl _ e; omega
  have hbase2 : 0 ≤ (w1.drew.alloc (.cells (elc x).toArray 98)).heap.size := Nat.zero_le _
  have HH := Lib.hid h
  have HW := Lib.hid hw1
  have HS := Lib.hid hs1
  clear h
  go_enter Try.func41, Try.ntmps41
  go_wp2
  rw [← HW.out]
  clear hw1 hs1
  refine wp_region_U (fun wx => Chg [] w1 wx) [8, 9, 10, 11] (by kernel_rfl) ?_
  refine u_take0 (i := 0) (v := ?_) 6 rfl rfl (by kernel_rfl) (by kernel_rfl) (by kernel_rfl) (fun _ _ _ h => h) (by rfl) ?_ ?_
  case refine_2 => intro wx; go_simp; with_reducible rfl
  try simp only [Act.put, List.setIfInBounds_toArray, List.set_cons_succ, List.set_cons_zero]
  refine u_take0 (i := 1) (v := ?_) 7 rfl rfl (by kernel_rfl) (by kernel_rfl) (by kernel_rfl) (fun _ _ _ h => h) (by rfl) ?_ ?_
  case refine_2 => intro wx; go_simp; with_reducible rfl
  try simp only [Act.put, List.setIfInBounds_toArray, List.set_cons_succ, List.set_cons_zero]
  refine u_take0 (i := 2) (v := ?_) 8 rfl rfl (by kernel_rfl) (by kernel_rfl) (by kernel_rfl) (fun _ _ _ h => h) (by rfl) ?_ ?_
  case refine_2 => intro wx; go_simp; with_reducible rfl
  try simp only [Act.put, List.setIfInBounds_toArray, List.set_cons_succ, List.set_cons_zero]
  refine u_take0 (i := 3) (v := ?_) 9 rfl rfl (by kernel_rfl) (by kernel_rfl) (by kernel_rfl) (fun _ _ _ h => h) (by rfl) ?_ ?_
  case refine_2 => intro wx; go_simp; with_reducible rfl
  try simp only [Act.put, List.setIfInBounds_toArray, List.set_cons_succ, List.set_cons_zero]
  refine u_take (i := 4) (v := s) 10 rfl rfl (by kernel_rfl) (by kernel_rfl) (by kernel_rfl) (by kernel_rfl) (fun _ _ _ h => h) (by rfl) (fun wx hwx => (by have hcx := Chg.cell hwx hc0 (by simp); go_simp)) hS0 ?_
  try simp only [Act.put, List.setIfInBounds_toArray, List.set_cons_succ, List.set_cons_zero]
  refine u_take0 (i := 5) (v := ?_) 11 rfl rfl (by kernel_rfl) (by kernel_rfl) (by kernel_rfl) (fun _ _ _ h => h) (by rfl) ?_ ?_
  case refine_2 => intro wx; go_simp; with_reducible rfl
  try simp only [Act.put, List.setIfInBounds_toArray, List.set_cons_succ, List.set_cons_zero]
  refine u_take (i := 6) (v := .agg (elc x).toArray) 12 rfl rfl (by kernel_rfl) (by kernel_rfl) (by kernel_rfl) (by kernel_rfl) (fun _ _ _ h => h) (by rfl) (fun wx hwx => ex_loadAgg aggEl rfl (Cs.chg hbx hwx (by simp)) (elc_len x)) hS0 ?_
  try simp only [Act.put, List.setIfInBounds_toArray, List.set_cons_succ, List.set_cons_zero]
  -- 7: Op.buildSlice 89 1 #[(0, Operand.tmp 12)]
  refine u_step (i := 7) rfl (by kernel_rfl) (fun K hK => ?_)
  refine step_val (by rfl) (ex_build1 slEl rfl (by simp [elc_len])) ?_
  refine hK _ _ (fun _ _ => hS1) ?_
  clear hK
  try simp only [Act.put, List.setIfInBounds_toArray, List.set_cons_succ, List.set_cons_zero]
  -- 8: Op.call { callee := Callee.value (Operand.func 76), args := #[Operand.tmp 10, Op
  refine u_step (i := 8) rfl (by kernel_rfl) (fun K hK => ?_)
  go_simp
  go_wp2_with (fail)
  refine (insert_of (hS1.owns hown (by simp)) hi x hvb hne2 hbase2 hsz).mono ?_; rintro e w3 ⟨v', rfl, hown3, hch3, hloc3⟩; obtain ⟨ao3, c3, rfl, ha3⟩ := owns_form hown3; have hm3 := hch3.heap (hS1.heap hmem (by simp)) hpno; have q3 := cell_of_row w3 p 0 _ _ _ hm3; have f3 := frozen_of_row w3 p 0 _ _ hm3
  refine hK _ _ (fun h => absurd h (by decide)) ?_
  clear hK
  try simp only [Act.put, List.setIfInBounds_toArray, List.set_cons_succ, List.set_cons_zero]
  -- 9: Op.nilCheck (Operand.tmp 6)
  refine u_step (i := 9) rfl (by kernel_rfl) (fun K hK => ?_)
  go_simp
  refine hK _ _ (fun h => absurd h (by decide)) ?_
  clear hK
  try simp only [Act.put, List.setIfInBounds_toArray, List.set_cons_succ, List.set_cons_zero]
  -- 10: Op.fieldAddr 91 (Operand.tmp 15) 0
  refine u_step (i := 10) rfl (by kernel_rfl) (fun K hK => ?_)
  go_simp
  refine hK _ _ (fun h => absurd h (by decide)) ?_
  clear hK
  try simp only [Act.put, List.setIfInBounds_toArray, List.set_cons_succ, List.set_cons_zero]
  -- 11: Op.store 89 (Operand.tmp 16) (Operand.tmp 14)
  refine u_step (i := 11) rfl (by kernel_rfl) (fun K hK => ?_)
  go_simp
  refine hK _ _ (fun h => absurd h (by decide)) ?_
  clear hK
  try simp only [Act.put, List.setIfInBounds_toArray, List.set_cons_succ, List.set_cons_zero]
  refine u_done (by kernel_rfl) ?_ _

  go_wp2
  go_end0
  have hin := insE_len (x := x) hi
  have hpb : p < w1.heap.size := (Array.getElem?_eq_some_iff.1 hmem).1
  have hc3 : Chg s.ownBlock.toList w1 w3 := (hS1.weak).trans hch3
  have hne : (Value.slice ao3 (xs.length + 1) c3).ownBlock ≠ some p := fun e => by
    rcases hloc3 _ e with h' | h'
    · exact HH.out.ne h'
    · have := hS1.size; omega
  refine ⟨rfl, .slice ao3 (xs.length + 1) c3, ⟨heap_setCell_same _ _ 0 _ _ _ hm3, ?_, hne, by omega⟩, ⟨?_, ?_⟩⟩
  · rw [hin]
    exact ((Chg.refl [p] w3).setCell (.inl (by simp)) _).owns hown3 (fun g hg hm => hne (by simp at hm; subst hm; exact hg))
  · refine (hB.weak.trans' hc3 (fun _ h _ => h) (fun i hi _ => by simp at hi ⊢; exact .inr hi)).setCell (.inl (by simp)) _
  · intro g hg
    refine (hloc3 g hg).imp id (fun h' => ?_)
    have := hB.size; have := hS1.size; omega
end Go.Proofs.Ytefkmdejcdhnjaa.S
