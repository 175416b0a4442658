/- Wire: the writer in memory; put, Byte, Uint, Raw, Done; slices.Clone of bytes. -/
import Derived.Test.YtinelhjkgikigaaKB
import Derived.Test.YtinelhjkgikigaaRows
namespace Go.Proofs.Ytinelhjkgikigaa.W
open Go Go.RowKit Go.Proofs.Ytinelhjkgikigaa.K
set_option maxRecDepth 100000

def byteOk (x : Int) : Prop := 0 ≤ x ∧ x < 256
def BytesOk (bs : List Int) : Prop := ∀ x ∈ bs, byteOk x

theorem infoU8 : (Try.prog.info? 5).map (fun i => (i.zero, i.size, i.bytes)) = some (some (.int .u8 0), 1, 1) := by kernel_rfl
theorem tyBytes : SlTy Try.prog 37 5 (.int .u8 0) 1 1 := ⟨Try.underlying37, infoU8, rfl, by decide, by decide⟩

/-- the writer at block p: its slice v holds the bytes bs; its error why -/
structure Wr (w : World) (p : Nat) (v : Value) (bs : List Int) (why : Int) : Prop where
  mem : w.heap[p]? = some (.cells #[v, .int .i64 why] 95 (0, 0))
  own : w.ownsRow 0 5 1 v bs.length (bs.map (Value.int .u8))
  ne : v.ownBlock ≠ some p
  ok : BytesOk bs

theorem Wr.chg {S : List Nat} {w w' : World} {p : Nat} {v : Value} {bs : List Int} {why : Int} (h : Wr w p v bs why) (hc : Chg S w w') (hp : p ∉ S) (hg : ∀ g, v.ownBlock = some g → g ∉ S) : Wr w' p v bs why :=
  ⟨hc.heap h.mem hp, hc.owns h.own hg, h.ne, h.ok⟩
theorem Wr.cells {w : World} {p : Nat} {v : Value} {bs : List Int} {why : Int} (h : Wr w p v bs why) : w.cell? ⟨p, 0, none⟩ = some v ∧ w.cell? ⟨p, 1, none⟩ = some (.int .i64 why) ∧ w.frozen? ⟨p, 0, none⟩ = false ∧ w.frozen? ⟨p, 1, none⟩ = false :=
  ⟨by rw [cell_of_row w p 0 _ _ _ h.mem]; rfl, by rw [cell_of_row w p 1 _ _ _ h.mem]; rfl, frozen_of_row w p 0 _ _ h.mem, frozen_of_row w p 1 _ _ h.mem⟩
theorem Wr.lt {w : World} {p : Nat} {v : Value} {bs : List Int} {why : Int} (h : Wr w p v bs why) : p < w.heap.size := (Array.getElem?_eq_some_iff.1 h.mem).1
theorem Wr.made (w : World) : Wr (w.alloc (.cells #[.slice none 0 0, .int .i64 0] 95)) w.heap.size (.slice none 0 0) [] 0 :=
  ⟨heap_new _ _, World.ownsRow_nil _ _ _ _, by simp [Value.ownBlock], by simp [BytesOk]⟩

/-- what a call on the writer at p, whose slice was v, may have turned; where its slice lies now -/
structure WrStep (w w' : World) (p : Nat) (v v' : Value) : Prop where
  chg : Chg (p :: v.ownBlock.toList) w w'
  loc : ∀ g, v'.ownBlock = some g → v.ownBlock = some g ∨ w.heap.size ≤ g
theorem WrStep.refl (w : World) (p : Nat) (v : Value) : WrStep w w p v v := ⟨Chg.refl _ _, fun _ h => .inl h⟩
theorem WrStep.trans {w1 w2 w3 : World} {p : Nat} {v1 v2 v3 : Value} (h : WrStep w1 w2 p v1 v2) (k : WrStep w2 w3 p v2 v3) : WrStep w1 w3 p v1 v3 := by
  refine ⟨h.chg.trans' k.chg (fun _ h _ => h) (fun i hi hl => ?_), fun g hg => ?_⟩
  · rcases List.mem_cons.1 hi with rfl | hi
    · simp
    · rw [Value.ownBlock_mem] at hi
      rcases h.loc i hi with h' | h'
      · rw [List.mem_cons, Value.ownBlock_mem]; exact .inr h'
      · omega
  · rcases k.loc g hg with h' | h'
    · exact h.loc g h'
    · have := h.chg.size; exact .inr (by omega)
theorem WrStep.of_new {w w1 w2 : World} {p : Nat} {v v' : Value} (h : Chg [] w w1) (k : WrStep w1 w2 p v v') : WrStep w w2 p v v' :=
  ⟨h.trans' k.chg (fun _ h _ => by cases h) (fun _ h _ => h), fun g hg => (k.loc g hg).imp id (fun h' => by have := h.size; omega)⟩

theorem put_nil (x : Value) (w : World) : Calls Try.prog 85 #[.pointer none, x] w fun e w' => e = .returned (.tuple #[]) ∧ w = w' := by
  go_enter Try.func85, Try.ntmps85
  go_wp2
  go_end0
  exact ⟨rfl, rfl⟩
theorem put_bad {w : World} {p : Nat} {v : Value} {bs : List Int} {why : Int} (h : Wr w p v bs why) (hw : (why == 0) = false) (x : Value) : Calls Try.prog 85 #[.pointer (some ⟨p, 0, none⟩), x] w fun e w' => e = .returned (.tuple #[]) ∧ w = w' := by
  obtain ⟨c0, c1, _⟩ := h.cells
  go_enter Try.func85, Try.ntmps85
  go_wp2
  go_end0
  exact ⟨rfl, rfl⟩

theorem put_of {w : World} {p : Nat} {v : Value} {bs : List Int} (h : Wr w p v bs 0) {x : Value} {xs : List Int} (hx : Src w x xs.length (xs.map (Value.int .u8))) (ok : BytesOk xs) (hsz : bs.length + xs.length ≤ 140737488355328) :
    Calls Try.prog 85 #[.pointer (some ⟨p, 0, none⟩), x] w fun e w' => ∃ v', e = .returned (.tuple #[]) ∧ Wr w' p v' (bs ++ xs) 0 ∧ WrStep w w' p v v' := by
  obtain ⟨c0, c1, f0, f1⟩ := h.cells
  have hne := h.ne
  have hlt := h.lt
  have hown := h.own
  have Hok := Lib.hid ok
  clear ok
  go_enter Try.func85, Try.ntmps85
  go_wp2_with ((with_reducible show wpList _ _ _ (⟨some 19, _, _, _, _, _⟩ :: _) _ _); refine wpList_appendSrc tyBytes v bs.length (bs.map (Value.int .u8)) x xs.length (xs.map (Value.int .u8)) rfl rfl hown hx (by simp) (ints_one _ _) (by omega) (by unfold maxLen; omega) (Nat.zero_le _) ?_; intro v' w1 hown1 hch hnil hloc; obtain ⟨ao', c', rfl, _⟩ := owns_form hown1; have hm1 := hch.heap h.mem (by rw [Value.ownBlock_mem]; exact hne); have c0' : w1.cell? ⟨p, 0, none⟩ = some v := cell_of_row w1 p 0 _ _ _ hm1; have f0' := frozen_of_row w1 p 0 _ _ hm1)
  go_end0
  refine ⟨_, rfl, ⟨?_, ?_, ?_, ?_⟩, ⟨?_, hloc⟩⟩
  · exact heap_setCell_same w1 p 0 _ _ _ hm1
  · rw [List.length_append, List.map_append]
    exact (Chg.refl [p] w1 |>.setCell (.inl (by simp)) _).owns hown1 (fun g hg => by
      rcases hloc g hg with h' | h'
      · intro hm; simp at hm; subst hm; exact hne h'
      · simp; omega)
  · intro hp
    rcases hloc p hp with h' | h'
    · exact hne h'
    · omega
  · intro y hy
    rcases List.mem_append.1 hy with hy | hy
    · exact h.ok y hy
    · exact Hok.out y hy
  · exact (hch.mono (fun i hi _ => by simp [hi])).setCell (.inl (by simp)) _

/-- a number without sign, seven bits a byte, the low ones first -/
def uvar (n : Nat) : List Int := if h : n ≤ 127 then [(n : Int)] else ((n % 128 + 128 : Nat) : Int) :: uvar (n / 128)
termination_by n
decreasing_by omega
theorem uvar_small {n : Nat} (h : n ≤ 127) : uvar n = [(n : Int)] := by rw [uvar]; simp [h]
theorem uvar_big {n : Nat} (h : 127 < n) : uvar n = ((n % 128 + 128 : Nat) : Int) :: uvar (n / 128) := by rw [uvar]; simp [show ¬ n ≤ 127 by omega]
theorem uvar_ok (n : Nat) : BytesOk (uvar n) := by
  induction n using Nat.strongRecOn with
  | _ n ih =>
    by_cases h : n ≤ 127
    · rw [uvar_small h]; intro x hx; simp at hx; subst hx; exact ⟨by omega, by omega⟩
    · rw [uvar_big (by omega)]; intro x hx
      rcases List.mem_cons.1 hx with rfl | hx
      · exact ⟨by omega, by omega⟩
      · exact ih (n / 128) (by omega) x hx
theorem uvar_len (n : Nat) : (uvar n).length ≤ n + 1 := by
  induction n using Nat.strongRecOn with
  | _ n ih =>
    by_cases h : n ≤ 127
    · rw [uvar_small h]; simp
    · rw [uvar_big (by omega)]; have := ih (n / 128) (by omega); simp; omega
theorem or128 {x : Int} (h0 : 0 ≤ x) : Go.bits .or .u8 (x % 256) 128 = x % 128 + 128 := by
  have hm : ∀ m : Fin 256, Go.bits .or .u8 (m.val : Int) 128 = (m.val : Int) % 128 + 128 := by decide +kernel
  obtain ⟨a, rfl⟩ := Int.eq_ofNat_of_zero_le h0
  have := hm ⟨a % 256, by omega⟩
  have e : ((a : Int) % 256) = ((a % 256 : Nat) : Int) := by omega
  rw [e, this]
  simp only []
  omega

theorem put1_of {w : World} {p : Nat} {v : Value} {bs : List Int} (h : Wr w p v bs 0) {x : Int} (ok : byteOk x) (hsz : bs.length + 1 ≤ 140737488355328) :
    Calls Try.prog 85 #[.pointer (some ⟨p, 0, none⟩), .slice (some ⟨w.heap.size, 0, none⟩) 1 1] (w.alloc (.cells #[.int .u8 x] 5)) fun e w' => ∃ v', e = .returned (.tuple #[]) ∧ Wr w' p v' (bs ++ [x]) 0 ∧ WrStep w w' p v v' := by
  have H1 := h.chg (Chg.alloc0 w (.cells #[.int .u8 x] 5)) (by simp) (by simp)
  have hs : Src (w.alloc (.cells #[.int .u8 x] 5)) (.slice (some ⟨w.heap.size, 0, none⟩) 1 1) ([x] : List Int).length (([x] : List Int).map (Value.int .u8)) := Src.of_Cs (Cs.of_heap (heap_new _ _) 0 (by simp))
  exact (put_of H1 hs (by intro y hy; simp at hy; subst hy; exact ok) (by simpa using hsz)).mono fun e w1 ⟨v', he, hW, hst⟩ => ⟨v', he, hW, hst.of_new (Chg.alloc0 _ _)⟩

theorem byte_of {w : World} {p : Nat} {v : Value} {bs : List Int} (h : Wr w p v bs 0) {x : Int} (ok : byteOk x) (hsz : bs.length + 1 ≤ 140737488355328) :
    Calls Try.prog 42 #[.pointer (some ⟨p, 0, none⟩), .int .u8 x] w fun e w' => ∃ v', e = .returned (.tuple #[]) ∧ Wr w' p v' (bs ++ [x]) 0 ∧ WrStep w w' p v v' := by
  go_enter Try.func42, Try.ntmps42
  go_wp2_with (go_at_call 85; refine (put1_of h ok hsz).mono ?_; rintro e w1 ⟨v', rfl, hW, hst⟩)
  go_end0
  exact ⟨v', rfl, hW, hst⟩

theorem uint_of {w : World} {p : Nat} {v : Value} {bs : List Int} (h : Wr w p v bs 0) {n : Nat} (hsz : bs.length + (uvar n).length ≤ 140737488355328) :
    Calls Try.prog 41 #[.pointer (some ⟨p, 0, none⟩), .int .u64 n] w fun e w' => ∃ v', e = .returned (.tuple #[]) ∧ Wr w' p v' (bs ++ uvar n) 0 ∧ WrStep w w' p v v' := by
  go_enter Try.func41, Try.ntmps41
  go_wp2
  go_loopw [1] (fun x wr => ∃ m : Nat, x = .int .u64 m ∧ ∃ v1 b1, Wr wr p v1 b1 0 ∧ b1 ++ uvar m = bs ++ uvar n ∧ WrStep w wr p v v1) (fun x _ => (intOf x).toNat)
  case atStart => exact ⟨n, rfl, v, bs, h, rfl, WrStep.refl _ _ _⟩
  case round =>
    obtain ⟨m, rfl, v1, b1, hW, heq, hst⟩ := hrel
    have hlen := congrArg List.length heq
    simp only [List.length_append] at hlen
    have Heq := Lib.hid heq
    have Hlen := Lib.hid hlen
    clear heq hlen
    by_cases hm : 127 < m
    · have hB : Go.bits .or .u8 ((m : Int) % 256) 128 = (m : Int) % 128 + 128 := or128 (by omega)
      have hu := uvar_big hm
      have Hu := Lib.hid hu
      clear hu
      have hbl : b1.length + 1 ≤ 140737488355328 := by have := Hlen.out; have h2 := congrArg List.length Hu.out; simp at h2; omega
      go_wp2_with (go_at_call 85; refine (put1_of hW ⟨by omega, by omega⟩ hbl).mono ?_; rintro e w1 ⟨v2, rfl, hW2, hst2⟩)
      go_roundw
      case rel =>
        refine ⟨m / 128, by go_num, v2, _, hW2, ?_, hst.trans hst2⟩
        rw [← Heq.out, Hu.out, List.append_assoc]
        simp
      case measure => simp [intOf]; omega
    · have hu := uvar_small (n := m) (by omega)
      have Hu := Lib.hid hu
      clear hu
      have hbl : b1.length + 1 ≤ 140737488355328 := by have := Hlen.out; have h2 := congrArg List.length Hu.out; simp at h2; omega
      go_wp2_with (go_at_call 85; refine (put1_of hW ⟨by omega, by omega⟩ hbl).mono ?_; rintro e w1 ⟨v2, rfl, hW2, hst2⟩)
      go_end0
      refine ⟨v2, rfl, ?_, hst.trans hst2⟩
      rw [← Heq.out, Hu.out]; exact hW2

theorem uint_at {w : World} {p : Nat} {v : Value} {bs : List Int} (h : Wr w p v bs 0) {n : Nat} {x : Int} (hx : x = n) (hsz : bs.length + (uvar n).length ≤ 140737488355328) :
    Calls Try.prog 41 #[.pointer (some ⟨p, 0, none⟩), .int .u64 x] w fun e w' => ∃ v', e = .returned (.tuple #[]) ∧ Wr w' p v' (bs ++ uvar n) 0 ∧ WrStep w w' p v v' := by
  subst hx; exact uint_of h hsz

theorem raw_of {w : World} {p : Nat} {v : Value} {bs : List Int} (h : Wr w p v bs 0) {x : Value} {xs : List Int} (hx : Src w x xs.length (xs.map (Value.int .u8))) (ok : BytesOk xs) (hap : ∀ g, x.ownBlock = some g → g ≠ p ∧ v.ownBlock ≠ some g ∧ g < w.heap.size) (hsz : bs.length + (uvar xs.length).length + xs.length ≤ 140737488355328) :
    Calls Try.prog 43 #[.pointer (some ⟨p, 0, none⟩), x] w fun e w' => ∃ v', e = .returned (.tuple #[]) ∧ Wr w' p v' (bs ++ uvar xs.length ++ xs) 0 ∧ WrStep w w' p v v' := by
  obtain ⟨ao, c, rfl, _⟩ := hx.out
  have hln : xs.length ≤ 140737488355328 := by omega
  go_enter Try.func43, Try.ntmps43
  go_wp2_with (go_at_call 41; refine (uint_of h (by omega)).mono ?_; rintro e w1 ⟨v1, rfl, hW1, hst1⟩)
  have hx1 := hx.chg hst1.chg (fun g hg hm => by
    obtain ⟨h1, h2, h3⟩ := hap g hg
    rcases List.mem_cons.1 hm with rfl | hm
    · exact h1 rfl
    · exact h2 (Value.ownBlock_mem.1 hm))
  go_wp2_with (go_at_call 85; refine (put_of hW1 hx1 ok (by simp; omega)).mono ?_; rintro e w2 ⟨v2, rfl, hW2, hst2⟩)
  go_end0
  exact ⟨v2, rfl, hW2, hst1.trans hst2⟩

theorem clone_nil (w : World) : Calls Try.prog 86 #[.slice none 0 0] w fun e w' => e = .returned (.slice none 0 0) ∧ w = w' := by
  have hq := eql_slice_nil Try.underlying37
  go_enter Try.func86, Try.ntmps86
  go_wp2
  go_ret
  exact ⟨rfl, rfl⟩

theorem clone_of {w : World} {x : Value} {xs : List Int} (hx : Src w x xs.length (xs.map (Value.int .u8))) (hsz : xs.length ≤ 140737488355328) :
    Calls Try.prog 86 #[x] w fun e w' => ∃ v', e = .returned v' ∧ w'.ownsRow w.heap.size 5 1 v' xs.length (xs.map (Value.int .u8)) ∧ Chg [] w w' ∧ (v' = .slice none 0 0 ↔ x = .slice none 0 0) := by
  obtain ⟨ao, c, rfl, h0, _⟩ := hx.out
  cases ao with
  | none =>
    obtain ⟨h1, rfl⟩ := h0 rfl
    have : xs = [] := List.eq_nil_of_length_eq_zero h1
    subst this
    exact (clone_nil w).mono fun e w' ⟨h1, h2⟩ => ⟨_, h1, World.ownsRow_nil _ _ _ _, h2 ▸ Chg.refl _ _, by simp⟩
  | some ad =>
    have hq := eql_slice_nil Try.underlying37
    have hlt : ∀ g, (Value.slice (some ad) xs.length c).ownBlock = some g → g ∉ ([] : List Nat) := by simp
    have hx1 := hx.chg (Chg.alloc0 w (.cells #[] 5)) hlt
    have hown0 : (w.alloc (.cells #[] 5)).ownsRow w.heap.size 5 1 (.slice (some ⟨w.heap.size, 0, none⟩) 0 0) 0 [] := World.ownsRow_made _ _ _ (Nat.le_refl _) (Nat.zero_le _) (by simp)
    go_enter Try.func86, Try.ntmps86
    go_wp2_with ((with_reducible show wpList _ _ _ (⟨some 7, _, _, _, _, _⟩ :: _) _ _); refine wpList_appendSrc tyBytes (.slice (some ⟨w.heap.size, 0, none⟩) 0 0) 0 [] (.slice (some ad) xs.length c) xs.length (xs.map (Value.int .u8)) rfl rfl hown0 hx1 (by simp) (ints_one _ _) (by omega) (by unfold maxLen; omega) (by simp) ?_; intro v' w1 hown1 hch hnil hloc)
    go_ret
    refine ⟨v', rfl, by simpa using hown1, (Chg.alloc0 _ _).trans' hch (fun _ h _ => h) (fun i hi hl => ?_), ?_⟩
    · simp [Value.ownBlock] at hi; omega
    · simp [hnil]

/-- an answer that is the caller's own: bytes in new memory -/
theorem done_nil (w : World) : Calls Try.prog 44 #[.pointer none] w fun e w' => e = .returned (.tuple #[.slice none 0 0, .int .i64 1]) ∧ w = w' := by
  go_enter Try.func44, Try.ntmps44
  go_wp2
  go_ret2
  exact ⟨rfl, rfl⟩
theorem done_bad {w : World} {p : Nat} {v : Value} {bs : List Int} {why : Int} (h : Wr w p v bs why) (hw : (why != 0) = true) : Calls Try.prog 44 #[.pointer (some ⟨p, 0, none⟩)] w fun e w' => e = .returned (.tuple #[.slice none 0 0, .int .i64 why]) ∧ Chg [] w w' := by
  obtain ⟨c0, c1, _⟩ := h.cells
  go_enter Try.func44, Try.ntmps44
  go_wp2
  go_region
  all_goals go_wp2
  all_goals go_ret2
  all_goals exact ⟨rfl, (Chg.refl _ _).drew⟩
theorem done_of {w : World} {p : Nat} {v : Value} {bs : List Int} (h : Wr w p v bs 0) (hsz : bs.length ≤ 140737488355328) : Calls Try.prog 44 #[.pointer (some ⟨p, 0, none⟩)] w fun e w' =>
    ∃ v', e = .returned (.tuple #[v', .int .i64 0]) ∧ w'.ownsRow w.heap.size 5 1 v' bs.length (bs.map (Value.int .u8)) ∧ Chg [] w w' ∧ (v' = .slice none 0 0 ↔ v = .slice none 0 0) := by
  obtain ⟨c0, c1, _⟩ := h.cells
  obtain ⟨ao, c, rfl, _⟩ := owns_form h.own
  go_enter Try.func44, Try.ntmps44
  go_wp2_with (go_at_call 86; refine (clone_of (Src.of_owns h.own) hsz).mono ?_; rintro e w1 ⟨v', rfl, hown, hc, hnil⟩)
  go_ret2
  exact ⟨v', rfl, hown, hc, hnil⟩
end Go.Proofs.Ytinelhjkgikigaa.W
