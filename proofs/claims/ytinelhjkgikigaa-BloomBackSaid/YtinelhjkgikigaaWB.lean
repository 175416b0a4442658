/- Wire: the reader in memory; NewReader, At, Left, Fail, Fault, Done, take, Byte, Uint, Raw. -/
import Derived.Test.YtinelhjkgikigaaWA
import Derived.BigQuiet
namespace Go.Proofs.Ytinelhjkgikigaa.W
open Go Go.RowKit Go.Proofs.Ytinelhjkgikigaa.K
set_option maxRecDepth 100000

/-- what a reader holds: its bytes, its place, its fault and the fault's place -/
structure RS where
  bs : List Int
  pos : Nat
  why : Int
  to : Nat

def RS.fail (s : RS) (e : Int) (a : Nat) : RS := if s.why = 0 ∧ e ≠ 0 then { s with why := e, to := a } else s
def RS.done (s : RS) : Int × Nat := if s.why = 0 ∧ s.pos < s.bs.length then (22, s.pos) else (s.why, s.to)

structure RS.Ok (s : RS) : Prop where
  bytes : BytesOk s.bs
  sz : s.bs.length ≤ 140737488355328
  pos : s.pos ≤ s.bs.length
  to : s.to ≤ s.bs.length

/-- the reader at block p: its slice v holds the bytes -/
structure Rd (w : World) (p : Nat) (v : Value) (s : RS) : Prop where
  mem : w.heap[p]? = some (.cells #[v, .int .i64 s.pos, .int .i64 s.why, .int .i64 s.to] 127 (0, 0))
  own : w.ownsRow 0 5 1 v s.bs.length (s.bs.map (Value.int .u8))
  ne : v.ownBlock ≠ some p
  ok : s.Ok

theorem Rd.chg {S : List Nat} {w w' : World} {p : Nat} {v : Value} {s : RS} (h : Rd w p v s) (hc : Chg S w w') (hp : p ∉ S) (hg : ∀ g, v.ownBlock = some g → g ∉ S) : Rd w' p v s :=
  ⟨hc.heap h.mem hp, hc.owns h.own hg, h.ne, h.ok⟩
theorem Rd.lt {w : World} {p : Nat} {v : Value} {s : RS} (h : Rd w p v s) : p < w.heap.size := (Array.getElem?_eq_some_iff.1 h.mem).1
theorem Rd.cells {w : World} {p : Nat} {v : Value} {s : RS} (h : Rd w p v s) : (∃ ao c, w.cell? ⟨p, 0, none⟩ = some (.slice ao s.bs.length c)) ∧ w.cell? ⟨p, 1, none⟩ = some (.int .i64 s.pos) ∧ w.cell? ⟨p, 2, none⟩ = some (.int .i64 s.why) ∧ w.cell? ⟨p, 3, none⟩ = some (.int .i64 s.to) ∧ (∀ i, w.frozen? ⟨p, i, none⟩ = false) := by
  obtain ⟨ao, c, rfl, _⟩ := owns_form h.own
  exact ⟨⟨ao, c, by rw [cell_of_row w p 0 _ _ _ h.mem]; rfl⟩, by rw [cell_of_row w p 1 _ _ _ h.mem]; rfl, by rw [cell_of_row w p 2 _ _ _ h.mem]; rfl, by rw [cell_of_row w p 3 _ _ _ h.mem]; rfl, fun i => frozen_of_row w p i _ _ h.mem⟩
/-- its three numbers are set -/
theorem Rd.set {w w' : World} {p : Nat} {v : Value} {s : RS} (h : Rd w p v s) {q : Nat} {y : Int} {t : Nat} (hc : Chg [p] w w') (hm : w'.heap[p]? = some (.cells #[v, .int .i64 q, .int .i64 y, .int .i64 t] 127 (0, 0))) (hq : q ≤ s.bs.length) (ht : t ≤ s.bs.length) : Rd w' p v { s with pos := q, why := y, to := t } :=
  ⟨hm, hc.owns h.own (fun g hg hm => h.ne (by simp at hm; exact hm ▸ hg)), h.ne, ⟨h.ok.bytes, h.ok.sz, hq, ht⟩⟩

theorem rat_nil (w : World) : Calls Try.prog 56 #[.pointer none] w fun e w' => e = .returned (.int .i64 0) ∧ w = w' := by
  go_enter Try.func56, Try.ntmps56
  go_wp2
  go_ret
  exact ⟨rfl, rfl⟩
theorem cat_of {w : World} {p : Nat} {v : Value} {s : RS} (h : Rd w p v s) : Calls Try.prog 94 #[.pointer (some ⟨p, 0, none⟩)] w fun e w' => e = .returned (.int .i64 s.pos) ∧ w = w' := by
  obtain ⟨⟨ao, c, c0⟩, c1, c2, c3, fr⟩ := h.cells
  go_enter Try.func94, Try.ntmps94
  go_wp2
  go_ret
  exact ⟨rfl, rfl⟩
theorem rat_of {w : World} {p : Nat} {v : Value} {s : RS} (h : Rd w p v s) : Calls Try.prog 56 #[.pointer (some ⟨p, 0, none⟩)] w fun e w' => e = .returned (.int .i64 s.pos) ∧ w = w' := by
  go_enter Try.func56, Try.ntmps56
  go_wp2_with (go_at_call 94; refine (cat_of h).mono ?_; rintro e w1 ⟨rfl, rfl⟩)
  go_ret
  exact ⟨rfl, rfl⟩

theorem rleft_nil (w : World) : Calls Try.prog 98 #[.pointer none] w fun e w' => e = .returned (.int .i64 0) ∧ w = w' := by
  go_enter Try.func98, Try.ntmps98
  go_wp2
  go_ret
  exact ⟨rfl, rfl⟩
theorem cleft_of {w : World} {p : Nat} {v : Value} {s : RS} (h : Rd w p v s) : Calls Try.prog 106 #[.pointer (some ⟨p, 0, none⟩)] w fun e w' => e = .returned (.int .i64 ((s.bs.length : Int) - s.pos)) ∧ Chg [] w w' := by
  obtain ⟨⟨ao, c, c0⟩, c1, c2, c3, fr⟩ := h.cells
  have h1 := h.ok.pos
  have h2 := h.ok.sz
  go_enter Try.func106, Try.ntmps106
  go_wp2
  go_region
  all_goals go_wp2
  all_goals go_ret
  all_goals exact ⟨rfl, (Chg.refl _ _).drew⟩
theorem rleft_of {w : World} {p : Nat} {v : Value} {s : RS} (h : Rd w p v s) : Calls Try.prog 98 #[.pointer (some ⟨p, 0, none⟩)] w fun e w' => e = .returned (.int .i64 ((s.bs.length : Int) - s.pos)) ∧ Chg [] w w' := by
  go_enter Try.func98, Try.ntmps98
  go_wp2_with (go_at_call 106; refine (cleft_of h).mono ?_; rintro e w1 ⟨rfl, hc⟩)
  go_ret
  exact ⟨rfl, hc⟩

theorem rgood_nil (w : World) : Calls Try.prog 105 #[.pointer none] w fun e w' => e = .returned (.bool false) ∧ w = w' := by
  go_enter Try.func105, Try.ntmps105
  go_wp2
  go_ret
  exact ⟨rfl, rfl⟩
theorem rgood_of {w : World} {p : Nat} {v : Value} {s : RS} (h : Rd w p v s) : Calls Try.prog 105 #[.pointer (some ⟨p, 0, none⟩)] w fun e w' => e = .returned (.bool (decide (s.why = 0))) ∧ w = w' := by
  obtain ⟨⟨ao, c, c0⟩, c1, c2, c3, fr⟩ := h.cells
  go_enter Try.func105, Try.ntmps105
  go_wp2
  go_ret
  refine ⟨?_, rfl⟩
  by_cases hw : s.why = 0 <;> simp [hw]

theorem rfail_nil (x y : Value) (w : World) : Calls Try.prog 55 #[.pointer none, x, y] w fun e w' => e = .returned (.tuple #[]) ∧ w = w' := by
  go_enter Try.func55, Try.ntmps55
  go_wp2
  go_end0
  exact ⟨rfl, rfl⟩
theorem rfail_of {w : World} {p : Nat} {v : Value} {s : RS} (h : Rd w p v s) (e : Int) (a : Nat) (ha : a ≤ s.bs.length) : Calls Try.prog 55 #[.pointer (some ⟨p, 0, none⟩), .int .i64 e, .int .i64 a] w fun ex w' => ex = .returned (.tuple #[]) ∧ Rd w' p v (s.fail e a) ∧ Chg [p] w w' := by
  obtain ⟨⟨ao, c, c0⟩, c1, c2, c3, fr⟩ := h.cells
  have fr2 := fr 2
  have fr3 := fr 3
  have hm := h.mem
  have H := Lib.hid h
  clear h fr
  go_enter Try.func55, Try.ntmps55
  by_cases h1 : s.why = 0
  · by_cases h2 : e = 0
    · subst h2
      go_wp2
      go_end0
      refine ⟨rfl, ?_, Chg.refl _ _⟩
      have : s.fail 0 a = s := by simp [RS.fail]
      rw [this]; exact H.out
    · go_wp2
      go_end0
      refine ⟨rfl, ?_, ?_⟩
      · have : s.fail e a = { s with pos := s.pos, why := e, to := a } := by simp [RS.fail, h1, h2]
        rw [this]
        refine H.out.set (((Chg.refl [p] w).setCell (.inl (by simp)) _).setCell (.inl (by simp)) _) ?_ H.out.ok.pos ha
        exact heap_setCell_same _ p 3 _ _ _ (heap_setCell_same w p 2 _ _ _ hm)
      · exact ((Chg.refl [p] w).setCell (.inl (by simp)) _).setCell (.inl (by simp)) _
  · go_wp2
    go_end0
    refine ⟨rfl, ?_, Chg.refl _ _⟩
    have : s.fail e a = s := by simp [RS.fail, h1]
    rw [this]; exact H.out

theorem rfail_at {w : World} {p : Nat} {v : Value} {s : RS} (h : Rd w p v s) (e : Int) (a : Nat) (ha : a ≤ s.bs.length) {y : Int} (hy : y = a) : Calls Try.prog 55 #[.pointer (some ⟨p, 0, none⟩), .int .i64 e, .int .i64 y] w fun ex w' => ex = .returned (.tuple #[]) ∧ Rd w' p v (s.fail e a) ∧ Chg [p] w w' := by
  subst hy; exact rfail_of h e a ha

theorem rfault_nil (w : World) : Calls Try.prog 97 #[.pointer none] w fun e w' => e = .returned (.tuple #[.int .i64 1, .int .i64 0]) ∧ w = w' := by
  go_enter Try.func97, Try.ntmps97
  go_wp2
  go_ret2
  exact ⟨rfl, rfl⟩
theorem rfault_of {w : World} {p : Nat} {v : Value} {s : RS} (h : Rd w p v s) : Calls Try.prog 97 #[.pointer (some ⟨p, 0, none⟩)] w fun e w' => e = .returned (.tuple #[.int .i64 s.why, .int .i64 s.to]) ∧ Chg [] w w' := by
  obtain ⟨⟨ao, c, c0⟩, c1, c2, c3, fr⟩ := h.cells
  go_enter Try.func97, Try.ntmps97
  go_wp2
  go_region
  all_goals go_wp2
  all_goals go_ret2
  all_goals exact ⟨rfl, (Chg.refl _ _).drew⟩

theorem rdone_nil (w : World) : Calls Try.prog 59 #[.pointer none] w fun e w' => e = .returned (.tuple #[.int .i64 1, .int .i64 0]) ∧ w = w' := by
  go_enter Try.func59, Try.ntmps59
  go_wp2_with (go_at_call 97; refine (rfault_nil w).mono ?_; rintro e w1 ⟨rfl, rfl⟩)
  go_ret2
  exact ⟨rfl, rfl⟩
theorem rdone_of {w : World} {p : Nat} {v : Value} {s : RS} (h : Rd w p v s) : Calls Try.prog 59 #[.pointer (some ⟨p, 0, none⟩)] w fun e w' => e = .returned (.tuple #[.int .i64 s.done.1, .int .i64 s.done.2]) ∧ Chg [] w w' := by
  obtain ⟨⟨ao, c, c0⟩, c1, c2, c3, fr⟩ := h.cells
  have h1 := h.ok.pos
  have h2 := h.ok.sz
  by_cases hy : s.why = 0
  · by_cases hl : s.pos < s.bs.length
    · have : s.done = (22, s.pos) := by simp [RS.done, hy, hl]
      rw [this]
      go_enter Try.func59, Try.ntmps59
      go_wp2_with (go_at_call 97; refine (rfault_of h).mono ?_; rintro e w1 ⟨rfl, hc1⟩)
      have hR1 := h.chg hc1 (by simp) (by simp)
      go_wp2_with (go_at_call 98; refine (rleft_of hR1).mono ?_; rintro e w2 ⟨rfl, hc2⟩)
      have hR2 := hR1.chg hc2 (by simp) (by simp)
      obtain ⟨⟨ao2, cc2, d0⟩, d1, d2, d3, fr2⟩ := hR2.cells
      go_region
      all_goals go_wp2
      all_goals go_ret2
      all_goals exact ⟨rfl, (hc1.trans hc2).drew⟩
    · have : s.done = (s.why, s.to) := by simp [RS.done, hl]
      rw [this]
      go_enter Try.func59, Try.ntmps59
      go_wp2_with (go_at_call 97; refine (rfault_of h).mono ?_; rintro e w1 ⟨rfl, hc1⟩)
      have hR1 := h.chg hc1 (by simp) (by simp)
      go_wp2_with (go_at_call 98; refine (rleft_of hR1).mono ?_; rintro e w2 ⟨rfl, hc2⟩)
      go_ret2
      exact ⟨by simp [hy], hc1.trans hc2⟩
  · have : s.done = (s.why, s.to) := by simp [RS.done, hy]
    rw [this]
    go_enter Try.func59, Try.ntmps59
    go_wp2_with (go_at_call 97; refine (rfault_of h).mono ?_; rintro e w1 ⟨rfl, hc1⟩)
    go_ret2
    exact ⟨rfl, hc1⟩

theorem bclone_nil (w : World) : Calls Try.prog 92 #[.slice none 0 0] w fun e w' => e = .returned (.slice none 0 0) ∧ w = w' := by
  have hq := eql_slice_nil Try.underlying37
  go_enter Try.func92, Try.ntmps92
  go_wp2
  go_ret
  exact ⟨rfl, rfl⟩
theorem bclone_of {w : World} {x : Value} {xs : List Int} (hx : Src w x xs.length (xs.map (Value.int .u8))) (hsz : xs.length ≤ 140737488355328) :
    Calls Try.prog 92 #[x] w fun e w' => ∃ v', e = .returned v' ∧ w'.ownsRow w.heap.size 5 1 v' xs.length (xs.map (Value.int .u8)) ∧ Chg [] w w' ∧ (v' = .slice none 0 0 ↔ x = .slice none 0 0) := by
  obtain ⟨ao, c, rfl, h0, _⟩ := hx.out
  cases ao with
  | none =>
    obtain ⟨h1, rfl⟩ := h0 rfl
    have : xs = [] := List.eq_nil_of_length_eq_zero h1
    subst this
    exact (bclone_nil w).mono fun e w' ⟨h1, h2⟩ => ⟨_, h1, World.ownsRow_nil _ _ _ _, h2 ▸ Chg.refl _ _, by simp⟩
  | some ad =>
    have hq := eql_slice_nil Try.underlying37
    have hlt : ∀ g, (Value.slice (some ad) xs.length c).ownBlock = some g → g ∉ ([] : List Nat) := by simp
    have hx1 := hx.chg (Chg.alloc0 w (.cells #[] 5)) hlt
    have hown0 : (w.alloc (.cells #[] 5)).ownsRow w.heap.size 5 1 (.slice (some ⟨w.heap.size, 0, none⟩) 0 0) 0 [] := World.ownsRow_made _ _ _ (Nat.le_refl _) (Nat.zero_le _) (by simp)
    go_enter Try.func92, Try.ntmps92
    go_wp2_with ((with_reducible show wpList _ _ _ (⟨some 7, _, _, _, _, _⟩ :: _) _ _); refine wpList_appendSrc tyBytes (.slice (some ⟨w.heap.size, 0, none⟩) 0 0) 0 [] (.slice (some ad) xs.length c) xs.length (xs.map (Value.int .u8)) rfl rfl hown0 hx1 (by simp) (ints_one _ _) (by omega) (by unfold maxLen; omega) (by simp) ?_; intro v' w1 hown1 hch hnil hloc)
    go_ret
    refine ⟨v', rfl, by simpa using hown1, (Chg.alloc0 _ _).trans' hch (fun _ h _ => h) (fun i hi hl => ?_), ?_⟩
    · simp [Value.ownBlock] at hi; omega
    · simp [hnil]

/-- a reader of bytes: in new memory -/
theorem newReader_of {w : World} {x : Value} {xs : List Int} (hx : Src w x xs.length (xs.map (Value.int .u8))) (ok : BytesOk xs) (hsz : xs.length ≤ 140737488355328) :
    Calls Try.prog 53 #[x] w fun e w' => ∃ p v, e = .returned (.pointer (some ⟨p, 0, none⟩)) ∧ Rd w' p v ⟨xs, 0, 0, 0⟩ ∧ Chg [] w w' ∧ w.heap.size ≤ p ∧ w'.ownsRow w.heap.size 5 1 v xs.length (xs.map (Value.int .u8)) := by
  go_enter Try.func53, Try.ntmps53
  go_wp2_with (go_at_call 92; refine (bclone_of hx hsz).mono ?_; rintro e w1 ⟨v, rfl, hown, hc, hnil⟩; obtain ⟨ao, c, rfl, hg⟩ := owns_form hown)
  go_ret
  refine ⟨_, _, rfl, ⟨heap_new _ _, owns_base (hown.alloc _) (fun _ _ => Nat.zero_le _), ?_, ⟨ok, hsz, Nat.zero_le _, Nat.zero_le _⟩⟩, hc.alloc _, hc.size, hown.alloc _⟩
  intro hb
  have := (hown.lt _ hb).2
  omega

/-- the next n bytes, or nothing -/
def RS.take (s : RS) (n : Nat) : Option (List Int) × RS :=
  if s.why = 0 then if s.bs.length < s.pos + n then (none, { s with why := 20, to := s.bs.length }) else (some ((s.bs.drop s.pos).take n), { s with pos := s.pos + n }) else (none, s)
/-- a piece of the reader's own bytes, or nothing -/
def Piece (w : World) (v u : Value) : Option (List Int) → Prop
  | none => u = .slice none 0 0
  | some l => Src w u l.length (l.map (Value.int .u8)) ∧ (∀ g, u.ownBlock = some g → v.ownBlock = some g) ∧ ∃ a c, u = .slice a l.length c ∧ l.length ≤ c

theorem Rd.form {w : World} {p : Nat} {v : Value} {s : RS} (h : Rd w p v s) : ∃ ao c, v = .slice ao s.bs.length c ∧ s.bs.length ≤ c ∧ c ≤ maxLen ∧ (ao = none → s.bs.length = 0 ∧ c = 0) ∧ (∀ a, ao = some a → ∃ g, a = ⟨g, 0, none⟩) := by
  rcases h.own.2 with ⟨hv, hz⟩ | ⟨g, cap, cur, hv, _, hg, hle, hmx, hsz, htk⟩
  · exact ⟨none, 0, by rw [hv, hz], by omega, by unfold maxLen; omega, fun _ => ⟨hz, rfl⟩, fun a h => by cases h⟩
  · exact ⟨_, cap, hv, hle, hmx, (fun h => by cases h), (fun a h => ⟨g, by cases h; rfl⟩)⟩
theorem add_add (a : Addr) (i j : Nat) : (a.add i).add j = a.add (i + j) := by
  unfold Addr.add
  split <;> split <;> simp_all [Nat.add_assoc]
theorem piece_end {w : World} {ao : Option Addr} {bs : List Int} {q n : Nat} (h1 : q + n ≤ bs.length) (h2 : bs.length ≤ q) :
    Piece w (.slice ao bs.length q) (.slice ao n 0) (some ((bs.drop q).take n)) := by
  obtain rfl : n = 0 := by omega
  simp only [List.take_zero]
  exact ⟨⟨ao, 0, rfl, fun _ => ⟨rfl, rfl⟩, fun _ _ j u hu => by simp at hu⟩, fun g hg => by cases ao <;> simp [Value.ownBlock] at hg ⊢; exact hg, ao, 0, rfl, Nat.le_refl _⟩
theorem piece_of {w : World} {ao : Option Addr} {c : Nat} {bs : List Int} (hs : Src w (.slice ao bs.length c) bs.length (bs.map (Value.int .u8))) {q n : Nat} (h1 : q + n ≤ bs.length) (h2 : bs.length ≤ c) :
    Piece w (.slice ao bs.length c) (.slice (Option.map (fun x => x.add q) ao) n (c - q)) (some ((bs.drop q).take n)) := by
  have hl : ((bs.drop q).take n).length = n := by simp; omega
  obtain ⟨ao', c', he, h0, hc⟩ := hs.out
  cases he
  refine ⟨⟨_, c - q, by rw [hl], ?_, ?_⟩, ?_, _, c - q, by rw [hl], by rw [hl]; omega⟩
  · intro hn
    have := h0 (by simpa using hn)
    rw [hl]; omega
  · intro a ha j u hu
    obtain ⟨a0, rfl, rfl⟩ := Option.map_eq_some_iff.1 ha
    rw [add_add]
    refine hc a0 rfl _ _ ?_
    rw [List.getElem?_map] at hu ⊢
    rw [List.getElem?_take, List.getElem?_drop] at hu
    split at hu
    · exact hu
    · simp at hu
  · intro g hg
    cases ao with
    | none => simp [Value.ownBlock] at hg
    | some a0 =>
      simp only [Option.map_some, Value.ownBlock] at hg ⊢
      rw [← hg]
      unfold Addr.add
      split <;> rfl

theorem rtake_nil (x : Value) (w : World) : Calls Try.prog 95 #[.pointer none, x] w fun e w' => e = .returned (.slice none 0 0) ∧ w = w' := by
  go_enter Try.func95, Try.ntmps95
  go_wp2_with (go_at_call 105; refine (rgood_nil w).mono ?_; rintro e w1 ⟨rfl, rfl⟩)
  go_ret
  exact ⟨rfl, rfl⟩

theorem rtake_of {w : World} {p : Nat} {v : Value} {s : RS} (h : Rd w p v s) (n : Nat) (hn : n ≤ 140737488355328) : Calls Try.prog 95 #[.pointer (some ⟨p, 0, none⟩), .int .i64 n] w fun e w' => ∃ u, e = .returned u ∧ Rd w' p v (s.take n).2 ∧ Piece w' v u (s.take n).1 ∧ Chg [p] w w' := by
  by_cases hy : s.why = 0
  · by_cases hl : s.bs.length < s.pos + n
    · have : s.take n = (none, { s with why := 20, to := s.bs.length }) := by simp [RS.take, hy, hl]
      rw [this]
      have hF : s.fail 20 s.bs.length = { s with why := 20, to := s.bs.length } := by simp [RS.fail, hy]
      rw [← hF]
      clear this hF
      have hq : (s.bs.length : Int) - s.pos < n := by omega
      go_enter Try.func95, Try.ntmps95
      go_wp2_with (go_at_call 105; refine (rgood_of h).mono ?_; rintro e w1 ⟨rfl, rfl⟩; simp only [hy])
      go_wp2_with (go_at_call 98; refine (rleft_of h).mono ?_; rintro e w2 ⟨rfl, hc2⟩; have hR2 := h.chg hc2 (by simp) (by simp); obtain ⟨⟨ao2, cc2, d0⟩, d1, d2, d3, fr2⟩ := hR2.cells)
      go_wp2_with (go_at_call 55; refine (rfail_of hR2 20 s.bs.length (Nat.le_refl _)).mono ?_; rintro e w3 ⟨rfl, hR3, hc3⟩)
      go_ret
      exact ⟨_, rfl, hR3, rfl, (hc2.weak).trans hc3⟩
    · have : s.take n = (some ((s.bs.drop s.pos).take n), { s with pos := s.pos + n }) := by simp [RS.take, hy, hl]
      rw [this]
      clear this
      have hp1 := h.ok.pos
      have hp2 := h.ok.sz
      go_enter Try.func95, Try.ntmps95
      go_wp2_with (go_at_call 105; refine (rgood_of h).mono ?_; rintro e w1 ⟨rfl, rfl⟩; simp only [hy])
      go_wp2_with (go_at_call 98; refine (rleft_of h).mono ?_; rintro e w2 ⟨rfl, hc2⟩; have hR2 := h.chg hc2 (by simp) (by simp); obtain ⟨⟨ao2, cc2, d0⟩, d1, d2, d3, fr2⟩ := hR2.cells; have f1 := fr2 1; have hq : (n : Int) ≤ (s.bs.length : Int) - s.pos := by omega)
      go_wp2
      have hm3 : (w2.setCell ⟨p, 1, none⟩ (.int .i64 ((s.pos : Int) + n))).heap[p]? = some (.cells #[v, .int .i64 ((s.pos : Int) + n), .int .i64 s.why, .int .i64 s.to] 127 (0, 0)) := heap_setCell_same w2 p 1 _ _ _ hR2.mem
      have hR3 := hR2.set (q := s.pos + n) ((Chg.refl [p] w2).setCell (.inl (by simp)) _) hm3 (by omega) h.ok.to
      have e0 : ({ bs := s.bs, pos := s.pos + n, why := s.why, to := s.to } : RS) = { bs := s.bs, pos := s.pos + n, why := 0, to := s.to } := by rw [hy]
      rw [e0] at hR3
      have hc3 : Chg [p] w (w2.setCell ⟨p, 1, none⟩ (.int .i64 ((s.pos : Int) + n))) := hc2.weak.setCell (.inl (by simp)) _
      generalize hw3 : w2.setCell ⟨p, 1, none⟩ (.int .i64 ((s.pos : Int) + n)) = w3 at *
      clear hw3 hm3
      obtain ⟨⟨ao3, cc3, g0⟩, g1, g2, g3, fr3⟩ := hR3.cells
      have hO := hR3.own
      clear d0 d1 d2 d3 f1 fr2
      obtain ⟨ao, c, rfl, hlc, hcm, _⟩ := hR3.form
      rw [cell_of_row w3 p 0 _ _ _ hR3.mem] at g0
      have g0' := cell_of_row w3 p 0 _ _ _ hR3.mem
      have hb : (s.pos : Int) + n ≤ c := by simp at hlc; omega
      clear g0
      unfold maxLen at hcm
      go_region
      all_goals go_wp2
      all_goals go_ret
      · rw [h] at hR3 hlc
        refine ⟨_, rfl, hR3.chg (Chg.refl [] _).drew (by simp) (by simp), ?_, hc3.drew⟩
        exact piece_end (by omega) (by omega)
      · refine ⟨_, rfl, hR3.chg (Chg.refl [] _).drew (by simp) (by simp), ?_, hc3.drew⟩
        exact piece_of (Src.of_owns hO |>.chg (Chg.refl [] _).drew (by simp)) (by omega) hlc
  · have : s.take n = (none, s) := by simp [RS.take, hy]
    rw [this]
    clear this
    go_enter Try.func95, Try.ntmps95
    go_wp2_with (go_at_call 105; refine (rgood_of h).mono ?_; rintro e w1 ⟨rfl, rfl⟩; simp only [hy])
    go_ret
    exact ⟨_, rfl, h, rfl, Chg.refl _ _⟩

theorem Rd.byte {w : World} {p : Nat} {v : Value} {s : RS} (h : Rd w p v s) (j : Nat) : 0 ≤ s.bs[j]?.getD 0 ∧ s.bs[j]?.getD 0 < 256 := by
  cases hj : s.bs[j]? with
  | none => simp
  | some x => exact h.ok.bytes x (List.mem_of_getElem? hj)
theorem RS.Ok.byteAt {s : RS} (h : s.Ok) (j : Nat) : 0 ≤ s.bs[j]?.getD 0 ∧ s.bs[j]?.getD 0 < 256 := by
  cases hj : s.bs[j]? with
  | none => simp
  | some x => exact h.bytes x (List.mem_of_getElem? hj)

/-- a byte -/
def RS.byte (s : RS) : Int × RS :=
  if s.why = 0 then if s.bs.length < s.pos + 1 then (0, { s with why := 20, to := s.bs.length }) else (s.bs[s.pos]?.getD 0, { s with pos := s.pos + 1 }) else (0, s)

theorem rbyte_nil (w : World) : Calls Try.prog 57 #[.pointer none] w fun e w' => e = .returned (.int .u8 0) ∧ w = w' := by
  go_enter Try.func57, Try.ntmps57
  go_wp2_with (go_at_call 95; refine (rtake_nil _ w).mono ?_; rintro e w1 ⟨rfl, rfl⟩)
  go_ret
  exact ⟨rfl, rfl⟩

theorem rbyte_of {w : World} {p : Nat} {v : Value} {s : RS} (h : Rd w p v s) : Calls Try.prog 57 #[.pointer (some ⟨p, 0, none⟩)] w fun e w' => e = .returned (.int .u8 s.byte.1) ∧ Rd w' p v s.byte.2 ∧ Chg [p] w w' := by
  have ht := rtake_of h 1 (by omega)
  by_cases hq : s.why = 0 ∧ s.pos + 1 ≤ s.bs.length
  · obtain ⟨h1, h2⟩ := hq
    have e1 : s.take 1 = (some [s.bs[s.pos]?.getD 0], { s with pos := s.pos + 1 }) := by
      have : (s.bs.drop s.pos).take 1 = [s.bs[s.pos]?.getD 0] := by
        rw [List.getElem?_eq_getElem (by omega), List.drop_eq_getElem_cons (by omega)]; rfl
      simp [RS.take, h1, show ¬ s.bs.length < s.pos + 1 by omega, this]
    have e2 : s.byte = (s.bs[s.pos]?.getD 0, { s with pos := s.pos + 1 }) := by simp [RS.byte, h1, show ¬ s.bs.length < s.pos + 1 by omega]
    rw [e1] at ht
    rw [e2]
    have hr := h.byte s.pos
    clear e1 e2
    go_enter Try.func57, Try.ntmps57
    go_wp2_with (go_at_call 95; refine ht.mono ?_; rintro e w1 ⟨u, rfl, hR, ⟨hs, _, ua, uc, rfl, hul⟩, hc⟩; obtain ⟨ao, cc, he, hn0, hcell⟩ := hs.out; cases he; obtain ⟨ad, rfl⟩ : ∃ ad, ua = some ad := (by cases ua with | none => exact absurd (hn0 rfl).1 (by simp) | some ad => exact ⟨ad, rfl⟩); have hx0 : w1.cell? ad = some (.int .u8 (s.bs[s.pos]?.getD 0)) := by simpa [Addr.add] using hcell ad rfl 0 _ rfl)
    go_ret
    exact ⟨rfl, hR, hc⟩
  · have e1 : s.take 1 = (none, s.byte.2) ∧ s.byte.1 = 0 := by
      by_cases h1 : s.why = 0
      · simp [RS.take, RS.byte, h1, show s.bs.length < s.pos + 1 by omega]
      · simp [RS.take, RS.byte, h1]
    rw [e1.1] at ht
    rw [e1.2]
    clear e1
    go_enter Try.func57, Try.ntmps57
    go_wp2_with (go_at_call 95; refine ht.mono ?_; rintro e w1 ⟨u, rfl, hR, rfl, hc⟩)
    go_ret
    exact ⟨rfl, hR, hc⟩

theorem rnumber_nil (x y : Value) (w : World) : Calls Try.prog 93 #[.pointer none, x, y] w fun e w' => e = .returned (.int .u64 0) ∧ w = w' := by
  go_enter Try.func93, Try.ntmps93
  go_wp2_with (go_at_call 105; refine (rgood_nil w).mono ?_; rintro e w1 ⟨rfl, rfl⟩)
  go_ret
  exact ⟨rfl, rfl⟩

/-- a number: too short, a fault at its byte k, or its value and length -/
inductive NumR where
  | short
  | form (k : Nat)
  | val (v n : Nat)
def num : List Int → Nat → Nat → NumR
  | [], _, _ => .short
  | x :: l, k, acc => if (k = 9 ∧ 1 < x) ∨ (0 < k ∧ x = 0) then .form k else if x < 128 then .val (acc + x.toNat * 2 ^ (7 * k)) (k + 1) else num l (k + 1) (acc + (x.toNat - 128) * 2 ^ (7 * k))
def RS.num (s : RS) (most : Nat) (above : Int) : Nat × RS :=
  if s.why = 0 then
    match W.num (s.bs.drop s.pos) 0 0 with
    | .short => (0, s.fail 20 s.bs.length)
    | .form k => (0, s.fail 21 (s.pos + k))
    | .val v n => if most < v then (0, s.fail above s.pos) else (v, { s with pos := s.pos + n })
  else (0, s)
theorem accStep {x : Int} {acc n : Nat} (h0 : 0 ≤ x) (h1 : x < 256) (hn : n ≤ 9) (h9 : n = 9 → x ≤ 1) (ha : acc < 2 ^ (7 * n)) :
    bits BinOp.or IntKind.u64 (acc : Int) (IntKind.u64.wrap (IntKind.u64.wrap (bits BinOp.and IntKind.u8 x 127) * 2 ^ (7 * n))) = ((acc + (x.toNat % 128) * 2 ^ (7 * n) : Nat) : Int) := by
  have e1 : bits BinOp.and IntKind.u8 x 127 = ((x.toNat % 128 : Nat) : Int) := by
    have hm : ∀ m : Fin 256, bits BinOp.and IntKind.u8 (m.val : Int) 127 = ((m.val % 128 : Nat) : Int) := by decide +kernel
    have := hm ⟨x.toNat, by omega⟩
    rw [show ((⟨x.toNat, by omega⟩ : Fin 256).val : Int) = x by simp; omega] at this
    exact this
  rw [e1]
  have hx : n = 9 → x.toNat % 128 ≤ 1 := fun h => by have := h9 h; omega
  generalize hm : x.toNat % 128 = m at *
  have hm7 : m < 128 := by omega
  clear e1 h0 h1 h9
  have e2 : IntKind.u64.wrap (m : Int) = m := by simp only [IntKind.wrap_u64]; omega
  have hb : m * 2 ^ (7 * n) < 18446744073709551616 := by
    by_cases h : n = 9
    · subst h
      have := hx rfl
      have := Nat.mul_le_mul_right (2 ^ (7 * 9)) this
      omega
    · have h2 : 2 ^ (7 * n) ≤ 2 ^ 56 := Nat.pow_le_pow_right (by omega) (by omega)
      have := Nat.mul_le_mul (show m ≤ 127 by omega) h2
      omega
  have e3 : IntKind.u64.wrap ((m : Int) * 2 ^ (7 * n)) = ((m * 2 ^ (7 * n) : Nat) : Int) := by
    simp only [IntKind.wrap_u64]
    have : ((m : Int) * 2 ^ (7 * n)) = ((m * 2 ^ (7 * n) : Nat) : Int) := by push_cast; rfl
    rw [this]; omega
  rw [e2, e3]
  have ha2 : acc < 18446744073709551616 := by
    have h2 : 2 ^ (7 * n) ≤ 2 ^ 63 := Nat.pow_le_pow_right (by omega) (by omega)
    omega
  have e4 : acc ||| (m * 2 ^ (7 * n)) = acc + m * 2 ^ (7 * n) := by
    rw [Nat.mul_comm, Nat.or_comm, Nat.add_comm]
    exact (Nat.two_pow_add_eq_or_of_lt ha m).symm
  have ea : (((acc : Nat) : Int) % ((2 ^ 64 : Nat) : Int)).toNat = acc := by omega
  have eb : (((m * 2 ^ (7 * n) : Nat) : Int) % ((2 ^ 64 : Nat) : Int)).toNat = m * 2 ^ (7 * n) := by
    generalize m * 2 ^ (7 * n) = z at *
    omega
  show IntKind.u64.wrap ((BitVec.ofInt 64 (acc : Int) ||| BitVec.ofInt 64 ((m * 2 ^ (7 * n) : Nat) : Int)).toNat : Int) = _
  rw [BitVec.toNat_or, BitVec.toNat_ofInt, BitVec.toNat_ofInt, ea, eb, e4]
  simp only [IntKind.wrap_u64]
  have hsum : acc + m * 2 ^ (7 * n) < 18446744073709551616 := by
    rw [← e4]
    exact Nat.or_lt_two_pow (n := 64) (by omega) (by omega)
  generalize acc + m * 2 ^ (7 * n) = z at *
  omega
theorem accLt {acc n x : Nat} (ha : acc < 2 ^ (7 * n)) (hx : x < 128) : acc + x * 2 ^ (7 * n) < 2 ^ (7 * (n + 1)) := by
  have e : 2 ^ (7 * (n + 1)) = 128 * 2 ^ (7 * n) := by rw [show 7 * (n + 1) = 7 * n + 7 by omega, Nat.pow_add]; omega
  have := Nat.mul_le_mul_right (2 ^ (7 * n)) (show x + 1 ≤ 128 by omega)
  rw [Nat.add_mul] at this
  omega
theorem num_len : ∀ (l : List Int) (k acc : Nat), match num l k acc with | .short => True | .form j => k ≤ j ∧ j < k + l.length | .val _ n => k < n ∧ n ≤ k + l.length
  | [], k, acc => by simp [num]
  | x :: l, k, acc => by
    by_cases h1 : (k = 9 ∧ 1 < x) ∨ (0 < k ∧ x = 0)
    · simp [num, h1]
    · by_cases h2 : x < 128
      · simp [num, h1, h2]
      · have := num_len l (k + 1) (acc + (x.toNat - 128) * 2 ^ (7 * k))
        rw [num, if_neg h1, if_neg h2]
        generalize num l (k + 1) (acc + (x.toNat - 128) * 2 ^ (7 * k)) = r at *
        cases r <;> simp at this ⊢ <;> omega

theorem rnumber_bad {w : World} {p : Nat} {v : Value} {s : RS} (h : Rd w p v s) (hy : ¬ s.why = 0) (x y : Value) : Calls Try.prog 93 #[.pointer (some ⟨p, 0, none⟩), x, y] w fun e w' => e = .returned (.int .u64 0) ∧ w = w' := by
  have hg : decide (s.why = 0) = false := by simp [hy]
  go_enter Try.func93, Try.ntmps93
  go_wp2_with (go_at_call 105; refine (rgood_of h).mono ?_; rintro e w1 ⟨rfl, rfl⟩)
  go_ret
  exact ⟨rfl, rfl⟩

set_option maxHeartbeats 1000000 in
theorem rnumber_good {w : World} {p : Nat} {v : Value} {s : RS} (h : Rd w p v s) (hy : s.why = 0) (most : Nat) (above : Int) : Calls Try.prog 93 #[.pointer (some ⟨p, 0, none⟩), .int .u64 most, .int .i64 above] w fun e w' => e = .returned (.int .u64 (s.num most above).1) ∧ Rd w' p v (s.num most above).2 ∧ Chg [p] w w' := by
  obtain ⟨ao, c, rfl, hlc, _⟩ := h.form
  obtain ⟨_, c1, c2, c3, fr⟩ := h.cells
  have c0 : w.cell? ⟨p, 0, none⟩ = some (.slice ao s.bs.length c) := cell_of_row w p 0 _ _ _ h.mem
  have h1 := h.ok.pos
  have h2 := h.ok.sz
  have hg : decide (s.why = 0) = true := by simp [hy]
  have f1 := fr 1
  obtain ⟨r, hr⟩ : ∃ r, s.num most above = r := ⟨_, rfl⟩
  have hS : r = match num (s.bs.drop s.pos) 0 0 with
    | .short => (0, s.fail 20 s.bs.length)
    | .form k => (0, s.fail 21 (s.pos + k))
    | .val v n => if most < v then (0, s.fail above s.pos) else (v, { s with pos := s.pos + n }) := by rw [← hr]; simp [RS.num, hy]
  rw [hr]
  have HS := Lib.hid hS
  clear hS fr hr
  have hsrc := Src.of_owns h.own
  go_enter Try.func93, Try.ntmps93
  go_wp2_with (go_at_call 105; refine (rgood_of h).mono ?_; rintro e w1 ⟨rfl, rfl⟩)
  go_loopw [7, 8, 9] (fun v i k wr => wr = w ∧ ∃ (n : Nat) (acc : Nat), n ≤ 9 ∧ s.pos + n ≤ s.bs.length ∧ acc < 2 ^ (7 * n) ∧ k = .int .i64 n ∧ i = .int .i64 ((s.pos : Int) + n) ∧ v = .int .u64 acc ∧ num (s.bs.drop s.pos) 0 0 = num (s.bs.drop (s.pos + n)) n acc) (fun _ _ k _ => 10 - (intOf k).toNat)
  case atStart => exact ⟨rfl, 0, 0, by omega, by omega, by simp, rfl, by simp, rfl, rfl⟩
  case round =>
    obtain ⟨rfl, n, acc, hn, hnl, ha, rfl, rfl, rfl, hN⟩ := hrel
    have HN := Lib.hid hN
    have HA := Lib.hid ha
    clear hN ha
    by_cases hlt : s.pos + n < s.bs.length
    · have hr := h.byte (s.pos + n)
      have hcell : ∃ ad, ao = some ad ∧ wr.cell? (ad.add (s.pos + n)) = some (.int .u8 (s.bs[s.pos + n]?.getD 0)) := by
        obtain ⟨ao2, c2, he, h0, hcc⟩ := hsrc.out
        cases he
        cases ao with
        | none => have := (h0 rfl).1; omega
        | some ad => exact ⟨ad, rfl, hcc ad rfl _ _ (by rw [List.getElem?_map, List.getElem?_eq_getElem hlt]; rfl)⟩
      obtain ⟨ad, rfl, hcell⟩ := hcell
      have hcons : s.bs.drop (s.pos + n) = s.bs[s.pos + n]?.getD 0 :: s.bs.drop (s.pos + n + 1) := by
        rw [List.getElem?_eq_getElem hlt, List.drop_eq_getElem_cons hlt]; rfl
      have hC := Lib.hid hcons
      clear hcons
      generalize hx : s.bs[s.pos + n]?.getD 0 = x at *
      clear hx
      obtain ⟨r0, r1⟩ := hr
      by_cases hb : (n = 9 ∧ 1 < x) ∨ (0 < n ∧ x = 0)
      · have hF := fun (y : Int) (hy : y = (s.pos + n : Nat)) => rfail_at h 21 (s.pos + n) (by omega) hy
        have hE : r = (0, s.fail 21 (s.pos + n)) := by rw [HS.out, HN.out, hC.out, num, if_pos hb]
        subst hE
        clear HS
        rcases hb with ⟨hn9, hx9⟩ | ⟨hx0, rfl⟩
        · have hn9' : 9 ≤ n := by omega
          clear hn9
          go_wp2_with (go_at_call 55; (with_reducible refine (hF _ (by omega)).mono ?_); rintro e w1 ⟨rfl, hR, hc⟩)
          go_ret
          exact ⟨rfl, hR, hc⟩
        · go_wp2_with (go_at_call 55; (with_reducible refine (hF _ (by omega)).mono ?_); rintro e w1 ⟨rfl, hR, hc⟩)
          all_goals go_ret
          all_goals exact ⟨rfl, hR, hc⟩
      · by_cases hsm : x < 128
        · have hmod : x.toNat % 128 = x.toNat := by omega
          have hacc := accStep r0 r1 hn (by omega) HA.out
          rw [hmod] at hacc
          have hE : r = if most < acc + x.toNat * 2 ^ (7 * n) then (0, s.fail above s.pos) else (acc + x.toNat * 2 ^ (7 * n), { s with pos := s.pos + (n + 1) }) := by rw [HS.out, HN.out, hC.out, num, if_neg hb, if_pos hsm]
          have HE := Lib.hid hE
          clear hE hmod
          have hE := HE.out
          generalize hz : acc + x.toNat * 2 ^ (7 * n) = z at *
          clear hz HE
          by_cases hm : most < z
          · have hF := rfail_of h above s.pos (by omega)
            rw [if_pos hm] at hE
            subst hE
            by_cases hn9 : 9 ≤ n
            · have hacc9 : bits BinOp.or IntKind.u64 (acc : Int) (IntKind.u64.wrap (IntKind.u64.wrap (bits BinOp.and IntKind.u8 x 127) * 9223372036854775808)) = (z : Int) := by
                obtain rfl : n = 9 := by omega
                exact hacc
              have hx1 : x ≤ 1 := by omega
              have hx0 : 1 ≤ x := by omega
              have hxe : (x == 0) = false := by simp; omega
              go_wp2_with (go_at_call 55; (with_reducible refine hF.mono ?_); rintro e w1 ⟨rfl, hR, hc⟩)
              go_ret
              exact ⟨rfl, hR, hc⟩
            · go_wp2_with (go_at_call 55; (with_reducible refine hF.mono ?_); rintro e w1 ⟨rfl, hR, hc⟩)
              all_goals go_ret
              all_goals exact ⟨rfl, hR, hc⟩
          · rw [if_neg hm] at hE
            subst hE
            have HM : ∀ wx, Chg [p] wr wx → wx.heap[p]? = some (.cells #[.slice (some ad) s.bs.length c, .int .i64 (s.pos + (n + 1) : Nat), .int .i64 0, .int .i64 s.to] 127 (0, 0)) → Rd wx p (.slice (some ad) s.bs.length c) { s with pos := s.pos + (n + 1), why := 0 } := fun wx hcx hmx => h.set hcx hmx (by omega) h.ok.to
            have hmem := h.mem
            rw [hy] at hmem
            have HMem := Lib.hid hmem
            clear hmem
            have hcs : ∀ u, Chg [p] wr (wr.setCell ⟨p, 1, none⟩ u) := fun u => (Chg.refl [p] wr).setCell (.inl (by simp)) u
            by_cases hn9 : 9 ≤ n
            · have hacc9 : bits BinOp.or IntKind.u64 (acc : Int) (IntKind.u64.wrap (IntKind.u64.wrap (bits BinOp.and IntKind.u8 x 127) * 9223372036854775808)) = (z : Int) := by
                obtain rfl : n = 9 := by omega
                exact hacc
              have hx1 : x ≤ 1 := by omega
              have hx0 : 1 ≤ x := by omega
              have hxe : (x == 0) = false := by simp; omega
              go_wp2
              go_ret
              refine ⟨rfl, HM _ (hcs _) ?_, hcs _⟩
              obtain rfl : n = 9 := by omega
              exact heap_setCell_same wr p 1 _ _ _ HMem.out
            · go_wp2
              all_goals go_ret
              all_goals refine ⟨rfl, HM _ (hcs _) ?_, hcs _⟩
              all_goals exact heap_setCell_same wr p 1 _ _ _ HMem.out
        · have hn9 : n < 9 := by omega
          have hacc := accStep r0 r1 hn (by omega) HA.out
          have hxm : x.toNat % 128 = x.toNat - 128 := by omega
          rw [hxm] at hacc
          have hE : num (s.bs.drop s.pos) 0 0 = num (s.bs.drop (s.pos + n + 1)) (n + 1) (acc + (x.toNat - 128) * 2 ^ (7 * n)) := by rw [HN.out, hC.out, num, if_neg hb, if_neg hsm]
          have HE := Lib.hid hE
          clear hE hxm
          have hB : acc + (x.toNat - 128) * 2 ^ (7 * n) < 2 ^ (7 * (n + 1)) := accLt HA.out (by omega)
          have HB := Lib.hid hB
          clear hB
          go_wp2
          all_goals go_roundw
          all_goals try (simp [intOf]; omega)
          all_goals refine ⟨trivial, n + 1, acc + (x.toNat - 128) * 2 ^ (7 * n), by omega, by omega, HB.out, by go_num, by go_num, ?_, HE.out⟩
          all_goals simp only [Int.natCast_add, Int.natCast_mul, Int.natCast_pow]
          all_goals rfl
    · have hd : s.bs.drop (s.pos + n) = [] := List.drop_eq_nil_of_le (by omega)
      have hE : r = (0, s.fail 20 s.bs.length) := by rw [HS.out, HN.out, hd, num]
      subst hE
      have hF := rfail_of h 20 s.bs.length (by omega)
      clear HS hd
      go_wp2_with (go_at_call 55; (with_reducible refine hF.mono ?_); rintro e w1 ⟨rfl, hR, hc⟩)
      go_ret
      exact ⟨rfl, hR, hc⟩
end Go.Proofs.Ytinelhjkgikigaa.W
