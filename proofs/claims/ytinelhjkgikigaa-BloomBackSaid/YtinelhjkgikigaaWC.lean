/- Wire: the reader's Uint, load, Raw. -/
import Derived.Test.YtinelhjkgikigaaWB
namespace Go.Proofs.Ytinelhjkgikigaa.W
open Go Go.RowKit Go.Proofs.Ytinelhjkgikigaa.K
set_option maxRecDepth 100000

theorem rnumber_of {w : World} {p : Nat} {v : Value} {s : RS} (h : Rd w p v s) (most : Nat) (above : Int) {x : Int} (hx : x = most) : Calls Try.prog 93 #[.pointer (some ⟨p, 0, none⟩), .int .u64 x, .int .i64 above] w fun e w' => e = .returned (.int .u64 (s.num most above).1) ∧ Rd w' p v (s.num most above).2 ∧ Chg [p] w w' := by
  subst hx
  by_cases hy : s.why = 0
  · exact rnumber_good h hy most above
  · refine (rnumber_bad h hy _ _).mono fun e w' ⟨h1, h2⟩ => ?_
    subst h2
    have : s.num most above = (0, s) := by simp [RS.num, hy]
    rw [this]
    exact ⟨h1, h, Chg.refl _ _⟩

theorem ruint_nil (x : Value) (w : World) : Calls Try.prog 54 #[.pointer none, x] w fun e w' => e = .returned (.int .u64 0) ∧ w = w' := by
  go_enter Try.func54, Try.ntmps54
  go_wp2_with (go_at_call 93; refine (rnumber_nil _ _ w).mono ?_; rintro e w1 ⟨rfl, rfl⟩)
  go_ret
  exact ⟨rfl, rfl⟩
theorem ruint_of {w : World} {p : Nat} {v : Value} {s : RS} (h : Rd w p v s) (most : Nat) {x : Int} (hx : x = most) : Calls Try.prog 54 #[.pointer (some ⟨p, 0, none⟩), .int .u64 x] w fun e w' => e = .returned (.int .u64 (s.num most 2).1) ∧ Rd w' p v (s.num most 2).2 ∧ Chg [p] w w' := by
  have hN := rnumber_of h most 2 hx
  obtain ⟨q, hq⟩ : ∃ q, s.num most 2 = q := ⟨_, rfl⟩
  rw [hq] at hN ⊢
  clear hq hx
  go_enter Try.func54, Try.ntmps54
  go_wp2_with (go_at_call 93; refine hN.mono ?_; rintro e w1 ⟨rfl, hR, hc⟩)
  go_ret
  exact ⟨rfl, hR, hc⟩

/-- a length and so many things of 'each' bytes -/
def RS.load (s : RS) (most : Int) (each : Nat) : Option (List Int) × RS :=
  if s.why = 0 then
    match W.num (s.bs.drop s.pos) 0 0 with
    | .short => (none, s.fail 20 s.bs.length)
    | .form k => (none, s.fail 21 (s.pos + k))
    | .val v n => if most < v then (none, s.fail 6 s.pos) else if (s.bs.length - (s.pos + n)) / each < v then (none, s.fail 20 s.bs.length) else (some ((s.bs.drop (s.pos + n)).take (v * each)), { s with pos := s.pos + n + v * each })
  else (none, s)

theorem RS.fail_good {s : RS} (h : s.why = 0) {e : Int} (he : e ≠ 0) (a : Nat) : s.fail e a = { s with why := e, to := a } := by simp [RS.fail, h, he]

theorem rload_of {w : World} {p : Nat} {v : Value} {s : RS} (h : Rd w p v s) (most : Int) (each : Nat) (hm : most ≤ 4611686018427387904) (h1 : 1 ≤ each) (h2 : each ≤ 1024) : Calls Try.prog 96 #[.pointer (some ⟨p, 0, none⟩), .int .i64 most, .int .i64 each] w fun e w' => ∃ u, e = .returned u ∧ Rd w' p v (s.load most each).2 ∧ Piece w' v u (s.load most each).1 ∧ Chg [p] w w' := by
  obtain ⟨r, hr⟩ : ∃ r, s.load most each = r := ⟨_, rfl⟩
  rw [hr]
  have HR := Lib.hid hr
  clear hr
  have hsz := h.ok.sz
  by_cases hy : s.why = 0
  · by_cases hneg : most < 0
    · obtain ⟨q, hq⟩ : ∃ q, s.num 0 6 = q := ⟨_, rfl⟩
      have hN := rnumber_of h 0 6 (x := 0) rfl
      rw [hq] at hN
      have key : ({ q.2 with pos := s.pos } : RS).fail 6 s.pos = r.2 ∧ r.1 = none ∧ (decide (r.2.why = 0)) = false ∧ q.2.bs = s.bs := by
        rw [← hq, ← HR.out]
        unfold RS.load RS.num
        rw [if_pos hy, if_pos hy]
        cases hn : num (s.bs.drop s.pos) 0 0 with
        | short => simp [RS.fail, hy]
        | form k => simp [RS.fail, hy]
        | val v n =>
          have hv : most < v := by omega
          by_cases h0 : 0 < v
          · simp [hv, RS.fail, hy, h0]
          · simp [hv, RS.fail, hy, h0]
      clear hq HR
      obtain ⟨k1, k2, k3, k4⟩ := key
      obtain ⟨r1, r2⟩ := r
      simp only at k1 k2 k3 ⊢
      subst k2
      have K1 := Lib.hid k1
      have K4 := Lib.hid k4
      clear k1 k4
      go_enter Try.func96, Try.ntmps96
      go_wp2_with first
        | (go_at_call 56; refine (rat_of h).mono ?_; rintro e w1 ⟨rfl, rfl⟩)
        | (go_at_call 105; refine (rgood_of h).mono ?_; rintro e w1 ⟨rfl, rfl⟩; simp only [hy])
        | (go_at_call 93; refine hN.mono ?_; rintro e w1 ⟨rfl, hR1, hc1⟩; have f1 := hR1.cells.2.2.2.2 1; have d1 := hR1.cells.2.1; have hm1 := Lib.hid hR1.mem)
      have hR2 := hR1.set (w' := w1.setCell ⟨p, 1, none⟩ (.int .i64 s.pos)) (q := s.pos) ((Chg.refl [p] w1).setCell (.inl (by simp)) _) (heap_setCell_same w1 p 1 _ _ _ hm1.out) (by rw [K4.out]; exact h.ok.pos) hR1.ok.to
      have hc2 : Chg [p] w (w1.setCell ⟨p, 1, none⟩ (.int .i64 s.pos)) := hc1.setCell (.inl (by simp)) _
      have hF := rfail_of hR2 6 s.pos (by rw [K4.out]; exact h.ok.pos)
      generalize w1.setCell ⟨p, 1, none⟩ (.int .i64 s.pos) = w2 at *
      go_wp2_with (go_at_call 55; refine hF.mono ?_; rintro e w3 ⟨rfl, hR3, hc3⟩; rw [K1.out] at hR3)
      go_wp2_with (go_at_call 105; refine (rgood_of hR3).mono ?_; rintro e w2 ⟨rfl, rfl⟩)
      go_ret
      exact ⟨_, rfl, hR3, rfl, hc2.trans hc3⟩
    · obtain ⟨m, rfl⟩ := Int.eq_ofNat_of_zero_le (show 0 ≤ most by omega)
      clear hneg
      obtain ⟨q, hq⟩ : ∃ q, s.num m 6 = q := ⟨_, rfl⟩
      have hN := rnumber_of h m 6 (x := m) rfl
      rw [hq] at hN
      have key : (q.2.why ≠ 0 ∧ r = (none, q.2)) ∨ ∃ v n, q = (v, { s with pos := s.pos + n, why := 0 }) ∧ s.pos + n ≤ s.bs.length ∧ v ≤ m ∧ r = if (s.bs.length - (s.pos + n)) / each < v then (none, s.fail 20 s.bs.length) else (some ((s.bs.drop (s.pos + n)).take (v * each)), { s with pos := s.pos + n + v * each }) := by
        rw [← hq, ← HR.out]
        have hl := num_len (s.bs.drop s.pos) 0 0
        unfold RS.load RS.num
        rw [if_pos hy, if_pos hy]
        cases hn : num (s.bs.drop s.pos) 0 0 with
        | short => left; simp [RS.fail_good hy]
        | form k => left; simp [RS.fail_good hy]
        | val v n =>
          rw [hn] at hl
          simp at hl
          by_cases hv : m < v
          · left; simp [hv, RS.fail_good hy]
          · right
            refine ⟨v, n, ?_, by have := h.ok.pos; omega, by omega, ?_⟩
            · simp [hv, hy]
            · simp [hv]
      clear hq HR
      rcases key with ⟨hbad, rfl⟩ | ⟨vv, n, rfl, hpn, hvm, hr⟩
      · have hbad' : (decide (q.2.why = 0)) = false := by simp [hbad]
        go_enter Try.func96, Try.ntmps96
        go_wp2_with first
          | (go_at_call 56; refine (rat_of h).mono ?_; rintro e w1 ⟨rfl, rfl⟩)
          | (go_at_call 105; refine (rgood_of h).mono ?_; rintro e w1 ⟨rfl, rfl⟩; simp only [hy])
          | (go_at_call 93; refine hN.mono ?_; rintro e w1 ⟨rfl, hR1, hc1⟩; clear h)
        go_wp2_with (go_at_call 105; refine (rgood_of hR1).mono ?_; rintro e w2 ⟨rfl, rfl⟩)
        go_ret
        exact ⟨_, rfl, hR1, rfl, hc1⟩
      · obtain ⟨Q, hQd⟩ : ∃ Q, (s.bs.length - (s.pos + n)) / each = Q := ⟨_, rfl⟩
        rw [hQd] at hr
        have hQ : ((s.bs.length : Int) - ((s.pos : Int) + n)) / each = Q := by
          rw [← hQd, Int.natCast_ediv, Int.natCast_sub hpn]; rfl
        have hQm : Q * each ≤ s.bs.length - (s.pos + n) := by rw [← hQd]; exact Nat.div_mul_le_self _ _
        have hQb : Q ≤ 140737488355328 := by
          have := Nat.mul_le_mul_left Q h1
          omega
        have HQm := Lib.hid hQm
        clear hQd hQm
        have hto := h.ok.to
        by_cases hqv : Q < vv
        · rw [if_pos hqv] at hr
          subst hr
          have hFE : s.fail 20 s.bs.length = { s with pos := s.pos, why := 20, to := s.bs.length } := by simp [RS.fail, hy]
          rw [hFE]
          clear hFE
          go_enter Try.func96, Try.ntmps96
          go_wp2_with first
            | (go_at_call 56; refine (rat_of h).mono ?_; rintro e w1 ⟨rfl, rfl⟩)
            | (go_at_call 105; refine (rgood_of h).mono ?_; rintro e w1 ⟨rfl, rfl⟩; simp only [hy])
            | (go_at_call 93; refine hN.mono ?_; rintro e w1 ⟨rfl, hR1, hc1⟩)
          go_wp2_with (go_at_call 105; refine (rgood_of hR1).mono ?_; rintro e w2 ⟨rfl, rfl⟩)
          go_wp2_with (go_at_call 98; refine (rleft_of hR1).mono ?_; rintro e w2 ⟨rfl, hc2⟩; have hR2 := hR1.chg hc2 (by simp) (by simp); obtain ⟨⟨ao2, cc2, d0⟩, d1, d2, d3, fr2⟩ := hR2.cells; have f1 := fr2 1)
          have hF := rfail_of hR2 20 s.bs.length (Nat.le_refl _)
          go_wp2_with (go_at_call 55; refine hF.mono ?_; rintro e w3 ⟨rfl, hR3, hc3⟩; obtain ⟨⟨ao3, cc3, g0⟩, g1, g2, g3, fr3⟩ := hR3.cells; have g1 := fr3 1)
          go_ret
          have e3 : ({ bs := s.bs, pos := s.pos + n, why := 0, to := s.to } : RS).fail 20 s.bs.length = { bs := s.bs, pos := s.pos + n, why := 20, to := s.bs.length } := by simp [RS.fail]
          rw [e3] at hR3
          exact ⟨_, rfl, hR3.set (q := s.pos) ((Chg.refl [p] w3).setCell (.inl (by simp)) _) (heap_setCell_same w3 p 1 _ _ _ hR3.mem) h.ok.pos (Nat.le_refl _), rfl, ((hc1.trans hc2.weak).trans hc3).setCell (.inl (by simp)) _⟩
        · rw [if_neg hqv] at hr
          subst hr
          have hve : vv * each ≤ s.bs.length - (s.pos + n) := Nat.le_trans (Nat.mul_le_mul_right each (by omega)) HQm.out
          go_enter Try.func96, Try.ntmps96
          go_wp2_with first
            | (go_at_call 56; refine (rat_of h).mono ?_; rintro e w1 ⟨rfl, rfl⟩)
            | (go_at_call 105; refine (rgood_of h).mono ?_; rintro e w1 ⟨rfl, rfl⟩; simp only [hy])
            | (go_at_call 93; refine hN.mono ?_; rintro e w1 ⟨rfl, hR1, hc1⟩)
          go_wp2_with (go_at_call 105; refine (rgood_of hR1).mono ?_; rintro e w2 ⟨rfl, rfl⟩)
          go_wp2_with (go_at_call 98; refine (rleft_of hR1).mono ?_; rintro e w2 ⟨rfl, hc2⟩; have hR2 := hR1.chg hc2 (by simp) (by simp); obtain ⟨⟨ao2, cc2, d0⟩, d1, d2, d3, fr2⟩ := hR2.cells; have f1 := fr2 1)
          have hT := rtake_of hR2 (vv * each) (by omega)
          rw [Int.natCast_mul] at hT
          have e3 : ({ bs := s.bs, pos := s.pos + n, why := 0, to := s.to } : RS).take (vv * each) = (some ((s.bs.drop (s.pos + n)).take (vv * each)), { bs := s.bs, pos := s.pos + n + vv * each, why := 0, to := s.to }) := by
            unfold RS.take
            rw [if_pos rfl, if_neg (by simp; omega)]
          rw [e3] at hT
          go_wp2_with (go_at_call 95; refine hT.mono ?_; rintro e w3 ⟨u, rfl, hR3, hP, hc3⟩)
          go_ret
          have e4 : ({ bs := s.bs, pos := s.pos + n + vv * each, why := s.why, to := s.to } : RS) = { bs := s.bs, pos := s.pos + n + vv * each, why := 0, to := s.to } := by rw [hy]
          exact ⟨_, rfl, e4 ▸ hR3, hP, (hc1.trans hc2.weak).trans hc3⟩
  · have : r = (none, s) := by rw [← HR.out]; simp [RS.load, hy]
    subst this
    clear HR
    go_enter Try.func96, Try.ntmps96
    go_wp2_with first
      | (go_at_call 56; refine (rat_of h).mono ?_; rintro e w1 ⟨rfl, rfl⟩)
      | (go_at_call 105; refine (rgood_of h).mono ?_; rintro e w1 ⟨rfl, rfl⟩; simp only [hy])
    go_ret
    exact ⟨_, rfl, h, rfl, Chg.refl _ _⟩

theorem RS.take_ok {s : RS} (h : s.Ok) (l : List Int) (hl : ∀ x ∈ l, x ∈ s.bs) : BytesOk l := fun x hx => h.bytes x (hl x hx)
theorem RS.load_ok {s : RS} (h : s.Ok) (most : Int) (each : Nat) : BytesOk ((s.load most each).1.getD []) ∧ ((s.load most each).1.getD []).length ≤ s.bs.length ∧ (s.load most each).2.bs = s.bs := by
  unfold RS.load
  have h0 : BytesOk ([] : List Int) := by simp [BytesOk]
  have hf : ∀ e a, (s.fail e a).bs = s.bs := by intro e a; unfold RS.fail; split <;> rfl
  split
  · cases W.num (s.bs.drop s.pos) 0 0 with
    | short => exact ⟨h0, by simp, hf _ _⟩
    | form k => exact ⟨h0, by simp, hf _ _⟩
    | val v n =>
      simp only
      split
      · exact ⟨h0, by simp, hf _ _⟩
      · split
        · exact ⟨h0, by simp, hf _ _⟩
        · refine ⟨fun x hx => h.bytes x (List.mem_of_mem_drop (List.mem_of_mem_take hx)), ?_, rfl⟩
          simp; omega
  · exact ⟨h0, by simp, rfl⟩

theorem rraw_nil (x : Value) (w : World) (hl : Calls Try.prog 96 #[.pointer none, x, .int .i64 1] w fun e w' => e = .returned (.slice none 0 0) ∧ w = w') : Calls Try.prog 58 #[.pointer none, x] w fun e w' => e = .returned (.slice none 0 0) ∧ w = w' := by
  go_enter Try.func58, Try.ntmps58
  go_wp2_with (go_at_call 96; refine hl.mono ?_; rintro e w1 ⟨rfl, rfl⟩)
  go_wp2_with (go_at_call 92; refine (bclone_nil _).mono ?_; rintro e w1 ⟨rfl, rfl⟩)
  go_ret
  exact ⟨rfl, rfl⟩

theorem rraw_of {w : World} {p : Nat} {v : Value} {s : RS} (h : Rd w p v s) (most : Int) (hm : most ≤ 4611686018427387904) : Calls Try.prog 58 #[.pointer (some ⟨p, 0, none⟩), .int .i64 most] w fun e w' =>
    ∃ u, e = .returned u ∧ Rd w' p v (s.load most 1).2 ∧ w'.ownsRow w.heap.size 5 1 u ((s.load most 1).1.getD []).length (((s.load most 1).1.getD []).map (Value.int .u8)) ∧ Chg [p] w w' := by
  have hL := rload_of h most 1 hm (by omega) (by omega)
  obtain ⟨hok, hlen, _⟩ := RS.load_ok h.ok most 1
  have hsz := h.ok.sz
  have hplt := h.lt
  have hvlt : ∀ g, v.ownBlock = some g → g < w.heap.size := fun g hg => (h.own.lt g hg).2
  have hvne := h.ne
  obtain ⟨q, hq⟩ : ∃ q, s.load most 1 = q := ⟨_, rfl⟩
  rw [hq] at hL hok hlen ⊢
  clear hq
  obtain ⟨o, s'⟩ := q
  simp only at hL hok hlen ⊢
  have hS : ∀ w1 u, Piece w1 v u o → Src w1 u (o.getD []).length ((o.getD []).map (Value.int .u8)) := by
    intro w1 u hP
    cases o with
    | none => rw [show u = .slice none 0 0 from hP]; exact Src.nil _
    | some l => exact hP.1
  generalize o.getD [] = l at *
  go_enter Try.func58, Try.ntmps58
  go_wp2_with (go_at_call 96; refine hL.mono ?_; rintro e w1 ⟨u, rfl, hR1, hP, hc1⟩; have hs1 := hS _ _ hP)
  go_wp2_with (go_at_call 92; refine (bclone_of hs1 (by omega)).mono ?_; rintro e w2 ⟨u2, rfl, hown, hc2, _⟩)
  go_ret
  exact ⟨u2, rfl, hR1.chg hc2 (by simp) (by simp), owns_base hown (fun g hg => by have := (hown.lt g hg).1; have := hc1.size; omega), hc1.trans hc2.weak⟩
end Go.Proofs.Ytinelhjkgikigaa.W
