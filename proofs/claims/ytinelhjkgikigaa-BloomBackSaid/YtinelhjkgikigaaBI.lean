/- Bloom: Decode. -/
import Derived.Test.YtinelhjkgikigaaBH
import Derived.Test.YtinelhjkgikigaaWC
import Derived.OwnWalk
namespace Go.Proofs.Ytinelhjkgikigaa.B
open Go Go.RowKit Go.Proofs.Ytinelhjkgikigaa.K Go.Proofs.Ytinelhjkgikigaa.W
set_option maxRecDepth 100000

/-- what Decode goes through -/
def dS1 (bs : List Int) : Nat × RS := (⟨bs, 0, 0, 0⟩ : RS).num 65536 2
def dOk (n : Nat) : Prop := 8 ≤ n ∧ n ≤ 65536 ∧ n % 8 = 0
instance (n : Nat) : Decidable (dOk n) := by unfold dOk; infer_instance
def dS2 (bs : List Int) : RS := if dOk (dS1 bs).1 then (dS1 bs).2 else (dS1 bs).2.fail 2 0
def dS3 (bs : List Int) : Int × RS := (dS2 bs).byte
def dS4 (bs : List Int) : RS := if (dS3 bs).1 < 1 ∨ 16 < (dS3 bs).1 then (dS3 bs).2.fail 2 (dS2 bs).pos else (dS3 bs).2
def dS5 (bs : List Int) : Option (List Int) × RS := (dS4 bs).load 8192 1
def dS6 (bs : List Int) : RS := if 8 * ((dS5 bs).1.getD []).length = (dS1 bs).1 then (dS5 bs).2 else (dS5 bs).2.fail 21 (dS4 bs).pos

theorem num_le (s : RS) (m : Nat) (e : Int) : (s.num m e).1 ≤ m := by
  unfold RS.num
  split
  · split
    · simp
    · simp
    · split
      · simp
      · simp; omega
  · simp
theorem byte_rng {s : RS} (h : s.Ok) : 0 ≤ s.byte.1 ∧ s.byte.1 < 256 := by
  unfold RS.byte
  split
  · split
    · simp
    · exact h.byteAt _
  · simp

theorem fail_why {s : RS} {e : Int} {a : Nat} (he : e ≠ 0) : (s.fail e a).why ≠ 0 := by
  unfold RS.fail
  split
  · exact he
  · rename_i h
    intro h0
    exact h ⟨h0, he⟩
theorem byte_why {s : RS} (h : s.byte.2.why = 0) : s.why = 0 := by
  unfold RS.byte at h
  by_cases h1 : s.why = 0
  · exact h1
  · rw [if_neg h1] at h; exact h
theorem load_why {s : RS} {m : Int} {e : Nat} (h : (s.load m e).2.why = 0) : s.why = 0 := by
  unfold RS.load at h
  by_cases h1 : s.why = 0
  · exact h1
  · rw [if_neg h1] at h; exact h
theorem done_why {s : RS} (h : s.done.1 = 0) : s.why = 0 := by
  unfold RS.done at h
  split at h
  · cases h
  · exact h
theorem dS6_good {bs : List Int} (h : (dS6 bs).done.1 = 0) : dOk (dS1 bs).1 ∧ 1 ≤ (dS3 bs).1 ∧ (dS3 bs).1 ≤ 16 ∧ 8 * ((dS5 bs).1.getD []).length = (dS1 bs).1 := by
  have h6 := done_why h
  unfold dS6 at h6
  by_cases hq : 8 * ((dS5 bs).1.getD []).length = (dS1 bs).1
  · rw [if_pos hq] at h6
    have h4 : (dS4 bs).why = 0 := load_why h6
    unfold dS4 at h4
    by_cases hp : (dS3 bs).1 < 1 ∨ 16 < (dS3 bs).1
    · rw [if_pos hp] at h4; exact absurd h4 (fail_why (by decide))
    · rw [if_neg hp] at h4
      have h2 : (dS2 bs).why = 0 := byte_why h4
      unfold dS2 at h2
      by_cases hd : dOk (dS1 bs).1
      · exact ⟨hd, by omega, by omega, hq⟩
      · rw [if_neg hd] at h2; exact absurd h2 (fail_why (by decide))
  · rw [if_neg hq] at h6; exact absurd h6 (fail_why (by decide))

set_option maxHeartbeats 4000000 in
theorem decode_of {w : World} {x : Value} {bs : List Int} (hx : Src w x bs.length (bs.map (Value.int .u8))) (ok : BytesOk bs) (hsz : bs.length ≤ 140737488355328) :
    Calls Try.prog 33 #[x] w fun e w' => ∃ P, e = .returned (.tuple #[.pointer P, .int .i64 (dS6 bs).done.1, .int .i64 (if (dS6 bs).done.1 = 0 then 0 else (dS6 bs).done.2)]) ∧ Chg [] w w' ∧
      (if (dS6 bs).done.1 = 0 then ∃ b g, P = some ⟨b, 0, none⟩ ∧ w.heap.size ≤ b ∧ w.heap.size ≤ g ∧ Fil w' b g (dS3 bs).1.toNat ((dS5 bs).1.getD []) else P = none) := by
  obtain ⟨r, hr⟩ : ∃ r, dS6 bs = r := ⟨_, rfl⟩
  obtain ⟨l, hl⟩ : ∃ l, (dS5 bs).1.getD [] = l := ⟨_, rfl⟩
  obtain ⟨c, hcc⟩ : ∃ c, (dS3 bs).1 = c := ⟨_, rfl⟩
  obtain ⟨n, hn⟩ : ∃ n, (dS1 bs).1 = n := ⟨_, rfl⟩
  rw [hr, hl, hcc]
  have Hr := Lib.hid hr
  have Hl := Lib.hid hl
  have Hc := Lib.hid hcc
  have Hn := Lib.hid hn
  have hn1 : n ≤ 65536 := by rw [← hn]; exact num_le _ _ _
  have hgood := @dS6_good bs
  rw [hr, hl, hcc, hn] at hgood
  clear hr hl hcc hn
  go_enter Try.func33, Try.ntmps33
  go_wp2_with (go_at_call 53; refine (newReader_of hx ok hsz).mono ?_; rintro e w1 ⟨p, v, rfl, hR1, hc1, hpW, hv1⟩)
  have hT := ruint_of hR1 65536 (x := 65536) rfl
  rw [show (⟨bs, 0, 0, 0⟩ : RS).num 65536 2 = dS1 bs from rfl, Hn.out] at hT
  by_cases hd : dOk n
  case' pos =>
    have e2 : dS2 bs = (dS1 bs).2 := by unfold dS2; rw [Hn.out, if_pos hd]
    have hN := fun wx => new_ok (n : Int) 1 wx ⟨by have := hd.1; omega, by omega, by have := hd.2.2; omega, by omega, by omega⟩
    rw [← e2] at hT
    go_wp2_with first
      | (go_at_call 54; refine hT.mono ?_; rintro e w2 ⟨rfl, hR2, hc2⟩)
      | (go_at_call 16; refine (hN _).mono ?_; rintro e wA ⟨b0, g0, rfl, _, hc3, _, _⟩; have hRA := hR2.chg hc3 (by simp) (by simp); have hcA := hc2.trans hc3.weak; clear hR2 hc2 hc3 hN hT)
  case' neg =>
    have e2 : dS2 bs = (dS1 bs).2.fail 2 0 := by unfold dS2; rw [Hn.out, if_neg hd]
    have hN := fun wx => new_bad (n : Int) 1 wx (by unfold newOk; unfold dOk at hd; omega)
    go_wp2_with first
      | (go_at_call 54; refine hT.mono ?_; rintro e w2 ⟨rfl, hR2, hc2⟩)
      | (go_at_call 16; refine (hN _).mono ?_; rintro e w3 ⟨rfl, hc3⟩; have hR3 := hR2.chg hc3 (by simp) (by simp); have hF := rfail_of hR3 2 0 (Nat.zero_le _); rw [← e2] at hF)
      | (go_at_call 55; refine hF.mono ?_; rintro e wA ⟨rfl, hRA, hc4⟩; have hcA := (hc2.trans hc3.weak).trans hc4; clear hR2 hR3 hF hc2 hc3 hc4 hN hT)
  all_goals
    clear e2
    have hcr := byte_rng hRA.ok
    have hB := rbyte_of hRA
    rw [show (dS2 bs).byte = dS3 bs from rfl, Hc.out] at hB
    rw [show (dS2 bs).byte = dS3 bs from rfl, Hc.out] at hcr
    have ha2 := hRA.ok.pos
    obtain ⟨a2, he2⟩ : ∃ a2, (dS2 bs).pos = a2 := ⟨_, rfl⟩
    have hA := rat_of hRA
    rw [he2] at hA ha2
    have E2 := Lib.hid he2
    have hbs2 : (dS3 bs).2.bs = (dS2 bs).bs := by unfold dS3 RS.byte; split <;> (try split) <;> rfl
    have Hb2 := Lib.hid hbs2
    clear he2 hbs2
    by_cases hp : c < 1 ∨ 16 < c
    case' pos =>
      have e4 : dS4 bs = (dS3 bs).2.fail 2 a2 := by unfold dS4; rw [Hc.out, if_pos hp, E2.out]
      have hF := fun wx (hR : Rd wx p v (dS3 bs).2) => rfail_of hR 2 a2 (by rw [Hb2.out]; exact ha2)
      rw [← e4] at hF
      have hp' : decide (c < 1) = false → decide (16 < c) = true := by intro h; simp at h ⊢; omega
      go_wp2_with first
        | (go_at_call 56; refine hA.mono ?_; rintro e w5 ⟨rfl, rfl⟩)
        | (go_at_call 57; refine hB.mono ?_; rintro e w5 ⟨rfl, hR5, hc5⟩)
        | (go_at_call 55; refine (hF _ hR5).mono ?_; rintro e wB ⟨rfl, hRB, hc6⟩; have hcB := (hcA.trans hc5).trans hc6; clear hR5 hF hc5 hc6 hcA hA hB)
    case' neg =>
      have e4 : dS4 bs = (dS3 bs).2 := by unfold dS4; rw [Hc.out, if_neg hp]
      rw [← e4] at hB
      have hp1 : 1 ≤ c := by omega
      have hp2 : c ≤ 16 := by omega
      go_wp2_with first
        | (go_at_call 56; refine hA.mono ?_; rintro e w5 ⟨rfl, rfl⟩; clear hA)
        | (go_at_call 57; refine hB.mono ?_; rintro e wB ⟨rfl, hRB, hc5⟩; have hcB := hcA.trans hc5; clear hc5 hcA hB)
    all_goals
      clear e4
      have ha4 := hRB.ok.pos
      obtain ⟨a4, he4⟩ : ∃ a4, (dS4 bs).pos = a4 := ⟨_, rfl⟩
      have hA4 := rat_of hRB
      rw [he4] at hA4 ha4
      have E4 := Lib.hid he4
      clear he4
      have hL := rraw_of hRB 8192 (by omega)
      obtain ⟨hlo, hll, hlb⟩ := RS.load_ok hRB.ok 8192 1
      rw [show (dS4 bs).load 8192 1 = dS5 bs from rfl] at hL hlo hll hlb
      rw [Hl.out] at hL hlo hll
      have hlsz := hRB.ok.sz
      have Hlb := Lib.hid hlb
      clear hlb
      by_cases hq : 8 * l.length = n
      case' pos =>
        have e6 : dS6 bs = (dS5 bs).2 := by unfold dS6; rw [Hl.out, Hn.out, if_pos hq]
        rw [← e6, Hr.out] at hL
        have hq' : (8 * (l.length : Int) != (n : Int)) = false := by simp; omega
        clear hq
        go_wp2_with first
          | (go_at_call 56; refine hA4.mono ?_; rintro e w5 ⟨rfl, rfl⟩)
          | (go_at_call 58; refine hL.mono ?_; rintro e wC ⟨u, rfl, hRC, hlown, hc7⟩; obtain ⟨uao, uc, rfl, _⟩ := owns_form hlown; have hcC := hcB.trans hc7)
      case' neg =>
        have e6 : dS6 bs = (dS5 bs).2.fail 21 a4 := by unfold dS6; rw [Hl.out, Hn.out, if_neg hq, E4.out]
        have hF := fun wx (hR : Rd wx p v (dS5 bs).2) => rfail_of hR 21 a4 (by rw [Hlb.out]; exact ha4)
        rw [← e6, Hr.out] at hF
        have hq' : (8 * (l.length : Int) != (n : Int)) = true := by simp; omega
        clear hq
        go_wp2_with first
          | (go_at_call 56; refine hA4.mono ?_; rintro e w5 ⟨rfl, rfl⟩)
          | (go_at_call 58; refine hL.mono ?_; rintro e w6 ⟨u, rfl, hR6, hlown6, hc7⟩; obtain ⟨uao, uc, rfl, _⟩ := owns_form hlown6; have hc6 := hcB.trans hc7)
          | (go_at_call 55; refine (hF _ hR6).mono ?_; rintro e wC ⟨rfl, hRC, hc8⟩; have hcC := hc6.trans hc8; have hlown := hc8.owns hlown6 (fun g hg hm => by have h1 := (hlown6.lt g hg).1; have h2 := hRB.lt; simp at hm; omega))
      all_goals
        clear e6 hL hA4
        have hcW : Chg [] w wC := hc1.trans' hcC (fun _ h _ => h) (fun i hi hl => by simp at hi; omega)
        by_cases hz : r.done.1 = 0
        case' pos =>
          have hz' : (r.done.1 != 0) = false := by simp [hz]
          have hdn := rdone_of hRC
          obtain ⟨g1, g2, g3, g4⟩ := hgood hz
          first
            | exact absurd g1 hd
            | exact absurd hp (by omega)
            | (
              have g5 : 1 ≤ l.length := by have := g1.1; omega
              have g6 : l.length ≤ 8192 := by have := g1.2.1; omega
              rw [hz] at hdn
              have Hz := Lib.hid hz
              clear hz hz' hgood
              obtain ⟨gg, rfl⟩ : ∃ gg, uao = some ⟨gg, 0, none⟩ := by
                obtain ⟨gg, cc, hh⟩ := owns_some hlown g5
                simp only [Value.slice.injEq] at hh
                exact ⟨gg, hh.1⟩
              go_wp2_with (go_at_call 59; refine hdn.mono ?_; rintro e wD ⟨rfl, hcD⟩)
              go_ret3
              try rw [if_pos Hz.out, if_pos Hz.out, Hz.out]
              have hownD := hcD.owns hlown (by simp)
              have hgl := hlown.lt gg rfl
              obtain ⟨k, rfl⟩ := Int.eq_ofNat_of_zero_le (show 0 ≤ c by omega)
              refine ⟨_, rfl, (hcW.trans hcD).alloc _, wD.heap.size, rfl, (hcW.trans hcD).size, gg, ?_, ?_⟩
              · have := hcB.size; have := hc1.size; omega
              · exact Fil.made (by omega) (by omega) g5 g6 hlo hownD)
        case' neg =>
          have hz' : (r.done.1 != 0) = true := by simp [hz]
          have hdn := rdone_of hRC
          have Hz := Lib.hid hz
          clear hz hgood
          go_wp2_with (go_at_call 59; refine hdn.mono ?_; rintro e wD ⟨rfl, hcD⟩)
          try go_region
          all_goals try go_wp2
          all_goals go_ret3
          all_goals try rw [if_neg Hz.out, if_neg Hz.out]
          all_goals first
            | exact ⟨_, rfl, hcW.trans hcD, rfl⟩
            | exact ⟨_, rfl, (hcW.trans hcD).drew, rfl⟩
            | exact ⟨rfl, hcW.trans hcD⟩
            | exact ⟨rfl, (hcW.trans hcD).drew⟩
end Go.Proofs.Ytinelhjkgikigaa.B
