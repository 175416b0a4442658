/- Bloom: the law BloomOrder, walked. -/
import Derived.Test.YtinelhjkgikigaaBH
import Derived.Test.YtinelhjkgikigaaBQ
import Derived.Test.YtinelhjkgikigaaBLNever
namespace Go.Proofs.Ytinelhjkgikigaa.B
open Go Go.RowKit Go.Proofs.Ytinelhjkgikigaa.K
set_option maxRecDepth 100000

theorem new_at {n p : Nat} (h1 : 1 ≤ n) (h2 : n ≤ 8192) (h3 : 1 ≤ p) (h4 : p ≤ 16) (w : World) : Calls Try.prog 16 #[.int .i64 (8 * n), .int .i64 p] w fun e w' =>
    ∃ b g, e = .returned (.tuple #[.pointer (some ⟨b, 0, none⟩), .int .i64 0]) ∧ Fil w' b g p (List.replicate n 0) ∧ Chg [] w w' ∧ w.heap.size ≤ b ∧ w.heap.size ≤ g := by
  refine (new_ok (8 * n) p w ⟨by omega, by omega, by omega, by omega, by omega⟩).mono ?_
  rintro e w' ⟨b, g, he, hF, hr⟩
  refine ⟨b, g, he, ?_, hr⟩
  have e1 : (8 * (n : Int) / 8).toNat = n := by omega
  rw [e1] at hF
  exact hF
theorem addAll_snoc (bs : List Int) (p : Nat) (l : List (List Int)) (h : List Int) : addAll bs p (l ++ [h]) = setBits (addAll bs p l) (spotsOf h p (addAll bs p l).length) := by simp [addAll]

set_option maxHeartbeats 4000000 in
theorem order_walk {w : World} {ao : Option Addr} {b off c : Nat} {hs : List (List Int)} (A : HsArg w ao b off hs) (x y : Int) :
    Calls Try.prog 4 #[.slice ao hs.length c, .int .i64 x, .int .i64 y] w fun e w' => e = .returned (.bool true) ∧ Chg [] w w' := by
  have hx0 : 0 ≤ x % 64 := by omega
  have hx1 : x % 64 < 64 := by omega
  have hy0 : 0 ≤ y % 16 := by omega
  have hy1 : y % 16 < 16 := by omega
  go_enter Try.func4, Try.ntmps4
  go_wp2_with fail
  refine (which_of x 64 (by omega) (by omega) _).mono ?_
  rintro e w' ⟨rfl, rfl⟩
  go_wp2_with fail
  refine (which_of y 16 (by omega) (by omega) _).mono ?_
  rintro e w' ⟨rfl, rfl⟩
  obtain ⟨n, hn, hn1, hn2⟩ : ∃ n : Nat, 1 + x % 64 = n ∧ 1 ≤ n ∧ n ≤ 64 := ⟨(1 + x % 64).toNat, by omega, by omega, by omega⟩
  obtain ⟨p, hp, hp1, hp2⟩ : ∃ p : Nat, 1 + y % 16 = p ∧ 1 ≤ p ∧ p ≤ 16 := ⟨(1 + y % 16).toNat, by omega, by omega, by omega⟩
  generalize x % 64 = x' at *
  generalize y % 16 = y' at *
  obtain rfl : x' = (n : Int) - 1 := by omega
  obtain rfl : y' = (p : Int) - 1 := by omega
  clear hn hp hx0 hx1 hy0 hy1
  go_wp2_with fail
  rw [show 8 * (1 + ((n : Int) - 1)) = 8 * n by omega, show 1 + ((p : Int) - 1) = p by omega]
  refine (new_at hn1 (by omega) hp1 hp2 _).mono ?_
  rintro e w1 ⟨b1, g1, rfl, F1, hc1, hb1, hg1⟩
  go_wp2_with fail
  refine (new_at hn1 (by omega) hp1 hp2 _).mono ?_
  rintro e w2 ⟨b2, g2, rfl, F2, hc2, hb2, hg2⟩
  go_wp2_with fail
  refine (new_at hn1 (by omega) hp1 hp2 _).mono ?_
  rintro e w3 ⟨b3, g3, rfl, F3, hc3, hb3, hg3⟩
  obtain ⟨l1, l2⟩ := F1.blt
  obtain ⟨l3, l4⟩ := F2.blt
  obtain ⟨l5, l6⟩ := F3.blt
  have F1 := F1.chg (hc2.trans hc3) (by simp) (by simp)
  have F2 := F2.chg hc3 (by simp) (by simp)
  have hcw := hc1.trans (hc2.trans hc3)
  have s1 := hc1.size
  have s2 := hc2.size
  have s3 := hc3.size
  have hz := A.sz
  clear hc1 hc2 hc3
  generalize hR : List.replicate n (0 : Int) = R at *
  have hRl : R.length = n := by rw [← hR]; simp
  have HR := Lib.hid hR
  have HRl := Lib.hid hRl
  clear hR hRl
  go_wp2
  go_loopw [13] (fun i wr => ∃ k : Nat, k ≤ hs.length ∧ i = .int .i64 k ∧ Fil wr b1 g1 p (addAll R p (hs.take k)) ∧ Fil wr b2 g2 p (addAll R p (bothWays hs k)) ∧ Fil wr b3 g3 p (addAll R p (evens hs k)) ∧ Chg [g1, g2, g3] w3 wr) (fun i _ => hs.length - (intOf i).toNat)
  case atStart => exact ⟨0, by omega, rfl, F1, F2, F3, Chg.refl _ _⟩
  case round =>
    obtain ⟨k, hk, rfl, G1, G2, G3, hck⟩ := hrel
    have hcw4 : Chg [] w wr := hcw.trans' hck (fun _ h _ => h) (fun i hi hl => by simp at hi; omega)
    clear F1 F2 F3
    by_cases hlt : k < hs.length
    · obtain ⟨h, hh, hok, hcs, hao⟩ := A.cs hcw4 hlt
      obtain ⟨h', hh', hok', hcs', _⟩ := A.cs hcw4 (k := hs.length - 1 - k) (by omega)
      have hblt : b < w.heap.size := A.lt (by rintro rfl; simp at hlt)
      subst hao
      have HH := Lib.hid hh
      have HH' := Lib.hid hh'
      have e0 : ((hs.length : Int) - 1 - k).toNat = hs.length - 1 - k := by omega
      clear hh hh' hcw
      go_wp2_with ((with_reducible show wpList _ _ _ (⟨some 67, _, _, _, _, _⟩ :: _) _ _); refine wpList_loadAgg loadHash rfl hcs (hv_len hok) ?_)
      refine (add_of G1 hok).mono ?_
      rintro e w5 ⟨rfl, G1', hc5⟩
      have G2' := G2.chg hc5 (by simp; omega) (by simp; omega)
      have G3' := G3.chg hc5 (by simp; omega) (by simp; omega)
      have k5 := hcs.chg (S := [g1]) hc5 (by simp; omega)
      have k5' := hcs'.chg (S := [g1]) hc5 (by simp; omega)
      have h5 := hck.trans (hc5.mono (T := [g1, g2, g3]) (by simp))
      clear G1 G2 G3 hcs hcs' hc5 hck
      go_wp2_with ((with_reducible show wpList _ _ _ (⟨some 77, _, _, _, _, _⟩ :: _) _ _); refine wpList_loadAgg loadHash rfl k5' (hv_len hok') ?_)
      refine (add_of G2' hok').mono ?_
      rintro e w6 ⟨rfl, G2, hc6⟩
      have G1 := G1'.chg hc6 (by simp; omega) (by simp; omega)
      have G3 := G3'.chg hc6 (by simp; omega) (by simp; omega)
      have k6 := k5.chg (S := [g2]) hc6 (by simp; omega)
      have h6 := h5.trans (hc6.mono (T := [g1, g2, g3]) (by simp))
      clear G1' G2' G3' k5 k5' hc6 h5
      go_wp2_with ((with_reducible show wpList _ _ _ (⟨some 83, _, _, _, _, _⟩ :: _) _ _); refine wpList_loadAgg loadHash rfl k6 (hv_len hok) ?_)
      refine (add_of G2 hok).mono ?_
      rintro e w7 ⟨rfl, G2', hc7⟩
      have G1' := G1.chg hc7 (by simp; omega) (by simp; omega)
      have G3' := G3.chg hc7 (by simp; omega) (by simp; omega)
      have k7 := k6.chg (S := [g2]) hc7 (by simp; omega)
      have h7 := h6.trans (hc7.mono (T := [g1, g2, g3]) (by simp))
      clear G1 G2 G3 k6 hc7 h6
      have E1 := Lib.hid (show addAll R p (hs.take (k + 1)) = setBits (addAll R p (hs.take k)) (spotsOf h p (addAll R p (hs.take k)).length) by rw [List.take_add_one, HH.out, Option.toList, addAll_snoc])
      have E2 := Lib.hid (show addAll R p (bothWays hs (k + 1)) = setBits (setBits (addAll R p (bothWays hs k)) (spotsOf h' p (addAll R p (bothWays hs k)).length)) (spotsOf h p (setBits (addAll R p (bothWays hs k)) (spotsOf h' p (addAll R p (bothWays hs k)).length)).length) by
        rw [bothWays, addAll_snoc, addAll_snoc, HH.out, HH'.out]; rfl)
      rw [← E1.out] at G1'
      rw [← E2.out] at G2'
      by_cases hk2 : k % 2 = 0
      · have d2 : ((k : Int) % 2 == 0) = true := by simp; omega
        have E3 := Lib.hid (show addAll R p (evens hs (k + 1)) = setBits (addAll R p (evens hs k)) (spotsOf h p (addAll R p (evens hs k)).length) by rw [evens, if_pos hk2, addAll_snoc, HH.out]; rfl)
        clear hk2 E1 E2
        go_wp2_with ((with_reducible show wpList _ _ _ (⟨some 92, _, _, _, _, _⟩ :: _) _ _); refine wpList_loadAgg loadHash rfl k7 (hv_len hok) ?_)
        refine (add_of G3' hok).mono ?_
        rintro e w8 ⟨rfl, G3, hc8⟩
        have G1 := G1'.chg hc8 (by simp; omega) (by simp; omega)
        have G2 := G2'.chg hc8 (by simp; omega) (by simp; omega)
        have h8 := h7.trans (hc8.mono (T := [g1, g2, g3]) (by simp))
        rw [← E3.out] at G3
        clear G1' G2' G3' k7 hc8 h7
        go_wp2
        go_roundw
        case rel => exact ⟨k + 1, by omega, by go_num, G1, G2, G3, h8⟩
        case measure => simp [intOf]; omega
      · have d2 : ((k : Int) % 2 == 0) = false := by simp; omega
        have E3 := Lib.hid (show addAll R p (evens hs (k + 1)) = addAll R p (evens hs k) by rw [evens, if_neg hk2])
        rw [← E3.out] at G3'
        clear hk2 E1 E2
        go_wp2
        go_roundw
        case rel => exact ⟨k + 1, by omega, by go_num, G1', G2', G3', h7⟩
        case measure => simp [intOf]; omega
    · obtain rfl : k = hs.length := by omega
      rw [List.take_length] at G1
      obtain ⟨q1, q2, q3⟩ := order_pure hs p n hp1 hn1
      rw [HR.out] at q1 q2 q3
      rw [q1] at G2
      have lA : (addAll R p hs).length = n := by rw [addAll_len, HRl.out]
      have lE : (addAll R p (evens hs hs.length)).length = n := by rw [addAll_len, HRl.out]
      generalize addAll R p hs = X at *
      generalize addAll R p (evens hs hs.length) = Y at *
      have Q2 := Lib.hid q2
      have Q3 := Lib.hid q3
      have LA := Lib.hid lA
      have LE := Lib.hid lE
      clear q1 q2 q3 lA lE hcw
      go_wp2_with fail
      refine (encode_of G1).mono ?_
      rintro e w5 ⟨v5, rfl, o5, hc5⟩
      have G1' := G1.chg hc5 (by simp) (by simp)
      have G2' := G2.chg hc5 (by simp) (by simp)
      have G3' := G3.chg hc5 (by simp) (by simp)
      clear G1 G2 G3
      go_wp2_with fail
      refine (encode_of G2').mono ?_
      rintro e w6 ⟨v6, rfl, o6, hc6⟩
      have G1 := G1'.chg hc6 (by simp) (by simp)
      have G2 := G2'.chg hc6 (by simp) (by simp)
      have G3 := G3'.chg hc6 (by simp) (by simp)
      have o5' := hc6.owns o5 (by simp)
      clear G1' G2' G3' o5
      have hlX : (encB p X).length ≤ 70368744177664 := by have := W.uvar_len (8 * X.length); have := W.uvar_len X.length; have := LA.out; simp [encB]; omega
      go_wp2_with fail
      refine (same_of (Src.of_owns o5') (Src.of_owns o6) hlX hlX).mono ?_
      rintro e w7 ⟨rfl, hc7⟩
      rw [decide_eq_true rfl]
      have G1' := G1.chg hc7 (by simp) (by simp)
      have G3' := G3.chg hc7 (by simp) (by simp)
      clear G1 G2 G3 o5' o6
      go_wp2_with fail
      refine (join_of G3' G1' (by rw [LA.out, LE.out]) (by omega) (by omega)).mono ?_
      rintro e w8 ⟨rfl, J3, hc8⟩
      rw [Q2.out] at J3
      have J1 := G1'.chg hc8 (by simp; omega) (by simp; omega)
      have h8 : Chg [] w w8 := (((hcw4.trans hc5).trans hc6).trans hc7).trans' hc8 (fun _ h _ => h) (fun i hi hl => by simp at hi; omega)
      clear G1' G3' hcw4 hc5 hc6 hc7 hc8 hck
      go_wp2_with fail
      refine (encode_of J1).mono ?_
      rintro e w9 ⟨v9, rfl, o9, hc9⟩
      have K1 := J1.chg hc9 (by simp) (by simp)
      have K3 := J3.chg hc9 (by simp) (by simp)
      clear J1 J3
      go_wp2_with fail
      refine (encode_of K3).mono ?_
      rintro e w10 ⟨v10, rfl, o10, hc10⟩
      have J1 := K1.chg hc10 (by simp) (by simp)
      have o9' := hc10.owns o9 (by simp)
      clear K1 K3 o9
      go_wp2_with fail
      refine (same_of (Src.of_owns o9') (Src.of_owns o10) hlX hlX).mono ?_
      rintro e w11 ⟨rfl, hc11⟩
      rw [decide_eq_true rfl]
      have K1 := J1.chg hc11 (by simp) (by simp)
      have h11 := ((h8.trans hc9).trans hc10).trans hc11
      clear J1 o9' o10 h8 hc9 hc10 hc11
      obtain ⟨cc, x0, x1⟩ := K1.cells
      have hx2 := K1.n2
      go_wp2_with fail
      refine (set_of K1).mono ?_
      rintro e w' ⟨rfl, rfl⟩
      have hpop : popAll X ≤ 65536 := by have := popAll_le X; omega
      by_cases hpos : 0 < hs.length
      · have hp0 : 0 < popAll X := Q3.out.2 hpos
        go_wp2_with fail
        refine (bits_of b1 _ cc _ hx2 _ x1).mono ?_
        rintro e w' ⟨rfl, rfl⟩
        rw [LA.out]
        go_wp2
        go_ret
        exact ⟨rfl, h11⟩
      · have hp0 : ¬ 0 < popAll X := fun h => hpos (Q3.out.1 h)
        go_wp2_with fail
        refine (bits_of b1 _ cc _ hx2 _ x1).mono ?_
        rintro e w' ⟨rfl, rfl⟩
        rw [LA.out]
        go_wp2
        go_ret
        exact ⟨rfl, h11⟩
end Go.Proofs.Ytinelhjkgikigaa.B
