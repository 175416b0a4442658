/- Bloom: the law BloomNever, walked. -/
import Derived.Test.YtinelhjkgikigaaBP
namespace Go.Proofs.Ytinelhjkgikigaa.B
open Go Go.RowKit Go.Proofs.Ytinelhjkgikigaa.K

theorem has_yes {b g p : Nat} {bs : List Int} {w : World} (F : Fil w b g p bs) {l : List Int} (hl : HashOk l) (h : hasBits bs (spotsOf l p bs.length) = true) : Calls Try.prog 12 #[.pointer (some ⟨b, 0, none⟩), .agg (hv l)] w fun e w' => e = .returned (.bool true) ∧ Chg [] w w' :=
  (has_of F hl).mono fun e w' ⟨h1, h2⟩ => ⟨by rw [h1, h], h2⟩
theorem has_no {b g p : Nat} {bs : List Int} {w : World} (F : Fil w b g p bs) {l : List Int} (hl : HashOk l) (h : hasBits bs (spotsOf l p bs.length) = false) : Calls Try.prog 12 #[.pointer (some ⟨b, 0, none⟩), .agg (hv l)] w fun e w' => e = .returned (.bool false) ∧ Chg [] w w' :=
  (has_of F hl).mono fun e w' ⟨h1, h2⟩ => ⟨by rw [h1, h], h2⟩

/-- an argument that is a slice of hashes -/
structure HsArg (w : World) (ao : Option Addr) (b off : Nat) (hs : List (List Int)) : Prop where
  at_ : hs ≠ [] → ao = some ⟨b, off, none⟩
  lt : hs ≠ [] → b < w.heap.size
  rd : HsAt w b off hs
  sz : hs.length ≤ 4398046511104
theorem HsArg.cs {w w' : World} {ao : Option Addr} {b off : Nat} {hs : List (List Int)} (h : HsArg w ao b off hs) (hb : Chg [] w w') {k : Nat} (hk : k < hs.length) : ∃ x, hs[k]? = some x ∧ HashOk x ∧ Cs w' b (off + k * 32) (x.map (Value.int .u8)) ∧ ao = some ⟨b, off, none⟩ := by
  have hx : hs[k]? = some hs[k] := List.getElem?_eq_getElem hk
  have hne : hs ≠ [] := by rintro rfl; simp at hk
  exact ⟨_, hx, h.rd.ok _ (List.getElem_mem _), (h.rd.chg hb (by simp)).cells k _ hx, h.at_ hne⟩
theorem HsArg.of {w w' : World} {ao : Option Addr} {b off : Nat} {hs : List (List Int)} (h : HsArg w ao b off hs) (hb : Chg [] w w') : HsArg w' ao b off hs :=
  ⟨h.at_, fun hn => Nat.lt_of_lt_of_le (h.lt hn) hb.size, h.rd.chg hb (by simp), h.sz⟩
theorem of_arg {w : World} {ao : Option Addr} {b off c : Nat} {hs : List (List Int)} (h : HsArg w ao b off hs) :
    Calls Try.prog 9 #[.slice ao hs.length c] w fun e w' => ∃ b' g', e = .returned (.pointer (some ⟨b', 0, none⟩)) ∧ Fil w' b' g' 7 (ofB hs) ∧ Chg [] w w' ∧ w.heap.size ≤ b' ∧ w.heap.size ≤ g' := of_any h.at_ h.rd h.lt h.sz
theorem of_nil (w : World) :
    Calls Try.prog 9 #[.slice none 0 0] w fun e w' => ∃ b' g', e = .returned (.pointer (some ⟨b', 0, none⟩)) ∧ Fil w' b' g' 7 (ofB []) ∧ Chg [] w w' ∧ w.heap.size ≤ b' ∧ w.heap.size ≤ g' :=
  of_any (b := 0) (off := 0) (hs := []) (by simp) ⟨by simp, by simp⟩ (by simp) (by simp)

theorem never_pure (hs ms : List (List Int)) : (ofB hs).length = (addAll (ofB hs) 7 ms).length ∧ (addAll (ofB hs) 7 ms).length = (List.zipWith orB (ofB hs) (addAll (ofB hs) 7 ms)).length ∧
    True ∧ (∀ h ∈ hs, hasBits (List.zipWith orB (ofB hs) (addAll (ofB hs) 7 ms)) (spotsOf h 7 (List.zipWith orB (ofB hs) (addAll (ofB hs) 7 ms)).length) = true) ∧ (∀ h ∈ ms, hasBits (List.zipWith orB (ofB hs) (addAll (ofB hs) 7 ms)) (spotsOf h 7 (List.zipWith orB (ofB hs) (addAll (ofB hs) 7 ms)).length) = true) ∧
    (∀ h ∈ hs, hasBits (addAll (ofB hs) 7 ms) (spotsOf h 7 (addAll (ofB hs) 7 ms).length) = true) ∧ (∀ h ∈ ms, hasBits (addAll (ofB hs) 7 ms) (spotsOf h 7 (addAll (ofB hs) 7 ms).length) = true) := by
  have l1 := addAll_len 7 ms (ofB hs)
  have ok1 := ofB_ok hs
  have ok2 := addAll_ok 7 ms _ ok1
  have hn := bitsFor_rng (uniq hs).length
  have hl := ofB_len hs
  have hG1 : ∀ h ∈ hs, ∀ m ∈ spotsOf h 7 (ofB hs).length, on (ofB hs) m = true := by
    intro h hh m hm
    have hr := spotsOf_rng h 7 (ofB hs).length (by omega) m hm
    rw [ofB, on_addAll 7 hs _ (rep_ok _) (by simp; omega) m hr.1]
    have : m ∈ spotsOf h 7 (List.replicate (bitsFor (uniq hs).length / 8).toNat (0 : Int)).length := by rw [List.length_replicate, ← hl]; exact hm
    simp only [Bool.or_eq_true, decide_eq_true_eq]
    exact .inr ⟨h, hh, this⟩
  have hG2 : ∀ h ∈ hs, ∀ m ∈ spotsOf h 7 (ofB hs).length, on (addAll (ofB hs) 7 ms) m = true := by
    intro h hh m hm
    have hr := spotsOf_rng h 7 (ofB hs).length (by omega) m hm
    rw [on_addAll 7 ms _ ok1 (by omega) m hr.1, hG1 h hh m hm]; rfl
  have hG3 : ∀ h ∈ ms, ∀ m ∈ spotsOf h 7 (ofB hs).length, on (addAll (ofB hs) 7 ms) m = true := by
    intro h hh m hm
    have hr := spotsOf_rng h 7 (ofB hs).length (by omega) m hm
    rw [on_addAll 7 ms _ ok1 (by omega) m hr.1]
    simp only [Bool.or_eq_true, decide_eq_true_eq]
    exact .inr ⟨h, hh, hm⟩
  have l2 : (List.zipWith orB (ofB hs) (addAll (ofB hs) 7 ms)).length = (ofB hs).length := by rw [List.length_zipWith]; omega
  refine ⟨l1.symm, by omega, trivial, ?_, ?_, ?_, ?_⟩
  · intro h hh; rw [hasBits_iff or_ok, l2]; intro m hm; rw [on_or ok1 ok2 l1.symm, hG1 h hh m hm]; rfl
  · intro h hh; rw [hasBits_iff or_ok, l2]; intro m hm; rw [on_or ok1 ok2 l1.symm, hG3 h hh m hm]; simp
  · intro h hh; rw [hasBits_iff ok2, l1]; exact hG2 h hh
  · intro h hh; rw [hasBits_iff ok2, l1]; exact hG3 h hh

theorem none_has : hasBits (ofB []) (spotsOf (List.replicate 32 0) 7 (ofB []).length) = false := by
  have h : ∀ b, hasBits (ofB []) (spotsOf (List.replicate 32 0) 7 (ofB []).length) = b → b = false := by
    intro b hb
    cases b with
    | false => rfl
    | true =>
      rw [hasBits_iff (ofB_ok [])] at hb
      have hl := spotsOf_len (List.replicate 32 0) 7 (ofB []).length
      have hm : (spotsOf (List.replicate 32 0) 7 (ofB []).length)[0] ∈ spotsOf (List.replicate 32 0) 7 (ofB []).length := List.getElem_mem _
      have := hb _ hm
      rw [ofB_nil, on_rep] at this
      exact absurd this (by simp)
  exact h _ rfl

set_option maxRecDepth 100000 in
set_option maxHeartbeats 4000000 in
theorem never_walk {w : World} {ao ao' : Option Addr} {b off c b' off' c' : Nat} {hs ms : List (List Int)} (A : HsArg w ao b off hs) (M : HsArg w ao' b' off' ms) :
    Calls Try.prog 3 #[.slice ao hs.length c, .slice ao' ms.length c'] w fun e w' => e = .returned (.bool true) ∧ Chg [] w w' := by
  go_enter Try.func3, Try.ntmps3
  go_wp2_with fail
  refine (of_arg A).mono ?_
  rintro e w1 ⟨b1, g1, rfl, F1, hc1, hb1, hg1⟩
  go_wp2_with fail
  refine (of_arg (A.of hc1)).mono ?_
  rintro e w2 ⟨b2, g2, rfl, F2, hc2, hb2, hg2⟩
  have F1' := F1
  have F1 := F1.chg hc2 (by simp) (by simp)
  have hc := hc1.trans hc2
  have hsz := hc1.size
  obtain ⟨l1, l2⟩ := F1'.blt
  have ne1 : b1 ≠ g2 := by omega
  have ne2 : g1 ≠ g2 := by omega
  have ne3 : g1 ≠ b2 := by omega
  clear F1'
  go_wp2
  go_loopw [7] (fun i wr => ∃ k : Nat, k ≤ ms.length ∧ i = .int .i64 k ∧ Fil wr b2 g2 7 (addAll (ofB hs) 7 (ms.take k)) ∧ Chg [g2] w2 wr) (fun i _ => ms.length - (intOf i).toNat)
  case atStart => exact ⟨0, by omega, rfl, by simpa [addAll] using F2, Chg.refl _ _⟩
  case round =>
    obtain ⟨k, hk, rfl, Fk, hck⟩ := hrel
    have hcw : Chg [] w wr := hc.trans' hck (fun _ h _ => h) (fun i hi hl => by simp at hi; omega)
    by_cases hlt : k < ms.length
    · obtain ⟨h, hh, hok, hcs, rfl⟩ := M.cs hcw hlt
      have HH := Lib.hid hh
      clear hh
      have hsz' := M.sz
      go_wp2_with (first | ((with_reducible show wpList _ _ _ (⟨some 31, _, _, _, _, _⟩ :: _) _ _); refine wpList_loadAgg loadHash rfl hcs (hv_len hok) ?_) | (go_at_call 10; refine (add_of Fk hok).mono ?_; rintro e w3 ⟨rfl, hF3, hc3⟩))
      go_roundw
      case rel =>
        refine ⟨k + 1, by omega, by go_num, ?_, hck.trans hc3⟩
        rw [List.take_add_one, HH.out]
        simpa [addAll] using hF3
      case measure => simp [intOf]; omega
    · obtain rfl : k = ms.length := by omega
      rw [List.take_length] at Fk
      obtain ⟨n1, n2, p1, p2, p3, p4, p5⟩ := never_pure hs ms
      have P1 := Lib.hid p1
      have P2 := Lib.hid p2
      have P3 := Lib.hid p3
      have P4 := Lib.hid p4
      have P5 := Lib.hid p5
      have N1 := Lib.hid n1
      have N2 := Lib.hid n2
      clear p1 p2 p3 p4 p5 n1 n2
      have F1k := F1.chg hck (by simp; omega) (by simp; omega)
      go_wp2_with (go_at_call 11; refine (join_of F1k Fk N1.out ne3 ne2).mono ?_; rintro e w3 ⟨rfl, hF3, hc3⟩)
      have Fk3 := Fk.chg hc3 (by simp; omega) (by simp; omega)
      have hcw3 : Chg [] w w3 := hcw.trans' hc3 (fun _ h _ => h) (fun i hi hl => by simp at hi; omega)
      clear Fk F1k F1 F2
      go_loopw [8] (fun i wr => ∃ k : Nat, k ≤ hs.length ∧ i = .int .i64 k ∧ Chg [] w3 wr) (fun i _ => hs.length - (intOf i).toNat)
      case atStart => exact ⟨0, by omega, rfl, Chg.refl _ _⟩
      case round =>
        obtain ⟨k, hk, rfl, hck4⟩ := hrel
        have FF := hF3.chg hck4 (by simp) (by simp)
        have FG := Fk3.chg hck4 (by simp) (by simp)
        have hcw4 := hcw3.trans hck4
        by_cases hlt : k < hs.length
        · obtain ⟨h, hh, hok, hcs, rfl⟩ := A.cs hcw4 hlt
          have hm := List.mem_of_getElem? hh
          have y1 := P2.out h hm
          have y2 := P4.out h hm
          have hsz' := A.sz
          have Y1 := Lib.hid y1
          have Y2 := Lib.hid y2
          clear hh y1 y2 hm
          go_wp2_with (first | ((with_reducible show wpList _ _ _ (⟨some 47, _, _, _, _, _⟩ :: _) _ _); refine wpList_loadAgg loadHash rfl hcs (hv_len hok) ?_) | ((with_reducible show wpList _ _ _ (⟨some 55, _, _, _, _, _⟩ :: _) _ _); refine wpList_loadAggG rfl loadHash rfl (hcs.chg hc5 (by simp)) (hv_len hok) ?_) | (go_at_call 12; (with_reducible refine (has_yes FF hok Y1.out).mono ?_); rintro e w5 ⟨rfl, hc5⟩) | (go_at_call 12; (with_reducible refine (has_yes (FG.chg hc5 (by simp) (by simp)) hok Y2.out).mono ?_); rintro e w6 ⟨rfl, hc6⟩))
          go_roundw
          case rel => exact ⟨k + 1, by omega, by go_num, hck4.trans (hc5.trans hc6)⟩
          case measure => simp [intOf]; omega
        · obtain rfl : k = hs.length := by omega
          clear hF3 Fk3
          go_wp2
          go_loopw [9] (fun i wx => ∃ k : Nat, k ≤ ms.length ∧ i = .int .i64 k ∧ Chg [] wr wx) (fun i _ => ms.length - (intOf i).toNat)
          case atStart => exact ⟨0, by omega, rfl, Chg.refl _ _⟩
          case round =>
            obtain ⟨j, hj, rfl, hck7⟩ := hrel
            have FF7 := FF.chg hck7 (by simp) (by simp)
            have FG7 := FG.chg hck7 (by simp) (by simp)
            have hcw7 := hcw4.trans hck7
            clear FF FG
            by_cases hlt : j < ms.length
            · obtain ⟨h, hh, hok, hcs, rfl⟩ := M.cs hcw7 hlt
              have hm := List.mem_of_getElem? hh
              have y1 := P3.out h hm
              have y2 := P5.out h hm
              have hsz' := M.sz
              have Y1 := Lib.hid y1
              have Y2 := Lib.hid y2
              clear hh y1 y2 hm
              go_wp2_with (first | ((with_reducible show wpList _ _ _ (⟨some 69, _, _, _, _, _⟩ :: _) _ _); refine wpList_loadAgg loadHash rfl hcs (hv_len hok) ?_) | ((with_reducible show wpList _ _ _ (⟨some 77, _, _, _, _, _⟩ :: _) _ _); refine wpList_loadAggG rfl loadHash rfl (hcs.chg hc5 (by simp)) (hv_len hok) ?_) | (go_at_call 12; (with_reducible refine (has_yes FF7 hok Y1.out).mono ?_); rintro e w5 ⟨rfl, hc5⟩) | (go_at_call 12; (with_reducible refine (has_yes (FG7.chg hc5 (by simp) (by simp)) hok Y2.out).mono ?_); rintro e w6 ⟨rfl, hc6⟩))
              go_roundw
              case rel => exact ⟨j + 1, by omega, by go_num, hck7.trans (hc5.trans hc6)⟩
              case measure => simp [intOf]; omega
            · obtain rfl : j = ms.length := by omega
              have hz : HashOk (List.replicate 32 0) := ⟨by simp, rep_ok 32⟩
              have hnil := ofB_nil
              have hlen8 : (ofB []).length = 8 := by rw [hnil]; rfl
              have hno : hasBits (ofB []) (spotsOf (List.replicate 32 0) 7 (ofB []).length) = false := none_has
              have hpop : popAll (ofB []) = 0 := by rw [hnil]; exact popAll_rep 8
              have hple := popAll_le (List.zipWith orB (ofB hs) (addAll (ofB hs) 7 ms))
              have Hno := Lib.hid hno
              have Hpop := Lib.hid hpop
              have Hlen8 := Lib.hid hlen8
              clear hno hpop hlen8 hnil
              have FF8 := FF7
              have hcw8 := hcw7
              clear FF7 FG7 hcw7 hck7 hck4 hcw4 hck hcw hc hc1 hc2 hcw3 P1 P2 P3 P4 P5 N1 N2 A M F1 hc3
              go_wp2_with fail
              refine (of_nil _).mono ?_
              rintro e w7 ⟨b3, g3, rfl, F3, hc7, hb3, hg3⟩
              rw [ofB_nil] at F3
              obtain ⟨c3, q0, q1⟩ := F3.cells
              rw [List.length_replicate] at q1
              have FF9 := FF8.chg hc7 (by simp) (by simp)
              clear FF8
              go_wp2_with fail
              refine (bits_of b3 8 c3 _ (by omega) _ q1).mono ?_
              rintro e w' ⟨rfl, rfl⟩
              go_wp2_with fail
              refine (set_of F3).mono ?_
              rintro e w' ⟨rfl, rfl⟩
              rw [popAll_rep]
              go_wp2_with fail
              have hno8 := Hno.out
              rw [ofB_nil] at hno8
              refine (has_no F3 hz hno8).mono ?_
              rintro e w8 ⟨rfl, hc8⟩
              have FX := FF9.chg hc8 (by simp) (by simp)
              clear FF9
              generalize List.zipWith orB (ofB hs) (addAll (ofB hs) 7 ms) = Z at *
              obtain ⟨cx, x0, x1⟩ := FX.cells
              have hx2 := FX.n2
              clear hno8
              go_wp2_with fail
              refine (set_of FX).mono ?_
              rintro e w' ⟨rfl, rfl⟩
              go_wp2_with fail
              refine (bits_of b1 _ cx _ hx2 _ x1).mono ?_
              rintro e w' ⟨rfl, rfl⟩
              go_wp2
              go_ret
              refine ⟨?_, hcw8.trans (hc7.trans hc8)⟩
              show Ending.returned (Value.bool (decide ((popAll Z : Int) ≤ 8 * (Z.length : Int)))) = _
              rw [decide_eq_true (by omega)]

/-- an argument of type []api.Hash, opened -/
theorem trod_hash {H : Type} {enc : TypeId × Value → H} {w : World} {base : Nat} {spare : Nat → Bool} {held : Bool} {fuel : Nat} {cs : List Value} {x : DataW H × List MemPlace} (h : DataW.trod enc Try.prog w base spare held fuel 27 cs = some x) :
    ∃ l, HashOk l ∧ cs = l.map (Value.int .u8) := by
  obtain ⟨xs, m, _, _, hl, hxl, hx⟩ := DataW.trod_array Try.underlying27 h
  have c27 : Try.prog.cellsOf 27 = 32 := by kernel_rfl
  have c5 : Try.prog.cellsOf 5 = 1 := by kernel_rfl
  rw [c27] at hl
  have hi : ∀ i, i < 32 → ∃ n, cs[i]? = some (.int .u8 n) ∧ byteOk n := by
    intro i hi
    have := hx i hi
    rw [c5, Nat.mul_one, List.getElem?_eq_getElem (by omega)] at this
    have e1 : (cs.drop i).take 1 = [cs[i]'(by omega)] := by rw [List.drop_eq_getElem_cons (by omega)]; rfl
    rw [e1] at this
    obtain ⟨n, he, _, wf⟩ := DataW.trod_int Try.underlying5 this
    simp only [List.cons.injEq, and_true] at he
    refine ⟨n, by rw [List.getElem?_eq_getElem (by omega), he], ?_⟩
    simp [Lit.wf, IntKind.min, IntKind.max, IntKind.signed, IntKind.bits] at wf
    exact ⟨wf.1, by omega⟩
  refine ⟨cs.map fun v => match v with | .int _ n => n | _ => 0, ⟨by simpa using hl, ?_⟩, ?_⟩
  · intro y hy
    obtain ⟨v, hv, rfl⟩ := List.mem_map.1 hy
    obtain ⟨i, hi', rfl⟩ := List.mem_iff_getElem.1 hv
    obtain ⟨n, hn, hok⟩ := hi i (by omega)
    rw [List.getElem?_eq_getElem hi'] at hn
    simp only [Option.some.injEq] at hn
    rw [hn]; exact hok
  · apply List.ext_getElem?
    intro i
    rw [List.getElem?_map, List.getElem?_map]
    by_cases hi' : i < 32
    · obtain ⟨n, hn, _⟩ := hi i hi'
      rw [hn]; rfl
    · rw [List.getElem?_eq_none (by omega)]; rfl
end Go.Proofs.Ytinelhjkgikigaa.B
