/- Bloom: Of. -/
import Derived.Test.YtinelhjkgikigaaBF
import Derived.Test.YtinelhjkgikigaaKC
namespace Go.Proofs.Ytinelhjkgikigaa.B
open Go Go.RowKit Go.Proofs.Ytinelhjkgikigaa.K

theorem laidOut : laidOutB Try.prog = true := by kernel_rfl
theorem law27 : WideMaps.KeyLaw Try.prog 27 := deep_law_gate laidOut (of_decide_eq_true (by kernel_rfl)) (of_decide_eq_true (by kernel_rfl)) (by kernel_rfl) (by kernel_rfl)
theorem flat27 : Flat Try.prog 27 (List.replicate 32 (.int .u8)) := ⟨by kernel_rfl, by kernel_rfl, by kernel_rfl, of_decide_eq_true (by kernel_rfl)⟩
theorem hv_lits {l : List Int} (h : HashOk l) : okLeaves (List.replicate 32 (.int .u8)) (hv l).toList = some (l.map (Lit.int .u8)) := by
  have := okLeaves_ints .u8 l (fun x hx => by have := h.2 x hx; unfold byteOk at this; simp [Lit.wf, IntKind.min, IntKind.max, IntKind.signed, IntKind.bits]; omega)
  rw [h.1] at this
  simpa [hv] using this
theorem hv_key {l : List Int} (h : HashOk l) : ∃ x, keyOf Try.prog 27 (.agg (hv l)) = some x := ⟨_, flat27.keyOf (hv_lits h)⟩
theorem hv_inj {l m : List Int} (h : hv l = hv m) : l = m := by
  have : l.map (Value.int .u8) = m.map (Value.int .u8) := by simpa [hv] using h
  exact List.map_inj_right (fun a b hab => by simpa using hab) |>.1 this
def zeroHash : Value := .agg (Array.replicate 32 (.int .u8 0))
theorem info27 : (Try.prog.info? 27).map (fun i => (i.zero, i.size)) = some (some zeroHash, 32) := by kernel_rfl
theorem one_hv (l : List Int) : ∀ c ∈ (hv l).toList, c.oneCell' = true := by intro c h; simp [hv] at h; obtain ⟨_, _, rfl⟩ := h; rfl
theorem zero3 (w : World) : (zeroValue 3).run Try.prog w = .ok (.int .i64 0) w := by kernel_rfl

/-- a slice of hashes, as it is read -/
structure HsAt (w : World) (b off : Nat) (hs : List (List Int)) : Prop where
  ok : ∀ h ∈ hs, HashOk h
  cells : ∀ j h, hs[j]? = some h → Cs w b (off + j * 32) (h.map (Value.int .u8))
theorem HsAt.chg {S : List Nat} {w w' : World} {b off : Nat} {hs : List (List Int)} (h : HsAt w b off hs) (hc : Chg S w w') (hn : b ∉ S) : HsAt w' b off hs := ⟨h.ok, fun j x hx => (h.cells j x hx).chg hc hn⟩

def addU (acc : List (List Int)) (h : List Int) : List (List Int) := if h ∈ acc then acc else acc ++ [h]
def uniq (hs : List (List Int)) : List (List Int) := hs.foldl addU []
theorem uniq_snoc (hs : List (List Int)) (h : List Int) : uniq (hs ++ [h]) = addU (uniq hs) h := by simp [uniq]
def keyV (h : List Int) : Value := .agg (hv h)
theorem keyV_inj {l m : List Int} (h : keyV l = keyV m) : l = m := hv_inj (by simpa [keyV] using h)
/-- how many bits a filter of so many unlike hashes has -/
def bitsFor (n : Nat) : Int := min (max 64 ((10 * (n : Int) + 7) / 8 * 8)) 65536
def addAll (bs : List Int) (p : Nat) (hs : List (List Int)) : List Int := hs.foldl (fun b h => setBits b (spotsOf h p b.length)) bs
def ofB (hs : List (List Int)) : List Int := addAll (List.replicate (bitsFor (uniq hs).length / 8).toNat 0) 7 hs

theorem addU_len (acc : List (List Int)) (h : List Int) : (addU acc h).length ≤ acc.length + 1 := by unfold addU; split <;> simp
theorem uniq_le (hs : List (List Int)) : (uniq hs).length ≤ hs.length := by
  have : ∀ (l acc : List (List Int)), (l.foldl addU acc).length ≤ acc.length + l.length := by
    intro l
    induction l with
    | nil => intro acc; simp
    | cons x l ih => intro acc; have := ih (addU acc x); have := addU_len acc x; simp only [List.foldl_cons, List.length_cons]; omega
  simpa [uniq] using this hs []
theorem bitsFor_ok (n : Nat) : newOk (bitsFor n) 7 := by unfold newOk bitsFor; omega

set_option maxRecDepth 100000 in
set_option maxHeartbeats 2000000 in
theorem of_any {b off c : Nat} {ao : Option Addr} {hs : List (List Int)} {w : World} (hao : hs ≠ [] → ao = some ⟨b, off, none⟩) (H : HsAt w b off hs) (hb : hs ≠ [] → b < w.heap.size) (hsz : hs.length ≤ 4398046511104) :
    Calls Try.prog 9 #[.slice ao hs.length c] w fun e w' => ∃ b' g', e = .returned (.pointer (some ⟨b', 0, none⟩)) ∧ Fil w' b' g' 7 (ofB hs) ∧ Chg [] w w' ∧ w.heap.size ≤ b' ∧ w.heap.size ≤ g' := by
  have hmm := @run_makeMap Try.prog
  have HN := Lib.hid (show ∃ N, N = hs.length from ⟨_, rfl⟩)
  go_enter Try.func9, Try.ntmps9
  go_wp2
  go_loopw [14] (fun i wr => ∃ k : Nat, k ≤ hs.length ∧ i = .int .i64 k ∧ (∃ kvs, MapAt Try.prog 27 wr w.heap.size kvs ∧ kvs.map Prod.fst = (uniq (hs.take k)).map keyV ∧ ∀ kv ∈ kvs, ∃ v, kv.2 = .int .i64 v) ∧ Chg [] w wr) (fun i _ => hs.length - (intOf i).toNat)
  case atStart => exact ⟨0, by omega, rfl, ⟨[], MapAt.made 27 w, by simp [uniq], by simp⟩, Chg.alloc0 _ _⟩
  case round =>
    obtain ⟨k, hk, rfl, ⟨kvs, M, hkv, hval⟩, hch⟩ := hrel
    by_cases hlt : k < hs.length
    · obtain ⟨h, hh⟩ : ∃ h, hs[k]? = some h := ⟨_, List.getElem?_eq_getElem (by omega)⟩
      have hne : hs ≠ [] := by rintro rfl; simp at hh
      obtain rfl := hao hne
      have hok := H.ok h (List.mem_of_getElem? hh)
      have hcs := (H.chg hch (by simp)).cells k h hh
      have HH := Lib.hid hh
      have Hkv := Lib.hid hkv
      have Hval := Lib.hid hval
      clear hh hkv hval hmm
      go_wp2_with (first | ((with_reducible show wpList _ _ _ (⟨some 17, _, _, _, _, _⟩ :: _) _ _); refine wpList_loadAgg loadHash rfl hcs (hv_len hok) ?_) | ((with_reducible show wpList _ _ _ (⟨some 5, _, _, _, _, _⟩ :: _) _ _); refine wpList_alloc_store (cs := hv h) info27 rfl (of_decide_eq_true rfl) (fun _ => rfl) (by simp [hv, hok.1]) (one_hv h) ?_))
      have hcA : Chg [] wr (wr.alloc (.cells (hv h) 27)).drew := (Chg.alloc0 _ _).drew
      have MA := M.chg hcA (by simp)
      obtain ⟨lk, hlk⟩ := hv_key hok
      obtain ⟨v0, born, w2, w3, kvs3, e1, e2, e3, e4, M3, hy, hno, hval3, hc3⟩ := MA.incr law27 (T := 89) (E := 3) Try.underlying89 zero3 hlk Hval.out
      have hrel3 : ∃ kvs, MapAt Try.prog 27 w3 w.heap.size kvs ∧ kvs.map Prod.fst = (uniq (hs.take (k + 1))).map keyV ∧ ∀ kv ∈ kvs, ∃ v, kv.2 = .int .i64 v := by
        refine ⟨kvs3, M3, ?_, hval3⟩
        have hk0 := Hkv.out
        rw [List.take_add_one, HH.out, Option.toList, uniq_snoc, addU]
        by_cases hm : h ∈ uniq (hs.take k)
        · rw [if_pos hm, hy (by rw [hk0]; exact List.mem_map.2 ⟨h, hm, rfl⟩), hk0]
        · rw [if_neg hm, hno (by rw [hk0]; intro hc; obtain ⟨x, hx, he⟩ := List.mem_map.1 hc; exact hm (keyV_inj he ▸ hx)), hk0]
          simp [keyV]
      have hch3 : Chg [] w w3 := hch.trans' (hcA.trans' (T := [w.heap.size]) hc3 (fun _ h _ => by cases h) (fun i hi hl => hi)) (fun _ h _ => h) (fun i hi hl => by simp at hi; omega)
      have hld : (loadVar 27 ⟨wr.heap.size, 0, none⟩).run Try.prog (wr.alloc (.cells (hv h) 27)).drew = .ok (.agg (hv h)) (wr.alloc (.cells (hv h) 27)).drew := run_loadVar_at loadHash (load_box.chg (Chg.refl [] _).drew (by simp)) (hv_len hok)
      clear hcA MA hlk M3 hy hno hval3 hc3 M hch hcs H Hval Hkv HH
      refine wp_region_any (by kernel_rfl) ?_
      refine any_take (i := 0) (v := .map (some w.heap.size)) 18 rfl rfl (by kernel_rfl) (by kernel_rfl) (by kernel_rfl) (fun _ _ _ h => h) rfl (fun w => rfl) ?_
      refine any_one (i := 1) (by kernel_rfl) (any_val (v := .agg (hv h)) (w' := (wr.alloc (.cells (hv h) 27)).drew) 19 rfl rfl rfl (ex_load rfl hld) ?_)
      simp only [Act.put, List.setIfInBounds_toArray, List.set_cons_succ, List.set_cons_zero]
      refine any_two (i := 2) (j := 4) (by kernel_rfl) (any_val 20 rfl rfl rfl (ex_lookup e1) ?_) (any_val 22 rfl rfl rfl (ex_entry e2) ?_)
      · simp only [Act.put, List.setIfInBounds_toArray, List.set_cons_succ, List.set_cons_zero]
        refine any_take (i := 3) (v := .int .i64 (IntKind.i64.wrap (v0 + 1))) 21 rfl rfl (by kernel_rfl) (by kernel_rfl) (by kernel_rfl) (fun _ _ _ h => h) rfl (fun w => ex_addInt rfl rfl) ?_
        simp only [Act.put, List.setIfInBounds_toArray, List.set_cons_succ, List.set_cons_zero]
        refine any_one (i := 4) (by kernel_rfl) (any_val 22 rfl rfl rfl (ex_entry e2) ?_)
        simp only [Act.put, List.setIfInBounds_toArray, List.set_cons_succ, List.set_cons_zero]
        refine any_one (i := 5) (by kernel_rfl) (any_val (v := .int .i64 born) 23 rfl rfl rfl (ex_extract rfl rfl) ?_)
        simp only [Act.put, List.setIfInBounds_toArray, List.set_cons_succ, List.set_cons_zero]
        refine any_one (i := 6) (by kernel_rfl) (any_skip rfl rfl rfl (ex_entryStore e4) ?_)
        refine wpAny_done (by kernel_rfl) ?_ _
        clear e1 e2 e3 e4 hld
        have HR := Lib.hid hrel3
        clear hrel3
        go_wp2
        go_roundw
        case rel => exact ⟨k + 1, by omega, by go_num, HR.out, hch3⟩
        case measure => simp [intOf]; omega
      · simp only [Act.put, List.setIfInBounds_toArray, List.set_cons_succ, List.set_cons_zero]
        refine any_take (i := 5) (v := .int .i64 born) 23 rfl rfl (by kernel_rfl) (by kernel_rfl) (by kernel_rfl) (fun _ _ _ h => h) rfl (fun w => ex_extract rfl rfl) ?_
        simp only [Act.put, List.setIfInBounds_toArray, List.set_cons_succ, List.set_cons_zero]
        refine any_one (i := 2) (by kernel_rfl) (any_val 20 rfl rfl rfl (ex_lookup e3) ?_)
        simp only [Act.put, List.setIfInBounds_toArray, List.set_cons_succ, List.set_cons_zero]
        refine any_one (i := 3) (by kernel_rfl) (any_val (v := .int .i64 (IntKind.i64.wrap (v0 + 1))) 21 rfl rfl rfl (ex_addInt rfl rfl) ?_)
        simp only [Act.put, List.setIfInBounds_toArray, List.set_cons_succ, List.set_cons_zero]
        refine any_one (i := 6) (by kernel_rfl) (any_skip rfl rfl rfl (ex_entryStore e4) ?_)
        refine wpAny_done (by kernel_rfl) ?_ _
        clear e1 e2 e3 e4 hld
        have HR := Lib.hid hrel3
        clear hrel3
        go_wp2
        go_roundw
        case rel => exact ⟨k + 1, by omega, by go_num, HR.out, hch3⟩
        case measure => simp [intOf]; omega
    · obtain rfl : k = hs.length := by omega
      have hlen : (Builtin.len_ #[89] 3 #[.map (some w.heap.size)]).run Try.prog wr = .ok (.int .i64 (uniq hs).length) wr := by
        have e : kvs.length = (uniq hs).length := by
          have := congrArg List.length hkv
          simpa using this
        rw [← e]; exact M.len Try.underlying89 3
      have hX : ∃ X : Int, X = (10 * ((uniq hs).length : Int) + 7) / 8 * 8 := ⟨_, rfl⟩
      have huq := uniq_le hs
      obtain ⟨N, hN, hNok⟩ : ∃ N : Int, bitsFor (uniq hs).length = N ∧ newOk N 7 := ⟨_, rfl, bitsFor_ok _⟩
      have hmx : (Builtin.max_ #[3, 3] 3 #[.int .i64 64, .int .i64 ((10 * ((uniq hs).length : Int) + 7) / 8 * 8)]).run Try.prog wr = .ok (.int .i64 (max 64 ((10 * ((uniq hs).length : Int) + 7) / 8 * 8))) wr := by
        simp only [Builtin.max_, List.foldlM, Builtin.max2, Sem.run_bind, Sem.run_pure, Result.andThen_ok, Int.max_def]
        congr 2; split <;> split <;> omega
      have hmn : (Builtin.min_ #[3, 3] 3 #[.int .i64 (max 64 ((10 * ((uniq hs).length : Int) + 7) / 8 * 8)), .int .i64 65536]).run Try.prog wr = .ok (.int .i64 N) wr := by
        rw [← hN, bitsFor]
        generalize max 64 ((10 * ((uniq hs).length : Int) + 7) / 8 * 8) = m
        simp only [Builtin.min_, List.foldlM, Builtin.min2, Sem.run_bind, Sem.run_pure, Result.andThen_ok, Int.min_def]
        congr 2; split <;> split <;> omega
      have Hkv := Lib.hid hkv
      have Hval := Lib.hid hval
      have HX := Lib.hid hN
      clear hkv hval hmm M hX hN
      have hu2 : (uniq hs).length ≤ 4398046511104 := by omega
      clear huq
      have Hok := Lib.hid hNok
      clear hNok
      go_wp2_with (go_at_call 16; refine (new_ok N 7 _ Hok.out).mono ?_; rintro e w1 ⟨b', g', rfl, hF, hc1, hb', hg'⟩)
      have hsz1 := hch.size
      have hw1 : Chg [] w w1 := hch.trans hc1
      go_loopw [40] (fun i wr => ∃ k : Nat, k ≤ hs.length ∧ i = .int .i64 k ∧ Fil wr b' g' 7 (addAll (List.replicate (N / 8).toNat 0) 7 (hs.take k)) ∧ Chg [] w wr) (fun i _ => hs.length - (intOf i).toNat)
      case atStart => exact ⟨0, by omega, rfl, by simpa [addAll] using hF, hw1⟩
      case round =>
        obtain ⟨k, hk, rfl, Fk, hck⟩ := hrel
        by_cases hlt : k < hs.length
        · obtain ⟨h, hh⟩ : ∃ h, hs[k]? = some h := ⟨_, List.getElem?_eq_getElem (by omega)⟩
          have hne : hs ≠ [] := by rintro rfl; simp at hh
          obtain rfl := hao hne
          have hok := H.ok h (List.mem_of_getElem? hh)
          have hcs := (H.chg hck (by simp)).cells k h hh
          have HH := Lib.hid hh
          clear hh
          go_wp2_with (first | ((with_reducible show wpList _ _ _ (⟨some 43, _, _, _, _, _⟩ :: _) _ _); refine wpList_loadAgg loadHash rfl hcs (hv_len hok) ?_) | ((with_reducible show wpList _ _ _ (⟨some 10, _, _, _, _, _⟩ :: _) _ _); refine wpList_alloc_store (cs := hv h) info27 rfl (of_decide_eq_true rfl) (fun _ => rfl) (by simp [hv, hok.1]) (one_hv h) ?_) | ((with_reducible show wpList _ _ _ (⟨some 45, _, _, _, _, _⟩ :: _) _ _); refine wpList_loadAgg loadHash rfl load_box (hv_len hok) ?_) | (go_at_call 10; refine (add_of (Fk.chg (Chg.alloc0 _ _) (by simp) (by simp)) hok).mono ?_; rintro e w2 ⟨rfl, hF2, hc2⟩))
          have hsz2 := hck.size
          go_roundw
          case rel =>
            refine ⟨k + 1, by omega, by go_num, ?_, hck.trans' ((Chg.alloc0 _ _).trans' (T := [g']) hc2 (fun _ h _ => by cases h) (fun _ h _ => h)) (fun _ h _ => h) (fun i hi hl => by simp at hi; omega)⟩
            rw [List.take_add_one, HH.out]
            simpa [addAll] using hF2
          case measure => simp [intOf]; omega
        · obtain rfl : k = hs.length := by omega
          go_wp2
          go_ret
          refine ⟨b', g', rfl, ?_, hck, by omega, by omega⟩
          rw [List.take_length] at Fk
          rw [ofB, HX.out]
          exact Fk
end Go.Proofs.Ytinelhjkgikigaa.B
