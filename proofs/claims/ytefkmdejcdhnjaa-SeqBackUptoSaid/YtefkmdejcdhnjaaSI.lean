/- Seq: puts; how many can be done, by their words. -/
import Derived.Test.YtefkmdejcdhnjaaSH
namespace Go.Proofs.Ytefkmdejcdhnjaa.S
open Go Go.RowKit Go.Shelf Go.Proofs.Ytefkmdejcdhnjaa.K
set_option maxRecDepth 100000

/-- an element and that behind which it is put -/
structure PutV where
  id : IdV
  behind : IdV
  deriving DecidableEq
def putc (q : PutV) : List Value := idc q.id ++ idc q.behind
theorem putc_len (q : PutV) : (putc q).length = 66 := by simp [putc, idc_len]
theorem putc_one (q : PutV) : ∀ c ∈ putc q, c.oneCell' = true := by
  intro c hc
  rcases List.mem_append.1 hc with hc | hc
  · exact idc_one _ c hc
  · exact idc_one _ c hc
theorem Cs.app {w : World} {b off : Nat} {xs ys : List Value} (h : Cs w b off (xs ++ ys)) : Cs w b off xs ∧ Cs w b (off + xs.length) ys :=
  ⟨fun j u hu => h j u (by rw [List.getElem?_append_left (List.getElem?_eq_some_iff.1 hu).1]; exact hu), fun j u hu => by
    have := h (xs.length + j) u (by rw [List.getElem?_append_right (by omega)]; simpa using hu)
    rwa [← Nat.add_assoc] at this⟩
theorem put_cells {w : World} {b off : Nat} {q : PutV} (h : Cs w b off (putc q)) : Cs w b off (idc q.id) ∧ Cs w b (off + 33) (idc q.behind) ∧ w.cell? ⟨b, off + 32, none⟩ = some (.int .i64 q.id.n) := by
  obtain ⟨h1, h2⟩ := Cs.app h
  rw [idc_len] at h2
  exact ⟨h1, h2, h1 32 _ (by simp [idc, q.id.len])⟩

def couldStep (T : List IdV) (q : PutV) : List IdV := if (!decide (q.id ∈ T) && (decide (q.behind = .zero) || decide (q.behind ∈ T)) && decide (0 < q.id.n)) = true then T ++ [q.id] else T
def couldL (l : List PutV) : List IdV := l.foldl couldStep []
theorem couldL_snoc (l : List PutV) (q : PutV) : couldL (l ++ [q]) = couldStep (couldL l) q := by simp [couldL]
theorem couldStep_len (T : List IdV) (q : PutV) : (couldStep T q).length ≤ T.length + 1 := by unfold couldStep; split <;> simp
theorem couldL_len (l : List PutV) : (couldL l).length ≤ l.length := by
  suffices ∀ (l : List PutV) T, (l.foldl couldStep T).length ≤ T.length + l.length by simpa [couldL] using this l []
  intro l
  induction l with
  | nil => intro T; simp
  | cons q l ih => intro T; have := ih (couldStep T q); have := couldStep_len T q; simp only [List.foldl_cons, List.length_cons]; omega

theorem kb_next {x a : IdV} {T : List IdV} {j : Nat} {kb : Bool} (hk : kb = decide (x ∈ T.take j)) (ht : T.take (j + 1) = T.take j ++ [a]) : (kb || decide (a = x)) = decide (x ∈ T.take (j + 1)) := by
  rw [ht, hk, Bool.eq_iff_iff]
  simp only [Bool.or_eq_true, decide_eq_true_eq, List.mem_append, List.mem_singleton]
  exact or_congr Iff.rfl eq_comm
theorem bb_next {x a : IdV} {T : List IdV} {j : Nat} {kb z : Bool} (hk : kb = (z || decide (x ∈ T.take j))) (ht : T.take (j + 1) = T.take j ++ [a]) : (kb || decide (a = x)) = (z || decide (x ∈ T.take (j + 1))) := by
  rw [ht, hk, Bool.eq_iff_iff]
  simp only [Bool.or_eq_true, decide_eq_true_eq, List.mem_append, List.mem_singleton, or_assoc]
  exact or_congr Iff.rfl (or_congr Iff.rfl eq_comm)
set_option maxHeartbeats 8000000 in
theorem could_of {w : World} {x : Value} {l : List PutV} (hx : Src w x l.length (flat putc l)) (ll : l.length ≤ 1048576) :
    Calls Try.prog 12 #[x] w fun e w' => e = .returned (.int .i64 (couldL l).length) ∧ Chg [] w w' := by
  have lfx := flat_len putc_len l
  by_cases hz : l.length = 0
  · obtain rfl := List.eq_nil_of_length_eq_zero hz
    obtain ⟨ao, c, rfl, _⟩ := hx.out
    clear hx hz lfx
    go_enter Try.func12, Try.ntmps12
    go_wp2
    go_rounds 1
    go_ret
    exact ⟨rfl, Chg.refl _ _⟩
  · obtain ⟨pb, po, c, rfl, C1, _⟩ := hx.block (by omega) hz
    clear hx lfx
    have HZ := Lib.hid hz
    clear hz
    go_enter Try.func12, Try.ntmps12
    go_wp2
    go_loopw [3, 4] (fun u i wr => ∃ k : Nat, k ≤ l.length ∧ i = .int .i64 k ∧ wr.ownsRow w.heap.size 34 33 u (couldL (l.take k)).length (flat idc (couldL (l.take k))) ∧ Chg [] w wr) (fun _ i _ => l.length - (intOf i).toNat)
    case atStart => exact ⟨0, by omega, rfl, World.ownsRow_nil _ _ _ _, Chg.refl _ _⟩
    case round =>
      obtain ⟨k, hk, rfl, hown, hck⟩ := hrel
      by_cases hlt : k < l.length
      · obtain ⟨q, hq⟩ : ∃ q, l[k]? = some q := ⟨_, List.getElem?_eq_getElem hlt⟩
        have hTn : couldL (l.take (k + 1)) = couldStep (couldL (l.take k)) q := by rw [List.take_add_one, hq]; exact couldL_snoc _ _
        have hTl : (couldL (l.take k)).length ≤ 1048576 := by have := couldL_len (l.take k); simp at this; omega
        obtain ⟨T, hT⟩ : ∃ T, couldL (l.take k) = T := ⟨_, rfl⟩
        rw [hT] at hown hTn hTl
        have cq : Cs wr pb (po + k * 66) (putc q) := (Cs.elem putc_len C1 hq).chg hck (by simp)
        obtain ⟨ci0, cb0, cn0⟩ := put_cells cq
        obtain ⟨ao, uc, hu, hao⟩ := owns_form hown
        subst hu
        have HT := Lib.hid hT
        have HTn := Lib.hid hTn
        have HA := Lib.hid hao
        have HO := Lib.hid hown
        have hk1 : (k : Int) < (l.length : Int) := by omega
        have hk0 : (0 : Int) ≤ (k : Int) := by omega
        clear hq hT hTn cq hao hown
        go_wp2_with (first
          | ((with_reducible show wpList _ _ _ (⟨some 18, _, _, _, _, _⟩ :: _) _ _); refine wpList_loadAgg aggId rfl cb0 (idc_len _) ?_)
          | ((with_reducible show wpList _ _ _ (⟨some 19, _, _, _, _, _⟩ :: _) _ _); refine wpList_val rfl ex_zeroId ?_)
          | ((with_reducible show wpList _ _ _ (⟨some 20, _, _, _, _, _⟩ :: _) _ _); refine wpList_val rfl (ex_eqId rfl rfl rfl) ?_))
        go_loopw [5, 6, 7] (fun u5 u6 u7 wy => ∃ j : Nat, j ≤ T.length ∧ u7 = .int .i64 j ∧ ∃ kb bb : Bool, u5 = .bool kb ∧ u6 = .bool bb ∧ kb = decide (q.id ∈ T.take j) ∧ bb = (decide (q.behind = .zero) || decide (q.behind ∈ T.take j)) ∧ Chg [] wr wy) (fun _ _ u7 _ => T.length - (intOf u7).toNat)
        case atStart => exact ⟨0, by omega, rfl, _, _, rfl, rfl, by simp, by simp, Chg.refl _ _⟩
        case round =>
          obtain ⟨j, hj, rfl, kb, bb, rfl, rfl, hkb, hbb, hcy⟩ := hrel
          have HKB := Lib.hid hkb
          have HBB := Lib.hid hbb
          clear hkb hbb
          by_cases hjt : j < T.length
          · obtain ⟨a, ha⟩ : ∃ a, T[j]? = some a := ⟨_, List.getElem?_eq_getElem hjt⟩
            obtain ⟨g, rfl⟩ : ∃ g, ao = some ⟨g, 0, none⟩ := by
              obtain ⟨g, c', hg⟩ := owns_some HO.out (by omega)
              simp only [Value.slice.injEq] at hg
              exact ⟨g, hg.1⟩
            have ct : Cs wr g (j * 33) (idc a) := by
              have := (Cs.elem idc_len (Cs.of_owns HO.out) ha).chg hcy (by simp)
              simpa using this
            have ci : Cs wr pb (po + k * 66) (idc q.id) := ci0.chg hcy (by simp)
            have cb : Cs wr pb (po + k * 66 + 33) (idc q.behind) := cb0.chg hcy (by simp)
            have hS0 : Chg [] wr wr.drew := (Chg.refl [] wr).drew
            have hj1 : (j : Int) < (T.length : Int) := by omega
            have hj0 : (0 : Int) ≤ (j : Int) := by omega
            have HTJ : Hid (T.take (j + 1) = T.take j ++ [a]) := Lib.hid (by rw [List.take_add_one, ha]; rfl)
            obtain ⟨r1, hr1⟩ : ∃ r1, decide (a = q.id) = r1 := ⟨_, rfl⟩
            obtain ⟨r2, hr2⟩ : ∃ r2, decide (a = q.behind) = r2 := ⟨_, rfl⟩
            have HR1 : Hid (decide (a = q.id) = r1) := Lib.hid hr1
            have HR2 : Hid (decide (a = q.behind) = r2) := Lib.hid hr2
            clear ha
            cases kb
            · -- known false
              go_wp2
              refine wp_region_U (fun wx => Chg [] wr wx) [] (by kernel_rfl) ?_
              refine u_take0 (i := 0) (v := ?_) 27 rfl rfl (by kernel_rfl) (by kernel_rfl) (by kernel_rfl) (fun _ _ _ h => h) (by rfl) ?_ ?_
              case refine_2 => intro wx; go_simp; with_reducible rfl
              try simp only [Act.put, List.setIfInBounds_toArray, List.set_cons_succ, List.set_cons_zero]
              refine u_take0 (i := 1) (v := ?_) 28 rfl rfl (by kernel_rfl) (by kernel_rfl) (by kernel_rfl) (fun _ _ _ h => h) (by rfl) ?_ ?_
              case refine_2 => intro wx; go_simp; with_reducible rfl
              try simp only [Act.put, List.setIfInBounds_toArray, List.set_cons_succ, List.set_cons_zero]
              refine u_take0 (i := 2) (v := ?_) 29 rfl rfl (by kernel_rfl) (by kernel_rfl) (by kernel_rfl) (fun _ _ _ h => h) (by rfl) ?_ ?_
              case refine_2 => intro wx; go_simp; with_reducible rfl
              try simp only [Act.put, List.setIfInBounds_toArray, List.set_cons_succ, List.set_cons_zero]
              refine u_take0 (i := 3) (v := ?_) 30 rfl rfl (by kernel_rfl) (by kernel_rfl) (by kernel_rfl) (fun _ _ _ h => h) (by rfl) ?_ ?_
              case refine_2 => intro wx; go_simp; with_reducible rfl
              try simp only [Act.put, List.setIfInBounds_toArray, List.set_cons_succ, List.set_cons_zero]
              refine u_take0 (i := 4) (v := ?_) 31 rfl rfl (by kernel_rfl) (by kernel_rfl) (by kernel_rfl) (fun _ _ _ h => h) (by rfl) ?_ ?_
              case refine_2 => intro wx; go_simp; with_reducible rfl
              try simp only [Act.put, List.setIfInBounds_toArray, List.set_cons_succ, List.set_cons_zero]
              refine u_take (i := 5) (v := .agg (idc a).toArray) 32 rfl rfl (by kernel_rfl) (by kernel_rfl) (by kernel_rfl) (by kernel_rfl) (fun _ _ _ h => h) (by rfl) (fun wx hwx => ex_loadAgg aggId rfl (Cs.chg ct hwx (by simp)) (idc_len _)) hS0 ?_
              try simp only [Act.put, List.setIfInBounds_toArray, List.set_cons_succ, List.set_cons_zero]
              refine u_take0 (i := 6) (v := ?_) 33 rfl rfl (by kernel_rfl) (by kernel_rfl) (by kernel_rfl) (fun _ _ _ h => h) (by rfl) ?_ ?_
              case refine_2 => intro wx; go_simp; with_reducible rfl
              try simp only [Act.put, List.setIfInBounds_toArray, List.set_cons_succ, List.set_cons_zero]
              refine u_take0 (i := 7) (v := ?_) 34 rfl rfl (by kernel_rfl) (by kernel_rfl) (by kernel_rfl) (fun _ _ _ h => h) (by rfl) ?_ ?_
              case refine_2 => intro wx; go_simp; with_reducible rfl
              try simp only [Act.put, List.setIfInBounds_toArray, List.set_cons_succ, List.set_cons_zero]
              refine u_take0 (i := 8) (v := ?_) 35 rfl rfl (by kernel_rfl) (by kernel_rfl) (by kernel_rfl) (fun _ _ _ h => h) (by rfl) ?_ ?_
              case refine_2 => intro wx; go_simp; with_reducible rfl
              try simp only [Act.put, List.setIfInBounds_toArray, List.set_cons_succ, List.set_cons_zero]
              refine u_take0 (i := 9) (v := ?_) 36 rfl rfl (by kernel_rfl) (by kernel_rfl) (by kernel_rfl) (fun _ _ _ h => h) (by rfl) ?_ ?_
              case refine_2 => intro wx; go_simp; with_reducible rfl
              try simp only [Act.put, List.setIfInBounds_toArray, List.set_cons_succ, List.set_cons_zero]
              refine u_take (i := 10) (v := .agg (idc q.id).toArray) 37 rfl rfl (by kernel_rfl) (by kernel_rfl) (by kernel_rfl) (by kernel_rfl) (fun _ _ _ h => h) (by rfl) (fun wx hwx => ex_loadAgg aggId rfl (Cs.chg ci hwx (by simp)) (idc_len _)) hS0 ?_
              try simp only [Act.put, List.setIfInBounds_toArray, List.set_cons_succ, List.set_cons_zero]
              refine u_take (i := 11) (v := .bool r1) 38 rfl rfl (by kernel_rfl) (by kernel_rfl) (by kernel_rfl) (by kernel_rfl) (fun _ _ _ h => h) (by rfl) (fun wx hwx => ex_eqId rfl rfl hr1) hS0 ?_
              try simp only [Act.put, List.setIfInBounds_toArray, List.set_cons_succ, List.set_cons_zero]
              refine u_take0 (i := 12) (v := ?_) 39 rfl rfl (by kernel_rfl) (by kernel_rfl) (by kernel_rfl) (fun _ _ _ h => h) (by rfl) ?_ ?_
              case refine_2 => intro wx; go_simp; with_reducible rfl
              try simp only [Act.put, List.setIfInBounds_toArray, List.set_cons_succ, List.set_cons_zero]
              refine u_take0 (i := 13) (v := ?_) 5 rfl rfl (by kernel_rfl) (by kernel_rfl) (by kernel_rfl) (fun _ _ _ h => h) (by rfl) ?_ ?_
              case refine_2 => intro wx; go_simp; with_reducible rfl
              try simp only [Act.put, List.setIfInBounds_toArray, List.set_cons_succ, List.set_cons_zero]
              refine u_done (by kernel_rfl) ?_ _
              go_wp2
              have hS1 : Chg [] wr.drew wr.drew.drew := (Chg.refl [] wr.drew).drew
              have ct2 := ct.chg (Chg.refl [] wr).drew (by simp)
              have cb2 := cb.chg (Chg.refl [] wr).drew (by simp)
              cases bb
              · go_wp2
                refine wp_region_U (fun wx => Chg [] wr.drew wx) [] (by kernel_rfl) ?_
                refine u_take0 (i := 0) (v := ?_) 40 rfl rfl (by kernel_rfl) (by kernel_rfl) (by kernel_rfl) (fun _ _ _ h => h) (by rfl) ?_ ?_
                case refine_2 => intro wx; go_simp; with_reducible rfl
                try simp only [Act.put, List.setIfInBounds_toArray, List.set_cons_succ, List.set_cons_zero]
                refine u_take0 (i := 1) (v := ?_) 41 rfl rfl (by kernel_rfl) (by kernel_rfl) (by kernel_rfl) (fun _ _ _ h => h) (by rfl) ?_ ?_
                case refine_2 => intro wx; go_simp; with_reducible rfl
                try simp only [Act.put, List.setIfInBounds_toArray, List.set_cons_succ, List.set_cons_zero]
                refine u_take0 (i := 2) (v := ?_) 42 rfl rfl (by kernel_rfl) (by kernel_rfl) (by kernel_rfl) (fun _ _ _ h => h) (by rfl) ?_ ?_
                case refine_2 => intro wx; go_simp; with_reducible rfl
                try simp only [Act.put, List.setIfInBounds_toArray, List.set_cons_succ, List.set_cons_zero]
                refine u_take0 (i := 3) (v := ?_) 43 rfl rfl (by kernel_rfl) (by kernel_rfl) (by kernel_rfl) (fun _ _ _ h => h) (by rfl) ?_ ?_
                case refine_2 => intro wx; go_simp; with_reducible rfl
                try simp only [Act.put, List.setIfInBounds_toArray, List.set_cons_succ, List.set_cons_zero]
                refine u_take0 (i := 4) (v := ?_) 44 rfl rfl (by kernel_rfl) (by kernel_rfl) (by kernel_rfl) (fun _ _ _ h => h) (by rfl) ?_ ?_
                case refine_2 => intro wx; go_simp; with_reducible rfl
                try simp only [Act.put, List.setIfInBounds_toArray, List.set_cons_succ, List.set_cons_zero]
                refine u_take (i := 5) (v := .agg (idc a).toArray) 45 rfl rfl (by kernel_rfl) (by kernel_rfl) (by kernel_rfl) (by kernel_rfl) (fun _ _ _ h => h) (by rfl) (fun wx hwx => ex_loadAgg aggId rfl (Cs.chg ct2 hwx (by simp)) (idc_len _)) hS1 ?_
                try simp only [Act.put, List.setIfInBounds_toArray, List.set_cons_succ, List.set_cons_zero]
                refine u_take0 (i := 6) (v := ?_) 46 rfl rfl (by kernel_rfl) (by kernel_rfl) (by kernel_rfl) (fun _ _ _ h => h) (by rfl) ?_ ?_
                case refine_2 => intro wx; go_simp; with_reducible rfl
                try simp only [Act.put, List.setIfInBounds_toArray, List.set_cons_succ, List.set_cons_zero]
                refine u_take0 (i := 7) (v := ?_) 47 rfl rfl (by kernel_rfl) (by kernel_rfl) (by kernel_rfl) (fun _ _ _ h => h) (by rfl) ?_ ?_
                case refine_2 => intro wx; go_simp; with_reducible rfl
                try simp only [Act.put, List.setIfInBounds_toArray, List.set_cons_succ, List.set_cons_zero]
                refine u_take0 (i := 8) (v := ?_) 48 rfl rfl (by kernel_rfl) (by kernel_rfl) (by kernel_rfl) (fun _ _ _ h => h) (by rfl) ?_ ?_
                case refine_2 => intro wx; go_simp; with_reducible rfl
                try simp only [Act.put, List.setIfInBounds_toArray, List.set_cons_succ, List.set_cons_zero]
                refine u_take0 (i := 9) (v := ?_) 49 rfl rfl (by kernel_rfl) (by kernel_rfl) (by kernel_rfl) (fun _ _ _ h => h) (by rfl) ?_ ?_
                case refine_2 => intro wx; go_simp; with_reducible rfl
                try simp only [Act.put, List.setIfInBounds_toArray, List.set_cons_succ, List.set_cons_zero]
                refine u_take (i := 10) (v := .agg (idc q.behind).toArray) 50 rfl rfl (by kernel_rfl) (by kernel_rfl) (by kernel_rfl) (by kernel_rfl) (fun _ _ _ h => h) (by rfl) (fun wx hwx => ex_loadAgg aggId rfl (Cs.chg cb2 hwx (by simp)) (idc_len _)) hS1 ?_
                try simp only [Act.put, List.setIfInBounds_toArray, List.set_cons_succ, List.set_cons_zero]
                refine u_take (i := 11) (v := .bool r2) 51 rfl rfl (by kernel_rfl) (by kernel_rfl) (by kernel_rfl) (by kernel_rfl) (fun _ _ _ h => h) (by rfl) (fun wx hwx => ex_eqId rfl rfl hr2) hS1 ?_
                try simp only [Act.put, List.setIfInBounds_toArray, List.set_cons_succ, List.set_cons_zero]
                refine u_take0 (i := 12) (v := ?_) 52 rfl rfl (by kernel_rfl) (by kernel_rfl) (by kernel_rfl) (fun _ _ _ h => h) (by rfl) ?_ ?_
                case refine_2 => intro wx; go_simp; with_reducible rfl
                try simp only [Act.put, List.setIfInBounds_toArray, List.set_cons_succ, List.set_cons_zero]
                refine u_take0 (i := 13) (v := ?_) 6 rfl rfl (by kernel_rfl) (by kernel_rfl) (by kernel_rfl) (fun _ _ _ h => h) (by rfl) ?_ ?_
                case refine_2 => intro wx; go_simp; with_reducible rfl
                try simp only [Act.put, List.setIfInBounds_toArray, List.set_cons_succ, List.set_cons_zero]
                refine u_done (by kernel_rfl) ?_ _
                go_wp2
                go_roundw
                case rel => exact ⟨j + 1, by omega, by go_num, r1, r2, rfl, rfl, by rw [← HR1.out]; exact kb_next HKB.out HTJ.out, by rw [← HR2.out]; exact bb_next HBB.out HTJ.out, hcy.drew.drew⟩
                case measure => simp [intOf]; omega
              · go_wp2
                refine wp_region_U (fun wx => Chg [] wr.drew wx) [] (by kernel_rfl) ?_
                refine u_take0 (i := 0) (v := ?_) 40 rfl rfl (by kernel_rfl) (by kernel_rfl) (by kernel_rfl) (fun _ _ _ h => h) (by rfl) ?_ ?_
                case refine_2 => intro wx; go_simp; with_reducible rfl
                try simp only [Act.put, List.setIfInBounds_toArray, List.set_cons_succ, List.set_cons_zero]
                refine u_take0 (i := 1) (v := ?_) 41 rfl rfl (by kernel_rfl) (by kernel_rfl) (by kernel_rfl) (fun _ _ _ h => h) (by rfl) ?_ ?_
                case refine_2 => intro wx; go_simp; with_reducible rfl
                try simp only [Act.put, List.setIfInBounds_toArray, List.set_cons_succ, List.set_cons_zero]
                refine u_skip (i := 2) 42 rfl rfl (by kernel_rfl) (by kernel_rfl) (by kernel_rfl) (fun _ _ _ h => h) (by rfl) ?_
                try simp only [Act.put, List.setIfInBounds_toArray, List.set_cons_succ, List.set_cons_zero]
                refine u_skip (i := 3) 43 rfl rfl (by kernel_rfl) (by kernel_rfl) (by kernel_rfl) (fun _ _ _ h => h) (by rfl) ?_
                try simp only [Act.put, List.setIfInBounds_toArray, List.set_cons_succ, List.set_cons_zero]
                refine u_skip (i := 4) 44 rfl rfl (by kernel_rfl) (by kernel_rfl) (by kernel_rfl) (fun _ _ _ h => h) (by rfl) ?_
                try simp only [Act.put, List.setIfInBounds_toArray, List.set_cons_succ, List.set_cons_zero]
                refine u_skip (i := 5) 45 rfl rfl (by kernel_rfl) (by kernel_rfl) (by kernel_rfl) (fun _ _ _ h => h) (by rfl) ?_
                try simp only [Act.put, List.setIfInBounds_toArray, List.set_cons_succ, List.set_cons_zero]
                refine u_skip (i := 6) 46 rfl rfl (by kernel_rfl) (by kernel_rfl) (by kernel_rfl) (fun _ _ _ h => h) (by rfl) ?_
                try simp only [Act.put, List.setIfInBounds_toArray, List.set_cons_succ, List.set_cons_zero]
                refine u_skip (i := 7) 47 rfl rfl (by kernel_rfl) (by kernel_rfl) (by kernel_rfl) (fun _ _ _ h => h) (by rfl) ?_
                try simp only [Act.put, List.setIfInBounds_toArray, List.set_cons_succ, List.set_cons_zero]
                refine u_skip (i := 8) 48 rfl rfl (by kernel_rfl) (by kernel_rfl) (by kernel_rfl) (fun _ _ _ h => h) (by rfl) ?_
                try simp only [Act.put, List.setIfInBounds_toArray, List.set_cons_succ, List.set_cons_zero]
                refine u_skip (i := 9) 49 rfl rfl (by kernel_rfl) (by kernel_rfl) (by kernel_rfl) (fun _ _ _ h => h) (by rfl) ?_
                try simp only [Act.put, List.setIfInBounds_toArray, List.set_cons_succ, List.set_cons_zero]
                refine u_skip (i := 10) 50 rfl rfl (by kernel_rfl) (by kernel_rfl) (by kernel_rfl) (fun _ _ _ h => h) (by rfl) ?_
                try simp only [Act.put, List.setIfInBounds_toArray, List.set_cons_succ, List.set_cons_zero]
                refine u_skip (i := 11) 51 rfl rfl (by kernel_rfl) (by kernel_rfl) (by kernel_rfl) (fun _ _ _ h => h) (by rfl) ?_
                try simp only [Act.put, List.setIfInBounds_toArray, List.set_cons_succ, List.set_cons_zero]
                refine u_take0 (i := 12) (v := ?_) 52 rfl rfl (by kernel_rfl) (by kernel_rfl) (by kernel_rfl) (fun _ _ _ h => h) (by rfl) ?_ ?_
                case refine_2 => intro wx; go_simp; with_reducible rfl
                try simp only [Act.put, List.setIfInBounds_toArray, List.set_cons_succ, List.set_cons_zero]
                refine u_take0 (i := 13) (v := ?_) 6 rfl rfl (by kernel_rfl) (by kernel_rfl) (by kernel_rfl) (fun _ _ _ h => h) (by rfl) ?_ ?_
                case refine_2 => intro wx; go_simp; with_reducible rfl
                try simp only [Act.put, List.setIfInBounds_toArray, List.set_cons_succ, List.set_cons_zero]
                refine u_done (by kernel_rfl) ?_ _
                go_wp2
                go_roundw
                case rel => exact ⟨j + 1, by omega, by go_num, r1, true, rfl, rfl, by rw [← HR1.out]; exact kb_next HKB.out HTJ.out, by exact bb_next HBB.out HTJ.out, hcy.drew.drew⟩
                case measure => simp [intOf]; omega
            · -- known true
              go_wp2
              refine wp_region_U (fun wx => Chg [] wr wx) [] (by kernel_rfl) ?_
              refine u_take0 (i := 0) (v := ?_) 27 rfl rfl (by kernel_rfl) (by kernel_rfl) (by kernel_rfl) (fun _ _ _ h => h) (by rfl) ?_ ?_
              case refine_2 => intro wx; go_simp; with_reducible rfl
              try simp only [Act.put, List.setIfInBounds_toArray, List.set_cons_succ, List.set_cons_zero]
              refine u_take0 (i := 1) (v := ?_) 28 rfl rfl (by kernel_rfl) (by kernel_rfl) (by kernel_rfl) (fun _ _ _ h => h) (by rfl) ?_ ?_
              case refine_2 => intro wx; go_simp; with_reducible rfl
              try simp only [Act.put, List.setIfInBounds_toArray, List.set_cons_succ, List.set_cons_zero]
              refine u_skip (i := 2) 29 rfl rfl (by kernel_rfl) (by kernel_rfl) (by kernel_rfl) (fun _ _ _ h => h) (by rfl) ?_
              try simp only [Act.put, List.setIfInBounds_toArray, List.set_cons_succ, List.set_cons_zero]
              refine u_skip (i := 3) 30 rfl rfl (by kernel_rfl) (by kernel_rfl) (by kernel_rfl) (fun _ _ _ h => h) (by rfl) ?_
              try simp only [Act.put, List.setIfInBounds_toArray, List.set_cons_succ, List.set_cons_zero]
              refine u_skip (i := 4) 31 rfl rfl (by kernel_rfl) (by kernel_rfl) (by kernel_rfl) (fun _ _ _ h => h) (by rfl) ?_
              try simp only [Act.put, List.setIfInBounds_toArray, List.set_cons_succ, List.set_cons_zero]
              refine u_skip (i := 5) 32 rfl rfl (by kernel_rfl) (by kernel_rfl) (by kernel_rfl) (fun _ _ _ h => h) (by rfl) ?_
              try simp only [Act.put, List.setIfInBounds_toArray, List.set_cons_succ, List.set_cons_zero]
              refine u_skip (i := 6) 33 rfl rfl (by kernel_rfl) (by kernel_rfl) (by kernel_rfl) (fun _ _ _ h => h) (by rfl) ?_
              try simp only [Act.put, List.setIfInBounds_toArray, List.set_cons_succ, List.set_cons_zero]
              refine u_skip (i := 7) 34 rfl rfl (by kernel_rfl) (by kernel_rfl) (by kernel_rfl) (fun _ _ _ h => h) (by rfl) ?_
              try simp only [Act.put, List.setIfInBounds_toArray, List.set_cons_succ, List.set_cons_zero]
              refine u_skip (i := 8) 35 rfl rfl (by kernel_rfl) (by kernel_rfl) (by kernel_rfl) (fun _ _ _ h => h) (by rfl) ?_
              try simp only [Act.put, List.setIfInBounds_toArray, List.set_cons_succ, List.set_cons_zero]
              refine u_skip (i := 9) 36 rfl rfl (by kernel_rfl) (by kernel_rfl) (by kernel_rfl) (fun _ _ _ h => h) (by rfl) ?_
              try simp only [Act.put, List.setIfInBounds_toArray, List.set_cons_succ, List.set_cons_zero]
              refine u_skip (i := 10) 37 rfl rfl (by kernel_rfl) (by kernel_rfl) (by kernel_rfl) (fun _ _ _ h => h) (by rfl) ?_
              try simp only [Act.put, List.setIfInBounds_toArray, List.set_cons_succ, List.set_cons_zero]
              refine u_skip (i := 11) 38 rfl rfl (by kernel_rfl) (by kernel_rfl) (by kernel_rfl) (fun _ _ _ h => h) (by rfl) ?_
              try simp only [Act.put, List.setIfInBounds_toArray, List.set_cons_succ, List.set_cons_zero]
              refine u_take0 (i := 12) (v := ?_) 39 rfl rfl (by kernel_rfl) (by kernel_rfl) (by kernel_rfl) (fun _ _ _ h => h) (by rfl) ?_ ?_
              case refine_2 => intro wx; go_simp; with_reducible rfl
              try simp only [Act.put, List.setIfInBounds_toArray, List.set_cons_succ, List.set_cons_zero]
              refine u_take0 (i := 13) (v := ?_) 5 rfl rfl (by kernel_rfl) (by kernel_rfl) (by kernel_rfl) (fun _ _ _ h => h) (by rfl) ?_ ?_
              case refine_2 => intro wx; go_simp; with_reducible rfl
              try simp only [Act.put, List.setIfInBounds_toArray, List.set_cons_succ, List.set_cons_zero]
              refine u_done (by kernel_rfl) ?_ _
              go_wp2
              have hS1 : Chg [] wr.drew wr.drew.drew := (Chg.refl [] wr.drew).drew
              have ct2 := ct.chg (Chg.refl [] wr).drew (by simp)
              have cb2 := cb.chg (Chg.refl [] wr).drew (by simp)
              cases bb
              · go_wp2
                refine wp_region_U (fun wx => Chg [] wr.drew wx) [] (by kernel_rfl) ?_
                refine u_take0 (i := 0) (v := ?_) 40 rfl rfl (by kernel_rfl) (by kernel_rfl) (by kernel_rfl) (fun _ _ _ h => h) (by rfl) ?_ ?_
                case refine_2 => intro wx; go_simp; with_reducible rfl
                try simp only [Act.put, List.setIfInBounds_toArray, List.set_cons_succ, List.set_cons_zero]
                refine u_take0 (i := 1) (v := ?_) 41 rfl rfl (by kernel_rfl) (by kernel_rfl) (by kernel_rfl) (fun _ _ _ h => h) (by rfl) ?_ ?_
                case refine_2 => intro wx; go_simp; with_reducible rfl
                try simp only [Act.put, List.setIfInBounds_toArray, List.set_cons_succ, List.set_cons_zero]
                refine u_take0 (i := 2) (v := ?_) 42 rfl rfl (by kernel_rfl) (by kernel_rfl) (by kernel_rfl) (fun _ _ _ h => h) (by rfl) ?_ ?_
                case refine_2 => intro wx; go_simp; with_reducible rfl
                try simp only [Act.put, List.setIfInBounds_toArray, List.set_cons_succ, List.set_cons_zero]
                refine u_take0 (i := 3) (v := ?_) 43 rfl rfl (by kernel_rfl) (by kernel_rfl) (by kernel_rfl) (fun _ _ _ h => h) (by rfl) ?_ ?_
                case refine_2 => intro wx; go_simp; with_reducible rfl
                try simp only [Act.put, List.setIfInBounds_toArray, List.set_cons_succ, List.set_cons_zero]
                refine u_take0 (i := 4) (v := ?_) 44 rfl rfl (by kernel_rfl) (by kernel_rfl) (by kernel_rfl) (fun _ _ _ h => h) (by rfl) ?_ ?_
                case refine_2 => intro wx; go_simp; with_reducible rfl
                try simp only [Act.put, List.setIfInBounds_toArray, List.set_cons_succ, List.set_cons_zero]
                refine u_take (i := 5) (v := .agg (idc a).toArray) 45 rfl rfl (by kernel_rfl) (by kernel_rfl) (by kernel_rfl) (by kernel_rfl) (fun _ _ _ h => h) (by rfl) (fun wx hwx => ex_loadAgg aggId rfl (Cs.chg ct2 hwx (by simp)) (idc_len _)) hS1 ?_
                try simp only [Act.put, List.setIfInBounds_toArray, List.set_cons_succ, List.set_cons_zero]
                refine u_take0 (i := 6) (v := ?_) 46 rfl rfl (by kernel_rfl) (by kernel_rfl) (by kernel_rfl) (fun _ _ _ h => h) (by rfl) ?_ ?_
                case refine_2 => intro wx; go_simp; with_reducible rfl
                try simp only [Act.put, List.setIfInBounds_toArray, List.set_cons_succ, List.set_cons_zero]
                refine u_take0 (i := 7) (v := ?_) 47 rfl rfl (by kernel_rfl) (by kernel_rfl) (by kernel_rfl) (fun _ _ _ h => h) (by rfl) ?_ ?_
                case refine_2 => intro wx; go_simp; with_reducible rfl
                try simp only [Act.put, List.setIfInBounds_toArray, List.set_cons_succ, List.set_cons_zero]
                refine u_take0 (i := 8) (v := ?_) 48 rfl rfl (by kernel_rfl) (by kernel_rfl) (by kernel_rfl) (fun _ _ _ h => h) (by rfl) ?_ ?_
                case refine_2 => intro wx; go_simp; with_reducible rfl
                try simp only [Act.put, List.setIfInBounds_toArray, List.set_cons_succ, List.set_cons_zero]
                refine u_take0 (i := 9) (v := ?_) 49 rfl rfl (by kernel_rfl) (by kernel_rfl) (by kernel_rfl) (fun _ _ _ h => h) (by rfl) ?_ ?_
                case refine_2 => intro wx; go_simp; with_reducible rfl
                try simp only [Act.put, List.setIfInBounds_toArray, List.set_cons_succ, List.set_cons_zero]
                refine u_take (i := 10) (v := .agg (idc q.behind).toArray) 50 rfl rfl (by kernel_rfl) (by kernel_rfl) (by kernel_rfl) (by kernel_rfl) (fun _ _ _ h => h) (by rfl) (fun wx hwx => ex_loadAgg aggId rfl (Cs.chg cb2 hwx (by simp)) (idc_len _)) hS1 ?_
                try simp only [Act.put, List.setIfInBounds_toArray, List.set_cons_succ, List.set_cons_zero]
                refine u_take (i := 11) (v := .bool r2) 51 rfl rfl (by kernel_rfl) (by kernel_rfl) (by kernel_rfl) (by kernel_rfl) (fun _ _ _ h => h) (by rfl) (fun wx hwx => ex_eqId rfl rfl hr2) hS1 ?_
                try simp only [Act.put, List.setIfInBounds_toArray, List.set_cons_succ, List.set_cons_zero]
                refine u_take0 (i := 12) (v := ?_) 52 rfl rfl (by kernel_rfl) (by kernel_rfl) (by kernel_rfl) (fun _ _ _ h => h) (by rfl) ?_ ?_
                case refine_2 => intro wx; go_simp; with_reducible rfl
                try simp only [Act.put, List.setIfInBounds_toArray, List.set_cons_succ, List.set_cons_zero]
                refine u_take0 (i := 13) (v := ?_) 6 rfl rfl (by kernel_rfl) (by kernel_rfl) (by kernel_rfl) (fun _ _ _ h => h) (by rfl) ?_ ?_
                case refine_2 => intro wx; go_simp; with_reducible rfl
                try simp only [Act.put, List.setIfInBounds_toArray, List.set_cons_succ, List.set_cons_zero]
                refine u_done (by kernel_rfl) ?_ _
                go_wp2
                go_roundw
                case rel => exact ⟨j + 1, by omega, by go_num, true, r2, rfl, rfl, by exact kb_next HKB.out HTJ.out, by rw [← HR2.out]; exact bb_next HBB.out HTJ.out, hcy.drew.drew⟩
                case measure => simp [intOf]; omega
              · go_wp2
                refine wp_region_U (fun wx => Chg [] wr.drew wx) [] (by kernel_rfl) ?_
                refine u_take0 (i := 0) (v := ?_) 40 rfl rfl (by kernel_rfl) (by kernel_rfl) (by kernel_rfl) (fun _ _ _ h => h) (by rfl) ?_ ?_
                case refine_2 => intro wx; go_simp; with_reducible rfl
                try simp only [Act.put, List.setIfInBounds_toArray, List.set_cons_succ, List.set_cons_zero]
                refine u_take0 (i := 1) (v := ?_) 41 rfl rfl (by kernel_rfl) (by kernel_rfl) (by kernel_rfl) (fun _ _ _ h => h) (by rfl) ?_ ?_
                case refine_2 => intro wx; go_simp; with_reducible rfl
                try simp only [Act.put, List.setIfInBounds_toArray, List.set_cons_succ, List.set_cons_zero]
                refine u_skip (i := 2) 42 rfl rfl (by kernel_rfl) (by kernel_rfl) (by kernel_rfl) (fun _ _ _ h => h) (by rfl) ?_
                try simp only [Act.put, List.setIfInBounds_toArray, List.set_cons_succ, List.set_cons_zero]
                refine u_skip (i := 3) 43 rfl rfl (by kernel_rfl) (by kernel_rfl) (by kernel_rfl) (fun _ _ _ h => h) (by rfl) ?_
                try simp only [Act.put, List.setIfInBounds_toArray, List.set_cons_succ, List.set_cons_zero]
                refine u_skip (i := 4) 44 rfl rfl (by kernel_rfl) (by kernel_rfl) (by kernel_rfl) (fun _ _ _ h => h) (by rfl) ?_
                try simp only [Act.put, List.setIfInBounds_toArray, List.set_cons_succ, List.set_cons_zero]
                refine u_skip (i := 5) 45 rfl rfl (by kernel_rfl) (by kernel_rfl) (by kernel_rfl) (fun _ _ _ h => h) (by rfl) ?_
                try simp only [Act.put, List.setIfInBounds_toArray, List.set_cons_succ, List.set_cons_zero]
                refine u_skip (i := 6) 46 rfl rfl (by kernel_rfl) (by kernel_rfl) (by kernel_rfl) (fun _ _ _ h => h) (by rfl) ?_
                try simp only [Act.put, List.setIfInBounds_toArray, List.set_cons_succ, List.set_cons_zero]
                refine u_skip (i := 7) 47 rfl rfl (by kernel_rfl) (by kernel_rfl) (by kernel_rfl) (fun _ _ _ h => h) (by rfl) ?_
                try simp only [Act.put, List.setIfInBounds_toArray, List.set_cons_succ, List.set_cons_zero]
                refine u_skip (i := 8) 48 rfl rfl (by kernel_rfl) (by kernel_rfl) (by kernel_rfl) (fun _ _ _ h => h) (by rfl) ?_
                try simp only [Act.put, List.setIfInBounds_toArray, List.set_cons_succ, List.set_cons_zero]
                refine u_skip (i := 9) 49 rfl rfl (by kernel_rfl) (by kernel_rfl) (by kernel_rfl) (fun _ _ _ h => h) (by rfl) ?_
                try simp only [Act.put, List.setIfInBounds_toArray, List.set_cons_succ, List.set_cons_zero]
                refine u_skip (i := 10) 50 rfl rfl (by kernel_rfl) (by kernel_rfl) (by kernel_rfl) (fun _ _ _ h => h) (by rfl) ?_
                try simp only [Act.put, List.setIfInBounds_toArray, List.set_cons_succ, List.set_cons_zero]
                refine u_skip (i := 11) 51 rfl rfl (by kernel_rfl) (by kernel_rfl) (by kernel_rfl) (fun _ _ _ h => h) (by rfl) ?_
                try simp only [Act.put, List.setIfInBounds_toArray, List.set_cons_succ, List.set_cons_zero]
                refine u_take0 (i := 12) (v := ?_) 52 rfl rfl (by kernel_rfl) (by kernel_rfl) (by kernel_rfl) (fun _ _ _ h => h) (by rfl) ?_ ?_
                case refine_2 => intro wx; go_simp; with_reducible rfl
                try simp only [Act.put, List.setIfInBounds_toArray, List.set_cons_succ, List.set_cons_zero]
                refine u_take0 (i := 13) (v := ?_) 6 rfl rfl (by kernel_rfl) (by kernel_rfl) (by kernel_rfl) (fun _ _ _ h => h) (by rfl) ?_ ?_
                case refine_2 => intro wx; go_simp; with_reducible rfl
                try simp only [Act.put, List.setIfInBounds_toArray, List.set_cons_succ, List.set_cons_zero]
                refine u_done (by kernel_rfl) ?_ _
                go_wp2
                go_roundw
                case rel => exact ⟨j + 1, by omega, by go_num, true, true, rfl, rfl, by exact kb_next HKB.out HTJ.out, by exact bb_next HBB.out HTJ.out, hcy.drew.drew⟩
                case measure => simp [intOf]; omega
          · obtain rfl : j = T.length := by omega
            have hkT : kb = decide (q.id ∈ T) := by rw [HKB.out, List.take_length]
            have hbT : bb = (decide (q.behind = .zero) || decide (q.behind ∈ T)) := by rw [HBB.out, List.take_length]
            have HK := Lib.hid hkT
            have HB := Lib.hid hbT
            clear hkT hbT HKB HBB hjt hj
            have cn : wr.cell? ⟨pb, po + k * 66 + 32, none⟩ = some (.int .i64 q.id.n) := hcy.cell cn0 (by simp)
            have ci : Cs wr pb (po + k * 66) (idc q.id) := ci0.chg hcy (by simp)
            have hown := hcy.owns HO.out (by simp)
            have HO2 := Lib.hid hown
            have hck2 := hck.trans hcy
            have hbz : w.heap.size ≤ wr.heap.size := hck2.size
            clear hck hcy
            by_cases hyes : (!decide (q.id ∈ T) && (decide (q.behind = .zero) || decide (q.behind ∈ T)) && decide (0 < q.id.n)) = true
            · have hs : couldStep T q = T ++ [q.id] := by unfold couldStep; rw [if_pos hyes]
              have HS := Lib.hid hs
              simp only [Bool.and_eq_true, Bool.not_eq_true'] at hyes
              obtain ⟨⟨hy1, hy2⟩, hy3⟩ := hyes
              obtain rfl : kb = false := by rw [HK.out]; exact hy1
              obtain rfl : bb = true := by rw [HB.out]; exact hy2
              have hy4 : (0 : Int) < q.id.n := by simpa using hy3
              clear hs hy1 hy2 hy3
              go_wp2_with (first
                | ((with_reducible show wpList _ _ _ (⟨some 72, _, _, _, _, _⟩ :: _) _ _); refine wpList_loadAgg aggId rfl ci (idc_len _) ?_)
                | ((with_reducible show wpList _ _ _ (⟨some 73, _, _, _, _, _⟩ :: _) _ _); refine wpList_push slId (.slice ao T.length uc) T.length (flat idc T) (.agg (idc q.id).toArray) (of_decide_eq_true rfl) (fun _ => rfl) hown rfl (show (idc q.id).toArray.size = 33 by simp [idc_len]) (show ∀ c ∈ (idc q.id).toArray.toList, c.oneCell' = true by simpa using idc_one q.id) (by omega) (by unfold maxLen; omega) hbz ?_; intro u' W1 hown1 hch1 hnn hloc))
              go_roundw
              case rel =>
                refine ⟨k + 1, by omega, by go_num, ?_, ?_⟩
                · rw [HTn.out, HS.out, List.length_append, flat_append, flat_one]
                  simpa [Value.cells] using hown1
                · exact hck2.trans' hch1 (fun _ h _ => h) (fun i hi hl => by have := (HO2.out.lt i (by simpa using hi)).1; omega)
              case measure => simp [intOf]; omega
            · have hs : couldStep T q = T := by unfold couldStep; rw [if_neg hyes]
              have HS := Lib.hid hs
              have HY := Lib.hid hyes
              clear hs hyes
              have hfin : ∀ (wf : World), wf = wr → (∃ k' : Nat, k' ≤ l.length ∧ Value.int .i64 ((k : Int) + 1) = .int .i64 k' ∧ wf.ownsRow w.heap.size 34 33 (.slice ao T.length uc) (couldL (l.take k')).length (flat idc (couldL (l.take k'))) ∧ Chg [] w wf) := fun wf hwf => by
                subst hwf
                exact ⟨k + 1, by omega, by go_num, by rw [HTn.out, HS.out]; exact HO2.out, hck2⟩
              cases kb
              · cases bb
                · go_wp2
                  go_roundw
                  case rel => exact hfin _ rfl
                  case measure => simp [intOf]; omega
                · have hn : ¬ (0 : Int) < q.id.n := fun h => by
                    apply HY.out
                    simp only [Bool.and_eq_true, Bool.not_eq_true']
                    exact ⟨⟨HK.out.symm, HB.out.symm⟩, by simpa using h⟩
                  have hn' : q.id.n ≤ 0 := by omega
                  go_wp2
                  go_roundw
                  case rel => exact hfin _ rfl
                  case measure => simp [intOf]; omega
              · go_wp2
                go_roundw
                case rel => exact hfin _ rfl
                case measure => simp [intOf]; omega
      · obtain rfl : k = l.length := by omega
        rw [List.take_length] at hown
        obtain ⟨ao, uc, hu, hao⟩ := owns_form hown
        subst hu
        clear hown hao
        go_wp2
        go_ret
        exact ⟨rfl, hck⟩
end Go.Proofs.Ytefkmdejcdhnjaa.S
