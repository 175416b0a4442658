/- Seq: the law SeqBack, its walk. -/
import Derived.Test.YtefkmdejcdhnjaaSQ
import Derived.Test.YtefkmdejcdhnjaaSL
namespace Go.Proofs.Ytefkmdejcdhnjaa.S
open Go Go.RowKit Go.Shelf Go.Proofs.Ytefkmdejcdhnjaa.K
set_option maxRecDepth 100000

theorem src_apart {w w' : World} {p : Nat} {v u : Value} {xs : List ElV} (h : Sq w p v xs) {e size n : Nat} {cs : List Value} (ho : w'.ownsRow w.heap.size e size u n cs) : ∀ g, u.ownBlock = some g → g ∉ p :: v.ownBlock.toList := by
  intro g hg hm
  have h1 := (ho.lt g hg).1
  have h2 := h.lt
  rcases List.mem_cons.1 hm with hm | hm
  · omega
  · have := (h.own.lt g (by simpa using hm)).2; omega
theorem apart_step {w w' : World} {p : Nat} {v v' u : Value} (h : ∀ g, u.ownBlock = some g → g ∉ p :: v.ownBlock.toList) (hst : SqStep w w' p v v') (hl : ∀ g, u.ownBlock = some g → g < w.heap.size) :
    ∀ g, u.ownBlock = some g → g ∉ p :: v'.ownBlock.toList := by
  intro g hg hm
  have h0 := h g hg
  rcases List.mem_cons.1 hm with hm | hm
  · exact h0 (by simp [hm])
  · rcases hst.loc g (by simpa using hm) with h1 | h1
    · exact h0 (by simp [h1])
    · have := hl g hg; omega
theorem take_back {w : World} {p : Nat} {s : Value} {ys xs : List ElV} (h : Sq w p s ys) {id : IdV} (ht : takR ys id = (0, xs)) :
    Calls Try.prog 31 #[.pointer (some ⟨p, 0, none⟩), .agg (idc id).toArray] w fun e w' => e = .returned (.int .i64 0) ∧ ∃ v', Sq w' p v' xs ∧ SqStep w w' p s v' := by
  refine (takeFn_of h id).mono ?_
  rintro e w' ⟨he, v', h1, h2⟩
  rw [ht] at he h1
  exact ⟨he, v', h1, h2⟩

set_option maxHeartbeats 1000000 in
theorem back_walk {w : World} {x : Value} {l : List PutV} (hx : Src w x l.length (flat putc l)) (ll : l.length ≤ 1048576) (id behind : IdV) :
    Calls Try.prog 7 #[x, .agg (idc id).toArray, .agg (idc behind).toArray] w fun e w' => e = .returned (.bool true) ∧ Chg [] w w' := by
  have hC1 : Chg [] w ((w.alloc (.cells (idc id).toArray 34)).alloc (.cells (idc behind).toArray 34)) := ((Chg.refl _ _).alloc _).alloc _
  have hbi : ((w.alloc (.cells (idc id).toArray 34)).alloc (.cells (idc behind).toArray 34)).heap[w.heap.size]? = some (.cells (idc id).toArray 34 (0, 0)) := by rw [heap_old _ _ _ (by simp)]; exact heap_new _ _
  have hbb : ((w.alloc (.cells (idc id).toArray 34)).alloc (.cells (idc behind).toArray 34)).heap[w.heap.size + 1]? = some (.cells (idc behind).toArray 34 (0, 0)) := by
    have := heap_new (w.alloc (.cells (idc id).toArray 34)) (.cells (idc behind).toArray 34)
    simpa using this
  have ci0 : Cs ((w.alloc (.cells (idc id).toArray 34)).alloc (.cells (idc behind).toArray 34)) w.heap.size 0 (idc id) := Cs.of_heap hbi 0 (by intro j u hu; simpa using hu)
  have cb0 : Cs ((w.alloc (.cells (idc id).toArray 34)).alloc (.cells (idc behind).toArray 34)) (w.heap.size + 1) 0 (idc behind) := Cs.of_heap hbb 0 (by intro j u hu; simpa using hu)
  have hx1 := hx.chg hC1 (by simp)
  have hsw : ((w.alloc (.cells (idc id).toArray 34)).alloc (.cells (idc behind).toArray 34)).heap.size = w.heap.size + 2 := by simp
  obtain ⟨w1, hw1⟩ : ∃ w1, w1 = (w.alloc (.cells (idc id).toArray 34)).alloc (.cells (idc behind).toArray 34) := ⟨_, rfl⟩
  rw [← hw1] at hC1 ci0 cb0 hx1 hsw
  have HW := Lib.hid hw1
  have hlc := lay_could l
  have hG := (lay_inv l).good
  have hB := lay_beh l
  have hLl := layL_len l
  clear hbi hbb hx
  go_enter Try.func7, Try.ntmps7
  go_wp2_with (go_at_call 11; rw [← HW.out]; refine (laid_of hx1 ll).mono ?_; rintro e W1 ⟨p, v, u, rfl, hM, hu, hap⟩; obtain ⟨au, cu, hue, _⟩ := owns_form hu; subst hue)
  have hM1 := hM
  have h1 := hM.sq
  obtain ⟨s, hs⟩ : ∃ s, layL l = s := ⟨_, rfl⟩
  have hlen0 : (layL l).1.length ≤ 1048576 := by omega
  rw [hs] at hlc hG hB hM hlen0 hap
  obtain ⟨xs, dn⟩ := s
  have HG := Lib.hid hG
  have HB := Lib.hid hB
  have HN := Lib.hid hlc
  have HM := Lib.hid hM
  clear hlc hG hB hLl hs hw1 hM1 h1 hu hap hM
  have hlen : xs.length + 1 ≤ 1099511627776 := by have : xs.length ≤ 1048576 := hlen0; omega
  have hil := Nat.le_trans (idsOf_le true xs) (show xs.length ≤ 1099511627776 by omega)
  have hfl := Nat.le_trans (idsOf_le false xs) (show xs.length ≤ 1099511627776 by omega)
  by_cases hr0 : (insR xs id behind).1 = 0
  · obtain ⟨r, D⟩ := insR_done hr0
    obtain ⟨ys, hys⟩ : ∃ ys, insE xs r ⟨id, behind, true⟩ = ys := ⟨_, rfl⟩
    obtain ⟨hk1, hk2, _⟩ := rank_ins HG.out D
    have htk := tak_ins HB.out D hk1
    have hout := D.out
    have hyl : (idsOf true ys).length = (idsOf true xs).length + 1 := by rw [← hys, idsOf_true, idsOf_true]; simp [insE_len D.le]
    rw [hys] at hk1 htk hout
    have hneg : decide (0 ≤ rankOf xs id) = false := by
      rw [rank_neg D.new]; rfl
    have hwr : IntKind.i64.wrap (((idsOf true xs).length : Int) + 1) = ((idsOf true xs).length : Int) + 1 := by rw [IntKind.wrap_i64]; omega
    have hle : (((idsOf true ys).length : Int) == ((idsOf true xs).length : Int) + 1) = true := by simp; omega
    have HT := Lib.hid htk
    have HK := Lib.hid hk1
    have HO := Lib.hid hout
    have HNg := Lib.hid hneg
    have hr1 : (0 : Int) ≤ (r : Int) := by omega
    clear hk1 hk2 htk hout hyl hneg hys D
    go_wp2_with (first
      | (go_at_call 12; refine (could_of (hx1.chg HM.out.chg (by simp)) ll).mono ?_; rintro e W2 ⟨rfl, hcC⟩; rw [← HN.out])
      | (go_at_call 23; refine (live_of ((HM.out.chg' hcC).chg' hcI).sq).mono ?_; rintro e W4 ⟨ul, rfl, hol, hcL⟩; obtain ⟨al, nl, rfl, hnl, sL⟩ := src_ids hol; have hM4 := (((HM.out.chg' hcC).chg' hcI).chg' hcL); have ci := ci0.chg hM4.chg (by simp); have cb := cb0.chg hM4.chg (by simp))
      | ((with_reducible show wpList _ _ _ (⟨some 31, _, _, _, _, _⟩ :: _) _ _); refine wpList_loadAgg aggId rfl ci (idc_len _) ?_)
      | ((with_reducible show wpList _ _ _ (⟨some 32, _, _, _, _, _⟩ :: _) _ _); refine wpList_loadAgg aggId rfl cb (idc_len _) ?_)
      | (go_at_call 14; refine (idsFn_of (HM.out.chg' hcC).sq).mono ?_; rintro e W3 ⟨ui, rfl, hoi, hcI⟩; obtain ⟨ai, ni, rfl, hni, sI⟩ := src_ids hoi; have hapI := src_apart (HM.out.chg' hcC).sq hoi)
      | (go_at_call 17; refine (insert_ok hM4.sq id behind hlen hr0).mono ?_; rintro e W5 ⟨rfl, v5, hS5, hst5⟩; rw [HO.out] at hS5; have hM5 := hM4.step hS5 hst5; have hap5 := apart_step hapI hst5 (fun g hg => Nat.lt_of_lt_of_le (hoi.lt g hg).2 hcL.size); have hapL := apart_step (src_apart ((HM.out.chg' hcC).chg' hcI).sq hol) hst5 (fun g hg => (hol.lt g hg).2); have hapL0 := src_apart ((HM.out.chg' hcC).chg' hcI).sq hol)
      | (go_at_call 14; refine (idsFn_of hM5.sq).mono ?_; rintro e W6 ⟨u6, rfl, ho6, hc6⟩; obtain ⟨a6, n6, rfl, hn6, s6⟩ := src_ids ho6; have ci6 := ci0.chg (hM5.chg' hc6).chg (by simp))
      | ((with_reducible show wpList _ _ _ (⟨some 49, _, _, _, _, _⟩ :: _) _ _); refine wpList_valG (by rfl) (ex_loadAgg aggId rfl ci6 (idc_len _)) ?_)
      | (go_at_call 18; refine (rank_of (hM5.chg' hc6).sq id).mono ?_; rintro e W7 ⟨rfl, hc7⟩; rw [HK.out]; have ci7 := ci6.chg hc7 (by simp))
      | ((with_reducible show wpList _ _ _ (⟨some 55, _, _, _, _, _⟩ :: _) _ _); refine wpList_valG (by rfl) (ex_loadAgg aggId rfl ci7 (idc_len _)) ?_)
      | (go_at_call 31; refine (take_back ((hM5.chg' hc6).chg' hc7).sq HT.out).mono ?_; rintro e W8 ⟨rfl, v8, hS8, hst8⟩; have hM8 := ((hM5.chg' hc6).chg' hc7).step hS8 hst8; have sI8 := ((((sI.chg hcL (by simp)).chg hst5.chg hapI).chg hc6 (by simp)).chg hc7 (by simp)).chg hst8.chg hap5; have sL8 := (((sL.chg hst5.chg hapL0).chg hc6 (by simp)).chg hc7 (by simp)).chg hst8.chg hapL)
      | (go_at_call 14; refine (idsFn_of hM8.sq).mono ?_; rintro e W9 ⟨u9, rfl, ho9, hc9⟩; obtain ⟨a9, n9, rfl, hn9, s9⟩ := src_ids ho9)
      | (go_at_call 13; (with_reducible refine (same_at (xs := idsOf true xs) (ys := idsOf true xs) rfl rfl s9 (sI8.chg hc9 (by simp)) hil (decide_eq_true rfl)).mono ?_); rintro e W10 ⟨rfl, hc10⟩)
      | (go_at_call 23; refine (live_of ((hM8.chg' hc9).chg' hc10).sq).mono ?_; rintro e W11 ⟨u11, rfl, ho11, hc11⟩; obtain ⟨a11, n11, rfl, hn11, s11⟩ := src_ids ho11)
      | (go_at_call 13; (with_reducible refine (same_at (xs := idsOf false xs) (ys := idsOf false xs) rfl rfl s11 (((sL8.chg hc9 (by simp)).chg hc10 (by simp)).chg hc11 (by simp)) hfl (decide_eq_true rfl)).mono ?_); rintro e W12 ⟨rfl, hc12⟩; have hM12 := ((((hM8.chg' hc9).chg' hc10).chg' hc11).chg' hc12); have ci12 := ci0.chg hM12.chg (by simp))
      | ((with_reducible show wpList _ _ _ (⟨some 73, _, _, _, _, _⟩ :: _) _ _); refine wpList_valG (by rfl) (ex_loadAgg aggId rfl ci12 (idc_len _)) ?_)
      | (go_at_call 32; refine (has_of hM12.sq id).mono ?_; rintro e W13 ⟨rfl, hc13⟩; rw [HNg.out])
      )
    go_ret
    exact ⟨rfl, (hC1.trans hM12.chg).trans hc13⟩
  · go_wp2_with (first
      | (go_at_call 12; refine (could_of (hx1.chg HM.out.chg (by simp)) ll).mono ?_; rintro e W2 ⟨rfl, hcC⟩; rw [← HN.out])
      | (go_at_call 23; refine (live_of ((HM.out.chg' hcC).chg' hcI).sq).mono ?_; rintro e W4 ⟨ul, rfl, hol, hcL⟩; obtain ⟨al, nl, rfl, hnl, sL⟩ := src_ids hol; have hM4 := (((HM.out.chg' hcC).chg' hcI).chg' hcL); have ci := ci0.chg hM4.chg (by simp); have cb := cb0.chg hM4.chg (by simp))
      | ((with_reducible show wpList _ _ _ (⟨some 31, _, _, _, _, _⟩ :: _) _ _); refine wpList_loadAgg aggId rfl ci (idc_len _) ?_)
      | ((with_reducible show wpList _ _ _ (⟨some 32, _, _, _, _, _⟩ :: _) _ _); refine wpList_loadAgg aggId rfl cb (idc_len _) ?_)
      | (go_at_call 14; refine (idsFn_of (HM.out.chg' hcC).sq).mono ?_; rintro e W3 ⟨ui, rfl, hoi, hcI⟩; obtain ⟨ai, ni, rfl, hni, sI⟩ := src_ids hoi; have hapI := src_apart (HM.out.chg' hcC).sq hoi)
      | (go_at_call 17; refine (insert_bad hM4.sq id behind hlen hr0).mono ?_; rintro e W5 ⟨rr, rfl, hrr, v5, hS5, hst5⟩; have hM5 := hM4.step hS5 hst5)
      | (go_at_call 14; refine (idsFn_of hM5.sq).mono ?_; rintro e W6 ⟨u6, rfl, ho6, hc6⟩; obtain ⟨a6, n6, rfl, hn6, s6⟩ := src_ids ho6)
      | (go_at_call 13; refine (same_at (xs := idsOf true xs) (ys := idsOf true xs) rfl rfl s6 (((sI.chg hcL (by simp)).chg hst5.chg hapI).chg hc6 (by simp)) hil (decide_eq_true rfl)).mono ?_; rintro e W7 ⟨rfl, hc7⟩))
    go_ret
    exact ⟨rfl, ((hC1.trans hM5.chg).trans hc6).trans hc7⟩
end Go.Proofs.Ytefkmdejcdhnjaa.S
