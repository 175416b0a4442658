/- Generic laws, part R: arguments opened: slices of flat values (integers, bools, strings, arrays and structs of these), over any program. -/
import Derived.Test.YtefkmdejcdhnjaaKD
import Derived.Test.YtefkmdejcdhnjaaKL
namespace Go.Proofs.Ytefkmdejcdhnjaa.K
open Go Go.RowKit Go.ChangeShapes Go.WideShapes Go.ChangeAt Go.Deep
variable {P : Program} {H : Type} {enc : TypeId × Value → H} {w : World} {base : Nat} {spare : Nat → Bool} {held : Bool}

/-- the cells of a list of values, each in its own cells -/
def flat {α : Type} (f : α → List Value) (xs : List α) : List Value := (xs.map f).flatten
theorem flat_nil {α : Type} (f : α → List Value) : flat f [] = [] := rfl
theorem flat_cons {α : Type} (f : α → List Value) (x : α) (xs : List α) : flat f (x :: xs) = f x ++ flat f xs := rfl
theorem flat_append {α : Type} (f : α → List Value) (xs ys : List α) : flat f (xs ++ ys) = flat f xs ++ flat f ys := by simp [flat]
theorem flat_one {α : Type} (f : α → List Value) (x : α) : flat f [x] = f x := by simp [flat]
theorem flat_len {α : Type} {f : α → List Value} {c : Nat} (hc : ∀ x, (f x).length = c) : ∀ xs : List α, (flat f xs).length = xs.length * c
  | [] => by simp [flat]
  | x :: xs => by rw [flat_cons, List.length_append, hc, flat_len hc xs, List.length_cons, Nat.succ_mul]; omega
theorem flat_get {α : Type} {f : α → List Value} {c : Nat} (hc : ∀ x, (f x).length = c) : ∀ {xs : List α} {k : Nat} {x : α}, xs[k]? = some x → ∀ {j : Nat}, j < c → (flat f xs)[k * c + j]? = (f x)[j]?
  | [], _, _, h, _, _ => by simp at h
  | y :: ys, 0, x, h, j, hj => by
    simp at h; subst h
    rw [flat_cons, Nat.zero_mul, Nat.zero_add, List.getElem?_append_left (by rw [hc]; exact hj)]
  | y :: ys, k + 1, x, h, j, hj => by
    rw [flat_cons, List.getElem?_append_right (by rw [hc, Nat.succ_mul]; omega), hc]
    rw [show (k + 1) * c + j - c = k * c + j by rw [Nat.succ_mul]; omega]
    exact flat_get hc (by simpa using h) hj
theorem flat_mem {α : Type} {f : α → List Value} {xs : List α} {v : Value} (h : v ∈ flat f xs) : ∃ x ∈ xs, v ∈ f x := by
  simp only [flat, List.mem_flatten, List.mem_map] at h
  obtain ⟨l, ⟨x, hx, rfl⟩, hv⟩ := h
  exact ⟨x, hx, hv⟩

theorem mapM_flat {α : Type} {g : α → Option (DataW H × List MemPlace)} {k : α → Option (List Lit)} : ∀ {l : List α} {xs : List (DataW H × List MemPlace)}, l.mapM g = some xs → (∀ a ∈ l, ∀ y, g a = some y → ∃ ls, k a = some ls) → ∃ ls, l.mapM k = some ls
  | [], _, _, _ => ⟨[], rfl⟩
  | a :: l, xs, h, hk => by
    rw [List.mapM_cons] at h
    simp only [bind, Option.bind_eq_some_iff, pure, Option.some.injEq] at h
    obtain ⟨y, hy, r, hr, rfl⟩ := h
    obtain ⟨la, hla⟩ := hk a (by simp) y hy
    obtain ⟨lr, hlr⟩ := mapM_flat hr (fun b hb => hk b (by simp [hb]))
    exact ⟨la :: lr, by rw [List.mapM_cons]; simp [hla, hlr]⟩

/-- okLeaves of chunks, joined -/
theorem okLeaves_chunks {ks : List Kd} {c : Nat} (hc : ks.length = c) : ∀ (n : Nat) (cs : List Value), cs.length = n * c → (∀ i, i < n → ∃ ls, okLeaves ks ((cs.drop (i * c)).take c) = some ls) → ∃ ls, okLeaves (List.replicate n ks).flatten cs = some ls
  | 0, cs, hl, _ => by
    have : cs = [] := List.eq_nil_of_length_eq_zero (by simpa using hl)
    subst this; exact ⟨[], rfl⟩
  | n + 1, cs, hl, h => by
    obtain ⟨l1, h1⟩ := h 0 (by omega)
    obtain ⟨l2, h2⟩ := okLeaves_chunks hc n (cs.drop c) (by rw [List.length_drop, hl, Nat.succ_mul]; omega) (fun i hi => by
      obtain ⟨l, hl⟩ := h (i + 1) (by omega)
      refine ⟨l, ?_⟩
      rw [List.drop_drop, show c + i * c = (i + 1) * c by rw [Nat.succ_mul]; omega]
      exact hl)
    refine ⟨l1 ++ l2, ?_⟩
    rw [List.replicate_succ, List.flatten_cons]
    have := okLeaves_mk_append h1 h2
    rw [Nat.zero_mul, List.drop_zero, List.take_append_drop] at this
    exact this

theorem okLeaves_fields {P : Program} {d : Nat} {ok : Field → List Value → Prop} (hok : ∀ f ks, leavesF P d f.type = some ks → ∀ cs, ok f cs → ∃ ls, okLeaves ks cs = some ls) : ∀ (fs : List Field) (kss : List (List Kd)) (off tot : Nat) (cs : List Value),
    (fs.mapM fun f => leavesF P d f.type) = some kss → P.runs off fs = some tot → cs.length = tot → (∀ f ∈ fs, ok f ((cs.drop f.offset).take (P.cellsOf f.type))) → ∃ ls, okLeaves kss.flatten (cs.drop off) = some ls
  | [], kss, off, tot, cs, h, hr, hl, _ => by
    simp at h; subst h
    simp only [Program.runs, Option.some.injEq] at hr
    rw [List.drop_eq_nil_of_le (by omega)]
    exact ⟨[], rfl⟩
  | f :: fs, kss, off, tot, cs, h, hr, hl, hf => by
    rw [List.mapM_cons] at h
    simp only [bind, Option.bind_eq_some_iff, pure, Option.some.injEq] at h
    obtain ⟨a, ha, r, hr', rfl⟩ := h
    simp only [Program.runs] at hr
    split at hr
    · rename_i hoff
      obtain ⟨l1, h1⟩ := hok f a ha _ (hf f (by simp))
      obtain ⟨l2, h2⟩ := okLeaves_fields hok fs r _ tot cs hr' hr hl (fun g hg => hf g (by simp [hg]))
      refine ⟨l1 ++ l2, ?_⟩
      rw [List.flatten_cons]
      have := okLeaves_mk_append h1 h2
      rw [hoff, ← List.drop_drop, List.take_append_drop] at this
      exact this
    · cases hr

/-- what reads as a flat value lies in cells of its kinds -/
theorem trod_flat : ∀ (d : Nat) (t : TypeId) (ks : List Kd), leavesF P d t = some ks → ∀ (fuel : Nat) (cs : List Value) (x : DataW H × List MemPlace), DataW.trod enc P w base spare held fuel t cs = some x → ∃ ls, okLeaves ks cs = some ls
  | 0, _, _, h => by simp [leavesF] at h
  | d + 1, t, ks, h => by
    intro fuel cs x hx
    unfold leavesF at h
    split at h
    · rename_i hu
      split at h <;> simp at h
      subst h
      obtain ⟨b, rfl, _⟩ := DataW.trod_bool hu hx
      exact ⟨[.bool b], by simp [okLeaves, okLeaf]⟩
    · rename_i q hu
      split at h <;> simp at h
      subst h
      obtain ⟨n, rfl, _, wf⟩ := DataW.trod_int hu hx
      exact ⟨[.int q n], by simp [okLeaves, okLeaf, wf]⟩
    · rename_i hu
      split at h <;> simp at h
      subst h
      obtain ⟨s, rfl, _, hs⟩ := DataW.trod_string hu hx
      exact ⟨[.string s.data.toList], by simp [okLeaves, okLeaf, hs]⟩
    · rename_i n e hu
      simp only [Option.bind_eq_some_iff] at h
      obtain ⟨ke, he, h⟩ := h
      split at h
      · rename_i hc
        simp only [Option.some.injEq] at h
        subst h
        obtain ⟨xs, m, rfl, _, hl, hxl, hi⟩ := DataW.trod_array hu hx
        have hlen := leaves_len d _ _ he
        refine okLeaves_chunks hlen n cs (by rw [hl, hc]) (fun i hi' => ?_)
        have := hi i hi'
        rw [List.getElem?_eq_getElem (by omega)] at this
        exact trod_flat d e ke he m _ _ this
      · cases h
    · rename_i fs hu
      simp only [Option.bind_eq_some_iff] at h
      obtain ⟨kss, hk, h⟩ := h
      split at h
      · rename_i hc
        simp only [Option.some.injEq] at h
        subst h
        obtain ⟨xs, m, _, _, hl, hlen, hf⟩ := DataW.trod_struct hu hx
        have := okLeaves_fields (P := P) (d := d) (ok := fun f cs => ∃ x, DataW.trod enc P w base spare held m f.type cs = some x) (fun f ks hk cs ⟨x, hx⟩ => trod_flat d f.type ks hk m cs x hx) fs.toList kss 0 _ cs hk hc.1 hl (fun f hf' => by
          obtain ⟨i, hi, rfl⟩ := List.mem_iff_getElem.1 hf'
          have h1 := hf i fs.toList[i] (by simp at hi ⊢)
          have hi' : i < xs.length := by simp at hi; omega
          rw [List.getElem?_eq_getElem hi'] at h1
          exact ⟨_, h1⟩)
        simpa using this
      · cases h
    · cases h

/-- how the values of a flat type are written: f, and back -/
structure FlatTy (P : Program) (e : TypeId) (α : Type) (f : α → List Value) (c : Nat) (ok : α → Prop) : Prop where
  ks : ∃ ks, leavesF P (P.types.size + 1) e = some ks ∧ ∀ cs ls, okLeaves ks cs = some ls → ∃ x, ok x ∧ f x = cs
  cells : P.cellsOf e = c
  pos : 0 < c
  len : ∀ x, (f x).length = c

/-- a slice of values of a flat type that is read -/
structure Sl (w : World) {α : Type} (f : α → List Value) (v : Value) (xs : List α) : Prop where
  src : Src w v xs.length (flat f xs)
  cap : ∃ ao c, v = .slice ao xs.length c ∧ xs.length ≤ c ∧ c ≤ maxLen ∧ (ao = none → c = 0)
  lt : xs ≠ [] → ∀ g, v.ownBlock = some g → g < w.heap.size

/-- an argument that is a slice of flat values, opened -/
theorem open_flats {α : Type} {f : α → List Value} {c : Nat} {ok : α → Prop} {t e : TypeId} {W : World} (F : FlatTy P e α f c ok) (ht : P.underlying t = some (.slice e)) {ao : Option Addr} {len cap : Nat} {d : DataW H} {p : List MemPlace} (h : DataW.Trod enc P W 0 (fun _ => true) true t (.slice ao len cap) d p) :
    ∃ xs : List α, len = xs.length ∧ (∀ x ∈ xs, ok x) ∧ Sl W f (.slice ao len cap) xs ∧ ((xs = [] ∧ d = .nil) ∨ ∃ elems spare, d = .slice elems spare ∧ elems.length = xs.length) := by
  obtain ⟨fuel, hf⟩ := h
  obtain ⟨ks, hks, hdec⟩ := F.ks
  rcases open_slice ht hf with ⟨h1, h2⟩ | ⟨a, len', cap', m, n, D, Pl, h1, _, hl, hm, hmm, h2, hx⟩
  · simp only [Prod.mk.injEq] at h2
    simp [Value.cells] at h1
    obtain ⟨rfl, rfl, rfl⟩ := h1
    exact ⟨[], rfl, by simp, ⟨Src.nil W, ⟨none, 0, rfl, by simp, by unfold maxLen; omega, fun _ => rfl⟩, fun h => absurd rfl h⟩, .inl ⟨rfl, h2.1⟩⟩
  · simp [Value.cells] at h1
    obtain ⟨rfl, rfl, rfl⟩ := h1
    simp only [Prod.mk.injEq] at h2
    simp only [if_true] at hmm
    obtain rfl := hmm
    rw [F.cells] at hx
    have hx' : ∀ i, i < m → ∃ y, ok y ∧ W.cells? 0 (a.add (i * c)) c = some (f y) := by
      intro i hi
      obtain ⟨cs, h3, h4⟩ := hx i hi
      obtain ⟨ls, hls⟩ := trod_flat _ _ _ hks _ _ _ h4
      obtain ⟨y, hy, rfl⟩ := hdec _ _ hls
      exact ⟨y, hy, h3⟩
    have hpos := F.pos
    have hlt : 0 < m → a.spot = none ∧ a.block < W.heap.size := by
      intro h0
      obtain ⟨y, _, h3⟩ := hx' 0 h0
      obtain ⟨_, hlen, hc⟩ := World.cells?_some h3
      have h0 := hc 0 hpos
      rw [List.getElem?_eq_getElem (by rw [F.len]; exact hpos)] at h0
      refine ⟨by simpa [Addr.add] using World.cell?_spot h0, ?_⟩
      have := World.block_lt_of_cell? W _ h0
      have hb : ((a.add (0 * c)).add 0).block = a.block := by unfold Addr.add; split <;> split <;> rfl
      rw [hb] at this; exact this
    by_cases hcz : m = 0
    · subst hcz
      obtain rfl : len = 0 := by omega
      refine ⟨[], rfl, by simp, ⟨⟨⟨_, _, rfl, (fun h => by cases h), (fun a _ j u hu => by simp [flat] at hu)⟩⟩, ⟨_, _, rfl, by simp, by unfold maxLen; omega, (fun h => by cases h)⟩, (fun h => absurd rfl h)⟩, .inr ⟨_, _, h2.1, by simp⟩⟩
    · haveI : Inhabited α := ⟨(hx' 0 (by omega)).choose⟩
      obtain ⟨L, hL⟩ := Deep.choose_lt (α := α) (p := fun i y => ok y ∧ W.cells? 0 (a.add (i * c)) c = some (f y)) hx'
      have hxl : ∀ k x, ((List.range len).map L)[k]? = some x → k < len ∧ L k = x := by
        intro k x hk
        rw [List.getElem?_map] at hk
        by_cases hkl : k < len
        · rw [List.getElem?_range hkl] at hk
          simp at hk; exact ⟨hkl, hk⟩
        · rw [List.getElem?_eq_none (by simp; omega)] at hk; cases hk
      refine ⟨(List.range len).map L, by simp, ?_, ⟨⟨⟨some a, m, by simp, (fun h => by cases h), ?_⟩⟩, ⟨some a, m, by simp, by simpa using hl, hm, (fun h => by cases h)⟩, ?_⟩, .inr ⟨_, _, h2.1, by simp⟩⟩
      · intro x hx
        obtain ⟨i, hi, rfl⟩ := List.mem_map.1 hx
        exact (hL i (by have := List.mem_range.1 hi; omega)).1
      · intro a' ha' j u hu
        cases ha'
        have hj : j < len * c := by
          have := (List.getElem?_eq_some_iff.1 hu).1
          rw [flat_len F.len] at this
          simpa using this
        have hq : j / c < len := Nat.div_lt_of_lt_mul (by rw [Nat.mul_comm]; exact hj)
        have hr : j % c < c := Nat.mod_lt _ hpos
        have hk : ((List.range len).map L)[j / c]? = some (L (j / c)) := by rw [List.getElem?_map, List.getElem?_range hq]; rfl
        have hg := flat_get F.len hk hr
        have e1 : j / c * c + j % c = j := by rw [Nat.mul_comm]; exact Nat.div_add_mod j c
        rw [e1, hu] at hg
        obtain ⟨_, hlen, hc⟩ := World.cells?_some (hL (j / c) (by omega)).2
        have := hc (j % c) hr
        rw [← hg] at this
        have e2 : (a.add (j / c * c)).add (j % c) = a.add j := by
          have hs := (hlt (by omega)).1
          obtain ⟨b, o, sp⟩ := a
          simp only at hs; subst hs
          rw [Addr.add_lit, Addr.add_lit, Addr.add_lit, Nat.add_assoc, e1]
        rw [e2] at this
        exact this
      · intro _ g hg
        simp [Value.ownBlock] at hg
        rw [← hg]; exact (hlt (by omega)).2
theorem flat_single {α : Type} (g : α → Value) : ∀ xs : List α, flat (fun x => [g x]) xs = xs.map g
  | [] => rfl
  | x :: xs => by rw [flat_cons, flat_single g xs]; rfl
theorem form_int {q : IntKind} {e : TypeId} (hu : P.underlying e = some (.int q)) (hc : P.cellsOf e = 1) : FlatTy P e Int (fun x => [.int q x]) 1 (fun x => (Lit.int q x).wf = true) :=
  ⟨⟨[.int q], by simp [leavesF, hu, hc], fun cs ls h => by
    match cs, okLeaves_len h with
    | [v], _ =>
      cases v <;> simp only [okLeaves, okLeaf, Option.bind_none, reduceCtorEq] at h
      rename_i q' n _
      by_cases hq : q' = q ∧ (Lit.int q n).wf = true
      · exact ⟨n, hq.2, by rw [hq.1]⟩
      · rw [if_neg hq] at h; simp at h⟩, hc, by decide, fun _ => rfl⟩
theorem form_bool {e : TypeId} (hu : P.underlying e = some .bool) (hc : P.cellsOf e = 1) : FlatTy P e Bool (fun x => [.bool x]) 1 (fun _ => True) :=
  ⟨⟨[.bool], by simp [leavesF, hu, hc], fun cs ls h => by
    match cs, okLeaves_len h with
    | [v], _ => cases v <;> simp [okLeaves, okLeaf] at h; exact ⟨_, trivial, rfl⟩⟩, hc, by decide, fun _ => rfl⟩
/-- a flat value of more than one cell, handed in by value -/
theorem open_agg {α : Type} {f : α → List Value} {c : Nat} {ok : α → Prop} {e : TypeId} {W : World} (F : FlatTy P e α f c ok) (h2 : 2 ≤ c) {v : Value} {d : DataW H} {p : List MemPlace} (h : DataW.Trod enc P W 0 (fun _ => true) true e v d p) :
    ∃ x : α, ok x ∧ v = .agg (f x).toArray := by
  obtain ⟨fuel, hf⟩ := h
  obtain ⟨ks, hks, hdec⟩ := F.ks
  obtain ⟨ls, hls⟩ := trod_flat _ _ _ hks _ _ _ hf
  obtain ⟨x, hx, he⟩ := hdec _ _ hls
  have hl := F.len x
  refine ⟨x, hx, ?_⟩
  rw [he] at hl ⊢
  cases v <;> simp [Value.cells] at hl <;> first | omega | rfl
/-- a slice whose readings' bytes are within what a reading may weigh -/
theorem sl_sized {α : Type} {xs : List α} {ts : List TypeId} {ds : List (DataW H)} {j : Nat} {t e : TypeId} {d : DataW H} (hd : (xs = [] ∧ d = .nil) ∨ ∃ elems spare, d = .slice elems spare ∧ elems.length = xs.length)
    (hsz : (DataW.weightsEach P ts ds).all (· ≤ reachBytes) = true) (hj : ts[j]? = some t) (hd' : ds[j]? = some d) (ht : P.underlying t = some (.slice e)) : xs.length * P.bytesOf e ≤ reachBytes := by
  rcases hd with ⟨rfl, _⟩ | ⟨elems, spare, rfl, hl⟩
  · simp
  · have := sized_slice hsz hj hd' ht
    rw [← hl]
    exact Nat.le_trans (Nat.mul_le_mul_right _ (by omega)) this
/-- cells of one kind of integer -/
theorem ints_of_leaves {q : IntKind} : ∀ {n : Nat} {cs : List Value} {ls : List Lit}, okLeaves (List.replicate n (.int q)) cs = some ls → ∃ l : List Int, (l.length = n ∧ ∀ x ∈ l, (Lit.int q x).wf = true) ∧ l.map (Value.int q) = cs
  | 0, [], _, _ => ⟨[], by simp, rfl⟩
  | 0, _ :: _, _, h => by simp [okLeaves] at h
  | n + 1, [], _, h => by simp [List.replicate_succ, okLeaves] at h
  | n + 1, v :: vs, ls, h => by
    simp only [List.replicate_succ, okLeaves, Option.bind_eq_some_iff, Option.map_eq_some_iff] at h
    obtain ⟨a, ha, r, hr, rfl⟩ := h
    obtain ⟨l, ⟨h1, h2⟩, rfl⟩ := ints_of_leaves hr
    cases v <;> simp only [okLeaf, reduceCtorEq] at ha
    rename_i q' x
    by_cases hq : q' = q ∧ (Lit.int q x).wf = true
    · refine ⟨x :: l, ⟨by simp [h1], fun y hy => ?_⟩, by rw [hq.1]; rfl⟩
      rcases List.mem_cons.1 hy with rfl | hy
      · exact hq.2
      · exact h2 y hy
    · rw [if_neg hq] at ha; simp at ha
end Go.Proofs.Ytefkmdejcdhnjaa.K
