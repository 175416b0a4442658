/- Seq: plain laws of sequences: ranks, inserting, what could be put. -/
import Derived.Test.YtefkmdejcdhnjaaSJ
namespace Go.Proofs.Ytefkmdejcdhnjaa.S
open Go Go.RowKit Go.Proofs.Ytefkmdejcdhnjaa.K

theorem findE_some {id : IdV} : ∀ {xs : List ElV} {r : Nat × Nat}, findE id xs = some r → ∃ x, xs[r.1]? = some x ∧ x.id = id ∧ r.2 = live (xs.take r.1) ∧ ∀ y ∈ xs.take r.1, y.id ≠ id
  | [], _, h => by cases h
  | x :: xs, r, h => by
    unfold findE at h
    split at h
    · rename_i hx; cases h; exact ⟨x, rfl, hx, rfl, by simp⟩
    · rename_i hx
      rw [Option.map_eq_some_iff] at h
      obtain ⟨q, hq, rfl⟩ := h
      obtain ⟨y, h1, h2, h3, h4⟩ := findE_some hq
      refine ⟨y, by simpa using h1, h2, ?_, ?_⟩
      · simp only [List.take_succ_cons, live, List.filter_cons, h3]
        cases x.shown <;> simp
      · intro z hz
        rw [List.take_succ_cons] at hz
        rcases List.mem_cons.1 hz with rfl | hz
        · exact hx
        · exact h4 z hz
theorem findE_mem {id : IdV} {xs : List ElV} : (findE id xs).isSome = true ↔ ∃ x ∈ xs, x.id = id := by
  constructor
  · intro h
    obtain ⟨r, hr⟩ := Option.isSome_iff_exists.1 h
    obtain ⟨x, h1, h2, _⟩ := findE_some hr
    exact ⟨x, List.mem_of_getElem? h1, h2⟩
  · rintro ⟨x, hx, hid⟩
    cases h : findE id xs with
    | some r => rfl
    | none =>
      exfalso
      induction xs with
      | nil => cases hx
      | cons y xs ih =>
        unfold findE at h
        split at h
        · cases h
        · rename_i hy
          rw [Option.map_eq_none_iff] at h
          rcases List.mem_cons.1 hx with rfl | hx
          · exact hy hid
          · exact ih hx h
theorem rank_nonneg {xs : List ElV} {id : IdV} : 0 ≤ rankOf xs id ↔ ∃ x ∈ xs, x.id = id := by
  rw [← findE_mem]
  unfold rankOf
  cases h : findE id xs with
  | some r => simp
  | none => simp
/-- the rank is where the first one of that Id stands -/
theorem rank_at {xs : List ElV} {id : IdV} {k : Nat} {x : ElV} (hx : xs[k]? = some x) (hid : x.id = id) (hb : ∀ y ∈ xs.take k, y.id ≠ id) : rankOf xs id = k ∧ indexOf xs id = live (xs.take k) := by
  have e : xs = xs.take k ++ x :: xs.drop (k + 1) := by
    have hl : k < xs.length := (List.getElem?_eq_some_iff.1 hx).1
    rw [List.getElem?_eq_getElem hl] at hx
    simp only [Option.some.injEq] at hx
    rw [← hx]; simp
  have hl : k < xs.length := (List.getElem?_eq_some_iff.1 hx).1
  have := findE_at (id := id) (pre := xs.take k) (x := x) (post := xs.drop (k + 1)) hb hid
  rw [← e] at this
  simp only [rankOf, indexOf, this, List.length_take]
  exact ⟨by omega, trivial⟩
theorem rank_spec {xs : List ElV} {id : IdV} (h : 0 ≤ rankOf xs id) : ∃ k x, rankOf xs id = (k : Nat) ∧ xs[k]? = some x ∧ x.id = id ∧ ∀ y ∈ xs.take k, y.id ≠ id := by
  unfold rankOf at h ⊢
  cases hf : findE id xs with
  | none => rw [hf] at h; simp at h
  | some r =>
    obtain ⟨x, h1, h2, _, h4⟩ := findE_some hf
    exact ⟨r.1, x, rfl, h1, h2, h4⟩
theorem rank_neg {xs : List ElV} {id : IdV} (h : ∀ x ∈ xs, x.id ≠ id) : rankOf xs id = -1 := by simp [rankOf, findE_none h]
theorem rank_neg' {xs : List ElV} {id : IdV} (h : rankOf xs id < 0) : ∀ x ∈ xs, x.id ≠ id := fun x hx e => by
  have := rank_nonneg.2 ⟨x, hx, e⟩; omega

/-- a sequence that Inserts have made: Ids unlike, numbers from one on -/
structure Good (xs : List ElV) : Prop where
  nd : (xs.map (·.id)).Nodup
  num : ∀ x ∈ xs, 1 ≤ x.id.n
theorem Good.nil : Good [] := ⟨by simp, by simp⟩
theorem Good.zero {xs : List ElV} (h : Good xs) : ∀ x ∈ xs, x.id ≠ .zero := fun x hx e => by
  have := h.num x hx; rw [e] at this; simp [IdV.zero] at this

/-- when an Insert is done, and what then -/
structure InsDone (xs : List ElV) (id behind : IdV) (r : Nat) : Prop where
  num : 1 ≤ id.n
  new : ∀ x ∈ xs, x.id ≠ id
  rank : rankOf xs behind + 1 = r
  le : r ≤ xs.length
  some : 0 ≤ rankOf xs behind ∨ behind = .zero
  out : insR xs id behind = (0, insE xs r ⟨id, behind, true⟩)
theorem insR_ok {xs : List ElV} {id behind : IdV} : (insR xs id behind).1 = 0 ↔ 1 ≤ id.n ∧ (∀ x ∈ xs, x.id ≠ id) ∧ (behind = .zero ∨ ∃ x ∈ xs, x.id = behind) := by
  unfold insR
  split
  · simp; intro h; omega
  · rename_i h1
    split
    · rename_i h2
      obtain ⟨x, hx, e⟩ := rank_nonneg.1 h2
      simp
      intro _ h; exact absurd e (h x hx)
    · rename_i h2
      have h2' := rank_neg' (show rankOf xs id < 0 by omega)
      split
      · rename_i h3
        have h3' := rank_neg' h3.1
        simp
        intro _ _
        exact ⟨h3.2, h3'⟩
      · rename_i h3
        simp only [true_iff]
        refine ⟨by omega, h2', ?_⟩
        by_cases hz : behind = .zero
        · exact .inl hz
        · right
          exact rank_nonneg.1 (by
            rcases Int.lt_or_le (rankOf xs behind) 0 with h | h
            · exact absurd ⟨h, hz⟩ h3
            · exact h)
theorem insR_done {xs : List ElV} {id behind : IdV} (h : (insR xs id behind).1 = 0) : ∃ r, InsDone xs id behind r := by
  obtain ⟨h1, h2, h3⟩ := insR_ok.1 h
  have hb : ¬ (rankOf xs behind < 0 ∧ behind ≠ .zero) := by
    rintro ⟨h4, h5⟩
    rcases h3 with h3 | ⟨x, hx, e⟩
    · exact h5 h3
    · exact rank_neg' h4 x hx e
  have hr := rank_rng xs behind
  refine ⟨(rankOf xs behind + 1).toNat, h1, h2, by omega, by omega, ?_, ?_⟩
  · rcases h3 with h3 | h3
    · exact .inr h3
    · exact .inl (rank_nonneg.2 h3)
  · have h6 : ¬ (0 ≤ rankOf xs id) := fun h => by
      obtain ⟨x, hx, e⟩ := rank_nonneg.1 h
      exact h2 x hx e
    unfold insR
    rw [if_neg (by omega), if_neg h6, if_neg hb]
theorem insE_mem {xs : List ElV} {r : Nat} {x y : ElV} : y ∈ insE xs r x ↔ y = x ∨ y ∈ xs := by
  unfold insE
  rw [List.mem_append, List.mem_cons]
  constructor
  · rintro (h | h | h)
    · exact .inr (List.mem_of_mem_take h)
    · exact .inl h
    · exact .inr (List.mem_of_mem_drop h)
  · rintro (h | h)
    · exact .inr (.inl h)
    · rw [← List.take_append_drop r xs, List.mem_append] at h
      rcases h with h | h
      · exact .inl h
      · exact .inr (.inr h)
theorem Good.ins {xs : List ElV} {id behind : IdV} {r : Nat} (h : Good xs) (d : InsDone xs id behind r) : Good (insE xs r ⟨id, behind, true⟩) := by
  refine ⟨?_, fun x hx => ?_⟩
  · have h1 : (xs.take r ++ xs.drop r).map (·.id) = xs.map (·.id) := by rw [List.take_append_drop]
    have hp : ((insE xs r ⟨id, behind, true⟩).map (·.id)).Perm (id :: xs.map (·.id)) := by
      unfold insE
      rw [List.map_append, List.map_cons]
      refine List.perm_middle.trans ?_
      rw [← List.map_append, List.take_append_drop]
    rw [hp.nodup_iff, List.nodup_cons]
    refine ⟨fun hm => ?_, h.nd⟩
    obtain ⟨x, hx, e⟩ := List.mem_map.1 hm
    exact d.new x hx e
  · rcases insE_mem.1 hx with rfl | hx
    · exact d.num
    · exact h.num x hx
theorem insE_at {xs : List ElV} {r : Nat} {x : ElV} (hr : r ≤ xs.length) : (insE xs r x)[r]? = some x ∧ (insE xs r x).take r = xs.take r := by
  unfold insE
  have hl : (xs.take r).length = r := by simp; omega
  constructor
  · rw [List.getElem?_append_right (by omega), hl, Nat.sub_self]; rfl
  · rw [List.take_append_of_le_length (by omega), List.take_take, Nat.min_self]
/-- the new one stands at r, that behind which it was put right ahead of it -/
theorem rank_ins {xs : List ElV} {id behind : IdV} {r : Nat} (h : Good xs) (d : InsDone xs id behind r) :
    rankOf (insE xs r ⟨id, behind, true⟩) id = r ∧ rankOf (insE xs r ⟨id, behind, true⟩) behind = rankOf xs behind ∧ (behind = .zero → r = 0) := by
  obtain ⟨h1, h2⟩ := insE_at (x := ⟨id, behind, true⟩) d.le
  refine ⟨(rank_at h1 rfl (fun y hy => ?_)).1, ?_, ?_⟩
  · rw [h2] at hy; exact d.new y (List.mem_of_mem_take hy)
  · rcases Int.lt_or_le (rankOf xs behind) 0 with hn | hn
    · have hz : behind = .zero := by
        rcases d.some with h' | h'
        · omega
        · exact h'
      have e1 : rankOf xs behind = -1 := by have := rank_rng xs behind; omega
      rw [e1]
      refine rank_neg (fun x hx => ?_)
      rw [hz]
      exact (h.ins d).zero x hx
    · obtain ⟨k, x, e1, e2, e3, e4⟩ := rank_spec hn
      have hk : r = k + 1 := by have := d.rank; omega
      subst hk
      rw [e1]
      refine (rank_at (x := x) ?_ e3 (fun y hy => ?_)).1
      · have : (insE xs (k + 1) ⟨id, behind, true⟩)[k]? = ((insE xs (k + 1) ⟨id, behind, true⟩).take (k + 1))[k]? := by rw [List.getElem?_take, if_pos (by omega)]
        rw [this, h2, List.getElem?_take, if_pos (by omega)]; exact e2
      · have : (insE xs (k + 1) ⟨id, behind, true⟩).take k = xs.take k := by
          have := congrArg (List.take k) h2
          simpa [List.take_take, Nat.min_eq_left (Nat.le_succ k)] using this
        rw [this] at hy; exact e4 y hy
  · intro hz
    have : rankOf xs behind = -1 := rank_neg (fun x hx => by rw [hz]; exact h.zero x hx)
    have := d.rank; omega
/-- all Ids of a sequence -/
theorem idsOf_true (xs : List ElV) : idsOf true xs = xs.map (·.id) := by
  unfold idsOf
  congr 1
  rw [List.filter_eq_self]
  intro x _; simp
theorem ids_ins {xs : List ElV} {r : Nat} {x : ElV} : idsOf true (insE xs r x) = (idsOf true xs).take r ++ x.id :: (idsOf true xs).drop r := by
  rw [idsOf_true, idsOf_true]; simp [insE]

/-- laying a row: what the sequence holds, and what could be put -/
structure LayInv (s : List ElV × List PutV) (T : List IdV) : Prop where
  good : Good s.1
  mem : ∀ id, (∃ x ∈ s.1, x.id = id) ↔ id ∈ T
  n1 : s.1.length = T.length
  n2 : s.2.length = T.length
theorem LayInv.step {s : List ElV × List PutV} {T : List IdV} (h : LayInv s T) (q : PutV) : LayInv (layStep s q) (couldStep T q) ∧ ((insR s.1 q.id q.behind).1 = 0 ↔ couldStep T q = T ++ [q.id]) := by
  have hiff : (insR s.1 q.id q.behind).1 = 0 ↔ (!decide (q.id ∈ T) && (decide (q.behind = .zero) || decide (q.behind ∈ T)) && decide (0 < q.id.n)) = true := by
    rw [insR_ok]
    simp only [Bool.and_eq_true, Bool.not_eq_true', decide_eq_false_iff_not, Bool.or_eq_true, decide_eq_true_eq, ← h.mem]
    constructor
    · rintro ⟨h1, h2, h3⟩
      exact ⟨⟨fun ⟨x, hx, e⟩ => h2 x hx e, h3⟩, by omega⟩
    · rintro ⟨⟨h1, h2⟩, h3⟩
      exact ⟨by omega, fun x hx e => h1 ⟨x, hx, e⟩, h2⟩
  unfold layStep couldStep
  by_cases hok : (insR s.1 q.id q.behind).1 = 0
  · rw [if_pos hok, if_pos (hiff.1 hok)]
    obtain ⟨r, d⟩ := insR_done hok
    refine ⟨⟨?_, ?_, ?_, ?_⟩, by simp [hok]⟩
    · rw [d.out]; exact h.good.ins d
    · intro id
      rw [d.out]
      simp only [insE_mem, List.mem_append, List.mem_singleton]
      constructor
      · rintro ⟨x, rfl | hx, e⟩
        · exact .inr e.symm
        · exact .inl ((h.mem id).1 ⟨x, hx, e⟩)
      · rintro (h' | h')
        · obtain ⟨x, hx, e⟩ := (h.mem id).2 h'
          exact ⟨x, .inr hx, e⟩
        · exact ⟨_, .inl rfl, h'.symm⟩
    · rw [d.out]; simp only [insE_len d.le, List.length_append, List.length_singleton, h.n1]
    · simp [h.n2]
  · rw [if_neg hok, if_neg (fun h' => hok (hiff.2 h'))]
    exact ⟨h, by simp [hok]⟩
theorem lay_inv (l : List PutV) : LayInv (layL l) (couldL l) := by
  suffices ∀ (l : List PutV) s T, LayInv s T → LayInv (l.foldl layStep s) (l.foldl couldStep T) from this l _ _ ⟨Good.nil, by simp, rfl, rfl⟩
  intro l
  induction l with
  | nil => intro s T h; exact h
  | cons q l ih => intro s T h; exact ih _ _ (h.step q).1
theorem lay_could (l : List PutV) : (layL l).2.length = (couldL l).length := (lay_inv l).n2
end Go.Proofs.Ytefkmdejcdhnjaa.S
