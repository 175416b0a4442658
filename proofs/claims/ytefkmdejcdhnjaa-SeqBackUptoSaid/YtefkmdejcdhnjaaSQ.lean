/- Seq: plain laws of a Take that follows an Insert. -/
import Derived.Test.YtefkmdejcdhnjaaSK
import Derived.Test.YtefkmdejcdhnjaaSO
namespace Go.Proofs.Ytefkmdejcdhnjaa.S
open Go Go.RowKit Go.Shelf Go.Proofs.Ytefkmdejcdhnjaa.K

/-- what stands behind an Id stands in the sequence, or is none -/
def BehOk (xs : List ElV) : Prop := ∀ x ∈ xs, x.behind = .zero ∨ ∃ y ∈ xs, y.id = x.behind
theorem InsDone.src {xs : List ElV} {id behind : IdV} {r : Nat} (d : InsDone xs id behind r) : behind = .zero ∨ ∃ y ∈ xs, y.id = behind := by
  rcases d.some with h | h
  · exact .inr (rank_nonneg.1 h)
  · exact .inl h
theorem BehOk.ins {xs : List ElV} {id behind : IdV} {r : Nat} (h : BehOk xs) (d : InsDone xs id behind r) : BehOk (insE xs r ⟨id, behind, true⟩) := by
  intro x hx
  rcases insE_mem.1 hx with rfl | hx
  · exact d.src.imp_right fun ⟨y, hy, e⟩ => ⟨y, insE_mem.2 (.inr hy), e⟩
  · exact (h x hx).imp_right fun ⟨y, hy, e⟩ => ⟨y, insE_mem.2 (.inr hy), e⟩
theorem delE_insE {xs : List ElV} {r : Nat} {x : ElV} (hr : r ≤ xs.length) : delE (insE xs r x) r = xs := by
  have h1 : (xs.take r).length = r := by simp; omega
  have h2 : (xs.take r ++ x :: xs.drop r).take r = xs.take r := by rw [List.take_append_of_le_length (by omega), List.take_of_length_le (by omega)]
  have h3 : (xs.take r ++ x :: xs.drop r).drop (r + 1) = xs.drop r := by
    rw [List.drop_append, h1, List.drop_eq_nil_of_le (by omega)]
    have : r + 1 - r = 1 := by omega
    rw [this]; rfl
  unfold delE insE
  rw [h2, h3, List.take_append_drop]
theorem tak_ins {xs : List ElV} {id behind : IdV} {r : Nat} (h : BehOk xs) (d : InsDone xs id behind r) (hk : rankOf (insE xs r ⟨id, behind, true⟩) id = r) :
    takR (insE xs r ⟨id, behind, true⟩) id = (0, xs) := by
  have hz : id ≠ .zero := fun e => by have := d.num; rw [e] at this; simp [IdV.zero] at this
  have hno : ∀ b : IdV, (b = .zero ∨ ∃ y ∈ xs, y.id = b) → b ≠ id := by
    rintro b (rfl | ⟨y, hy, rfl⟩) e
    · exact hz e.symm
    · exact d.new y hy e
  have hany : (insE xs r ⟨id, behind, true⟩).any (fun y => decide (y.behind = id)) = false := by
    rw [Bool.eq_false_iff]
    intro hx
    obtain ⟨y, hy, hyb⟩ := List.any_eq_true.1 hx
    have hyb : y.behind = id := by simpa using hyb
    rcases insE_mem.1 hy with rfl | hy
    · exact hno _ d.src hyb
    · exact hno _ (h y hy) hyb
  unfold takR
  rw [hk, if_neg (by omega), hany]
  simp [delE_insE d.le]
theorem BehOk.step {s : List ElV × List PutV} (h : BehOk s.1) (q : PutV) : BehOk (layStep s q).1 := by
  unfold layStep
  split
  · rename_i h0
    obtain ⟨r, d⟩ := insR_done h0
    rw [d.out]; exact h.ins d
  · exact h
theorem lay_beh (l : List PutV) : BehOk (layL l).1 := by
  have : ∀ (l : List PutV) (s : List ElV × List PutV), BehOk s.1 → BehOk (l.foldl layStep s).1 := by
    intro l
    induction l with
    | nil => intro s h; exact h
    | cons q l ih => intro s h; exact ih _ (h.step q)
  exact this l _ (by intro x hx; cases hx)
end Go.Proofs.Ytefkmdejcdhnjaa.S
