/- Generic laws, part A: keys and equality of flat values (arrays and structs of integers, bools and strings), over any program. -/
import Derived.WalkKit
import Derived.Handy
import Derived.DeepKeys5
namespace Go.Proofs.Ytefkmdejcdhnjaa.K
open Go Go.RowKit

inductive Kd where
  | bool | int (q : IntKind) | str
  deriving DecidableEq

def okLeaf : Kd → Value → Option Lit
  | .bool, .bool b => some (.bool b)
  | .int q, .int q' n => if q' = q ∧ (Lit.int q n).wf = true then some (.int q n) else none
  | .str, .string s => if s.size ≤ maxLen then some (.string s.data.toList) else none
  | _, _ => none

def okLeaves : List Kd → List Value → Option (List Lit)
  | [], [] => some []
  | k :: ks, v :: vs => (okLeaf k v).bind fun l => (okLeaves ks vs).map fun r => l :: r
  | _, _ => none

theorem okLeaves_len : ∀ {ks : List Kd} {cs : List Value} {l : List Lit}, okLeaves ks cs = some l → cs.length = ks.length
  | [], [], _, _ => rfl
  | [], _ :: _, _, h => by simp [okLeaves] at h
  | _ :: _, [], _, h => by simp [okLeaves] at h
  | k :: ks, v :: vs, l, h => by
    simp only [okLeaves, Option.bind_eq_some_iff, Option.map_eq_some_iff] at h
    obtain ⟨_, _, r, hr, _⟩ := h
    simp [okLeaves_len hr]

theorem okLeaves_append : ∀ {k1 k2 : List Kd} {cs : List Value} {l : List Lit}, okLeaves (k1 ++ k2) cs = some l →
    ∃ l1 l2, l = l1 ++ l2 ∧ okLeaves k1 (cs.take k1.length) = some l1 ∧ okLeaves k2 (cs.drop k1.length) = some l2
  | [], k2, cs, l, h => ⟨[], l, rfl, by simp [okLeaves], by simpa using h⟩
  | k :: k1, k2, [], l, h => by simp [okLeaves] at h
  | k :: k1, k2, v :: cs, l, h => by
    simp only [List.cons_append, okLeaves, Option.bind_eq_some_iff, Option.map_eq_some_iff] at h
    obtain ⟨a, ha, r, hr, rfl⟩ := h
    obtain ⟨l1, l2, rfl, h1, h2⟩ := okLeaves_append hr
    refine ⟨a :: l1, l2, rfl, ?_, ?_⟩
    · simp [okLeaves, ha, h1]
    · simpa using h2

theorem okLeaves_mk_append : ∀ {k1 k2 : List Kd} {c1 c2 : List Value} {l1 l2 : List Lit}, okLeaves k1 c1 = some l1 → okLeaves k2 c2 = some l2 → okLeaves (k1 ++ k2) (c1 ++ c2) = some (l1 ++ l2)
  | [], k2, [], c2, l1, l2, h1, h2 => by simp [okLeaves] at h1; subst h1; simpa using h2
  | [], _, _ :: _, _, _, _, h1, _ => by simp [okLeaves] at h1
  | _ :: _, _, [], _, _, _, h1, _ => by simp [okLeaves] at h1
  | k :: k1, k2, v :: c1, c2, l1, l2, h1, h2 => by
    simp only [okLeaves, Option.bind_eq_some_iff, Option.map_eq_some_iff] at h1
    obtain ⟨a, ha, r, hr, rfl⟩ := h1
    simp [okLeaves, ha, okLeaves_mk_append hr h2]

theorem okLeaves_ints (q : IntKind) : ∀ (xs : List Int), (∀ x ∈ xs, (Lit.int q x).wf = true) → okLeaves (List.replicate xs.length (.int q)) (xs.map (Value.int q)) = some (xs.map (Lit.int q))
  | [], _ => rfl
  | x :: xs, h => by
    have h1 := h x (by simp)
    have h2 := okLeaves_ints q xs (fun y hy => h y (by simp [hy]))
    simp [List.replicate_succ, okLeaves, okLeaf, h1, h2]

/-- two lists of cells that fit the same kinds: their literals are one just if they are -/
theorem okLeaf_inj {k : Kd} {x y : Value} {l : Lit} (hx : okLeaf k x = some l) (hy : okLeaf k y = some l) : x = y := by
  cases k <;> cases x <;> simp [okLeaf] at hx <;> cases y <;> simp [okLeaf] at hy
  · obtain rfl := hx; simpa using hy.symm
  · obtain ⟨⟨rfl, _⟩, rfl⟩ := hx; obtain ⟨⟨rfl, _⟩, h⟩ := hy; simpa using h.symm
  · rename_i a b
    obtain ⟨_, rfl⟩ := hx; obtain ⟨_, h⟩ := hy
    have hh : a = b := by
      obtain ⟨⟨a⟩⟩ := a
      obtain ⟨⟨b⟩⟩ := b
      simp at h; rw [h]
    rw [hh]
theorem okLeaves_inj : ∀ {ks : List Kd} {xs ys : List Value} {l : List Lit}, okLeaves ks xs = some l → okLeaves ks ys = some l → xs = ys
  | [], [], [], _, _, _ => rfl
  | [], [], _ :: _, _, _, h => by simp [okLeaves] at h
  | [], _ :: _, _, _, h, _ => by simp [okLeaves] at h
  | _ :: _, [], _, _, h, _ => by simp [okLeaves] at h
  | _ :: _, _ :: _, [], _, _, h => by simp [okLeaves] at h
  | k :: ks, x :: xs, y :: ys, l, hx, hy => by
    simp only [okLeaves, Option.bind_eq_some_iff, Option.map_eq_some_iff] at hx hy
    obtain ⟨a, ha, r, hr, rfl⟩ := hx
    obtain ⟨b, hb, s, hs, e⟩ := hy
    simp only [List.cons.injEq] at e
    obtain ⟨rfl, rfl⟩ := e
    rw [okLeaf_inj ha hb, okLeaves_inj hr hs]

def leavesF (P : Program) : Nat → TypeId → Option (List Kd)
  | 0, _ => none
  | d + 1, t =>
    match P.underlying t with
    | some .bool => if P.cellsOf t = 1 then some [.bool] else none
    | some (.int q) => if P.cellsOf t = 1 then some [.int q] else none
    | some .string => if P.cellsOf t = 1 then some [.str] else none
    | some (.array n e) => (leavesF P d e).bind fun ks => if P.cellsOf t = n * P.cellsOf e then some (List.replicate n ks).flatten else none
    | some (.struct fs) => (fs.toList.mapM fun f => leavesF P d f.type).bind fun kss => if P.runs 0 fs.toList = some (P.cellsOf t) ∧ fs.all (·.name != "_") = true then some kss.flatten else none
    | _ => none

theorem runs_lens {P : Program} (d : Nat) (ih : ∀ t ks, leavesF P d t = some ks → ks.length = P.cellsOf t) : ∀ (fs : List Field) (kss : List (List Kd)) (off tot : Nat),
    (fs.mapM fun f => leavesF P d f.type) = some kss → P.runs off fs = some tot → off + kss.flatten.length = tot
  | [], kss, off, tot, h, hr => by
    simp at h; subst h
    simp only [Program.runs, Option.some.injEq] at hr
    simp [hr]
  | f :: fs, kss, off, tot, h, hr => by
    rw [List.mapM_cons] at h
    simp only [bind, Option.bind_eq_some_iff, pure, Option.some.injEq] at h
    obtain ⟨a, ha, r, hr', rfl⟩ := h
    simp only [Program.runs] at hr
    split at hr
    · have := runs_lens d ih fs r _ tot hr' hr
      have := ih _ _ ha
      simp only [List.flatten_cons, List.length_append]
      omega
    · cases hr

theorem leaves_len {P : Program} : ∀ (d : Nat) (t : TypeId) (ks : List Kd), leavesF P d t = some ks → ks.length = P.cellsOf t
  | 0, _, _, h => by simp [leavesF] at h
  | d + 1, t, ks, h => by
    unfold leavesF at h
    split at h
    · split at h <;> simp_all; subst h; simp
    · split at h <;> simp_all; subst h; simp
    · split at h <;> simp_all; subst h; simp
    · simp only [Option.bind_eq_some_iff] at h
      obtain ⟨ke, he, h⟩ := h
      split at h
      · rename_i hc
        simp only [Option.some.injEq] at h
        subst h
        have := leaves_len d _ _ he
        simp [this, hc]
      · cases h
    · simp only [Option.bind_eq_some_iff] at h
      obtain ⟨kss, hk, h⟩ := h
      split at h
      · rename_i hc
        simp only [Option.some.injEq] at h
        subst h
        have := runs_lens d (fun t ks h => leaves_len d t ks h) _ _ 0 _ hk hc.1
        omega
      · cases h
    · cases h

theorem chunks_lits {f : List Value → Option (List Lit)} {ks : List Kd} {c : Nat} (hc : ks.length = c) (hf : ∀ cs l, okLeaves ks cs = some l → f cs = some l) : ∀ (n : Nat) (cs : List Value) (l : List Lit),
    okLeaves (List.replicate n ks).flatten cs = some l → ∃ ls, ((List.range n).mapM fun i => f ((cs.drop (i * c)).take c)) = some ls ∧ ls.flatten = l
  | 0, cs, l, h => by
    cases cs with
    | nil => simp [okLeaves] at h; subst h; exact ⟨[], rfl, rfl⟩
    | cons a b => simp [okLeaves] at h
  | n + 1, cs, l, h => by
    rw [List.replicate_succ, List.flatten_cons] at h
    obtain ⟨l1, l2, rfl, h1, h2⟩ := okLeaves_append h
    obtain ⟨ls, hls, hfl⟩ := chunks_lits hc hf n _ _ h2
    refine ⟨l1 :: ls, ?_, by simp [hfl]⟩
    rw [List.range_succ_eq_map, List.mapM_cons, List.mapM_map]
    have e : ((fun i => f (List.take c (List.drop (i * c) cs))) ∘ Nat.succ) = fun i => f ((((cs.drop ks.length)).drop (i * c)).take c) := by
      funext i
      simp only [Function.comp]
      rw [List.drop_drop, hc, Nat.succ_mul, Nat.add_comm]
    have h0 : f (List.take c (List.drop (0 * c) cs)) = some l1 := by simpa [hc] using hf _ _ (hc ▸ h1)
    rw [h0]
    simp only [bind, Option.bind_some, pure]
    rw [e, hls]
    rfl

theorem fields_lits {P : Program} {d : Nat} (ih : ∀ t ks, leavesF P d t = some ks → ∀ cs l, okLeaves ks cs = some l → P.keyLits d t cs = some l) : ∀ (fs : List Field) (kss : List (List Kd)) (off tot : Nat) (cs : List Value) (l : List Lit),
    (fs.mapM fun f => leavesF P d f.type) = some kss → P.runs off fs = some tot → okLeaves kss.flatten (cs.drop off) = some l →
    ∃ ls, (fs.mapM fun f => P.keyLits d f.type ((cs.drop f.offset).take (P.cellsOf f.type))) = some ls ∧ ls.flatten = l
  | [], kss, off, tot, cs, l, h, hr, ho => by
    simp at h; subst h
    cases hcs : cs.drop off with
    | nil => rw [hcs] at ho; simp [okLeaves] at ho; subst ho; exact ⟨[], rfl, rfl⟩
    | cons a b => rw [hcs] at ho; simp [okLeaves] at ho
  | f :: fs, kss, off, tot, cs, l, h, hr, ho => by
    rw [List.mapM_cons] at h
    simp only [bind, Option.bind_eq_some_iff, pure, Option.some.injEq] at h
    obtain ⟨a, ha, r, hr', rfl⟩ := h
    simp only [Program.runs] at hr
    split at hr
    · rename_i hoff
      rw [List.flatten_cons] at ho
      obtain ⟨l1, l2, rfl, h1, h2⟩ := okLeaves_append ho
      have hlen := leaves_len d _ _ ha
      rw [List.drop_drop, hlen] at h2
      obtain ⟨ls, hls, hfl⟩ := fields_lits ih fs r _ tot cs l2 hr' hr h2
      refine ⟨l1 :: ls, ?_, by simp [hfl]⟩
      rw [List.mapM_cons, hoff]
      have := ih _ _ ha _ _ h1
      rw [hlen] at this
      rw [this]
      simp only [bind, Option.bind_some, pure]
      rw [hls]
      rfl
    · cases hr

theorem keyLits_of_leaves {P : Program} : ∀ (d : Nat) (t : TypeId) (ks : List Kd), leavesF P d t = some ks → ∀ cs l, okLeaves ks cs = some l → P.keyLits d t cs = some l
  | 0, _, _, h => by simp [leavesF] at h
  | d + 1, t, ks, h => by
    intro cs l ho
    have hlen := okLeaves_len ho
    have hl := leaves_len _ _ _ h
    unfold leavesF at h
    unfold Program.keyLits
    split at h
    · rename_i hu
      split at h <;> simp at h
      subst h
      match cs, hlen with
      | [v], _ => cases v <;> simp [okLeaves, okLeaf] at ho <;> (try split at ho) <;> simp_all
    · rename_i hu
      split at h <;> simp at h
      subst h
      match cs, hlen with
      | [v], _ => cases v <;> simp [okLeaves, okLeaf] at ho <;> (try split at ho) <;> simp_all
    · rename_i hu
      split at h <;> simp at h
      subst h
      match cs, hlen with
      | [v], _ => cases v <;> simp [okLeaves, okLeaf] at ho <;> (try split at ho) <;> simp_all
    · rename_i n e hu
      simp only [Option.bind_eq_some_iff] at h
      obtain ⟨ke, he, h⟩ := h
      split at h
      · rename_i hc
        simp only [Option.some.injEq] at h
        subst h
        obtain ⟨ls, hls, hfl⟩ := chunks_lits (leaves_len d _ _ he) (fun cs l h => keyLits_of_leaves d e ke he cs l h) n cs l ho
        simp only [hu]
        rw [if_pos (by rw [hlen, hl]), hls]
        simp [hfl]
      · cases h
    · rename_i fs hu
      simp only [Option.bind_eq_some_iff] at h
      obtain ⟨kss, hk, h⟩ := h
      split at h
      · rename_i hc
        simp only [Option.some.injEq] at h
        subst h
        obtain ⟨ls, hls, hfl⟩ := fields_lits (fun t ks h cs l ho => keyLits_of_leaves d t ks h cs l ho) fs.toList kss 0 _ cs l hk hc.1 (by simpa using ho)
        simp only [hu]
        rw [if_pos ⟨by rw [hlen, hl], hc.2⟩, hls]
        simp [hfl]
      · cases h
    · cases h

/-- a type whose values are compared cell by cell -/
structure Flat (P : Program) (t : TypeId) (ks : List Kd) : Prop where
  leaves : leavesF P (P.types.size + 1) t = some ks
  key : P.keyType t = true
  wide : (match P.underlying t with | some (.array _ _) | some (.struct _) => true | _ => false) = true
  small : P.types.size + 2 ≤ 10000

theorem Flat.keyOf {P : Program} {t : TypeId} {ks : List Kd} (h : Flat P t ks) {cs : Array Value} {l : List Lit} (ho : okLeaves ks cs.toList = some l) : keyOf P t (.agg cs) = some (.string (keyBytes l)) := by
  have hk := keyLits_of_leaves _ _ _ h.leaves _ _ ho
  have hf : (Value.agg cs).formed P t = true := by
    have hw := h.wide
    have hl := leaves_len _ _ _ h.leaves
    have hlen := okLeaves_len ho
    have : cs.size = P.cellsOf t := by rw [← hl, ← hlen]; simp
    unfold Value.formed
    split at hw <;> simp_all
  have hw := h.wide
  unfold Go.keyOf
  split at hw
  · rename_i hu
    rw [hu]; simp only
    rw [if_pos (by simp [h.key, hf])]
    simp only [Value.cells, hk, Option.map_some]
  · rename_i hu
    rw [hu]; simp only
    rw [if_pos (by simp [h.key, hf])]
    simp only [Value.cells, hk, Option.map_some]
  · cases hw

theorem Flat.equal {P : Program} {t : TypeId} {ks : List Kd} (h : Flat P t ks) (w : World) {xs ys : Array Value} {lx ly : List Lit} (hx : okLeaves ks xs.toList = some lx) (hy : okLeaves ks ys.toList = some ly)
    {b : Bool} (hb : b = true ↔ xs = ys) : (Op.equal t (.agg xs) (.agg ys)).run P w = .ok b w := by
  obtain ⟨r, hr, hiff⟩ := run_equal_deep (P := P) w (m := P.types.size + 1) (by have := h.small; omega) h.key h.wide (h.keyOf hx) (h.keyOf hy)
  rw [hr]
  have hk1 := keyLits_of_leaves _ _ _ h.leaves _ _ hx
  have hk2 := keyLits_of_leaves _ _ _ h.leaves _ _ hy
  have : r = b := by
    rw [Bool.eq_iff_iff, hiff, hb]
    constructor
    · intro e
      have e' := keyLits_inj hk1 hk2 (by simpa using e)
      subst e'
      have := okLeaves_inj hx hy
      cases xs; cases ys; simp_all
    · intro e
      rw [e] at hx
      rw [hx] at hy
      simp at hy; rw [hy]
  rw [this]
#print axioms Flat.equal
end Go.Proofs.Ytefkmdejcdhnjaa.K
