/- Seq: Ids, elements and puts as Lean values; their cells; equality; the sequence in memory. -/
import Derived.Test.YtefkmdejcdhnjaaKE
import Derived.Test.YtefkmdejcdhnjaaKR
import Derived.Test.YtefkmdejcdhnjaaRows
import Derived.Lib.Hide
namespace Go.Proofs.Ytefkmdejcdhnjaa.S
open Go Go.RowKit Go.Proofs.Ytefkmdejcdhnjaa.K
set_option maxRecDepth 100000

/-- an Id: 32 bytes and a number -/
structure IdV where
  h : List Int
  n : Int
  len : h.length = 32
  rng : ∀ x ∈ h, (Lit.int .u8 x).wf = true
  nok : (Lit.int .i64 n).wf = true
theorem IdV.ext' {a b : IdV} (h1 : a.h = b.h) (h2 : a.n = b.n) : a = b := by cases a; cases b; simp at h1 h2; subst h1 h2; rfl
instance : DecidableEq IdV := fun a b => if h : a.h = b.h ∧ a.n = b.n then isTrue (IdV.ext' h.1 h.2) else isFalse (fun e => h (by rw [e]; exact ⟨rfl, rfl⟩))
def IdV.zero : IdV := ⟨List.replicate 32 0, 0, by simp, by intro x hx; obtain rfl := List.eq_of_mem_replicate hx; decide, by decide⟩
def idc (x : IdV) : List Value := x.h.map (Value.int .u8) ++ [.int .i64 x.n]
theorem idc_len (x : IdV) : (idc x).length = 33 := by simp [idc, x.len]
def idks : List Kd := List.replicate 32 (.int .u8) ++ [.int .i64]
def idl (x : IdV) : List Lit := x.h.map (Lit.int .u8) ++ [.int .i64 x.n]
theorem idc_leaves (x : IdV) : okLeaves idks (idc x) = some (idl x) := by
  have h1 := okLeaves_ints .u8 x.h x.rng
  rw [x.len] at h1
  exact okLeaves_mk_append h1 (by simp [okLeaves, okLeaf, x.nok])
theorem idc_inj {x y : IdV} (h : idc x = idc y) : x = y := by
  unfold idc at h
  have hl : (x.h.map (Value.int .u8)).length = (y.h.map (Value.int .u8)).length := by simp [x.len, y.len]
  obtain ⟨h1, h2⟩ := List.append_inj h hl
  refine IdV.ext' ?_ (by simpa using h2)
  exact (List.map_inj_right (fun a b h => by simpa using h)).1 h1
theorem idc_one (x : IdV) : ∀ c ∈ idc x, c.oneCell' = true := by
  intro c hc
  rcases List.mem_append.1 hc with hc | hc
  · exact ints_one _ _ c hc
  · simp at hc; subst hc; rfl
theorem id_of_leaves {cs : List Value} {ls : List Lit} (h : okLeaves idks cs = some ls) : ∃ x, idc x = cs := by
  obtain ⟨l1, l2, rfl, h1, h2⟩ := okLeaves_append h
  obtain ⟨hh, ⟨hl, hr⟩, e1⟩ := ints_of_leaves h1
  obtain ⟨nn, ⟨hl2, hr2⟩, e2⟩ := ints_of_leaves (n := 1) h2
  match nn, hl2 with
  | [n], _ =>
    refine ⟨⟨hh, n, hl, hr, hr2 n (by simp)⟩, ?_⟩
    simp only [idc]
    rw [e1]
    have : [Value.int .i64 n] = cs.drop 32 := by simpa using e2
    rw [this]
    simp
theorem flatId : Flat Try.prog 34 idks := ⟨by kernel_rfl, by kernel_rfl, by kernel_rfl, of_decide_eq_true (by kernel_rfl)⟩
theorem guardId : Try.prog.eqGuardType Try.prog.depth 34 = false := by kernel_rfl
theorem aggId : IsAgg Try.prog 34 33 := ⟨by kernel_rfl, by kernel_rfl⟩
theorem tyId : FlatTy Try.prog 34 IdV idc 33 (fun _ => True) :=
  ⟨⟨idks, by kernel_rfl, fun cs ls h => by obtain ⟨x, hx⟩ := id_of_leaves h; exact ⟨x, trivial, hx⟩⟩, by kernel_rfl, by decide, idc_len⟩

/-- an element of a sequence -/
structure ElV where
  id : IdV
  behind : IdV
  shown : Bool
  deriving DecidableEq
def elc (x : ElV) : List Value := idc x.id ++ (idc x.behind ++ [.bool x.shown])
theorem elc_len (x : ElV) : (elc x).length = 67 := by simp [elc, idc_len]
theorem elc_one (x : ElV) : ∀ c ∈ elc x, c.oneCell' = true := by
  intro c hc
  simp only [elc, List.mem_append, List.mem_singleton] at hc
  rcases hc with hc | hc | rfl
  · exact idc_one _ c hc
  · exact idc_one _ c hc
  · rfl
theorem elc_id (x : ElV) {j : Nat} {u : Value} (h : (idc x.id)[j]? = some u) : (elc x)[j]? = some u := by
  rw [elc, List.getElem?_append_left (List.getElem?_eq_some_iff.1 h).1]; exact h
theorem elc_behind (x : ElV) {j : Nat} {u : Value} (h : (idc x.behind)[j]? = some u) : (elc x)[33 + j]? = some u := by
  have := (List.getElem?_eq_some_iff.1 h).1
  rw [elc, List.getElem?_append_right (by rw [idc_len]; omega), idc_len, show 33 + j - 33 = j by omega, List.getElem?_append_left this]; exact h
theorem elc_shown (x : ElV) : (elc x)[66]? = some (.bool x.shown) := by
  rw [elc, List.getElem?_append_right (by rw [idc_len]; omega), idc_len, List.getElem?_append_right (by rw [idc_len]; omega), idc_len]; rfl
theorem aggEl : IsAgg Try.prog 98 67 := ⟨by kernel_rfl, by kernel_rfl⟩
def ElV.zero : ElV := ⟨.zero, .zero, false⟩
def zEl : Value := .agg (elc ElV.zero).toArray
def zId : Value := .agg (idc IdV.zero).toArray
theorem infoEl : (Try.prog.info? 98).map (fun i => (i.zero, i.size, i.bytes)) = some (some zEl, 67, 88) := by kernel_rfl
theorem infoId : (Try.prog.info? 34).map (fun i => (i.zero, i.size, i.bytes)) = some (some zId, 33, 40) := by kernel_rfl
theorem zeroEl : (Try.prog.info? 98).map (·.zero) = some (some zEl) := by kernel_rfl
theorem zeroId : (Try.prog.info? 34).map (·.zero) = some (some zId) := by kernel_rfl
theorem slEl : SlTy Try.prog 89 98 zEl 67 88 := ⟨Try.underlying89, infoEl, by kernel_rfl, by decide, by decide⟩
theorem slId : SlTy Try.prog 28 34 zId 33 40 := ⟨Try.underlying28, infoId, by kernel_rfl, by decide, by decide⟩

/-- the sequence at block p: its slice v holds the elements xs -/
structure Sq (w : World) (p : Nat) (v : Value) (xs : List ElV) : Prop where
  mem : w.heap[p]? = some (.cells #[v] 93 (0, 0))
  own : w.ownsRow 0 98 67 v xs.length (flat elc xs)
  ne : v.ownBlock ≠ some p
  sz : xs.length ≤ 1099511627776
theorem Sq.chg {S : List Nat} {w w' : World} {p : Nat} {v : Value} {xs : List ElV} (h : Sq w p v xs) (hc : Chg S w w') (hp : p ∉ S) (hg : ∀ g, v.ownBlock = some g → g ∉ S) : Sq w' p v xs :=
  ⟨hc.heap h.mem hp, hc.owns h.own hg, h.ne, h.sz⟩
theorem Sq.lt {w : World} {p : Nat} {v : Value} {xs : List ElV} (h : Sq w p v xs) : p < w.heap.size := (Array.getElem?_eq_some_iff.1 h.mem).1
theorem Sq.cell {w : World} {p : Nat} {v : Value} {xs : List ElV} (h : Sq w p v xs) : w.cell? ⟨p, 0, none⟩ = some v ∧ w.frozen? ⟨p, 0, none⟩ = false :=
  ⟨by rw [cell_of_row w p 0 _ _ _ h.mem]; rfl, frozen_of_row w p 0 _ _ h.mem⟩
end Go.Proofs.Ytefkmdejcdhnjaa.S
