/- Generic laws, part C: a map known by its keys and values, over any program; single steps of a region that draws its order. -/
import Derived.Test.YtefkmdejcdhnjaaKB
import Derived.RegionTactic
import Derived.OrdersHeld
namespace Go.Proofs.Ytefkmdejcdhnjaa.K
open Go Go.RowKit
variable {P : Program}

structure MapAt (P : Program) (K : TypeId) (w : World) (r : Nat) (kvs : List (Value × Value)) : Prop where
  mem : ∃ es clock, w.heap[r]? = some (.map es clock) ∧ es.toList.map (fun e => (e.key, e.val)) = kvs ∧ (es.toList.map (·.born)).Nodup ∧ ∀ e ∈ es.toList, e.born < clock
  keys : ∀ kv ∈ kvs, ∃ l, keyOf P K kv.1 = some l
  nodup : (kvs.map Prod.fst).Nodup

def Stamp (w : World) (r j born : Nat) : Prop := ∃ es clock e, w.heap[r]? = some (.map es clock) ∧ es[j]? = some e ∧ e.born = born

theorem MapAt.chg {K r : Nat} {S : List Nat} {w w' : World} {kvs : List (Value × Value)} (h : MapAt P K w r kvs) (hc : Chg S w w') (hn : r ∉ S) : MapAt P K w' r kvs := by
  obtain ⟨es, clock, h1, h2⟩ := h.mem
  exact { h with mem := ⟨es, clock, hc.heap h1 hn, h2⟩ }
theorem MapAt.lt {K r : Nat} {w : World} {kvs : List (Value × Value)} (h : MapAt P K w r kvs) : r < w.heap.size := by
  obtain ⟨es, clock, h1, h2⟩ := h.mem
  exact (Array.getElem?_eq_some_iff.1 h1).1
theorem MapAt.made (K : TypeId) (w : World) : MapAt P K (w.alloc (.map #[] 0)) w.heap.size [] :=
  ⟨⟨#[], 0, heap_new _ _, rfl, by simp, by simp⟩, by simp, by simp⟩

theorem getObj_run {w : World} {r : Nat} {es : Array MapEntry} {clock : Nat} (h : w.heap[r]? = some (.map es clock)) : (getObj r).run P w = .ok (.map es clock) w := by
  simp only [getObj, Sem.run, h]
theorem setObj_run {w : World} {r : Nat} {es : Array MapEntry} {clock : Nat} (h : w.heap[r]? = some (.map es clock)) (o : Obj) : (setObj r o).run P w = .ok () { w with heap := w.heap.setIfInBounds r o } := by
  simp only [setObj, Sem.run, h]
theorem setObj_chg {w : World} {r : Nat} (o : Obj) : Chg [r] w { w with heap := w.heap.setIfInBounds r o } :=
  ⟨rfl, rfl, rfl, by simp, fun k hk hn => by
    simp only [List.mem_singleton] at hn
    rw [Array.getElem?_setIfInBounds, if_neg (Ne.symm hn)]⟩
theorem setObj_heap {w : World} {r : Nat} (h : r < w.heap.size) (o : Obj) : ({ w with heap := w.heap.setIfInBounds r o } : World).heap[r]? = some o := by
  simp [h]

section
variable {K E T : TypeId} {w : World} {r : Nat} {kvs : List (Value × Value)} {key : Value} {l : Lit}

theorem MapAt.find_no (law : WideMaps.KeyLaw P K) (hk : keyOf P K key = some l) {es : Array MapEntry} (he : es.toList.map (fun e => (e.key, e.val)) = kvs) (keys : ∀ kv ∈ kvs, ∃ l, keyOf P K kv.1 = some l) (hno : key ∉ kvs.map Prod.fst) (w : World) :
    (Instr.findKey K key es.toList).run P w = .ok none w := by
  rcases law.find w hk es.toList (fun e hm => keys (e.key, e.val) (by rw [← he]; exact List.mem_map_of_mem hm)) with ⟨h, _⟩ | ⟨j, e, _, h2, h3⟩
  · exact h
  · refine absurd ?_ hno
    rw [← he, List.map_map]
    exact List.mem_map.2 ⟨e, List.mem_of_getElem? h2, h3⟩

theorem MapAt.find_yes (law : WideMaps.KeyLaw P K) (hk : keyOf P K key = some l) {es : Array MapEntry} (he : es.toList.map (fun e => (e.key, e.val)) = kvs) (keys : ∀ kv ∈ kvs, ∃ l, keyOf P K kv.1 = some l) (nd : (kvs.map Prod.fst).Nodup) {j : Nat} {v : Value} (hj : kvs[j]? = some (key, v)) (w : World) :
    (Instr.findKey K key es.toList).run P w = .ok (some (j, v)) w := by
  rcases law.find w hk es.toList (fun e hm => keys (e.key, e.val) (by rw [← he]; exact List.mem_map_of_mem hm)) with ⟨_, h⟩ | ⟨i, e, h1, h2, h3⟩
  · have hm := List.mem_of_getElem? hj
    rw [← he] at hm
    obtain ⟨e, hm, he'⟩ := List.mem_map.1 hm
    simp only [Prod.mk.injEq] at he'
    exact absurd he'.1 (h e hm)
  · have hi : kvs[i]? = some (e.key, e.val) := by rw [← he, List.getElem?_map, h2]; rfl
    have e1 : (kvs.map Prod.fst)[i]? = some key := by rw [List.getElem?_map, hi]; simp [h3]
    have e2 : (kvs.map Prod.fst)[j]? = some key := by rw [List.getElem?_map, hj]; rfl
    have hij : i = j := by
      have hl : i < (kvs.map Prod.fst).length := (List.getElem?_eq_some_iff.1 e1).1
      exact (List.getElem?_inj hl nd).1 (e1.trans e2.symm)
    subst hij
    rw [hi] at hj
    simp only [Option.some.injEq, Prod.mk.injEq] at hj
    rw [h1, hj.2]

theorem MapAt.lookup_no (law : WideMaps.KeyLaw P K) (h : MapAt P K w r kvs) (hT : P.underlying T = some (.map K E)) {z : Value} (hz : ∀ w, (zeroValue E).run P w = .ok z w) (hk : keyOf P K key = some l) (hno : key ∉ kvs.map Prod.fst) :
    (Instr.lookup T (.map (some r)) key false).run P w = .ok z w := by
  obtain ⟨es, clock, h1, h2, _⟩ := h.mem
  have hf := MapAt.find_no law hk h2 h.keys hno w
  have hc := law.check w es.isEmpty hk
  simp only [Instr.lookup, Sem.run_bind, run_underlying hT, Result.andThen_ok, getObj_run h1, Sem.run_pure, hc, hf, hz, Bool.false_eq_true, if_false]
theorem MapAt.lookup_yes (law : WideMaps.KeyLaw P K) (h : MapAt P K w r kvs) (hT : P.underlying T = some (.map K E)) (hk : keyOf P K key = some l) {j : Nat} {v : Value} (hj : kvs[j]? = some (key, v)) :
    (Instr.lookup T (.map (some r)) key false).run P w = .ok v w := by
  obtain ⟨es, clock, h1, h2, _⟩ := h.mem
  have hf := MapAt.find_yes law hk h2 h.keys h.nodup hj w
  have hc := law.check w es.isEmpty hk
  simp only [Instr.lookup, Sem.run_bind, run_underlying hT, Result.andThen_ok, getObj_run h1, Sem.run_pure, hc, hf, Bool.false_eq_true, if_false]

theorem MapAt.lookupOk_no (law : WideMaps.KeyLaw P K) (h : MapAt P K w r kvs) (hT : P.underlying T = some (.map K E)) {z : Value} (hz : ∀ w, (zeroValue E).run P w = .ok z w) (hk : keyOf P K key = some l) (hno : key ∉ kvs.map Prod.fst) :
    (Instr.lookup T (.map (some r)) key true).run P w = .ok (.tuple #[z, .bool false]) w := by
  obtain ⟨es, clock, h1, h2, _⟩ := h.mem
  have hf := MapAt.find_no law hk h2 h.keys hno w
  have hc := law.check w es.isEmpty hk
  simp only [Instr.lookup, Sem.run_bind, run_underlying hT, Result.andThen_ok, getObj_run h1, Sem.run_pure, hc, hf, hz, if_true]
theorem MapAt.lookupOk_yes (law : WideMaps.KeyLaw P K) (h : MapAt P K w r kvs) (hT : P.underlying T = some (.map K E)) (hk : keyOf P K key = some l) {j : Nat} {v : Value} (hj : kvs[j]? = some (key, v)) :
    (Instr.lookup T (.map (some r)) key true).run P w = .ok (.tuple #[v, .bool true]) w := by
  obtain ⟨es, clock, h1, h2, _⟩ := h.mem
  have hf := MapAt.find_yes law hk h2 h.keys h.nodup hj w
  have hc := law.check w es.isEmpty hk
  simp only [Instr.lookup, Sem.run_bind, run_underlying hT, Result.andThen_ok, getObj_run h1, Sem.run_pure, hc, hf, if_true]

theorem born_lt_of_mem {es : Array MapEntry} {clock : Nat} (h : ∀ e ∈ es.toList, e.born < clock) : clock ∉ es.toList.map (·.born) := by
  intro hm
  obtain ⟨e, he, hb⟩ := List.mem_map.1 hm
  have := h e he
  omega

theorem MapAt.entry_no (law : WideMaps.KeyLaw P K) (h : MapAt P K w r kvs) (hT : P.underlying T = some (.map K E)) {z : Value} (hz : ∀ w, (zeroValue E).run P w = .ok z w) (hk : keyOf P K key = some l) (hno : key ∉ kvs.map Prod.fst) :
    ∃ (born : Nat) (w' : World), (Instr.mapEntry T (.map (some r)) key).run P w = .ok (.tuple #[z, .int .i64 born]) w' ∧ MapAt P K w' r (kvs ++ [(key, z)]) ∧ Stamp w' r kvs.length born ∧ Chg [r] w w' := by
  obtain ⟨es, clock, h1, h2, h3, h4⟩ := h.mem
  have hf := MapAt.find_no law hk h2 h.keys hno w
  have hc := law.check w false hk
  have hlt := h.lt
  have hlen : kvs.length = es.size := by rw [← h2]; simp
  refine ⟨clock, _, ?_, ?_, ?_, setObj_chg (.map (es.push { key, val := z, born := clock }) (clock + 1))⟩
  · simp only [Instr.mapEntry, Sem.run_bind, run_underlying hT, Result.andThen_ok, getObj_run h1, Sem.run_pure, hc, hf, hz, setObj_run h1, goInt]
  · refine ⟨⟨_, _, setObj_heap hlt _, by simp [h2], ?_, ?_⟩, ?_, ?_⟩
    · simp only [Array.toList_push, List.map_append, List.map_cons, List.map_nil]
      rw [List.nodup_append]
      refine ⟨h3, by simp, ?_⟩
      intro a ha b hb e
      simp only [List.mem_singleton] at hb
      subst hb; subst e
      exact born_lt_of_mem h4 ha
    · intro e he
      simp only [Array.toList_push, List.mem_append, List.mem_singleton] at he
      rcases he with he | rfl
      · have := h4 e he; omega
      · simp
    · intro kv hkv
      rcases List.mem_append.1 hkv with hkv | hkv
      · exact h.keys kv hkv
      · simp only [List.mem_singleton] at hkv; subst hkv; exact ⟨l, hk⟩
    · rw [List.map_append, List.nodup_append]
      refine ⟨h.nodup, by simp, ?_⟩
      intro a ha b hb e
      simp only [List.map_cons, List.map_nil, List.mem_singleton] at hb
      subst hb; subst e
      exact hno ha
  · exact ⟨_, _, { key, val := z, born := clock }, setObj_heap hlt _, by rw [hlen]; simp, rfl⟩

theorem modify_same {es : Array MapEntry} {j : Nat} {e : MapEntry} (he : es[j]? = some e) : (es.modify j fun x => { x with key := e.key }) = es := by
  apply Array.ext_getElem?
  intro i
  rw [Array.getElem?_modify]
  split
  · rename_i hij; subst hij; rw [he]; rfl
  · rfl

theorem MapAt.entry_yes (law : WideMaps.KeyLaw P K) (h : MapAt P K w r kvs) (hT : P.underlying T = some (.map K E)) (hk : keyOf P K key = some l) {j : Nat} {v : Value} (hj : kvs[j]? = some (key, v)) :
    ∃ (born : Nat) (w' : World), (Instr.mapEntry T (.map (some r)) key).run P w = .ok (.tuple #[v, .int .i64 born]) w' ∧ MapAt P K w' r kvs ∧ Stamp w' r j born ∧ Chg [r] w w' := by
  obtain ⟨es, clock, h1, h2, h3, h4⟩ := h.mem
  have hf := MapAt.find_yes law hk h2 h.keys h.nodup hj w
  have hc := law.check w false hk
  have hlt := h.lt
  obtain ⟨e, he, hek⟩ : ∃ e, es[j]? = some e ∧ (e.key, e.val) = (key, v) := by
    rw [← h2, List.getElem?_map, Option.map_eq_some_iff] at hj
    obtain ⟨e, he, hh⟩ := hj
    exact ⟨e, by simpa using he, hh⟩
  simp only [Prod.mk.injEq] at hek
  obtain ⟨rfl, rfl⟩ := hek
  have hs := law.stays w hk
  refine ⟨e.born, _, ?_, ?_, ?_, setObj_chg (.map es clock)⟩
  · simp only [Instr.mapEntry, Sem.run_bind, run_underlying hT, Result.andThen_ok, getObj_run h1, Sem.run_pure, hc, hf, setObj_run h1, goInt, he, Option.map_some, Option.getD_some, hs, modify_same he]
  · exact { h with mem := ⟨es, clock, setObj_heap hlt _, h2, h3, h4⟩ }
  · exact ⟨es, clock, e, setObj_heap hlt _, he, rfl⟩

theorem set_self {α : Type} {l : List α} {j : Nat} {x : α} (h : l[j]? = some x) : l.set j x = l := by
  apply List.ext_getElem?
  intro i
  rw [List.getElem?_set]
  split
  · rename_i hij; subst hij
    have hl : j < l.length := (List.getElem?_eq_some_iff.1 h).1
    rw [if_pos hl, h]
  · rfl

theorem findIdx_born {es : List MapEntry} {j : Nat} {e : MapEntry} (nd : (es.map (·.born)).Nodup) (he : es[j]? = some e) : es.findIdx? (fun x => (x.born : Int) == (e.born : Int)) = some j := by
  rw [List.findIdx?_eq_some_iff_getElem]
  obtain ⟨hj, rfl⟩ := List.getElem?_eq_some_iff.1 he
  refine ⟨hj, by simp, ?_⟩
  intro i hi hb
  have hbb : es[i].born = es[j].born := by
    have := beq_iff_eq.1 hb; omega
  have hl : i < (es.map (·.born)).length := by simp; omega
  have := (List.getElem?_inj (i := i) (j := j) hl nd).1 (by simp [hj, show i < es.length by omega, hbb])
  omega

theorem MapAt.store (h : MapAt P K w r kvs) {j born : Nat} (hs : Stamp w r j born) {k v : Value} (hj : kvs[j]? = some (k, v)) (val : Value) (T : TypeId) :
    ∃ w', (Instr.entryStore T (.map (some r)) (.int .i64 born) val).run P w = .ok () w' ∧ MapAt P K w' r (kvs.set j (k, val)) ∧ Chg [r] w w' := by
  obtain ⟨es, clock, h1, h2, h3, h4⟩ := h.mem
  obtain ⟨es', clock', e, h1', he, rfl⟩ := hs
  rw [h1] at h1'
  simp only [Option.some.injEq, Obj.map.injEq] at h1'
  obtain ⟨rfl, rfl⟩ := h1'
  have hlt := h.lt
  have hi : es.findIdx? (fun x => (x.born : Int) == (e.born : Int)) = some j := by
    have := findIdx_born (es := es.toList) (j := j) (e := e) h3 (by simpa using he)
    rw [← this, ← List.findIdx?_toArray]
  have hk : e.key = k := by
    rw [← h2, List.getElem?_map] at hj
    have he' : es.toList[j]? = some e := by simpa using he
    rw [he'] at hj
    simp at hj; exact hj.1
  refine ⟨_, ?_, ?_, setObj_chg (.map (es.modify j fun x => { x with val := val }) clock)⟩
  · simp only [Instr.entryStore, Sem.run_bind, Result.andThen_ok, getObj_run h1, Sem.run_pure, asInt, asIntOf, hi, setObj_run h1]
  · have hmod : (es.modify j fun x => { x with val := val }).toList = es.toList.set j { e with val := val } := by
      apply List.ext_getElem?
      intro i
      have := Array.getElem?_modify (xs := es) (i := j) (j := i) (f := fun x => { x with val := val })
      rw [Array.getElem?_toList, this, List.getElem?_set]
      by_cases hij : j = i
      · subst hij
        have hlj : j < es.size := (Array.getElem?_eq_some_iff.1 he).1
        rw [if_pos rfl, he]
        simp [hlj]
      · simp [hij]
    have e2 : ((es.toList.set j { e with val := val }).map fun e => (e.key, e.val)) = kvs.set j (k, val) := by
      rw [List.map_set, h2]; simp [hk]
    refine ⟨⟨_, _, setObj_heap hlt _, by rw [hmod, e2], ?_, ?_⟩, ?_, ?_⟩
    · rw [hmod, List.map_set]
      have : (es.toList.map (·.born)).set j e.born = es.toList.map (·.born) := set_self (by rw [List.getElem?_map, show es.toList[j]? = some e by simpa using he]; rfl)
      rw [this]; exact h3
    · intro x hx
      rw [hmod] at hx
      rcases List.mem_or_eq_of_mem_set hx with hx | rfl
      · exact h4 x hx
      · exact h4 e (List.mem_of_getElem? (i := j) (by simpa using he))
    · intro kv hkv
      rcases List.mem_or_eq_of_mem_set hkv with hkv | rfl
      · exact h.keys kv hkv
      · exact h.keys (k, v) (List.mem_of_getElem? hj)
    · rw [List.map_set]
      have : (kvs.map Prod.fst).set j k = kvs.map Prod.fst := set_self (by rw [List.getElem?_map, hj]; rfl)
      rw [this]; exact h.nodup

theorem MapAt.len (h : MapAt P K w r kvs) (hT : P.underlying T = some (.map K E)) (ty : TypeId) : (Builtin.len_ #[T] ty #[.map (some r)]).run P w = .ok (.int .i64 kvs.length) w := by
  obtain ⟨es, clock, h1, h2, h3, h4⟩ := h.mem
  have hlen : kvs.length = es.size := by rw [← h2]; simp
  simp [Builtin.len_, run_underlying hT, getObj_run h1, goInt, hlen]
end

theorem MapAt.incr {K E T : TypeId} {w : World} {r : Nat} {kvs : List (Value × Value)} {key : Value} {l : Lit} {kd : IntKind} (law : WideMaps.KeyLaw P K) (h : MapAt P K w r kvs) (hT : P.underlying T = some (.map K E)) (hz : ∀ w, (zeroValue E).run P w = .ok (.int kd 0) w)
    (hk : keyOf P K key = some l) (hval : ∀ kv ∈ kvs, ∃ v, kv.2 = .int kd v) :
    ∃ (v0 : Int) (born : Nat) (w2 w3 : World) (kvs3 : List (Value × Value)), (Instr.lookup T (.map (some r)) key false).run P w = .ok (.int kd v0) w ∧ (Instr.mapEntry T (.map (some r)) key).run P w = .ok (.tuple #[.int kd v0, .int .i64 born]) w2 ∧
      (Instr.lookup T (.map (some r)) key false).run P w2 = .ok (.int kd v0) w2 ∧ (Instr.entryStore T (.map (some r)) (.int .i64 born) (.int kd (kd.wrap (v0 + 1)))).run P w2 = .ok () w3 ∧
      MapAt P K w3 r kvs3 ∧ (key ∈ kvs.map Prod.fst → kvs3.map Prod.fst = kvs.map Prod.fst) ∧ (key ∉ kvs.map Prod.fst → kvs3.map Prod.fst = kvs.map Prod.fst ++ [key]) ∧ (∀ kv ∈ kvs3, ∃ v, kv.2 = .int kd v) ∧ Chg [r] w w3 := by
  by_cases hm : key ∈ kvs.map Prod.fst
  · obtain ⟨kv, hkv, rfl⟩ := List.mem_map.1 hm
    obtain ⟨v0, hv0⟩ := hval kv hkv
    obtain ⟨j, hj⟩ := List.getElem?_of_mem hkv
    obtain ⟨key, val⟩ := kv
    simp only at hv0 hk hm ⊢
    subst hv0
    obtain ⟨born, w2, he, M2, hs, hc2⟩ := h.entry_yes law hT hk hj
    obtain ⟨w3, hst, M3, hc3⟩ := M2.store hs hj (.int kd (kd.wrap (v0 + 1))) T
    refine ⟨v0, born, w2, w3, _, h.lookup_yes law hT hk hj, he, M2.lookup_yes law hT hk hj, hst, M3, fun _ => ?_, fun hno => absurd hm hno, ?_, hc2.trans hc3⟩
    · rw [List.map_set]; exact set_self (by rw [List.getElem?_map, hj]; rfl)
    · intro kv hkv
      rcases List.mem_or_eq_of_mem_set hkv with hkv | rfl
      · exact hval kv hkv
      · exact ⟨_, rfl⟩
  · obtain ⟨born, w2, he, M2, hs, hc2⟩ := h.entry_no law hT hz hk hm
    have hj : (kvs ++ [(key, Value.int kd 0)])[kvs.length]? = some (key, .int kd 0) := by simp
    obtain ⟨w3, hst, M3, hc3⟩ := M2.store hs hj (.int kd (kd.wrap (0 + 1))) T
    refine ⟨0, born, w2, w3, _, h.lookup_no law hT hz hk hm, he, M2.lookup_yes law hT hk hj, hst, M3, fun hy => absurd hy hm, fun _ => ?_, ?_, hc2.trans hc3⟩
    · rw [List.map_set, List.map_append]; exact set_self (by simp)
    · intro kv hkv
      rcases List.mem_or_eq_of_mem_set hkv with hkv | rfl
      · rcases List.mem_append.1 hkv with hkv | hkv
        · exact hval kv hkv
        · simp only [List.mem_singleton] at hkv; subst hkv; exact ⟨0, rfl⟩
      · exact ⟨_, rfl⟩

section
variable {ops : Array Oper} {Q : Exit → Act → World → Prop} {md : Region.Mode} {fuel : Nat} {listed : Array Bool} {a : Act} {w : World}

theorem any_val {i : Nat} {o : Oper} {v : Value} {w' : World} {K : Act → World → Prop} (d : Tmp) (ho : ops[i]? = some o) (hg : o.guard = none) (hd : o.dst = some d) (hr : (execOp a.eval o).run P w = .ok (.value v) w') (h : K (a.put (some d) v) w') : wpOp P ops Q i K a w := by
  unfold Go.wpOp
  simp only [ho, Region.wanted, hg, if_true, Oper.wp, hr, Oper.upon, hd]
  exact .inl h
theorem any_skip {i : Nat} {o : Oper} {w' : World} {K : Act → World → Prop} (ho : ops[i]? = some o) (hg : o.guard = none) (hd : o.dst = none) (hr : (execOp a.eval o).run P w = .ok .skip w') (h : K a w') : wpOp P ops Q i K a w := by
  unfold Go.wpOp
  simp only [ho, Region.wanted, hg, if_true, Oper.wp, hr, Oper.upon, hd, Act.put]
  exact .inl h
theorem any_take {i : Nat} {oi : Oper} {v : Value} {fuel : Nat} {listed : Array Bool} {a : Act} {w : World} (d : Tmp) (hi : ops[i]? = some oi) (hd : oi.dst = some d)
    (hs : Region.noSelect ops = true) (hf : Region.free md ops listed i = true) (hr : (Region.ready md ops listed).contains i = true)
    (hQ : ∀ c a w, Q (.panic c) (a.put (some d) v) w → Q (.panic c) a w) (hg : oi.guard = none) (hy : ∀ w, (execOp a.eval oi).run P w = .ok (.value v) w)
    (h : wpAny P md ops Q fuel (listed.setIfInBounds i true) (a.put (some d) v) w) : wpAny P md ops Q (fuel + 1) listed a w :=
  wpAny_take hi hs hf hr (by rw [hd]; exact hQ) (.inl ⟨by simp [Region.wanted, hg], hy⟩) (by rw [hd]; exact h)
section
variable {ρ : Operand → Value} {dst : Option Tmp} {tt : TypeId} {pos : String} {after : Array Edge} {g : Option (Nat × Bool)}
theorem ex_load {T : TypeId} {x : Operand} {b o : Nat} {v : Value} (hx : ρ x = .pointer (some ⟨b, o, none⟩)) (h : (loadVar T ⟨b, o, none⟩).run P w = .ok v w) : (execOp ρ ⟨dst, .load T x, tt, pos, after, g⟩).run P w = .ok (.value v) w := by
  simp only [execOp, hx, Instr.loadAt, Instr.sureAddr, Sem.run_bind, Sem.run_pure, Result.andThen_ok, h]
theorem ex_lookup {T : TypeId} {m k : Operand} {ok : Bool} {v : Value} {w' : World} (h : (Instr.lookup T (ρ m) (ρ k) ok).run P w = .ok v w') : (execOp ρ ⟨dst, .lookup T m k ok, tt, pos, after, g⟩).run P w = .ok (.value v) w' := by
  simp only [execOp, Sem.run_bind, h, Sem.run_pure, Result.andThen_ok]
theorem ex_entry {T : TypeId} {m k : Operand} {v : Value} {w' : World} (h : (Instr.mapEntry T (ρ m) (ρ k)).run P w = .ok v w') : (execOp ρ ⟨dst, .mapEntry T m k, tt, pos, after, g⟩).run P w = .ok (.value v) w' := by
  simp only [execOp, Sem.run_bind, h, Sem.run_pure, Result.andThen_ok]
theorem ex_entryStore {T : TypeId} {m k x : Operand} {w' : World} (h : (Instr.entryStore T (ρ m) (ρ k) (ρ x)).run P w = .ok () w') : (execOp ρ ⟨dst, .entryStore T m k x, tt, pos, after, g⟩).run P w = .ok .skip w' := by
  simp only [execOp, Sem.run_bind, h, Sem.run_pure, Result.andThen_ok]
theorem ex_addInt {T T' : TypeId} {x y : Operand} {k : IntKind} {m n : Int} (hx : ρ x = .int k m) (hy : ρ y = .int k n) : (execOp ρ ⟨dst, .binOp .add T x y T', tt, pos, after, g⟩).run P w = .ok (.value (.int k (k.wrap (m + n)))) w := by
  simp [execOp, hx, hy, eqGuard, binOp, Op.intArith]
theorem ex_extract {x : Operand} {ix : Nat} {vs : Array Value} {v : Value} (hx : ρ x = .tuple vs) (hv : vs[ix]? = some v) : (execOp ρ ⟨dst, .extract x ix, tt, pos, after, g⟩).run P w = .ok (.value v) w := by
  simp [execOp, hx, Instr.extract, hv]
end
theorem any_one {i : Nat} (hr : Region.ready md ops listed = [i]) (h : wpOp P ops Q i (wpAny P md ops Q fuel (listed.setIfInBounds i true)) a w) : wpAny P md ops Q (fuel + 1) listed a w :=
  wpAny_all hr (by simp) (fun j hj => by simp only [List.mem_singleton] at hj; subst hj; exact h)
theorem any_two {i j : Nat} (hr : Region.ready md ops listed = [i, j]) (h : wpOp P ops Q i (wpAny P md ops Q fuel (listed.setIfInBounds i true)) a w) (h' : wpOp P ops Q j (wpAny P md ops Q fuel (listed.setIfInBounds j true)) a w) : wpAny P md ops Q (fuel + 1) listed a w :=
  wpAny_all hr (by simp) (fun k hk => by
    rcases List.mem_cons.1 hk with rfl | hk
    · exact h
    · simp only [List.mem_singleton] at hk; subst hk; exact h')
end
section
variable {ops : Array Oper} {Q : Exit → Act → World → Prop} {md : Region.Mode} {S : World → Prop}
/-- a step of a held region: taken first -/
theorem held_take {i : Nat} {oi : Oper} {v : Value} {fuel : Nat} {listed : Array Bool} {a : Act} {w : World} (d : Tmp) (hi : ops[i]? = some oi) (hd : oi.dst = some d)
    (hs : Region.noSelect ops = true) (hf : Region.free md ops listed i = true) (hr : (Region.ready md ops listed).contains i = true)
    (hQ : ∀ c a w, Q (.panic c) (a.put (some d) v) w → Q (.panic c) a w) (hw : Region.wanted oi (yielded ops a.tmps) = true) (hy : ∀ w, S w → (execOp a.eval oi).run P w = .ok (.value v) w) (hS : S w)
    (h : wpAnyH P md ops Q S fuel (listed.setIfInBounds i true) (a.put (some d) v) w) : wpAnyH P md ops Q S (fuel + 1) listed a w :=
  wpAnyH_take hi hs hf hr (by rw [hd]; exact hQ) (.inl ⟨hw, hy⟩) hS (by rw [hd]; exact h)
/-- a step of a held region: the one operation that may come up is carried out; S is shown anew -/
theorem held_step {i : Nat} {oi : Oper} {fuel : Nat} {listed : Array Bool} {a : Act} {w : World} (hi : ops[i]? = some oi) (hr : Region.ready md ops listed = [i])
    (h : ∀ K : Act → World → Prop, (∀ a' w', S w' → wpAnyH P md ops Q S fuel (listed.setIfInBounds i true) a' w' → K a' w') → if Region.wanted oi (yielded ops a.tmps) = true then oi.wp P a w K Q else K (a.put oi.dst undef) w) : wpAnyH P md ops Q S (fuel + 1) listed a w :=
  wpAnyH_all hr (by simp) (fun j hj => by
    simp only [List.mem_singleton] at hj; subst hj
    exact wpOp_step hi (fun K hK => h K (fun a' w' h1 h2 => hK a' w' ⟨h1, h2⟩)))
end
end Go.Proofs.Ytefkmdejcdhnjaa.K
