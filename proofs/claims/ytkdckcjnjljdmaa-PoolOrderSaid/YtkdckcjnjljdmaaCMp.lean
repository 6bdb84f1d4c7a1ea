/- Maps as they lie: a map's block holds the entries of a list, in whatever order; the laws of look-up, store, delete, len, range over that word. Over any program. -/
import Derived.Maps.Keyed
import Derived.Maps.RangeRun
import Derived.Maps.OwnOps
import Derived.Maps.OwnSet
import Derived.Maps.RangeWalk
import Derived.WalkKit
namespace Go.Proofs.Ytkdckcjnjljdmaa.Kt
open Go Go.RowKit Go.MapKept Go.ChangeMaps
open Go.Maps (Keyed)

/-- How keys of a type are written. -/
structure KeyEnc (P : Program) (k : TypeId) {α : Type} (ek : α → Value) : Prop where
  keyed : Keyed P k
  lit : ∀ a, ∃ l, keyOf P k (ek a) = some l
  inj : ∀ {a b}, ek a = ek b → a = b

section
variable {α : Type}
/-- An entry struck, an entry put, the value at a key. -/
def strike [DecidableEq α] (L : List (α × Value)) (a : α) : List (α × Value) := L.filter fun p => decide (p.1 ≠ a)
def putAt [DecidableEq α] (L : List (α × Value)) (a : α) (v : Value) : List (α × Value) := (a, v) :: strike L a
def valAt [DecidableEq α] (L : List (α × Value)) (a : α) : Option Value := (L.find? fun p => decide (p.1 = a)).map (·.2)

/-- BLOCK b OF W IS A MAP OF THE ENTRIES OF L. -/
structure IsMap (ek : α → Value) (W : World) (b : Nat) (L : List (α × Value)) : Prop where
  nodup : (L.map (·.1)).Nodup
  block : ∃ es clock, W.heap[b]? = some (.map es clock) ∧ Stamped es clock ∧ (es.toList.map fun e => (e.key, e.val)).Perm (L.map fun p => (ek p.1, p.2))

theorem nodup_strike [DecidableEq α] {L : List (α × Value)} (h : (L.map (·.1)).Nodup) (a : α) : ((strike L a).map (·.1)).Nodup :=
  (List.Sublist.map _ List.filter_sublist).nodup h
theorem not_mem_strike [DecidableEq α] (L : List (α × Value)) (a : α) : a ∉ (strike L a).map (·.1) := by
  simp [strike]
theorem nodup_putAt [DecidableEq α] {L : List (α × Value)} (h : (L.map (·.1)).Nodup) (a : α) (v : Value) : ((putAt L a v).map (·.1)).Nodup := by
  simp only [putAt, List.map_cons, List.nodup_cons]
  exact ⟨not_mem_strike L a, nodup_strike h a⟩

variable {ek : α → Value} {W : World} {b : Nat} {L : List (α × Value)}

theorem IsMap.perm (h : IsMap ek W b L) {L' : List (α × Value)} (hp : L.Perm L') : IsMap ek W b L' := by
  obtain ⟨es, clock, h1, h2, h3⟩ := h.block
  exact ⟨(hp.map _).nodup_iff.1 h.nodup, es, clock, h1, h2, h3.trans (hp.map _)⟩
theorem IsMap.lt (h : IsMap ek W b L) : b < W.heap.size := by
  obtain ⟨es, clock, h1, _⟩ := h.block
  exact (Array.getElem?_eq_some_iff.1 h1).1
theorem IsMap.of_block (h : IsMap ek W b L) {W' : World} (he : W'.heap[b]? = W.heap[b]?) : IsMap ek W' b L := by
  obtain ⟨es, clock, h1, h2, h3⟩ := h.block
  exact ⟨h.nodup, es, clock, he.trans h1, h2, h3⟩
theorem IsMap.kept (h : IsMap ek W b L) {W' : World} {row : Option Nat} (hg : W.grownBy W' row) (hne : some b ≠ row) : IsMap ek W' b L :=
  h.of_block (hg.block b h.lt hne)
theorem IsMap.alloc (h : IsMap ek W b L) (o : Obj) : IsMap ek (W.alloc o) b L := h.kept (World.grownBy_alloc W o none) (by simp)
theorem IsMap.drew (h : IsMap ek W b L) : IsMap ek W.drew b L := h.of_block rfl
theorem IsMap.setCell (h : IsMap ek W b L) {a : Addr} {v v0 : Value} (hc : W.cell? a = some v0) : IsMap ek (W.setCell a v) b L := by
  refine h.of_block (Below.heap_setCell _ _ _ _ (fun e => ?_))
  obtain ⟨es, clock, h1, _⟩ := h.block
  simp [World.cell?, ← e, h1] at hc
theorem IsMap.new (W : World) (ek : α → Value) : IsMap ek (W.alloc (.map #[] 0)) W.heap.size ([] : List (α × Value)) :=
  ⟨by simp, #[], 0, (heap_alloc W _).1, stamped_empty 0, by simp⟩

theorem IsMap.memKey (h : IsMap ek W b L) {es : Array MapEntry} {clock : Nat} (h1 : W.heap[b]? = some (.map es clock)) {e : MapEntry} (he : e ∈ es.toList) : ∃ p ∈ L, e.key = ek p.1 ∧ e.val = p.2 := by
  obtain ⟨es', clock', h1', _, h3⟩ := h.block
  rw [h1] at h1'
  cases h1'
  have : (e.key, e.val) ∈ L.map fun p => (ek p.1, p.2) := h3.mem_iff.1 (List.mem_map.2 ⟨e, he, rfl⟩)
  obtain ⟨p, hp, e1⟩ := List.mem_map.1 this
  simp only [Prod.mk.injEq] at e1
  exact ⟨p, hp, e1.1.symm, e1.2.symm⟩

theorem valAt_mem [DecidableEq α] {a : α} {v : Value} : valAt L a = some v → (a, v) ∈ L := by
  unfold valAt
  intro h
  obtain ⟨p, hp, rfl⟩ := Option.map_eq_some_iff.1 h
  have h1 := List.mem_of_find?_eq_some hp
  have h2 := List.find?_some hp
  simp only [decide_eq_true_eq] at h2
  rw [← h2]
  exact h1
theorem valAt_none [DecidableEq α] {a : α} : valAt L a = none ↔ a ∉ L.map (·.1) := by
  unfold valAt
  rw [Option.map_eq_none_iff, List.find?_eq_none]
  simp only [decide_eq_true_eq, List.mem_map, Prod.exists, exists_and_right, exists_eq_right, not_exists]
  constructor
  · intro h v hv
    exact h _ hv rfl
  · rintro h ⟨x, v⟩ hx e
    exact h v (e ▸ hx)
theorem valAt_of_mem [DecidableEq α] (hn : (L.map (·.1)).Nodup) {a : α} {v : Value} (h : (a, v) ∈ L) : valAt L a = some v := by
  induction L with
  | nil => simp at h
  | cons p r ih =>
    obtain ⟨x, u⟩ := p
    simp only [List.map_cons, List.nodup_cons] at hn
    unfold valAt
    by_cases e : x = a
    · subst e
      rcases List.mem_cons.1 h with h | h
      · cases h; simp
      · exact absurd (List.mem_map.2 ⟨_, h, rfl⟩) hn.1
    · rcases List.mem_cons.1 h with h | h
      · cases h; exact absurd rfl e
      · have := ih hn.2 h
        unfold valAt at this
        simp [e, this]

variable {P : Program} {k t e : TypeId}

theorem IsMap.find [DecidableEq α] (E : KeyEnc P k ek) (h : IsMap ek W b L) (a : α) {es : Array MapEntry} {clock : Nat} (h1 : W.heap[b]? = some (.map es clock)) :
    ((Instr.findKey k (ek a) es.toList).run P W = .ok none W ∧ valAt L a = none ∧ ∀ x ∈ es.toList, x.key ≠ ek a) ∨
    ∃ j x, (Instr.findKey k (ek a) es.toList).run P W = .ok (some (j, x.val)) W ∧ es.toList[j]? = some x ∧ x.key = ek a ∧ valAt L a = some x.val := by
  obtain ⟨l, hl⟩ := E.lit a
  have hks : ∀ x ∈ es.toList, ∃ l, keyOf P k x.key = some l := fun x hx => by
    obtain ⟨p, _, e1, _⟩ := h.memKey h1 hx
    obtain ⟨l, hl⟩ := E.lit p.1
    exact ⟨l, by rw [e1]; exact hl⟩
  rcases E.keyed.find W hl es.toList hks with ⟨h2, h3⟩ | ⟨j, x, h2, h3, h4⟩
  · refine Or.inl ⟨h2, valAt_none.2 (fun hm => ?_), h3⟩
    obtain ⟨p, hp, rfl⟩ := List.mem_map.1 hm
    obtain ⟨es', clock', h1', _, hpm⟩ := h.block
    rw [h1] at h1'
    cases h1'
    have : (ek p.1, p.2) ∈ es.toList.map fun e => (e.key, e.val) := hpm.mem_iff.2 (List.mem_map.2 ⟨p, hp, rfl⟩)
    obtain ⟨y, hy, e1⟩ := List.mem_map.1 this
    simp only [Prod.mk.injEq] at e1
    exact h3 y hy e1.1
  · refine Or.inr ⟨j, x, h2, h3, h4, ?_⟩
    obtain ⟨p, hp, e1, e2⟩ := h.memKey h1 (List.mem_of_getElem? h3)
    have : p.1 = a := E.inj (e1.symm.trans h4)
    rw [e2]
    exact valAt_of_mem h.nodup (by rw [← this]; exact hp)

/-- What 'm[k]' and 'v, ok := m[k]' give. -/
def lookVal (c : Bool) (z : Value) : Option Value → Value
  | some v => if c then .tuple #[v, .bool true] else v
  | none => if c then .tuple #[z, .bool false] else z

theorem IsMap.look [DecidableEq α] (E : KeyEnc P k ek) (ht : P.underlying t = some (.map k e)) (c : Bool) {z : Value} (hz : (zeroValue e).run P W = .ok z W) (h : IsMap ek W b L) (a : α) :
    (Instr.lookup t (.map (some b)) (ek a) c).run P W = .ok (lookVal c z (valAt L a)) W := by
  obtain ⟨es, clock, h1, h2, h3⟩ := h.block
  obtain ⟨l, hl⟩ := E.lit a
  rcases h.find E a h1 with ⟨r, hv, _⟩ | ⟨j, x, r, _, _, hv⟩
  · rw [hv]; simp [Instr.lookup, run_underlying ht, MapKept.run_getObj_map h1, E.keyed.check W _ hl, r, hz, Result.andThen, lookVal]
  · rw [hv]; simp [Instr.lookup, run_underlying ht, MapKept.run_getObj_map h1, E.keyed.check W _ hl, r, Result.andThen, lookVal]

theorem look_nil (E : KeyEnc P k ek) (ht : P.underlying t = some (.map k e)) (c : Bool) {z : Value} (hz : (zeroValue e).run P W = .ok z W) (a : α) :
    (Instr.lookup t (.map none) (ek a) c).run P W = .ok (lookVal c z none) W := by
  obtain ⟨l, hl⟩ := E.lit a
  simpa [lookVal] using Maps.look_nil c E.keyed ht hz hl

theorem perm_filter_key [DecidableEq α] {es : List MapEntry} (hpm : (es.map fun e => (e.key, e.val)).Perm (L.map fun p => (ek p.1, p.2))) (hinj : ∀ {a b}, ek a = ek b → a = b) (a : α) :
    ∀ (q : MapEntry → Bool), (∀ x ∈ es, q x = true ↔ x.key ≠ ek a) → ((es.filter q).map fun e => (e.key, e.val)).Perm ((strike L a).map fun p => (ek p.1, p.2)) := by
  intro q hq
  classical
  have h := hpm.filter (fun p => decide (p.1 ≠ ek a))
  rw [List.filter_map, List.filter_map] at h
  have e1 : es.filter ((fun p : Value × Value => decide (p.1 ≠ ek a)) ∘ fun e => (e.key, e.val)) = es.filter q := by
    refine List.filter_congr (fun x hx => ?_)
    have := hq x hx
    by_cases hk : x.key = ek a
    · have : q x = false := by cases hqx : q x; rfl; exact absurd hk (this.1 hqx)
      simp [hk, this]
    · simp [hk, this.2 hk]
  have e2 : L.filter ((fun p : Value × Value => decide (p.1 ≠ ek a)) ∘ fun p => (ek p.1, p.2)) = strike L a := by
    refine List.filter_congr (fun x _ => ?_)
    by_cases hk : x.1 = a
    · simp [hk]
    · have : ek x.1 ≠ ek a := fun e => hk (hinj e)
      simp [hk, this]
  rw [e1, e2] at h
  exact h

theorem strike_of_not [DecidableEq α] {a : α} (h : valAt L a = none) : strike L a = L := by
  rw [valAt_none] at h
  refine List.filter_eq_self.2 (fun p hp => ?_)
  simp only [ne_eq, decide_not, Bool.not_eq_eq_eq_not, Bool.not_true, decide_eq_false_iff_not]
  exact fun e => h (List.mem_map.2 ⟨p, hp, e⟩)

theorem filter_eraseIdx {es : List MapEntry} (hk : es.Pairwise (fun x y => x.key ≠ y.key)) {j : Nat} {x : MapEntry} (h : es[j]? = some x) :
    ∃ q : MapEntry → Bool, (∀ y ∈ es, q y = true ↔ y.key ≠ x.key) ∧ es.eraseIdx j = es.filter q := by
  classical
  refine ⟨fun y => decide (y.key ≠ x.key), fun y _ => by simp, ?_⟩
  induction es generalizing j with
  | nil => simp
  | cons y r ih =>
    obtain ⟨h1, h2⟩ := List.pairwise_cons.1 hk
    cases j with
    | zero =>
      simp only [List.getElem?_cons_zero, Option.some.injEq] at h
      subst h
      simp only [List.eraseIdx_cons_zero, List.filter_cons, ne_eq, not_true_eq_false, decide_false, Bool.false_eq_true, if_false]
      refine (List.filter_eq_self.2 (fun z hz => ?_)).symm
      simpa using (h1 z hz).symm
    | succ j =>
      simp only [List.getElem?_cons_succ] at h
      have hne : y.key ≠ x.key := h1 x (List.mem_of_getElem? h)
      simp [hne, ih h2 h]

/-- 'm[k] = v'. -/
theorem IsMap.store [DecidableEq α] (E : KeyEnc P k ek) (ht : P.underlying t = some (.map k e)) (h : IsMap ek W b L) (a : α) (v : Value) :
    ∃ W', (Instr.mapUpdate t (.map (some b)) (ek a) v).run P W = .ok () W' ∧ IsMap ek W' b (putAt L a v) ∧ W.grownBy W' (some b) ∧ W'.heap.size = W.heap.size := by
  obtain ⟨es, clock, h1, h2, h3⟩ := h.block
  obtain ⟨l, hl⟩ := E.lit a
  have hset : ∀ o : Obj, (setBlock W b o).heap[b]? = some o := fun o => heap_setBlock_same h1 o
  have hgr : ∀ o : Obj, W.grownBy (setBlock W b o) (some b) := fun o => ⟨rfl, rfl, rfl, by simp [setBlock], fun i _ hi => heap_setBlock_other h1 _ (fun e => hi (by rw [e]))⟩
  rcases h.find E a h1 with ⟨r, hv, hne⟩ | ⟨j, x, r, hj, hx, hv⟩
  · refine ⟨setBlock W b (.map (es.push ⟨ek a, v, clock⟩) (clock + 1)), ?_, ⟨nodup_putAt h.nodup a v, _, _, hset _, stamped_push h2 hne, ?_⟩, hgr _, by simp [setBlock]⟩
    · simp [Instr.mapUpdate, run_underlying ht, MapKept.run_getObj_map h1, E.keyed.check W false hl, r, MapKept.run_setObj_map _ h1, Result.andThen, setBlock]
    · rw [putAt, strike_of_not hv]
      simp only [Array.toList_push, List.map_append, List.map_cons, List.map_nil]
      exact (List.perm_append_singleton _ _).trans (h3.cons _)
  · have hja : es[j]? = some x := by simpa using hj
    have hjl : j < es.toList.length := (List.getElem?_eq_some_iff.1 hj).1
    have hks := ((stamped_iff es clock).1 h2).2.2
    obtain ⟨q, hq, hfl⟩ := filter_eraseIdx hks hj
    refine ⟨setBlock W b (.map (es.modify j (fun e' => { e' with key := ek a, val := v })) clock), ?_, ⟨nodup_putAt h.nodup a v, _, _, hset _, stamped_modify h2 _ _ (fun _ _ => rfl) (fun e' _ he' => ?_), ?_⟩, hgr _, by simp [setBlock]⟩
    · simp [Instr.mapUpdate, run_underlying ht, MapKept.run_getObj_map h1, E.keyed.check W false hl, r, hja, hx, E.keyed.stays W hl, MapKept.run_setObj_map _ h1, Result.andThen, setBlock]
    · rw [hja] at he'; cases he'; exact hx.symm
    · rw [Array.toList_modify, modify_eq_set _ _ _ _ hj]
      have p1 : (es.toList.set j { x with key := ek a, val := v }).Perm ({ x with key := ek a, val := v } :: es.toList.eraseIdx j) := set_perm _ _ hjl _
      refine (p1.map _).trans ?_
      rw [hfl]
      simp only [List.map_cons, putAt]
      exact (perm_filter_key h3 E.inj a q (fun y hy => by rw [hq y hy, hx])).cons _

/-- 'delete(m, k)'. -/
theorem IsMap.del [DecidableEq α] (E : KeyEnc P k ek) (ht : P.underlying t = some (.map k e)) (h : IsMap ek W b L) (a : α) (ty : TypeId) :
    ∃ W', (Builtin.delete_ #[t, k] ty #[.map (some b), ek a]).run P W = .ok (.tuple #[]) W' ∧ IsMap ek W' b (strike L a) ∧ W.grownBy W' (some b) ∧ W'.heap.size = W.heap.size := by
  obtain ⟨es, clock, h1, h2, h3⟩ := h.block
  obtain ⟨l, hl⟩ := E.lit a
  have hset : ∀ o : Obj, (setBlock W b o).heap[b]? = some o := fun o => heap_setBlock_same h1 o
  have hgr : ∀ o : Obj, W.grownBy (setBlock W b o) (some b) := fun o => ⟨rfl, rfl, rfl, by simp [setBlock], fun i _ hi => heap_setBlock_other h1 _ (fun e => hi (by rw [e]))⟩
  rcases h.find E a h1 with ⟨r, hv, hne⟩ | ⟨j, x, r, hj, hx, hv⟩
  · refine ⟨setBlock W b (.map es clock), ?_, ?_, hgr _, by simp [setBlock]⟩
    · simp [Builtin.delete_, run_underlying ht, MapKept.run_getObj_map h1, E.keyed.check W _ hl, r, MapKept.run_setObj_map _ h1, Result.andThen, setBlock]
    · rw [strike_of_not hv]
      exact ⟨h.nodup, _, _, hset _, h2, h3⟩
  · have hjs : j < es.size := by simpa using (List.getElem?_eq_some_iff.1 hj).1
    have hks := ((stamped_iff es clock).1 h2).2.2
    have hsub : (es.eraseIdxIfInBounds j).toList = es.toList.eraseIdx j := by
      unfold Array.eraseIdxIfInBounds
      rw [dif_pos hjs]
      simp
    obtain ⟨q, hq, hfl⟩ := filter_eraseIdx hks hj
    refine ⟨setBlock W b (.map (es.eraseIdxIfInBounds j) clock), ?_, ⟨nodup_strike h.nodup a, _, _, hset _, stamped_erase h2 j, ?_⟩, hgr _, by simp [setBlock]⟩
    · simp [Builtin.delete_, run_underlying ht, MapKept.run_getObj_map h1, E.keyed.check W _ hl, r, MapKept.run_setObj_map _ h1, Result.andThen, setBlock]
    · rw [hsub, hfl]
      exact perm_filter_key h3 E.inj a q (fun y hy => by rw [hq y hy, hx])

theorem IsMap.len (ht : P.underlying t = some (.map k e)) (h : IsMap ek W b L) (ty : TypeId) : (Builtin.len_ #[t] ty #[.map (some b)]).run P W = .ok (.int .i64 L.length) W := by
  obtain ⟨es, clock, h1, h2, h3⟩ := h.block
  have : es.size = L.length := by simpa using h3.length_eq
  rw [← this]
  simp [Builtin.len_, run_underlying ht, MapKept.run_getObj_map h1, Result.andThen, goInt]
end

/-! ### at the operations -/
section
variable {α : Type} {ek : α → Value} {b : Nat} {L : List (α × Value)} {P : Program} {k t e : TypeId}
  {w : World} {ops : Array Oper} {rest : List Oper} {o : Oper} {a : Act} {Q : Exit → Act → World → Prop}

theorem wpl_store [DecidableEq α] (E : KeyEnc P k ek) (ht : P.underlying t = some (.map k e)) (h : IsMap ek w b L) (x : α) (m kx vx : Operand) (hop : o.op = Op.mapUpdate t m kx vx) (hg : o.guard = none)
    (hm : a.eval m = .map (some b)) (hk : a.eval kx = ek x) (v : Value) (hv : a.eval vx = v)
    (hK : ∀ w', IsMap ek w' b (putAt L x v) → w.grownBy w' (some b) → w'.heap.size = w.heap.size → wpList P ops Q rest (a.put o.dst undef) w') :
    wpList P ops Q (o :: rest) a w := by
  refine wpList_plain hg fun K' hK' => ?_
  obtain ⟨w', hrun, r1, r2, r3⟩ := h.store E ht x v
  unfold Oper.wp
  simp [execOp, hop, hm, hk, hv, hrun, Result.andThen]
  exact hK' _ _ (hK w' r1 r2 r3)

theorem wpl_look [DecidableEq α] (E : KeyEnc P k ek) (ht : P.underlying t = some (.map k e)) (h : IsMap ek w b L) (c : Bool) {z : Value} (hz : (zeroValue e).run P w = .ok z w) (x : α) (m kx : Operand) (hop : o.op = Op.lookup t m kx c) (hg : o.guard = none)
    (hm : a.eval m = .map (some b)) (hk : a.eval kx = ek x) (hK : wpList P ops Q rest (a.put o.dst (lookVal c z (valAt L x))) w) :
    wpList P ops Q (o :: rest) a w := by
  refine wpList_plain hg fun K' hK' => ?_
  have hrun := h.look E ht c hz x
  unfold Oper.wp
  simp [execOp, hop, hm, hk, hrun, Result.andThen]
  exact hK' _ _ hK

theorem wpl_del [DecidableEq α] (E : KeyEnc P k ek) (ht : P.underlying t = some (.map k e)) (h : IsMap ek w b L) (x : α) (m kx : Operand) (hop : o.op = Op.call { callee := Callee.builtin Builtin.delete, args := #[m, kx], argTypes := #[t, k] }) (hg : o.guard = none)
    (hm : a.eval m = .map (some b)) (hk : a.eval kx = ek x)
    (hK : ∀ w', IsMap ek w' b (strike L x) → w.grownBy w' (some b) → w'.heap.size = w.heap.size → wpList P ops Q rest (a.put o.dst (.tuple #[])) w') :
    wpList P ops Q (o :: rest) a w := by
  refine wpList_plain hg fun K' hK' => ?_
  obtain ⟨w', hrun, r1, r2, r3⟩ := h.del E ht x o.type
  unfold Oper.wp
  simp [execOp, hop, resolve, invoke, builtin, hm, hk, hrun, Result.andThen]
  exact hK' _ _ (hK w' r1 r2 r3)
end
end Go.Proofs.Ytkdckcjnjljdmaa.Kt
