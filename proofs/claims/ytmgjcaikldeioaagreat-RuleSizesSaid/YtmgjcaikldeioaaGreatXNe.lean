/- Maps as they lie: a map's block holds the entries of a list, in whatever order; the laws of look-up, store, delete, len, range over that word. Over any program. -/
import Derived.Maps.Keyed
import Derived.Maps.RangeRun
import Derived.Maps.OwnOps
import Derived.Maps.OwnSet
import Derived.Maps.RangeWalk
import Derived.WalkKit
import Derived.Test.YtmgjcaikldeioaaGreatXNa
import Derived.Test.YtmgjcaikldeioaaGreatXUr
namespace Go.Proofs.YtmgjcaikldeioaaGreat.Kt
open Go Go.RowKit Go.MapKept Go.ChangeMaps
open Go.Maps (Keyed)

/-- How keys of a type are written. -/
structure KeyEnc (P : Program) (k : TypeId) {α : Type} (ek : α → Value) : Prop where
 keyed : Keyed P k
 lit : ∀ a, ∃ l, keyOf P k (ek a) = some l
 inj : ∀ {a b}, ek a = ek b → a = b

section
variable {α : Type}
/-- An entry struck, an entry put, the value at a key. -/
def strike [DecidableEq α] (L : List (α × Value)) (a : α) : List (α × Value) := L.filter fun p => decide (p.1 ≠ a)
def putAt [DecidableEq α] (L : List (α × Value)) (a : α) (v : Value) : List (α × Value) := (a, v) :: strike L a
def valAt [DecidableEq α] (L : List (α × Value)) (a : α) : Option Value := (L.find? fun p => decide (p.1 = a)).map (·.2)

/-- BLOCK b OF W IS A MAP OF THE ENTRIES OF L. -/
structure IsMap (ek : α → Value) (W : World) (b : Nat) (L : List (α × Value)) : Prop where
 nodup : (L.map (·.1)).Nodup
 block : ∃ es clock, W.heap[b]? = some (.map es clock) ∧ Stamped es clock ∧ (es.toList.map fun e => (e.key, e.val)).Perm (L.map fun p => (ek p.1, p.2))

theorem nodup_strike [DecidableEq α] {L : List (α × Value)} (h : (L.map (·.1)).Nodup) (a : α) : ((strike L a).map (·.1)).Nodup :=
 (List.Sublist.map _ List.filter_sublist).nodup h
theorem not_mem_strike [DecidableEq α] (L : List (α × Value)) (a : α) : a ∉ (strike L a).map (·.1) := by
 simp [strike]
theorem nodup_putAt [DecidableEq α] {L : List (α × Value)} (h : (L.map (·.1)).Nodup) (a : α) (v : Value) : ((putAt L a v).map (·.1)).Nodup := by
 simp only [putAt, List.map_cons, List.nodup_cons]
 exact ⟨not_mem_strike L a, nodup_strike h a⟩

variable {ek : α → Value} {W : World} {b : Nat} {L : List (α × Value)}

theorem IsMap.lt (h : IsMap ek W b L) : b < W.heap.size := by
 obtain ⟨es, clock, h1, _⟩ := h.block
 exact (Array.getElem?_eq_some_iff.1 h1).1
theorem IsMap.of_block (h : IsMap ek W b L) {W' : World} (he : W'.heap[b]? = W.heap[b]?) : IsMap ek W' b L := by
 obtain ⟨es, clock, h1, h2, h3⟩ := h.block
 exact ⟨h.nodup, es, clock, he.trans h1, h2, h3⟩
theorem IsMap.kept (h : IsMap ek W b L) {W' : World} {row : Option Nat} (hg : W.grownBy W' row) (hne : some b ≠ row) : IsMap ek W' b L :=
 h.of_block (hg.block b h.lt hne)
theorem IsMap.alloc (h : IsMap ek W b L) (o : Obj) : IsMap ek (W.alloc o) b L := h.kept (World.grownBy_alloc W o none) (by simp)
theorem IsMap.drew (h : IsMap ek W b L) : IsMap ek W.drew b L := h.of_block rfl
theorem IsMap.setCell (h : IsMap ek W b L) {a : Addr} {v v0 : Value} (hc : W.cell? a = some v0) : IsMap ek (W.setCell a v) b L := by
 refine h.of_block (Below.heap_setCell _ _ _ _ (fun e => ?_))
 obtain ⟨es, clock, h1, _⟩ := h.block
 simp [World.cell?, ← e, h1] at hc
theorem IsMap.new (W : World) (ek : α → Value) : IsMap ek (W.alloc (.map #[] 0)) W.heap.size ([] : List (α × Value)) :=
 ⟨by simp, #[], 0, (heap_alloc W _).1, stamped_empty 0, by simp⟩

theorem IsMap.memKey (h : IsMap ek W b L) {es : Array MapEntry} {clock : Nat} (h1 : W.heap[b]? = some (.map es clock)) {e : MapEntry} (he : e ∈ es.toList) : ∃ p ∈ L, e.key = ek p.1 ∧ e.val = p.2 := by
 obtain ⟨es', clock', h1', _, h3⟩ := h.block
 rw [h1] at h1'
 cases h1'
 have : (e.key, e.val) ∈ L.map fun p => (ek p.1, p.2) := h3.mem_iff.1 (List.mem_map.2 ⟨e, he, rfl⟩)
 obtain ⟨p, hp, e1⟩ := List.mem_map.1 this
 simp only [Prod.mk.injEq] at e1
 exact ⟨p, hp, e1.1.symm, e1.2.symm⟩

theorem valAt_mem [DecidableEq α] {a : α} {v : Value} : valAt L a = some v → (a, v) ∈ L := by
 unfold valAt
 intro h
 obtain ⟨p, hp, rfl⟩ := Option.map_eq_some_iff.1 h
 have h1 := List.mem_of_find?_eq_some hp
 have h2 := List.find?_some hp
 simp only [decide_eq_true_eq] at h2
 rw [← h2]
 exact h1
theorem valAt_none [DecidableEq α] {a : α} : valAt L a = none ↔ a ∉ L.map (·.1) := by
 unfold valAt
 rw [Option.map_eq_none_iff, List.find?_eq_none]
 simp only [decide_eq_true_eq, List.mem_map, Prod.exists, exists_and_right, exists_eq_right, not_exists]
 constructor
 ·intro h v hv
  exact h _ hv rfl
 ·rintro h ⟨x, v⟩ hx e
  exact h v (e ▸ hx)
theorem valAt_of_mem [DecidableEq α] (hn : (L.map (·.1)).Nodup) {a : α} {v : Value} (h : (a, v) ∈ L) : valAt L a = some v := by
 induction L with
 | nil => simp at h
 | cons p r ih =>
  obtain ⟨x, u⟩ := p
  simp only [List.map_cons, List.nodup_cons] at hn
  unfold valAt
  by_cases e : x = a
  ·subst e
   rcases List.mem_cons.1 h with h | h
   ·cases h; simp
   ·exact absurd (List.mem_map.2 ⟨_, h, rfl⟩) hn.1
  ·rcases List.mem_cons.1 h with h | h
   ·cases h; exact absurd rfl e
   ·have := ih hn.2 h
    unfold valAt at this
    simp [e, this]

variable {P : Program} {k t e : TypeId}

theorem IsMap.find [DecidableEq α] (E : KeyEnc P k ek) (h : IsMap ek W b L) (a : α) {es : Array MapEntry} {clock : Nat} (h1 : W.heap[b]? = some (.map es clock)) :
  ((Instr.findKey k (ek a) es.toList).run P W = .ok none W ∧ valAt L a = none ∧ ∀ x ∈ es.toList, x.key ≠ ek a) ∨
  ∃ j x, (Instr.findKey k (ek a) es.toList).run P W = .ok (some (j, x.val)) W ∧ es.toList[j]? = some x ∧ x.key = ek a ∧ valAt L a = some x.val := by
 obtain ⟨l, hl⟩ := E.lit a
 have hks : ∀ x ∈ es.toList, ∃ l, keyOf P k x.key = some l := fun x hx => by
  obtain ⟨p, _, e1, _⟩ := h.memKey h1 hx
  obtain ⟨l, hl⟩ := E.lit p.1
  exact ⟨l, by rw [e1]; exact hl⟩
 rcases E.keyed.find W hl es.toList hks with ⟨h2, h3⟩ | ⟨j, x, h2, h3, h4⟩
 ·refine Or.inl ⟨h2, valAt_none.2 (fun hm => ?_), h3⟩
  obtain ⟨p, hp, rfl⟩ := List.mem_map.1 hm
  obtain ⟨es', clock', h1', _, hpm⟩ := h.block
  rw [h1] at h1'
  cases h1'
  have : (ek p.1, p.2) ∈ es.toList.map fun e => (e.key, e.val) := hpm.mem_iff.2 (List.mem_map.2 ⟨p, hp, rfl⟩)
  obtain ⟨y, hy, e1⟩ := List.mem_map.1 this
  simp only [Prod.mk.injEq] at e1
  exact h3 y hy e1.1
 ·refine Or.inr ⟨j, x, h2, h3, h4, ?_⟩
  obtain ⟨p, hp, e1, e2⟩ := h.memKey h1 (List.mem_of_getElem? h3)
  have : p.1 = a := E.inj (e1.symm.trans h4)
  rw [e2]
  exact valAt_of_mem h.nodup (by rw [← this]; exact hp)

/-- What 'm[k]' and 'v, ok := m[k]' give. -/
def lookVal (c : Bool) (z : Value) : Option Value → Value
 | some v => if c then .tuple #[v, .bool true] else v
 | none => if c then .tuple #[z, .bool false] else z

theorem IsMap.look [DecidableEq α] (E : KeyEnc P k ek) (ht : P.underlying t = some (.map k e)) (c : Bool) {z : Value} (hz : (zeroValue e).run P W = .ok z W) (h : IsMap ek W b L) (a : α) :
  (Instr.lookup t (.map (some b)) (ek a) c).run P W = .ok (lookVal c z (valAt L a)) W := by
 obtain ⟨es, clock, h1, h2, h3⟩ := h.block
 obtain ⟨l, hl⟩ := E.lit a
 rcases h.find E a h1 with ⟨r, hv, _⟩ | ⟨j, x, r, _, _, hv⟩
 ·rw [hv]; simp [Instr.lookup, run_underlying ht, MapKept.run_getObj_map h1, E.keyed.check W _ hl, r, hz, Result.andThen, lookVal]
 ·rw [hv]; simp [Instr.lookup, run_underlying ht, MapKept.run_getObj_map h1, E.keyed.check W _ hl, r, Result.andThen, lookVal]

theorem perm_filter_key [DecidableEq α] {es : List MapEntry} (hpm : (es.map fun e => (e.key, e.val)).Perm (L.map fun p => (ek p.1, p.2))) (hinj : ∀ {a b}, ek a = ek b → a = b) (a : α) :
  ∀ (q : MapEntry → Bool), (∀ x ∈ es, q x = true ↔ x.key ≠ ek a) → ((es.filter q).map fun e => (e.key, e.val)).Perm ((strike L a).map fun p => (ek p.1, p.2)) := by
 intro q hq
 classical
 have h := hpm.filter (fun p => decide (p.1 ≠ ek a))
 rw [List.filter_map, List.filter_map] at h
 have e1 : es.filter ((fun p : Value × Value => decide (p.1 ≠ ek a)) ∘ fun e => (e.key, e.val)) = es.filter q := by
  refine List.filter_congr (fun x hx => ?_)
  have := hq x hx
  by_cases hk : x.key = ek a
  ·have : q x = false := by cases hqx : q x; rfl; exact absurd hk (this.1 hqx)
   simp [hk, this]
  ·simp [hk, this.2 hk]
 have e2 : L.filter ((fun p : Value × Value => decide (p.1 ≠ ek a)) ∘ fun p => (ek p.1, p.2)) = strike L a := by
  refine List.filter_congr (fun x _ => ?_)
  by_cases hk : x.1 = a
  ·simp [hk]
  ·have : ek x.1 ≠ ek a := fun e => hk (hinj e)
   simp [hk, this]
 rw [e1, e2] at h
 exact h

theorem strike_of_not [DecidableEq α] {a : α} (h : valAt L a = none) : strike L a = L := by
 rw [valAt_none] at h
 refine List.filter_eq_self.2 (fun p hp => ?_)
 simp only [ne_eq, decide_not, Bool.not_eq_eq_eq_not, Bool.not_true, decide_eq_false_iff_not]
 exact fun e => h (List.mem_map.2 ⟨p, hp, e⟩)

theorem filter_eraseIdx {es : List MapEntry} (hk : es.Pairwise (fun x y => x.key ≠ y.key)) {j : Nat} {x : MapEntry} (h : es[j]? = some x) :
  ∃ q : MapEntry → Bool, (∀ y ∈ es, q y = true ↔ y.key ≠ x.key) ∧ es.eraseIdx j = es.filter q := by
 classical
 refine ⟨fun y => decide (y.key ≠ x.key), fun y _ => by simp, ?_⟩
 induction es generalizing j with
 | nil => simp
 | cons y r ih =>
  obtain ⟨h1, h2⟩ := List.pairwise_cons.1 hk
  cases j with
  | zero =>
   simp only [List.getElem?_cons_zero, Option.some.injEq] at h
   subst h
   simp only [List.eraseIdx_cons_zero, List.filter_cons, ne_eq, not_true_eq_false, decide_false, Bool.false_eq_true, if_false]
   refine (List.filter_eq_self.2 (fun z hz => ?_)).symm
   simpa using (h1 z hz).symm
  | succ j =>
   simp only [List.getElem?_cons_succ] at h
   have hne : y.key ≠ x.key := h1 x (List.mem_of_getElem? h)
   simp [hne, ih h2 h]

/-- 'm[k] = v'. -/
theorem IsMap.store [DecidableEq α] (E : KeyEnc P k ek) (ht : P.underlying t = some (.map k e)) (h : IsMap ek W b L) (a : α) (v : Value) :
  ∃ W', (Instr.mapUpdate t (.map (some b)) (ek a) v).run P W = .ok () W' ∧ IsMap ek W' b (putAt L a v) ∧ W.grownBy W' (some b) ∧ W'.heap.size = W.heap.size := by
 obtain ⟨es, clock, h1, h2, h3⟩ := h.block
 obtain ⟨l, hl⟩ := E.lit a
 have hset : ∀ o : Obj, (setBlock W b o).heap[b]? = some o := fun o => heap_setBlock_same h1 o
 have hgr : ∀ o : Obj, W.grownBy (setBlock W b o) (some b) := fun o => ⟨rfl, rfl, rfl, by simp [setBlock], fun i _ hi => heap_setBlock_other h1 _ (fun e => hi (by rw [e]))⟩
 rcases h.find E a h1 with ⟨r, hv, hne⟩ | ⟨j, x, r, hj, hx, hv⟩
 ·refine ⟨setBlock W b (.map (es.push ⟨ek a, v, clock⟩) (clock + 1)), ?_, ⟨nodup_putAt h.nodup a v, _, _, hset _, stamped_push h2 hne, ?_⟩, hgr _, by simp [setBlock]⟩
  ·simp [Instr.mapUpdate, run_underlying ht, MapKept.run_getObj_map h1, E.keyed.check W false hl, r, MapKept.run_setObj_map _ h1, Result.andThen, setBlock]
  ·rw [putAt, strike_of_not hv]
   simp only [Array.toList_push, List.map_append, List.map_cons, List.map_nil]
   exact (List.perm_append_singleton _ _).trans (h3.cons _)
 ·have hja : es[j]? = some x := by simpa using hj
  have hjl : j < es.toList.length := (List.getElem?_eq_some_iff.1 hj).1
  have hks := ((stamped_iff es clock).1 h2).2.2
  obtain ⟨q, hq, hfl⟩ := filter_eraseIdx hks hj
  refine ⟨setBlock W b (.map (es.modify j (fun e' => { e' with key := ek a, val := v })) clock), ?_, ⟨nodup_putAt h.nodup a v, _, _, hset _, stamped_modify h2 _ _ (fun _ _ => rfl) (fun e' _ he' => ?_), ?_⟩, hgr _, by simp [setBlock]⟩
  ·simp [Instr.mapUpdate, run_underlying ht, MapKept.run_getObj_map h1, E.keyed.check W false hl, r, hja, hx, E.keyed.stays W hl, MapKept.run_setObj_map _ h1, Result.andThen, setBlock]
  ·rw [hja] at he'; cases he'; exact hx.symm
  ·rw [Array.toList_modify, modify_eq_set _ _ _ _ hj]
   have p1 : (es.toList.set j { x with key := ek a, val := v }).Perm ({ x with key := ek a, val := v } :: es.toList.eraseIdx j) := set_perm _ _ hjl _
   refine (p1.map _).trans ?_
   rw [hfl]
   simp only [List.map_cons, putAt]
   exact (perm_filter_key h3 E.inj a q (fun y hy => by rw [hq y hy, hx])).cons _

theorem IsMap.len (ht : P.underlying t = some (.map k e)) (h : IsMap ek W b L) (ty : TypeId) : (Builtin.len_ #[t] ty #[.map (some b)]).run P W = .ok (.int .i64 L.length) W := by
 obtain ⟨es, clock, h1, h2, h3⟩ := h.block
 have : es.size = L.length := by simpa using h3.length_eq
 rw [← this]
 simp [Builtin.len_, run_underlying ht, MapKept.run_getObj_map h1, Result.andThen, goInt]
end

/-! ### at the operations -/
section
variable {α : Type} {ek : α → Value} {b : Nat} {L : List (α × Value)} {P : Program} {k t e : TypeId}
 {w : World} {ops : Array Oper} {rest : List Oper} {o : Oper} {a : Act} {Q : Exit → Act → World → Prop}

theorem wpl_store [DecidableEq α] (E : KeyEnc P k ek) (ht : P.underlying t = some (.map k e)) (h : IsMap ek w b L) (x : α) (m kx vx : Operand) (hop : o.op = Op.mapUpdate t m kx vx) (hg : o.guard = none)
  (hm : a.eval m = .map (some b)) (hk : a.eval kx = ek x) (v : Value) (hv : a.eval vx = v)
  (hK : ∀ w', IsMap ek w' b (putAt L x v) → w.grownBy w' (some b) → w'.heap.size = w.heap.size → wpList P ops Q rest (a.put o.dst undef) w') :
  wpList P ops Q (o :: rest) a w := by
 refine wpList_plain hg fun K' hK' => ?_
 obtain ⟨w', hrun, r1, r2, r3⟩ := h.store E ht x v
 unfold Oper.wp
 simp [execOp, hop, hm, hk, hv, hrun, Result.andThen]
 exact hK' _ _ (hK w' r1 r2 r3)

theorem wpl_look [DecidableEq α] (E : KeyEnc P k ek) (ht : P.underlying t = some (.map k e)) (h : IsMap ek w b L) (c : Bool) {z : Value} (hz : (zeroValue e).run P w = .ok z w) (x : α) (m kx : Operand) (hop : o.op = Op.lookup t m kx c) (hg : o.guard = none)
  (hm : a.eval m = .map (some b)) (hk : a.eval kx = ek x) (hK : wpList P ops Q rest (a.put o.dst (lookVal c z (valAt L x))) w) :
  wpList P ops Q (o :: rest) a w := by
 refine wpList_plain hg fun K' hK' => ?_
 have hrun := h.look E ht c hz x
 unfold Oper.wp
 simp [execOp, hop, hm, hk, hrun, Result.andThen]
 exact hK' _ _ hK

end
end Go.Proofs.YtmgjcaikldeioaaGreat.Kt
/- A module's checker: each of a list, one function after another. -/
namespace Go.Proofs.YtmgjcaikldeioaaGreat.Va
open Go Go.RowKit Go.Lib Kt Fm Gr Ty

theorem sizeExp : (Tryz.prog.info? 61).map (·.size) = some 3 := by kernel_rfl
theorem sizeElm : (Tryz.prog.info? 59).map (·.size) = some 3 := by kernel_rfl
theorem sizeDat : (Tryz.prog.info? 114).map (·.size) = some 3 := by kernel_rfl
/-- A function that is called out of a value. -/
def EnterOk (k : FuncId) : Prop := ∀ args w, (callFunc k args).run Tryz.prog w = .ok (.enter k args) w
theorem upon_call {o : Oper} {a : Act} {next : Act → World → Prop} {Q : Exit → Act → World → Prop} {k : FuncId} {args args' : Array Value} {w : World} (hk : EnterOk k) (ha : args = args')
  (h : Calls Tryz.prog k args' w fun
   | .returned v, w'' => next (a.put o.dst v) w''
   | .panicked chain, w'' => Q (.panic chain) a w''
   | .outgrown, _ => LetsOut Q) : o.upon Tryz.prog a next Q ((callFunc k args).run Tryz.prog w) := by
 subst ha
 rw [hk]
 exact h
/-- What an each has come to. -/
def EachSays {α : Type} (L : List α) (J : List α → Nat → World → Prop) (w' : World) : Prop := ∃ A R e, L = A ++ R ∧ J A e w' ∧ (R = [] ∨ e ≠ 0)
theorem len_app {α : Type} {A R : List α} {x : α} {L : List α} (h : L = A ++ x :: R) : A.length < L.length ∧ L[A.length]? = some x := by
 subst h
 exact ⟨by simp, by simp⟩
set_option maxRecDepth 100000 in
set_option maxHeartbeats 8000000 in
theorem each_Imp {W : World} {kb : Nat} {k : Nat} {bs cap : Array Value} {v : Value} {L : List Imp} (J : List Imp → Nat → World → Prop)
  (hk : EnterOk k) {ar : Imp → Array Value} (har : ∀ x, bs ++ #[.agg (x.cs).toArray] ++ cap = ar x) (hc : ∀ A e w, J A e w → w.cell? ⟨kb, 13, none⟩ = some (.int .i64 e)) (hs : ∀ A e w, J A e w → Sl w 8 Imp.cs v L) (hb : ∀ A e w w', J A e w → Below w.heap.size w w' → J A e w')
  (hone : ∀ A x R w, L = A ++ x :: R → J A 0 w → Calls Tryz.prog k (ar x) w fun en w' => en = .returned (.tuple #[]) ∧ ∃ e', J (A ++ [x]) e' w')
  {e0 : Nat} (hJ : J [] e0 W) (hn : L.length ≤ 1048576) (h1 : ∀ x ∈ L, (x.cs.toArray.all (·.oneCell')) = true) :
  Calls Tryz.prog 30 #[.pointer (some ⟨kb, 0, none⟩), v, .func (.func k) bs cap] W fun en w' => en = .returned (.tuple #[]) ∧ EachSays L J w' := by
 obtain ⟨s, cp, rfl, hsv⟩ := (hs _ _ _ hJ).form
 have HSV := zh hsv
 have HCE := zh hc
 have HSS := zh hs
 have HBB := zh hb
 have HON := zh hone
 have HJ := zh hJ
 have HK := zh hk
 have HAX := zh har
 have HO1 := zh h1
 clear hk har hsv hc hs hb hone hJ h1
 go_enter Tryz.func30, Tryz.ntmps30
 go_wp2_with fail
 go_loopw [10] (fun iv wr => ∃ A R e, L = A ++ R ∧ iv = .int .i64 A.length ∧ J A e wr)
  (fun iv _ => L.length - (Lib.intOf iv).toNat)
 case atStart => exact ⟨[], L, e0, rfl, rfl, HJ.out⟩
 case round =>
  obtain ⟨A, R, e, hAR, rfl, hj⟩ := hrel
  have HJ2 := zh hj
  have HAR := zh hAR
  clear hj hAR HJ
  obtain ⟨i, hi⟩ : ∃ i, i = A.length := ⟨_, rfl⟩
  rw [← hi]
  have HI := zh hi
  clear hi
  cases R with
  | nil =>
   have hlt : ¬ (i : Int) < (L.length : Int) := by rw [HI.out, HAR.out]; simp
   go_wp2_with fail
   go_end0
   exact ⟨rfl, A, [], e, HAR.out, HJ2.out, .inl rfl⟩
  | cons x R =>
   obtain ⟨hl1, hl2⟩ := len_app HAR.out
   rw [← HI.out] at hl1 hl2
   have hlt : (i : Int) < (L.length : Int) := by omega
   obtain ⟨g, off, rfl, _⟩ := HSV.out (by intro e; rw [e] at hl1; simp at hl1)
   have HRA := zh (Gr.sl_range (HSS.out _ _ _ HJ2.out) hl2)
   have HL2 := zh hl2
   clear hl2
   have c13 : wr.cell? ⟨kb, 13, none⟩ = some (.int .i64 e) := HCE.out _ _ _ HJ2.out
   by_cases he : e = 0
   ·subst he
    have HOX := zh (HO1.out x (List.mem_of_getElem? HL2.out))
    go_wp2_with (first | (refine wpList_load_mid rfl 88 _ rfl g (off + i * 8) rfl x.cs _ HRA.out Tryz.underlying88 rfl sizeImp ?_; (try simp only [Act.put, sA, sB, sC])) | (refine wl_put (Lies.new _ _ _) x.cs _ _ rfl rfl rfl rfl rfl sizeImp HOX.out (fun w8 hL8 hF8 => ?_); have hb8 : Below wr.heap.size wr w8 := below_put ((Below.refl wr.heap.size wr).alloc (Nat.le_refl _) _) hF8 (Nat.le_refl _); have HJ8 := zh (HBB.out _ _ _ _ HJ2.out hb8); have HX8 := zh hL8; obtain ⟨Bx, hBx⟩ : ∃ Bx, Bx = wr.heap.size := ⟨_, rfl⟩; rw [← hBx] at HX8 ⊢; clear c13; have c13 : w8.cell? ⟨kb, 13, none⟩ = some (.int .i64 (0 : Nat)) := HCE.out _ _ _ HJ8.out; clear hBx hL8 hF8 hb8; try simp only [Act.put]) | (refine wpList_load_mid rfl 88 _ rfl Bx 0 rfl x.cs _ (lies_range HX8.out) Tryz.underlying88 rfl sizeImp ?_; (try simp only [Act.put, sA, sB, sC])))
    refine upon_call HK.out (HAX.out x) ?_
    refine (HON.out A x R _ HAR.out HJ8.out).mono ?_
    rintro en w9 ⟨rfl, e', hj9⟩
    have HJ9 := zh hj9
    clear hj9 c13
    go_wp2_with fail
    exact ⟨⟨A ++ [x], R, e', by rw [HAR.out]; simp, by rw [List.length_append, ← HI.out, List.length_singleton]; go_num, HJ9.out⟩, by simp [Lib.intOf]; omega⟩
   ·have he1 : ¬ (e : Int) = 0 := by omega
    have he2 : ((e : Int) != 0) = true := by simpa using he
    have HE := zh he
    clear he
    have HOX := zh (HO1.out x (List.mem_of_getElem? HL2.out))
    go_wp2_with (first | (refine wpList_load_mid rfl 88 _ rfl g (off + i * 8) rfl x.cs _ HRA.out Tryz.underlying88 rfl sizeImp ?_; (try simp only [Act.put, sA, sB, sC])) | (refine wl_put (Lies.new _ _ _) x.cs _ _ rfl rfl rfl rfl rfl sizeImp HOX.out (fun w8 hL8 hF8 => ?_); have hb8 : Below wr.heap.size wr w8 := below_put ((Below.refl wr.heap.size wr).alloc (Nat.le_refl _) _) hF8 (Nat.le_refl _); have HJ8 := zh (HBB.out _ _ _ _ HJ2.out hb8); have HX8 := zh hL8; obtain ⟨Bx, hBx⟩ : ∃ Bx, Bx = wr.heap.size := ⟨_, rfl⟩; rw [← hBx] at HX8 ⊢; clear c13; have c13 : w8.cell? ⟨kb, 13, none⟩ = some (.int .i64 e) := HCE.out _ _ _ HJ8.out; clear hBx hL8 hF8 hb8; try simp only [Act.put]) | (refine wpList_load_mid rfl 88 _ rfl Bx 0 rfl x.cs _ (lies_range HX8.out) Tryz.underlying88 rfl sizeImp ?_; (try simp only [Act.put, sA, sB, sC])))
    (try simp only [Exit.inBlock, Exit.then])
    refine bodyPost_ret (results_none rfl _ _ _) rfl ?_
    exact ⟨rfl, A, x :: R, e, HAR.out, HJ8.out, .inr HE.out⟩
theorem every_Imp {W1 W : World} {kb S0 : Nat} {m : Mod} {e0 : Nat} (h : Vk W1 kb S0 m e0 W) {k : Nat} (hk : EnterOk k) {bs cap : Array Value} {ar : Imp → Array Value} (har : ∀ x, bs ++ #[.agg (x.cs).toArray] ++ cap = ar x) {v : Value} {L : List Imp} (hs : Sl W1 8 Imp.cs v L) (hn : L.length ≤ 1048576) (f : Imp → Nat → Nat) (E : World → Prop) (hE : ∀ w w', Fr w w' (fun j => j = kb) → (∃ e, Vk W1 kb S0 m e w) → E w → E w') (hEW : E W)
  (hone : ∀ x ∈ L, ∀ w, Vk W1 kb S0 m 0 w → E w → Calls Tryz.prog k (ar x) w fun en w' => VSays W1 kb S0 m w (f x 0) en w') (h1 : ∀ x ∈ L, (x.cs.toArray.all (·.oneCell')) = true) :
  Calls Tryz.prog 30 #[.pointer (some ⟨kb, 0, none⟩), v, .func (.func k) bs cap] W fun en w' => VSays W1 kb S0 m W (eachE f L e0) en w' := by
 refine (each_Imp (L := L) (fun A e w => Vk W1 kb S0 m e w ∧ Fr W w (fun j => j = kb) ∧ E w ∧ e = eachE f A e0) hk har (fun _ _ _ h => h.1.c13) (fun _ _ _ h => hs.later h.1.bel) (fun _ _ _ _ h hb => ⟨h.1.later hb, h.2.1.trans (Fr.of_below hb _), hE _ _ (Fr.of_below hb _) ⟨_, h.1⟩ h.2.2.1, h.2.2.2⟩) (fun A x R w hL h => ?_) ⟨h, Fr.refl _ _, hEW, rfl⟩ hn h1).mono ?_
 ·refine (hone x (by rw [hL]; simp) w h.1 h.2.2.1).mono ?_
  rintro en w' ⟨rfl, hv, hf⟩
  exact ⟨rfl, _, hv, h.2.1.trans hf, hE _ _ hf ⟨_, h.1⟩ h.2.2.1, (eachE_snoc x h.2.2.2.symm).symm⟩
 ·rintro en w' ⟨rfl, A, R, e, hL, ⟨hv, hf, _, he⟩, hR⟩
  refine ⟨rfl, ?_, hf⟩
  rcases hR with rfl | hR
  ·rw [hL, List.append_nil, ← he]
   exact hv
  ·rw [hL, eachE_app R (by rw [← he]; exact hR), ← he]
   exact hv
set_option maxRecDepth 100000 in
set_option maxHeartbeats 8000000 in
theorem each_Exp {W : World} {kb : Nat} {k : Nat} {bs cap : Array Value} {v : Value} {L : List Exp} (J : List Exp → Nat → World → Prop)
  (hk : EnterOk k) {ar : Exp → Array Value} (har : ∀ x, bs ++ #[.agg (x.cs).toArray] ++ cap = ar x) (hc : ∀ A e w, J A e w → w.cell? ⟨kb, 13, none⟩ = some (.int .i64 e)) (hs : ∀ A e w, J A e w → Sl w 3 Exp.cs v L) (hb : ∀ A e w w', J A e w → Below w.heap.size w w' → J A e w')
  (hone : ∀ A x R w, L = A ++ x :: R → J A 0 w → Calls Tryz.prog k (ar x) w fun en w' => en = .returned (.tuple #[]) ∧ ∃ e', J (A ++ [x]) e' w')
  {e0 : Nat} (hJ : J [] e0 W) (hn : L.length ≤ 1048576) (h1 : ∀ x ∈ L, (x.cs.toArray.all (·.oneCell')) = true) :
  Calls Tryz.prog 32 #[.pointer (some ⟨kb, 0, none⟩), v, .func (.func k) bs cap] W fun en w' => en = .returned (.tuple #[]) ∧ EachSays L J w' := by
 obtain ⟨s, cp, rfl, hsv⟩ := (hs _ _ _ hJ).form
 have HSV := zh hsv
 have HCE := zh hc
 have HSS := zh hs
 have HBB := zh hb
 have HON := zh hone
 have HJ := zh hJ
 have HK := zh hk
 have HAX := zh har
 have HO1 := zh h1
 clear hk har hsv hc hs hb hone hJ h1
 go_enter Tryz.func32, Tryz.ntmps32
 go_wp2_with fail
 go_loopw [10] (fun iv wr => ∃ A R e, L = A ++ R ∧ iv = .int .i64 A.length ∧ J A e wr)
  (fun iv _ => L.length - (Lib.intOf iv).toNat)
 case atStart => exact ⟨[], L, e0, rfl, rfl, HJ.out⟩
 case round =>
  obtain ⟨A, R, e, hAR, rfl, hj⟩ := hrel
  have HJ2 := zh hj
  have HAR := zh hAR
  clear hj hAR HJ
  obtain ⟨i, hi⟩ : ∃ i, i = A.length := ⟨_, rfl⟩
  rw [← hi]
  have HI := zh hi
  clear hi
  cases R with
  | nil =>
   have hlt : ¬ (i : Int) < (L.length : Int) := by rw [HI.out, HAR.out]; simp
   go_wp2_with fail
   go_end0
   exact ⟨rfl, A, [], e, HAR.out, HJ2.out, .inl rfl⟩
  | cons x R =>
   obtain ⟨hl1, hl2⟩ := len_app HAR.out
   rw [← HI.out] at hl1 hl2
   have hlt : (i : Int) < (L.length : Int) := by omega
   obtain ⟨g, off, rfl, _⟩ := HSV.out (by intro e; rw [e] at hl1; simp at hl1)
   have HRA := zh (Gr.sl_range (HSS.out _ _ _ HJ2.out) hl2)
   have HL2 := zh hl2
   clear hl2
   have c13 : wr.cell? ⟨kb, 13, none⟩ = some (.int .i64 e) := HCE.out _ _ _ HJ2.out
   by_cases he : e = 0
   ·subst he
    have HOX := zh (HO1.out x (List.mem_of_getElem? HL2.out))
    go_wp2_with (first | (refine wpList_load_mid rfl 61 _ rfl g (off + i * 3) rfl x.cs _ HRA.out Tryz.underlying61 rfl sizeExp ?_; (try simp only [Act.put, sA, sB, sC])) | (refine wl_put (Lies.new _ _ _) x.cs _ _ rfl rfl rfl rfl rfl sizeExp HOX.out (fun w8 hL8 hF8 => ?_); have hb8 : Below wr.heap.size wr w8 := below_put ((Below.refl wr.heap.size wr).alloc (Nat.le_refl _) _) hF8 (Nat.le_refl _); have HJ8 := zh (HBB.out _ _ _ _ HJ2.out hb8); have HX8 := zh hL8; obtain ⟨Bx, hBx⟩ : ∃ Bx, Bx = wr.heap.size := ⟨_, rfl⟩; rw [← hBx] at HX8 ⊢; clear c13; have c13 : w8.cell? ⟨kb, 13, none⟩ = some (.int .i64 (0 : Nat)) := HCE.out _ _ _ HJ8.out; clear hBx hL8 hF8 hb8; try simp only [Act.put]) | (refine wpList_load_mid rfl 61 _ rfl Bx 0 rfl x.cs _ (lies_range HX8.out) Tryz.underlying61 rfl sizeExp ?_; (try simp only [Act.put, sA, sB, sC])))
    refine upon_call HK.out (HAX.out x) ?_
    refine (HON.out A x R _ HAR.out HJ8.out).mono ?_
    rintro en w9 ⟨rfl, e', hj9⟩
    have HJ9 := zh hj9
    clear hj9 c13
    go_wp2_with fail
    exact ⟨⟨A ++ [x], R, e', by rw [HAR.out]; simp, by rw [List.length_append, ← HI.out, List.length_singleton]; go_num, HJ9.out⟩, by simp [Lib.intOf]; omega⟩
   ·have he1 : ¬ (e : Int) = 0 := by omega
    have he2 : ((e : Int) != 0) = true := by simpa using he
    have HE := zh he
    clear he
    have HOX := zh (HO1.out x (List.mem_of_getElem? HL2.out))
    go_wp2_with (first | (refine wpList_load_mid rfl 61 _ rfl g (off + i * 3) rfl x.cs _ HRA.out Tryz.underlying61 rfl sizeExp ?_; (try simp only [Act.put, sA, sB, sC])) | (refine wl_put (Lies.new _ _ _) x.cs _ _ rfl rfl rfl rfl rfl sizeExp HOX.out (fun w8 hL8 hF8 => ?_); have hb8 : Below wr.heap.size wr w8 := below_put ((Below.refl wr.heap.size wr).alloc (Nat.le_refl _) _) hF8 (Nat.le_refl _); have HJ8 := zh (HBB.out _ _ _ _ HJ2.out hb8); have HX8 := zh hL8; obtain ⟨Bx, hBx⟩ : ∃ Bx, Bx = wr.heap.size := ⟨_, rfl⟩; rw [← hBx] at HX8 ⊢; clear c13; have c13 : w8.cell? ⟨kb, 13, none⟩ = some (.int .i64 e) := HCE.out _ _ _ HJ8.out; clear hBx hL8 hF8 hb8; try simp only [Act.put]) | (refine wpList_load_mid rfl 61 _ rfl Bx 0 rfl x.cs _ (lies_range HX8.out) Tryz.underlying61 rfl sizeExp ?_; (try simp only [Act.put, sA, sB, sC])))
    (try simp only [Exit.inBlock, Exit.then])
    refine bodyPost_ret (results_none rfl _ _ _) rfl ?_
    exact ⟨rfl, A, x :: R, e, HAR.out, HJ8.out, .inr HE.out⟩
theorem every_Exp {W1 W : World} {kb S0 : Nat} {m : Mod} {e0 : Nat} (h : Vk W1 kb S0 m e0 W) {k : Nat} (hk : EnterOk k) {bs cap : Array Value} {ar : Exp → Array Value} (har : ∀ x, bs ++ #[.agg (x.cs).toArray] ++ cap = ar x) {v : Value} {L : List Exp} (hs : Sl W1 3 Exp.cs v L) (hn : L.length ≤ 1048576) (f : Exp → Nat → Nat) (E : World → Prop) (hE : ∀ w w', Fr w w' (fun j => j = kb) → (∃ e, Vk W1 kb S0 m e w) → E w → E w') (hEW : E W)
  (hone : ∀ x ∈ L, ∀ w, Vk W1 kb S0 m 0 w → E w → Calls Tryz.prog k (ar x) w fun en w' => VSays W1 kb S0 m w (f x 0) en w') (h1 : ∀ x ∈ L, (x.cs.toArray.all (·.oneCell')) = true) :
  Calls Tryz.prog 32 #[.pointer (some ⟨kb, 0, none⟩), v, .func (.func k) bs cap] W fun en w' => VSays W1 kb S0 m W (eachE f L e0) en w' := by
 refine (each_Exp (L := L) (fun A e w => Vk W1 kb S0 m e w ∧ Fr W w (fun j => j = kb) ∧ E w ∧ e = eachE f A e0) hk har (fun _ _ _ h => h.1.c13) (fun _ _ _ h => hs.later h.1.bel) (fun _ _ _ _ h hb => ⟨h.1.later hb, h.2.1.trans (Fr.of_below hb _), hE _ _ (Fr.of_below hb _) ⟨_, h.1⟩ h.2.2.1, h.2.2.2⟩) (fun A x R w hL h => ?_) ⟨h, Fr.refl _ _, hEW, rfl⟩ hn h1).mono ?_
 ·refine (hone x (by rw [hL]; simp) w h.1 h.2.2.1).mono ?_
  rintro en w' ⟨rfl, hv, hf⟩
  exact ⟨rfl, _, hv, h.2.1.trans hf, hE _ _ hf ⟨_, h.1⟩ h.2.2.1, (eachE_snoc x h.2.2.2.symm).symm⟩
 ·rintro en w' ⟨rfl, A, R, e, hL, ⟨hv, hf, _, he⟩, hR⟩
  refine ⟨rfl, ?_, hf⟩
  rcases hR with rfl | hR
  ·rw [hL, List.append_nil, ← he]
   exact hv
  ·rw [hL, eachE_app R (by rw [← he]; exact hR), ← he]
   exact hv
set_option maxRecDepth 100000 in
set_option maxHeartbeats 8000000 in
theorem each_Ft {W : World} {kb : Nat} {k : Nat} {bs cap : Array Value} {v : Value} {L : List Ft} (J : List Ft → Nat → World → Prop)
  (hk : EnterOk k) {ar : Ft → Array Value} (har : ∀ x, bs ++ #[.agg (x.cs).toArray] ++ cap = ar x) (hc : ∀ A e w, J A e w → w.cell? ⟨kb, 13, none⟩ = some (.int .i64 e)) (hs : ∀ A e w, J A e w → Sl w 2 Ft.cs v L) (hb : ∀ A e w w', J A e w → Below w.heap.size w w' → J A e w')
  (hone : ∀ A x R w, L = A ++ x :: R → J A 0 w → Calls Tryz.prog k (ar x) w fun en w' => en = .returned (.tuple #[]) ∧ ∃ e', J (A ++ [x]) e' w')
  {e0 : Nat} (hJ : J [] e0 W) (hn : L.length ≤ 1048576) (h1 : ∀ x ∈ L, (x.cs.toArray.all (·.oneCell')) = true) :
  Calls Tryz.prog 34 #[.pointer (some ⟨kb, 0, none⟩), v, .func (.func k) bs cap] W fun en w' => en = .returned (.tuple #[]) ∧ EachSays L J w' := by
 obtain ⟨s, cp, rfl, hsv⟩ := (hs _ _ _ hJ).form
 have HSV := zh hsv
 have HCE := zh hc
 have HSS := zh hs
 have HBB := zh hb
 have HON := zh hone
 have HJ := zh hJ
 have HK := zh hk
 have HAX := zh har
 have HO1 := zh h1
 clear hk har hsv hc hs hb hone hJ h1
 go_enter Tryz.func34, Tryz.ntmps34
 go_wp2_with fail
 go_loopw [10] (fun iv wr => ∃ A R e, L = A ++ R ∧ iv = .int .i64 A.length ∧ J A e wr)
  (fun iv _ => L.length - (Lib.intOf iv).toNat)
 case atStart => exact ⟨[], L, e0, rfl, rfl, HJ.out⟩
 case round =>
  obtain ⟨A, R, e, hAR, rfl, hj⟩ := hrel
  have HJ2 := zh hj
  have HAR := zh hAR
  clear hj hAR HJ
  obtain ⟨i, hi⟩ : ∃ i, i = A.length := ⟨_, rfl⟩
  rw [← hi]
  have HI := zh hi
  clear hi
  cases R with
  | nil =>
   have hlt : ¬ (i : Int) < (L.length : Int) := by rw [HI.out, HAR.out]; simp
   go_wp2_with fail
   go_end0
   exact ⟨rfl, A, [], e, HAR.out, HJ2.out, .inl rfl⟩
  | cons x R =>
   obtain ⟨hl1, hl2⟩ := len_app HAR.out
   rw [← HI.out] at hl1 hl2
   have hlt : (i : Int) < (L.length : Int) := by omega
   obtain ⟨g, off, rfl, _⟩ := HSV.out (by intro e; rw [e] at hl1; simp at hl1)
   have HRA := zh (Gr.sl_range (HSS.out _ _ _ HJ2.out) hl2)
   have HL2 := zh hl2
   clear hl2
   have c13 : wr.cell? ⟨kb, 13, none⟩ = some (.int .i64 e) := HCE.out _ _ _ HJ2.out
   by_cases he : e = 0
   ·subst he
    have HOX := zh (HO1.out x (List.mem_of_getElem? HL2.out))
    go_wp2_with (first | (refine wpList_load_mid rfl 51 _ rfl g (off + i * 2) rfl x.cs _ HRA.out Tryz.underlying51 rfl sizeFt ?_; (try simp only [Act.put, sA, sB, sC])) | (refine wl_put (Lies.new _ _ _) x.cs _ _ rfl rfl rfl rfl rfl sizeFt HOX.out (fun w8 hL8 hF8 => ?_); have hb8 : Below wr.heap.size wr w8 := below_put ((Below.refl wr.heap.size wr).alloc (Nat.le_refl _) _) hF8 (Nat.le_refl _); have HJ8 := zh (HBB.out _ _ _ _ HJ2.out hb8); have HX8 := zh hL8; obtain ⟨Bx, hBx⟩ : ∃ Bx, Bx = wr.heap.size := ⟨_, rfl⟩; rw [← hBx] at HX8 ⊢; clear c13; have c13 : w8.cell? ⟨kb, 13, none⟩ = some (.int .i64 (0 : Nat)) := HCE.out _ _ _ HJ8.out; clear hBx hL8 hF8 hb8; try simp only [Act.put]) | (refine wpList_load_mid rfl 51 _ rfl Bx 0 rfl x.cs _ (lies_range HX8.out) Tryz.underlying51 rfl sizeFt ?_; (try simp only [Act.put, sA, sB, sC])))
    refine upon_call HK.out (HAX.out x) ?_
    refine (HON.out A x R _ HAR.out HJ8.out).mono ?_
    rintro en w9 ⟨rfl, e', hj9⟩
    have HJ9 := zh hj9
    clear hj9 c13
    go_wp2_with fail
    exact ⟨⟨A ++ [x], R, e', by rw [HAR.out]; simp, by rw [List.length_append, ← HI.out, List.length_singleton]; go_num, HJ9.out⟩, by simp [Lib.intOf]; omega⟩
   ·have he1 : ¬ (e : Int) = 0 := by omega
    have he2 : ((e : Int) != 0) = true := by simpa using he
    have HE := zh he
    clear he
    have HOX := zh (HO1.out x (List.mem_of_getElem? HL2.out))
    go_wp2_with (first | (refine wpList_load_mid rfl 51 _ rfl g (off + i * 2) rfl x.cs _ HRA.out Tryz.underlying51 rfl sizeFt ?_; (try simp only [Act.put, sA, sB, sC])) | (refine wl_put (Lies.new _ _ _) x.cs _ _ rfl rfl rfl rfl rfl sizeFt HOX.out (fun w8 hL8 hF8 => ?_); have hb8 : Below wr.heap.size wr w8 := below_put ((Below.refl wr.heap.size wr).alloc (Nat.le_refl _) _) hF8 (Nat.le_refl _); have HJ8 := zh (HBB.out _ _ _ _ HJ2.out hb8); have HX8 := zh hL8; obtain ⟨Bx, hBx⟩ : ∃ Bx, Bx = wr.heap.size := ⟨_, rfl⟩; rw [← hBx] at HX8 ⊢; clear c13; have c13 : w8.cell? ⟨kb, 13, none⟩ = some (.int .i64 e) := HCE.out _ _ _ HJ8.out; clear hBx hL8 hF8 hb8; try simp only [Act.put]) | (refine wpList_load_mid rfl 51 _ rfl Bx 0 rfl x.cs _ (lies_range HX8.out) Tryz.underlying51 rfl sizeFt ?_; (try simp only [Act.put, sA, sB, sC])))
    (try simp only [Exit.inBlock, Exit.then])
    refine bodyPost_ret (results_none rfl _ _ _) rfl ?_
    exact ⟨rfl, A, x :: R, e, HAR.out, HJ8.out, .inr HE.out⟩
theorem every_Ft {W1 W : World} {kb S0 : Nat} {m : Mod} {e0 : Nat} (h : Vk W1 kb S0 m e0 W) {k : Nat} (hk : EnterOk k) {bs cap : Array Value} {ar : Ft → Array Value} (har : ∀ x, bs ++ #[.agg (x.cs).toArray] ++ cap = ar x) {v : Value} {L : List Ft} (hs : Sl W1 2 Ft.cs v L) (hn : L.length ≤ 1048576) (f : Ft → Nat → Nat) (E : World → Prop) (hE : ∀ w w', Fr w w' (fun j => j = kb) → (∃ e, Vk W1 kb S0 m e w) → E w → E w') (hEW : E W)
  (hone : ∀ x ∈ L, ∀ w, Vk W1 kb S0 m 0 w → E w → Calls Tryz.prog k (ar x) w fun en w' => VSays W1 kb S0 m w (f x 0) en w') (h1 : ∀ x ∈ L, (x.cs.toArray.all (·.oneCell')) = true) :
  Calls Tryz.prog 34 #[.pointer (some ⟨kb, 0, none⟩), v, .func (.func k) bs cap] W fun en w' => VSays W1 kb S0 m W (eachE f L e0) en w' := by
 refine (each_Ft (L := L) (fun A e w => Vk W1 kb S0 m e w ∧ Fr W w (fun j => j = kb) ∧ E w ∧ e = eachE f A e0) hk har (fun _ _ _ h => h.1.c13) (fun _ _ _ h => hs.later h.1.bel) (fun _ _ _ _ h hb => ⟨h.1.later hb, h.2.1.trans (Fr.of_below hb _), hE _ _ (Fr.of_below hb _) ⟨_, h.1⟩ h.2.2.1, h.2.2.2⟩) (fun A x R w hL h => ?_) ⟨h, Fr.refl _ _, hEW, rfl⟩ hn h1).mono ?_
 ·refine (hone x (by rw [hL]; simp) w h.1 h.2.2.1).mono ?_
  rintro en w' ⟨rfl, hv, hf⟩
  exact ⟨rfl, _, hv, h.2.1.trans hf, hE _ _ hf ⟨_, h.1⟩ h.2.2.1, (eachE_snoc x h.2.2.2.symm).symm⟩
 ·rintro en w' ⟨rfl, A, R, e, hL, ⟨hv, hf, _, he⟩, hR⟩
  refine ⟨rfl, ?_, hf⟩
  rcases hR with rfl | hR
  ·rw [hL, List.append_nil, ← he]
   exact hv
  ·rw [hL, eachE_app R (by rw [← he]; exact hR), ← he]
   exact hv
set_option maxRecDepth 100000 in
set_option maxHeartbeats 8000000 in
theorem each_Glb {W : World} {kb : Nat} {k : Nat} {bs cap : Array Value} {v : Value} {L : List Glb} (J : List Glb → Nat → World → Prop)
  (hk : EnterOk k) {ar : Glb → Array Value} (har : ∀ x, bs ++ #[.agg (x.cs).toArray] ++ cap = ar x) (hc : ∀ A e w, J A e w → w.cell? ⟨kb, 13, none⟩ = some (.int .i64 e)) (hs : ∀ A e w, J A e w → Sl w 3 Glb.cs v L) (hb : ∀ A e w w', J A e w → Below w.heap.size w w' → J A e w')
  (hone : ∀ A x R w, L = A ++ x :: R → J A 0 w → Calls Tryz.prog k (ar x) w fun en w' => en = .returned (.tuple #[]) ∧ ∃ e', J (A ++ [x]) e' w')
  {e0 : Nat} (hJ : J [] e0 W) (hn : L.length ≤ 1048576) (h1 : ∀ x ∈ L, (x.cs.toArray.all (·.oneCell')) = true) :
  Calls Tryz.prog 41 #[.pointer (some ⟨kb, 0, none⟩), v, .func (.func k) bs cap] W fun en w' => en = .returned (.tuple #[]) ∧ EachSays L J w' := by
 obtain ⟨s, cp, rfl, hsv⟩ := (hs _ _ _ hJ).form
 have HSV := zh hsv
 have HCE := zh hc
 have HSS := zh hs
 have HBB := zh hb
 have HON := zh hone
 have HJ := zh hJ
 have HK := zh hk
 have HAX := zh har
 have HO1 := zh h1
 clear hk har hsv hc hs hb hone hJ h1
 go_enter Tryz.func41, Tryz.ntmps41
 go_wp2_with fail
 go_loopw [10] (fun iv wr => ∃ A R e, L = A ++ R ∧ iv = .int .i64 A.length ∧ J A e wr)
  (fun iv _ => L.length - (Lib.intOf iv).toNat)
 case atStart => exact ⟨[], L, e0, rfl, rfl, HJ.out⟩
 case round =>
  obtain ⟨A, R, e, hAR, rfl, hj⟩ := hrel
  have HJ2 := zh hj
  have HAR := zh hAR
  clear hj hAR HJ
  obtain ⟨i, hi⟩ : ∃ i, i = A.length := ⟨_, rfl⟩
  rw [← hi]
  have HI := zh hi
  clear hi
  cases R with
  | nil =>
   have hlt : ¬ (i : Int) < (L.length : Int) := by rw [HI.out, HAR.out]; simp
   go_wp2_with fail
   go_end0
   exact ⟨rfl, A, [], e, HAR.out, HJ2.out, .inl rfl⟩
  | cons x R =>
   obtain ⟨hl1, hl2⟩ := len_app HAR.out
   rw [← HI.out] at hl1 hl2
   have hlt : (i : Int) < (L.length : Int) := by omega
   obtain ⟨g, off, rfl, _⟩ := HSV.out (by intro e; rw [e] at hl1; simp at hl1)
   have HRA := zh (Gr.sl_range (HSS.out _ _ _ HJ2.out) hl2)
   have HL2 := zh hl2
   clear hl2
   have c13 : wr.cell? ⟨kb, 13, none⟩ = some (.int .i64 e) := HCE.out _ _ _ HJ2.out
   by_cases he : e = 0
   ·subst he
    have HOX := zh (HO1.out x (List.mem_of_getElem? HL2.out))
    go_wp2_with (first | (refine wpList_load_mid rfl 80 _ rfl g (off + i * 3) rfl x.cs _ HRA.out Tryz.underlying80 rfl sizeGlb ?_; (try simp only [Act.put, sA, sB, sC])) | (refine wl_put (Lies.new _ _ _) x.cs _ _ rfl rfl rfl rfl rfl sizeGlb HOX.out (fun w8 hL8 hF8 => ?_); have hb8 : Below wr.heap.size wr w8 := below_put ((Below.refl wr.heap.size wr).alloc (Nat.le_refl _) _) hF8 (Nat.le_refl _); have HJ8 := zh (HBB.out _ _ _ _ HJ2.out hb8); have HX8 := zh hL8; obtain ⟨Bx, hBx⟩ : ∃ Bx, Bx = wr.heap.size := ⟨_, rfl⟩; rw [← hBx] at HX8 ⊢; clear c13; have c13 : w8.cell? ⟨kb, 13, none⟩ = some (.int .i64 (0 : Nat)) := HCE.out _ _ _ HJ8.out; clear hBx hL8 hF8 hb8; try simp only [Act.put]) | (refine wpList_load_mid rfl 80 _ rfl Bx 0 rfl x.cs _ (lies_range HX8.out) Tryz.underlying80 rfl sizeGlb ?_; (try simp only [Act.put, sA, sB, sC])))
    refine upon_call HK.out (HAX.out x) ?_
    refine (HON.out A x R _ HAR.out HJ8.out).mono ?_
    rintro en w9 ⟨rfl, e', hj9⟩
    have HJ9 := zh hj9
    clear hj9 c13
    go_wp2_with fail
    exact ⟨⟨A ++ [x], R, e', by rw [HAR.out]; simp, by rw [List.length_append, ← HI.out, List.length_singleton]; go_num, HJ9.out⟩, by simp [Lib.intOf]; omega⟩
   ·have he1 : ¬ (e : Int) = 0 := by omega
    have he2 : ((e : Int) != 0) = true := by simpa using he
    have HE := zh he
    clear he
    have HOX := zh (HO1.out x (List.mem_of_getElem? HL2.out))
    go_wp2_with (first | (refine wpList_load_mid rfl 80 _ rfl g (off + i * 3) rfl x.cs _ HRA.out Tryz.underlying80 rfl sizeGlb ?_; (try simp only [Act.put, sA, sB, sC])) | (refine wl_put (Lies.new _ _ _) x.cs _ _ rfl rfl rfl rfl rfl sizeGlb HOX.out (fun w8 hL8 hF8 => ?_); have hb8 : Below wr.heap.size wr w8 := below_put ((Below.refl wr.heap.size wr).alloc (Nat.le_refl _) _) hF8 (Nat.le_refl _); have HJ8 := zh (HBB.out _ _ _ _ HJ2.out hb8); have HX8 := zh hL8; obtain ⟨Bx, hBx⟩ : ∃ Bx, Bx = wr.heap.size := ⟨_, rfl⟩; rw [← hBx] at HX8 ⊢; clear c13; have c13 : w8.cell? ⟨kb, 13, none⟩ = some (.int .i64 e) := HCE.out _ _ _ HJ8.out; clear hBx hL8 hF8 hb8; try simp only [Act.put]) | (refine wpList_load_mid rfl 80 _ rfl Bx 0 rfl x.cs _ (lies_range HX8.out) Tryz.underlying80 rfl sizeGlb ?_; (try simp only [Act.put, sA, sB, sC])))
    (try simp only [Exit.inBlock, Exit.then])
    refine bodyPost_ret (results_none rfl _ _ _) rfl ?_
    exact ⟨rfl, A, x :: R, e, HAR.out, HJ8.out, .inr HE.out⟩
theorem every_Glb {W1 W : World} {kb S0 : Nat} {m : Mod} {e0 : Nat} (h : Vk W1 kb S0 m e0 W) {k : Nat} (hk : EnterOk k) {bs cap : Array Value} {ar : Glb → Array Value} (har : ∀ x, bs ++ #[.agg (x.cs).toArray] ++ cap = ar x) {v : Value} {L : List Glb} (hs : Sl W1 3 Glb.cs v L) (hn : L.length ≤ 1048576) (f : Glb → Nat → Nat) (E : World → Prop) (hE : ∀ w w', Fr w w' (fun j => j = kb) → (∃ e, Vk W1 kb S0 m e w) → E w → E w') (hEW : E W)
  (hone : ∀ x ∈ L, ∀ w, Vk W1 kb S0 m 0 w → E w → Calls Tryz.prog k (ar x) w fun en w' => VSays W1 kb S0 m w (f x 0) en w') (h1 : ∀ x ∈ L, (x.cs.toArray.all (·.oneCell')) = true) :
  Calls Tryz.prog 41 #[.pointer (some ⟨kb, 0, none⟩), v, .func (.func k) bs cap] W fun en w' => VSays W1 kb S0 m W (eachE f L e0) en w' := by
 refine (each_Glb (L := L) (fun A e w => Vk W1 kb S0 m e w ∧ Fr W w (fun j => j = kb) ∧ E w ∧ e = eachE f A e0) hk har (fun _ _ _ h => h.1.c13) (fun _ _ _ h => hs.later h.1.bel) (fun _ _ _ _ h hb => ⟨h.1.later hb, h.2.1.trans (Fr.of_below hb _), hE _ _ (Fr.of_below hb _) ⟨_, h.1⟩ h.2.2.1, h.2.2.2⟩) (fun A x R w hL h => ?_) ⟨h, Fr.refl _ _, hEW, rfl⟩ hn h1).mono ?_
 ·refine (hone x (by rw [hL]; simp) w h.1 h.2.2.1).mono ?_
  rintro en w' ⟨rfl, hv, hf⟩
  exact ⟨rfl, _, hv, h.2.1.trans hf, hE _ _ hf ⟨_, h.1⟩ h.2.2.1, (eachE_snoc x h.2.2.2.symm).symm⟩
 ·rintro en w' ⟨rfl, A, R, e, hL, ⟨hv, hf, _, he⟩, hR⟩
  refine ⟨rfl, ?_, hf⟩
  rcases hR with rfl | hR
  ·rw [hL, List.append_nil, ← he]
   exact hv
  ·rw [hL, eachE_app R (by rw [← he]; exact hR), ← he]
   exact hv
set_option maxRecDepth 100000 in
set_option maxHeartbeats 8000000 in
theorem each_Elm {W : World} {kb : Nat} {k : Nat} {bs cap : Array Value} {v : Value} {L : List Elm} (J : List Elm → Nat → World → Prop)
  (hk : EnterOk k) {ar : Elm → Array Value} (har : ∀ x, bs ++ #[.agg (x.cs).toArray] ++ cap = ar x) (hc : ∀ A e w, J A e w → w.cell? ⟨kb, 13, none⟩ = some (.int .i64 e)) (hs : ∀ A e w, J A e w → Sl w 3 Elm.cs v L) (hb : ∀ A e w w', J A e w → Below w.heap.size w w' → J A e w')
  (hone : ∀ A x R w, L = A ++ x :: R → J A 0 w → Calls Tryz.prog k (ar x) w fun en w' => en = .returned (.tuple #[]) ∧ ∃ e', J (A ++ [x]) e' w')
  {e0 : Nat} (hJ : J [] e0 W) (hn : L.length ≤ 1048576) (h1 : ∀ x ∈ L, (x.cs.toArray.all (·.oneCell')) = true) :
  Calls Tryz.prog 46 #[.pointer (some ⟨kb, 0, none⟩), v, .func (.func k) bs cap] W fun en w' => en = .returned (.tuple #[]) ∧ EachSays L J w' := by
 obtain ⟨s, cp, rfl, hsv⟩ := (hs _ _ _ hJ).form
 have HSV := zh hsv
 have HCE := zh hc
 have HSS := zh hs
 have HBB := zh hb
 have HON := zh hone
 have HJ := zh hJ
 have HK := zh hk
 have HAX := zh har
 have HO1 := zh h1
 clear hk har hsv hc hs hb hone hJ h1
 go_enter Tryz.func46, Tryz.ntmps46
 go_wp2_with fail
 go_loopw [10] (fun iv wr => ∃ A R e, L = A ++ R ∧ iv = .int .i64 A.length ∧ J A e wr)
  (fun iv _ => L.length - (Lib.intOf iv).toNat)
 case atStart => exact ⟨[], L, e0, rfl, rfl, HJ.out⟩
 case round =>
  obtain ⟨A, R, e, hAR, rfl, hj⟩ := hrel
  have HJ2 := zh hj
  have HAR := zh hAR
  clear hj hAR HJ
  obtain ⟨i, hi⟩ : ∃ i, i = A.length := ⟨_, rfl⟩
  rw [← hi]
  have HI := zh hi
  clear hi
  cases R with
  | nil =>
   have hlt : ¬ (i : Int) < (L.length : Int) := by rw [HI.out, HAR.out]; simp
   go_wp2_with fail
   go_end0
   exact ⟨rfl, A, [], e, HAR.out, HJ2.out, .inl rfl⟩
  | cons x R =>
   obtain ⟨hl1, hl2⟩ := len_app HAR.out
   rw [← HI.out] at hl1 hl2
   have hlt : (i : Int) < (L.length : Int) := by omega
   obtain ⟨g, off, rfl, _⟩ := HSV.out (by intro e; rw [e] at hl1; simp at hl1)
   have HRA := zh (Gr.sl_range (HSS.out _ _ _ HJ2.out) hl2)
   have HL2 := zh hl2
   clear hl2
   have c13 : wr.cell? ⟨kb, 13, none⟩ = some (.int .i64 e) := HCE.out _ _ _ HJ2.out
   by_cases he : e = 0
   ·subst he
    have HOX := zh (HO1.out x (List.mem_of_getElem? HL2.out))
    go_wp2_with (first | (refine wpList_load_mid rfl 59 _ rfl g (off + i * 3) rfl x.cs _ HRA.out Tryz.underlying59 rfl sizeElm ?_; (try simp only [Act.put, sA, sB, sC])) | (refine wl_put (Lies.new _ _ _) x.cs _ _ rfl rfl rfl rfl rfl sizeElm HOX.out (fun w8 hL8 hF8 => ?_); have hb8 : Below wr.heap.size wr w8 := below_put ((Below.refl wr.heap.size wr).alloc (Nat.le_refl _) _) hF8 (Nat.le_refl _); have HJ8 := zh (HBB.out _ _ _ _ HJ2.out hb8); have HX8 := zh hL8; obtain ⟨Bx, hBx⟩ : ∃ Bx, Bx = wr.heap.size := ⟨_, rfl⟩; rw [← hBx] at HX8 ⊢; clear c13; have c13 : w8.cell? ⟨kb, 13, none⟩ = some (.int .i64 (0 : Nat)) := HCE.out _ _ _ HJ8.out; clear hBx hL8 hF8 hb8; try simp only [Act.put]) | (refine wpList_load_mid rfl 59 _ rfl Bx 0 rfl x.cs _ (lies_range HX8.out) Tryz.underlying59 rfl sizeElm ?_; (try simp only [Act.put, sA, sB, sC])))
    refine upon_call HK.out (HAX.out x) ?_
    refine (HON.out A x R _ HAR.out HJ8.out).mono ?_
    rintro en w9 ⟨rfl, e', hj9⟩
    have HJ9 := zh hj9
    clear hj9 c13
    go_wp2_with fail
    exact ⟨⟨A ++ [x], R, e', by rw [HAR.out]; simp, by rw [List.length_append, ← HI.out, List.length_singleton]; go_num, HJ9.out⟩, by simp [Lib.intOf]; omega⟩
   ·have he1 : ¬ (e : Int) = 0 := by omega
    have he2 : ((e : Int) != 0) = true := by simpa using he
    have HE := zh he
    clear he
    have HOX := zh (HO1.out x (List.mem_of_getElem? HL2.out))
    go_wp2_with (first | (refine wpList_load_mid rfl 59 _ rfl g (off + i * 3) rfl x.cs _ HRA.out Tryz.underlying59 rfl sizeElm ?_; (try simp only [Act.put, sA, sB, sC])) | (refine wl_put (Lies.new _ _ _) x.cs _ _ rfl rfl rfl rfl rfl sizeElm HOX.out (fun w8 hL8 hF8 => ?_); have hb8 : Below wr.heap.size wr w8 := below_put ((Below.refl wr.heap.size wr).alloc (Nat.le_refl _) _) hF8 (Nat.le_refl _); have HJ8 := zh (HBB.out _ _ _ _ HJ2.out hb8); have HX8 := zh hL8; obtain ⟨Bx, hBx⟩ : ∃ Bx, Bx = wr.heap.size := ⟨_, rfl⟩; rw [← hBx] at HX8 ⊢; clear c13; have c13 : w8.cell? ⟨kb, 13, none⟩ = some (.int .i64 e) := HCE.out _ _ _ HJ8.out; clear hBx hL8 hF8 hb8; try simp only [Act.put]) | (refine wpList_load_mid rfl 59 _ rfl Bx 0 rfl x.cs _ (lies_range HX8.out) Tryz.underlying59 rfl sizeElm ?_; (try simp only [Act.put, sA, sB, sC])))
    (try simp only [Exit.inBlock, Exit.then])
    refine bodyPost_ret (results_none rfl _ _ _) rfl ?_
    exact ⟨rfl, A, x :: R, e, HAR.out, HJ8.out, .inr HE.out⟩
theorem every_Elm {W1 W : World} {kb S0 : Nat} {m : Mod} {e0 : Nat} (h : Vk W1 kb S0 m e0 W) {k : Nat} (hk : EnterOk k) {bs cap : Array Value} {ar : Elm → Array Value} (har : ∀ x, bs ++ #[.agg (x.cs).toArray] ++ cap = ar x) {v : Value} {L : List Elm} (hs : Sl W1 3 Elm.cs v L) (hn : L.length ≤ 1048576) (f : Elm → Nat → Nat) (E : World → Prop) (hE : ∀ w w', Fr w w' (fun j => j = kb) → (∃ e, Vk W1 kb S0 m e w) → E w → E w') (hEW : E W)
  (hone : ∀ x ∈ L, ∀ w, Vk W1 kb S0 m 0 w → E w → Calls Tryz.prog k (ar x) w fun en w' => VSays W1 kb S0 m w (f x 0) en w') (h1 : ∀ x ∈ L, (x.cs.toArray.all (·.oneCell')) = true) :
  Calls Tryz.prog 46 #[.pointer (some ⟨kb, 0, none⟩), v, .func (.func k) bs cap] W fun en w' => VSays W1 kb S0 m W (eachE f L e0) en w' := by
 refine (each_Elm (L := L) (fun A e w => Vk W1 kb S0 m e w ∧ Fr W w (fun j => j = kb) ∧ E w ∧ e = eachE f A e0) hk har (fun _ _ _ h => h.1.c13) (fun _ _ _ h => hs.later h.1.bel) (fun _ _ _ _ h hb => ⟨h.1.later hb, h.2.1.trans (Fr.of_below hb _), hE _ _ (Fr.of_below hb _) ⟨_, h.1⟩ h.2.2.1, h.2.2.2⟩) (fun A x R w hL h => ?_) ⟨h, Fr.refl _ _, hEW, rfl⟩ hn h1).mono ?_
 ·refine (hone x (by rw [hL]; simp) w h.1 h.2.2.1).mono ?_
  rintro en w' ⟨rfl, hv, hf⟩
  exact ⟨rfl, _, hv, h.2.1.trans hf, hE _ _ hf ⟨_, h.1⟩ h.2.2.1, (eachE_snoc x h.2.2.2.symm).symm⟩
 ·rintro en w' ⟨rfl, A, R, e, hL, ⟨hv, hf, _, he⟩, hR⟩
  refine ⟨rfl, ?_, hf⟩
  rcases hR with rfl | hR
  ·rw [hL, List.append_nil, ← he]
   exact hv
  ·rw [hL, eachE_app R (by rw [← he]; exact hR), ← he]
   exact hv
set_option maxRecDepth 100000 in
set_option maxHeartbeats 8000000 in
theorem each_Cod {W : World} {kb : Nat} {k : Nat} {bs cap : Array Value} {v : Value} {L : List Cod} (J : List Cod → Nat → World → Prop)
  (hk : EnterOk k) {ar : Cod → Array Value} (har : ∀ x, bs ++ #[.agg (x.cs).toArray] ++ cap = ar x) (hc : ∀ A e w, J A e w → w.cell? ⟨kb, 13, none⟩ = some (.int .i64 e)) (hs : ∀ A e w, J A e w → Sl w 2 Cod.cs v L) (hb : ∀ A e w w', J A e w → Below w.heap.size w w' → J A e w')
  (hone : ∀ A x R w, L = A ++ x :: R → J A 0 w → Calls Tryz.prog k (ar x) w fun en w' => en = .returned (.tuple #[]) ∧ ∃ e', J (A ++ [x]) e' w')
  {e0 : Nat} (hJ : J [] e0 W) (hn : L.length ≤ 1048576) (h1 : ∀ x ∈ L, (x.cs.toArray.all (·.oneCell')) = true) :
  Calls Tryz.prog 50 #[.pointer (some ⟨kb, 0, none⟩), v, .func (.func k) bs cap] W fun en w' => en = .returned (.tuple #[]) ∧ EachSays L J w' := by
 obtain ⟨s, cp, rfl, hsv⟩ := (hs _ _ _ hJ).form
 have HSV := zh hsv
 have HCE := zh hc
 have HSS := zh hs
 have HBB := zh hb
 have HON := zh hone
 have HJ := zh hJ
 have HK := zh hk
 have HAX := zh har
 have HO1 := zh h1
 clear hk har hsv hc hs hb hone hJ h1
 go_enter Tryz.func50, Tryz.ntmps50
 go_wp2_with fail
 go_loopw [10] (fun iv wr => ∃ A R e, L = A ++ R ∧ iv = .int .i64 A.length ∧ J A e wr)
  (fun iv _ => L.length - (Lib.intOf iv).toNat)
 case atStart => exact ⟨[], L, e0, rfl, rfl, HJ.out⟩
 case round =>
  obtain ⟨A, R, e, hAR, rfl, hj⟩ := hrel
  have HJ2 := zh hj
  have HAR := zh hAR
  clear hj hAR HJ
  obtain ⟨i, hi⟩ : ∃ i, i = A.length := ⟨_, rfl⟩
  rw [← hi]
  have HI := zh hi
  clear hi
  cases R with
  | nil =>
   have hlt : ¬ (i : Int) < (L.length : Int) := by rw [HI.out, HAR.out]; simp
   go_wp2_with fail
   go_end0
   exact ⟨rfl, A, [], e, HAR.out, HJ2.out, .inl rfl⟩
  | cons x R =>
   obtain ⟨hl1, hl2⟩ := len_app HAR.out
   rw [← HI.out] at hl1 hl2
   have hlt : (i : Int) < (L.length : Int) := by omega
   obtain ⟨g, off, rfl, _⟩ := HSV.out (by intro e; rw [e] at hl1; simp at hl1)
   have HRA := zh (Gr.sl_range (HSS.out _ _ _ HJ2.out) hl2)
   have HL2 := zh hl2
   clear hl2
   have c13 : wr.cell? ⟨kb, 13, none⟩ = some (.int .i64 e) := HCE.out _ _ _ HJ2.out
   by_cases he : e = 0
   ·subst he
    have HOX := zh (HO1.out x (List.mem_of_getElem? HL2.out))
    go_wp2_with (first | (refine wpList_load_mid rfl 48 _ rfl g (off + i * 2) rfl x.cs _ HRA.out Tryz.underlying48 rfl sizeCod ?_; (try simp only [Act.put, sA, sB, sC])) | (refine wl_put (Lies.new _ _ _) x.cs _ _ rfl rfl rfl rfl rfl sizeCod HOX.out (fun w8 hL8 hF8 => ?_); have hb8 : Below wr.heap.size wr w8 := below_put ((Below.refl wr.heap.size wr).alloc (Nat.le_refl _) _) hF8 (Nat.le_refl _); have HJ8 := zh (HBB.out _ _ _ _ HJ2.out hb8); have HX8 := zh hL8; obtain ⟨Bx, hBx⟩ : ∃ Bx, Bx = wr.heap.size := ⟨_, rfl⟩; rw [← hBx] at HX8 ⊢; clear c13; have c13 : w8.cell? ⟨kb, 13, none⟩ = some (.int .i64 (0 : Nat)) := HCE.out _ _ _ HJ8.out; clear hBx hL8 hF8 hb8; try simp only [Act.put]) | (refine wpList_load_mid rfl 48 _ rfl Bx 0 rfl x.cs _ (lies_range HX8.out) Tryz.underlying48 rfl sizeCod ?_; (try simp only [Act.put, sA, sB, sC])))
    refine upon_call HK.out (HAX.out x) ?_
    refine (HON.out A x R _ HAR.out HJ8.out).mono ?_
    rintro en w9 ⟨rfl, e', hj9⟩
    have HJ9 := zh hj9
    clear hj9 c13
    go_wp2_with fail
    exact ⟨⟨A ++ [x], R, e', by rw [HAR.out]; simp, by rw [List.length_append, ← HI.out, List.length_singleton]; go_num, HJ9.out⟩, by simp [Lib.intOf]; omega⟩
   ·have he1 : ¬ (e : Int) = 0 := by omega
    have he2 : ((e : Int) != 0) = true := by simpa using he
    have HE := zh he
    clear he
    have HOX := zh (HO1.out x (List.mem_of_getElem? HL2.out))
    go_wp2_with (first | (refine wpList_load_mid rfl 48 _ rfl g (off + i * 2) rfl x.cs _ HRA.out Tryz.underlying48 rfl sizeCod ?_; (try simp only [Act.put, sA, sB, sC])) | (refine wl_put (Lies.new _ _ _) x.cs _ _ rfl rfl rfl rfl rfl sizeCod HOX.out (fun w8 hL8 hF8 => ?_); have hb8 : Below wr.heap.size wr w8 := below_put ((Below.refl wr.heap.size wr).alloc (Nat.le_refl _) _) hF8 (Nat.le_refl _); have HJ8 := zh (HBB.out _ _ _ _ HJ2.out hb8); have HX8 := zh hL8; obtain ⟨Bx, hBx⟩ : ∃ Bx, Bx = wr.heap.size := ⟨_, rfl⟩; rw [← hBx] at HX8 ⊢; clear c13; have c13 : w8.cell? ⟨kb, 13, none⟩ = some (.int .i64 e) := HCE.out _ _ _ HJ8.out; clear hBx hL8 hF8 hb8; try simp only [Act.put]) | (refine wpList_load_mid rfl 48 _ rfl Bx 0 rfl x.cs _ (lies_range HX8.out) Tryz.underlying48 rfl sizeCod ?_; (try simp only [Act.put, sA, sB, sC])))
    (try simp only [Exit.inBlock, Exit.then])
    refine bodyPost_ret (results_none rfl _ _ _) rfl ?_
    exact ⟨rfl, A, x :: R, e, HAR.out, HJ8.out, .inr HE.out⟩
set_option maxRecDepth 100000 in
set_option maxHeartbeats 8000000 in
theorem each_Dat {W : World} {kb : Nat} {k : Nat} {bs cap : Array Value} {v : Value} {L : List Dat} (J : List Dat → Nat → World → Prop)
  (hk : EnterOk k) {ar : Dat → Array Value} (har : ∀ x, bs ++ #[.agg (x.cs).toArray] ++ cap = ar x) (hc : ∀ A e w, J A e w → w.cell? ⟨kb, 13, none⟩ = some (.int .i64 e)) (hs : ∀ A e w, J A e w → Sl w 3 Dat.cs v L) (hb : ∀ A e w w', J A e w → Below w.heap.size w w' → J A e w')
  (hone : ∀ A x R w, L = A ++ x :: R → J A 0 w → Calls Tryz.prog k (ar x) w fun en w' => en = .returned (.tuple #[]) ∧ ∃ e', J (A ++ [x]) e' w')
  {e0 : Nat} (hJ : J [] e0 W) (hn : L.length ≤ 1048576) (h1 : ∀ x ∈ L, (x.cs.toArray.all (·.oneCell')) = true) :
  Calls Tryz.prog 52 #[.pointer (some ⟨kb, 0, none⟩), v, .func (.func k) bs cap] W fun en w' => en = .returned (.tuple #[]) ∧ EachSays L J w' := by
 obtain ⟨s, cp, rfl, hsv⟩ := (hs _ _ _ hJ).form
 have HSV := zh hsv
 have HCE := zh hc
 have HSS := zh hs
 have HBB := zh hb
 have HON := zh hone
 have HJ := zh hJ
 have HK := zh hk
 have HAX := zh har
 have HO1 := zh h1
 clear hk har hsv hc hs hb hone hJ h1
 go_enter Tryz.func52, Tryz.ntmps52
 go_wp2_with fail
 go_loopw [10] (fun iv wr => ∃ A R e, L = A ++ R ∧ iv = .int .i64 A.length ∧ J A e wr)
  (fun iv _ => L.length - (Lib.intOf iv).toNat)
 case atStart => exact ⟨[], L, e0, rfl, rfl, HJ.out⟩
 case round =>
  obtain ⟨A, R, e, hAR, rfl, hj⟩ := hrel
  have HJ2 := zh hj
  have HAR := zh hAR
  clear hj hAR HJ
  obtain ⟨i, hi⟩ : ∃ i, i = A.length := ⟨_, rfl⟩
  rw [← hi]
  have HI := zh hi
  clear hi
  cases R with
  | nil =>
   have hlt : ¬ (i : Int) < (L.length : Int) := by rw [HI.out, HAR.out]; simp
   go_wp2_with fail
   go_end0
   exact ⟨rfl, A, [], e, HAR.out, HJ2.out, .inl rfl⟩
  | cons x R =>
   obtain ⟨hl1, hl2⟩ := len_app HAR.out
   rw [← HI.out] at hl1 hl2
   have hlt : (i : Int) < (L.length : Int) := by omega
   obtain ⟨g, off, rfl, _⟩ := HSV.out (by intro e; rw [e] at hl1; simp at hl1)
   have HRA := zh (Gr.sl_range (HSS.out _ _ _ HJ2.out) hl2)
   have HL2 := zh hl2
   clear hl2
   have c13 : wr.cell? ⟨kb, 13, none⟩ = some (.int .i64 e) := HCE.out _ _ _ HJ2.out
   by_cases he : e = 0
   ·subst he
    have HOX := zh (HO1.out x (List.mem_of_getElem? HL2.out))
    go_wp2_with (first | (refine wpList_load_mid rfl 114 _ rfl g (off + i * 3) rfl x.cs _ HRA.out Tryz.underlying114 rfl sizeDat ?_; (try simp only [Act.put, sA, sB, sC])) | (refine wl_put (Lies.new _ _ _) x.cs _ _ rfl rfl rfl rfl rfl sizeDat HOX.out (fun w8 hL8 hF8 => ?_); have hb8 : Below wr.heap.size wr w8 := below_put ((Below.refl wr.heap.size wr).alloc (Nat.le_refl _) _) hF8 (Nat.le_refl _); have HJ8 := zh (HBB.out _ _ _ _ HJ2.out hb8); have HX8 := zh hL8; obtain ⟨Bx, hBx⟩ : ∃ Bx, Bx = wr.heap.size := ⟨_, rfl⟩; rw [← hBx] at HX8 ⊢; clear c13; have c13 : w8.cell? ⟨kb, 13, none⟩ = some (.int .i64 (0 : Nat)) := HCE.out _ _ _ HJ8.out; clear hBx hL8 hF8 hb8; try simp only [Act.put]) | (refine wpList_load_mid rfl 114 _ rfl Bx 0 rfl x.cs _ (lies_range HX8.out) Tryz.underlying114 rfl sizeDat ?_; (try simp only [Act.put, sA, sB, sC])))
    refine upon_call HK.out (HAX.out x) ?_
    refine (HON.out A x R _ HAR.out HJ8.out).mono ?_
    rintro en w9 ⟨rfl, e', hj9⟩
    have HJ9 := zh hj9
    clear hj9 c13
    go_wp2_with fail
    exact ⟨⟨A ++ [x], R, e', by rw [HAR.out]; simp, by rw [List.length_append, ← HI.out, List.length_singleton]; go_num, HJ9.out⟩, by simp [Lib.intOf]; omega⟩
   ·have he1 : ¬ (e : Int) = 0 := by omega
    have he2 : ((e : Int) != 0) = true := by simpa using he
    have HE := zh he
    clear he
    have HOX := zh (HO1.out x (List.mem_of_getElem? HL2.out))
    go_wp2_with (first | (refine wpList_load_mid rfl 114 _ rfl g (off + i * 3) rfl x.cs _ HRA.out Tryz.underlying114 rfl sizeDat ?_; (try simp only [Act.put, sA, sB, sC])) | (refine wl_put (Lies.new _ _ _) x.cs _ _ rfl rfl rfl rfl rfl sizeDat HOX.out (fun w8 hL8 hF8 => ?_); have hb8 : Below wr.heap.size wr w8 := below_put ((Below.refl wr.heap.size wr).alloc (Nat.le_refl _) _) hF8 (Nat.le_refl _); have HJ8 := zh (HBB.out _ _ _ _ HJ2.out hb8); have HX8 := zh hL8; obtain ⟨Bx, hBx⟩ : ∃ Bx, Bx = wr.heap.size := ⟨_, rfl⟩; rw [← hBx] at HX8 ⊢; clear c13; have c13 : w8.cell? ⟨kb, 13, none⟩ = some (.int .i64 e) := HCE.out _ _ _ HJ8.out; clear hBx hL8 hF8 hb8; try simp only [Act.put]) | (refine wpList_load_mid rfl 114 _ rfl Bx 0 rfl x.cs _ (lies_range HX8.out) Tryz.underlying114 rfl sizeDat ?_; (try simp only [Act.put, sA, sB, sC])))
    (try simp only [Exit.inBlock, Exit.then])
    refine bodyPost_ret (results_none rfl _ _ _) rfl ?_
    exact ⟨rfl, A, x :: R, e, HAR.out, HJ8.out, .inr HE.out⟩
theorem every_Dat {W1 W : World} {kb S0 : Nat} {m : Mod} {e0 : Nat} (h : Vk W1 kb S0 m e0 W) {k : Nat} (hk : EnterOk k) {bs cap : Array Value} {ar : Dat → Array Value} (har : ∀ x, bs ++ #[.agg (x.cs).toArray] ++ cap = ar x) {v : Value} {L : List Dat} (hs : Sl W1 3 Dat.cs v L) (hn : L.length ≤ 1048576) (f : Dat → Nat → Nat) (E : World → Prop) (hE : ∀ w w', Fr w w' (fun j => j = kb) → (∃ e, Vk W1 kb S0 m e w) → E w → E w') (hEW : E W)
  (hone : ∀ x ∈ L, ∀ w, Vk W1 kb S0 m 0 w → E w → Calls Tryz.prog k (ar x) w fun en w' => VSays W1 kb S0 m w (f x 0) en w') (h1 : ∀ x ∈ L, (x.cs.toArray.all (·.oneCell')) = true) :
  Calls Tryz.prog 52 #[.pointer (some ⟨kb, 0, none⟩), v, .func (.func k) bs cap] W fun en w' => VSays W1 kb S0 m W (eachE f L e0) en w' := by
 refine (each_Dat (L := L) (fun A e w => Vk W1 kb S0 m e w ∧ Fr W w (fun j => j = kb) ∧ E w ∧ e = eachE f A e0) hk har (fun _ _ _ h => h.1.c13) (fun _ _ _ h => hs.later h.1.bel) (fun _ _ _ _ h hb => ⟨h.1.later hb, h.2.1.trans (Fr.of_below hb _), hE _ _ (Fr.of_below hb _) ⟨_, h.1⟩ h.2.2.1, h.2.2.2⟩) (fun A x R w hL h => ?_) ⟨h, Fr.refl _ _, hEW, rfl⟩ hn h1).mono ?_
 ·refine (hone x (by rw [hL]; simp) w h.1 h.2.2.1).mono ?_
  rintro en w' ⟨rfl, hv, hf⟩
  exact ⟨rfl, _, hv, h.2.1.trans hf, hE _ _ hf ⟨_, h.1⟩ h.2.2.1, (eachE_snoc x h.2.2.2.symm).symm⟩
 ·rintro en w' ⟨rfl, A, R, e, hL, ⟨hv, hf, _, he⟩, hR⟩
  refine ⟨rfl, ?_, hf⟩
  rcases hR with rfl | hR
  ·rw [hL, List.append_nil, ← he]
   exact hv
  ·rw [hL, eachE_app R (by rw [← he]; exact hR), ← he]
   exact hv
set_option maxRecDepth 100000 in
set_option maxHeartbeats 8000000 in
theorem each_u32 {W : World} {kb : Nat} {k : Nat} {bs cap : Array Value} {v : Value} {L : List Nat} (J : List Nat → Nat → World → Prop)
  (hk : EnterOk k) {ar : Nat → Array Value} (har : ∀ x, bs ++ #[.int .u32 x] ++ cap = ar x) (hc : ∀ A e w, J A e w → w.cell? ⟨kb, 13, none⟩ = some (.int .i64 e)) (hs : ∀ A e w, J A e w → Sl w 1 u32c v L) (hb : ∀ A e w w', J A e w → Below w.heap.size w w' → J A e w')
  (hone : ∀ A x R w, L = A ++ x :: R → J A 0 w → Calls Tryz.prog k (ar x) w fun en w' => en = .returned (.tuple #[]) ∧ ∃ e', J (A ++ [x]) e' w')
  {e0 : Nat} (hJ : J [] e0 W) (hn : L.length ≤ 1048576)  :
  Calls Tryz.prog 38 #[.pointer (some ⟨kb, 0, none⟩), v, .func (.func k) bs cap] W fun en w' => en = .returned (.tuple #[]) ∧ EachSays L J w' := by
 obtain ⟨s, cp, rfl, hsv⟩ := (hs _ _ _ hJ).form
 have HSV := zh hsv
 have HCE := zh hc
 have HSS := zh hs
 have HBB := zh hb
 have HON := zh hone
 have HJ := zh hJ
 have HK := zh hk
 have HAX := zh har
 clear hk har hsv hc hs hb hone hJ
 go_enter Tryz.func38, Tryz.ntmps38
 go_wp2_with fail
 go_loopw [10] (fun iv wr => ∃ A R e, L = A ++ R ∧ iv = .int .i64 A.length ∧ J A e wr)
  (fun iv _ => L.length - (Lib.intOf iv).toNat)
 case atStart => exact ⟨[], L, e0, rfl, rfl, HJ.out⟩
 case round =>
  obtain ⟨A, R, e, hAR, rfl, hj⟩ := hrel
  have HJ2 := zh hj
  have HAR := zh hAR
  clear hj hAR HJ
  obtain ⟨i, hi⟩ : ∃ i, i = A.length := ⟨_, rfl⟩
  rw [← hi]
  have HI := zh hi
  clear hi
  cases R with
  | nil =>
   have hlt : ¬ (i : Int) < (L.length : Int) := by rw [HI.out, HAR.out]; simp
   go_wp2_with fail
   go_end0
   exact ⟨rfl, A, [], e, HAR.out, HJ2.out, .inl rfl⟩
  | cons x R =>
   obtain ⟨hl1, hl2⟩ := len_app HAR.out
   rw [← HI.out] at hl1 hl2
   have hlt : (i : Int) < (L.length : Int) := by omega
   obtain ⟨g, off, rfl, _⟩ := HSV.out (by intro e; rw [e] at hl1; simp at hl1)
   have HRA := zh (Gr.sl_range (HSS.out _ _ _ HJ2.out) hl2)
   have HL2 := zh hl2
   clear hl2
   have c13 : wr.cell? ⟨kb, 13, none⟩ = some (.int .i64 e) := HCE.out _ _ _ HJ2.out
   by_cases he : e = 0
   ·subst he
    have hx : wr.cell? ⟨g, off + i, none⟩ = some (.int .u32 x) := by
     have := HRA.out 0 _ rfl
     simpa using this
    go_wp2_with fail
    refine upon_call HK.out (HAX.out x) ?_
    refine (HON.out A x R _ HAR.out HJ2.out).mono ?_
    rintro en w9 ⟨rfl, e', hj9⟩
    have HJ9 := zh hj9
    clear hj9 c13
    go_wp2_with fail
    exact ⟨⟨A ++ [x], R, e', by rw [HAR.out]; simp, by rw [List.length_append, ← HI.out, List.length_singleton]; go_num, HJ9.out⟩, by simp [Lib.intOf]; omega⟩
   ·have he1 : ¬ (e : Int) = 0 := by omega
    have he2 : ((e : Int) != 0) = true := by simpa using he
    have HE := zh he
    clear he
    have hx : wr.cell? ⟨g, off + i, none⟩ = some (.int .u32 x) := by
     have := HRA.out 0 _ rfl
     simpa using this
    go_wp2_with fail
    (try simp only [Exit.inBlock, Exit.then])
    refine bodyPost_ret (results_none rfl _ _ _) rfl ?_
    exact ⟨rfl, A, x :: R, e, HAR.out, HJ2.out, .inr HE.out⟩
theorem every_u32 {W1 W : World} {kb S0 : Nat} {m : Mod} {e0 : Nat} (h : Vk W1 kb S0 m e0 W) {k : Nat} (hk : EnterOk k) {bs cap : Array Value} {ar : Nat → Array Value} (har : ∀ x, bs ++ #[.int .u32 x] ++ cap = ar x) {v : Value} {L : List Nat} (hs : Sl W1 1 u32c v L) (hn : L.length ≤ 1048576) (f : Nat → Nat → Nat) (E : World → Prop) (hE : ∀ w w', Fr w w' (fun j => j = kb) → (∃ e, Vk W1 kb S0 m e w) → E w → E w') (hEW : E W)
  (hone : ∀ x ∈ L, ∀ w, Vk W1 kb S0 m 0 w → E w → Calls Tryz.prog k (ar x) w fun en w' => VSays W1 kb S0 m w (f x 0) en w') :
  Calls Tryz.prog 38 #[.pointer (some ⟨kb, 0, none⟩), v, .func (.func k) bs cap] W fun en w' => VSays W1 kb S0 m W (eachE f L e0) en w' := by
 refine (each_u32 (L := L) (fun A e w => Vk W1 kb S0 m e w ∧ Fr W w (fun j => j = kb) ∧ E w ∧ e = eachE f A e0) hk har (fun _ _ _ h => h.1.c13) (fun _ _ _ h => hs.later h.1.bel) (fun _ _ _ _ h hb => ⟨h.1.later hb, h.2.1.trans (Fr.of_below hb _), hE _ _ (Fr.of_below hb _) ⟨_, h.1⟩ h.2.2.1, h.2.2.2⟩) (fun A x R w hL h => ?_) ⟨h, Fr.refl _ _, hEW, rfl⟩ hn).mono ?_
 ·refine (hone x (by rw [hL]; simp) w h.1 h.2.2.1).mono ?_
  rintro en w' ⟨rfl, hv, hf⟩
  exact ⟨rfl, _, hv, h.2.1.trans hf, hE _ _ hf ⟨_, h.1⟩ h.2.2.1, (eachE_snoc x h.2.2.2.symm).symm⟩
 ·rintro en w' ⟨rfl, A, R, e, hL, ⟨hv, hf, _, he⟩, hR⟩
  refine ⟨rfl, ?_, hf⟩
  rcases hR with rfl | hR
  ·rw [hL, List.append_nil, ← he]
   exact hv
  ·rw [hL, eachE_app R (by rw [← he]; exact hR), ← he]
   exact hv
end Go.Proofs.YtmgjcaikldeioaaGreat.Va
/- A module's checker: what is done with each. -/
namespace Go.Proofs.YtmgjcaikldeioaaGreat.Va
open Go Go.RowKit Go.Lib Kt Fm Gr Ty

set_option maxRecDepth 100000 in
set_option maxHeartbeats 8000000 in
theorem cl1_any {W1 w : World} {kb S0 : Nat} {m : Mod} {e : Nat} (h : Vk W1 kb S0 m e w) {cb : Nat} (hcb : Lies w cb 92 #[.pointer (some ⟨kb, 0, none⟩)]) (x : Imp) :
  Calls Tryz.prog 31 #[.agg x.cs.toArray, .pointer (some ⟨cb, 0, none⟩)] w fun en w' => VSays W1 kb S0 m w (mst e (decide (x.kind ≤ 3)) 2) en w' := by
 have HV0 := zh h
 have HF0 := zh (Fr.refl w (fun k => k = kb))
 have HC0 := zh hcb
 clear h hcb 
 have HD := zh (show decide (x.kind ≤ 3) = decide ((x.kind.toNat : Int) ≤ 3) from by congr 1; exact propext ⟨fun h => by have : x.kind.toNat ≤ 3 := h; omega, fun h => by show x.kind.toNat ≤ 3; omega⟩)
 go_enter Tryz.func31, Tryz.ntmps31
 go_wp2_with (refine wl_box x.cs _ rfl rfl rfl (fun w1 hb1 hl1 => ?_); have HV1 := zh (HV0.out.later hb1); have HF1 := zh (HF0.out.trans (Fr.of_below hb1 _)); have HC1 := zh (HC0.out.below hb1 HC0.out.lt); have HI1 := zh hl1; obtain ⟨Bi, hB1⟩ : ∃ Bi, Bi = w.heap.size := ⟨_, rfl⟩; rw [← hB1] at HI1 ⊢; clear hB1 hl1; have cc : w1.cell? ⟨cb, 0, none⟩ = some (.pointer (some ⟨kb, 0, none⟩)) := HC1.out.cell 0; have xI2 : w1.cell? ⟨Bi, 2, none⟩ = some (.int .u8 x.kind.toNat) := HI1.out.cell 2; clear hb1; (try simp only [Act.put, sA, sB, sC]))
 clear cc xI2 
 refine (must_any HV1.out _ 2).mono ?_
 rintro en w2 ⟨rfl, hv, hf⟩
 have HV2 := zh hv
 have HF2 := zh (HF1.out.trans hf)
 have HC2 := zh (HV1.out.keep HC1.out (by decide) hf)
 have HI2 := zh (HV1.out.keep HI1.out (by decide) hf)
 clear hv hf
 go_wp2_with fail
 go_end0
 refine ⟨rfl, ?_, HF2.out⟩
 rw [HD.out]
 exact HV2.out
set_option maxRecDepth 100000 in
set_option maxHeartbeats 8000000 in
theorem cl2_any {W1 w : World} {kb S0 : Nat} {m : Mod} {e : Nat} (h : Vk W1 kb S0 m e w) {cb : Nat} (hcb : Lies w cb 92 #[.pointer (some ⟨kb, 0, none⟩)]) (x : Exp) :
  Calls Tryz.prog 33 #[.agg x.cs.toArray, .pointer (some ⟨cb, 0, none⟩)] w fun en w' => VSays W1 kb S0 m w (mst e (decide (x.kind ≤ 3)) 2) en w' := by
 have HV0 := zh h
 have HF0 := zh (Fr.refl w (fun k => k = kb))
 have HC0 := zh hcb
 clear h hcb 
 have HD := zh (show decide (x.kind ≤ 3) = decide ((x.kind.toNat : Int) ≤ 3) from by congr 1; exact propext ⟨fun h => by have : x.kind.toNat ≤ 3 := h; omega, fun h => by show x.kind.toNat ≤ 3; omega⟩)
 go_enter Tryz.func33, Tryz.ntmps33
 go_wp2_with (refine wl_box x.cs _ rfl rfl rfl (fun w1 hb1 hl1 => ?_); have HV1 := zh (HV0.out.later hb1); have HF1 := zh (HF0.out.trans (Fr.of_below hb1 _)); have HC1 := zh (HC0.out.below hb1 HC0.out.lt); have HI1 := zh hl1; obtain ⟨Bi, hB1⟩ : ∃ Bi, Bi = w.heap.size := ⟨_, rfl⟩; rw [← hB1] at HI1 ⊢; clear hB1 hl1; have cc : w1.cell? ⟨cb, 0, none⟩ = some (.pointer (some ⟨kb, 0, none⟩)) := HC1.out.cell 0; have xI1 : w1.cell? ⟨Bi, 1, none⟩ = some (.int .u8 x.kind.toNat) := HI1.out.cell 1; clear hb1; (try simp only [Act.put, sA, sB, sC]))
 clear cc xI1 
 refine (must_any HV1.out _ 2).mono ?_
 rintro en w2 ⟨rfl, hv, hf⟩
 have HV2 := zh hv
 have HF2 := zh (HF1.out.trans hf)
 have HC2 := zh (HV1.out.keep HC1.out (by decide) hf)
 have HI2 := zh (HV1.out.keep HI1.out (by decide) hf)
 clear hv hf
 go_wp2_with fail
 go_end0
 refine ⟨rfl, ?_, HF2.out⟩
 rw [HD.out]
 exact HV2.out
set_option maxRecDepth 100000 in
set_option maxHeartbeats 8000000 in
theorem cl3_any {W1 w : World} {kb S0 : Nat} {m : Mod} {e : Nat} (h : Vk W1 kb S0 m e w) {cb : Nat} (hcb : Lies w cb 92 #[.pointer (some ⟨kb, 0, none⟩)]) {x : Ft} (hx : FtOk W1 x) :
  Calls Tryz.prog 35 #[.agg x.cs.toArray, .pointer (some ⟨cb, 0, none⟩)] w fun en w' => VSays W1 kb S0 m w (typE x e) en w' := by
 obtain ⟨pv, p, rv, r⟩ := x
 obtain ⟨s1, c1, e1, _⟩ := hx.1.1.form
 obtain ⟨s2, c2, e2, _⟩ := hx.2.1.form
 simp only at e1 e2
 subst e1 e2
 have HX := zh hx
 have HV0 := zh h
 have HF0 := zh (Fr.refl w (fun k => k = kb))
 have HC0 := zh hcb
 clear h hcb hx
 by_cases hr : r.length ≤ 1
 ·have HR := zh (decide_eq_true hr)
  have hr1 : (r.length : Int) ≤ 1 := by omega
  cases hp : p.all intB with
  | false =>
   have HP := zh hp
   clear hp
   go_enter Tryz.func35, Tryz.ntmps35
   go_wp2_with (refine wl_box (Ft.cs ⟨.slice s1 p.length c1, p, .slice s2 r.length c2, r⟩) _ rfl rfl rfl (fun w1 hb1 hl1 => ?_); have HV1 := zh (HV0.out.later hb1); have HF1 := zh (HF0.out.trans (Fr.of_below hb1 _)); have HC1 := zh (HC0.out.below hb1 HC0.out.lt); have HI1 := zh hl1; obtain ⟨Bi, hB1⟩ : ∃ Bi, Bi = w.heap.size := ⟨_, rfl⟩; rw [← hB1] at HI1 ⊢; clear hB1 hl1; have cc : w1.cell? ⟨cb, 0, none⟩ = some (.pointer (some ⟨kb, 0, none⟩)) := HC1.out.cell 0; have xI0 : w1.cell? ⟨Bi, 0, none⟩ = some (.slice s1 p.length c1) := HI1.out.cell 0; have xI1 : w1.cell? ⟨Bi, 1, none⟩ = some (.slice s2 r.length c2) := HI1.out.cell 1; clear hb1; (try simp only [Act.put, sA, sB, sC]))
   clear cc xI0 xI1 
   have hd2 := below_drew w1
   have HV2 := zh (HV1.out.later hd2)
   have HF2 := zh (HF1.out.trans (Fr.of_below hd2 _))
   have HC2 := zh (HC1.out.below hd2 HC1.out.lt)
   have HI2 := zh (HI1.out.below hd2 HI1.out.lt)
   refine wp_region_t [(0, 1), (1, 1), (2, 1), (3, 1), (4, 1), (5, 1), (6, 1), (7, 1), (8, 0), (9, 1), (10, 1), (11, 1), (12, 1), (13, 0), (14, 1), (15, 0)] (fun w' => w'.cell? ⟨cb, 0, none⟩ = some (.pointer (some ⟨kb, 0, none⟩)) ∧ w'.cell? ⟨Bi, 0, none⟩ = some (.slice s1 p.length c1) ∧ w'.cell? ⟨Bi, 1, none⟩ = some (.slice s2 r.length c2)) [] [] rfl (by kernel_rfl) (by kernel_rfl) (fun _ _ d _ _ h => by cases d <;> exact h) ⟨(HC2.out.cell 0), (HI2.out.cell 0), (HI2.out.cell 1)⟩ (fun p hp => by cases hp) ?_
   clear hd2
   generalize w1.drew = w2 at HV2 HF2 HC2 HI2 ⊢
   repeat (first | (refine ts_take (v := ?_) rfl rfl (fun w' hw' => ?_) ?_; rotate_left; (focus (obtain ⟨q0, q1, q2⟩ := hw'; (try simp only [Act.put, sA, sB, sC]); go_simp; (try go_bits); (try (with_reducible rfl)))); (try simp only [Act.put, sA, sB, sC])) | (refine ts_skip rfl rfl ?_; (try simp only [Act.put, sA, sB, sC])))
   refine ts_run rfl (fun K hK => ?_)
   rw [if_pos (show Region.wanted _ _ = true from rfl)]
   go_simp
   refine (whole_any (L := p) (HX.out.1.1.later HV2.out.bel) (Nat.le_trans HX.out.1.2.2 (by decide))).mono ?_
   rintro en w3 ⟨rfl, hb3⟩
   have HV3 := zh (HV2.out.later hb3)
   have HF3 := zh (HF2.out.trans (Fr.of_below hb3 _))
   have HC3 := zh (HC2.out.below hb3 HC2.out.lt)
   have HI3 := zh (HI2.out.below hb3 HI2.out.lt)
   clear hb3
   rw [HP.out]
   refine hK.out _ _ ⟨(HC3.out.cell 0), (HI3.out.cell 0), (HI3.out.cell 1)⟩ (still_none _ _) ?_
   clear hK K
   (try simp only [Act.put, sA, sB, sC])
   repeat (first | (refine ts_take (v := ?_) rfl rfl (fun w' hw' => ?_) ?_; rotate_left; (focus (obtain ⟨q0, q1, q2⟩ := hw'; (try simp only [Act.put, sA, sB, sC]); go_simp; (try go_bits); (try (with_reducible rfl)))); (try simp only [Act.put, sA, sB, sC])) | (refine ts_skip rfl rfl ?_; (try simp only [Act.put, sA, sB, sC])))
   refine ts_run rfl (fun K hK => ?_)
   rw [if_neg (Bool.eq_false_iff.1 (show Region.wanted _ _ = false from rfl))]
   refine hK.out _ _ ⟨(HC3.out.cell 0), (HI3.out.cell 0), (HI3.out.cell 1)⟩ (still_none _ _) ?_
   clear hK K
   (try simp only [Act.put, sA, sB, sC])
   repeat (first | (refine ts_take (v := ?_) rfl rfl (fun w' hw' => ?_) ?_; rotate_left; (focus (obtain ⟨q0, q1, q2⟩ := hw'; (try simp only [Act.put, sA, sB, sC]); go_simp; (try go_bits); (try (with_reducible rfl)))); (try simp only [Act.put, sA, sB, sC])) | (refine ts_skip rfl rfl ?_; (try simp only [Act.put, sA, sB, sC])))
   refine ts_run1 rfl rfl (fun K hK => ?_)
   go_simp
   refine (must_any HV3.out false 100).mono ?_
   rintro en w4 ⟨rfl, hv, hf⟩
   have HV4 := zh hv
   have HF4 := zh (HF3.out.trans hf)
   have HC4 := zh (HV3.out.keep HC3.out (by decide) hf)
   have HI4 := zh (HV3.out.keep HI3.out (by decide) hf)
   clear hv hf
   refine hK.out _ _ ⟨(HC4.out.cell 0), (HI4.out.cell 0), (HI4.out.cell 1)⟩ (still_none _ _) ?_
   clear hK K
   (try simp only [Act.put, sA, sB, sC])
   refine ts_done ?_
   go_wp2_with fail
   go_end0
   refine ⟨rfl, ?_, HF4.out⟩
   unfold typE
   rw [HR.out, HP.out]
   exact HV4.out
  | true =>
   have HP := zh hp
   clear hp
   go_enter Tryz.func35, Tryz.ntmps35
   go_wp2_with (refine wl_box (Ft.cs ⟨.slice s1 p.length c1, p, .slice s2 r.length c2, r⟩) _ rfl rfl rfl (fun w1 hb1 hl1 => ?_); have HV1 := zh (HV0.out.later hb1); have HF1 := zh (HF0.out.trans (Fr.of_below hb1 _)); have HC1 := zh (HC0.out.below hb1 HC0.out.lt); have HI1 := zh hl1; obtain ⟨Bi, hB1⟩ : ∃ Bi, Bi = w.heap.size := ⟨_, rfl⟩; rw [← hB1] at HI1 ⊢; clear hB1 hl1; have cc : w1.cell? ⟨cb, 0, none⟩ = some (.pointer (some ⟨kb, 0, none⟩)) := HC1.out.cell 0; have xI0 : w1.cell? ⟨Bi, 0, none⟩ = some (.slice s1 p.length c1) := HI1.out.cell 0; have xI1 : w1.cell? ⟨Bi, 1, none⟩ = some (.slice s2 r.length c2) := HI1.out.cell 1; clear hb1; (try simp only [Act.put, sA, sB, sC]))
   clear cc xI0 xI1 
   have hd2 := below_drew w1
   have HV2 := zh (HV1.out.later hd2)
   have HF2 := zh (HF1.out.trans (Fr.of_below hd2 _))
   have HC2 := zh (HC1.out.below hd2 HC1.out.lt)
   have HI2 := zh (HI1.out.below hd2 HI1.out.lt)
   refine wp_region_t [(0, 1), (1, 1), (2, 1), (3, 1), (4, 1), (5, 1), (6, 1), (7, 1), (8, 0), (9, 1), (10, 1), (11, 1), (12, 1), (13, 0), (14, 1), (15, 0)] (fun w' => w'.cell? ⟨cb, 0, none⟩ = some (.pointer (some ⟨kb, 0, none⟩)) ∧ w'.cell? ⟨Bi, 0, none⟩ = some (.slice s1 p.length c1) ∧ w'.cell? ⟨Bi, 1, none⟩ = some (.slice s2 r.length c2)) [] [] rfl (by kernel_rfl) (by kernel_rfl) (fun _ _ d _ _ h => by cases d <;> exact h) ⟨(HC2.out.cell 0), (HI2.out.cell 0), (HI2.out.cell 1)⟩ (fun p hp => by cases hp) ?_
   clear hd2
   generalize w1.drew = w2 at HV2 HF2 HC2 HI2 ⊢
   repeat (first | (refine ts_take (v := ?_) rfl rfl (fun w' hw' => ?_) ?_; rotate_left; (focus (obtain ⟨q0, q1, q2⟩ := hw'; (try simp only [Act.put, sA, sB, sC]); go_simp; (try go_bits); (try (with_reducible rfl)))); (try simp only [Act.put, sA, sB, sC])) | (refine ts_skip rfl rfl ?_; (try simp only [Act.put, sA, sB, sC])))
   refine ts_run rfl (fun K hK => ?_)
   rw [if_pos (show Region.wanted _ _ = true from rfl)]
   go_simp
   refine (whole_any (L := p) (HX.out.1.1.later HV2.out.bel) (Nat.le_trans HX.out.1.2.2 (by decide))).mono ?_
   rintro en w3 ⟨rfl, hb3⟩
   have HV3 := zh (HV2.out.later hb3)
   have HF3 := zh (HF2.out.trans (Fr.of_below hb3 _))
   have HC3 := zh (HC2.out.below hb3 HC2.out.lt)
   have HI3 := zh (HI2.out.below hb3 HI2.out.lt)
   clear hb3
   rw [HP.out]
   refine hK.out _ _ ⟨(HC3.out.cell 0), (HI3.out.cell 0), (HI3.out.cell 1)⟩ (still_none _ _) ?_
   clear hK K
   (try simp only [Act.put, sA, sB, sC])
   repeat (first | (refine ts_take (v := ?_) rfl rfl (fun w' hw' => ?_) ?_; rotate_left; (focus (obtain ⟨q0, q1, q2⟩ := hw'; (try simp only [Act.put, sA, sB, sC]); go_simp; (try go_bits); (try (with_reducible rfl)))); (try simp only [Act.put, sA, sB, sC])) | (refine ts_skip rfl rfl ?_; (try simp only [Act.put, sA, sB, sC])))
   refine ts_run rfl (fun K hK => ?_)
   rw [if_pos (show Region.wanted _ _ = true from rfl)]
   go_simp
   refine (whole_any (L := r) (HX.out.2.1.later HV3.out.bel) (Nat.le_trans HX.out.2.2.2 (by decide))).mono ?_
   rintro en w4 ⟨rfl, hb4⟩
   have HV4 := zh (HV3.out.later hb4)
   have HF4 := zh (HF3.out.trans (Fr.of_below hb4 _))
   have HC4 := zh (HC3.out.below hb4 HC3.out.lt)
   have HI4 := zh (HI3.out.below hb4 HI3.out.lt)
   clear hb4
   refine hK.out _ _ ⟨(HC4.out.cell 0), (HI4.out.cell 0), (HI4.out.cell 1)⟩ (still_none _ _) ?_
   clear hK K
   (try simp only [Act.put, sA, sB, sC])
   repeat (first | (refine ts_take (v := ?_) rfl rfl (fun w' hw' => ?_) ?_; rotate_left; (focus (obtain ⟨q0, q1, q2⟩ := hw'; (try simp only [Act.put, sA, sB, sC]); go_simp; (try go_bits); (try (with_reducible rfl)))); (try simp only [Act.put, sA, sB, sC])) | (refine ts_skip rfl rfl ?_; (try simp only [Act.put, sA, sB, sC])))
   refine ts_run1 rfl rfl (fun K hK => ?_)
   go_simp
   refine (must_any HV4.out _ 100).mono ?_
   rintro en w5 ⟨rfl, hv, hf⟩
   have HV5 := zh hv
   have HF5 := zh (HF4.out.trans hf)
   have HC5 := zh (HV4.out.keep HC4.out (by decide) hf)
   have HI5 := zh (HV4.out.keep HI4.out (by decide) hf)
   clear hv hf
   refine hK.out _ _ ⟨(HC5.out.cell 0), (HI5.out.cell 0), (HI5.out.cell 1)⟩ (still_none _ _) ?_
   clear hK K
   (try simp only [Act.put, sA, sB, sC])
   refine ts_done ?_
   go_wp2_with fail
   go_end0
   refine ⟨rfl, ?_, HF5.out⟩
   unfold typE
   rw [HR.out, HP.out, Bool.true_and, Bool.true_and]
   exact HV5.out
 ·have HR := zh (decide_eq_false hr)
  have hr1 : ((r.length : Int) ≤ 1) = False := eq_false (by omega)
  clear hr
  go_enter Tryz.func35, Tryz.ntmps35
  go_wp2_with (refine wl_box (Ft.cs ⟨.slice s1 p.length c1, p, .slice s2 r.length c2, r⟩) _ rfl rfl rfl (fun w1 hb1 hl1 => ?_); have HV1 := zh (HV0.out.later hb1); have HF1 := zh (HF0.out.trans (Fr.of_below hb1 _)); have HC1 := zh (HC0.out.below hb1 HC0.out.lt); have HI1 := zh hl1; obtain ⟨Bi, hB1⟩ : ∃ Bi, Bi = w.heap.size := ⟨_, rfl⟩; rw [← hB1] at HI1 ⊢; clear hB1 hl1; have cc : w1.cell? ⟨cb, 0, none⟩ = some (.pointer (some ⟨kb, 0, none⟩)) := HC1.out.cell 0; have xI0 : w1.cell? ⟨Bi, 0, none⟩ = some (.slice s1 p.length c1) := HI1.out.cell 0; have xI1 : w1.cell? ⟨Bi, 1, none⟩ = some (.slice s2 r.length c2) := HI1.out.cell 1; clear hb1; (try simp only [Act.put, sA, sB, sC]))
  clear cc xI0 xI1 
  have hd2 := below_drew w1
  have HV2 := zh (HV1.out.later hd2)
  have HF2 := zh (HF1.out.trans (Fr.of_below hd2 _))
  have HC2 := zh (HC1.out.below hd2 HC1.out.lt)
  have HI2 := zh (HI1.out.below hd2 HI1.out.lt)
  refine wp_region_t [(0, 1), (1, 1), (2, 1), (3, 1), (4, 1), (5, 1), (6, 1), (7, 1), (8, 0), (9, 1), (10, 1), (11, 1), (12, 1), (13, 0), (14, 1), (15, 0)] (fun w' => w'.cell? ⟨cb, 0, none⟩ = some (.pointer (some ⟨kb, 0, none⟩)) ∧ w'.cell? ⟨Bi, 0, none⟩ = some (.slice s1 p.length c1) ∧ w'.cell? ⟨Bi, 1, none⟩ = some (.slice s2 r.length c2)) [] [] rfl (by kernel_rfl) (by kernel_rfl) (fun _ _ d _ _ h => by cases d <;> exact h) ⟨(HC2.out.cell 0), (HI2.out.cell 0), (HI2.out.cell 1)⟩ (fun p hp => by cases hp) ?_
  clear hd2
  generalize w1.drew = w2 at HV2 HF2 HC2 HI2 ⊢
  repeat (first | (refine ts_take (v := ?_) rfl rfl (fun w' hw' => ?_) ?_; rotate_left; (focus (obtain ⟨q0, q1, q2⟩ := hw'; (try simp only [Act.put, sA, sB, sC]); go_simp; (try go_bits); (try (with_reducible rfl)))); (try simp only [Act.put, sA, sB, sC])) | (refine ts_skip rfl rfl ?_; (try simp only [Act.put, sA, sB, sC])))
  refine ts_run rfl (fun K hK => ?_)
  rw [if_neg (Bool.eq_false_iff.1 (show Region.wanted _ _ = false from rfl))]
  refine hK.out _ _ ⟨(HC2.out.cell 0), (HI2.out.cell 0), (HI2.out.cell 1)⟩ (still_none _ _) ?_
  clear hK K
  (try simp only [Act.put, sA, sB, sC])
  repeat (first | (refine ts_take (v := ?_) rfl rfl (fun w' hw' => ?_) ?_; rotate_left; (focus (obtain ⟨q0, q1, q2⟩ := hw'; (try simp only [Act.put, sA, sB, sC]); go_simp; (try go_bits); (try (with_reducible rfl)))); (try simp only [Act.put, sA, sB, sC])) | (refine ts_skip rfl rfl ?_; (try simp only [Act.put, sA, sB, sC])))
  refine ts_run rfl (fun K hK => ?_)
  rw [if_neg (Bool.eq_false_iff.1 (show Region.wanted _ _ = false from rfl))]
  refine hK.out _ _ ⟨(HC2.out.cell 0), (HI2.out.cell 0), (HI2.out.cell 1)⟩ (still_none _ _) ?_
  clear hK K
  (try simp only [Act.put, sA, sB, sC])
  repeat (first | (refine ts_take (v := ?_) rfl rfl (fun w' hw' => ?_) ?_; rotate_left; (focus (obtain ⟨q0, q1, q2⟩ := hw'; (try simp only [Act.put, sA, sB, sC]); go_simp; (try go_bits); (try (with_reducible rfl)))); (try simp only [Act.put, sA, sB, sC])) | (refine ts_skip rfl rfl ?_; (try simp only [Act.put, sA, sB, sC])))
  refine ts_run1 rfl rfl (fun K hK => ?_)
  go_simp
  refine (must_any HV2.out false 100).mono ?_
  rintro en w3 ⟨rfl, hv, hf⟩
  have HV3 := zh hv
  have HF3 := zh (HF2.out.trans hf)
  have HC3 := zh (HV2.out.keep HC2.out (by decide) hf)
  have HI3 := zh (HV2.out.keep HI2.out (by decide) hf)
  clear hv hf
  refine hK.out _ _ ⟨(HC3.out.cell 0), (HI3.out.cell 0), (HI3.out.cell 1)⟩ (still_none _ _) ?_
  clear hK K
  (try simp only [Act.put, sA, sB, sC])
  refine ts_done ?_
  go_wp2_with fail
  go_end0
  refine ⟨rfl, ?_, HF3.out⟩
  unfold typE
  rw [HR.out]
  exact HV3.out
set_option maxRecDepth 100000 in
set_option maxHeartbeats 8000000 in
theorem cl4_any {W1 w : World} {kb S0 : Nat} {m : Mod} {e : Nat} (h : Vk W1 kb S0 m e w) {cb : Nat} (hcb : Lies w cb 92 #[.pointer (some ⟨kb, 0, none⟩)]) (hsp : SpX W1 S0 m) (hm : ModOk W1 m) {x : Nat} (hx : x < 4294967296) :
  Calls Tryz.prog 39 #[.int .u32 x, .pointer (some ⟨cb, 0, none⟩)] w fun en w' => VSays W1 kb S0 m w (mst e (m.types[x]?).isSome 80) en w' := by
 have HSP := zh hsp
 have HM := zh hm
 have HV0 := zh h
 have HF0 := zh (Fr.refl w (fun k => k = kb))
 have HC0 := zh hcb
 clear h hcb hsp hm
 obtain ⟨b, hb⟩ : ∃ b, b = (m.types[x]?).isSome := ⟨_, rfl⟩
 rw [← hb]
 have HBB := zh hb
 clear hb
 go_enter Tryz.func39, Tryz.ntmps39
 have cc : w.cell? ⟨cb, 0, none⟩ = some (.pointer (some ⟨kb, 0, none⟩)) := HC0.out.cell 0
 have c12 := HV0.out.s
 go_wp2_with fail
 refine (type_any HM.out (spx_later HSP.out HV0.out.bel).sp hx).mono ?_
 rintro en w1 ⟨y, rfl, ho, ht, hb1, _⟩
 rw [← HBB.out]
 have HO := zh ho
 have HLN := zh (told_len HM.out ht)
 clear cc c12 ho ht
 have HV1 := zh (HV0.out.later hb1)
 have HF1 := zh (HF0.out.trans (Fr.of_below hb1 _))
 have HC1 := zh (HC0.out.below hb1 HC0.out.lt)
 clear hb1
 go_wp2_with (refine wl_put (Lies.new _ _ _) y.cs _ _ rfl rfl rfl rfl rfl sizeFt (oneFt (HO.out.ok HLN.out.1 HLN.out.2)) (fun w2 hl2 hf2 => ?_); have hb2 : Below w1.heap.size w1 w2 := below_put ((Below.refl w1.heap.size w1).alloc (Nat.le_refl _) _) hf2 (Nat.le_refl _); have HV2 := zh (HV1.out.later hb2); have HF2 := zh (HF1.out.trans (Fr.of_below hb2 _)); have HC2 := zh (HC1.out.below hb2 HC1.out.lt); have cc : w2.cell? ⟨cb, 0, none⟩ = some (.pointer (some ⟨kb, 0, none⟩)) := HC2.out.cell 0; clear hl2 hf2 hb2; try simp only [Act.put])
 clear cc 
 refine (must_any HV2.out b 80).mono ?_
 rintro en w3 ⟨rfl, hv, hf⟩
 have HV3 := zh hv
 have HF3 := zh (HF2.out.trans hf)
 have HC3 := zh (HV2.out.keep HC2.out (by decide) hf)
 clear hv hf
 go_wp2_with fail
 go_end0
 exact ⟨rfl, HV3.out, HF3.out⟩
set_option maxRecDepth 100000 in
set_option maxHeartbeats 8000000 in
theorem cl5_any {W1 w : World} {kb S0 : Nat} {m : Mod} {e : Nat} (h : Vk W1 kb S0 m e w) {cb : Nat} (hcb : Lies w cb 92 #[.pointer (some ⟨kb, 0, none⟩)]) (hsp : SpX W1 S0 m) (hm : ModOk W1 m) {x : Glb} (hx : GlbOk W1 x) :
  Calls Tryz.prog 42 #[.agg x.cs.toArray, .pointer (some ⟨cb, 0, none⟩)] w fun en w' => VSays W1 kb S0 m w (glbE m x e) en w' := by
 have HSP := zh hsp
 have HM := zh hm
 have HX := zh hx
 have HV0 := zh h
 have HF0 := zh (Fr.refl w (fun k => k = kb))
 have HC0 := zh hcb
 clear h hcb hsp hm hx
 go_enter Tryz.func42, Tryz.ntmps42
 go_wp2_with (refine wl_box x.cs _ rfl rfl rfl (fun w1 hb1 hl1 => ?_); have HV1 := zh (HV0.out.later hb1); have HF1 := zh (HF0.out.trans (Fr.of_below hb1 _)); have HC1 := zh (HC0.out.below hb1 HC0.out.lt); have HI1 := zh hl1; obtain ⟨Bi, hB1⟩ : ∃ Bi, Bi = w.heap.size := ⟨_, rfl⟩; rw [← hB1] at HI1 ⊢; clear hB1 hl1; have cc : w1.cell? ⟨cb, 0, none⟩ = some (.pointer (some ⟨kb, 0, none⟩)) := HC1.out.cell 0; have xI0 : w1.cell? ⟨Bi, 0, none⟩ = some (.int .u8 x.gt.t.toNat) := HI1.out.cell 0; have xI2 : w1.cell? ⟨Bi, 2, none⟩ = some (x.iv) := HI1.out.cell 2; clear hb1; (try simp only [Act.put, sA, sB, sC]))
 clear cc xI0 xI2 
 have hd2 := below_drew w1
 have HV2 := zh (HV1.out.later hd2)
 have HF2 := zh (HF1.out.trans (Fr.of_below hd2 _))
 have HC2 := zh (HC1.out.below hd2 HC1.out.lt)
 have HI2 := zh (HI1.out.below hd2 HI1.out.lt)
 refine wp_region_t [(0, 1), (1, 1), (2, 1), (3, 1), (4, 0), (5, 0), (6, 0)] (fun w' => w'.cell? ⟨cb, 0, none⟩ = some (.pointer (some ⟨kb, 0, none⟩)) ∧ w'.cell? ⟨Bi, 0, none⟩ = some (.int .u8 x.gt.t.toNat)) [] [] rfl (by kernel_rfl) (by kernel_rfl) (fun _ _ d _ _ h => by cases d <;> exact h) ⟨(HC2.out.cell 0), (HI2.out.cell 0)⟩ (fun p hp => by cases hp) ?_
 clear hd2
 generalize w1.drew = w2 at HV2 HF2 HC2 HI2 ⊢
 repeat (first | (refine ts_take (v := ?_) rfl rfl (fun w' hw' => ?_) ?_; rotate_left; (focus (obtain ⟨q0, q1⟩ := hw'; (try simp only [Act.put, sA, sB, sC]); go_simp; (try go_bits); (try (with_reducible rfl)))); (try simp only [Act.put, sA, sB, sC])) | (refine ts_skip rfl rfl ?_; (try simp only [Act.put, sA, sB, sC])))
 refine ts_run1 rfl rfl (fun K hK => ?_)
 refine wp_b1u x.gt.t _ rfl rfl (fun w3 hb3 hs3 => ?_)
 have HS := zh hs3
 have HV3 := zh (HV2.out.later hb3)
 have HF3 := zh (HF2.out.trans (Fr.of_below hb3 _))
 have HC3 := zh (HC2.out.below hb3 HC2.out.lt)
 have HI3 := zh (HI2.out.below hb3 HI2.out.lt)
 clear hb3 hs3
 refine hK.out _ _ ⟨(HC3.out.cell 0), (HI3.out.cell 0)⟩ (still_none _ _) ?_
 clear hK K
 (try simp only [Act.put, sA, sB, sC])
 refine ts_run1 rfl rfl (fun K hK => ?_)
 go_simp
 refine (whole_any HS.out (by show 1 ≤ _; decide)).mono ?_
 rintro en w4 ⟨rfl, hb4⟩
 have HV4 := zh (HV3.out.later hb4)
 have HF4 := zh (HF3.out.trans (Fr.of_below hb4 _))
 have HC4 := zh (HC3.out.below hb4 HC3.out.lt)
 have HI4 := zh (HI3.out.below hb4 HI3.out.lt)
 clear hb4
 rw [show [x.gt.t].all intB = intB x.gt.t from Bool.and_true _]
 refine hK.out _ _ ⟨(HC4.out.cell 0), (HI4.out.cell 0)⟩ (still_none _ _) ?_
 clear hK K
 (try simp only [Act.put, sA, sB, sC])
 refine ts_run1 rfl rfl (fun K hK => ?_)
 go_simp
 refine (must_any HV4.out _ 100).mono ?_
 rintro en w5 ⟨rfl, hv, hf⟩
 have HV5 := zh hv
 have HF5 := zh (HF4.out.trans hf)
 have HC5 := zh (HV4.out.keep HC4.out (by decide) hf)
 have HI5 := zh (HV4.out.keep HI4.out (by decide) hf)
 clear hv hf
 refine hK.out _ _ ⟨(HC5.out.cell 0), (HI5.out.cell 0)⟩ (still_none _ _) ?_
 clear hK K
 (try simp only [Act.put, sA, sB, sC])
 refine ts_done ?_
 have cc : w5.cell? ⟨cb, 0, none⟩ = some (.pointer (some ⟨kb, 0, none⟩)) := HC5.out.cell 0
 have xI0 : w5.cell? ⟨Bi, 0, none⟩ = some (.int .u8 x.gt.t.toNat) := HI5.out.cell 0
 have xI2 : w5.cell? ⟨Bi, 2, none⟩ = some (x.iv) := HI5.out.cell 2
 go_wp2_with fail
 refine (const_any HV5.out HSP.out HM.out HX.out.2.1 HX.out.2.2.1 x.gt.t).mono ?_
 rintro en w6 ⟨rfl, hv, hf⟩
 clear cc xI0 xI2 
 have HV6 := zh hv
 have HF6 := zh (HF5.out.trans hf)
 have HC6 := zh (HV5.out.keep HC5.out (by decide) hf)
 have HI6 := zh (HV5.out.keep HI5.out (by decide) hf)
 clear hv hf
 go_wp2_with fail
 go_end0
 exact ⟨rfl, HV6.out, HF6.out⟩
set_option maxRecDepth 100000 in
set_option maxHeartbeats 8000000 in
theorem cl61_any {W1 w : World} {kb S0 : Nat} {m : Mod} {e : Nat} (h : Vk W1 kb S0 m e w) {cb : Nat} (hcb : Lies w cb 92 #[.pointer (some ⟨kb, 0, none⟩)]) (hsp : SpX W1 S0 m) (hm : ModOk W1 m) {x : Nat} (hx : x < 4294967296) :
  Calls Tryz.prog 49 #[.int .u32 x, .pointer (some ⟨cb, 0, none⟩)] w fun en w' => VSays W1 kb S0 m w (mst e (thereB m 0 x) 80) en w' := by
 have HSP := zh hsp
 have HM := zh hm
 have HV0 := zh h
 have HF0 := zh (Fr.refl w (fun k => k = kb))
 have HC0 := zh hcb
 clear h hcb hsp hm
 go_enter Tryz.func49, Tryz.ntmps49
 go_wp2_with fail
 have hd1 := below_drew w
 have HV1 := zh (HV0.out.later hd1)
 have HF1 := zh (HF0.out.trans (Fr.of_below hd1 _))
 have HC1 := zh (HC0.out.below hd1 HC0.out.lt)
 refine wp_region_t [(0, 1), (1, 1), (2, 1), (3, 0), (4, 0)] (fun w' => w'.cell? ⟨cb, 0, none⟩ = some (.pointer (some ⟨kb, 0, none⟩))) [] [] rfl (by kernel_rfl) (by kernel_rfl) (fun _ _ d _ _ h => by cases d <;> exact h) (HC1.out.cell 0) (fun p hp => by cases hp) ?_
 clear hd1
 generalize w.drew = w1 at HV1 HF1 HC1 ⊢
 repeat (first | (refine ts_take (v := ?_) rfl rfl (fun w' hw' => ?_) ?_; rotate_left; (focus (have q0 := hw'; (try simp only [Act.put, sA, sB, sC]); go_simp; (try go_bits); (try (with_reducible rfl)))); (try simp only [Act.put, sA, sB, sC])) | (refine ts_skip rfl rfl ?_; (try simp only [Act.put, sA, sB, sC])))
 refine ts_run1 rfl rfl (fun K hK => ?_)
 go_simp
 refine (there_any HV1.out HSP.out HM.out 0 hx).mono ?_
 rintro en w2 ⟨rfl, hb2⟩
 have HV2 := zh (HV1.out.later hb2)
 have HF2 := zh (HF1.out.trans (Fr.of_below hb2 _))
 have HC2 := zh (HC1.out.below hb2 HC1.out.lt)
 clear hb2
 refine hK.out _ _ (HC2.out.cell 0) (still_none _ _) ?_
 clear hK K
 (try simp only [Act.put, sA, sB, sC])
 refine ts_run1 rfl rfl (fun K hK => ?_)
 go_simp
 refine (must_any HV2.out _ 80).mono ?_
 rintro en w3 ⟨rfl, hv, hf⟩
 have HV3 := zh hv
 have HF3 := zh (HF2.out.trans hf)
 have HC3 := zh (HV2.out.keep HC2.out (by decide) hf)
 clear hv hf
 refine hK.out _ _ (HC3.out.cell 0) (still_none _ _) ?_
 clear hK K
 (try simp only [Act.put, sA, sB, sC])
 refine ts_done ?_
 go_wp2_with fail
 go_end0
 exact ⟨rfl, HV3.out, HF3.out⟩
theorem ent_61 : EnterOk 49 := fun args w => by go_simp
set_option maxRecDepth 100000 in
set_option maxHeartbeats 8000000 in
theorem cl6_any {W1 w : World} {kb S0 : Nat} {m : Mod} {e : Nat} (h : Vk W1 kb S0 m e w) {cb : Nat} (hcb : Lies w cb 92 #[.pointer (some ⟨kb, 0, none⟩)]) (hsp : SpX W1 S0 m) (hm : ModOk W1 m) {x : Elm} (hx : ElmOk W1 x) :
  Calls Tryz.prog 47 #[.agg x.cs.toArray, .pointer (some ⟨cb, 0, none⟩)] w fun en w' => VSays W1 kb S0 m w (elmE m x e) en w' := by
 have HSP := zh hsp
 have HM := zh hm
 have HX := zh hx
 have hxi := hx.1
 have HV0 := zh h
 have HF0 := zh (Fr.refl w (fun k => k = kb))
 have HC0 := zh hcb
 clear h hcb hsp hm hx
 go_enter Tryz.func47, Tryz.ntmps47
 go_wp2_with (refine wl_box x.cs _ rfl rfl rfl (fun w1 hb1 hl1 => ?_); have HV1 := zh (HV0.out.later hb1); have HF1 := zh (HF0.out.trans (Fr.of_below hb1 _)); have HC1 := zh (HC0.out.below hb1 HC0.out.lt); have HI1 := zh hl1; obtain ⟨Bi, hB1⟩ : ∃ Bi, Bi = w.heap.size := ⟨_, rfl⟩; rw [← hB1] at HI1 ⊢; clear hB1 hl1; have cc : w1.cell? ⟨cb, 0, none⟩ = some (.pointer (some ⟨kb, 0, none⟩)) := HC1.out.cell 0; have xI0 : w1.cell? ⟨Bi, 0, none⟩ = some (.int .u32 x.tb) := HI1.out.cell 0; have xI1 : w1.cell? ⟨Bi, 1, none⟩ = some (x.ov) := HI1.out.cell 1; clear hb1; (try simp only [Act.put, sA, sB, sC]))
 clear cc xI0 xI1 
 have hd2 := below_drew w1
 have HV2 := zh (HV1.out.later hd2)
 have HF2 := zh (HF1.out.trans (Fr.of_below hd2 _))
 have HC2 := zh (HC1.out.below hd2 HC1.out.lt)
 have HI2 := zh (HI1.out.below hd2 HI1.out.lt)
 refine wp_region_t [(0, 1), (1, 1), (2, 1), (3, 1), (4, 0), (5, 0)] (fun w' => w'.cell? ⟨cb, 0, none⟩ = some (.pointer (some ⟨kb, 0, none⟩)) ∧ w'.cell? ⟨Bi, 0, none⟩ = some (.int .u32 x.tb)) [] [] rfl (by kernel_rfl) (by kernel_rfl) (fun _ _ d _ _ h => by cases d <;> exact h) ⟨(HC2.out.cell 0), (HI2.out.cell 0)⟩ (fun p hp => by cases hp) ?_
 clear hd2
 generalize w1.drew = w2 at HV2 HF2 HC2 HI2 ⊢
 repeat (first | (refine ts_take (v := ?_) rfl rfl (fun w' hw' => ?_) ?_; rotate_left; (focus (obtain ⟨q0, q1⟩ := hw'; (try simp only [Act.put, sA, sB, sC]); go_simp; (try go_bits); (try (with_reducible rfl)))); (try simp only [Act.put, sA, sB, sC])) | (refine ts_skip rfl rfl ?_; (try simp only [Act.put, sA, sB, sC])))
 refine ts_run1 rfl rfl (fun K hK => ?_)
 go_simp
 refine (there_any HV2.out HSP.out HM.out 1 hxi).mono ?_
 rintro en w3 ⟨rfl, hb3⟩
 have HV3 := zh (HV2.out.later hb3)
 have HF3 := zh (HF2.out.trans (Fr.of_below hb3 _))
 have HC3 := zh (HC2.out.below hb3 HC2.out.lt)
 have HI3 := zh (HI2.out.below hb3 HI2.out.lt)
 clear hb3
 refine hK.out _ _ ⟨(HC3.out.cell 0), (HI3.out.cell 0)⟩ (still_none _ _) ?_
 clear hK K
 (try simp only [Act.put, sA, sB, sC])
 refine ts_run1 rfl rfl (fun K hK => ?_)
 go_simp
 refine (must_any HV3.out _ 80).mono ?_
 rintro en w4 ⟨rfl, hv, hf⟩
 have HV4 := zh hv
 have HF4 := zh (HF3.out.trans hf)
 have HC4 := zh (HV3.out.keep HC3.out (by decide) hf)
 have HI4 := zh (HV3.out.keep HI3.out (by decide) hf)
 clear hv hf
 refine hK.out _ _ ⟨(HC4.out.cell 0), (HI4.out.cell 0)⟩ (still_none _ _) ?_
 clear hK K
 (try simp only [Act.put, sA, sB, sC])
 refine ts_done ?_
 have cc : w4.cell? ⟨cb, 0, none⟩ = some (.pointer (some ⟨kb, 0, none⟩)) := HC4.out.cell 0
 have xI1 : w4.cell? ⟨Bi, 1, none⟩ = some (x.ov) := HI4.out.cell 1
 go_wp2_with fail
 refine (const_any HV4.out HSP.out HM.out HX.out.2.1.1 HX.out.2.1.2.1 127).mono ?_
 rintro en w5 ⟨rfl, hv, hf⟩
 clear cc xI1 
 have HV5 := zh hv
 have HF5 := zh (HF4.out.trans hf)
 have HC5 := zh (HV4.out.keep HC4.out (by decide) hf)
 have HI5 := zh (HV4.out.keep HI4.out (by decide) hf)
 clear hv hf
 have cc : w5.cell? ⟨cb, 0, none⟩ = some (.pointer (some ⟨kb, 0, none⟩)) := HC5.out.cell 0
 have xI2 : w5.cell? ⟨Bi, 2, none⟩ = some (x.fv) := HI5.out.cell 2
 go_wp2_with fail
 refine (every_u32 HV5.out ent_61 (ar := fun y => #[.int .u32 y, .pointer (some ⟨cb, 0, none⟩)]) (fun _ => by simp) HX.out.2.2.1 HX.out.2.2.2.2 (fun f e => mst e (thereB m 0 f) 80) (fun w' => Lies w' cb 92 #[.pointer (some ⟨kb, 0, none⟩)]) (fun _ _ hf hv hE => by obtain ⟨_, hv⟩ := hv; exact hv.keep hE (by decide) hf) HC5.out (fun y hy w' hv hE => cl61_any hv hE HSP.out HM.out (HX.out.2.2.2.1 y hy))).mono ?_
 rintro en w6 ⟨rfl, hv, hf⟩
 clear cc xI2 
 have HV6 := zh hv
 have HF6 := zh (HF5.out.trans hf)
 have HC6 := zh (HV5.out.keep HC5.out (by decide) hf)
 have HI6 := zh (HV5.out.keep HI5.out (by decide) hf)
 clear hv hf
 go_wp2_with fail
 go_end0
 exact ⟨rfl, HV6.out, HF6.out⟩
set_option maxRecDepth 100000 in
set_option maxHeartbeats 8000000 in
theorem cl8_any {W1 w : World} {kb S0 : Nat} {m : Mod} {e : Nat} (h : Vk W1 kb S0 m e w) {cb : Nat} (hcb : Lies w cb 92 #[.pointer (some ⟨kb, 0, none⟩)]) (hsp : SpX W1 S0 m) (hm : ModOk W1 m) {x : Dat} (hx : DatOk W1 x) :
  Calls Tryz.prog 53 #[.agg x.cs.toArray, .pointer (some ⟨cb, 0, none⟩)] w fun en w' => VSays W1 kb S0 m w (datE m x e) en w' := by
 have HSP := zh hsp
 have HM := zh hm
 have HX := zh hx
 have hxi := hx.1
 have HV0 := zh h
 have HF0 := zh (Fr.refl w (fun k => k = kb))
 have HC0 := zh hcb
 clear h hcb hsp hm hx
 go_enter Tryz.func53, Tryz.ntmps53
 go_wp2_with (refine wl_box x.cs _ rfl rfl rfl (fun w1 hb1 hl1 => ?_); have HV1 := zh (HV0.out.later hb1); have HF1 := zh (HF0.out.trans (Fr.of_below hb1 _)); have HC1 := zh (HC0.out.below hb1 HC0.out.lt); have HI1 := zh hl1; obtain ⟨Bi, hB1⟩ : ∃ Bi, Bi = w.heap.size := ⟨_, rfl⟩; rw [← hB1] at HI1 ⊢; clear hB1 hl1; have cc : w1.cell? ⟨cb, 0, none⟩ = some (.pointer (some ⟨kb, 0, none⟩)) := HC1.out.cell 0; have xI0 : w1.cell? ⟨Bi, 0, none⟩ = some (.int .u32 x.mem) := HI1.out.cell 0; have xI1 : w1.cell? ⟨Bi, 1, none⟩ = some (x.ov) := HI1.out.cell 1; clear hb1; (try simp only [Act.put, sA, sB, sC]))
 clear cc xI0 xI1 
 have hd2 := below_drew w1
 have HV2 := zh (HV1.out.later hd2)
 have HF2 := zh (HF1.out.trans (Fr.of_below hd2 _))
 have HC2 := zh (HC1.out.below hd2 HC1.out.lt)
 have HI2 := zh (HI1.out.below hd2 HI1.out.lt)
 refine wp_region_t [(0, 1), (1, 1), (2, 1), (3, 1), (4, 0), (5, 0)] (fun w' => w'.cell? ⟨cb, 0, none⟩ = some (.pointer (some ⟨kb, 0, none⟩)) ∧ w'.cell? ⟨Bi, 0, none⟩ = some (.int .u32 x.mem)) [] [] rfl (by kernel_rfl) (by kernel_rfl) (fun _ _ d _ _ h => by cases d <;> exact h) ⟨(HC2.out.cell 0), (HI2.out.cell 0)⟩ (fun p hp => by cases hp) ?_
 clear hd2
 generalize w1.drew = w2 at HV2 HF2 HC2 HI2 ⊢
 repeat (first | (refine ts_take (v := ?_) rfl rfl (fun w' hw' => ?_) ?_; rotate_left; (focus (obtain ⟨q0, q1⟩ := hw'; (try simp only [Act.put, sA, sB, sC]); go_simp; (try go_bits); (try (with_reducible rfl)))); (try simp only [Act.put, sA, sB, sC])) | (refine ts_skip rfl rfl ?_; (try simp only [Act.put, sA, sB, sC])))
 refine ts_run1 rfl rfl (fun K hK => ?_)
 go_simp
 refine (there_any HV2.out HSP.out HM.out 2 hxi).mono ?_
 rintro en w3 ⟨rfl, hb3⟩
 have HV3 := zh (HV2.out.later hb3)
 have HF3 := zh (HF2.out.trans (Fr.of_below hb3 _))
 have HC3 := zh (HC2.out.below hb3 HC2.out.lt)
 have HI3 := zh (HI2.out.below hb3 HI2.out.lt)
 clear hb3
 refine hK.out _ _ ⟨(HC3.out.cell 0), (HI3.out.cell 0)⟩ (still_none _ _) ?_
 clear hK K
 (try simp only [Act.put, sA, sB, sC])
 refine ts_run1 rfl rfl (fun K hK => ?_)
 go_simp
 refine (must_any HV3.out _ 80).mono ?_
 rintro en w4 ⟨rfl, hv, hf⟩
 have HV4 := zh hv
 have HF4 := zh (HF3.out.trans hf)
 have HC4 := zh (HV3.out.keep HC3.out (by decide) hf)
 have HI4 := zh (HV3.out.keep HI3.out (by decide) hf)
 clear hv hf
 refine hK.out _ _ ⟨(HC4.out.cell 0), (HI4.out.cell 0)⟩ (still_none _ _) ?_
 clear hK K
 (try simp only [Act.put, sA, sB, sC])
 refine ts_done ?_
 have cc : w4.cell? ⟨cb, 0, none⟩ = some (.pointer (some ⟨kb, 0, none⟩)) := HC4.out.cell 0
 have xI1 : w4.cell? ⟨Bi, 1, none⟩ = some (x.ov) := HI4.out.cell 1
 go_wp2_with fail
 refine (const_any HV4.out HSP.out HM.out HX.out.2.1.1 HX.out.2.1.2.1 127).mono ?_
 rintro en w5 ⟨rfl, hv, hf⟩
 clear cc xI1 
 have HV5 := zh hv
 have HF5 := zh (HF4.out.trans hf)
 have HC5 := zh (HV4.out.keep HC4.out (by decide) hf)
 have HI5 := zh (HV4.out.keep HI4.out (by decide) hf)
 clear hv hf
 go_wp2_with fail
 go_end0
 exact ⟨rfl, HV5.out, HF5.out⟩
end Go.Proofs.YtmgjcaikldeioaaGreat.Va
/- A module's checker: the exports, each name once. -/
namespace Go.Proofs.YtmgjcaikldeioaaGreat.Va
open Go Go.RowKit Go.Lib Kt Fm Gr Ty

/-! ### names -/
abbrev Kb := {b : List UInt8 // b.length ≤ maxLen}
def sk (k : Kb) : Value := .string ⟨k.1.toArray⟩
theorem encKb : KeyEnc Tryz.prog 9 sk :=
 ⟨Maps.string_keyed Tryz.underlying9, fun k => ⟨.string k.1, by
  have h := k.2
  have hs : (⟨k.1.toArray⟩ : ByteArray).size = k.1.length := rfl
  simp only [keyOf, mapKey, Tryz.underlying9, sk, hs, h, if_true]⟩, fun {a b} h => Subtype.ext (by
   unfold sk at h
   injection h with h
   injection h with h
   exact congrArg Array.toList h)⟩
def unit : Value := .agg #[]
/-- The names that a map has. -/
def NM (w : World) (mb : Nat) (ns : List (List UInt8)) : Prop := ∃ L : List (Kb × Value), IsMap sk w mb L ∧ (∀ b, b ∈ ns ↔ ∃ c ∈ L, c.1.1 = b) ∧ ∀ c ∈ L, c.2 = unit
section
variable {w w' : World} {mb : Nat} {ns : List (List UInt8)}
theorem NM.of_block (h : NM w mb ns) (he : w'.heap[mb]? = w.heap[mb]?) : NM w' mb ns := by
 obtain ⟨L, h1, h2⟩ := h
 exact ⟨L, h1.of_block he, h2⟩
theorem NM.lt (h : NM w mb ns) : mb < w.heap.size := by obtain ⟨L, h, _⟩ := h; exact h.lt
theorem NM.later (h : NM w mb ns) (hb : Below w.heap.size w w') : NM w' mb ns := h.of_block (hb.block mb h.lt)
theorem NM.not_lies (h : NM w mb ns) {t : TypeId} {cs : Array Value} (hl : Lies w mb t cs) : False := by
 obtain ⟨L, h, _⟩ := h
 obtain ⟨es, c, h1, _⟩ := h.block
 have := (show w.heap[mb]? = _ from hl).symm.trans h1
 cases this
theorem NM.keep {B : Nat} {t : TypeId} {cs : Array Value} (h : NM w mb ns) (hl : Lies w B t cs) (hf : Fr w w' (fun k => k = B)) : NM w' mb ns :=
 h.of_block (hf.block mb h.lt fun e => h.not_lies (by rw [e]; exact hl))
theorem NM.put {B : Nat} {t : TypeId} {cs : Array Value} (h : NM w mb ns) (hl : Lies w B t cs) (hg : w.grownBy w' (some mb)) : Lies w' B t cs :=
 (hg.block B hl.lt (fun e => by injection e with e; subst e; exact h.not_lies hl)).trans hl
end
theorem zeroUnit (w : World) : (zeroValue 157).run Tryz.prog w = .ok unit w := by kernel_rfl
theorem wl_name {ops : Array Oper} {rest : List Oper} {o : Oper} {a : Act} {Q : Exit → Act → World → Prop} {w : World} {mb : Nat} {ns : List (List UInt8)} (h : NM w mb ns) {s : ByteArray} (hs : s.size ≤ maxLen) (mm kx : Operand) (hop : o.op = Op.lookup 156 mm kx true) (hg : o.guard = none) (hm : a.eval mm = .map (some mb)) (hk : a.eval kx = .string s)
  (hK : wpList Tryz.prog ops Q rest (a.put o.dst (.tuple #[unit, .bool (decide (nmL s ∈ ns))])) w) : wpList Tryz.prog ops Q (o :: rest) a w := by
 obtain ⟨L, h1, h2, h3⟩ := h
 refine wpl_look encKb Tryz.underlying156 h1 true (zeroUnit w) ⟨nmL s, hs⟩ mm kx hop hg hm hk ?_
 have e : lookVal true unit (valAt L ⟨nmL s, hs⟩) = .tuple #[unit, .bool (decide (nmL s ∈ ns))] := by
  cases hv : valAt L ⟨nmL s, hs⟩ with
  | none =>
   have hn := valAt_none.1 hv
   have : nmL s ∉ ns := fun hm => by
    obtain ⟨c, hc, hcs⟩ := (h2 _).1 hm
    exact hn (List.mem_map.2 ⟨c, hc, Subtype.ext hcs⟩)
   simp [lookVal, this]
  | some v =>
   have hm := valAt_mem hv
   have hu : v = unit := h3 _ hm
   subst hu
   have : nmL s ∈ ns := (h2 _).2 ⟨_, hm, rfl⟩
   simp [lookVal, this]
 rw [e]
 exact hK
theorem wl_named {ops : Array Oper} {rest : List Oper} {o : Oper} {a : Act} {Q : Exit → Act → World → Prop} {w : World} {mb : Nat} {ns : List (List UInt8)} (h : NM w mb ns) {s : ByteArray} (hs : s.size ≤ maxLen) (mm kx vx : Operand) (hop : o.op = Op.mapUpdate 156 mm kx vx) (hg : o.guard = none) (hm : a.eval mm = .map (some mb)) (hk : a.eval kx = .string s) (hv : a.eval vx = unit)
  (hK : ∀ w', NM w' mb (ns ++ [nmL s]) → w.grownBy w' (some mb) → wpList Tryz.prog ops Q rest (a.put o.dst undef) w') : wpList Tryz.prog ops Q (o :: rest) a w := by
 obtain ⟨L, h1, h2, h3⟩ := h
 refine wpl_store encKb Tryz.underlying156 h1 ⟨nmL s, hs⟩ mm kx vx hop hg hm hk unit hv (fun w' hm' hg' _ => hK w' ⟨_, hm', fun b => ?_, fun c hc => ?_⟩ hg')
 ·constructor
  ·intro hb
   rcases List.mem_append.1 hb with hb | hb
   ·obtain ⟨c, hc, rfl⟩ := (h2 b).1 hb
    by_cases e : c.1 = ⟨nmL s, hs⟩
    ·exact ⟨_, .head _, by rw [e]⟩
    ·exact ⟨c, .tail _ (List.mem_filter.2 ⟨hc, by simpa using e⟩), rfl⟩
   ·obtain rfl := List.mem_singleton.1 hb
    exact ⟨_, .head _, rfl⟩
  ·rintro ⟨c, hc, rfl⟩
   rcases List.mem_cons.1 hc with rfl | hc
   ·exact List.mem_append_right _ (List.mem_singleton.2 rfl)
   ·exact List.mem_append_left _ ((h2 _).2 ⟨c, (List.mem_filter.1 hc).1, rfl⟩)
 ·rcases List.mem_cons.1 hc with rfl | hc
  ·rfl
  ·exact h3 c (List.mem_filter.1 hc).1
/-! ### plain: behind one more -/
theorem expE_snoc {m : Mod} (x : Exp) : ∀ {l : List Exp} {ns : List (List UInt8)} {e : Nat}, expE m l ns e = 0 → expE m (l ++ [x]) ns e = mst (mst 0 (thereB m x.kind x.ix) 80) (!decide (nmL x.nm ∈ ns ++ l.map (fun y => nmL y.nm))) 111
 | [], ns, e, h => by
  have h : e = 0 := h
  subst h
  simp [expE]
 | y :: r, ns, e, h => by
  rw [List.cons_append, expE] at *
  by_cases he : e = 0
  ·subst he
   rw [if_pos rfl] at *
   rw [expE_snoc x h]
   simp
  ·rw [if_neg he] at h; exact absurd h he
theorem expE_app {m : Mod} (l2 : List Exp) : ∀ {l : List Exp} {ns : List (List UInt8)} {e : Nat}, expE m l ns e ≠ 0 → expE m (l ++ l2) ns e = expE m l ns e
 | [], ns, e, h => by
  have h : e ≠ 0 := h
  cases l2 with
  | nil => rfl
  | cons y r => exact if_neg h
 | y :: r, ns, e, h => by
  rw [List.cons_append, expE] at *
  by_cases he : e = 0
  ·subst he
   rw [if_pos rfl] at *
   rw [expE, if_pos rfl]
   exact expE_app l2 h
  ·rw [if_neg he, expE, if_neg he]
theorem sizeUnit : (Tryz.prog.info? 157).map (·.size) = some 0 := by kernel_rfl
set_option maxRecDepth 100000 in
set_option maxHeartbeats 8000000 in
theorem expo1_any {W1 w : World} {kb S0 cb nb mb : Nat} {m : Mod} {e : Nat} {ns : List (List UInt8)} (h : Vk W1 kb S0 m e w) (hcb : Lies w cb 92 #[.pointer (some ⟨kb, 0, none⟩)]) (hnb : Lies w nb 156 #[.map (some mb)]) (hnm : NM w mb ns) (hmb : W1.heap.size ≤ mb) (hsp : SpX W1 S0 m) (hm : ModOk W1 m) {x : Exp} (hx : ExpOk W1 x) :
  Calls Tryz.prog 80 #[.agg x.cs.toArray, .pointer (some ⟨nb, 0, none⟩), .pointer (some ⟨cb, 0, none⟩)] w fun en w' => en = .returned (.tuple #[]) ∧ Vk W1 kb S0 m (mst (mst e (thereB m x.kind x.ix) 80) (!decide (nmL x.nm ∈ ns)) 111) w' ∧ Fr w w' (fun k => k = kb ∨ k = mb) ∧ Lies w' cb 92 #[.pointer (some ⟨kb, 0, none⟩)] ∧ Lies w' nb 156 #[.map (some mb)] ∧ NM w' mb (ns ++ [nmL x.nm]) := by
 have HSP := zh hsp
 have HM := zh hm
 have hxi := hx.1
 have HSZ := zh (show x.nm.size ≤ maxLen from Nat.le_trans hx.2 (by decide))
 have HN0 := zh hnm
 have HMB := zh hmb
 obtain ⟨tw, htw⟩ : ∃ tw, tw = decide (nmL x.nm ∈ ns) := ⟨_, rfl⟩
 rw [← htw]
 have HTW := zh htw
 clear htw
 have HB0 := zh hnb
 have HV0 := zh h
 have HF0 := zh (Fr.refl w (fun k => k = kb))
 have HC0 := zh hcb
 clear h hcb hsp hm hnb hnm hmb hx
 replace HF0 := zh (Fr.refl w (fun k => k = kb ∨ k = mb))
 go_enter Tryz.func80, Tryz.ntmps80
 go_wp2_with (first | (refine wl_box x.cs _ rfl rfl rfl (fun w1 hb1 hl1 => ?_); have HV1 := zh (HV0.out.later hb1); have HF1 := zh (HF0.out.trans (Fr.of_below hb1 _)); have HC1 := zh (HC0.out.below hb1 HC0.out.lt); have HB1 := zh (HB0.out.below hb1 HB0.out.lt); have HN1 := zh (HN0.out.later hb1); have HI1 := zh hl1; obtain ⟨Bi, hB1⟩ : ∃ Bi, Bi = w.heap.size := ⟨_, rfl⟩; rw [← hB1] at HI1 ⊢; clear hB1 hl1 hb1; have xB0 : w1.cell? ⟨nb, 0, none⟩ = some (.map (some mb)) := HB1.out.cell 0; have xI0 : w1.cell? ⟨Bi, 0, none⟩ = some (.string x.nm) := HI1.out.cell 0; (try simp only [Act.put, sA, sB, sC])) | (refine wl_name HN1.out HSZ.out _ _ rfl rfl rfl rfl ?_; rw [← HTW.out]; (try simp only [Act.put, sA, sB, sC])) | (refine wl_put (Lies.new _ _ _) [] _ _ rfl rfl rfl rfl rfl sizeUnit (by simp) (fun w2 hl2 hf2 => ?_); have hb2 : Below w1.heap.size w1 w2 := below_put ((Below.refl w1.heap.size w1).alloc (Nat.le_refl _) _) hf2 (Nat.le_refl _); have HV2 := zh (HV1.out.later hb2); have HF2 := zh (HF1.out.trans (Fr.of_below hb2 _)); have HC2 := zh (HC1.out.below hb2 HC1.out.lt); have HB2 := zh (HB1.out.below hb2 HB1.out.lt); have HI2 := zh (HI1.out.below hb2 HI1.out.lt); have HN2 := zh (HN1.out.later hb2); clear hl2 hf2 hb2 xB0 xI0; have xB0 : w2.cell? ⟨nb, 0, none⟩ = some (.map (some mb)) := HB2.out.cell 0; have xI0 : w2.cell? ⟨Bi, 0, none⟩ = some (.string x.nm) := HI2.out.cell 0; try simp only [Act.put]) | (refine wl_named HN2.out HSZ.out _ _ _ rfl rfl rfl rfl rfl (fun w3 hn3 hg3 => ?_); have HV3 := zh (show Vk W1 kb S0 m e w3 from ⟨HV2.out.bel.grown hg3 HV2.out.bel.size (fun k hk => by injection hk with hk; rw [← hk]; exact HMB.out), HN2.out.put HV2.out.cell hg3, HV2.out.hk⟩); have HF3 := zh (HF2.out.trans ((Fr.of_grown hg3).mono (fun k _ hk => .inr (by injection hk)))); have HC3 := zh (HN2.out.put HC2.out hg3); have HB3 := zh (HN2.out.put HB2.out hg3); have HI3 := zh (HN2.out.put HI2.out hg3); have HN3 := zh hn3; clear hn3 hg3 xB0 xI0; have cc : w3.cell? ⟨cb, 0, none⟩ = some (.pointer (some ⟨kb, 0, none⟩)) := HC3.out.cell 0; have xI1 : w3.cell? ⟨Bi, 1, none⟩ = some (.int .u8 x.kind.toNat) := HI3.out.cell 1; have xI2 : w3.cell? ⟨Bi, 2, none⟩ = some (.int .u32 x.ix) := HI3.out.cell 2; try simp only [Act.put]))
 clear cc xI1 xI2 
 have hd4 := below_drew w3
 have HV4 := zh (HV3.out.later hd4)
 have HF4 := zh (HF3.out.trans (Fr.of_below hd4 _))
 have HC4 := zh (HC3.out.below hd4 HC3.out.lt)
 have HB4 := zh (HB3.out.below hd4 HB3.out.lt)
 have HI4 := zh (HI3.out.below hd4 HI3.out.lt)
 have HN4 := zh (HN3.out.later hd4)
 refine wp_region_t [(0, 1), (1, 1), (2, 1), (3, 1), (4, 1), (5, 1), (6, 0), (7, 0)] (fun w' => w'.cell? ⟨cb, 0, none⟩ = some (.pointer (some ⟨kb, 0, none⟩)) ∧ w'.cell? ⟨Bi, 1, none⟩ = some (.int .u8 x.kind.toNat) ∧ w'.cell? ⟨Bi, 2, none⟩ = some (.int .u32 x.ix)) [] [] rfl (by kernel_rfl) (by kernel_rfl) (fun _ _ d _ _ h => by cases d <;> exact h) ⟨(HC4.out.cell 0), (HI4.out.cell 1), (HI4.out.cell 2)⟩ (fun p hp => by cases hp) ?_
 clear hd4
 generalize w3.drew = w4 at HV4 HF4 HC4 HB4 HI4 HN4 ⊢
 repeat (first | (refine ts_take (v := ?_) rfl rfl (fun w' hw' => ?_) ?_; rotate_left; (focus (obtain ⟨q0, q1, q2⟩ := hw'; (try simp only [Act.put, sA, sB, sC]); go_simp; (try go_bits); (try (with_reducible rfl)))); (try simp only [Act.put, sA, sB, sC])) | (refine ts_skip rfl rfl ?_; (try simp only [Act.put, sA, sB, sC])))
 refine ts_run1 rfl rfl (fun K hK => ?_)
 go_simp
 refine (there_any HV4.out HSP.out HM.out x.kind hxi).mono ?_
 rintro en w5 ⟨rfl, hb5⟩
 have HV5 := zh (HV4.out.later hb5)
 have HF5 := zh (HF4.out.trans (Fr.of_below hb5 _))
 have HC5 := zh (HC4.out.below hb5 HC4.out.lt)
 have HB5 := zh (HB4.out.below hb5 HB4.out.lt)
 have HI5 := zh (HI4.out.below hb5 HI4.out.lt)
 have HN5 := zh (HN4.out.later hb5)
 clear hb5
 refine hK.out _ _ ⟨(HC5.out.cell 0), (HI5.out.cell 1), (HI5.out.cell 2)⟩ (still_none _ _) ?_
 clear hK K
 (try simp only [Act.put, sA, sB, sC])
 refine ts_run1 rfl rfl (fun K hK => ?_)
 go_simp
 refine (must_any HV5.out _ 80).mono ?_
 rintro en w6 ⟨rfl, hv, hf⟩
 have HV6 := zh hv
 have HF6 := zh (HF5.out.trans (hf.mono (fun _ _ e => .inl e)))
 have HC6 := zh (HV5.out.keep HC5.out (by decide) hf)
 have HB6 := zh (HV5.out.keep HB5.out (by decide) hf)
 have HI6 := zh (HV5.out.keep HI5.out (by decide) hf)
 have HN6 := zh (HN5.out.keep HV5.out.cell hf)
 clear hv hf
 refine hK.out _ _ ⟨(HC6.out.cell 0), (HI6.out.cell 1), (HI6.out.cell 2)⟩ (still_none _ _) ?_
 clear hK K
 (try simp only [Act.put, sA, sB, sC])
 refine ts_done ?_
 have cc : w6.cell? ⟨cb, 0, none⟩ = some (.pointer (some ⟨kb, 0, none⟩)) := HC6.out.cell 0
 go_wp2_with fail
 clear cc 
 refine (must_any HV6.out _ 111).mono ?_
 rintro en w7 ⟨rfl, hv, hf⟩
 have HV7 := zh hv
 have HF7 := zh (HF6.out.trans (hf.mono (fun _ _ e => .inl e)))
 have HC7 := zh (HV6.out.keep HC6.out (by decide) hf)
 have HB7 := zh (HV6.out.keep HB6.out (by decide) hf)
 have HI7 := zh (HV6.out.keep HI6.out (by decide) hf)
 have HN7 := zh (HN6.out.keep HV6.out.cell hf)
 clear hv hf
 go_wp2_with fail
 go_end0
 exact ⟨rfl, HV7.out, HF7.out, HC7.out, HB7.out, HN7.out⟩
theorem ent_x : EnterOk 80 := fun args w => by go_simp
theorem fr_only {w w' : World} {kb mb : Nat} (h : Fr w w' (fun k => k = kb ∨ k = mb)) (hm : w.heap.size ≤ mb) : Fr w w' (fun k => k = kb) :=
 ⟨h.os, h.tape, h.output, h.size, fun k hk hn => h.block k hk (fun e => e.elim hn (fun e => by omega))⟩
set_option maxRecDepth 100000 in
set_option maxHeartbeats 8000000 in
theorem expo_any {W1 w : World} {kb S0 : Nat} {m : Mod} {e : Nat} (h : Vk W1 kb S0 m e w) (hsp : SpX W1 S0 m) (hm : ModOk W1 m) :
  Calls Tryz.prog 44 #[.pointer (some ⟨kb, 0, none⟩)] w fun en w' => VSays W1 kb S0 m w (expE m m.exps [] e) en w' := by
 have HSP := zh hsp
 have HM := zh hm
 have HV0 := zh h
 have HF0 := zh (Fr.refl w (fun k => k = kb))
 clear h hsp hm
 go_enter Tryz.func44, Tryz.ntmps44
 have hmm := @run_makeMap Tryz.prog
 go_wp2_with fail
 clear hmm
 obtain ⟨w1, hw1⟩ : ∃ w1, w1 = ((w.alloc (.cells #[.pointer (some ⟨kb, 0, none⟩)] 92)).alloc (.map #[] 0)).alloc (.cells #[.map (some (w.heap.size + 1))] 156) := ⟨_, rfl⟩
 have hb1 : Below w.heap.size w w1 := hw1 ▸ (((Below.refl _ _).alloc (Nat.le_refl _) _).alloc (by simp) _).alloc (by simp; omega) _
 have hcb : Lies w1 w.heap.size 92 #[.pointer (some ⟨kb, 0, none⟩)] := hw1 ▸ ((Lies.new w _ _).alloc _).alloc _
 have hnm : NM w1 (w.heap.size + 1) [] := by
  refine ⟨[], ?_, fun b => ⟨fun h => (by cases h), fun h => by obtain ⟨c, hc, _⟩ := h; cases hc⟩, fun c hc => by cases hc⟩
  have h2 := (IsMap.new (w.alloc (.cells #[.pointer (some ⟨kb, 0, none⟩)] 92)) sk).alloc (.cells #[.map (some (w.heap.size + 1))] 156)
  rw [World.size_alloc] at h2
  exact hw1 ▸ h2
 have hnb : Lies w1 (w.heap.size + 1 + 1) 156 #[.map (some (w.heap.size + 1))] := by
  have h2 := Lies.new ((w.alloc (.cells #[.pointer (some ⟨kb, 0, none⟩)] 92)).alloc (.map #[] 0)) 156 #[.map (some (w.heap.size + 1))]
  rw [World.size_alloc, World.size_alloc] at h2
  exact hw1 ▸ h2
 rw [← hw1]
 have hmbl : w.heap.size ≤ w.heap.size + 1 := Nat.le_succ _
 generalize w.heap.size + 1 + 1 = nb at hnb ⊢
 generalize hmq : w.heap.size + 1 = mb at hnb hnm hmbl ⊢
 have HWS := zh (show W1.heap.size ≤ mb from Nat.le_trans HV0.out.bel.size hmbl)
 have HMB := zh hmbl
 clear hmq hmbl
 obtain ⟨cb, hcbe⟩ : ∃ cb, cb = w.heap.size := ⟨_, rfl⟩
 rw [← hcbe] at hcb ⊢
 clear hcbe
 have HV1 := zh (HV0.out.later hb1)
 have HF1 := zh (HF0.out.trans (Fr.of_below hb1 _))
 have HC1 := zh hcb
 have HB1 := zh hnb
 have HN1 := zh hnm
 clear hb1 hcb hnm hnb hw1
 have hd2 := below_drew w1
 have HV2 := zh (HV1.out.later hd2)
 have HF2 := zh (HF1.out.trans (Fr.of_below hd2 _))
 have HC2 := zh (HC1.out.below hd2 HC1.out.lt)
 have HB2 := zh (HB1.out.below hd2 HB1.out.lt)
 have HN2 := zh (HN1.out.later hd2)
 refine wp_region_t [(0, 1), (1, 1), (2, 1), (3, 1), (4, 1), (5, 1), (6, 0), (7, 0)] (fun w' => w'.cell? ⟨cb, 0, none⟩ = some (.pointer (some ⟨kb, 0, none⟩)) ∧ w'.cell? ⟨kb, 6, none⟩ = some m.ev) [] [] rfl (by kernel_rfl) (by kernel_rfl) (fun _ _ d _ _ h => by cases d <;> exact h) ⟨HC2.out.cell 0, HV2.out.cell.cell 6⟩ (fun p hp => by cases hp) ?_
 clear hd2
 generalize w1.drew = w2 at HV2 HF2 HC2 HB2 HN2 ⊢
 repeat (first | (refine ts_take (v := ?_) rfl rfl (fun w' hw' => ?_) ?_; rotate_left; (focus (obtain ⟨q0, q1⟩ := hw'; (try simp only [Act.put, sA, sB, sC]); go_simp; (try go_bits); (try (with_reducible rfl)))); (try simp only [Act.put, sA, sB, sC])) | (refine ts_skip rfl rfl ?_; (try simp only [Act.put, sA, sB, sC])))
 refine ts_run1 rfl rfl (fun K hK => ?_)
 go_simp
 refine hK.out _ _ ⟨HC2.out.cell 0, HV2.out.cell.cell 6⟩ (still_none _ _) ?_
 clear hK K
 (try simp only [Act.put, sA, sB, sC])
 refine ts_run1 rfl rfl (fun K hK => ?_)
 go_simp
 obtain ⟨J, hJ⟩ : ∃ J : List Exp → Nat → World → Prop, J = fun A e' w' => Vk W1 kb S0 m e' w' ∧ Lies w' cb 92 #[.pointer (some ⟨kb, 0, none⟩)] ∧ Lies w' nb 156 #[.map (some mb)] ∧ NM w' mb (A.map (fun y => nmL y.nm)) ∧ e' = expE m A [] e ∧ Fr w w' (fun k => k = kb ∨ k = mb) := ⟨_, rfl⟩
 have HJ := zh hJ
 clear hJ
 refine (each_Exp (L := m.exps) J ent_x (ar := fun y => #[.agg y.cs.toArray, .pointer (some ⟨nb, 0, none⟩), .pointer (some ⟨cb, 0, none⟩)]) (fun _ => by simp) (fun A e' w' h => by rw [HJ.out] at h; exact h.1.c13) (fun A e' w' h => by rw [HJ.out] at h; exact HM.out.2.2.2.2.2.2.1.1.later h.1.bel) (fun A e' u u' h hb => by
  rw [HJ.out] at h ⊢
  exact ⟨h.1.later hb, h.2.1.below hb h.2.1.lt, h.2.2.1.below hb h.2.2.1.lt, h.2.2.2.1.later hb, h.2.2.2.2.1, h.2.2.2.2.2.trans (Fr.of_below hb _)⟩) (fun A x R u hL h => ?_) (e0 := e) (by
  rw [HJ.out]
  exact ⟨HV2.out, HC2.out, HB2.out, HN2.out, rfl, HF2.out.mono (fun _ _ e => .inl e)⟩) HM.out.2.2.2.2.2.2.1.2.2 (fun x _ => by simp [Exp.cs, Value.oneCell'])).mono ?_
 ·rw [HJ.out] at h
  refine (expo1_any (w := u) h.1 h.2.1 h.2.2.1 h.2.2.2.1 HWS.out HSP.out HM.out (HM.out.2.2.2.2.2.2.1.2.1 x (by rw [hL]; simp))).mono ?_
  rintro en u' ⟨rfl, hv, hf, hc, hn, hm⟩
  refine ⟨rfl, mst (mst 0 (thereB m x.kind x.ix) 80) (!decide (nmL x.nm ∈ A.map (fun y => nmL y.nm))) 111, ?_⟩
  rw [HJ.out]
  exact ⟨hv, hc, hn, by rw [List.map_append]; exact hm, by rw [expE_snoc x h.2.2.2.2.1.symm, List.nil_append], h.2.2.2.2.2.trans hf⟩
 rintro en w3 ⟨rfl, A, R, e', hL, h, hR⟩
 rw [HJ.out] at h
 have HV3 := zh (show Vk W1 kb S0 m (expE m m.exps [] e) w3 from by
  rcases hR with rfl | hR
  ·rw [hL, List.append_nil, ← h.2.2.2.2.1]
   exact h.1
  ·rw [hL, expE_app R (by rw [← h.2.2.2.2.1]; exact hR), ← h.2.2.2.2.1]
   exact h.1)
 have HF3 := zh (fr_only h.2.2.2.2.2 HMB.out)
 have HC3 := zh h.2.1
 clear h hR hL
 refine hK.out _ _ ⟨HC3.out.cell 0, HV3.out.cell.cell 6⟩ (still_none _ _) ?_
 clear hK K
 (try simp only [Act.put, sA, sB, sC])
 refine ts_done ?_
 go_wp2_with fail
 go_end0
 exact ⟨rfl, HV3.out, HF3.out⟩
end Go.Proofs.YtmgjcaikldeioaaGreat.Va
