/- Frames by the kinds of blocks that may turn; one more, or a whole slice more, in a row of one's own; a field of a block set. Over any program. -/
import Derived.Test.YtkdckcjnjljdmaaCFn
import Derived.Maps.AppendAt
import Derived.Deep.MidRow
namespace Go.Proofs.Ytkdckcjnjljdmaa.Fm
open Go Go.RowKit Kt

def OfKind (es : List TypeId) (W : World) (k : Nat) : Prop := ∃ e, e ∈ es ∧ ∃ cur f, W.heap[k]? = some (.cells cur e f)
/-- All blocks but those of these kinds are as they were. -/
def FrT (es : List TypeId) (W W' : World) : Prop := Fr W W' (OfKind es W)
section
variable {W W' W'' : World} {es es' : List TypeId}
theorem FrT.trans (h : FrT es W W') (k : FrT es' W' W'') : FrT (es ++ es') W W'' := by
  refine ⟨k.os.trans h.os, k.tape.trans h.tape, k.output.trans h.output, Nat.le_trans h.size k.size, fun i hi hn => ?_⟩
  have h1 : ¬ OfKind es W i := fun ⟨e, he, hc⟩ => hn ⟨e, List.mem_append_left _ he, hc⟩
  have hb := h.block i hi h1
  have h2 : ¬ OfKind es' W' i := fun ⟨e, he, cur, f, hc⟩ => hn ⟨e, List.mem_append_right _ he, cur, f, by rw [← hb]; exact hc⟩
  exact (k.block i (Nat.lt_of_lt_of_le hi h.size) h2).trans hb
theorem FrT.sub (h : FrT es W W') (hs : ∀ e ∈ es, e ∈ es') : FrT es' W W' := Fr.mono h (fun _ _ ⟨e, he, hc⟩ => ⟨e, hs e he, hc⟩)
theorem FrT.below (h : Below W.heap.size W W') (es : List TypeId) : FrT es W W' := Fr.of_below h _
theorem FrT.refl (W : World) (es : List TypeId) : FrT es W W := Fr.refl _ _
theorem row_block {base : Nat} {e : TypeId} {sz n : Nat} {v : Value} {xs : List Value} (h : W.ownsRow base e sz v n xs) {k : Nat} (hk : v.ownBlock = some k) : base ≤ k ∧ k < W.heap.size ∧ ∃ cur, W.heap[k]? = some (.cells cur e (0, 0)) := by
  rcases h.2 with ⟨rfl, _⟩ | ⟨g, cap, cur, rfl, hb, hg, _⟩
  · cases hk
  · injection hk with hk; subst hk
    exact ⟨hb, (Array.getElem?_eq_some_iff.1 hg).1, cur, hg⟩
theorem FrT.grown {base : Nat} {e : TypeId} {sz n : Nat} {v : Value} {xs : List Value} (hr : W.ownsRow base e sz v n xs) (hg : W.grownBy W' v.ownBlock) : FrT [e] W W' :=
  (Fr.of_grown hg).mono fun k _ hk => by
    obtain ⟨_, _, cur, hc⟩ := row_block hr hk.symm
    exact ⟨e, List.mem_singleton.2 rfl, cur, _, hc⟩
theorem FrT.field {B : Nat} {t : TypeId} {cs : Array Value} (hl : Lies W B t cs) (hf : Fr W W' (fun k => k = B)) : FrT [t] W W' :=
  hf.mono fun k _ hk => by subst hk; exact ⟨t, List.mem_singleton.2 rfl, cs, _, hl⟩
theorem lies_frT {B : Nat} {t : TypeId} {cs : Array Value} (h : Lies W B t cs) (hf : FrT es W W') (ht : t ∉ es) : Lies W' B t cs :=
  lies_fr h hf fun ⟨e, he, cur, f, hc⟩ => by
    rw [show W.heap[B]? = _ from h] at hc
    injection hc with hc
    injection hc with _ h2 _
    exact ht (h2 ▸ he)
theorem row_frT {base : Nat} {e : TypeId} {sz n : Nat} {v : Value} {xs : List Value} (h : W.ownsRow base e sz v n xs) (hf : FrT es W W') (ht : e ∉ es) : W'.ownsRow base e sz v n xs := by
  refine ⟨h.1, ?_⟩
  rcases h.2 with h0 | ⟨g, cap, cur, rfl, hb, hg, rest⟩
  · exact .inl h0
  · exact .inr ⟨g, cap, cur, rfl, hb, (lies_frT (B := g) hg hf ht : Lies W' g e cur), rest⟩
/-- .. whose own block is not among those that turn. -/
theorem row_fr {m : Nat → Prop} {base : Nat} {e : TypeId} {sz n : Nat} {v : Value} {xs : List Value} (h : W.ownsRow base e sz v n xs) (hf : Fr W W' m) (hn : ∀ k, v.ownBlock = some k → ¬ m k) : W'.ownsRow base e sz v n xs := by
  refine ⟨h.1, ?_⟩
  rcases h.2 with h0 | ⟨g, cap, cur, rfl, hb, hg, rest⟩
  · exact .inl h0
  · exact .inr ⟨g, cap, cur, rfl, hb, (hf.block g (Array.getElem?_eq_some_iff.1 hg).1 (hn g rfl)).trans hg, rest⟩
theorem wrow_frT {own : Nat → Prop} {e : TypeId} {sz n : Nat} {v : Value} {xs : List Value} (h : WRow W own e sz v n xs) (hf : FrT es W W') (ht : e ∉ es) : WRow W' own e sz v n xs :=
  h.kept hf fun k _ hk ⟨e', he, cur, f, hc⟩ => by
    obtain ⟨_, _, cur', hc'⟩ := wrow_lt h hk.symm
    rw [hc'] at hc
    injection hc with hc
    injection hc with _ h2 _
    exact ht (h2 ▸ he)
theorem cell_frT {b o : Nat} {v : Value} {t : TypeId} {cs : Array Value} {f : Nat × Nat} (hb : W.heap[b]? = some (.cells cs t f)) (hc : W.cell? ⟨b, o, none⟩ = some v) (hf : FrT es W W') (ht : t ∉ es) : W'.cell? ⟨b, o, none⟩ = some v := by
  have := hf.block b (Array.getElem?_eq_some_iff.1 hb).1 (fun ⟨e, he, cur, f', hc⟩ => by
    rw [hb] at hc
    injection hc with hc
    injection hc with _ h2 _
    exact ht (h2 ▸ he))
  simp only [World.cell?, this]
  exact hc
theorem row_form {base : Nat} {e : TypeId} {sz n : Nat} {v : Value} {xs : List Value} (h : W.ownsRow base e sz v n xs) : ∃ s cap, v = .slice s n cap ∧ n ≤ cap ∧ (n ≠ 0 → ∃ g, s = some ⟨g, 0, none⟩) := by
  rcases h.2 with ⟨rfl, rfl⟩ | ⟨g, cap, cur, rfl, h0, hg, h1, rest⟩
  · exact ⟨none, 0, rfl, Nat.le_refl _, fun e => absurd rfl e⟩
  · exact ⟨_, cap, rfl, h1, fun _ => ⟨g, rfl⟩⟩
/-- An element of a row of one's own. -/
theorem row_at {α : Type} {en : α → List Value} {base : Nat} {e : TypeId} {sz g n cap : Nat} {L : List α} (hlen : ∀ x, (en x).length = sz) (h : W.ownsRow base e sz (.slice (some ⟨g, 0, none⟩) n cap) n (L.flatMap en)) {i : Nat} {x : α} (hi : L[i]? = some x) : W.rangeAt g (i * sz) (en x) := fun c u hu => by
  have hc : c < sz := by rw [← hlen x]; exact (List.getElem?_eq_some_iff.1 hu).1
  have hf := getElem?_flat hlen hi hc
  have := h.cells (g := g) rfl (i * sz + c) u (by rw [hf]; exact hu)
  rw [Addr.add_lit, Nat.zero_add] at this
  exact this
end

section
variable {P : Program} {op : Oper} {a : Act} {w : World} {K : Act → World → Prop} {Q : Exit → Act → World → Prop}
/-- A slice of one element, built: the block is new. -/
theorem wp_bs1 {t e : TypeId} (v : Value) (cs : List Value) (hb : ∀ w, (Instr.buildSlice t 1 #[(0, v)]).run P w = .ok (.slice (some ⟨w.heap.size, 0, none⟩) 1 1) (w.alloc (.cells cs.toArray e))) (p0 : Operand) (ho : op.op = .buildSlice t 1 #[(0, p0)]) (h0 : a.eval p0 = v)
    (hK : ∀ w1, Below w.heap.size w w1 → Lies w1 w.heap.size e cs.toArray → K (a.put op.dst (.slice (some ⟨w.heap.size, 0, none⟩) 1 1)) w1) : Oper.wp P op a w K Q := by
  have := hb w
  unfold Oper.wp execOp
  simp [ho, h0, this]
  exact hK _ ((Below.refl _ _).alloc (Nat.le_refl _) _) (Lies.new w _ _)
theorem info_of' {ty : TypeId} {sz b : Nat} (h : (P.info? ty).map (fun i => (i.zero.map (·.cells.size), i.size, i.bytes)) = some (some sz, sz, b)) : ∃ i z, P.info? ty = some i ∧ i.zero = some z ∧ i.size = sz ∧ i.bytes = b ∧ z.cells.size = sz := by
  cases hi : P.info? ty with
  | none => rw [hi] at h; cases h
  | some i =>
    rw [hi] at h
    simp only [Option.map_some, Option.some.injEq, Prod.mk.injEq] at h
    obtain ⟨h1, h2, h3⟩ := h
    cases hz : i.zero with
    | none => rw [hz] at h1; cases h1
    | some z =>
      rw [hz] at h1
      simp only [Option.map_some, Option.some.injEq] at h1
      exact ⟨i, z, rfl, hz, h2, h3, h1⟩
/-- APPEND to a row of one's own what a slice shows. -/
theorem run_append_sl {base : Nat} {t ty e : TypeId} {sz by_ : Nat} (ht : P.underlying t = some (.slice e)) (hi : (P.info? e).map (fun i => (i.zero.map (·.cells.size), i.size, i.bytes)) = some (some sz, sz, by_)) (hsz : 0 < sz)
    {v : Value} {n : Nat} {xs : List Value} (hown : w.ownsRow base e sz v n xs) {α : Type} {en : α → List Value} (hlen : ∀ x, (en x).length = sz) {x : Value} {L : List α} (hx : Sl w sz en x L) (h1 : ∀ y ∈ L, ∀ u ∈ en y, u.oneCell' = true)
    (h63 : n + L.length ≤ maxLen) (hbytes : (n + L.length) * by_ ≤ 140737488355328) (hbase : base ≤ w.heap.size) :
    ∃ v' w', (Builtin.append_ #[t, t] ty #[v, x]).run P w = .ok v' w' ∧ w'.ownsRow base e sz v' (n + L.length) (xs ++ L.flatMap en) ∧ w.grownBy w' v.ownBlock ∧ (v'.ownBlock = v.ownBlock ∨ v'.ownBlock = some w.heap.size) := by
  obtain ⟨i, z, hi, hz0, hz1, hz2, hz3⟩ := info_of' hi
  obtain ⟨s, cap, rfl, hs⟩ := hx.form
  have hflat : ∀ u ∈ L.flatMap en, u.oneCell' = true := fun u hu => by
    obtain ⟨y, hy, hu⟩ := List.mem_flatMap.1 hu
    exact h1 y hy u hu
  cases s with
  | some ad =>
    have hA : ∀ j u, (L.flatMap en)[j]? = some u → w.cell? (ad.add j) = some u := by
      intro j u hj
      have hne : L ≠ [] := by intro e; rw [e] at hj; simp at hj
      obtain ⟨g, off, he, _⟩ := hs hne
      injection he with he
      subst he
      have hlj := (List.getElem?_eq_some_iff.1 hj).1
      rw [length_flat hlen] at hlj
      have hq : j / sz < L.length := Nat.div_lt_of_lt_mul (by rw [Nat.mul_comm]; exact hlj)
      obtain ⟨y, hy⟩ : ∃ y, L[j / sz]? = some y := ⟨_, List.getElem?_eq_getElem hq⟩
      have hm : j % sz < sz := Nat.mod_lt _ hsz
      have hjj : j / sz * sz + j % sz = j := by rw [Nat.mul_comm]; exact Nat.div_add_mod j sz
      have hf := getElem?_flat hlen hy hm
      rw [hjj, hj] at hf
      have := hx.cell hy hf.symm
      rw [Addr.add_lit, ← hjj, ← Nat.add_assoc]
      exact this
    obtain ⟨v', w', hr, h2, h3, _, h5⟩ := run_append_own_at (P := P) w base t ty e i z sz by_ ht hi hz0 hz1 hz2 hz3 hsz v n xs hown ad L.length cap (L.flatMap en) (length_flat hlen L) hA hflat h63 hbytes hbase
    exact ⟨v', w', hr, h2, h3, h5⟩
  | none =>
    have hL : L = [] := by
      by_cases h0 : L = []
      · exact h0
      · obtain ⟨g, off, e, _⟩ := hs h0; cases e
    subst hL
    obtain ⟨s', cap', hv, hle, _⟩ := row_form hown
    subst hv
    refine ⟨.slice s' n cap', w, ?_, by simpa using hown, ⟨rfl, rfl, rfl, Nat.le_refl _, fun _ _ _ => rfl⟩, Or.inl rfl⟩
    have hst : ∀ ad : Addr, (storeCells ad []).run P w = .ok () w := fun ad => by simp [storeCells]
    cases s' <;> simp [Builtin.append_, run_underlying ht, sizeOf, typeInfo, hi, Builtin.lenOf, Builtin.firstCells, loadCells, hle, hst]
theorem wp_app {base : Nat} {t e : TypeId} {sz by_ : Nat} (p q : Operand) (ho : op.op = .call { callee := .builtin .append, args := #[p, q], argTypes := #[t, t] }) (ht : P.underlying t = some (.slice e)) (hi : (P.info? e).map (fun i => (i.zero.map (·.cells.size), i.size, i.bytes)) = some (some sz, sz, by_)) (hsz : 0 < sz)
    {v : Value} {n : Nat} {xs : List Value} (hv : a.eval p = v) (hown : w.ownsRow base e sz v n xs) {α : Type} {en : α → List Value} (hlen : ∀ x, (en x).length = sz) {x : Value} {L : List α} (hq : a.eval q = x) (hx : Sl w sz en x L) (h1 : ∀ y ∈ L, ∀ u ∈ en y, u.oneCell' = true)
    (h63 : n + L.length ≤ maxLen) (hbytes : (n + L.length) * by_ ≤ 140737488355328) (hbase : base ≤ w.heap.size)
    (hK : ∀ v' w', w'.ownsRow base e sz v' (n + L.length) (xs ++ L.flatMap en) → w.grownBy w' v.ownBlock → (v'.ownBlock = v.ownBlock ∨ v'.ownBlock = some w.heap.size) → K (a.put op.dst v') w') : op.wp P a w K Q := by
  obtain ⟨v', w', hr, h2, h3, h4⟩ := run_append_sl (P := P) (ty := op.type) ht hi hsz hown hlen hx h1 h63 hbytes hbase
  unfold Oper.wp execOp
  simp only [ho, resolve, invoke, builtin, Sem.run_bind, Sem.run_pure, Result.andThen_ok, List.map_toArray, List.map_cons, List.map_nil, hv, hq, hr]
  exact hK v' w' h2 h3 h4
/-- A slice of one element that was just built. -/
theorem sl_one {α : Type} {en : α → List Value} {w : World} {g : Nat} {e : TypeId} {sz : Nat} {x : α} (h : Lies w g e (en x).toArray) : Sl w sz en (.slice (some ⟨g, 0, none⟩) 1 1) [x] :=
  ⟨_, 1, rfl, fun _ => ⟨g, 0, rfl, h.lt, fun i y hi j c hj => by
    have h0 : i = 0 := by
      have := (List.getElem?_eq_some_iff.1 hi).1
      simp at this
      exact this
    subst h0
    obtain rfl : x = y := by simpa using hi
    have hg : w.cell? ⟨g, j, none⟩ = some c := by rw [h.cell]; simpa using hj
    simpa using hg⟩⟩
/-- A FIELD is set: what the block holds behind it. -/
theorem wp_fld {b o : Nat} {ty t : TypeId} {c0 : List Value} (hl : Lies w b t c0.toArray) (p q : Operand) (ho : op.op = .store ty p q) (hp : a.eval p = .pointer (some ⟨b, o, none⟩)) {v : Value} (hq : a.eval q = v) (vs c1 : List Value) (hv : v.cells = vs.toArray)
    (hi : (P.info? ty).map (·.size) = some vs.length) (h1 : ∀ u ∈ vs, u.oneCell' = true) (hle : o + vs.length ≤ c0.length) (hn : c0.take o ++ vs ++ c0.drop (o + vs.length) = c1)
    (hK : ∀ w', Lies w' b t c1.toArray → Fr w w' (fun k => k = b) → K (a.put op.dst undef) w') : op.wp P a w K Q := by
  have hc : ∀ j, j < vs.length → (w.cell? ⟨b, o + j, none⟩).isSome = true := fun j hj => by
    rw [hl.cell, Array.getElem?_eq_getElem (by simp; omega)]; rfl
  have hst := run_storeCells_cells (P := P) b o vs 0 w (fun j hj => by simpa using hc j hj) (fun j _ => hl.frozen _) h1
  simp only [Nat.add_zero] at hst
  cases hq' : P.info? ty with
  | none => simp [hq'] at hi
  | some i =>
    have hs : i.size = vs.length := by simpa [hq'] using hi
    have hrun : (storeVar ty ⟨b, o, none⟩ v).run P w = .ok () (w.setCells b o vs) := by
      simp [storeVar, sizeOf, typeInfo, hq', hv, hs, hst]
    unfold Oper.wp execOp
    simp only [ho, hp, hq, Instr.storeAt, Instr.sureAddr, Sem.run_bind, Sem.run_pure, Result.andThen_ok, hrun]
    refine hK _ ?_ ⟨World.os_setCells _ _ _ _, tape_setCells _ _ _ _, World.output_setCells _ _ _ _, Nat.le_of_eq (size_setCells _ _ _ _).symm, fun k hk hn => World.heap_setCells_other w b _ vs hk hn⟩
    obtain ⟨cur', a1, a2, _⟩ := heap_setCells vs o w c0.toArray hl
    have he : cur' = c1.toArray := by
      refine Array.ext_getElem? fun j => ?_
      subst hn
      have e0 : (c0.take o ++ vs ++ c0.drop (o + vs.length)).toArray[j]? = (c0.take o ++ vs ++ c0.drop (o + vs.length))[j]? := by simp only [List.getElem?_toArray]
      rw [e0, getElem?_over hle]
      by_cases hr : o ≤ j ∧ j < o + vs.length
      · rw [if_pos hr]
        have := World.cell?_setCells_in b vs o w hc (j - o) (by omega)
        rw [show o + (j - o) = j by omega] at this
        rw [List.getElem?_eq_getElem (show j - o < vs.length by omega)]
        simpa [World.cell?, a1] using this
      · rw [if_neg hr]
        have := World.cell?_setCells_out b vs o w ⟨b, j, none⟩ (fun _ _ => by show j < o ∨ o + vs.length ≤ j; omega)
        simpa [World.cell?, a1, show w.heap[b]? = _ from hl] using this
    rw [he] at a1
    exact a1
/-- A load of many cells. -/
theorem exec_load {act : Act} {cs : List Value} {b o : Nat} {ty : TypeId} {d : TypeDesc} (h : w.rangeAt b o cs) (p : Operand) (ho : op.op = .load ty p) (hx : act.eval p = .pointer (some ⟨b, o, none⟩)) (hu : P.underlying ty = some d) (hd : d.isRow = true) (hi : (P.info? ty).map (·.size) = some cs.length) : (execOp act.eval op).run P w = .ok (.value (.agg cs.toArray)) w := by
  have hl := run_loadAt_mid (P := P) w b o ty cs _ h hu hd hi
  unfold execOp
  simp only [ho, hx, hl, Sem.run_bind, Sem.run_pure, Result.andThen_ok]
variable {ops : Array Oper} {rest : List Oper}
theorem wl_fld {b o : Nat} {ty t : TypeId} {c0 : List Value} (hl : Lies w b t c0.toArray) (p q : Operand) (hgd : op.guard = none) (ho : op.op = .store ty p q) (hp : a.eval p = .pointer (some ⟨b, o, none⟩)) {v : Value} (hq : a.eval q = v) (vs c1 : List Value) (hv : v.cells = vs.toArray)
    (hi : (P.info? ty).map (·.size) = some vs.length) (h1 : ∀ u ∈ vs, u.oneCell' = true) (hle : o + vs.length ≤ c0.length) (hn : c0.take o ++ vs ++ c0.drop (o + vs.length) = c1)
    (hK : ∀ w', Lies w' b t c1.toArray → Fr w w' (fun k => k = b) → wpList P ops Q rest (a.put op.dst undef) w') : wpList P ops Q (op :: rest) a w :=
  wpList_plain hgd fun _ hK' => wp_fld hl p q ho hp hq vs c1 hv hi h1 hle hn fun w' h2 h3 => hK' _ _ (hK w' h2 h3)
theorem wl_bs1 {t e : TypeId} (v : Value) (cs : List Value) (hb : ∀ w, (Instr.buildSlice t 1 #[(0, v)]).run P w = .ok (.slice (some ⟨w.heap.size, 0, none⟩) 1 1) (w.alloc (.cells cs.toArray e))) (p0 : Operand) (hgd : op.guard = none) (ho : op.op = .buildSlice t 1 #[(0, p0)]) (h0 : a.eval p0 = v)
    (hK : ∀ w1, Below w.heap.size w w1 → Lies w1 w.heap.size e cs.toArray → wpList P ops Q rest (a.put op.dst (.slice (some ⟨w.heap.size, 0, none⟩) 1 1)) w1) : wpList P ops Q (op :: rest) a w :=
  wpList_plain hgd fun _ hK' => wp_bs1 v cs hb p0 ho h0 fun w1 h1 h2 => hK' _ _ (hK w1 h1 h2)
theorem wl_app {base : Nat} {t e : TypeId} {sz by_ : Nat} (p q : Operand) (hgd : op.guard = none) (ho : op.op = .call { callee := .builtin .append, args := #[p, q], argTypes := #[t, t] }) (ht : P.underlying t = some (.slice e)) (hi : (P.info? e).map (fun i => (i.zero.map (·.cells.size), i.size, i.bytes)) = some (some sz, sz, by_)) (hsz : 0 < sz)
    {v : Value} {n : Nat} {xs : List Value} (hv : a.eval p = v) (hown : w.ownsRow base e sz v n xs) {α : Type} {en : α → List Value} (hlen : ∀ x, (en x).length = sz) {x : Value} {L : List α} (hq : a.eval q = x) (hx : Sl w sz en x L) (h1 : ∀ y ∈ L, ∀ u ∈ en y, u.oneCell' = true)
    (h63 : n + L.length ≤ maxLen) (hbytes : (n + L.length) * by_ ≤ 140737488355328) (hbase : base ≤ w.heap.size)
    (hK : ∀ v' w', w'.ownsRow base e sz v' (n + L.length) (xs ++ L.flatMap en) → w.grownBy w' v.ownBlock → (v'.ownBlock = v.ownBlock ∨ v'.ownBlock = some w.heap.size) → wpList P ops Q rest (a.put op.dst v') w') : wpList P ops Q (op :: rest) a w :=
  wpList_plain hgd fun _ hK' => wp_app p q ho ht hi hsz hv hown hlen hq hx h1 h63 hbytes hbase fun v' w' h2 h3 h4 => hK' _ _ (hK v' w' h2 h3 h4)
end
end Go.Proofs.Ytkdckcjnjljdmaa.Fm
