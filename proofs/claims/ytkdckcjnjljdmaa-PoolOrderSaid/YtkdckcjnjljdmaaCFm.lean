/- Frames by blocks; rows of one's own, appended to; slices that show a list; slices that came in, opened. Over any program. -/
import Derived.Test.YtkdckcjnjljdmaaCBx
import Derived.Lib.Hide
import Derived.Lib.SliceRun
import Derived.Deep.Upon
import Derived.Deep.Slices
import Derived.Deep.Onto
import Derived.OpenShut
import Derived.WideShapes
namespace Go.Proofs.Ytkdckcjnjljdmaa.Fm
open Go Go.RowKit Go.WideShapes Kt

/-- All blocks that were there are as they were, but those that `may` speaks of. -/
structure Fr (W W' : World) (may : Nat → Prop) : Prop where
  os : W'.os = W.os
  tape : W'.tape = W.tape
  output : W'.output = W.output
  size : W.heap.size ≤ W'.heap.size
  block : ∀ k, k < W.heap.size → ¬ may k → W'.heap[k]? = W.heap[k]?
section
variable {W W' W'' : World} {m m' : Nat → Prop}
theorem Fr.refl (W : World) (m : Nat → Prop) : Fr W W m := ⟨rfl, rfl, rfl, Nat.le_refl _, fun _ _ _ => rfl⟩
theorem Fr.trans (h : Fr W W' m) (k : Fr W' W'' m) : Fr W W'' m :=
  ⟨k.os.trans h.os, k.tape.trans h.tape, k.output.trans h.output, Nat.le_trans h.size k.size, fun i hi hm => (k.block i (Nat.lt_of_lt_of_le hi h.size) hm).trans (h.block i hi hm)⟩
theorem Fr.mono (h : Fr W W' m) (hm : ∀ k, k < W.heap.size → m k → m' k) : Fr W W' m' := ⟨h.os, h.tape, h.output, h.size, fun k hk hn => h.block k hk (fun e => hn (hm k hk e))⟩
theorem Fr.of_below (h : Below W.heap.size W W') (m : Nat → Prop) : Fr W W' m := ⟨h.os, h.tape, h.output, h.size, fun k hk _ => h.block k hk⟩
theorem Fr.of_grown {row : Option Nat} (h : W.grownBy W' row) : Fr W W' (fun k => some k = row) := ⟨h.os, h.tape, h.output, h.size, fun k hk hn => h.block k hk hn⟩
theorem Fr.alloc (W : World) (o : Obj) (m : Nat → Prop) : Fr W (W.alloc o) m := Fr.of_below ((Below.refl _ _).alloc (Nat.le_refl _) o) m
theorem Fr.drew (W : World) (m : Nat → Prop) : Fr W W.drew m := ⟨rfl, rfl, rfl, Nat.le_refl _, fun _ _ _ => rfl⟩
theorem Fr.setCell (W : World) (a : Addr) (v : Value) : Fr W (W.setCell a v) (fun k => k = a.block) := ⟨rfl, rfl, rfl, by simp [World.setCell], fun k _ hn => Below.heap_setCell W a v k hn⟩
theorem Fr.below (h : Fr W W' m) {B : Nat} (hB : B ≤ W.heap.size) (hm : ∀ k, m k → B ≤ k) : Below B W W' := ⟨h.os, h.tape, h.output, h.size, fun k hk => h.block k (Nat.lt_of_lt_of_le hk hB) (fun e => by have := hm k e; omega)⟩
theorem lies_fr {b : Nat} {t : TypeId} {cs : Array Value} (h : Lies W b t cs) (hf : Fr W W' m) (hn : ¬ m b) : Lies W' b t cs := (hf.block b h.lt hn).trans h
end


/-- A row of n elements of `size` cells each, in a block of its own kind of which `own` speaks; the block may be longer than the value tells. -/
def WRow (W : World) (own : Nat → Prop) (e : TypeId) (size : Nat) (v : Value) (n : Nat) (xs : List Value) : Prop :=
  xs.length = n * size ∧
  ((v = .slice none 0 0 ∧ n = 0) ∨ ∃ g cap cur, v = .slice (some ⟨g, 0, none⟩) n cap ∧ own g ∧ W.heap[g]? = some (.cells cur e (0, 0)) ∧ n ≤ cap ∧ cap ≤ maxLen ∧ cap * size ≤ cur.size ∧ cur.toList.take (n * size) = xs)
/-- Rows of this kind that are no longer than n stay. -/
def Stay (e : TypeId) (size n : Nat) (W W' : World) : Prop := ∀ own v n' xs, n' ≤ n → WRow W own e size v n' xs → WRow W' own e size v n' xs
section
variable {W W' : World} {own own' m : Nat → Prop} {e : TypeId} {size n : Nat} {v : Value} {xs : List Value}
theorem WRow.of_own {base : Nat} (h : W.ownsRow base e size v n xs) (ho : ∀ k, base ≤ k → own k) : WRow W own e size v n xs := by
  refine ⟨h.1, ?_⟩
  rcases h.2 with h0 | ⟨g, cap, cur, rfl, hb, hg, h1, h2, h3, h4⟩
  · exact .inl h0
  · exact .inr ⟨g, cap, cur, rfl, ho g hb, hg, h1, h2, Nat.le_of_eq h3.symm, h4⟩
theorem WRow.nil (W : World) (own : Nat → Prop) (e : TypeId) (size : Nat) : WRow W own e size (.slice none 0 0) 0 [] := ⟨by simp, .inl ⟨rfl, rfl⟩⟩
theorem WRow.kept (h : WRow W own e size v n xs) (hf : Fr W W' m) (hn : ∀ k, own k → some k = v.ownBlock → ¬ m k) : WRow W' own e size v n xs := by
  refine ⟨h.1, ?_⟩
  rcases h.2 with h0 | ⟨g, cap, cur, rfl, h0, hg, rest⟩
  · exact .inl h0
  · exact .inr ⟨g, cap, cur, rfl, h0, (hf.block g (Array.getElem?_eq_some_iff.1 hg).1 (hn g h0 rfl)).trans hg, rest⟩
theorem WRow.mono (h : WRow W own e size v n xs) (ho : ∀ k, k < W.heap.size → own k → own' k) : WRow W own' e size v n xs := by
  refine ⟨h.1, ?_⟩
  rcases h.2 with h0 | ⟨g, cap, cur, rfl, h0, hg, rest⟩
  · exact .inl h0
  · exact .inr ⟨g, cap, cur, rfl, ho g (Array.getElem?_eq_some_iff.1 hg).1 h0, hg, rest⟩
theorem WRow.form (h : WRow W own e size v n xs) : ∃ s cap, v = .slice s n cap ∧ n ≤ cap ∧ (n ≠ 0 → ∃ g, s = some ⟨g, 0, none⟩ ∧ g < W.heap.size) := by
  rcases h.2 with ⟨rfl, rfl⟩ | ⟨g, cap, cur, rfl, h0, hg, h1, rest⟩
  · exact ⟨none, 0, rfl, Nat.le_refl _, fun e => absurd rfl e⟩
  · exact ⟨_, cap, rfl, h1, fun _ => ⟨g, rfl, (Array.getElem?_eq_some_iff.1 hg).1⟩⟩
theorem WRow.cell {g cap : Nat} (h : WRow W own e size (.slice (some ⟨g, 0, none⟩) n cap) n xs) {j : Nat} {u : Value} (hu : xs[j]? = some u) : W.cell? ⟨g, j, none⟩ = some u := by
  rcases h.2 with ⟨h0, _⟩ | ⟨g', cap', cur, hv, _, hg, h1, h2, h3, h4⟩
  · cases h0
  · cases hv
    have hlt := (List.getElem?_eq_some_iff.1 hu).1
    rw [h.1] at hlt
    rw [← h4, List.getElem?_take, if_pos hlt] at hu
    simp only [World.cell?, hg]
    simpa using hu
theorem Stay.refl (e : TypeId) (size n : Nat) (W : World) : Stay e size n W W := fun _ _ _ _ _ h => h
theorem Stay.trans {W'' : World} (h : Stay e size n W W') (k : Stay e size n W' W'') : Stay e size n W W'' := fun o v n' xs hn hr => k o v n' xs hn (h o v n' xs hn hr)
theorem Stay.of_below (h : Below W.heap.size W W') : Stay e size n W W' := fun _ _ _ _ _ hr => hr.kept (m := fun _ => False) (Fr.of_below h _) (fun _ _ _ h => h)
theorem wrow_lt (h : WRow W own e size v n xs) {g : Nat} (hg : v.ownBlock = some g) : g < W.heap.size ∧ own g ∧ ∃ cur, W.heap[g]? = some (.cells cur e (0, 0)) := by
  rcases h.2 with ⟨rfl, _⟩ | ⟨g', cap, cur, rfl, h0, hg', _⟩
  · cases hg
  · injection hg with hg; subst hg
    exact ⟨(Array.getElem?_eq_some_iff.1 hg').1, h0, cur, hg'⟩
/-- A block whose cells were set from o on. -/
theorem heap_setCells {g : Nat} {f : Nat × Nat} : ∀ (vs : List Value) (o : Nat) (w : World) (cur : Array Value), w.heap[g]? = some (.cells cur e f) →
    ∃ cur', (w.setCells g o vs).heap[g]? = some (.cells cur' e f) ∧ cur'.size = cur.size ∧ (∀ j, j < o → cur'[j]? = cur[j]?)
  | [], o, w, cur, h => ⟨cur, h, rfl, fun _ _ => rfl⟩
  | u :: r, o, w, cur, h => by
    have h1 : (w.setCell ⟨g, o, none⟩ u).heap[g]? = some (.cells (cur.setIfInBounds o u) e f) := by simp [World.setCell, Array.getElem?_modify, h]
    obtain ⟨cur', a1, a2, a3⟩ := heap_setCells r (o + 1) _ _ h1
    refine ⟨cur', a1, by simpa using a2, fun j hj => ?_⟩
    rw [a3 j (by omega)]
    simp only [Array.getElem?_setIfInBounds]
    rw [if_neg (by omega)]
theorem size_setCells (g : Nat) : ∀ (vs : List Value) (o : Nat) (w : World), (w.setCells g o vs).heap.size = w.heap.size
  | [], _, _ => rfl
  | _ :: r, o, _ => (size_setCells g r (o + 1) _).trans (by simp [World.setCell])
theorem tape_setCells (g : Nat) : ∀ (vs : List Value) (o : Nat) (w : World), (w.setCells g o vs).tape = w.tape
  | [], _, _ => rfl
  | _ :: r, o, _ => (tape_setCells g r (o + 1) _).trans rfl
theorem take_eq_of {cur cur' : Array Value} {k : Nat} (h : ∀ j, j < k → cur'[j]? = cur[j]?) : cur'.toList.take k = cur.toList.take k := by
  refine List.ext_getElem? fun j => ?_
  rw [List.getElem?_take, List.getElem?_take]
  by_cases hj : j < k
  · rw [if_pos hj, if_pos hj]; simpa using h j hj
  · rw [if_neg hj, if_neg hj]
variable {P : Program}
/-- APPEND, one element. -/
theorem run_append_wrow (W : World) (t ty e : TypeId) (i : TypeInfo) (z : Value) (size bytes : Nat) (ht : P.underlying t = some (.slice e)) (hi : P.info? e = some i) (hz : i.zero = some z) (hsize : i.size = size) (hby : i.bytes = bytes) (hzs : z.cells.size = size) (hsz : 0 < size)
    {own : Nat → Prop} {v : Value} {n : Nat} {xs : List Value} (h : WRow W own e size v n xs) (ad : Addr) (c : Nat) (news : List Value) (hl : news.length = size) (hnews : ∀ j u, news[j]? = some u → W.cell? (ad.add j) = some u) (h1 : ∀ u ∈ news, u.oneCell' = true)
    (h63 : n + 1 ≤ maxLen) (hbytes : (n + 1) * bytes ≤ 140737488355328) :
    ∃ v' w', (Builtin.append_ #[t, t] ty #[v, .slice (some ad) 1 c]).run P W = .ok v' w' ∧ WRow w' (fun k => own k ∨ W.heap.size ≤ k) e size v' (n + 1) (xs ++ news) ∧ Fr W w' (fun k => some k = v.ownBlock) ∧ Stay e size n W w' ∧ (∀ k, v'.ownBlock = some k → v.ownBlock = some k ∨ W.heap.size ≤ k) ∧ (∀ s, v = .slice s n n → Fr W w' (fun _ => False)) := by
  have hl1 : news.length = 1 * size := by rw [Nat.one_mul]; exact hl
  have hx := h.1
  have grows : ∀ v' w', w'.ownsRow W.heap.size e size v' (n + 1) (xs ++ news) → W.grownBy w' none →
      WRow w' (fun k => own k ∨ W.heap.size ≤ k) e size v' (n + 1) (xs ++ news) ∧ Fr W w' (fun k => some k = v.ownBlock) ∧ Stay e size n W w' ∧ (∀ k, v'.ownBlock = some k → v.ownBlock = some k ∨ W.heap.size ≤ k) ∧ (∀ s, v = .slice s n n → Fr W w' (fun _ => False)) := by
    intro v' w' ho hg
    have hb : Below W.heap.size W w' := ⟨hg.os, hg.tape, hg.output, hg.size, fun k hk => hg.block k hk (by simp)⟩
    exact ⟨WRow.of_own ho (fun k hk => Or.inr hk), Fr.of_below hb _, Stay.of_below hb, fun k hk => Or.inr (ho.lt k hk).1, fun _ _ => Fr.of_below hb _⟩
  rcases h.2 with ⟨rfl, rfl⟩ | ⟨g, cap, cur, rfl, h0, hg, h2, h3, h4, h5⟩
  · obtain rfl : xs = [] := List.eq_nil_of_length_eq_zero (by simpa using hx)
    obtain ⟨v', w', hrun, r1, r2, _⟩ := run_append_own (P := P) W W.heap.size t ty e i z size bytes ht hi hz hsize hby hzs hsz (.slice none 0 0) 0 [] (World.ownsRow_nil W _ e size) ad 1 c news hl1 hnews h1 h63 hbytes (Nat.le_refl _)
    exact ⟨v', w', hrun, grows v' w' r1 (by simpa [Value.ownBlock] using r2)⟩
  · by_cases hr : n + 1 ≤ cap
    · have hsz1 : (n + 1) * size ≤ cap * size := Nat.mul_le_mul_right _ hr
      rw [Nat.add_mul, Nat.one_mul] at hsz1
      have hcell : ∀ j, j < size → (W.cell? ⟨g, 0 + n * i.size + j, none⟩).isSome = true := fun j hj => by
        subst hsize
        simp only [World.cell?, hg, Nat.zero_add]
        rw [Array.getElem?_eq_getElem (by omega)]; rfl
      have hfz : ∀ j, j < size → W.frozen? ⟨g, 0 + n * i.size + j, none⟩ = false := fun j hj => by simp [World.frozen?, hg]
      have hrun := run_append_room_cells (P := P) W t ty e i ht hi g 0 n cap ad 1 c news (by rw [hl1, hsize]) hnews h1 hr (fun j hj => hcell j (by omega)) (fun j hj => hfz j (by omega))
      rw [Nat.zero_add, hsize] at hrun
      obtain ⟨cur', a1, a2, a3⟩ := heap_setCells news (n * size) W cur hg
      have hfr : Fr W (W.setCells g (n * size) news) (fun k => some k = (Value.slice (some ⟨g, 0, none⟩) n cap).ownBlock) := by
        exact ⟨World.os_setCells _ _ _ _, tape_setCells _ _ _ _, World.output_setCells _ _ _ _, Nat.le_of_eq (size_setCells _ _ _ _).symm, fun k hk hn => World.heap_setCells_other W g _ news hk (fun e => hn (by rw [e]; rfl))⟩
      refine ⟨_, _, hrun, ⟨by rw [List.length_append, hx, hl, Nat.add_mul, Nat.one_mul], .inr ⟨g, cap, cur', rfl, Or.inl h0, a1, hr, h3, by omega, ?_⟩⟩, hfr, ?_, fun k hk => Or.inl hk, fun s e => by injection e with _ _ e; omega⟩
      · refine List.ext_getElem? fun j => ?_
        by_cases hj : j < n * size
        · have e1 : (xs ++ news)[j]? = xs[j]? := List.getElem?_append_left (by omega)
          rw [e1, ← h5, List.getElem?_take, List.getElem?_take, if_pos hj, if_pos (by rw [Nat.add_mul, Nat.one_mul]; omega)]
          simpa using a3 j hj
        · rw [List.getElem?_append_right (by omega), hx, List.getElem?_take]
          by_cases hj2 : j < (n + 1) * size
          · rw [if_pos hj2]
            rw [Nat.add_mul, Nat.one_mul] at hj2
            have := World.cell?_setCells_in g news (n * size) W (fun j hj => by have := hcell j (by omega); rw [hsize, Nat.zero_add] at this; exact this) (j - n * size) (by omega)
            rw [show n * size + (j - n * size) = j by omega] at this
            simp only [World.cell?, a1] at this
            rw [List.getElem?_eq_getElem (show j - n * size < news.length by omega)]
            simpa using this
          · rw [if_neg hj2]
            rw [Nat.add_mul, Nat.one_mul] at hj2
            exact (List.getElem?_eq_none (by omega)).symm
      · intro own2 v2 n' xs' hn' hr2
        by_cases hb : some g = v2.ownBlock
        · refine ⟨hr2.1, ?_⟩
          rcases hr2.2 with h0' | ⟨g', cap', cur2, rfl, h0', hg', b1, b2, b3, b4⟩
          · exact .inl h0'
          · injection hb with hb; subst hb
            rw [hg] at hg'
            cases hg'
            refine .inr ⟨g, cap', cur', rfl, h0', a1, b1, b2, by omega, ?_⟩
            rw [← b4]
            have : n' * size ≤ n * size := Nat.mul_le_mul_right _ hn'
            exact take_eq_of fun j hj => a3 j (by omega)
        · exact hr2.kept hfr (fun k _ hk e => hb (by injection e with e; subst e; exact hk))
    · obtain ⟨v', w', hrun, r1, r2⟩ := run_append_arg_grows (P := P) W t ty e i z size bytes ht hi hz hsize hby hzs hsz ⟨g, 0, none⟩ n cap xs hx (fun j u hj => by
        rw [Addr.add_lit, Nat.zero_add]
        exact h.cell hj) ad 1 c news hl1 hnews (by omega) h63 hbytes
      exact ⟨v', w', hrun, grows v' w' r1 r2⟩
end

/-! ### a slice shows a list -/
/-- A slice shows a list of elements of sz cells each. -/
def Sl {α : Type} (W : World) (sz : Nat) (en : α → List Value) (v : Value) (L : List α) : Prop :=
  ∃ s cap, v = .slice s L.length cap ∧ (L ≠ [] → ∃ g off, s = some ⟨g, off, none⟩ ∧ g < W.heap.size ∧ ∀ i x, L[i]? = some x → ∀ j c, (en x)[j]? = some c → W.cell? ⟨g, off + i * sz + j, none⟩ = some c)
section
variable {α : Type} {W W' : World} {sz : Nat} {en : α → List Value} {v : Value} {L : List α}
theorem Sl.later (h : Sl W sz en v L) (hb : Below W.heap.size W W') : Sl W' sz en v L := by
  obtain ⟨s, cap, rfl, h⟩ := h
  refine ⟨s, cap, rfl, fun hne => ?_⟩
  obtain ⟨g, off, rfl, h1, h2⟩ := h hne
  exact ⟨g, off, rfl, Nat.lt_of_lt_of_le h1 hb.size, fun i x hi j c hj => (hb.cell (p := ⟨g, off + i * sz + j, none⟩) h1).trans (h2 i x hi j c hj)⟩
theorem Sl.nil (W : World) (sz : Nat) (en : α → List Value) (c : Nat) : Sl W sz en (.slice none 0 c) [] := ⟨none, c, rfl, fun h => absurd rfl h⟩
theorem Sl.form (h : Sl W sz en v L) : ∃ s cap, v = .slice s L.length cap ∧ (L ≠ [] → ∃ g off, s = some ⟨g, off, none⟩ ∧ g < W.heap.size) := by
  obtain ⟨s, cap, rfl, h⟩ := h
  refine ⟨s, cap, rfl, fun hne => ?_⟩
  obtain ⟨g, off, e, h1, _⟩ := h hne
  exact ⟨g, off, e, h1⟩
theorem Sl.cell {g off n c : Nat} (h : Sl W sz en (.slice (some ⟨g, off, none⟩) n c) L) {i : Nat} {x : α} (hi : L[i]? = some x) {j : Nat} {u : Value} (hj : (en x)[j]? = some u) : W.cell? ⟨g, off + i * sz + j, none⟩ = some u := by
  obtain ⟨s, cap, e, h⟩ := h
  obtain ⟨g', off', e2, _, h2⟩ := h (by intro e; rw [e] at hi; cases hi)
  injection e with e
  subst e
  injection e2 with e2
  injection e2 with e3 e4
  subst e3 e4
  exact h2 i x hi j u hj
theorem WRow.sl {own : Nat → Prop} {e : TypeId} (hlen : ∀ x, (en x).length = sz) (h : WRow W own e sz v L.length (L.flatMap en)) : Sl W sz en v L := by
  obtain ⟨s, cap, rfl, hle, hs⟩ := h.form
  refine ⟨s, cap, rfl, fun hne => ?_⟩
  obtain ⟨g, rfl, hg⟩ := hs (fun e => hne (List.eq_nil_of_length_eq_zero e))
  refine ⟨g, 0, rfl, hg, fun i x hi j c hj => ?_⟩
  have hjl : j < sz := by rw [← hlen x]; exact (List.getElem?_eq_some_iff.1 hj).1
  have := getElem?_flat hlen hi hjl
  rw [hj] at this
  rw [Nat.zero_add]
  exact h.cell this
end

/-! ### what came in -/
theorem choose_list {α : Type} {p : Nat → α → Prop} : ∀ (n : Nat), (∀ i, i < n → ∃ x, p i x) → ∃ L : List α, L.length = n ∧ ∀ i x, L[i]? = some x → p i x
  | 0, _ => ⟨[], rfl, fun i x h => by simp at h⟩
  | n + 1, h => by
    obtain ⟨L, h1, h2⟩ := choose_list n (fun i hi => h i (by omega))
    obtain ⟨x, hx⟩ := h n (by omega)
    refine ⟨L ++ [x], by simp [h1], fun i y hy => ?_⟩
    by_cases hi : i < L.length
    · rw [List.getElem?_append_left hi] at hy; exact h2 i y hy
    · rw [List.getElem?_append_right (by omega)] at hy
      have hin : i = n := by
        have := (List.getElem?_eq_some_iff.1 hy).1
        simp at this
        omega
      subst hin
      rw [h1, Nat.sub_self] at hy
      simp only [List.getElem?_cons_zero, Option.some.injEq] at hy
      exact hy ▸ hx
section
variable {H : Type} {enc : TypeId × Value → H} {P : Program} {w : World} {base : Nat} {spare : Nat → Bool} {held : Bool}
/-- A SLICE THAT CAME IN, OPENED: its elements as 'hel' reads them; its length, and what its elements hold, within the bound. -/
theorem sl_of {α : Type} {t e : TypeId} (ht : P.underlying t = some (.slice e)) {sz : Nat} (hsz : P.cellsOf e = sz) (hpos : 0 < sz) (en : α → List Value) (hlen : ∀ x, (en x).length = sz) {fuel : Nat} {cs : List Value} {y : DataW H × List MemPlace}
    (h : DataW.trod enc P w base spare held fuel t cs = some y) {Q : α → Prop} {bulk : DataW H → Nat} {B : Nat} (hb1 : ∀ l r, l.length + r.length + 1 ≤ bulk (.slice l r)) (hb2 : ∀ l r d, d ∈ l → bulk d ≤ bulk (.slice l r)) (hB : bulk y.1 ≤ B)
    (hel : ∀ n cs' d p, DataW.trod enc P w base spare held n e cs' = some (d, p) → bulk d ≤ B → ∃ x, cs' = en x ∧ Q x) : ∃ v L, cs = [v] ∧ Sl w sz en v L ∧ (∀ x ∈ L, Q x) ∧ L.length ≤ B := by
  rcases Go.Deep.open_slice ht h with ⟨rfl, _⟩ | ⟨a, len, cap, m, n, D, Pl, rfl, _, hlc, hcm, hm, hy, hi⟩
  · exact ⟨_, [], rfl, Sl.nil _ _ _ _, by simp, Nat.zero_le _⟩
  · have hlm : len ≤ m := by rw [hm]; split <;> omega
    rw [hy] at hB
    dsimp only at hB
    obtain ⟨L, hL, hp⟩ := choose_list (p := fun i (x : α) => (∀ j c, (en x)[j]? = some c → w.cell? ((a.add (i * sz)).add j) = some c) ∧ Q x) len (fun i hil => by
      obtain ⟨cs', h1, h2⟩ := hi i (by omega)
      rw [hsz] at h1
      obtain ⟨x, rfl, hx⟩ := hel n cs' (D i) (Pl i) h2 (Nat.le_trans (hb2 _ _ (D i) (List.mem_map.2 ⟨i, List.mem_range.2 hil, rfl⟩)) hB)
      obtain ⟨_, _, hat⟩ := World.cells?_some h1
      refine ⟨x, fun j c hj => ?_, hx⟩
      have hjs : j < sz := by rw [← hlen x]; exact (List.getElem?_eq_some_iff.1 hj).1
      rw [hat j hjs, hj])
    refine ⟨_, L, rfl, ⟨some a, cap, by rw [hL], fun hne => ?_⟩, fun x hx => ?_, ?_⟩
    · obtain ⟨x0, hx0⟩ : ∃ x, L[0]? = some x := ⟨_, List.getElem?_eq_getElem (List.length_pos_iff.2 hne)⟩
      obtain ⟨c0, hc0⟩ : ∃ c, (en x0)[0]? = some c := ⟨_, List.getElem?_eq_getElem (by rw [hlen]; exact hpos)⟩
      have h0 := (hp 0 x0 hx0).1 0 c0 hc0
      obtain ⟨b, off, spot⟩ := a
      have hspot : spot = none := by simpa [Addr.add] using World.cell?_spot h0
      subst hspot
      refine ⟨b, off, rfl, ?_, fun i x hx j c hj => ?_⟩
      · simpa [Addr.add] using World.block_lt_of_cell? w _ h0
      · have := (hp i x hx).1 j c hj
        rw [add_plain, add_plain] at this
        exact this
    · obtain ⟨i, hi', e⟩ := List.getElem_of_mem hx
      exact (hp i x (by rw [List.getElem?_eq_getElem hi', e])).2
    · have := hb1 ((List.range len).map D) ((List.range (m - len)).map fun j => D (len + j))
      rw [List.length_map, List.length_range] at this
      rw [hL]
      omega
end
end Go.Proofs.Ytkdckcjnjljdmaa.Fm
