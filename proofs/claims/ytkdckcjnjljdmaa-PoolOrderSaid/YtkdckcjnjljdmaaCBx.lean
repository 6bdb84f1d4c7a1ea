/- Blocks known whole; what leaves them as they are; lists of addresses as cells. Over any program. -/
import Derived.RangeFuncNested
import Derived.RangeFuncBox
import Derived.WalkKit
import Derived.Maps.Range
import Derived.Deep.Draws
namespace Go.Proofs.Ytkdckcjnjljdmaa.Kt
open Go Go.RowKit

/-- Block B holds these cells, and may be written. -/
def Lies (W : World) (B : Nat) (t : TypeId) (cs : Array Value) : Prop := W.heap[B]? = some (.cells cs t (0, 0))

section
variable {W W' : World} {B : Nat} {t : TypeId} {cs : Array Value}
theorem Lies.lt (h : Lies W B t cs) : B < W.heap.size := (Array.getElem?_eq_some_iff.1 h).1
theorem Lies.cell (h : Lies W B t cs) (i : Nat) : W.cell? ⟨B, i, none⟩ = cs[i]? := by simp [World.cell?, show W.heap[B]? = _ from h]
theorem Lies.frozen (h : Lies W B t cs) (i : Nat) : W.frozen? ⟨B, i, none⟩ = false := by simp [World.frozen?, show W.heap[B]? = _ from h]
theorem Lies.new (W : World) (t : TypeId) (cs : Array Value) : Lies (W.alloc (.cells cs t)) W.heap.size t cs := World.alloc_heap_new W _
theorem Lies.kept {row : Option Nat} (h : Lies W B t cs) (hg : W.grownBy W' row) (hne : some B ≠ row) : Lies W' B t cs := (hg.block B h.lt hne).trans h
theorem Lies.alloc (h : Lies W B t cs) (o : Obj) : Lies (W.alloc o) B t cs := h.kept (World.grownBy_alloc W o none) (by simp)
theorem Lies.drew (h : Lies W B t cs) : Lies W.drew B t cs := h
theorem Lies.below {n : Nat} (h : Lies W B t cs) (hb : Below n W W') (hn : B < n) : Lies W' B t cs := (hb.block B hn).trans h
theorem Lies.other (h : Lies W B t cs) {a : Addr} (hne : B ≠ a.block) (v : Value) : Lies (W.setCell a v) B t cs := (Below.heap_setCell W a v B hne).trans h
theorem Lies.set (h : Lies W B t cs) (i : Nat) (u : Value) : Lies (W.setCell ⟨B, i, none⟩ u) B t (cs.setIfInBounds i u) := by
  unfold Lies at h ⊢
  simp [World.setCell, Array.getElem?_modify, h]
/-- Two blocks of unlike types are two. -/
theorem Lies.ne {B' : Nat} {t' : TypeId} {cs' : Array Value} (h : Lies W B t cs) (h' : Lies W B' t' cs') (ht : t ≠ t') : B ≠ B' := fun e => by
  subst e
  have := (show W.heap[B]? = _ from h).symm.trans h'
  simp at this
  exact ht this.2
theorem Lies.not_map {b : Nat} {es : Array MapEntry} {c : Nat} (h : Lies W B t cs) (hb : W.heap[b]? = some (.map es c)) : B ≠ b := fun e => by
  subst e
  have := (show W.heap[B]? = _ from h).symm.trans hb
  cases this
end
theorem lies_own {β : Type} (B : Nat) (t : TypeId) (f : β → Array Value) : Own (fun s W => Lies W B t (f s)) := fun s X Y row hs hg hrow =>
  hs.kept hg (fun e' => by obtain ⟨o, ho, hc⟩ := hrow B e'.symm; rw [show X.heap[B]? = _ from hs] at ho; cases ho; cases hc)

/-- the cells that were just laid. -/
theorem cells_new (w : World) (xs : List Value) (t : TypeId) : ∀ j u, xs[j]? = some u → (w.alloc (.cells xs.toArray t)).cell? ((⟨w.heap.size, 0, none⟩ : Addr).add j) = some u := by
  intro j u hj
  have hadd : (⟨w.heap.size, 0, none⟩ : Addr).add j = ⟨w.heap.size, j, none⟩ := by unfold Addr.add; split <;> simp_all
  rw [hadd, (Lies.new w t xs.toArray).cell]
  simpa using hj
theorem below_drewN {B : Nat} {a w : World} (h : Below B a w) (n : Nat) : Below B a (w.drewN n) := ⟨h.os, h.tape, h.output, h.size, h.block⟩
/-- what turned but one block of the call's own. -/
theorem below_of_grown {B : Nat} {a w : World} {row : Option Nat} (hg : a.grownBy w row) (hB : B ≤ a.heap.size) (hr : ∀ k, row = some k → B ≤ k) : Below B a w := (Below.refl B a).grown hg hB hr
theorem grownBy_trans {a b c : World} {row : Option Nat} (h : a.grownBy b row) (k : b.grownBy c row) : a.grownBy c row := h.andThen k (fun _ e => Or.inr e)
theorem grownBy_drew {a b : World} {row : Option Nat} (h : a.grownBy b row) : a.grownBy b.drew row := ⟨h.os, h.tape, h.output, h.size, h.block⟩
theorem grownBy_drewN {a b : World} {row : Option Nat} (h : a.grownBy b row) (n : Nat) : a.grownBy (b.drewN n) row := ⟨h.os, h.tape, h.output, h.size, h.block⟩
theorem grownBy_below {w w' : World} (h : Below w.heap.size w w') (row : Option Nat) : w.grownBy w' row := ⟨h.os, h.tape, h.output, h.size, fun k hk _ => h.block k hk⟩

/-! ### rows of elements of m cells -/
section
variable {α : Type} {enc : α → List Value} {m : Nat}
theorem length_flat (hm : ∀ x, (enc x).length = m) : ∀ l : List α, (l.flatMap enc).length = l.length * m
  | [] => by simp
  | x :: r => by rw [List.flatMap_cons, List.length_append, hm, length_flat hm r, List.length_cons, Nat.add_mul, Nat.one_mul, Nat.add_comm]
theorem getElem?_flat (hm : ∀ x, (enc x).length = m) : ∀ {l : List α} {k : Nat} {x : α}, l[k]? = some x → ∀ {j : Nat}, j < m → (l.flatMap enc)[k * m + j]? = (enc x)[j]?
  | [], k, x, h, _, _ => by simp at h
  | y :: r, 0, x, h, j, hj => by
    obtain rfl : y = x := by simpa using h
    rw [List.flatMap_cons, Nat.zero_mul, Nat.zero_add, List.getElem?_append_left (by rw [hm]; exact hj)]
  | y :: r, k + 1, x, h, j, hj => by
    have h' : r[k]? = some x := by simpa using h
    rw [List.flatMap_cons, List.getElem?_append_right (by rw [hm, Nat.add_mul]; omega), hm, show (k + 1) * m + j - m = k * m + j by rw [Nat.add_mul]; omega]
    exact getElem?_flat hm h' hj
theorem row_cell {W : World} {base e g cap n : Nat} {l : List α} (hm : ∀ x, (enc x).length = m) (h : W.ownsRow base e m (.slice (some ⟨g, 0, none⟩) n cap) n (l.flatMap enc)) {k : Nat} {x : α} (hk : l[k]? = some x) {j : Nat} (hj : j < m) : W.cell? ⟨g, k * m + j, none⟩ = (enc x)[j]? := by
  have h2 := getElem?_flat hm hk hj
  have hu : ∃ u, (enc x)[j]? = some u := ⟨_, List.getElem?_eq_getElem (by rw [hm]; exact hj)⟩
  obtain ⟨u, hu⟩ := hu
  rw [hu] at h2
  have h3 := h.cells (g := g) rfl _ _ h2
  have hadd : (⟨g, 0, none⟩ : Addr).add (k * m + j) = ⟨g, k * m + j, none⟩ := by unfold Addr.add; split <;> simp_all
  rw [hadd] at h3
  rw [h3, hu]
theorem row_cells {W : World} {base e g cap n : Nat} {l : List α} (hm : ∀ x, (enc x).length = m) (h : W.ownsRow base e m (.slice (some ⟨g, 0, none⟩) n cap) n (l.flatMap enc)) {k : Nat} {x : α} (hk : l[k]? = some x) : ∀ j, j < m → W.cell? ⟨g, k * m + j, none⟩ = (enc x)[j]? := fun _ hj => row_cell hm h hk hj
end
theorem ownsRow_base {W : World} {base base' : Nat} {e : TypeId} {size : Nat} {v : Value} {k : Nat} {xs : List Value} (h : W.ownsRow base e size v k xs) (hb : base' ≤ base) : W.ownsRow base' e size v k xs := by
  refine ⟨h.1, ?_⟩
  rcases h.2 with hn | ⟨g, cap, cur, hv, hbg, rest⟩
  · exact .inl hn
  · exact .inr ⟨g, cap, cur, hv, Nat.le_trans hb hbg, rest⟩
theorem ownsRow_keep {W W' : World} {base : Nat} {e : TypeId} {size : Nat} {v : Value} {k : Nat} {xs : List Value} (h : W.ownsRow base e size v k xs) (hb : Below W.heap.size W W') : W'.ownsRow base e size v k xs := by
  refine ⟨h.1, ?_⟩
  rcases h.2 with hn | ⟨g, cap, cur, hv, hbg, hg, rest⟩
  · exact .inl hn
  · exact .inr ⟨g, cap, cur, hv, hbg, (hb.block g (Array.getElem?_eq_some_iff.1 hg).1).trans hg, rest⟩
/-- A row is not a block of another type. -/
theorem row_ne_lies {W : World} {base : Nat} {e : TypeId} {size : Nat} {v : Value} {k : Nat} {xs : List Value} {B : Nat} {t : TypeId} {cs : Array Value} (h : W.ownsRow base e size v k xs) (hl : Lies W B t cs) (ht : t ≠ e) : some B ≠ v.ownBlock := by
  rcases h.2 with ⟨rfl, _⟩ | ⟨g, cap, cur, rfl, _, hg, _⟩
  · simp [Value.ownBlock]
  · intro he
    have : B = g := by simpa [Value.ownBlock] using he
    exact (hl.ne hg ht) this
theorem ownsRow_kept {W W' : World} {base : Nat} {e : TypeId} {size : Nat} {v : Value} {k : Nat} {xs : List Value} {row : Option Nat} (h : W.ownsRow base e size v k xs) (hg : W.grownBy W' row) (hne : v.ownBlock = none ∨ v.ownBlock ≠ row) : W'.ownsRow base e size v k xs := h.kept hg hne
end Go.Proofs.Ytkdckcjnjljdmaa.Kt
