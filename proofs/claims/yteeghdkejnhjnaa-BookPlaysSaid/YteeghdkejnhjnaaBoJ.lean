/- The book and the document's book beside one another, as they lie in BookPlays' round; an older book that goes on beside its copy. -/
import Derived.Test.YteeghdkejnhjnaaBoH
import Derived.Test.YteeghdkejnhjnaaBoP
import Derived.Test.YteeghdkejnhjnaaBoO
namespace Go.Proofs.Yteeghdkejnhjnaa.Bo
open Go Go.RowKit Kt Ad

/-- Both books: each in blocks of its own. -/
structure Pb (W w : World) (ownb ownr : Nat → Prop) (bl bm br : Nat) (vr vl vc : Value) (E F : List Ev) (C D : Cs) : Prop where
  b : Bk w ownb bl bm vr E C
  r : Rk w ownr br vl vc F D
  dis : ∀ k, ownb k → ¬ ownr k
  lo : ∀ k, ownb k → W.heap.size ≤ k
  lor : ∀ k, ownr k → W.heap.size ≤ k
  lt : ∀ k, ownb k → k < w.heap.size
  ltr : ∀ k, ownr k → k < w.heap.size
  below : Below W.heap.size W w
section
variable {W w w' : World} {ownb ownr m : Nat → Prop} {bl bm br : Nat} {vr vl vc : Value} {E F : List Ev} {C D : Cs}
/-- What changes neither book. -/
theorem Pb.off (h : Pb W w ownb ownr bl bm br vr vl vc E F C D) (hf : Fr w w' m) (hb : ∀ k, m k → ¬ ownb k) (hr : ∀ k, m k → ¬ ownr k) (hl : ∀ k, m k → W.heap.size ≤ k) : Pb W w' ownb ownr bl bm br vr vl vc E F C D :=
  ⟨h.b.kept hf (fun k hk e => hb k e hk), h.r.kept hf (fun k hk e => hr k e hk), h.dis, h.lo, h.lor, fun k hk => Nat.lt_of_lt_of_le (h.lt k hk) hf.size, fun k hk => Nat.lt_of_lt_of_le (h.ltr k hk) hf.size, h.below.trans (hf.below h.below.size hl)⟩
theorem Pb.later (h : Pb W w ownb ownr bl bm br vr vl vc E F C D) (hb : Below w.heap.size w w') : Pb W w' ownb ownr bl bm br vr vl vc E F C D :=
  h.off (m := fun _ => False) (Fr.of_below hb _) (fun _ h => h.elim) (fun _ h => h.elim) (fun _ h => h.elim)
theorem Pb.drew (h : Pb W w ownb ownr bl bm br vr vl vc E F C D) : Pb W w.drew ownb ownr bl bm br vr vl vc E F C D := h.later (Below.refl _ _).drew
/-- A call of the book's. -/
theorem Pb.book (h : Pb W w ownb ownr bl bm br vr vl vc E F C D) {bl' bm' : Nat} {vr' : Value} {E' : List Ev} {C' : Cs} (hk : Bk w' (fun k => ownb k ∨ w.heap.size ≤ k) bl' bm' vr' E' C') (hf : Fr w w' (fun k => ownb k ∨ w.heap.size ≤ k)) :
    Pb W w' (fun k => (ownb k ∨ w.heap.size ≤ k) ∧ k < w'.heap.size) ownr bl' bm' br vr' vl vc E' F C' D :=
  ⟨hk.mono (fun k hl ho => ⟨ho, hl⟩), h.r.kept hf (fun k hk e => by
      rcases e with e | e
      · exact h.dis k e hk
      · have := h.ltr k hk; omega),
    fun k hk hr => by
      rcases hk.1 with e | e
      · exact h.dis k e hr
      · have := h.ltr k hr; omega,
    fun k hk => by
      rcases hk.1 with e | e
      · exact h.lo k e
      · exact Nat.le_trans h.below.size e,
    h.lor, fun k hk => hk.2, fun k hk => Nat.lt_of_lt_of_le (h.ltr k hk) hf.size,
    h.below.trans (hf.below h.below.size (fun k e => by
      rcases e with e | e
      · exact h.lo k e
      · exact Nat.le_trans h.below.size e))⟩
/-- A call of the document's. -/
theorem Pb.doc (h : Pb W w ownb ownr bl bm br vr vl vc E F C D) {vl' vc' : Value} {F' : List Ev} {D' : Cs} (hk : Rk w' (fun k => ownr k ∨ w.heap.size ≤ k) br vl' vc' F' D') (hf : Fr w w' (fun k => ownr k ∨ w.heap.size ≤ k)) :
    Pb W w' ownb (fun k => (ownr k ∨ w.heap.size ≤ k) ∧ k < w'.heap.size) bl bm br vr vl' vc' E F' C D' :=
  ⟨h.b.kept hf (fun k hk e => by
      rcases e with e | e
      · exact h.dis k hk e
      · have := h.lt k hk; omega),
    hk.mono (fun k hl ho => ⟨ho, hl⟩),
    fun k hk hr => by
      rcases hr.1 with e | e
      · exact h.dis k hk e
      · have := h.lt k hk; omega,
    h.lo, fun k hk => by
      rcases hk.1 with e | e
      · exact h.lor k e
      · exact Nat.le_trans h.below.size e,
    fun k hk => Nat.lt_of_lt_of_le (h.lt k hk) hf.size, fun k hk => hk.2,
    h.below.trans (hf.below h.below.size (fun k e => by
      rcases e with e | e
      · exact h.lor k e
      · exact Nat.le_trans h.below.size e))⟩
/-- The book as the calls want it: whatever is new may be its own. -/
theorem Pb.bwide (h : Pb W w ownb ownr bl bm br vr vl vc E F C D) : Bk w (fun k => ownb k ∨ w.heap.size ≤ k) bl bm vr E C := h.b.mono (fun _ _ hk => Or.inl hk)
theorem Pb.rwide (h : Pb W w ownb ownr bl bm br vr vl vc E F C D) : Rk w (fun k => ownr k ∨ w.heap.size ≤ k) br vl vc F D := h.r.mono (fun _ _ hk => Or.inl hk)

/-- A copy stays while the older book grows beside it: their row may be one block. -/
theorem Bk.aside {own : Nat → Prop} {bo n : Nat} {vo : Value} {cs : Array Value} (h : Bk w own bl bm vr E C) (hf : Fr w w' (fun k => k = bo ∨ some k = vo.ownBlock)) (hst : Stay 66 9 n w w') (hn : E.length ≤ n) (hbo : Lies w bo 112 cs) (hne : bo ≠ bl) (hvo : ∀ k, some k = vo.ownBlock → ∃ cur, Lies w k 66 cur) : Bk w' own bl bm vr E C := by
  have hty : ∀ k, (k = bo ∨ some k = vo.ownBlock) → ∀ cur, ¬ Lies w k 5 cur := fun k e cur hl => by
    rcases e with rfl | e
    · exact absurd (lies_uniq hbo hl) (by decide)
    · obtain ⟨c2, hg⟩ := hvo k e
      exact absurd (lies_uniq hg hl) (by decide)
  refine ⟨lies_fr h.cell hf (fun e => ?_), hst _ _ _ _ hn h.row, fun x hx => (h.evs x hx).kept_ty hf hty, map_fr h.map hf (fun e => ?_), fun c hc => ⟨(h.codes c hc).1.kept_ty hf hty, (h.codes c hc).2⟩, h.rise, h.obl, h.obm⟩
  · rcases e with e | e
    · exact hne e.symm
    · obtain ⟨c2, hg⟩ := hvo _ e
      exact absurd (lies_uniq hg h.cell) (by decide)
  · obtain ⟨es, c, h1, _⟩ := h.map.block
    rcases e with e | e
    · subst e
      have := hbo.symm.trans h1
      cases this
    · obtain ⟨c2, hg⟩ := hvo _ e
      have := hg.symm.trans h1
      cases this
/-- .. and while the older one's struct alone, or its map alone, changes. -/
theorem Bk.aside_struct {own : Nat → Prop} {bo : Nat} {cs : Array Value} (h : Bk w own bl bm vr E C) (hf : Fr w w' (fun k => k = bo)) (hbo : Lies w bo 112 cs) (hne : bo ≠ bl) : Bk w' own bl bm vr E C := by
  have hty : ∀ k, k = bo → ∀ cur, ¬ Lies w k 5 cur := fun k e cur hl => by
    subst e
    exact absurd (lies_uniq hbo hl) (by decide)
  refine ⟨lies_fr h.cell hf (fun e => hne e.symm), h.row.kept hf (fun k _ hk e => ?_), fun x hx => (h.evs x hx).kept_ty hf hty, map_fr h.map hf (fun e => ?_), fun c hc => ⟨(h.codes c hc).1.kept_ty hf hty, (h.codes c hc).2⟩, h.rise, h.obl, h.obm⟩
  · obtain ⟨_, _, cur, hg⟩ := wrow_lt h.row hk.symm
    subst e
    exact absurd (lies_uniq hbo hg) (by decide)
  · obtain ⟨es, c, h1, _⟩ := h.map.block
    subst e
    have := hbo.symm.trans h1
    cases this
theorem Bk.aside_map {own : Nat → Prop} {bo : Nat} {L : List (A8 × Value)} (h : Bk w own bl bm vr E C) (hf : Fr w w' (fun k => k = bo)) (hbo : IsMap A8.v w bo L) (hne : bo ≠ bm) : Bk w' own bl bm vr E C := by
  obtain ⟨es, c, h1, _⟩ := hbo.block
  have hno : ∀ {t : TypeId} {cs : Array Value}, ¬ Lies w bo t cs := fun hl => by
    have := (show w.heap[bo]? = _ from hl).symm.trans h1
    cases this
  refine ⟨lies_fr h.cell hf (fun e => ?_), h.row.kept hf (fun k _ hk e => ?_), fun x hx => (h.evs x hx).kept_ty hf (fun k e cur hl => by subst e; exact hno hl), map_fr h.map hf (fun e => hne e.symm), fun c hc => ⟨(h.codes c hc).1.kept_ty hf (fun k e cur hl => by subst e; exact hno hl), (h.codes c hc).2⟩, h.rise, h.obl, h.obm⟩
  · rw [e] at h
    exact hno h.cell
  · obtain ⟨_, _, cur, hg⟩ := wrow_lt h.row hk.symm
    subst e
    exact hno hg
end
end Go.Proofs.Yteeghdkejnhjnaa.Bo
