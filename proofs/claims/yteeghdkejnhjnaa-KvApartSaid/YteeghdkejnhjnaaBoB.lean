/- A book in memory: a struct of a row of events and a map of codes; the walks of New, Len, Cut. -/
import Derived.Test.YteeghdkejnhjnaaBoC
import Derived.Test.YteeghdkejnhjnaaRt
namespace Go.Proofs.Yteeghdkejnhjnaa.Bo
open Go Go.RowKit Kt Ad

theorem t_run1 {P : Program} {ops : Array Oper} {Q : Exit → Act → World → Prop} {S : World → Prop} {i : Nat} {p : RP} {a : Act} {w : World} {o : Oper} (hi' : ops.toList[i]? = some o) (hw : Region.wanted o (yielded ops a.tmps) = true)
    (h : ∀ K : Act → World → Prop, Shut (∀ a w, S w → p.go P ops Q S a w → K a w) → Oper.wp P o a w K Q) : (RP.run i p).go P ops Q S a w :=
  RP.t_run hi' (fun K hK => by rw [if_pos hw]; exact h K hK)

abbrev Cs := List (A8 × (Value × List UInt8))
def kvc (c : A8 × (Value × List UInt8)) : A8 × Value := (c.1, c.2.1)
/-- A BOOK: the struct in block bl, its map in block bm, its row vr; all its blocks are such as `own` speaks of. -/
structure Bk (W : World) (own : Nat → Prop) (bl bm : Nat) (vr : Value) (E : List Ev) (C : Cs) : Prop where
  cell : Lies W bl 112 #[vr, .map (some bm)]
  row : WRow W own 66 9 vr E.length (E.flatMap Ev.cs)
  evs : ∀ x ∈ E, Bts W own x.v x.b
  map : IsMap A8.v W bm (C.map kvc)
  codes : ∀ c ∈ C, Bts W own c.2.1 c.2.2 ∧ c.2.2 ≠ []
  rise : Al.Rise C
  obl : own bl
  obm : own bm
section
variable {W W' : World} {own own' m : Nat → Prop} {bl bm : Nat} {vr : Value} {E : List Ev} {C : Cs}
theorem Bk.kept (h : Bk W own bl bm vr E C) (hf : Fr W W' m) (hn : ∀ k, own k → ¬ m k) : Bk W' own bl bm vr E C :=
  ⟨lies_fr h.cell hf (hn _ h.obl), h.row.kept hf (fun k hk _ => hn k hk), fun x hx => (h.evs x hx).kept hf hn, map_fr h.map hf (hn _ h.obm), fun c hc => ⟨(h.codes c hc).1.kept hf hn, (h.codes c hc).2⟩, h.rise, h.obl, h.obm⟩
theorem Bk.later (h : Bk W own bl bm vr E C) (hb : Below W.heap.size W W') : Bk W' own bl bm vr E C := h.kept (m := fun _ => False) (Fr.of_below hb _) (fun _ _ h => h)
theorem Bk.drew (h : Bk W own bl bm vr E C) : Bk W.drew own bl bm vr E C := h.later (Below.refl _ _).drew
theorem Bk.alloc (h : Bk W own bl bm vr E C) (o : Obj) : Bk (W.alloc o) own bl bm vr E C := h.later ((Below.refl _ _).alloc (Nat.le_refl _) o)
theorem Bk.mono (h : Bk W own bl bm vr E C) (ho : ∀ k, k < W.heap.size → own k → own' k) : Bk W own' bl bm vr E C :=
  ⟨h.cell, h.row.mono ho, fun x hx => (h.evs x hx).mono ho, h.map, fun c hc => ⟨(h.codes c hc).1.mono ho, (h.codes c hc).2⟩, h.rise, ho _ h.cell.lt h.obl, ho _ h.map.lt h.obm⟩
/-- Bytes of one's own stay where no block of bytes changes. -/
theorem Bts.kept_ty {v : Value} {b : List UInt8} (h : Bts W own v b) (hf : Fr W W' m) (hm : ∀ k, m k → ∀ cur, ¬ Lies W k 5 cur) : Bts W' own v b := by
  refine ⟨⟨h.1.1, ?_⟩, h.2⟩
  rcases h.1.2 with h0 | ⟨g, cap, cur, rfl, h0, hg, rest⟩
  · exact .inl h0
  · exact .inr ⟨g, cap, cur, rfl, h0, (hf.block g (Array.getElem?_eq_some_iff.1 hg).1 (fun e => hm g e cur hg)).trans hg, rest⟩
theorem lies_uniq {g : Nat} {t t' : TypeId} {cs cs' : Array Value} (h : Lies W g t cs) (h' : Lies W g t' cs') : t = t' := by
  have := h.symm.trans h'
  injection this with e
  injection e
theorem Bk.ne_row (h : Bk W own bl bm vr E C) {k : Nat} {t : TypeId} {cs : Array Value} (hl : Lies W k t cs) (ht : t ≠ 66) : ¬ some k = vr.ownBlock := fun e => by
  obtain ⟨_, _, cur, hg⟩ := wrow_lt h.row e.symm
  exact ht (lies_uniq hl hg)
theorem Bk.map_ne_row (h : Bk W own bl bm vr E C) : ¬ some bm = vr.ownBlock := fun e => by
  obtain ⟨_, _, cur, hg⟩ := wrow_lt h.row e.symm
  obtain ⟨es, c, h1, _⟩ := h.map.block
  have := hg.symm.trans h1
  cases this
theorem Bk.ne (h : Bk W own bl bm vr E C) : bl ≠ bm := by
  obtain ⟨es, c, h1, _⟩ := h.map.block
  exact h.cell.not_map h1
theorem Bk.form (h : Bk W own bl bm vr E C) : ∃ s cap, vr = .slice s E.length cap ∧ E.length ≤ cap ∧ (E.length ≠ 0 → ∃ g, s = some ⟨g, 0, none⟩ ∧ g < W.heap.size) := h.row.form
end

set_option maxRecDepth 100000 in
set_option maxHeartbeats 2000000 in
theorem new_any (W : World) :
    Calls Try.prog 21 #[] W fun e w' => ∃ bl bm, e = .returned (.pointer (some ⟨bl, 0, none⟩)) ∧ Bk w' (fun k => W.heap.size ≤ k) bl bm (.slice none 0 0) [] [] ∧ Below W.heap.size W w' := by
  have hmm := @run_makeMap Try.prog
  go_enter Try.func21, Try.ntmps21
  go_wp2
  go_ret
  refine ⟨W.heap.size + 1, W.heap.size, rfl, ⟨?_, WRow.nil _ _ _ _, by simp, (IsMap.new W A8.v).alloc _, by simp, Al.Rise.nil, by omega, Nat.le_refl _⟩, ((Below.refl _ _).alloc (Nat.le_refl _) _).alloc (by simp) _⟩
  have := Lies.new (W.alloc (.map #[] 0)) 112 #[.slice none 0 0, .map (some W.heap.size)]
  rw [World.size_alloc] at this
  exact this

set_option maxRecDepth 100000 in
set_option maxHeartbeats 2000000 in
theorem len_any {W : World} {own : Nat → Prop} {bl bm : Nat} {vr : Value} {E : List Ev} {C : Cs} (h : Bk W own bl bm vr E C) :
    Calls Try.prog 33 #[.pointer (some ⟨bl, 0, none⟩)] W fun e w' => e = .returned (.int .i64 E.length) ∧ w' = W := by
  obtain ⟨s, cap, rfl, _⟩ := h.form
  have hc := h.cell.cell 0
  simp only [List.getElem?_toArray, List.getElem?_cons_zero] at hc
  clear h
  go_enter Try.func33, Try.ntmps33
  go_wp2
  go_ret
  exact ⟨rfl, rfl⟩
end Go.Proofs.Yteeghdkejnhjnaa.Bo
