/- The clones of bytes and of events. -/
import Derived.Test.YteeghdkejnhjnaaBoM
import Derived.WalkKit
import Derived.Lib.Walk
import Derived.Deep.LoopGhost
import Derived.Test.YteeghdkejnhjnaaKit
import Derived.Test.YteeghdkejnhjnaaRt
namespace Go.Proofs.Yteeghdkejnhjnaa.Bo
open Go Go.RowKit Go.Lib Kt Ad

theorem infoU8 : (Try.prog.info? 5).map (fun i => (i.zero, i.size, i.bytes)) = some (some (.int .u8 0), 1, 1) := by kernel_rfl
theorem eql_nil_bytes (w : World) (a : Option Addr) (n c n' c' : Nat) : (binOp .eql 25 (.slice a n c) (.slice none n' c')).run Try.prog w = .ok (.bool a.isNone) w := Lib.run_eql_slice_nil w _ _ a n c n' c' Try.underlying25
theorem eql_nil_events (w : World) (a : Option Addr) (n c n' c' : Nat) : (binOp .eql 51 (.slice a n c) (.slice none n' c')).run Try.prog w = .ok (.bool a.isNone) w := Lib.run_eql_slice_nil w _ _ a n c n' c' Try.underlying51

set_option maxHeartbeats 2000000 in
set_option maxRecDepth 100000 in
theorem bclone_any {W : World} {v : Value} {b : List UInt8} (h : Byt W v b) (hn : b.length ≤ 1000000000) :
    Calls Try.prog 65 #[v] W fun e w' => ∃ v', e = .returned v' ∧ Bts w' (fun k => W.heap.size ≤ k) v' b ∧ Below W.heap.size W w' := by
  obtain ⟨s, cap, rfl, hb⟩ := h
  have q := eql_nil_bytes
  cases s with
  | none =>
    have hb0 : b = [] := by
      by_cases h0 : b = []
      · exact h0
      · obtain ⟨g, off, e, _⟩ := hb h0; cases e
    subst hb0
    clear hb
    go_enter Try.func65, Try.ntmps65
    go_wp2
    go_ret
    exact ⟨_, rfl, ⟨World.ownsRow_nil _ _ _ _, fun g e => by cases e⟩, Below.refl _ _⟩
  | some a =>
    obtain ⟨i0, hi, hz0, hz1, hz2⟩ := info_parts infoU8
    have A : Aside (∀ j u, (b.map u8v)[j]? = some u → W.cell? (a.add j) = some u) := by
      intro j u hj
      have hjl : j < b.length := by simpa using (List.getElem?_eq_some_iff.1 hj).1
      obtain ⟨g, off, e, _, hc⟩ := hb (by intro e; simp [e] at hjl)
      injection e with e
      subst e
      rw [Addr.add_lit, hc j b[j] (List.getElem?_eq_getElem hjl)]
      simpa [hjl] using hj
    clear hb
    go_enter Try.func65, Try.ntmps65
    go_wp2_with (at_builtin; refine wpList_append_own _ rfl _ _ 25 rfl W.heap.size 5 i0 (.int .u8 0) 1 1 Try.underlying25 hi hz0 hz1 hz2 rfl (by decide) _ _ _ rfl (World.ownsRow_made W #[] 0 (Nat.le_refl _) (Nat.zero_le _) rfl) a b.length cap (b.map u8v) rfl ?qc1 ?qc2 ?qc3 ?qc4 ?qc5 ?qc6 ?_)
    case qc1 => simp
    case qc2 => exact fun j u hj => Lib.cell?_alloc_some _ (A.out j u hj)
    case qc3 => intro u hu; obtain ⟨x, _, rfl⟩ := List.mem_map.1 hu; rfl
    case qc4 => unfold maxLen; omega
    case qc5 => omega
    case qc6 => simp
    intro v' w1 hown hgrow _
    obtain ⟨s', c', hs'⟩ : ∃ s' c', v' = .slice s' b.length c' := by
      rcases hown.2 with ⟨rfl, h0⟩ | ⟨g, cap, cur, rfl, _⟩
      · exact ⟨none, 0, by rw [show b.length = 0 by omega]⟩
      · exact ⟨_, _, rfl⟩
    have HO := Lib.hid hown
    have HG := Lib.hid hgrow
    subst hs'
    clear hown hgrow
    go_wp2
    go_ret
    refine ⟨_, rfl, ⟨?_, fun g e => (HO.out.lt g e).1⟩, ((Below.refl _ W).alloc (Nat.le_refl _) _).grown HG.out (by simp) (by intro k hk; simp [Value.ownBlock] at hk; omega)⟩
    have := HO.out
    exact this.mono (Nat.zero_le _)

set_option maxHeartbeats 2000000 in
set_option maxRecDepth 100000 in
theorem sclone_any {W : World} {v : Value} {b : List UInt8} (h : Byt W v b) (hn : b.length ≤ 1000000000) :
    Calls Try.prog 22 #[v] W fun e w' => ∃ v', e = .returned v' ∧ Bts w' (fun k => W.heap.size ≤ k) v' b ∧ Below W.heap.size W w' := by
  obtain ⟨s, cap, rfl, hb⟩ := h
  have q := eql_nil_bytes
  cases s with
  | none =>
    have hb0 : b = [] := by
      by_cases h0 : b = []
      · exact h0
      · obtain ⟨g, off, e, _⟩ := hb h0; cases e
    subst hb0
    clear hb
    go_enter Try.func22, Try.ntmps22
    go_wp2
    go_ret
    exact ⟨_, rfl, ⟨World.ownsRow_nil _ _ _ _, fun g e => by cases e⟩, Below.refl _ _⟩
  | some a =>
    obtain ⟨i0, hi, hz0, hz1, hz2⟩ := info_parts infoU8
    have A : Aside (∀ j u, (b.map u8v)[j]? = some u → W.cell? (a.add j) = some u) := by
      intro j u hj
      have hjl : j < b.length := by simpa using (List.getElem?_eq_some_iff.1 hj).1
      obtain ⟨g, off, e, _, hc⟩ := hb (by intro e; simp [e] at hjl)
      injection e with e
      subst e
      rw [Addr.add_lit, hc j b[j] (List.getElem?_eq_getElem hjl)]
      simpa [hjl] using hj
    clear hb
    go_enter Try.func22, Try.ntmps22
    go_wp2_with (at_builtin; refine wpList_append_own _ rfl _ _ 25 rfl W.heap.size 5 i0 (.int .u8 0) 1 1 Try.underlying25 hi hz0 hz1 hz2 rfl (by decide) _ _ _ rfl (World.ownsRow_made W #[] 0 (Nat.le_refl _) (Nat.zero_le _) rfl) a b.length cap (b.map u8v) rfl ?qc1 ?qc2 ?qc3 ?qc4 ?qc5 ?qc6 ?_)
    case qc1 => simp
    case qc2 => exact fun j u hj => Lib.cell?_alloc_some _ (A.out j u hj)
    case qc3 => intro u hu; obtain ⟨x, _, rfl⟩ := List.mem_map.1 hu; rfl
    case qc4 => unfold maxLen; omega
    case qc5 => omega
    case qc6 => simp
    intro v' w1 hown hgrow _
    obtain ⟨s', c', hs'⟩ : ∃ s' c', v' = .slice s' b.length c' := by
      rcases hown.2 with ⟨rfl, h0⟩ | ⟨g, cap, cur, rfl, _⟩
      · exact ⟨none, 0, by rw [show b.length = 0 by omega]⟩
      · exact ⟨_, _, rfl⟩
    have HO := Lib.hid hown
    have HG := Lib.hid hgrow
    subst hs'
    clear hown hgrow
    go_wp2
    go_ret
    refine ⟨_, rfl, ⟨?_, fun g e => (HO.out.lt g e).1⟩, ((Below.refl _ W).alloc (Nat.le_refl _) _).grown HG.out (by simp) (by intro k hk; simp [Value.ownBlock] at hk; omega)⟩
    have := HO.out
    exact this.mono (Nat.zero_le _)

/-! ### events -/
/-- An event: whose it is, its bytes' slice, its bytes. -/
structure Ev where
  (a : A8) (v : Value) (b : List UInt8)
def Ev.cs (x : Ev) : List Value := [.int .u8 x.a.x0.toNat, .int .u8 x.a.x1.toNat, .int .u8 x.a.x2.toNat, .int .u8 x.a.x3.toNat, .int .u8 x.a.x4.toNat, .int .u8 x.a.x5.toNat, .int .u8 x.a.x6.toNat, .int .u8 x.a.x7.toNat, x.v]
theorem Ev.len (x : Ev) : x.cs.length = 9 := rfl
theorem infoEv : (Try.prog.info? 66).map (fun i => (i.zero, i.size, i.bytes)) = some (some (.agg #[.int .u8 0, .int .u8 0, .int .u8 0, .int .u8 0, .int .u8 0, .int .u8 0, .int .u8 0, .int .u8 0, .slice none 0 0]), 9, 32) := by kernel_rfl
theorem ones_ev {E : List Ev} (h : ∀ x ∈ E, x.v.oneCell' = true) : ∀ u ∈ E.flatMap Ev.cs, u.oneCell' = true := by
  intro u hu
  obtain ⟨x, hx, hu⟩ := List.mem_flatMap.1 hu
  simp only [Ev.cs, List.mem_cons, List.not_mem_nil, or_false] at hu
  rcases hu with rfl | rfl | rfl | rfl | rfl | rfl | rfl | rfl | rfl
  · rfl
  · rfl
  · rfl
  · rfl
  · rfl
  · rfl
  · rfl
  · rfl
  · exact h x hx

set_option maxHeartbeats 2000000 in
set_option maxRecDepth 100000 in
/-- slices.Clone of events: their cells. -/
theorem eclone_any {W : World} {b off n c : Nat} {xs : List Value} (hl : xs.length = n * 9) (hn : n ≤ 1000000000) (hc : ∀ j u, xs[j]? = some u → W.cell? ⟨b, off + j, none⟩ = some u) (h1 : ∀ u ∈ xs, u.oneCell' = true) :
    Calls Try.prog 71 #[.slice (some ⟨b, off, none⟩) n c] W fun e w' => ∃ v', e = .returned v' ∧ w'.ownsRow W.heap.size 66 9 v' n xs ∧ Below W.heap.size W w' := by
  have q := eql_nil_events
  obtain ⟨i0, hi, hz0, hz1, hz2⟩ := info_parts infoEv
  have A : Aside (∀ j u, xs[j]? = some u → W.cell? ⟨b, off + j, none⟩ = some u) := hc
  have HL := Lib.hid hl
  have H1 := Lib.hid h1
  clear hc hl h1
  go_enter Try.func71, Try.ntmps71
  go_wp2_with (at_builtin; refine wpList_append_own _ rfl _ _ 51 rfl W.heap.size 66 i0 _ 9 32 Try.underlying51 hi hz0 hz1 hz2 rfl (by decide) _ _ _ rfl (World.ownsRow_made W #[] 0 (Nat.le_refl _) (Nat.zero_le _) rfl) ⟨b, off, none⟩ n c xs rfl ?qc1 ?qc2 ?qc3 ?qc4 ?qc5 ?qc6 ?_)
  case qc1 => exact HL.out
  case qc2 =>
    intro j u hj
    rw [Addr.add_lit]
    exact Lib.cell?_alloc_some _ (A.out j u hj)
  case qc3 => exact H1.out
  case qc4 => unfold maxLen; omega
  case qc5 => omega
  case qc6 => simp
  intro v' w1 hown hgrow _
  obtain ⟨s', c', hs'⟩ : ∃ s' c', v' = .slice s' n c' := by
    rcases hown.2 with ⟨rfl, h0⟩ | ⟨g, cap, cur, rfl, _⟩
    · exact ⟨none, 0, by rw [show n = 0 by omega]⟩
    · exact ⟨_, _, rfl⟩
  have HO := Lib.hid hown
  have HG := Lib.hid hgrow
  subst hs'
  clear hown hgrow
  go_wp2
  go_ret
  refine ⟨_, rfl, ?_, ((Below.refl _ W).alloc (Nat.le_refl _) _).grown HG.out (by simp) (by intro k hk; simp [Value.ownBlock] at hk; omega)⟩
  exact HO.out
end Go.Proofs.Yteeghdkejnhjnaa.Bo

/- A book in memory: a struct of a row of events and a map of codes; the walks of New, Len, Cut. -/
namespace Go.Proofs.Yteeghdkejnhjnaa.Bo
open Go Go.RowKit Kt Ad

theorem t_run1 {P : Program} {ops : Array Oper} {Q : Exit → Act → World → Prop} {S : World → Prop} {i : Nat} {p : RP} {a : Act} {w : World} {o : Oper} (hi' : ops.toList[i]? = some o) (hw : Region.wanted o (yielded ops a.tmps) = true)
    (h : ∀ K : Act → World → Prop, Shut (∀ a w, S w → p.go P ops Q S a w → K a w) → Oper.wp P o a w K Q) : (RP.run i p).go P ops Q S a w :=
  RP.t_run hi' (fun K hK => by rw [if_pos hw]; exact h K hK)

abbrev Cs := List (A8 × (Value × List UInt8))
def kvc (c : A8 × (Value × List UInt8)) : A8 × Value := (c.1, c.2.1)
/-- A BOOK: the struct in block bl, its map in block bm, its row vr; all its blocks are such as `own` speaks of. -/
structure Bk (W : World) (own : Nat → Prop) (bl bm : Nat) (vr : Value) (E : List Ev) (C : Cs) : Prop where
  cell : Lies W bl 112 #[vr, .map (some bm)]
  row : WRow W own 66 9 vr E.length (E.flatMap Ev.cs)
  evs : ∀ x ∈ E, Bts W own x.v x.b
  map : IsMap A8.v W bm (C.map kvc)
  codes : ∀ c ∈ C, Bts W own c.2.1 c.2.2 ∧ c.2.2 ≠ []
  rise : Al.Rise C
  obl : own bl
  obm : own bm
section
variable {W W' : World} {own own' m : Nat → Prop} {bl bm : Nat} {vr : Value} {E : List Ev} {C : Cs}
theorem Bk.kept (h : Bk W own bl bm vr E C) (hf : Fr W W' m) (hn : ∀ k, own k → ¬ m k) : Bk W' own bl bm vr E C :=
  ⟨lies_fr h.cell hf (hn _ h.obl), h.row.kept hf (fun k hk _ => hn k hk), fun x hx => (h.evs x hx).kept hf hn, map_fr h.map hf (hn _ h.obm), fun c hc => ⟨(h.codes c hc).1.kept hf hn, (h.codes c hc).2⟩, h.rise, h.obl, h.obm⟩
theorem Bk.later (h : Bk W own bl bm vr E C) (hb : Below W.heap.size W W') : Bk W' own bl bm vr E C := h.kept (m := fun _ => False) (Fr.of_below hb _) (fun _ _ h => h)
theorem Bk.drew (h : Bk W own bl bm vr E C) : Bk W.drew own bl bm vr E C := h.later (Below.refl _ _).drew
theorem Bk.alloc (h : Bk W own bl bm vr E C) (o : Obj) : Bk (W.alloc o) own bl bm vr E C := h.later ((Below.refl _ _).alloc (Nat.le_refl _) o)
theorem Bk.mono (h : Bk W own bl bm vr E C) (ho : ∀ k, k < W.heap.size → own k → own' k) : Bk W own' bl bm vr E C :=
  ⟨h.cell, h.row.mono ho, fun x hx => (h.evs x hx).mono ho, h.map, fun c hc => ⟨(h.codes c hc).1.mono ho, (h.codes c hc).2⟩, h.rise, ho _ h.cell.lt h.obl, ho _ h.map.lt h.obm⟩
/-- Bytes of one's own stay where no block of bytes changes. -/
theorem Bts.kept_ty {v : Value} {b : List UInt8} (h : Bts W own v b) (hf : Fr W W' m) (hm : ∀ k, m k → ∀ cur, ¬ Lies W k 5 cur) : Bts W' own v b := by
  refine ⟨⟨h.1.1, ?_⟩, h.2⟩
  rcases h.1.2 with h0 | ⟨g, cap, cur, rfl, h0, hg, rest⟩
  · exact .inl h0
  · exact .inr ⟨g, cap, cur, rfl, h0, (hf.block g (Array.getElem?_eq_some_iff.1 hg).1 (fun e => hm g e cur hg)).trans hg, rest⟩
theorem lies_uniq {g : Nat} {t t' : TypeId} {cs cs' : Array Value} (h : Lies W g t cs) (h' : Lies W g t' cs') : t = t' := by
  have := h.symm.trans h'
  injection this with e
  injection e
theorem Bk.ne_row (h : Bk W own bl bm vr E C) {k : Nat} {t : TypeId} {cs : Array Value} (hl : Lies W k t cs) (ht : t ≠ 66) : ¬ some k = vr.ownBlock := fun e => by
  obtain ⟨_, _, cur, hg⟩ := wrow_lt h.row e.symm
  exact ht (lies_uniq hl hg)
theorem Bk.map_ne_row (h : Bk W own bl bm vr E C) : ¬ some bm = vr.ownBlock := fun e => by
  obtain ⟨_, _, cur, hg⟩ := wrow_lt h.row e.symm
  obtain ⟨es, c, h1, _⟩ := h.map.block
  have := hg.symm.trans h1
  cases this
theorem Bk.ne (h : Bk W own bl bm vr E C) : bl ≠ bm := by
  obtain ⟨es, c, h1, _⟩ := h.map.block
  exact h.cell.not_map h1
theorem Bk.form (h : Bk W own bl bm vr E C) : ∃ s cap, vr = .slice s E.length cap ∧ E.length ≤ cap ∧ (E.length ≠ 0 → ∃ g, s = some ⟨g, 0, none⟩ ∧ g < W.heap.size) := h.row.form
end

set_option maxRecDepth 100000 in
set_option maxHeartbeats 2000000 in
theorem new_any (W : World) :
    Calls Try.prog 21 #[] W fun e w' => ∃ bl bm, e = .returned (.pointer (some ⟨bl, 0, none⟩)) ∧ Bk w' (fun k => W.heap.size ≤ k) bl bm (.slice none 0 0) [] [] ∧ Below W.heap.size W w' := by
  have hmm := @run_makeMap Try.prog
  go_enter Try.func21, Try.ntmps21
  go_wp2
  go_ret
  refine ⟨W.heap.size + 1, W.heap.size, rfl, ⟨?_, WRow.nil _ _ _ _, by simp, (IsMap.new W A8.v).alloc _, by simp, Al.Rise.nil, by omega, Nat.le_refl _⟩, ((Below.refl _ _).alloc (Nat.le_refl _) _).alloc (by simp) _⟩
  have := Lies.new (W.alloc (.map #[] 0)) 112 #[.slice none 0 0, .map (some W.heap.size)]
  rw [World.size_alloc] at this
  exact this

set_option maxRecDepth 100000 in
set_option maxHeartbeats 2000000 in
theorem len_any {W : World} {own : Nat → Prop} {bl bm : Nat} {vr : Value} {E : List Ev} {C : Cs} (h : Bk W own bl bm vr E C) :
    Calls Try.prog 33 #[.pointer (some ⟨bl, 0, none⟩)] W fun e w' => e = .returned (.int .i64 E.length) ∧ w' = W := by
  obtain ⟨s, cap, rfl, _⟩ := h.form
  have hc := h.cell.cell 0
  simp only [List.getElem?_toArray, List.getElem?_cons_zero] at hc
  clear h
  go_enter Try.func33, Try.ntmps33
  go_wp2
  go_ret
  exact ⟨rfl, rfl⟩
end Go.Proofs.Yteeghdkejnhjnaa.Bo
