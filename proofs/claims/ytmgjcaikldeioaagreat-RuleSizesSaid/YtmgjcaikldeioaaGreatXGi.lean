/- Space: what it is in memory; one more, or more, in each of its rows. -/
import Derived.Test.YtmgjcaikldeioaaGreatXGh
import Derived.Test.YtmgjcaikldeioaaGreatXFt
namespace Go.Proofs.YtmgjcaikldeioaaGreat.Gr
open Go Go.RowKit Kt Fm

/-- A space's cells. -/
def spc (tv fv gv bv mv : Value) (n0 n1 n2 n3 : Nat) (ev : Value) : List Value := [tv, fv, gv, bv, mv, .int .i64 n0, .int .i64 n1, .int .i64 n2, .int .i64 n3, ev]
/-- A space in memory, and the module that it is made of. -/
structure Sp (w : World) (B S0 : Nat) (m : Mod) (TS : List Ft) (FS : List Ty) (GS : List Gt) (BS MS : List Lim) (tv fv gv bv mv : Value) (n0 n1 n2 n3 : Nat) (ev : Value) : Prop where
 lies : Lies w S0 122 (spc tv fv gv bv mv n0 n1 n2 n3 ev).toArray
 mod : Lies w B 33 m.cs.toArray
 t : w.ownsRow B 51 2 tv TS.length (TS.flatMap Ft.cs)
 f : w.ownsRow B 129 3 fv FS.length (FS.flatMap Ty.cs)
 g : w.ownsRow B 78 2 gv GS.length (GS.flatMap Gt.cs)
 b : w.ownsRow B 84 2 bv BS.length (BS.flatMap Lim.cs)
 m : w.ownsRow B 84 2 mv MS.length (MS.flatMap Lim.cs)
 ne : ∀ k, bv.ownBlock = some k → mv.ownBlock ≠ some k
 own : ∀ x ∈ TS, FtOwn w x
 fown : ∀ x ∈ FS, FtOwn w x.ft
section
variable {w w' w1 w2 : World} {B S0 : Nat} {m : Mod} {TS : List Ft} {FS : List Ty} {GS : List Gt} {BS MS : List Lim} {tv fv gv bv mv : Value} {n0 n1 n2 n3 : Nat} {ev : Value}
theorem FtOwn.frT {x : Ft} {es : List TypeId} (h : FtOwn w x) (hf : FrT es w w') (ht : 5 ∉ es) : FtOwn w' x := ⟨wrow_frT h.1 hf ht, wrow_frT h.2 hf ht⟩
theorem Sp.later (h : Sp w B S0 m TS FS GS BS MS tv fv gv bv mv n0 n1 n2 n3 ev) (hb : Below w.heap.size w w') : Sp w' B S0 m TS FS GS BS MS tv fv gv bv mv n0 n1 n2 n3 ev :=
 ⟨h.lies.below hb h.lies.lt, h.mod.below hb h.mod.lt, ownsRow_keep h.t hb, ownsRow_keep h.f hb, ownsRow_keep h.g hb, ownsRow_keep h.b hb, ownsRow_keep h.m hb, h.ne, fun x hx => (h.own x hx).later hb, fun x hx => (h.fown x hx).later hb⟩
theorem below_push {W : World} {e : TypeId} {sz n : Nat} {v : Value} {xs : List Value} (hb : Below B W w) (hB : B ≤ w.heap.size) (hr : w.ownsRow B e sz v n xs) (hg : w.grownBy w1 v.ownBlock) (hf : Fr w1 w2 (fun k => k = S0)) (hS : B ≤ S0) : Below B W w2 :=
 (hb.grown hg hB (fun k hk => (row_block hr hk).1)).trans (hf.below (Nat.le_trans hB hg.size) (fun k hk => by omega))
theorem Sp.put_t {xs : List Ft} {v' : Value} (h : Sp w B S0 m TS FS GS BS MS tv fv gv bv mv n0 n1 n2 n3 ev) (hr : w1.ownsRow B 51 2 v' (TS.length + xs.length) (TS.flatMap Ft.cs ++ xs.flatMap Ft.cs)) (hg : w.grownBy w1 tv.ownBlock) (_hv : v'.ownBlock = tv.ownBlock ∨ v'.ownBlock = some w.heap.size)
  (hl : Lies w2 S0 122 (spc v' fv gv bv mv n0 n1 n2 n3 ev).toArray) (hf : Fr w1 w2 (fun k => k = S0)) (hx : ∀ x ∈ xs, FtOwn w1 x) : Sp w2 B S0 m (TS ++ xs) FS GS BS MS v' fv gv bv mv n0 n1 n2 n3 ev := by
 have f1 : FrT [51] w w1 := FrT.grown h.t hg
 have l1 := lies_frT h.lies f1 (by decide)
 have f2 : FrT [122] w1 w2 := FrT.field l1 hf
 have f3 := f1.trans f2
 have hr' := row_frT hr f2 (by decide)
 rw [← List.length_append, ← List.flatMap_append] at hr'
 have hne : ∀ k, (bv).ownBlock = some k → (mv).ownBlock ≠ some k := h.ne
 have hown : ∀ x ∈ TS ++ xs, FtOwn w2 x := fun x hm => by
  rcases List.mem_append.1 hm with h1 | h1
  ·exact (h.own x h1).frT f3 (by decide)
  ·exact (hx x h1).frT f2 (by decide)
 have hfown : ∀ x ∈ FS, FtOwn w2 x.ft := fun x hx => (h.fown x hx).frT f3 (by decide)
 exact ⟨hl, lies_frT h.mod f3 (by decide), hr', row_frT h.f f3 (by decide), row_frT h.g f3 (by decide), row_frT h.b f3 (by decide), row_frT h.m f3 (by decide), hne, hown, hfown⟩
theorem Sp.put_f {xs : List Ty} {v' : Value} (h : Sp w B S0 m TS FS GS BS MS tv fv gv bv mv n0 n1 n2 n3 ev) (hr : w1.ownsRow B 129 3 v' (FS.length + xs.length) (FS.flatMap Ty.cs ++ xs.flatMap Ty.cs)) (hg : w.grownBy w1 fv.ownBlock) (_hv : v'.ownBlock = fv.ownBlock ∨ v'.ownBlock = some w.heap.size)
  (hl : Lies w2 S0 122 (spc tv v' gv bv mv n0 n1 n2 n3 ev).toArray) (hf : Fr w1 w2 (fun k => k = S0)) (hx : ∀ x ∈ xs, FtOwn w1 x.ft) : Sp w2 B S0 m TS (FS ++ xs) GS BS MS tv v' gv bv mv n0 n1 n2 n3 ev := by
 have f1 : FrT [129] w w1 := FrT.grown h.f hg
 have l1 := lies_frT h.lies f1 (by decide)
 have f2 : FrT [122] w1 w2 := FrT.field l1 hf
 have f3 := f1.trans f2
 have hr' := row_frT hr f2 (by decide)
 rw [← List.length_append, ← List.flatMap_append] at hr'
 have hne : ∀ k, (bv).ownBlock = some k → (mv).ownBlock ≠ some k := h.ne
 have hown : ∀ x ∈ TS, FtOwn w2 x := fun x hx => (h.own x hx).frT f3 (by decide)
 have hfown : ∀ x ∈ FS ++ xs, FtOwn w2 x.ft := fun x hm => by
  rcases List.mem_append.1 hm with h1 | h1
  ·exact (h.fown x h1).frT f3 (by decide)
  ·exact (hx x h1).frT f2 (by decide)
 exact ⟨hl, lies_frT h.mod f3 (by decide), row_frT h.t f3 (by decide), hr', row_frT h.g f3 (by decide), row_frT h.b f3 (by decide), row_frT h.m f3 (by decide), hne, hown, hfown⟩
theorem Sp.put_g {xs : List Gt} {v' : Value} (h : Sp w B S0 m TS FS GS BS MS tv fv gv bv mv n0 n1 n2 n3 ev) (hr : w1.ownsRow B 78 2 v' (GS.length + xs.length) (GS.flatMap Gt.cs ++ xs.flatMap Gt.cs)) (hg : w.grownBy w1 gv.ownBlock) (_hv : v'.ownBlock = gv.ownBlock ∨ v'.ownBlock = some w.heap.size)
  (hl : Lies w2 S0 122 (spc tv fv v' bv mv n0 n1 n2 n3 ev).toArray) (hf : Fr w1 w2 (fun k => k = S0)) : Sp w2 B S0 m TS FS (GS ++ xs) BS MS tv fv v' bv mv n0 n1 n2 n3 ev := by
 have f1 : FrT [78] w w1 := FrT.grown h.g hg
 have l1 := lies_frT h.lies f1 (by decide)
 have f2 : FrT [122] w1 w2 := FrT.field l1 hf
 have f3 := f1.trans f2
 have hr' := row_frT hr f2 (by decide)
 rw [← List.length_append, ← List.flatMap_append] at hr'
 have hne : ∀ k, (bv).ownBlock = some k → (mv).ownBlock ≠ some k := h.ne
 have hown : ∀ x ∈ TS, FtOwn w2 x := fun x hx => (h.own x hx).frT f3 (by decide)
 have hfown : ∀ x ∈ FS, FtOwn w2 x.ft := fun x hx => (h.fown x hx).frT f3 (by decide)
 exact ⟨hl, lies_frT h.mod f3 (by decide), row_frT h.t f3 (by decide), row_frT h.f f3 (by decide), hr', row_frT h.b f3 (by decide), row_frT h.m f3 (by decide), hne, hown, hfown⟩
theorem Sp.put_b {xs : List Lim} {v' : Value} (h : Sp w B S0 m TS FS GS BS MS tv fv gv bv mv n0 n1 n2 n3 ev) (hr : w1.ownsRow B 84 2 v' (BS.length + xs.length) (BS.flatMap Lim.cs ++ xs.flatMap Lim.cs)) (hg : w.grownBy w1 bv.ownBlock) (hv : v'.ownBlock = bv.ownBlock ∨ v'.ownBlock = some w.heap.size)
  (hl : Lies w2 S0 122 (spc tv fv gv v' mv n0 n1 n2 n3 ev).toArray) (hf : Fr w1 w2 (fun k => k = S0)) : Sp w2 B S0 m TS FS GS (BS ++ xs) MS tv fv gv v' mv n0 n1 n2 n3 ev := by
 have f1 : FrT [84] w w1 := FrT.grown h.b hg
 have l1 := lies_frT h.lies f1 (by decide)
 have f2 : FrT [122] w1 w2 := FrT.field l1 hf
 have f3 := f1.trans f2
 have hr' := row_frT hr f2 (by decide)
 rw [← List.length_append, ← List.flatMap_append] at hr'
 have hne : ∀ k, (v').ownBlock = some k → (mv).ownBlock ≠ some k := fun k hk hk' => by
  rcases hv with e | e
  ·exact h.ne k (by rw [← e]; exact hk) hk'
  ·have h1 := (row_block h.m hk').2.1
   rw [e] at hk
   injection hk with hk
   omega
 have hown : ∀ x ∈ TS, FtOwn w2 x := fun x hx => (h.own x hx).frT f3 (by decide)
 have hfown : ∀ x ∈ FS, FtOwn w2 x.ft := fun x hx => (h.fown x hx).frT f3 (by decide)
 exact ⟨hl, lies_frT h.mod f3 (by decide), row_frT h.t f3 (by decide), row_frT h.f f3 (by decide), row_frT h.g f3 (by decide), hr', row_frT (row_fr h.m (Fr.of_grown hg) (fun k hk e => h.ne k e.symm hk)) f2 (by decide), hne, hown, hfown⟩
theorem Sp.put_m {xs : List Lim} {v' : Value} (h : Sp w B S0 m TS FS GS BS MS tv fv gv bv mv n0 n1 n2 n3 ev) (hr : w1.ownsRow B 84 2 v' (MS.length + xs.length) (MS.flatMap Lim.cs ++ xs.flatMap Lim.cs)) (hg : w.grownBy w1 mv.ownBlock) (hv : v'.ownBlock = mv.ownBlock ∨ v'.ownBlock = some w.heap.size)
  (hl : Lies w2 S0 122 (spc tv fv gv bv v' n0 n1 n2 n3 ev).toArray) (hf : Fr w1 w2 (fun k => k = S0)) : Sp w2 B S0 m TS FS GS BS (MS ++ xs) tv fv gv bv v' n0 n1 n2 n3 ev := by
 have f1 : FrT [84] w w1 := FrT.grown h.m hg
 have l1 := lies_frT h.lies f1 (by decide)
 have f2 : FrT [122] w1 w2 := FrT.field l1 hf
 have f3 := f1.trans f2
 have hr' := row_frT hr f2 (by decide)
 rw [← List.length_append, ← List.flatMap_append] at hr'
 have hne : ∀ k, (bv).ownBlock = some k → (v').ownBlock ≠ some k := fun k hk hk' => by
  rcases hv with e | e
  ·exact h.ne k hk (by rw [← e]; exact hk')
  ·have h1 := (row_block h.b hk).2.1
   rw [e] at hk'
   injection hk' with hk'
   omega
 have hown : ∀ x ∈ TS, FtOwn w2 x := fun x hx => (h.own x hx).frT f3 (by decide)
 have hfown : ∀ x ∈ FS, FtOwn w2 x.ft := fun x hx => (h.fown x hx).frT f3 (by decide)
 exact ⟨hl, lies_frT h.mod f3 (by decide), row_frT h.t f3 (by decide), row_frT h.f f3 (by decide), row_frT h.g f3 (by decide), row_frT (row_fr h.b (Fr.of_grown hg) (fun k hk e => h.ne k hk e.symm)) f2 (by decide), hr', hne, hown, hfown⟩
/-- The counts are set. -/
theorem Sp.set_n {k0 k1 k2 k3 : Nat} (h : Sp w B S0 m TS FS GS BS MS tv fv gv bv mv n0 n1 n2 n3 ev) (hl : Lies w2 S0 122 (spc tv fv gv bv mv k0 k1 k2 k3 ev).toArray) (hf : Fr w w2 (fun k => k = S0)) : Sp w2 B S0 m TS FS GS BS MS tv fv gv bv mv k0 k1 k2 k3 ev := by
 have f2 : FrT [122] w w2 := FrT.field h.lies hf
 exact ⟨hl, lies_frT h.mod f2 (by decide), row_frT h.t f2 (by decide), row_frT h.f f2 (by decide), row_frT h.g f2 (by decide), row_frT h.b f2 (by decide), row_frT h.m f2 (by decide), h.ne, fun x hx => (h.own x hx).frT f2 (by decide), fun x hx => (h.fown x hx).frT f2 (by decide)⟩
/-- The kinds of blocks that a space is made of. -/
def spKinds : List TypeId := [122, 33, 51, 129, 78, 84, 5]
/-- Blocks of other kinds turn: the space stays. -/
theorem Sp.other {es : List TypeId} (h : Sp w B S0 m TS FS GS BS MS tv fv gv bv mv n0 n1 n2 n3 ev) (hf : FrT es w w2) (he : (spKinds.all fun t => !es.contains t) = true) : Sp w2 B S0 m TS FS GS BS MS tv fv gv bv mv n0 n1 n2 n3 ev := by
 have hn : ∀ t ∈ spKinds, t ∉ es := fun t ht h1 => by
  have := (List.all_eq_true.1 he) t ht
  simp only [Bool.not_eq_true', List.contains_eq_mem, decide_eq_false_iff_not] at this
  exact this h1
 exact ⟨lies_frT h.lies hf (hn _ (by simp [spKinds])), lies_frT h.mod hf (hn _ (by simp [spKinds])), row_frT h.t hf (hn _ (by simp [spKinds])), row_frT h.f hf (hn _ (by simp [spKinds])), row_frT h.g hf (hn _ (by simp [spKinds])), row_frT h.b hf (hn _ (by simp [spKinds])), row_frT h.m hf (hn _ (by simp [spKinds])), h.ne, fun x hx => (h.own x hx).frT hf (hn _ (by simp [spKinds])), fun x hx => (h.fown x hx).frT hf (hn _ (by simp [spKinds]))⟩
/-- The imports of a kind. -/
def fk (m : Mod) (k : UInt8) : List Imp := m.imps.filter fun x => x.kind == k
theorem fk_le (m : Mod) (k : UInt8) : (fk m k).length ≤ m.imps.length := List.length_filter_le _ _
/-- The imports, kind by kind, in rows of one's own. -/
structure Fk (w : World) (B : Nat) (m : Mod) (v0 v1 v2 v3 : Value) : Prop where
 a : w.ownsRow B 88 8 v0 (fk m 0).length ((fk m 0).flatMap Imp.cs)
 b : w.ownsRow B 88 8 v1 (fk m 1).length ((fk m 1).flatMap Imp.cs)
 c : w.ownsRow B 88 8 v2 (fk m 2).length ((fk m 2).flatMap Imp.cs)
 d : w.ownsRow B 88 8 v3 (fk m 3).length ((fk m 3).flatMap Imp.cs)
theorem Fk.frT {v0 v1 v2 v3 : Value} {es : List TypeId} (h : Fk w B m v0 v1 v2 v3) (hf : FrT es w w2) (he : 88 ∉ es) : Fk w2 B m v0 v1 v2 v3 := ⟨row_frT h.a hf he, row_frT h.b hf he, row_frT h.c hf he, row_frT h.d hf he⟩
theorem Fk.later {v0 v1 v2 v3 : Value} (h : Fk w B m v0 v1 v2 v3) (hb : Below w.heap.size w w2) : Fk w2 B m v0 v1 v2 v3 := h.frT (es := []) (FrT.below hb []) (by simp)
set_option maxRecDepth 10000 in
theorem of_k {W : World} {v : Value} {L : List Imp} (h : Sl W 8 Imp.cs v L) (hn : L.length ≤ 4194304) (k : UInt8) (hk : isKind k) {n : Nat} (hn' : kf k = n) (hB : B ≤ W.heap.size) :
  Calls Tryz.prog 57 #[v, .func (.func n) #[] #[]] W fun e w' => ∃ v', e = .returned v' ∧ w'.ownsRow B 88 8 v' (L.filter fun x => x.kind == k).length ((L.filter fun x => x.kind == k).flatMap Imp.cs) ∧ Below W.heap.size W w' := by
 subst hn'
 refine (of_any hk h hn).mono ?_
 rintro en w2 ⟨v', rfl, ho, hb⟩
 exact ⟨v', rfl, ownsRow_base ho hB, hb⟩
/-- The types that the functions have, by number; what stands there. -/
def allTy (m : Mod) : List Nat := (fk m 0).map (·.ty) ++ m.funcs
def tyOf (TS : List Ft) (t : Nat) : Ty := ⟨(TS[t]?).getD ⟨.slice none 0 0, [], .slice none 0 0, []⟩, (TS[t]?).isSome⟩
/-- The space of a module, in memory. -/
def SpOf (w : World) (S0 : Nat) (m : Mod) : Prop := ∃ (B : Nat) (TS : List Ft) (GS : List Gt) (BS MS : List Lim) (tv fv gv bv mv ev : Value), Sp w B S0 m TS ((allTy m).map (tyOf TS)) GS BS MS tv fv gv bv mv (fk m 0).length (fk m 1).length (fk m 2).length (fk m 3).length ev ∧ TS.map (fun x => (x.p, x.r)) = m.types.map (fun x => (x.p, x.r))
theorem SpOf.later (h : SpOf w S0 m) (hb : Below w.heap.size w w2) : SpOf w2 S0 m := by
 obtain ⟨B, TS, GS, BS, MS, tv, fv, gv, bv, mv, ev, h, hm⟩ := h
 exact ⟨B, TS, GS, BS, MS, tv, fv, gv, bv, mv, ev, h.later hb, hm⟩
theorem SpOf.other {es : List TypeId} (h : SpOf w S0 m) (hf : FrT es w w2) (he : (spKinds.all fun t => !es.contains t) = true) : SpOf w2 S0 m := by
 obtain ⟨B, TS, GS, BS, MS, tv, fv, gv, bv, mv, ev, h, hm⟩ := h
 exact ⟨B, TS, GS, BS, MS, tv, fv, gv, bv, mv, ev, h.other hf he, hm⟩
theorem SpOf.lt (h : SpOf w S0 m) : S0 < w.heap.size := by
 obtain ⟨B, TS, GS, BS, MS, tv, fv, gv, bv, mv, ev, h, hm⟩ := h
 exact h.lies.lt
theorem ftC_eq (o : Option Ft) : ftC o = (o.getD ⟨.slice none 0 0, [], .slice none 0 0, []⟩).cs := by cases o <;> rfl
theorem allTy_len (m : Mod) : (allTy m).length = cnt m := by simp [allTy, cnt, fk, fimps]
/-- More in the tables and in the memories. -/
theorem Sp.put_bm {xs ys : List Lim} {b' m' : Value} {w3 : World} (h : Sp w B S0 m TS FS GS BS MS tv fv gv bv mv n0 n1 n2 n3 ev) (hr1 : w1.ownsRow B 84 2 b' (BS.length + xs.length) (BS.flatMap Lim.cs ++ xs.flatMap Lim.cs)) (hg1 : w.grownBy w1 bv.ownBlock) (hv1 : b'.ownBlock = bv.ownBlock ∨ b'.ownBlock = some w.heap.size)
  (hr2 : w2.ownsRow B 84 2 m' (MS.length + ys.length) (MS.flatMap Lim.cs ++ ys.flatMap Lim.cs)) (hg2 : w1.grownBy w2 mv.ownBlock) (hv2 : m'.ownBlock = mv.ownBlock ∨ m'.ownBlock = some w1.heap.size)
  (hl : Lies w3 S0 122 (spc tv fv gv b' m' n0 n1 n2 n3 ev).toArray) (hf : Fr w2 w3 (fun k => k = S0)) : Sp w3 B S0 m TS FS GS (BS ++ xs) (MS ++ ys) tv fv gv b' m' n0 n1 n2 n3 ev := by
 have f1 : FrT [84] w w1 := FrT.grown h.b hg1
 have hm1 := row_fr h.m (Fr.of_grown hg1) (fun k hk e => h.ne k e.symm hk)
 have f2 : FrT [84] w1 w2 := FrT.grown hm1 hg2
 have hne1 : ∀ k, b'.ownBlock = some k → mv.ownBlock ≠ some k := fun k hk hk' => by
  rcases hv1 with e | e
  ·exact h.ne k (by rw [← e]; exact hk) hk'
  ·have h1 := (row_block h.m hk').2.1
   rw [e] at hk
   injection hk with hk
   omega
 have hb2 := row_fr hr1 (Fr.of_grown hg2) (fun k hk e => hne1 k hk e.symm)
 have f12 := f1.trans f2
 have l2 := lies_frT h.lies f12 (by decide)
 have f3 : FrT [122] w2 w3 := FrT.field l2 hf
 have f4 := f12.trans f3
 have hb3 := row_frT hb2 f3 (by decide)
 have hm3 := row_frT hr2 f3 (by decide)
 rw [← List.length_append, ← List.flatMap_append] at hb3 hm3
 refine ⟨hl, lies_frT h.mod f4 (by decide), row_frT h.t f4 (by decide), row_frT h.f f4 (by decide), row_frT h.g f4 (by decide), hb3, hm3, fun k hk hk' => ?_, fun x hx => (h.own x hx).frT f4 (by decide), fun x hx => (h.fown x hx).frT f4 (by decide)⟩
 rcases hv2 with e | e
 ·exact hne1 k hk (by rw [← e]; exact hk')
 ·have h1 := (row_block hr1 hk).2.1
  rw [e] at hk'
  injection hk' with hk'
  omega
theorem lies_sub {b o : Nat} {t : TypeId} {cs : List Value} (h : Lies w b t cs.toArray) (vs : List Value) (hv : (cs.drop o).take vs.length = vs) : w.rangeAt b o vs := fun j u hj => by
 have hl := (List.getElem?_eq_some_iff.1 hj).1
 rw [← hv, List.getElem?_take, if_pos hl, List.getElem?_drop] at hj
 rw [h.cell]
 simpa using hj
end
end Go.Proofs.YtmgjcaikldeioaaGreat.Gr
