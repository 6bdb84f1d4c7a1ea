/- What a module is that came in: its parts read as lists, within the bound of the row. -/
import Derived.Test.YtmgjcaikldeioaaGreatYFm
import Derived.Test.YtmgjcaikldeioaaGreatRows
import Derived.Test.YtmgjcaikldeioaaGreatProg
import Derived.WalkKit
import Derived.ProofKit
namespace Go.Proofs.YtmgjcaikldeioaaGreat.Gr
open Go Go.ChangeShapes Go.WideShapes Go.ChangeAt Go.RowKit Kt Fm

/-- The bound of the row. -/
abbrev Bd : Nat := 1048576
def u8c (x : UInt8) : List Value := [.int .u8 x.toNat]
def u32c (x : Nat) : List Value := [.int .u32 x]
def IsSl (v : Value) : Prop := ∃ s n c, v = .slice s n c
structure Ft where
 (pv : Value) (p : List UInt8) (rv : Value) (r : List UInt8)
def Ft.cs (x : Ft) : List Value := [x.pv, x.rv]
theorem Ft.len (x : Ft) : x.cs.length = 2 := rfl
def FtOk (w : World) (x : Ft) : Prop := (Sl w 1 u8c x.pv x.p ∧ (∀ y ∈ x.p, True) ∧ x.p.length ≤ Bd) ∧ (Sl w 1 u8c x.rv x.r ∧ (∀ y ∈ x.r, True) ∧ x.r.length ≤ Bd)
theorem FtOk.later {w w' : World} {x : Ft} (h : FtOk w x) (hb : Below w.heap.size w w') : FtOk w' x := by
 unfold FtOk at h ⊢
 obtain ⟨h0, h1⟩ := h
 exact ⟨⟨h0.1.later hb, fun y hy => (h0.2.1 y hy), h0.2.2⟩, ⟨h1.1.later hb, fun y hy => (h1.2.1 y hy), h1.2.2⟩⟩
structure Lim where
 (mn : Nat) (mx : Int)
def Lim.cs (x : Lim) : List Value := [.int .u32 x.mn, .int .i64 x.mx]
theorem Lim.len (x : Lim) : x.cs.length = 2 := rfl
def LimOk (_w : World) (x : Lim) : Prop := x.mn < 4294967296
theorem LimOk.later {w w' : World} {x : Lim} (h : LimOk w x) (_ : Below w.heap.size w w') : LimOk w' x := by
 unfold LimOk at h ⊢
 have h0 := h
 exact h0
structure Gt where
 (t : UInt8) (m : Bool)
def Gt.cs (x : Gt) : List Value := [.int .u8 x.t.toNat, .bool x.m]
theorem Gt.len (x : Gt) : x.cs.length = 2 := rfl
def GtOk (_w : World) (_x : Gt) : Prop := True
theorem GtOk.later {w w' : World} {x : Gt} (h : GtOk w x) (_ : Below w.heap.size w w') : GtOk w' x := by
 unfold GtOk at h ⊢
 exact h
structure Imp where
 (mod : ByteArray) (nm : ByteArray) (kind : UInt8) (ty : Nat) (lim : Lim) (gt : Gt)
def Imp.cs (x : Imp) : List Value := [.string x.mod, .string x.nm, .int .u8 x.kind.toNat, .int .u32 x.ty, .int .u32 x.lim.mn, .int .i64 x.lim.mx, .int .u8 x.gt.t.toNat, .bool x.gt.m]
theorem Imp.len (x : Imp) : x.cs.length = 8 := rfl
def ImpOk (w : World) (x : Imp) : Prop := x.ty < 4294967296 ∧ LimOk w x.lim ∧ GtOk w x.gt ∧ x.mod.size ≤ Bd ∧ x.nm.size ≤ Bd
theorem ImpOk.later {w w' : World} {x : Imp} (h : ImpOk w x) (hb : Below w.heap.size w w') : ImpOk w' x := by
 unfold ImpOk at h ⊢
 obtain ⟨h0, h1, h2, h3, h4⟩ := h
 exact ⟨h0, h1.later hb, h2.later hb, h3, h4⟩
structure Ins where
 (op : UInt8) (a : Nat) (b : Nat) (c : Int) (lv : Value) (ls : List Nat)
def Ins.cs (x : Ins) : List Value := [.int .u8 x.op.toNat, .int .u32 x.a, .int .u32 x.b, .int .i64 x.c, x.lv]
theorem Ins.len (x : Ins) : x.cs.length = 5 := rfl
def InsOk (w : World) (x : Ins) : Prop := x.a < 4294967296 ∧ x.b < 4294967296 ∧ (-9223372036854775808 ≤ x.c ∧ x.c ≤ 9223372036854775807) ∧ (Sl w 1 u32c x.lv x.ls ∧ (∀ y ∈ x.ls, y < 4294967296) ∧ x.ls.length ≤ Bd)
theorem InsOk.later {w w' : World} {x : Ins} (h : InsOk w x) (hb : Below w.heap.size w w') : InsOk w' x := by
 unfold InsOk at h ⊢
 obtain ⟨h0, h1, h2, h3⟩ := h
 exact ⟨h0, h1, h2, ⟨h3.1.later hb, fun y hy => (h3.2.1 y hy), h3.2.2⟩⟩
structure Glb where
 (gt : Gt) (iv : Value) (il : List Ins)
def Glb.cs (x : Glb) : List Value := [.int .u8 x.gt.t.toNat, .bool x.gt.m, x.iv]
theorem Glb.len (x : Glb) : x.cs.length = 3 := rfl
def GlbOk (w : World) (x : Glb) : Prop := GtOk w x.gt ∧ (Sl w 5 Ins.cs x.iv x.il ∧ (∀ y ∈ x.il, InsOk w y) ∧ x.il.length ≤ Bd)
theorem GlbOk.later {w w' : World} {x : Glb} (h : GlbOk w x) (hb : Below w.heap.size w w') : GlbOk w' x := by
 unfold GlbOk at h ⊢
 obtain ⟨h0, h1⟩ := h
 exact ⟨h0.later hb, ⟨h1.1.later hb, fun y hy => (h1.2.1 y hy).later hb, h1.2.2⟩⟩
structure Exp where
 (nm : ByteArray) (kind : UInt8) (ix : Nat)
def Exp.cs (x : Exp) : List Value := [.string x.nm, .int .u8 x.kind.toNat, .int .u32 x.ix]
theorem Exp.len (x : Exp) : x.cs.length = 3 := rfl
def ExpOk (_w : World) (x : Exp) : Prop := x.ix < 4294967296 ∧ x.nm.size ≤ Bd
theorem ExpOk.later {w w' : World} {x : Exp} (h : ExpOk w x) (_ : Below w.heap.size w w') : ExpOk w' x := by
 unfold ExpOk at h ⊢
 obtain ⟨h0, h1⟩ := h
 exact ⟨h0, h1⟩
structure Elm where
 (tb : Nat) (ov : Value) (ol : List Ins) (fv : Value) (fs : List Nat)
def Elm.cs (x : Elm) : List Value := [.int .u32 x.tb, x.ov, x.fv]
theorem Elm.len (x : Elm) : x.cs.length = 3 := rfl
def ElmOk (w : World) (x : Elm) : Prop := x.tb < 4294967296 ∧ (Sl w 5 Ins.cs x.ov x.ol ∧ (∀ y ∈ x.ol, InsOk w y) ∧ x.ol.length ≤ Bd) ∧ (Sl w 1 u32c x.fv x.fs ∧ (∀ y ∈ x.fs, y < 4294967296) ∧ x.fs.length ≤ Bd)
theorem ElmOk.later {w w' : World} {x : Elm} (h : ElmOk w x) (hb : Below w.heap.size w w') : ElmOk w' x := by
 unfold ElmOk at h ⊢
 obtain ⟨h0, h1, h2⟩ := h
 exact ⟨h0, ⟨h1.1.later hb, fun y hy => (h1.2.1 y hy).later hb, h1.2.2⟩, ⟨h2.1.later hb, fun y hy => (h2.2.1 y hy), h2.2.2⟩⟩
structure Loc where
 (n : Nat) (t : UInt8)
def Loc.cs (x : Loc) : List Value := [.int .u32 x.n, .int .u8 x.t.toNat]
theorem Loc.len (x : Loc) : x.cs.length = 2 := rfl
def LocOk (_w : World) (x : Loc) : Prop := x.n < 4294967296
theorem LocOk.later {w w' : World} {x : Loc} (h : LocOk w x) (_ : Below w.heap.size w w') : LocOk w' x := by
 unfold LocOk at h ⊢
 have h0 := h
 exact h0
structure Cod where
 (lv : Value) (locs : List Loc) (bv : Value) (body : List Ins)
def Cod.cs (x : Cod) : List Value := [x.lv, x.bv]
theorem Cod.len (x : Cod) : x.cs.length = 2 := rfl
def CodOk (w : World) (x : Cod) : Prop := (Sl w 2 Loc.cs x.lv x.locs ∧ (∀ y ∈ x.locs, LocOk w y) ∧ x.locs.length ≤ Bd) ∧ (Sl w 5 Ins.cs x.bv x.body ∧ (∀ y ∈ x.body, InsOk w y) ∧ x.body.length ≤ Bd)
theorem CodOk.later {w w' : World} {x : Cod} (h : CodOk w x) (hb : Below w.heap.size w w') : CodOk w' x := by
 unfold CodOk at h ⊢
 obtain ⟨h0, h1⟩ := h
 exact ⟨⟨h0.1.later hb, fun y hy => (h0.2.1 y hy).later hb, h0.2.2⟩, ⟨h1.1.later hb, fun y hy => (h1.2.1 y hy).later hb, h1.2.2⟩⟩
structure Dat where
 (mem : Nat) (ov : Value) (ol : List Ins) (bv : Value) (b : List UInt8)
def Dat.cs (x : Dat) : List Value := [.int .u32 x.mem, x.ov, x.bv]
theorem Dat.len (x : Dat) : x.cs.length = 3 := rfl
def DatOk (w : World) (x : Dat) : Prop := x.mem < 4294967296 ∧ (Sl w 5 Ins.cs x.ov x.ol ∧ (∀ y ∈ x.ol, InsOk w y) ∧ x.ol.length ≤ Bd) ∧ (Sl w 1 u8c x.bv x.b ∧ (∀ y ∈ x.b, True) ∧ x.b.length ≤ Bd)
theorem DatOk.later {w w' : World} {x : Dat} (h : DatOk w x) (hb : Below w.heap.size w w') : DatOk w' x := by
 unfold DatOk at h ⊢
 obtain ⟨h0, h1, h2⟩ := h
 exact ⟨h0, ⟨h1.1.later hb, fun y hy => (h1.2.1 y hy).later hb, h1.2.2⟩, ⟨h2.1.later hb, fun y hy => (h2.2.1 y hy), h2.2.2⟩⟩
structure Mod where
 (tv : Value) (types : List Ft) (iv : Value) (imps : List Imp) (fv : Value) (funcs : List Nat) (bv : Value) (tabs : List Lim) (mv : Value) (mems : List Lim) (gv : Value) (globs : List Glb) (ev : Value) (exps : List Exp) (hs : Bool) (st : Nat) (ev2 : Value) (elems : List Elm) (cv : Value) (codes : List Cod) (dv : Value) (datas : List Dat)
def Mod.cs (x : Mod) : List Value := [x.tv, x.iv, x.fv, x.bv, x.mv, x.gv, x.ev, .bool x.hs, .int .u32 x.st, x.ev2, x.cv, x.dv]
theorem Mod.len (x : Mod) : x.cs.length = 12 := rfl
def ModOk (w : World) (x : Mod) : Prop := (Sl w 2 Ft.cs x.tv x.types ∧ (∀ y ∈ x.types, FtOk w y) ∧ x.types.length ≤ Bd) ∧ (Sl w 8 Imp.cs x.iv x.imps ∧ (∀ y ∈ x.imps, ImpOk w y) ∧ x.imps.length ≤ Bd) ∧ (Sl w 1 u32c x.fv x.funcs ∧ (∀ y ∈ x.funcs, y < 4294967296) ∧ x.funcs.length ≤ Bd) ∧ (Sl w 2 Lim.cs x.bv x.tabs ∧ (∀ y ∈ x.tabs, LimOk w y) ∧ x.tabs.length ≤ Bd) ∧ (Sl w 2 Lim.cs x.mv x.mems ∧ (∀ y ∈ x.mems, LimOk w y) ∧ x.mems.length ≤ Bd) ∧ (Sl w 3 Glb.cs x.gv x.globs ∧ (∀ y ∈ x.globs, GlbOk w y) ∧ x.globs.length ≤ Bd) ∧ (Sl w 3 Exp.cs x.ev x.exps ∧ (∀ y ∈ x.exps, ExpOk w y) ∧ x.exps.length ≤ Bd) ∧ x.st < 4294967296 ∧ (Sl w 3 Elm.cs x.ev2 x.elems ∧ (∀ y ∈ x.elems, ElmOk w y) ∧ x.elems.length ≤ Bd) ∧ (Sl w 2 Cod.cs x.cv x.codes ∧ (∀ y ∈ x.codes, CodOk w y) ∧ x.codes.length ≤ Bd) ∧ (Sl w 3 Dat.cs x.dv x.datas ∧ (∀ y ∈ x.datas, DatOk w y) ∧ x.datas.length ≤ Bd)
theorem ModOk.later {w w' : World} {x : Mod} (h : ModOk w x) (hb : Below w.heap.size w w') : ModOk w' x := by
 unfold ModOk at h ⊢
 obtain ⟨h0, h1, h2, h3, h4, h5, h6, h7, h8, h9, h10⟩ := h
 exact ⟨⟨h0.1.later hb, fun y hy => (h0.2.1 y hy).later hb, h0.2.2⟩, ⟨h1.1.later hb, fun y hy => (h1.2.1 y hy).later hb, h1.2.2⟩, ⟨h2.1.later hb, fun y hy => (h2.2.1 y hy), h2.2.2⟩, ⟨h3.1.later hb, fun y hy => (h3.2.1 y hy).later hb, h3.2.2⟩, ⟨h4.1.later hb, fun y hy => (h4.2.1 y hy).later hb, h4.2.2⟩, ⟨h5.1.later hb, fun y hy => (h5.2.1 y hy).later hb, h5.2.2⟩, ⟨h6.1.later hb, fun y hy => (h6.2.1 y hy).later hb, h6.2.2⟩, h7, ⟨h8.1.later hb, fun y hy => (h8.2.1 y hy).later hb, h8.2.2⟩, ⟨h9.1.later hb, fun y hy => (h9.2.1 y hy).later hb, h9.2.2⟩, ⟨h10.1.later hb, fun y hy => (h10.2.1 y hy).later hb, h10.2.2⟩⟩

section
variable {H : Type} {enc : TypeId × Value → H} {w : World} {base : Nat} {spare : Nat → Bool} {held : Bool}
def bulk {H : Type} (d : DataW H) : Nat := Rows.uptoBulk d
theorem bulk_one (d : DataW H) : 1 ≤ bulk d := by
 unfold bulk
 cases d with
 | lit l => cases l <;> simp [Rows.uptoBulk]
 | nil => simp [Rows.uptoBulk]
 | ptr d => simp [Rows.uptoBulk]
 | slice l r => simp [Rows.uptoBulk]
 | agg l => simp [Rows.uptoBulk]
 | iface t d => simp [Rows.uptoBulk]
 | map l => simp [Rows.uptoBulk]
 | held h => simp [Rows.uptoBulk]
theorem bulk_len (l : List (DataW H)) : l.length ≤ Rows.uptoBulkAll l := by
 induction l with
 | nil => simp [Rows.uptoBulkAll]
 | cons d r ih =>
  have := bulk_one d
  unfold bulk at this
  simp only [Rows.uptoBulkAll, List.length_cons]
  omega
theorem bulk_mem {d : DataW H} {l : List (DataW H)} (h : d ∈ l) : bulk d ≤ Rows.uptoBulkAll l := by
 induction l with
 | nil => cases h
 | cons x r ih =>
  simp only [Rows.uptoBulkAll]
  rcases List.mem_cons.1 h with rfl | h
  ·unfold bulk; omega
  ·have := ih h; omega
theorem bulk_slice (l r : List (DataW H)) : l.length + r.length + 1 ≤ bulk (.slice l r) := by
 have := bulk_len l
 have := bulk_len r
 unfold bulk
 simp only [Rows.uptoBulk]
 omega
theorem bulk_elem (l r : List (DataW H)) (d : DataW H) (h : d ∈ l) : bulk d ≤ bulk (.slice l r) := by
 have := bulk_mem h
 show bulk d ≤ Rows.uptoBulk (.slice l r)
 simp only [Rows.uptoBulk]
 omega
theorem bulk_agg {l : List (DataW H)} {d : DataW H} (h : d ∈ l) : bulk d ≤ bulk (.agg l) := by
 have := bulk_mem h
 show bulk d ≤ Rows.uptoBulk (.agg l)
 simp only [Rows.uptoBulk]
 omega
theorem str_bd {s : ByteArray} {q : DataW H × List MemPlace} (h : q = (.lit (.string s.data.toList), [])) (hb : bulk q.1 ≤ Bd) : s.size ≤ Bd := by
 rw [h] at hb
 unfold bulk at hb
 simp only [Rows.uptoBulk] at hb
 have e : s.size = s.data.toList.length := by rw [Array.length_toList]; rfl
 omega
theorem u8_of {n : Int} (h : (Lit.int .u8 n).wf = true) : ∃ x : UInt8, n = (x.toNat : Int) := by
 have hb := bounds_u8 h
 refine ⟨UInt8.ofNat n.toNat, ?_⟩
 have e : (UInt8.ofNat n.toNat).toNat = n.toNat := by
  rw [UInt8.toNat_ofNat']
  exact Nat.mod_eq_of_lt (by omega)
 rw [e]
 omega
theorem u32_of {n : Int} (h : (Lit.int .u32 n).wf = true) : ∃ x : Nat, n = (x : Int) ∧ x < 4294967296 := by
 have hb := bounds_u32 h
 exact ⟨n.toNat, by omega, by omega⟩
theorem el_u8 (n : Nat) (cs : List Value) (d : DataW H) (p : List MemPlace) (h : DataW.trod enc Tryz.prog w base spare held n 5 cs = some (d, p)) (_ : bulk d ≤ Bd) : ∃ x : UInt8, cs = u8c x ∧ True := by
 obtain ⟨k, e, _, wf⟩ := DataW.trod_int Tryz.underlying5 h
 obtain ⟨x, rfl⟩ := u8_of wf
 exact ⟨x, e, trivial⟩
theorem el_u32 (n : Nat) (cs : List Value) (d : DataW H) (p : List MemPlace) (h : DataW.trod enc Tryz.prog w base spare held n 28 cs = some (d, p)) (_ : bulk d ≤ Bd) : ∃ x : Nat, cs = u32c x ∧ x < 4294967296 := by
 obtain ⟨k, e, _, wf⟩ := DataW.trod_int Tryz.underlying28 h
 obtain ⟨x, rfl, hx⟩ := u32_of wf
 exact ⟨x, e, hx⟩
theorem cells_Ft : Tryz.prog.cellsOf 51 = 2 := by kernel_rfl
set_option maxRecDepth 100000 in
theorem el_Ft (n : Nat) (cs : List Value) (d : DataW H) (p : List MemPlace) (h : DataW.trod enc Tryz.prog w base spare held n 51 cs = some (d, p)) (hB : bulk d ≤ Bd) : ∃ x : Ft, cs = x.cs ∧ FtOk w x := by
 obtain ⟨xs, m, _, hy, hl, hlen, hf⟩ := DataW.trod_struct Tryz.underlying51 h
 rw [cells_Ft] at hl
 obtain ⟨c0, c1, rfl⟩ : ∃ c0 c1, cs = [c0, c1] := by
  match cs, hl with
  | [c0, c1], _ => exact ⟨c0, c1, rfl⟩
 have hlen' : xs.length = 2 := hlen
 have hd : d = .agg (xs.map (·.1)) := by injection hy
 have hpart : ∀ q ∈ xs, bulk q.1 ≤ Bd := fun q hq => Nat.le_trans (bulk_agg (List.mem_map.2 ⟨q, hq, rfl⟩)) (by rw [← hd]; exact hB)
 have g0 : DataW.trod enc Tryz.prog w base spare held m 49 (([c0, c1] : List Value).drop 0 |>.take (Tryz.prog.cellsOf 49)) = xs[0]? := hf 0 _ rfl
 rw [show Tryz.prog.cellsOf 49 = 1 from by kernel_rfl, List.getElem?_eq_getElem (by omega)] at g0
 have b0 := hpart xs[0] (List.getElem_mem (by omega))
 simp only [List.drop_zero, List.take_succ_cons, List.take_zero] at g0
 have g1 : DataW.trod enc Tryz.prog w base spare held m 49 (([c0, c1] : List Value).drop 1 |>.take (Tryz.prog.cellsOf 49)) = xs[1]? := hf 1 _ rfl
 rw [show Tryz.prog.cellsOf 49 = 1 from by kernel_rfl, List.getElem?_eq_getElem (by omega)] at g1
 have b1 := hpart xs[1] (List.getElem_mem (by omega))
 simp only [List.drop_succ_cons, List.drop_zero, List.take_succ_cons, List.take_zero] at g1
 obtain ⟨v0, L0, e0, s0, q0, n0⟩ := sl_of Tryz.underlying49 (sz := 1) (by kernel_rfl) (by decide) u8c (fun _ => rfl) (Q := fun y => True) g0 bulk_slice bulk_elem b0 (fun n cs' d p h hb => el_u8 n cs' d p h hb)
 obtain rfl : c0 = v0 := (List.cons.inj e0).1
 obtain ⟨v1, L1, e1, s1, q1, n1⟩ := sl_of Tryz.underlying49 (sz := 1) (by kernel_rfl) (by decide) u8c (fun _ => rfl) (Q := fun y => True) g1 bulk_slice bulk_elem b1 (fun n cs' d p h hb => el_u8 n cs' d p h hb)
 obtain rfl : c1 = v1 := (List.cons.inj e1).1
 exact ⟨⟨c0, L0, c1, L1⟩, rfl, ⟨⟨s0, q0, n0⟩, ⟨s1, q1, n1⟩⟩⟩
theorem cells_Lim : Tryz.prog.cellsOf 84 = 2 := by kernel_rfl
set_option maxRecDepth 100000 in
theorem el_Lim (n : Nat) (cs : List Value) (d : DataW H) (p : List MemPlace) (h : DataW.trod enc Tryz.prog w base spare held n 84 cs = some (d, p)) (hB : bulk d ≤ Bd) : ∃ x : Lim, cs = x.cs ∧ LimOk w x := by
 obtain ⟨xs, m, _, hy, hl, hlen, hf⟩ := DataW.trod_struct Tryz.underlying84 h
 rw [cells_Lim] at hl
 obtain ⟨c0, c1, rfl⟩ : ∃ c0 c1, cs = [c0, c1] := by
  match cs, hl with
  | [c0, c1], _ => exact ⟨c0, c1, rfl⟩
 have hlen' : xs.length = 2 := hlen
 have hd : d = .agg (xs.map (·.1)) := by injection hy
 have hpart : ∀ q ∈ xs, bulk q.1 ≤ Bd := fun q hq => Nat.le_trans (bulk_agg (List.mem_map.2 ⟨q, hq, rfl⟩)) (by rw [← hd]; exact hB)
 have g0 : DataW.trod enc Tryz.prog w base spare held m 28 (([c0, c1] : List Value).drop 0 |>.take (Tryz.prog.cellsOf 28)) = xs[0]? := hf 0 _ rfl
 rw [show Tryz.prog.cellsOf 28 = 1 from by kernel_rfl, List.getElem?_eq_getElem (by omega)] at g0
 have b0 := hpart xs[0] (List.getElem_mem (by omega))
 simp only [List.drop_zero, List.take_succ_cons, List.take_zero] at g0
 have g1 : DataW.trod enc Tryz.prog w base spare held m 2 (([c0, c1] : List Value).drop 1 |>.take (Tryz.prog.cellsOf 2)) = xs[1]? := hf 1 _ rfl
 rw [show Tryz.prog.cellsOf 2 = 1 from by kernel_rfl, List.getElem?_eq_getElem (by omega)] at g1
 have b1 := hpart xs[1] (List.getElem_mem (by omega))
 simp only [List.drop_succ_cons, List.drop_zero, List.take_succ_cons, List.take_zero] at g1
 obtain ⟨k0, e0, _, wf0⟩ := DataW.trod_int Tryz.underlying28 g0
 obtain ⟨v0, rfl, l0⟩ := u32_of wf0
 obtain rfl : c0 = _ := (List.cons.inj e0).1
 obtain ⟨v1, e1, _, _⟩ := DataW.trod_int Tryz.underlying2 g1
 obtain rfl : c1 = _ := (List.cons.inj e1).1
 exact ⟨⟨v0, v1⟩, rfl, l0⟩
theorem cells_Gt : Tryz.prog.cellsOf 78 = 2 := by kernel_rfl
set_option maxRecDepth 100000 in
theorem el_Gt (n : Nat) (cs : List Value) (d : DataW H) (p : List MemPlace) (h : DataW.trod enc Tryz.prog w base spare held n 78 cs = some (d, p)) (hB : bulk d ≤ Bd) : ∃ x : Gt, cs = x.cs ∧ GtOk w x := by
 obtain ⟨xs, m, _, hy, hl, hlen, hf⟩ := DataW.trod_struct Tryz.underlying78 h
 rw [cells_Gt] at hl
 obtain ⟨c0, c1, rfl⟩ : ∃ c0 c1, cs = [c0, c1] := by
  match cs, hl with
  | [c0, c1], _ => exact ⟨c0, c1, rfl⟩
 have hlen' : xs.length = 2 := hlen
 have hd : d = .agg (xs.map (·.1)) := by injection hy
 have hpart : ∀ q ∈ xs, bulk q.1 ≤ Bd := fun q hq => Nat.le_trans (bulk_agg (List.mem_map.2 ⟨q, hq, rfl⟩)) (by rw [← hd]; exact hB)
 have g0 : DataW.trod enc Tryz.prog w base spare held m 5 (([c0, c1] : List Value).drop 0 |>.take (Tryz.prog.cellsOf 5)) = xs[0]? := hf 0 _ rfl
 rw [show Tryz.prog.cellsOf 5 = 1 from by kernel_rfl, List.getElem?_eq_getElem (by omega)] at g0
 have b0 := hpart xs[0] (List.getElem_mem (by omega))
 simp only [List.drop_zero, List.take_succ_cons, List.take_zero] at g0
 have g1 : DataW.trod enc Tryz.prog w base spare held m 4 (([c0, c1] : List Value).drop 1 |>.take (Tryz.prog.cellsOf 4)) = xs[1]? := hf 1 _ rfl
 rw [show Tryz.prog.cellsOf 4 = 1 from by kernel_rfl, List.getElem?_eq_getElem (by omega)] at g1
 have b1 := hpart xs[1] (List.getElem_mem (by omega))
 simp only [List.drop_succ_cons, List.drop_zero, List.take_succ_cons, List.take_zero] at g1
 obtain ⟨k0, e0, _, wf0⟩ := DataW.trod_int Tryz.underlying5 g0
 obtain ⟨v0, rfl⟩ := u8_of wf0
 obtain rfl : c0 = _ := (List.cons.inj e0).1
 obtain ⟨v1, e1, _⟩ := DataW.trod_bool Tryz.underlying4 g1
 obtain rfl : c1 = _ := (List.cons.inj e1).1
 exact ⟨⟨v0, v1⟩, rfl, trivial⟩
theorem cells_Imp : Tryz.prog.cellsOf 88 = 8 := by kernel_rfl
set_option maxRecDepth 100000 in
theorem el_Imp (n : Nat) (cs : List Value) (d : DataW H) (p : List MemPlace) (h : DataW.trod enc Tryz.prog w base spare held n 88 cs = some (d, p)) (hB : bulk d ≤ Bd) : ∃ x : Imp, cs = x.cs ∧ ImpOk w x := by
 obtain ⟨xs, m, _, hy, hl, hlen, hf⟩ := DataW.trod_struct Tryz.underlying88 h
 rw [cells_Imp] at hl
 obtain ⟨c0, c1, c2, c3, c4, c5, c6, c7, rfl⟩ : ∃ c0 c1 c2 c3 c4 c5 c6 c7, cs = [c0, c1, c2, c3, c4, c5, c6, c7] := by
  match cs, hl with
  | [c0, c1, c2, c3, c4, c5, c6, c7], _ => exact ⟨c0, c1, c2, c3, c4, c5, c6, c7, rfl⟩
 have hlen' : xs.length = 6 := hlen
 have hd : d = .agg (xs.map (·.1)) := by injection hy
 have hpart : ∀ q ∈ xs, bulk q.1 ≤ Bd := fun q hq => Nat.le_trans (bulk_agg (List.mem_map.2 ⟨q, hq, rfl⟩)) (by rw [← hd]; exact hB)
 have g0 : DataW.trod enc Tryz.prog w base spare held m 9 (([c0, c1, c2, c3, c4, c5, c6, c7] : List Value).drop 0 |>.take (Tryz.prog.cellsOf 9)) = xs[0]? := hf 0 _ rfl
 rw [show Tryz.prog.cellsOf 9 = 1 from by kernel_rfl, List.getElem?_eq_getElem (by omega)] at g0
 have b0 := hpart xs[0] (List.getElem_mem (by omega))
 simp only [List.drop_zero, List.take_succ_cons, List.take_zero] at g0
 have g1 : DataW.trod enc Tryz.prog w base spare held m 9 (([c0, c1, c2, c3, c4, c5, c6, c7] : List Value).drop 1 |>.take (Tryz.prog.cellsOf 9)) = xs[1]? := hf 1 _ rfl
 rw [show Tryz.prog.cellsOf 9 = 1 from by kernel_rfl, List.getElem?_eq_getElem (by omega)] at g1
 have b1 := hpart xs[1] (List.getElem_mem (by omega))
 simp only [List.drop_succ_cons, List.drop_zero, List.take_succ_cons, List.take_zero] at g1
 have g2 : DataW.trod enc Tryz.prog w base spare held m 5 (([c0, c1, c2, c3, c4, c5, c6, c7] : List Value).drop 2 |>.take (Tryz.prog.cellsOf 5)) = xs[2]? := hf 2 _ rfl
 rw [show Tryz.prog.cellsOf 5 = 1 from by kernel_rfl, List.getElem?_eq_getElem (by omega)] at g2
 have b2 := hpart xs[2] (List.getElem_mem (by omega))
 simp only [List.drop_succ_cons, List.drop_zero, List.take_succ_cons, List.take_zero] at g2
 have g3 : DataW.trod enc Tryz.prog w base spare held m 28 (([c0, c1, c2, c3, c4, c5, c6, c7] : List Value).drop 3 |>.take (Tryz.prog.cellsOf 28)) = xs[3]? := hf 3 _ rfl
 rw [show Tryz.prog.cellsOf 28 = 1 from by kernel_rfl, List.getElem?_eq_getElem (by omega)] at g3
 have b3 := hpart xs[3] (List.getElem_mem (by omega))
 simp only [List.drop_succ_cons, List.drop_zero, List.take_succ_cons, List.take_zero] at g3
 have g4 : DataW.trod enc Tryz.prog w base spare held m 84 (([c0, c1, c2, c3, c4, c5, c6, c7] : List Value).drop 4 |>.take (Tryz.prog.cellsOf 84)) = xs[4]? := hf 4 _ rfl
 rw [show Tryz.prog.cellsOf 84 = 2 from by kernel_rfl, List.getElem?_eq_getElem (by omega)] at g4
 have b4 := hpart xs[4] (List.getElem_mem (by omega))
 simp only [List.drop_succ_cons, List.drop_zero, List.take_succ_cons, List.take_zero] at g4
 have g5 : DataW.trod enc Tryz.prog w base spare held m 78 (([c0, c1, c2, c3, c4, c5, c6, c7] : List Value).drop 6 |>.take (Tryz.prog.cellsOf 78)) = xs[5]? := hf 5 _ rfl
 rw [show Tryz.prog.cellsOf 78 = 2 from by kernel_rfl, List.getElem?_eq_getElem (by omega)] at g5
 have b5 := hpart xs[5] (List.getElem_mem (by omega))
 simp only [List.drop_succ_cons, List.drop_zero, List.take_succ_cons, List.take_zero] at g5
 obtain ⟨v0, e0, y0, _⟩ := DataW.trod_string Tryz.underlying9 g0
 obtain rfl : c0 = _ := (List.cons.inj e0).1
 have l0 : v0.size ≤ Bd := str_bd y0 b0
 obtain ⟨v1, e1, y1, _⟩ := DataW.trod_string Tryz.underlying9 g1
 obtain rfl : c1 = _ := (List.cons.inj e1).1
 have l1 : v1.size ≤ Bd := str_bd y1 b1
 obtain ⟨k2, e2, _, wf2⟩ := DataW.trod_int Tryz.underlying5 g2
 obtain ⟨v2, rfl⟩ := u8_of wf2
 obtain rfl : c2 = _ := (List.cons.inj e2).1
 obtain ⟨k3, e3, _, wf3⟩ := DataW.trod_int Tryz.underlying28 g3
 obtain ⟨v3, rfl, l3⟩ := u32_of wf3
 obtain rfl : c3 = _ := (List.cons.inj e3).1
 obtain ⟨v4, e4, l4⟩ := el_Lim (enc := enc) (base := base) (spare := spare) (held := held) m _ _ _ g4 b4
 simp only [Lim.cs, List.cons.injEq, and_true] at e4
 obtain ⟨rfl, rfl⟩ := e4
 obtain ⟨v5, e5, l5⟩ := el_Gt (enc := enc) (base := base) (spare := spare) (held := held) m _ _ _ g5 b5
 simp only [Gt.cs, List.cons.injEq, and_true] at e5
 obtain ⟨rfl, rfl⟩ := e5
 exact ⟨⟨v0, v1, v2, v3, v4, v5⟩, rfl, ⟨l3, l4, l5, l0, l1⟩⟩
theorem cells_Ins : Tryz.prog.cellsOf 57 = 5 := by kernel_rfl
set_option maxRecDepth 100000 in
theorem el_Ins (n : Nat) (cs : List Value) (d : DataW H) (p : List MemPlace) (h : DataW.trod enc Tryz.prog w base spare held n 57 cs = some (d, p)) (hB : bulk d ≤ Bd) : ∃ x : Ins, cs = x.cs ∧ InsOk w x := by
 obtain ⟨xs, m, _, hy, hl, hlen, hf⟩ := DataW.trod_struct Tryz.underlying57 h
 rw [cells_Ins] at hl
 obtain ⟨c0, c1, c2, c3, c4, rfl⟩ : ∃ c0 c1 c2 c3 c4, cs = [c0, c1, c2, c3, c4] := by
  match cs, hl with
  | [c0, c1, c2, c3, c4], _ => exact ⟨c0, c1, c2, c3, c4, rfl⟩
 have hlen' : xs.length = 5 := hlen
 have hd : d = .agg (xs.map (·.1)) := by injection hy
 have hpart : ∀ q ∈ xs, bulk q.1 ≤ Bd := fun q hq => Nat.le_trans (bulk_agg (List.mem_map.2 ⟨q, hq, rfl⟩)) (by rw [← hd]; exact hB)
 have g0 : DataW.trod enc Tryz.prog w base spare held m 5 (([c0, c1, c2, c3, c4] : List Value).drop 0 |>.take (Tryz.prog.cellsOf 5)) = xs[0]? := hf 0 _ rfl
 rw [show Tryz.prog.cellsOf 5 = 1 from by kernel_rfl, List.getElem?_eq_getElem (by omega)] at g0
 have b0 := hpart xs[0] (List.getElem_mem (by omega))
 simp only [List.drop_zero, List.take_succ_cons, List.take_zero] at g0
 have g1 : DataW.trod enc Tryz.prog w base spare held m 28 (([c0, c1, c2, c3, c4] : List Value).drop 1 |>.take (Tryz.prog.cellsOf 28)) = xs[1]? := hf 1 _ rfl
 rw [show Tryz.prog.cellsOf 28 = 1 from by kernel_rfl, List.getElem?_eq_getElem (by omega)] at g1
 have b1 := hpart xs[1] (List.getElem_mem (by omega))
 simp only [List.drop_succ_cons, List.drop_zero, List.take_succ_cons, List.take_zero] at g1
 have g2 : DataW.trod enc Tryz.prog w base spare held m 28 (([c0, c1, c2, c3, c4] : List Value).drop 2 |>.take (Tryz.prog.cellsOf 28)) = xs[2]? := hf 2 _ rfl
 rw [show Tryz.prog.cellsOf 28 = 1 from by kernel_rfl, List.getElem?_eq_getElem (by omega)] at g2
 have b2 := hpart xs[2] (List.getElem_mem (by omega))
 simp only [List.drop_succ_cons, List.drop_zero, List.take_succ_cons, List.take_zero] at g2
 have g3 : DataW.trod enc Tryz.prog w base spare held m 2 (([c0, c1, c2, c3, c4] : List Value).drop 3 |>.take (Tryz.prog.cellsOf 2)) = xs[3]? := hf 3 _ rfl
 rw [show Tryz.prog.cellsOf 2 = 1 from by kernel_rfl, List.getElem?_eq_getElem (by omega)] at g3
 have b3 := hpart xs[3] (List.getElem_mem (by omega))
 simp only [List.drop_succ_cons, List.drop_zero, List.take_succ_cons, List.take_zero] at g3
 have g4 : DataW.trod enc Tryz.prog w base spare held m 24 (([c0, c1, c2, c3, c4] : List Value).drop 4 |>.take (Tryz.prog.cellsOf 24)) = xs[4]? := hf 4 _ rfl
 rw [show Tryz.prog.cellsOf 24 = 1 from by kernel_rfl, List.getElem?_eq_getElem (by omega)] at g4
 have b4 := hpart xs[4] (List.getElem_mem (by omega))
 simp only [List.drop_succ_cons, List.drop_zero, List.take_succ_cons, List.take_zero] at g4
 obtain ⟨k0, e0, _, wf0⟩ := DataW.trod_int Tryz.underlying5 g0
 obtain ⟨v0, rfl⟩ := u8_of wf0
 obtain rfl : c0 = _ := (List.cons.inj e0).1
 obtain ⟨k1, e1, _, wf1⟩ := DataW.trod_int Tryz.underlying28 g1
 obtain ⟨v1, rfl, l1⟩ := u32_of wf1
 obtain rfl : c1 = _ := (List.cons.inj e1).1
 obtain ⟨k2, e2, _, wf2⟩ := DataW.trod_int Tryz.underlying28 g2
 obtain ⟨v2, rfl, l2⟩ := u32_of wf2
 obtain rfl : c2 = _ := (List.cons.inj e2).1
 obtain ⟨v3, e3, _, wf3⟩ := DataW.trod_int Tryz.underlying2 g3
 have l3 := bounds_i64 wf3
 obtain rfl : c3 = _ := (List.cons.inj e3).1
 obtain ⟨v4, L4, e4, s4, q4, n4⟩ := sl_of Tryz.underlying24 (sz := 1) (by kernel_rfl) (by decide) u32c (fun _ => rfl) (Q := fun y => y < 4294967296) g4 bulk_slice bulk_elem b4 (fun n cs' d p h hb => el_u32 n cs' d p h hb)
 obtain rfl : c4 = v4 := (List.cons.inj e4).1
 exact ⟨⟨v0, v1, v2, v3, c4, L4⟩, rfl, ⟨l1, l2, l3, ⟨s4, q4, n4⟩⟩⟩
theorem cells_Glb : Tryz.prog.cellsOf 80 = 3 := by kernel_rfl
set_option maxRecDepth 100000 in
theorem el_Glb (n : Nat) (cs : List Value) (d : DataW H) (p : List MemPlace) (h : DataW.trod enc Tryz.prog w base spare held n 80 cs = some (d, p)) (hB : bulk d ≤ Bd) : ∃ x : Glb, cs = x.cs ∧ GlbOk w x := by
 obtain ⟨xs, m, _, hy, hl, hlen, hf⟩ := DataW.trod_struct Tryz.underlying80 h
 rw [cells_Glb] at hl
 obtain ⟨c0, c1, c2, rfl⟩ : ∃ c0 c1 c2, cs = [c0, c1, c2] := by
  match cs, hl with
  | [c0, c1, c2], _ => exact ⟨c0, c1, c2, rfl⟩
 have hlen' : xs.length = 2 := hlen
 have hd : d = .agg (xs.map (·.1)) := by injection hy
 have hpart : ∀ q ∈ xs, bulk q.1 ≤ Bd := fun q hq => Nat.le_trans (bulk_agg (List.mem_map.2 ⟨q, hq, rfl⟩)) (by rw [← hd]; exact hB)
 have g0 : DataW.trod enc Tryz.prog w base spare held m 78 (([c0, c1, c2] : List Value).drop 0 |>.take (Tryz.prog.cellsOf 78)) = xs[0]? := hf 0 _ rfl
 rw [show Tryz.prog.cellsOf 78 = 2 from by kernel_rfl, List.getElem?_eq_getElem (by omega)] at g0
 have b0 := hpart xs[0] (List.getElem_mem (by omega))
 simp only [List.drop_zero, List.take_succ_cons, List.take_zero] at g0
 have g1 : DataW.trod enc Tryz.prog w base spare held m 46 (([c0, c1, c2] : List Value).drop 2 |>.take (Tryz.prog.cellsOf 46)) = xs[1]? := hf 1 _ rfl
 rw [show Tryz.prog.cellsOf 46 = 1 from by kernel_rfl, List.getElem?_eq_getElem (by omega)] at g1
 have b1 := hpart xs[1] (List.getElem_mem (by omega))
 simp only [List.drop_succ_cons, List.drop_zero, List.take_succ_cons, List.take_zero] at g1
 obtain ⟨v0, e0, l0⟩ := el_Gt (enc := enc) (base := base) (spare := spare) (held := held) m _ _ _ g0 b0
 simp only [Gt.cs, List.cons.injEq, and_true] at e0
 obtain ⟨rfl, rfl⟩ := e0
 obtain ⟨v1, L1, e1, s1, q1, n1⟩ := sl_of Tryz.underlying46 (sz := 5) (by kernel_rfl) (by decide) Ins.cs (fun _ => rfl) (Q := fun y => InsOk w y) g1 bulk_slice bulk_elem b1 (fun n cs' d p h hb => el_Ins n cs' d p h hb)
 obtain rfl : c2 = v1 := (List.cons.inj e1).1
 exact ⟨⟨v0, c2, L1⟩, rfl, ⟨l0, ⟨s1, q1, n1⟩⟩⟩
theorem cells_Exp : Tryz.prog.cellsOf 61 = 3 := by kernel_rfl
set_option maxRecDepth 100000 in
theorem el_Exp (n : Nat) (cs : List Value) (d : DataW H) (p : List MemPlace) (h : DataW.trod enc Tryz.prog w base spare held n 61 cs = some (d, p)) (hB : bulk d ≤ Bd) : ∃ x : Exp, cs = x.cs ∧ ExpOk w x := by
 obtain ⟨xs, m, _, hy, hl, hlen, hf⟩ := DataW.trod_struct Tryz.underlying61 h
 rw [cells_Exp] at hl
 obtain ⟨c0, c1, c2, rfl⟩ : ∃ c0 c1 c2, cs = [c0, c1, c2] := by
  match cs, hl with
  | [c0, c1, c2], _ => exact ⟨c0, c1, c2, rfl⟩
 have hlen' : xs.length = 3 := hlen
 have hd : d = .agg (xs.map (·.1)) := by injection hy
 have hpart : ∀ q ∈ xs, bulk q.1 ≤ Bd := fun q hq => Nat.le_trans (bulk_agg (List.mem_map.2 ⟨q, hq, rfl⟩)) (by rw [← hd]; exact hB)
 have g0 : DataW.trod enc Tryz.prog w base spare held m 9 (([c0, c1, c2] : List Value).drop 0 |>.take (Tryz.prog.cellsOf 9)) = xs[0]? := hf 0 _ rfl
 rw [show Tryz.prog.cellsOf 9 = 1 from by kernel_rfl, List.getElem?_eq_getElem (by omega)] at g0
 have b0 := hpart xs[0] (List.getElem_mem (by omega))
 simp only [List.drop_zero, List.take_succ_cons, List.take_zero] at g0
 have g1 : DataW.trod enc Tryz.prog w base spare held m 5 (([c0, c1, c2] : List Value).drop 1 |>.take (Tryz.prog.cellsOf 5)) = xs[1]? := hf 1 _ rfl
 rw [show Tryz.prog.cellsOf 5 = 1 from by kernel_rfl, List.getElem?_eq_getElem (by omega)] at g1
 have b1 := hpart xs[1] (List.getElem_mem (by omega))
 simp only [List.drop_succ_cons, List.drop_zero, List.take_succ_cons, List.take_zero] at g1
 have g2 : DataW.trod enc Tryz.prog w base spare held m 28 (([c0, c1, c2] : List Value).drop 2 |>.take (Tryz.prog.cellsOf 28)) = xs[2]? := hf 2 _ rfl
 rw [show Tryz.prog.cellsOf 28 = 1 from by kernel_rfl, List.getElem?_eq_getElem (by omega)] at g2
 have b2 := hpart xs[2] (List.getElem_mem (by omega))
 simp only [List.drop_succ_cons, List.drop_zero, List.take_succ_cons, List.take_zero] at g2
 obtain ⟨v0, e0, y0, _⟩ := DataW.trod_string Tryz.underlying9 g0
 obtain rfl : c0 = _ := (List.cons.inj e0).1
 have l0 : v0.size ≤ Bd := str_bd y0 b0
 obtain ⟨k1, e1, _, wf1⟩ := DataW.trod_int Tryz.underlying5 g1
 obtain ⟨v1, rfl⟩ := u8_of wf1
 obtain rfl : c1 = _ := (List.cons.inj e1).1
 obtain ⟨k2, e2, _, wf2⟩ := DataW.trod_int Tryz.underlying28 g2
 obtain ⟨v2, rfl, l2⟩ := u32_of wf2
 obtain rfl : c2 = _ := (List.cons.inj e2).1
 exact ⟨⟨v0, v1, v2⟩, rfl, ⟨l2, l0⟩⟩
theorem cells_Elm : Tryz.prog.cellsOf 59 = 3 := by kernel_rfl
set_option maxRecDepth 100000 in
theorem el_Elm (n : Nat) (cs : List Value) (d : DataW H) (p : List MemPlace) (h : DataW.trod enc Tryz.prog w base spare held n 59 cs = some (d, p)) (hB : bulk d ≤ Bd) : ∃ x : Elm, cs = x.cs ∧ ElmOk w x := by
 obtain ⟨xs, m, _, hy, hl, hlen, hf⟩ := DataW.trod_struct Tryz.underlying59 h
 rw [cells_Elm] at hl
 obtain ⟨c0, c1, c2, rfl⟩ : ∃ c0 c1 c2, cs = [c0, c1, c2] := by
  match cs, hl with
  | [c0, c1, c2], _ => exact ⟨c0, c1, c2, rfl⟩
 have hlen' : xs.length = 3 := hlen
 have hd : d = .agg (xs.map (·.1)) := by injection hy
 have hpart : ∀ q ∈ xs, bulk q.1 ≤ Bd := fun q hq => Nat.le_trans (bulk_agg (List.mem_map.2 ⟨q, hq, rfl⟩)) (by rw [← hd]; exact hB)
 have g0 : DataW.trod enc Tryz.prog w base spare held m 28 (([c0, c1, c2] : List Value).drop 0 |>.take (Tryz.prog.cellsOf 28)) = xs[0]? := hf 0 _ rfl
 rw [show Tryz.prog.cellsOf 28 = 1 from by kernel_rfl, List.getElem?_eq_getElem (by omega)] at g0
 have b0 := hpart xs[0] (List.getElem_mem (by omega))
 simp only [List.drop_zero, List.take_succ_cons, List.take_zero] at g0
 have g1 : DataW.trod enc Tryz.prog w base spare held m 46 (([c0, c1, c2] : List Value).drop 1 |>.take (Tryz.prog.cellsOf 46)) = xs[1]? := hf 1 _ rfl
 rw [show Tryz.prog.cellsOf 46 = 1 from by kernel_rfl, List.getElem?_eq_getElem (by omega)] at g1
 have b1 := hpart xs[1] (List.getElem_mem (by omega))
 simp only [List.drop_succ_cons, List.drop_zero, List.take_succ_cons, List.take_zero] at g1
 have g2 : DataW.trod enc Tryz.prog w base spare held m 24 (([c0, c1, c2] : List Value).drop 2 |>.take (Tryz.prog.cellsOf 24)) = xs[2]? := hf 2 _ rfl
 rw [show Tryz.prog.cellsOf 24 = 1 from by kernel_rfl, List.getElem?_eq_getElem (by omega)] at g2
 have b2 := hpart xs[2] (List.getElem_mem (by omega))
 simp only [List.drop_succ_cons, List.drop_zero, List.take_succ_cons, List.take_zero] at g2
 obtain ⟨k0, e0, _, wf0⟩ := DataW.trod_int Tryz.underlying28 g0
 obtain ⟨v0, rfl, l0⟩ := u32_of wf0
 obtain rfl : c0 = _ := (List.cons.inj e0).1
 obtain ⟨v1, L1, e1, s1, q1, n1⟩ := sl_of Tryz.underlying46 (sz := 5) (by kernel_rfl) (by decide) Ins.cs (fun _ => rfl) (Q := fun y => InsOk w y) g1 bulk_slice bulk_elem b1 (fun n cs' d p h hb => el_Ins n cs' d p h hb)
 obtain rfl : c1 = v1 := (List.cons.inj e1).1
 obtain ⟨v2, L2, e2, s2, q2, n2⟩ := sl_of Tryz.underlying24 (sz := 1) (by kernel_rfl) (by decide) u32c (fun _ => rfl) (Q := fun y => y < 4294967296) g2 bulk_slice bulk_elem b2 (fun n cs' d p h hb => el_u32 n cs' d p h hb)
 obtain rfl : c2 = v2 := (List.cons.inj e2).1
 exact ⟨⟨v0, c1, L1, c2, L2⟩, rfl, ⟨l0, ⟨s1, q1, n1⟩, ⟨s2, q2, n2⟩⟩⟩
theorem cells_Loc : Tryz.prog.cellsOf 82 = 2 := by kernel_rfl
set_option maxRecDepth 100000 in
theorem el_Loc (n : Nat) (cs : List Value) (d : DataW H) (p : List MemPlace) (h : DataW.trod enc Tryz.prog w base spare held n 82 cs = some (d, p)) (hB : bulk d ≤ Bd) : ∃ x : Loc, cs = x.cs ∧ LocOk w x := by
 obtain ⟨xs, m, _, hy, hl, hlen, hf⟩ := DataW.trod_struct Tryz.underlying82 h
 rw [cells_Loc] at hl
 obtain ⟨c0, c1, rfl⟩ : ∃ c0 c1, cs = [c0, c1] := by
  match cs, hl with
  | [c0, c1], _ => exact ⟨c0, c1, rfl⟩
 have hlen' : xs.length = 2 := hlen
 have hd : d = .agg (xs.map (·.1)) := by injection hy
 have hpart : ∀ q ∈ xs, bulk q.1 ≤ Bd := fun q hq => Nat.le_trans (bulk_agg (List.mem_map.2 ⟨q, hq, rfl⟩)) (by rw [← hd]; exact hB)
 have g0 : DataW.trod enc Tryz.prog w base spare held m 28 (([c0, c1] : List Value).drop 0 |>.take (Tryz.prog.cellsOf 28)) = xs[0]? := hf 0 _ rfl
 rw [show Tryz.prog.cellsOf 28 = 1 from by kernel_rfl, List.getElem?_eq_getElem (by omega)] at g0
 have b0 := hpart xs[0] (List.getElem_mem (by omega))
 simp only [List.drop_zero, List.take_succ_cons, List.take_zero] at g0
 have g1 : DataW.trod enc Tryz.prog w base spare held m 5 (([c0, c1] : List Value).drop 1 |>.take (Tryz.prog.cellsOf 5)) = xs[1]? := hf 1 _ rfl
 rw [show Tryz.prog.cellsOf 5 = 1 from by kernel_rfl, List.getElem?_eq_getElem (by omega)] at g1
 have b1 := hpart xs[1] (List.getElem_mem (by omega))
 simp only [List.drop_succ_cons, List.drop_zero, List.take_succ_cons, List.take_zero] at g1
 obtain ⟨k0, e0, _, wf0⟩ := DataW.trod_int Tryz.underlying28 g0
 obtain ⟨v0, rfl, l0⟩ := u32_of wf0
 obtain rfl : c0 = _ := (List.cons.inj e0).1
 obtain ⟨k1, e1, _, wf1⟩ := DataW.trod_int Tryz.underlying5 g1
 obtain ⟨v1, rfl⟩ := u8_of wf1
 obtain rfl : c1 = _ := (List.cons.inj e1).1
 exact ⟨⟨v0, v1⟩, rfl, l0⟩
theorem cells_Cod : Tryz.prog.cellsOf 48 = 2 := by kernel_rfl
set_option maxRecDepth 100000 in
theorem el_Cod (n : Nat) (cs : List Value) (d : DataW H) (p : List MemPlace) (h : DataW.trod enc Tryz.prog w base spare held n 48 cs = some (d, p)) (hB : bulk d ≤ Bd) : ∃ x : Cod, cs = x.cs ∧ CodOk w x := by
 obtain ⟨xs, m, _, hy, hl, hlen, hf⟩ := DataW.trod_struct Tryz.underlying48 h
 rw [cells_Cod] at hl
 obtain ⟨c0, c1, rfl⟩ : ∃ c0 c1, cs = [c0, c1] := by
  match cs, hl with
  | [c0, c1], _ => exact ⟨c0, c1, rfl⟩
 have hlen' : xs.length = 2 := hlen
 have hd : d = .agg (xs.map (·.1)) := by injection hy
 have hpart : ∀ q ∈ xs, bulk q.1 ≤ Bd := fun q hq => Nat.le_trans (bulk_agg (List.mem_map.2 ⟨q, hq, rfl⟩)) (by rw [← hd]; exact hB)
 have g0 : DataW.trod enc Tryz.prog w base spare held m 45 (([c0, c1] : List Value).drop 0 |>.take (Tryz.prog.cellsOf 45)) = xs[0]? := hf 0 _ rfl
 rw [show Tryz.prog.cellsOf 45 = 1 from by kernel_rfl, List.getElem?_eq_getElem (by omega)] at g0
 have b0 := hpart xs[0] (List.getElem_mem (by omega))
 simp only [List.drop_zero, List.take_succ_cons, List.take_zero] at g0
 have g1 : DataW.trod enc Tryz.prog w base spare held m 46 (([c0, c1] : List Value).drop 1 |>.take (Tryz.prog.cellsOf 46)) = xs[1]? := hf 1 _ rfl
 rw [show Tryz.prog.cellsOf 46 = 1 from by kernel_rfl, List.getElem?_eq_getElem (by omega)] at g1
 have b1 := hpart xs[1] (List.getElem_mem (by omega))
 simp only [List.drop_succ_cons, List.drop_zero, List.take_succ_cons, List.take_zero] at g1
 obtain ⟨v0, L0, e0, s0, q0, n0⟩ := sl_of Tryz.underlying45 (sz := 2) (by kernel_rfl) (by decide) Loc.cs (fun _ => rfl) (Q := fun y => LocOk w y) g0 bulk_slice bulk_elem b0 (fun n cs' d p h hb => el_Loc n cs' d p h hb)
 obtain rfl : c0 = v0 := (List.cons.inj e0).1
 obtain ⟨v1, L1, e1, s1, q1, n1⟩ := sl_of Tryz.underlying46 (sz := 5) (by kernel_rfl) (by decide) Ins.cs (fun _ => rfl) (Q := fun y => InsOk w y) g1 bulk_slice bulk_elem b1 (fun n cs' d p h hb => el_Ins n cs' d p h hb)
 obtain rfl : c1 = v1 := (List.cons.inj e1).1
 exact ⟨⟨c0, L0, c1, L1⟩, rfl, ⟨⟨s0, q0, n0⟩, ⟨s1, q1, n1⟩⟩⟩
theorem cells_Dat : Tryz.prog.cellsOf 114 = 3 := by kernel_rfl
set_option maxRecDepth 100000 in
theorem el_Dat (n : Nat) (cs : List Value) (d : DataW H) (p : List MemPlace) (h : DataW.trod enc Tryz.prog w base spare held n 114 cs = some (d, p)) (hB : bulk d ≤ Bd) : ∃ x : Dat, cs = x.cs ∧ DatOk w x := by
 obtain ⟨xs, m, _, hy, hl, hlen, hf⟩ := DataW.trod_struct Tryz.underlying114 h
 rw [cells_Dat] at hl
 obtain ⟨c0, c1, c2, rfl⟩ : ∃ c0 c1 c2, cs = [c0, c1, c2] := by
  match cs, hl with
  | [c0, c1, c2], _ => exact ⟨c0, c1, c2, rfl⟩
 have hlen' : xs.length = 3 := hlen
 have hd : d = .agg (xs.map (·.1)) := by injection hy
 have hpart : ∀ q ∈ xs, bulk q.1 ≤ Bd := fun q hq => Nat.le_trans (bulk_agg (List.mem_map.2 ⟨q, hq, rfl⟩)) (by rw [← hd]; exact hB)
 have g0 : DataW.trod enc Tryz.prog w base spare held m 28 (([c0, c1, c2] : List Value).drop 0 |>.take (Tryz.prog.cellsOf 28)) = xs[0]? := hf 0 _ rfl
 rw [show Tryz.prog.cellsOf 28 = 1 from by kernel_rfl, List.getElem?_eq_getElem (by omega)] at g0
 have b0 := hpart xs[0] (List.getElem_mem (by omega))
 simp only [List.drop_zero, List.take_succ_cons, List.take_zero] at g0
 have g1 : DataW.trod enc Tryz.prog w base spare held m 46 (([c0, c1, c2] : List Value).drop 1 |>.take (Tryz.prog.cellsOf 46)) = xs[1]? := hf 1 _ rfl
 rw [show Tryz.prog.cellsOf 46 = 1 from by kernel_rfl, List.getElem?_eq_getElem (by omega)] at g1
 have b1 := hpart xs[1] (List.getElem_mem (by omega))
 simp only [List.drop_succ_cons, List.drop_zero, List.take_succ_cons, List.take_zero] at g1
 have g2 : DataW.trod enc Tryz.prog w base spare held m 49 (([c0, c1, c2] : List Value).drop 2 |>.take (Tryz.prog.cellsOf 49)) = xs[2]? := hf 2 _ rfl
 rw [show Tryz.prog.cellsOf 49 = 1 from by kernel_rfl, List.getElem?_eq_getElem (by omega)] at g2
 have b2 := hpart xs[2] (List.getElem_mem (by omega))
 simp only [List.drop_succ_cons, List.drop_zero, List.take_succ_cons, List.take_zero] at g2
 obtain ⟨k0, e0, _, wf0⟩ := DataW.trod_int Tryz.underlying28 g0
 obtain ⟨v0, rfl, l0⟩ := u32_of wf0
 obtain rfl : c0 = _ := (List.cons.inj e0).1
 obtain ⟨v1, L1, e1, s1, q1, n1⟩ := sl_of Tryz.underlying46 (sz := 5) (by kernel_rfl) (by decide) Ins.cs (fun _ => rfl) (Q := fun y => InsOk w y) g1 bulk_slice bulk_elem b1 (fun n cs' d p h hb => el_Ins n cs' d p h hb)
 obtain rfl : c1 = v1 := (List.cons.inj e1).1
 obtain ⟨v2, L2, e2, s2, q2, n2⟩ := sl_of Tryz.underlying49 (sz := 1) (by kernel_rfl) (by decide) u8c (fun _ => rfl) (Q := fun y => True) g2 bulk_slice bulk_elem b2 (fun n cs' d p h hb => el_u8 n cs' d p h hb)
 obtain rfl : c2 = v2 := (List.cons.inj e2).1
 exact ⟨⟨v0, c1, L1, c2, L2⟩, rfl, ⟨l0, ⟨s1, q1, n1⟩, ⟨s2, q2, n2⟩⟩⟩
theorem cells_Mod : Tryz.prog.cellsOf 33 = 12 := by kernel_rfl
set_option maxRecDepth 100000 in
theorem el_Mod (n : Nat) (cs : List Value) (d : DataW H) (p : List MemPlace) (h : DataW.trod enc Tryz.prog w base spare held n 33 cs = some (d, p)) (hB : bulk d ≤ Bd) : ∃ x : Mod, cs = x.cs ∧ ModOk w x := by
 obtain ⟨xs, m, _, hy, hl, hlen, hf⟩ := DataW.trod_struct Tryz.underlying33 h
 rw [cells_Mod] at hl
 obtain ⟨c0, c1, c2, c3, c4, c5, c6, c7, c8, c9, c10, c11, rfl⟩ : ∃ c0 c1 c2 c3 c4 c5 c6 c7 c8 c9 c10 c11, cs = [c0, c1, c2, c3, c4, c5, c6, c7, c8, c9, c10, c11] := by
  match cs, hl with
  | [c0, c1, c2, c3, c4, c5, c6, c7, c8, c9, c10, c11], _ => exact ⟨c0, c1, c2, c3, c4, c5, c6, c7, c8, c9, c10, c11, rfl⟩
 have hlen' : xs.length = 12 := hlen
 have hd : d = .agg (xs.map (·.1)) := by injection hy
 have hpart : ∀ q ∈ xs, bulk q.1 ≤ Bd := fun q hq => Nat.le_trans (bulk_agg (List.mem_map.2 ⟨q, hq, rfl⟩)) (by rw [← hd]; exact hB)
 have g0 : DataW.trod enc Tryz.prog w base spare held m 22 (([c0, c1, c2, c3, c4, c5, c6, c7, c8, c9, c10, c11] : List Value).drop 0 |>.take (Tryz.prog.cellsOf 22)) = xs[0]? := hf 0 _ rfl
 rw [show Tryz.prog.cellsOf 22 = 1 from by kernel_rfl, List.getElem?_eq_getElem (by omega)] at g0
 have b0 := hpart xs[0] (List.getElem_mem (by omega))
 simp only [List.drop_zero, List.take_succ_cons, List.take_zero] at g0
 have g1 : DataW.trod enc Tryz.prog w base spare held m 23 (([c0, c1, c2, c3, c4, c5, c6, c7, c8, c9, c10, c11] : List Value).drop 1 |>.take (Tryz.prog.cellsOf 23)) = xs[1]? := hf 1 _ rfl
 rw [show Tryz.prog.cellsOf 23 = 1 from by kernel_rfl, List.getElem?_eq_getElem (by omega)] at g1
 have b1 := hpart xs[1] (List.getElem_mem (by omega))
 simp only [List.drop_succ_cons, List.drop_zero, List.take_succ_cons, List.take_zero] at g1
 have g2 : DataW.trod enc Tryz.prog w base spare held m 24 (([c0, c1, c2, c3, c4, c5, c6, c7, c8, c9, c10, c11] : List Value).drop 2 |>.take (Tryz.prog.cellsOf 24)) = xs[2]? := hf 2 _ rfl
 rw [show Tryz.prog.cellsOf 24 = 1 from by kernel_rfl, List.getElem?_eq_getElem (by omega)] at g2
 have b2 := hpart xs[2] (List.getElem_mem (by omega))
 simp only [List.drop_succ_cons, List.drop_zero, List.take_succ_cons, List.take_zero] at g2
 have g3 : DataW.trod enc Tryz.prog w base spare held m 25 (([c0, c1, c2, c3, c4, c5, c6, c7, c8, c9, c10, c11] : List Value).drop 3 |>.take (Tryz.prog.cellsOf 25)) = xs[3]? := hf 3 _ rfl
 rw [show Tryz.prog.cellsOf 25 = 1 from by kernel_rfl, List.getElem?_eq_getElem (by omega)] at g3
 have b3 := hpart xs[3] (List.getElem_mem (by omega))
 simp only [List.drop_succ_cons, List.drop_zero, List.take_succ_cons, List.take_zero] at g3
 have g4 : DataW.trod enc Tryz.prog w base spare held m 25 (([c0, c1, c2, c3, c4, c5, c6, c7, c8, c9, c10, c11] : List Value).drop 4 |>.take (Tryz.prog.cellsOf 25)) = xs[4]? := hf 4 _ rfl
 rw [show Tryz.prog.cellsOf 25 = 1 from by kernel_rfl, List.getElem?_eq_getElem (by omega)] at g4
 have b4 := hpart xs[4] (List.getElem_mem (by omega))
 simp only [List.drop_succ_cons, List.drop_zero, List.take_succ_cons, List.take_zero] at g4
 have g5 : DataW.trod enc Tryz.prog w base spare held m 26 (([c0, c1, c2, c3, c4, c5, c6, c7, c8, c9, c10, c11] : List Value).drop 5 |>.take (Tryz.prog.cellsOf 26)) = xs[5]? := hf 5 _ rfl
 rw [show Tryz.prog.cellsOf 26 = 1 from by kernel_rfl, List.getElem?_eq_getElem (by omega)] at g5
 have b5 := hpart xs[5] (List.getElem_mem (by omega))
 simp only [List.drop_succ_cons, List.drop_zero, List.take_succ_cons, List.take_zero] at g5
 have g6 : DataW.trod enc Tryz.prog w base spare held m 27 (([c0, c1, c2, c3, c4, c5, c6, c7, c8, c9, c10, c11] : List Value).drop 6 |>.take (Tryz.prog.cellsOf 27)) = xs[6]? := hf 6 _ rfl
 rw [show Tryz.prog.cellsOf 27 = 1 from by kernel_rfl, List.getElem?_eq_getElem (by omega)] at g6
 have b6 := hpart xs[6] (List.getElem_mem (by omega))
 simp only [List.drop_succ_cons, List.drop_zero, List.take_succ_cons, List.take_zero] at g6
 have g7 : DataW.trod enc Tryz.prog w base spare held m 4 (([c0, c1, c2, c3, c4, c5, c6, c7, c8, c9, c10, c11] : List Value).drop 7 |>.take (Tryz.prog.cellsOf 4)) = xs[7]? := hf 7 _ rfl
 rw [show Tryz.prog.cellsOf 4 = 1 from by kernel_rfl, List.getElem?_eq_getElem (by omega)] at g7
 have b7 := hpart xs[7] (List.getElem_mem (by omega))
 simp only [List.drop_succ_cons, List.drop_zero, List.take_succ_cons, List.take_zero] at g7
 have g8 : DataW.trod enc Tryz.prog w base spare held m 28 (([c0, c1, c2, c3, c4, c5, c6, c7, c8, c9, c10, c11] : List Value).drop 8 |>.take (Tryz.prog.cellsOf 28)) = xs[8]? := hf 8 _ rfl
 rw [show Tryz.prog.cellsOf 28 = 1 from by kernel_rfl, List.getElem?_eq_getElem (by omega)] at g8
 have b8 := hpart xs[8] (List.getElem_mem (by omega))
 simp only [List.drop_succ_cons, List.drop_zero, List.take_succ_cons, List.take_zero] at g8
 have g9 : DataW.trod enc Tryz.prog w base spare held m 29 (([c0, c1, c2, c3, c4, c5, c6, c7, c8, c9, c10, c11] : List Value).drop 9 |>.take (Tryz.prog.cellsOf 29)) = xs[9]? := hf 9 _ rfl
 rw [show Tryz.prog.cellsOf 29 = 1 from by kernel_rfl, List.getElem?_eq_getElem (by omega)] at g9
 have b9 := hpart xs[9] (List.getElem_mem (by omega))
 simp only [List.drop_succ_cons, List.drop_zero, List.take_succ_cons, List.take_zero] at g9
 have g10 : DataW.trod enc Tryz.prog w base spare held m 30 (([c0, c1, c2, c3, c4, c5, c6, c7, c8, c9, c10, c11] : List Value).drop 10 |>.take (Tryz.prog.cellsOf 30)) = xs[10]? := hf 10 _ rfl
 rw [show Tryz.prog.cellsOf 30 = 1 from by kernel_rfl, List.getElem?_eq_getElem (by omega)] at g10
 have b10 := hpart xs[10] (List.getElem_mem (by omega))
 simp only [List.drop_succ_cons, List.drop_zero, List.take_succ_cons, List.take_zero] at g10
 have g11 : DataW.trod enc Tryz.prog w base spare held m 31 (([c0, c1, c2, c3, c4, c5, c6, c7, c8, c9, c10, c11] : List Value).drop 11 |>.take (Tryz.prog.cellsOf 31)) = xs[11]? := hf 11 _ rfl
 rw [show Tryz.prog.cellsOf 31 = 1 from by kernel_rfl, List.getElem?_eq_getElem (by omega)] at g11
 have b11 := hpart xs[11] (List.getElem_mem (by omega))
 simp only [List.drop_succ_cons, List.drop_zero, List.take_succ_cons, List.take_zero] at g11
 obtain ⟨v0, L0, e0, s0, q0, n0⟩ := sl_of Tryz.underlying22 (sz := 2) (by kernel_rfl) (by decide) Ft.cs (fun _ => rfl) (Q := fun y => FtOk w y) g0 bulk_slice bulk_elem b0 (fun n cs' d p h hb => el_Ft n cs' d p h hb)
 obtain rfl : c0 = v0 := (List.cons.inj e0).1
 obtain ⟨v1, L1, e1, s1, q1, n1⟩ := sl_of Tryz.underlying23 (sz := 8) (by kernel_rfl) (by decide) Imp.cs (fun _ => rfl) (Q := fun y => ImpOk w y) g1 bulk_slice bulk_elem b1 (fun n cs' d p h hb => el_Imp n cs' d p h hb)
 obtain rfl : c1 = v1 := (List.cons.inj e1).1
 obtain ⟨v2, L2, e2, s2, q2, n2⟩ := sl_of Tryz.underlying24 (sz := 1) (by kernel_rfl) (by decide) u32c (fun _ => rfl) (Q := fun y => y < 4294967296) g2 bulk_slice bulk_elem b2 (fun n cs' d p h hb => el_u32 n cs' d p h hb)
 obtain rfl : c2 = v2 := (List.cons.inj e2).1
 obtain ⟨v3, L3, e3, s3, q3, n3⟩ := sl_of Tryz.underlying25 (sz := 2) (by kernel_rfl) (by decide) Lim.cs (fun _ => rfl) (Q := fun y => LimOk w y) g3 bulk_slice bulk_elem b3 (fun n cs' d p h hb => el_Lim n cs' d p h hb)
 obtain rfl : c3 = v3 := (List.cons.inj e3).1
 obtain ⟨v4, L4, e4, s4, q4, n4⟩ := sl_of Tryz.underlying25 (sz := 2) (by kernel_rfl) (by decide) Lim.cs (fun _ => rfl) (Q := fun y => LimOk w y) g4 bulk_slice bulk_elem b4 (fun n cs' d p h hb => el_Lim n cs' d p h hb)
 obtain rfl : c4 = v4 := (List.cons.inj e4).1
 obtain ⟨v5, L5, e5, s5, q5, n5⟩ := sl_of Tryz.underlying26 (sz := 3) (by kernel_rfl) (by decide) Glb.cs (fun _ => rfl) (Q := fun y => GlbOk w y) g5 bulk_slice bulk_elem b5 (fun n cs' d p h hb => el_Glb n cs' d p h hb)
 obtain rfl : c5 = v5 := (List.cons.inj e5).1
 obtain ⟨v6, L6, e6, s6, q6, n6⟩ := sl_of Tryz.underlying27 (sz := 3) (by kernel_rfl) (by decide) Exp.cs (fun _ => rfl) (Q := fun y => ExpOk w y) g6 bulk_slice bulk_elem b6 (fun n cs' d p h hb => el_Exp n cs' d p h hb)
 obtain rfl : c6 = v6 := (List.cons.inj e6).1
 obtain ⟨v7, e7, _⟩ := DataW.trod_bool Tryz.underlying4 g7
 obtain rfl : c7 = _ := (List.cons.inj e7).1
 obtain ⟨k8, e8, _, wf8⟩ := DataW.trod_int Tryz.underlying28 g8
 obtain ⟨v8, rfl, l8⟩ := u32_of wf8
 obtain rfl : c8 = _ := (List.cons.inj e8).1
 obtain ⟨v9, L9, e9, s9, q9, n9⟩ := sl_of Tryz.underlying29 (sz := 3) (by kernel_rfl) (by decide) Elm.cs (fun _ => rfl) (Q := fun y => ElmOk w y) g9 bulk_slice bulk_elem b9 (fun n cs' d p h hb => el_Elm n cs' d p h hb)
 obtain rfl : c9 = v9 := (List.cons.inj e9).1
 obtain ⟨v10, L10, e10, s10, q10, n10⟩ := sl_of Tryz.underlying30 (sz := 2) (by kernel_rfl) (by decide) Cod.cs (fun _ => rfl) (Q := fun y => CodOk w y) g10 bulk_slice bulk_elem b10 (fun n cs' d p h hb => el_Cod n cs' d p h hb)
 obtain rfl : c10 = v10 := (List.cons.inj e10).1
 obtain ⟨v11, L11, e11, s11, q11, n11⟩ := sl_of Tryz.underlying31 (sz := 3) (by kernel_rfl) (by decide) Dat.cs (fun _ => rfl) (Q := fun y => DatOk w y) g11 bulk_slice bulk_elem b11 (fun n cs' d p h hb => el_Dat n cs' d p h hb)
 obtain rfl : c11 = v11 := (List.cons.inj e11).1
 exact ⟨⟨c0, L0, c1, L1, c2, L2, c3, L3, c4, L4, c5, L5, c6, L6, v7, v8, c9, L9, c10, L10, c11, L11⟩, rfl, ⟨⟨s0, q0, n0⟩, ⟨s1, q1, n1⟩, ⟨s2, q2, n2⟩, ⟨s3, q3, n3⟩, ⟨s4, q4, n4⟩, ⟨s5, q5, n5⟩, ⟨s6, q6, n6⟩, l8, ⟨s9, q9, n9⟩, ⟨s10, q10, n10⟩, ⟨s11, q11, n11⟩⟩⟩
end
def Mod.v (m : Mod) : Value := .agg m.cs.toArray
end Go.Proofs.YtmgjcaikldeioaaGreat.Gr
