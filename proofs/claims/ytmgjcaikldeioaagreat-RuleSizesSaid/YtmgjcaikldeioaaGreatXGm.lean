/- What a module is that came in: its parts read as lists, within the bound of the row. -/
import Derived.Test.YtmgjcaikldeioaaGreatXFm
import Derived.Test.YtmgjcaikldeioaaGreatRows
import Derived.Test.YtmgjcaikldeioaaGreatProg
import Derived.WalkKit
import Derived.ProofKit
namespace Go.Proofs.YtmgjcaikldeioaaGreat.Gr
open Go Go.ChangeShapes Go.WideShapes Go.ChangeAt Go.RowKit Kt Fm

/-- The bound of the row. -/
abbrev Bd : Nat := 1048576
def u8c (x : UInt8) : List Value := [.int .u8 x.toNat]
def u32c (x : Nat) : List Value := [.int .u32 x]
def IsSl (v : Value) : Prop := ∃ s n c, v = .slice s n c
structure Ft where
 (pv : Value) (p : List UInt8) (rv : Value) (r : List UInt8)
def Ft.cs (x : Ft) : List Value := [x.pv, x.rv]
theorem Ft.len (x : Ft) : x.cs.length = 2 := rfl
def FtOk (w : World) (x : Ft) : Prop := (Sl w 1 u8c x.pv x.p ∧ (∀ y ∈ x.p, True) ∧ x.p.length ≤ Bd) ∧ (Sl w 1 u8c x.rv x.r ∧ (∀ y ∈ x.r, True) ∧ x.r.length ≤ Bd)
theorem FtOk.later {w w' : World} {x : Ft} (h : FtOk w x) (hb : Below w.heap.size w w') : FtOk w' x := by
 unfold FtOk at h ⊢
 obtain ⟨h0, h1⟩ := h
 exact ⟨⟨h0.1.later hb, fun y hy => (h0.2.1 y hy), h0.2.2⟩, ⟨h1.1.later hb, fun y hy => (h1.2.1 y hy), h1.2.2⟩⟩
structure Lim where
 (mn : Nat) (mx : Int)
def Lim.cs (x : Lim) : List Value := [.int .u32 x.mn, .int .i64 x.mx]
theorem Lim.len (x : Lim) : x.cs.length = 2 := rfl
def LimOk (_w : World) (x : Lim) : Prop := x.mn < 4294967296
theorem LimOk.later {w w' : World} {x : Lim} (h : LimOk w x) (_ : Below w.heap.size w w') : LimOk w' x := by
 unfold LimOk at h ⊢
 have h0 := h
 exact h0
structure Gt where
 (t : UInt8) (m : Bool)
def Gt.cs (x : Gt) : List Value := [.int .u8 x.t.toNat, .bool x.m]
theorem Gt.len (x : Gt) : x.cs.length = 2 := rfl
def GtOk (_w : World) (_x : Gt) : Prop := True
theorem GtOk.later {w w' : World} {x : Gt} (h : GtOk w x) (_ : Below w.heap.size w w') : GtOk w' x := by
 unfold GtOk at h ⊢
 exact h
structure Imp where
 (mod : ByteArray) (nm : ByteArray) (kind : UInt8) (ty : Nat) (lim : Lim) (gt : Gt)
def Imp.cs (x : Imp) : List Value := [.string x.mod, .string x.nm, .int .u8 x.kind.toNat, .int .u32 x.ty, .int .u32 x.lim.mn, .int .i64 x.lim.mx, .int .u8 x.gt.t.toNat, .bool x.gt.m]
theorem Imp.len (x : Imp) : x.cs.length = 8 := rfl
def ImpOk (w : World) (x : Imp) : Prop := x.ty < 4294967296 ∧ LimOk w x.lim ∧ GtOk w x.gt ∧ x.mod.size ≤ Bd ∧ x.nm.size ≤ Bd
theorem ImpOk.later {w w' : World} {x : Imp} (h : ImpOk w x) (hb : Below w.heap.size w w') : ImpOk w' x := by
 unfold ImpOk at h ⊢
 obtain ⟨h0, h1, h2, h3, h4⟩ := h
 exact ⟨h0, h1.later hb, h2.later hb, h3, h4⟩
structure Ins where
 (op : UInt8) (a : Nat) (b : Nat) (c : Int) (lv : Value) (ls : List Nat)
def Ins.cs (x : Ins) : List Value := [.int .u8 x.op.toNat, .int .u32 x.a, .int .u32 x.b, .int .i64 x.c, x.lv]
theorem Ins.len (x : Ins) : x.cs.length = 5 := rfl
def InsOk (w : World) (x : Ins) : Prop := x.a < 4294967296 ∧ x.b < 4294967296 ∧ (-9223372036854775808 ≤ x.c ∧ x.c ≤ 9223372036854775807) ∧ (Sl w 1 u32c x.lv x.ls ∧ (∀ y ∈ x.ls, y < 4294967296) ∧ x.ls.length ≤ Bd)
theorem InsOk.later {w w' : World} {x : Ins} (h : InsOk w x) (hb : Below w.heap.size w w') : InsOk w' x := by
 unfold InsOk at h ⊢
 obtain ⟨h0, h1, h2, h3⟩ := h
 exact ⟨h0, h1, h2, ⟨h3.1.later hb, fun y hy => (h3.2.1 y hy), h3.2.2⟩⟩
structure Glb where
 (gt : Gt) (iv : Value) (il : List Ins)
def Glb.cs (x : Glb) : List Value := [.int .u8 x.gt.t.toNat, .bool x.gt.m, x.iv]
theorem Glb.len (x : Glb) : x.cs.length = 3 := rfl
def GlbOk (w : World) (x : Glb) : Prop := GtOk w x.gt ∧ (Sl w 5 Ins.cs x.iv x.il ∧ (∀ y ∈ x.il, InsOk w y) ∧ x.il.length ≤ Bd)
theorem GlbOk.later {w w' : World} {x : Glb} (h : GlbOk w x) (hb : Below w.heap.size w w') : GlbOk w' x := by
 unfold GlbOk at h ⊢
 obtain ⟨h0, h1⟩ := h
 exact ⟨h0.later hb, ⟨h1.1.later hb, fun y hy => (h1.2.1 y hy).later hb, h1.2.2⟩⟩
structure Exp where
 (nm : ByteArray) (kind : UInt8) (ix : Nat)
def Exp.cs (x : Exp) : List Value := [.string x.nm, .int .u8 x.kind.toNat, .int .u32 x.ix]
theorem Exp.len (x : Exp) : x.cs.length = 3 := rfl
def ExpOk (_w : World) (x : Exp) : Prop := x.ix < 4294967296 ∧ x.nm.size ≤ Bd
theorem ExpOk.later {w w' : World} {x : Exp} (h : ExpOk w x) (_ : Below w.heap.size w w') : ExpOk w' x := by
 unfold ExpOk at h ⊢
 obtain ⟨h0, h1⟩ := h
 exact ⟨h0, h1⟩
structure Elm where
 (tb : Nat) (ov : Value) (ol : List Ins) (fv : Value) (fs : List Nat)
def Elm.cs (x : Elm) : List Value := [.int .u32 x.tb, x.ov, x.fv]
theorem Elm.len (x : Elm) : x.cs.length = 3 := rfl
def ElmOk (w : World) (x : Elm) : Prop := x.tb < 4294967296 ∧ (Sl w 5 Ins.cs x.ov x.ol ∧ (∀ y ∈ x.ol, InsOk w y) ∧ x.ol.length ≤ Bd) ∧ (Sl w 1 u32c x.fv x.fs ∧ (∀ y ∈ x.fs, y < 4294967296) ∧ x.fs.length ≤ Bd)
theorem ElmOk.later {w w' : World} {x : Elm} (h : ElmOk w x) (hb : Below w.heap.size w w') : ElmOk w' x := by
 unfold ElmOk at h ⊢
 obtain ⟨h0, h1, h2⟩ := h
 exact ⟨h0, ⟨h1.1.later hb, fun y hy => (h1.2.1 y hy).later hb, h1.2.2⟩, ⟨h2.1.later hb, fun y hy => (h2.2.1 y hy), h2.2.2⟩⟩
structure Loc where
 (n : Nat) (t : UInt8)
def Loc.cs (x : Loc) : List Value := [.int .u32 x.n, .int .u8 x.t.toNat]
theorem Loc.len (x : Loc) : x.cs.length = 2 := rfl
def LocOk (_w : World) (x : Loc) : Prop := x.n < 4294967296
theorem LocOk.later {w w' : World} {x : Loc} (h : LocOk w x) (_ : Below w.heap.size w w') : LocOk w' x := by
 unfold LocOk at h ⊢
 have h0 := h
 exact h0
structure Cod where
 (lv : Value) (locs : List Loc) (bv : Value) (body : List Ins)
def Cod.cs (x : Cod) : List Value := [x.lv, x.bv]
theorem Cod.len (x : Cod) : x.cs.length = 2 := rfl
def CodOk (w : World) (x : Cod) : Prop := (Sl w 2 Loc.cs x.lv x.locs ∧ (∀ y ∈ x.locs, LocOk w y) ∧ x.locs.length ≤ Bd) ∧ (Sl w 5 Ins.cs x.bv x.body ∧ (∀ y ∈ x.body, InsOk w y) ∧ x.body.length ≤ Bd)
theorem CodOk.later {w w' : World} {x : Cod} (h : CodOk w x) (hb : Below w.heap.size w w') : CodOk w' x := by
 unfold CodOk at h ⊢
 obtain ⟨h0, h1⟩ := h
 exact ⟨⟨h0.1.later hb, fun y hy => (h0.2.1 y hy).later hb, h0.2.2⟩, ⟨h1.1.later hb, fun y hy => (h1.2.1 y hy).later hb, h1.2.2⟩⟩
structure Dat where
 (mem : Nat) (ov : Value) (ol : List Ins) (bv : Value) (b : List UInt8)
def Dat.cs (x : Dat) : List Value := [.int .u32 x.mem, x.ov, x.bv]
theorem Dat.len (x : Dat) : x.cs.length = 3 := rfl
def DatOk (w : World) (x : Dat) : Prop := x.mem < 4294967296 ∧ (Sl w 5 Ins.cs x.ov x.ol ∧ (∀ y ∈ x.ol, InsOk w y) ∧ x.ol.length ≤ Bd) ∧ (Sl w 1 u8c x.bv x.b ∧ (∀ y ∈ x.b, True) ∧ x.b.length ≤ Bd)
theorem DatOk.later {w w' : World} {x : Dat} (h : DatOk w x) (hb : Below w.heap.size w w') : DatOk w' x := by
 unfold DatOk at h ⊢
 obtain ⟨h0, h1, h2⟩ := h
 exact ⟨h0, ⟨h1.1.later hb, fun y hy => (h1.2.1 y hy).later hb, h1.2.2⟩, ⟨h2.1.later hb, fun y hy => (h2.2.1 y hy), h2.2.2⟩⟩
structure Mod where
 (tv : Value) (types : List Ft) (iv : Value) (imps : List Imp) (fv : Value) (funcs : List Nat) (bv : Value) (tabs : List Lim) (mv : Value) (mems : List Lim) (gv : Value) (globs : List Glb) (ev : Value) (exps : List Exp) (hs : Bool) (st : Nat) (ev2 : Value) (elems : List Elm) (cv : Value) (codes : List Cod) (dv : Value) (datas : List Dat)
def Mod.cs (x : Mod) : List Value := [x.tv, x.iv, x.fv, x.bv, x.mv, x.gv, x.ev, .bool x.hs, .int .u32 x.st, x.ev2, x.cv, x.dv]
theorem Mod.len (x : Mod) : x.cs.length = 12 := rfl
def ModOk (w : World) (x : Mod) : Prop := (Sl w 2 Ft.cs x.tv x.types ∧ (∀ y ∈ x.types, FtOk w y) ∧ x.types.length ≤ Bd) ∧ (Sl w 8 Imp.cs x.iv x.imps ∧ (∀ y ∈ x.imps, ImpOk w y) ∧ x.imps.length ≤ Bd) ∧ (Sl w 1 u32c x.fv x.funcs ∧ (∀ y ∈ x.funcs, y < 4294967296) ∧ x.funcs.length ≤ Bd) ∧ (Sl w 2 Lim.cs x.bv x.tabs ∧ (∀ y ∈ x.tabs, LimOk w y) ∧ x.tabs.length ≤ Bd) ∧ (Sl w 2 Lim.cs x.mv x.mems ∧ (∀ y ∈ x.mems, LimOk w y) ∧ x.mems.length ≤ Bd) ∧ (Sl w 3 Glb.cs x.gv x.globs ∧ (∀ y ∈ x.globs, GlbOk w y) ∧ x.globs.length ≤ Bd) ∧ (Sl w 3 Exp.cs x.ev x.exps ∧ (∀ y ∈ x.exps, ExpOk w y) ∧ x.exps.length ≤ Bd) ∧ x.st < 4294967296 ∧ (Sl w 3 Elm.cs x.ev2 x.elems ∧ (∀ y ∈ x.elems, ElmOk w y) ∧ x.elems.length ≤ Bd) ∧ (Sl w 2 Cod.cs x.cv x.codes ∧ (∀ y ∈ x.codes, CodOk w y) ∧ x.codes.length ≤ Bd) ∧ (Sl w 3 Dat.cs x.dv x.datas ∧ (∀ y ∈ x.datas, DatOk w y) ∧ x.datas.length ≤ Bd)
theorem ModOk.later {w w' : World} {x : Mod} (h : ModOk w x) (hb : Below w.heap.size w w') : ModOk w' x := by
 unfold ModOk at h ⊢
 obtain ⟨h0, h1, h2, h3, h4, h5, h6, h7, h8, h9, h10⟩ := h
 exact ⟨⟨h0.1.later hb, fun y hy => (h0.2.1 y hy).later hb, h0.2.2⟩, ⟨h1.1.later hb, fun y hy => (h1.2.1 y hy).later hb, h1.2.2⟩, ⟨h2.1.later hb, fun y hy => (h2.2.1 y hy), h2.2.2⟩, ⟨h3.1.later hb, fun y hy => (h3.2.1 y hy).later hb, h3.2.2⟩, ⟨h4.1.later hb, fun y hy => (h4.2.1 y hy).later hb, h4.2.2⟩, ⟨h5.1.later hb, fun y hy => (h5.2.1 y hy).later hb, h5.2.2⟩, ⟨h6.1.later hb, fun y hy => (h6.2.1 y hy).later hb, h6.2.2⟩, h7, ⟨h8.1.later hb, fun y hy => (h8.2.1 y hy).later hb, h8.2.2⟩, ⟨h9.1.later hb, fun y hy => (h9.2.1 y hy).later hb, h9.2.2⟩, ⟨h10.1.later hb, fun y hy => (h10.2.1 y hy).later hb, h10.2.2⟩⟩

section
variable {H : Type} {enc : TypeId × Value → H} {w : World} {base : Nat} {spare : Nat → Bool} {held : Bool}
def bulk {H : Type} (d : DataW H) : Nat := Rows.uptoBulk d
end
def Mod.v (m : Mod) : Value := .agg m.cs.toArray
end Go.Proofs.YtmgjcaikldeioaaGreat.Gr
