/- The document's counts: ref08.Imported, Own, Count; ref39.Len. -/
import Derived.Test.YtmgjcaikldeioaaGreatXGm
import Derived.Test.YtmgjcaikldeioaaGreatXKit
import Derived.Test.YtmgjcaikldeioaaGreatXPlan
import Derived.Deep.CutBlock
import Derived.Deep.MidRow
import Derived.BigFrame
import Derived.Laws.ResultCell
namespace Go.Proofs.YtmgjcaikldeioaaGreat.Gr
open Go Go.RowKit Kt Fm

/-- A variable of a block of its own is written whole. -/
theorem wl_put {P : Program} {ops : Array Oper} {rest : List Oper} {op : Oper} {a : Act} {w : World} {Q : Exit → Act → World → Prop} {ty : TypeId} {b : Nat} {c0 : Array Value} (hl : Lies w b ty c0) (cs : List Value) (x y : Operand) (hgd : op.guard = none) (ho : op.op = .store ty x y)
  (hx : a.eval x = .pointer (some ⟨b, 0, none⟩)) (hy : a.eval y = .agg cs.toArray) (hs : c0.size = cs.length) (hi : (P.info? ty).map (·.size) = some cs.length) (h1 : cs.toArray.all (·.oneCell') = true)
  (h : ∀ w', Lies w' b ty cs.toArray → Fr w w' (fun k => k = b) → wpList P ops Q rest (a.put op.dst undef) w') : wpList P ops Q (op :: rest) a w := by
 have ht : w.there b 0 cs.length := fun j hj => by
  rw [Nat.zero_add]
  exact ⟨by rw [hl.cell, Array.getElem?_eq_getElem (by omega)]; rfl, hl.frozen j⟩
 refine wpList_store_mid hgd ty x y ho b 0 cs.toArray hx hy (by simpa using ht) (by simpa using hi) h1 (h _ ?_ ⟨World.os_setCells _ _ _ _, tape_setCells _ _ _ _, World.output_setCells _ _ _ _, Nat.le_of_eq (size_setCells _ _ _ _).symm, fun k hk hn => World.heap_setCells_other w b _ cs hk hn⟩)
 obtain ⟨cur, g1, g2, _⟩ := heap_setCells cs 0 w c0 hl
 have hr := World.rangeAt_setCells_same w b 0 cs ht
 have hcur : cur = cs.toArray := by
  refine Array.ext_getElem? fun j => ?_
  by_cases hj : j < cs.length
  ·have := hr j cs[j] (List.getElem?_eq_getElem hj)
   rw [Nat.zero_add] at this
   have h2 : cur[j]? = some cs[j] := by simpa [World.cell?, g1] using this
   rw [h2]
   simp [hj]
  ·rw [Array.getElem?_eq_none (by omega), Array.getElem?_eq_none (by simpa using Nat.le_of_not_lt hj)]
 rw [hcur] at g1
 exact g1
/-- A value of many cells is boxed. -/
theorem wl_box {P : Program} {ops : Array Oper} {rest : List Oper} {op : Oper} {a : Act} {w : World} {Q : Exit → Act → World → Prop} {ty : TypeId} (cs : List Value) (p : Operand) (hgd : op.guard = none) (ho : op.op = .box ty p)
  (hx : a.eval p = .agg cs.toArray) (hk : ∀ w1, Below w.heap.size w w1 → Lies w1 w.heap.size ty cs.toArray → wpList P ops Q rest (a.put op.dst (.pointer (some ⟨w.heap.size, 0, none⟩))) w1) : wpList P ops Q (op :: rest) a w := by
 refine wpList_plain hgd fun _ hK => ?_
 unfold Oper.wp execOp
 simp only [ho, hx]
 go_simp
 exact hK _ _ (hk _ ((Below.refl _ _).alloc (Nat.le_refl _) _) (Lies.new w _ _))
/-- Bytes that a slice shows, as a string. -/
def bst (b : List UInt8) : ByteArray := ⟨b.toArray⟩
set_option maxRecDepth 100000 in
theorem conv_of {W : World} {v : Value} {b : List UInt8} (h : Sl W 1 u8c v b) : (convert 49 9 v).run Tryz.prog W = .ok (.string (bst b)) W := by
 obtain ⟨s, cap, rfl, hb⟩ := h
 by_cases h0 : b = []
 ·subst h0
  have hz : ∀ p : Option Addr, (convert 49 9 (.slice p 0 cap)).run Tryz.prog W = .ok (.string ByteArray.empty) W := fun p => by
   rw [run_convert_bytes_string W _ _ _ _ 0 cap Tryz.underlying49 Tryz.underlying5 Tryz.underlying9]
   cases p <;> simp [Conv.bytesToString, loadCells]
   all_goals rfl
  simp only [List.length_nil]
  rw [hz]
  rfl
 ·obtain ⟨g, off, rfl, hg, hc⟩ := hb h0
  have := run_convert_bytes_arg (P := Tryz.prog) W _ _ Tryz.underlying49 Tryz.underlying5 g off b.length cap (b.map fun x => (x.toNat : Int)) (by simp) (fun i hi => by
   have := hc i b[i] (List.getElem?_eq_getElem hi) 0 _ rfl
   rw [Nat.mul_one, Nat.add_zero] at this
   rw [this]
   simp [List.getD, List.getElem?_eq_getElem hi]) _ Tryz.underlying9
  rw [this]
  congr 2
  unfold strOfNums bst
  congr 1
  rw [List.map_map, show b.map ((fun n : Int => UInt8.ofNat n.toNat) ∘ fun x : UInt8 => (x.toNat : Int)) = b.map id from List.map_congr_left fun x _ => by simp, List.map_id]
/-- A result in a block, and one beside it. -/
theorem results_ct {P : Program} {fn : Func} {p u : Tmp} {ty : TypeId} (h : fn.results = #[.cell p ty, .tmp u]) (tmps : Array Value) (w : World) (g : Nat) (cs : List Value) (d : TypeDesc) (hp : tmps.getD p undef = .pointer (some ⟨g, 0, none⟩)) (hc : Lies w g ty cs.toArray)
  (hu : P.underlying ty = some d) (hd : d.isRow = true) (hi : (P.info? ty).map (·.size) = some cs.length) : (results fn tmps).run P w = .ok (.tuple #[.agg cs.toArray, tmps.getD u undef]) w := by
 have hr : w.rangeAt g 0 cs := fun i u hi => by rw [Nat.zero_add, hc.cell]; simpa using hi
 rw [results_cell_tmp h, hp]
 have := run_loadVar_mid (P := P) w g 0 ty cs d hr hu hd hi
 simp [asAddr, this]

/-- The functions that are imported. -/
def fimps (m : Mod) : List Imp := m.imps.filter fun x => x.kind == 0
/-- How many functions there are. -/
def cnt (m : Mod) : Nat := (fimps m).length + m.funcs.length
theorem fimps_le (m : Mod) : (fimps m).length ≤ m.imps.length := List.length_filter_le _ _
theorem u8b (x y : UInt8) : ((x.toNat : Int) == (y.toNat : Int)) = (x == y) := by
 rw [Bool.eq_iff_iff, beq_iff_eq, beq_iff_eq]
 exact ⟨fun h => UInt8.toNat_inj.1 (by omega), fun h => by rw [h]⟩
/-- What a block that holds a module reads as, field by field. -/
structure ModAt (w : World) (b : Nat) (m : Mod) : Prop where
 c0 : w.cell? ⟨b, 0, none⟩ = some m.tv
 c1 : w.cell? ⟨b, 1, none⟩ = some m.iv
 c2 : w.cell? ⟨b, 2, none⟩ = some m.fv
 c3 : w.cell? ⟨b, 3, none⟩ = some m.bv
 c4 : w.cell? ⟨b, 4, none⟩ = some m.mv
 c5 : w.cell? ⟨b, 5, none⟩ = some m.gv
 c6 : w.cell? ⟨b, 6, none⟩ = some m.ev
 c7 : w.cell? ⟨b, 7, none⟩ = some (.bool m.hs)
 c8 : w.cell? ⟨b, 8, none⟩ = some (.int .u32 m.st)
 c9 : w.cell? ⟨b, 9, none⟩ = some m.ev2
 c10 : w.cell? ⟨b, 10, none⟩ = some m.cv
 all : w.rangeAt b 0 m.cs
theorem lies_range {w : World} {b : Nat} {t : TypeId} {cs : List Value} (h : Lies w b t cs.toArray) : w.rangeAt b 0 cs := fun i u hi => by
 rw [Nat.zero_add, h.cell]
 simpa using hi
theorem ModAt.of {w : World} {b : Nat} {t : TypeId} {m : Mod} (h : Lies w b t m.cs.toArray) : ModAt w b m :=
 ⟨h.cell 0, h.cell 1, h.cell 2, h.cell 3, h.cell 4, h.cell 5, h.cell 6, h.cell 7, h.cell 8, h.cell 9, h.cell 10, lies_range h⟩
theorem bt {a b c : World} (h : Below a.heap.size a b) (k : Below b.heap.size b c) : Below a.heap.size a c := h.trans (k.mono h.size)
theorem keepc {V w : World} {p : Addr} {v : Value} (h : Below V.heap.size V w) (hc : V.cell? p = some v) : w.cell? p = some v := (h.cell (World.block_lt_of_cell? V p hc)).trans hc
theorem keepr {V w : World} {b o : Nat} {cs : List Value} (h : Below V.heap.size V w) (hc : V.rangeAt b o cs) : w.rangeAt b o cs := fun i u hi => keepc h (hc i u hi)
theorem ModAt.later {V w : World} {b : Nat} {m : Mod} (h : ModAt V b m) (hb : Below V.heap.size V w) : ModAt w b m :=
 ⟨keepc hb h.c0, keepc hb h.c1, keepc hb h.c2, keepc hb h.c3, keepc hb h.c4, keepc hb h.c5, keepc hb h.c6, keepc hb h.c7, keepc hb h.c8, keepc hb h.c9, keepc hb h.c10, keepr hb h.all⟩
/-- A region that draws its order, along a plan. -/
theorem wp_region_b {P : Program} {ops : Array Oper} {Q : Exit → Act → World → Prop} {id : Nat} {a : Act} {w : World} (plan : List (Nat × Bool)) (hm : P.follows .mixedOrders = true)
  (hok : (Region.noSelect ops && (planOk ops plan (Array.replicate ops.size false) && plan.length == ops.size)) = true)
  (hQ : ∀ (c : List PanicEntry) (a : Act) (d : Option Tmp) (v : Value) (w : World), Q (.panic c) (a.put d v) w → Q (.panic c) a w)
  (h : ∀ V : World, Below w.heap.size w V → hStep P ops Q (fun w' => Below V.heap.size V w') plan a V) : (Code.region id ops true).wp P Q a w :=
 wp_region_below plan hm hok hQ (fun V hV => h V (hV ▸ ⟨rfl, rfl, rfl, Nat.le_refl _, fun _ _ => rfl⟩))
theorem sizeMod : (Tryz.prog.info? 33).map (·.size) = some 12 := by kernel_rfl
/-! ### Own, Count, Len -/

/-! ### printed: counts -/
/-- The code of an own function that is there. -/
def codeOf (m : Mod) (f : Nat) : Option Cod := if (fimps m).length ≤ f ∧ f < cnt m then m.codes[f - (fimps m).length]? else none
def codeV : Option Cod → Value
 | some c => c.bv
 | none => .slice none 0 0
theorem nb (a b : Nat) : ((a : Int) == (b : Int)) = (a == b) := by
 rw [Bool.eq_iff_iff, beq_iff_eq, beq_iff_eq]
 omega
/-- Does an element segment have a function? -/
def listedB (m : Mod) (f : Nat) : Bool := m.elems.any fun e => e.fs.any (· == f)
theorem any_take {α : Type} {l : List α} {k : Nat} {x : α} (p : α → Bool) (h : l[k]? = some x) : (l.take (k + 1)).any p = ((l.take k).any p || p x) := by
 rw [List.take_add_one, h, Option.toList_some, List.any_append]
 simp
theorem any_of {α : Type} {l : List α} {k : Nat} {x : α} {p : α → Bool} (h : l[k]? = some x) (hp : p x = true) : l.any p = true := List.any_eq_true.2 ⟨x, List.mem_of_getElem? h, hp⟩
/-- Is a function one that is called of outside? -/
def rootB (m : Mod) (f : Nat) : Bool := m.exps.any (fun x => x.kind == 0 && x.ix == f) || (m.hs && m.st == f)
def nilFt : List Value := [.slice none 0 0, .slice none 0 0]
/-- The types' numbers of all functions. -/
def ftyps (m : Mod) : List Nat := (fimps m).map (·.ty) ++ m.funcs
/-- The type of a function. -/
def ftype (m : Mod) (i : Nat) : Option Ft := ((ftyps m)[i]?).bind (m.types[·]?)
def ftC : Option Ft → List Value
 | some t => t.cs
 | none => nilFt
theorem oneNil : (nilFt.toArray.all (·.oneCell')) = true := by simp [nilFt, Value.oneCell']
/-- The types' numbers of the functions among imports. -/
def tys (l : List Imp) : List Nat := (l.filter fun x => x.kind == 0).map (·.ty)
theorem sizeFt : (Tryz.prog.info? 51).map (·.size) = some 2 := by kernel_rfl
theorem oneFt {w : World} {x : Ft} (h : FtOk w x) : (x.cs.toArray.all (·.oneCell')) = true := by
 obtain ⟨s1, c1, e1, _⟩ := h.1.1.form
 obtain ⟨s2, c2, e2, _⟩ := h.2.1.form
 simp [Ft.cs, e1, e2, Value.oneCell']
theorem below_put {W w w' : World} {r : Nat} (h : Below W.heap.size W w) (hf : Fr w w' (fun k => k = r)) (hr : W.heap.size ≤ r) : Below W.heap.size W w' := h.trans (hf.below h.size (fun k hk => by omega))
/-- Are two types the same? -/
def same (a b : Ft) : Bool := a.p == b.p && a.r == b.r
end Go.Proofs.YtmgjcaikldeioaaGreat.Gr
