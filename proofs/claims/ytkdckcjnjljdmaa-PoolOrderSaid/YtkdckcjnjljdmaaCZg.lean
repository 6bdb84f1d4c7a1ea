/- Laws at once over any program: variables that are stored and loaded whole, rows that are built, answers that lie in a block. -/
import Derived.Test.YtkdckcjnjljdmaaCFt
import Derived.Test.YtkdckcjnjljdmaaCPlan
import Derived.Test.YtkdckcjnjljdmaaCPs
import Derived.Test.YtkdckcjnjljdmaaCRi
import Derived.Test.YtkdckcjnjljdmaaCKit
import Derived.Deep.CutBlock
import Derived.Deep.MidRow
import Derived.BigFrame
import Derived.Laws.ResultCell
import Derived.Shelf.Abstract
import Derived.Test.YtkdckcjnjljdmaaCAdP
namespace Go.Proofs.Ytkdckcjnjljdmaa.Fm
open Go Go.RowKit Go.Lib Kt

section
variable {P : Program} {ops : Array Oper} {rest : List Oper} {op : Oper} {a : Act} {w : World} {Q : Exit → Act → World → Prop}
/-- A variable of a block of its own is written whole. -/
theorem wl_put {P : Program} {ops : Array Oper} {rest : List Oper} {op : Oper} {a : Act} {w : World} {Q : Exit → Act → World → Prop} {ty : TypeId} {b : Nat} {c0 : Array Value} (hl : Lies w b ty c0) (cs : List Value) (x y : Operand) (hgd : op.guard = none) (ho : op.op = .store ty x y)
    (hx : a.eval x = .pointer (some ⟨b, 0, none⟩)) (hy : a.eval y = .agg cs.toArray) (hs : c0.size = cs.length) (hi : (P.info? ty).map (·.size) = some cs.length) (h1 : cs.toArray.all (·.oneCell') = true)
    (h : ∀ w', Lies w' b ty cs.toArray → Fr w w' (fun k => k = b) → wpList P ops Q rest (a.put op.dst undef) w') : wpList P ops Q (op :: rest) a w := by
  have ht : w.there b 0 cs.length := fun j hj => by
    rw [Nat.zero_add]
    exact ⟨by rw [hl.cell, Array.getElem?_eq_getElem (by omega)]; rfl, hl.frozen j⟩
  refine wpList_store_mid hgd ty x y ho b 0 cs.toArray hx hy (by simpa using ht) (by simpa using hi) h1 (h _ ?_ ⟨World.os_setCells _ _ _ _, tape_setCells _ _ _ _, World.output_setCells _ _ _ _, Nat.le_of_eq (size_setCells _ _ _ _).symm, fun k hk hn => World.heap_setCells_other w b _ cs hk hn⟩)
  obtain ⟨cur, g1, g2, _⟩ := heap_setCells cs 0 w c0 hl
  have hr := World.rangeAt_setCells_same w b 0 cs ht
  have hcur : cur = cs.toArray := by
    refine Array.ext_getElem? fun j => ?_
    by_cases hj : j < cs.length
    · have := hr j cs[j] (List.getElem?_eq_getElem hj)
      rw [Nat.zero_add] at this
      have h2 : cur[j]? = some cs[j] := by simpa [World.cell?, g1] using this
      rw [h2]
      simp [hj]
    · rw [Array.getElem?_eq_none (by omega), Array.getElem?_eq_none (by simpa using Nat.le_of_not_lt hj)]
  rw [hcur] at g1
  exact g1
/-- A value of many cells is boxed. -/
theorem wl_box {P : Program} {ops : Array Oper} {rest : List Oper} {op : Oper} {a : Act} {w : World} {Q : Exit → Act → World → Prop} {ty : TypeId} (cs : List Value) (p : Operand) (hgd : op.guard = none) (ho : op.op = .box ty p)
    (hx : a.eval p = .agg cs.toArray) (hk : ∀ w1, Below w.heap.size w w1 → Lies w1 w.heap.size ty cs.toArray → wpList P ops Q rest (a.put op.dst (.pointer (some ⟨w.heap.size, 0, none⟩))) w1) : wpList P ops Q (op :: rest) a w := by
  refine wpList_plain hgd fun _ hK => ?_
  unfold Oper.wp execOp
  simp only [ho, hx]
  go_simp
  exact hK _ _ (hk _ ((Below.refl _ _).alloc (Nat.le_refl _) _) (Lies.new w _ _))
/-- A result in a block, and one beside it. -/
theorem results_ct {P : Program} {fn : Func} {p u : Tmp} {ty : TypeId} (h : fn.results = #[.cell p ty, .tmp u]) (tmps : Array Value) (w : World) (g : Nat) (cs : List Value) (d : TypeDesc) (hp : tmps.getD p undef = .pointer (some ⟨g, 0, none⟩)) (hc : Lies w g ty cs.toArray)
    (hu : P.underlying ty = some d) (hd : d.isRow = true) (hi : (P.info? ty).map (·.size) = some cs.length) : (results fn tmps).run P w = .ok (.tuple #[.agg cs.toArray, tmps.getD u undef]) w := by
  have hr : w.rangeAt g 0 cs := fun i u hi => by rw [Nat.zero_add, hc.cell]; simpa using hi
  rw [results_cell_tmp h, hp]
  have := run_loadVar_mid (P := P) w g 0 ty cs d hr hu hd hi
  simp [asAddr, this]
theorem lies_range {w : World} {b : Nat} {t : TypeId} {cs : List Value} (h : Lies w b t cs.toArray) : w.rangeAt b 0 cs := fun i u hi => by
  rw [Nat.zero_add, h.cell]
  simpa using hi
theorem bt {a b c : World} (h : Below a.heap.size a b) (k : Below b.heap.size b c) : Below a.heap.size a c := h.trans (k.mono h.size)
theorem keepc {V w : World} {p : Addr} {v : Value} (h : Below V.heap.size V w) (hc : V.cell? p = some v) : w.cell? p = some v := (h.cell (World.block_lt_of_cell? V p hc)).trans hc
theorem keepr {V w : World} {b o : Nat} {cs : List Value} (h : Below V.heap.size V w) (hc : V.rangeAt b o cs) : w.rangeAt b o cs := fun i u hi => keepc h (hc i u hi)
/-- A region that draws its order, along a plan. -/
theorem wp_region_b {P : Program} {ops : Array Oper} {Q : Exit → Act → World → Prop} {id : Nat} {a : Act} {w : World} (plan : List (Nat × Bool)) (hm : P.follows .mixedOrders = true)
    (hok : (Region.noSelect ops && (planOk ops plan (Array.replicate ops.size false) && plan.length == ops.size)) = true)
    (hQ : ∀ (c : List PanicEntry) (a : Act) (d : Option Tmp) (v : Value) (w : World), Q (.panic c) (a.put d v) w → Q (.panic c) a w)
    (h : ∀ V : World, Below w.heap.size w V → hStep P ops Q (fun w' => Below V.heap.size V w') plan a V) : (Code.region id ops true).wp P Q a w :=
  wp_region_below plan hm hok hQ (fun V hV => h V (hV ▸ ⟨rfl, rfl, rfl, Nat.le_refl _, fun _ _ => rfl⟩))
theorem below_put {W w w' : World} {r : Nat} (h : Below W.heap.size W w) (hf : Fr w w' (fun k => k = r)) (hr : W.heap.size ≤ r) : Below W.heap.size W w' := h.trans (hf.below h.size (fun k hk => by omega))
theorem nb (a b : Nat) : ((a : Int) == (b : Int)) = (a == b) := by
  rw [Bool.eq_iff_iff, beq_iff_eq, beq_iff_eq]
  omega
/-- .. the operation alone. -/
theorem wp_put {P : Program} {op : Oper} {a : Act} {w : World} {K : Act → World → Prop} {Q : Exit → Act → World → Prop} {ty : TypeId} {b : Nat} {c0 : Array Value} (hl : Lies w b ty c0) (cs : List Value) (x y : Operand) (ho : op.op = .store ty x y)
    (hx : a.eval x = .pointer (some ⟨b, 0, none⟩)) (hy : a.eval y = .agg cs.toArray) (hs : c0.size = cs.length) (hi : (P.info? ty).map (·.size) = some cs.length) (h1 : cs.toArray.all (·.oneCell') = true)
    (h : ∀ w', Lies w' b ty cs.toArray → Fr w w' (fun k => k = b) → K (a.put op.dst undef) w') : op.wp P a w K Q := by
  have ht : w.there b 0 cs.length := fun j hj => by
    rw [Nat.zero_add]
    exact ⟨by rw [hl.cell, Array.getElem?_eq_getElem (by omega)]; rfl, hl.frozen j⟩
  refine wp_store_mid ty x y ho b 0 cs.toArray hx hy (by simpa using ht) (by simpa using hi) h1 (h _ ?_ ⟨World.os_setCells _ _ _ _, tape_setCells _ _ _ _, World.output_setCells _ _ _ _, Nat.le_of_eq (size_setCells _ _ _ _).symm, fun k hk hn => World.heap_setCells_other w b _ cs hk hn⟩)
  obtain ⟨cur, g1, g2, _⟩ := heap_setCells cs 0 w c0 hl
  have hr := World.rangeAt_setCells_same w b 0 cs ht
  have hcur : cur = cs.toArray := by
    refine Array.ext_getElem? fun j => ?_
    by_cases hj : j < cs.length
    · have := hr j cs[j] (List.getElem?_eq_getElem hj)
      rw [Nat.zero_add] at this
      have h2 : cur[j]? = some cs[j] := by simpa [World.cell?, g1] using this
      rw [h2]
      simp [hj]
    · rw [Array.getElem?_eq_none (by omega), Array.getElem?_eq_none (by simpa using Nat.le_of_not_lt hj)]
  rw [hcur] at g1
  exact g1
/-- A result in a block. -/
theorem results_c {P : Program} {fn : Func} {p : Tmp} {ty : TypeId} (h : fn.results = #[.cell p ty]) (tmps : Array Value) (w : World) (g : Nat) (cs : List Value) (d : TypeDesc) (hp : tmps.getD p undef = .pointer (some ⟨g, 0, none⟩)) (hc : Lies w g ty cs.toArray)
    (hu : P.underlying ty = some d) (hd : d.isRow = true) (hi : (P.info? ty).map (·.size) = some cs.length) : (results fn tmps).run P w = .ok (.agg cs.toArray) w := by
  have hr : w.rangeAt g 0 cs := fun i u hi => by rw [Nat.zero_add, hc.cell]; simpa using hi
  have hv := run_loadVar_mid (P := P) w g 0 ty cs d hr hu hd hi
  have hp' : tmps[p]?.getD undef = .pointer (some ⟨g, 0, none⟩) := by simpa using hp
  simp [results, h, hp', asAddr, hv]
theorem own_sl {α : Type} {w : World} {base : Nat} {e : TypeId} {sz : Nat} {en : α → List Value} {v : Value} {L : List α} (hlen : ∀ x, (en x).length = sz) (h : w.ownsRow base e sz v L.length (L.flatMap en)) : Sl w sz en v L := (WRow.of_own (own := fun k => base ≤ k) h (fun _ h => h)).sl hlen
theorem wl_bsN {t e : TypeId} {n d : Nat} {args : Array (Nat × Operand)} (_hd : op.dst = some d) (ho : op.op = .buildSlice t n args) (cs : List Value) (hgd : op.guard = none) (hb : ∀ w, (Instr.buildSlice t n (args.map fun p => (p.1, a.eval p.2))).run P w = .ok (.slice (some ⟨w.heap.size, 0, none⟩) n n) (w.alloc (.cells cs.toArray e)))
    (hK : ∀ w1, Below w.heap.size w w1 → Lies w1 w.heap.size e cs.toArray → wpList P ops Q rest (a.put op.dst (.slice (some ⟨w.heap.size, 0, none⟩) n n)) w1) : wpList P ops Q (op :: rest) a w := by
  refine wpList_plain hgd fun _ hK' => ?_
  have := hb w
  unfold Oper.wp execOp
  simp only [ho, this, Sem.run_bind, Sem.run_pure, Result.andThen_ok]
  exact hK' _ _ (hK _ ((Below.refl _ _).alloc (Nat.le_refl _) _) (Lies.new w _ _))
theorem sl_many {α : Type} {w : World} {en : α → List Value} {sz g : Nat} {t : TypeId} {L : List α} (hlen : ∀ x, (en x).length = sz) (h : Lies w g t (L.flatMap en).toArray) : Sl w sz en (.slice (some ⟨g, 0, none⟩) L.length L.length) L := by
  refine ⟨_, _, rfl, fun _ => ⟨g, 0, rfl, h.lt, fun i x hi j u hu => ?_⟩⟩
  have hj : j < sz := by rw [← hlen x]; exact (List.getElem?_eq_some_iff.1 hu).1
  have hf := getElem?_flat hlen hi hj
  have h2 := h.cell (i * sz + j)
  rw [Nat.zero_add, h2, List.getElem?_toArray, hf]
  exact hu
/-- Of a space in memory: how long its rows are. -/
theorem below_drew (w : World) : Below w.heap.size w w.drew := ⟨rfl, rfl, rfl, Nat.le_refl _, fun _ _ => rfl⟩
theorem wl_loadw {P : Program} {ops : Array Oper} {rest : List Oper} {op : Oper} {a : Act} {w : World} {Q : Exit → Act → World → Prop} {cs : List Value} {b o : Nat} {ty : TypeId} {d : TypeDesc} (h : w.rangeAt b o cs) (p : Operand) (hgd : Region.wanted op (yielded ops a.tmps) = true) (ho : op.op = .load ty p)
    (hx : a.eval p = .pointer (some ⟨b, o, none⟩)) (hu : P.underlying ty = some d) (hd : d.isRow = true) (hi : (P.info? ty).map (·.size) = some cs.length) (hk : wpList P ops Q rest (a.put op.dst (.agg cs.toArray)) w) : wpList P ops Q (op :: rest) a w := by
  refine BigFrame.wpList_want hgd fun _ hK => ?_
  have hl := run_loadAt_mid (P := P) w b o ty cs _ h hu hd hi
  unfold Oper.wp execOp
  simp only [ho, hx, hl, Sem.run_bind, Sem.run_pure, Result.andThen_ok]
  exact hK _ _ hk
theorem row_lies {w : World} {base g : Nat} {e : TypeId} {sz n : Nat} {cs : List Value} (h : Lies w g e cs.toArray) (hb : base ≤ g) (hn : cs.length = n * sz) (hm : n ≤ maxLen) : w.ownsRow base e sz (.slice (some ⟨g, 0, none⟩) n n) n cs :=
  ⟨hn, .inr ⟨g, n, cs.toArray, rfl, hb, h, Nat.le_refl _, hm, by simpa using hn, by rw [← hn]; exact List.take_length⟩⟩
theorem row_cells {w : World} {base : Nat} {e : TypeId} {sz n : Nat} {v : Value} {xs : List Value} (h : w.ownsRow base e sz v n xs) : v.cells = [v].toArray ∧ v.oneCell' = true := by
  obtain ⟨s, c, rfl, _⟩ := row_form h
  exact ⟨rfl, rfl⟩
theorem results_cell1 {P : Program} {fn : Func} {p : Tmp} {ty : TypeId} (h : fn.results = #[.cell p ty]) (tmps : Array Value) (w : World) (g : Nat) (v : Value) (hp : tmps.getD p undef = .pointer (some ⟨g, 0, none⟩)) (hl : (loadVar ty ⟨g, 0, none⟩).run P w = .ok v w) :
    (results fn tmps).run P w = .ok v w := by
  have hp' : tmps[p]?.getD undef = .pointer (some ⟨g, 0, none⟩) := by simpa using hp
  simp [results, h, hp', asAddr, hl]
end
end Go.Proofs.Ytkdckcjnjljdmaa.Fm
namespace Go.Proofs.Ytkdckcjnjljdmaa.Po
open Go Go.RowKit Go.Lib Kt Fm Ad Kv

def bc (x : UInt8) : List Value := [.int .u8 x.toNat]
theorem bc_len (x : UInt8) : (bc x).length = 1 := rfl
def Tx.cs (t : Tx) : List Value := [.int .u8 t.kind.toNat,
  .int .u8 t.frm.x0.toNat, .int .u8 t.frm.x1.toNat, .int .u8 t.frm.x2.toNat, .int .u8 t.frm.x3.toNat, .int .u8 t.frm.x4.toNat, .int .u8 t.frm.x5.toNat, .int .u8 t.frm.x6.toNat, .int .u8 t.frm.x7.toNat,
  .int .u8 t.to.x0.toNat, .int .u8 t.to.x1.toNat, .int .u8 t.to.x2.toNat, .int .u8 t.to.x3.toNat, .int .u8 t.to.x4.toNat, .int .u8 t.to.x5.toNat, .int .u8 t.to.x6.toNat, .int .u8 t.to.x7.toNat,
  .int .u64 t.nonce, .int .u64 t.value, .int .u64 t.gas, .int .u64 t.price, t.dv]
theorem Tx.len (t : Tx) : t.cs.length = 22 := rfl
def Tx.v (t : Tx) : Value := .agg t.cs.toArray
/-- Its data lie there, its numbers are of 64 bits. -/
structure TxOk (w : World) (t : Tx) : Prop where
  d : Sl w 1 bc t.dv t.data
  n : t.nonce < 18446744073709551616
  v : t.value < 18446744073709551616
  g : t.gas < 18446744073709551616
  p : t.price < 18446744073709551616
theorem TxOk.later {w w' : World} {t : Tx} (h : TxOk w t) (hb : Below w.heap.size w w') : TxOk w' t := ⟨h.d.later hb, h.n, h.v, h.g, h.p⟩
theorem TxOk.one {w : World} {t : Tx} (h : TxOk w t) : ∀ u ∈ t.cs, u.oneCell' = true := by
  obtain ⟨s, c, e, _⟩ := h.d.form
  intro u hu
  simp only [Tx.cs, e, List.mem_cons, List.not_mem_nil, or_false] at hu
  rcases hu with rfl | rfl | rfl | rfl | rfl | rfl | rfl | rfl | rfl | rfl | rfl | rfl | rfl | rfl | rfl | rfl | rfl | rfl | rfl | rfl | rfl | rfl <;> rfl
theorem TxOk.oneB {w : World} {t : Tx} (h : TxOk w t) : (t.cs.toArray.all (·.oneCell')) = true := by
  rw [Array.all_eq_true']
  intro u hu
  exact h.one u (by simpa using hu)
theorem TxOk.form {w : World} {t : Tx} (h : TxOk w t) : ∃ s c, t.dv = .slice s t.data.length c := by
  obtain ⟨s, c, e, _⟩ := h.d.form
  exact ⟨s, c, e⟩
end Go.Proofs.Ytkdckcjnjljdmaa.Po
