/- The document's counts: ref08.Imported, Own, Count; ref39.Len. -/
import Derived.Test.YtjafmclladiblaaGm
import Derived.Test.YtjafmclladiblaaKit
import Derived.Test.YtjafmclladiblaaPlan
import Derived.Deep.CutBlock
import Derived.Deep.MidRow
import Derived.BigFrame
import Derived.Laws.ResultCell
namespace Go.Proofs.Ytjafmclladiblaa.Gr
open Go Go.RowKit Kt Fm

/-- A variable of a block of its own is written whole. -/
theorem wl_put {P : Program} {ops : Array Oper} {rest : List Oper} {op : Oper} {a : Act} {w : World} {Q : Exit → Act → World → Prop} {ty : TypeId} {b : Nat} {c0 : Array Value} (hl : Lies w b ty c0) (cs : List Value) (x y : Operand) (hgd : op.guard = none) (ho : op.op = .store ty x y)
    (hx : a.eval x = .pointer (some ⟨b, 0, none⟩)) (hy : a.eval y = .agg cs.toArray) (hs : c0.size = cs.length) (hi : (P.info? ty).map (·.size) = some cs.length) (h1 : cs.toArray.all (·.oneCell') = true)
    (h : ∀ w', Lies w' b ty cs.toArray → Fr w w' (fun k => k = b) → wpList P ops Q rest (a.put op.dst undef) w') : wpList P ops Q (op :: rest) a w := by
  have ht : w.there b 0 cs.length := fun j hj => by
    rw [Nat.zero_add]
    exact ⟨by rw [hl.cell, Array.getElem?_eq_getElem (by omega)]; rfl, hl.frozen j⟩
  refine wpList_store_mid hgd ty x y ho b 0 cs.toArray hx hy (by simpa using ht) (by simpa using hi) h1 (h _ ?_ ⟨World.os_setCells _ _ _ _, tape_setCells _ _ _ _, World.output_setCells _ _ _ _, Nat.le_of_eq (size_setCells _ _ _ _).symm, fun k hk hn => World.heap_setCells_other w b _ cs hk hn⟩)
  obtain ⟨cur, g1, g2, _⟩ := heap_setCells cs 0 w c0 hl
  have hr := World.rangeAt_setCells_same w b 0 cs ht
  have hcur : cur = cs.toArray := by
    refine Array.ext_getElem? fun j => ?_
    by_cases hj : j < cs.length
    · have := hr j cs[j] (List.getElem?_eq_getElem hj)
      rw [Nat.zero_add] at this
      have h2 : cur[j]? = some cs[j] := by simpa [World.cell?, g1] using this
      rw [h2]
      simp [hj]
    · rw [Array.getElem?_eq_none (by omega), Array.getElem?_eq_none (by simpa using Nat.le_of_not_lt hj)]
  rw [hcur] at g1
  exact g1
/-- A value of many cells is boxed. -/
theorem wl_box {P : Program} {ops : Array Oper} {rest : List Oper} {op : Oper} {a : Act} {w : World} {Q : Exit → Act → World → Prop} {ty : TypeId} (cs : List Value) (p : Operand) (hgd : op.guard = none) (ho : op.op = .box ty p)
    (hx : a.eval p = .agg cs.toArray) (hk : ∀ w1, Below w.heap.size w w1 → Lies w1 w.heap.size ty cs.toArray → wpList P ops Q rest (a.put op.dst (.pointer (some ⟨w.heap.size, 0, none⟩))) w1) : wpList P ops Q (op :: rest) a w := by
  refine wpList_plain hgd fun _ hK => ?_
  unfold Oper.wp execOp
  simp only [ho, hx]
  go_simp
  exact hK _ _ (hk _ ((Below.refl _ _).alloc (Nat.le_refl _) _) (Lies.new w _ _))
/-- Bytes that a slice shows, as a string. -/
def bst (b : List UInt8) : ByteArray := ⟨b.toArray⟩
theorem bst_beq (a b : List UInt8) : ((bst a).toList == (bst b).toList) = (a == b) := by
  rw [ByteArray.toList_eq, ByteArray.toList_eq]
  rfl
set_option maxRecDepth 100000 in
theorem conv_of {W : World} {v : Value} {b : List UInt8} (h : Sl W 1 u8c v b) : (convert 76 9 v).run Try.prog W = .ok (.string (bst b)) W := by
  obtain ⟨s, cap, rfl, hb⟩ := h
  by_cases h0 : b = []
  · subst h0
    have hz : ∀ p : Option Addr, (convert 76 9 (.slice p 0 cap)).run Try.prog W = .ok (.string ByteArray.empty) W := fun p => by
      rw [run_convert_bytes_string W _ _ _ _ 0 cap Try.underlying76 Try.underlying5 Try.underlying9]
      cases p <;> simp [Conv.bytesToString, loadCells]
      all_goals rfl
    simp only [List.length_nil]
    rw [hz]
    rfl
  · obtain ⟨g, off, rfl, hg, hc⟩ := hb h0
    have := run_convert_bytes_arg (P := Try.prog) W _ _ Try.underlying76 Try.underlying5 g off b.length cap (b.map fun x => (x.toNat : Int)) (by simp) (fun i hi => by
      have := hc i b[i] (List.getElem?_eq_getElem hi) 0 _ rfl
      rw [Nat.mul_one, Nat.add_zero] at this
      rw [this]
      simp [List.getD, List.getElem?_eq_getElem hi]) _ Try.underlying9
    rw [this]
    congr 2
    unfold strOfNums bst
    congr 1
    rw [List.map_map, show b.map ((fun n : Int => UInt8.ofNat n.toNat) ∘ fun x : UInt8 => (x.toNat : Int)) = b.map id from List.map_congr_left fun x _ => by simp, List.map_id]
/-- A result in a block, and one beside it. -/
theorem results_ct {P : Program} {fn : Func} {p u : Tmp} {ty : TypeId} (h : fn.results = #[.cell p ty, .tmp u]) (tmps : Array Value) (w : World) (g : Nat) (cs : List Value) (d : TypeDesc) (hp : tmps.getD p undef = .pointer (some ⟨g, 0, none⟩)) (hc : Lies w g ty cs.toArray)
    (hu : P.underlying ty = some d) (hd : d.isRow = true) (hi : (P.info? ty).map (·.size) = some cs.length) : (results fn tmps).run P w = .ok (.tuple #[.agg cs.toArray, tmps.getD u undef]) w := by
  have hr : w.rangeAt g 0 cs := fun i u hi => by rw [Nat.zero_add, hc.cell]; simpa using hi
  rw [results_cell_tmp h, hp]
  have := run_loadVar_mid (P := P) w g 0 ty cs d hr hu hd hi
  simp [asAddr, this]

/-- The functions that are imported. -/
def fimps (m : Mod) : List Imp := m.imps.filter fun x => x.kind == 0
/-- How many functions there are. -/
def cnt (m : Mod) : Nat := (fimps m).length + m.funcs.length
theorem fimps_le (m : Mod) : (fimps m).length ≤ m.imps.length := List.length_filter_le _ _
theorem u8b (x y : UInt8) : ((x.toNat : Int) == (y.toNat : Int)) = (x == y) := by
  rw [Bool.eq_iff_iff, beq_iff_eq, beq_iff_eq]
  exact ⟨fun h => UInt8.toNat_inj.1 (by omega), fun h => by rw [h]⟩
theorem u8b0 (x : UInt8) : ((x.toNat : Int) == 0) = (x == 0) := u8b x 0
theorem u8b16 (x : UInt8) : ((x.toNat : Int) == 16) = (x == 16) := u8b x 16
theorem u8b17 (x : UInt8) : ((x.toNat : Int) == 17) = (x == 17) := u8b x 17


theorem Mod.cs0 (m : Mod) : m.cs.toArray[0]? = some m.tv := rfl
theorem Mod.cs1 (m : Mod) : m.cs.toArray[1]? = some m.iv := rfl
theorem Mod.cs2 (m : Mod) : m.cs.toArray[2]? = some m.fv := rfl
theorem Mod.cs3 (m : Mod) : m.cs.toArray[3]? = some m.bv := rfl
theorem Mod.cs4 (m : Mod) : m.cs.toArray[4]? = some m.mv := rfl
theorem Mod.cs5 (m : Mod) : m.cs.toArray[5]? = some m.gv := rfl
theorem Mod.cs6 (m : Mod) : m.cs.toArray[6]? = some m.ev := rfl
theorem Mod.cs7 (m : Mod) : m.cs.toArray[7]? = some (.bool m.hs) := rfl
theorem Mod.cs8 (m : Mod) : m.cs.toArray[8]? = some (.int .u32 m.st) := rfl
theorem Mod.cs9 (m : Mod) : m.cs.toArray[9]? = some m.ev2 := rfl
theorem Mod.cs10 (m : Mod) : m.cs.toArray[10]? = some m.cv := rfl
theorem Mod.cs11 (m : Mod) : m.cs.toArray[11]? = some m.dv := rfl
/-- What a block that holds a module reads as, field by field. -/
structure ModAt (w : World) (b : Nat) (m : Mod) : Prop where
  c0 : w.cell? ⟨b, 0, none⟩ = some m.tv
  c1 : w.cell? ⟨b, 1, none⟩ = some m.iv
  c2 : w.cell? ⟨b, 2, none⟩ = some m.fv
  c3 : w.cell? ⟨b, 3, none⟩ = some m.bv
  c4 : w.cell? ⟨b, 4, none⟩ = some m.mv
  c5 : w.cell? ⟨b, 5, none⟩ = some m.gv
  c6 : w.cell? ⟨b, 6, none⟩ = some m.ev
  c7 : w.cell? ⟨b, 7, none⟩ = some (.bool m.hs)
  c8 : w.cell? ⟨b, 8, none⟩ = some (.int .u32 m.st)
  c9 : w.cell? ⟨b, 9, none⟩ = some m.ev2
  c10 : w.cell? ⟨b, 10, none⟩ = some m.cv
  all : w.rangeAt b 0 m.cs
theorem lies_range {w : World} {b : Nat} {t : TypeId} {cs : List Value} (h : Lies w b t cs.toArray) : w.rangeAt b 0 cs := fun i u hi => by
  rw [Nat.zero_add, h.cell]
  simpa using hi
theorem ModAt.of {w : World} {b : Nat} {t : TypeId} {m : Mod} (h : Lies w b t m.cs.toArray) : ModAt w b m :=
  ⟨h.cell 0, h.cell 1, h.cell 2, h.cell 3, h.cell 4, h.cell 5, h.cell 6, h.cell 7, h.cell 8, h.cell 9, h.cell 10, lies_range h⟩
/-- A module that was boxed. -/
theorem box_mod (W : World) (m : Mod) : ∃ w1, W.alloc (.cells m.cs.toArray 33) = w1 ∧ Below W.heap.size W w1 ∧ Lies w1 W.heap.size 33 m.cs.toArray :=
  ⟨_, rfl, (Below.refl _ _).alloc (Nat.le_refl _) _, Lies.new W _ _⟩
theorem bt {a b c : World} (h : Below a.heap.size a b) (k : Below b.heap.size b c) : Below a.heap.size a c := h.trans (k.mono h.size)
theorem keepc {V w : World} {p : Addr} {v : Value} (h : Below V.heap.size V w) (hc : V.cell? p = some v) : w.cell? p = some v := (h.cell (World.block_lt_of_cell? V p hc)).trans hc
theorem keepr {V w : World} {b o : Nat} {cs : List Value} (h : Below V.heap.size V w) (hc : V.rangeAt b o cs) : w.rangeAt b o cs := fun i u hi => keepc h (hc i u hi)
theorem ModAt.later {V w : World} {b : Nat} {m : Mod} (h : ModAt V b m) (hb : Below V.heap.size V w) : ModAt w b m :=
  ⟨keepc hb h.c0, keepc hb h.c1, keepc hb h.c2, keepc hb h.c3, keepc hb h.c4, keepc hb h.c5, keepc hb h.c6, keepc hb h.c7, keepc hb h.c8, keepc hb h.c9, keepc hb h.c10, keepr hb h.all⟩
/-- A region that draws its order, along a plan. -/
theorem wp_region_b {P : Program} {ops : Array Oper} {Q : Exit → Act → World → Prop} {id : Nat} {a : Act} {w : World} (plan : List (Nat × Bool)) (hm : P.follows .mixedOrders = true)
    (hok : (Region.noSelect ops && (planOk ops plan (Array.replicate ops.size false) && plan.length == ops.size)) = true)
    (hQ : ∀ (c : List PanicEntry) (a : Act) (d : Option Tmp) (v : Value) (w : World), Q (.panic c) (a.put d v) w → Q (.panic c) a w)
    (h : ∀ V : World, Below w.heap.size w V → hStep P ops Q (fun w' => Below V.heap.size V w') plan a V) : (Code.region id ops true).wp P Q a w :=
  wp_region_below plan hm hok hQ (fun V hV => h V (hV ▸ ⟨rfl, rfl, rfl, Nat.le_refl _, fun _ _ => rfl⟩))
/-- The box of a module. -/
theorem wm_box {ops : Array Oper} {rest : List Oper} {op : Oper} {a : Act} {w : World} {Q : Exit → Act → World → Prop} {m : Mod} (p : Operand) (hgd : op.guard = none) (ho : op.op = .box 33 p)
    (hx : a.eval p = .agg m.cs.toArray) (hk : ∀ w1, Below w.heap.size w w1 → ModAt w1 w.heap.size m → wpList Try.prog ops Q rest (a.put op.dst (.pointer (some ⟨w.heap.size, 0, none⟩))) w1) : wpList Try.prog ops Q (op :: rest) a w := by
  refine wpList_plain hgd fun _ hK => ?_
  obtain ⟨w1, hw1, hb1, hl1⟩ := box_mod w m
  unfold Oper.wp execOp
  simp only [ho, hx]
  go_simp
  exact hK _ _ (hk w1 hb1 (ModAt.of hl1))
theorem sizeMod : (Try.prog.info? 33).map (·.size) = some 12 := by kernel_rfl
/-- The load of a module. -/
theorem wm_load {ops : Array Oper} {rest : List Oper} {op : Oper} {a : Act} {w : World} {Q : Exit → Act → World → Prop} {m : Mod} {b : Nat} (h : ModAt w b m) (p : Operand) (hgd : op.guard = none) (ho : op.op = .load 33 p)
    (hx : a.eval p = .pointer (some ⟨b, 0, none⟩)) (hk : wpList Try.prog ops Q rest (a.put op.dst (.agg m.cs.toArray)) w) : wpList Try.prog ops Q (op :: rest) a w :=
  wpList_load_mid hgd 33 p ho b 0 hx m.cs _ h.all Try.underlying33 rfl sizeMod hk
theorem wm_loadw {ops : Array Oper} {rest : List Oper} {op : Oper} {a : Act} {w : World} {Q : Exit → Act → World → Prop} {m : Mod} {b : Nat} (h : ModAt w b m) (p : Operand) (hgd : Region.wanted op (yielded ops a.tmps) = true) (ho : op.op = .load 33 p)
    (hx : a.eval p = .pointer (some ⟨b, 0, none⟩)) (hk : wpList Try.prog ops Q rest (a.put op.dst (.agg m.cs.toArray)) w) : wpList Try.prog ops Q (op :: rest) a w := by
  refine BigFrame.wpList_want hgd fun _ hK => ?_
  have hl := run_loadAt_mid (P := Try.prog) w b 0 33 m.cs _ h.all Try.underlying33 rfl sizeMod
  unfold Oper.wp execOp
  simp only [ho, hx, hl, Sem.run_bind, Sem.run_pure, Result.andThen_ok]
  exact hK _ _ hk
theorem exec_loadM {op : Oper} {act : Act} {m : Mod} {b : Nat} {w : World} (h : ModAt w b m) (p : Operand) (ho : op.op = .load 33 p) (hx : act.eval p = .pointer (some ⟨b, 0, none⟩)) : (execOp act.eval op).run Try.prog w = .ok (.value (.agg m.cs.toArray)) w := by
  have hl := run_loadAt_mid (P := Try.prog) w b 0 33 m.cs _ h.all Try.underlying33 rfl sizeMod
  unfold execOp
  simp only [ho, hx, hl, Sem.run_bind, Sem.run_pure, Result.andThen_ok]
theorem countP_succ {α : Type} {l : List α} {k : Nat} {x : α} (p : α → Bool) (h : l[k]? = some x) : (l.take (k + 1)).countP p = (l.take k).countP p + if p x then 1 else 0 := by
  rw [List.take_add_one, h, Option.toList_some, List.countP_append, List.countP_singleton]
theorem imp_count (m : Mod) : (m.imps.take m.imps.length).countP (fun x => x.kind == 0) = (fimps m).length := by rw [List.take_length, fimps, List.countP_eq_length_filter]
set_option maxRecDepth 100000 in
set_option maxHeartbeats 4000000 in
theorem rimp_any {W : World} {m : Mod} (hm : ModOk W m) :
    Calls Try.prog 46 #[.agg m.cs.toArray, .int .u8 0] W fun e w' => e = .returned (.int .i64 (fimps m).length) ∧ Below W.heap.size W w' := by
  have HM := Lib.hid hm.2.1
  have hlX : m.imps.length ≤ 1048576 := hm.2.1.2.2
  clear hm
  go_enter Try.func46, Try.ntmps46
  go_wp2_with fail
  obtain ⟨w1, hw1, hb1, hl1⟩ := box_mod W m
  rw [hw1]
  clear hw1
  have HB1 := Lib.hid hb1
  have hc1 := (ModAt.of hl1).c1
  clear hb1 hl1
  obtain ⟨s, cap, hiv, hs⟩ := HM.out.1.form
  rw [hiv] at hc1
  have HS := Lib.hid hs
  clear hs
  go_loopw [5, 6] (fun n i wr => ∃ k : Nat, k ≤ m.imps.length ∧ n = .int .i64 ((m.imps.take k).countP fun x => x.kind == 0) ∧ i = .int .i64 k ∧ wr = w1)
    (fun _ i _ => m.imps.length - (intOf i).toNat)
  case atStart => exact ⟨0, by omega, rfl, rfl, rfl⟩
  case round =>
    obtain ⟨k, hk, rfl, rfl, rfl⟩ := hrel
    have hcl : (m.imps.take k).countP (fun x => x.kind == 0) ≤ k := Nat.le_trans List.countP_le_length (by simp; omega)
    by_cases hlt : k < m.imps.length
    · obtain ⟨x, hx⟩ : ∃ x, m.imps[k]? = some x := ⟨_, List.getElem?_eq_getElem hlt⟩
      obtain ⟨g, off, rfl, hg⟩ := HS.out (by intro e; simp [e] at hlt)
      have hsl := HM.out.1
      rw [hiv] at hsl
      have hcell := (hsl.later HB1.out).cell hx (j := 2) rfl
      have hct := countP_succ (fun x : Imp => x.kind == 0) hx
      clear hx hsl
      go_wp2_with fail
      all_goals
        rename_i hq
        refine ⟨⟨k + 1, by omega, ?_, by go_num, trivial⟩, by simp [intOf]; omega⟩
        rw [hct, ← u8b0, hq]
        first | rfl | simp
    · obtain rfl : k = m.imps.length := by omega
      go_wp2_with fail
      rw [imp_count]
      go_ret
      exact ⟨rfl, HB1.out⟩

/-! ### Own, Count, Len -/

/-! ### printed: counts -/
set_option maxRecDepth 100000 in
set_option maxHeartbeats 4000000 in
theorem rown_any {W : World} {m : Mod} (hm : ModOk W m) :
    Calls Try.prog 62 #[.agg m.cs.toArray, .int .u8 0] W fun e w' => e = .returned (.int .i64 m.funcs.length) ∧ Below W.heap.size W w' := by
  have hlX : m.funcs.length ≤ 1048576 := hm.2.2.1.2.2
  obtain ⟨s, cap, hiv, hs⟩ := hm.2.2.1.1.form
  clear hs
  have HM := Lib.hid hm
  clear hm
  go_enter Try.func62, Try.ntmps62
  go_wp2_with (first | (refine wm_box _ rfl rfl rfl (fun w1 hb1 hl1 => ?_); have HB1 := Lib.hid hb1; have HL1 := Lib.hid hl1; have hc1 := hl1.c2; rw [hiv] at hc1; clear hb1 hl1; simp only [Act.put, List.setIfInBounds_toArray, List.set_cons_zero, List.set_cons_succ]) | (refine wm_load HL1.out _ rfl rfl rfl ?_; simp only [Act.put, List.setIfInBounds_toArray, List.set_cons_zero, List.set_cons_succ]) | (refine wm_loadw HL1.out _ (by first | rfl | (simp [Region.wanted, yielded, *]; done)) rfl rfl ?_; simp only [Act.put, List.setIfInBounds_toArray, List.set_cons_zero, List.set_cons_succ]))
  go_ret
  exact ⟨rfl, HB1.out⟩
set_option maxRecDepth 100000 in
set_option maxHeartbeats 4000000 in
theorem rcount_any {W : World} {m : Mod} (hm : ModOk W m) :
    Calls Try.prog 37 #[.agg m.cs.toArray, .int .u8 0] W fun e w' => e = .returned (.int .i64 (cnt m)) ∧ Below W.heap.size W w' := by
  have hl1 : (fimps m).length ≤ 1048576 := Nat.le_trans (fimps_le m) hm.2.1.2.2
  have hl2 : m.funcs.length ≤ 1048576 := hm.2.2.1.2.2
  have HM := Lib.hid hm
  clear hm
  go_enter Try.func37, Try.ntmps37
  go_wp2_with (first | (refine wm_box _ rfl rfl rfl (fun w1 hb1 hl1 => ?_); have HB1 := Lib.hid hb1; have HL1 := Lib.hid hl1; clear hb1 hl1; simp only [Act.put, List.setIfInBounds_toArray, List.set_cons_zero, List.set_cons_succ]) | (refine wm_load HL1.out _ rfl rfl rfl ?_; simp only [Act.put, List.setIfInBounds_toArray, List.set_cons_zero, List.set_cons_succ]) | (refine wm_loadw HL1.out _ (by first | rfl | (simp [Region.wanted, yielded, *]; done)) rfl rfl ?_; simp only [Act.put, List.setIfInBounds_toArray, List.set_cons_zero, List.set_cons_succ]))
  refine wp_region_b [(0, true), (1, true), (3, true), (4, true), (2, false), (5, false), (6, true), (7, true)] (by kernel_rfl) (by kernel_rfl) (fun _ _ d _ _ h => by cases d <;> exact h) ?_
  intro V hbV
  replace HL1 := Lib.hid (HL1.out.later hbV)
  have hS0 : Below V.heap.size V V := Below.refl _ _
  repeat (first | (refine hs_take (v := .agg m.cs.toArray) rfl rfl (fun w' hw' => exec_loadM (HL1.out.later hw') _ rfl rfl) ?_; (try simp only [Act.put, List.setIfInBounds_toArray, List.set_cons_zero, List.set_cons_succ])) | (refine hs_take (v := ?_) rfl rfl (fun w' hw' => ?_) ?_; rotate_left; (focus (clear hw'; (try simp only [Act.put, List.setIfInBounds_toArray, List.set_cons_zero, List.set_cons_succ]); go_simp; (try go_bits); (try (with_reducible rfl)))); (try simp only [Act.put, List.setIfInBounds_toArray, List.set_cons_zero, List.set_cons_succ])) | (refine hs_skip rfl rfl ?_; (try simp only [Act.put, List.setIfInBounds_toArray, List.set_cons_zero, List.set_cons_succ])))
  refine hs_run rfl (fun K hK => ?_)
  go_simp
  refine (rimp_any (HM.out.later (bt (bt HB1.out hbV) hS0))).mono ?_
  rintro en V1 ⟨rfl, hB1⟩
  have hS1 := bt hS0 hB1
  clear hB1 hS0
  refine hK.out _ _ hS1 ?_
  clear hK K
  (try simp only [Act.put, List.setIfInBounds_toArray, List.set_cons_zero, List.set_cons_succ])
  refine hs_run rfl (fun K hK => ?_)
  go_simp
  refine (rown_any (HM.out.later (bt (bt HB1.out hbV) hS1))).mono ?_
  rintro en V2 ⟨rfl, hB2⟩
  have hS2 := bt hS1 hB2
  clear hB2 hS1
  refine hK.out _ _ hS2 ?_
  clear hK K
  (try simp only [Act.put, List.setIfInBounds_toArray, List.set_cons_zero, List.set_cons_succ])
  repeat (first | (refine hs_take (v := .agg m.cs.toArray) rfl rfl (fun w' hw' => exec_loadM (HL1.out.later hw') _ rfl rfl) ?_; (try simp only [Act.put, List.setIfInBounds_toArray, List.set_cons_zero, List.set_cons_succ])) | (refine hs_take (v := ?_) rfl rfl (fun w' hw' => ?_) ?_; rotate_left; (focus (clear hw'; (try simp only [Act.put, List.setIfInBounds_toArray, List.set_cons_zero, List.set_cons_succ]); go_simp; (try go_bits); (try (with_reducible rfl)))); (try simp only [Act.put, List.setIfInBounds_toArray, List.set_cons_zero, List.set_cons_succ])) | (refine hs_skip rfl rfl ?_; (try simp only [Act.put, List.setIfInBounds_toArray, List.set_cons_zero, List.set_cons_succ])))
  refine hs_done ?_
  go_wp2_with fail
  go_ret
  exact ⟨rfl, bt (bt HB1.out hbV) hS2⟩
set_option maxRecDepth 100000 in
set_option maxHeartbeats 4000000 in
theorem rlen_any {W : World} {m : Mod} (hm : ModOk W m) :
    Calls Try.prog 10 #[.agg m.cs.toArray] W fun e w' => e = .returned (.int .i64 (cnt m)) ∧ Below W.heap.size W w' := by
  have HM := Lib.hid hm
  clear hm
  go_enter Try.func10, Try.ntmps10
  go_wp2_with (first | (refine wm_box _ rfl rfl rfl (fun w1 hb1 hl1 => ?_); have HB1 := Lib.hid hb1; have HL1 := Lib.hid hl1; clear hb1 hl1; simp only [Act.put, List.setIfInBounds_toArray, List.set_cons_zero, List.set_cons_succ]) | (refine wm_load HL1.out _ rfl rfl rfl ?_; simp only [Act.put, List.setIfInBounds_toArray, List.set_cons_zero, List.set_cons_succ]) | (refine wm_loadw HL1.out _ (by first | rfl | (simp [Region.wanted, yielded, *]; done)) rfl rfl ?_; simp only [Act.put, List.setIfInBounds_toArray, List.set_cons_zero, List.set_cons_succ]))
  refine (rcount_any (HM.out.later HB1.out)).mono ?_
  rintro en w2 ⟨rfl, hb2⟩
  go_wp2_with fail
  go_ret
  exact ⟨rfl, bt HB1.out hb2⟩
/-- The code of an own function that is there. -/
def codeOf (m : Mod) (f : Nat) : Option Cod := if (fimps m).length ≤ f ∧ f < cnt m then m.codes[f - (fimps m).length]? else none
def codeV : Option Cod → Value
  | some c => c.bv
  | none => .slice none 0 0
set_option maxRecDepth 100000 in
set_option maxHeartbeats 4000000 in
theorem rcode_any {W : World} {m : Mod} (hm : ModOk W m) {f : Nat} (hf : f ≤ 4194304) :
    Calls Try.prog 39 #[.agg m.cs.toArray, .int .i64 f] W fun e w' => e = .returned (.tuple #[codeV (codeOf m f), .bool (codeOf m f).isSome]) ∧ Below W.heap.size W w' := by
  have hl1 : (fimps m).length ≤ 1048576 := Nat.le_trans (fimps_le m) hm.2.1.2.2
  have hl2 : m.funcs.length ≤ 1048576 := hm.2.2.1.2.2
  have hl3 : m.codes.length ≤ 1048576 := hm.2.2.2.2.2.2.2.2.2.1.2.2
  have HC := Lib.hid hm.2.2.2.2.2.2.2.2.2.1
  obtain ⟨s, cap, hiv, hs⟩ := hm.2.2.2.2.2.2.2.2.2.1.1.form
  have HS := Lib.hid hs
  clear hs
  have HM := Lib.hid hm
  clear hm
  go_enter Try.func39, Try.ntmps39
  go_wp2_with (first | (refine wm_box _ rfl rfl rfl (fun w1 hb1 hl1 => ?_); have HB1 := Lib.hid hb1; have HL1 := Lib.hid hl1; have hc1 := hl1.c10; rw [hiv] at hc1; clear hb1 hl1; simp only [Act.put, List.setIfInBounds_toArray, List.set_cons_zero, List.set_cons_succ]) | (refine wm_load HL1.out _ rfl rfl rfl ?_; simp only [Act.put, List.setIfInBounds_toArray, List.set_cons_zero, List.set_cons_succ]) | (refine wm_loadw HL1.out _ (by first | rfl | (simp [Region.wanted, yielded, *]; done)) rfl rfl ?_; simp only [Act.put, List.setIfInBounds_toArray, List.set_cons_zero, List.set_cons_succ]))
  refine (rimp_any (HM.out.later HB1.out)).mono ?_
  rintro en w2 ⟨rfl, hb2⟩
  have HB2 := Lib.hid (bt HB1.out hb2)
  replace hc1 := keepc hb2 hc1
  replace HL1 := Lib.hid (HL1.out.later hb2)
  clear hb2
  have hcn : cnt m = (fimps m).length + m.funcs.length := rfl
  by_cases h1 : (fimps m).length ≤ f
  · obtain ⟨j, hj⟩ : ∃ j, f = (fimps m).length + j := ⟨f - (fimps m).length, by omega⟩
    have e1 : (f : Int) - ((fimps m).length : Int) = (j : Int) := by omega
    have e0 : ¬ (j : Int) < 0 := by omega
    have HJ := Lib.hid hj
    have hj3 : j ≤ 4194304 := by omega
    clear hj hf
    by_cases h2 : j < m.codes.length
    · have h2' : ¬ m.codes.length ≤ j := by omega
      go_wp2_with (first | (refine wm_load HL1.out _ rfl rfl rfl ?_; simp only [Act.put, List.setIfInBounds_toArray, List.set_cons_zero, List.set_cons_succ]) | (refine wm_loadw HL1.out _ (by first | rfl | (simp [Region.wanted, yielded, *]; done)) rfl rfl ?_; simp only [Act.put, List.setIfInBounds_toArray, List.set_cons_zero, List.set_cons_succ]))
      refine (rlen_any (HM.out.later HB2.out)).mono ?_
      rintro en w3 ⟨rfl, hb3⟩
      have HB3 := Lib.hid (bt HB2.out hb3)
      replace hc1 := keepc hb3 hc1
      clear hb3
      by_cases h3 : f < cnt m
      · have h3' : ¬ cnt m ≤ f := by omega
        obtain ⟨x, hx⟩ : ∃ x, m.codes[j]? = some x := ⟨_, List.getElem?_eq_getElem h2⟩
        obtain ⟨g, off, rfl, hg⟩ := HS.out (by intro e; simp [e] at h2)
        have hsl := HC.out.1
        rw [hiv] at hsl
        have hcell := (hsl.later HB3.out).cell hx (j := 1) rfl
        have hcode : codeOf m f = some x := by rw [codeOf, if_pos ⟨h1, h3⟩, ← hx, HJ.out, Nat.add_sub_cancel_left]
        clear hx hsl hcn
        go_wp2_with fail
        go_ret2
        rw [hcode]
        exact ⟨rfl, HB3.out⟩
      · have h3' : cnt m ≤ f := by omega
        have hcode : codeOf m f = none := by rw [codeOf, if_neg (fun h => h3 h.2)]
        clear hcn
        go_wp2_with fail
        go_ret2
        rw [hcode]
        exact ⟨rfl, HB3.out⟩
    · have h2' : m.codes.length ≤ j := by omega
      have hcode : codeOf m f = none := by
        rw [codeOf, HJ.out, Nat.add_sub_cancel_left, List.getElem?_eq_none h2']
        split <;> rfl
      clear hcn
      go_wp2_with (first | (refine wm_load HL1.out _ rfl rfl rfl ?_; simp only [Act.put, List.setIfInBounds_toArray, List.set_cons_zero, List.set_cons_succ]) | (refine wm_loadw HL1.out _ (by first | rfl | (simp [Region.wanted, yielded, *]; done)) rfl rfl ?_; simp only [Act.put, List.setIfInBounds_toArray, List.set_cons_zero, List.set_cons_succ]))
      go_ret2
      rw [hcode]
      exact ⟨rfl, HB2.out⟩
  · have h1' : f < (fimps m).length := by omega
    have hcode : codeOf m f = none := by rw [codeOf, if_neg (fun h => h1 h.1)]
    have e1 : (f : Int) - ((fimps m).length : Int) < 0 := by omega
    clear hcn
    go_wp2_with (first | (refine wm_load HL1.out _ rfl rfl rfl ?_; simp only [Act.put, List.setIfInBounds_toArray, List.set_cons_zero, List.set_cons_succ]) | (refine wm_loadw HL1.out _ (by first | rfl | (simp [Region.wanted, yielded, *]; done)) rfl rfl ?_; simp only [Act.put, List.setIfInBounds_toArray, List.set_cons_zero, List.set_cons_succ]))
    go_ret2
    rw [hcode]
    exact ⟨rfl, HB2.out⟩
theorem nb (a b : Nat) : ((a : Int) == (b : Int)) = (a == b) := by
  rw [Bool.eq_iff_iff, beq_iff_eq, beq_iff_eq]
  omega
/-- Does an element segment have a function? -/
def listedB (m : Mod) (f : Nat) : Bool := m.elems.any fun e => e.fs.any (· == f)
theorem any_take {α : Type} {l : List α} {k : Nat} {x : α} (p : α → Bool) (h : l[k]? = some x) : (l.take (k + 1)).any p = ((l.take k).any p || p x) := by
  rw [List.take_add_one, h, Option.toList_some, List.any_append]
  simp
theorem any_of {α : Type} {l : List α} {k : Nat} {x : α} {p : α → Bool} (h : l[k]? = some x) (hp : p x = true) : l.any p = true := List.any_eq_true.2 ⟨x, List.mem_of_getElem? h, hp⟩
set_option maxRecDepth 100000 in
set_option maxHeartbeats 4000000 in
theorem rlisted_any {W : World} {m : Mod} (hm : ModOk W m) {f : Nat} (hf : f ≤ 4194304) :
    Calls Try.prog 40 #[.agg m.cs.toArray, .int .i64 f] W fun e w' => e = .returned (.bool (listedB m f)) ∧ Below W.heap.size W w' := by
  have hl1 : m.elems.length ≤ 1048576 := hm.2.2.2.2.2.2.2.2.1.2.2
  have HC := Lib.hid hm.2.2.2.2.2.2.2.2.1
  obtain ⟨s, cap, hiv, hs⟩ := hm.2.2.2.2.2.2.2.2.1.1.form
  have HS := Lib.hid hs
  clear hs
  have HM := Lib.hid hm
  clear hm
  go_enter Try.func40, Try.ntmps40
  go_wp2_with (first | (refine wm_box _ rfl rfl rfl (fun w1 hb1 hl1 => ?_); have HB1 := Lib.hid hb1; have HL1 := Lib.hid hl1; have hc1 := hl1.c9; rw [hiv] at hc1; clear hb1 hl1; simp only [Act.put, List.setIfInBounds_toArray, List.set_cons_zero, List.set_cons_succ]) | (refine wm_load HL1.out _ rfl rfl rfl ?_; simp only [Act.put, List.setIfInBounds_toArray, List.set_cons_zero, List.set_cons_succ]) | (refine wm_loadw HL1.out _ (by first | rfl | (simp [Region.wanted, yielded, *]; done)) rfl rfl ?_; simp only [Act.put, List.setIfInBounds_toArray, List.set_cons_zero, List.set_cons_succ]))
  go_loopw [5, 6] (fun i _ wr => ∃ k : Nat, k ≤ m.elems.length ∧ i = .int .i64 k ∧ wr = w1 ∧ (m.elems.take k).any (fun e => e.fs.any (· == f)) = false)
    (fun i _ _ => m.elems.length - (intOf i).toNat)
  case atStart => exact ⟨0, by omega, rfl, rfl, rfl⟩
  case round =>
    obtain ⟨k, hk, rfl, rfl, hno⟩ := hrel
    have HNO := Lib.hid hno
    clear hno
    by_cases hlt : k < m.elems.length
    · obtain ⟨x, hx⟩ : ∃ x, m.elems[k]? = some x := ⟨_, List.getElem?_eq_getElem hlt⟩
      obtain ⟨g, off, rfl, hg⟩ := HS.out (by intro e; simp [e] at hlt)
      have hsl := HC.out.1
      rw [hiv] at hsl
      have hcell := (hsl.later HB1.out).cell hx (j := 2) rfl
      obtain ⟨_, _, hfsl, hfb, hfl⟩ := HC.out.2.1 x (List.mem_of_getElem? hx)
      obtain ⟨s2, cap2, hfv, hs2⟩ := hfsl.form
      have HX := Lib.hid hx
      have HF := Lib.hid hfsl
      have HFB := Lib.hid hfb
      have HS2 := Lib.hid hs2
      have hfl2 : x.fs.length ≤ 1048576 := hfl
      rw [hfv] at hcell
      clear hx hfsl hfb hs2 hsl hfl
      go_wp2_with fail
      go_loopw [6] (fun i wr2 => ∃ j : Nat, j ≤ x.fs.length ∧ i = .int .i64 j ∧ wr2 = wr ∧ (x.fs.take j).any (· == f) = false)
        (fun i _ => x.fs.length - (intOf i).toNat)
      case atStart => exact ⟨0, by omega, rfl, rfl, rfl⟩
      case round =>
        obtain ⟨j, hj, rfl, rfl, hno2⟩ := hrel
        have HNO2 := Lib.hid hno2
        clear hno2
        by_cases hlt2 : j < x.fs.length
        · obtain ⟨y, hy⟩ : ∃ y, x.fs[j]? = some y := ⟨_, List.getElem?_eq_getElem hlt2⟩
          obtain ⟨g2, off2, rfl, hg2⟩ := HS2.out (by intro e; simp [e] at hlt2)
          have hsl2 := HF.out
          rw [hfv] at hsl2
          have hcell2 := (hsl2.later HB1.out).cell hy (j := 0) rfl
          rw [Nat.add_zero, Nat.mul_one] at hcell2
          have hyb := HFB.out y (List.mem_of_getElem? hy)
          have HY := Lib.hid hy
          clear hy hsl2
          go_wp2_with fail
          · rename_i hq
            go_ret
            have hyq : (y == f) = true := by rw [← nb]; exact hq
            refine ⟨?_, HB1.out⟩
            rw [listedB, any_of HX.out (any_of (p := fun z => z == f) HY.out hyq)]
            rfl
          · rename_i hq
            refine ⟨⟨j + 1, by omega, by go_num, trivial, ?_⟩, by simp [intOf]; omega⟩
            have hyq : (y == f) = false := by rw [← nb]; exact hq
            rw [any_take _ HY.out, HNO2.out, hyq]
            rfl
        · obtain rfl : j = x.fs.length := by omega
          go_wp2_with fail
          refine ⟨⟨k + 1, by omega, by go_num, trivial, ?_⟩, by simp [intOf]; omega⟩
          have hn := HNO2.out
          rw [List.take_length] at hn
          rw [any_take _ HX.out, HNO.out, hn]
          rfl
    · obtain rfl : k = m.elems.length := by omega
      go_wp2_with fail
      go_ret
      have hn := HNO.out
      rw [List.take_length] at hn
      rw [listedB, hn]
      exact ⟨rfl, HB1.out⟩
/-- Is a function one that is called of outside? -/
def rootB (m : Mod) (f : Nat) : Bool := m.exps.any (fun x => x.kind == 0 && x.ix == f) || (m.hs && m.st == f)
set_option maxRecDepth 100000 in
set_option maxHeartbeats 4000000 in
theorem rroot_any {W : World} {m : Mod} (hm : ModOk W m) {f : Nat} (hf : f ≤ 4194304) :
    Calls Try.prog 15 #[.agg m.cs.toArray, .int .i64 f] W fun e w' => e = .returned (.bool (rootB m f)) ∧ Below W.heap.size W w' := by
  have hl1 : m.exps.length ≤ 1048576 := hm.2.2.2.2.2.2.1.2.2
  have hst := hm.2.2.2.2.2.2.2.1
  have HC := Lib.hid hm.2.2.2.2.2.2.1
  obtain ⟨s, cap, hiv, hs⟩ := hm.2.2.2.2.2.2.1.1.form
  have HS := Lib.hid hs
  clear hs
  have HM := Lib.hid hm
  clear hm
  go_enter Try.func15, Try.ntmps15
  go_wp2_with (first | (refine wm_box _ rfl rfl rfl (fun w1 hb1 hl1 => ?_); have HB1 := Lib.hid hb1; have HL1 := Lib.hid hl1; have hc1 := hl1.c6; rw [hiv] at hc1; have hc2 := hl1.c7; have hc3 := hl1.c8; clear hb1 hl1; simp only [Act.put, List.setIfInBounds_toArray, List.set_cons_zero, List.set_cons_succ]) | (refine wm_load HL1.out _ rfl rfl rfl ?_; simp only [Act.put, List.setIfInBounds_toArray, List.set_cons_zero, List.set_cons_succ]) | (refine wm_loadw HL1.out _ (by first | rfl | (simp [Region.wanted, yielded, *]; done)) rfl rfl ?_; simp only [Act.put, List.setIfInBounds_toArray, List.set_cons_zero, List.set_cons_succ]))
  go_loopw [5] (fun i wr => ∃ k : Nat, k ≤ m.exps.length ∧ i = .int .i64 k ∧ wr = w1 ∧ (m.exps.take k).any (fun x => x.kind == 0 && x.ix == f) = false)
    (fun i _ => m.exps.length - (intOf i).toNat)
  case atStart => exact ⟨0, by omega, rfl, rfl, rfl⟩
  case round =>
    obtain ⟨k, hk, rfl, rfl, hno⟩ := hrel
    have HNO := Lib.hid hno
    clear hno
    by_cases hlt : k < m.exps.length
    · obtain ⟨x, hx⟩ : ∃ x, m.exps[k]? = some x := ⟨_, List.getElem?_eq_getElem hlt⟩
      obtain ⟨g, off, rfl, hg⟩ := HS.out (by intro e; simp [e] at hlt)
      have hsl := HC.out.1
      rw [hiv] at hsl
      have hcell := (hsl.later HB1.out).cell hx (j := 1) rfl
      have hcell2 := (hsl.later HB1.out).cell hx (j := 2) rfl
      have hxb : x.ix < 4294967296 := HC.out.2.1 x (List.mem_of_getElem? hx)
      have HX := Lib.hid hx
      clear hx hsl
      have hkd := u8b0 x.kind
      cases hk0 : x.kind == 0 with
      | true =>
        rw [hk0] at hkd
        have hkd2 : (x.kind.toNat : Int) = 0 := by simpa using hkd
        rw [hkd2] at hcell
        go_wp2_with fail
        · rename_i hq
          go_ret
          have hyq : (x.ix == f) = true := by rw [← nb]; exact hq
          refine ⟨?_, HB1.out⟩
          rw [rootB, any_of (p := fun x => x.kind == 0 && x.ix == f) HX.out (by simp only [hk0, hyq]; rfl)]
          rfl
        · rename_i hq
          refine ⟨⟨k + 1, by omega, by go_num, trivial, ?_⟩, by simp [intOf]; omega⟩
          have hyq : (x.ix == f) = false := by rw [← nb]; exact hq
          rw [any_take _ HX.out, HNO.out, hyq, Bool.and_false]
          rfl
      | false =>
        rw [hk0] at hkd
        have hkd2 : ¬ (x.kind.toNat : Int) = 0 := by simpa using hkd
        go_wp2_with fail
        refine ⟨⟨k + 1, by omega, by go_num, trivial, ?_⟩, by simp [intOf]; omega⟩
        rw [any_take _ HX.out, HNO.out, hk0]
        rfl
    · obtain rfl : k = m.exps.length := by omega
      have hn := HNO.out
      rw [List.take_length] at hn
      have hr : rootB m f = (m.hs && m.st == f) := by rw [rootB, hn, Bool.false_or]
      cases hh : m.hs with
      | true =>
        rw [hh] at hc2
        go_wp2_with fail
        go_ret
        refine ⟨?_, HB1.out⟩
        rw [hr, hh, Bool.true_and]
        exact congrArg (fun b => Ending.returned (.bool b)) (nb _ _)
      | false =>
        rw [hh] at hc2
        go_wp2_with fail
        go_ret
        refine ⟨?_, HB1.out⟩
        rw [hr, hh]
        rfl
def nilFt : List Value := [.slice none 0 0, .slice none 0 0]
/-- The types' numbers of all functions. -/
def ftyps (m : Mod) : List Nat := (fimps m).map (·.ty) ++ m.funcs
/-- The type of a function. -/
def ftype (m : Mod) (i : Nat) : Option Ft := ((ftyps m)[i]?).bind (m.types[·]?)
def ftC : Option Ft → List Value
  | some t => t.cs
  | none => nilFt
theorem oneNil : (nilFt.toArray.all (·.oneCell')) = true := by simp [nilFt, Value.oneCell']
theorem getD_put {L : List Nat} {t i : Nat} (h : L.length = i) : (L ++ [t]).getD i 0 = t := by subst h; simp
theorem getD_put_ne {L : List Nat} {t i : Nat} (h : ¬ L.length = i) : (L ++ [t]).getD i 0 = L.getD i 0 := by
  simp only [List.getD_eq_getElem?_getD]
  by_cases h2 : i < L.length
  · rw [List.getElem?_append_left h2]
  · rw [List.getElem?_eq_none (by simp; omega), List.getElem?_eq_none (by omega)]
/-- The types' numbers of the functions among imports. -/
def tys (l : List Imp) : List Nat := (l.filter fun x => x.kind == 0).map (·.ty)
theorem tys_take {l : List Imp} {k : Nat} {x : Imp} (h : l[k]? = some x) : tys (l.take (k + 1)) = tys (l.take k) ++ if x.kind == 0 then [x.ty] else [] := by
  rw [List.take_add_one, h, Option.toList_some, tys, tys, List.filter_append, List.map_append]
  congr 1
  by_cases e : x.kind == 0 <;> simp [e]
theorem tys_len (l : List Imp) : (tys l).length ≤ l.length := by rw [tys, List.length_map]; exact List.length_filter_le _ _
theorem ftyps_eq (m : Mod) : ftyps m = tys m.imps ++ m.funcs := rfl
theorem cnt_eq (m : Mod) : cnt m = (ftyps m).length := by rw [cnt, ftyps, List.length_append, List.length_map]
theorem sizeFt : (Try.prog.info? 78).map (·.size) = some 2 := by kernel_rfl
theorem oneFt {w : World} {x : Ft} (h : FtOk w x) : (x.cs.toArray.all (·.oneCell')) = true := by
  obtain ⟨s1, c1, e1, _⟩ := h.1.1.form
  obtain ⟨s2, c2, e2, _⟩ := h.2.1.form
  simp [Ft.cs, e1, e2, Value.oneCell']
theorem below_put {W w w' : World} {r : Nat} (h : Below W.heap.size W w) (hf : Fr w w' (fun k => k = r)) (hr : W.heap.size ≤ r) : Below W.heap.size W w' := h.trans (hf.below h.size (fun k hk => by omega))
theorem ftyps_bound {W : World} {m : Mod} (hm : ModOk W m) : ∀ t ∈ ftyps m, t < 4294967296 := by
  intro t ht
  rcases List.mem_append.1 ht with ht | ht
  · obtain ⟨x, hx, rfl⟩ := List.mem_map.1 ht
    exact (hm.2.1.2.1 x (List.mem_filter.1 hx).1).1
  · exact hm.2.2.1.2.1 t ht
set_option maxRecDepth 100000 in
set_option maxHeartbeats 4000000 in
theorem rfunc_any {W : World} {m : Mod} (hm : ModOk W m) {i : Nat} (hi : i ≤ 4194304) :
    Calls Try.prog 41 #[.agg m.cs.toArray, .int .u32 i] W fun e w' => e = .returned (.tuple #[.agg (ftC (ftype m i)).toArray, .bool (ftype m i).isSome]) ∧ Below W.heap.size W w' := by
  have hl1 : (fimps m).length ≤ 1048576 := Nat.le_trans (fimps_le m) hm.2.1.2.2
  have hl2 : m.funcs.length ≤ 1048576 := hm.2.2.1.2.2
  have hl3 : m.imps.length ≤ 1048576 := hm.2.1.2.2
  have hl4 : m.types.length ≤ 1048576 := hm.1.2.2
  have HC := Lib.hid hm.2.1
  obtain ⟨s, cap, hiv, hs⟩ := hm.2.1.1.form
  have HS := Lib.hid hs
  have HD := Lib.hid hm.2.2.1
  obtain ⟨s2, cap2, hiv2, hs2⟩ := hm.2.2.1.1.form
  have HS2 := Lib.hid hs2
  have HE := Lib.hid hm.1
  obtain ⟨s3, cap3, hiv3, hs3⟩ := hm.1.1.form
  have HS3 := Lib.hid hs3
  clear hs hs2 hs3
  have HM := Lib.hid hm
  clear hm
  go_enter Try.func41, Try.ntmps41
  go_wp2_with (first | (refine wm_box _ rfl rfl rfl (fun w1 hb1 hl1 => ?_); have HB1 := Lib.hid hb1; have HL1 := Lib.hid hl1; have hc1 := hl1.c1; rw [hiv] at hc1; have hc2 := hl1.c2; rw [hiv2] at hc2; have hc3 := hl1.c0; rw [hiv3] at hc3; clear hb1 hl1; simp only [Act.put, List.setIfInBounds_toArray, List.set_cons_zero, List.set_cons_succ]) | (refine wm_load HL1.out _ rfl rfl rfl ?_; simp only [Act.put, List.setIfInBounds_toArray, List.set_cons_zero, List.set_cons_succ]) | (refine wm_loadw HL1.out _ (by first | rfl | (simp [Region.wanted, yielded, *]; done)) rfl rfl ?_; simp only [Act.put, List.setIfInBounds_toArray, List.set_cons_zero, List.set_cons_succ]))
  obtain ⟨w2, hw2⟩ : ∃ w2, w2 = w1.alloc (.cells #[.slice none 0 0, .slice none 0 0] 78) := ⟨_, rfl⟩
  have hb2 : Below w1.heap.size w1 w2 := hw2 ▸ (Below.refl _ _).alloc (Nat.le_refl _) _
  have HL2 := Lib.hid (show Lies w2 w1.heap.size 78 nilFt.toArray from hw2 ▸ Lies.new _ _ _)
  rw [← hw2]
  clear hw2
  replace hc1 := keepc hb2 hc1
  replace hc2 := keepc hb2 hc2
  replace hc3 := keepc hb2 hc3
  have hr : W.heap.size ≤ w1.heap.size := HB1.out.size
  have HB2 := Lib.hid (bt HB1.out hb2)
  clear hb2 HL1 HB1
  generalize w1.heap.size = r at HL2 hr ⊢
  go_loopw [6, 7, 8, 9] (fun n t fo k wr => ∃ j : Nat, j ≤ m.imps.length ∧ n = .int .u64 (tys (m.imps.take j)).length ∧ t = .int .u64 ((tys (m.imps.take j)).getD i 0 : Nat) ∧ fo = .bool (decide (i < (tys (m.imps.take j)).length)) ∧ k = .int .i64 j ∧ wr = w2)
    (fun _ _ _ k _ => m.imps.length - (intOf k).toNat)
  case atStart => exact ⟨0, by omega, rfl, rfl, rfl, rfl, rfl⟩
  case round =>
    obtain ⟨j, hj, rfl, rfl, rfl, rfl, rfl⟩ := hrel
    by_cases hlt : j < m.imps.length
    · obtain ⟨x, hx⟩ : ∃ x, m.imps[j]? = some x := ⟨_, List.getElem?_eq_getElem hlt⟩
      obtain ⟨g, off, rfl, hg⟩ := HS.out (by intro e; simp [e] at hlt)
      have hsl := HC.out.1
      rw [hiv] at hsl
      have hcell := (hsl.later HB2.out).cell hx (j := 2) rfl
      have hcell2 := (hsl.later HB2.out).cell hx (j := 3) rfl
      have hxb : x.ty < 4294967296 := (HC.out.2.1 x (List.mem_of_getElem? hx)).1
      have HX := Lib.hid (tys_take hx)
      have hln : (tys (m.imps.take j)).length ≤ 1048576 := by have := tys_len (m.imps.take j); rw [List.length_take] at this; omega
      clear hx hsl
      have HG := Lib.hid (rfl : tys (m.imps.take j) = tys (m.imps.take j))
      generalize tys (m.imps.take j) = L at HX hln ⊢
      have hkd := u8b0 x.kind
      cases hk0 : x.kind == 0 with
      | true =>
        rw [hk0] at hkd
        have hkd2 : (x.kind.toNat : Int) = 0 := by simpa using hkd
        rw [hkd2] at hcell
        by_cases hni : L.length = i
        · go_wp2_with fail
          refine ⟨⟨j + 1, by omega, ?_, ?_, ?_, by go_num, trivial⟩, by simp [intOf]; omega⟩
          all_goals rw [HX.out, hk0, if_pos rfl]
          · rw [List.length_append, hni]; rfl
          · rw [getD_put hni]
          · rw [List.length_append, hni, List.length_singleton, decide_eq_true (by omega)]
        · go_wp2_with fail
          refine ⟨⟨j + 1, by omega, ?_, ?_, ?_, by go_num, trivial⟩, by simp [intOf]; omega⟩
          all_goals rw [HX.out, hk0, if_pos rfl]
          · rw [List.length_append]; rfl
          · rw [getD_put_ne hni]
          · rw [List.length_append, List.length_singleton]
            exact congrArg Value.bool (decide_eq_decide.2 (by omega))
      | false =>
        rw [hk0] at hkd
        have hkd2 : ¬ (x.kind.toNat : Int) = 0 := by simpa using hkd
        go_wp2_with fail
        refine ⟨⟨j + 1, by omega, ?_, ?_, ?_, by go_num, trivial⟩, by simp [intOf]; omega⟩
        all_goals rw [HX.out, hk0]
        all_goals simp
    · obtain rfl : j = m.imps.length := by omega
      rw [List.take_length]
      have hln : (tys m.imps).length ≤ 1048576 := Nat.le_trans (tys_len _) hl3
      have HT := Lib.hid (show ftyps m = tys m.imps ++ m.funcs from rfl)
      have HFB := Lib.hid (ftyps_bound HM.out)
      generalize tys m.imps = L at HT hln ⊢
      by_cases hf : i < L.length
      · obtain ⟨t, ht⟩ : ∃ t, L[i]? = some t := ⟨_, List.getElem?_eq_getElem hf⟩
        have hd : L.getD i 0 = t := by rw [List.getD_eq_getElem?_getD, ht]; rfl
        have hft : (ftyps m)[i]? = some t := by rw [HT.out, List.getElem?_append_left hf, ht]
        have htb : t < 4294967296 := HFB.out t (List.mem_of_getElem? hft)
        rw [hd]
        have HFT := Lib.hid hft
        clear hft ht hd
        by_cases hlt2 : t < m.types.length
        · have hlt2' : ¬ m.types.length ≤ t := by omega
          obtain ⟨x, hx⟩ : ∃ x, m.types[t]? = some x := ⟨_, List.getElem?_eq_getElem hlt2⟩
          obtain ⟨g, off, rfl, hg⟩ := HS3.out (by intro e; simp [e] at hlt2)
          have hsl := HE.out.1
          rw [hiv3] at hsl
          have HSL := Lib.hid (hsl.later HB2.out)
          have hcell := HSL.out.cell hx (j := 0) rfl
          have hcell2 := HSL.out.cell hx (j := 1) rfl
          rw [Nat.add_zero] at hcell
          have HR := Lib.hid (show ftype m i = some x by rw [ftype, HFT.out]; exact hx)
          have HO := Lib.hid (oneFt (HE.out.2.1 x (List.mem_of_getElem? hx)))
          clear hx hsl
          go_wp2_with (refine wl_put HL2.out x.cs _ _ rfl rfl rfl rfl rfl sizeFt HO.out (fun w3 hL3 hF3 => ?_); have HL3 := Lib.hid hL3; have HF3 := Lib.hid hF3; clear hL3 hF3; try simp only [Act.put])
          (try simp only [Exit.inBlock, Exit.then])
          refine bodyPost_ret_by (results_ct rfl _ _ r x.cs _ rfl HL3.out Try.underlying78 rfl sizeFt) rfl ⟨?_, below_put HB2.out HF3.out hr⟩
          rw [HR.out]
          rfl
        · have hlt2' : m.types.length ≤ t := by omega
          have HR := Lib.hid (show ftype m i = none by rw [ftype, HFT.out]; exact List.getElem?_eq_none hlt2')
          go_wp2_with (refine wl_put HL2.out nilFt _ _ rfl rfl rfl rfl rfl sizeFt oneNil (fun w3 hL3 hF3 => ?_); have HL3 := Lib.hid hL3; have HF3 := Lib.hid hF3; clear hL3 hF3; try simp only [Act.put])
          (try simp only [Exit.inBlock, Exit.then])
          refine bodyPost_ret_by (results_ct rfl _ _ r nilFt _ rfl HL3.out Try.underlying78 rfl sizeFt) rfl ⟨?_, below_put HB2.out HF3.out hr⟩
          rw [HR.out]
          rfl
      · have HFI := Lib.hid hf
        by_cases hf2 : i - L.length < m.funcs.length
        · obtain ⟨j, hj2⟩ : ∃ j, i = L.length + j := ⟨i - L.length, by omega⟩
          have hj3 : j < m.funcs.length := by omega
          have hj4 : L.length ≤ i := by omega
          have e1 : (i : Int) - (L.length : Int) = (j : Int) := by omega
          obtain ⟨t, ht⟩ : ∃ t, m.funcs[j]? = some t := ⟨_, List.getElem?_eq_getElem hj3⟩
          have hft : (ftyps m)[i]? = some t := by rw [HT.out, hj2, List.getElem?_append_right (by omega), Nat.add_sub_cancel_left, ht]
          obtain ⟨g2, off2, rfl, hg2⟩ := HS2.out (by intro e; simp [e] at hj3)
          have hsl2 := HD.out.1
          rw [hiv2] at hsl2
          have hcellf := (hsl2.later HB2.out).cell ht (j := 0) rfl
          rw [Nat.add_zero, Nat.mul_one] at hcellf
          have htb : t < 4294967296 := HFB.out t (List.mem_of_getElem? hft)
          have HFT := Lib.hid hft
          clear hft ht hj2 hf2 hsl2
          by_cases hlt2 : t < m.types.length
          · have hlt2' : ¬ m.types.length ≤ t := by omega
            obtain ⟨x, hx⟩ : ∃ x, m.types[t]? = some x := ⟨_, List.getElem?_eq_getElem hlt2⟩
            obtain ⟨g, off, rfl, hg⟩ := HS3.out (by intro e; simp [e] at hlt2)
            have hsl := HE.out.1
            rw [hiv3] at hsl
            have HSL := Lib.hid (hsl.later HB2.out)
            have hcell := HSL.out.cell hx (j := 0) rfl
            have hcell2 := HSL.out.cell hx (j := 1) rfl
            rw [Nat.add_zero] at hcell
            have HR := Lib.hid (show ftype m i = some x by rw [ftype, HFT.out]; exact hx)
            have HO := Lib.hid (oneFt (HE.out.2.1 x (List.mem_of_getElem? hx)))
            clear hx hsl
            go_wp2_with (refine wl_put HL2.out x.cs _ _ rfl rfl rfl rfl rfl sizeFt HO.out (fun w3 hL3 hF3 => ?_); have HL3 := Lib.hid hL3; have HF3 := Lib.hid hF3; clear hL3 hF3; try simp only [Act.put])
            (try simp only [Exit.inBlock, Exit.then])
            refine bodyPost_ret_by (results_ct rfl _ _ r x.cs _ rfl HL3.out Try.underlying78 rfl sizeFt) rfl ⟨?_, below_put HB2.out HF3.out hr⟩
            rw [HR.out]
            rfl
          · have hlt2' : m.types.length ≤ t := by omega
            have HR := Lib.hid (show ftype m i = none by rw [ftype, HFT.out]; exact List.getElem?_eq_none hlt2')
            go_wp2_with (refine wl_put HL2.out nilFt _ _ rfl rfl rfl rfl rfl sizeFt oneNil (fun w3 hL3 hF3 => ?_); have HL3 := Lib.hid hL3; have HF3 := Lib.hid hF3; clear hL3 hF3; try simp only [Act.put])
            (try simp only [Exit.inBlock, Exit.then])
            refine bodyPost_ret_by (results_ct rfl _ _ r nilFt _ rfl HL3.out Try.underlying78 rfl sizeFt) rfl ⟨?_, below_put HB2.out HF3.out hr⟩
            rw [HR.out]
            rfl
        · have hj4 : L.length ≤ i := by omega
          obtain ⟨j, hj2⟩ : ∃ j, i = L.length + j := ⟨i - L.length, by omega⟩
          have hj3 : ¬ j < m.funcs.length := by omega
          have e1 : (i : Int) - (L.length : Int) = (j : Int) := by omega
          have HR := Lib.hid (show ftype m i = none by rw [ftype, HT.out, List.getElem?_eq_none (by rw [List.length_append]; omega)]; rfl)
          clear hj2 hf2
          go_wp2_with (refine wl_put HL2.out nilFt _ _ rfl rfl rfl rfl rfl sizeFt oneNil (fun w3 hL3 hF3 => ?_); have HL3 := Lib.hid hL3; have HF3 := Lib.hid hF3; clear hL3 hF3; try simp only [Act.put])
          (try simp only [Exit.inBlock, Exit.then])
          refine bodyPost_ret_by (results_ct rfl _ _ r nilFt _ rfl HL3.out Try.underlying78 rfl sizeFt) rfl ⟨?_, below_put HB2.out HF3.out hr⟩
          rw [HR.out]
          rfl
/-- Are two types the same? -/
def same (a b : Ft) : Bool := a.p == b.p && a.r == b.r
set_option maxRecDepth 100000 in
set_option maxHeartbeats 4000000 in
theorem rsame_any {W : World} {x y : Ft} (hx : FtOk W x) (hy : FtOk W y) :
    Calls Try.prog 42 #[.agg x.cs.toArray, .agg y.cs.toArray] W fun e w' => e = .returned (.bool (same x y)) ∧ Below W.heap.size W w' := by
  have HX := Lib.hid hx
  have HY := Lib.hid hy
  clear hx hy
  go_enter Try.func42, Try.ntmps42
  go_wp2_with (first | (refine wl_box x.cs _ rfl rfl rfl (fun w1 hb1 hl1 => ?_); have HB1 := Lib.hid hb1; have HL1 := Lib.hid hl1; clear hb1 hl1; simp only [Act.put, List.setIfInBounds_toArray, List.set_cons_zero, List.set_cons_succ]) | (refine wl_box y.cs _ rfl rfl rfl (fun w2 hb2 hl2 => ?_); have HB2 := Lib.hid hb2; have d0 : w2.cell? ⟨W.heap.size, 0, none⟩ = some x.pv := keepc hb2 (HL1.out.cell 0); have d1 : w2.cell? ⟨W.heap.size, 1, none⟩ = some x.rv := keepc hb2 (HL1.out.cell 1); have d2 : w2.cell? ⟨w1.heap.size, 0, none⟩ = some y.pv := hl2.cell 0; have d3 : w2.cell? ⟨w1.heap.size, 1, none⟩ = some y.rv := hl2.cell 1; have k0 := conv_of (HX.out.1.1.later (bt HB1.out hb2)); have k1 := conv_of (HX.out.2.1.later (bt HB1.out hb2)); have k2 := conv_of (HY.out.1.1.later (bt HB1.out hb2)); have k3 := conv_of (HY.out.2.1.later (bt HB1.out hb2)); have HB2 := Lib.hid (bt HB1.out hb2); have hbq := bst_beq x.p y.p; have hbr := bst_beq x.r y.r; clear hb2 hl2; simp only [Act.put, List.setIfInBounds_toArray, List.set_cons_zero, List.set_cons_succ]))
  · rename_i hq
    go_ret
    refine ⟨?_, HB2.out⟩
    rw [same, hq, beq_self_eq_true, Bool.true_and]
    rfl
  · rename_i hq
    go_ret
    refine ⟨?_, HB2.out⟩
    rw [same, beq_eq_false_iff_ne.2 hq, Bool.false_and]
    rfl
end Go.Proofs.Ytjafmclladiblaa.Gr
