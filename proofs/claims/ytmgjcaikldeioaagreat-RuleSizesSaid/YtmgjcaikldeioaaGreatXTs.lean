/- The stack of the typing in memory: New, top, Push, Pop, Open, Close, Dead, Label, Most. -/
import Derived.Test.YtmgjcaikldeioaaGreatXGj
import Derived.Test.YtmgjcaikldeioaaGreatXTr
import Derived.StillTailTactics
import Derived.Deep.QuietTactic
import Derived.BigQuiet
namespace Go.Proofs.YtmgjcaikldeioaaGreat.Ty
open Go Go.RowKit Go.Lib Kt Fm Gr

/-- A frame with its slices. -/
structure Fv where
 (f : Frm) (lv : Value) (ev : Value)
def Fv.cs (x : Fv) : List Value := [x.lv, x.ev, .int .i64 x.f.ht, .bool x.f.dead]
theorem Fv.len (x : Fv) : x.cs.length = 4 := rfl
/-- Bytes in a block of bytes, of one's own, that is not the operands' block. -/
def Imm (w : World) (H : Nat) (lv v : Value) (b : Bts) : Prop := WRow w (fun k => H ≤ k ∧ some k ≠ lv.ownBlock) 5 1 v b.length (b.flatMap u8c)
structure Stm (w : World) (H sb : Nat) (lv fv : Value) (FV : List Fv) (s : Stk) : Prop where
 cell : Lies w sb 172 #[lv, fv, .int .i64 s.most]
 hsb : H ≤ sb
 row : w.ownsRow H 5 1 lv s.l.length (s.l.flatMap u8c)
 frs : w.ownsRow H 178 4 fv FV.length (FV.flatMap Fv.cs)
 fs : FV.map (·.f) = s.fs
 imm : ∀ x ∈ FV, Imm w H lv x.lv x.f.lab ∧ Imm w H lv x.ev x.f.ends
 inv : Inv s
/-- Block k is none of the frames' slices'. -/
def Sepn (FV : List Fv) (k : Nat) : Prop := ∀ x ∈ FV, x.lv.ownBlock ≠ some k ∧ x.ev.ownBlock ≠ some k
theorem Sepn.snoc {FV : List Fv} {k : Nat} {x : Fv} (h : Sepn FV k) (h1 : x.lv.ownBlock ≠ some k) (h2 : x.ev.ownBlock ≠ some k) : Sepn (FV ++ [x]) k := fun y hy => by
 rcases List.mem_append.1 hy with hy | hy
 ·exact h y hy
 ·obtain rfl := List.mem_singleton.1 hy
  exact ⟨h1, h2⟩
theorem Sepn.set {FV : List Fv} {k n : Nat} {x y : Fv} (h : Sepn FV k) (hx : FV[n]? = some x) (h1 : y.lv = x.lv) (h2 : y.ev = x.ev) : Sepn (FV.set n y) k := fun z hz => by
 rcases List.mem_or_eq_of_mem_set hz with hm | rfl
 ·exact h z hm
 ·rw [h1, h2]; exact h x (List.mem_of_getElem? hx)
/-- The blocks that a stack is made of. -/
def Ms (sb : Nat) (lv fv : Value) : Nat → Prop := fun k => k = sb ∨ some k = lv.ownBlock ∨ some k = fv.ownBlock
section
variable {w w' : World} {H sb : Nat} {lv fv : Value} {FV : List Fv} {s : Stk}
theorem Stm.later (h : Stm w H sb lv fv FV s) (hb : Below w.heap.size w w') : Stm w' H sb lv fv FV s :=
 ⟨h.cell.below hb h.cell.lt, h.hsb, ownsRow_keep h.row hb, ownsRow_keep h.frs hb, h.fs, fun x hx => ⟨(h.imm x hx).1.kept (m := fun _ => False) (Fr.of_below hb _) (fun _ _ _ h => h), (h.imm x hx).2.kept (m := fun _ => False) (Fr.of_below hb _) (fun _ _ _ h => h)⟩, h.inv⟩
theorem info_u8 : (Tryz.prog.info? 5).map (fun i => (i.zero.map (·.cells.size), i.size, i.bytes)) = some (some 1, 1, 1) := by kernel_rfl
theorem und_l8 : Tryz.prog.underlying 49 = some (.slice 5) := by kernel_rfl
theorem size_l8 : (Tryz.prog.info? 49).map (·.size) = some 1 := by kernel_rfl
theorem one_u8 (x : UInt8) : ∀ u ∈ u8c x, u.oneCell' = true := by
 intro u hu
 simp only [u8c, List.mem_singleton] at hu
 subst hu
 rfl
end
theorem row_take {w : World} {H : Nat} {e : TypeId} {sl : Option Addr} {n c : Nat} {xs : List Value} (h : w.ownsRow H e 1 (.slice sl n c) n xs) {k : Nat} (hk : k ≤ n) : w.ownsRow H e 1 (.slice sl k c) k (xs.take k) := by
 have hx := h.1
 rw [Nat.mul_one] at hx
 refine ⟨by rw [List.length_take, Nat.mul_one]; omega, ?_⟩
 rcases h.2 with ⟨e1, rfl⟩ | ⟨g, cap, cur, e1, hb, hg, h1, h2, h3, h4⟩
 ·left
  cases e1
  obtain rfl : k = 0 := by omega
  exact ⟨rfl, rfl⟩
 ·right
  cases e1
  refine ⟨g, c, cur, rfl, hb, hg, by omega, h2, h3, ?_⟩
  rw [← h4, List.take_take]
  congr 1
  omega
section
variable {w w1 w2 : World} {H sb : Nat} {lv lv' fv : Value} {FV : List Fv} {s : Stk}
theorem Stm.imm_grow (h : Stm w H sb lv fv FV s) (hg : w.grownBy w1 lv.ownBlock) (hv : lv'.ownBlock = lv.ownBlock ∨ lv'.ownBlock = some w.heap.size) (hf : Fr w1 w2 (fun k => k = sb)) : ∀ x ∈ FV, Imm w2 H lv' x.lv x.f.lab ∧ Imm w2 H lv' x.ev x.f.ends := by
 have one : ∀ {v : Value} {b : Bts}, Imm w H lv v b → Imm w2 H lv' v b := fun {v b} hi => by
  have h1 : Fr w w2 (fun k => some k = lv.ownBlock ∨ k = sb) := by
   refine ⟨hf.os.trans hg.os, hf.tape.trans hg.tape, hf.output.trans hg.output, Nat.le_trans hg.size hf.size, fun i hi2 hn => ?_⟩
   exact (hf.block i (Nat.lt_of_lt_of_le hi2 hg.size) (fun e => hn (Or.inr e))).trans (hg.block i hi2 (fun e => hn (Or.inl e)))
  have h2 : WRow w2 (fun k => H ≤ k ∧ some k ≠ lv.ownBlock) 5 1 v b.length (b.flatMap u8c) := hi.kept h1 (fun k _ hk e => by
   obtain ⟨_, ⟨_, hne⟩, cur, hc⟩ := wrow_lt hi hk.symm
   rcases e with e | e
   ·exact hne e
   ·subst e
    rw [show w.heap[k]? = _ from h.cell] at hc
    cases hc)
  refine ⟨h2.1, ?_⟩
  rcases h2.2 with h0 | ⟨g, cap, cur, rfl, ⟨ho1, ho2⟩, hgk, rest⟩
  ·exact .inl h0
  ·refine .inr ⟨g, cap, cur, rfl, ⟨ho1, fun e => ?_⟩, hgk, rest⟩
   rcases hv with hv | hv
   ·exact ho2 (by rw [← hv]; exact e)
   ·rw [hv] at e
    have := (wrow_lt hi (g := g) rfl).1
    injection e with e
    omega
 exact fun x hx => ⟨one (h.imm x hx).1, one (h.imm x hx).2⟩
/-- More operands. -/
theorem Stm.grow {ts : Bts} {M : Nat} (h : Stm w H sb lv fv FV s) (hr : w1.ownsRow H 5 1 lv' (s.l.length + ts.length) (s.l.flatMap u8c ++ ts.flatMap u8c)) (hg : w.grownBy w1 lv.ownBlock) (hv : lv'.ownBlock = lv.ownBlock ∨ lv'.ownBlock = some w.heap.size)
  (hM : M = max s.most (s.l.length + ts.length)) (hl : Lies w2 sb 172 #[lv', fv, .int .i64 M]) (hf : Fr w1 w2 (fun k => k = sb)) : Stm w2 H sb lv' fv FV (push s ts) ∧ Fr w w2 (Ms sb lv fv) := by
 have f1 : FrT [5] w w1 := FrT.grown h.row hg
 have l1 := lies_frT h.cell f1 (by decide)
 have f2 : FrT [172] w1 w2 := FrT.field l1 hf
 refine ⟨⟨by rw [hM] at hl; exact hl, h.hsb, ?_, row_frT (row_frT h.frs f1 (by decide)) f2 (by decide), h.fs, h.imm_grow hg hv hf, h.inv.push ts⟩, ?_⟩
 ·have := row_frT hr f2 (by decide)
  rw [← List.flatMap_append] at this
  show w2.ownsRow H 5 1 lv' (s.l ++ ts).length ((s.l ++ ts).flatMap u8c)
  rw [List.length_append]
  exact this
 ·refine ⟨hf.os.trans hg.os, hf.tape.trans hg.tape, hf.output.trans hg.output, Nat.le_trans hg.size hf.size, fun i hi2 hn => ?_⟩
  exact (hf.block i (Nat.lt_of_lt_of_le hi2 hg.size) (fun e => hn (Or.inl e))).trans (hg.block i hi2 (fun e => hn (Or.inr (Or.inl e))))
theorem flat_take (l : Bts) (k : Nat) : (l.take k).flatMap u8c = (l.flatMap u8c).take k := by
 induction l generalizing k with
 | nil => simp
 | cons x r ih =>
  cases k with
  | zero => rfl
  | succ k => rw [List.take_succ_cons, List.flatMap_cons, List.flatMap_cons, ih]; rfl
/-- Fewer operands. -/
theorem Stm.cut {sl : Option Addr} {n c k : Nat} (h : Stm w H sb (.slice sl n c) fv FV s) (hn : n = s.l.length) (hk : k ≤ s.l.length) (hk2 : ∀ f, s.fs.getLast? = some f → f.ht ≤ k) (hl : Lies w2 sb 172 #[.slice sl k c, fv, .int .i64 s.most]) (hf : Fr w w2 (fun k => k = sb)) :
  Stm w2 H sb (.slice sl k c) fv FV { s with l := s.l.take k } ∧ Fr w w2 (Ms sb (.slice sl n c) fv) := by
 subst hn
 have f2 : FrT [172] w w2 := FrT.field h.cell hf
 have hob : (Value.slice sl k c).ownBlock = (Value.slice sl s.l.length c).ownBlock := by cases sl <;> rfl
 refine ⟨⟨hl, h.hsb, ?_, row_frT h.frs f2 (by decide), h.fs, h.imm_grow (w1 := w) ⟨rfl, rfl, rfl, Nat.le_refl _, fun _ _ _ => rfl⟩ (Or.inl hob) hf, h.inv.take hk2⟩, hf.mono fun k _ e => Or.inl e⟩
 have := row_take (row_frT h.row f2 (by decide)) hk
 show w2.ownsRow H 5 1 _ (s.l.take k).length ((s.l.take k).flatMap u8c)
 rw [flat_take, List.length_take, Nat.min_eq_left hk]
 exact this
end
set_option maxRecDepth 100000 in
set_option maxHeartbeats 4000000 in
theorem most_any {W : World} {H sb : Nat} {lv fv : Value} {FV : List Fv} {s : Stk} (h : Stm W H sb lv fv FV s) :
  Calls Tryz.prog 70 #[.pointer (some ⟨sb, 0, none⟩)] W fun e w' => e = .returned (.int .i64 s.most) ∧ w' = W := by
 have hc := h.cell.cell 2
 go_enter Tryz.func70, Tryz.ntmps70
 go_wp2_with fail
 go_ret
 exact ⟨rfl, rfl⟩
theorem size_int' : (Tryz.prog.info? 3).map (·.size) = some 1 := by kernel_rfl
set_option maxRecDepth 100000 in
set_option maxHeartbeats 4000000 in
theorem push_any {W : World} {H sb : Nat} {lv fv : Value} {FV : List Fv} {s : Stk} (h : Stm W H sb lv fv FV s) (hH : H ≤ W.heap.size) {v : Value} {ts : Bts} (hv : Sl W 1 u8c v ts) (hl : s.most + ts.length ≤ 1000000000) :
  Calls Tryz.prog 118 #[.pointer (some ⟨sb, 0, none⟩), v] W fun e w' => e = .returned (.tuple #[]) ∧ ∃ lv', Stm w' H sb lv' fv FV (push s ts) ∧ Fr W w' (Ms sb lv fv) ∧ (lv'.ownBlock = lv.ownBlock ∨ lv'.ownBlock = some W.heap.size) := by
 obtain ⟨sl, cl, rfl, _, _⟩ := row_form h.row
 obtain ⟨sf, cf, rfl, _, _⟩ := row_form h.frs
 have hc0 := h.cell.cell 0
 have HS := zh h
 have HV := zh hv
 have hml := h.inv.most
 clear h hv
 go_enter Tryz.func118, Tryz.ntmps118
 go_wp2_with (first | (refine wl_app (by_ := 1) _ _ rfl rfl und_l8 info_u8 (by decide) rfl HS.out.row (fun _ => rfl) rfl HV.out (fun y _ => one_u8 y) (by unfold maxLen; omega) (by omega) hH (fun v' w8 hr8 hg8 hv8 => ?_); obtain ⟨s8, c8, rfl, _, _⟩ := row_form hr8; have HR8 := zh hr8; have HG8 := zh hg8; have HV8 := zh hv8; have HL8 := zh (lies_frT HS.out.cell (FrT.grown HS.out.row hg8) (by decide)); clear hr8 hg8 hv8; try simp only [Act.put]) | (refine wl_fld (c0 := [.slice sl s.l.length cl, .slice sf FV.length cf, .int .i64 s.most]) HL8.out _ _ rfl rfl rfl rfl [.slice s8 (s.l.length + ts.length) c8] [.slice s8 (s.l.length + ts.length) c8, .slice sf FV.length cf, .int .i64 s.most] rfl size_l8 (by simp [Value.oneCell']) (by simp) rfl (fun w9 hl9 hf9 => ?_); have HL9 := zh hl9; have HF9 := zh hf9; clear hl9 hf9; try simp only [Act.put]))
 clear hc0
 have hc0 := HL9.out.cell 0
 have hc2 := HL9.out.cell 2
 go_still_tail 13, (by kernel_rfl)
 have hmx : max (s.most : Int) ((s.l.length : Int) + (ts.length : Int)) = ((max s.most (s.l.length + ts.length) : Nat) : Int) := by omega
 rw [hmx]
 change wpList _ _ _ _ _ w9.drew
 have hd : Below w9.heap.size w9 w9.drew := (Below.refl _ _).drew
 have HL10 := zh (HL9.out.below hd HL9.out.lt)
 have HF10 := zh (HF9.out.trans (Fr.of_below hd _))
 generalize w9.drew = w10 at HL10 HF10 ⊢
 clear hc0 hc2 hd HL9 HF9 HL8
 go_wp2_with (refine wl_fld (c0 := [.slice s8 (s.l.length + ts.length) c8, .slice sf FV.length cf, .int .i64 s.most]) HL10.out _ _ rfl rfl rfl rfl [.int .i64 (max s.most (s.l.length + ts.length) : Nat)] [.slice s8 (s.l.length + ts.length) c8, .slice sf FV.length cf, .int .i64 (max s.most (s.l.length + ts.length) : Nat)] rfl size_int' (by simp [Value.oneCell']) (by simp) rfl (fun w11 hl11 hf11 => ?_); have HL11 := zh hl11; have HF11 := zh hf11; clear hl11 hf11; try simp only [Act.put])
 obtain ⟨h1, h2⟩ := HS.out.grow HR8.out HG8.out HV8.out rfl HL11.out (HF10.out.trans HF11.out)
 go_end0
 exact ⟨rfl, _, h1, h2, HV8.out⟩
/-- Where the innermost frame lies. -/
structure Top (FV : List Fv) (fv : Value) (fb N n cf : Nat) (x : Fv) : Prop where
 fv : fv = .slice (some ⟨fb, 0, none⟩) N cf
 len : FV.length = N
 sub : (N : Int) - 1 = (n : Int)
 lt : n < N
 at_ : FV[n]? = some x
 bd : N ≤ 1000000000
 last : ∀ s : Stk, FV.map (·.f) = s.fs → s.fs.getLast? = some x.f
theorem Stm.top {w : World} {H sb : Nat} {lv fv : Value} {FV : List Fv} {s : Stk} (h : Stm w H sb lv fv FV s) (hne : s.fs ≠ []) (hbd : s.fs.length ≤ 1000000000) : ∃ fb N n cf x, Top FV fv fb N n cf x := by
 obtain ⟨sf, cf, rfl, _, hs⟩ := row_form h.frs
 have hl : FV.length = s.fs.length := by rw [← h.fs, List.length_map]
 have hp : 0 < s.fs.length := List.length_pos_iff.2 hne
 obtain ⟨fb, rfl⟩ := hs (by omega)
 obtain ⟨x, hx⟩ : ∃ x, FV[FV.length - 1]? = some x := ⟨_, List.getElem?_eq_getElem (by omega)⟩
 refine ⟨fb, FV.length, FV.length - 1, cf, x, rfl, rfl, by omega, by omega, hx, by omega, fun s' e => ?_⟩
 rw [← e, List.getLast?_map, List.getLast?_eq_getElem?, hx]
 rfl
set_option maxRecDepth 100000 in
set_option maxHeartbeats 4000000 in
theorem top_any {W : World} {H sb : Nat} {lv fv : Value} {FV : List Fv} {s : Stk} (h : Stm W H sb lv fv FV s) {fb N n cf : Nat} {x : Fv} (t : Top FV fv fb N n cf x) :
  Calls Tryz.prog 104 #[.pointer (some ⟨sb, 0, none⟩)] W fun e w' => e = .returned (.pointer (some ⟨fb, n * 4, none⟩)) ∧ Below W.heap.size W w' := by
 obtain ⟨rfl, hN, hq, hlt, _, hb, _⟩ := t
 have hc1 : W.cell? ⟨sb, 1, none⟩ = some (.slice (some ⟨fb, 0, none⟩) N cf) := h.cell.cell 1
 clear h hN
 have hN0 : ¬ N = 0 := by omega
 go_enter Tryz.func104, Tryz.ntmps104
 go_wp2_with fail
 refine wp_region_b [(0, true), (1, true), (2, true), (3, true), (4, true), (5, true), (6, true), (7, true), (8, true), (9, true), (10, true), (11, true)] (by kernel_rfl) (by kernel_rfl) (fun _ _ d _ _ h => by cases d <;> exact h) ?_
 intro V hbV
 replace hc1 := keepc hbV hc1
 have hS0 : Below V.heap.size V V := Below.refl _ _
 repeat (first | (refine hs_take (v := ?_) rfl rfl (fun w' hw' => ?_) ?_; rotate_left; (focus (have q0 := keepc hw' hc1; clear hw'; (try simp only [Act.put, sA, sB, sC]); go_simp; (try go_bits); (try (with_reducible rfl)))); (try simp only [Act.put, sA, sB, sC])) | (refine hs_skip rfl rfl ?_; (try simp only [Act.put, sA, sB, sC])))
 refine hs_done ?_
 go_wp2_with fail
 go_ret
 exact ⟨rfl, bt hbV hS0⟩
theorem flat_setc {x y : Fv} {j : Nat} (hj : j < 4) {c : Value} (hy : y.cs = x.cs.set j c) : ∀ {L : List Fv} {i : Nat}, L[i]? = some x → (L.flatMap Fv.cs).set (i * 4 + j) c = (L.set i y).flatMap Fv.cs
 | [], i, h => by cases h
 | z :: r, 0, h => by
  obtain rfl : z = x := by simpa using h
  rw [List.set_cons_zero, List.flatMap_cons, List.flatMap_cons, hy, Nat.zero_mul, Nat.zero_add, List.set_append_left _ _ (by rw [Fv.len]; exact hj)]
 | z :: r, i + 1, h => by
  rw [List.set_cons_succ, List.flatMap_cons, List.flatMap_cons, ← flat_setc hj hy (L := r) (i := i) (by simpa using h), List.set_append_right _ _ (by rw [Fv.len]; omega), Fv.len]
  congr 2
  omega
theorem wl_cell {P : Program} {ops : Array Oper} {rest : List Oper} {op : Oper} {a : Act} {w : World} {Q : Exit → Act → World → Prop} {base sz n g cap : Nat} {e ty : TypeId} {xs : List Value} (h : w.ownsRow base e sz (.slice (some ⟨g, 0, none⟩) n cap) n xs) {o : Nat} (ho : o < xs.length) (p q : Operand) (hgd : op.guard = none) (hop : op.op = .store ty p q)
  (hp : a.eval p = .pointer (some ⟨g, o, none⟩)) {v : Value} (hq : a.eval q = v) (hv : v.cells = [v].toArray) (hs : (P.info? ty).map (·.size) = some 1) (h1 : v.oneCell' = true)
  (hK : ∀ w', w'.ownsRow base e sz (.slice (some ⟨g, 0, none⟩) n cap) n (xs.set o v) → w.grownBy w' (some g) → wpList P ops Q rest (a.put op.dst undef) w') : wpList P ops Q (op :: rest) a w := by
 refine wpList_plain hgd fun K hK' => ?_
 have hr := row_over h o [v] (by simp; omega)
 have he : xs.take o ++ [v] ++ xs.drop (o + [v].length) = xs.set o v := by
  rw [List.set_eq_take_append_cons_drop, if_pos ho, List.append_assoc]
  rfl
 rw [he] at hr
 have hx := h.1
 have hc : (w.cell? ⟨g, o, none⟩).isSome = true := by rw [h.cellAt _ (by omega), List.getElem?_eq_getElem ho]; rfl
 have hst := run_storeCells_cells (P := P) g o [v] 0 w (fun j hj => by
  have h0 : j = 0 := by simpa using hj
  subst h0
  exact hc) (fun j _ => h.frozenAt _) (by simpa using h1)
 simp only [Nat.add_zero] at hst
 cases hq' : P.info? ty with
 | none => simp [hq'] at hs
 | some i' =>
  have hs' : i'.size = 1 := by simpa [hq'] using hs
  have hrun : (storeVar ty ⟨g, o, none⟩ v).run P w = .ok () (w.setCells g o [v]) := by
   simp [storeVar, sizeOf, typeInfo, hq', hv, hs', hst]
  unfold Oper.wp execOp
  simp only [hop, hp, hq, Instr.storeAt, Instr.sureAddr, Sem.run_bind, Sem.run_pure, Result.andThen_ok, hrun]
  exact hK' _ _ (hK _ hr.1 hr.2)
theorem frame_cell {w : World} {H sb : Nat} {lv fv : Value} {FV : List Fv} {s : Stk} (h : Stm w H sb lv fv FV s) {fb N n cf : Nat} {x : Fv} (t : Top FV fv fb N n cf x) {j : Nat} {c : Value} (hj : x.cs[j]? = some c) : w.cell? ⟨fb, n * 4 + j, none⟩ = some c := by
 obtain ⟨rfl, hN, _, _, hx, _, _⟩ := t
 subst hN
 exact row_at Fv.len h.frs hx j c hj
theorem size_bool' : (Tryz.prog.info? 4).map (·.size) = some 1 := by kernel_rfl
theorem row_two {w : World} {H sz n : Nat} {e : TypeId} {v : Value} {xs : List Value} (h : w.ownsRow H e sz v n xs) : (v = .slice none 0 0 ∧ n = 0) ∨ ∃ g cap, v = .slice (some ⟨g, 0, none⟩) n cap ∧ n ≤ cap := by
 rcases h.2 with h0 | ⟨g, cap, cur, rfl, _, _, h1, _⟩
 ·exact Or.inl h0
 ·exact Or.inr ⟨g, cap, rfl, h1⟩
/-- The frame's mark is set. -/
theorem Stm.mark {w w2 w3 : World} {H sb : Nat} {lv fv : Value} {FV : List Fv} {s : Stk} {l : Bts} {fb N n cf : Nat} {x : Fv} (h : Stm w2 H sb lv fv FV { s with l := l }) (t : Top FV fv fb N n cf x) (hs : FV.map (·.f) = s.fs) (hl : l = s.l.take x.f.ht)
  (hr : w3.ownsRow H 178 4 fv N ((FV.flatMap Fv.cs).set (n * 4 + 3) (.bool true))) (hg : w2.grownBy w3 (some fb)) (hF : Fr w w2 (Ms sb lv fv)) (hi : Inv s) : Stm w3 H sb lv fv (FV.set n ⟨{ x.f with dead := true }, x.lv, x.ev⟩) (kill s) ∧ Fr w w3 (Ms sb lv fv) := by
 have hlast := t.last s hs
 obtain ⟨rfl, hN, _, hlt, hx, _, _⟩ := t
 have hg' : w2.grownBy w3 (Value.slice (some ⟨fb, 0, none⟩) N cf).ownBlock := hg
 have hfr := h.frs
 rw [hN] at hfr
 have hT : FrT [178] w2 w3 := FrT.grown hfr hg'
 have hk : kill s = { s with l := s.l.take x.f.ht, fs := s.fs.dropLast ++ [{ x.f with dead := true }] } := by
  unfold Ty.kill
  rw [hlast]
 have hset : (FV.set n ⟨{ x.f with dead := true }, x.lv, x.ev⟩).map (·.f) = s.fs.dropLast ++ [{ x.f with dead := true }] := by
  rw [List.map_set, hs]
  obtain ⟨ys, e⟩ := List.getLast?_eq_some_iff.1 hlast
  have hl' : s.fs.length = N := by rw [← hs, List.length_map, hN]
  have hn : ys.length = n := by
   have : s.fs.length = ys.length + 1 := by rw [e]; simp
   omega
  rw [e, List.dropLast_concat, ← hn, List.set_append_right _ _ (Nat.le_refl _)]
  simp
 refine ⟨⟨?_, h.hsb, ?_, ?_, ?_, fun y hy => ?_, hi.kill⟩, Fr.trans hF ?_⟩
 ·rw [hk]; exact lies_frT h.cell hT (by decide)
 ·rw [hk]
  have := row_frT h.row hT (by decide)
  subst hl
  exact this
 ·rw [flat_setc (y := ⟨{ x.f with dead := true }, x.lv, x.ev⟩) (by decide) rfl hx] at hr
  rw [List.length_set, hN]
  exact hr
 ·rw [hk]; exact hset
 ·have hkeep : Imm w3 H lv y.lv y.f.lab ∧ Imm w3 H lv y.ev y.f.ends := by
   rcases List.mem_or_eq_of_mem_set hy with hm | rfl
   ·exact ⟨wrow_frT (h.imm y hm).1 hT (by decide), wrow_frT (h.imm y hm).2 hT (by decide)⟩
   ·have hm := List.mem_of_getElem? hx
    exact ⟨wrow_frT (h.imm x hm).1 hT (by decide), wrow_frT (h.imm x hm).2 hT (by decide)⟩
  exact hkeep
 ·exact (Fr.of_grown hg).mono fun k _ e => Or.inr (Or.inr e)
set_option maxRecDepth 100000 in
set_option maxHeartbeats 4000000 in
theorem dead_any {W : World} {H sb : Nat} {lv fv : Value} {FV : List Fv} {s : Stk} (h : Stm W H sb lv fv FV s) (hne : s.fs ≠ []) (hbd : s.fs.length ≤ 1000000000) :
  Calls Tryz.prog 121 #[.pointer (some ⟨sb, 0, none⟩)] W fun e w' => e = .returned (.tuple #[]) ∧ ∃ lv' FV', Stm w' H sb lv' fv FV' (kill s) ∧ Fr W w' (Ms sb lv fv) ∧ lv'.ownBlock = lv.ownBlock ∧ ∀ k, Sepn FV k → Sepn FV' k := by
 obtain ⟨fb, N, n, cf, x, ht⟩ := h.top hne hbd
 have HT := zh ht
 have hgl := ht.last s h.fs
 have hle : x.f.ht ≤ s.l.length := h.inv.top _ hgl
 have hfv := ht.fv
 have HS := zh h
 have HFS := zh h.fs
 have HIN := zh h.inv
 rcases row_two h.row with ⟨rfl, h0⟩ | ⟨g, cl, rfl, hcap⟩
 ·have hz : x.f.ht = 0 := by omega
  subst hfv
  go_enter Tryz.func121, Tryz.ntmps121
  go_wp2_with fail
  refine (top_any HS.out HT.out).mono ?_
  rintro en w1 ⟨rfl, hb1⟩
  have HS1 := zh (HS.out.later hb1)
  have HB1 := zh hb1
  have hc0 : w1.cell? ⟨sb, 0, none⟩ = some (.slice none 0 0) := HS1.out.cell.cell 0
  have hc2 : w1.cell? ⟨fb, n * 4 + 2, none⟩ = some (.int .i64 0) := by have := frame_cell HS1.out HT.out (j := 2) rfl; rw [hz] at this; exact this
  clear hb1
  go_wp2_with fail
  go_still_tail 12, (by kernel_rfl)
  change wpList _ _ _ _ _ w1.drew
  have hd : Below w1.heap.size w1 w1.drew := (Below.refl _ _).drew
  have HS2 := zh (HS1.out.later hd)
  have HB2 := zh (bt HB1.out hd)
  clear hc0 hc2 hd HS1 HB1
  generalize w1.drew = w2 at HS2 HB2 ⊢
  go_wp2_with (first | (refine wl_fld (c0 := [.slice none 0 0, .slice (some ⟨fb, 0, none⟩) N cf, .int .i64 s.most]) HS2.out.cell _ _ rfl rfl rfl rfl [.slice none 0 0] [.slice none 0 0, .slice (some ⟨fb, 0, none⟩) N cf, .int .i64 s.most] rfl size_l8 (by simp [Value.oneCell']) (by simp) rfl (fun w3 hl3 hf3 => ?_); have HC3 := zh (HS2.out.cut h0.symm (k := x.f.ht) hle (fun f hf => by rw [HT.out.last s HFS.out] at hf; obtain rfl := Option.some.inj hf; exact Nat.le_refl _) (by rw [hz]; exact hl3) hf3); clear hl3 hf3; try simp only [Act.put]) | (refine wl_cell (v := .bool true) (by have := HC3.out.1.frs; rw [HT.out.len] at this; exact this) (o := n * 4 + 3) (by rw [length_flat Fv.len, HT.out.len]; have := HT.out.lt; omega) _ _ rfl rfl rfl rfl rfl size_bool' rfl (fun w4 hr4 hg4 => ?_); have HR4 := zh hr4; have HG4 := zh hg4; clear hr4 hg4; try simp only [Act.put]))
  go_end0
  have HF2 : Fr W w2 (Ms sb (.slice none 0 0) (.slice (some ⟨fb, 0, none⟩) N cf)) := Fr.of_below HB2.out _
  obtain ⟨h1, h2⟩ := Stm.mark HC3.out.1 HT.out HFS.out rfl HR4.out HG4.out (Fr.trans HF2 HC3.out.2) HIN.out
  exact ⟨rfl, _, _, h1, h2, rfl, fun k hk => hk.set HT.out.at_ rfl rfl⟩
 ·have hkc : x.f.ht ≤ cl := Nat.le_trans hle hcap
  have hkc2 : (x.f.ht : Int) ≤ (cl : Int) := by omega
  clear h ht hne hbd hgl
  subst hfv
  go_enter Tryz.func121, Tryz.ntmps121
  go_wp2_with fail
  refine (top_any HS.out HT.out).mono ?_
  rintro en w1 ⟨rfl, hb1⟩
  have HS1 := zh (HS.out.later hb1)
  have HB1 := zh hb1
  have hc0 : w1.cell? ⟨sb, 0, none⟩ = some (.slice (some ⟨g, 0, none⟩) s.l.length cl) := HS1.out.cell.cell 0
  have hc2 : w1.cell? ⟨fb, n * 4 + 2, none⟩ = some (.int .i64 x.f.ht) := frame_cell HS1.out HT.out rfl
  clear hb1
  go_wp2_with fail
  go_still_tail 12, (by kernel_rfl)
  change wpList _ _ _ _ _ w1.drew
  have hd : Below w1.heap.size w1 w1.drew := (Below.refl _ _).drew
  have HS2 := zh (HS1.out.later hd)
  have HB2 := zh (bt HB1.out hd)
  clear hc0 hc2 hd HS1 HB1
  generalize w1.drew = w2 at HS2 HB2 ⊢
  go_wp2_with (first | (refine wl_fld (c0 := [.slice (some ⟨g, 0, none⟩) s.l.length cl, .slice (some ⟨fb, 0, none⟩) N cf, .int .i64 s.most]) HS2.out.cell _ _ rfl rfl rfl rfl [.slice (some ⟨g, 0, none⟩) x.f.ht cl] [.slice (some ⟨g, 0, none⟩) x.f.ht cl, .slice (some ⟨fb, 0, none⟩) N cf, .int .i64 s.most] rfl size_l8 (by simp [Value.oneCell']) (by simp) rfl (fun w3 hl3 hf3 => ?_); have HC3 := zh (HS2.out.cut rfl (k := x.f.ht) hle (fun f hf => by rw [HT.out.last s HFS.out] at hf; obtain rfl := Option.some.inj hf; exact Nat.le_refl _) hl3 hf3); clear hl3 hf3; try simp only [Act.put]) | (refine wl_cell (v := .bool true) (by have := HC3.out.1.frs; rw [HT.out.len] at this; exact this) (o := n * 4 + 3) (by rw [length_flat Fv.len, HT.out.len]; have := HT.out.lt; omega) _ _ rfl rfl rfl rfl rfl size_bool' rfl (fun w4 hr4 hg4 => ?_); have HR4 := zh hr4; have HG4 := zh hg4; clear hr4 hg4; try simp only [Act.put]))
  go_end0
  have HF2 : Fr W w2 (Ms sb (.slice (some ⟨g, 0, none⟩) s.l.length cl) (.slice (some ⟨fb, 0, none⟩) N cf)) := Fr.of_below HB2.out _
  obtain ⟨h1, h2⟩ := Stm.mark HC3.out.1 HT.out HFS.out rfl HR4.out HG4.out (Fr.trans HF2 HC3.out.2) HIN.out
  exact ⟨rfl, _, _, h1, h2, rfl, fun k hk => hk.set HT.out.at_ rfl rfl⟩
/-- What Pop tells. -/
def PopSays (W w' : World) (H sb : Nat) (lv fv : Value) (FV : List Fv) (s : Stk) (e : Ending) : Option (UInt8 × Stk) → Prop
 | some (t, s') => e = .returned (.tuple #[.int .u8 t.toNat, .bool true]) ∧ ∃ lv', Stm w' H sb lv' fv FV s' ∧ Fr W w' (Ms sb lv fv) ∧ lv'.ownBlock = lv.ownBlock
 | none => ∃ t : UInt8, e = .returned (.tuple #[.int .u8 t.toNat, .bool false]) ∧ Stm w' H sb lv fv FV s ∧ Below W.heap.size W w'
theorem wrap_ok {q : Nat} (h : q ≤ 1000000000) : IntKind.i64.wrap (q : Int) = (q : Int) := by rw [IntKind.wrap_i64]; omega
set_option maxRecDepth 100000 in
set_option maxHeartbeats 4000000 in
theorem pop_any {W : World} {H sb : Nat} {lv fv : Value} {FV : List Fv} {s : Stk} (h : Stm W H sb lv fv FV s) (hne : s.fs ≠ []) (hbd : s.fs.length ≤ 1000000000) (hm : s.most ≤ 1000000000) :
  Calls Tryz.prog 123 #[.pointer (some ⟨sb, 0, none⟩)] W fun e w' => PopSays W w' H sb lv fv FV s e (pop s) := by
 obtain ⟨fb, N, n, cf, x, ht⟩ := h.top hne hbd
 have HT := zh ht
 have hgl := ht.last s h.fs
 have hle : x.f.ht ≤ s.l.length := h.inv.top _ hgl
 have hlm : s.l.length ≤ s.most := h.inv.most
 have hfv := ht.fv
 have HS := zh h
 have HFS := zh h.fs
 have HGL := zh hgl
 by_cases hlt : x.f.ht < s.l.length
 ·obtain ⟨t, htl⟩ : ∃ t, s.l.getLast? = some t := by
   cases e : s.l.getLast? with
   | none => rw [List.getLast?_eq_none_iff] at e; rw [e] at hlt; simp at hlt
   | some t => exact ⟨t, rfl⟩
  have hp : pop s = some (t, { s with l := s.l.dropLast }) := by
   unfold pop
   rw [hgl]
   simp only
   rw [if_pos hlt, htl]
   rfl
  rw [hp]
  clear hp
  rcases row_two h.row with ⟨rfl, h0⟩ | ⟨g, cl, rfl, hcap⟩
  ·omega
  obtain ⟨q, hq⟩ : ∃ q, q = s.l.length - 1 := ⟨_, rfl⟩
  have hq1 : (s.l.length : Int) - 1 = (q : Int) := by omega
  have hql : q < s.l.length := by omega
  have hqc : q ≤ cl := by omega
  have hwq := wrap_ok (q := q) (by omega)
  have hqc2 : (q : Int) ≤ (cl : Int) := by omega
  have HD := zh (show s.l.dropLast = s.l.take q by rw [hq, List.dropLast_eq_take])
  have htq : s.l[q]? = some t := by rw [hq, ← List.getLast?_eq_getElem?]; exact htl
  have hxq : x.f.ht ≤ q := by omega
  have hlt2 : (x.f.ht : Int) < (s.l.length : Int) := by omega
  have HTQ := zh htq
  clear hq h ht hne hbd hgl htl htq
  subst hfv
  go_enter Tryz.func123, Tryz.ntmps123
  go_wp2_with fail
  refine (top_any HS.out HT.out).mono ?_
  rintro en w1 ⟨rfl, hb1⟩
  have HS1 := zh (HS.out.later hb1)
  have HB1 := zh hb1
  have hc0 : w1.cell? ⟨sb, 0, none⟩ = some (.slice (some ⟨g, 0, none⟩) s.l.length cl) := HS1.out.cell.cell 0
  have hc2 : w1.cell? ⟨fb, n * 4 + 2, none⟩ = some (.int .i64 x.f.ht) := frame_cell HS1.out HT.out rfl
  have hcl : w1.cell? ⟨g, q, none⟩ = some (.int .u8 t.toNat) := by
   have := row_at (en := u8c) (fun _ => rfl) HS1.out.row HTQ.out 0 _ rfl
   rw [Nat.mul_one, Nat.add_zero] at this
   exact this
  clear hb1
  go_wp2_with fail
  refine wp_region_b [(0, true), (1, true), (2, true), (3, true), (4, true), (5, true), (6, true), (7, true), (8, true), (9, true), (10, true)] (by kernel_rfl) (by kernel_rfl) (fun _ _ d _ _ h => by cases d <;> exact h) ?_
  intro V hbV
  replace hc0 := keepc hbV hc0
  replace hc2 := keepc hbV hc2
  replace hcl := keepc hbV hcl
  have hS0 : Below V.heap.size V V := Below.refl _ _
  repeat (first | (refine hs_take (v := ?_) rfl rfl (fun w' hw' => ?_) ?_; rotate_left; (focus (have q0 := keepc hw' hc0; have q1 := keepc hw' hc2; have q2 := keepc hw' hcl; clear hw'; (try simp only [Act.put, sA, sB, sC]); go_simp; (try go_bits); (try (with_reducible rfl)))); (try simp only [Act.put, sA, sB, sC])) | (refine hs_skip rfl rfl ?_; (try simp only [Act.put, sA, sB, sC])))
  refine hs_done ?_
  go_wp2_with fail
  refine wp_region_b [(0, true), (1, true), (2, true), (3, true), (4, true), (5, true), (6, true), (7, true), (8, true), (9, true), (10, true), (11, true), (12, true)] (by kernel_rfl) (by kernel_rfl) (fun _ _ d _ _ h => by cases d <;> exact h) ?_
  intro U hbU
  replace hc0 := keepc hbU hc0
  replace hc2 := keepc hbU hc2
  replace hcl := keepc hbU hcl
  have hS1 : Below U.heap.size U U := Below.refl _ _
  repeat (first | (refine hs_take (v := ?_) rfl rfl (fun w' hw' => ?_) ?_; rotate_left; (focus (have q0 := keepc hw' hc0; have q1 := keepc hw' hc2; have q2 := keepc hw' hcl; clear hw'; (try simp only [Act.put, sA, sB, sC]); go_simp; (try go_bits); (try (with_reducible rfl)))); (try simp only [Act.put, sA, sB, sC])) | (refine hs_skip rfl rfl ?_; (try simp only [Act.put, sA, sB, sC])))
  refine hs_done ?_
  have HS2 := zh (HS1.out.later (bt hbV hbU))
  have HB2 := zh (bt HB1.out (bt hbV hbU))
  clear hc2 hcl HS1 HB1 hbV hS0
  go_wp2_with fail
  go_still_tail 14, (by kernel_rfl)
  change wpList _ _ _ _ _ U.drew
  have hd : Below U.heap.size U U.drew := (Below.refl _ _).drew
  have HS3 := zh (HS2.out.later hd)
  have HB3 := zh (bt HB2.out hd)
  clear hc0 hd HS2 HB2
  generalize U.drew = w2 at HS3 HB3 ⊢
  go_wp2_with (first | (refine wl_fld (c0 := [.slice (some ⟨g, 0, none⟩) s.l.length cl, .slice (some ⟨fb, 0, none⟩) N cf, .int .i64 s.most]) HS3.out.cell _ _ rfl rfl rfl rfl [.slice (some ⟨g, 0, none⟩) q cl] [.slice (some ⟨g, 0, none⟩) q cl, .slice (some ⟨fb, 0, none⟩) N cf, .int .i64 s.most] rfl size_l8 (by simp [Value.oneCell']) (by simp) rfl (fun w3 hl3 hf3 => ?_); have HC3 := zh (HS3.out.cut rfl (k := q) (Nat.le_of_lt hql) (fun f hf => by rw [HGL.out] at hf; obtain rfl := Option.some.inj hf; exact hxq) hl3 hf3); clear hl3 hf3; try simp only [Act.put]))
  go_ret2
  have HF2 : Fr W w2 (Ms sb (.slice (some ⟨g, 0, none⟩) s.l.length cl) (.slice (some ⟨fb, 0, none⟩) N cf)) := Fr.of_below HB3.out _
  exact ⟨rfl, .slice (some ⟨g, 0, none⟩) q cl, by rw [HD.out]; exact HC3.out.1, Fr.trans HF2 HC3.out.2, rfl⟩
 ·have hlt2 : ¬ (x.f.ht : Int) < (s.l.length : Int) := by omega
  have hp : pop s = if x.f.dead then some (0, s) else none := by
   unfold pop
   rw [hgl]
   simp only
   rw [if_neg hlt]
  obtain ⟨sl, cl, rfl, _, _⟩ := row_form h.row
  obtain ⟨r, hr⟩ : ∃ r, r = pop s := ⟨_, rfl⟩
  rw [← hr] at hp ⊢
  have HP := zh hp
  clear hr
  clear h ht hne hbd hgl hp
  subst hfv
  go_enter Tryz.func123, Tryz.ntmps123
  go_wp2_with fail
  refine (top_any HS.out HT.out).mono ?_
  rintro en w1 ⟨rfl, hb1⟩
  have HS1 := zh (HS.out.later hb1)
  have HB1 := zh hb1
  have hc0 : w1.cell? ⟨sb, 0, none⟩ = some (.slice sl s.l.length cl) := HS1.out.cell.cell 0
  have hc2 : w1.cell? ⟨fb, n * 4 + 2, none⟩ = some (.int .i64 x.f.ht) := frame_cell HS1.out HT.out rfl
  have hc3 : w1.cell? ⟨fb, n * 4 + 3, none⟩ = some (.bool x.f.dead) := frame_cell HS1.out HT.out rfl
  clear hb1
  go_wp2_with fail
  refine wp_region_b [(0, true), (1, true), (2, true), (3, true), (4, true), (5, true), (6, true), (7, true), (8, true), (9, true), (10, true)] (by kernel_rfl) (by kernel_rfl) (fun _ _ d _ _ h => by cases d <;> exact h) ?_
  intro V hbV
  replace hc0 := keepc hbV hc0
  replace hc2 := keepc hbV hc2
  replace hc3 := keepc hbV hc3
  have hS0 : Below V.heap.size V V := Below.refl _ _
  repeat (first | (refine hs_take (v := ?_) rfl rfl (fun w' hw' => ?_) ?_; rotate_left; (focus (have q0 := keepc hw' hc0; have q1 := keepc hw' hc2; have q2 := keepc hw' hc3; clear hw'; (try simp only [Act.put, sA, sB, sC]); go_simp; (try go_bits); (try (with_reducible rfl)))); (try simp only [Act.put, sA, sB, sC])) | (refine hs_skip rfl rfl ?_; (try simp only [Act.put, sA, sB, sC])))
  refine hs_done ?_
  go_wp2_with fail
  refine wp_region_b [(0, true), (1, true), (2, true), (3, true), (4, true), (5, true)] (by kernel_rfl) (by kernel_rfl) (fun _ _ d _ _ h => by cases d <;> exact h) ?_
  intro U hbU
  replace hc3 := keepc hbU hc3
  have hS1 : Below U.heap.size U U := Below.refl _ _
  repeat (first | (refine hs_take (v := ?_) rfl rfl (fun w' hw' => ?_) ?_; rotate_left; (focus (have q0 := keepc hw' hc3; clear hw'; (try simp only [Act.put, sA, sB, sC]); go_simp; (try go_bits); (try (with_reducible rfl)))); (try simp only [Act.put, sA, sB, sC])) | (refine hs_skip rfl rfl ?_; (try simp only [Act.put, sA, sB, sC])))
  refine hs_done ?_
  go_wp2_with fail
  go_ret2
  have hB := bt HB1.out (bt hbV hbU)
  rw [HP.out]
  cases x.f.dead with
  | true =>
   rw [if_pos rfl]
   exact ⟨rfl, _, HS.out.later hB, Fr.of_below hB _, rfl⟩
  | false =>
   rw [if_neg (by simp)]
   exact ⟨0, rfl, HS.out.later hB, hB⟩
end Go.Proofs.YtmgjcaikldeioaaGreat.Ty
