/- The walk of BookPlays: the book and the document's, call by call. -/
import Derived.Test.YteeghdkejnhjnaaBoI
import Derived.Test.YteeghdkejnhjnaaBoJ
import Derived.Test.YteeghdkejnhjnaaBoK
import Derived.Test.YteeghdkejnhjnaaBoZ
import Derived.Test.YteeghdkejnhjnaaBoP
import Derived.Test.YteeghdkejnhjnaaBoY
import Derived.Deep.CutBlock
import Derived.Deep.CutRange
namespace Go.Proofs.Yteeghdkejnhjnaa.Bo
open Go Go.RowKit Kt Ad

/-! ### texts of BoN, BoT (a claim bears sixty files) -/
theorem wl_const {ops : Array Oper} {rest : List Oper} {op : Oper} {a : Act} {w : World} {Q : Exit → Act → World → Prop} (b : List UInt8) {C : Array Value} (hC : C = (b.map u8v).toArray) (p : Operand) (n c : Nat) (hgd : op.guard = none) (ho : op.op = .convert 25 25 p) (h0 : a.eval p = .slice (some ⟨w.heap.size, 0, none⟩) n c) (hn : n = b.length)
    (hk : ∀ w', Below w.heap.size w w' → Byt w' (.slice (some ⟨w.heap.size, 0, none⟩) n c) b → wpList Try.prog ops Q rest (a.put op.dst (.slice (some ⟨w.heap.size, 0, none⟩) n c)) w') : wpList Try.prog ops Q (op :: rest) a (w.alloc (.cells C 5)) := by
  subst hC hn
  have hl : Lies (w.alloc (.cells (b.map u8v).toArray 5)) w.heap.size 5 (b.map u8v).toArray := Lies.new _ _ _
  have hb := run_mark hl b.length c
  obtain ⟨hf, hc⟩ := freeze_fr hl
  refine wpList_plain hgd fun _ hK => ?_
  have hB : Below w.heap.size w ((w.alloc (.cells (b.map u8v).toArray 5)).freeze ⟨w.heap.size, (b.map u8v).toArray.size, none⟩ 1) :=
    ((Below.refl _ _).alloc (Nat.le_refl _) _).trans (hf.below (by simp) (fun k e => Nat.le_of_eq e.symm))
  have hs : w.heap.size < ((w.alloc (.cells (b.map u8v).toArray 5)).freeze ⟨w.heap.size, (b.map u8v).toArray.size, none⟩ 1).heap.size := Nat.lt_of_lt_of_le (by simp) hf.size
  have := hk _ hB ⟨_, c, rfl, fun _ => ⟨w.heap.size, 0, rfl, hs, fun j u hj => by rw [Nat.zero_add, hc]; simp [hj]⟩⟩
  simp only [List.size_toArray, List.length_map] at this
  unfold Oper.wp execOp
  simp [ho, h0, hb]
  exact hK _ _ this
theorem bslice_other (w : World) : (Instr.buildSlice 25 5 #[(0, .int .u8 111), (1, .int .u8 116), (2, .int .u8 104), (3, .int .u8 101), (4, .int .u8 114)]).run Try.prog w = .ok (.slice (some ⟨w.heap.size, 0, none⟩) 5 5) (w.alloc (.cells #[.int .u8 111, .int .u8 116, .int .u8 104, .int .u8 101, .int .u8 114] 5)) := by kernel_rfl
theorem wl_other {ops : Array Oper} {rest : List Oper} {o1 o2 : Oper} {a : Act} {w : World} {Q : Exit → Act → World → Prop} (hg1 : o1.guard = none) (ho1 : o1.op = .buildSlice 25 5 #[(0, .const (.int .u8 111)), (1, .const (.int .u8 116)), (2, .const (.int .u8 104)), (3, .const (.int .u8 101)), (4, .const (.int .u8 114))]) (p : Operand) (hg2 : o2.guard = none) (ho2 : o2.op = .convert 25 25 p)
    (h0 : (a.put o1.dst (.slice (some ⟨w.heap.size, 0, none⟩) 5 5)).eval p = .slice (some ⟨w.heap.size, 0, none⟩) 5 5)
    (hk : ∀ w', Below w.heap.size w w' → Byt w' (.slice (some ⟨w.heap.size, 0, none⟩) 5 5) [111, 116, 104, 101, 114] → wpList Try.prog ops Q rest ((a.put o1.dst (.slice (some ⟨w.heap.size, 0, none⟩) 5 5)).put o2.dst (.slice (some ⟨w.heap.size, 0, none⟩) 5 5)) w') : wpList Try.prog ops Q (o1 :: o2 :: rest) a w := by
  have hb := bslice_other w
  have hC : (#[.int .u8 111, .int .u8 116, .int .u8 104, .int .u8 101, .int .u8 114] : Array Value) = (([111, 116, 104, 101, 114] : List UInt8).map u8v).toArray := by kernel_rfl
  refine wpList_plain hg1 fun K hK => ?_
  unfold Oper.wp execOp
  simp only [ho1, List.map_toArray, List.map_cons, List.map_nil, Act.eval, hb, Sem.run_bind, Sem.run_pure, Result.andThen_ok]
  exact hK _ _ (wl_const [111, 116, 104, 101, 114] hC p 5 5 hg2 ho2 h0 rfl hk)
theorem bslice_more (w : World) : (Instr.buildSlice 25 4 #[(0, .int .u8 109), (1, .int .u8 111), (2, .int .u8 114), (3, .int .u8 101)]).run Try.prog w = .ok (.slice (some ⟨w.heap.size, 0, none⟩) 4 4) (w.alloc (.cells #[.int .u8 109, .int .u8 111, .int .u8 114, .int .u8 101] 5)) := by kernel_rfl
theorem wl_more {ops : Array Oper} {rest : List Oper} {o1 o2 : Oper} {a : Act} {w : World} {Q : Exit → Act → World → Prop} (hg1 : o1.guard = none) (ho1 : o1.op = .buildSlice 25 4 #[(0, .const (.int .u8 109)), (1, .const (.int .u8 111)), (2, .const (.int .u8 114)), (3, .const (.int .u8 101))]) (p : Operand) (hg2 : o2.guard = none) (ho2 : o2.op = .convert 25 25 p)
    (h0 : (a.put o1.dst (.slice (some ⟨w.heap.size, 0, none⟩) 4 4)).eval p = .slice (some ⟨w.heap.size, 0, none⟩) 4 4)
    (hk : ∀ w', Below w.heap.size w w' → Byt w' (.slice (some ⟨w.heap.size, 0, none⟩) 4 4) [109, 111, 114, 101] → wpList Try.prog ops Q rest ((a.put o1.dst (.slice (some ⟨w.heap.size, 0, none⟩) 4 4)).put o2.dst (.slice (some ⟨w.heap.size, 0, none⟩) 4 4)) w') : wpList Try.prog ops Q (o1 :: o2 :: rest) a w := by
  have hb := bslice_more w
  have hC : (#[.int .u8 109, .int .u8 111, .int .u8 114, .int .u8 101] : Array Value) = (([109, 111, 114, 101] : List UInt8).map u8v).toArray := by kernel_rfl
  refine wpList_plain hg1 fun K hK => ?_
  unfold Oper.wp execOp
  simp only [ho1, List.map_toArray, List.map_cons, List.map_nil, Act.eval, hb, Sem.run_bind, Sem.run_pure, Result.andThen_ok]
  exact hK _ _ (wl_const [109, 111, 114, 101] hC p 4 4 hg2 ho2 h0 rfl hk)

/-- A slice of n bytes in a block of bytes of which `own` speaks. -/
def Room (W : World) (own : Nat → Prop) (v : Value) (n : Nat) : Prop :=
  (v = .slice none 0 0 ∧ n = 0) ∨ ∃ g cap cur, v = .slice (some ⟨g, 0, none⟩) n cap ∧ own g ∧ W.heap[g]? = some (.cells cur 5 (0, 0)) ∧ n ≤ cap ∧ cap = cur.size
section
variable {W W' : World} {own m : Nat → Prop} {v : Value} {b : List UInt8} {n : Nat}
theorem Bts.room (h : Bts W own v b) : Room W own v b.length := by
  rcases h.1.2 with ⟨rfl, h0⟩ | ⟨g, cap, cur, rfl, _, hg, h1, h2, h3, h4⟩
  · exact .inl ⟨rfl, h0⟩
  · exact .inr ⟨g, cap, cur, rfl, h.2 g rfl, hg, h1, by omega⟩
theorem Room.later (h : Room W own v n) (hb : Below W.heap.size W W') : Room W' own v n := by
  rcases h with h0 | ⟨g, cap, cur, rfl, h0, hg, rest⟩
  · exact .inl h0
  · exact .inr ⟨g, cap, cur, rfl, h0, (hb.block g (Array.getElem?_eq_some_iff.1 hg).1).trans hg, rest⟩
theorem Room.form (h : Room W own v n) : ∃ s cap, v = .slice s n cap := by
  rcases h with ⟨rfl, rfl⟩ | ⟨g, cap, cur, rfl, _⟩
  · exact ⟨none, 0, rfl⟩
  · exact ⟨_, cap, rfl⟩
theorem Room.of (h : Room W own v n) : ∀ k, some k = v.ownBlock → own k ∧ ∃ cur, Lies W k 5 cur := by
  rcases h with ⟨rfl, rfl⟩ | ⟨g, cap, cur, rfl, h0, hg, _⟩
  · intro k e; cases e
  · intro k e
    injection e with e
    subst e
    exact ⟨h0, cur, hg⟩
theorem run_clear_room (h : Room W own v n) (ty : TypeId) :
    ∃ W', (Builtin.clear_ #[25] ty #[v]).run Try.prog W = .ok (.tuple #[]) W' ∧ Fr W W' (fun k => some k = v.ownBlock) ∧ ∀ own2 v2 n2, Room W own2 v2 n2 → Room W' own2 v2 n2 := by
  rcases h with ⟨rfl, _⟩ | ⟨g, cap, cur, rfl, _, hg, h1, h2⟩
  · refine ⟨W, ?_, Fr.refl _ _, fun _ _ _ h => h⟩
    simp [Builtin.clear_, run_underlying Try.underlying25]
  · by_cases h0 : n = 0
    · refine ⟨W, ?_, Fr.refl _ _, fun _ _ _ h => h⟩
      rw [h0]
      simp [Builtin.clear_, run_underlying Try.underlying25]
    · have hf : Fr W (W.setCells g 0 (List.replicate n (.int .u8 0))) (fun k => some k = (Value.slice (some ⟨g, 0, none⟩) n cap).ownBlock) :=
        ⟨World.os_setCells _ _ _ _, tape_setCells _ _ _ _, World.output_setCells _ _ _ _, Nat.le_of_eq (size_setCells _ _ _ _).symm, fun k hk hn => World.heap_setCells_other W g _ _ hk (fun e => hn (by rw [e]; rfl))⟩
      refine ⟨_, Lib.run_clear_slice (P := Try.prog) W _ _ ty (.int .u8 0) Try.underlying25 zeroU8 rfl rfl g 0 n cap (by omega) (fun j hj => ?_) (fun j hj => ?_), hf, fun own2 v2 n2 h => ?_⟩
      · simp only [World.cell?, hg, Nat.zero_add]
        rw [Array.getElem?_eq_getElem (by omega)]; rfl
      · simp [World.frozen?, hg]
      · rcases h with h | ⟨g2, cap2, cur2, rfl, ho, hg2, h3, h4⟩
        · exact .inl h
        · by_cases e : g2 = g
          · subst e
            rw [hg] at hg2
            cases hg2
            obtain ⟨cur', a1, a2, _⟩ := heap_setCells (List.replicate n (.int .u8 0)) 0 W cur hg
            exact .inr ⟨g2, cap2, cur', rfl, ho, a1, h3, by omega⟩
          · exact .inr ⟨g2, cap2, cur2, rfl, ho, (hf.block g2 (Array.getElem?_eq_some_iff.1 hg2).1 (fun e' => e (by injection e'))).trans hg2, h3, h4⟩
end
theorem wl_clear_room {ops : Array Oper} {rest : List Oper} {o : Oper} {a : Act} {w : World} {Q : Exit → Act → World → Prop} {own : Nat → Prop} {v : Value} {n : Nat} (h : Room w own v n) (p : Operand) (hg : o.guard = none)
    (hop : o.op = Op.call { callee := Callee.builtin Builtin.clear, args := #[p], argTypes := #[25] }) (hv : a.eval p = v)
    (hK : ∀ w', Fr w w' (fun k => some k = v.ownBlock) → (∀ own2 v2 n2, Room w own2 v2 n2 → Room w' own2 v2 n2) → wpList Try.prog ops Q rest (a.put o.dst (.tuple #[])) w') : wpList Try.prog ops Q (o :: rest) a w := by
  refine wpList_plain hg fun K' hK' => ?_
  obtain ⟨w', hrun, r1, r2⟩ := run_clear_room h o.type
  unfold Oper.wp
  simp [execOp, hop, resolve, invoke, builtin, hv, hrun, Result.andThen]
  exact hK' _ _ (hK w' r1 r2)
theorem oneCellEv (x : Ev) (hv : x.v.oneCell' = true) : x.cs.toArray.all (·.oneCell') = true := by
  simp only [Ev.cs, List.all_toArray, List.all_cons, List.all_nil, Bool.and_true, hv]
  rfl
theorem wl_storeEv {ops : Array Oper} {rest : List Oper} {op : Oper} {a : Act} {w : World} {Q : Exit → Act → World → Prop} (x : Ev) (hv : x.v.oneCell' = true) (p y : Operand) {c0 : Array Value} (hgd : op.guard = none) (ho : op.op = .store 66 p y)
    (hx : a.eval p = .pointer (some ⟨w.heap.size, 0, none⟩)) (hy : a.eval y = .agg x.cs.toArray) (hs : c0.size = 9)
    (hk : wpList Try.prog ops Q rest (a.put op.dst undef) (w.alloc (.cells x.cs.toArray 66))) : wpList Try.prog ops Q (op :: rest) a (w.alloc (.cells c0 66)) := by
  refine wpList_plain hgd fun _ hK => ?_
  unfold Oper.wp execOp
  simp only [ho, hx, hy, run_storeAt_new (P := Try.prog) w 66 c0 x.cs.toArray sizeEv hs (oneCellEv x hv), Sem.run_bind, Sem.run_pure, Result.andThen_ok]
  exact hK _ _ hk
/-- The cells of the k-th event of a row. -/
theorem row_range {W : World} {own : Nat → Prop} {g cap n : Nat} {E : List Ev} (h : WRow W own 66 9 (.slice (some ⟨g, 0, none⟩) n cap) n (E.flatMap Ev.cs)) {k : Nat} {x : Ev} (hk : E[k]? = some x) : W.rangeAt g (k * 9) x.cs := by
  intro j c hj
  have hjl : j < 9 := (List.getElem?_eq_some_iff.1 hj).1
  rw [wrow_cell Ev.len h hk hjl, hj]
theorem turn_mem2 {C : Cs} {k : Nat} {S : List (A8 × List UInt8)} (h : Bd k S (Al.turn (·.2) C)) : ∀ c ∈ C, c.2.2.length ≤ 1000000000 := fun c hc => by
  have := h.cds (c.1, c.2.2) (List.mem_map.2 ⟨c, hc, rfl⟩)
  exact Nat.le_trans this (by decide)
theorem turn_ln (C : Cs) : (Al.turn (·.2) C).length = C.length := List.length_map ..
section
variable {W : World} {own : Nat → Prop} {bl bm br : Nat} {vr vl vc : Value} {E F : List Ev} {C D : Cs}
theorem remit_own (h : Rk W own br vl vc F D) (ho : ∀ i, W.heap.size ≤ i → own i) (hN : F.length ≤ 1000000) (a : A8) {v : Value} {b : List UInt8} (hv : Byt W v b) :
    Calls Try.prog 24 #[.pointer (some ⟨br, 0, none⟩), a.v, v] W fun e w' => ∃ vn F', e = .returned (.int .i64 ((if 1024 < b.length then 3 else 0 : Nat) : Int)) ∧ Rk w' own br vn vc F' D ∧ said F' = said F ++ (if 1024 < b.length then [] else [(a, b)]) ∧ Fr W w' own := by
  by_cases hl : 1024 < b.length
  · rw [if_pos hl, if_pos hl]
    refine (remit_long a hv hl).mono ?_
    rintro e w' ⟨rfl, hb⟩
    exact ⟨vl, F, rfl, h.later hb, by simp, Fr.of_below hb _⟩
  · rw [if_neg hl, if_neg hl]
    refine (remit_any h ho hN a hv hl).mono ?_
    rintro e w' ⟨v', vn, rfl, hk, hf⟩
    exact ⟨vn, _, rfl, hk, by rw [said_append]; rfl, hf⟩
theorem cut_all (h : Bk W own bl bm vr E C) (k : Int) :
    Calls Try.prog 25 #[.pointer (some ⟨bl, 0, none⟩), .int .i64 k] W fun e w' => ∃ vn E', e = .returned (.int .i64 ((if 0 ≤ k ∧ k ≤ E.length then 0 else 5 : Nat) : Int)) ∧ Bk w' own bl bm vn E' C ∧ said E' = (if 0 ≤ k ∧ k ≤ E.length then (said E).take k.toNat else said E) ∧ Fr W w' own := by
  by_cases hk : 0 ≤ k ∧ k ≤ E.length
  · rw [if_pos hk, if_pos hk]
    obtain ⟨n, rfl⟩ : ∃ n : Nat, k = n := ⟨k.toNat, by omega⟩
    refine (cut_own h n (by omega)).mono ?_
    rintro e w' ⟨vn, rfl, hK, hf⟩
    exact ⟨vn, _, rfl, hK, by rw [said_takes, Int.toNat_natCast], hf⟩
  · rw [if_neg hk, if_neg hk]
    refine (cut_bad h k (by omega)).mono ?_
    rintro e w' ⟨rfl, rfl⟩
    exact ⟨vr, E, rfl, h, rfl, Fr.refl _ _⟩
theorem rcut_all (h : Rk W own br vl vc F D) (ho : ∀ i, W.heap.size ≤ i → own i) (hN : F.length ≤ 1000000) (k : Int) :
    Calls Try.prog 26 #[.pointer (some ⟨br, 0, none⟩), .int .i64 k] W fun e w' => ∃ vn F', e = .returned (.int .i64 ((if 0 ≤ k ∧ k ≤ F.length then 0 else 5 : Nat) : Int)) ∧ Rk w' own br vn vc F' D ∧ said F' = (if 0 ≤ k ∧ k ≤ F.length then (said F).take k.toNat else said F) ∧ Fr W w' own := by
  by_cases hk : 0 ≤ k ∧ k ≤ F.length
  · rw [if_pos hk, if_pos hk]
    obtain ⟨n, rfl⟩ : ∃ n : Nat, k = n := ⟨k.toNat, by omega⟩
    refine (rcut_ok h ho hN n (by omega)).mono ?_
    rintro e w' ⟨vn, rfl, hK, hf⟩
    exact ⟨vn, _, rfl, hK, by rw [said_takes, Int.toNat_natCast], hf⟩
  · rw [if_neg hk, if_neg hk]
    refine (rcut_bad h k (by omega)).mono ?_
    rintro e w' ⟨rfl, rfl⟩
    exact ⟨vl, F, rfl, h, rfl, Fr.refl _ _⟩
end
theorem addr_cells {W : World} {base g cap n : Nat} {l : List A8} (h : W.ownsRow base 24 8 (.slice (some ⟨g, 0, none⟩) n cap) n (addrCells l)) {k : Nat} {a : A8} (hk : l[k]? = some a) :
    W.cell? ⟨g, k * 8, none⟩ = some (.int .u8 a.x0.toNat) ∧ W.cell? ⟨g, k * 8 + 1, none⟩ = some (.int .u8 a.x1.toNat) ∧ W.cell? ⟨g, k * 8 + 2, none⟩ = some (.int .u8 a.x2.toNat) ∧ W.cell? ⟨g, k * 8 + 3, none⟩ = some (.int .u8 a.x3.toNat) ∧ W.cell? ⟨g, k * 8 + 4, none⟩ = some (.int .u8 a.x4.toNat) ∧ W.cell? ⟨g, k * 8 + 5, none⟩ = some (.int .u8 a.x5.toNat) ∧ W.cell? ⟨g, k * 8 + 6, none⟩ = some (.int .u8 a.x6.toNat) ∧ W.cell? ⟨g, k * 8 + 7, none⟩ = some (.int .u8 a.x7.toNat) := by
  have hl : ∀ x : A8, x.cs.length = 8 := fun _ => rfl
  exact ⟨row_cell hl h hk (j := 0) (by omega), row_cell hl h hk (j := 1) (by omega), row_cell hl h hk (j := 2) (by omega), row_cell hl h hk (j := 3) (by omega), row_cell hl h hk (j := 4) (by omega), row_cell hl h hk (j := 5) (by omega), row_cell hl h hk (j := 6) (by omega), row_cell hl h hk (j := 7) (by omega)⟩
theorem Bd.cut {k : Nat} {S T : List (A8 × List UInt8)} (h : Bd k S T) (n : Nat) : Bd k (S.take n) T := ⟨by have := h.len; rw [List.length_take]; omega, fun p hp => h.evs p (List.mem_of_mem_take hp), h.cds⟩

set_option maxRecDepth 100000 in
set_option maxHeartbeats 8000000 in
theorem law_plays {W : World} {v0 : Value} {X : List Do} (h0 : DoRow W v0 X) :
    Calls Try.prog 5 #[v0] W fun e w' => e = .returned (.bool true) ∧ Below W.heap.size W w' := by
  have HV0 := Lib.hid (fun (w : World) (hb : Below W.heap.size W w) => heavy_any (h0.below hb))
  obtain ⟨s0, cap0, rfl, hs0⟩ := h0.shape
  have HB0 := Lib.hid h0.byt
  have HS0 := Lib.hid hs0
  clear hs0 h0
  have HN := Lib.hid (known_any W)
  go_enter Try.func5, Try.ntmps5
  go_wp2_with fail
  refine HN.out.mono ?_
  rintro en w1 ⟨rfl, hb1⟩
  clear HN
  go_wp2_with fail
  refine (HV0.out w1 hb1).mono ?_
  rintro en w2 ⟨hv, rfl, hh, hb⟩
  have hb2 := hb1.trans (hb.mono hb1.size)
  clear hb hb1 HV0
  cases hv with
  | true =>
    go_wp2_with fail
    go_ret
    exact ⟨rfl, hb2⟩
  | false =>
    obtain ⟨hlX, hbX⟩ := hh rfl
    have HL0 := Lib.hid hbX
    clear hh hbX
    go_wp2_with fail
    refine (new_any _).mono ?_
    rintro en w4 ⟨bl, bm, rfl, hK, hb⟩
    have hW4 := hb2.trans (hb.mono hb2.size)
    have hsz4 := hW4.size
    have HP := Lib.hid (show Pb W (w4.alloc (.cells #[.slice none 0 0, .slice none 0 0] 54)) (fun k => w2.heap.size ≤ k ∧ k < w4.heap.size) (fun k => k = w4.heap.size) bl bm w4.heap.size (.slice none 0 0) (.slice none 0 0) (.slice none 0 0) [] [] [] [] from
      ⟨(hK.mono (fun k hl ho => ⟨ho, hl⟩)).alloc _, ⟨Lies.new w4 _ _, WRow.nil _ _ _ _, by simp, WRow.nil _ _ _ _, by simp, rfl⟩, fun k hk e => by omega, fun k hk => Nat.le_trans hb2.size hk.1, fun k hk => by omega, fun k hk => by simp only [World.size_alloc]; omega, fun k hk => by simp only [World.size_alloc]; omega, hW4.alloc hsz4 _⟩)
    clear hK hb hb2
    go_wp2_with fail
    go_loopw [3, 30] (fun l i wr => ∃ (k bl bm : Nat) (ownb ownr : Nat → Prop) (vr vl vc : Value) (E F : List Ev) (C D : Cs), k ≤ X.length ∧ l = .pointer (some ⟨bl, 0, none⟩) ∧ i = .int .i64 k ∧ Pb W wr ownb ownr bl bm w4.heap.size vr vl vc E F C D ∧ said E = said F ∧ Al.turn (·.2) C = Al.turn (·.2) D ∧ Bd (3 * k) (said E) (Al.turn (·.2) C))
      (fun _ i _ => X.length - (intOf i).toNat)
    case atStart => exact ⟨0, bl, bm, _, _, _, _, _, [], [], [], [], by omega, rfl, rfl, HP.out, rfl, rfl, ⟨Nat.le_refl _, by simp [said], by simp [Al.turn]⟩⟩
    case round =>
      clear HP hW4
      obtain ⟨k, bl, bm, ownb, ownr, vr, vl, vc, E, F, C, D, hk, rfl, rfl, hP, hEF, hCD, hbd⟩ := hrel
      have HP := Lib.hid hP
      have HEF := Lib.hid hEF
      have HCD := Lib.hid hCD
      have HBD := Lib.hid hbd
      clear hP hEF hCD hbd
      by_cases hlt : k < X.length
      · obtain ⟨x, hx⟩ : ∃ x, X[k]? = some x := ⟨_, List.getElem?_eq_getElem hlt⟩
        obtain ⟨b, off, rfl, hbl, hat⟩ := HS0.out (by intro e; simp [e] at hlt)
        have hby := (HB0.out x (List.mem_of_getElem? hx)).1
        have hlb := HL0.out x (List.mem_of_getElem? hx)
        have hd := (hat k x hx).below HP.out.below hbl
        clear hat hx
        obtain ⟨xk, xn, xa, xv, xb⟩ := x
        obtain ⟨sx, cx, hvx⟩ : ∃ sx cx, xv = .slice sx xb.length cx := by obtain ⟨s, c, e, _⟩ := hby; exact ⟨s, c, e⟩
        subst hvx
        replace hlb : xb.length ≤ 30000 := hlb
        have HD := Lib.hid hd
        have HBY := Lib.hid (show Byt W (.slice sx xb.length cx) xb from hby)
        clear hd hby
        go_wp2_with (first | (refine wb_load _ _ _ HD.out _ rfl rfl rfl ?_; simp only [Do.cs, Act.put, List.setIfInBounds_toArray, List.set_cons_zero, List.set_cons_succ]) | (refine wb_store ⟨xk, xn, xa, .slice sx xb.length cx, xb⟩ rfl _ _ rfl rfl rfl rfl rfl ?_; simp only [Do.cs, Act.put]))
        obtain ⟨W1, hW1⟩ : ∃ W1, W1 = wr.alloc (.cells (Do.cs ⟨xk, xn, xa, .slice sx xb.length cx, xb⟩).toArray 56) := ⟨_, rfl⟩
        have hb1 : Below wr.heap.size wr W1 := hW1 ▸ (Below.refl _ _).alloc (Nat.le_refl _) _
        have HX := Lib.hid (show Lies W1 wr.heap.size 56 (Do.cs ⟨xk, xn, xa, .slice sx xb.length cx, xb⟩).toArray from hW1 ▸ Lies.new wr _ _)
        rw [show wr.alloc (.cells #[.int .i64 xk, .int .i64 xn, .int .u8 xa.x0.toNat, .int .u8 xa.x1.toNat, .int .u8 xa.x2.toNat, .int .u8 xa.x3.toNat, .int .u8 xa.x4.toNat, .int .u8 xa.x5.toNat, .int .u8 xa.x6.toNat, .int .u8 xa.x7.toNat, .slice sx xb.length cx] 56) = W1 from hW1.symm]
        have HP1 := Lib.hid (HP.out.later hb1)
        have HBX := Lib.hid (HBY.out.later HP1.out.below)
        have hobx : ∀ i, ownb i → i ≠ wr.heap.size := fun i hi => by have := HP.out.lt i hi; omega
        have horx : ∀ i, ownr i → i ≠ wr.heap.size := fun i hi => by have := HP.out.ltr i hi; omega
        have HOBX := Lib.hid hobx
        have HORX := Lib.hid horx
        have hdx := HX.out.lt
        clear hW1 hb1 HP HD hobx horx
        generalize wr.heap.size = dx at HX HOBX HORX hdx ⊢
        refine (sclone_any HBX.out (by omega)).mono ?_
        rintro en w5 ⟨vt, rfl, ht, hb⟩
        obtain ⟨st, ct, rfl⟩ := ht.form
        obtain ⟨n1, hn1⟩ : ∃ n1, n1 = W1.heap.size := ⟨_, rfl⟩
        obtain ⟨n2, hn2⟩ : ∃ n2, n2 = w5.heap.size := ⟨_, rfl⟩
        have HT := Lib.hid (ht.mono (own' := fun i => n1 ≤ i ∧ i < n2) (fun i hl ho => ⟨hn1 ▸ ho, hn2 ▸ hl⟩))
        have HOBT := Lib.hid (show ∀ i, ownb i → i < n1 from fun i hi => hn1 ▸ HP1.out.lt i hi)
        have HORT := Lib.hid (show ∀ i, ownr i → i < n1 from fun i hi => hn1 ▸ HP1.out.ltr i hi)
        have HP5 := Lib.hid (HP1.out.later hb)
        have HX5 := Lib.hid (HX.out.below hb hdx)
        have hn5 : n2 ≤ w5.heap.size := Nat.le_of_eq hn2
        have hn12 : n1 ≤ n2 := by rw [hn1, hn2]; exact hb.size
        have hnx : dx < n1 := hn1 ▸ hdx
        have HLN := Lib.hid (show W.heap.size ≤ n1 from hn1 ▸ HP1.out.below.size)
        clear ht hb hn1 hn2 HP1 HX HBX hdx
        obtain ⟨d0, d1, d2, d3, d4, d5, d6, d7, d8, d9, d10⟩ := lies_dos HX5.out
        go_upto_block 2 with fail
        clear d0 d1 d2 d3 d4 d5 d6 d7 d8 d9 d10
        go_cut [3, 7, 8, 9, 30] from 30 to 193 (fun l t e f i wx => i = .int .i64 k ∧ t = .slice st xb.length ct ∧ ∃ (bl bm : Nat) (ownb ownr : Nat → Prop) (vr vl vc : Value) (E F : List Ev) (C D : Cs) (er : Int), l = .pointer (some ⟨bl, 0, none⟩) ∧ e = .int .i64 er ∧ f = .int .i64 er ∧ Pb W wx ownb ownr bl bm w4.heap.size vr vl vc E F C D ∧ said E = said F ∧ Al.turn (·.2) C = Al.turn (·.2) D ∧ Bd (3 * (k + 1)) (said E) (Al.turn (·.2) C) ∧ Lies wx dx 56 (Do.cs ⟨xk, xn, xa, .slice sx xb.length cx, xb⟩).toArray ∧ Bts wx (fun i => n1 ≤ i ∧ i < n2) (.slice st xb.length ct) xb ∧ (∀ i, ownb i → i ≠ dx ∧ (i < n1 ∨ n2 ≤ i)) ∧ (∀ i, ownr i → i ≠ dx ∧ (i < n1 ∨ n2 ≤ i)) ∧ n2 ≤ wx.heap.size)
        case first =>
          have hkinds : xk = 0 ∨ xk = 1 ∨ xk = 2 ∨ xk = 3 ∨ (xk ≠ 0 ∧ xk ≠ 1 ∧ xk ≠ 2 ∧ xk ≠ 3) := by omega
          rcases hkinds with rfl | rfl | rfl | rfl | ⟨m0, m1, m2, m3⟩
          · as_aux_lemma =>
              obtain ⟨d0, d1, d2, d3, d4, d5, d6, d7, d8, d9, d10⟩ := lies_dos HX5.out
              have hEl : E.length ≤ 1000000 := by have := HBD.out.len; rw [said_len] at this; omega
              have hFl : F.length ≤ 1000000 := by have := HBD.out.len; rw [HEF.out, said_len] at this; omega
              have hlEF : E.length = F.length := by rw [← said_len, HEF.out, said_len]
              have HLEF := Lib.hid hlEF
              clear hlEF
              go_wp2_with fail
              refine RP.region (RP.take 0 (RP.take 1 (RP.take 2 (RP.take 3 (RP.take 5 (RP.take 6 (RP.take 7 (RP.take 8 (RP.take 9 (RP.run 4 (RP.run 10 (RP.take 11 (RP.take 12 RP.done))))))))))))) (fun w' => Lies w' dx 56 (Do.cs ⟨0, xn, xa, .slice sx xb.length cx, xb⟩).toArray) (by as_aux_lemma => kernel_rfl) (by as_aux_lemma => kernel_rfl) (fun _ _ d _ _ h => by cases d <;> exact h) HX5.out.drew (fun hS => ?_)
              have HX6 := Lib.hid hS
              have HP6 := Lib.hid HP5.out.drew
              have HT6 := Lib.hid (show Bts w5.drew (fun i => n1 ≤ i ∧ i < n2) (.slice st xb.length ct) xb from HT.out.kept (m := fun _ => False) (Fr.drew _ _) (fun _ _ h => h))
              have hsz6 : n2 ≤ w5.drew.heap.size := hn5
              generalize w5.drew = V at HX6 HP6 HT6 hsz6 ⊢
              clear hS d0 d1 d2 d3 d4 d5 d6 d7 d8 d9 d10 HP5 HX5 HT
              repeat (first | (refine RP.t_take (v := ?_) rfl rfl (fun w' hw' => ?_) ?_; rotate_left; (focus ((obtain ⟨d0, d1, d2, d3, d4, d5, d6, d7, d8, d9, d10⟩ := lies_dos hw'); go_simp; (try go_bits); (try (with_reducible rfl)))); (try simp only [Act.put, List.setIfInBounds_toArray, List.set_cons_zero, List.set_cons_succ])) | (refine RP.t_skip rfl rfl ?_; (try simp only [Act.put, List.setIfInBounds_toArray, List.set_cons_zero, List.set_cons_succ])))
              refine RP.t_run rfl (fun KK hKK => ?_)
              go_simp
              have hc := emit_own HP6.out.bwide (fun i hi => Or.inr hi) hEl xa HT6.out.byt
              obtain ⟨er, her⟩ : ∃ er : Nat, (if 1024 < xb.length then 3 else 0) = er := ⟨_, rfl⟩
              rw [her] at hc
              refine hc.mono ?_
              rintro ex V1 ⟨vn6, E6, rfl, hk6, hs6, hf6⟩
              have HP7 := Lib.hid (HP6.out.book hk6 hf6)
              have HX7 := Lib.hid (lies_fr HX6.out hf6 (fun e => e.elim (fun e => HOBX.out dx e rfl) (fun e => by omega)))
              have HT7 := Lib.hid (HT6.out.kept hf6 (fun i hi e => e.elim (fun e => by have := HOBT.out i e; omega) (fun e => by omega)))
              have hsz7 : V.heap.size ≤ V1.heap.size := hf6.size
              have HS6 := Lib.hid hs6
              refine hKK.out _ _ HX7.out ?_
              clear hKK KK hc hk6 hs6 hf6 HP6 HX6 HT6
              (try simp only [Act.put, List.setIfInBounds_toArray, List.set_cons_zero, List.set_cons_succ])
              repeat (first | (refine RP.t_take (v := ?_) rfl rfl (fun w' hw' => ?_) ?_; rotate_left; (focus ((obtain ⟨d0, d1, d2, d3, d4, d5, d6, d7, d8, d9, d10⟩ := lies_dos hw'); go_simp; (try go_bits); (try (with_reducible rfl)))); (try simp only [Act.put, List.setIfInBounds_toArray, List.set_cons_zero, List.set_cons_succ])) | (refine RP.t_skip rfl rfl ?_; (try simp only [Act.put, List.setIfInBounds_toArray, List.set_cons_zero, List.set_cons_succ])))
              refine RP.t_run rfl (fun KK hKK => ?_)
              go_simp
              have HBY7 := Lib.hid (HBY.out.later HP7.out.below)
              have hc := remit_own HP7.out.rwide (fun i hi => Or.inr hi) hFl xa HBY7.out
              rw [her] at hc
              refine hc.mono ?_
              rintro ex V2 ⟨vn7, F7, rfl, hk7, hs7, hf7⟩
              have HP8 := Lib.hid (HP7.out.doc hk7 hf7)
              have HX8 := Lib.hid (lies_fr HX7.out hf7 (fun e => e.elim (fun e => HORX.out dx e rfl) (fun e => by omega)))
              have HT8 := Lib.hid (HT7.out.kept hf7 (fun i hi e => e.elim (fun e => by have := HORT.out i e; omega) (fun e => by omega)))
              have hsz8 : V1.heap.size ≤ V2.heap.size := hf7.size
              have HEF8 := Lib.hid (show said E6 = said F7 from by rw [HS6.out, hs7, HEF.out])
              have HBD8 := Lib.hid (show Bd (3 * (k + 1)) (said E6) (Al.turn (·.2) C) from by rw [HS6.out]; exact (HBD.out.emit xa xb).more (by omega))
              refine hKK.out _ _ HX8.out ?_
              clear hKK KK hc hk7 hs7 hf7 HP7 HX7 HT7 HS6
              (try simp only [Act.put, List.setIfInBounds_toArray, List.set_cons_zero, List.set_cons_succ])
              repeat (first | (refine RP.t_take (v := ?_) rfl rfl (fun w' hw' => ?_) ?_; rotate_left; (focus ((obtain ⟨d0, d1, d2, d3, d4, d5, d6, d7, d8, d9, d10⟩ := lies_dos hw'); go_simp; (try go_bits); (try (with_reducible rfl)))); (try simp only [Act.put, List.setIfInBounds_toArray, List.set_cons_zero, List.set_cons_succ])) | (refine RP.t_skip rfl rfl ?_; (try simp only [Act.put, List.setIfInBounds_toArray, List.set_cons_zero, List.set_cons_succ])))
              refine RP.t_done ?_
              go_wp2_with fail
              go_meet
              exact ⟨rfl, rfl, bl, bm, _, _, vn6, vn7, vc, E6, F7, C, D, er, rfl, rfl, rfl, HP8.out, HEF8.out, HCD.out, HBD8.out, HX8.out, HT8.out, (fun i hi => ⟨by rcases hi.1 with e | e; exact HOBX.out i e; omega, by rcases hi.1 with e | e; exact Or.inl (HOBT.out i e); exact Or.inr (by omega)⟩), (fun i hi => ⟨by rcases hi.1 with e | e; exact HORX.out i e; omega, by rcases hi.1 with e | e; exact Or.inl (HORT.out i e); exact Or.inr (by omega)⟩), by omega⟩
          · as_aux_lemma =>
              obtain ⟨d0, d1, d2, d3, d4, d5, d6, d7, d8, d9, d10⟩ := lies_dos HX5.out
              have hEl : E.length ≤ 1000000 := by have := HBD.out.len; rw [said_len] at this; omega
              have hFl : F.length ≤ 1000000 := by have := HBD.out.len; rw [HEF.out, said_len] at this; omega
              have hlEF : E.length = F.length := by rw [← said_len, HEF.out, said_len]
              have HLEF := Lib.hid hlEF
              clear hlEF
              go_wp2_with fail
              refine RP.region (RP.take 0 (RP.take 1 (RP.take 2 (RP.take 4 (RP.take 5 (RP.take 6 (RP.run 3 (RP.run 7 (RP.take 8 (RP.take 9 RP.done)))))))))) (fun w' => Lies w' dx 56 (Do.cs ⟨1, xn, xa, .slice sx xb.length cx, xb⟩).toArray) (by as_aux_lemma => kernel_rfl) (by as_aux_lemma => kernel_rfl) (fun _ _ d _ _ h => by cases d <;> exact h) HX5.out.drew (fun hS => ?_)
              have HX6 := Lib.hid hS
              have HP6 := Lib.hid HP5.out.drew
              have HT6 := Lib.hid (show Bts w5.drew (fun i => n1 ≤ i ∧ i < n2) (.slice st xb.length ct) xb from HT.out.kept (m := fun _ => False) (Fr.drew _ _) (fun _ _ h => h))
              have hsz6 : n2 ≤ w5.drew.heap.size := hn5
              generalize w5.drew = V at HX6 HP6 HT6 hsz6 ⊢
              clear hS d0 d1 d2 d3 d4 d5 d6 d7 d8 d9 d10 HP5 HX5 HT
              repeat (first | (refine RP.t_take (v := ?_) rfl rfl (fun w' hw' => ?_) ?_; rotate_left; (focus ((obtain ⟨d0, d1, d2, d3, d4, d5, d6, d7, d8, d9, d10⟩ := lies_dos hw'); go_simp; (try go_bits); (try (with_reducible rfl)))); (try simp only [Act.put, List.setIfInBounds_toArray, List.set_cons_zero, List.set_cons_succ])) | (refine RP.t_skip rfl rfl ?_; (try simp only [Act.put, List.setIfInBounds_toArray, List.set_cons_zero, List.set_cons_succ])))
              refine RP.t_run rfl (fun KK hKK => ?_)
              go_simp
              have hc := cut_all HP6.out.bwide xn
              obtain ⟨er, her⟩ : ∃ er : Nat, (if 0 ≤ xn ∧ xn ≤ E.length then 0 else 5) = er := ⟨_, rfl⟩
              rw [her] at hc
              refine hc.mono ?_
              rintro ex V1 ⟨vn6, E6, rfl, hk6, hs6, hf6⟩
              have HP7 := Lib.hid (HP6.out.book hk6 hf6)
              have HX7 := Lib.hid (lies_fr HX6.out hf6 (fun e => e.elim (fun e => HOBX.out dx e rfl) (fun e => by omega)))
              have HT7 := Lib.hid (HT6.out.kept hf6 (fun i hi e => e.elim (fun e => by have := HOBT.out i e; omega) (fun e => by omega)))
              have hsz7 : V.heap.size ≤ V1.heap.size := hf6.size
              have HS6 := Lib.hid hs6
              refine hKK.out _ _ HX7.out ?_
              clear hKK KK hc hk6 hs6 hf6 HP6 HX6 HT6
              (try simp only [Act.put, List.setIfInBounds_toArray, List.set_cons_zero, List.set_cons_succ])
              repeat (first | (refine RP.t_take (v := ?_) rfl rfl (fun w' hw' => ?_) ?_; rotate_left; (focus ((obtain ⟨d0, d1, d2, d3, d4, d5, d6, d7, d8, d9, d10⟩ := lies_dos hw'); go_simp; (try go_bits); (try (with_reducible rfl)))); (try simp only [Act.put, List.setIfInBounds_toArray, List.set_cons_zero, List.set_cons_succ])) | (refine RP.t_skip rfl rfl ?_; (try simp only [Act.put, List.setIfInBounds_toArray, List.set_cons_zero, List.set_cons_succ])))
              refine RP.t_run rfl (fun KK hKK => ?_)
              go_simp
              have HBY7 := Lib.hid (HBY.out.later HP7.out.below)
              have hc := rcut_all HP7.out.rwide (fun i hi => Or.inr hi) hFl xn
              rw [← HLEF.out, her] at hc
              refine hc.mono ?_
              rintro ex V2 ⟨vn7, F7, rfl, hk7, hs7, hf7⟩
              have HP8 := Lib.hid (HP7.out.doc hk7 hf7)
              have HX8 := Lib.hid (lies_fr HX7.out hf7 (fun e => e.elim (fun e => HORX.out dx e rfl) (fun e => by omega)))
              have HT8 := Lib.hid (HT7.out.kept hf7 (fun i hi e => e.elim (fun e => by have := HORT.out i e; omega) (fun e => by omega)))
              have hsz8 : V1.heap.size ≤ V2.heap.size := hf7.size
              have HEF8 := Lib.hid (show said E6 = said F7 from by rw [HS6.out, hs7, HEF.out, HLEF.out])
              have HBD8 := Lib.hid (show Bd (3 * (k + 1)) (said E6) (Al.turn (·.2) C) from by rw [HS6.out]; split; exact (HBD.out.cut _).more (by omega); exact HBD.out.more (by omega))
              refine hKK.out _ _ HX8.out ?_
              clear hKK KK hc hk7 hs7 hf7 HP7 HX7 HT7 HS6
              (try simp only [Act.put, List.setIfInBounds_toArray, List.set_cons_zero, List.set_cons_succ])
              repeat (first | (refine RP.t_take (v := ?_) rfl rfl (fun w' hw' => ?_) ?_; rotate_left; (focus ((obtain ⟨d0, d1, d2, d3, d4, d5, d6, d7, d8, d9, d10⟩ := lies_dos hw'); go_simp; (try go_bits); (try (with_reducible rfl)))); (try simp only [Act.put, List.setIfInBounds_toArray, List.set_cons_zero, List.set_cons_succ])) | (refine RP.t_skip rfl rfl ?_; (try simp only [Act.put, List.setIfInBounds_toArray, List.set_cons_zero, List.set_cons_succ])))
              refine RP.t_done ?_
              go_wp2_with fail
              go_meet
              exact ⟨rfl, rfl, bl, bm, _, _, vn6, vn7, vc, E6, F7, C, D, er, rfl, rfl, rfl, HP8.out, HEF8.out, HCD.out, HBD8.out, HX8.out, HT8.out, (fun i hi => ⟨by rcases hi.1 with e | e; exact HOBX.out i e; omega, by rcases hi.1 with e | e; exact Or.inl (HOBT.out i e); exact Or.inr (by omega)⟩), (fun i hi => ⟨by rcases hi.1 with e | e; exact HORX.out i e; omega, by rcases hi.1 with e | e; exact Or.inl (HORT.out i e); exact Or.inr (by omega)⟩), by omega⟩
          · as_aux_lemma =>
              obtain ⟨d0, d1, d2, d3, d4, d5, d6, d7, d8, d9, d10⟩ := lies_dos HX5.out
              go_wp2_with fail
              refine (setcode_own HP5.out.bwide (fun i hi => Or.inr hi) xa HT.out.byt (by omega)).mono ?_
              rintro en w6 ⟨C2, rfl, hk6, hs6, hf6⟩
              have HP6 := Lib.hid (HP5.out.book hk6 hf6)
              have HX6 := Lib.hid (lies_fr HX5.out hf6 (fun e => e.elim (fun e => HOBX.out dx e rfl) (fun e => by omega)))
              have HT6 := Lib.hid (HT.out.kept hf6 (fun i hi e => e.elim (fun e => by have := HOBT.out i e; omega) (fun e => by omega)))
              have hsz6 : w5.heap.size ≤ w6.heap.size := hf6.size
              have HBY6 := Lib.hid (HBY.out.later HP6.out.below)
              have HC2 := Lib.hid hs6
              clear hk6 hs6 hf6 d0 d1 d2 d3 d4 d5 d6 d7 d8 d9 d10 HP5 HX5 HT
              obtain ⟨d0, d1, d2, d3, d4, d5, d6, d7, d8, d9, d10⟩ := lies_dos HX6.out
              go_wp2_with fail
              have hDl : D.length ≤ 100000 := by have := HBD.out.len; rw [HCD.out, turn_ln] at this; omega
              refine (rsetcode_any HP6.out.rwide (fun i hi => Or.inr hi) hDl xa HBY6.out (by omega)).mono ?_
              rintro en w7 ⟨rfl, vc7, D7, hk7, hs7, hf7⟩
              have HP7 := Lib.hid (HP6.out.doc hk7 hf7)
              have HX7 := Lib.hid (lies_fr HX6.out hf7 (fun e => e.elim (fun e => HORX.out dx e rfl) (fun e => by omega)))
              have HT7 := Lib.hid (HT6.out.kept hf7 (fun i hi e => e.elim (fun e => by have := HORT.out i e; omega) (fun e => by omega)))
              have hsz7 : w6.heap.size ≤ w7.heap.size := hf7.size
              have HCD7 := Lib.hid (show Al.turn (·.2) C2 = Al.turn (·.2) D7 from by
                rw [HC2.out, hs7, HCD.out]
                by_cases h0 : xb = []
                · rw [if_pos h0, decide_eq_true h0, Al.insGo_true]
                · rw [if_neg h0, decide_eq_false h0]; rfl)
              have HBD7 := Lib.hid (show Bd (3 * (k + 1)) (said E) (Al.turn (·.2) C2) from by rw [HC2.out]; exact (HBD.out.set xa xb hlb).more (by omega))
              clear hk7 hs7 hf7 d0 d1 d2 d3 d4 d5 d6 d7 d8 d9 d10 HP6 HX6 HT6
              go_wp2_with fail
              go_meet
              exact ⟨rfl, rfl, bl, bm, _, _, vr, vl, vc7, E, F, C2, D7, 0, rfl, rfl, rfl, HP7.out, HEF.out, HCD7.out, HBD7.out, HX7.out, HT7.out, (fun i hi => ⟨by rcases hi.1 with e | e; exact HOBX.out i e; omega, by rcases hi.1 with e | e; exact Or.inl (HOBT.out i e); exact Or.inr (by omega)⟩), (fun i hi => ⟨by rcases hi.1 with e | e; exact HORX.out i e; omega, by rcases hi.1 with e | e; exact Or.inl (HORT.out i e); exact Or.inr (by omega)⟩), by omega⟩
          · as_aux_lemma =>
              obtain ⟨d0, d1, d2, d3, d4, d5, d6, d7, d8, d9, d10⟩ := lies_dos HX5.out
              have hEl : E.length ≤ 1000000 := by have := HBD.out.len; rw [said_len] at this; omega
              go_wp2_with fail
              refine (copy_any HP5.out.b).mono ?_
              rintro en w6 ⟨bl6, bm6, vr6, rfl, hk6, _, _, hbl6, hbm6, hb6⟩
              have HN6 := Lib.hid hk6
              have HO6 := Lib.hid ((HP5.out.b.later hb6).mono (own' := fun i => ownb i ∨ w5.heap.size ≤ i) (fun i _ h => Or.inl h))
              have HF6 := Lib.hid (Fr.of_below hb6 (fun i => ownb i ∨ w5.heap.size ≤ i))
              have HX6 := Lib.hid (HX5.out.below hb6 HX5.out.lt)
              have hne1 : bl ≠ bl6 := fun e => by have := HP5.out.b.cell.lt; omega
              have hne2 : bm ≠ bm6 := fun e => by have := HP5.out.b.map.lt; omega
              have HNE := Lib.hid (And.intro hne1 hne2)
              have HDX := Lib.hid (show ¬ (ownb dx ∨ w5.heap.size ≤ dx) from fun e => by
                rcases e with e | e
                · exact HOBX.out dx e rfl
                · have := HX5.out.lt; omega)
              clear hk6 hb6 hbl6 hbm6 hne1 hne2 d0 d1 d2 d3 d4 d5 d6 d7 d8 d9 d10
              obtain ⟨d0, d1, d2, d3, d4, d5, d6, d7, d8, d9, d10⟩ := lies_dos HX6.out
              go_wp2_with (refine wl_other rfl rfl _ rfl rfl rfl (fun w7 hb7 hy7 => ?_); have HN7 := Lib.hid (HN6.out.later hb7); have HO7 := Lib.hid (HO6.out.later hb7); have HF7 := Lib.hid (HF6.out.trans (Fr.of_below hb7 _)); have HX7 := Lib.hid (HX6.out.below hb7 HX6.out.lt); have HY7 := Lib.hid hy7; clear hb7 hy7 HN6 HO6 HF6 HX6; simp only [Act.put])
              refine (emit_any HO7.out hEl xa HY7.out (by decide)).mono ?_
              rintro en w8 ⟨v8, vn8, rfl, hk8, hf8, hst8, _, _⟩
              have HN8 := Lib.hid (HN7.out.aside hf8 hst8 (Nat.le_refl _) HO7.out.cell HNE.out.1 (fun i e => by obtain ⟨_, _, cur, hg⟩ := wrow_lt HO7.out.row e.symm; exact ⟨cur, hg⟩))
              have HO8 := Lib.hid (hk8.mono (own' := fun i => ownb i ∨ w5.heap.size ≤ i) (fun i _ h => h.elim id (fun h => Or.inr (Nat.le_trans HF7.out.size h))))
              have HF8 := Lib.hid (HF7.out.trans (hf8.mono (fun i _ e => by
                rcases e with rfl | e
                · exact HO7.out.obl
                · exact (wrow_lt HO7.out.row e.symm).2.1)))
              have HX8 := Lib.hid (lies_fr HX7.out hf8 (fun e => by
                rcases e with e | e
                · exact HDX.out (e ▸ HO7.out.obl)
                · exact HDX.out (wrow_lt HO7.out.row e.symm).2.1))
              clear hk8 hf8 hst8 HN7 HO7 HF7 HX7 HY7 d0 d1 d2 d3 d4 d5 d6 d7 d8 d9 d10
              obtain ⟨d0, d1, d2, d3, d4, d5, d6, d7, d8, d9, d10⟩ := lies_dos HX8.out
              go_wp2_with fail
              refine (cut_ok HO8.out 1 (by simp)).mono ?_
              rintro en w9 ⟨vr9, rfl, hk9, hf9, _, s9, rfl⟩
              have HN9 := Lib.hid (HN8.out.aside_struct hf9 HO8.out.cell HNE.out.1)
              have HF9 := Lib.hid (HF8.out.trans (hf9.mono (fun i _ e => e ▸ HO8.out.obl)))
              have HX9 := Lib.hid (lies_fr HX8.out hf9 (fun e => HDX.out (e ▸ HO8.out.obl)))
              obtain ⟨E9, hE9⟩ : ∃ E9, E9 = (E ++ [(⟨xa, v8, [111, 116, 104, 101, 114]⟩ : Ev)]).take 1 := ⟨_, rfl⟩
              have hl9 : E9.length = 1 := by rw [hE9, List.length_take, List.length_append]; simp
              rw [← hE9] at hk9
              have HO9 := Lib.hid hk9
              have HL9 := Lib.hid hl9
              clear hk9 hf9 hE9 hl9 HN8 HO8 HF8 HX8 d0 d1 d2 d3 d4 d5 d6 d7 d8 d9 d10
              obtain ⟨d0, d1, d2, d3, d4, d5, d6, d7, d8, d9, d10⟩ := lies_dos HX9.out
              go_wp2_with (refine wl_other rfl rfl _ rfl rfl rfl (fun w10 hb10 hy10 => ?_); have HN10 := Lib.hid (HN9.out.later hb10); have HO10 := Lib.hid (HO9.out.later hb10); have HF10 := Lib.hid (HF9.out.trans (Fr.of_below hb10 _)); have HX10 := Lib.hid (HX9.out.below hb10 HX9.out.lt); have HY10 := Lib.hid hy10; clear hb10 hy10 HN9 HO9 HF9 HX9; simp only [Act.put])
              refine (setcode_put HO10.out xa HY10.out (by simp) (by decide)).mono ?_
              rintro en w11 ⟨v11, rfl, hk11, hf11⟩
              have HN11 := Lib.hid (HN10.out.aside_map hf11 HO10.out.map HNE.out.2)
              have HO11 := Lib.hid (hk11.mono (own' := fun i => ownb i ∨ w5.heap.size ≤ i) (fun i _ h => h.elim id (fun h => Or.inr (Nat.le_trans HF10.out.size h))))
              have HF11 := Lib.hid (HF10.out.trans (hf11.mono (fun i _ e => e ▸ HO10.out.obm)))
              have HX11 := Lib.hid (lies_fr HX10.out hf11 (fun e => HDX.out (e ▸ HO10.out.obm)))
              clear hk11 hf11 HN10 HO10 HF10 HX10 HY10 d0 d1 d2 d3 d4 d5 d6 d7 d8 d9 d10
              obtain ⟨d0, d1, d2, d3, d4, d5, d6, d7, d8, d9, d10⟩ := lies_dos HX11.out
              go_wp2_with (refine wl_more rfl rfl _ rfl rfl rfl (fun w12 hb12 hy12 => ?_); have HN12 := Lib.hid (HN11.out.later hb12); have HO12 := Lib.hid (HO11.out.later hb12); have HF12 := Lib.hid (HF11.out.trans (Fr.of_below hb12 _)); have HX12 := Lib.hid (HX11.out.below hb12 HX11.out.lt); have HY12 := Lib.hid hy12; clear hb12 hy12 HN11 HO11 HF11 HX11; simp only [Act.put])
              refine (emit_any HO12.out (by have := HL9.out; omega) xa HY12.out (by decide)).mono ?_
              rintro en w13 ⟨v13, vn13, rfl, _, _, _, _, hfull⟩
              have hf13 := hfull s9 (by rw [HL9.out])
              have HN13 := Lib.hid (HN12.out.aside_struct hf13 HO12.out.cell HNE.out.1)
              have HF13 := Lib.hid (HF12.out.trans (hf13.mono (fun i _ e => e ▸ HO12.out.obl)))
              clear hfull hf13 HN12 HO12 HF12 HX12 HY12 d0 d1 d2 d3 d4 d5 d6 d7 d8 d9 d10
              have HP13 := Lib.hid (HP5.out.book HN13.out HF13.out)
              have HX13 := Lib.hid (lies_fr HX5.out HF13.out HDX.out)
              have HT13 := Lib.hid (HT.out.kept HF13.out (fun i hi e => e.elim (fun e => by have := HOBT.out i e; omega) (fun e => by omega)))
              have hsz13 : w5.heap.size ≤ w13.heap.size := HF13.out.size
              go_wp2_with fail
              go_meet
              exact ⟨rfl, rfl, bl6, bm6, _, ownr, vr6, vl, vc, E, F, C, D, 0, rfl, rfl, rfl, HP13.out, HEF.out, HCD.out, HBD.out.more (by omega), HX13.out, HT13.out, (fun i hi => ⟨by rcases hi.1 with e | e; exact HOBX.out i e; omega, by rcases hi.1 with e | e; exact Or.inl (HOBT.out i e); exact Or.inr (by omega)⟩), (fun i hi => ⟨HORX.out i hi, Or.inl (HORT.out i hi)⟩), by omega⟩
          · as_aux_lemma =>
              go_wp2_with fail
              go_meet
              exact ⟨rfl, rfl, bl, bm, ownb, ownr, vr, vl, vc, E, F, C, D, 0, rfl, rfl, rfl, HP5.out, HEF.out, HCD.out, HBD.out.more (by omega), HX5.out, HT.out, (fun i hi => ⟨HOBX.out i hi, Or.inl (HOBT.out i hi)⟩), (fun i hi => ⟨HORX.out i hi, Or.inl (HORT.out i hi)⟩), hn5⟩
        case rest =>
          clear HP5 HEF HCD HBD HOBX HORX HOBT HORT HX5 HT hn5
          obtain ⟨rfl, rfl, bl, bm, ownb, ownr, vr, vl, vc, E, F, C, D, er, rfl, rfl, rfl, hP, hEF, hCD, hBD, hX, hT, hob, hor, hn⟩ := hcut
          have HP := Lib.hid hP
          have HEF := Lib.hid hEF
          have HCD := Lib.hid hCD
          have HBD := Lib.hid hBD
          have HX := Lib.hid hX
          have HT := Lib.hid hT
          have HOB := Lib.hid hob
          have HOR := Lib.hid hor
          clear hP hEF hCD hBD hX hT hob hor
          go_wp2_with (refine wl_clear HT.out _ rfl rfl rfl (fun w8 hf8 => ?_); (have hm8 : ∀ i, some i = (Value.slice st xb.length ct).ownBlock → n1 ≤ i ∧ i < n2 := fun i e => HT.out.2 i e.symm); (have HP8 := Lib.hid (HP.out.off hf8 (fun i e ho => by have := hm8 i e; have := (HOB.out i ho).2; omega) (fun i e ho => by have := hm8 i e; have := (HOR.out i ho).2; omega) (fun i e => by have := hm8 i e; have := HLN.out; omega))); (have HX8 := Lib.hid (lies_fr HX.out hf8 (fun e => by have := hm8 dx e; omega))); clear hf8 hm8 HP HX HT; simp only [Act.put]; obtain ⟨d0, d1, d2, d3, d4, d5, d6, d7, d8, d9, d10⟩ := lies_dos HX8.out)
          have hEl : E.length ≤ 1000000 := by have := HBD.out.len; rw [said_len] at this; omega
          have hFl : F.length ≤ 1000000 := by have := HBD.out.len; rw [HEF.out, said_len] at this; omega
          have hDl : D.length ≤ 1000000 := by have := HBD.out.len; rw [HCD.out, turn_ln] at this; omega
          refine (events_any HP8.out.b hEl (said_short rfl (fun p hp => Nat.le_trans (HBD.out.evs p hp) (by decide))) xn).mono ?_
          rintro en w9 ⟨vt9, E9, rfl, hs9, ht9, hb9⟩
          obtain ⟨s9, c9, rfl, h9f⟩ := ht9.row.form
          have H9F := Lib.hid h9f
          clear h9f
          have HS9 := Lib.hid hs9
          have HT9 := Lib.hid (ht9.mono (own' := fun i => w8.heap.size ≤ i ∧ i < w9.heap.size) (fun i hl ho => ⟨ho, hl⟩))
          have HP9 := Lib.hid (HP8.out.later hb9)
          have HX9 := Lib.hid (HX8.out.below hb9 HX8.out.lt)
          have HOB9 := Lib.hid (show ∀ i, ownb i → i < w8.heap.size from fun i hi => HP8.out.lt i hi)
          have HOR9 := Lib.hid (show ∀ i, ownr i → i < w8.heap.size from fun i hi => HP8.out.ltr i hi)
          have hdx9 := HX8.out.lt
          have hsz9 : w8.heap.size ≤ w9.heap.size := hb9.size
          have hW8 : W.heap.size ≤ w8.heap.size := HP8.out.below.size
          clear hs9 ht9 hb9 HP8 HX8 d0 d1 d2 d3 d4 d5 d6 d7 d8 d9 d10
          obtain ⟨d0, d1, d2, d3, d4, d5, d6, d7, d8, d9, d10⟩ := lies_dos HX9.out
          go_wp2_with fail
          have hfe : (Al.find C xa).map (·.2) = (Al.find D xa).map (·.2) := by rw [← Al.turn_find, HCD.out, Al.turn_find]
          have hie : (Al.find C xa).isSome = (Al.find D xa).isSome := by rw [← Option.isSome_map (f := (·.2)), hfe, Option.isSome_map]
          obtain ⟨cb, hcb⟩ : ∃ cb, ((Al.find C xa).map (·.2)).getD [] = cb := ⟨_, rfl⟩
          obtain ⟨ci, hci⟩ : ∃ ci, (Al.find C xa).isSome = ci := ⟨_, rfl⟩
          have hc := code_any HP9.out.b xa (turn_mem2 HBD.out)
          rw [hcb, hci] at hc
          have HCB := Lib.hid (show ((Al.find D xa).map (·.2)).getD [] = cb from by rw [← hfe]; exact hcb)
          have HCI := Lib.hid (show (Al.find D xa).isSome = ci from by rw [← hie]; exact hci)
          clear hfe hie hcb hci
          refine hc.mono ?_
          clear hc
          rintro en w10 ⟨v10, rfl, ht10, hb10⟩
          obtain ⟨s10, c10, rfl⟩ := ht10.form
          have HT10 := Lib.hid (HT9.out.later hb10)
          have HB10 := Lib.hid (ht10.mono (own' := fun i => w9.heap.size ≤ i ∧ i < w10.heap.size) (fun i hl ho => ⟨ho, hl⟩))
          have HP10 := Lib.hid (HP9.out.later hb10)
          have HX10 := Lib.hid (HX9.out.below hb10 HX9.out.lt)
          have hsz10 : w9.heap.size ≤ w10.heap.size := hb10.size
          clear ht10 hb10 HP9 HX9 HT9 d0 d1 d2 d3 d4 d5 d6 d7 d8 d9 d10
          obtain ⟨d0, d1, d2, d3, d4, d5, d6, d7, d8, d9, d10⟩ := lies_dos HX10.out
          go_wp2_with fail
          have hc := rcode_any HP10.out.r xa (by omega)
          rw [HCB.out, HCI.out] at hc
          refine hc.mono ?_
          clear hc
          rintro en w11 ⟨v11, rfl, ht11, hb11⟩
          obtain ⟨s11, c11, rfl⟩ := ht11.form
          have HT11 := Lib.hid (HT10.out.later hb11)
          have HB11 := Lib.hid (HB10.out.kept (m := fun _ => False) (Fr.of_below hb11 _) (fun _ _ h => h))
          have HD11 := Lib.hid ht11
          have HP11 := Lib.hid (HP10.out.later hb11)
          have HX11 := Lib.hid (HX10.out.below hb11 HX10.out.lt)
          have hsz11 : w10.heap.size ≤ w11.heap.size := hb11.size
          clear ht11 hb11 HP10 HX10 HT10 HB10 d0 d1 d2 d3 d4 d5 d6 d7 d8 d9 d10
          obtain ⟨d0, d1, d2, d3, d4, d5, d6, d7, d8, d9, d10⟩ := lies_dos HX11.out
          obtain ⟨sl, cl, hvl, _⟩ := HP11.out.r.row.form
          obtain ⟨sc, cc, hvc, hcf⟩ := HP11.out.r.crow.form
          subst hvl hvc
          have HCF := Lib.hid hcf
          clear hcf
          have hlEF : E.length = F.length := by rw [← said_len, HEF.out, said_len]
          have HLEF := Lib.hid hlEF
          clear hlEF
          go_wp2_with fail
          refine RP.region (RP.take 0 (RP.take 1 (RP.take 2 (RP.take 3 (RP.take 4 (RP.take 6 (RP.take 7 (RP.take 8 (RP.take 9 (RP.take 10 (RP.run 5 (RP.take 11 (RP.take 12 (RP.take 13 (RP.take 14 (RP.take 15 (RP.take 16 (RP.take 17 (RP.run 18 (RP.run 19 (RP.take 20 (RP.take 21 (RP.take 22 (RP.take 23 (RP.take 24 (RP.take 25 (RP.take 26 (RP.take 27 (RP.take 28 (RP.take 29 (RP.take 30 (RP.take 31 (RP.take 32 (RP.take 33 RP.done)))))))))))))))))))))))))))))))))) (fun w' => Lies w' dx 56 (Do.cs ⟨xk, xn, xa, .slice sx xb.length cx, xb⟩).toArray ∧ Lies w' w4.heap.size 54 #[.slice sl F.length cl, .slice sc D.length cc] ∧ Byt w' (.slice s10 cb.length c10) cb ∧ Byt w' (.slice s11 cb.length c11) cb) (by as_aux_lemma => kernel_rfl) (by as_aux_lemma => kernel_rfl) (fun _ _ d _ _ h => by cases d <;> exact h) ⟨HX11.out.drew, HP11.out.r.cell.drew, HB11.out.byt, HD11.out.byt⟩ (fun hS => ?_)
          have HP12 := Lib.hid HP11.out.drew
          have HT12 := Lib.hid HT11.out.shows
          have hB := (Below.refl w11.heap.size w11).drew
          generalize w11.drew = V at hS HP12 hB ⊢
          clear d0 d1 d2 d3 d4 d5 d6 d7 d8 d9 d10 HP11
          repeat (first | (refine RP.t_take (v := ?_) rfl rfl (fun w' hw' => ?_) ?_; rotate_left; (focus ((obtain ⟨hXf, hCf, hAf, hBf⟩ := hw'; obtain ⟨d0, d1, d2, d3, d4, d5, d6, d7, d8, d9, d10⟩ := lies_dos hXf; have hcl := hCf.cell 0; simp only [List.getElem?_toArray, List.getElem?_cons_zero] at hcl; have kx := hAf.conv; have ky := hBf.conv); go_simp; (try go_bits); (try (with_reducible rfl)))); (try simp only [Act.put, List.setIfInBounds_toArray, List.set_cons_zero, List.set_cons_succ])) | (refine RP.t_skip rfl rfl ?_; (try simp only [Act.put, List.setIfInBounds_toArray, List.set_cons_zero, List.set_cons_succ])))
          refine RP.t_run rfl (fun KK hKK => ?_)
          go_simp
          have hc := len_any HP12.out.b
          rw [HLEF.out] at hc
          refine hc.mono ?_
          rintro ex V1 ⟨rfl, rfl⟩
          refine hKK.out _ _ hS ?_
          clear hKK KK hc
          (try simp only [Act.put, List.setIfInBounds_toArray, List.set_cons_zero, List.set_cons_succ])
          repeat (first | (refine RP.t_take (v := ?_) rfl rfl (fun w' hw' => ?_) ?_; rotate_left; (focus ((obtain ⟨hXf, hCf, hAf, hBf⟩ := hw'; obtain ⟨d0, d1, d2, d3, d4, d5, d6, d7, d8, d9, d10⟩ := lies_dos hXf; have hcl := hCf.cell 0; simp only [List.getElem?_toArray, List.getElem?_cons_zero] at hcl; have kx := hAf.conv; have ky := hBf.conv); go_simp; (try go_bits); (try (with_reducible rfl)))); (try simp only [Act.put, List.setIfInBounds_toArray, List.set_cons_zero, List.set_cons_succ])) | (refine RP.t_skip rfl rfl ?_; (try simp only [Act.put, List.setIfInBounds_toArray, List.set_cons_zero, List.set_cons_succ])))
          refine RP.t_run rfl (fun KK hKK => ?_)
          go_simp
          have hc := revents_any HP12.out.r hFl xn
          obtain ⟨Q, hQ⟩ : ∃ Q, (if xn < 0 then [] else F.drop xn.toNat) = Q := ⟨_, rfl⟩
          rw [hQ] at hc
          have HQE := Lib.hid hQ
          clear hQ
          refine hc.mono ?_
          clear hc
          rintro ex V2 ⟨vq, rfl, hq, hb⟩
          obtain ⟨sq, cq, hvq, _⟩ := hq.row
          subst hvq
          replace hS := And.intro (hS.1.below hb hS.1.lt) (And.intro (hS.2.1.below hb hS.2.1.lt) (And.intro (hS.2.2.1.later hb) (hS.2.2.2.later hb)))
          have HT13 := Lib.hid ((HT12.out.later hB).later hb)
          have HP13 := Lib.hid (HP12.out.later hb)
          replace hB := hB.trans (hb.mono hB.size)
          have HQ := Lib.hid hq
          refine hKK.out _ _ hS ?_
          clear hKK KK hb hq HP12 HT12
          (try simp only [Act.put, List.setIfInBounds_toArray, List.set_cons_zero, List.set_cons_succ])
          refine RP.t_run rfl (fun KK hKK => ?_)
          go_simp
          have hsaid : said E9 = said Q := by
            rw [HS9.out, ← HQE.out]
            split
            · rfl
            · rw [said_drop, said_drop, HEF.out]
          have hl9 : E9.length ≤ 1000000000 := by
            rw [← said_len, HS9.out]
            split
            · exact Nat.zero_le _
            · rw [said_drop, List.length_drop, said_len]; omega
          have hc := same_any HT13.out HQ.out hl9
          rw [decide_eq_true hsaid] at hc
          replace hc := Lib.hid hc
          clear hsaid
          refine hc.out.mono ?_
          rintro ex V3 ⟨rfl, hb⟩
          replace hS := And.intro (hS.1.below hb hS.1.lt) (And.intro (hS.2.1.below hb hS.2.1.lt) (And.intro (hS.2.2.1.later hb) (hS.2.2.2.later hb)))
          have HP14 := Lib.hid (HP13.out.later hb)
          replace hB := hB.trans (hb.mono hB.size)
          refine hKK.out _ _ hS ?_
          clear hKK KK hb hc HP13 HT13 HQ
          (try simp only [Act.put, List.setIfInBounds_toArray, List.set_cons_zero, List.set_cons_succ])
          repeat (first | (refine RP.t_take (v := ?_) rfl rfl (fun w' hw' => ?_) ?_; rotate_left; (focus ((obtain ⟨hXf, hCf, hAf, hBf⟩ := hw'; obtain ⟨d0, d1, d2, d3, d4, d5, d6, d7, d8, d9, d10⟩ := lies_dos hXf; have hcl := hCf.cell 0; simp only [List.getElem?_toArray, List.getElem?_cons_zero] at hcl; have kx := hAf.conv; have ky := hBf.conv); go_simp; (try go_bits); (try (with_reducible rfl)))); (try simp only [Act.put, List.setIfInBounds_toArray, List.set_cons_zero, List.set_cons_succ])) | (refine RP.t_skip rfl rfl ?_; (try simp only [Act.put, List.setIfInBounds_toArray, List.set_cons_zero, List.set_cons_succ])))
          refine RP.t_done ?_
          clear hS
          have HT14 := Lib.hid (HT11.out.later hB)
          have HR := Lib.hid HT14.out.row
          have HE := Lib.hid (show ∀ x ∈ E9, Room V3 (fun i => w8.heap.size ≤ i ∧ i < w9.heap.size) x.v x.b.length from fun x hx => (HT14.out.evs x hx).room)
          have HC := Lib.hid (HB11.out.kept (m := fun _ => False) (Fr.of_below hB _) (fun _ _ h => h))
          have hlCD : C.length = D.length := by have := HCD.out; rw [← turn_ln C, this, turn_ln]
          have HLCD := Lib.hid hlCD
          have HKEYS := Lib.hid (show C.map (·.1) = D.map (·.1) from by rw [← Al.turn_keys (·.2) C, HCD.out, Al.turn_keys])
          clear hlCD hB HT14 HT11 HB11 HD11 HX11 HS9 HLEF HCB HCI HQE
          go_wp2_with fail
          go_loopw [157] (fun i wx => ∃ j : Nat, j ≤ E9.length ∧ i = .int .i64 j ∧ Pb W wx ownb ownr bl bm w4.heap.size vr (.slice sl F.length cl) (.slice sc D.length cc) E F C D ∧ WRow wx (fun i => w8.heap.size ≤ i ∧ i < w9.heap.size) 66 9 (.slice s9 E9.length c9) E9.length (E9.flatMap Ev.cs) ∧ (∀ x ∈ E9, Room wx (fun i => w8.heap.size ≤ i ∧ i < w9.heap.size) x.v x.b.length) ∧ Bts wx (fun i => w9.heap.size ≤ i ∧ i < w10.heap.size) (.slice s10 cb.length c10) cb)
            (fun i _ => E9.length - (intOf i).toNat)
          case atStart => exact ⟨0, by omega, rfl, HP14.out, HR.out, HE.out, HC.out⟩
          case round =>
            clear HP14 HR HE HC
            obtain ⟨j, hj, rfl, hP, hR, hE, hC⟩ := hrel
            have HP := Lib.hid hP
            have HR := Lib.hid hR
            have HE := Lib.hid hE
            have HC := Lib.hid hC
            clear hP hR hE hC
            by_cases hlt2 : j < E9.length
            · obtain ⟨y, hy⟩ : ∃ y, E9[j]? = some y := ⟨_, List.getElem?_eq_getElem hlt2⟩
              obtain ⟨g9, rfl, _⟩ := H9F.out.2 (by omega)
              have HRG := Lib.hid (row_range HR.out hy)
              have hm := List.mem_of_getElem? hy
              have hr0 := HE.out y hm
              clear hy hm
              obtain ⟨ya, yv, yb⟩ := y
              obtain ⟨sy, cy, hyv⟩ := hr0.form
              simp only at hyv
              subst hyv
              have HR0 := Lib.hid hr0
              clear hr0
              go_wp2_with (first | (refine wl_loadEv ⟨ya, .slice sy yb.length cy, yb⟩ _ _ HRG.out _ rfl rfl rfl ?_; simp only [Ev.cs, Act.put, List.setIfInBounds_toArray, List.set_cons_zero, List.set_cons_succ]) | (refine wl_storeEv ⟨ya, .slice sy yb.length cy, yb⟩ rfl _ _ rfl rfl rfl rfl rfl ?_; simp only [Ev.cs, Act.put]) | (refine wl_clear_room (n := yb.length) (HR0.out.later ((Below.refl _ _).alloc (Nat.le_refl _) _)) _ rfl rfl rfl (fun w15 hf15 hrm15 => ?_); have HF15 := Lib.hid hf15; have HRM15 := Lib.hid hrm15; clear hf15 hrm15; simp only [Act.put]))
              go_roundw
              case rel =>
                have hm := HR0.out.of
                have hba : Below wr.heap.size wr _ := (Below.refl _ _).alloc (Nat.le_refl _) (.cells #[.int .u8 ya.x0.toNat, .int .u8 ya.x1.toNat, .int .u8 ya.x2.toNat, .int .u8 ya.x3.toNat, .int .u8 ya.x4.toNat, .int .u8 ya.x5.toNat, .int .u8 ya.x6.toNat, .int .u8 ya.x7.toNat, .slice sy yb.length cy] 66)
                refine ⟨j + 1, by omega, by go_num, ?_, ?_, fun x hx => HRM15.out _ _ _ ((HE.out x hx).later hba), ?_⟩
                · exact (HP.out.later hba).off HF15.out (fun i e ho => by have := (hm i e).1; have := HOB9.out i ho; omega) (fun i e ho => by have := (hm i e).1; have := HOR9.out i ho; omega) (fun i e => by have := (hm i e).1; omega)
                · exact (HR.out.kept (m := fun _ => False) (Fr.of_below hba _) (fun _ _ _ h => h)).kept HF15.out (fun i _ hi e => by
                    obtain ⟨_, cur, hl⟩ := hm i e
                    obtain ⟨_, _, cur2, hg⟩ := wrow_lt HR.out hi.symm
                    exact absurd (lies_uniq hl hg) (by decide))
                · exact (HC.out.kept (m := fun _ => False) (Fr.of_below hba _) (fun _ _ h => h)).kept HF15.out (fun i hi e => by have := (hm i e).1; omega)
              case measure => simp [intOf]; omega
            · obtain rfl : j = E9.length := by omega
              clear hj hlt2 HR HE
              go_wp2_with (refine wl_clear HC.out _ rfl rfl rfl (fun w15 hf15 => ?_); (have hm := HC.out.2); (have HP15 := Lib.hid (HP.out.off hf15 (fun i e ho => by have := hm i e.symm; have := HOB9.out i ho; omega) (fun i e ho => by have := hm i e.symm; have := HOR9.out i ho; omega) (fun i e => by have := hm i e.symm; omega))); clear hf15 hm HP HC; simp only [Act.put])
              have hc := coded_any HP15.out.b (by have := HLCD.out; omega)
              rw [HLCD.out, HKEYS.out] at hc
              refine hc.mono ?_
              rintro en w16 ⟨vq, rfl, hrow, hb⟩
              obtain ⟨sa, ca, rfl⟩ := own_form hrow
              have HP16 := Lib.hid (HP15.out.later hb)
              have HRA := Lib.hid hrow
              have hc1 := HP16.out.r.cell.cell 1
              simp only [List.getElem?_toArray, List.getElem?_cons_zero, List.getElem?_cons_succ] at hc1
              have HFA := Lib.hid (show D.length ≠ 0 → ∃ g, sa = some ⟨g, 0, none⟩ from fun hne => by
                rcases hrow.2 with ⟨_, h0⟩ | ⟨g, cap, cur, e, _⟩
                · exact absurd h0 hne
                · injection e with e; exact ⟨g, e⟩)
              clear hc hrow hb HP15
              go_wp2_with fail
              go_loopw [177] (fun i wx => ∃ j : Nat, j ≤ D.length ∧ i = .int .i64 j ∧ Pb W wx ownb ownr bl bm w4.heap.size vr (.slice sl F.length cl) (.slice sc D.length cc) E F C D ∧ wx.ownsRow w15.heap.size 24 8 (.slice sa D.length ca) D.length (addrCells (D.map (·.1))))
                (fun i _ => D.length - (intOf i).toNat)
              case atStart => exact ⟨0, by omega, rfl, HP16.out, HRA.out⟩
              case round =>
                clear HP16 HRA hc1
                obtain ⟨j, hj, rfl, hP, hR⟩ := hrel
                have HP := Lib.hid hP
                have HR := Lib.hid hR
                clear hP hR
                by_cases hlt2 : j < D.length
                · obtain ⟨d, hd⟩ : ∃ d, D[j]? = some d := ⟨_, List.getElem?_eq_getElem hlt2⟩
                  obtain ⟨ga, rfl⟩ := HFA.out (by omega)
                  obtain ⟨gd, rfl, _⟩ := HCF.out.2 (by omega)
                  obtain ⟨da, dv, db⟩ := d
                  have hk : (D.map (·.1))[j]? = some da := by rw [List.getElem?_map, hd]; rfl
                  have HD := Lib.hid hd
                  obtain ⟨c0, c1, c2, c3, c4, c5, c6, c7⟩ := addr_cells HR.out hk
                  clear hd hk
                  go_wp2_with fail
                  obtain ⟨W46, hW46⟩ : ∃ W46, W46 = wr.alloc (.cells da.cs.toArray 24) := ⟨_, rfl⟩
                  have hA1 : Lies W46 wr.heap.size 24 da.cs.toArray := hW46 ▸ Lies.new wr _ _
                  have hb46 : Below wr.heap.size wr W46 := hW46 ▸ (Below.refl _ _).alloc (Nat.le_refl _) _
                  have HP46 := Lib.hid (HP.out.later hb46)
                  have HR46 := Lib.hid (ownsRow_keep HR.out hb46)
                  rw [show wr.alloc (.cells #[.int .u8 da.x0.toNat, .int .u8 da.x1.toNat, .int .u8 da.x2.toNat, .int .u8 da.x3.toNat, .int .u8 da.x4.toNat, .int .u8 da.x5.toNat, .int .u8 da.x6.toNat, .int .u8 da.x7.toNat] 24) = W46 from hW46.symm]
                  clear hW46 hb46 HP HR c0 c1 c2 c3 c4 c5 c6 c7
                  refine RP.region (RP.take 0 (RP.take 1 (RP.take 2 (RP.take 3 (RP.take 4 (RP.take 5 (RP.take 6 (RP.take 7 (RP.take 8 (RP.take 9 RP.done)))))))))) (fun w' => Lies w' wr.heap.size 24 da.cs.toArray ∧ Rk w' ownr w4.heap.size (.slice sl F.length cl) (.slice (some ⟨gd, 0, none⟩) D.length cc) F D) (by as_aux_lemma => kernel_rfl) (by as_aux_lemma => kernel_rfl) (fun _ _ d _ _ h => by cases d <;> exact h) ⟨hA1.drew, HP46.out.r.drew⟩ (fun hS => ?_)
                  have HP47 := Lib.hid HP46.out.drew
                  have HR47 := Lib.hid (ownsRow_keep HR46.out (Below.refl _ _).drew)
                  generalize W46.drew = V46 at hS HP47 HR47 ⊢
                  clear hA1 HP46 HR46
                  repeat (first | (refine RP.t_take (v := ?_) rfl rfl (fun w' hw' => ?_) ?_; rotate_left; (focus ((obtain ⟨hAf, hRf⟩ := hw'; obtain ⟨a0, a1, a2, a3, a4, a5, a6, a7⟩ := lies_addr hAf; have hc1 := hRf.cell.cell 1; simp only [List.getElem?_toArray, List.getElem?_cons_zero, List.getElem?_cons_succ] at hc1; obtain ⟨e0, e1, e2, e3, e4, e5, e6, e7, e8⟩ := cd_cells hRf.crow HD.out); go_simp; (try go_bits); (try (with_reducible rfl)))); (try simp only [Act.put, List.setIfInBounds_toArray, List.set_cons_zero, List.set_cons_succ])) | (refine RP.t_skip rfl rfl ?_; (try simp only [Act.put, List.setIfInBounds_toArray, List.set_cons_zero, List.set_cons_succ])))
                  refine RP.t_done ?_
                  clear hS
                  go_wp2_with fail
                  go_roundw
                  case rel => exact ⟨j + 1, by omega, by go_num, HP47.out, HR47.out⟩
                  case measure => simp [intOf]; omega
                · obtain rfl : j = D.length := by omega
                  clear hj hlt2
                  go_wp2_with fail
                  go_roundw
                  case rel => exact ⟨k + 1, bl, bm, ownb, ownr, vr, _, _, E, F, C, D, by omega, rfl, by go_num, HP.out, HEF.out, HCD.out, HBD.out⟩
                  case measure => simp [intOf]; omega
      · as_aux_lemma =>
          obtain rfl : k = X.length := by omega
          have hEl : E.length ≤ 1000000 := by have := HBD.out.len; rw [said_len] at this; omega
          obtain ⟨sl, cl, hvl, _⟩ := HP.out.r.row.form
          subst hvl
          clear hk hlt
          go_wp2_with fail
          refine RP.region (RP.take 0 (RP.take 2 (RP.take 3 (RP.take 4 (RP.take 5 (RP.run 1 (RP.run 6 (RP.take 7 RP.done)))))))) (fun w' => Lies w' w4.heap.size 54 #[.slice sl F.length cl, vc]) (by as_aux_lemma => kernel_rfl) (by as_aux_lemma => kernel_rfl) (fun _ _ d _ _ h => by cases d <;> exact h) HP.out.r.cell.drew (fun hS => ?_)
          have HP1 := Lib.hid HP.out.drew
          generalize wr.drew = V at hS HP1 ⊢
          clear HP
          repeat (first | (refine RP.t_take (v := ?_) rfl rfl (fun w' hw' => ?_) ?_; rotate_left; (focus ((have hcl := hw'.cell 0; simp only [List.getElem?_toArray, List.getElem?_cons_zero] at hcl); go_simp; (try go_bits); (try (with_reducible rfl)))); (try simp only [Act.put, List.setIfInBounds_toArray, List.set_cons_zero, List.set_cons_succ])) | (refine RP.t_skip rfl rfl ?_; (try simp only [Act.put, List.setIfInBounds_toArray, List.set_cons_zero, List.set_cons_succ])))
          refine RP.t_run rfl (fun KK hKK => ?_)
          go_simp
          refine (events_any HP1.out.b hEl (said_short rfl (fun p hp => Nat.le_trans (HBD.out.evs p hp) (by decide))) 0).mono ?_
          rintro ex V1 ⟨vt, E9, rfl, hs9, ht9, hb⟩
          obtain ⟨s9, c9, rfl, _⟩ := ht9.row.form
          replace hS := hS.below hb hS.lt
          have HT := Lib.hid ht9.shows
          have HP2 := Lib.hid (HP1.out.later hb)
          have hsaid : said E9 = said F := by rw [hs9, if_neg (by decide), ← HEF.out]; rfl
          have hl9 : E9.length ≤ 1000000000 := by rw [← said_len, hsaid, ← HEF.out, said_len]; omega
          have HSD := Lib.hid hsaid
          refine hKK.out _ _ hS ?_
          clear hKK KK hb hs9 ht9 HP1 hsaid
          (try simp only [Act.put, List.setIfInBounds_toArray, List.set_cons_zero, List.set_cons_succ])
          repeat (first | (refine RP.t_take (v := ?_) rfl rfl (fun w' hw' => ?_) ?_; rotate_left; (focus ((have hcl := hw'.cell 0; simp only [List.getElem?_toArray, List.getElem?_cons_zero] at hcl); go_simp; (try go_bits); (try (with_reducible rfl)))); (try simp only [Act.put, List.setIfInBounds_toArray, List.set_cons_zero, List.set_cons_succ])) | (refine RP.t_skip rfl rfl ?_; (try simp only [Act.put, List.setIfInBounds_toArray, List.set_cons_zero, List.set_cons_succ])))
          refine RP.t_run rfl (fun KK hKK => ?_)
          go_simp
          have hc := same_any HT.out (WRow.shows HP2.out.r.row (fun x hx => (HP2.out.r.evs x hx).byt)) hl9
          rw [decide_eq_true HSD.out] at hc
          replace hc := Lib.hid hc
          refine hc.out.mono ?_
          rintro ex V2 ⟨rfl, hb⟩
          replace hS := hS.below hb hS.lt
          have HP3 := Lib.hid (HP2.out.later hb)
          refine hKK.out _ _ hS ?_
          clear hKK KK hb hc HP2 HT hl9
          (try simp only [Act.put, List.setIfInBounds_toArray, List.set_cons_zero, List.set_cons_succ])
          repeat (first | (refine RP.t_take (v := ?_) rfl rfl (fun w' hw' => ?_) ?_; rotate_left; (focus ((have hcl := hw'.cell 0; simp only [List.getElem?_toArray, List.getElem?_cons_zero] at hcl); go_simp; (try go_bits); (try (with_reducible rfl)))); (try simp only [Act.put, List.setIfInBounds_toArray, List.set_cons_zero, List.set_cons_succ])) | (refine RP.t_skip rfl rfl ?_; (try simp only [Act.put, List.setIfInBounds_toArray, List.set_cons_zero, List.set_cons_succ])))
          refine RP.t_done ?_
          clear hS
          go_wp2_with fail
          go_ret
          exact ⟨rfl, HP3.out.below⟩
end Go.Proofs.Yteeghdkejnhjnaa.Bo
