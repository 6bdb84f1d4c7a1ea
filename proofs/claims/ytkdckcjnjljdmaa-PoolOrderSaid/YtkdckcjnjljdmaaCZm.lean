/- pool.Better, New, Len, All. -/
import Derived.Test.YtkdckcjnjljdmaaCZl
namespace Go.Proofs.Ytkdckcjnjljdmaa.Po
open Go Go.RowKit Go.Lib Kt Fm Ad Kv

section
variable {P : Program} {ops : Array Oper} {rest : List Oper} {op : Oper} {a : Act} {w : World} {Q : Exit → Act → World → Prop}
theorem wl_val {v : Value} (hgd : op.guard = none) (h : (execOp a.eval op).run P w = .ok (.value v) w) (hk : wpList P ops Q rest (a.put op.dst v) w) : wpList P ops Q (op :: rest) a w :=
  wpList_plain hgd fun _ hK => by
    unfold Oper.wp
    rw [h]
    exact hK _ _ hk
/-- An operation that builds. -/
theorem wb_op {ty : TypeId} {args : Array (Nat × Operand)} {v : Value} (_ho : op.op = .build ty args) (h : (execOp a.eval op).run P w = .ok (.value v) w) : (execOp a.eval op).run P w = .ok (.value v) w := h
end
theorem sl_range {α : Type} {W : World} {sz : Nat} {en : α → List Value} {L : List α} {g off n c : Nat} (h : Sl W sz en (.slice (some ⟨g, off, none⟩) n c) L) {i : Nat} {x : α} (hi : L[i]? = some x) : W.rangeAt g (off + i * sz) (en x) := fun _ _ hj => h.cell hi hj
theorem sizeEn : (Try.prog.info? 81).map (·.size) = some 22 := by kernel_rfl
set_option maxRecDepth 100000 in
set_option maxHeartbeats 16000000 in
theorem better_any {W : World} {x y : Tx} (hx : TxOk W x) (hy : TxOk W y) (mx : mayT x = 0) (my : mayT y = 0) : Calls Try.prog 11 #[.agg x.cs.toArray, .agg y.cs.toArray] W fun e w' => e = .returned (.bool (decide (rank x y < 0))) ∧ Below W.heap.size W w' := by
  have HKX := Lib.hid hx
  have HKY := Lib.hid hy
  have HMX := Lib.hid mx
  have HMY := Lib.hid my
  clear hx hy mx my
  go_enter Try.func11, Try.ntmps11
  go_upto_region 1 with (first | (refine wl_box x.cs _ rfl rfl rfl (fun w1 hbw1 hlw1 => ?_); have HB1 := Lib.hid (hbw1); have HLBx := Lib.hid hlw1; obtain ⟨Bx, hBw1⟩ : ∃ Bx, Bx = W.heap.size := ⟨_, rfl⟩; rw [← hBw1] at HLBx ⊢; clear hBw1 hbw1 hlw1; (try simp only [Act.put, List.setIfInBounds_toArray, List.set_cons_zero, List.set_cons_succ])) | (refine wl_box y.cs _ rfl rfl rfl (fun w2 hbw2 hlw2 => ?_); have HB2 := Lib.hid (bt HB1.out hbw2); have HLBy := Lib.hid hlw2; obtain ⟨By, hBw2⟩ : ∃ By, By = w1.heap.size := ⟨_, rfl⟩; rw [← hBw2] at HLBy ⊢; have HLBx2 := Lib.hid (HLBx.out.below hbw2 HLBx.out.lt); clear hBw2 hbw2 hlw2; (try simp only [Act.put, List.setIfInBounds_toArray, List.set_cons_zero, List.set_cons_succ])))
  go_wp2_with (first | (refine wpList_load_mid rfl 32 _ rfl Bx 0 rfl x.cs _ (lies_range HLBx2.out) Try.underlying32 rfl sizeTx ?_; (try simp only [Act.put, List.setIfInBounds_toArray, List.set_cons_zero, List.set_cons_succ])) | (refine wpList_load_mid rfl 32 _ rfl By 0 rfl y.cs _ (lies_range HLBy.out) Try.underlying32 rfl sizeTx ?_; (try simp only [Act.put, List.setIfInBounds_toArray, List.set_cons_zero, List.set_cons_succ])) | (refine wl_val (v := .agg x.cs.toArray) rfl (wb_op (ty := 81) (args := #[(0, .tmp 5)]) rfl (by kernel_rfl)) ?_; (try simp only [Act.put, List.setIfInBounds_toArray, List.set_cons_zero, List.set_cons_succ])) | (refine wl_val (v := .agg y.cs.toArray) rfl (wb_op (ty := 81) (args := #[(0, .tmp 7)]) rfl (by kernel_rfl)) ?_; (try simp only [Act.put, List.setIfInBounds_toArray, List.set_cons_zero, List.set_cons_succ])))
  refine (rank_any (HKX.out.later HB2.out) (HKY.out.later HB2.out) HMX.out HMY.out).mono ?_
  rintro en w3 ⟨rfl, hb3⟩
  have HB3 := Lib.hid (bt HB2.out hb3)
  clear hb3
  go_wp2_with fail
  go_ret
  exact ⟨rfl, HB3.out⟩
/-- A pool in memory. -/
structure PoolAt (base : Nat) (W : World) (bp most : Nat) (v : Value) (l : List Tx) : Prop where
  box : Lies W bp 79 #[.int .i64 most, v]
  sl : Sl W 22 Tx.cs v l
  own : ∀ t ∈ l, TxOwn base W t
  ok : PoolOk most l
theorem PoolAt.later {base : Nat} {W W' : World} {bp most : Nat} {v : Value} {l : List Tx} (h : PoolAt base W bp most v l) (hb : Below W.heap.size W W') : PoolAt base W' bp most v l := ⟨h.box.below hb h.box.lt, h.sl.later hb, fun t ht => (h.own t ht).later hb, h.ok⟩
theorem PoolAt.form {base : Nat} {W : World} {bp most : Nat} {v : Value} {l : List Tx} (h : PoolAt base W bp most v l) : ∃ s c, v = .slice s l.length c ∧ (l ≠ [] → ∃ g off, s = some ⟨g, off, none⟩) := by
  obtain ⟨s, c, e, hf⟩ := h.sl.form
  exact ⟨s, c, e, fun hn => by obtain ⟨g, off, e, _⟩ := hf hn; exact ⟨g, off, e⟩⟩
set_option maxRecDepth 100000 in
set_option maxHeartbeats 16000000 in
theorem new_any (m : Int) (W : World) : Calls Try.prog 12 #[.int .i64 m] W fun e w' => ∃ bp, e = .returned (.pointer (some ⟨bp, 0, none⟩)) ∧ PoolAt W.heap.size w' bp (max m 0).toNat (.slice none 0 0) [] ∧ W.heap.size ≤ bp ∧ Below W.heap.size W w' := by
  obtain ⟨k, hk⟩ : ∃ k, k = (max m 0).toNat := ⟨_, rfl⟩
  have HM := Lib.hid (show max m 0 = (k : Int) from by rw [hk]; omega)
  rw [← hk]
  clear hk
  go_enter Try.func12, Try.ntmps12
  go_wp2_with (refine wl_box [.int .i64 (max m 0), .slice none 0 0] _ rfl rfl rfl (fun w1 hb1 hl1 => ?_); have HB1 := Lib.hid hb1; have HL1 := Lib.hid hl1; clear hb1 hl1; (try simp only [Act.put, List.setIfInBounds_toArray, List.set_cons_zero, List.set_cons_succ]))
  go_ret
  exact ⟨W.heap.size, rfl, ⟨by rw [← HM.out]; exact HL1.out, Sl.nil _ _ _ _, fun t ht => (by cases ht), PoolOk.nil _⟩, Nat.le_refl _, HB1.out⟩
set_option maxRecDepth 100000 in
set_option maxHeartbeats 16000000 in
theorem len_any {base : Nat} {W : World} {bp most : Nat} {v : Value} {l : List Tx} (h : PoolAt base W bp most v l) : Calls Try.prog 15 #[.pointer (some ⟨bp, 0, none⟩)] W fun e w' => e = .returned (.int .i64 l.length) ∧ Below W.heap.size W w' := by
  obtain ⟨s, c, rfl, _⟩ := h.form
  have z1 : W.cell? ⟨bp, 1, none⟩ = some (.slice s l.length c) := h.box.cell 1
  clear h
  go_enter Try.func15, Try.ntmps15
  go_wp2_with fail
  go_ret
  exact ⟨rfl, Below.refl _ _⟩
set_option maxRecDepth 100000 in
set_option maxHeartbeats 16000000 in
theorem len_nil (W : World) : Calls Try.prog 15 #[.pointer none] W fun e w' => e = .returned (.int .i64 0) ∧ Below W.heap.size W w' := by
  go_enter Try.func15, Try.ntmps15
  go_wp2_with fail
  go_ret
  exact ⟨rfl, Below.refl _ _⟩
set_option maxRecDepth 100000 in
set_option maxHeartbeats 16000000 in
theorem all_nil (W : World) : Calls Try.prog 8 #[.pointer none] W fun e w' => e = .returned (.slice none 0 0) ∧ Below W.heap.size W w' := by
  go_enter Try.func8, Try.ntmps8
  go_wp2_with fail
  go_ret
  exact ⟨rfl, Below.refl _ _⟩
/-- A transaction but for where its data lie. -/
def Tx.nv (t : Tx) : Tx := { t with dv := .slice none 0 0 }
theorem inf_tx : (Try.prog.info? 32).map (fun i => (i.zero.map (·.cells.size), i.size, i.bytes)) = some (some 22, 22, 80) := by kernel_rfl
set_option maxRecDepth 100000 in
set_option maxHeartbeats 16000000 in
theorem all_any {base : Nat} {W : World} {bp most : Nat} {v : Value} {l : List Tx} (h : PoolAt base W bp most v l) (hl : l.length ≤ 100000) : Calls Try.prog 8 #[.pointer (some ⟨bp, 0, none⟩)] W fun e w' => ∃ (v' : Value) (L : List Tx), e = .returned v' ∧ L.map Tx.nv = l.map Tx.nv ∧ w'.ownsRow W.heap.size 32 22 v' L.length (L.flatMap Tx.cs) ∧ (∀ t ∈ L, TxOwn W.heap.size w' t) ∧ Below W.heap.size W w' := by
  obtain ⟨s, c, rfl, hf⟩ := h.form
  have z1 : W.cell? ⟨bp, 1, none⟩ = some (.slice s l.length c) := h.box.cell 1
  have HP := Lib.hid h
  have HF := Lib.hid hf
  clear h hf
  go_enter Try.func8, Try.ntmps8
  go_wp2_with fail
  clear z1
  go_loopw [3, 13] (fun v' iv wr => ∃ (k : Nat) (L : List Tx), k ≤ l.length ∧ iv = .int .i64 k ∧ L.map Tx.nv = (l.take k).map Tx.nv ∧ L.length = k ∧ wr.ownsRow W.heap.size 32 22 v' L.length (L.flatMap Tx.cs) ∧ (∀ t ∈ L, TxOwn W.heap.size wr t) ∧ Below W.heap.size W wr) (fun _ iv _ => l.length - (RowKit.intOf iv).toNat)
  case atStart => exact ⟨0, [], Nat.zero_le _, rfl, rfl, rfl, World.ownsRow_nil _ _ _ _, fun t ht => (by cases ht), Below.refl _ _⟩
  case round =>
    obtain ⟨k, L, hk, rfl, hmap, hlen, hr, ho, hb⟩ := hrel
    have HMP := Lib.hid hmap
    have HLE := Lib.hid hlen
    have R1 := Lib.hid hr
    have O1 := Lib.hid ho
    have HB1 := Lib.hid hb
    clear hmap hlen hr ho hb
    obtain ⟨w1, hw1⟩ : ∃ w1, w1 = wr := ⟨_, rfl⟩
    rw [← hw1] at R1 O1 HB1 ⊢
    clear hw1
    by_cases hlt : k < l.length
    · have hlt2 : (k : Int) < (l.length : Int) := by omega
      obtain ⟨x, hx⟩ : ∃ x, l[k]? = some x := ⟨_, List.getElem?_eq_getElem hlt⟩
      obtain ⟨g, off, rfl⟩ := HF.out (by intro e; rw [e] at hlt; simp at hlt)
      have HX := Lib.hid hx
      have HXO := Lib.hid (HP.out.own x (List.mem_of_getElem? hx))
      have HXL := Lib.hid (mayT_len (HP.out.ok.ok x (List.mem_of_getElem? hx)).may)
      clear hx
      go_wp2_with (first | (refine wpList_load_mid rfl 81 _ rfl g (off + k * 22) rfl x.cs _ (sl_range (HP.out.sl.later HB1.out) HX.out) Try.underlying81 rfl sizeEn ?_; (try simp only [Act.put, List.setIfInBounds_toArray, List.set_cons_zero, List.set_cons_succ])) | (refine wl_put (Lies.new _ _ _) x.cs _ _ rfl rfl rfl rfl rfl sizeEn HXO.out.ok.oneB (fun w2 hl2 hf2 => ?_); have hb2 : Below w1.heap.size w1 w2 := below_put ((Below.refl w1.heap.size w1).alloc (Nat.le_refl _) _) hf2 (Nat.le_refl _); have HB2 := Lib.hid (bt HB1.out hb2); have R2 := Lib.hid (ownsRow_keep R1.out hb2); have O2 := Lib.hid (show ∀ t ∈ L, TxOwn W.heap.size w2 t from fun t ht => (O1.out t ht).later hb2); obtain ⟨Bx, hBx⟩ : ∃ Bx, Bx = w1.heap.size := ⟨_, rfl⟩; rw [← hBx] at hl2 ⊢; have HX2 := Lib.hid hl2; clear hl2 hf2 hb2 hBx; (try simp only [Act.put])) | (refine wpList_load_mid rfl 32 _ rfl Bx 0 rfl x.cs _ (lies_range HX2.out) Try.underlying32 rfl sizeTx ?_; (try simp only [Act.put, List.setIfInBounds_toArray, List.set_cons_zero, List.set_cons_succ])))
      refine (own_any (HXO.out.ok.later HB2.out) (by have := HXL.out; omega)).mono ?_
      rintro en w3 ⟨dv, rfl, ho3, hb3⟩
      have R3 := Lib.hid (ownsRow_keep R2.out hb3)
      have O3 := Lib.hid (show ∀ t ∈ L, TxOwn W.heap.size w3 t from fun t ht => (O2.out t ht).later hb3)
      have HY3 := Lib.hid (show TxOwn W.heap.size w3 { x with dv := dv } from ⟨ho3.d.mono HB2.out.size, ho3.n, ho3.v, ho3.g, ho3.p⟩)
      have HB3 := Lib.hid (bt HB2.out hb3)
      clear ho3 hb3
      go_wp2_with (first | (refine wl_bsN (e := 32) (d := 21) rfl rfl ({ x with dv := dv } : Tx).cs rfl (fun w => by kernel_rfl) (fun w4 hb4 hl4 => ?_); have R4 := Lib.hid (ownsRow_keep R3.out hb4); have O4 := Lib.hid (show ∀ t ∈ L, TxOwn W.heap.size w4 t from fun t ht => (O3.out t ht).later hb4); have HY4 := Lib.hid (HY3.out.later hb4); have HB4 := Lib.hid (bt HB3.out hb4); have L4 := Lib.hid hl4; clear hb4 hl4; (try simp only [Act.put, List.setIfInBounds_toArray, List.set_cons_zero, List.set_cons_succ])) | (refine wl_app (by_ := 80) _ _ rfl rfl Try.underlying27 inf_tx (by decide) rfl R4.out Tx.len rfl (sl_one L4.out) (fun y hy u hu => by obtain rfl := List.mem_singleton.1 hy; exact HY4.out.ok.one u hu) (by unfold maxLen; rw [HLE.out]; simp; omega) (by rw [HLE.out]; simp; omega) HB4.out.size (fun v5 w5 hr5 hg5 hv5 => ?_); have R5 := Lib.hid hr5; have O5 := Lib.hid (show ∀ t ∈ L, TxOwn W.heap.size w5 t from fun t ht => (O4.out t ht).frT (FrT.grown R4.out hg5) (by decide)); have HY5 := Lib.hid (HY4.out.frT (FrT.grown R4.out hg5) (by decide)); have HB5 := Lib.hid (HB4.out.grown hg5 HB4.out.size (fun _ hk => (row_block R4.out hk).1)); clear hr5 hg5 hv5; (try simp only [Act.put, List.setIfInBounds_toArray, List.set_cons_zero, List.set_cons_succ])))
      go_roundw
      case rel => exact ⟨k + 1, L ++ [{ x with dv := dv }], hlt, by go_num, by rw [take_more HX.out, List.map_append, List.map_append, HMP.out]; rfl, by rw [List.length_append, HLE.out]; rfl, by rw [List.length_append, List.flatMap_append]; exact R5.out, fun t ht => (List.mem_append.1 ht).elim (O5.out t) (fun h => by obtain rfl := List.mem_singleton.1 h; exact HY5.out), HB5.out⟩
      case measure => simp [RowKit.intOf]; omega
    · have hlt2 : ¬ (k : Int) < (l.length : Int) := by omega
      have HKL := Lib.hid (show k = l.length from by omega)
      go_wp2_with fail
      go_ret
      exact ⟨_, rfl, L, by have h := HMP.out; rw [HKL.out, List.take_length] at h; exact h, R1.out, O1.out, HB1.out⟩
end Go.Proofs.Ytkdckcjnjljdmaa.Po
namespace Go.Proofs.Ytkdckcjnjljdmaa.Po
open Go Go.RowKit Go.Lib Kt Fm Ad Kv

/-- An operation whose guard is false, where the plan would run it. -/
theorem ts_pass {P : Program} {ops : Array Oper} {Q : Exit → Act → World → Prop} {S : World → Prop} {X : List (Nat × (World → Prop))} {i : Nat} {rest : List (Nat × Nat)} {l : Array Bool} {a : Act} {w : World} {o : Oper} (hi' : ops.toList[i]? = some o) (hw : Region.wanted o (yielded ops a.tmps) = false) (hS : S w) (hX : Still X (l.setIfInBounds i true) w)
    (h : tStep P ops Q S X (l.setIfInBounds i true) rest (a.put o.dst undef) w) : tStep P ops Q S X l ((i, 0) :: rest) a w := ts_run hi' (fun K hK => by rw [if_neg (by rw [hw]; decide)]; exact hK.out _ _ hS hX h)
set_option maxRecDepth 100000 in
set_option maxHeartbeats 16000000 in
theorem search_any {W : World} {v : Value} {l : List Tx} (h : Sl W 22 Tx.cs v l) (hs : Srt l) (hl : l.length ≤ 100000) (t : Tx) : Calls Try.prog 54 #[v, .agg t.cs.toArray, (.func (.func 37) #[] #[])] W fun e w' => e = .returned (.tuple #[.int .i64 (pos l t), .bool (at? l t).isSome]) ∧ Below W.heap.size W w' := by
  obtain ⟨s, c, rfl, hf⟩ := h.form
  have HS := Lib.hid h
  have HF := Lib.hid hf
  have HSR := Lib.hid hs
  have HPL := Lib.hid (pos_le l t)
  obtain ⟨p, hp⟩ : ∃ p, p = pos l t := ⟨_, rfl⟩
  rw [← hp] at HPL ⊢
  have HP := Lib.hid hp
  clear h hf hs hp
  go_enter Try.func54, Try.ntmps54
  go_upto_region 1 with (refine wl_box t.cs _ rfl rfl rfl (fun w1 hbw1 hlw1 => ?_); have HB1 := Lib.hid (hbw1); have HLBt := Lib.hid hlw1; obtain ⟨Bt, hBw1⟩ : ∃ Bt, Bt = W.heap.size := ⟨_, rfl⟩; rw [← hBw1] at HLBt ⊢; clear hBw1 hbw1 hlw1; (try simp only [Act.put, List.setIfInBounds_toArray, List.set_cons_zero, List.set_cons_succ]))
  have HS1 := Lib.hid (HS.out.later HB1.out)
  have hpl : p ≤ l.length := HPL.out
  go_wp2_with fail
  go_loopw [9, 10] (fun iv jv wr => ∃ i j : Nat, i ≤ p ∧ p ≤ j ∧ j ≤ l.length ∧ iv = .int .i64 i ∧ jv = .int .i64 j ∧ Below w1.heap.size w1 wr) (fun iv jv _ => (RowKit.intOf jv).toNat - (RowKit.intOf iv).toNat)
  case atStart => exact ⟨0, l.length, Nat.zero_le _, hpl, Nat.le_refl _, rfl, rfl, Below.refl _ _⟩
  case round =>
    obtain ⟨i, j, hi, hj, hjl, rfl, rfl, hb⟩ := hrel
    have HW := Lib.hid hb
    clear hb
    by_cases hij : i < j
    · have hij2 : (i : Int) < (j : Int) := by omega
      obtain ⟨m, hm⟩ : ∃ m, m = (i + j) / 2 := ⟨_, rfl⟩
      have HMI := Lib.hid (show ((i : Int) + (j : Int)) / 2 = (m : Int) from by omega)
      have hm1 : i ≤ m := by omega
      have hm2 : m < j := by omega
      clear hm
      obtain ⟨x, hx⟩ : ∃ x, l[m]? = some x := ⟨_, List.getElem?_eq_getElem (by omega)⟩
      obtain ⟨g, off, rfl, _⟩ := HF.out (by intro e; rw [e] at hjl; simp at hjl; omega)
      have HX := Lib.hid hx
      have HPX := Lib.hid (show place x t < 0 ↔ m < p from by rw [HP.out]; exact pos_spec HSR.out m x hx)
      clear hx
      go_upto_region 5 with fail
      rw [HMI.out]
      have hml : (m : Int) < (l.length : Int) := by omega
      refine wp_region_t [(0, 1), (1, 1), (2, 1), (3, 1), (4, 1), (5, 1), (6, 0), (7, 1)] (fun w' => Sl w' 22 Tx.cs (.slice (some ⟨g, off, none⟩) l.length c) l ∧ Lies w' Bt 81 t.cs.toArray) [] [] rfl (by kernel_rfl) (by kernel_rfl) (fun _ _ d _ _ h => by cases d <;> exact h) ⟨HS1.out.later (bt HW.out (below_drew wr)), (HLBt.out.below HW.out HLBt.out.lt).below (below_drew wr) (Nat.lt_of_lt_of_le HLBt.out.lt HW.out.size)⟩ (fun p hp => by cases hp) ?_
      have HW2 := Lib.hid (bt HW.out (below_drew wr))
      generalize wr.drew = w2 at HW2 ⊢
      repeat (first | (refine ts_take (v := .agg x.cs.toArray) rfl rfl (fun w' hw' => exec_load (sl_range hw'.1 HX.out) _ rfl rfl Try.underlying81 rfl sizeEn) ?_; (try simp only [Act.put, List.setIfInBounds_toArray, List.set_cons_zero, List.set_cons_succ])) | (refine ts_take (v := .agg t.cs.toArray) rfl rfl (fun w' hw' => exec_load (lies_range hw'.2) _ rfl rfl Try.underlying81 rfl sizeEn) ?_; (try simp only [Act.put, List.setIfInBounds_toArray, List.set_cons_zero, List.set_cons_succ])) | (refine ts_take (v := ?_) rfl rfl (fun w' hw' => ?_) ?_; rotate_left; (focus (skip; (try simp only [Act.put, List.setIfInBounds_toArray, List.set_cons_zero, List.set_cons_succ]); go_simp; (try go_bits); (try (with_reducible rfl)))); (try simp only [Act.put, List.setIfInBounds_toArray, List.set_cons_zero, List.set_cons_succ])))
      refine ts_run1 rfl rfl (fun K hK => ?_)
      go_simp
      refine (place_any x t).mono ?_
      rintro en w3 ⟨rfl, hb3⟩
      have HW3 := Lib.hid (bt HW2.out hb3)
      clear hb3
      refine hK.out _ _ ⟨HS1.out.later HW3.out, HLBt.out.below HW3.out HLBt.out.lt⟩ (still_none _ _) ?_
      clear hK K
      (try simp only [Act.put, List.setIfInBounds_toArray, List.set_cons_zero, List.set_cons_succ])
      repeat (refine ts_take (v := ?_) rfl rfl (fun w' hw' => ?_) ?_; rotate_left; (focus (skip; (try simp only [Act.put, List.setIfInBounds_toArray, List.set_cons_zero, List.set_cons_succ]); go_simp; (try go_bits); (try (with_reducible rfl)))); (try simp only [Act.put, List.setIfInBounds_toArray, List.set_cons_zero, List.set_cons_succ]))
      refine ts_done ?_
      by_cases hpx : place x t < 0
      · have hmp := HPX.out.1 hpx
        go_wp2_with fail
        go_roundw
        case rel => exact ⟨m + 1, j, hmp, hj, hjl, by go_num, rfl, HW3.out⟩
        case measure => simp [RowKit.intOf]; omega
      · have hmp : ¬ m < p := fun h => hpx (HPX.out.2 h)
        go_wp2_with fail
        go_roundw
        case rel => exact ⟨i, m, hi, by omega, by omega, rfl, rfl, HW3.out⟩
        case measure => simp [RowKit.intOf]; omega
    · have HIP := Lib.hid (show i = p ∧ j = p from by omega)
      have hij2 : ¬ (i : Int) < (j : Int) := by omega
      obtain ⟨rfl, rfl⟩ := HIP.out
      clear HIP
      go_upto_region 8 with fail
      by_cases hlt : j < l.length
      · have hlt2 : (j : Int) < (l.length : Int) := by omega
        obtain ⟨x, hx⟩ : ∃ x, l[j]? = some x := ⟨_, List.getElem?_eq_getElem hlt⟩
        obtain ⟨g, off, rfl, _⟩ := HF.out (by intro e; rw [e] at hlt; simp at hlt)
        have HX := Lib.hid hx
        have HAT := Lib.hid (show (at? l t).isSome = decide (place x t = 0) from by unfold at?; rw [← HP.out, hx]; simp only; by_cases e : place x t = 0 <;> simp [e])
        clear hx
        refine wp_region_t [(0, 1), (1, 1), (2, 1), (3, 1), (4, 1), (5, 1), (6, 1), (7, 1), (8, 1), (9, 1), (10, 1), (11, 0), (12, 1), (13, 1), (14, 1), (15, 1)] (fun w' => Sl w' 22 Tx.cs (.slice (some ⟨g, off, none⟩) l.length c) l ∧ Lies w' Bt 81 t.cs.toArray) [] [] rfl (by kernel_rfl) (by kernel_rfl) (fun _ _ d _ _ h => by cases d <;> exact h) ⟨HS1.out.later (bt HW.out (below_drew wr)), (HLBt.out.below HW.out HLBt.out.lt).below (below_drew wr) (Nat.lt_of_lt_of_le HLBt.out.lt HW.out.size)⟩ (fun p hp => by cases hp) ?_
        have HW2 := Lib.hid (bt HW.out (below_drew wr))
        generalize wr.drew = w2 at HW2 ⊢
        repeat (first | (refine ts_take (v := .agg x.cs.toArray) rfl rfl (fun w' hw' => exec_load (sl_range hw'.1 HX.out) _ rfl rfl Try.underlying81 rfl sizeEn) ?_; (try simp only [Act.put, List.setIfInBounds_toArray, List.set_cons_zero, List.set_cons_succ])) | (refine ts_take (v := .agg t.cs.toArray) rfl rfl (fun w' hw' => exec_load (lies_range hw'.2) _ rfl rfl Try.underlying81 rfl sizeEn) ?_; (try simp only [Act.put, List.setIfInBounds_toArray, List.set_cons_zero, List.set_cons_succ])) | (refine ts_take (v := ?_) rfl rfl (fun w' hw' => ?_) ?_; rotate_left; (focus (skip; (try simp only [Act.put, List.setIfInBounds_toArray, List.set_cons_zero, List.set_cons_succ]); go_simp; (try go_bits); (try (with_reducible rfl)))); (try simp only [Act.put, List.setIfInBounds_toArray, List.set_cons_zero, List.set_cons_succ])))
        refine ts_run1 rfl rfl (fun K hK => ?_)
        go_simp
        refine (place_any x t).mono ?_
        rintro en w3 ⟨rfl, hb3⟩
        have HW3 := Lib.hid (bt HW2.out hb3)
        clear hb3
        refine hK.out _ _ ⟨HS1.out.later HW3.out, HLBt.out.below HW3.out HLBt.out.lt⟩ (still_none _ _) ?_
        clear hK K
        (try simp only [Act.put, List.setIfInBounds_toArray, List.set_cons_zero, List.set_cons_succ])
        repeat (refine ts_take (v := ?_) rfl rfl (fun w' hw' => ?_) ?_; rotate_left; (focus (skip; (try simp only [Act.put, List.setIfInBounds_toArray, List.set_cons_zero, List.set_cons_succ]); go_simp; (try go_bits); (try (with_reducible rfl)))); (try simp only [Act.put, List.setIfInBounds_toArray, List.set_cons_zero, List.set_cons_succ]))
        refine ts_done ?_
        go_wp2_with fail
        go_ret2
        exact ⟨by rw [HAT.out]; rfl, bt HB1.out HW3.out⟩
      · have hlt2 : ¬ (j : Int) < (l.length : Int) := by omega
        have HAT := Lib.hid (show (at? l t).isSome = false from by unfold at?; rw [← HP.out, List.getElem?_eq_none (by omega)]; rfl)
        refine wp_region_t [(0, 1), (1, 1), (2, 1), (3, 1), (4, 1), (5, 1), (6, 1), (7, 1), (8, 1), (9, 1), (10, 1), (11, 0), (12, 1), (13, 1), (14, 1), (15, 1)] (fun _ => True) [] [] rfl (by kernel_rfl) (by kernel_rfl) (fun _ _ d _ _ h => by cases d <;> exact h) trivial (fun p hp => by cases hp) ?_
        have HW2 := Lib.hid (bt HW.out (below_drew wr))
        generalize wr.drew = w2 at HW2 ⊢
        repeat (first | (refine ts_take (v := ?_) rfl rfl (fun w' hw' => ?_) ?_; rotate_left; (focus (skip; (try simp only [Act.put, List.setIfInBounds_toArray, List.set_cons_zero, List.set_cons_succ]); go_simp; (try go_bits); (try (with_reducible rfl)))); (try simp only [Act.put, List.setIfInBounds_toArray, List.set_cons_zero, List.set_cons_succ])) | (refine ts_skip rfl rfl ?_; (try simp only [Act.put, List.setIfInBounds_toArray, List.set_cons_zero, List.set_cons_succ])))
        refine ts_pass rfl rfl trivial (still_none _ _) ?_
        (try simp only [Act.put, List.setIfInBounds_toArray, List.set_cons_zero, List.set_cons_succ])
        repeat (first | (refine ts_take (v := ?_) rfl rfl (fun w' hw' => ?_) ?_; rotate_left; (focus (skip; (try simp only [Act.put, List.setIfInBounds_toArray, List.set_cons_zero, List.set_cons_succ]); go_simp; (try go_bits); (try (with_reducible rfl)))); (try simp only [Act.put, List.setIfInBounds_toArray, List.set_cons_zero, List.set_cons_succ])) | (refine ts_skip rfl rfl ?_; (try simp only [Act.put, List.setIfInBounds_toArray, List.set_cons_zero, List.set_cons_succ])))
        refine ts_done ?_
        go_wp2_with fail
        go_ret2
        exact ⟨by rw [HAT.out]; rfl, bt HB1.out HW2.out⟩
theorem sizeAd : (Try.prog.info? 23).map (·.size) = some 8 := by kernel_rfl
set_option maxRecDepth 100000 in
set_option maxHeartbeats 16000000 in
theorem find_any {base : Nat} {W : World} {bp most : Nat} {v : Value} {l : List Tx} (h : PoolAt base W bp most v l) (hl : l.length ≤ 100000) (t : Tx) : Calls Try.prog 32 #[.pointer (some ⟨bp, 0, none⟩), t.frm.v, .int .u64 t.nonce] W fun e w' => e = .returned (.tuple #[.int .i64 (pos l t), .bool (at? l t).isSome]) ∧ Below W.heap.size W w' := by
  have HPA := Lib.hid h
  have e1 : pos l t = pos l (⟨0, t.frm, ⟨0, 0, 0, 0, 0, 0, 0, 0⟩, t.nonce, 0, 0, 0, .slice none 0 0, []⟩ : Tx) := rfl
  have e2 : at? l t = at? l (⟨0, t.frm, ⟨0, 0, 0, 0, 0, 0, 0, 0⟩, t.nonce, 0, 0, 0, .slice none 0 0, []⟩ : Tx) := rfl
  rw [e1, e2]
  clear e1 e2 h
  go_enter Try.func32, Try.ntmps32
  go_upto_region 1 with (refine wl_box t.frm.cs _ rfl rfl rfl (fun w1 hb1 hl1 => ?_); have HB1 := Lib.hid hb1; have HA1 := Lib.hid hl1; obtain ⟨Ba, hBa⟩ : ∃ Ba, Ba = W.heap.size := ⟨_, rfl⟩; rw [← hBa] at HA1 ⊢; clear hBa hb1 hl1; (try simp only [Act.put, List.setIfInBounds_toArray, List.set_cons_zero, List.set_cons_succ]))
  refine wp_region_t [(0, 1), (1, 1), (2, 1), (3, 1), (4, 1), (5, 1), (6, 1), (7, 1), (8, 0), (9, 1), (10, 1), (11, 1), (12, 1)] (fun w' => w'.cell? ⟨bp, 1, none⟩ = some v ∧ Lies w' Ba 23 t.frm.cs.toArray) [] [] rfl (by kernel_rfl) (by kernel_rfl) (fun _ _ d _ _ h => by cases d <;> exact h) ⟨(HPA.out.later (bt HB1.out (below_drew w1))).box.cell 1, HA1.out.below (below_drew w1) HA1.out.lt⟩ (fun p hp => by cases hp) ?_
  have HB2 := Lib.hid (bt HB1.out (below_drew w1))
  have HA2 := Lib.hid (HA1.out.below (below_drew w1) HA1.out.lt)
  generalize w1.drew = w2 at HB2 HA2 ⊢
  repeat (first | (refine ts_take (i := 4) (v := .agg t.frm.cs.toArray) rfl rfl (fun w' hw' => exec_load (lies_range hw'.2) _ rfl rfl Try.underlying23 rfl sizeAd) ?_; (try simp only [Act.put, List.setIfInBounds_toArray, List.set_cons_zero, List.set_cons_succ])) | (refine ts_take (i := 6) (v := .agg (⟨0, t.frm, ⟨0, 0, 0, 0, 0, 0, 0, 0⟩, t.nonce, 0, 0, 0, .slice none 0 0, []⟩ : Tx).cs.toArray) rfl rfl (fun w' _ => by kernel_rfl) ?_; (try simp only [Act.put, List.setIfInBounds_toArray, List.set_cons_zero, List.set_cons_succ])) | (refine ts_take (i := 7) (v := .agg (⟨0, t.frm, ⟨0, 0, 0, 0, 0, 0, 0, 0⟩, t.nonce, 0, 0, 0, .slice none 0 0, []⟩ : Tx).cs.toArray) rfl rfl (fun w' _ => by kernel_rfl) ?_; (try simp only [Act.put, List.setIfInBounds_toArray, List.set_cons_zero, List.set_cons_succ])) | (refine ts_take (v := ?_) rfl rfl (fun w' hw' => ?_) ?_; rotate_left; (focus (have q0 := hw'.1; (try simp only [Act.put, List.setIfInBounds_toArray, List.set_cons_zero, List.set_cons_succ]); go_simp; (try go_bits); (try (with_reducible rfl)))); (try simp only [Act.put, List.setIfInBounds_toArray, List.set_cons_zero, List.set_cons_succ])))
  refine ts_run1 rfl rfl (fun K hK => ?_)
  go_simp
  refine (search_any (t := (⟨0, t.frm, ⟨0, 0, 0, 0, 0, 0, 0, 0⟩, t.nonce, 0, 0, 0, .slice none 0 0, []⟩ : Tx)) (HPA.out.later HB2.out).sl HPA.out.ok.srt hl).mono ?_
  rintro en w3 ⟨rfl, hb3⟩
  have HB3 := Lib.hid (bt HB2.out hb3)
  refine hK.out _ _ ⟨(HPA.out.later HB3.out).box.cell 1, HA2.out.below hb3 HA2.out.lt⟩ (still_none _ _) ?_
  clear hK K hb3
  (try simp only [Act.put, List.setIfInBounds_toArray, List.set_cons_zero, List.set_cons_succ])
  repeat (refine ts_take (v := ?_) rfl rfl (fun w' hw' => ?_) ?_; rotate_left; (focus (skip; (try simp only [Act.put, List.setIfInBounds_toArray, List.set_cons_zero, List.set_cons_succ]); go_simp; (try go_bits); (try (with_reducible rfl)))); (try simp only [Act.put, List.setIfInBounds_toArray, List.set_cons_zero, List.set_cons_succ]))
  refine ts_done ?_
  go_wp2_with fail
  go_ret2
  exact ⟨rfl, HB3.out⟩
end Go.Proofs.Ytkdckcjnjljdmaa.Po
