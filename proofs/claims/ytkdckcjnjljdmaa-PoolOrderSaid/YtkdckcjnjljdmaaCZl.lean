/- entry.place, entry.rank, pool.Better. -/
import Derived.Test.YtkdckcjnjljdmaaCZi
import Derived.Test.YtkdckcjnjljdmaaCCb
namespace Go.Proofs.Ytkdckcjnjljdmaa.Po
open Go Go.RowKit Go.Lib Kt Fm Ad Kv

section
variable {P : Program} {op : Oper} {a : Act} {w : World} {K : Act → World → Prop} {Q : Exit → Act → World → Prop}
theorem wp_bsN {t e : TypeId} {n d : Nat} {args : Array (Nat × Operand)} (_hd : op.dst = some d) (ho : op.op = .buildSlice t n args) (cs : List Value) (hb : ∀ w, (Instr.buildSlice t n (args.map fun p => (p.1, a.eval p.2))).run P w = .ok (.slice (some ⟨w.heap.size, 0, none⟩) n n) (w.alloc (.cells cs.toArray e)))
    (hK : ∀ w1, Below w.heap.size w w1 → Lies w1 w.heap.size e cs.toArray → K (a.put op.dst (.slice (some ⟨w.heap.size, 0, none⟩) n n)) w1) : op.wp P a w K Q := by
  have := hb w
  unfold Oper.wp execOp
  simp only [ho, this, Sem.run_bind, Sem.run_pure, Result.andThen_ok]
  exact hK _ ((Below.refl _ _).alloc (Nat.le_refl _) _) (Lies.new w _ _)
end
theorem rb_sl {W : World} {s : Option Go.Addr} {c : Nat} {b : List UInt8} (h : Sl W 1 bc (.slice s b.length c) b) : RB W W.heap.size s b := fun hl => by
  obtain ⟨s', c', e, hf⟩ := h
  injection e with e1 e2 e3
  subst e1
  obtain ⟨g, off, rfl, hg, hc⟩ := hf (by intro e; rw [e] at hl; simp at hl)
  refine ⟨_, rfl, hg, fun j x hj => ?_⟩
  rw [Addr.add_lit]
  have := hc j x hj 0 (.int .u8 x.toNat) rfl
  simpa using this
theorem bcmp_any {W : World} {v v' : Value} {b b' : List UInt8} (h : Sl W 1 bc v b) (h' : Sl W 1 bc v' b') : Calls Try.prog 22 #[v, v'] W fun e w' => e = .returned (.int .i64 (Lib.compareBytes b b')) ∧ Below W.heap.size W w' := by
  obtain ⟨s, c, rfl, _⟩ := h.form
  obtain ⟨s', c', rfl, _⟩ := h'.form
  refine (bytes_compare (rb_sl h) (rb_sl h') c c').mono ?_
  rintro e w ⟨rfl, rfl⟩
  exact ⟨rfl, Below.refl _ _⟩
theorem sl_frmE {w : World} {B : Nat} {t : Tx} (h : Lies w B 81 t.cs.toArray) : Sl w 1 bc (.slice (some ⟨B, 1, none⟩) 8 8) t.frm.l := by
  refine ⟨_, 8, rfl, fun _ => ⟨B, 1, rfl, h.lt, fun i x hi j c hj => ?_⟩⟩
  have hj0 : j = 0 := by
    have := (List.getElem?_eq_some_iff.1 hj).1
    simp [bc] at this
    exact this
  subst hj0
  rw [Nat.mul_one, Nat.add_zero, h.cell]
  obtain rfl : c = .int .u8 x.toNat := (Option.some.inj hj).symm
  match i, hi with
  | 0, hi => cases hi; rfl
  | 1, hi => cases hi; rfl
  | 2, hi => cases hi; rfl
  | 3, hi => cases hi; rfl
  | 4, hi => cases hi; rfl
  | 5, hi => cases hi; rfl
  | 6, hi => cases hi; rfl
  | 7, hi => cases hi; rfl
  | i + 8, hi => cases hi
set_option maxRecDepth 100000 in
set_option maxHeartbeats 16000000 in
theorem place_any {W : World} (x y : Tx) : Calls Try.prog 37 #[.agg x.cs.toArray, .agg y.cs.toArray] W fun e w' => e = .returned (.int .i64 (place x y)) ∧ Below W.heap.size W w' := by
  have HP := Lib.hid (show orL [Lib.compareBytes x.frm.l y.frm.l, cmpN x.nonce y.nonce] = place x y from orL_two _ _)
  obtain ⟨p, hp⟩ : ∃ p, p = place x y := ⟨_, rfl⟩
  rw [← hp] at HP ⊢
  clear hp
  go_enter Try.func37, Try.ntmps37
  go_upto_region 1 with (first | (refine wl_box x.cs _ rfl rfl rfl (fun w1 hbw1 hlw1 => ?_); have HB1 := Lib.hid (hbw1); have HLBx := Lib.hid hlw1; obtain ⟨Bx, hBw1⟩ : ∃ Bx, Bx = W.heap.size := ⟨_, rfl⟩; rw [← hBw1] at HLBx ⊢; clear hBw1 hbw1 hlw1; (try simp only [Act.put, List.setIfInBounds_toArray, List.set_cons_zero, List.set_cons_succ])) | (refine wl_box y.cs _ rfl rfl rfl (fun w2 hbw2 hlw2 => ?_); have HB2 := Lib.hid (bt HB1.out hbw2); have HLBy := Lib.hid hlw2; obtain ⟨By, hBw2⟩ : ∃ By, By = w1.heap.size := ⟨_, rfl⟩; rw [← hBw2] at HLBy ⊢; have HLBx2 := Lib.hid (HLBx.out.below hbw2 HLBx.out.lt); clear hBw2 hbw2 hlw2; (try simp only [Act.put, List.setIfInBounds_toArray, List.set_cons_zero, List.set_cons_succ])))
  refine wp_region_t [(0, 1), (1, 1), (2, 1), (3, 1), (4, 1), (5, 1), (7, 1), (8, 1), (9, 1), (10, 1), (11, 1), (12, 1), (6, 0), (13, 0), (14, 0), (15, 0), (16, 1)] (fun w' => Lies w' Bx 81 x.cs.toArray ∧ Lies w' By 81 y.cs.toArray) [] [] rfl (by kernel_rfl) (by kernel_rfl) (fun _ _ d _ _ h => by cases d <;> exact h) ⟨HLBx2.out.below (below_drew w2) HLBx2.out.lt, HLBy.out.below (below_drew w2) HLBy.out.lt⟩ (fun p hp => by cases hp) ?_
  have X3 := Lib.hid (HLBx2.out.below (below_drew w2) HLBx2.out.lt)
  have Y3 := Lib.hid (HLBy.out.below (below_drew w2) HLBy.out.lt)
  have HB3 := Lib.hid (bt HB2.out (below_drew w2))
  generalize w2.drew = w3 at X3 Y3 HB3 ⊢
  repeat (refine ts_take (v := ?_) rfl rfl (fun w' hw' => ?_) ?_; rotate_left; (focus (have q0 : w'.cell? ⟨Bx, 20, none⟩ = some (.int .u64 x.price) := hw'.1.cell 20; have q1 : w'.cell? ⟨By, 20, none⟩ = some (.int .u64 y.price) := hw'.2.cell 20; have q2 : w'.cell? ⟨Bx, 19, none⟩ = some (.int .u64 x.gas) := hw'.1.cell 19; have q3 : w'.cell? ⟨By, 19, none⟩ = some (.int .u64 y.gas) := hw'.2.cell 19; have q4 : w'.cell? ⟨Bx, 17, none⟩ = some (.int .u64 x.nonce) := hw'.1.cell 17; have q5 : w'.cell? ⟨By, 17, none⟩ = some (.int .u64 y.nonce) := hw'.2.cell 17; (try simp only [Act.put, List.setIfInBounds_toArray, List.set_cons_zero, List.set_cons_succ]); go_simp; (try go_bits); (try (with_reducible rfl)))); (try simp only [Act.put, List.setIfInBounds_toArray, List.set_cons_zero, List.set_cons_succ]))
  refine ts_run1 rfl rfl (fun K hK => ?_)
  go_simp
  refine (bcmp_any (sl_frmE X3.out) (sl_frmE Y3.out)).mono ?_
  rintro en w4 ⟨rfl, hb4⟩
  have X4 := Lib.hid (X3.out.below hb4 X3.out.lt)
  have Y4 := Lib.hid (Y3.out.below hb4 Y3.out.lt)
  have HB4 := Lib.hid (bt HB3.out hb4)
  clear hb4
  refine hK.out _ _ ⟨X4.out, Y4.out⟩ (still_none _ _) ?_
  clear hK K
  (try simp only [Act.put, List.setIfInBounds_toArray, List.set_cons_zero, List.set_cons_succ])
  refine ts_run1 rfl rfl (fun K hK => ?_)
  go_simp
  refine (cmp_any x.nonce y.nonce _).mono ?_
  rintro en w5 ⟨rfl, hb5⟩
  have X5 := Lib.hid (X4.out.below hb5 X4.out.lt)
  have Y5 := Lib.hid (Y4.out.below hb5 Y4.out.lt)
  have HB5 := Lib.hid (bt HB4.out hb5)
  clear hb5
  refine hK.out _ _ ⟨X5.out, Y5.out⟩ (still_none _ _) ?_
  clear hK K
  (try simp only [Act.put, List.setIfInBounds_toArray, List.set_cons_zero, List.set_cons_succ])
  refine ts_run1 rfl rfl (fun K hK => ?_)
  refine wp_bsN (e := 3) (d := 19) rfl rfl [Value.int .i64 (Lib.compareBytes x.frm.l y.frm.l), .int .i64 (cmpN x.nonce y.nonce)] (fun w => by kernel_rfl) (fun w6 hb6 hl6 => ?_)
  have X6 := Lib.hid (X5.out.below hb6 X5.out.lt)
  have Y6 := Lib.hid (Y5.out.below hb6 Y5.out.lt)
  have HB6 := Lib.hid (bt HB5.out hb6)
  have SL6 := Lib.hid (show Sl w6 1 ic (.slice (some ⟨w5.heap.size, 0, none⟩) 2 2) [Lib.compareBytes x.frm.l y.frm.l, cmpN x.nonce y.nonce] from sl_many (L := [Lib.compareBytes x.frm.l y.frm.l, cmpN x.nonce y.nonce]) (en := ic) (sz := 1) (fun _ => rfl) hl6)
  clear hb6 hl6
  refine hK.out _ _ ⟨X6.out, Y6.out⟩ (still_none _ _) ?_
  clear hK K
  (try simp only [Act.put, List.setIfInBounds_toArray, List.set_cons_zero, List.set_cons_succ])
  refine ts_run1 rfl rfl (fun K hK => ?_)
  go_simp
  refine (or_any SL6.out (by simp)).mono ?_
  rintro en w7 ⟨rfl, hb7⟩
  have X7 := Lib.hid (X6.out.below hb7 X6.out.lt)
  have Y7 := Lib.hid (Y6.out.below hb7 Y6.out.lt)
  have HB7 := Lib.hid (bt HB6.out hb7)
  clear hb7
  refine hK.out _ _ ⟨X7.out, Y7.out⟩ (still_none _ _) ?_
  clear hK K
  (try simp only [Act.put, List.setIfInBounds_toArray, List.set_cons_zero, List.set_cons_succ])
  rw [HP.out]
  repeat (refine ts_take (v := ?_) rfl rfl (fun w' hw' => ?_) ?_; rotate_left; (focus (have q0 : w'.cell? ⟨Bx, 20, none⟩ = some (.int .u64 x.price) := hw'.1.cell 20; have q1 : w'.cell? ⟨By, 20, none⟩ = some (.int .u64 y.price) := hw'.2.cell 20; have q2 : w'.cell? ⟨Bx, 19, none⟩ = some (.int .u64 x.gas) := hw'.1.cell 19; have q3 : w'.cell? ⟨By, 19, none⟩ = some (.int .u64 y.gas) := hw'.2.cell 19; have q4 : w'.cell? ⟨Bx, 17, none⟩ = some (.int .u64 x.nonce) := hw'.1.cell 17; have q5 : w'.cell? ⟨By, 17, none⟩ = some (.int .u64 y.nonce) := hw'.2.cell 17; (try simp only [Act.put, List.setIfInBounds_toArray, List.set_cons_zero, List.set_cons_succ]); go_simp; (try go_bits); (try (with_reducible rfl)))); (try simp only [Act.put, List.setIfInBounds_toArray, List.set_cons_zero, List.set_cons_succ]))
  refine ts_done ?_
  go_wp2_with fail
  go_ret
  exact ⟨rfl, HB7.out⟩
set_option maxRecDepth 100000 in
set_option maxHeartbeats 16000000 in
theorem rput_any {W : World} {t : Tx} (h : TxOk W t) (hm : mayT t = 0) : Calls Try.prog 48 #[.agg t.cs.toArray] W fun e w' => ∃ v', e = .returned v' ∧ w'.ownsRow W.heap.size 5 1 v' t.bytes.length (t.bytes.flatMap bc) ∧ Below W.heap.size W w' := by
  have HK := Lib.hid h
  have HM := Lib.hid hm
  clear h hm
  go_enter Try.func48, Try.ntmps48
  go_upto_region 1 with (refine wl_box t.cs _ rfl rfl rfl (fun w1 hbw1 hlw1 => ?_); have HB1 := Lib.hid (hbw1); have HLB := Lib.hid hlw1; obtain ⟨B, hBw1⟩ : ∃ B, B = W.heap.size := ⟨_, rfl⟩; rw [← hBw1] at HLB ⊢; clear hBw1 hbw1 hlw1; (try simp only [Act.put, List.setIfInBounds_toArray, List.set_cons_zero, List.set_cons_succ]))
  go_wp2_with (refine wpList_load_mid rfl 32 _ rfl B 0 rfl t.cs _ (lies_range HLB.out) Try.underlying32 rfl sizeTx ?_; (try simp only [Act.put, List.setIfInBounds_toArray, List.set_cons_zero, List.set_cons_succ]))
  refine (put_any (HK.out.later HB1.out) HM.out).mono ?_
  rintro en w2 ⟨v2, rfl, hr2, hb2⟩
  have HR2 := Lib.hid (show w2.ownsRow W.heap.size 5 1 v2 t.bytes.length (t.bytes.flatMap bc) from hr2.mono HB1.out.size)
  have HB2 := Lib.hid (bt HB1.out hb2)
  clear hr2 hb2
  go_wp2_with fail
  go_ret
  exact ⟨v2, rfl, HR2.out, HB2.out⟩
set_option maxRecDepth 100000 in
set_option maxHeartbeats 16000000 in
theorem rank_any {W : World} {x y : Tx} (hx : TxOk W x) (hy : TxOk W y) (mx : mayT x = 0) (my : mayT y = 0) : Calls Try.prog 29 #[.agg x.cs.toArray, .agg y.cs.toArray] W fun e w' => e = .returned (.int .i64 (rank x y)) ∧ Below W.heap.size W w' := by
  have HP := Lib.hid (show orL [cmpN y.price x.price, cmpN x.gas y.gas, Lib.compareBytes x.bytes y.bytes] = rank x y from orL_three _ _ _)
  obtain ⟨p, hp⟩ : ∃ p, p = rank x y := ⟨_, rfl⟩
  rw [← hp] at HP ⊢
  have HKX := Lib.hid hx
  have HKY := Lib.hid hy
  have HMX := Lib.hid mx
  have HMY := Lib.hid my
  clear hp hx hy mx my
  go_enter Try.func29, Try.ntmps29
  go_upto_region 2 with (first | (refine wl_box x.cs _ rfl rfl rfl (fun w1 hbw1 hlw1 => ?_); have HB1 := Lib.hid (hbw1); have HLBx := Lib.hid hlw1; obtain ⟨Bx, hBw1⟩ : ∃ Bx, Bx = W.heap.size := ⟨_, rfl⟩; rw [← hBw1] at HLBx ⊢; clear hBw1 hbw1 hlw1; (try simp only [Act.put, List.setIfInBounds_toArray, List.set_cons_zero, List.set_cons_succ])) | (refine wl_box y.cs _ rfl rfl rfl (fun w2 hbw2 hlw2 => ?_); have HB2 := Lib.hid (bt HB1.out hbw2); have HLBy := Lib.hid hlw2; obtain ⟨By, hBw2⟩ : ∃ By, By = w1.heap.size := ⟨_, rfl⟩; rw [← hBw2] at HLBy ⊢; have HLBx2 := Lib.hid (HLBx.out.below hbw2 HLBx.out.lt); clear hBw2 hbw2 hlw2; (try simp only [Act.put, List.setIfInBounds_toArray, List.set_cons_zero, List.set_cons_succ])))
  refine wp_region_t [(0, 1), (1, 1), (2, 1), (3, 1), (4, 1), (5, 1), (7, 1), (8, 1), (9, 1), (10, 1), (11, 1), (12, 1), (14, 1), (15, 1), (16, 1), (18, 1), (19, 1), (20, 1), (6, 0), (13, 0), (17, 0), (21, 0), (22, 0), (23, 0), (24, 0), (25, 1)] (fun w' => Lies w' Bx 81 x.cs.toArray ∧ Lies w' By 81 y.cs.toArray) [] [] rfl (by kernel_rfl) (by kernel_rfl) (fun _ _ d _ _ h => by cases d <;> exact h) ⟨HLBx2.out.below (below_drew w2) HLBx2.out.lt, HLBy.out.below (below_drew w2) HLBy.out.lt⟩ (fun p hp => by cases hp) ?_
  have X3 := Lib.hid (HLBx2.out.below (below_drew w2) HLBx2.out.lt)
  have Y3 := Lib.hid (HLBy.out.below (below_drew w2) HLBy.out.lt)
  have HB3 := Lib.hid (bt HB2.out (below_drew w2))
  generalize w2.drew = w3 at X3 Y3 HB3 ⊢
  repeat (first | (refine ts_take (v := .agg x.cs.toArray) rfl rfl (fun w' hw' => exec_load (lies_range hw'.1) _ rfl rfl Try.underlying32 rfl sizeTx) ?_; (try simp only [Act.put, List.setIfInBounds_toArray, List.set_cons_zero, List.set_cons_succ])) | (refine ts_take (v := .agg y.cs.toArray) rfl rfl (fun w' hw' => exec_load (lies_range hw'.2) _ rfl rfl Try.underlying32 rfl sizeTx) ?_; (try simp only [Act.put, List.setIfInBounds_toArray, List.set_cons_zero, List.set_cons_succ])) | (refine ts_take (v := ?_) rfl rfl (fun w' hw' => ?_) ?_; rotate_left; (focus (have q0 : w'.cell? ⟨Bx, 20, none⟩ = some (.int .u64 x.price) := hw'.1.cell 20; have q1 : w'.cell? ⟨By, 20, none⟩ = some (.int .u64 y.price) := hw'.2.cell 20; have q2 : w'.cell? ⟨Bx, 19, none⟩ = some (.int .u64 x.gas) := hw'.1.cell 19; have q3 : w'.cell? ⟨By, 19, none⟩ = some (.int .u64 y.gas) := hw'.2.cell 19; have q4 : w'.cell? ⟨Bx, 17, none⟩ = some (.int .u64 x.nonce) := hw'.1.cell 17; have q5 : w'.cell? ⟨By, 17, none⟩ = some (.int .u64 y.nonce) := hw'.2.cell 17; (try simp only [Act.put, List.setIfInBounds_toArray, List.set_cons_zero, List.set_cons_succ]); go_simp; (try go_bits); (try (with_reducible rfl)))); (try simp only [Act.put, List.setIfInBounds_toArray, List.set_cons_zero, List.set_cons_succ])))
  refine ts_run1 rfl rfl (fun K hK => ?_)
  go_simp
  refine (cmp_any y.price x.price _).mono ?_
  rintro en w4 ⟨rfl, hb4⟩
  have X4 := Lib.hid (X3.out.below hb4 X3.out.lt)
  have Y4 := Lib.hid (Y3.out.below hb4 Y3.out.lt)
  have HB4 := Lib.hid (bt HB3.out hb4)
  clear hb4
  refine hK.out _ _ ⟨X4.out, Y4.out⟩ (still_none _ _) ?_
  clear hK K
  (try simp only [Act.put, List.setIfInBounds_toArray, List.set_cons_zero, List.set_cons_succ])
  refine ts_run1 rfl rfl (fun K hK => ?_)
  go_simp
  refine (cmp_any x.gas y.gas _).mono ?_
  rintro en w5 ⟨rfl, hb5⟩
  have X5 := Lib.hid (X4.out.below hb5 X4.out.lt)
  have Y5 := Lib.hid (Y4.out.below hb5 Y4.out.lt)
  have HB5 := Lib.hid (bt HB4.out hb5)
  clear hb5
  refine hK.out _ _ ⟨X5.out, Y5.out⟩ (still_none _ _) ?_
  clear hK K
  (try simp only [Act.put, List.setIfInBounds_toArray, List.set_cons_zero, List.set_cons_succ])
  refine ts_run1 rfl rfl (fun K hK => ?_)
  go_simp
  refine (rput_any (HKX.out.later HB5.out) HMX.out).mono ?_
  rintro en w6 ⟨u6, rfl, hr6, hb6⟩
  have X6 := Lib.hid (X5.out.below hb6 X5.out.lt)
  have Y6 := Lib.hid (Y5.out.below hb6 Y5.out.lt)
  have HB6 := Lib.hid (bt HB5.out hb6)
  have R6 := Lib.hid (own_sl bc_len hr6)
  clear hr6
  clear hb6
  refine hK.out _ _ ⟨X6.out, Y6.out⟩ (still_none _ _) ?_
  clear hK K
  (try simp only [Act.put, List.setIfInBounds_toArray, List.set_cons_zero, List.set_cons_succ])
  refine ts_run1 rfl rfl (fun K hK => ?_)
  go_simp
  refine (rput_any (HKY.out.later HB6.out) HMY.out).mono ?_
  rintro en w7 ⟨u7, rfl, hr7, hb7⟩
  have X7 := Lib.hid (X6.out.below hb7 X6.out.lt)
  have Y7 := Lib.hid (Y6.out.below hb7 Y6.out.lt)
  have HB7 := Lib.hid (bt HB6.out hb7)
  have R7 := Lib.hid (R6.out.later hb7)
  have Q7 := Lib.hid (own_sl bc_len hr7)
  clear hr7
  clear hb7
  refine hK.out _ _ ⟨X7.out, Y7.out⟩ (still_none _ _) ?_
  clear hK K
  (try simp only [Act.put, List.setIfInBounds_toArray, List.set_cons_zero, List.set_cons_succ])
  refine ts_run1 rfl rfl (fun K hK => ?_)
  go_simp
  refine (bcmp_any R7.out Q7.out).mono ?_
  rintro en w8 ⟨rfl, hb8⟩
  have X8 := Lib.hid (X7.out.below hb8 X7.out.lt)
  have Y8 := Lib.hid (Y7.out.below hb8 Y7.out.lt)
  have HB8 := Lib.hid (bt HB7.out hb8)
  clear hb8
  refine hK.out _ _ ⟨X8.out, Y8.out⟩ (still_none _ _) ?_
  clear hK K
  (try simp only [Act.put, List.setIfInBounds_toArray, List.set_cons_zero, List.set_cons_succ])
  refine ts_run1 rfl rfl (fun K hK => ?_)
  refine wp_bsN (e := 3) (d := 29) rfl rfl [Value.int .i64 (cmpN y.price x.price), .int .i64 (cmpN x.gas y.gas), .int .i64 (Lib.compareBytes x.bytes y.bytes)] (fun w => by kernel_rfl) (fun w9 hb9 hl9 => ?_)
  have X9 := Lib.hid (X8.out.below hb9 X8.out.lt)
  have Y9 := Lib.hid (Y8.out.below hb9 Y8.out.lt)
  have HB9 := Lib.hid (bt HB8.out hb9)
  have SL9 := Lib.hid (show Sl w9 1 ic (.slice (some ⟨w8.heap.size, 0, none⟩) 3 3) [cmpN y.price x.price, cmpN x.gas y.gas, Lib.compareBytes x.bytes y.bytes] from sl_many (L := [cmpN y.price x.price, cmpN x.gas y.gas, Lib.compareBytes x.bytes y.bytes]) (en := ic) (sz := 1) (fun _ => rfl) hl9)
  clear hb9 hl9
  refine hK.out _ _ ⟨X9.out, Y9.out⟩ (still_none _ _) ?_
  clear hK K
  (try simp only [Act.put, List.setIfInBounds_toArray, List.set_cons_zero, List.set_cons_succ])
  refine ts_run1 rfl rfl (fun K hK => ?_)
  go_simp
  refine (or_any SL9.out (by simp)).mono ?_
  rintro en w10 ⟨rfl, hb10⟩
  have X10 := Lib.hid (X9.out.below hb10 X9.out.lt)
  have Y10 := Lib.hid (Y9.out.below hb10 Y9.out.lt)
  have HB10 := Lib.hid (bt HB9.out hb10)
  clear hb10
  refine hK.out _ _ ⟨X10.out, Y10.out⟩ (still_none _ _) ?_
  clear hK K
  (try simp only [Act.put, List.setIfInBounds_toArray, List.set_cons_zero, List.set_cons_succ])
  rw [HP.out]
  repeat (refine ts_take (v := ?_) rfl rfl (fun w' hw' => ?_) ?_; rotate_left; (focus (have q0 : w'.cell? ⟨Bx, 20, none⟩ = some (.int .u64 x.price) := hw'.1.cell 20; have q1 : w'.cell? ⟨By, 20, none⟩ = some (.int .u64 y.price) := hw'.2.cell 20; have q2 : w'.cell? ⟨Bx, 19, none⟩ = some (.int .u64 x.gas) := hw'.1.cell 19; have q3 : w'.cell? ⟨By, 19, none⟩ = some (.int .u64 y.gas) := hw'.2.cell 19; have q4 : w'.cell? ⟨Bx, 17, none⟩ = some (.int .u64 x.nonce) := hw'.1.cell 17; have q5 : w'.cell? ⟨By, 17, none⟩ = some (.int .u64 y.nonce) := hw'.2.cell 17; (try simp only [Act.put, List.setIfInBounds_toArray, List.set_cons_zero, List.set_cons_succ]); go_simp; (try go_bits); (try (with_reducible rfl)))); (try simp only [Act.put, List.setIfInBounds_toArray, List.set_cons_zero, List.set_cons_succ]))
  refine ts_done ?_
  go_wp2_with fail
  go_ret
  exact ⟨rfl, HB10.out⟩
end Go.Proofs.Ytkdckcjnjljdmaa.Po
