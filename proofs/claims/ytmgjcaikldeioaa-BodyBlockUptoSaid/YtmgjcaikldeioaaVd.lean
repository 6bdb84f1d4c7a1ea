/- gabellelaw10.known answers true. -/
import Derived.Test.YtmgjcaikldeioaaVc
namespace Go.Proofs.Ytmgjcaikldeioaa.Ty
open Go Go.RowKit Go.Lib Kt Fm Gr

theorem sl_many {α : Type} {en : α → List Value} {w : World} {g : Nat} {e : TypeId} {sz : Nat} {L : List α} (hlen : ∀ x, (en x).length = sz) (h : Lies w g e (L.flatMap en).toArray) : Sl w sz en (.slice (some ⟨g, 0, none⟩) L.length L.length) L :=
  ⟨_, L.length, rfl, fun _ => ⟨g, 0, rfl, h.lt, fun i y hi j c hj => by
    have hjs : j < sz := by rw [← hlen y]; exact (List.getElem?_eq_some_iff.1 hj).1
    have := getElem?_flat hlen hi hjs
    rw [Nat.zero_add, h.cell, List.getElem?_toArray, this, hj]⟩⟩
theorem ins_ok (w : World) {op : UInt8} {a : Nat} {c : Int} (ha : a < 4294967296) (hc : -9223372036854775808 ≤ c ∧ c ≤ 9223372036854775807) : InsOk w (ins op a c) :=
  ⟨ha, (by show (0 : Nat) < _; decide), hc, Sl.nil _ _ _ _, fun _ h => (by cases h), Nat.zero_le _⟩
theorem bs_i1 (x0 : Ins) (w : World) : (Instr.buildSlice 38 1 #[(0, .agg x0.cs.toArray)]).run Try.prog w = .ok (.slice (some ⟨w.heap.size, 0, none⟩) 1 1) (w.alloc (.cells ([x0].flatMap Ins.cs).toArray 49)) := by kernel_rfl
theorem wl_i1 {ops : Array Oper} {rest : List Oper} {op : Oper} {a : Act} {w : World} {Q : Exit → Act → World → Prop} (x0 : Ins) (p0 : Operand) (hgd : op.guard = none) (ho : op.op = .buildSlice 38 1 #[(0, p0)]) (h0 : a.eval p0 = .agg x0.cs.toArray)
    (hK : ∀ w1, Below w.heap.size w w1 → Sl w1 5 Ins.cs (.slice (some ⟨w.heap.size, 0, none⟩) 1 1) [x0] → wpList Try.prog ops Q rest (a.put op.dst (.slice (some ⟨w.heap.size, 0, none⟩) 1 1)) w1) : wpList Try.prog ops Q (op :: rest) a w := by
  refine wpList_plain hgd fun _ hK' => ?_
  have hb := bs_i1 x0 w
  unfold Oper.wp execOp
  simp only [ho, List.map_toArray, List.map_cons, List.map_nil, h0, hb, Sem.run_bind, Sem.run_pure, Result.andThen_ok]
  exact hK' _ _ (hK _ ((Below.refl _ _).alloc (Nat.le_refl _) _) (sl_many (L := [x0]) Ins.len (Lies.new w _ _)))
theorem bs_i2 (x0 x1 : Ins) (w : World) : (Instr.buildSlice 38 2 #[(0, .agg x0.cs.toArray), (1, .agg x1.cs.toArray)]).run Try.prog w = .ok (.slice (some ⟨w.heap.size, 0, none⟩) 2 2) (w.alloc (.cells ([x0, x1].flatMap Ins.cs).toArray 49)) := by kernel_rfl
theorem wl_i2 {ops : Array Oper} {rest : List Oper} {op : Oper} {a : Act} {w : World} {Q : Exit → Act → World → Prop} (x0 x1 : Ins) (p0 p1 : Operand) (hgd : op.guard = none) (ho : op.op = .buildSlice 38 2 #[(0, p0), (1, p1)]) (h0 : a.eval p0 = .agg x0.cs.toArray) (h1 : a.eval p1 = .agg x1.cs.toArray)
    (hK : ∀ w1, Below w.heap.size w w1 → Sl w1 5 Ins.cs (.slice (some ⟨w.heap.size, 0, none⟩) 2 2) [x0, x1] → wpList Try.prog ops Q rest (a.put op.dst (.slice (some ⟨w.heap.size, 0, none⟩) 2 2)) w1) : wpList Try.prog ops Q (op :: rest) a w := by
  refine wpList_plain hgd fun _ hK' => ?_
  have hb := bs_i2 x0 x1 w
  unfold Oper.wp execOp
  simp only [ho, List.map_toArray, List.map_cons, List.map_nil, h0, h1, hb, Sem.run_bind, Sem.run_pure, Result.andThen_ok]
  exact hK' _ _ (hK _ ((Below.refl _ _).alloc (Nat.le_refl _) _) (sl_many (L := [x0, x1]) Ins.len (Lies.new w _ _)))
theorem bs_i4 (x0 x1 x2 x3 : Ins) (w : World) : (Instr.buildSlice 38 4 #[(0, .agg x0.cs.toArray), (1, .agg x1.cs.toArray), (2, .agg x2.cs.toArray), (3, .agg x3.cs.toArray)]).run Try.prog w = .ok (.slice (some ⟨w.heap.size, 0, none⟩) 4 4) (w.alloc (.cells ([x0, x1, x2, x3].flatMap Ins.cs).toArray 49)) := by kernel_rfl
theorem wl_i4 {ops : Array Oper} {rest : List Oper} {op : Oper} {a : Act} {w : World} {Q : Exit → Act → World → Prop} (x0 x1 x2 x3 : Ins) (p0 p1 p2 p3 : Operand) (hgd : op.guard = none) (ho : op.op = .buildSlice 38 4 #[(0, p0), (1, p1), (2, p2), (3, p3)]) (h0 : a.eval p0 = .agg x0.cs.toArray) (h1 : a.eval p1 = .agg x1.cs.toArray) (h2 : a.eval p2 = .agg x2.cs.toArray) (h3 : a.eval p3 = .agg x3.cs.toArray)
    (hK : ∀ w1, Below w.heap.size w w1 → Sl w1 5 Ins.cs (.slice (some ⟨w.heap.size, 0, none⟩) 4 4) [x0, x1, x2, x3] → wpList Try.prog ops Q rest (a.put op.dst (.slice (some ⟨w.heap.size, 0, none⟩) 4 4)) w1) : wpList Try.prog ops Q (op :: rest) a w := by
  refine wpList_plain hgd fun _ hK' => ?_
  have hb := bs_i4 x0 x1 x2 x3 w
  unfold Oper.wp execOp
  simp only [ho, List.map_toArray, List.map_cons, List.map_nil, h0, h1, h2, h3, hb, Sem.run_bind, Sem.run_pure, Result.andThen_ok]
  exact hK' _ _ (hK _ ((Below.refl _ _).alloc (Nat.le_refl _) _) (sl_many (L := [x0, x1, x2, x3]) Ins.len (Lies.new w _ _)))
set_option maxRecDepth 100000 in
set_option maxHeartbeats 8000000 in
theorem check_nil {W : World} {fn : Ft} {c : Cod} : Calls Try.prog 8 #[.pointer none, .agg fn.cs.toArray, .agg c.cs.toArray] W fun e w' => e = .returned (.tuple #[.int .i64 0, .int .i64 1]) ∧ Below W.heap.size W w' := by
  go_enter Try.func8, Try.ntmps8
  go_wp2_with (first | (refine wl_box fn.cs _ rfl rfl rfl (fun w1 hb1 hl1 => ?_); have HB1 := Lib.hid hb1; clear hb1 hl1; simp only [Act.put, List.setIfInBounds_toArray, List.set_cons_zero, List.set_cons_succ]) | (refine wl_box c.cs _ rfl rfl rfl (fun w2 hb2 hl2 => ?_); have HB2 := Lib.hid (bt HB1.out hb2); clear hb2 hl2; simp only [Act.put, List.setIfInBounds_toArray, List.set_cons_zero, List.set_cons_succ]))
  go_ret2
  exact ⟨rfl, HB2.out⟩
set_option maxRecDepth 100000 in
set_option maxHeartbeats 16000000 in
theorem knownL_any {W : World} : Calls Try.prog 5 #[] W fun e w' => e = .returned (.bool true) ∧ Below W.heap.size W w' := by
  have HB0 := Lib.hid (Below.refl W.heap.size W)
  go_enter Try.func5, Try.ntmps5
  go_wp2_with fail
  refine get_any.mono ?_
  rintro en u0 ⟨rfl, hb⟩
  have HB1 := Lib.hid (bt HB0.out hb)
  clear hb HB0
  go_wp2_with (refine wl_i2 (ins 32 0 0) (ins 173 0 0) _ _ rfl rfl rfl rfl (fun w1 hb1 hs1 => ?_); have HBa := Lib.hid (bt HB1.out hb1); have HSa := Lib.hid hs1; clear hb1 hs1; (try simp only [Act.put, List.setIfInBounds_toArray, List.set_cons_zero, List.set_cons_succ]))
  refine (of2_any HSa.out (fun y hy => by simp only [List.mem_cons, List.not_mem_nil, or_false] at hy; rcases hy with rfl | rfl <;> exact ins_ok _ (by decide) (by decide)) (by decide) kn1).mono ?_
  rintro en v1 ⟨rfl, hb⟩
  have HB2 := Lib.hid (bt HBa.out hb)
  clear hb HB1 HBa HSa w1
  go_wp2_with (refine wl_i1 (ins 0 0 0) _ rfl rfl rfl (fun w1 hb1 hs1 => ?_); have HBa := Lib.hid (bt HB2.out hb1); have HSa := Lib.hid hs1; clear hb1 hs1; (try simp only [Act.put, List.setIfInBounds_toArray, List.set_cons_zero, List.set_cons_succ]))
  refine (of2_any HSa.out (fun y hy => by simp only [List.mem_cons, List.not_mem_nil, or_false] at hy; obtain rfl := hy; exact ins_ok _ (by decide) (by decide)) (by decide) kn2).mono ?_
  rintro en v2 ⟨rfl, hb⟩
  have HB3 := Lib.hid (bt HBa.out hb)
  clear hb HB2 HBa HSa w1
  go_wp2_with (refine wl_i1 (ins 15 0 0) _ rfl rfl rfl (fun w1 hb1 hs1 => ?_); have HBa := Lib.hid (bt HB3.out hb1); have HSa := Lib.hid hs1; clear hb1 hs1; (try simp only [Act.put, List.setIfInBounds_toArray, List.set_cons_zero, List.set_cons_succ]))
  refine (of2_any HSa.out (fun y hy => by simp only [List.mem_cons, List.not_mem_nil, or_false] at hy; obtain rfl := hy; exact ins_ok _ (by decide) (by decide)) (by decide) kn3).mono ?_
  rintro en v3 ⟨rfl, hb⟩
  have HB4 := Lib.hid (bt HBa.out hb)
  clear hb HB3 HBa HSa w1
  go_wp2_with fail
  refine one_any.mono ?_
  rintro en u4 ⟨rfl, hb⟩
  have HB5 := Lib.hid (bt HB4.out hb)
  clear hb HB4
  go_wp2_with (refine wl_i2 (ins 66 0 1) (ins 12 0 0) _ _ rfl rfl rfl rfl (fun w1 hb1 hs1 => ?_); have HBa := Lib.hid (bt HB5.out hb1); have HSa := Lib.hid hs1; clear hb1 hs1; (try simp only [Act.put, List.setIfInBounds_toArray, List.set_cons_zero, List.set_cons_succ]))
  refine (of2_any HSa.out (fun y hy => by simp only [List.mem_cons, List.not_mem_nil, or_false] at hy; rcases hy with rfl | rfl <;> exact ins_ok _ (by decide) (by decide)) (by decide) kn4).mono ?_
  rintro en v5 ⟨rfl, hb⟩
  have HB6 := Lib.hid (bt HBa.out hb)
  clear hb HB5 HBa HSa w1
  go_wp2_with (refine wl_i1 (ins 32 1 0) _ rfl rfl rfl (fun w1 hb1 hs1 => ?_); have HBa := Lib.hid (bt HB6.out hb1); have HSa := Lib.hid hs1; clear hb1 hs1; (try simp only [Act.put, List.setIfInBounds_toArray, List.set_cons_zero, List.set_cons_succ]))
  refine (of2_any HSa.out (fun y hy => by simp only [List.mem_cons, List.not_mem_nil, or_false] at hy; obtain rfl := hy; exact ins_ok _ (by decide) (by decide)) (by decide) kn5).mono ?_
  rintro en v6 ⟨rfl, hb⟩
  have HB7 := Lib.hid (bt HBa.out hb)
  clear hb HB6 HBa HSa w1
  go_wp2_with (refine wl_i1 (ins 12 1 0) _ rfl rfl rfl (fun w1 hb1 hs1 => ?_); have HBa := Lib.hid (bt HB7.out hb1); have HSa := Lib.hid hs1; clear hb1 hs1; (try simp only [Act.put, List.setIfInBounds_toArray, List.set_cons_zero, List.set_cons_succ]))
  refine (of2_any HSa.out (fun y hy => by simp only [List.mem_cons, List.not_mem_nil, or_false] at hy; obtain rfl := hy; exact ins_ok _ (by decide) (by decide)) (by decide) kn6).mono ?_
  rintro en v7 ⟨rfl, hb⟩
  have HB8 := Lib.hid (bt HBa.out hb)
  clear hb HB7 HBa HSa w1
  go_wp2_with (refine wl_i1 (ins 65 0 0) _ rfl rfl rfl (fun w1 hb1 hs1 => ?_); have HBa := Lib.hid (bt HB8.out hb1); have HSa := Lib.hid hs1; clear hb1 hs1; (try simp only [Act.put, List.setIfInBounds_toArray, List.set_cons_zero, List.set_cons_succ]))
  refine (of2_any HSa.out (fun y hy => by simp only [List.mem_cons, List.not_mem_nil, or_false] at hy; obtain rfl := hy; exact ins_ok _ (by decide) (by decide)) (by decide) kn7).mono ?_
  rintro en v8 ⟨rfl, hb⟩
  have HB9 := Lib.hid (bt HBa.out hb)
  clear hb HB8 HBa HSa w1
  go_wp2_with (refine wl_i1 (ins 16 0 0) _ rfl rfl rfl (fun w1 hb1 hs1 => ?_); have HBa := Lib.hid (bt HB9.out hb1); have HSa := Lib.hid hs1; clear hb1 hs1; (try simp only [Act.put, List.setIfInBounds_toArray, List.set_cons_zero, List.set_cons_succ]))
  refine (of2_any HSa.out (fun y hy => by simp only [List.mem_cons, List.not_mem_nil, or_false] at hy; obtain rfl := hy; exact ins_ok _ (by decide) (by decide)) (by decide) kn8).mono ?_
  rintro en v9 ⟨rfl, hb⟩
  have HB10 := Lib.hid (bt HBa.out hb)
  clear hb HB9 HBa HSa w1
  go_wp2_with fail
  refine one_any.mono ?_
  rintro en u10 ⟨rfl, hb⟩
  have HB11 := Lib.hid (bt HB10.out hb)
  clear hb HB10
  go_wp2_with fail
  refine get_any.mono ?_
  rintro en u11 ⟨rfl, hb⟩
  have HB12 := Lib.hid (bt HB11.out hb)
  clear hb HB11
  go_wp2_with (refine wl_i4 (ins 66 0 1) (ins 32 0 0) (ins 4 64 0) (ins 11 0 0) _ _ _ _ rfl rfl rfl rfl rfl rfl (fun w1 hb1 hs1 => ?_); have HBa := Lib.hid (bt HB12.out hb1); have HSa := Lib.hid hs1; clear hb1 hs1; (try simp only [Act.put, List.setIfInBounds_toArray, List.set_cons_zero, List.set_cons_succ]))
  refine (of2_any HSa.out (fun y hy => by simp only [List.mem_cons, List.not_mem_nil, or_false] at hy; rcases hy with rfl | rfl | rfl | rfl <;> exact ins_ok _ (by decide) (by decide)) (by decide) kn9).mono ?_
  rintro en v12 ⟨rfl, hb⟩
  have HB13 := Lib.hid (bt HBa.out hb)
  clear hb HB12 HBa HSa w1
  go_wp2_with fail
  refine fn_any.mono ?_
  rintro en w5 ⟨⟨pv, rv, rfl, hf⟩, hb⟩
  have HB14 := Lib.hid (bt HB13.out hb)
  clear hf hb HB13
  go_wp2_with fail
  refine (check_nil (c := ⟨.slice none 0 0, [], .slice none 0 0, []⟩)).mono ?_
  rintro en w6 ⟨rfl, hb⟩
  have HB15 := Lib.hid (bt HB14.out hb)
  clear hb HB14
  go_wp2_with fail
  go_ret
  exact ⟨rfl, HB15.out⟩
end Go.Proofs.Ytmgjcaikldeioaa.Ty
