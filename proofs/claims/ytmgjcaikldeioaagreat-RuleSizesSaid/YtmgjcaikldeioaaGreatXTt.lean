/- The stack of the typing in memory: Label, Open, New. -/
import Derived.Test.YtmgjcaikldeioaaGreatXTs
namespace Go.Proofs.YtmgjcaikldeioaaGreat.Ty
open Go Go.RowKit Go.Lib Kt Fm Gr

theorem Imm.sl {w : World} {H : Nat} {lv v : Value} {b : Bts} (h : Imm w H lv v b) : Sl w 1 u8c v b := Fm.WRow.sl (en := u8c) (fun _ => rfl) h
theorem label_none {s : Stk} {a : Nat} (h : ¬ a < s.fs.length) : label s a = none := by unfold label; rw [if_neg h]
set_option maxRecDepth 100000 in
set_option maxHeartbeats 4000000 in
theorem label_any {W : World} {H sb : Nat} {lv fv : Value} {FV : List Fv} {s : Stk} (h : Stm W H sb lv fv FV s) (hbd : s.fs.length ≤ 1000000000) (hlm : ∀ x ∈ FV, x.f.lab.length ≤ 4194304) {a : Nat} (ha : a < 4294967296) :
  Calls Tryz.prog 119 #[.pointer (some ⟨sb, 0, none⟩), .int .u32 a] W fun e w' => ∃ v, e = .returned (.tuple #[v, .bool (label s a).isSome]) ∧ (∀ l, label s a = some l → w'.ownsRow W.heap.size 5 1 v l.length (l.flatMap u8c)) ∧ Below W.heap.size W w' := by
 have hfl : FV.length = s.fs.length := by rw [← h.fs, List.length_map]
 obtain ⟨sf, cf, rfl, _, hsf⟩ := row_form h.frs
 have hc1 : W.cell? ⟨sb, 1, none⟩ = some (.slice sf FV.length cf) := h.cell.cell 1
 have HS := zh h
 by_cases hlt : a < s.fs.length
 ·obtain ⟨fb, rfl⟩ := hsf (by omega)
  obtain ⟨N, hN⟩ : ∃ N, N = FV.length := ⟨_, rfl⟩
  obtain ⟨m1, hm1⟩ : ∃ m1, m1 = N - 1 := ⟨_, rfl⟩
  obtain ⟨k, hk⟩ : ∃ k, k = N - 1 - a := ⟨_, rfl⟩
  have hq1 : (N : Int) - 1 = (m1 : Int) := by omega
  have hq2 : (m1 : Int) - (a : Int) = (k : Int) := by omega
  have hkN : k < N := by omega
  obtain ⟨x, hx⟩ : ∃ x, FV[k]? = some x := ⟨_, List.getElem?_eq_getElem (by omega)⟩
  have hxm := hlm x (List.mem_of_getElem? hx)
  have hl : label s a = some x.f.lab := by
   unfold label
   rw [if_pos hlt, ← hfl, ← hN, ← hk, ← h.fs, List.getElem?_map, hx]
   rfl
  rw [hl]
  have hcx : W.cell? ⟨fb, k * 4 + 0, none⟩ = some x.lv := row_at Fv.len h.frs hx 0 _ rfl
  rw [Nat.add_zero] at hcx
  have himm := (h.imm x (List.mem_of_getElem? hx)).1
  obtain ⟨sx, cx, hxv, _⟩ := Fm.WRow.form himm
  rw [hxv] at hcx
  have HI := zh himm.sl
  rw [hxv] at HI
  rw [← hN] at hc1
  have hNb : N ≤ 1000000000 := by omega
  have hlt2 : a < N := by omega
  have hm1b : m1 ≤ 1000000000 := by omega
  have hnl : ¬ N ≤ a := by omega
  clear h hlm hl hx himm hN hm1 hk hfl hxv
  go_enter Tryz.func119, Tryz.ntmps119
  go_wp2_with fail
  refine wp_region_b [(0, true), (1, true), (2, true), (3, true), (4, true), (5, true), (6, true), (7, true), (8, true), (9, true), (10, true), (11, true), (12, true), (13, true), (14, true), (15, true), (16, false), (17, true), (18, true)] (by kernel_rfl) (by kernel_rfl) (fun _ _ d _ _ h => by cases d <;> exact h) ?_
  intro V hbV
  replace hc1 := keepc hbV hc1
  replace hcx := keepc hbV hcx
  have hS0 : Below V.heap.size V V := Below.refl _ _
  repeat (first | (refine hs_take (v := ?_) rfl rfl (fun w' hw' => ?_) ?_; rotate_left; (focus (have q0 := keepc hw' hc1; have q1 := keepc hw' hcx; clear hw'; (try simp only [Act.put, sA, sB, sC]); go_simp; (try go_bits); (try (with_reducible rfl)))); (try simp only [Act.put, sA, sB, sC])) | (refine hs_skip rfl rfl ?_; (try simp only [Act.put, sA, sB, sC])))
  refine hs_run rfl (fun K hK => ?_)
  go_simp
  refine (clone_u8 (HI.out.later (bt hbV hS0)) hxm).mono ?_
  rintro en V1 ⟨vc, rfl, hoc, hB1⟩
  have hS1 := bt hS0 hB1
  clear hB1 hS0
  refine hK.out _ _ hS1 ?_
  clear hK K
  (try simp only [Act.put, sA, sB, sC])
  repeat (first | (refine hs_take (v := ?_) rfl rfl (fun w' hw' => ?_) ?_; rotate_left; (focus (have q0 := keepc hw' hc1; have q1 := keepc hw' hcx; clear hw'; (try simp only [Act.put, sA, sB, sC]); go_simp; (try go_bits); (try (with_reducible rfl)))); (try simp only [Act.put, sA, sB, sC])) | (refine hs_skip rfl rfl ?_; (try simp only [Act.put, sA, sB, sC])))
  refine hs_done ?_
  go_wp2_with fail
  go_ret2
  exact ⟨_, rfl, fun l e => by obtain rfl := Option.some.inj e; exact ownsRow_base hoc hbV.size, bt hbV hS1⟩
 ·rw [label_none hlt]
  have hge : FV.length ≤ a := by omega
  obtain ⟨N, hN⟩ : ∃ N, N = FV.length := ⟨_, rfl⟩
  rw [← hN] at hc1 hge
  have hNb : N ≤ 1000000000 := by omega
  clear h hlm hN hfl hlt
  go_enter Tryz.func119, Tryz.ntmps119
  go_wp2_with fail
  go_ret2
  exact ⟨_, rfl, fun l e => (by cases e), Below.refl _ _⟩
theorem build_fr (s1 s2 : Option Addr) (n1 n2 c1 c2 : Nat) (h : Int) (w : World) : (Instr.build 178 #[(0, .slice s1 n1 c1), (1, .slice s2 n2 c2), (2, .int .i64 h)]).run Tryz.prog w = .ok (.agg #[.slice s1 n1 c1, .slice s2 n2 c2, .int .i64 h, .bool false]) w := by kernel_rfl
theorem bs_fr (s1 s2 : Option Addr) (n1 n2 c1 c2 : Nat) (h : Int) (w : World) : (Instr.buildSlice 170 1 #[(0, .agg #[.slice s1 n1 c1, .slice s2 n2 c2, .int .i64 h, .bool false])]).run Tryz.prog w = .ok (.slice (some ⟨w.heap.size, 0, none⟩) 1 1) (w.alloc (.cells [.slice s1 n1 c1, .slice s2 n2 c2, .int .i64 h, .bool false].toArray 178)) := by kernel_rfl
theorem info_fr : (Tryz.prog.info? 178).map (fun i => (i.zero.map (·.cells.size), i.size, i.bytes)) = some (some 4, 4, 64) := by kernel_rfl
theorem und_lf : Tryz.prog.underlying 170 = some (.slice 178) := by kernel_rfl
theorem size_lf : (Tryz.prog.info? 170).map (·.size) = some 1 := by kernel_rfl
theorem exec_bld {op : Oper} {act : Act} {w : World} {s1 s2 : Option Addr} {n1 n2 c1 c2 : Nat} {h : Int} (p0 p1 p2 : Operand) (ho : op.op = .build 178 #[(0, p0), (1, p1), (2, p2)]) (h0 : act.eval p0 = .slice s1 n1 c1) (h1 : act.eval p1 = .slice s2 n2 c2) (h2 : act.eval p2 = .int .i64 h) : (execOp act.eval op).run Tryz.prog w = .ok (.value (.agg #[.slice s1 n1 c1, .slice s2 n2 c2, .int .i64 h, .bool false])) w := by
 have hb := build_fr s1 s2 n1 n2 c1 c2 h w
 unfold execOp
 simp [ho, h0, h1, h2, hb]
theorem Stm.opened {w3 w4 w5 : World} {H sb : Nat} {lv fv fv' : Value} {FV : List Fv} {s : Stk} {x : Fv} {lab ends : Bts} (h : Stm w3 H sb lv fv FV s) (hr : w4.ownsRow H 178 4 fv' (FV.length + [x].length) (FV.flatMap Fv.cs ++ [x].flatMap Fv.cs)) (hg : w3.grownBy w4 fv.ownBlock) (hl : Lies w5 sb 172 #[lv, fv', .int .i64 s.most]) (hf : Fr w4 w5 (fun k => k = sb))
  (hx : x.f = ⟨lab, ends, s.l.length, false⟩) (i1 : Imm w3 H lv x.lv lab) (i2 : Imm w3 H lv x.ev ends) : Stm w5 H sb lv fv' (FV ++ [x]) (opn s lab ends) ∧ Fr w3 w5 (Ms sb lv fv) := by
 have f1 : FrT [178] w3 w4 := FrT.grown h.frs hg
 have l1 := lies_frT h.cell f1 (by decide)
 have f2 : FrT [172] w4 w5 := FrT.field l1 hf
 have f3 := f1.trans f2
 refine ⟨⟨hl, h.hsb, row_frT h.row f3 (by decide), ?_, ?_, fun y hy => ?_, h.inv.opn _ _⟩, ?_⟩
 ·have := row_frT hr f2 (by decide)
  rw [← List.flatMap_append] at this
  rw [List.length_append]
  exact this
 ·rw [List.map_append, h.fs]
  show s.fs ++ [x.f] = s.fs ++ [_]
  rw [hx]
 ·rcases List.mem_append.1 hy with hy | hy
  ·exact ⟨wrow_frT (h.imm y hy).1 f3 (by decide), wrow_frT (h.imm y hy).2 f3 (by decide)⟩
  ·obtain rfl := List.mem_singleton.1 hy
   rw [hx]
   exact ⟨wrow_frT i1 f3 (by decide), wrow_frT i2 f3 (by decide)⟩
 ·exact Fr.trans ((Fr.of_grown hg).mono fun k _ e => Or.inr (Or.inr e)) (hf.mono fun k _ e => Or.inl e)
theorem imm_own {w w' : World} {H base : Nat} {lv v : Value} {b : Bts} {n : Nat} {xs : List Value} (ho : w'.ownsRow base 5 1 v b.length (b.flatMap u8c)) (hr : w.ownsRow H 5 1 lv n xs) (hH : H ≤ base) (hb : w.heap.size ≤ base) : Imm w' H lv v b :=
 WRow.of_own ho fun k hk => ⟨by omega, fun e => by have := (row_block hr e.symm).2.1; omega⟩
set_option maxRecDepth 100000 in
set_option maxHeartbeats 4000000 in
theorem open_any {W : World} {H sb : Nat} {lv fv : Value} {FV : List Fv} {s : Stk} (h : Stm W H sb lv fv FV s) (hH : H ≤ W.heap.size) (hbd : s.fs.length ≤ 2000000) {v1 v2 : Value} {lab ends : Bts} (hv1 : Sl W 1 u8c v1 lab) (hv2 : Sl W 1 u8c v2 ends) (hl1 : lab.length ≤ 4194304) (hl2 : ends.length ≤ 4194304) :
  Calls Tryz.prog 90 #[.pointer (some ⟨sb, 0, none⟩), v1, v2] W fun e w' => e = .returned (.tuple #[]) ∧ ∃ fv' FV', Stm w' H sb lv fv' FV' (opn s lab ends) ∧ Fr W w' (Ms sb lv fv) ∧ (fv'.ownBlock = fv.ownBlock ∨ ∀ k, fv'.ownBlock = some k → W.heap.size ≤ k) ∧ ∀ k, k < W.heap.size → Sepn FV k → Sepn FV' k := by
 obtain ⟨sl, cl, rfl, _, _⟩ := row_form h.row
 obtain ⟨sf, cf, rfl, _, _⟩ := row_form h.frs
 have hfl : FV.length = s.fs.length := by rw [← h.fs, List.length_map]
 have HS := zh h
 have HV1 := zh hv1
 have HV2 := zh hv2
 have HH := zh hH
 have hFb : FV.length ≤ 2000000 := by omega
 clear h hv1 hv2 hH hfl hbd
 go_enter Tryz.func90, Tryz.ntmps90
 go_wp2_with fail
 have hd : Below W.heap.size W W.drew := (Below.refl _ _).drew
 have HSV := zh (HS.out.later hd)
 refine wp_region_t [(0, 1), (1, 1), (2, 1), (3, 1), (4, 2), (5, 1), (7, 1), (9, 1), (10, 1), (11, 1), (12, 2), (13, 1), (6, 0), (8, 0), (14, 1), (15, 0), (16, 0), (17, 1), (18, 1), (19, 0)] (fun _ => True) [(19, fun w' => w'.cell? ⟨sb, 0, none⟩ = some (.slice sl s.l.length cl) ∧ w'.cell? ⟨sb, 1, none⟩ = some (.slice sf FV.length cf))] [19] rfl (by kernel_rfl) (by kernel_rfl) (fun _ _ d _ _ h => by cases d <;> exact h) trivial (fun p hp => by obtain rfl := List.mem_singleton.1 hp; exact ⟨HSV.out.cell.cell 0, HSV.out.cell.cell 1⟩) ?_
 have HBV := zh hd
 clear hd
 generalize W.drew = V at HSV HBV ⊢
 repeat (first | (refine ts_take2 (v := ?_) rfl rfl (fun w' _ hs' => ?_) ?_; rotate_left; (focus (obtain ⟨q0, q1⟩ := hs'.one rfl; clear hs'; (try simp only [Act.put, sA, sB, sC]); go_simp; (try go_bits); (try (with_reducible rfl)))); (try simp only [Act.put, sA, sB, sC])) | (refine ts_take (v := ?_) rfl rfl (fun w' hw' => ?_) ?_; rotate_left; (focus (clear hw'; (try simp only [Act.put, sA, sB, sC]); go_simp; (try go_bits); (try (with_reducible rfl)))); (try simp only [Act.put, sA, sB, sC])))
 refine ts_run1 rfl rfl (fun K hK => ?_)
 go_simp
 refine (clone_u8 (HV1.out.later HBV.out) hl1).mono ?_
 rintro en V1 ⟨u1, rfl, ho1, hb1⟩
 have HS1 := zh (HSV.out.later hb1)
 have HB1 := zh (bt HBV.out hb1)
 have HO1 := zh (ownsRow_base ho1 HBV.out.size)
 refine hK.out _ _ trivial (still_one (.inr ⟨HS1.out.cell.cell 0, HS1.out.cell.cell 1⟩)) ?_
 clear hK K HSV HBV ho1
 (try simp only [Act.put, sA, sB, sC])
 refine ts_run1 rfl rfl (fun K hK => ?_)
 go_simp
 refine (clone_u8 (HV2.out.later HB1.out) hl2).mono ?_
 rintro en V2 ⟨u2, rfl, ho2, hb2⟩
 have HS2 := zh (HS1.out.later hb2)
 have HB2 := zh (bt HB1.out hb2)
 have HO2 := zh (ownsRow_base ho2 HB1.out.size)
 have HO12 := zh (ownsRow_keep HO1.out hb2)
 refine hK.out _ _ trivial (still_one (.inr ⟨HS2.out.cell.cell 0, HS2.out.cell.cell 1⟩)) ?_
 clear hK K HS1 HB1 ho2 hb1 hb2 HO1
 (try simp only [Act.put, sA, sB, sC])
 obtain ⟨s1, c1, rfl, _, _⟩ := row_form HO12.out
 obtain ⟨s2, c2, rfl, _, _⟩ := row_form HO2.out
 refine ts_take (v := .agg #[.slice s1 lab.length c1, .slice s2 ends.length c2, .int .i64 s.l.length, .bool false]) rfl rfl (fun w' _ => exec_bld _ _ _ rfl rfl rfl rfl) ?_
 (try simp only [Act.put, sA, sB, sC])
 refine ts_run1 rfl rfl (fun K hK => ?_)
 refine wp_bs1 _ _ (bs_fr _ _ _ _ _ _ _) _ rfl rfl (fun V3 hb3 hl3 => ?_)
 have HS3 := zh (HS2.out.later hb3)
 have HB3 := zh (bt HB2.out hb3)
 have HO13 := zh (ownsRow_keep HO12.out hb3)
 have HO23 := zh (ownsRow_keep HO2.out hb3)
 have HN := zh (sl_one (en := Fv.cs) (x := ⟨⟨lab, ends, s.l.length, false⟩, .slice s1 lab.length c1, .slice s2 ends.length c2⟩) (sz := 4) hl3)
 refine hK.out _ _ trivial (still_one (.inr ⟨HS3.out.cell.cell 0, HS3.out.cell.cell 1⟩)) ?_
 clear hK K HS2 HB2 hb3 hl3 HO12 HO2
 (try simp only [Act.put, sA, sB, sC])
 refine ts_run1 rfl rfl (fun K hK => ?_)
 refine wp_app (by_ := 64) (.tmp 12) (.tmp 23) rfl und_lf info_fr (by decide) (v := .slice sf FV.length cf) rfl HS3.out.frs Fv.len rfl HN.out (fun y hy => by obtain rfl := List.mem_singleton.1 hy; intro u hu; simp [Fv.cs] at hu; rcases hu with rfl | rfl | rfl | rfl <;> rfl) (by simp [maxLen]; omega) (by simp; omega) (Nat.le_trans HH.out HB3.out.size) (fun fv4 V4 hr4 hg4 hv4 => ?_)
 have HI1 := zh (imm_own HO13.out HS.out.row HH.out (Nat.le_refl _))
 have HI2 := zh (imm_own HO23.out HS.out.row HH.out (Nat.le_refl _))
 have HK9 := zh (show ∀ k, k < W.heap.size → Sepn FV k → Sepn (FV ++ [⟨⟨lab, ends, s.l.length, false⟩, .slice s1 lab.length c1, .slice s2 ends.length c2⟩]) k from fun k hk hs => hs.snoc (fun e => by have := (row_block HO13.out e).1; omega) (fun e => by have := (row_block HO23.out e).1; omega))
 obtain ⟨s4, c4, rfl, _, _⟩ := row_form hr4
 have hT := FrT.grown HS3.out.frs hg4
 have HL4 := zh (lies_frT HS3.out.cell hT (by decide))
 have HR4 := zh hr4
 have HG4 := zh hg4
 have HV4 := zh hv4
 refine hK.out _ _ trivial (still_one (.inr ⟨HL4.out.cell 0, HL4.out.cell 1⟩)) ?_
 clear hK K hr4 hg4 hv4 hT HO13 HO23
 (try simp only [Act.put, sA, sB, sC])
 repeat (first | (refine ts_take2 (v := ?_) rfl rfl (fun w' _ hs' => ?_) ?_; rotate_left; (focus (obtain ⟨q0, q1⟩ := hs'.one rfl; clear hs'; (try simp only [Act.put, sA, sB, sC]); go_simp; (try go_bits); (try (with_reducible rfl)))); (try simp only [Act.put, sA, sB, sC])) | (refine ts_take (v := ?_) rfl rfl (fun w' hw' => ?_) ?_; rotate_left; (focus (clear hw'; (try simp only [Act.put, sA, sB, sC]); go_simp; (try go_bits); (try (with_reducible rfl)))); (try simp only [Act.put, sA, sB, sC])))
 refine ts_run1 rfl rfl (fun K hK => ?_)
 refine wp_fld (c0 := [.slice sl s.l.length cl, .slice sf FV.length cf, .int .i64 s.most]) HL4.out _ _ rfl rfl rfl [.slice s4 _ c4] [.slice sl s.l.length cl, .slice s4 _ c4, .int .i64 s.most] rfl size_lf (by simp [Value.oneCell']) (by simp) rfl (fun V5 hl5 hf5 => ?_)
 obtain ⟨h1, h2⟩ := HS3.out.opened HR4.out HG4.out hl5 hf5 rfl HI1.out HI2.out
 refine hK.out _ _ trivial (still_one (.inl rfl)) ?_
 clear hK K
 (try simp only [Act.put])
 refine ts_done ?_
 have H1 := zh h1
 have H2 := zh h2
 clear h1 h2 hl5 hf5
 go_wp2_with fail
 go_end0
 have HF3 : Fr W V3 (Ms sb (.slice sl s.l.length cl) (.slice sf FV.length cf)) := Fr.of_below HB3.out _
 refine ⟨rfl, _, _, H1.out, Fr.trans HF3 H2.out, ?_, HK9.out⟩
 rcases HV4.out with e | e
 ·exact Or.inl e
 ·exact Or.inr fun k hk => by
   rw [e] at hk
   injection hk with hk
   rw [← hk]
   exact HB3.out.size
theorem Ms_below {w w' : World} {H sb : Nat} {lv fv : Value} {FV : List Fv} {s : Stk} (h : Stm w H sb lv fv FV s) (hH : H ≤ w.heap.size) (hf : Fr w w' (Ms sb lv fv)) : Below H w w' :=
 hf.below hH fun k hk => by
  rcases hk with rfl | hk | hk
  ·exact h.hsb
  ·exact (row_block h.row hk.symm).1
  ·exact (row_block h.frs hk.symm).1
set_option maxRecDepth 100000 in
set_option maxHeartbeats 4000000 in
theorem new_any {W : World} {v : Value} {b : Bts} (hv : Sl W 1 u8c v b) (hl : b.length ≤ 4194304) :
  Calls Tryz.prog 67 #[v] W fun e w' => ∃ sb lv fv FV, e = .returned (.pointer (some ⟨sb, 0, none⟩)) ∧ Stm w' W.heap.size sb lv fv FV (stk0 b) ∧ Below W.heap.size W w' := by
 have HV := zh hv
 clear hv
 go_enter Tryz.func67, Tryz.ntmps67
 go_wp2_with (first | (refine wl_box [.slice none 0 0, .slice none 0 0, .int .i64 0] _ rfl rfl rfl (fun w1 hb1 hl1 => ?_); have HB1 := zh hb1; have HL1 := zh hl1; clear hb1 hl1; simp only [Act.put, sA, sB, sC]))
 have h0 : Stm w1 W.heap.size W.heap.size (.slice none 0 0) (.slice none 0 0) [] ⟨[], [], 0⟩ :=
  ⟨HL1.out, Nat.le_refl _, World.ownsRow_nil _ _ _ _, World.ownsRow_nil _ _ _ _, rfl, fun x hx => (by cases hx), ⟨fun f h => (by cases h), List.Pairwise.nil, Nat.le_refl _⟩⟩
 have H0 := zh h0
 refine (open_any h0 HB1.out.size (by simp) (HV.out.later HB1.out) (HV.out.later HB1.out) hl hl).mono ?_
 clear h0
 rintro en w2 ⟨rfl, fv', FV', hs2, hf2, _⟩
 have HS2 := zh hs2
 have HB2 := zh (HB1.out.trans (Ms_below H0.out HB1.out.size hf2))
 clear hs2 hf2
 go_wp2_with fail
 go_ret
 exact ⟨_, _, _, _, rfl, HS2.out, HB2.out⟩
end Go.Proofs.YtmgjcaikldeioaaGreat.Ty
