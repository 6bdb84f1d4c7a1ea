/- A body's checker: return and unreachable, branches. -/
import Derived.Test.YtmgjcaikldeioaaGreatXUi
namespace Go.Proofs.YtmgjcaikldeioaaGreat.Ty
open Go Go.RowKit Go.Lib Kt Fm Gr

theorem wp_cell {P : Program} {op : Oper} {a : Act} {w : World} {Q : Exit → Act → World → Prop} {K : Act → World → Prop} {base sz n g cap : Nat} {e ty : TypeId} {xs : List Value} (h : w.ownsRow base e sz (.slice (some ⟨g, 0, none⟩) n cap) n xs) {o : Nat} (ho : o < xs.length) (p q : Operand) (hop : op.op = .store ty p q)
  (hp : a.eval p = .pointer (some ⟨g, o, none⟩)) {v : Value} (hq : a.eval q = v) (hv : v.cells = [v].toArray) (hs : (P.info? ty).map (·.size) = some 1) (h1 : v.oneCell' = true)
  (hK : ∀ w', w'.ownsRow base e sz (.slice (some ⟨g, 0, none⟩) n cap) n (xs.set o v) → w.grownBy w' (some g) → K (a.put op.dst undef) w') : op.wp P a w K Q := by
 have hr := row_over h o [v] (by simp; omega)
 have he : xs.take o ++ [v] ++ xs.drop (o + [v].length) = xs.set o v := by
  rw [List.set_eq_take_append_cons_drop, if_pos ho, List.append_assoc]
  rfl
 rw [he] at hr
 have hx := h.1
 have hc : (w.cell? ⟨g, o, none⟩).isSome = true := by rw [h.cellAt _ (by omega), List.getElem?_eq_getElem ho]; rfl
 have hst := run_storeCells_cells (P := P) g o [v] 0 w (fun j hj => by
  have h0 : j = 0 := by simpa using hj
  subst h0
  exact hc) (fun j _ => h.frozenAt _) (by simpa using h1)
 simp only [Nat.add_zero] at hst
 cases hq' : P.info? ty with
 | none => simp [hq'] at hs
 | some i' =>
  have hs' : i'.size = 1 := by simpa [hq'] using hs
  have hrun : (storeVar ty ⟨g, o, none⟩ v).run P w = .ok () (w.setCells g o [v]) := by
   simp [storeVar, sizeOf, typeInfo, hq', hv, hs', hst]
  unfold Oper.wp execOp
  simp only [hop, hp, hq, Instr.storeAt, Instr.sureAddr, Sem.run_bind, Sem.run_pure, Result.andThen_ok, hrun]
  exact hK _ hr.1 hr.2
theorem opne {op n : UInt8} (h : op ≠ n) : ((op.toNat : Int) == (n.toNat : Int)) = false := by rw [u8b]; simpa using h
theorem StepSays.form {W0 : World} {S0 : Nat} {fn : Ft} {c : Cod} {kb sb : Nat} {w' : World} {e : Ending} {r : R} (h : StepSays W0 S0 fn c kb sb w' e r) : ∃ n : Int, e = .returned (.int .i64 n) := by
 cases r with
 | error n => exact ⟨_, h.1⟩
 | ok s => exact ⟨_, h.1⟩
theorem ite_of {c : Prop} [Decidable c] {p q : Prop} (h : c) (hp : p) : if c then p else q := by rw [if_pos h]; exact hp
theorem Sepn.dropLast {FV : List Fv} {k : Nat} (h : Sepn FV k) : Sepn FV.dropLast k := fun x hx => h x (List.dropLast_subset _ hx)
theorem Sm.close {s : St} {b : Bts} {t : Stk} (h : Sm s) (e : close s.t = some (b, t)) : b.length ≤ 4000 ∧ t.fs.length ≤ 1500000 ∧ t.most = s.t.most := by
 unfold Ty.close at e
 cases hf : s.t.fs.getLast? with
 | none => rw [hf] at e; cases e
 | some f =>
  rw [hf] at e
  simp only at e
  split at e
  ·obtain ⟨rfl, rfl⟩ := Prod.mk.inj (Option.some.inj e)
   refine ⟨(h.lab f (List.mem_of_getLast? hf)).2, ?_, rfl⟩
   show s.t.fs.dropLast.length ≤ _
   have := h.fs
   rw [List.length_dropLast]; omega
  ·cases e
section
variable {W0 w w' w1 w2 : World} {S0 kb sb : Nat} {fn : Ft} {c : Cod} {lv fv ov ov' : Value} {FV : List Fv} {s : St}
/-- The open blocks' bytes turn. -/
theorem Ck.openrow {o' : Bts} (h1 : Ck W0 w1 S0 fn c kb sb lv fv ov FV s) (_ : w2.ownsRow W0.heap.size 5 1 ov' o'.length (o'.flatMap u8c)) (hg : w1.grownBy w2 ov.ownBlock) (hv : ov'.ownBlock = ov.ownBlock ∨ ov'.ownBlock = some w1.heap.size) :
  Below W0.heap.size W0 w2 ∧ Lies w2 kb 140 (ckCs S0 sb fn c ov).toArray ∧ Stm w2 W0.heap.size sb lv fv FV s.t ∧ ∀ k, ov'.ownBlock = some k → lv.ownBlock ≠ some k ∧ Sepn FV k := by
 have hT : FrT [5] w1 w2 := FrT.grown h1.row hg
 refine ⟨h1.bel.grown hg h1.bel.size (fun k hk => (row_block h1.row hk).1), lies_frT h1.cell hT (by decide), ?_, fun k hk => ?_⟩
 ·cases hov : ov.ownBlock with
  | none => rw [hov] at hg; exact h1.stm.later ⟨hg.os, hg.tape, hg.output, hg.size, fun k hk => hg.block k hk (by simp)⟩
  | some k =>
   obtain ⟨_, _, cur, hc⟩ := row_block h1.row hov
   exact h1.stm.off hc ((Fr.of_grown hg).mono fun i _ e => by rw [hov] at e; exact Option.some.inj e) (h1.ne k hov).1 (h1.ne k hov).2
 ·rcases hv with e | e
  ·exact h1.ne k (by rw [← e]; exact hk)
  ·rw [e] at hk
   injection hk with hk
   refine ⟨fun e => ?_, fun x hx => ⟨fun e => ?_, fun e => ?_⟩⟩
   ·have := (row_block h1.stm.row e).2.1; omega
   ·have := (wrow_lt (h1.stm.imm x hx).1 e).1; omega
   ·have := (wrow_lt (h1.stm.imm x hx).2 e).1; omega
theorem Ck.openput {o' : Bts} (h : Ck W0 w S0 fn c kb sb lv fv ov FV s) (hb : Below w.heap.size w w1) (hr2 : w2.ownsRow W0.heap.size 5 1 ov' o'.length (o'.flatMap u8c)) (hg : w1.grownBy w2 ov.ownBlock) (hv : ov'.ownBlock = ov.ownBlock ∨ ov'.ownBlock = some w1.heap.size) :
  Lies w2 kb 140 (ckCs S0 sb fn c ov).toArray ∧ ∀ w3, Lies w3 kb 140 (ckCs S0 sb fn c ov').toArray → Fr w2 w3 (fun k => k = kb) → Ck W0 w3 S0 fn c kb sb lv fv ov' FV ⟨s.t, o'⟩ := by
 obtain ⟨b2, l2, s2, n2⟩ := (h.later hb).openrow hr2 hg hv
 exact ⟨l2, fun w3 hl3 hf3 => ⟨b2.trans (hf3.below b2.size (fun k hk => hk ▸ h.hkb)), hl3, h.hkb, s2.frT (FrT.field l2 hf3) (by decide) (by decide) (by decide), row_fr hr2 hf3 (lies_ne_row l2 hr2 (by decide)), n2⟩⟩
theorem Ck.openset {o' : Bts} (h : Ck W0 w S0 fn c kb sb lv fv ov FV s) (hr2 : w2.ownsRow W0.heap.size 5 1 ov o'.length (o'.flatMap u8c)) (hg : w.grownBy w2 ov.ownBlock) : Ck W0 w2 S0 fn c kb sb lv fv ov FV ⟨s.t, o'⟩ := by
 obtain ⟨b2, l2, s2, n2⟩ := h.openrow hr2 hg (Or.inl rfl)
 exact ⟨b2, l2, h.hkb, s2, hr2, n2⟩
end
theorem wp_b1 {op : Oper} {a : Act} {w : World} {Q : Exit → Act → World → Prop} {K : Act → World → Prop} (c : Int) (p0 : Operand) (ho : op.op = .buildSlice 49 1 #[(0, p0)]) (h0 : a.eval p0 = .int .u8 c)
  (hK : ∀ w1, Below w.heap.size w w1 → Sl w1 1 oc (.slice (some ⟨w.heap.size, 0, none⟩) 1 1) [.int .u8 c] → K (a.put op.dst (.slice (some ⟨w.heap.size, 0, none⟩) 1 1)) w1) : op.wp Tryz.prog a w K Q :=
 wp_bs1 (.int .u8 c) [.int .u8 c] (bs_b1 c) p0 ho h0 fun w1 h1 h2 => hK w1 h1 (sl_one (en := oc) h2)
theorem label_off {W : World} {H sb : Nat} {lv fv : Value} {FV : List Fv} {s : Stk} (h : Stm W H sb lv fv FV s) (hbd : s.fs.length ≤ 1000000000) {a : Nat} (ha : a < 4294967296) (hlt : ¬ a < s.fs.length) :
  Calls Tryz.prog 119 #[.pointer (some ⟨sb, 0, none⟩), .int .u32 a] W fun e w' => e = .returned (.tuple #[.slice none 0 0, .bool false]) ∧ Below W.heap.size W w' := by
 have hfl : FV.length = s.fs.length := by rw [← h.fs, List.length_map]
 obtain ⟨sf, cf, rfl, _, _⟩ := row_form h.frs
 have hc1 : W.cell? ⟨sb, 1, none⟩ = some (.slice sf FV.length cf) := h.cell.cell 1
 have hge : FV.length ≤ a := by omega
 obtain ⟨N, hN⟩ : ∃ N, N = FV.length := ⟨_, rfl⟩
 rw [← hN] at hc1 hge
 have hNb : N ≤ 1000000000 := by omega
 clear h hN hfl hlt
 go_enter Tryz.func119, Tryz.ntmps119
 go_wp2_with fail
 go_ret2
 exact ⟨rfl, Below.refl _ _⟩
theorem label_off_of {s : Stk} {a : Nat} (h : label s a = none) : ¬ a < s.fs.length := fun hlt => by
 unfold label at h
 rw [if_pos hlt, List.getElem?_eq_getElem (by omega)] at h
 cases h
/-- What Label tells. -/
def LabSays (W w' : World) (e : Ending) : Option Bts → Prop
 | none => e = .returned (.tuple #[.slice none 0 0, .bool false]) ∧ Below W.heap.size W w'
 | some l => ∃ v, e = .returned (.tuple #[v, .bool true]) ∧ w'.ownsRow W.heap.size 5 1 v l.length (l.flatMap u8c) ∧ Below W.heap.size W w'
theorem lab_any {W : World} {H sb : Nat} {lv fv : Value} {FV : List Fv} {s : Stk} (h : Stm W H sb lv fv FV s) (hbd : s.fs.length ≤ 1000000000) (hlm : ∀ x ∈ FV, x.f.lab.length ≤ 4194304) {a : Nat} (ha : a < 4294967296) :
  Calls Tryz.prog 119 #[.pointer (some ⟨sb, 0, none⟩), .int .u32 a] W fun e w' => LabSays W w' e (label s a) := by
 cases hl : label s a with
 | none => exact label_off h hbd ha (label_off_of hl)
 | some l =>
  refine (label_any h hbd hlm ha).mono ?_
  rintro en w' ⟨v, rfl, ho, hb⟩
  exact ⟨v, by rw [hl]; rfl, ho l hl, hb⟩
theorem World.grownBy_refl' (w : World) (r : Option Nat) : w.grownBy w r := ⟨rfl, rfl, rfl, Nat.le_refl _, fun _ _ _ => rfl⟩
theorem set_last {w : World} {H : Nat} {g q cv : Nat} {o ys : Bts} {z : UInt8} (hq : q = ys.length) (ho : o = ys ++ [z]) (h : w.ownsRow H 5 1 (.slice (some ⟨g, 0, none⟩) (q + 1) cv) (q + 1) ((o.flatMap u8c).set q (.int .u8 5))) : w.ownsRow H 5 1 (.slice (some ⟨g, 0, none⟩) (q + 1) cv) (ys ++ [5]).length ((ys ++ [5]).flatMap u8c) := by
 subst ho
 have e0 : (ys.flatMap u8c).length = q := by rw [length_flat (m := 1) (fun _ => rfl), hq, Nat.mul_one]
 have e1 : ((ys ++ [z]).flatMap u8c).set q (.int .u8 5) = (ys ++ [5]).flatMap u8c := by
  rw [List.flatMap_append, List.flatMap_append, List.set_append_right _ _ (by rw [e0]; exact Nat.le_refl _), e0, Nat.sub_self]
  rfl
 rw [e1] at h
 have e2 : List.length (ys ++ [(5 : UInt8)]) = q + 1 := by rw [hq]; simp
 rw [e2]
 exact h
theorem cut_last {w : World} {H : Nat} {g q cv : Nat} {o ys : Bts} {z : UInt8} (hq : q = ys.length) (ho : o = ys ++ [z]) (h : w.ownsRow H 5 1 (.slice (some ⟨g, 0, none⟩) (q + 1) cv) o.length (o.flatMap u8c)) : w.ownsRow H 5 1 (.slice (some ⟨g, 0, none⟩) q cv) o.dropLast.length (o.dropLast.flatMap u8c) := by
 subst ho
 rw [show (ys ++ [z]).length = q + 1 from by rw [hq]; simp] at h
 have h1 := row_take h (k := q) (by omega)
 have e0 : (ys.flatMap u8c).length = q := by rw [length_flat (m := 1) (fun _ => rfl), hq, Nat.mul_one]
 have e1 : ((ys ++ [z]).flatMap u8c).take q = ys.flatMap u8c := by
  rw [List.flatMap_append, List.take_append_of_le_length (by rw [e0]; exact Nat.le_refl _), List.take_of_length_le (by rw [e0]; exact Nat.le_refl _)]
 rw [e1] at h1
 rw [List.dropLast_concat, ← hq]
 exact h1
set_option maxRecDepth 100000 in
set_option maxHeartbeats 8000000 in
theorem leave_any {W0 w : World} {S0 kb sb : Nat} {fn : Ft} {c : Cod} {lv fv ov : Value} {FV : List Fv} {s : St} {x : Ins} (h : Ck W0 w S0 fn c kb sb lv fv ov FV s) (hs : Sm s) (hx : InsOk W0 x) {sp : Spc} (hfn : FtOk W0 fn) :
  Calls Tryz.prog 96 #[.pointer (some ⟨kb, 0, none⟩), .agg x.cs.toArray] w fun e w' => StepSays W0 S0 fn c kb sb w' e (stepLeave ⟨sp, fn, c⟩ s x) := by
 have HC := zh h
 have HS := zh hs
 have HX := zh hx
 have HFN := zh hfn
 clear h hs hx hfn
 by_cases h0 : x.op = 0
 ·have e0 : ((x.op.toNat : Int) == 0) = true := by rw [h0]; rfl
  go_enter Tryz.func96, Tryz.ntmps96
  go_wp2_with (refine wl_box x.cs _ rfl rfl rfl (fun w1 hb1 hl1 => ?_); have HC1 := zh (HC.out.later hb1); have HX1 := zh hl1; have HB1 := zh hb1; obtain ⟨B3, hB3⟩ : ∃ B3, B3 = w.heap.size := ⟨_, rfl⟩; rw [← hB3] at HX1 ⊢; clear hB3 hb1 hl1; have k5 : w1.cell? ⟨kb, 5, none⟩ = some (.pointer (some ⟨sb, 0, none⟩)) := HC1.out.cell.cell 5; have k2 : w1.cell? ⟨kb, 2, none⟩ = some (fn.rv) := HC1.out.cell.cell 2; have x0 : w1.cell? ⟨B3, 0, none⟩ = some (.int .u8 x.op.toNat) := HX1.out.cell 0; (try simp only [Act.put, sA, sB, sC]))
  have hd2 := below_drew w1
  have HC2 := zh (HC1.out.later hd2)
  have HX2 := zh (HX1.out.below hd2 HX1.out.lt)
  refine wp_region_t [(0, 1), (1, 1), (2, 1), (3, 1), (4, 1), (5, 1), (6, 1), (7, 1), (8, 1), (9, 1), (10, 1), (11, 1), (12, 1), (13, 0), (14, 1), (15, 1)] (fun w' => w'.cell? ⟨kb, 5, none⟩ = some (.pointer (some ⟨sb, 0, none⟩)) ∧ w'.cell? ⟨kb, 2, none⟩ = some (fn.rv) ∧ w'.cell? ⟨B3, 0, none⟩ = some (.int .u8 x.op.toNat)) [] [] rfl (by kernel_rfl) (by kernel_rfl) (fun _ _ d _ _ h => by cases d <;> exact h) ⟨(HC2.out.cell.cell 5), (HC2.out.cell.cell 2), (HX2.out.cell 0)⟩ (fun p hp => by cases hp) ?_
  clear k5 k2 x0 hd2
  generalize w1.drew = w2 at HC2 HX2 ⊢
  repeat (first | (refine ts_take (v := ?_) rfl rfl (fun w' hw' => ?_) ?_; rotate_left; (focus (obtain ⟨q0, q1, q2⟩ := hw'; (try simp only [Act.put, sA, sB, sC]); go_simp; (try go_bits); (try (with_reducible rfl)))); (try simp only [Act.put, sA, sB, sC])) | (refine ts_skip rfl rfl ?_; (try simp only [Act.put, sA, sB, sC])))
  refine ts_run rfl (fun K hK => ?_)
  rw [if_neg (Bool.eq_false_iff.1 (show Region.wanted _ _ = false from rfl))]
  refine hK.out _ _ ⟨(HC2.out.cell.cell 5), (HC2.out.cell.cell 2), (HX2.out.cell 0)⟩ (still_none _ _) ?_
  clear hK K
  (try simp only [Act.put, sA, sB, sC])
  repeat (first | (refine ts_take (v := ?_) rfl rfl (fun w' hw' => ?_) ?_; rotate_left; (focus (obtain ⟨q0, q1, q2⟩ := hw'; (try simp only [Act.put, sA, sB, sC]); go_simp; (try go_bits); (try (with_reducible rfl)))); (try simp only [Act.put, sA, sB, sC])) | (refine ts_skip rfl rfl ?_; (try simp only [Act.put, sA, sB, sC])))
  refine ts_done ?_
  have k5 : w2.cell? ⟨kb, 5, none⟩ = some (.pointer (some ⟨sb, 0, none⟩)) := HC2.out.cell.cell 5
  have k2 : w2.cell? ⟨kb, 2, none⟩ = some (fn.rv) := HC2.out.cell.cell 2
  have x0 : w2.cell? ⟨B3, 0, none⟩ = some (.int .u8 x.op.toNat) := HX2.out.cell 0
  go_wp2_with fail
  refine (dead_any HC2.out.stm HS.out.ne HS.out.fs9).mono ?_
  rintro en w3 ⟨rfl, lv3, FV3, hs3, hf3, hv3, hsep3⟩
  have HX3 := zh (HC2.out.keep HX2.out (by decide) (by decide) (by decide) hf3)
  have HC3 := zh (HC2.out.stack hs3 hf3 (Or.inl hv3) (fun k _ h => hsep3 k h))
  clear k5 k2 x0 hs3 hf3 hv3
  have k5 : w3.cell? ⟨kb, 5, none⟩ = some (.pointer (some ⟨sb, 0, none⟩)) := HC3.out.cell.cell 5
  have k2 : w3.cell? ⟨kb, 2, none⟩ = some (fn.rv) := HC3.out.cell.cell 2
  have x0 : w3.cell? ⟨B3, 0, none⟩ = some (.int .u8 x.op.toNat) := HX3.out.cell 0
  clear hsep3
  go_wp2_with fail
  refine (typed_any true).mono ?_
  rintro en wt ⟨rfl, rfl⟩
  go_wp2_with fail
  go_ret
  unfold stepLeave
  rw [if_pos h0]
  exact ⟨rfl, _, _, _, _, HC3.out⟩
 ·have e0 : ((x.op.toNat : Int) == 0) = false := opne h0
  go_enter Tryz.func96, Tryz.ntmps96
  go_wp2_with (refine wl_box x.cs _ rfl rfl rfl (fun w1 hb1 hl1 => ?_); have HC1 := zh (HC.out.later hb1); have HX1 := zh hl1; have HB1 := zh hb1; obtain ⟨B3, hB3⟩ : ∃ B3, B3 = w.heap.size := ⟨_, rfl⟩; rw [← hB3] at HX1 ⊢; clear hB3 hb1 hl1; have k5 : w1.cell? ⟨kb, 5, none⟩ = some (.pointer (some ⟨sb, 0, none⟩)) := HC1.out.cell.cell 5; have k2 : w1.cell? ⟨kb, 2, none⟩ = some (fn.rv) := HC1.out.cell.cell 2; have x0 : w1.cell? ⟨B3, 0, none⟩ = some (.int .u8 x.op.toNat) := HX1.out.cell 0; (try simp only [Act.put, sA, sB, sC]))
  have hd2 := below_drew w1
  have HC2 := zh (HC1.out.later hd2)
  have HX2 := zh (HX1.out.below hd2 HX1.out.lt)
  refine wp_region_t [(0, 1), (1, 1), (2, 1), (3, 1), (4, 1), (5, 1), (6, 1), (7, 1), (8, 1), (9, 1), (10, 1), (11, 1), (12, 1), (13, 0), (14, 1), (15, 1)] (fun w' => w'.cell? ⟨kb, 5, none⟩ = some (.pointer (some ⟨sb, 0, none⟩)) ∧ w'.cell? ⟨kb, 2, none⟩ = some (fn.rv) ∧ w'.cell? ⟨B3, 0, none⟩ = some (.int .u8 x.op.toNat)) [] [] rfl (by kernel_rfl) (by kernel_rfl) (fun _ _ d _ _ h => by cases d <;> exact h) ⟨(HC2.out.cell.cell 5), (HC2.out.cell.cell 2), (HX2.out.cell 0)⟩ (fun p hp => by cases hp) ?_
  clear k5 k2 x0 hd2
  generalize w1.drew = w2 at HC2 HX2 ⊢
  repeat (first | (refine ts_take (v := ?_) rfl rfl (fun w' hw' => ?_) ?_; rotate_left; (focus (obtain ⟨q0, q1, q2⟩ := hw'; (try simp only [Act.put, sA, sB, sC]); go_simp; (try go_bits); (try (with_reducible rfl)))); (try simp only [Act.put, sA, sB, sC])) | (refine ts_skip rfl rfl ?_; (try simp only [Act.put, sA, sB, sC])))
  refine ts_run rfl (fun K hK => ?_)
  rw [if_pos (show Region.wanted _ _ = true from rfl)]
  go_simp
  refine (want_any HC2.out.stm HS.out.ne HS.out.fs9 HS.out.most9 (HFN.out.2.1.later HC2.out.bel) (Nat.le_trans HFN.out.2.2.2 (by decide))).mono ?_
  intro en w3 hw
  cases hw3a : want s.t fn.r with
  | none =>
   rw [hw3a] at hw
   obtain ⟨rfl, hb3⟩ := hw
   have HC3 := zh (HC2.out.later hb3)
   have HX3 := zh (HX2.out.below hb3 HX2.out.lt)
   clear hb3
   refine hK.out _ _ ⟨(HC3.out.cell.cell 5), (HC3.out.cell.cell 2), (HX3.out.cell 0)⟩ (still_none _ _) ?_
   clear hK K
   (try simp only [Act.put, sA, sB, sC])
   repeat (first | (refine ts_take (v := ?_) rfl rfl (fun w' hw' => ?_) ?_; rotate_left; (focus (obtain ⟨q0, q1, q2⟩ := hw'; (try simp only [Act.put, sA, sB, sC]); go_simp; (try go_bits); (try (with_reducible rfl)))); (try simp only [Act.put, sA, sB, sC])) | (refine ts_skip rfl rfl ?_; (try simp only [Act.put, sA, sB, sC])))
   refine ts_done ?_
   have k5 : w3.cell? ⟨kb, 5, none⟩ = some (.pointer (some ⟨sb, 0, none⟩)) := HC3.out.cell.cell 5
   have k2 : w3.cell? ⟨kb, 2, none⟩ = some (fn.rv) := HC3.out.cell.cell 2
   have x0 : w3.cell? ⟨B3, 0, none⟩ = some (.int .u8 x.op.toNat) := HX3.out.cell 0
   go_wp2_with fail
   refine (dead_any HC3.out.stm HS.out.ne HS.out.fs9).mono ?_
   rintro en w4 ⟨rfl, lv4, FV4, hs4, hf4, hv4, hsep4⟩
   have HX4 := zh (HC3.out.keep HX3.out (by decide) (by decide) (by decide) hf4)
   have HC4 := zh (HC3.out.stack hs4 hf4 (Or.inl hv4) (fun k _ h => hsep4 k h))
   clear k5 k2 x0 hs4 hf4 hv4
   have k5 : w4.cell? ⟨kb, 5, none⟩ = some (.pointer (some ⟨sb, 0, none⟩)) := HC4.out.cell.cell 5
   have k2 : w4.cell? ⟨kb, 2, none⟩ = some (fn.rv) := HC4.out.cell.cell 2
   have x0 : w4.cell? ⟨B3, 0, none⟩ = some (.int .u8 x.op.toNat) := HX4.out.cell 0
   clear hsep4
   go_wp2_with fail
   refine (typed_any false).mono ?_
   rintro en wt ⟨rfl, rfl⟩
   go_wp2_with fail
   go_ret
   unfold stepLeave
   rw [if_neg h0]
   simp only [hw3a]
   exact ⟨rfl, HC4.out.bel⟩
  | some t3 =>
   rw [hw3a] at hw
   obtain ⟨rfl, lv3, hs3, hf3, hv3⟩ := hw
   have HX3 := zh (HC2.out.keep HX2.out (by decide) (by decide) (by decide) (hf3.mono fun _ _ e => Or.inl e))
   have HC3 := zh (HC2.out.stack hs3 (hf3.mono fun _ _ e => Or.inl e) (Or.inl hv3) (fun _ _ h => h))
   clear hs3 hf3 hv3
   have HS3 := zh (Sm.of (s' := ⟨t3, s.o⟩) HS.out (want_most hw3a))
   refine hK.out _ _ ⟨(HC3.out.cell.cell 5), (HC3.out.cell.cell 2), (HX3.out.cell 0)⟩ (still_none _ _) ?_
   clear hK K
   (try simp only [Act.put, sA, sB, sC])
   repeat (first | (refine ts_take (v := ?_) rfl rfl (fun w' hw' => ?_) ?_; rotate_left; (focus (obtain ⟨q0, q1, q2⟩ := hw'; (try simp only [Act.put, sA, sB, sC]); go_simp; (try go_bits); (try (with_reducible rfl)))); (try simp only [Act.put, sA, sB, sC])) | (refine ts_skip rfl rfl ?_; (try simp only [Act.put, sA, sB, sC])))
   refine ts_done ?_
   have k5 : w3.cell? ⟨kb, 5, none⟩ = some (.pointer (some ⟨sb, 0, none⟩)) := HC3.out.cell.cell 5
   have k2 : w3.cell? ⟨kb, 2, none⟩ = some (fn.rv) := HC3.out.cell.cell 2
   have x0 : w3.cell? ⟨B3, 0, none⟩ = some (.int .u8 x.op.toNat) := HX3.out.cell 0
   go_wp2_with fail
   refine (dead_any HC3.out.stm HS3.out.ne HS3.out.fs9).mono ?_
   rintro en w4 ⟨rfl, lv4, FV4, hs4, hf4, hv4, hsep4⟩
   have HX4 := zh (HC3.out.keep HX3.out (by decide) (by decide) (by decide) hf4)
   have HC4 := zh (HC3.out.stack hs4 hf4 (Or.inl hv4) (fun k _ h => hsep4 k h))
   clear k5 k2 x0 hs4 hf4 hv4
   have k5 : w4.cell? ⟨kb, 5, none⟩ = some (.pointer (some ⟨sb, 0, none⟩)) := HC4.out.cell.cell 5
   have k2 : w4.cell? ⟨kb, 2, none⟩ = some (fn.rv) := HC4.out.cell.cell 2
   have x0 : w4.cell? ⟨B3, 0, none⟩ = some (.int .u8 x.op.toNat) := HX4.out.cell 0
   clear hsep4
   go_wp2_with fail
   refine (typed_any true).mono ?_
   rintro en wt ⟨rfl, rfl⟩
   go_wp2_with fail
   go_ret
   unfold stepLeave
   rw [if_neg h0]
   simp only [hw3a]
   exact ⟨rfl, _, _, _, _, HC4.out⟩
set_option maxRecDepth 100000 in
set_option maxHeartbeats 8000000 in
theorem call_any {W0 w : World} {S0 kb sb : Nat} {fn : Ft} {c : Cod} {lv fv ov : Value} {FV : List Fv} {s : St} {x : Ins} (h : Ck W0 w S0 fn c kb sb lv fv ov FV s) (hs : Sm s) (hx : InsOk W0 x) {m : Mod} {GS : List Gt} {BS MS : List Lim} (hsp : SpG W0 S0 m GS BS MS) (hm : ModOk W0 m) :
  Calls Tryz.prog 97 #[.pointer (some ⟨kb, 0, none⟩), .agg x.cs.toArray] w fun e w' => StepSays W0 S0 fn c kb sb w' e (stepCall ⟨spcOf m GS BS MS, fn, c⟩ s x) := by
 have HC := zh h
 have HS := zh hs
 have HX := zh hx
 have HSP := zh hsp
 have HM := zh hm
 have hxa : x.a < 4294967296 := hx.1
 obtain ⟨b, hb⟩ : ∃ b, b = (ftype m x.a).isSome := ⟨_, rfl⟩
 have HBB := zh hb
 clear h hs hx hsp hm hb
 go_enter Tryz.func97, Tryz.ntmps97
 go_wp2_with (refine wl_box x.cs _ rfl rfl rfl (fun w1 hb1 hl1 => ?_); have HC1 := zh (HC.out.later hb1); have HX1 := zh hl1; have HB1 := zh hb1; obtain ⟨B3, hB3⟩ : ∃ B3, B3 = w.heap.size := ⟨_, rfl⟩; rw [← hB3] at HX1 ⊢; clear hB3 hb1 hl1; have k0 : w1.cell? ⟨kb, 0, none⟩ = some (.pointer (some ⟨S0, 0, none⟩)) := HC1.out.cell.cell 0; have k5 : w1.cell? ⟨kb, 5, none⟩ = some (.pointer (some ⟨sb, 0, none⟩)) := HC1.out.cell.cell 5; have x1 : w1.cell? ⟨B3, 1, none⟩ = some (.int .u32 x.a) := HX1.out.cell 1; (try simp only [Act.put, sA, sB, sC]))
 have hd2 := below_drew w1
 have HC2 := zh (HC1.out.later hd2)
 have HX2 := zh (HX1.out.below hd2 HX1.out.lt)
 refine RP.region (RP.take 0 (RP.take 1 (RP.take 2 (RP.take 3 (RP.take 4 (RP.take 5 (RP.fork 6 10 (RP.take 7 (RP.take 8 (RP.take 9 (RP.run 10 (RP.run 11 (RP.take 12 RP.done)))))) (RP.run 6 (RP.take 7 (RP.take 8 (RP.take 9 (RP.run 11 (RP.take 12 RP.done))))))))))))) (fun w' => w'.cell? ⟨kb, 0, none⟩ = some (.pointer (some ⟨S0, 0, none⟩)) ∧ w'.cell? ⟨kb, 5, none⟩ = some (.pointer (some ⟨sb, 0, none⟩)) ∧ w'.cell? ⟨B3, 1, none⟩ = some (.int .u32 x.a)) (by kernel_rfl) (by kernel_rfl) (fun _ _ d _ _ h => by cases d <;> exact h) ⟨(HC2.out.cell.cell 0), (HC2.out.cell.cell 5), (HX2.out.cell 1)⟩ (fun _ => ?_)
 clear k0 k5 x1 hd2
 generalize w1.drew = w2 at HC2 HX2 ⊢
 repeat (first | (refine RP.t_take (v := ?_) rfl rfl (fun w' hw' => ?_) ?_; rotate_left; (focus (obtain ⟨q0, q1, q2⟩ := hw'; (try simp only [Act.put, sA, sB, sC]); go_simp; (try go_bits); (try (with_reducible rfl)))); (try simp only [Act.put, sA, sB, sC])) | (refine RP.t_skip rfl rfl ?_; (try simp only [Act.put, sA, sB, sC])))
 refine RP.t_fork rfl rfl (fun K hK => ?_) (fun K hK => ?_)
 ·go_simp
  refine (func_any HM.out (HSP.out.later HC2.out.bel).sp hxa).mono ?_
  rintro en wa ⟨y, rfl, ho, ht, hya, hab⟩
  rw [← HBB.out]
  have HO := zh ho
  have HT := zh ht
  have HAB := zh hab
  have HLN := zh (fntold_len HM.out ht)
  clear ho ht hab
  refine hK.out _ _ ⟨((HC2.out.later hya).cell.cell 0), ((HC2.out.later hya).cell.cell 5), ((HX2.out.below hya HX2.out.lt).cell 1)⟩ ?_
  clear hK K
  (try simp only [Act.put, sA, sB, sC])
  repeat (first | (refine RP.t_take (v := ?_) rfl rfl (fun w' hw' => ?_) ?_; rotate_left; (focus (obtain ⟨q0, q1, q2⟩ := hw'; (try simp only [Act.put, sA, sB, sC]); go_simp; (try go_bits); (try (with_reducible rfl)))); (try simp only [Act.put, sA, sB, sC])) | (refine RP.t_skip rfl rfl ?_; (try simp only [Act.put, sA, sB, sC])))
  refine RP.t_run rfl (fun K hK => ?_)
  go_simp
  obtain ⟨wb, hwn⟩ : ∃ wb, wb = wa.alloc (.cells #[.slice none 0 0, .slice none 0 0] 51) := ⟨_, rfl⟩
  have hal : Below wa.heap.size wa wb := hwn ▸ (Below.refl _ _).alloc (Nat.le_refl _) _
  have hyb := bt hya hal
  have HN := zh (show Lies wb wa.heap.size 51 #[.slice none 0 0, .slice none 0 0] from hwn ▸ Lies.new _ _ _)
  rw [← hwn]
  clear hwn
  obtain ⟨Bn, hBn⟩ : ∃ Bn, Bn = wa.heap.size := ⟨_, rfl⟩
  rw [← hBn] at HN ⊢
  have hBw : w2.heap.size ≤ Bn := by rw [hBn]; exact hya.size
  clear hBn
  replace HO := zh (HO.out.later hal)
  refine hK.out _ _ ⟨((HC2.out.later hyb).cell.cell 0), ((HC2.out.later hyb).cell.cell 5), ((HX2.out.below hyb HX2.out.lt).cell 1)⟩ ?_
  clear hK K
  (try simp only [Act.put, sA, sB, sC])
  refine RP.t_run rfl (fun K hK => ?_)
  refine ite_of rfl ?_
  refine wp_put HN.out y.cs _ _ rfl rfl rfl rfl sizeFt (oneFt (HO.out.ok HLN.out.1 HLN.out.2)) (fun w3 hlc hfc => ?_)
  have hyc := hyb.trans (hfc.below hyb.size (fun k hk => by omega))
  have HO := zh (HO.out.frT (FrT.field HN.out hfc) (by decide))
  refine hK.out _ _ ⟨((HC2.out.later hyc).cell.cell 0), ((HC2.out.later hyc).cell.cell 5), ((HX2.out.below hyc HX2.out.lt).cell 1)⟩ ?_
  clear hK K
  (try simp only [Act.put])
  repeat (first | (refine RP.t_take (v := ?_) rfl rfl (fun w' hw' => ?_) ?_; rotate_left; (focus (obtain ⟨q0, q1, q2⟩ := hw'; (try simp only [Act.put, sA, sB, sC]); go_simp; (try go_bits); (try (with_reducible rfl)))); (try simp only [Act.put, sA, sB, sC])) | (refine RP.t_skip rfl rfl ?_; (try simp only [Act.put, sA, sB, sC])))
  refine RP.t_done ?_
  have HN3 := zh hlc
  clear hlc hfc
  have HC3 := zh (HC2.out.later hyc)
  have HX3 := zh (HX2.out.below hyc HX2.out.lt)
  clear hyc
  have k0 : w3.cell? ⟨kb, 0, none⟩ = some (.pointer (some ⟨S0, 0, none⟩)) := HC3.out.cell.cell 0
  have k5 : w3.cell? ⟨kb, 5, none⟩ = some (.pointer (some ⟨sb, 0, none⟩)) := HC3.out.cell.cell 5
  have x1 : w3.cell? ⟨B3, 1, none⟩ = some (.int .u32 x.a) := HX3.out.cell 1
  have n0 : w3.cell? ⟨Bn, 0, none⟩ = some (y.pv) := HN3.out.cell 0
  have n1 : w3.cell? ⟨Bn, 1, none⟩ = some (y.rv) := HN3.out.cell 1
  cases b with
  | false =>
   have HE := zh (show ftype m x.a = none from by have := HBB.out; cases h : ftype m x.a with | none => rfl | some _ => rw [h] at this; cases this)
   go_wp2_with fail
   go_ret
   unfold stepCall
   rw [show (spcOf m GS BS MS).func x.a = none from HE.out]
   exact ⟨rfl, HC3.out.bel⟩
  | true =>
   obtain ⟨f, hf⟩ : ∃ f, ftype m x.a = some f := by have := HBB.out; cases h : ftype m x.a with | none => rw [h] at this; cases this | some f => exact ⟨f, rfl⟩
   have HE := zh hf
   have HPR := zh (show y.p = f.p ∧ y.r = f.r from by have := HT.out; unfold FnTold at this; rw [hf] at this; simpa using this)
   clear hf
   go_wp2_with fail
   have HY := zh (HO.out.ok HLN.out.1 HLN.out.2)
   refine (takes_any HC3.out HS.out (ps := f.p) (rs := f.r) (by rw [← HPR.out.1]; exact HY.out.1.1) (by rw [← HPR.out.2]; exact HY.out.2.1) (by rw [← HPR.out.1]; exact Nat.le_trans HLN.out.1 (by decide)) (by rw [← HPR.out.2]; exact Nat.le_trans HLN.out.2 (by decide))).mono ?_
   intro en wt ht
   obtain ⟨n, rfl⟩ := ht.form
   replace ht := zh ht
   go_wp2_with fail
   go_ret
   unfold stepCall
   rw [show (spcOf m GS BS MS).func x.a = some f from HE.out]
   exact ht.out
 ·go_simp
  obtain ⟨wa, hwn⟩ : ∃ wa, wa = w2.alloc (.cells #[.slice none 0 0, .slice none 0 0] 51) := ⟨_, rfl⟩
  have hal : Below w2.heap.size w2 wa := hwn ▸ (Below.refl _ _).alloc (Nat.le_refl _) _
  have hya := hal
  have HN := zh (show Lies wa w2.heap.size 51 #[.slice none 0 0, .slice none 0 0] from hwn ▸ Lies.new _ _ _)
  rw [← hwn]
  clear hwn
  obtain ⟨Bn, hBn⟩ : ∃ Bn, Bn = w2.heap.size := ⟨_, rfl⟩
  rw [← hBn] at HN ⊢
  have hBw : w2.heap.size ≤ Bn := by rw [hBn]; exact Nat.le_refl _
  clear hBn
  refine hK.out _ _ ⟨((HC2.out.later hya).cell.cell 0), ((HC2.out.later hya).cell.cell 5), ((HX2.out.below hya HX2.out.lt).cell 1)⟩ ?_
  clear hK K
  (try simp only [Act.put, sA, sB, sC])
  refine RP.t_run rfl (fun K hK => ?_)
  go_simp
  refine (func_any HM.out (HSP.out.later (HC2.out.later hya).bel).sp hxa).mono ?_
  rintro en wb ⟨y, rfl, ho, ht, hbb, hab⟩
  have hyb := bt hya hbb
  replace HN := zh (HN.out.below hbb HN.out.lt)
  rw [← HBB.out]
  have HO := zh ho
  have HT := zh ht
  have HAB := zh (show FtAbove w2.heap.size y from ⟨fun k hk => Nat.le_trans hya.size (hab.1 k hk), fun k hk => Nat.le_trans hya.size (hab.2.1 k hk), hab.2.2⟩)
  have HLN := zh (fntold_len HM.out ht)
  clear ho ht hab
  refine hK.out _ _ ⟨((HC2.out.later hyb).cell.cell 0), ((HC2.out.later hyb).cell.cell 5), ((HX2.out.below hyb HX2.out.lt).cell 1)⟩ ?_
  clear hK K
  (try simp only [Act.put, sA, sB, sC])
  repeat (first | (refine RP.t_take (v := ?_) rfl rfl (fun w' hw' => ?_) ?_; rotate_left; (focus (obtain ⟨q0, q1, q2⟩ := hw'; (try simp only [Act.put, sA, sB, sC]); go_simp; (try go_bits); (try (with_reducible rfl)))); (try simp only [Act.put, sA, sB, sC])) | (refine RP.t_skip rfl rfl ?_; (try simp only [Act.put, sA, sB, sC])))
  refine RP.t_run rfl (fun K hK => ?_)
  refine ite_of rfl ?_
  refine wp_put HN.out y.cs _ _ rfl rfl rfl rfl sizeFt (oneFt (HO.out.ok HLN.out.1 HLN.out.2)) (fun w3 hlc hfc => ?_)
  have hyc := hyb.trans (hfc.below hyb.size (fun k hk => by omega))
  have HO := zh (HO.out.frT (FrT.field HN.out hfc) (by decide))
  refine hK.out _ _ ⟨((HC2.out.later hyc).cell.cell 0), ((HC2.out.later hyc).cell.cell 5), ((HX2.out.below hyc HX2.out.lt).cell 1)⟩ ?_
  clear hK K
  (try simp only [Act.put])
  repeat (first | (refine RP.t_take (v := ?_) rfl rfl (fun w' hw' => ?_) ?_; rotate_left; (focus (obtain ⟨q0, q1, q2⟩ := hw'; (try simp only [Act.put, sA, sB, sC]); go_simp; (try go_bits); (try (with_reducible rfl)))); (try simp only [Act.put, sA, sB, sC])) | (refine RP.t_skip rfl rfl ?_; (try simp only [Act.put, sA, sB, sC])))
  refine RP.t_done ?_
  have HN3 := zh hlc
  clear hlc hfc
  have HC3 := zh (HC2.out.later hyc)
  have HX3 := zh (HX2.out.below hyc HX2.out.lt)
  clear hyc
  have k0 : w3.cell? ⟨kb, 0, none⟩ = some (.pointer (some ⟨S0, 0, none⟩)) := HC3.out.cell.cell 0
  have k5 : w3.cell? ⟨kb, 5, none⟩ = some (.pointer (some ⟨sb, 0, none⟩)) := HC3.out.cell.cell 5
  have x1 : w3.cell? ⟨B3, 1, none⟩ = some (.int .u32 x.a) := HX3.out.cell 1
  have n0 : w3.cell? ⟨Bn, 0, none⟩ = some (y.pv) := HN3.out.cell 0
  have n1 : w3.cell? ⟨Bn, 1, none⟩ = some (y.rv) := HN3.out.cell 1
  cases b with
  | false =>
   have HE := zh (show ftype m x.a = none from by have := HBB.out; cases h : ftype m x.a with | none => rfl | some _ => rw [h] at this; cases this)
   go_wp2_with fail
   go_ret
   unfold stepCall
   rw [show (spcOf m GS BS MS).func x.a = none from HE.out]
   exact ⟨rfl, HC3.out.bel⟩
  | true =>
   obtain ⟨f, hf⟩ : ∃ f, ftype m x.a = some f := by have := HBB.out; cases h : ftype m x.a with | none => rw [h] at this; cases this | some f => exact ⟨f, rfl⟩
   have HE := zh hf
   have HPR := zh (show y.p = f.p ∧ y.r = f.r from by have := HT.out; unfold FnTold at this; rw [hf] at this; simpa using this)
   clear hf
   go_wp2_with fail
   have HY := zh (HO.out.ok HLN.out.1 HLN.out.2)
   refine (takes_any HC3.out HS.out (ps := f.p) (rs := f.r) (by rw [← HPR.out.1]; exact HY.out.1.1) (by rw [← HPR.out.2]; exact HY.out.2.1) (by rw [← HPR.out.1]; exact Nat.le_trans HLN.out.1 (by decide)) (by rw [← HPR.out.2]; exact Nat.le_trans HLN.out.2 (by decide))).mono ?_
   intro en wt ht
   obtain ⟨n, rfl⟩ := ht.form
   replace ht := zh ht
   go_wp2_with fail
   go_ret
   unfold stepCall
   rw [show (spcOf m GS BS MS).func x.a = some f from HE.out]
   exact ht.out
set_option maxRecDepth 100000 in
set_option maxHeartbeats 8000000 in
theorem block_any {W0 w : World} {S0 kb sb : Nat} {fn : Ft} {c : Cod} {lv fv ov : Value} {FV : List Fv} {s : St} {x : Ins} (h : Ck W0 w S0 fn c kb sb lv fv ov FV s) (hs : Sm s) (hx : InsOk W0 x) (hfi : s.t.fs.length = s.o.length + 1) :
  Calls Tryz.prog 91 #[.pointer (some ⟨kb, 0, none⟩), .agg x.cs.toArray] w fun e w' => StepSays W0 S0 fn c kb sb w' e (stepBlock s x) := by
 have HC := zh h
 have HS := zh hs
 have HX := zh hx
 have hob : s.o.length ≤ 1500000 := by have := hs.fs; omega
 clear h hs hx hfi
 by_cases h4 : x.op = 4
 ·have e4 : ((x.op.toNat : Int) == 4) = true := by rw [h4]; rfl
  have HON := zh (show (x.op.toNat : Int) = 4 from by rw [h4]; rfl)
  have e3 : ((x.op.toNat : Int) == 3) = false := by rw [h4]; rfl
  go_enter Tryz.func91, Tryz.ntmps91
  go_wp2_with (refine wl_box x.cs _ rfl rfl rfl (fun w1 hb1 hl1 => ?_); have HC1 := zh (HC.out.later hb1); have HX1 := zh hl1; have HB1 := zh hb1; obtain ⟨B3, hB3⟩ : ∃ B3, B3 = w.heap.size := ⟨_, rfl⟩; rw [← hB3] at HX1 ⊢; clear hB3 hb1 hl1; have k5 : w1.cell? ⟨kb, 5, none⟩ = some (.pointer (some ⟨sb, 0, none⟩)) := HC1.out.cell.cell 5; have k6 : w1.cell? ⟨kb, 6, none⟩ = some (ov) := HC1.out.cell.cell 6; have x0 : w1.cell? ⟨B3, 0, none⟩ = some (.int .u8 x.op.toNat) := HX1.out.cell 0; have x1 : w1.cell? ⟨B3, 1, none⟩ = some (.int .u32 x.a) := HX1.out.cell 1; (try simp only [Act.put, sA, sB, sC]))
  obtain ⟨w2, hw2⟩ : ∃ w2, w2 = w1.alloc (.cells #[.int .u8 127] 5) := ⟨_, rfl⟩
  have hb2 : Below w1.heap.size w1 w2 := hw2 ▸ (Below.refl _ _).alloc (Nat.le_refl _) _
  have HU2 := zh (show Sl w2 1 u8c (.slice (some ⟨w1.heap.size, 0, none⟩) 1 1) [127] by rw [hw2]; exact sl_one (Lies.new w1 _ _))
  rw [← hw2]
  clear hw2
  have HC2 := zh (HC1.out.later hb2)
  have HX2 := zh (HX1.out.below hb2 HX1.out.lt)
  clear k5 k6 x0 x1 hb2
  have k5 : w2.cell? ⟨kb, 5, none⟩ = some (.pointer (some ⟨sb, 0, none⟩)) := HC2.out.cell.cell 5
  have k6 : w2.cell? ⟨kb, 6, none⟩ = some (ov) := HC2.out.cell.cell 6
  have x0 : w2.cell? ⟨B3, 0, none⟩ = some (.int .u8 x.op.toNat) := HX2.out.cell 0
  have x1 : w2.cell? ⟨B3, 1, none⟩ = some (.int .u32 x.a) := HX2.out.cell 1
  refine (want_any HC2.out.stm HS.out.ne HS.out.fs9 HS.out.most9 HU2.out (by decide)).mono ?_
  intro en w3 hw
  cases hw3a : want s.t [127] with
  | none =>
   rw [hw3a] at hw
   obtain ⟨rfl, hb3⟩ := hw
   have HC3 := zh (HC2.out.later hb3)
   have HX3 := zh (HX2.out.below hb3 HX2.out.lt)
   clear k5 k6 x0 x1 hb3
   have k5 : w3.cell? ⟨kb, 5, none⟩ = some (.pointer (some ⟨sb, 0, none⟩)) := HC3.out.cell.cell 5
   have k6 : w3.cell? ⟨kb, 6, none⟩ = some (ov) := HC3.out.cell.cell 6
   have x0 : w3.cell? ⟨B3, 0, none⟩ = some (.int .u8 x.op.toNat) := HX3.out.cell 0
   have x1 : w3.cell? ⟨B3, 1, none⟩ = some (.int .u32 x.a) := HX3.out.cell 1
   go_wp2_with fail
   go_ret
   unfold stepBlock
   rw [if_pos h4, hw3a]
   exact ⟨rfl, HC3.out.bel⟩
  | some t3 =>
   rw [hw3a] at hw
   obtain ⟨rfl, lv3, hs3, hf3, hv3⟩ := hw
   have HX3 := zh (HC2.out.keep HX2.out (by decide) (by decide) (by decide) (hf3.mono fun _ _ e => Or.inl e))
   have HC3 := zh (HC2.out.stack hs3 (hf3.mono fun _ _ e => Or.inl e) (Or.inl hv3) (fun _ _ h => h))
   clear k5 k6 x0 x1 hs3 hf3 hv3
   have k5 : w3.cell? ⟨kb, 5, none⟩ = some (.pointer (some ⟨sb, 0, none⟩)) := HC3.out.cell.cell 5
   have k6 : w3.cell? ⟨kb, 6, none⟩ = some (ov) := HC3.out.cell.cell 6
   have x0 : w3.cell? ⟨B3, 0, none⟩ = some (.int .u8 x.op.toNat) := HX3.out.cell 0
   have x1 : w3.cell? ⟨B3, 1, none⟩ = some (.int .u32 x.a) := HX3.out.cell 1
   have HS3 := zh (Sm.of (s' := ⟨t3, s.o⟩) HS.out (want_most hw3a))
   go_wp2_with fail
   refine (result_any x.a).mono ?_
   rintro en w4 ⟨v4, rfl, hr4, hb4⟩
   have HR4 := zh hr4
   clear hr4
   have HC4 := zh (HC3.out.later hb4)
   have HX4 := zh (HX3.out.below hb4 HX3.out.lt)
   clear k5 k6 x0 x1 hb4
   have k5 : w4.cell? ⟨kb, 5, none⟩ = some (.pointer (some ⟨sb, 0, none⟩)) := HC4.out.cell.cell 5
   have k6 : w4.cell? ⟨kb, 6, none⟩ = some (ov) := HC4.out.cell.cell 6
   have x0 : w4.cell? ⟨B3, 0, none⟩ = some (.int .u8 x.op.toNat) := HX4.out.cell 0
   have x1 : w4.cell? ⟨B3, 1, none⟩ = some (.int .u32 x.a) := HX4.out.cell 1
   go_wp2_with fail
   refine (open_any HC4.out.stm HC4.out.bel.size (Nat.le_trans HS3.out.fs (by decide)) HR4.out HR4.out (Nat.le_trans (resT_len _) (by decide)) (Nat.le_trans (resT_len _) (by decide))).mono ?_
   rintro en w5 ⟨rfl, fv5, FV5, hs5, hf5, _, hsep5⟩
   have hv5 := hsep5
   have HX5 := zh (HC4.out.keep HX4.out (by decide) (by decide) (by decide) hf5)
   have HC5 := zh (HC4.out.stack hs5 hf5 (Or.inl rfl) hsep5)
   clear k5 k6 x0 x1 hs5 hf5 hv5
   have k5 : w5.cell? ⟨kb, 5, none⟩ = some (.pointer (some ⟨sb, 0, none⟩)) := HC5.out.cell.cell 5
   have k6 : w5.cell? ⟨kb, 6, none⟩ = some (ov) := HC5.out.cell.cell 6
   have x0 : w5.cell? ⟨B3, 0, none⟩ = some (.int .u8 x.op.toNat) := HX5.out.cell 0
   have x1 : w5.cell? ⟨B3, 1, none⟩ = some (.int .u32 x.a) := HX5.out.cell 1
   clear hsep5 HR4
   go_wp2_with fail
   have hd6 := below_drew w5
   have HC6 := zh (HC5.out.later hd6)
   have HX6 := zh (HX5.out.below hd6 HX5.out.lt)
   refine wp_region_t [(0, 1), (1, 1), (2, 1), (3, 1), (4, 2), (5, 1), (6, 1), (7, 0), (8, 0), (9, 1), (10, 1), (11, 0)] (fun w' => w'.cell? ⟨B3, 0, none⟩ = some (.int .u8 x.op.toNat)) [(11, fun w' => w'.cell? ⟨kb, 6, none⟩ = some (ov))] [11] rfl (by kernel_rfl) (by kernel_rfl) (fun _ _ d _ _ h => by cases d <;> exact h) (HX6.out.cell 0) (fun p hp => by obtain rfl := List.mem_singleton.1 hp; exact (HC6.out.cell.cell 6)) ?_
   clear k5 k6 x0 x1 hd6
   generalize w5.drew = w6 at HC6 HX6 ⊢
   repeat (first | (refine ts_take2 (v := ?_) rfl rfl (fun w' hw' hs' => ?_) ?_; rotate_left; (focus (have q0 := hw'; have p0 := hs'.one rfl; clear hs'; (try simp only [Act.put, sA, sB, sC]); go_simp; (try go_bits); (try (with_reducible rfl)))); (try simp only [Act.put, sA, sB, sC])) | (refine ts_take (v := ?_) rfl rfl (fun w' hw' => ?_) ?_; rotate_left; (focus (have q0 := hw'; (try simp only [Act.put, sA, sB, sC]); go_simp; (try go_bits); (try (with_reducible rfl)))); (try simp only [Act.put, sA, sB, sC])) | (refine ts_skip rfl rfl ?_; (try simp only [Act.put, sA, sB, sC])))
   refine ts_run1 rfl rfl (fun K hK => ?_)
   refine wp_b1 x.op.toNat _ rfl (by first | rfl | exact congrArg (Value.int .u8) HON.out.symm) (fun wa hba hsa => ?_)
   have HXa := zh (HX6.out.below hba HX6.out.lt)
   have HCa := zh (HC6.out.later hba)
   have HSa := zh hsa
   refine hK.out _ _ (HXa.out.cell 0) (still_one (.inr (HCa.out.cell.cell 6))) ?_
   clear hK K hba hsa
   (try simp only [Act.put, sA, sB, sC])
   refine ts_run1 rfl rfl (fun K hK => ?_)
   refine wp_app (by_ := 1) _ _ rfl und_u8s inf_u8 (by decide) (v := ov) rfl HCa.out.row (fun _ => rfl) rfl HSa.out (one_oc _) (by unfold maxLen; simp; omega) (by simp; omega) HCa.out.bel.size (fun vb wb hob hgb hvb => ?_)
   obtain ⟨s9, c9, rfl, _, _⟩ := row_form hob
   obtain ⟨hlb, hck⟩ := HCa.out.openput (o' := s.o ++ [x.op]) (Below.refl _ _) (by rw [List.length_append, List.flatMap_append]; exact hob) hgb hvb
   have HXb := zh (lies_frT HXa.out (FrT.grown HCa.out.row hgb) (by decide))
   have HLb := zh hlb
   have HCK := zh hck
   refine hK.out _ _ (HXb.out.cell 0) (still_one (.inr (HLb.out.cell 6))) ?_
   clear hK K hob hgb hvb hlb hck
   (try simp only [Act.put, sA, sB, sC])
   repeat (first | (refine ts_take (v := ?_) rfl rfl (fun w' hw' => ?_) ?_; rotate_left; (focus (clear hw'; (try simp only [Act.put, sA, sB, sC]); go_simp; (try go_bits); (try (with_reducible rfl)))); (try simp only [Act.put, sA, sB, sC])))
   refine ts_run1 rfl rfl (fun K hK => ?_)
   refine wp_fld (c0 := ckCs S0 sb fn c ov) HLb.out _ _ rfl rfl rfl [.slice s9 _ c9] (ckCs S0 sb fn c (.slice s9 _ c9)) rfl siz_u8s (by intro u hu; obtain rfl := List.mem_singleton.1 hu; rfl) (by simp [ckCs]) rfl (fun wc hlc hfc => ?_)
   have HCc := zh (HCK.out wc hlc hfc)
   refine hK.out _ _ ((lies_frT HXb.out (FrT.field HLb.out hfc) (by decide) : Lies wc B3 _ _).cell 0) (still_one (.inl rfl)) ?_
   clear hK K hlc hfc
   (try simp only [Act.put])
   refine ts_done ?_
   go_wp2_with fail
   go_ret
   unfold stepBlock
   rw [if_pos h4, hw3a]
   simp only [show ¬ x.op = 3 from by rw [h4]; decide, if_false]
   exact ⟨rfl, _, _, _, _, HCc.out⟩
 ·have e4 : ((x.op.toNat : Int) == 4) = false := opne h4
  by_cases h3 : x.op = 3
  ·have e3 : ((x.op.toNat : Int) == 3) = true := by rw [h3]; rfl
   have HON := zh (show (x.op.toNat : Int) = 3 from by rw [h3]; rfl)
   go_enter Tryz.func91, Tryz.ntmps91
   go_wp2_with (refine wl_box x.cs _ rfl rfl rfl (fun w1 hb1 hl1 => ?_); have HC1 := zh (HC.out.later hb1); have HX1 := zh hl1; have HB1 := zh hb1; obtain ⟨B3, hB3⟩ : ∃ B3, B3 = w.heap.size := ⟨_, rfl⟩; rw [← hB3] at HX1 ⊢; clear hB3 hb1 hl1; have k5 : w1.cell? ⟨kb, 5, none⟩ = some (.pointer (some ⟨sb, 0, none⟩)) := HC1.out.cell.cell 5; have k6 : w1.cell? ⟨kb, 6, none⟩ = some (ov) := HC1.out.cell.cell 6; have x0 : w1.cell? ⟨B3, 0, none⟩ = some (.int .u8 x.op.toNat) := HX1.out.cell 0; have x1 : w1.cell? ⟨B3, 1, none⟩ = some (.int .u32 x.a) := HX1.out.cell 1; (try simp only [Act.put, sA, sB, sC]))
   refine (result_any x.a).mono ?_
   rintro en w2 ⟨v2, rfl, hr2, hb2⟩
   have HR2 := zh hr2
   clear hr2
   have HC2 := zh (HC1.out.later hb2)
   have HX2 := zh (HX1.out.below hb2 HX1.out.lt)
   clear k5 k6 x0 x1 hb2
   have k5 : w2.cell? ⟨kb, 5, none⟩ = some (.pointer (some ⟨sb, 0, none⟩)) := HC2.out.cell.cell 5
   have k6 : w2.cell? ⟨kb, 6, none⟩ = some (ov) := HC2.out.cell.cell 6
   have x0 : w2.cell? ⟨B3, 0, none⟩ = some (.int .u8 x.op.toNat) := HX2.out.cell 0
   have x1 : w2.cell? ⟨B3, 1, none⟩ = some (.int .u32 x.a) := HX2.out.cell 1
   go_wp2_with fail
   refine (open_any HC2.out.stm HC2.out.bel.size (Nat.le_trans HS.out.fs (by decide)) (Sl.nil _ _ _ _) HR2.out (by decide) (Nat.le_trans (resT_len _) (by decide))).mono ?_
   rintro en w3 ⟨rfl, fv3, FV3, hs3, hf3, _, hsep3⟩
   have hv3 := hsep3
   have HX3 := zh (HC2.out.keep HX2.out (by decide) (by decide) (by decide) hf3)
   have HC3 := zh (HC2.out.stack hs3 hf3 (Or.inl rfl) hsep3)
   clear k5 k6 x0 x1 hs3 hf3 hv3
   have k5 : w3.cell? ⟨kb, 5, none⟩ = some (.pointer (some ⟨sb, 0, none⟩)) := HC3.out.cell.cell 5
   have k6 : w3.cell? ⟨kb, 6, none⟩ = some (ov) := HC3.out.cell.cell 6
   have x0 : w3.cell? ⟨B3, 0, none⟩ = some (.int .u8 x.op.toNat) := HX3.out.cell 0
   have x1 : w3.cell? ⟨B3, 1, none⟩ = some (.int .u32 x.a) := HX3.out.cell 1
   clear hsep3 HR2
   go_wp2_with fail
   have hd4 := below_drew w3
   have HC4 := zh (HC3.out.later hd4)
   have HX4 := zh (HX3.out.below hd4 HX3.out.lt)
   refine wp_region_t [(0, 1), (1, 1), (2, 1), (3, 1), (4, 2), (5, 1), (6, 1), (7, 0), (8, 0), (9, 1), (10, 1), (11, 0)] (fun w' => w'.cell? ⟨B3, 0, none⟩ = some (.int .u8 x.op.toNat)) [(11, fun w' => w'.cell? ⟨kb, 6, none⟩ = some (ov))] [11] rfl (by kernel_rfl) (by kernel_rfl) (fun _ _ d _ _ h => by cases d <;> exact h) (HX4.out.cell 0) (fun p hp => by obtain rfl := List.mem_singleton.1 hp; exact (HC4.out.cell.cell 6)) ?_
   clear k5 k6 x0 x1 hd4
   generalize w3.drew = w4 at HC4 HX4 ⊢
   repeat (first | (refine ts_take2 (v := ?_) rfl rfl (fun w' hw' hs' => ?_) ?_; rotate_left; (focus (have q0 := hw'; have p0 := hs'.one rfl; clear hs'; (try simp only [Act.put, sA, sB, sC]); go_simp; (try go_bits); (try (with_reducible rfl)))); (try simp only [Act.put, sA, sB, sC])) | (refine ts_take (v := ?_) rfl rfl (fun w' hw' => ?_) ?_; rotate_left; (focus (have q0 := hw'; (try simp only [Act.put, sA, sB, sC]); go_simp; (try go_bits); (try (with_reducible rfl)))); (try simp only [Act.put, sA, sB, sC])) | (refine ts_skip rfl rfl ?_; (try simp only [Act.put, sA, sB, sC])))
   refine ts_run1 rfl rfl (fun K hK => ?_)
   refine wp_b1 x.op.toNat _ rfl (by first | rfl | exact congrArg (Value.int .u8) HON.out.symm) (fun wa hba hsa => ?_)
   have HXa := zh (HX4.out.below hba HX4.out.lt)
   have HCa := zh (HC4.out.later hba)
   have HSa := zh hsa
   refine hK.out _ _ (HXa.out.cell 0) (still_one (.inr (HCa.out.cell.cell 6))) ?_
   clear hK K hba hsa
   (try simp only [Act.put, sA, sB, sC])
   refine ts_run1 rfl rfl (fun K hK => ?_)
   refine wp_app (by_ := 1) _ _ rfl und_u8s inf_u8 (by decide) (v := ov) rfl HCa.out.row (fun _ => rfl) rfl HSa.out (one_oc _) (by unfold maxLen; simp; omega) (by simp; omega) HCa.out.bel.size (fun vb wb hob hgb hvb => ?_)
   obtain ⟨s9, c9, rfl, _, _⟩ := row_form hob
   obtain ⟨hlb, hck⟩ := HCa.out.openput (o' := s.o ++ [x.op]) (Below.refl _ _) (by rw [List.length_append, List.flatMap_append]; exact hob) hgb hvb
   have HXb := zh (lies_frT HXa.out (FrT.grown HCa.out.row hgb) (by decide))
   have HLb := zh hlb
   have HCK := zh hck
   refine hK.out _ _ (HXb.out.cell 0) (still_one (.inr (HLb.out.cell 6))) ?_
   clear hK K hob hgb hvb hlb hck
   (try simp only [Act.put, sA, sB, sC])
   repeat (first | (refine ts_take (v := ?_) rfl rfl (fun w' hw' => ?_) ?_; rotate_left; (focus (clear hw'; (try simp only [Act.put, sA, sB, sC]); go_simp; (try go_bits); (try (with_reducible rfl)))); (try simp only [Act.put, sA, sB, sC])))
   refine ts_run1 rfl rfl (fun K hK => ?_)
   refine wp_fld (c0 := ckCs S0 sb fn c ov) HLb.out _ _ rfl rfl rfl [.slice s9 _ c9] (ckCs S0 sb fn c (.slice s9 _ c9)) rfl siz_u8s (by intro u hu; obtain rfl := List.mem_singleton.1 hu; rfl) (by simp [ckCs]) rfl (fun wc hlc hfc => ?_)
   have HCc := zh (HCK.out wc hlc hfc)
   refine hK.out _ _ ((lies_frT HXb.out (FrT.field HLb.out hfc) (by decide) : Lies wc B3 _ _).cell 0) (still_one (.inl rfl)) ?_
   clear hK K hlc hfc
   (try simp only [Act.put])
   refine ts_done ?_
   go_wp2_with fail
   go_ret
   unfold stepBlock
   rw [if_neg h4]
   simp only [if_pos h3]
   exact ⟨rfl, _, _, _, _, HCc.out⟩
  ·have e3 : ((x.op.toNat : Int) == 3) = false := opne h3
   have HON := zh (show (x.op.toNat : Int) = x.op.toNat from rfl)
   go_enter Tryz.func91, Tryz.ntmps91
   go_wp2_with (refine wl_box x.cs _ rfl rfl rfl (fun w1 hb1 hl1 => ?_); have HC1 := zh (HC.out.later hb1); have HX1 := zh hl1; have HB1 := zh hb1; obtain ⟨B3, hB3⟩ : ∃ B3, B3 = w.heap.size := ⟨_, rfl⟩; rw [← hB3] at HX1 ⊢; clear hB3 hb1 hl1; have k5 : w1.cell? ⟨kb, 5, none⟩ = some (.pointer (some ⟨sb, 0, none⟩)) := HC1.out.cell.cell 5; have k6 : w1.cell? ⟨kb, 6, none⟩ = some (ov) := HC1.out.cell.cell 6; have x0 : w1.cell? ⟨B3, 0, none⟩ = some (.int .u8 x.op.toNat) := HX1.out.cell 0; have x1 : w1.cell? ⟨B3, 1, none⟩ = some (.int .u32 x.a) := HX1.out.cell 1; (try simp only [Act.put, sA, sB, sC]))
   refine (result_any x.a).mono ?_
   rintro en w2 ⟨v2, rfl, hr2, hb2⟩
   have HR2 := zh hr2
   clear hr2
   have HC2 := zh (HC1.out.later hb2)
   have HX2 := zh (HX1.out.below hb2 HX1.out.lt)
   clear k5 k6 x0 x1 hb2
   have k5 : w2.cell? ⟨kb, 5, none⟩ = some (.pointer (some ⟨sb, 0, none⟩)) := HC2.out.cell.cell 5
   have k6 : w2.cell? ⟨kb, 6, none⟩ = some (ov) := HC2.out.cell.cell 6
   have x0 : w2.cell? ⟨B3, 0, none⟩ = some (.int .u8 x.op.toNat) := HX2.out.cell 0
   have x1 : w2.cell? ⟨B3, 1, none⟩ = some (.int .u32 x.a) := HX2.out.cell 1
   go_wp2_with fail
   refine (open_any HC2.out.stm HC2.out.bel.size (Nat.le_trans HS.out.fs (by decide)) HR2.out HR2.out (Nat.le_trans (resT_len _) (by decide)) (Nat.le_trans (resT_len _) (by decide))).mono ?_
   rintro en w3 ⟨rfl, fv3, FV3, hs3, hf3, _, hsep3⟩
   have hv3 := hsep3
   have HX3 := zh (HC2.out.keep HX2.out (by decide) (by decide) (by decide) hf3)
   have HC3 := zh (HC2.out.stack hs3 hf3 (Or.inl rfl) hsep3)
   clear k5 k6 x0 x1 hs3 hf3 hv3
   have k5 : w3.cell? ⟨kb, 5, none⟩ = some (.pointer (some ⟨sb, 0, none⟩)) := HC3.out.cell.cell 5
   have k6 : w3.cell? ⟨kb, 6, none⟩ = some (ov) := HC3.out.cell.cell 6
   have x0 : w3.cell? ⟨B3, 0, none⟩ = some (.int .u8 x.op.toNat) := HX3.out.cell 0
   have x1 : w3.cell? ⟨B3, 1, none⟩ = some (.int .u32 x.a) := HX3.out.cell 1
   clear hsep3 HR2
   go_wp2_with fail
   have hd4 := below_drew w3
   have HC4 := zh (HC3.out.later hd4)
   have HX4 := zh (HX3.out.below hd4 HX3.out.lt)
   refine wp_region_t [(0, 1), (1, 1), (2, 1), (3, 1), (4, 2), (5, 1), (6, 1), (7, 0), (8, 0), (9, 1), (10, 1), (11, 0)] (fun w' => w'.cell? ⟨B3, 0, none⟩ = some (.int .u8 x.op.toNat)) [(11, fun w' => w'.cell? ⟨kb, 6, none⟩ = some (ov))] [11] rfl (by kernel_rfl) (by kernel_rfl) (fun _ _ d _ _ h => by cases d <;> exact h) (HX4.out.cell 0) (fun p hp => by obtain rfl := List.mem_singleton.1 hp; exact (HC4.out.cell.cell 6)) ?_
   clear k5 k6 x0 x1 hd4
   generalize w3.drew = w4 at HC4 HX4 ⊢
   repeat (first | (refine ts_take2 (v := ?_) rfl rfl (fun w' hw' hs' => ?_) ?_; rotate_left; (focus (have q0 := hw'; have p0 := hs'.one rfl; clear hs'; (try simp only [Act.put, sA, sB, sC]); go_simp; (try go_bits); (try (with_reducible rfl)))); (try simp only [Act.put, sA, sB, sC])) | (refine ts_take (v := ?_) rfl rfl (fun w' hw' => ?_) ?_; rotate_left; (focus (have q0 := hw'; (try simp only [Act.put, sA, sB, sC]); go_simp; (try go_bits); (try (with_reducible rfl)))); (try simp only [Act.put, sA, sB, sC])) | (refine ts_skip rfl rfl ?_; (try simp only [Act.put, sA, sB, sC])))
   refine ts_run1 rfl rfl (fun K hK => ?_)
   refine wp_b1 x.op.toNat _ rfl (by first | rfl | exact congrArg (Value.int .u8) HON.out.symm) (fun wa hba hsa => ?_)
   have HXa := zh (HX4.out.below hba HX4.out.lt)
   have HCa := zh (HC4.out.later hba)
   have HSa := zh hsa
   refine hK.out _ _ (HXa.out.cell 0) (still_one (.inr (HCa.out.cell.cell 6))) ?_
   clear hK K hba hsa
   (try simp only [Act.put, sA, sB, sC])
   refine ts_run1 rfl rfl (fun K hK => ?_)
   refine wp_app (by_ := 1) _ _ rfl und_u8s inf_u8 (by decide) (v := ov) rfl HCa.out.row (fun _ => rfl) rfl HSa.out (one_oc _) (by unfold maxLen; simp; omega) (by simp; omega) HCa.out.bel.size (fun vb wb hob hgb hvb => ?_)
   obtain ⟨s9, c9, rfl, _, _⟩ := row_form hob
   obtain ⟨hlb, hck⟩ := HCa.out.openput (o' := s.o ++ [x.op]) (Below.refl _ _) (by rw [List.length_append, List.flatMap_append]; exact hob) hgb hvb
   have HXb := zh (lies_frT HXa.out (FrT.grown HCa.out.row hgb) (by decide))
   have HLb := zh hlb
   have HCK := zh hck
   refine hK.out _ _ (HXb.out.cell 0) (still_one (.inr (HLb.out.cell 6))) ?_
   clear hK K hob hgb hvb hlb hck
   (try simp only [Act.put, sA, sB, sC])
   repeat (first | (refine ts_take (v := ?_) rfl rfl (fun w' hw' => ?_) ?_; rotate_left; (focus (clear hw'; (try simp only [Act.put, sA, sB, sC]); go_simp; (try go_bits); (try (with_reducible rfl)))); (try simp only [Act.put, sA, sB, sC])))
   refine ts_run1 rfl rfl (fun K hK => ?_)
   refine wp_fld (c0 := ckCs S0 sb fn c ov) HLb.out _ _ rfl rfl rfl [.slice s9 _ c9] (ckCs S0 sb fn c (.slice s9 _ c9)) rfl siz_u8s (by intro u hu; obtain rfl := List.mem_singleton.1 hu; rfl) (by simp [ckCs]) rfl (fun wc hlc hfc => ?_)
   have HCc := zh (HCK.out wc hlc hfc)
   refine hK.out _ _ ((lies_frT HXb.out (FrT.field HLb.out hfc) (by decide) : Lies wc B3 _ _).cell 0) (still_one (.inl rfl)) ?_
   clear hK K hlc hfc
   (try simp only [Act.put])
   refine ts_done ?_
   go_wp2_with fail
   go_ret
   unfold stepBlock
   rw [if_neg h4]
   simp only [if_neg h3]
   exact ⟨rfl, _, _, _, _, HCc.out⟩
set_option maxRecDepth 100000 in
set_option maxHeartbeats 8000000 in
theorem middle_any {W0 w : World} {S0 kb sb : Nat} {fn : Ft} {c : Cod} {lv fv ov : Value} {FV : List Fv} {s : St} {x : Ins} (h : Ck W0 w S0 fn c kb sb lv fv ov FV s) (hs : Sm s) (hx : InsOk W0 x) (hne : s.o ≠ []) (hfi : s.t.fs.length = s.o.length + 1) :
  Calls Tryz.prog 92 #[.pointer (some ⟨kb, 0, none⟩), .agg x.cs.toArray] w fun e w' => StepSays W0 S0 fn c kb sb w' e (stepElse s) := by
 have HS := zh hs
 have HX := zh hx
 rcases List.eq_nil_or_concat s.o with hoo | ⟨ys, z, hoo⟩
 ·exact absurd hoo hne
 rw [List.concat_eq_append] at hoo
 obtain ⟨q, hq⟩ : ∃ q, q = ys.length := ⟨_, rfl⟩
 have hol : s.o.length = q + 1 := by rw [hoo, hq]; simp
 obtain ⟨so, co, hov, hle, hso⟩ := row_form h.row
 obtain ⟨g, rfl⟩ := hso (by omega)
 subst hov
 rw [hol] at hle
 have hq1 : ((q + 1 : Nat) : Int) - 1 = (q : Int) := by omega
 have hqb : q ≤ 2000000 := by have := hs.fs; omega
 have hwq := wrap_ok (q := q) (by omega)
 have hqc : q ≤ co := by omega
 have hqc2 : (q : Int) ≤ (co : Int) := by omega
 have hq9 : (q : Int) < (q : Int) + 1 := by omega
 have HQ := zh hq
 have HOO := zh hoo
 have HOL := zh hol
 have HC := zh h
 rw [hol] at HC
 clear h hs hx hq hoo hol hne hfi hso
 go_enter Tryz.func92, Tryz.ntmps92
 go_wp2_with (refine wl_box x.cs _ rfl rfl rfl (fun w1 hb1 hl1 => ?_); have HC1 := zh (HC.out.later hb1); have HX1 := zh hl1; have HB1 := zh hb1; obtain ⟨B3, hB3⟩ : ∃ B3, B3 = w.heap.size := ⟨_, rfl⟩; rw [← hB3] at HX1 ⊢; clear hB3 hb1 hl1; have k5 : w1.cell? ⟨kb, 5, none⟩ = some (.pointer (some ⟨sb, 0, none⟩)) := HC1.out.cell.cell 5; have k6 : w1.cell? ⟨kb, 6, none⟩ = some (.slice (some ⟨g, 0, none⟩) (q + 1) co) := HC1.out.cell.cell 6; (try simp only [Act.put, sA, sB, sC]))
 refine (close_any HC1.out.stm HS.out.ne HS.out.fs9 HS.out.most9 (fun y hy => (HC1.out.stm.labs HS.out y hy).2)).mono ?_
 intro en w2 hcl
 cases hco : close s.t with
 | none =>
  rw [hco] at hcl
  obtain ⟨rfl, hb2⟩ := hcl
  have HC2 := zh (HC1.out.later hb2)
  have HX2 := zh (HX1.out.below hb2 HX1.out.lt)
  clear k5 k6 hb2
  have k5 : w2.cell? ⟨kb, 5, none⟩ = some (.pointer (some ⟨sb, 0, none⟩)) := HC2.out.cell.cell 5
  have k6 : w2.cell? ⟨kb, 6, none⟩ = some (.slice (some ⟨g, 0, none⟩) (q + 1) co) := HC2.out.cell.cell 6
  go_wp2_with fail
  go_ret
  unfold stepElse
  rw [hco]
  exact ⟨rfl, HC2.out.bel⟩
 | some r9 =>
  obtain ⟨b, t9⟩ := r9
  rw [hco] at hcl
  obtain ⟨v2, lv2, fv2, rfl, hs2, him2, hf2, hv2, _⟩ := hcl
  have HIM := zh him2
  have HCL := zh (HS.out.close hco)
  clear him2
  have HX2 := zh (HC1.out.keep HX1.out (by decide) (by decide) (by decide) hf2)
  have HC2 := zh (HC1.out.stack hs2 hf2 (Or.inl hv2) (fun _ _ h => h.dropLast))
  clear k5 k6 hs2 hf2 hv2
  have k5 : w2.cell? ⟨kb, 5, none⟩ = some (.pointer (some ⟨sb, 0, none⟩)) := HC2.out.cell.cell 5
  have k6 : w2.cell? ⟨kb, 6, none⟩ = some (.slice (some ⟨g, 0, none⟩) (q + 1) co) := HC2.out.cell.cell 6
  go_wp2_with fail
  refine (open_any HC2.out.stm HC2.out.bel.size (Nat.le_trans HCL.out.2.1 (by decide)) HIM.out.sl HIM.out.sl (Nat.le_trans HCL.out.1 (by decide)) (Nat.le_trans HCL.out.1 (by decide))).mono ?_
  rintro en w3 ⟨rfl, fv3, FV3, hs3, hf3, _, hsep3⟩
  have hv3 := hsep3
  have HX3 := zh (HC2.out.keep HX2.out (by decide) (by decide) (by decide) hf3)
  have HC3 := zh (HC2.out.stack hs3 hf3 (Or.inl rfl) hsep3)
  clear k5 k6 hs3 hf3 hv3
  have k5 : w3.cell? ⟨kb, 5, none⟩ = some (.pointer (some ⟨sb, 0, none⟩)) := HC3.out.cell.cell 5
  have k6 : w3.cell? ⟨kb, 6, none⟩ = some (.slice (some ⟨g, 0, none⟩) (q + 1) co) := HC3.out.cell.cell 6
  clear hsep3
  go_wp2_with fail
  have hd4 := below_drew w3
  have HC4 := zh (HC3.out.later hd4)
  have HX4 := zh (HX3.out.below hd4 HX3.out.lt)
  refine wp_region_t [(0, 1), (1, 1), (2, 1), (3, 1), (4, 1), (5, 1), (6, 1), (7, 1), (8, 1), (9, 1), (10, 1), (11, 0)] (fun w' => w'.cell? ⟨kb, 6, none⟩ = some (.slice (some ⟨g, 0, none⟩) (q + 1) co)) [] [] rfl (by kernel_rfl) (by kernel_rfl) (fun _ _ d _ _ h => by cases d <;> exact h) (HC4.out.cell.cell 6) (fun p hp => by cases hp) ?_
  clear k5 k6 hd4
  generalize w3.drew = w4 at HC4 HX4 ⊢
  repeat (first | (refine ts_take (v := ?_) rfl rfl (fun w' hw' => ?_) ?_; rotate_left; (focus (have q0 := hw'; (try simp only [Act.put, sA, sB, sC]); go_simp; (try go_bits); (try (with_reducible rfl)))); (try simp only [Act.put, sA, sB, sC])) | (refine ts_skip rfl rfl ?_; (try simp only [Act.put, sA, sB, sC])))
  refine ts_run1 rfl rfl (fun K hK => ?_)
  have HR := zh HC4.out.row
  rw [HOL.out] at HR
  refine wp_cell (v := .int .u8 5) (o := q) HR.out (by rw [length_flat (m := 1) (fun _ => rfl), HOL.out]; omega) _ _ rfl rfl rfl rfl siz_u8' rfl (fun wb hrb hgb => ?_)
  have HCb := zh (HC4.out.openset (o' := s.o.dropLast ++ [5]) (by rw [HOO.out, List.dropLast_concat]; exact set_last HQ.out HOO.out hrb) hgb)
  refine hK.out _ _ (HCb.out.cell.cell 6) (still_none _ _) ?_
  clear hK K hrb hgb
  (try simp only [Act.put])
  refine ts_done ?_
  go_wp2_with fail
  go_ret
  unfold stepElse
  rw [hco]
  exact ⟨rfl, _, _, _, _, HCb.out⟩
set_option maxRecDepth 100000 in
set_option maxHeartbeats 8000000 in
theorem end_any {W0 w : World} {S0 kb sb : Nat} {fn : Ft} {c : Cod} {lv fv ov : Value} {FV : List Fv} {s : St} {x : Ins} (h : Ck W0 w S0 fn c kb sb lv fv ov FV s) (hs : Sm s) (hx : InsOk W0 x) (hne : s.o ≠ []) (hfi : s.t.fs.length = s.o.length + 1) :
  Calls Tryz.prog 93 #[.pointer (some ⟨kb, 0, none⟩), .agg x.cs.toArray] w fun e w' => StepSays W0 S0 fn c kb sb w' e (stepEnd s) := by
 have HS := zh hs
 have HX := zh hx
 rcases List.eq_nil_or_concat s.o with hoo | ⟨ys, z, hoo⟩
 ·exact absurd hoo hne
 rw [List.concat_eq_append] at hoo
 obtain ⟨q, hq⟩ : ∃ q, q = ys.length := ⟨_, rfl⟩
 have hol : s.o.length = q + 1 := by rw [hoo, hq]; simp
 obtain ⟨so, co, hov, hle, hso⟩ := row_form h.row
 obtain ⟨g, rfl⟩ := hso (by omega)
 subst hov
 rw [hol] at hle
 have hq1 : ((q + 1 : Nat) : Int) - 1 = (q : Int) := by omega
 have hqb : q ≤ 2000000 := by have := hs.fs; omega
 have hwq := wrap_ok (q := q) (by omega)
 have hqc : q ≤ co := by omega
 have hqc2 : (q : Int) ≤ (co : Int) := by omega
 have hq9 : (q : Int) < (q : Int) + 1 := by omega
 have HQ := zh hq
 have HOO := zh hoo
 have HOL := zh hol
 have HC := zh h
 rw [hol] at HC
 clear h hs hx hq hoo hol hne hfi hso
 go_enter Tryz.func93, Tryz.ntmps93
 go_wp2_with (refine wl_box x.cs _ rfl rfl rfl (fun w1 hb1 hl1 => ?_); have HC1 := zh (HC.out.later hb1); have HX1 := zh hl1; have HB1 := zh hb1; obtain ⟨B3, hB3⟩ : ∃ B3, B3 = w.heap.size := ⟨_, rfl⟩; rw [← hB3] at HX1 ⊢; clear hB3 hb1 hl1; have k5 : w1.cell? ⟨kb, 5, none⟩ = some (.pointer (some ⟨sb, 0, none⟩)) := HC1.out.cell.cell 5; have k6 : w1.cell? ⟨kb, 6, none⟩ = some (.slice (some ⟨g, 0, none⟩) (q + 1) co) := HC1.out.cell.cell 6; (try simp only [Act.put, sA, sB, sC]))
 refine (close_any HC1.out.stm HS.out.ne HS.out.fs9 HS.out.most9 (fun y hy => (HC1.out.stm.labs HS.out y hy).2)).mono ?_
 intro en w2 hcl
 cases hco : close s.t with
 | none =>
  rw [hco] at hcl
  obtain ⟨rfl, hb2⟩ := hcl
  have HC2 := zh (HC1.out.later hb2)
  have HX2 := zh (HX1.out.below hb2 HX1.out.lt)
  clear k5 k6 hb2
  have k5 : w2.cell? ⟨kb, 5, none⟩ = some (.pointer (some ⟨sb, 0, none⟩)) := HC2.out.cell.cell 5
  have k6 : w2.cell? ⟨kb, 6, none⟩ = some (.slice (some ⟨g, 0, none⟩) (q + 1) co) := HC2.out.cell.cell 6
  go_wp2_with fail
  go_ret
  unfold stepEnd
  rw [hco]
  exact ⟨rfl, HC2.out.bel⟩
 | some r9 =>
  obtain ⟨b, t9⟩ := r9
  rw [hco] at hcl
  obtain ⟨v2, lv2, fv2, rfl, hs2, him2, hf2, hv2, _⟩ := hcl
  have HIM := zh him2
  have HCL := zh (HS.out.close hco)
  clear him2
  have HX2 := zh (HC1.out.keep HX1.out (by decide) (by decide) (by decide) hf2)
  have HC2 := zh (HC1.out.stack hs2 hf2 (Or.inl hv2) (fun _ _ h => h.dropLast))
  clear k5 k6 hs2 hf2 hv2
  have k5 : w2.cell? ⟨kb, 5, none⟩ = some (.pointer (some ⟨sb, 0, none⟩)) := HC2.out.cell.cell 5
  have k6 : w2.cell? ⟨kb, 6, none⟩ = some (.slice (some ⟨g, 0, none⟩) (q + 1) co) := HC2.out.cell.cell 6
  obtain ⟨se, ce, hev, _⟩ := Fm.WRow.form HIM.out
  subst hev
  have hz : w2.cell? ⟨g, q, none⟩ = some (.int .u8 z.toNat) := by
   have := row_at (en := u8c) (i := q) (x := z) (fun _ => rfl) (HOL.out ▸ HC2.out.row) (by rw [HOO.out, HQ.out]; simp) 0 _ rfl
   rw [Nat.mul_one, Nat.add_zero] at this
   exact this
  by_cases hbad : z = 4 ∧ b ≠ []
  ·have e4 : ((z.toNat : Int) == 4) = true := by rw [hbad.1]; rfl
   have e5 : (0 : Int) < (b.length : Int) := by have := List.length_pos_iff.2 hbad.2; omega
   go_wp2_with fail
   go_ret
   unfold stepEnd
   rw [hco]
   simp only [HOO.out, List.getLast?_concat]
   rw [if_pos ⟨by rw [hbad.1], hbad.2⟩]
   exact ⟨rfl, HC2.out.bel⟩
  ·by_cases h4 : z = 4
   ·have e4 : ((z.toNat : Int) == 4) = true := by rw [h4]; rfl
    obtain rfl : b = [] := Decidable.byContradiction fun h => hbad ⟨h4, h⟩
    go_wp2_with (refine wl_fld (c0 := ckCs S0 sb fn c (.slice (some ⟨g, 0, none⟩) (q + 1) co)) HC2.out.cell _ _ rfl rfl rfl rfl [.slice (some ⟨g, 0, none⟩) q co] (ckCs S0 sb fn c (.slice (some ⟨g, 0, none⟩) q co)) rfl siz_u8s (by intro u hu; obtain rfl := List.mem_singleton.1 hu; rfl) (by simp [ckCs]) rfl (fun wc hlc hfc => ?_); have HCc := zh ((HC2.out.openput (o' := s.o.dropLast) (ov' := .slice (some ⟨g, 0, none⟩) q co) (Below.refl _ _) (cut_last HQ.out HOO.out HC2.out.row) (World.grownBy_refl' _ _) (Or.inl rfl)).2 wc hlc hfc); have HMc := zh (show Imm wc W0.heap.size lv2 (.slice se ([] : Bts).length ce) ([] : Bts) from wrow_frT HIM.out (FrT.field HC2.out.cell hfc) (by decide)); clear hlc hfc k5 k6 hz; have k5 : wc.cell? ⟨kb, 5, none⟩ = some (.pointer (some ⟨sb, 0, none⟩)) := HCc.out.cell.cell 5; (try simp only [Act.put]))
    refine (push_any HCc.out.stm HCc.out.bel.size (Imm.sl HMc.out) (by have := HCL.out; have h2 := HS.out.most; show t9.most + ([] : Bts).length ≤ _; omega)).mono ?_
    rintro en wd ⟨rfl, lvd, hsd, hfd, hvd⟩
    have HCd := zh (HCc.out.stack hsd hfd (hvd.imp_right fun e k hk => by rw [e] at hk; injection hk with hk; omega) (fun _ _ h => h))
    clear hsd hfd hvd k5
    go_wp2_with fail
    go_ret
    unfold stepEnd
    rw [hco]
    simp only [HOO.out, List.getLast?_concat, List.dropLast_concat]
    rw [if_neg (fun h => hbad ⟨Option.some.inj h.1, h.2⟩)]
    have hf := HCd.out
    rw [HOO.out, List.dropLast_concat] at hf
    exact ⟨rfl, _, _, _, _, hf⟩
   ·have e4 : ((z.toNat : Int) == 4) = false := opne h4
    go_wp2_with (refine wl_fld (c0 := ckCs S0 sb fn c (.slice (some ⟨g, 0, none⟩) (q + 1) co)) HC2.out.cell _ _ rfl rfl rfl rfl [.slice (some ⟨g, 0, none⟩) q co] (ckCs S0 sb fn c (.slice (some ⟨g, 0, none⟩) q co)) rfl siz_u8s (by intro u hu; obtain rfl := List.mem_singleton.1 hu; rfl) (by simp [ckCs]) rfl (fun wc hlc hfc => ?_); have HCc := zh ((HC2.out.openput (o' := s.o.dropLast) (ov' := .slice (some ⟨g, 0, none⟩) q co) (Below.refl _ _) (cut_last HQ.out HOO.out HC2.out.row) (World.grownBy_refl' _ _) (Or.inl rfl)).2 wc hlc hfc); have HMc := zh (show Imm wc W0.heap.size lv2 (.slice se b.length ce) b from wrow_frT HIM.out (FrT.field HC2.out.cell hfc) (by decide)); clear hlc hfc k5 k6 hz; have k5 : wc.cell? ⟨kb, 5, none⟩ = some (.pointer (some ⟨sb, 0, none⟩)) := HCc.out.cell.cell 5; (try simp only [Act.put]))
    refine (push_any HCc.out.stm HCc.out.bel.size (Imm.sl HMc.out) (by have := HCL.out; have h2 := HS.out.most; show t9.most + b.length ≤ _; omega)).mono ?_
    rintro en wd ⟨rfl, lvd, hsd, hfd, hvd⟩
    have HCd := zh (HCc.out.stack hsd hfd (hvd.imp_right fun e k hk => by rw [e] at hk; injection hk with hk; omega) (fun _ _ h => h))
    clear hsd hfd hvd k5
    go_wp2_with fail
    go_ret
    unfold stepEnd
    rw [hco]
    simp only [HOO.out, List.getLast?_concat, List.dropLast_concat]
    rw [if_neg (fun h => hbad ⟨Option.some.inj h.1, h.2⟩)]
    have hf := HCd.out
    rw [HOO.out, List.dropLast_concat] at hf
    exact ⟨rfl, _, _, _, _, hf⟩
end Go.Proofs.YtmgjcaikldeioaaGreat.Ty
