/- A body's checker: return and unreachable, branches. -/
import Derived.Test.YtmgjcaikldeioaaGreatXUj
import Derived.Test.YtmgjcaikldeioaaGreatXUk
namespace Go.Proofs.YtmgjcaikldeioaaGreat.Ty
open Go Go.RowKit Go.Lib Kt Fm Gr

theorem sizeCod : (Tryz.prog.info? 48).map (·.size) = some 2 := by kernel_rfl
theorem Sm.label {s : St} {a : Nat} {l : Bts} (h : Sm s) (e : label s.t a = some l) : l.length ≤ 4000 := by
 unfold Ty.label at e
 split at e
 ·cases hg : s.t.fs[s.t.fs.length - 1 - a]? with
  | none => rw [hg] at e; cases e
  | some f =>
   rw [hg] at e
   obtain rfl := Option.some.inj e
   exact (h.lab f (List.mem_of_getElem? hg)).1
 ·cases e
theorem LabSays.uni {W w' : World} {e : Ending} {o : Option Bts} (h : LabSays W w' e o) : ∃ v, e = .returned (.tuple #[v, .bool o.isSome]) ∧ w'.ownsRow W.heap.size 5 1 v (o.getD []).length ((o.getD []).flatMap u8c) ∧ Below W.heap.size W w' := by
 cases o with
 | none =>
  obtain ⟨rfl, hb⟩ := h
  exact ⟨_, rfl, World.ownsRow_nil _ _ _ _, hb⟩
 | some l =>
  obtain ⟨v, rfl, ho, hb⟩ := h
  exact ⟨v, rfl, ho, hb⟩
theorem row_sl {w : World} {H : Nat} {v : Value} {l : Bts} (h : w.ownsRow H 5 1 v l.length (l.flatMap u8c)) : Sl w 1 u8c v l := own_sl (en := u8c) (fun _ => rfl) h
theorem row_more {w : World} {H : Nat} {v : Value} {l : Bts} {t : UInt8} (h : w.ownsRow H 5 1 v (l.length + [Value.int .u8 t.toNat].length) (l.flatMap u8c ++ [Value.int .u8 t.toNat].flatMap oc)) : Sl w 1 u8c v (l ++ [t]) :=
 row_sl (H := H) (by rw [List.length_append, List.flatMap_append]; exact h)
set_option maxRecDepth 100000 in
set_option maxHeartbeats 8000000 in
theorem branch_any {W0 w : World} {S0 kb sb : Nat} {fn : Ft} {c : Cod} {lv fv ov : Value} {FV : List Fv} {s : St} {x : Ins} (h : Ck W0 w S0 fn c kb sb lv fv ov FV s) (hs : Sm s) (hx : InsOk W0 x) :
  Calls Tryz.prog 94 #[.pointer (some ⟨kb, 0, none⟩), .agg x.cs.toArray] w fun e w' => StepSays W0 S0 fn c kb sb w' e (stepBr s x) := by
 have HC := zh h
 have HS := zh hs
 have HX := zh hx
 have hxa : x.a < 4294967296 := hx.1
 clear h hs hx
 by_cases h13 : x.op = 13
 ·have e13 : ((x.op.toNat : Int) == 13) = true := by rw [h13]; rfl
  go_enter Tryz.func94, Tryz.ntmps94
  go_wp2_with (refine wl_box x.cs _ rfl rfl rfl (fun w1 hb1 hl1 => ?_); have HC1 := zh (HC.out.later hb1); have HX1 := zh hl1; have HB1 := zh hb1; obtain ⟨B3, hB3⟩ : ∃ B3, B3 = w.heap.size := ⟨_, rfl⟩; rw [← hB3] at HX1 ⊢; clear hB3 hb1 hl1; have k5 : w1.cell? ⟨kb, 5, none⟩ = some (.pointer (some ⟨sb, 0, none⟩)) := HC1.out.cell.cell 5; have x0 : w1.cell? ⟨B3, 0, none⟩ = some (.int .u8 x.op.toNat) := HX1.out.cell 0; have x1 : w1.cell? ⟨B3, 1, none⟩ = some (.int .u32 x.a) := HX1.out.cell 1; (try simp only [Act.put, sA, sB, sC]))
  have hd2 := below_drew w1
  have HC2 := zh (HC1.out.later hd2)
  have HX2 := zh (HX1.out.below hd2 HX1.out.lt)
  refine wp_region_t [(0, 1), (1, 1), (2, 1), (3, 1), (4, 1), (5, 1), (6, 0), (7, 1), (8, 1), (9, 1), (10, 1), (11, 1)] (fun w' => w'.cell? ⟨kb, 5, none⟩ = some (.pointer (some ⟨sb, 0, none⟩)) ∧ w'.cell? ⟨B3, 0, none⟩ = some (.int .u8 x.op.toNat) ∧ w'.cell? ⟨B3, 1, none⟩ = some (.int .u32 x.a)) [] [] rfl (by kernel_rfl) (by kernel_rfl) (fun _ _ d _ _ h => by cases d <;> exact h) ⟨(HC2.out.cell.cell 5), (HX2.out.cell 0), (HX2.out.cell 1)⟩ (fun p hp => by cases hp) ?_
  clear k5 x0 x1 hd2
  generalize w1.drew = w2 at HC2 HX2 ⊢
  repeat (first | (refine ts_take (v := ?_) rfl rfl (fun w' hw' => ?_) ?_; rotate_left; (focus (obtain ⟨q0, q1, q2⟩ := hw'; (try simp only [Act.put, sA, sB, sC]); go_simp; (try go_bits); (try (with_reducible rfl)))); (try simp only [Act.put, sA, sB, sC])) | (refine ts_skip rfl rfl ?_; (try simp only [Act.put, sA, sB, sC])))
  refine ts_run1 rfl rfl (fun K hK => ?_)
  go_simp
  refine (lab_any HC2.out.stm HS.out.fs9 (fun y hy => (HC2.out.stm.labs HS.out y hy).1) hxa).mono ?_
  intro en w3 hl
  cases hla : label s.t x.a with
  | none =>
   rw [hla] at hl
   obtain ⟨rfl, hb3⟩ := hl
   have HC3 := zh (HC2.out.later hb3)
   have HX3 := zh (HX2.out.below hb3 HX2.out.lt)
   clear hb3
   refine hK.out _ _ ⟨(HC3.out.cell.cell 5), (HX3.out.cell 0), (HX3.out.cell 1)⟩ (still_none _ _) ?_
   clear hK K
   (try simp only [Act.put, sA, sB, sC])
   repeat (first | (refine ts_take (v := ?_) rfl rfl (fun w' hw' => ?_) ?_; rotate_left; (focus (obtain ⟨q0, q1, q2⟩ := hw'; (try simp only [Act.put, sA, sB, sC]); go_simp; (try go_bits); (try (with_reducible rfl)))); (try simp only [Act.put, sA, sB, sC])) | (refine ts_skip rfl rfl ?_; (try simp only [Act.put, sA, sB, sC])))
   refine ts_done ?_
   have k5 : w3.cell? ⟨kb, 5, none⟩ = some (.pointer (some ⟨sb, 0, none⟩)) := HC3.out.cell.cell 5
   have x0 : w3.cell? ⟨B3, 0, none⟩ = some (.int .u8 x.op.toNat) := HX3.out.cell 0
   have x1 : w3.cell? ⟨B3, 1, none⟩ = some (.int .u32 x.a) := HX3.out.cell 1
   go_wp2_with fail
   go_ret
   unfold stepBr
   rw [hla]
   exact ⟨rfl, HC3.out.bel⟩
  | some l =>
   rw [hla] at hl
   obtain ⟨v3, rfl, ho3, hb3⟩ := hl
   have HO := zh ho3
   have hlb := HS.out.label hla
   clear ho3
   have HC3 := zh (HC2.out.later hb3)
   have HX3 := zh (HX2.out.below hb3 HX2.out.lt)
   clear hb3
   refine hK.out _ _ ⟨(HC3.out.cell.cell 5), (HX3.out.cell 0), (HX3.out.cell 1)⟩ (still_none _ _) ?_
   clear hK K
   (try simp only [Act.put, sA, sB, sC])
   repeat (first | (refine ts_take (v := ?_) rfl rfl (fun w' hw' => ?_) ?_; rotate_left; (focus (obtain ⟨q0, q1, q2⟩ := hw'; (try simp only [Act.put, sA, sB, sC]); go_simp; (try go_bits); (try (with_reducible rfl)))); (try simp only [Act.put, sA, sB, sC])) | (refine ts_skip rfl rfl ?_; (try simp only [Act.put, sA, sB, sC])))
   refine ts_done ?_
   have k5 : w3.cell? ⟨kb, 5, none⟩ = some (.pointer (some ⟨sb, 0, none⟩)) := HC3.out.cell.cell 5
   have x0 : w3.cell? ⟨B3, 0, none⟩ = some (.int .u8 x.op.toNat) := HX3.out.cell 0
   have x1 : w3.cell? ⟨B3, 1, none⟩ = some (.int .u32 x.a) := HX3.out.cell 1
   go_wp2_with fail
   refine (clone_u8 (row_sl HO.out) (by omega)).mono ?_
   rintro en wk ⟨vc, rfl, hoc, hbk⟩
   have HOC := zh hoc
   clear hoc
   go_wp2_with (first | (refine wl_b1 _ _ rfl rfl rfl (fun wa hba hsa => ?_); have HSa := zh hsa; have HOCa := zh (ownsRow_keep HOC.out hba); have hya := bt hbk hba; clear hba hsa; (try simp only [Act.put, sA, sB, sC])) | (refine wl_app (by_ := 1) _ _ rfl rfl und_u8s inf_u8 (by decide) rfl HOCa.out (fun _ => rfl) rfl HSa.out (one_oc _) (by unfold maxLen; simp; omega) (by simp; omega) hya.size (fun vb wb hob hgb hvb => ?_); obtain ⟨sb9, cb9, rfl, _, _⟩ := row_form hob; have hyb := hya.grown hgb hya.size (fun _ hk => (row_block HOCa.out hk).1); have HL1 := zh (row_more (t := 127) hob); clear hob hgb hvb hya; (try simp only [Act.put, sA, sB, sC])))
   have HR := zh (row_sl (ownsRow_keep HO.out hyb))
   have HC4 := zh (HC3.out.later hyb)
   refine (takes_any HC4.out HS.out (ps := (l ++ [127])) (rs := l) HL1.out HR.out (by simp; omega) (by omega)).mono ?_
   intro en wt ht
   obtain ⟨n, rfl⟩ := ht.form
   replace ht := zh ht
   go_wp2_with fail
   go_ret
   unfold stepBr
   rw [hla]
   simp only [if_pos h13]
   exact ht.out
 ·have e13 : ((x.op.toNat : Int) == 13) = false := opne h13
  go_enter Tryz.func94, Tryz.ntmps94
  go_wp2_with (refine wl_box x.cs _ rfl rfl rfl (fun w1 hb1 hl1 => ?_); have HC1 := zh (HC.out.later hb1); have HX1 := zh hl1; have HB1 := zh hb1; obtain ⟨B3, hB3⟩ : ∃ B3, B3 = w.heap.size := ⟨_, rfl⟩; rw [← hB3] at HX1 ⊢; clear hB3 hb1 hl1; have k5 : w1.cell? ⟨kb, 5, none⟩ = some (.pointer (some ⟨sb, 0, none⟩)) := HC1.out.cell.cell 5; have x0 : w1.cell? ⟨B3, 0, none⟩ = some (.int .u8 x.op.toNat) := HX1.out.cell 0; have x1 : w1.cell? ⟨B3, 1, none⟩ = some (.int .u32 x.a) := HX1.out.cell 1; (try simp only [Act.put, sA, sB, sC]))
  have hd2 := below_drew w1
  have HC2 := zh (HC1.out.later hd2)
  have HX2 := zh (HX1.out.below hd2 HX1.out.lt)
  refine wp_region_t [(0, 1), (1, 1), (2, 1), (3, 1), (4, 1), (5, 1), (6, 0), (7, 1), (8, 1), (9, 1), (10, 1), (11, 1)] (fun w' => w'.cell? ⟨kb, 5, none⟩ = some (.pointer (some ⟨sb, 0, none⟩)) ∧ w'.cell? ⟨B3, 0, none⟩ = some (.int .u8 x.op.toNat) ∧ w'.cell? ⟨B3, 1, none⟩ = some (.int .u32 x.a)) [] [] rfl (by kernel_rfl) (by kernel_rfl) (fun _ _ d _ _ h => by cases d <;> exact h) ⟨(HC2.out.cell.cell 5), (HX2.out.cell 0), (HX2.out.cell 1)⟩ (fun p hp => by cases hp) ?_
  clear k5 x0 x1 hd2
  generalize w1.drew = w2 at HC2 HX2 ⊢
  repeat (first | (refine ts_take (v := ?_) rfl rfl (fun w' hw' => ?_) ?_; rotate_left; (focus (obtain ⟨q0, q1, q2⟩ := hw'; (try simp only [Act.put, sA, sB, sC]); go_simp; (try go_bits); (try (with_reducible rfl)))); (try simp only [Act.put, sA, sB, sC])) | (refine ts_skip rfl rfl ?_; (try simp only [Act.put, sA, sB, sC])))
  refine ts_run1 rfl rfl (fun K hK => ?_)
  go_simp
  refine (lab_any HC2.out.stm HS.out.fs9 (fun y hy => (HC2.out.stm.labs HS.out y hy).1) hxa).mono ?_
  intro en w3 hl
  cases hla : label s.t x.a with
  | none =>
   rw [hla] at hl
   obtain ⟨rfl, hb3⟩ := hl
   have HC3 := zh (HC2.out.later hb3)
   have HX3 := zh (HX2.out.below hb3 HX2.out.lt)
   clear hb3
   refine hK.out _ _ ⟨(HC3.out.cell.cell 5), (HX3.out.cell 0), (HX3.out.cell 1)⟩ (still_none _ _) ?_
   clear hK K
   (try simp only [Act.put, sA, sB, sC])
   repeat (first | (refine ts_take (v := ?_) rfl rfl (fun w' hw' => ?_) ?_; rotate_left; (focus (obtain ⟨q0, q1, q2⟩ := hw'; (try simp only [Act.put, sA, sB, sC]); go_simp; (try go_bits); (try (with_reducible rfl)))); (try simp only [Act.put, sA, sB, sC])) | (refine ts_skip rfl rfl ?_; (try simp only [Act.put, sA, sB, sC])))
   refine ts_done ?_
   have k5 : w3.cell? ⟨kb, 5, none⟩ = some (.pointer (some ⟨sb, 0, none⟩)) := HC3.out.cell.cell 5
   have x0 : w3.cell? ⟨B3, 0, none⟩ = some (.int .u8 x.op.toNat) := HX3.out.cell 0
   have x1 : w3.cell? ⟨B3, 1, none⟩ = some (.int .u32 x.a) := HX3.out.cell 1
   go_wp2_with fail
   go_ret
   unfold stepBr
   rw [hla]
   exact ⟨rfl, HC3.out.bel⟩
  | some l =>
   rw [hla] at hl
   obtain ⟨v3, rfl, ho3, hb3⟩ := hl
   have HO := zh ho3
   have hlb := HS.out.label hla
   clear ho3
   have HC3 := zh (HC2.out.later hb3)
   have HX3 := zh (HX2.out.below hb3 HX2.out.lt)
   clear hb3
   refine hK.out _ _ ⟨(HC3.out.cell.cell 5), (HX3.out.cell 0), (HX3.out.cell 1)⟩ (still_none _ _) ?_
   clear hK K
   (try simp only [Act.put, sA, sB, sC])
   repeat (first | (refine ts_take (v := ?_) rfl rfl (fun w' hw' => ?_) ?_; rotate_left; (focus (obtain ⟨q0, q1, q2⟩ := hw'; (try simp only [Act.put, sA, sB, sC]); go_simp; (try go_bits); (try (with_reducible rfl)))); (try simp only [Act.put, sA, sB, sC])) | (refine ts_skip rfl rfl ?_; (try simp only [Act.put, sA, sB, sC])))
   refine ts_done ?_
   have k5 : w3.cell? ⟨kb, 5, none⟩ = some (.pointer (some ⟨sb, 0, none⟩)) := HC3.out.cell.cell 5
   have x0 : w3.cell? ⟨B3, 0, none⟩ = some (.int .u8 x.op.toNat) := HX3.out.cell 0
   have x1 : w3.cell? ⟨B3, 1, none⟩ = some (.int .u32 x.a) := HX3.out.cell 1
   go_wp2_with fail
   refine (want_any HC3.out.stm HS.out.ne HS.out.fs9 HS.out.most9 (row_sl HO.out) (by omega)).mono ?_
   intro en w4 hw
   cases hw4a : want s.t l with
   | none =>
    rw [hw4a] at hw
    obtain ⟨rfl, hb4⟩ := hw
    have HC4 := zh (HC3.out.later hb4)
    have HX4 := zh (HX3.out.below hb4 HX3.out.lt)
    clear k5 x0 x1 hb4
    have k5 : w4.cell? ⟨kb, 5, none⟩ = some (.pointer (some ⟨sb, 0, none⟩)) := HC4.out.cell.cell 5
    have x0 : w4.cell? ⟨B3, 0, none⟩ = some (.int .u8 x.op.toNat) := HX4.out.cell 0
    have x1 : w4.cell? ⟨B3, 1, none⟩ = some (.int .u32 x.a) := HX4.out.cell 1
    go_wp2_with fail
    refine (dead_any HC4.out.stm HS.out.ne HS.out.fs9).mono ?_
    rintro en w5 ⟨rfl, lv5, FV5, hs5, hf5, hv5, hsep5⟩
    have HX5 := zh (HC4.out.keep HX4.out (by decide) (by decide) (by decide) hf5)
    have HC5 := zh (HC4.out.stack hs5 hf5 (Or.inl hv5) (fun k _ h => hsep5 k h))
    clear k5 x0 x1 hs5 hf5 hv5
    have k5 : w5.cell? ⟨kb, 5, none⟩ = some (.pointer (some ⟨sb, 0, none⟩)) := HC5.out.cell.cell 5
    have x0 : w5.cell? ⟨B3, 0, none⟩ = some (.int .u8 x.op.toNat) := HX5.out.cell 0
    have x1 : w5.cell? ⟨B3, 1, none⟩ = some (.int .u32 x.a) := HX5.out.cell 1
    clear hsep5
    go_wp2_with fail
    refine (typed_any false).mono ?_
    rintro en wt ⟨rfl, rfl⟩
    go_wp2_with fail
    go_ret
    unfold stepBr
    rw [hla]
    simp only [if_neg h13, hw4a]
    exact ⟨rfl, HC5.out.bel⟩
   | some t4 =>
    rw [hw4a] at hw
    obtain ⟨rfl, lv4, hs4, hf4, hv4⟩ := hw
    have HX4 := zh (HC3.out.keep HX3.out (by decide) (by decide) (by decide) (hf4.mono fun _ _ e => Or.inl e))
    have HC4 := zh (HC3.out.stack hs4 (hf4.mono fun _ _ e => Or.inl e) (Or.inl hv4) (fun _ _ h => h))
    clear k5 x0 x1 hs4 hf4 hv4
    have k5 : w4.cell? ⟨kb, 5, none⟩ = some (.pointer (some ⟨sb, 0, none⟩)) := HC4.out.cell.cell 5
    have x0 : w4.cell? ⟨B3, 0, none⟩ = some (.int .u8 x.op.toNat) := HX4.out.cell 0
    have x1 : w4.cell? ⟨B3, 1, none⟩ = some (.int .u32 x.a) := HX4.out.cell 1
    have HS4 := zh (Sm.of (s' := ⟨t4, s.o⟩) HS.out (want_most hw4a))
    go_wp2_with fail
    refine (dead_any HC4.out.stm HS4.out.ne HS4.out.fs9).mono ?_
    rintro en w5 ⟨rfl, lv5, FV5, hs5, hf5, hv5, hsep5⟩
    have HX5 := zh (HC4.out.keep HX4.out (by decide) (by decide) (by decide) hf5)
    have HC5 := zh (HC4.out.stack hs5 hf5 (Or.inl hv5) (fun k _ h => hsep5 k h))
    clear k5 x0 x1 hs5 hf5 hv5
    have k5 : w5.cell? ⟨kb, 5, none⟩ = some (.pointer (some ⟨sb, 0, none⟩)) := HC5.out.cell.cell 5
    have x0 : w5.cell? ⟨B3, 0, none⟩ = some (.int .u8 x.op.toNat) := HX5.out.cell 0
    have x1 : w5.cell? ⟨B3, 1, none⟩ = some (.int .u32 x.a) := HX5.out.cell 1
    clear hsep5
    go_wp2_with fail
    refine (typed_any true).mono ?_
    rintro en wt ⟨rfl, rfl⟩
    go_wp2_with fail
    go_ret
    unfold stepBr
    rw [hla]
    simp only [if_neg h13, hw4a]
    exact ⟨rfl, _, _, _, _, HC5.out⟩
set_option maxRecDepth 100000 in
set_option maxHeartbeats 8000000 in
theorem local_any {W0 w : World} {S0 kb sb : Nat} {fn : Ft} {c : Cod} {lv fv ov : Value} {FV : List Fv} {s : St} {x : Ins} (h : Ck W0 w S0 fn c kb sb lv fv ov FV s) (hs : Sm s) (hx : InsOk W0 x) {sp : Spc} (hfn : FtOk W0 fn) (hcd : CodOk W0 c) :
  Calls Tryz.prog 101 #[.pointer (some ⟨kb, 0, none⟩), .agg x.cs.toArray] w fun e w' => StepSays W0 S0 fn c kb sb w' e (stepLocal ⟨sp, fn, c⟩ s x) := by
 have HC := zh h
 have HS := zh hs
 have HX := zh hx
 have HFN := zh hfn
 have HCD := zh hcd
 have hxa : x.a < 4294967296 := hx.1
 clear h hs hx hfn hcd
 by_cases h32 : x.op = 32
 ·have e32 : ((x.op.toNat : Int) == 32) = true := by rw [h32]; rfl
  go_enter Tryz.func101, Tryz.ntmps101
  go_wp2_with (refine wl_box x.cs _ rfl rfl rfl (fun w1 hb1 hl1 => ?_); have HC1 := zh (HC.out.later hb1); have HX1 := zh hl1; have HB1 := zh hb1; obtain ⟨B3, hB3⟩ : ∃ B3, B3 = w.heap.size := ⟨_, rfl⟩; rw [← hB3] at HX1 ⊢; clear hB3 hb1 hl1; have k5 : w1.cell? ⟨kb, 5, none⟩ = some (.pointer (some ⟨sb, 0, none⟩)) := HC1.out.cell.cell 5; have x0 : w1.cell? ⟨B3, 0, none⟩ = some (.int .u8 x.op.toNat) := HX1.out.cell 0; have x1 : w1.cell? ⟨B3, 1, none⟩ = some (.int .u32 x.a) := HX1.out.cell 1; (try simp only [Act.put, sA, sB, sC]))
  have hd2 := below_drew w1
  have HC2 := zh (HC1.out.later hd2)
  have HX2 := zh (HX1.out.below hd2 HX1.out.lt)
  refine wp_region_t [(0, 1), (1, 1), (2, 1), (3, 1), (4, 1), (5, 1), (6, 1), (7, 1), (8, 1), (9, 1), (10, 0), (11, 1), (12, 1), (13, 1), (14, 1), (15, 1)] (fun w' => Lies w' kb 140 (ckCs S0 sb fn c ov).toArray ∧ w'.cell? ⟨B3, 1, none⟩ = some (.int .u32 x.a)) [] [] rfl (by kernel_rfl) (by kernel_rfl) (fun _ _ d _ _ h => by cases d <;> exact h) ⟨HC2.out.cell, HX2.out.cell 1⟩ (fun p hp => by cases hp) ?_
  clear k5 x0 x1 hd2
  generalize w1.drew = w2 at HC2 HX2 ⊢
  repeat (first | (refine ts_take (v := .agg fn.cs.toArray) rfl rfl (fun w' hw' => exec_load (lies_sub (o := 1) hw'.1 fn.cs rfl) _ rfl rfl Tryz.underlying51 rfl sizeFt) ?_; (try simp only [Act.put, sA, sB, sC])) | (refine ts_take (v := .agg c.cs.toArray) rfl rfl (fun w' hw' => exec_load (lies_sub (o := 3) hw'.1 c.cs rfl) _ rfl rfl Tryz.underlying48 rfl sizeCod) ?_; (try simp only [Act.put, sA, sB, sC])) | (refine ts_take (v := ?_) rfl rfl (fun w' hw' => ?_) ?_; rotate_left; (focus (have q0 := hw'.2; clear hw'; (try simp only [Act.put, sA, sB, sC]); go_simp; (try go_bits); (try (with_reducible rfl)))); (try simp only [Act.put, sA, sB, sC])))
  refine ts_run1 rfl rfl (fun K hK => ?_)
  go_simp
  refine (loc_any (HFN.out.later HC2.out.bel) (HCD.out.later HC2.out.bel) hxa).mono ?_
  rintro en w3 ⟨⟨t, rfl, ht⟩, hb3⟩
  have HC3 := zh (HC2.out.later hb3)
  have HX3 := zh (HX2.out.below hb3 HX2.out.lt)
  clear hb3
  refine hK.out _ _ ⟨HC3.out.cell, HX3.out.cell 1⟩ (still_none _ _) ?_
  clear hK K
  (try simp only [Act.put, sA, sB, sC])
  have HT := zh ht
  clear ht
  cases hlo : locT fn c x.a with
  | none =>
   simp only [Option.isSome_none]
   repeat (first | (refine ts_take (v := .agg fn.cs.toArray) rfl rfl (fun w' hw' => exec_load (lies_sub (o := 1) hw'.1 fn.cs rfl) _ rfl rfl Tryz.underlying51 rfl sizeFt) ?_; (try simp only [Act.put, sA, sB, sC])) | (refine ts_take (v := .agg c.cs.toArray) rfl rfl (fun w' hw' => exec_load (lies_sub (o := 3) hw'.1 c.cs rfl) _ rfl rfl Tryz.underlying48 rfl sizeCod) ?_; (try simp only [Act.put, sA, sB, sC])) | (refine ts_take (v := ?_) rfl rfl (fun w' hw' => ?_) ?_; rotate_left; (focus (have q0 := hw'.2; clear hw'; (try simp only [Act.put, sA, sB, sC]); go_simp; (try go_bits); (try (with_reducible rfl)))); (try simp only [Act.put, sA, sB, sC])))
   refine ts_done ?_
   have k5 : w3.cell? ⟨kb, 5, none⟩ = some (.pointer (some ⟨sb, 0, none⟩)) := HC3.out.cell.cell 5
   have x0 : w3.cell? ⟨B3, 0, none⟩ = some (.int .u8 x.op.toNat) := HX3.out.cell 0
   have x1 : w3.cell? ⟨B3, 1, none⟩ = some (.int .u32 x.a) := HX3.out.cell 1
   go_wp2_with fail
   go_ret
   unfold stepLocal
   rw [hlo]
   exact ⟨rfl, HC3.out.bel⟩
  | some u =>
   obtain rfl := HT.out u hlo
   simp only [Option.isSome_some]
   repeat (first | (refine ts_take (v := .agg fn.cs.toArray) rfl rfl (fun w' hw' => exec_load (lies_sub (o := 1) hw'.1 fn.cs rfl) _ rfl rfl Tryz.underlying51 rfl sizeFt) ?_; (try simp only [Act.put, sA, sB, sC])) | (refine ts_take (v := .agg c.cs.toArray) rfl rfl (fun w' hw' => exec_load (lies_sub (o := 3) hw'.1 c.cs rfl) _ rfl rfl Tryz.underlying48 rfl sizeCod) ?_; (try simp only [Act.put, sA, sB, sC])) | (refine ts_take (v := ?_) rfl rfl (fun w' hw' => ?_) ?_; rotate_left; (focus (have q0 := hw'.2; clear hw'; (try simp only [Act.put, sA, sB, sC]); go_simp; (try go_bits); (try (with_reducible rfl)))); (try simp only [Act.put, sA, sB, sC])))
   have hltB := HX3.out.lt
   refine ts_done ?_
   have k5 : w3.cell? ⟨kb, 5, none⟩ = some (.pointer (some ⟨sb, 0, none⟩)) := HC3.out.cell.cell 5
   have x0 : w3.cell? ⟨B3, 0, none⟩ = some (.int .u8 x.op.toNat) := HX3.out.cell 0
   have x1 : w3.cell? ⟨B3, 1, none⟩ = some (.int .u32 x.a) := HX3.out.cell 1
   go_wp2_with fail
   clear hltB
   obtain ⟨w4, hw4⟩ : ∃ w4, w4 = w3.alloc (.cells #[.int .u8 t.toNat] 5) := ⟨_, rfl⟩
   have hb4 : Below w3.heap.size w3 w4 := hw4 ▸ (Below.refl _ _).alloc (Nat.le_refl _) _
   have HU := zh (show Sl w4 1 u8c (.slice (some ⟨w3.heap.size, 0, none⟩) 1 1) [t] by rw [hw4]; exact sl_one (Lies.new w3 _ _))
   rw [← hw4]
   clear hw4
   have HC4 := zh (HC3.out.later hb4)
   have HX4 := zh (HX3.out.below hb4 HX3.out.lt)
   clear k5 x0 x1 hb4
   have k5 : w4.cell? ⟨kb, 5, none⟩ = some (.pointer (some ⟨sb, 0, none⟩)) := HC4.out.cell.cell 5
   have x0 : w4.cell? ⟨B3, 0, none⟩ = some (.int .u8 x.op.toNat) := HX4.out.cell 0
   have x1 : w4.cell? ⟨B3, 1, none⟩ = some (.int .u32 x.a) := HX4.out.cell 1
   refine (takes_any HC4.out HS.out (ps := []) (rs := [t]) (Sl.nil _ _ _ _) HU.out (by simp) (by simp)).mono ?_
   intro en wt ht
   obtain ⟨n, rfl⟩ := ht.form
   replace ht := zh ht
   go_wp2_with fail
   go_ret
   unfold stepLocal
   rw [hlo]
   simp only [if_pos h32]
   exact ht.out
 ·have e32 : ((x.op.toNat : Int) == 32) = false := opne h32
  by_cases h33 : x.op = 33
  ·have e33 : ((x.op.toNat : Int) == 33) = true := by rw [h33]; rfl
   go_enter Tryz.func101, Tryz.ntmps101
   go_wp2_with (refine wl_box x.cs _ rfl rfl rfl (fun w1 hb1 hl1 => ?_); have HC1 := zh (HC.out.later hb1); have HX1 := zh hl1; have HB1 := zh hb1; obtain ⟨B3, hB3⟩ : ∃ B3, B3 = w.heap.size := ⟨_, rfl⟩; rw [← hB3] at HX1 ⊢; clear hB3 hb1 hl1; have k5 : w1.cell? ⟨kb, 5, none⟩ = some (.pointer (some ⟨sb, 0, none⟩)) := HC1.out.cell.cell 5; have x0 : w1.cell? ⟨B3, 0, none⟩ = some (.int .u8 x.op.toNat) := HX1.out.cell 0; have x1 : w1.cell? ⟨B3, 1, none⟩ = some (.int .u32 x.a) := HX1.out.cell 1; (try simp only [Act.put, sA, sB, sC]))
   have hd2 := below_drew w1
   have HC2 := zh (HC1.out.later hd2)
   have HX2 := zh (HX1.out.below hd2 HX1.out.lt)
   refine wp_region_t [(0, 1), (1, 1), (2, 1), (3, 1), (4, 1), (5, 1), (6, 1), (7, 1), (8, 1), (9, 1), (10, 0), (11, 1), (12, 1), (13, 1), (14, 1), (15, 1)] (fun w' => Lies w' kb 140 (ckCs S0 sb fn c ov).toArray ∧ w'.cell? ⟨B3, 1, none⟩ = some (.int .u32 x.a)) [] [] rfl (by kernel_rfl) (by kernel_rfl) (fun _ _ d _ _ h => by cases d <;> exact h) ⟨HC2.out.cell, HX2.out.cell 1⟩ (fun p hp => by cases hp) ?_
   clear k5 x0 x1 hd2
   generalize w1.drew = w2 at HC2 HX2 ⊢
   repeat (first | (refine ts_take (v := .agg fn.cs.toArray) rfl rfl (fun w' hw' => exec_load (lies_sub (o := 1) hw'.1 fn.cs rfl) _ rfl rfl Tryz.underlying51 rfl sizeFt) ?_; (try simp only [Act.put, sA, sB, sC])) | (refine ts_take (v := .agg c.cs.toArray) rfl rfl (fun w' hw' => exec_load (lies_sub (o := 3) hw'.1 c.cs rfl) _ rfl rfl Tryz.underlying48 rfl sizeCod) ?_; (try simp only [Act.put, sA, sB, sC])) | (refine ts_take (v := ?_) rfl rfl (fun w' hw' => ?_) ?_; rotate_left; (focus (have q0 := hw'.2; clear hw'; (try simp only [Act.put, sA, sB, sC]); go_simp; (try go_bits); (try (with_reducible rfl)))); (try simp only [Act.put, sA, sB, sC])))
   refine ts_run1 rfl rfl (fun K hK => ?_)
   go_simp
   refine (loc_any (HFN.out.later HC2.out.bel) (HCD.out.later HC2.out.bel) hxa).mono ?_
   rintro en w3 ⟨⟨t, rfl, ht⟩, hb3⟩
   have HC3 := zh (HC2.out.later hb3)
   have HX3 := zh (HX2.out.below hb3 HX2.out.lt)
   clear hb3
   refine hK.out _ _ ⟨HC3.out.cell, HX3.out.cell 1⟩ (still_none _ _) ?_
   clear hK K
   (try simp only [Act.put, sA, sB, sC])
   have HT := zh ht
   clear ht
   cases hlo : locT fn c x.a with
   | none =>
    simp only [Option.isSome_none]
    repeat (first | (refine ts_take (v := .agg fn.cs.toArray) rfl rfl (fun w' hw' => exec_load (lies_sub (o := 1) hw'.1 fn.cs rfl) _ rfl rfl Tryz.underlying51 rfl sizeFt) ?_; (try simp only [Act.put, sA, sB, sC])) | (refine ts_take (v := .agg c.cs.toArray) rfl rfl (fun w' hw' => exec_load (lies_sub (o := 3) hw'.1 c.cs rfl) _ rfl rfl Tryz.underlying48 rfl sizeCod) ?_; (try simp only [Act.put, sA, sB, sC])) | (refine ts_take (v := ?_) rfl rfl (fun w' hw' => ?_) ?_; rotate_left; (focus (have q0 := hw'.2; clear hw'; (try simp only [Act.put, sA, sB, sC]); go_simp; (try go_bits); (try (with_reducible rfl)))); (try simp only [Act.put, sA, sB, sC])))
    refine ts_done ?_
    have k5 : w3.cell? ⟨kb, 5, none⟩ = some (.pointer (some ⟨sb, 0, none⟩)) := HC3.out.cell.cell 5
    have x0 : w3.cell? ⟨B3, 0, none⟩ = some (.int .u8 x.op.toNat) := HX3.out.cell 0
    have x1 : w3.cell? ⟨B3, 1, none⟩ = some (.int .u32 x.a) := HX3.out.cell 1
    go_wp2_with fail
    go_ret
    unfold stepLocal
    rw [hlo]
    exact ⟨rfl, HC3.out.bel⟩
   | some u =>
    obtain rfl := HT.out u hlo
    simp only [Option.isSome_some]
    repeat (first | (refine ts_take (v := .agg fn.cs.toArray) rfl rfl (fun w' hw' => exec_load (lies_sub (o := 1) hw'.1 fn.cs rfl) _ rfl rfl Tryz.underlying51 rfl sizeFt) ?_; (try simp only [Act.put, sA, sB, sC])) | (refine ts_take (v := .agg c.cs.toArray) rfl rfl (fun w' hw' => exec_load (lies_sub (o := 3) hw'.1 c.cs rfl) _ rfl rfl Tryz.underlying48 rfl sizeCod) ?_; (try simp only [Act.put, sA, sB, sC])) | (refine ts_take (v := ?_) rfl rfl (fun w' hw' => ?_) ?_; rotate_left; (focus (have q0 := hw'.2; clear hw'; (try simp only [Act.put, sA, sB, sC]); go_simp; (try go_bits); (try (with_reducible rfl)))); (try simp only [Act.put, sA, sB, sC])))
    have hltB := HX3.out.lt
    refine ts_done ?_
    have k5 : w3.cell? ⟨kb, 5, none⟩ = some (.pointer (some ⟨sb, 0, none⟩)) := HC3.out.cell.cell 5
    have x0 : w3.cell? ⟨B3, 0, none⟩ = some (.int .u8 x.op.toNat) := HX3.out.cell 0
    have x1 : w3.cell? ⟨B3, 1, none⟩ = some (.int .u32 x.a) := HX3.out.cell 1
    go_wp2_with fail
    clear hltB
    obtain ⟨w4, hw4⟩ : ∃ w4, w4 = w3.alloc (.cells #[.int .u8 t.toNat] 5) := ⟨_, rfl⟩
    have hb4 : Below w3.heap.size w3 w4 := hw4 ▸ (Below.refl _ _).alloc (Nat.le_refl _) _
    have HU := zh (show Sl w4 1 u8c (.slice (some ⟨w3.heap.size, 0, none⟩) 1 1) [t] by rw [hw4]; exact sl_one (Lies.new w3 _ _))
    rw [← hw4]
    clear hw4
    have HC4 := zh (HC3.out.later hb4)
    have HX4 := zh (HX3.out.below hb4 HX3.out.lt)
    clear k5 x0 x1 hb4
    have k5 : w4.cell? ⟨kb, 5, none⟩ = some (.pointer (some ⟨sb, 0, none⟩)) := HC4.out.cell.cell 5
    have x0 : w4.cell? ⟨B3, 0, none⟩ = some (.int .u8 x.op.toNat) := HX4.out.cell 0
    have x1 : w4.cell? ⟨B3, 1, none⟩ = some (.int .u32 x.a) := HX4.out.cell 1
    refine (takes_any HC4.out HS.out (ps := [t]) (rs := []) HU.out (Sl.nil _ _ _ _) (by simp) (by simp)).mono ?_
    intro en wt ht
    obtain ⟨n, rfl⟩ := ht.form
    replace ht := zh ht
    go_wp2_with fail
    go_ret
    unfold stepLocal
    rw [hlo]
    simp only [if_neg h32, if_pos h33]
    exact ht.out
  ·have e33 : ((x.op.toNat : Int) == 33) = false := opne h33
   go_enter Tryz.func101, Tryz.ntmps101
   go_wp2_with (refine wl_box x.cs _ rfl rfl rfl (fun w1 hb1 hl1 => ?_); have HC1 := zh (HC.out.later hb1); have HX1 := zh hl1; have HB1 := zh hb1; obtain ⟨B3, hB3⟩ : ∃ B3, B3 = w.heap.size := ⟨_, rfl⟩; rw [← hB3] at HX1 ⊢; clear hB3 hb1 hl1; have k5 : w1.cell? ⟨kb, 5, none⟩ = some (.pointer (some ⟨sb, 0, none⟩)) := HC1.out.cell.cell 5; have x0 : w1.cell? ⟨B3, 0, none⟩ = some (.int .u8 x.op.toNat) := HX1.out.cell 0; have x1 : w1.cell? ⟨B3, 1, none⟩ = some (.int .u32 x.a) := HX1.out.cell 1; (try simp only [Act.put, sA, sB, sC]))
   have hd2 := below_drew w1
   have HC2 := zh (HC1.out.later hd2)
   have HX2 := zh (HX1.out.below hd2 HX1.out.lt)
   refine wp_region_t [(0, 1), (1, 1), (2, 1), (3, 1), (4, 1), (5, 1), (6, 1), (7, 1), (8, 1), (9, 1), (10, 0), (11, 1), (12, 1), (13, 1), (14, 1), (15, 1)] (fun w' => Lies w' kb 140 (ckCs S0 sb fn c ov).toArray ∧ w'.cell? ⟨B3, 1, none⟩ = some (.int .u32 x.a)) [] [] rfl (by kernel_rfl) (by kernel_rfl) (fun _ _ d _ _ h => by cases d <;> exact h) ⟨HC2.out.cell, HX2.out.cell 1⟩ (fun p hp => by cases hp) ?_
   clear k5 x0 x1 hd2
   generalize w1.drew = w2 at HC2 HX2 ⊢
   repeat (first | (refine ts_take (v := .agg fn.cs.toArray) rfl rfl (fun w' hw' => exec_load (lies_sub (o := 1) hw'.1 fn.cs rfl) _ rfl rfl Tryz.underlying51 rfl sizeFt) ?_; (try simp only [Act.put, sA, sB, sC])) | (refine ts_take (v := .agg c.cs.toArray) rfl rfl (fun w' hw' => exec_load (lies_sub (o := 3) hw'.1 c.cs rfl) _ rfl rfl Tryz.underlying48 rfl sizeCod) ?_; (try simp only [Act.put, sA, sB, sC])) | (refine ts_take (v := ?_) rfl rfl (fun w' hw' => ?_) ?_; rotate_left; (focus (have q0 := hw'.2; clear hw'; (try simp only [Act.put, sA, sB, sC]); go_simp; (try go_bits); (try (with_reducible rfl)))); (try simp only [Act.put, sA, sB, sC])))
   refine ts_run1 rfl rfl (fun K hK => ?_)
   go_simp
   refine (loc_any (HFN.out.later HC2.out.bel) (HCD.out.later HC2.out.bel) hxa).mono ?_
   rintro en w3 ⟨⟨t, rfl, ht⟩, hb3⟩
   have HC3 := zh (HC2.out.later hb3)
   have HX3 := zh (HX2.out.below hb3 HX2.out.lt)
   clear hb3
   refine hK.out _ _ ⟨HC3.out.cell, HX3.out.cell 1⟩ (still_none _ _) ?_
   clear hK K
   (try simp only [Act.put, sA, sB, sC])
   have HT := zh ht
   clear ht
   cases hlo : locT fn c x.a with
   | none =>
    simp only [Option.isSome_none]
    repeat (first | (refine ts_take (v := .agg fn.cs.toArray) rfl rfl (fun w' hw' => exec_load (lies_sub (o := 1) hw'.1 fn.cs rfl) _ rfl rfl Tryz.underlying51 rfl sizeFt) ?_; (try simp only [Act.put, sA, sB, sC])) | (refine ts_take (v := .agg c.cs.toArray) rfl rfl (fun w' hw' => exec_load (lies_sub (o := 3) hw'.1 c.cs rfl) _ rfl rfl Tryz.underlying48 rfl sizeCod) ?_; (try simp only [Act.put, sA, sB, sC])) | (refine ts_take (v := ?_) rfl rfl (fun w' hw' => ?_) ?_; rotate_left; (focus (have q0 := hw'.2; clear hw'; (try simp only [Act.put, sA, sB, sC]); go_simp; (try go_bits); (try (with_reducible rfl)))); (try simp only [Act.put, sA, sB, sC])))
    refine ts_done ?_
    have k5 : w3.cell? ⟨kb, 5, none⟩ = some (.pointer (some ⟨sb, 0, none⟩)) := HC3.out.cell.cell 5
    have x0 : w3.cell? ⟨B3, 0, none⟩ = some (.int .u8 x.op.toNat) := HX3.out.cell 0
    have x1 : w3.cell? ⟨B3, 1, none⟩ = some (.int .u32 x.a) := HX3.out.cell 1
    go_wp2_with fail
    go_ret
    unfold stepLocal
    rw [hlo]
    exact ⟨rfl, HC3.out.bel⟩
   | some u =>
    obtain rfl := HT.out u hlo
    simp only [Option.isSome_some]
    repeat (first | (refine ts_take (v := .agg fn.cs.toArray) rfl rfl (fun w' hw' => exec_load (lies_sub (o := 1) hw'.1 fn.cs rfl) _ rfl rfl Tryz.underlying51 rfl sizeFt) ?_; (try simp only [Act.put, sA, sB, sC])) | (refine ts_take (v := .agg c.cs.toArray) rfl rfl (fun w' hw' => exec_load (lies_sub (o := 3) hw'.1 c.cs rfl) _ rfl rfl Tryz.underlying48 rfl sizeCod) ?_; (try simp only [Act.put, sA, sB, sC])) | (refine ts_take (v := ?_) rfl rfl (fun w' hw' => ?_) ?_; rotate_left; (focus (have q0 := hw'.2; clear hw'; (try simp only [Act.put, sA, sB, sC]); go_simp; (try go_bits); (try (with_reducible rfl)))); (try simp only [Act.put, sA, sB, sC])))
    have hltB := HX3.out.lt
    refine ts_done ?_
    have k5 : w3.cell? ⟨kb, 5, none⟩ = some (.pointer (some ⟨sb, 0, none⟩)) := HC3.out.cell.cell 5
    have x0 : w3.cell? ⟨B3, 0, none⟩ = some (.int .u8 x.op.toNat) := HX3.out.cell 0
    have x1 : w3.cell? ⟨B3, 1, none⟩ = some (.int .u32 x.a) := HX3.out.cell 1
    go_wp2_with fail
    clear hltB
    obtain ⟨w4, hw4⟩ : ∃ w4, w4 = w3.alloc (.cells #[.int .u8 t.toNat] 5) := ⟨_, rfl⟩
    have hb4 : Below w3.heap.size w3 w4 := hw4 ▸ (Below.refl _ _).alloc (Nat.le_refl _) _
    have HU := zh (show Sl w4 1 u8c (.slice (some ⟨w3.heap.size, 0, none⟩) 1 1) [t] by rw [hw4]; exact sl_one (Lies.new w3 _ _))
    rw [← hw4]
    clear hw4
    have HC4 := zh (HC3.out.later hb4)
    have HX4 := zh (HX3.out.below hb4 HX3.out.lt)
    clear k5 x0 x1 hb4
    have k5 : w4.cell? ⟨kb, 5, none⟩ = some (.pointer (some ⟨sb, 0, none⟩)) := HC4.out.cell.cell 5
    have x0 : w4.cell? ⟨B3, 0, none⟩ = some (.int .u8 x.op.toNat) := HX4.out.cell 0
    have x1 : w4.cell? ⟨B3, 1, none⟩ = some (.int .u32 x.a) := HX4.out.cell 1
    refine (takes_any HC4.out HS.out (ps := [t]) (rs := [t]) HU.out HU.out (by simp) (by simp)).mono ?_
    intro en wt ht
    obtain ⟨n, rfl⟩ := ht.form
    replace ht := zh ht
    go_wp2_with fail
    go_ret
    unfold stepLocal
    rw [hlo]
    simp only [if_neg h32, if_neg h33]
    exact ht.out
set_option maxRecDepth 100000 in
set_option maxHeartbeats 8000000 in
theorem global_any {W0 w : World} {S0 kb sb : Nat} {fn : Ft} {c : Cod} {lv fv ov : Value} {FV : List Fv} {s : St} {x : Ins} (h : Ck W0 w S0 fn c kb sb lv fv ov FV s) (hs : Sm s) (hx : InsOk W0 x) {m : Mod} {GS : List Gt} {BS MS : List Lim} (hsp : SpG W0 S0 m GS BS MS) :
  Calls Tryz.prog 102 #[.pointer (some ⟨kb, 0, none⟩), .agg x.cs.toArray] w fun e w' => StepSays W0 S0 fn c kb sb w' e (stepGlobal ⟨spcOf m GS BS MS, fn, c⟩ s x) := by
 have HC := zh h
 have HS := zh hs
 have HX := zh hx
 have HSP := zh hsp
 have hxa : x.a < 4294967296 := hx.1
 clear h hs hx hsp
 cases hg : GS[x.a]? with
 | none =>
  have HE := zh hg
  clear hg
  go_enter Tryz.func102, Tryz.ntmps102
  go_wp2_with (refine wl_box x.cs _ rfl rfl rfl (fun w1 hb1 hl1 => ?_); have HC1 := zh (HC.out.later hb1); have HX1 := zh hl1; have HB1 := zh hb1; obtain ⟨B3, hB3⟩ : ∃ B3, B3 = w.heap.size := ⟨_, rfl⟩; rw [← hB3] at HX1 ⊢; clear hB3 hb1 hl1; have k0 : w1.cell? ⟨kb, 0, none⟩ = some (.pointer (some ⟨S0, 0, none⟩)) := HC1.out.cell.cell 0; have k5 : w1.cell? ⟨kb, 5, none⟩ = some (.pointer (some ⟨sb, 0, none⟩)) := HC1.out.cell.cell 5; have x0 : w1.cell? ⟨B3, 0, none⟩ = some (.int .u8 x.op.toNat) := HX1.out.cell 0; have x1 : w1.cell? ⟨B3, 1, none⟩ = some (.int .u32 x.a) := HX1.out.cell 1; (try simp only [Act.put, sA, sB, sC]))
  have hd2 := below_drew w1
  have HC2 := zh (HC1.out.later hd2)
  have HX2 := zh (HX1.out.below hd2 HX1.out.lt)
  refine RP.region (RP.take 0 (RP.take 1 (RP.take 2 (RP.take 3 (RP.take 4 (RP.take 5 (RP.fork 6 10 (RP.take 7 (RP.take 8 (RP.take 9 (RP.run 10 (RP.run 11 (RP.take 12 RP.done)))))) (RP.run 6 (RP.take 7 (RP.take 8 (RP.take 9 (RP.run 11 (RP.take 12 RP.done))))))))))))) (fun w' => w'.cell? ⟨kb, 0, none⟩ = some (.pointer (some ⟨S0, 0, none⟩)) ∧ w'.cell? ⟨kb, 5, none⟩ = some (.pointer (some ⟨sb, 0, none⟩)) ∧ w'.cell? ⟨B3, 0, none⟩ = some (.int .u8 x.op.toNat) ∧ w'.cell? ⟨B3, 1, none⟩ = some (.int .u32 x.a)) (by kernel_rfl) (by kernel_rfl) (fun _ _ d _ _ h => by cases d <;> exact h) ⟨(HC2.out.cell.cell 0), (HC2.out.cell.cell 5), (HX2.out.cell 0), (HX2.out.cell 1)⟩ (fun _ => ?_)
  clear k0 k5 x0 x1 hd2
  generalize w1.drew = w2 at HC2 HX2 ⊢
  repeat (first | (refine RP.t_take (v := ?_) rfl rfl (fun w' hw' => ?_) ?_; rotate_left; (focus (obtain ⟨q0, q1, q2, q3⟩ := hw'; (try simp only [Act.put, sA, sB, sC]); go_simp; (try go_bits); (try (with_reducible rfl)))); (try simp only [Act.put, sA, sB, sC])) | (refine RP.t_skip rfl rfl ?_; (try simp only [Act.put, sA, sB, sC])))
  refine RP.t_fork rfl rfl (fun K hK => ?_) (fun K hK => ?_)
  ·go_simp
   refine (glob_any (HSP.out.later HC2.out.bel) hxa).mono ?_
   rintro en wa ⟨rfl, hya⟩
   simp only [HE.out, gtC, Option.isSome_none]
   refine hK.out _ _ ⟨((HC2.out.later hya).cell.cell 0), ((HC2.out.later hya).cell.cell 5), ((HX2.out.below hya HX2.out.lt).cell 0), ((HX2.out.below hya HX2.out.lt).cell 1)⟩ ?_
   clear hK K
   (try simp only [Act.put, sA, sB, sC])
   repeat (first | (refine RP.t_take (v := ?_) rfl rfl (fun w' hw' => ?_) ?_; rotate_left; (focus (obtain ⟨q0, q1, q2, q3⟩ := hw'; (try simp only [Act.put, sA, sB, sC]); go_simp; (try go_bits); (try (with_reducible rfl)))); (try simp only [Act.put, sA, sB, sC])) | (refine RP.t_skip rfl rfl ?_; (try simp only [Act.put, sA, sB, sC])))
   refine RP.t_run rfl (fun K hK => ?_)
   go_simp
   obtain ⟨wb, hwn⟩ : ∃ wb, wb = wa.alloc (.cells #[.int .u8 0, .bool false] 78) := ⟨_, rfl⟩
   have hal : Below wa.heap.size wa wb := hwn ▸ (Below.refl _ _).alloc (Nat.le_refl _) _
   have hyb := bt hya hal
   have HN := zh (show Lies wb wa.heap.size 78 #[.int .u8 0, .bool false] from hwn ▸ Lies.new _ _ _)
   rw [← hwn]
   clear hwn
   obtain ⟨Bn, hBn⟩ : ∃ Bn, Bn = wa.heap.size := ⟨_, rfl⟩
   rw [← hBn] at HN ⊢
   have hBw : w2.heap.size ≤ Bn := by rw [hBn]; exact hya.size
   clear hBn
   refine hK.out _ _ ⟨((HC2.out.later hyb).cell.cell 0), ((HC2.out.later hyb).cell.cell 5), ((HX2.out.below hyb HX2.out.lt).cell 0), ((HX2.out.below hyb HX2.out.lt).cell 1)⟩ ?_
   clear hK K
   (try simp only [Act.put, sA, sB, sC])
   refine RP.t_run rfl (fun K hK => ?_)
   refine ite_of rfl ?_
   refine wp_put HN.out nilgt _ _ rfl rfl rfl rfl sizeGt (by simp [nilgt, Value.oneCell']) (fun w3 hlc hfc => ?_)
   have hyc := hyb.trans (hfc.below hyb.size (fun k hk => by omega))
   refine hK.out _ _ ⟨((HC2.out.later hyc).cell.cell 0), ((HC2.out.later hyc).cell.cell 5), ((HX2.out.below hyc HX2.out.lt).cell 0), ((HX2.out.below hyc HX2.out.lt).cell 1)⟩ ?_
   clear hK K
   (try simp only [Act.put])
   repeat (first | (refine RP.t_take (v := ?_) rfl rfl (fun w' hw' => ?_) ?_; rotate_left; (focus (obtain ⟨q0, q1, q2, q3⟩ := hw'; (try simp only [Act.put, sA, sB, sC]); go_simp; (try go_bits); (try (with_reducible rfl)))); (try simp only [Act.put, sA, sB, sC])) | (refine RP.t_skip rfl rfl ?_; (try simp only [Act.put, sA, sB, sC])))
   refine RP.t_done ?_
   have HN3 := zh hlc
   clear hlc hfc
   have HC3 := zh (HC2.out.later hyc)
   have HX3 := zh (HX2.out.below hyc HX2.out.lt)
   clear hyc
   have k0 : w3.cell? ⟨kb, 0, none⟩ = some (.pointer (some ⟨S0, 0, none⟩)) := HC3.out.cell.cell 0
   have k5 : w3.cell? ⟨kb, 5, none⟩ = some (.pointer (some ⟨sb, 0, none⟩)) := HC3.out.cell.cell 5
   have x0 : w3.cell? ⟨B3, 0, none⟩ = some (.int .u8 x.op.toNat) := HX3.out.cell 0
   have x1 : w3.cell? ⟨B3, 1, none⟩ = some (.int .u32 x.a) := HX3.out.cell 1
   have n0 : w3.cell? ⟨Bn, 0, none⟩ = some (.int .u8 0) := HN3.out.cell 0
   have n1 : w3.cell? ⟨Bn, 1, none⟩ = some (.bool false) := HN3.out.cell 1
   go_wp2_with fail
   go_ret
   unfold stepGlobal
   rw [show (spcOf m GS BS MS).glob x.a = none from HE.out]
   exact ⟨rfl, HC3.out.bel⟩
  ·go_simp
   obtain ⟨wa, hwn⟩ : ∃ wa, wa = w2.alloc (.cells #[.int .u8 0, .bool false] 78) := ⟨_, rfl⟩
   have hal : Below w2.heap.size w2 wa := hwn ▸ (Below.refl _ _).alloc (Nat.le_refl _) _
   have hya := hal
   have HN := zh (show Lies wa w2.heap.size 78 #[.int .u8 0, .bool false] from hwn ▸ Lies.new _ _ _)
   rw [← hwn]
   clear hwn
   obtain ⟨Bn, hBn⟩ : ∃ Bn, Bn = w2.heap.size := ⟨_, rfl⟩
   rw [← hBn] at HN ⊢
   have hBw : w2.heap.size ≤ Bn := by rw [hBn]; exact Nat.le_refl _
   clear hBn
   refine hK.out _ _ ⟨((HC2.out.later hya).cell.cell 0), ((HC2.out.later hya).cell.cell 5), ((HX2.out.below hya HX2.out.lt).cell 0), ((HX2.out.below hya HX2.out.lt).cell 1)⟩ ?_
   clear hK K
   (try simp only [Act.put, sA, sB, sC])
   refine RP.t_run rfl (fun K hK => ?_)
   go_simp
   refine (glob_any (HSP.out.later (HC2.out.later hya).bel) hxa).mono ?_
   rintro en wb ⟨rfl, hbb⟩
   have hyb := bt hya hbb
   replace HN := zh (HN.out.below hbb HN.out.lt)
   simp only [HE.out, gtC, Option.isSome_none]
   refine hK.out _ _ ⟨((HC2.out.later hyb).cell.cell 0), ((HC2.out.later hyb).cell.cell 5), ((HX2.out.below hyb HX2.out.lt).cell 0), ((HX2.out.below hyb HX2.out.lt).cell 1)⟩ ?_
   clear hK K
   (try simp only [Act.put, sA, sB, sC])
   repeat (first | (refine RP.t_take (v := ?_) rfl rfl (fun w' hw' => ?_) ?_; rotate_left; (focus (obtain ⟨q0, q1, q2, q3⟩ := hw'; (try simp only [Act.put, sA, sB, sC]); go_simp; (try go_bits); (try (with_reducible rfl)))); (try simp only [Act.put, sA, sB, sC])) | (refine RP.t_skip rfl rfl ?_; (try simp only [Act.put, sA, sB, sC])))
   refine RP.t_run rfl (fun K hK => ?_)
   refine ite_of rfl ?_
   refine wp_put HN.out nilgt _ _ rfl rfl rfl rfl sizeGt (by simp [nilgt, Value.oneCell']) (fun w3 hlc hfc => ?_)
   have hyc := hyb.trans (hfc.below hyb.size (fun k hk => by omega))
   refine hK.out _ _ ⟨((HC2.out.later hyc).cell.cell 0), ((HC2.out.later hyc).cell.cell 5), ((HX2.out.below hyc HX2.out.lt).cell 0), ((HX2.out.below hyc HX2.out.lt).cell 1)⟩ ?_
   clear hK K
   (try simp only [Act.put])
   repeat (first | (refine RP.t_take (v := ?_) rfl rfl (fun w' hw' => ?_) ?_; rotate_left; (focus (obtain ⟨q0, q1, q2, q3⟩ := hw'; (try simp only [Act.put, sA, sB, sC]); go_simp; (try go_bits); (try (with_reducible rfl)))); (try simp only [Act.put, sA, sB, sC])) | (refine RP.t_skip rfl rfl ?_; (try simp only [Act.put, sA, sB, sC])))
   refine RP.t_done ?_
   have HN3 := zh hlc
   clear hlc hfc
   have HC3 := zh (HC2.out.later hyc)
   have HX3 := zh (HX2.out.below hyc HX2.out.lt)
   clear hyc
   have k0 : w3.cell? ⟨kb, 0, none⟩ = some (.pointer (some ⟨S0, 0, none⟩)) := HC3.out.cell.cell 0
   have k5 : w3.cell? ⟨kb, 5, none⟩ = some (.pointer (some ⟨sb, 0, none⟩)) := HC3.out.cell.cell 5
   have x0 : w3.cell? ⟨B3, 0, none⟩ = some (.int .u8 x.op.toNat) := HX3.out.cell 0
   have x1 : w3.cell? ⟨B3, 1, none⟩ = some (.int .u32 x.a) := HX3.out.cell 1
   have n0 : w3.cell? ⟨Bn, 0, none⟩ = some (.int .u8 0) := HN3.out.cell 0
   have n1 : w3.cell? ⟨Bn, 1, none⟩ = some (.bool false) := HN3.out.cell 1
   go_wp2_with fail
   go_ret
   unfold stepGlobal
   rw [show (spcOf m GS BS MS).glob x.a = none from HE.out]
   exact ⟨rfl, HC3.out.bel⟩
 | some g =>
  have HE := zh hg
  clear hg
  by_cases h35 : x.op = 35
  ·have e35 : ((x.op.toNat : Int) == 35) = true := by rw [h35]; rfl
   go_enter Tryz.func102, Tryz.ntmps102
   go_wp2_with (refine wl_box x.cs _ rfl rfl rfl (fun w1 hb1 hl1 => ?_); have HC1 := zh (HC.out.later hb1); have HX1 := zh hl1; have HB1 := zh hb1; obtain ⟨B3, hB3⟩ : ∃ B3, B3 = w.heap.size := ⟨_, rfl⟩; rw [← hB3] at HX1 ⊢; clear hB3 hb1 hl1; have k0 : w1.cell? ⟨kb, 0, none⟩ = some (.pointer (some ⟨S0, 0, none⟩)) := HC1.out.cell.cell 0; have k5 : w1.cell? ⟨kb, 5, none⟩ = some (.pointer (some ⟨sb, 0, none⟩)) := HC1.out.cell.cell 5; have x0 : w1.cell? ⟨B3, 0, none⟩ = some (.int .u8 x.op.toNat) := HX1.out.cell 0; have x1 : w1.cell? ⟨B3, 1, none⟩ = some (.int .u32 x.a) := HX1.out.cell 1; (try simp only [Act.put, sA, sB, sC]))
   have hd2 := below_drew w1
   have HC2 := zh (HC1.out.later hd2)
   have HX2 := zh (HX1.out.below hd2 HX1.out.lt)
   refine RP.region (RP.take 0 (RP.take 1 (RP.take 2 (RP.take 3 (RP.take 4 (RP.take 5 (RP.fork 6 10 (RP.take 7 (RP.take 8 (RP.take 9 (RP.run 10 (RP.run 11 (RP.take 12 RP.done)))))) (RP.run 6 (RP.take 7 (RP.take 8 (RP.take 9 (RP.run 11 (RP.take 12 RP.done))))))))))))) (fun w' => w'.cell? ⟨kb, 0, none⟩ = some (.pointer (some ⟨S0, 0, none⟩)) ∧ w'.cell? ⟨kb, 5, none⟩ = some (.pointer (some ⟨sb, 0, none⟩)) ∧ w'.cell? ⟨B3, 0, none⟩ = some (.int .u8 x.op.toNat) ∧ w'.cell? ⟨B3, 1, none⟩ = some (.int .u32 x.a)) (by kernel_rfl) (by kernel_rfl) (fun _ _ d _ _ h => by cases d <;> exact h) ⟨(HC2.out.cell.cell 0), (HC2.out.cell.cell 5), (HX2.out.cell 0), (HX2.out.cell 1)⟩ (fun _ => ?_)
   clear k0 k5 x0 x1 hd2
   generalize w1.drew = w2 at HC2 HX2 ⊢
   repeat (first | (refine RP.t_take (v := ?_) rfl rfl (fun w' hw' => ?_) ?_; rotate_left; (focus (obtain ⟨q0, q1, q2, q3⟩ := hw'; (try simp only [Act.put, sA, sB, sC]); go_simp; (try go_bits); (try (with_reducible rfl)))); (try simp only [Act.put, sA, sB, sC])) | (refine RP.t_skip rfl rfl ?_; (try simp only [Act.put, sA, sB, sC])))
   refine RP.t_fork rfl rfl (fun K hK => ?_) (fun K hK => ?_)
   ·go_simp
    refine (glob_any (HSP.out.later HC2.out.bel) hxa).mono ?_
    rintro en wa ⟨rfl, hya⟩
    simp only [HE.out, gtC, Option.isSome_some]
    refine hK.out _ _ ⟨((HC2.out.later hya).cell.cell 0), ((HC2.out.later hya).cell.cell 5), ((HX2.out.below hya HX2.out.lt).cell 0), ((HX2.out.below hya HX2.out.lt).cell 1)⟩ ?_
    clear hK K
    (try simp only [Act.put, sA, sB, sC])
    repeat (first | (refine RP.t_take (v := ?_) rfl rfl (fun w' hw' => ?_) ?_; rotate_left; (focus (obtain ⟨q0, q1, q2, q3⟩ := hw'; (try simp only [Act.put, sA, sB, sC]); go_simp; (try go_bits); (try (with_reducible rfl)))); (try simp only [Act.put, sA, sB, sC])) | (refine RP.t_skip rfl rfl ?_; (try simp only [Act.put, sA, sB, sC])))
    refine RP.t_run rfl (fun K hK => ?_)
    go_simp
    obtain ⟨wb, hwn⟩ : ∃ wb, wb = wa.alloc (.cells #[.int .u8 0, .bool false] 78) := ⟨_, rfl⟩
    have hal : Below wa.heap.size wa wb := hwn ▸ (Below.refl _ _).alloc (Nat.le_refl _) _
    have hyb := bt hya hal
    have HN := zh (show Lies wb wa.heap.size 78 #[.int .u8 0, .bool false] from hwn ▸ Lies.new _ _ _)
    rw [← hwn]
    clear hwn
    obtain ⟨Bn, hBn⟩ : ∃ Bn, Bn = wa.heap.size := ⟨_, rfl⟩
    rw [← hBn] at HN ⊢
    have hBw : w2.heap.size ≤ Bn := by rw [hBn]; exact hya.size
    clear hBn
    refine hK.out _ _ ⟨((HC2.out.later hyb).cell.cell 0), ((HC2.out.later hyb).cell.cell 5), ((HX2.out.below hyb HX2.out.lt).cell 0), ((HX2.out.below hyb HX2.out.lt).cell 1)⟩ ?_
    clear hK K
    (try simp only [Act.put, sA, sB, sC])
    refine RP.t_run rfl (fun K hK => ?_)
    refine ite_of rfl ?_
    refine wp_put HN.out g.cs _ _ rfl rfl rfl rfl sizeGt (by simp [Gt.cs, Value.oneCell']) (fun w3 hlc hfc => ?_)
    have hyc := hyb.trans (hfc.below hyb.size (fun k hk => by omega))
    refine hK.out _ _ ⟨((HC2.out.later hyc).cell.cell 0), ((HC2.out.later hyc).cell.cell 5), ((HX2.out.below hyc HX2.out.lt).cell 0), ((HX2.out.below hyc HX2.out.lt).cell 1)⟩ ?_
    clear hK K
    (try simp only [Act.put])
    repeat (first | (refine RP.t_take (v := ?_) rfl rfl (fun w' hw' => ?_) ?_; rotate_left; (focus (obtain ⟨q0, q1, q2, q3⟩ := hw'; (try simp only [Act.put, sA, sB, sC]); go_simp; (try go_bits); (try (with_reducible rfl)))); (try simp only [Act.put, sA, sB, sC])) | (refine RP.t_skip rfl rfl ?_; (try simp only [Act.put, sA, sB, sC])))
    refine RP.t_done ?_
    have HN3 := zh hlc
    clear hlc hfc
    have HC3 := zh (HC2.out.later hyc)
    have HX3 := zh (HX2.out.below hyc HX2.out.lt)
    clear hyc
    have k0 : w3.cell? ⟨kb, 0, none⟩ = some (.pointer (some ⟨S0, 0, none⟩)) := HC3.out.cell.cell 0
    have k5 : w3.cell? ⟨kb, 5, none⟩ = some (.pointer (some ⟨sb, 0, none⟩)) := HC3.out.cell.cell 5
    have x0 : w3.cell? ⟨B3, 0, none⟩ = some (.int .u8 x.op.toNat) := HX3.out.cell 0
    have x1 : w3.cell? ⟨B3, 1, none⟩ = some (.int .u32 x.a) := HX3.out.cell 1
    have n0 : w3.cell? ⟨Bn, 0, none⟩ = some (.int .u8 g.t.toNat) := HN3.out.cell 0
    have n1 : w3.cell? ⟨Bn, 1, none⟩ = some (.bool g.m) := HN3.out.cell 1
    go_wp2_with fail
    obtain ⟨w4, hw4⟩ : ∃ w4, w4 = w3.alloc (.cells #[.int .u8 g.t.toNat] 5) := ⟨_, rfl⟩
    have hb4 : Below w3.heap.size w3 w4 := hw4 ▸ (Below.refl _ _).alloc (Nat.le_refl _) _
    have HU := zh (show Sl w4 1 u8c (.slice (some ⟨w3.heap.size, 0, none⟩) 1 1) [g.t] by rw [hw4]; exact sl_one (Lies.new w3 _ _))
    rw [← hw4]
    clear hw4 n0 n1
    have HC4 := zh (HC3.out.later hb4)
    have HX4 := zh (HX3.out.below hb4 HX3.out.lt)
    clear k0 k5 x0 x1 hb4
    have k0 : w4.cell? ⟨kb, 0, none⟩ = some (.pointer (some ⟨S0, 0, none⟩)) := HC4.out.cell.cell 0
    have k5 : w4.cell? ⟨kb, 5, none⟩ = some (.pointer (some ⟨sb, 0, none⟩)) := HC4.out.cell.cell 5
    have x0 : w4.cell? ⟨B3, 0, none⟩ = some (.int .u8 x.op.toNat) := HX4.out.cell 0
    have x1 : w4.cell? ⟨B3, 1, none⟩ = some (.int .u32 x.a) := HX4.out.cell 1
    refine (takes_any HC4.out HS.out (ps := []) (rs := [g.t]) (Sl.nil _ _ _ _) HU.out (by simp) (by simp)).mono ?_
    intro en wt ht
    obtain ⟨n, rfl⟩ := ht.form
    replace ht := zh ht
    go_wp2_with fail
    go_ret
    unfold stepGlobal
    rw [show (spcOf m GS BS MS).glob x.a = some g from HE.out]
    simp only [if_pos h35]
    exact ht.out
   ·go_simp
    obtain ⟨wa, hwn⟩ : ∃ wa, wa = w2.alloc (.cells #[.int .u8 0, .bool false] 78) := ⟨_, rfl⟩
    have hal : Below w2.heap.size w2 wa := hwn ▸ (Below.refl _ _).alloc (Nat.le_refl _) _
    have hya := hal
    have HN := zh (show Lies wa w2.heap.size 78 #[.int .u8 0, .bool false] from hwn ▸ Lies.new _ _ _)
    rw [← hwn]
    clear hwn
    obtain ⟨Bn, hBn⟩ : ∃ Bn, Bn = w2.heap.size := ⟨_, rfl⟩
    rw [← hBn] at HN ⊢
    have hBw : w2.heap.size ≤ Bn := by rw [hBn]; exact Nat.le_refl _
    clear hBn
    refine hK.out _ _ ⟨((HC2.out.later hya).cell.cell 0), ((HC2.out.later hya).cell.cell 5), ((HX2.out.below hya HX2.out.lt).cell 0), ((HX2.out.below hya HX2.out.lt).cell 1)⟩ ?_
    clear hK K
    (try simp only [Act.put, sA, sB, sC])
    refine RP.t_run rfl (fun K hK => ?_)
    go_simp
    refine (glob_any (HSP.out.later (HC2.out.later hya).bel) hxa).mono ?_
    rintro en wb ⟨rfl, hbb⟩
    have hyb := bt hya hbb
    replace HN := zh (HN.out.below hbb HN.out.lt)
    simp only [HE.out, gtC, Option.isSome_some]
    refine hK.out _ _ ⟨((HC2.out.later hyb).cell.cell 0), ((HC2.out.later hyb).cell.cell 5), ((HX2.out.below hyb HX2.out.lt).cell 0), ((HX2.out.below hyb HX2.out.lt).cell 1)⟩ ?_
    clear hK K
    (try simp only [Act.put, sA, sB, sC])
    repeat (first | (refine RP.t_take (v := ?_) rfl rfl (fun w' hw' => ?_) ?_; rotate_left; (focus (obtain ⟨q0, q1, q2, q3⟩ := hw'; (try simp only [Act.put, sA, sB, sC]); go_simp; (try go_bits); (try (with_reducible rfl)))); (try simp only [Act.put, sA, sB, sC])) | (refine RP.t_skip rfl rfl ?_; (try simp only [Act.put, sA, sB, sC])))
    refine RP.t_run rfl (fun K hK => ?_)
    refine ite_of rfl ?_
    refine wp_put HN.out g.cs _ _ rfl rfl rfl rfl sizeGt (by simp [Gt.cs, Value.oneCell']) (fun w3 hlc hfc => ?_)
    have hyc := hyb.trans (hfc.below hyb.size (fun k hk => by omega))
    refine hK.out _ _ ⟨((HC2.out.later hyc).cell.cell 0), ((HC2.out.later hyc).cell.cell 5), ((HX2.out.below hyc HX2.out.lt).cell 0), ((HX2.out.below hyc HX2.out.lt).cell 1)⟩ ?_
    clear hK K
    (try simp only [Act.put])
    repeat (first | (refine RP.t_take (v := ?_) rfl rfl (fun w' hw' => ?_) ?_; rotate_left; (focus (obtain ⟨q0, q1, q2, q3⟩ := hw'; (try simp only [Act.put, sA, sB, sC]); go_simp; (try go_bits); (try (with_reducible rfl)))); (try simp only [Act.put, sA, sB, sC])) | (refine RP.t_skip rfl rfl ?_; (try simp only [Act.put, sA, sB, sC])))
    refine RP.t_done ?_
    have HN3 := zh hlc
    clear hlc hfc
    have HC3 := zh (HC2.out.later hyc)
    have HX3 := zh (HX2.out.below hyc HX2.out.lt)
    clear hyc
    have k0 : w3.cell? ⟨kb, 0, none⟩ = some (.pointer (some ⟨S0, 0, none⟩)) := HC3.out.cell.cell 0
    have k5 : w3.cell? ⟨kb, 5, none⟩ = some (.pointer (some ⟨sb, 0, none⟩)) := HC3.out.cell.cell 5
    have x0 : w3.cell? ⟨B3, 0, none⟩ = some (.int .u8 x.op.toNat) := HX3.out.cell 0
    have x1 : w3.cell? ⟨B3, 1, none⟩ = some (.int .u32 x.a) := HX3.out.cell 1
    have n0 : w3.cell? ⟨Bn, 0, none⟩ = some (.int .u8 g.t.toNat) := HN3.out.cell 0
    have n1 : w3.cell? ⟨Bn, 1, none⟩ = some (.bool g.m) := HN3.out.cell 1
    go_wp2_with fail
    obtain ⟨w4, hw4⟩ : ∃ w4, w4 = w3.alloc (.cells #[.int .u8 g.t.toNat] 5) := ⟨_, rfl⟩
    have hb4 : Below w3.heap.size w3 w4 := hw4 ▸ (Below.refl _ _).alloc (Nat.le_refl _) _
    have HU := zh (show Sl w4 1 u8c (.slice (some ⟨w3.heap.size, 0, none⟩) 1 1) [g.t] by rw [hw4]; exact sl_one (Lies.new w3 _ _))
    rw [← hw4]
    clear hw4 n0 n1
    have HC4 := zh (HC3.out.later hb4)
    have HX4 := zh (HX3.out.below hb4 HX3.out.lt)
    clear k0 k5 x0 x1 hb4
    have k0 : w4.cell? ⟨kb, 0, none⟩ = some (.pointer (some ⟨S0, 0, none⟩)) := HC4.out.cell.cell 0
    have k5 : w4.cell? ⟨kb, 5, none⟩ = some (.pointer (some ⟨sb, 0, none⟩)) := HC4.out.cell.cell 5
    have x0 : w4.cell? ⟨B3, 0, none⟩ = some (.int .u8 x.op.toNat) := HX4.out.cell 0
    have x1 : w4.cell? ⟨B3, 1, none⟩ = some (.int .u32 x.a) := HX4.out.cell 1
    refine (takes_any HC4.out HS.out (ps := []) (rs := [g.t]) (Sl.nil _ _ _ _) HU.out (by simp) (by simp)).mono ?_
    intro en wt ht
    obtain ⟨n, rfl⟩ := ht.form
    replace ht := zh ht
    go_wp2_with fail
    go_ret
    unfold stepGlobal
    rw [show (spcOf m GS BS MS).glob x.a = some g from HE.out]
    simp only [if_pos h35]
    exact ht.out
  ·have e35 : ((x.op.toNat : Int) == 35) = false := opne h35
   cases hgm : g.m with
   | false =>
    have HGM := zh hgm
    go_enter Tryz.func102, Tryz.ntmps102
    go_wp2_with (refine wl_box x.cs _ rfl rfl rfl (fun w1 hb1 hl1 => ?_); have HC1 := zh (HC.out.later hb1); have HX1 := zh hl1; have HB1 := zh hb1; obtain ⟨B3, hB3⟩ : ∃ B3, B3 = w.heap.size := ⟨_, rfl⟩; rw [← hB3] at HX1 ⊢; clear hB3 hb1 hl1; have k0 : w1.cell? ⟨kb, 0, none⟩ = some (.pointer (some ⟨S0, 0, none⟩)) := HC1.out.cell.cell 0; have k5 : w1.cell? ⟨kb, 5, none⟩ = some (.pointer (some ⟨sb, 0, none⟩)) := HC1.out.cell.cell 5; have x0 : w1.cell? ⟨B3, 0, none⟩ = some (.int .u8 x.op.toNat) := HX1.out.cell 0; have x1 : w1.cell? ⟨B3, 1, none⟩ = some (.int .u32 x.a) := HX1.out.cell 1; (try simp only [Act.put, sA, sB, sC]))
    have hd2 := below_drew w1
    have HC2 := zh (HC1.out.later hd2)
    have HX2 := zh (HX1.out.below hd2 HX1.out.lt)
    refine RP.region (RP.take 0 (RP.take 1 (RP.take 2 (RP.take 3 (RP.take 4 (RP.take 5 (RP.fork 6 10 (RP.take 7 (RP.take 8 (RP.take 9 (RP.run 10 (RP.run 11 (RP.take 12 RP.done)))))) (RP.run 6 (RP.take 7 (RP.take 8 (RP.take 9 (RP.run 11 (RP.take 12 RP.done))))))))))))) (fun w' => w'.cell? ⟨kb, 0, none⟩ = some (.pointer (some ⟨S0, 0, none⟩)) ∧ w'.cell? ⟨kb, 5, none⟩ = some (.pointer (some ⟨sb, 0, none⟩)) ∧ w'.cell? ⟨B3, 0, none⟩ = some (.int .u8 x.op.toNat) ∧ w'.cell? ⟨B3, 1, none⟩ = some (.int .u32 x.a)) (by kernel_rfl) (by kernel_rfl) (fun _ _ d _ _ h => by cases d <;> exact h) ⟨(HC2.out.cell.cell 0), (HC2.out.cell.cell 5), (HX2.out.cell 0), (HX2.out.cell 1)⟩ (fun _ => ?_)
    clear k0 k5 x0 x1 hd2
    generalize w1.drew = w2 at HC2 HX2 ⊢
    repeat (first | (refine RP.t_take (v := ?_) rfl rfl (fun w' hw' => ?_) ?_; rotate_left; (focus (obtain ⟨q0, q1, q2, q3⟩ := hw'; (try simp only [Act.put, sA, sB, sC]); go_simp; (try go_bits); (try (with_reducible rfl)))); (try simp only [Act.put, sA, sB, sC])) | (refine RP.t_skip rfl rfl ?_; (try simp only [Act.put, sA, sB, sC])))
    refine RP.t_fork rfl rfl (fun K hK => ?_) (fun K hK => ?_)
    ·go_simp
     refine (glob_any (HSP.out.later HC2.out.bel) hxa).mono ?_
     rintro en wa ⟨rfl, hya⟩
     simp only [HE.out, gtC, Option.isSome_some]
     refine hK.out _ _ ⟨((HC2.out.later hya).cell.cell 0), ((HC2.out.later hya).cell.cell 5), ((HX2.out.below hya HX2.out.lt).cell 0), ((HX2.out.below hya HX2.out.lt).cell 1)⟩ ?_
     clear hK K
     (try simp only [Act.put, sA, sB, sC])
     repeat (first | (refine RP.t_take (v := ?_) rfl rfl (fun w' hw' => ?_) ?_; rotate_left; (focus (obtain ⟨q0, q1, q2, q3⟩ := hw'; (try simp only [Act.put, sA, sB, sC]); go_simp; (try go_bits); (try (with_reducible rfl)))); (try simp only [Act.put, sA, sB, sC])) | (refine RP.t_skip rfl rfl ?_; (try simp only [Act.put, sA, sB, sC])))
     refine RP.t_run rfl (fun K hK => ?_)
     go_simp
     obtain ⟨wb, hwn⟩ : ∃ wb, wb = wa.alloc (.cells #[.int .u8 0, .bool false] 78) := ⟨_, rfl⟩
     have hal : Below wa.heap.size wa wb := hwn ▸ (Below.refl _ _).alloc (Nat.le_refl _) _
     have hyb := bt hya hal
     have HN := zh (show Lies wb wa.heap.size 78 #[.int .u8 0, .bool false] from hwn ▸ Lies.new _ _ _)
     rw [← hwn]
     clear hwn
     obtain ⟨Bn, hBn⟩ : ∃ Bn, Bn = wa.heap.size := ⟨_, rfl⟩
     rw [← hBn] at HN ⊢
     have hBw : w2.heap.size ≤ Bn := by rw [hBn]; exact hya.size
     clear hBn
     refine hK.out _ _ ⟨((HC2.out.later hyb).cell.cell 0), ((HC2.out.later hyb).cell.cell 5), ((HX2.out.below hyb HX2.out.lt).cell 0), ((HX2.out.below hyb HX2.out.lt).cell 1)⟩ ?_
     clear hK K
     (try simp only [Act.put, sA, sB, sC])
     refine RP.t_run rfl (fun K hK => ?_)
     refine ite_of rfl ?_
     refine wp_put HN.out g.cs _ _ rfl rfl rfl rfl sizeGt (by simp [Gt.cs, Value.oneCell']) (fun w3 hlc hfc => ?_)
     have hyc := hyb.trans (hfc.below hyb.size (fun k hk => by omega))
     refine hK.out _ _ ⟨((HC2.out.later hyc).cell.cell 0), ((HC2.out.later hyc).cell.cell 5), ((HX2.out.below hyc HX2.out.lt).cell 0), ((HX2.out.below hyc HX2.out.lt).cell 1)⟩ ?_
     clear hK K
     (try simp only [Act.put])
     repeat (first | (refine RP.t_take (v := ?_) rfl rfl (fun w' hw' => ?_) ?_; rotate_left; (focus (obtain ⟨q0, q1, q2, q3⟩ := hw'; (try simp only [Act.put, sA, sB, sC]); go_simp; (try go_bits); (try (with_reducible rfl)))); (try simp only [Act.put, sA, sB, sC])) | (refine RP.t_skip rfl rfl ?_; (try simp only [Act.put, sA, sB, sC])))
     refine RP.t_done ?_
     have HN3 := zh hlc
     clear hlc hfc
     have HC3 := zh (HC2.out.later hyc)
     have HX3 := zh (HX2.out.below hyc HX2.out.lt)
     clear hyc
     have k0 : w3.cell? ⟨kb, 0, none⟩ = some (.pointer (some ⟨S0, 0, none⟩)) := HC3.out.cell.cell 0
     have k5 : w3.cell? ⟨kb, 5, none⟩ = some (.pointer (some ⟨sb, 0, none⟩)) := HC3.out.cell.cell 5
     have x0 : w3.cell? ⟨B3, 0, none⟩ = some (.int .u8 x.op.toNat) := HX3.out.cell 0
     have x1 : w3.cell? ⟨B3, 1, none⟩ = some (.int .u32 x.a) := HX3.out.cell 1
     have n0 : w3.cell? ⟨Bn, 0, none⟩ = some (.int .u8 g.t.toNat) := HN3.out.cell 0
     have n1 : w3.cell? ⟨Bn, 1, none⟩ = some (.bool false) := (HN3.out.cell 1).trans (congrArg (fun b : Bool => some (Value.bool b)) HGM.out)
     go_wp2_with fail
     go_ret
     unfold stepGlobal
     rw [show (spcOf m GS BS MS).glob x.a = some g from HE.out]
     simp only [if_neg h35, if_pos HGM.out]
     exact ⟨rfl, HC3.out.bel⟩
    ·go_simp
     obtain ⟨wa, hwn⟩ : ∃ wa, wa = w2.alloc (.cells #[.int .u8 0, .bool false] 78) := ⟨_, rfl⟩
     have hal : Below w2.heap.size w2 wa := hwn ▸ (Below.refl _ _).alloc (Nat.le_refl _) _
     have hya := hal
     have HN := zh (show Lies wa w2.heap.size 78 #[.int .u8 0, .bool false] from hwn ▸ Lies.new _ _ _)
     rw [← hwn]
     clear hwn
     obtain ⟨Bn, hBn⟩ : ∃ Bn, Bn = w2.heap.size := ⟨_, rfl⟩
     rw [← hBn] at HN ⊢
     have hBw : w2.heap.size ≤ Bn := by rw [hBn]; exact Nat.le_refl _
     clear hBn
     refine hK.out _ _ ⟨((HC2.out.later hya).cell.cell 0), ((HC2.out.later hya).cell.cell 5), ((HX2.out.below hya HX2.out.lt).cell 0), ((HX2.out.below hya HX2.out.lt).cell 1)⟩ ?_
     clear hK K
     (try simp only [Act.put, sA, sB, sC])
     refine RP.t_run rfl (fun K hK => ?_)
     go_simp
     refine (glob_any (HSP.out.later (HC2.out.later hya).bel) hxa).mono ?_
     rintro en wb ⟨rfl, hbb⟩
     have hyb := bt hya hbb
     replace HN := zh (HN.out.below hbb HN.out.lt)
     simp only [HE.out, gtC, Option.isSome_some]
     refine hK.out _ _ ⟨((HC2.out.later hyb).cell.cell 0), ((HC2.out.later hyb).cell.cell 5), ((HX2.out.below hyb HX2.out.lt).cell 0), ((HX2.out.below hyb HX2.out.lt).cell 1)⟩ ?_
     clear hK K
     (try simp only [Act.put, sA, sB, sC])
     repeat (first | (refine RP.t_take (v := ?_) rfl rfl (fun w' hw' => ?_) ?_; rotate_left; (focus (obtain ⟨q0, q1, q2, q3⟩ := hw'; (try simp only [Act.put, sA, sB, sC]); go_simp; (try go_bits); (try (with_reducible rfl)))); (try simp only [Act.put, sA, sB, sC])) | (refine RP.t_skip rfl rfl ?_; (try simp only [Act.put, sA, sB, sC])))
     refine RP.t_run rfl (fun K hK => ?_)
     refine ite_of rfl ?_
     refine wp_put HN.out g.cs _ _ rfl rfl rfl rfl sizeGt (by simp [Gt.cs, Value.oneCell']) (fun w3 hlc hfc => ?_)
     have hyc := hyb.trans (hfc.below hyb.size (fun k hk => by omega))
     refine hK.out _ _ ⟨((HC2.out.later hyc).cell.cell 0), ((HC2.out.later hyc).cell.cell 5), ((HX2.out.below hyc HX2.out.lt).cell 0), ((HX2.out.below hyc HX2.out.lt).cell 1)⟩ ?_
     clear hK K
     (try simp only [Act.put])
     repeat (first | (refine RP.t_take (v := ?_) rfl rfl (fun w' hw' => ?_) ?_; rotate_left; (focus (obtain ⟨q0, q1, q2, q3⟩ := hw'; (try simp only [Act.put, sA, sB, sC]); go_simp; (try go_bits); (try (with_reducible rfl)))); (try simp only [Act.put, sA, sB, sC])) | (refine RP.t_skip rfl rfl ?_; (try simp only [Act.put, sA, sB, sC])))
     refine RP.t_done ?_
     have HN3 := zh hlc
     clear hlc hfc
     have HC3 := zh (HC2.out.later hyc)
     have HX3 := zh (HX2.out.below hyc HX2.out.lt)
     clear hyc
     have k0 : w3.cell? ⟨kb, 0, none⟩ = some (.pointer (some ⟨S0, 0, none⟩)) := HC3.out.cell.cell 0
     have k5 : w3.cell? ⟨kb, 5, none⟩ = some (.pointer (some ⟨sb, 0, none⟩)) := HC3.out.cell.cell 5
     have x0 : w3.cell? ⟨B3, 0, none⟩ = some (.int .u8 x.op.toNat) := HX3.out.cell 0
     have x1 : w3.cell? ⟨B3, 1, none⟩ = some (.int .u32 x.a) := HX3.out.cell 1
     have n0 : w3.cell? ⟨Bn, 0, none⟩ = some (.int .u8 g.t.toNat) := HN3.out.cell 0
     have n1 : w3.cell? ⟨Bn, 1, none⟩ = some (.bool false) := (HN3.out.cell 1).trans (congrArg (fun b : Bool => some (Value.bool b)) HGM.out)
     go_wp2_with fail
     go_ret
     unfold stepGlobal
     rw [show (spcOf m GS BS MS).glob x.a = some g from HE.out]
     simp only [if_neg h35, if_pos HGM.out]
     exact ⟨rfl, HC3.out.bel⟩
   | true =>
    have HGM := zh hgm
    go_enter Tryz.func102, Tryz.ntmps102
    go_wp2_with (refine wl_box x.cs _ rfl rfl rfl (fun w1 hb1 hl1 => ?_); have HC1 := zh (HC.out.later hb1); have HX1 := zh hl1; have HB1 := zh hb1; obtain ⟨B3, hB3⟩ : ∃ B3, B3 = w.heap.size := ⟨_, rfl⟩; rw [← hB3] at HX1 ⊢; clear hB3 hb1 hl1; have k0 : w1.cell? ⟨kb, 0, none⟩ = some (.pointer (some ⟨S0, 0, none⟩)) := HC1.out.cell.cell 0; have k5 : w1.cell? ⟨kb, 5, none⟩ = some (.pointer (some ⟨sb, 0, none⟩)) := HC1.out.cell.cell 5; have x0 : w1.cell? ⟨B3, 0, none⟩ = some (.int .u8 x.op.toNat) := HX1.out.cell 0; have x1 : w1.cell? ⟨B3, 1, none⟩ = some (.int .u32 x.a) := HX1.out.cell 1; (try simp only [Act.put, sA, sB, sC]))
    have hd2 := below_drew w1
    have HC2 := zh (HC1.out.later hd2)
    have HX2 := zh (HX1.out.below hd2 HX1.out.lt)
    refine RP.region (RP.take 0 (RP.take 1 (RP.take 2 (RP.take 3 (RP.take 4 (RP.take 5 (RP.fork 6 10 (RP.take 7 (RP.take 8 (RP.take 9 (RP.run 10 (RP.run 11 (RP.take 12 RP.done)))))) (RP.run 6 (RP.take 7 (RP.take 8 (RP.take 9 (RP.run 11 (RP.take 12 RP.done))))))))))))) (fun w' => w'.cell? ⟨kb, 0, none⟩ = some (.pointer (some ⟨S0, 0, none⟩)) ∧ w'.cell? ⟨kb, 5, none⟩ = some (.pointer (some ⟨sb, 0, none⟩)) ∧ w'.cell? ⟨B3, 0, none⟩ = some (.int .u8 x.op.toNat) ∧ w'.cell? ⟨B3, 1, none⟩ = some (.int .u32 x.a)) (by kernel_rfl) (by kernel_rfl) (fun _ _ d _ _ h => by cases d <;> exact h) ⟨(HC2.out.cell.cell 0), (HC2.out.cell.cell 5), (HX2.out.cell 0), (HX2.out.cell 1)⟩ (fun _ => ?_)
    clear k0 k5 x0 x1 hd2
    generalize w1.drew = w2 at HC2 HX2 ⊢
    repeat (first | (refine RP.t_take (v := ?_) rfl rfl (fun w' hw' => ?_) ?_; rotate_left; (focus (obtain ⟨q0, q1, q2, q3⟩ := hw'; (try simp only [Act.put, sA, sB, sC]); go_simp; (try go_bits); (try (with_reducible rfl)))); (try simp only [Act.put, sA, sB, sC])) | (refine RP.t_skip rfl rfl ?_; (try simp only [Act.put, sA, sB, sC])))
    refine RP.t_fork rfl rfl (fun K hK => ?_) (fun K hK => ?_)
    ·go_simp
     refine (glob_any (HSP.out.later HC2.out.bel) hxa).mono ?_
     rintro en wa ⟨rfl, hya⟩
     simp only [HE.out, gtC, Option.isSome_some]
     refine hK.out _ _ ⟨((HC2.out.later hya).cell.cell 0), ((HC2.out.later hya).cell.cell 5), ((HX2.out.below hya HX2.out.lt).cell 0), ((HX2.out.below hya HX2.out.lt).cell 1)⟩ ?_
     clear hK K
     (try simp only [Act.put, sA, sB, sC])
     repeat (first | (refine RP.t_take (v := ?_) rfl rfl (fun w' hw' => ?_) ?_; rotate_left; (focus (obtain ⟨q0, q1, q2, q3⟩ := hw'; (try simp only [Act.put, sA, sB, sC]); go_simp; (try go_bits); (try (with_reducible rfl)))); (try simp only [Act.put, sA, sB, sC])) | (refine RP.t_skip rfl rfl ?_; (try simp only [Act.put, sA, sB, sC])))
     refine RP.t_run rfl (fun K hK => ?_)
     go_simp
     obtain ⟨wb, hwn⟩ : ∃ wb, wb = wa.alloc (.cells #[.int .u8 0, .bool false] 78) := ⟨_, rfl⟩
     have hal : Below wa.heap.size wa wb := hwn ▸ (Below.refl _ _).alloc (Nat.le_refl _) _
     have hyb := bt hya hal
     have HN := zh (show Lies wb wa.heap.size 78 #[.int .u8 0, .bool false] from hwn ▸ Lies.new _ _ _)
     rw [← hwn]
     clear hwn
     obtain ⟨Bn, hBn⟩ : ∃ Bn, Bn = wa.heap.size := ⟨_, rfl⟩
     rw [← hBn] at HN ⊢
     have hBw : w2.heap.size ≤ Bn := by rw [hBn]; exact hya.size
     clear hBn
     refine hK.out _ _ ⟨((HC2.out.later hyb).cell.cell 0), ((HC2.out.later hyb).cell.cell 5), ((HX2.out.below hyb HX2.out.lt).cell 0), ((HX2.out.below hyb HX2.out.lt).cell 1)⟩ ?_
     clear hK K
     (try simp only [Act.put, sA, sB, sC])
     refine RP.t_run rfl (fun K hK => ?_)
     refine ite_of rfl ?_
     refine wp_put HN.out g.cs _ _ rfl rfl rfl rfl sizeGt (by simp [Gt.cs, Value.oneCell']) (fun w3 hlc hfc => ?_)
     have hyc := hyb.trans (hfc.below hyb.size (fun k hk => by omega))
     refine hK.out _ _ ⟨((HC2.out.later hyc).cell.cell 0), ((HC2.out.later hyc).cell.cell 5), ((HX2.out.below hyc HX2.out.lt).cell 0), ((HX2.out.below hyc HX2.out.lt).cell 1)⟩ ?_
     clear hK K
     (try simp only [Act.put])
     repeat (first | (refine RP.t_take (v := ?_) rfl rfl (fun w' hw' => ?_) ?_; rotate_left; (focus (obtain ⟨q0, q1, q2, q3⟩ := hw'; (try simp only [Act.put, sA, sB, sC]); go_simp; (try go_bits); (try (with_reducible rfl)))); (try simp only [Act.put, sA, sB, sC])) | (refine RP.t_skip rfl rfl ?_; (try simp only [Act.put, sA, sB, sC])))
     refine RP.t_done ?_
     have HN3 := zh hlc
     clear hlc hfc
     have HC3 := zh (HC2.out.later hyc)
     have HX3 := zh (HX2.out.below hyc HX2.out.lt)
     clear hyc
     have k0 : w3.cell? ⟨kb, 0, none⟩ = some (.pointer (some ⟨S0, 0, none⟩)) := HC3.out.cell.cell 0
     have k5 : w3.cell? ⟨kb, 5, none⟩ = some (.pointer (some ⟨sb, 0, none⟩)) := HC3.out.cell.cell 5
     have x0 : w3.cell? ⟨B3, 0, none⟩ = some (.int .u8 x.op.toNat) := HX3.out.cell 0
     have x1 : w3.cell? ⟨B3, 1, none⟩ = some (.int .u32 x.a) := HX3.out.cell 1
     have n0 : w3.cell? ⟨Bn, 0, none⟩ = some (.int .u8 g.t.toNat) := HN3.out.cell 0
     have n1 : w3.cell? ⟨Bn, 1, none⟩ = some (.bool true) := (HN3.out.cell 1).trans (congrArg (fun b : Bool => some (Value.bool b)) HGM.out)
     go_wp2_with fail
     obtain ⟨w4, hw4⟩ : ∃ w4, w4 = w3.alloc (.cells #[.int .u8 g.t.toNat] 5) := ⟨_, rfl⟩
     have hb4 : Below w3.heap.size w3 w4 := hw4 ▸ (Below.refl _ _).alloc (Nat.le_refl _) _
     have HU := zh (show Sl w4 1 u8c (.slice (some ⟨w3.heap.size, 0, none⟩) 1 1) [g.t] by rw [hw4]; exact sl_one (Lies.new w3 _ _))
     rw [← hw4]
     clear hw4 n0 n1
     have HC4 := zh (HC3.out.later hb4)
     have HX4 := zh (HX3.out.below hb4 HX3.out.lt)
     clear k0 k5 x0 x1 hb4
     have k0 : w4.cell? ⟨kb, 0, none⟩ = some (.pointer (some ⟨S0, 0, none⟩)) := HC4.out.cell.cell 0
     have k5 : w4.cell? ⟨kb, 5, none⟩ = some (.pointer (some ⟨sb, 0, none⟩)) := HC4.out.cell.cell 5
     have x0 : w4.cell? ⟨B3, 0, none⟩ = some (.int .u8 x.op.toNat) := HX4.out.cell 0
     have x1 : w4.cell? ⟨B3, 1, none⟩ = some (.int .u32 x.a) := HX4.out.cell 1
     refine (takes_any HC4.out HS.out (ps := [g.t]) (rs := []) HU.out (Sl.nil _ _ _ _) (by simp) (by simp)).mono ?_
     intro en wt ht
     obtain ⟨n, rfl⟩ := ht.form
     replace ht := zh ht
     go_wp2_with fail
     go_ret
     unfold stepGlobal
     rw [show (spcOf m GS BS MS).glob x.a = some g from HE.out]
     simp only [if_neg h35, HGM.out]
     rw [if_neg (by decide)]
     exact ht.out
    ·go_simp
     obtain ⟨wa, hwn⟩ : ∃ wa, wa = w2.alloc (.cells #[.int .u8 0, .bool false] 78) := ⟨_, rfl⟩
     have hal : Below w2.heap.size w2 wa := hwn ▸ (Below.refl _ _).alloc (Nat.le_refl _) _
     have hya := hal
     have HN := zh (show Lies wa w2.heap.size 78 #[.int .u8 0, .bool false] from hwn ▸ Lies.new _ _ _)
     rw [← hwn]
     clear hwn
     obtain ⟨Bn, hBn⟩ : ∃ Bn, Bn = w2.heap.size := ⟨_, rfl⟩
     rw [← hBn] at HN ⊢
     have hBw : w2.heap.size ≤ Bn := by rw [hBn]; exact Nat.le_refl _
     clear hBn
     refine hK.out _ _ ⟨((HC2.out.later hya).cell.cell 0), ((HC2.out.later hya).cell.cell 5), ((HX2.out.below hya HX2.out.lt).cell 0), ((HX2.out.below hya HX2.out.lt).cell 1)⟩ ?_
     clear hK K
     (try simp only [Act.put, sA, sB, sC])
     refine RP.t_run rfl (fun K hK => ?_)
     go_simp
     refine (glob_any (HSP.out.later (HC2.out.later hya).bel) hxa).mono ?_
     rintro en wb ⟨rfl, hbb⟩
     have hyb := bt hya hbb
     replace HN := zh (HN.out.below hbb HN.out.lt)
     simp only [HE.out, gtC, Option.isSome_some]
     refine hK.out _ _ ⟨((HC2.out.later hyb).cell.cell 0), ((HC2.out.later hyb).cell.cell 5), ((HX2.out.below hyb HX2.out.lt).cell 0), ((HX2.out.below hyb HX2.out.lt).cell 1)⟩ ?_
     clear hK K
     (try simp only [Act.put, sA, sB, sC])
     repeat (first | (refine RP.t_take (v := ?_) rfl rfl (fun w' hw' => ?_) ?_; rotate_left; (focus (obtain ⟨q0, q1, q2, q3⟩ := hw'; (try simp only [Act.put, sA, sB, sC]); go_simp; (try go_bits); (try (with_reducible rfl)))); (try simp only [Act.put, sA, sB, sC])) | (refine RP.t_skip rfl rfl ?_; (try simp only [Act.put, sA, sB, sC])))
     refine RP.t_run rfl (fun K hK => ?_)
     refine ite_of rfl ?_
     refine wp_put HN.out g.cs _ _ rfl rfl rfl rfl sizeGt (by simp [Gt.cs, Value.oneCell']) (fun w3 hlc hfc => ?_)
     have hyc := hyb.trans (hfc.below hyb.size (fun k hk => by omega))
     refine hK.out _ _ ⟨((HC2.out.later hyc).cell.cell 0), ((HC2.out.later hyc).cell.cell 5), ((HX2.out.below hyc HX2.out.lt).cell 0), ((HX2.out.below hyc HX2.out.lt).cell 1)⟩ ?_
     clear hK K
     (try simp only [Act.put])
     repeat (first | (refine RP.t_take (v := ?_) rfl rfl (fun w' hw' => ?_) ?_; rotate_left; (focus (obtain ⟨q0, q1, q2, q3⟩ := hw'; (try simp only [Act.put, sA, sB, sC]); go_simp; (try go_bits); (try (with_reducible rfl)))); (try simp only [Act.put, sA, sB, sC])) | (refine RP.t_skip rfl rfl ?_; (try simp only [Act.put, sA, sB, sC])))
     refine RP.t_done ?_
     have HN3 := zh hlc
     clear hlc hfc
     have HC3 := zh (HC2.out.later hyc)
     have HX3 := zh (HX2.out.below hyc HX2.out.lt)
     clear hyc
     have k0 : w3.cell? ⟨kb, 0, none⟩ = some (.pointer (some ⟨S0, 0, none⟩)) := HC3.out.cell.cell 0
     have k5 : w3.cell? ⟨kb, 5, none⟩ = some (.pointer (some ⟨sb, 0, none⟩)) := HC3.out.cell.cell 5
     have x0 : w3.cell? ⟨B3, 0, none⟩ = some (.int .u8 x.op.toNat) := HX3.out.cell 0
     have x1 : w3.cell? ⟨B3, 1, none⟩ = some (.int .u32 x.a) := HX3.out.cell 1
     have n0 : w3.cell? ⟨Bn, 0, none⟩ = some (.int .u8 g.t.toNat) := HN3.out.cell 0
     have n1 : w3.cell? ⟨Bn, 1, none⟩ = some (.bool true) := (HN3.out.cell 1).trans (congrArg (fun b : Bool => some (Value.bool b)) HGM.out)
     go_wp2_with fail
     obtain ⟨w4, hw4⟩ : ∃ w4, w4 = w3.alloc (.cells #[.int .u8 g.t.toNat] 5) := ⟨_, rfl⟩
     have hb4 : Below w3.heap.size w3 w4 := hw4 ▸ (Below.refl _ _).alloc (Nat.le_refl _) _
     have HU := zh (show Sl w4 1 u8c (.slice (some ⟨w3.heap.size, 0, none⟩) 1 1) [g.t] by rw [hw4]; exact sl_one (Lies.new w3 _ _))
     rw [← hw4]
     clear hw4 n0 n1
     have HC4 := zh (HC3.out.later hb4)
     have HX4 := zh (HX3.out.below hb4 HX3.out.lt)
     clear k0 k5 x0 x1 hb4
     have k0 : w4.cell? ⟨kb, 0, none⟩ = some (.pointer (some ⟨S0, 0, none⟩)) := HC4.out.cell.cell 0
     have k5 : w4.cell? ⟨kb, 5, none⟩ = some (.pointer (some ⟨sb, 0, none⟩)) := HC4.out.cell.cell 5
     have x0 : w4.cell? ⟨B3, 0, none⟩ = some (.int .u8 x.op.toNat) := HX4.out.cell 0
     have x1 : w4.cell? ⟨B3, 1, none⟩ = some (.int .u32 x.a) := HX4.out.cell 1
     refine (takes_any HC4.out HS.out (ps := [g.t]) (rs := []) HU.out (Sl.nil _ _ _ _) (by simp) (by simp)).mono ?_
     intro en wt ht
     obtain ⟨n, rfl⟩ := ht.form
     replace ht := zh ht
     go_wp2_with fail
     go_ret
     unfold stepGlobal
     rw [show (spcOf m GS BS MS).glob x.a = some g from HE.out]
     simp only [if_neg h35, HGM.out]
     rw [if_neg (by decide)]
     exact ht.out
set_option maxRecDepth 100000 in
set_option maxHeartbeats 8000000 in
theorem plain_any {W0 w : World} {S0 kb sb : Nat} {fn : Ft} {c : Cod} {lv fv ov : Value} {FV : List Fv} {s : St} {x : Ins} (h : Ck W0 w S0 fn c kb sb lv fv ov FV s) (hs : Sm s) (hx : InsOk W0 x) {m : Mod} {GS : List Gt} {BS MS : List Lim} (hsp : SpG W0 S0 m GS BS MS) :
  Calls Tryz.prog 103 #[.pointer (some ⟨kb, 0, none⟩), .agg x.cs.toArray] w fun e w' => StepSays W0 S0 fn c kb sb w' e (stepPlain ⟨spcOf m GS BS MS, fn, c⟩ s x) := by
 have HC := zh h
 have HS := zh hs
 have HX := zh hx
 have HSP := zh hsp
 obtain ⟨mb, hmb⟩ : ∃ mb, mb = (MS[0]?).isSome := ⟨_, rfl⟩
 obtain ⟨f, hf⟩ : ∃ f, f = ((formN x.op).toNat : Int) := ⟨_, rfl⟩
 obtain ⟨wd, hwd⟩ : ∃ wd, wd = widthN x.op := ⟨_, rfl⟩
 have HMB := zh hmb
 have HF := zh hf
 have HWD := zh hwd
 clear h hs hx hsp hmb hf hwd
 by_cases h6 : f = 6
 ·subst h6
  have HFN := zh (show (formN x.op) = 6 ∨ (formN x.op) = 7 from Or.inl (by rw [← UInt8.toNat_inj]; have := HF.out; show _ = 6; omega))
  cases mb with
  | false =>
   go_enter Tryz.func103, Tryz.ntmps103
   go_wp2_with (refine wl_box x.cs _ rfl rfl rfl (fun w1 hb1 hl1 => ?_); have HC1 := zh (HC.out.later hb1); have HX1 := zh hl1; have HB1 := zh hb1; obtain ⟨B3, hB3⟩ : ∃ B3, B3 = w.heap.size := ⟨_, rfl⟩; rw [← hB3] at HX1 ⊢; clear hB3 hb1 hl1; have k0 : w1.cell? ⟨kb, 0, none⟩ = some (.pointer (some ⟨S0, 0, none⟩)) := HC1.out.cell.cell 0; have k5 : w1.cell? ⟨kb, 5, none⟩ = some (.pointer (some ⟨sb, 0, none⟩)) := HC1.out.cell.cell 5; have x0 : w1.cell? ⟨B3, 0, none⟩ = some (.int .u8 x.op.toNat) := HX1.out.cell 0; have x1 : w1.cell? ⟨B3, 1, none⟩ = some (.int .u32 x.a) := HX1.out.cell 1; (try simp only [Act.put, sA, sB, sC]))
   refine (form_any x.op).mono ?_
   rintro en wz ⟨rfl, rfl⟩
   rw [← HF.out]
   go_wp2_with fail
   refine (mem_any (i := 0) (HSP.out.later HC1.out.bel) (by decide)).mono ?_
   rintro en w2 ⟨rfl, hb2⟩
   rw [← HMB.out]
   have HC2 := zh (HC1.out.later hb2)
   have HX2 := zh (HX1.out.below hb2 HX1.out.lt)
   clear k0 k5 x0 x1 hb2
   have k0 : w2.cell? ⟨kb, 0, none⟩ = some (.pointer (some ⟨S0, 0, none⟩)) := HC2.out.cell.cell 0
   have k5 : w2.cell? ⟨kb, 5, none⟩ = some (.pointer (some ⟨sb, 0, none⟩)) := HC2.out.cell.cell 5
   have x0 : w2.cell? ⟨B3, 0, none⟩ = some (.int .u8 x.op.toNat) := HX2.out.cell 0
   have x1 : w2.cell? ⟨B3, 1, none⟩ = some (.int .u32 x.a) := HX2.out.cell 1
   obtain ⟨cs, hcs⟩ : ∃ cs, cs = limC MS[0]? := ⟨_, rfl⟩
   obtain ⟨a0, a1, rfl, hone⟩ : ∃ a0 a1, cs = [a0, a1] ∧ (([a0, a1] : List Value).toArray.all (·.oneCell')) = true := by
    cases hm0 : MS[0]? with
    | none => exact ⟨_, _, by rw [hcs, hm0]; rfl, by simp [Value.oneCell']⟩
    | some l => exact ⟨_, _, by rw [hcs, hm0]; rfl, by simp [Value.oneCell']⟩
   rw [← hcs]
   have HON := zh hone
   clear hcs hone
   go_wp2_with (refine wl_put (Lies.new _ _ _) [a0, a1] _ _ rfl rfl rfl rfl rfl sizeLim HON.out (fun w3 hL3 hF3 => ?_); have hb3 := below_put ((Below.refl w2.heap.size w2).alloc (Nat.le_refl _) _) hF3 (Nat.le_refl _); have HC3 := zh (HC2.out.later hb3); have HX3 := zh (HX2.out.below hb3 HX2.out.lt); clear hb3 hL3 hF3 k0 k5 x0 x1; have k0 : w3.cell? ⟨kb, 0, none⟩ = some (.pointer (some ⟨S0, 0, none⟩)) := HC3.out.cell.cell 0; have k5 : w3.cell? ⟨kb, 5, none⟩ = some (.pointer (some ⟨sb, 0, none⟩)) := HC3.out.cell.cell 5; have x0 : w3.cell? ⟨B3, 0, none⟩ = some (.int .u8 x.op.toNat) := HX3.out.cell 0; have x1 : w3.cell? ⟨B3, 1, none⟩ = some (.int .u32 x.a) := HX3.out.cell 1; (try simp only [Act.put]))
   go_ret
   unfold stepPlain
   rw [if_pos (show ((formN x.op) = 6 ∨ (formN x.op) = 7) ∧ (spcOf m GS BS MS).mem = false from ⟨HFN.out, HMB.out.symm⟩)]
   exact ⟨rfl, HC3.out.bel⟩
  | true =>
   by_cases hbig : 3 < x.a
   ·have hbg : (3 : Int) < (x.a : Int) := by omega
    go_enter Tryz.func103, Tryz.ntmps103
    go_wp2_with (refine wl_box x.cs _ rfl rfl rfl (fun w1 hb1 hl1 => ?_); have HC1 := zh (HC.out.later hb1); have HX1 := zh hl1; have HB1 := zh hb1; obtain ⟨B3, hB3⟩ : ∃ B3, B3 = w.heap.size := ⟨_, rfl⟩; rw [← hB3] at HX1 ⊢; clear hB3 hb1 hl1; have k0 : w1.cell? ⟨kb, 0, none⟩ = some (.pointer (some ⟨S0, 0, none⟩)) := HC1.out.cell.cell 0; have k5 : w1.cell? ⟨kb, 5, none⟩ = some (.pointer (some ⟨sb, 0, none⟩)) := HC1.out.cell.cell 5; have x0 : w1.cell? ⟨B3, 0, none⟩ = some (.int .u8 x.op.toNat) := HX1.out.cell 0; have x1 : w1.cell? ⟨B3, 1, none⟩ = some (.int .u32 x.a) := HX1.out.cell 1; (try simp only [Act.put, sA, sB, sC]))
    refine (form_any x.op).mono ?_
    rintro en wz ⟨rfl, rfl⟩
    rw [← HF.out]
    go_wp2_with fail
    refine (mem_any (i := 0) (HSP.out.later HC1.out.bel) (by decide)).mono ?_
    rintro en w2 ⟨rfl, hb2⟩
    rw [← HMB.out]
    have HC2 := zh (HC1.out.later hb2)
    have HX2 := zh (HX1.out.below hb2 HX1.out.lt)
    clear k0 k5 x0 x1 hb2
    have k0 : w2.cell? ⟨kb, 0, none⟩ = some (.pointer (some ⟨S0, 0, none⟩)) := HC2.out.cell.cell 0
    have k5 : w2.cell? ⟨kb, 5, none⟩ = some (.pointer (some ⟨sb, 0, none⟩)) := HC2.out.cell.cell 5
    have x0 : w2.cell? ⟨B3, 0, none⟩ = some (.int .u8 x.op.toNat) := HX2.out.cell 0
    have x1 : w2.cell? ⟨B3, 1, none⟩ = some (.int .u32 x.a) := HX2.out.cell 1
    obtain ⟨cs, hcs⟩ : ∃ cs, cs = limC MS[0]? := ⟨_, rfl⟩
    obtain ⟨a0, a1, rfl, hone⟩ : ∃ a0 a1, cs = [a0, a1] ∧ (([a0, a1] : List Value).toArray.all (·.oneCell')) = true := by
     cases hm0 : MS[0]? with
     | none => exact ⟨_, _, by rw [hcs, hm0]; rfl, by simp [Value.oneCell']⟩
     | some l => exact ⟨_, _, by rw [hcs, hm0]; rfl, by simp [Value.oneCell']⟩
    rw [← hcs]
    have HON := zh hone
    clear hcs hone
    go_wp2_with (refine wl_put (Lies.new _ _ _) [a0, a1] _ _ rfl rfl rfl rfl rfl sizeLim HON.out (fun w3 hL3 hF3 => ?_); have hb3 := below_put ((Below.refl w2.heap.size w2).alloc (Nat.le_refl _) _) hF3 (Nat.le_refl _); have HC3 := zh (HC2.out.later hb3); have HX3 := zh (HX2.out.below hb3 HX2.out.lt); clear hb3 hL3 hF3 k0 k5 x0 x1; have k0 : w3.cell? ⟨kb, 0, none⟩ = some (.pointer (some ⟨S0, 0, none⟩)) := HC3.out.cell.cell 0; have k5 : w3.cell? ⟨kb, 5, none⟩ = some (.pointer (some ⟨sb, 0, none⟩)) := HC3.out.cell.cell 5; have x0 : w3.cell? ⟨B3, 0, none⟩ = some (.int .u8 x.op.toNat) := HX3.out.cell 0; have x1 : w3.cell? ⟨B3, 1, none⟩ = some (.int .u32 x.a) := HX3.out.cell 1; (try simp only [Act.put]))
    have hd4 := below_drew w3
    have HC4 := zh (HC3.out.later hd4)
    have HX4 := zh (HX3.out.below hd4 HX3.out.lt)
    refine wp_region_t [(0, 1), (1, 1), (2, 1), (3, 1), (4, 1), (5, 1), (6, 1), (7, 1), (8, 1), (9, 1), (10, 1), (11, 1), (12, 0), (13, 1), (14, 1), (15, 1)] (fun w' => w'.cell? ⟨kb, 0, none⟩ = some (.pointer (some ⟨S0, 0, none⟩)) ∧ w'.cell? ⟨kb, 5, none⟩ = some (.pointer (some ⟨sb, 0, none⟩)) ∧ w'.cell? ⟨B3, 0, none⟩ = some (.int .u8 x.op.toNat) ∧ w'.cell? ⟨B3, 1, none⟩ = some (.int .u32 x.a)) [] [] rfl (by kernel_rfl) (by kernel_rfl) (fun _ _ d _ _ h => by cases d <;> exact h) ⟨(HC4.out.cell.cell 0), (HC4.out.cell.cell 5), (HX4.out.cell 0), (HX4.out.cell 1)⟩ (fun p hp => by cases hp) ?_
    clear k0 k5 x0 x1 hd4
    generalize w3.drew = w4 at HC4 HX4 ⊢
    repeat (first | (refine ts_take (v := ?_) rfl rfl (fun w' hw' => ?_) ?_; rotate_left; (focus (obtain ⟨q0, q1, q2, q3⟩ := hw'; (try simp only [Act.put, sA, sB, sC]); go_simp; (try go_bits); (try (with_reducible rfl)))); (try simp only [Act.put, sA, sB, sC])) | (refine ts_skip rfl rfl ?_; (try simp only [Act.put, sA, sB, sC])))
    refine ts_run rfl (fun K hK => ?_)
    rw [if_neg (Bool.eq_false_iff.1 (show Region.wanted _ _ = false from rfl))]
    refine hK.out _ _ ⟨(HC4.out.cell.cell 0), (HC4.out.cell.cell 5), (HX4.out.cell 0), (HX4.out.cell 1)⟩ (still_none _ _) ?_
    clear hK K
    (try simp only [Act.put, sA, sB, sC])
    repeat (first | (refine ts_take (v := ?_) rfl rfl (fun w' hw' => ?_) ?_; rotate_left; (focus (obtain ⟨q0, q1, q2, q3⟩ := hw'; (try simp only [Act.put, sA, sB, sC]); go_simp; (try go_bits); (try (with_reducible rfl)))); (try simp only [Act.put, sA, sB, sC])) | (refine ts_skip rfl rfl ?_; (try simp only [Act.put, sA, sB, sC])))
    refine ts_done ?_
    have k0 : w4.cell? ⟨kb, 0, none⟩ = some (.pointer (some ⟨S0, 0, none⟩)) := HC4.out.cell.cell 0
    have k5 : w4.cell? ⟨kb, 5, none⟩ = some (.pointer (some ⟨sb, 0, none⟩)) := HC4.out.cell.cell 5
    have x0 : w4.cell? ⟨B3, 0, none⟩ = some (.int .u8 x.op.toNat) := HX4.out.cell 0
    have x1 : w4.cell? ⟨B3, 1, none⟩ = some (.int .u32 x.a) := HX4.out.cell 1
    go_wp2_with fail
    go_ret
    unfold stepPlain
    rw [if_neg (show ¬ (((formN x.op) = 6 ∨ (formN x.op) = 7) ∧ (spcOf m GS BS MS).mem = false) from fun h => by have := HMB.out; rw [show (spcOf m GS BS MS).mem = (MS[0]?).isSome from rfl, ← this] at h; cases h.2)]
    rw [if_pos (show (formN x.op) = 6 ∧ (3 < x.a ∨ widthN x.op < 2 ^ x.a) from ⟨HFN.out.elim id (fun h => by have := HF.out; rw [h] at this; cases this), Or.inl hbig⟩)]
    exact ⟨rfl, HC4.out.bel⟩
   ·have ha4 : x.a = 0 ∨ x.a = 1 ∨ x.a = 2 ∨ x.a = 3 := by omega
    obtain ⟨y, hy⟩ : ∃ y, y = x.a := ⟨_, rfl⟩
    rcases ha4 with h0 | h0 | h0 | h0
    ·have HXA := zh h0
     by_cases hw : wd < 2 ^ 0
     ·have hlo : (wd : Int) < 1 := by omega
      go_enter Tryz.func103, Tryz.ntmps103
      go_wp2_with (refine wl_box x.cs _ rfl rfl rfl (fun w1 hb1 hl1 => ?_); have HC1 := zh (HC.out.later hb1); have HX1 := zh hl1; have HB1 := zh hb1; obtain ⟨B3, hB3⟩ : ∃ B3, B3 = w.heap.size := ⟨_, rfl⟩; rw [← hB3] at HX1 ⊢; clear hB3 hb1 hl1; have k0 : w1.cell? ⟨kb, 0, none⟩ = some (.pointer (some ⟨S0, 0, none⟩)) := HC1.out.cell.cell 0; have k5 : w1.cell? ⟨kb, 5, none⟩ = some (.pointer (some ⟨sb, 0, none⟩)) := HC1.out.cell.cell 5; have x0 : w1.cell? ⟨B3, 0, none⟩ = some (.int .u8 x.op.toNat) := HX1.out.cell 0; have x1 : w1.cell? ⟨B3, 1, none⟩ = some (.int .u32 0) := (HX1.out.cell 1).trans (congrArg (fun n : Nat => some (Value.int .u32 n)) HXA.out); (try simp only [Act.put, sA, sB, sC]))
      refine (form_any x.op).mono ?_
      rintro en wz ⟨rfl, rfl⟩
      rw [← HF.out]
      go_wp2_with fail
      refine (mem_any (i := 0) (HSP.out.later HC1.out.bel) (by decide)).mono ?_
      rintro en w2 ⟨rfl, hb2⟩
      rw [← HMB.out]
      have HC2 := zh (HC1.out.later hb2)
      have HX2 := zh (HX1.out.below hb2 HX1.out.lt)
      clear k0 k5 x0 x1 hb2
      have k0 : w2.cell? ⟨kb, 0, none⟩ = some (.pointer (some ⟨S0, 0, none⟩)) := HC2.out.cell.cell 0
      have k5 : w2.cell? ⟨kb, 5, none⟩ = some (.pointer (some ⟨sb, 0, none⟩)) := HC2.out.cell.cell 5
      have x0 : w2.cell? ⟨B3, 0, none⟩ = some (.int .u8 x.op.toNat) := HX2.out.cell 0
      have x1 : w2.cell? ⟨B3, 1, none⟩ = some (.int .u32 0) := (HX2.out.cell 1).trans (congrArg (fun n : Nat => some (Value.int .u32 n)) HXA.out)
      obtain ⟨cs, hcs⟩ : ∃ cs, cs = limC MS[0]? := ⟨_, rfl⟩
      obtain ⟨a0, a1, rfl, hone⟩ : ∃ a0 a1, cs = [a0, a1] ∧ (([a0, a1] : List Value).toArray.all (·.oneCell')) = true := by
       cases hm0 : MS[0]? with
       | none => exact ⟨_, _, by rw [hcs, hm0]; rfl, by simp [Value.oneCell']⟩
       | some l => exact ⟨_, _, by rw [hcs, hm0]; rfl, by simp [Value.oneCell']⟩
      rw [← hcs]
      have HON := zh hone
      clear hcs hone
      go_wp2_with (refine wl_put (Lies.new _ _ _) [a0, a1] _ _ rfl rfl rfl rfl rfl sizeLim HON.out (fun w3 hL3 hF3 => ?_); have hb3 := below_put ((Below.refl w2.heap.size w2).alloc (Nat.le_refl _) _) hF3 (Nat.le_refl _); have HC3 := zh (HC2.out.later hb3); have HX3 := zh (HX2.out.below hb3 HX2.out.lt); clear hb3 hL3 hF3 k0 k5 x0 x1; have k0 : w3.cell? ⟨kb, 0, none⟩ = some (.pointer (some ⟨S0, 0, none⟩)) := HC3.out.cell.cell 0; have k5 : w3.cell? ⟨kb, 5, none⟩ = some (.pointer (some ⟨sb, 0, none⟩)) := HC3.out.cell.cell 5; have x0 : w3.cell? ⟨B3, 0, none⟩ = some (.int .u8 x.op.toNat) := HX3.out.cell 0; have x1 : w3.cell? ⟨B3, 1, none⟩ = some (.int .u32 0) := (HX3.out.cell 1).trans (congrArg (fun n : Nat => some (Value.int .u32 n)) HXA.out); (try simp only [Act.put]))
      have hd4 := below_drew w3
      have HC4 := zh (HC3.out.later hd4)
      have HX4 := zh (HX3.out.below hd4 HX3.out.lt)
      refine wp_region_t [(0, 1), (1, 1), (2, 1), (3, 1), (4, 1), (5, 1), (6, 1), (7, 1), (8, 1), (9, 1), (10, 1), (11, 1), (12, 0), (13, 1), (14, 1), (15, 1)] (fun w' => w'.cell? ⟨kb, 0, none⟩ = some (.pointer (some ⟨S0, 0, none⟩)) ∧ w'.cell? ⟨kb, 5, none⟩ = some (.pointer (some ⟨sb, 0, none⟩)) ∧ w'.cell? ⟨B3, 0, none⟩ = some (.int .u8 x.op.toNat) ∧ w'.cell? ⟨B3, 1, none⟩ = some (.int .u32 0)) [] [] rfl (by kernel_rfl) (by kernel_rfl) (fun _ _ d _ _ h => by cases d <;> exact h) ⟨(HC4.out.cell.cell 0), (HC4.out.cell.cell 5), (HX4.out.cell 0), ((HX4.out.cell 1).trans (congrArg (fun n : Nat => some (Value.int .u32 n)) HXA.out))⟩ (fun p hp => by cases hp) ?_
      clear k0 k5 x0 x1 hd4
      generalize w3.drew = w4 at HC4 HX4 ⊢
      repeat (first | (refine ts_take (v := ?_) rfl rfl (fun w' hw' => ?_) ?_; rotate_left; (focus (obtain ⟨q0, q1, q2, q3⟩ := hw'; (try simp only [Act.put, sA, sB, sC]); go_simp; (try go_bits); (try (with_reducible rfl)))); (try simp only [Act.put, sA, sB, sC])) | (refine ts_skip rfl rfl ?_; (try simp only [Act.put, sA, sB, sC])))
      refine ts_run rfl (fun K hK => ?_)
      refine ite_of rfl ?_
      go_simp
      refine (width_any x.op).mono ?_
      rintro en wy ⟨rfl, hwy⟩
      obtain rfl := hwy.symm
      rw [← HWD.out]
      refine hK.out _ _ ⟨(HC4.out.cell.cell 0), (HC4.out.cell.cell 5), (HX4.out.cell 0), ((HX4.out.cell 1).trans (congrArg (fun n : Nat => some (Value.int .u32 n)) HXA.out))⟩ (still_none _ _) ?_
      clear hK K
      (try simp only [Act.put, sA, sB, sC])
      repeat (first | (refine ts_take (v := ?_) rfl rfl (fun w' hw' => ?_) ?_; rotate_left; (focus (obtain ⟨q0, q1, q2, q3⟩ := hw'; (try simp only [Act.put, sA, sB, sC]); go_simp; (try go_bits); (try (with_reducible rfl)))); (try simp only [Act.put, sA, sB, sC])) | (refine ts_skip rfl rfl ?_; (try simp only [Act.put, sA, sB, sC])))
      refine ts_done ?_
      have k0 : w4.cell? ⟨kb, 0, none⟩ = some (.pointer (some ⟨S0, 0, none⟩)) := HC4.out.cell.cell 0
      have k5 : w4.cell? ⟨kb, 5, none⟩ = some (.pointer (some ⟨sb, 0, none⟩)) := HC4.out.cell.cell 5
      have x0 : w4.cell? ⟨B3, 0, none⟩ = some (.int .u8 x.op.toNat) := HX4.out.cell 0
      have x1 : w4.cell? ⟨B3, 1, none⟩ = some (.int .u32 0) := (HX4.out.cell 1).trans (congrArg (fun n : Nat => some (Value.int .u32 n)) HXA.out)
      go_wp2_with fail
      go_ret
      unfold stepPlain
      rw [if_neg (show ¬ (((formN x.op) = 6 ∨ (formN x.op) = 7) ∧ (spcOf m GS BS MS).mem = false) from fun h => by have := HMB.out; rw [show (spcOf m GS BS MS).mem = (MS[0]?).isSome from rfl, ← this] at h; cases h.2)]
      rw [if_pos (show (formN x.op) = 6 ∧ (3 < x.a ∨ widthN x.op < 2 ^ x.a) from ⟨HFN.out.elim id (fun h => by have := HF.out; rw [h] at this; cases this), Or.inr (by rw [HXA.out, ← HWD.out]; exact hw)⟩)]
      exact ⟨rfl, HC4.out.bel⟩
     ·have hlo : ¬ (wd : Int) < 1 := by omega
      go_enter Tryz.func103, Tryz.ntmps103
      go_wp2_with (refine wl_box x.cs _ rfl rfl rfl (fun w1 hb1 hl1 => ?_); have HC1 := zh (HC.out.later hb1); have HX1 := zh hl1; have HB1 := zh hb1; obtain ⟨B3, hB3⟩ : ∃ B3, B3 = w.heap.size := ⟨_, rfl⟩; rw [← hB3] at HX1 ⊢; clear hB3 hb1 hl1; have k0 : w1.cell? ⟨kb, 0, none⟩ = some (.pointer (some ⟨S0, 0, none⟩)) := HC1.out.cell.cell 0; have k5 : w1.cell? ⟨kb, 5, none⟩ = some (.pointer (some ⟨sb, 0, none⟩)) := HC1.out.cell.cell 5; have x0 : w1.cell? ⟨B3, 0, none⟩ = some (.int .u8 x.op.toNat) := HX1.out.cell 0; have x1 : w1.cell? ⟨B3, 1, none⟩ = some (.int .u32 0) := (HX1.out.cell 1).trans (congrArg (fun n : Nat => some (Value.int .u32 n)) HXA.out); (try simp only [Act.put, sA, sB, sC]))
      refine (form_any x.op).mono ?_
      rintro en wz ⟨rfl, rfl⟩
      rw [← HF.out]
      go_wp2_with fail
      refine (mem_any (i := 0) (HSP.out.later HC1.out.bel) (by decide)).mono ?_
      rintro en w2 ⟨rfl, hb2⟩
      rw [← HMB.out]
      have HC2 := zh (HC1.out.later hb2)
      have HX2 := zh (HX1.out.below hb2 HX1.out.lt)
      clear k0 k5 x0 x1 hb2
      have k0 : w2.cell? ⟨kb, 0, none⟩ = some (.pointer (some ⟨S0, 0, none⟩)) := HC2.out.cell.cell 0
      have k5 : w2.cell? ⟨kb, 5, none⟩ = some (.pointer (some ⟨sb, 0, none⟩)) := HC2.out.cell.cell 5
      have x0 : w2.cell? ⟨B3, 0, none⟩ = some (.int .u8 x.op.toNat) := HX2.out.cell 0
      have x1 : w2.cell? ⟨B3, 1, none⟩ = some (.int .u32 0) := (HX2.out.cell 1).trans (congrArg (fun n : Nat => some (Value.int .u32 n)) HXA.out)
      obtain ⟨cs, hcs⟩ : ∃ cs, cs = limC MS[0]? := ⟨_, rfl⟩
      obtain ⟨a0, a1, rfl, hone⟩ : ∃ a0 a1, cs = [a0, a1] ∧ (([a0, a1] : List Value).toArray.all (·.oneCell')) = true := by
       cases hm0 : MS[0]? with
       | none => exact ⟨_, _, by rw [hcs, hm0]; rfl, by simp [Value.oneCell']⟩
       | some l => exact ⟨_, _, by rw [hcs, hm0]; rfl, by simp [Value.oneCell']⟩
      rw [← hcs]
      have HON := zh hone
      clear hcs hone
      go_wp2_with (refine wl_put (Lies.new _ _ _) [a0, a1] _ _ rfl rfl rfl rfl rfl sizeLim HON.out (fun w3 hL3 hF3 => ?_); have hb3 := below_put ((Below.refl w2.heap.size w2).alloc (Nat.le_refl _) _) hF3 (Nat.le_refl _); have HC3 := zh (HC2.out.later hb3); have HX3 := zh (HX2.out.below hb3 HX2.out.lt); clear hb3 hL3 hF3 k0 k5 x0 x1; have k0 : w3.cell? ⟨kb, 0, none⟩ = some (.pointer (some ⟨S0, 0, none⟩)) := HC3.out.cell.cell 0; have k5 : w3.cell? ⟨kb, 5, none⟩ = some (.pointer (some ⟨sb, 0, none⟩)) := HC3.out.cell.cell 5; have x0 : w3.cell? ⟨B3, 0, none⟩ = some (.int .u8 x.op.toNat) := HX3.out.cell 0; have x1 : w3.cell? ⟨B3, 1, none⟩ = some (.int .u32 0) := (HX3.out.cell 1).trans (congrArg (fun n : Nat => some (Value.int .u32 n)) HXA.out); (try simp only [Act.put]))
      have hd4 := below_drew w3
      have HC4 := zh (HC3.out.later hd4)
      have HX4 := zh (HX3.out.below hd4 HX3.out.lt)
      refine wp_region_t [(0, 1), (1, 1), (2, 1), (3, 1), (4, 1), (5, 1), (6, 1), (7, 1), (8, 1), (9, 1), (10, 1), (11, 1), (12, 0), (13, 1), (14, 1), (15, 1)] (fun w' => w'.cell? ⟨kb, 0, none⟩ = some (.pointer (some ⟨S0, 0, none⟩)) ∧ w'.cell? ⟨kb, 5, none⟩ = some (.pointer (some ⟨sb, 0, none⟩)) ∧ w'.cell? ⟨B3, 0, none⟩ = some (.int .u8 x.op.toNat) ∧ w'.cell? ⟨B3, 1, none⟩ = some (.int .u32 0)) [] [] rfl (by kernel_rfl) (by kernel_rfl) (fun _ _ d _ _ h => by cases d <;> exact h) ⟨(HC4.out.cell.cell 0), (HC4.out.cell.cell 5), (HX4.out.cell 0), ((HX4.out.cell 1).trans (congrArg (fun n : Nat => some (Value.int .u32 n)) HXA.out))⟩ (fun p hp => by cases hp) ?_
      clear k0 k5 x0 x1 hd4
      generalize w3.drew = w4 at HC4 HX4 ⊢
      repeat (first | (refine ts_take (v := ?_) rfl rfl (fun w' hw' => ?_) ?_; rotate_left; (focus (obtain ⟨q0, q1, q2, q3⟩ := hw'; (try simp only [Act.put, sA, sB, sC]); go_simp; (try go_bits); (try (with_reducible rfl)))); (try simp only [Act.put, sA, sB, sC])) | (refine ts_skip rfl rfl ?_; (try simp only [Act.put, sA, sB, sC])))
      refine ts_run rfl (fun K hK => ?_)
      refine ite_of rfl ?_
      go_simp
      refine (width_any x.op).mono ?_
      rintro en wy ⟨rfl, hwy⟩
      obtain rfl := hwy.symm
      rw [← HWD.out]
      refine hK.out _ _ ⟨(HC4.out.cell.cell 0), (HC4.out.cell.cell 5), (HX4.out.cell 0), ((HX4.out.cell 1).trans (congrArg (fun n : Nat => some (Value.int .u32 n)) HXA.out))⟩ (still_none _ _) ?_
      clear hK K
      (try simp only [Act.put, sA, sB, sC])
      repeat (first | (refine ts_take (v := ?_) rfl rfl (fun w' hw' => ?_) ?_; rotate_left; (focus (obtain ⟨q0, q1, q2, q3⟩ := hw'; (try simp only [Act.put, sA, sB, sC]); go_simp; (try go_bits); (try (with_reducible rfl)))); (try simp only [Act.put, sA, sB, sC])) | (refine ts_skip rfl rfl ?_; (try simp only [Act.put, sA, sB, sC])))
      refine ts_done ?_
      have k0 : w4.cell? ⟨kb, 0, none⟩ = some (.pointer (some ⟨S0, 0, none⟩)) := HC4.out.cell.cell 0
      have k5 : w4.cell? ⟨kb, 5, none⟩ = some (.pointer (some ⟨sb, 0, none⟩)) := HC4.out.cell.cell 5
      have x0 : w4.cell? ⟨B3, 0, none⟩ = some (.int .u8 x.op.toNat) := HX4.out.cell 0
      have x1 : w4.cell? ⟨B3, 1, none⟩ = some (.int .u32 0) := (HX4.out.cell 1).trans (congrArg (fun n : Nat => some (Value.int .u32 n)) HXA.out)
      go_wp2_with fail
      refine (sig_any x.op).mono ?_
      rintro en w5 ⟨v1, v2, bb, rfl, _, hv1, hv2, hb5⟩
      have HV1 := zh hv1
      have HV2 := zh hv2
      clear hv1 hv2
      have HC5 := zh (HC4.out.later hb5)
      have HX5 := zh (HX4.out.below hb5 HX4.out.lt)
      clear k0 k5 x0 x1 hb5
      have k0 : w5.cell? ⟨kb, 0, none⟩ = some (.pointer (some ⟨S0, 0, none⟩)) := HC5.out.cell.cell 0
      have k5 : w5.cell? ⟨kb, 5, none⟩ = some (.pointer (some ⟨sb, 0, none⟩)) := HC5.out.cell.cell 5
      have x0 : w5.cell? ⟨B3, 0, none⟩ = some (.int .u8 x.op.toNat) := HX5.out.cell 0
      have x1 : w5.cell? ⟨B3, 1, none⟩ = some (.int .u32 0) := (HX5.out.cell 1).trans (congrArg (fun n : Nat => some (Value.int .u32 n)) HXA.out)
      go_wp2_with fail
      refine (takes_any HC5.out HS.out (ps := (sigL x.op).1) (rs := (sigL x.op).2) HV1.out HV2.out (Nat.le_trans (sigL_len _).1 (by decide)) (Nat.le_trans (sigL_len _).2 (by decide))).mono ?_
      intro en wt ht
      obtain ⟨n, rfl⟩ := ht.form
      replace ht := zh ht
      go_wp2_with fail
      go_ret
      unfold stepPlain
      rw [if_neg (show ¬ (((formN x.op) = 6 ∨ (formN x.op) = 7) ∧ (spcOf m GS BS MS).mem = false) from fun h => by have := HMB.out; rw [show (spcOf m GS BS MS).mem = (MS[0]?).isSome from rfl, ← this] at h; cases h.2)]
      rw [if_neg (show ¬ ((formN x.op) = 6 ∧ (3 < x.a ∨ widthN x.op < 2 ^ x.a)) from fun h => h.2.elim (fun h => hbig h) (fun h => hw (by rw [HXA.out, ← HWD.out] at h; exact h)))]
      exact ht.out
    ·have HXA := zh h0
     by_cases hw : wd < 2 ^ 1
     ·have hlo : (wd : Int) < 2 := by omega
      go_enter Tryz.func103, Tryz.ntmps103
      go_wp2_with (refine wl_box x.cs _ rfl rfl rfl (fun w1 hb1 hl1 => ?_); have HC1 := zh (HC.out.later hb1); have HX1 := zh hl1; have HB1 := zh hb1; obtain ⟨B3, hB3⟩ : ∃ B3, B3 = w.heap.size := ⟨_, rfl⟩; rw [← hB3] at HX1 ⊢; clear hB3 hb1 hl1; have k0 : w1.cell? ⟨kb, 0, none⟩ = some (.pointer (some ⟨S0, 0, none⟩)) := HC1.out.cell.cell 0; have k5 : w1.cell? ⟨kb, 5, none⟩ = some (.pointer (some ⟨sb, 0, none⟩)) := HC1.out.cell.cell 5; have x0 : w1.cell? ⟨B3, 0, none⟩ = some (.int .u8 x.op.toNat) := HX1.out.cell 0; have x1 : w1.cell? ⟨B3, 1, none⟩ = some (.int .u32 1) := (HX1.out.cell 1).trans (congrArg (fun n : Nat => some (Value.int .u32 n)) HXA.out); (try simp only [Act.put, sA, sB, sC]))
      refine (form_any x.op).mono ?_
      rintro en wz ⟨rfl, rfl⟩
      rw [← HF.out]
      go_wp2_with fail
      refine (mem_any (i := 0) (HSP.out.later HC1.out.bel) (by decide)).mono ?_
      rintro en w2 ⟨rfl, hb2⟩
      rw [← HMB.out]
      have HC2 := zh (HC1.out.later hb2)
      have HX2 := zh (HX1.out.below hb2 HX1.out.lt)
      clear k0 k5 x0 x1 hb2
      have k0 : w2.cell? ⟨kb, 0, none⟩ = some (.pointer (some ⟨S0, 0, none⟩)) := HC2.out.cell.cell 0
      have k5 : w2.cell? ⟨kb, 5, none⟩ = some (.pointer (some ⟨sb, 0, none⟩)) := HC2.out.cell.cell 5
      have x0 : w2.cell? ⟨B3, 0, none⟩ = some (.int .u8 x.op.toNat) := HX2.out.cell 0
      have x1 : w2.cell? ⟨B3, 1, none⟩ = some (.int .u32 1) := (HX2.out.cell 1).trans (congrArg (fun n : Nat => some (Value.int .u32 n)) HXA.out)
      obtain ⟨cs, hcs⟩ : ∃ cs, cs = limC MS[0]? := ⟨_, rfl⟩
      obtain ⟨a0, a1, rfl, hone⟩ : ∃ a0 a1, cs = [a0, a1] ∧ (([a0, a1] : List Value).toArray.all (·.oneCell')) = true := by
       cases hm0 : MS[0]? with
       | none => exact ⟨_, _, by rw [hcs, hm0]; rfl, by simp [Value.oneCell']⟩
       | some l => exact ⟨_, _, by rw [hcs, hm0]; rfl, by simp [Value.oneCell']⟩
      rw [← hcs]
      have HON := zh hone
      clear hcs hone
      go_wp2_with (refine wl_put (Lies.new _ _ _) [a0, a1] _ _ rfl rfl rfl rfl rfl sizeLim HON.out (fun w3 hL3 hF3 => ?_); have hb3 := below_put ((Below.refl w2.heap.size w2).alloc (Nat.le_refl _) _) hF3 (Nat.le_refl _); have HC3 := zh (HC2.out.later hb3); have HX3 := zh (HX2.out.below hb3 HX2.out.lt); clear hb3 hL3 hF3 k0 k5 x0 x1; have k0 : w3.cell? ⟨kb, 0, none⟩ = some (.pointer (some ⟨S0, 0, none⟩)) := HC3.out.cell.cell 0; have k5 : w3.cell? ⟨kb, 5, none⟩ = some (.pointer (some ⟨sb, 0, none⟩)) := HC3.out.cell.cell 5; have x0 : w3.cell? ⟨B3, 0, none⟩ = some (.int .u8 x.op.toNat) := HX3.out.cell 0; have x1 : w3.cell? ⟨B3, 1, none⟩ = some (.int .u32 1) := (HX3.out.cell 1).trans (congrArg (fun n : Nat => some (Value.int .u32 n)) HXA.out); (try simp only [Act.put]))
      have hd4 := below_drew w3
      have HC4 := zh (HC3.out.later hd4)
      have HX4 := zh (HX3.out.below hd4 HX3.out.lt)
      refine wp_region_t [(0, 1), (1, 1), (2, 1), (3, 1), (4, 1), (5, 1), (6, 1), (7, 1), (8, 1), (9, 1), (10, 1), (11, 1), (12, 0), (13, 1), (14, 1), (15, 1)] (fun w' => w'.cell? ⟨kb, 0, none⟩ = some (.pointer (some ⟨S0, 0, none⟩)) ∧ w'.cell? ⟨kb, 5, none⟩ = some (.pointer (some ⟨sb, 0, none⟩)) ∧ w'.cell? ⟨B3, 0, none⟩ = some (.int .u8 x.op.toNat) ∧ w'.cell? ⟨B3, 1, none⟩ = some (.int .u32 1)) [] [] rfl (by kernel_rfl) (by kernel_rfl) (fun _ _ d _ _ h => by cases d <;> exact h) ⟨(HC4.out.cell.cell 0), (HC4.out.cell.cell 5), (HX4.out.cell 0), ((HX4.out.cell 1).trans (congrArg (fun n : Nat => some (Value.int .u32 n)) HXA.out))⟩ (fun p hp => by cases hp) ?_
      clear k0 k5 x0 x1 hd4
      generalize w3.drew = w4 at HC4 HX4 ⊢
      repeat (first | (refine ts_take (v := ?_) rfl rfl (fun w' hw' => ?_) ?_; rotate_left; (focus (obtain ⟨q0, q1, q2, q3⟩ := hw'; (try simp only [Act.put, sA, sB, sC]); go_simp; (try go_bits); (try (with_reducible rfl)))); (try simp only [Act.put, sA, sB, sC])) | (refine ts_skip rfl rfl ?_; (try simp only [Act.put, sA, sB, sC])))
      refine ts_run rfl (fun K hK => ?_)
      refine ite_of rfl ?_
      go_simp
      refine (width_any x.op).mono ?_
      rintro en wy ⟨rfl, hwy⟩
      obtain rfl := hwy.symm
      rw [← HWD.out]
      refine hK.out _ _ ⟨(HC4.out.cell.cell 0), (HC4.out.cell.cell 5), (HX4.out.cell 0), ((HX4.out.cell 1).trans (congrArg (fun n : Nat => some (Value.int .u32 n)) HXA.out))⟩ (still_none _ _) ?_
      clear hK K
      (try simp only [Act.put, sA, sB, sC])
      repeat (first | (refine ts_take (v := ?_) rfl rfl (fun w' hw' => ?_) ?_; rotate_left; (focus (obtain ⟨q0, q1, q2, q3⟩ := hw'; (try simp only [Act.put, sA, sB, sC]); go_simp; (try go_bits); (try (with_reducible rfl)))); (try simp only [Act.put, sA, sB, sC])) | (refine ts_skip rfl rfl ?_; (try simp only [Act.put, sA, sB, sC])))
      refine ts_done ?_
      have k0 : w4.cell? ⟨kb, 0, none⟩ = some (.pointer (some ⟨S0, 0, none⟩)) := HC4.out.cell.cell 0
      have k5 : w4.cell? ⟨kb, 5, none⟩ = some (.pointer (some ⟨sb, 0, none⟩)) := HC4.out.cell.cell 5
      have x0 : w4.cell? ⟨B3, 0, none⟩ = some (.int .u8 x.op.toNat) := HX4.out.cell 0
      have x1 : w4.cell? ⟨B3, 1, none⟩ = some (.int .u32 1) := (HX4.out.cell 1).trans (congrArg (fun n : Nat => some (Value.int .u32 n)) HXA.out)
      go_wp2_with fail
      go_ret
      unfold stepPlain
      rw [if_neg (show ¬ (((formN x.op) = 6 ∨ (formN x.op) = 7) ∧ (spcOf m GS BS MS).mem = false) from fun h => by have := HMB.out; rw [show (spcOf m GS BS MS).mem = (MS[0]?).isSome from rfl, ← this] at h; cases h.2)]
      rw [if_pos (show (formN x.op) = 6 ∧ (3 < x.a ∨ widthN x.op < 2 ^ x.a) from ⟨HFN.out.elim id (fun h => by have := HF.out; rw [h] at this; cases this), Or.inr (by rw [HXA.out, ← HWD.out]; exact hw)⟩)]
      exact ⟨rfl, HC4.out.bel⟩
     ·have hlo : ¬ (wd : Int) < 2 := by omega
      go_enter Tryz.func103, Tryz.ntmps103
      go_wp2_with (refine wl_box x.cs _ rfl rfl rfl (fun w1 hb1 hl1 => ?_); have HC1 := zh (HC.out.later hb1); have HX1 := zh hl1; have HB1 := zh hb1; obtain ⟨B3, hB3⟩ : ∃ B3, B3 = w.heap.size := ⟨_, rfl⟩; rw [← hB3] at HX1 ⊢; clear hB3 hb1 hl1; have k0 : w1.cell? ⟨kb, 0, none⟩ = some (.pointer (some ⟨S0, 0, none⟩)) := HC1.out.cell.cell 0; have k5 : w1.cell? ⟨kb, 5, none⟩ = some (.pointer (some ⟨sb, 0, none⟩)) := HC1.out.cell.cell 5; have x0 : w1.cell? ⟨B3, 0, none⟩ = some (.int .u8 x.op.toNat) := HX1.out.cell 0; have x1 : w1.cell? ⟨B3, 1, none⟩ = some (.int .u32 1) := (HX1.out.cell 1).trans (congrArg (fun n : Nat => some (Value.int .u32 n)) HXA.out); (try simp only [Act.put, sA, sB, sC]))
      refine (form_any x.op).mono ?_
      rintro en wz ⟨rfl, rfl⟩
      rw [← HF.out]
      go_wp2_with fail
      refine (mem_any (i := 0) (HSP.out.later HC1.out.bel) (by decide)).mono ?_
      rintro en w2 ⟨rfl, hb2⟩
      rw [← HMB.out]
      have HC2 := zh (HC1.out.later hb2)
      have HX2 := zh (HX1.out.below hb2 HX1.out.lt)
      clear k0 k5 x0 x1 hb2
      have k0 : w2.cell? ⟨kb, 0, none⟩ = some (.pointer (some ⟨S0, 0, none⟩)) := HC2.out.cell.cell 0
      have k5 : w2.cell? ⟨kb, 5, none⟩ = some (.pointer (some ⟨sb, 0, none⟩)) := HC2.out.cell.cell 5
      have x0 : w2.cell? ⟨B3, 0, none⟩ = some (.int .u8 x.op.toNat) := HX2.out.cell 0
      have x1 : w2.cell? ⟨B3, 1, none⟩ = some (.int .u32 1) := (HX2.out.cell 1).trans (congrArg (fun n : Nat => some (Value.int .u32 n)) HXA.out)
      obtain ⟨cs, hcs⟩ : ∃ cs, cs = limC MS[0]? := ⟨_, rfl⟩
      obtain ⟨a0, a1, rfl, hone⟩ : ∃ a0 a1, cs = [a0, a1] ∧ (([a0, a1] : List Value).toArray.all (·.oneCell')) = true := by
       cases hm0 : MS[0]? with
       | none => exact ⟨_, _, by rw [hcs, hm0]; rfl, by simp [Value.oneCell']⟩
       | some l => exact ⟨_, _, by rw [hcs, hm0]; rfl, by simp [Value.oneCell']⟩
      rw [← hcs]
      have HON := zh hone
      clear hcs hone
      go_wp2_with (refine wl_put (Lies.new _ _ _) [a0, a1] _ _ rfl rfl rfl rfl rfl sizeLim HON.out (fun w3 hL3 hF3 => ?_); have hb3 := below_put ((Below.refl w2.heap.size w2).alloc (Nat.le_refl _) _) hF3 (Nat.le_refl _); have HC3 := zh (HC2.out.later hb3); have HX3 := zh (HX2.out.below hb3 HX2.out.lt); clear hb3 hL3 hF3 k0 k5 x0 x1; have k0 : w3.cell? ⟨kb, 0, none⟩ = some (.pointer (some ⟨S0, 0, none⟩)) := HC3.out.cell.cell 0; have k5 : w3.cell? ⟨kb, 5, none⟩ = some (.pointer (some ⟨sb, 0, none⟩)) := HC3.out.cell.cell 5; have x0 : w3.cell? ⟨B3, 0, none⟩ = some (.int .u8 x.op.toNat) := HX3.out.cell 0; have x1 : w3.cell? ⟨B3, 1, none⟩ = some (.int .u32 1) := (HX3.out.cell 1).trans (congrArg (fun n : Nat => some (Value.int .u32 n)) HXA.out); (try simp only [Act.put]))
      have hd4 := below_drew w3
      have HC4 := zh (HC3.out.later hd4)
      have HX4 := zh (HX3.out.below hd4 HX3.out.lt)
      refine wp_region_t [(0, 1), (1, 1), (2, 1), (3, 1), (4, 1), (5, 1), (6, 1), (7, 1), (8, 1), (9, 1), (10, 1), (11, 1), (12, 0), (13, 1), (14, 1), (15, 1)] (fun w' => w'.cell? ⟨kb, 0, none⟩ = some (.pointer (some ⟨S0, 0, none⟩)) ∧ w'.cell? ⟨kb, 5, none⟩ = some (.pointer (some ⟨sb, 0, none⟩)) ∧ w'.cell? ⟨B3, 0, none⟩ = some (.int .u8 x.op.toNat) ∧ w'.cell? ⟨B3, 1, none⟩ = some (.int .u32 1)) [] [] rfl (by kernel_rfl) (by kernel_rfl) (fun _ _ d _ _ h => by cases d <;> exact h) ⟨(HC4.out.cell.cell 0), (HC4.out.cell.cell 5), (HX4.out.cell 0), ((HX4.out.cell 1).trans (congrArg (fun n : Nat => some (Value.int .u32 n)) HXA.out))⟩ (fun p hp => by cases hp) ?_
      clear k0 k5 x0 x1 hd4
      generalize w3.drew = w4 at HC4 HX4 ⊢
      repeat (first | (refine ts_take (v := ?_) rfl rfl (fun w' hw' => ?_) ?_; rotate_left; (focus (obtain ⟨q0, q1, q2, q3⟩ := hw'; (try simp only [Act.put, sA, sB, sC]); go_simp; (try go_bits); (try (with_reducible rfl)))); (try simp only [Act.put, sA, sB, sC])) | (refine ts_skip rfl rfl ?_; (try simp only [Act.put, sA, sB, sC])))
      refine ts_run rfl (fun K hK => ?_)
      refine ite_of rfl ?_
      go_simp
      refine (width_any x.op).mono ?_
      rintro en wy ⟨rfl, hwy⟩
      obtain rfl := hwy.symm
      rw [← HWD.out]
      refine hK.out _ _ ⟨(HC4.out.cell.cell 0), (HC4.out.cell.cell 5), (HX4.out.cell 0), ((HX4.out.cell 1).trans (congrArg (fun n : Nat => some (Value.int .u32 n)) HXA.out))⟩ (still_none _ _) ?_
      clear hK K
      (try simp only [Act.put, sA, sB, sC])
      repeat (first | (refine ts_take (v := ?_) rfl rfl (fun w' hw' => ?_) ?_; rotate_left; (focus (obtain ⟨q0, q1, q2, q3⟩ := hw'; (try simp only [Act.put, sA, sB, sC]); go_simp; (try go_bits); (try (with_reducible rfl)))); (try simp only [Act.put, sA, sB, sC])) | (refine ts_skip rfl rfl ?_; (try simp only [Act.put, sA, sB, sC])))
      refine ts_done ?_
      have k0 : w4.cell? ⟨kb, 0, none⟩ = some (.pointer (some ⟨S0, 0, none⟩)) := HC4.out.cell.cell 0
      have k5 : w4.cell? ⟨kb, 5, none⟩ = some (.pointer (some ⟨sb, 0, none⟩)) := HC4.out.cell.cell 5
      have x0 : w4.cell? ⟨B3, 0, none⟩ = some (.int .u8 x.op.toNat) := HX4.out.cell 0
      have x1 : w4.cell? ⟨B3, 1, none⟩ = some (.int .u32 1) := (HX4.out.cell 1).trans (congrArg (fun n : Nat => some (Value.int .u32 n)) HXA.out)
      go_wp2_with fail
      refine (sig_any x.op).mono ?_
      rintro en w5 ⟨v1, v2, bb, rfl, _, hv1, hv2, hb5⟩
      have HV1 := zh hv1
      have HV2 := zh hv2
      clear hv1 hv2
      have HC5 := zh (HC4.out.later hb5)
      have HX5 := zh (HX4.out.below hb5 HX4.out.lt)
      clear k0 k5 x0 x1 hb5
      have k0 : w5.cell? ⟨kb, 0, none⟩ = some (.pointer (some ⟨S0, 0, none⟩)) := HC5.out.cell.cell 0
      have k5 : w5.cell? ⟨kb, 5, none⟩ = some (.pointer (some ⟨sb, 0, none⟩)) := HC5.out.cell.cell 5
      have x0 : w5.cell? ⟨B3, 0, none⟩ = some (.int .u8 x.op.toNat) := HX5.out.cell 0
      have x1 : w5.cell? ⟨B3, 1, none⟩ = some (.int .u32 1) := (HX5.out.cell 1).trans (congrArg (fun n : Nat => some (Value.int .u32 n)) HXA.out)
      go_wp2_with fail
      refine (takes_any HC5.out HS.out (ps := (sigL x.op).1) (rs := (sigL x.op).2) HV1.out HV2.out (Nat.le_trans (sigL_len _).1 (by decide)) (Nat.le_trans (sigL_len _).2 (by decide))).mono ?_
      intro en wt ht
      obtain ⟨n, rfl⟩ := ht.form
      replace ht := zh ht
      go_wp2_with fail
      go_ret
      unfold stepPlain
      rw [if_neg (show ¬ (((formN x.op) = 6 ∨ (formN x.op) = 7) ∧ (spcOf m GS BS MS).mem = false) from fun h => by have := HMB.out; rw [show (spcOf m GS BS MS).mem = (MS[0]?).isSome from rfl, ← this] at h; cases h.2)]
      rw [if_neg (show ¬ ((formN x.op) = 6 ∧ (3 < x.a ∨ widthN x.op < 2 ^ x.a)) from fun h => h.2.elim (fun h => hbig h) (fun h => hw (by rw [HXA.out, ← HWD.out] at h; exact h)))]
      exact ht.out
    ·have HXA := zh h0
     by_cases hw : wd < 2 ^ 2
     ·have hlo : (wd : Int) < 4 := by omega
      go_enter Tryz.func103, Tryz.ntmps103
      go_wp2_with (refine wl_box x.cs _ rfl rfl rfl (fun w1 hb1 hl1 => ?_); have HC1 := zh (HC.out.later hb1); have HX1 := zh hl1; have HB1 := zh hb1; obtain ⟨B3, hB3⟩ : ∃ B3, B3 = w.heap.size := ⟨_, rfl⟩; rw [← hB3] at HX1 ⊢; clear hB3 hb1 hl1; have k0 : w1.cell? ⟨kb, 0, none⟩ = some (.pointer (some ⟨S0, 0, none⟩)) := HC1.out.cell.cell 0; have k5 : w1.cell? ⟨kb, 5, none⟩ = some (.pointer (some ⟨sb, 0, none⟩)) := HC1.out.cell.cell 5; have x0 : w1.cell? ⟨B3, 0, none⟩ = some (.int .u8 x.op.toNat) := HX1.out.cell 0; have x1 : w1.cell? ⟨B3, 1, none⟩ = some (.int .u32 2) := (HX1.out.cell 1).trans (congrArg (fun n : Nat => some (Value.int .u32 n)) HXA.out); (try simp only [Act.put, sA, sB, sC]))
      refine (form_any x.op).mono ?_
      rintro en wz ⟨rfl, rfl⟩
      rw [← HF.out]
      go_wp2_with fail
      refine (mem_any (i := 0) (HSP.out.later HC1.out.bel) (by decide)).mono ?_
      rintro en w2 ⟨rfl, hb2⟩
      rw [← HMB.out]
      have HC2 := zh (HC1.out.later hb2)
      have HX2 := zh (HX1.out.below hb2 HX1.out.lt)
      clear k0 k5 x0 x1 hb2
      have k0 : w2.cell? ⟨kb, 0, none⟩ = some (.pointer (some ⟨S0, 0, none⟩)) := HC2.out.cell.cell 0
      have k5 : w2.cell? ⟨kb, 5, none⟩ = some (.pointer (some ⟨sb, 0, none⟩)) := HC2.out.cell.cell 5
      have x0 : w2.cell? ⟨B3, 0, none⟩ = some (.int .u8 x.op.toNat) := HX2.out.cell 0
      have x1 : w2.cell? ⟨B3, 1, none⟩ = some (.int .u32 2) := (HX2.out.cell 1).trans (congrArg (fun n : Nat => some (Value.int .u32 n)) HXA.out)
      obtain ⟨cs, hcs⟩ : ∃ cs, cs = limC MS[0]? := ⟨_, rfl⟩
      obtain ⟨a0, a1, rfl, hone⟩ : ∃ a0 a1, cs = [a0, a1] ∧ (([a0, a1] : List Value).toArray.all (·.oneCell')) = true := by
       cases hm0 : MS[0]? with
       | none => exact ⟨_, _, by rw [hcs, hm0]; rfl, by simp [Value.oneCell']⟩
       | some l => exact ⟨_, _, by rw [hcs, hm0]; rfl, by simp [Value.oneCell']⟩
      rw [← hcs]
      have HON := zh hone
      clear hcs hone
      go_wp2_with (refine wl_put (Lies.new _ _ _) [a0, a1] _ _ rfl rfl rfl rfl rfl sizeLim HON.out (fun w3 hL3 hF3 => ?_); have hb3 := below_put ((Below.refl w2.heap.size w2).alloc (Nat.le_refl _) _) hF3 (Nat.le_refl _); have HC3 := zh (HC2.out.later hb3); have HX3 := zh (HX2.out.below hb3 HX2.out.lt); clear hb3 hL3 hF3 k0 k5 x0 x1; have k0 : w3.cell? ⟨kb, 0, none⟩ = some (.pointer (some ⟨S0, 0, none⟩)) := HC3.out.cell.cell 0; have k5 : w3.cell? ⟨kb, 5, none⟩ = some (.pointer (some ⟨sb, 0, none⟩)) := HC3.out.cell.cell 5; have x0 : w3.cell? ⟨B3, 0, none⟩ = some (.int .u8 x.op.toNat) := HX3.out.cell 0; have x1 : w3.cell? ⟨B3, 1, none⟩ = some (.int .u32 2) := (HX3.out.cell 1).trans (congrArg (fun n : Nat => some (Value.int .u32 n)) HXA.out); (try simp only [Act.put]))
      have hd4 := below_drew w3
      have HC4 := zh (HC3.out.later hd4)
      have HX4 := zh (HX3.out.below hd4 HX3.out.lt)
      refine wp_region_t [(0, 1), (1, 1), (2, 1), (3, 1), (4, 1), (5, 1), (6, 1), (7, 1), (8, 1), (9, 1), (10, 1), (11, 1), (12, 0), (13, 1), (14, 1), (15, 1)] (fun w' => w'.cell? ⟨kb, 0, none⟩ = some (.pointer (some ⟨S0, 0, none⟩)) ∧ w'.cell? ⟨kb, 5, none⟩ = some (.pointer (some ⟨sb, 0, none⟩)) ∧ w'.cell? ⟨B3, 0, none⟩ = some (.int .u8 x.op.toNat) ∧ w'.cell? ⟨B3, 1, none⟩ = some (.int .u32 2)) [] [] rfl (by kernel_rfl) (by kernel_rfl) (fun _ _ d _ _ h => by cases d <;> exact h) ⟨(HC4.out.cell.cell 0), (HC4.out.cell.cell 5), (HX4.out.cell 0), ((HX4.out.cell 1).trans (congrArg (fun n : Nat => some (Value.int .u32 n)) HXA.out))⟩ (fun p hp => by cases hp) ?_
      clear k0 k5 x0 x1 hd4
      generalize w3.drew = w4 at HC4 HX4 ⊢
      repeat (first | (refine ts_take (v := ?_) rfl rfl (fun w' hw' => ?_) ?_; rotate_left; (focus (obtain ⟨q0, q1, q2, q3⟩ := hw'; (try simp only [Act.put, sA, sB, sC]); go_simp; (try go_bits); (try (with_reducible rfl)))); (try simp only [Act.put, sA, sB, sC])) | (refine ts_skip rfl rfl ?_; (try simp only [Act.put, sA, sB, sC])))
      refine ts_run rfl (fun K hK => ?_)
      refine ite_of rfl ?_
      go_simp
      refine (width_any x.op).mono ?_
      rintro en wy ⟨rfl, hwy⟩
      obtain rfl := hwy.symm
      rw [← HWD.out]
      refine hK.out _ _ ⟨(HC4.out.cell.cell 0), (HC4.out.cell.cell 5), (HX4.out.cell 0), ((HX4.out.cell 1).trans (congrArg (fun n : Nat => some (Value.int .u32 n)) HXA.out))⟩ (still_none _ _) ?_
      clear hK K
      (try simp only [Act.put, sA, sB, sC])
      repeat (first | (refine ts_take (v := ?_) rfl rfl (fun w' hw' => ?_) ?_; rotate_left; (focus (obtain ⟨q0, q1, q2, q3⟩ := hw'; (try simp only [Act.put, sA, sB, sC]); go_simp; (try go_bits); (try (with_reducible rfl)))); (try simp only [Act.put, sA, sB, sC])) | (refine ts_skip rfl rfl ?_; (try simp only [Act.put, sA, sB, sC])))
      refine ts_done ?_
      have k0 : w4.cell? ⟨kb, 0, none⟩ = some (.pointer (some ⟨S0, 0, none⟩)) := HC4.out.cell.cell 0
      have k5 : w4.cell? ⟨kb, 5, none⟩ = some (.pointer (some ⟨sb, 0, none⟩)) := HC4.out.cell.cell 5
      have x0 : w4.cell? ⟨B3, 0, none⟩ = some (.int .u8 x.op.toNat) := HX4.out.cell 0
      have x1 : w4.cell? ⟨B3, 1, none⟩ = some (.int .u32 2) := (HX4.out.cell 1).trans (congrArg (fun n : Nat => some (Value.int .u32 n)) HXA.out)
      go_wp2_with fail
      go_ret
      unfold stepPlain
      rw [if_neg (show ¬ (((formN x.op) = 6 ∨ (formN x.op) = 7) ∧ (spcOf m GS BS MS).mem = false) from fun h => by have := HMB.out; rw [show (spcOf m GS BS MS).mem = (MS[0]?).isSome from rfl, ← this] at h; cases h.2)]
      rw [if_pos (show (formN x.op) = 6 ∧ (3 < x.a ∨ widthN x.op < 2 ^ x.a) from ⟨HFN.out.elim id (fun h => by have := HF.out; rw [h] at this; cases this), Or.inr (by rw [HXA.out, ← HWD.out]; exact hw)⟩)]
      exact ⟨rfl, HC4.out.bel⟩
     ·have hlo : ¬ (wd : Int) < 4 := by omega
      go_enter Tryz.func103, Tryz.ntmps103
      go_wp2_with (refine wl_box x.cs _ rfl rfl rfl (fun w1 hb1 hl1 => ?_); have HC1 := zh (HC.out.later hb1); have HX1 := zh hl1; have HB1 := zh hb1; obtain ⟨B3, hB3⟩ : ∃ B3, B3 = w.heap.size := ⟨_, rfl⟩; rw [← hB3] at HX1 ⊢; clear hB3 hb1 hl1; have k0 : w1.cell? ⟨kb, 0, none⟩ = some (.pointer (some ⟨S0, 0, none⟩)) := HC1.out.cell.cell 0; have k5 : w1.cell? ⟨kb, 5, none⟩ = some (.pointer (some ⟨sb, 0, none⟩)) := HC1.out.cell.cell 5; have x0 : w1.cell? ⟨B3, 0, none⟩ = some (.int .u8 x.op.toNat) := HX1.out.cell 0; have x1 : w1.cell? ⟨B3, 1, none⟩ = some (.int .u32 2) := (HX1.out.cell 1).trans (congrArg (fun n : Nat => some (Value.int .u32 n)) HXA.out); (try simp only [Act.put, sA, sB, sC]))
      refine (form_any x.op).mono ?_
      rintro en wz ⟨rfl, rfl⟩
      rw [← HF.out]
      go_wp2_with fail
      refine (mem_any (i := 0) (HSP.out.later HC1.out.bel) (by decide)).mono ?_
      rintro en w2 ⟨rfl, hb2⟩
      rw [← HMB.out]
      have HC2 := zh (HC1.out.later hb2)
      have HX2 := zh (HX1.out.below hb2 HX1.out.lt)
      clear k0 k5 x0 x1 hb2
      have k0 : w2.cell? ⟨kb, 0, none⟩ = some (.pointer (some ⟨S0, 0, none⟩)) := HC2.out.cell.cell 0
      have k5 : w2.cell? ⟨kb, 5, none⟩ = some (.pointer (some ⟨sb, 0, none⟩)) := HC2.out.cell.cell 5
      have x0 : w2.cell? ⟨B3, 0, none⟩ = some (.int .u8 x.op.toNat) := HX2.out.cell 0
      have x1 : w2.cell? ⟨B3, 1, none⟩ = some (.int .u32 2) := (HX2.out.cell 1).trans (congrArg (fun n : Nat => some (Value.int .u32 n)) HXA.out)
      obtain ⟨cs, hcs⟩ : ∃ cs, cs = limC MS[0]? := ⟨_, rfl⟩
      obtain ⟨a0, a1, rfl, hone⟩ : ∃ a0 a1, cs = [a0, a1] ∧ (([a0, a1] : List Value).toArray.all (·.oneCell')) = true := by
       cases hm0 : MS[0]? with
       | none => exact ⟨_, _, by rw [hcs, hm0]; rfl, by simp [Value.oneCell']⟩
       | some l => exact ⟨_, _, by rw [hcs, hm0]; rfl, by simp [Value.oneCell']⟩
      rw [← hcs]
      have HON := zh hone
      clear hcs hone
      go_wp2_with (refine wl_put (Lies.new _ _ _) [a0, a1] _ _ rfl rfl rfl rfl rfl sizeLim HON.out (fun w3 hL3 hF3 => ?_); have hb3 := below_put ((Below.refl w2.heap.size w2).alloc (Nat.le_refl _) _) hF3 (Nat.le_refl _); have HC3 := zh (HC2.out.later hb3); have HX3 := zh (HX2.out.below hb3 HX2.out.lt); clear hb3 hL3 hF3 k0 k5 x0 x1; have k0 : w3.cell? ⟨kb, 0, none⟩ = some (.pointer (some ⟨S0, 0, none⟩)) := HC3.out.cell.cell 0; have k5 : w3.cell? ⟨kb, 5, none⟩ = some (.pointer (some ⟨sb, 0, none⟩)) := HC3.out.cell.cell 5; have x0 : w3.cell? ⟨B3, 0, none⟩ = some (.int .u8 x.op.toNat) := HX3.out.cell 0; have x1 : w3.cell? ⟨B3, 1, none⟩ = some (.int .u32 2) := (HX3.out.cell 1).trans (congrArg (fun n : Nat => some (Value.int .u32 n)) HXA.out); (try simp only [Act.put]))
      have hd4 := below_drew w3
      have HC4 := zh (HC3.out.later hd4)
      have HX4 := zh (HX3.out.below hd4 HX3.out.lt)
      refine wp_region_t [(0, 1), (1, 1), (2, 1), (3, 1), (4, 1), (5, 1), (6, 1), (7, 1), (8, 1), (9, 1), (10, 1), (11, 1), (12, 0), (13, 1), (14, 1), (15, 1)] (fun w' => w'.cell? ⟨kb, 0, none⟩ = some (.pointer (some ⟨S0, 0, none⟩)) ∧ w'.cell? ⟨kb, 5, none⟩ = some (.pointer (some ⟨sb, 0, none⟩)) ∧ w'.cell? ⟨B3, 0, none⟩ = some (.int .u8 x.op.toNat) ∧ w'.cell? ⟨B3, 1, none⟩ = some (.int .u32 2)) [] [] rfl (by kernel_rfl) (by kernel_rfl) (fun _ _ d _ _ h => by cases d <;> exact h) ⟨(HC4.out.cell.cell 0), (HC4.out.cell.cell 5), (HX4.out.cell 0), ((HX4.out.cell 1).trans (congrArg (fun n : Nat => some (Value.int .u32 n)) HXA.out))⟩ (fun p hp => by cases hp) ?_
      clear k0 k5 x0 x1 hd4
      generalize w3.drew = w4 at HC4 HX4 ⊢
      repeat (first | (refine ts_take (v := ?_) rfl rfl (fun w' hw' => ?_) ?_; rotate_left; (focus (obtain ⟨q0, q1, q2, q3⟩ := hw'; (try simp only [Act.put, sA, sB, sC]); go_simp; (try go_bits); (try (with_reducible rfl)))); (try simp only [Act.put, sA, sB, sC])) | (refine ts_skip rfl rfl ?_; (try simp only [Act.put, sA, sB, sC])))
      refine ts_run rfl (fun K hK => ?_)
      refine ite_of rfl ?_
      go_simp
      refine (width_any x.op).mono ?_
      rintro en wy ⟨rfl, hwy⟩
      obtain rfl := hwy.symm
      rw [← HWD.out]
      refine hK.out _ _ ⟨(HC4.out.cell.cell 0), (HC4.out.cell.cell 5), (HX4.out.cell 0), ((HX4.out.cell 1).trans (congrArg (fun n : Nat => some (Value.int .u32 n)) HXA.out))⟩ (still_none _ _) ?_
      clear hK K
      (try simp only [Act.put, sA, sB, sC])
      repeat (first | (refine ts_take (v := ?_) rfl rfl (fun w' hw' => ?_) ?_; rotate_left; (focus (obtain ⟨q0, q1, q2, q3⟩ := hw'; (try simp only [Act.put, sA, sB, sC]); go_simp; (try go_bits); (try (with_reducible rfl)))); (try simp only [Act.put, sA, sB, sC])) | (refine ts_skip rfl rfl ?_; (try simp only [Act.put, sA, sB, sC])))
      refine ts_done ?_
      have k0 : w4.cell? ⟨kb, 0, none⟩ = some (.pointer (some ⟨S0, 0, none⟩)) := HC4.out.cell.cell 0
      have k5 : w4.cell? ⟨kb, 5, none⟩ = some (.pointer (some ⟨sb, 0, none⟩)) := HC4.out.cell.cell 5
      have x0 : w4.cell? ⟨B3, 0, none⟩ = some (.int .u8 x.op.toNat) := HX4.out.cell 0
      have x1 : w4.cell? ⟨B3, 1, none⟩ = some (.int .u32 2) := (HX4.out.cell 1).trans (congrArg (fun n : Nat => some (Value.int .u32 n)) HXA.out)
      go_wp2_with fail
      refine (sig_any x.op).mono ?_
      rintro en w5 ⟨v1, v2, bb, rfl, _, hv1, hv2, hb5⟩
      have HV1 := zh hv1
      have HV2 := zh hv2
      clear hv1 hv2
      have HC5 := zh (HC4.out.later hb5)
      have HX5 := zh (HX4.out.below hb5 HX4.out.lt)
      clear k0 k5 x0 x1 hb5
      have k0 : w5.cell? ⟨kb, 0, none⟩ = some (.pointer (some ⟨S0, 0, none⟩)) := HC5.out.cell.cell 0
      have k5 : w5.cell? ⟨kb, 5, none⟩ = some (.pointer (some ⟨sb, 0, none⟩)) := HC5.out.cell.cell 5
      have x0 : w5.cell? ⟨B3, 0, none⟩ = some (.int .u8 x.op.toNat) := HX5.out.cell 0
      have x1 : w5.cell? ⟨B3, 1, none⟩ = some (.int .u32 2) := (HX5.out.cell 1).trans (congrArg (fun n : Nat => some (Value.int .u32 n)) HXA.out)
      go_wp2_with fail
      refine (takes_any HC5.out HS.out (ps := (sigL x.op).1) (rs := (sigL x.op).2) HV1.out HV2.out (Nat.le_trans (sigL_len _).1 (by decide)) (Nat.le_trans (sigL_len _).2 (by decide))).mono ?_
      intro en wt ht
      obtain ⟨n, rfl⟩ := ht.form
      replace ht := zh ht
      go_wp2_with fail
      go_ret
      unfold stepPlain
      rw [if_neg (show ¬ (((formN x.op) = 6 ∨ (formN x.op) = 7) ∧ (spcOf m GS BS MS).mem = false) from fun h => by have := HMB.out; rw [show (spcOf m GS BS MS).mem = (MS[0]?).isSome from rfl, ← this] at h; cases h.2)]
      rw [if_neg (show ¬ ((formN x.op) = 6 ∧ (3 < x.a ∨ widthN x.op < 2 ^ x.a)) from fun h => h.2.elim (fun h => hbig h) (fun h => hw (by rw [HXA.out, ← HWD.out] at h; exact h)))]
      exact ht.out
    ·have HXA := zh h0
     by_cases hw : wd < 2 ^ 3
     ·have hlo : (wd : Int) < 8 := by omega
      go_enter Tryz.func103, Tryz.ntmps103
      go_wp2_with (refine wl_box x.cs _ rfl rfl rfl (fun w1 hb1 hl1 => ?_); have HC1 := zh (HC.out.later hb1); have HX1 := zh hl1; have HB1 := zh hb1; obtain ⟨B3, hB3⟩ : ∃ B3, B3 = w.heap.size := ⟨_, rfl⟩; rw [← hB3] at HX1 ⊢; clear hB3 hb1 hl1; have k0 : w1.cell? ⟨kb, 0, none⟩ = some (.pointer (some ⟨S0, 0, none⟩)) := HC1.out.cell.cell 0; have k5 : w1.cell? ⟨kb, 5, none⟩ = some (.pointer (some ⟨sb, 0, none⟩)) := HC1.out.cell.cell 5; have x0 : w1.cell? ⟨B3, 0, none⟩ = some (.int .u8 x.op.toNat) := HX1.out.cell 0; have x1 : w1.cell? ⟨B3, 1, none⟩ = some (.int .u32 3) := (HX1.out.cell 1).trans (congrArg (fun n : Nat => some (Value.int .u32 n)) HXA.out); (try simp only [Act.put, sA, sB, sC]))
      refine (form_any x.op).mono ?_
      rintro en wz ⟨rfl, rfl⟩
      rw [← HF.out]
      go_wp2_with fail
      refine (mem_any (i := 0) (HSP.out.later HC1.out.bel) (by decide)).mono ?_
      rintro en w2 ⟨rfl, hb2⟩
      rw [← HMB.out]
      have HC2 := zh (HC1.out.later hb2)
      have HX2 := zh (HX1.out.below hb2 HX1.out.lt)
      clear k0 k5 x0 x1 hb2
      have k0 : w2.cell? ⟨kb, 0, none⟩ = some (.pointer (some ⟨S0, 0, none⟩)) := HC2.out.cell.cell 0
      have k5 : w2.cell? ⟨kb, 5, none⟩ = some (.pointer (some ⟨sb, 0, none⟩)) := HC2.out.cell.cell 5
      have x0 : w2.cell? ⟨B3, 0, none⟩ = some (.int .u8 x.op.toNat) := HX2.out.cell 0
      have x1 : w2.cell? ⟨B3, 1, none⟩ = some (.int .u32 3) := (HX2.out.cell 1).trans (congrArg (fun n : Nat => some (Value.int .u32 n)) HXA.out)
      obtain ⟨cs, hcs⟩ : ∃ cs, cs = limC MS[0]? := ⟨_, rfl⟩
      obtain ⟨a0, a1, rfl, hone⟩ : ∃ a0 a1, cs = [a0, a1] ∧ (([a0, a1] : List Value).toArray.all (·.oneCell')) = true := by
       cases hm0 : MS[0]? with
       | none => exact ⟨_, _, by rw [hcs, hm0]; rfl, by simp [Value.oneCell']⟩
       | some l => exact ⟨_, _, by rw [hcs, hm0]; rfl, by simp [Value.oneCell']⟩
      rw [← hcs]
      have HON := zh hone
      clear hcs hone
      go_wp2_with (refine wl_put (Lies.new _ _ _) [a0, a1] _ _ rfl rfl rfl rfl rfl sizeLim HON.out (fun w3 hL3 hF3 => ?_); have hb3 := below_put ((Below.refl w2.heap.size w2).alloc (Nat.le_refl _) _) hF3 (Nat.le_refl _); have HC3 := zh (HC2.out.later hb3); have HX3 := zh (HX2.out.below hb3 HX2.out.lt); clear hb3 hL3 hF3 k0 k5 x0 x1; have k0 : w3.cell? ⟨kb, 0, none⟩ = some (.pointer (some ⟨S0, 0, none⟩)) := HC3.out.cell.cell 0; have k5 : w3.cell? ⟨kb, 5, none⟩ = some (.pointer (some ⟨sb, 0, none⟩)) := HC3.out.cell.cell 5; have x0 : w3.cell? ⟨B3, 0, none⟩ = some (.int .u8 x.op.toNat) := HX3.out.cell 0; have x1 : w3.cell? ⟨B3, 1, none⟩ = some (.int .u32 3) := (HX3.out.cell 1).trans (congrArg (fun n : Nat => some (Value.int .u32 n)) HXA.out); (try simp only [Act.put]))
      have hd4 := below_drew w3
      have HC4 := zh (HC3.out.later hd4)
      have HX4 := zh (HX3.out.below hd4 HX3.out.lt)
      refine wp_region_t [(0, 1), (1, 1), (2, 1), (3, 1), (4, 1), (5, 1), (6, 1), (7, 1), (8, 1), (9, 1), (10, 1), (11, 1), (12, 0), (13, 1), (14, 1), (15, 1)] (fun w' => w'.cell? ⟨kb, 0, none⟩ = some (.pointer (some ⟨S0, 0, none⟩)) ∧ w'.cell? ⟨kb, 5, none⟩ = some (.pointer (some ⟨sb, 0, none⟩)) ∧ w'.cell? ⟨B3, 0, none⟩ = some (.int .u8 x.op.toNat) ∧ w'.cell? ⟨B3, 1, none⟩ = some (.int .u32 3)) [] [] rfl (by kernel_rfl) (by kernel_rfl) (fun _ _ d _ _ h => by cases d <;> exact h) ⟨(HC4.out.cell.cell 0), (HC4.out.cell.cell 5), (HX4.out.cell 0), ((HX4.out.cell 1).trans (congrArg (fun n : Nat => some (Value.int .u32 n)) HXA.out))⟩ (fun p hp => by cases hp) ?_
      clear k0 k5 x0 x1 hd4
      generalize w3.drew = w4 at HC4 HX4 ⊢
      repeat (first | (refine ts_take (v := ?_) rfl rfl (fun w' hw' => ?_) ?_; rotate_left; (focus (obtain ⟨q0, q1, q2, q3⟩ := hw'; (try simp only [Act.put, sA, sB, sC]); go_simp; (try go_bits); (try (with_reducible rfl)))); (try simp only [Act.put, sA, sB, sC])) | (refine ts_skip rfl rfl ?_; (try simp only [Act.put, sA, sB, sC])))
      refine ts_run rfl (fun K hK => ?_)
      refine ite_of rfl ?_
      go_simp
      refine (width_any x.op).mono ?_
      rintro en wy ⟨rfl, hwy⟩
      obtain rfl := hwy.symm
      rw [← HWD.out]
      refine hK.out _ _ ⟨(HC4.out.cell.cell 0), (HC4.out.cell.cell 5), (HX4.out.cell 0), ((HX4.out.cell 1).trans (congrArg (fun n : Nat => some (Value.int .u32 n)) HXA.out))⟩ (still_none _ _) ?_
      clear hK K
      (try simp only [Act.put, sA, sB, sC])
      repeat (first | (refine ts_take (v := ?_) rfl rfl (fun w' hw' => ?_) ?_; rotate_left; (focus (obtain ⟨q0, q1, q2, q3⟩ := hw'; (try simp only [Act.put, sA, sB, sC]); go_simp; (try go_bits); (try (with_reducible rfl)))); (try simp only [Act.put, sA, sB, sC])) | (refine ts_skip rfl rfl ?_; (try simp only [Act.put, sA, sB, sC])))
      refine ts_done ?_
      have k0 : w4.cell? ⟨kb, 0, none⟩ = some (.pointer (some ⟨S0, 0, none⟩)) := HC4.out.cell.cell 0
      have k5 : w4.cell? ⟨kb, 5, none⟩ = some (.pointer (some ⟨sb, 0, none⟩)) := HC4.out.cell.cell 5
      have x0 : w4.cell? ⟨B3, 0, none⟩ = some (.int .u8 x.op.toNat) := HX4.out.cell 0
      have x1 : w4.cell? ⟨B3, 1, none⟩ = some (.int .u32 3) := (HX4.out.cell 1).trans (congrArg (fun n : Nat => some (Value.int .u32 n)) HXA.out)
      go_wp2_with fail
      go_ret
      unfold stepPlain
      rw [if_neg (show ¬ (((formN x.op) = 6 ∨ (formN x.op) = 7) ∧ (spcOf m GS BS MS).mem = false) from fun h => by have := HMB.out; rw [show (spcOf m GS BS MS).mem = (MS[0]?).isSome from rfl, ← this] at h; cases h.2)]
      rw [if_pos (show (formN x.op) = 6 ∧ (3 < x.a ∨ widthN x.op < 2 ^ x.a) from ⟨HFN.out.elim id (fun h => by have := HF.out; rw [h] at this; cases this), Or.inr (by rw [HXA.out, ← HWD.out]; exact hw)⟩)]
      exact ⟨rfl, HC4.out.bel⟩
     ·have hlo : ¬ (wd : Int) < 8 := by omega
      go_enter Tryz.func103, Tryz.ntmps103
      go_wp2_with (refine wl_box x.cs _ rfl rfl rfl (fun w1 hb1 hl1 => ?_); have HC1 := zh (HC.out.later hb1); have HX1 := zh hl1; have HB1 := zh hb1; obtain ⟨B3, hB3⟩ : ∃ B3, B3 = w.heap.size := ⟨_, rfl⟩; rw [← hB3] at HX1 ⊢; clear hB3 hb1 hl1; have k0 : w1.cell? ⟨kb, 0, none⟩ = some (.pointer (some ⟨S0, 0, none⟩)) := HC1.out.cell.cell 0; have k5 : w1.cell? ⟨kb, 5, none⟩ = some (.pointer (some ⟨sb, 0, none⟩)) := HC1.out.cell.cell 5; have x0 : w1.cell? ⟨B3, 0, none⟩ = some (.int .u8 x.op.toNat) := HX1.out.cell 0; have x1 : w1.cell? ⟨B3, 1, none⟩ = some (.int .u32 3) := (HX1.out.cell 1).trans (congrArg (fun n : Nat => some (Value.int .u32 n)) HXA.out); (try simp only [Act.put, sA, sB, sC]))
      refine (form_any x.op).mono ?_
      rintro en wz ⟨rfl, rfl⟩
      rw [← HF.out]
      go_wp2_with fail
      refine (mem_any (i := 0) (HSP.out.later HC1.out.bel) (by decide)).mono ?_
      rintro en w2 ⟨rfl, hb2⟩
      rw [← HMB.out]
      have HC2 := zh (HC1.out.later hb2)
      have HX2 := zh (HX1.out.below hb2 HX1.out.lt)
      clear k0 k5 x0 x1 hb2
      have k0 : w2.cell? ⟨kb, 0, none⟩ = some (.pointer (some ⟨S0, 0, none⟩)) := HC2.out.cell.cell 0
      have k5 : w2.cell? ⟨kb, 5, none⟩ = some (.pointer (some ⟨sb, 0, none⟩)) := HC2.out.cell.cell 5
      have x0 : w2.cell? ⟨B3, 0, none⟩ = some (.int .u8 x.op.toNat) := HX2.out.cell 0
      have x1 : w2.cell? ⟨B3, 1, none⟩ = some (.int .u32 3) := (HX2.out.cell 1).trans (congrArg (fun n : Nat => some (Value.int .u32 n)) HXA.out)
      obtain ⟨cs, hcs⟩ : ∃ cs, cs = limC MS[0]? := ⟨_, rfl⟩
      obtain ⟨a0, a1, rfl, hone⟩ : ∃ a0 a1, cs = [a0, a1] ∧ (([a0, a1] : List Value).toArray.all (·.oneCell')) = true := by
       cases hm0 : MS[0]? with
       | none => exact ⟨_, _, by rw [hcs, hm0]; rfl, by simp [Value.oneCell']⟩
       | some l => exact ⟨_, _, by rw [hcs, hm0]; rfl, by simp [Value.oneCell']⟩
      rw [← hcs]
      have HON := zh hone
      clear hcs hone
      go_wp2_with (refine wl_put (Lies.new _ _ _) [a0, a1] _ _ rfl rfl rfl rfl rfl sizeLim HON.out (fun w3 hL3 hF3 => ?_); have hb3 := below_put ((Below.refl w2.heap.size w2).alloc (Nat.le_refl _) _) hF3 (Nat.le_refl _); have HC3 := zh (HC2.out.later hb3); have HX3 := zh (HX2.out.below hb3 HX2.out.lt); clear hb3 hL3 hF3 k0 k5 x0 x1; have k0 : w3.cell? ⟨kb, 0, none⟩ = some (.pointer (some ⟨S0, 0, none⟩)) := HC3.out.cell.cell 0; have k5 : w3.cell? ⟨kb, 5, none⟩ = some (.pointer (some ⟨sb, 0, none⟩)) := HC3.out.cell.cell 5; have x0 : w3.cell? ⟨B3, 0, none⟩ = some (.int .u8 x.op.toNat) := HX3.out.cell 0; have x1 : w3.cell? ⟨B3, 1, none⟩ = some (.int .u32 3) := (HX3.out.cell 1).trans (congrArg (fun n : Nat => some (Value.int .u32 n)) HXA.out); (try simp only [Act.put]))
      have hd4 := below_drew w3
      have HC4 := zh (HC3.out.later hd4)
      have HX4 := zh (HX3.out.below hd4 HX3.out.lt)
      refine wp_region_t [(0, 1), (1, 1), (2, 1), (3, 1), (4, 1), (5, 1), (6, 1), (7, 1), (8, 1), (9, 1), (10, 1), (11, 1), (12, 0), (13, 1), (14, 1), (15, 1)] (fun w' => w'.cell? ⟨kb, 0, none⟩ = some (.pointer (some ⟨S0, 0, none⟩)) ∧ w'.cell? ⟨kb, 5, none⟩ = some (.pointer (some ⟨sb, 0, none⟩)) ∧ w'.cell? ⟨B3, 0, none⟩ = some (.int .u8 x.op.toNat) ∧ w'.cell? ⟨B3, 1, none⟩ = some (.int .u32 3)) [] [] rfl (by kernel_rfl) (by kernel_rfl) (fun _ _ d _ _ h => by cases d <;> exact h) ⟨(HC4.out.cell.cell 0), (HC4.out.cell.cell 5), (HX4.out.cell 0), ((HX4.out.cell 1).trans (congrArg (fun n : Nat => some (Value.int .u32 n)) HXA.out))⟩ (fun p hp => by cases hp) ?_
      clear k0 k5 x0 x1 hd4
      generalize w3.drew = w4 at HC4 HX4 ⊢
      repeat (first | (refine ts_take (v := ?_) rfl rfl (fun w' hw' => ?_) ?_; rotate_left; (focus (obtain ⟨q0, q1, q2, q3⟩ := hw'; (try simp only [Act.put, sA, sB, sC]); go_simp; (try go_bits); (try (with_reducible rfl)))); (try simp only [Act.put, sA, sB, sC])) | (refine ts_skip rfl rfl ?_; (try simp only [Act.put, sA, sB, sC])))
      refine ts_run rfl (fun K hK => ?_)
      refine ite_of rfl ?_
      go_simp
      refine (width_any x.op).mono ?_
      rintro en wy ⟨rfl, hwy⟩
      obtain rfl := hwy.symm
      rw [← HWD.out]
      refine hK.out _ _ ⟨(HC4.out.cell.cell 0), (HC4.out.cell.cell 5), (HX4.out.cell 0), ((HX4.out.cell 1).trans (congrArg (fun n : Nat => some (Value.int .u32 n)) HXA.out))⟩ (still_none _ _) ?_
      clear hK K
      (try simp only [Act.put, sA, sB, sC])
      repeat (first | (refine ts_take (v := ?_) rfl rfl (fun w' hw' => ?_) ?_; rotate_left; (focus (obtain ⟨q0, q1, q2, q3⟩ := hw'; (try simp only [Act.put, sA, sB, sC]); go_simp; (try go_bits); (try (with_reducible rfl)))); (try simp only [Act.put, sA, sB, sC])) | (refine ts_skip rfl rfl ?_; (try simp only [Act.put, sA, sB, sC])))
      refine ts_done ?_
      have k0 : w4.cell? ⟨kb, 0, none⟩ = some (.pointer (some ⟨S0, 0, none⟩)) := HC4.out.cell.cell 0
      have k5 : w4.cell? ⟨kb, 5, none⟩ = some (.pointer (some ⟨sb, 0, none⟩)) := HC4.out.cell.cell 5
      have x0 : w4.cell? ⟨B3, 0, none⟩ = some (.int .u8 x.op.toNat) := HX4.out.cell 0
      have x1 : w4.cell? ⟨B3, 1, none⟩ = some (.int .u32 3) := (HX4.out.cell 1).trans (congrArg (fun n : Nat => some (Value.int .u32 n)) HXA.out)
      go_wp2_with fail
      refine (sig_any x.op).mono ?_
      rintro en w5 ⟨v1, v2, bb, rfl, _, hv1, hv2, hb5⟩
      have HV1 := zh hv1
      have HV2 := zh hv2
      clear hv1 hv2
      have HC5 := zh (HC4.out.later hb5)
      have HX5 := zh (HX4.out.below hb5 HX4.out.lt)
      clear k0 k5 x0 x1 hb5
      have k0 : w5.cell? ⟨kb, 0, none⟩ = some (.pointer (some ⟨S0, 0, none⟩)) := HC5.out.cell.cell 0
      have k5 : w5.cell? ⟨kb, 5, none⟩ = some (.pointer (some ⟨sb, 0, none⟩)) := HC5.out.cell.cell 5
      have x0 : w5.cell? ⟨B3, 0, none⟩ = some (.int .u8 x.op.toNat) := HX5.out.cell 0
      have x1 : w5.cell? ⟨B3, 1, none⟩ = some (.int .u32 3) := (HX5.out.cell 1).trans (congrArg (fun n : Nat => some (Value.int .u32 n)) HXA.out)
      go_wp2_with fail
      refine (takes_any HC5.out HS.out (ps := (sigL x.op).1) (rs := (sigL x.op).2) HV1.out HV2.out (Nat.le_trans (sigL_len _).1 (by decide)) (Nat.le_trans (sigL_len _).2 (by decide))).mono ?_
      intro en wt ht
      obtain ⟨n, rfl⟩ := ht.form
      replace ht := zh ht
      go_wp2_with fail
      go_ret
      unfold stepPlain
      rw [if_neg (show ¬ (((formN x.op) = 6 ∨ (formN x.op) = 7) ∧ (spcOf m GS BS MS).mem = false) from fun h => by have := HMB.out; rw [show (spcOf m GS BS MS).mem = (MS[0]?).isSome from rfl, ← this] at h; cases h.2)]
      rw [if_neg (show ¬ ((formN x.op) = 6 ∧ (3 < x.a ∨ widthN x.op < 2 ^ x.a)) from fun h => h.2.elim (fun h => hbig h) (fun h => hw (by rw [HXA.out, ← HWD.out] at h; exact h)))]
      exact ht.out
 ·by_cases h7 : f = 7
  ·subst h7
   have HFN := zh (show (formN x.op) = 6 ∨ (formN x.op) = 7 from Or.inr (by rw [← UInt8.toNat_inj]; have := HF.out; show _ = 7; omega))
   cases mb with
   | false =>
    go_enter Tryz.func103, Tryz.ntmps103
    go_wp2_with (refine wl_box x.cs _ rfl rfl rfl (fun w1 hb1 hl1 => ?_); have HC1 := zh (HC.out.later hb1); have HX1 := zh hl1; have HB1 := zh hb1; obtain ⟨B3, hB3⟩ : ∃ B3, B3 = w.heap.size := ⟨_, rfl⟩; rw [← hB3] at HX1 ⊢; clear hB3 hb1 hl1; have k0 : w1.cell? ⟨kb, 0, none⟩ = some (.pointer (some ⟨S0, 0, none⟩)) := HC1.out.cell.cell 0; have k5 : w1.cell? ⟨kb, 5, none⟩ = some (.pointer (some ⟨sb, 0, none⟩)) := HC1.out.cell.cell 5; have x0 : w1.cell? ⟨B3, 0, none⟩ = some (.int .u8 x.op.toNat) := HX1.out.cell 0; have x1 : w1.cell? ⟨B3, 1, none⟩ = some (.int .u32 x.a) := HX1.out.cell 1; (try simp only [Act.put, sA, sB, sC]))
    refine (form_any x.op).mono ?_
    rintro en wz ⟨rfl, rfl⟩
    rw [← HF.out]
    go_wp2_with fail
    refine (mem_any (i := 0) (HSP.out.later HC1.out.bel) (by decide)).mono ?_
    rintro en w2 ⟨rfl, hb2⟩
    rw [← HMB.out]
    have HC2 := zh (HC1.out.later hb2)
    have HX2 := zh (HX1.out.below hb2 HX1.out.lt)
    clear k0 k5 x0 x1 hb2
    have k0 : w2.cell? ⟨kb, 0, none⟩ = some (.pointer (some ⟨S0, 0, none⟩)) := HC2.out.cell.cell 0
    have k5 : w2.cell? ⟨kb, 5, none⟩ = some (.pointer (some ⟨sb, 0, none⟩)) := HC2.out.cell.cell 5
    have x0 : w2.cell? ⟨B3, 0, none⟩ = some (.int .u8 x.op.toNat) := HX2.out.cell 0
    have x1 : w2.cell? ⟨B3, 1, none⟩ = some (.int .u32 x.a) := HX2.out.cell 1
    obtain ⟨cs, hcs⟩ : ∃ cs, cs = limC MS[0]? := ⟨_, rfl⟩
    obtain ⟨a0, a1, rfl, hone⟩ : ∃ a0 a1, cs = [a0, a1] ∧ (([a0, a1] : List Value).toArray.all (·.oneCell')) = true := by
     cases hm0 : MS[0]? with
     | none => exact ⟨_, _, by rw [hcs, hm0]; rfl, by simp [Value.oneCell']⟩
     | some l => exact ⟨_, _, by rw [hcs, hm0]; rfl, by simp [Value.oneCell']⟩
    rw [← hcs]
    have HON := zh hone
    clear hcs hone
    go_wp2_with (refine wl_put (Lies.new _ _ _) [a0, a1] _ _ rfl rfl rfl rfl rfl sizeLim HON.out (fun w3 hL3 hF3 => ?_); have hb3 := below_put ((Below.refl w2.heap.size w2).alloc (Nat.le_refl _) _) hF3 (Nat.le_refl _); have HC3 := zh (HC2.out.later hb3); have HX3 := zh (HX2.out.below hb3 HX2.out.lt); clear hb3 hL3 hF3 k0 k5 x0 x1; have k0 : w3.cell? ⟨kb, 0, none⟩ = some (.pointer (some ⟨S0, 0, none⟩)) := HC3.out.cell.cell 0; have k5 : w3.cell? ⟨kb, 5, none⟩ = some (.pointer (some ⟨sb, 0, none⟩)) := HC3.out.cell.cell 5; have x0 : w3.cell? ⟨B3, 0, none⟩ = some (.int .u8 x.op.toNat) := HX3.out.cell 0; have x1 : w3.cell? ⟨B3, 1, none⟩ = some (.int .u32 x.a) := HX3.out.cell 1; (try simp only [Act.put]))
    go_ret
    unfold stepPlain
    rw [if_pos (show ((formN x.op) = 6 ∨ (formN x.op) = 7) ∧ (spcOf m GS BS MS).mem = false from ⟨HFN.out, HMB.out.symm⟩)]
    exact ⟨rfl, HC3.out.bel⟩
   | true =>
    go_enter Tryz.func103, Tryz.ntmps103
    go_wp2_with (refine wl_box x.cs _ rfl rfl rfl (fun w1 hb1 hl1 => ?_); have HC1 := zh (HC.out.later hb1); have HX1 := zh hl1; have HB1 := zh hb1; obtain ⟨B3, hB3⟩ : ∃ B3, B3 = w.heap.size := ⟨_, rfl⟩; rw [← hB3] at HX1 ⊢; clear hB3 hb1 hl1; have k0 : w1.cell? ⟨kb, 0, none⟩ = some (.pointer (some ⟨S0, 0, none⟩)) := HC1.out.cell.cell 0; have k5 : w1.cell? ⟨kb, 5, none⟩ = some (.pointer (some ⟨sb, 0, none⟩)) := HC1.out.cell.cell 5; have x0 : w1.cell? ⟨B3, 0, none⟩ = some (.int .u8 x.op.toNat) := HX1.out.cell 0; have x1 : w1.cell? ⟨B3, 1, none⟩ = some (.int .u32 x.a) := HX1.out.cell 1; (try simp only [Act.put, sA, sB, sC]))
    refine (form_any x.op).mono ?_
    rintro en wz ⟨rfl, rfl⟩
    rw [← HF.out]
    go_wp2_with fail
    refine (mem_any (i := 0) (HSP.out.later HC1.out.bel) (by decide)).mono ?_
    rintro en w2 ⟨rfl, hb2⟩
    rw [← HMB.out]
    have HC2 := zh (HC1.out.later hb2)
    have HX2 := zh (HX1.out.below hb2 HX1.out.lt)
    clear k0 k5 x0 x1 hb2
    have k0 : w2.cell? ⟨kb, 0, none⟩ = some (.pointer (some ⟨S0, 0, none⟩)) := HC2.out.cell.cell 0
    have k5 : w2.cell? ⟨kb, 5, none⟩ = some (.pointer (some ⟨sb, 0, none⟩)) := HC2.out.cell.cell 5
    have x0 : w2.cell? ⟨B3, 0, none⟩ = some (.int .u8 x.op.toNat) := HX2.out.cell 0
    have x1 : w2.cell? ⟨B3, 1, none⟩ = some (.int .u32 x.a) := HX2.out.cell 1
    obtain ⟨cs, hcs⟩ : ∃ cs, cs = limC MS[0]? := ⟨_, rfl⟩
    obtain ⟨a0, a1, rfl, hone⟩ : ∃ a0 a1, cs = [a0, a1] ∧ (([a0, a1] : List Value).toArray.all (·.oneCell')) = true := by
     cases hm0 : MS[0]? with
     | none => exact ⟨_, _, by rw [hcs, hm0]; rfl, by simp [Value.oneCell']⟩
     | some l => exact ⟨_, _, by rw [hcs, hm0]; rfl, by simp [Value.oneCell']⟩
    rw [← hcs]
    have HON := zh hone
    clear hcs hone
    go_wp2_with (refine wl_put (Lies.new _ _ _) [a0, a1] _ _ rfl rfl rfl rfl rfl sizeLim HON.out (fun w3 hL3 hF3 => ?_); have hb3 := below_put ((Below.refl w2.heap.size w2).alloc (Nat.le_refl _) _) hF3 (Nat.le_refl _); have HC3 := zh (HC2.out.later hb3); have HX3 := zh (HX2.out.below hb3 HX2.out.lt); clear hb3 hL3 hF3 k0 k5 x0 x1; have k0 : w3.cell? ⟨kb, 0, none⟩ = some (.pointer (some ⟨S0, 0, none⟩)) := HC3.out.cell.cell 0; have k5 : w3.cell? ⟨kb, 5, none⟩ = some (.pointer (some ⟨sb, 0, none⟩)) := HC3.out.cell.cell 5; have x0 : w3.cell? ⟨B3, 0, none⟩ = some (.int .u8 x.op.toNat) := HX3.out.cell 0; have x1 : w3.cell? ⟨B3, 1, none⟩ = some (.int .u32 x.a) := HX3.out.cell 1; (try simp only [Act.put]))
    have hd4 := below_drew w3
    have HC4 := zh (HC3.out.later hd4)
    have HX4 := zh (HX3.out.below hd4 HX3.out.lt)
    refine wp_region_t [(0, 1), (1, 1), (2, 1), (3, 1), (4, 1), (5, 1), (6, 1), (7, 1), (8, 1), (9, 1), (10, 1), (11, 1), (12, 0), (13, 1), (14, 1), (15, 1)] (fun w' => w'.cell? ⟨kb, 0, none⟩ = some (.pointer (some ⟨S0, 0, none⟩)) ∧ w'.cell? ⟨kb, 5, none⟩ = some (.pointer (some ⟨sb, 0, none⟩)) ∧ w'.cell? ⟨B3, 0, none⟩ = some (.int .u8 x.op.toNat) ∧ w'.cell? ⟨B3, 1, none⟩ = some (.int .u32 x.a)) [] [] rfl (by kernel_rfl) (by kernel_rfl) (fun _ _ d _ _ h => by cases d <;> exact h) ⟨(HC4.out.cell.cell 0), (HC4.out.cell.cell 5), (HX4.out.cell 0), (HX4.out.cell 1)⟩ (fun p hp => by cases hp) ?_
    clear k0 k5 x0 x1 hd4
    generalize w3.drew = w4 at HC4 HX4 ⊢
    repeat (first | (refine ts_take (v := ?_) rfl rfl (fun w' hw' => ?_) ?_; rotate_left; (focus (obtain ⟨q0, q1, q2, q3⟩ := hw'; (try simp only [Act.put, sA, sB, sC]); go_simp; (try go_bits); (try (with_reducible rfl)))); (try simp only [Act.put, sA, sB, sC])) | (refine ts_skip rfl rfl ?_; (try simp only [Act.put, sA, sB, sC])))
    refine ts_run rfl (fun K hK => ?_)
    rw [if_neg (Bool.eq_false_iff.1 (show Region.wanted _ _ = false from rfl))]
    refine hK.out _ _ ⟨(HC4.out.cell.cell 0), (HC4.out.cell.cell 5), (HX4.out.cell 0), (HX4.out.cell 1)⟩ (still_none _ _) ?_
    clear hK K
    (try simp only [Act.put, sA, sB, sC])
    repeat (first | (refine ts_take (v := ?_) rfl rfl (fun w' hw' => ?_) ?_; rotate_left; (focus (obtain ⟨q0, q1, q2, q3⟩ := hw'; (try simp only [Act.put, sA, sB, sC]); go_simp; (try go_bits); (try (with_reducible rfl)))); (try simp only [Act.put, sA, sB, sC])) | (refine ts_skip rfl rfl ?_; (try simp only [Act.put, sA, sB, sC])))
    refine ts_done ?_
    have k0 : w4.cell? ⟨kb, 0, none⟩ = some (.pointer (some ⟨S0, 0, none⟩)) := HC4.out.cell.cell 0
    have k5 : w4.cell? ⟨kb, 5, none⟩ = some (.pointer (some ⟨sb, 0, none⟩)) := HC4.out.cell.cell 5
    have x0 : w4.cell? ⟨B3, 0, none⟩ = some (.int .u8 x.op.toNat) := HX4.out.cell 0
    have x1 : w4.cell? ⟨B3, 1, none⟩ = some (.int .u32 x.a) := HX4.out.cell 1
    go_wp2_with fail
    refine (sig_any x.op).mono ?_
    rintro en w5 ⟨v1, v2, bb, rfl, _, hv1, hv2, hb5⟩
    have HV1 := zh hv1
    have HV2 := zh hv2
    clear hv1 hv2
    have HC5 := zh (HC4.out.later hb5)
    have HX5 := zh (HX4.out.below hb5 HX4.out.lt)
    clear k0 k5 x0 x1 hb5
    have k0 : w5.cell? ⟨kb, 0, none⟩ = some (.pointer (some ⟨S0, 0, none⟩)) := HC5.out.cell.cell 0
    have k5 : w5.cell? ⟨kb, 5, none⟩ = some (.pointer (some ⟨sb, 0, none⟩)) := HC5.out.cell.cell 5
    have x0 : w5.cell? ⟨B3, 0, none⟩ = some (.int .u8 x.op.toNat) := HX5.out.cell 0
    have x1 : w5.cell? ⟨B3, 1, none⟩ = some (.int .u32 x.a) := HX5.out.cell 1
    go_wp2_with fail
    refine (takes_any HC5.out HS.out (ps := (sigL x.op).1) (rs := (sigL x.op).2) HV1.out HV2.out (Nat.le_trans (sigL_len _).1 (by decide)) (Nat.le_trans (sigL_len _).2 (by decide))).mono ?_
    intro en wt ht
    obtain ⟨n, rfl⟩ := ht.form
    replace ht := zh ht
    go_wp2_with fail
    go_ret
    unfold stepPlain
    rw [if_neg (show ¬ (((formN x.op) = 6 ∨ (formN x.op) = 7) ∧ (spcOf m GS BS MS).mem = false) from fun h => by have := HMB.out; rw [show (spcOf m GS BS MS).mem = (MS[0]?).isSome from rfl, ← this] at h; cases h.2)]
    rw [if_neg (show ¬ ((formN x.op) = 6 ∧ (3 < x.a ∨ widthN x.op < 2 ^ x.a)) from fun h => by have := HF.out; rw [h.1] at this; cases this)]
    exact ht.out
  ·have e6 : (f == 6) = false := by simpa using h6
   have e7 : (f == 7) = false := by simpa using h7
   go_enter Tryz.func103, Tryz.ntmps103
   go_wp2_with (refine wl_box x.cs _ rfl rfl rfl (fun w1 hb1 hl1 => ?_); have HC1 := zh (HC.out.later hb1); have HX1 := zh hl1; have HB1 := zh hb1; obtain ⟨B3, hB3⟩ : ∃ B3, B3 = w.heap.size := ⟨_, rfl⟩; rw [← hB3] at HX1 ⊢; clear hB3 hb1 hl1; have k0 : w1.cell? ⟨kb, 0, none⟩ = some (.pointer (some ⟨S0, 0, none⟩)) := HC1.out.cell.cell 0; have k5 : w1.cell? ⟨kb, 5, none⟩ = some (.pointer (some ⟨sb, 0, none⟩)) := HC1.out.cell.cell 5; have x0 : w1.cell? ⟨B3, 0, none⟩ = some (.int .u8 x.op.toNat) := HX1.out.cell 0; have x1 : w1.cell? ⟨B3, 1, none⟩ = some (.int .u32 x.a) := HX1.out.cell 1; (try simp only [Act.put, sA, sB, sC]))
   refine (form_any x.op).mono ?_
   rintro en wz ⟨rfl, rfl⟩
   rw [← HF.out]
   go_wp2_with fail
   refine (mem_any (i := 0) (HSP.out.later HC1.out.bel) (by decide)).mono ?_
   rintro en w2 ⟨rfl, hb2⟩
   rw [← HMB.out]
   have HC2 := zh (HC1.out.later hb2)
   have HX2 := zh (HX1.out.below hb2 HX1.out.lt)
   clear k0 k5 x0 x1 hb2
   have k0 : w2.cell? ⟨kb, 0, none⟩ = some (.pointer (some ⟨S0, 0, none⟩)) := HC2.out.cell.cell 0
   have k5 : w2.cell? ⟨kb, 5, none⟩ = some (.pointer (some ⟨sb, 0, none⟩)) := HC2.out.cell.cell 5
   have x0 : w2.cell? ⟨B3, 0, none⟩ = some (.int .u8 x.op.toNat) := HX2.out.cell 0
   have x1 : w2.cell? ⟨B3, 1, none⟩ = some (.int .u32 x.a) := HX2.out.cell 1
   obtain ⟨cs, hcs⟩ : ∃ cs, cs = limC MS[0]? := ⟨_, rfl⟩
   obtain ⟨a0, a1, rfl, hone⟩ : ∃ a0 a1, cs = [a0, a1] ∧ (([a0, a1] : List Value).toArray.all (·.oneCell')) = true := by
    cases hm0 : MS[0]? with
    | none => exact ⟨_, _, by rw [hcs, hm0]; rfl, by simp [Value.oneCell']⟩
    | some l => exact ⟨_, _, by rw [hcs, hm0]; rfl, by simp [Value.oneCell']⟩
   rw [← hcs]
   have HON := zh hone
   clear hcs hone
   go_wp2_with (refine wl_put (Lies.new _ _ _) [a0, a1] _ _ rfl rfl rfl rfl rfl sizeLim HON.out (fun w3 hL3 hF3 => ?_); have hb3 := below_put ((Below.refl w2.heap.size w2).alloc (Nat.le_refl _) _) hF3 (Nat.le_refl _); have HC3 := zh (HC2.out.later hb3); have HX3 := zh (HX2.out.below hb3 HX2.out.lt); clear hb3 hL3 hF3 k0 k5 x0 x1; have k0 : w3.cell? ⟨kb, 0, none⟩ = some (.pointer (some ⟨S0, 0, none⟩)) := HC3.out.cell.cell 0; have k5 : w3.cell? ⟨kb, 5, none⟩ = some (.pointer (some ⟨sb, 0, none⟩)) := HC3.out.cell.cell 5; have x0 : w3.cell? ⟨B3, 0, none⟩ = some (.int .u8 x.op.toNat) := HX3.out.cell 0; have x1 : w3.cell? ⟨B3, 1, none⟩ = some (.int .u32 x.a) := HX3.out.cell 1; (try simp only [Act.put]))
   have hd4 := below_drew w3
   have HC4 := zh (HC3.out.later hd4)
   have HX4 := zh (HX3.out.below hd4 HX3.out.lt)
   refine wp_region_t [(0, 1), (1, 1), (2, 1), (3, 1), (4, 1), (5, 1), (6, 1), (7, 1), (8, 1), (9, 1), (10, 1), (11, 1), (12, 0), (13, 1), (14, 1), (15, 1)] (fun w' => w'.cell? ⟨kb, 0, none⟩ = some (.pointer (some ⟨S0, 0, none⟩)) ∧ w'.cell? ⟨kb, 5, none⟩ = some (.pointer (some ⟨sb, 0, none⟩)) ∧ w'.cell? ⟨B3, 0, none⟩ = some (.int .u8 x.op.toNat) ∧ w'.cell? ⟨B3, 1, none⟩ = some (.int .u32 x.a)) [] [] rfl (by kernel_rfl) (by kernel_rfl) (fun _ _ d _ _ h => by cases d <;> exact h) ⟨(HC4.out.cell.cell 0), (HC4.out.cell.cell 5), (HX4.out.cell 0), (HX4.out.cell 1)⟩ (fun p hp => by cases hp) ?_
   clear k0 k5 x0 x1 hd4
   generalize w3.drew = w4 at HC4 HX4 ⊢
   repeat (first | (refine ts_take (v := ?_) rfl rfl (fun w' hw' => ?_) ?_; rotate_left; (focus (obtain ⟨q0, q1, q2, q3⟩ := hw'; (try simp only [Act.put, sA, sB, sC]); go_simp; (try go_bits); (try (with_reducible rfl)))); (try simp only [Act.put, sA, sB, sC])) | (refine ts_skip rfl rfl ?_; (try simp only [Act.put, sA, sB, sC])))
   refine ts_run rfl (fun K hK => ?_)
   rw [if_neg (Bool.eq_false_iff.1 (show Region.wanted _ _ = false from rfl))]
   refine hK.out _ _ ⟨(HC4.out.cell.cell 0), (HC4.out.cell.cell 5), (HX4.out.cell 0), (HX4.out.cell 1)⟩ (still_none _ _) ?_
   clear hK K
   (try simp only [Act.put, sA, sB, sC])
   repeat (first | (refine ts_take (v := ?_) rfl rfl (fun w' hw' => ?_) ?_; rotate_left; (focus (obtain ⟨q0, q1, q2, q3⟩ := hw'; (try simp only [Act.put, sA, sB, sC]); go_simp; (try go_bits); (try (with_reducible rfl)))); (try simp only [Act.put, sA, sB, sC])) | (refine ts_skip rfl rfl ?_; (try simp only [Act.put, sA, sB, sC])))
   refine ts_done ?_
   have k0 : w4.cell? ⟨kb, 0, none⟩ = some (.pointer (some ⟨S0, 0, none⟩)) := HC4.out.cell.cell 0
   have k5 : w4.cell? ⟨kb, 5, none⟩ = some (.pointer (some ⟨sb, 0, none⟩)) := HC4.out.cell.cell 5
   have x0 : w4.cell? ⟨B3, 0, none⟩ = some (.int .u8 x.op.toNat) := HX4.out.cell 0
   have x1 : w4.cell? ⟨B3, 1, none⟩ = some (.int .u32 x.a) := HX4.out.cell 1
   go_wp2_with fail
   refine (sig_any x.op).mono ?_
   rintro en w5 ⟨v1, v2, bb, rfl, _, hv1, hv2, hb5⟩
   have HV1 := zh hv1
   have HV2 := zh hv2
   clear hv1 hv2
   have HC5 := zh (HC4.out.later hb5)
   have HX5 := zh (HX4.out.below hb5 HX4.out.lt)
   clear k0 k5 x0 x1 hb5
   have k0 : w5.cell? ⟨kb, 0, none⟩ = some (.pointer (some ⟨S0, 0, none⟩)) := HC5.out.cell.cell 0
   have k5 : w5.cell? ⟨kb, 5, none⟩ = some (.pointer (some ⟨sb, 0, none⟩)) := HC5.out.cell.cell 5
   have x0 : w5.cell? ⟨B3, 0, none⟩ = some (.int .u8 x.op.toNat) := HX5.out.cell 0
   have x1 : w5.cell? ⟨B3, 1, none⟩ = some (.int .u32 x.a) := HX5.out.cell 1
   go_wp2_with fail
   refine (takes_any HC5.out HS.out (ps := (sigL x.op).1) (rs := (sigL x.op).2) HV1.out HV2.out (Nat.le_trans (sigL_len _).1 (by decide)) (Nat.le_trans (sigL_len _).2 (by decide))).mono ?_
   intro en wt ht
   obtain ⟨n, rfl⟩ := ht.form
   replace ht := zh ht
   go_wp2_with fail
   go_ret
   unfold stepPlain
   rw [if_neg (show ¬ (((formN x.op) = 6 ∨ (formN x.op) = 7) ∧ (spcOf m GS BS MS).mem = false) from fun h => h.1.elim (fun h => h6 (by rw [HF.out, h]; rfl)) (fun h => h7 (by rw [HF.out, h]; rfl)))]
   rw [if_neg (show ¬ ((formN x.op) = 6 ∧ (3 < x.a ∨ widthN x.op < 2 ^ x.a)) from fun h => h6 (by rw [HF.out, h.1]; rfl))]
   exact ht.out
end Go.Proofs.YtmgjcaikldeioaaGreat.Ty
