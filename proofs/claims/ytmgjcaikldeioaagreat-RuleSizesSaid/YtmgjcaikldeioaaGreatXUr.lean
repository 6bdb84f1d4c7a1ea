/- body.Check: what it tells is chk's. -/
import Derived.Test.YtmgjcaikldeioaaGreatXUq
namespace Go.Proofs.YtmgjcaikldeioaaGreat.Ty
open Go Go.RowKit Go.Lib Kt Fm Gr

theorem oneCod {w : World} {x : Cod} (h : CodOk w x) : (x.cs.toArray.all (·.oneCell')) = true := by
 obtain ⟨s, c, e, _⟩ := h.1.1.form
 obtain ⟨s2, c2, e2, _⟩ := h.2.1.form
 simp [Cod.cs, e, e2, Value.oneCell']
/-- A stack, told from an earlier block on. -/
theorem Stm.base {w : World} {H H' sb : Nat} {lv fv : Value} {FV : List Fv} {t : Stk} (h : Stm w H sb lv fv FV t) (hh : H' ≤ H) : Stm w H' sb lv fv FV t :=
 ⟨h.cell, Nat.le_trans hh h.hsb, ownsRow_base h.row hh, ownsRow_base h.frs hh, h.fs, fun x hx => ⟨(h.imm x hx).1.mono (fun _ _ e => ⟨Nat.le_trans hh e.1, e.2⟩), (h.imm x hx).2.mono (fun _ _ e => ⟨Nat.le_trans hh e.1, e.2⟩)⟩, h.inv⟩
theorem bld_ck (p q : Option Addr) (a b c d : Value) (w : World) : (Instr.build 140 #[(0, .pointer p), (1, .agg #[a, b]), (2, .agg #[c, d]), (3, .pointer q)]).run Tryz.prog w = .ok (.agg #[.pointer p, a, b, c, d, .pointer q, .slice none 0 0]) w := by kernel_rfl
theorem exec_ck {op : Oper} {act : Act} {w : World} {S0 sb : Nat} {fn : Ft} {c : Cod} (p0 p1 p2 p3 : Operand) (ho : op.op = .build 140 #[(0, p0), (1, p1), (2, p2), (3, p3)]) (h0 : act.eval p0 = .pointer (some ⟨S0, 0, none⟩)) (h1 : act.eval p1 = .agg fn.cs.toArray) (h2 : act.eval p2 = .agg c.cs.toArray) (h3 : act.eval p3 = .pointer (some ⟨sb, 0, none⟩)) :
  (execOp act.eval op).run Tryz.prog w = .ok (.value (.agg (ckCs S0 sb fn c (.slice none 0 0)).toArray)) w := by
 have hb := bld_ck (some ⟨S0, 0, none⟩) (some ⟨sb, 0, none⟩) fn.pv fn.rv c.lv c.bv w
 have e1 : fn.cs.toArray = #[fn.pv, fn.rv] := rfl
 have e2 : c.cs.toArray = #[c.lv, c.bv] := rfl
 unfold execOp
 simp [ho, h0, h1, h2, h3, e1, e2, hb, ckCs]
theorem wp_boxK {P : Program} {op : Oper} {a : Act} {w : World} {K : Act → World → Prop} {Q : Exit → Act → World → Prop} {ty : TypeId} (cs : List Value) (p : Operand) (ho : op.op = .box ty p) (hx : a.eval p = .agg cs.toArray) (hk : ∀ w1, Below w.heap.size w w1 → Lies w1 w.heap.size ty cs.toArray → K (a.put op.dst (.pointer (some ⟨w.heap.size, 0, none⟩))) w1) : op.wp P a w K Q := by
 unfold Oper.wp execOp
 simp only [ho, hx]
 go_simp
 exact hk _ ((Below.refl _ _).alloc (Nat.le_refl _) _) (Lies.new w _ _)
theorem Sm.of_bnd {s : St} {n : Nat} (hf : Fine s) {K : Nat} (hK : K ≤ 4000) (hb : Bnd K n s.t) (hn : K * n ≤ 500000000) (hn2 : n ≤ 1048576) : Sm s :=
 ⟨fun e => by have := hf.deep; rw [e] at this; simp at this, by have := hb.most; omega, by have := hb.fs; omega, fun f hf => ⟨Nat.le_trans (hb.lab f hf).1 hK, Nat.le_trans (hb.lab f hf).2 hK⟩⟩
theorem bnd0 {K : Nat} {ends : Bts} (h : ends.length ≤ K) : Bnd K 0 (stk0 ends) :=
 ⟨Nat.zero_le _, Nat.le_refl _, fun f hf => by
  have : f ∈ ([] : List Frm) ++ [⟨ends, ends, 0, false⟩] := hf
  obtain rfl := List.mem_singleton.1 (by simpa using this)
  exact ⟨h, h⟩⟩
theorem run_take {cx : Cx} {L : List Ins} {j : Nat} {x : Ins} {s0 s : St} (hx : L[j]? = some x) (h : run cx s0 (L.take j) = .ok s) : run cx s0 (L.take (j + 1)) = step cx s x := by
 have e : L.take (j + 1) = L.take j ++ [x] := by rw [List.take_add_one, hx]; rfl
 rw [e, run_append, h]
 show run cx s [x] = _
 rw [run]
 cases step cx s x <;> rfl
theorem run_stop {cx : Cx} {L : List Ins} {j : Nat} {s0 : St} {e : Nat} (h : run cx s0 (L.take j) = .error e) : run cx s0 L = .error e := by
 conv => lhs; rw [← List.take_append_drop j L]
 rw [run_append, h]
theorem marks_some {L : List Ins} (h : exprOk L = true) (j : Nat) : ∃ o, marks [] (L.take j) = some o := by
 cases e : marks [] (L.take j) with
 | some o => exact ⟨o, rfl⟩
 | none => rw [marks_stop e] at h; cases h
theorem chk_locs {cx : Cx} (h1 : exprOk cx.c.body = true) (h2 : cx.c.locs.any badLoc = true) : chk cx = (0, 100) := by
 unfold chk
 rw [if_neg (by rw [h1]; decide), if_pos (show (cx.c.locs.any fun l => l.t != 127 && l.t != 126) = true from h2)]
theorem chk_run {cx : Cx} (h1 : exprOk cx.c.body = true) (h2 : cx.c.locs.any badLoc = false) : chk cx = match run cx ⟨stk0 cx.fn.r, []⟩ cx.c.body with
  | .error e => (0, e)
  | .ok s => match close s.t with
   | none => (0, 100)
   | some _ => (s.t.most, 0) := by
 unfold chk
 rw [if_neg (by rw [h1]; decide), if_neg (by
  intro e
  have : cx.c.locs.any badLoc = true := e
  rw [h2] at this; cases this)]
 rfl
theorem chk_expr {cx : Cx} (h1 : exprOk cx.c.body = false) : chk cx = (0, 2) := by
 unfold chk
 rw [if_pos h1]
/-- What Check's loop has. -/
def Lp (K : Nat) (W0 : World) (S0 : Nat) (fn : Ft) (c : Cod) (cx : Cx) (kb sb : Nat) (j : Nat) (s : St) (wr : World) : Prop :=
 (∃ lv fv ov FV, Ck W0 wr S0 fn c kb sb lv fv ov FV s) ∧ Fine s ∧ Bnd K j s.t ∧ marks [] (c.body.take j) = some s.o ∧ run cx ⟨stk0 fn.r, []⟩ (c.body.take j) = .ok s
set_option maxRecDepth 100000 in
set_option maxHeartbeats 16000000 in
theorem check_anyK {K : Nat} (hK : 1 ≤ K ∧ K ≤ 4000) {W : World} {S0 : Nat} {fn : Ft} {c : Cod} {m : Mod} {GS : List Gt} {BS MS : List Lim} (hsp : SpG W S0 m GS BS MS) (hm : ModOk W m) (hfn : FtOk W fn) (hc : CodOk W c) (hl : K * c.body.length ≤ 500000000) (hcx : CxB K ⟨spcOf m GS BS MS, fn, c⟩) :
  Calls Tryz.prog 16 #[.pointer (some ⟨S0, 0, none⟩), .agg fn.cs.toArray, .agg c.cs.toArray] W fun e w' => e = .returned (.tuple #[.int .i64 (chk ⟨spcOf m GS BS MS, fn, c⟩).1, .int .i64 (chk ⟨spcOf m GS BS MS, fn, c⟩).2]) ∧ Below W.heap.size W w' := by
 have hl1 : c.body.length ≤ 1048576 := hc.2.2.2
 have HSP := zh hsp
 have HM := zh hm
 have HFN := zh hfn
 have HCD := zh hc
 have HCX := zh hcx
 obtain ⟨sv, cv, hbv, hsv⟩ := hc.2.1.form
 have HBV := zh hbv
 have HSV := zh hsv
 obtain ⟨ch, hch⟩ : ∃ ch, ch = chk ⟨spcOf m GS BS MS, fn, c⟩ := ⟨_, rfl⟩
 rw [← hch]
 have HCH := zh hch
 obtain ⟨ev, hev⟩ : ∃ ev, ev = exprV c.body := ⟨_, rfl⟩
 have HEV := zh hev
 obtain ⟨bl, hbl⟩ : ∃ bl, bl = c.locs.any badLoc := ⟨_, rfl⟩
 have HBL := zh hbl
 clear hsp hm hfn hc hcx hbv hsv hch hev hbl
 go_enter Tryz.func16, Tryz.ntmps16
 go_wp2_with (first | (refine wl_box fn.cs _ rfl rfl rfl (fun w1 hb1 hl1 => ?_); have HB1 := zh hb1; have HL1 := zh hl1; obtain ⟨B4, hB4⟩ : ∃ B4, B4 = W.heap.size := ⟨_, rfl⟩; rw [← hB4] at HL1 ⊢; clear hB4 hb1 hl1; simp only [Act.put, sA, sB, sC]) | (refine wl_box c.cs _ rfl rfl rfl (fun w2 hb2 hl2 => ?_); have HB2 := zh (bt HB1.out hb2); have HL2 := zh (HL1.out.below hb2 HL1.out.lt); have HD2 := zh hl2; obtain ⟨B5, hB5⟩ : ∃ B5, B5 = w1.heap.size := ⟨_, rfl⟩; rw [← hB5] at HD2 ⊢; clear hB5 hb2 hl2; have c1 : w2.cell? ⟨B5, 1, none⟩ = some (.slice sv c.body.length cv) := (HD2.out.cell 1).trans (congrArg some HBV.out); simp only [Act.put, sA, sB, sC]))
 refine (appe_any (L := c.body) (by have := HCD.out.2.1.later HB2.out; rw [HBV.out] at this; exact this) (fun y hy => (HCD.out.2.2.1 y hy).later HB2.out) hl1).mono ?_
 rintro en w3 ⟨⟨u, rfl⟩, hb3⟩
 rw [← HEV.out]
 have HB3 := zh (bt HB2.out hb3)
 have HL3 := zh (HL2.out.below hb3 HL2.out.lt)
 have HD3 := zh (HD2.out.below hb3 HD2.out.lt)
 clear hb3 c1
 cases hx : exprOk c.body with
 | false =>
  obtain rfl : ev = 2 := by rw [HEV.out]; unfold exprV; simp [hx]
  have HR := zh (show ch = (0, 2) from by rw [HCH.out]; exact chk_expr hx)
  go_wp2_with fail
  go_ret2
  exact ⟨by rw [HR.out]; rfl, HB3.out⟩
 | true =>
  obtain rfl : ev = 0 := by rw [HEV.out]; unfold exprV; simp [hx]
  have c0 : w3.cell? ⟨B5, 0, none⟩ = some c.lv := HD3.out.cell 0
  go_wp2_with fail
  refine (contains_loc (HCD.out.1.1.later HB3.out) (Nat.le_trans HCD.out.1.2.2 (by decide))).mono ?_
  rintro en w4 ⟨rfl, hb4⟩
  rw [← HBL.out]
  have HB4 := zh (bt HB3.out hb4)
  have HL4 := zh (HL3.out.below hb4 HL3.out.lt)
  have HD4 := zh (HD3.out.below hb4 HD3.out.lt)
  clear hb4 c0
  cases bl with
  | true =>
   have HR := zh (show ch = (0, 100) from by rw [HCH.out]; exact chk_locs hx HBL.out.symm)
   go_wp2_with fail
   go_ret2
   exact ⟨by rw [HR.out]; rfl, HB4.out⟩
  | false =>
   have HR := zh (show ch = match run ⟨spcOf m GS BS MS, fn, c⟩ ⟨stk0 fn.r, []⟩ c.body with
    | .error e => (0, e)
    | .ok s => match close s.t with
     | none => (0, 100)
     | some _ => (s.t.most, 0) from by rw [HCH.out]; exact chk_run hx HBL.out.symm)
   have HXX := zh hx
   clear hx
   go_wp2_with fail
   have hd := below_drew w4
   have HB5 := zh (bt HB4.out hd)
   have HL5 := zh (HL4.out.below hd HL4.out.lt)
   have HD5 := zh (HD4.out.below hd HD4.out.lt)
   refine wp_region_t [(0, 1), (1, 1), (2, 1), (3, 1), (4, 1), (5, 0), (6, 1), (7, 0), (8, 1)] (fun w' => Lies w' B4 51 fn.cs.toArray ∧ Lies w' B5 48 c.cs.toArray) [] [] rfl (by kernel_rfl) (by kernel_rfl) (fun _ _ d _ _ h => by cases d <;> exact h) ⟨HL5.out, HD5.out⟩ (fun p hp => by cases hp) ?_
   clear hd
   generalize w4.drew = w5 at HB5 HL5 HD5 ⊢
   repeat (first | (refine ts_take (v := .agg fn.cs.toArray) rfl rfl (fun w' hw' => exec_load (lies_sub (o := 0) hw'.1 fn.cs rfl) _ rfl rfl Tryz.underlying51 rfl sizeFt) ?_; (try simp only [Act.put, sA, sB, sC])) | (refine ts_take (v := .agg c.cs.toArray) rfl rfl (fun w' hw' => exec_load (lies_sub (o := 0) hw'.2 c.cs rfl) _ rfl rfl Tryz.underlying48 rfl sizeCod) ?_; (try simp only [Act.put, sA, sB, sC])) | (refine ts_take (v := ?_) rfl rfl (fun w' hw' => ?_) ?_; rotate_left; (focus (have q0 : w'.cell? ⟨B4, 1, none⟩ = some fn.rv := hw'.1.cell 1; clear hw'; (try simp only [Act.put, sA, sB, sC]); go_simp; (try go_bits); (try (with_reducible rfl)))); (try simp only [Act.put, sA, sB, sC])))
   refine ts_run1 rfl rfl (fun K hK => ?_)
   go_simp
   refine (new_any (HFN.out.2.1.later HB5.out) (Nat.le_trans HFN.out.2.2.2 (by decide))).mono ?_
   rintro en w6 ⟨sb, lv, fv, FV, rfl, hs6, hb6⟩
   have HS6 := zh (hs6.base HB5.out.size)
   have HB6 := zh (bt HB5.out hb6)
   have HL6 := zh (HL5.out.below hb6 HL5.out.lt)
   have HD6 := zh (HD5.out.below hb6 HD5.out.lt)
   refine hK.out _ _ ⟨HL6.out, HD6.out⟩ (still_none _ _) ?_
   clear hK K hs6 hb6
   (try simp only [Act.put, sA, sB, sC])
   refine ts_take (v := .agg (ckCs S0 sb fn c (.slice none 0 0)).toArray) rfl rfl (fun w' _ => exec_ck _ _ _ _ rfl rfl rfl rfl rfl) ?_
   (try simp only [Act.put, sA, sB, sC])
   refine ts_run1 rfl rfl (fun K hK => ?_)
   refine wp_boxK (ckCs S0 sb fn c (.slice none 0 0)) _ rfl rfl (fun w7 hb7 hl7 => ?_)
   have HL7 := zh (HL6.out.below hb7 HL6.out.lt)
   have HD7 := zh (HD6.out.below hb7 HD6.out.lt)
   have HC7 := zh (show Ck W w7 S0 fn c w6.heap.size sb lv fv (.slice none 0 0) FV ⟨stk0 fn.r, []⟩ from ⟨bt HB6.out hb7, hl7, HB6.out.size, HS6.out.later hb7, World.ownsRow_nil _ _ _ _, fun _ e => by cases e⟩)
   refine hK.out _ _ ⟨HL7.out, HD7.out⟩ (still_none _ _) ?_
   clear hK K hb7 hl7
   (try simp only [Act.put, sA, sB, sC])
   repeat (refine ts_take (v := ?_) rfl rfl (fun w' hw' => ?_) ?_; rotate_left; (focus (clear hw'; (try simp only [Act.put, sA, sB, sC]); go_simp; (try go_bits); (try (with_reducible rfl)))); (try simp only [Act.put, sA, sB, sC]))
   refine ts_done ?_
   obtain ⟨kb, hkb⟩ : ∃ kb, kb = w6.heap.size := ⟨_, rfl⟩
   rw [← hkb] at HC7 ⊢
   clear hkb
   have c1 : w7.cell? ⟨B5, 1, none⟩ = some (.slice sv c.body.length cv) := (HD7.out.cell 1).trans (congrArg some HBV.out)
   go_wp2_with fail
   clear c1
   have HLP7 := zh (show Lp K W S0 fn c ⟨spcOf m GS BS MS, fn, c⟩ kb sb 0 ⟨stk0 fn.r, []⟩ w7 from ⟨⟨_, _, _, _, HC7.out⟩, fine0 _, bnd0 HCX.out.fn, by rw [List.take_zero]; rfl, by rw [List.take_zero]; rfl⟩)
   clear HC7 HL7 HD7 HL6 HD6 HL5 HD5 HL4 HD4
   go_loopw [42] (fun i wr => ∃ (j : Nat) (s : St), j ≤ c.body.length ∧ i = .int .i64 j ∧ Lp K W S0 fn c ⟨spcOf m GS BS MS, fn, c⟩ kb sb j s wr)
    (fun i _ => c.body.length - (Lib.intOf i).toNat)
   case atStart => exact ⟨0, _, by omega, rfl, HLP7.out⟩
   case round =>
    obtain ⟨j, s, hj, rfl, ⟨lv, fv, ov, FV, hck⟩, hfi, hbn, hmk, hrun⟩ := hrel
    have HC := zh hck
    have HFI := zh hfi
    have HBN := zh hbn
    have HMK := zh hmk
    have HRUN := zh hrun
    have HS := zh (Sm.of_bnd hfi hK.2 hbn (Nat.le_trans (Nat.mul_le_mul_left K hj) hl) (by omega))
    clear hck hfi hbn hmk hrun
    by_cases hlt : j < c.body.length
    ·obtain ⟨x, hx⟩ : ∃ x, c.body[j]? = some x := ⟨_, List.getElem?_eq_getElem hlt⟩
     have HOK := zh (HCD.out.2.2.1 x (List.mem_of_getElem? hx))
     obtain ⟨g, off, rfl, _⟩ := HSV.out (by intro e; rw [e] at hlt; simp at hlt)
     have HSL := zh (HCD.out.2.1.later HC.out.bel)
     rw [HBV.out] at HSL
     have HRA := zh (sl_range HSL.out hx)
     have HXX2 := zh hx
     have HON := zh (oneIns HOK.out)
     have hlt2 : (j : Int) < (c.body.length : Int) := by omega
     clear hx
     go_wp2_with (first | (refine wpList_load_mid rfl 57 _ rfl g (off + j * 5) rfl x.cs _ HRA.out Tryz.underlying57 rfl sizeIns ?_; simp only [Act.put, sA, sB, sC]) | (refine wl_put (Lies.new _ _ _) x.cs _ _ rfl rfl rfl rfl rfl sizeIns HON.out (fun w8 hL8 hF8 => ?_); have HB8 := zh (below_put ((Below.refl wr.heap.size wr).alloc (Nat.le_refl _) _) hF8 (Nat.le_refl _)); have HX8 := zh hL8; have HC8 := zh (HC.out.later HB8.out); obtain ⟨Bx, hBx⟩ : ∃ Bx, Bx = wr.heap.size := ⟨_, rfl⟩; rw [← hBx] at HX8 ⊢; clear hBx hL8 hF8; try simp only [Act.put]))
     have hd := below_drew w8
     have HC9 := zh (HC8.out.later hd)
     have HX9 := zh (HX8.out.below hd HX8.out.lt)
     refine wp_region_t [(0, 1), (1, 1), (2, 2), (4, 2), (3, 0), (5, 0), (6, 1)] (fun _ => True) [(5, fun w' => Lies w' Bx 57 x.cs.toArray)] [5] rfl (by kernel_rfl) (by kernel_rfl) (fun _ _ d _ _ h => by cases d <;> exact h) trivial (fun p hp => by obtain rfl := List.mem_singleton.1 hp; exact HX9.out) ?_
     clear hd
     generalize w8.drew = w9 at HC9 HX9 ⊢
     repeat (first | (refine ts_take2 (v := .agg x.cs.toArray) rfl rfl (fun w' _ hs' => exec_load (lies_range (hs'.one rfl)) _ rfl rfl Tryz.underlying57 rfl sizeIns) ?_; (try simp only [Act.put, sA, sB, sC])) | (refine ts_take2 (v := ?_) rfl rfl (fun w' _ hs' => ?_) ?_; rotate_left; (focus (have q0 : w'.cell? ⟨Bx, 0, none⟩ = some (.int .u8 x.op.toNat) := (hs'.one rfl).cell 0; clear hs'; (try simp only [Act.put, sA, sB, sC]); go_simp; (try go_bits); (try (with_reducible rfl)))); (try simp only [Act.put, sA, sB, sC])) | (refine ts_take (v := ?_) rfl rfl (fun w' hw' => ?_) ?_; rotate_left; (focus (clear hw'; (try simp only [Act.put, sA, sB, sC]); go_simp; (try go_bits); (try (with_reducible rfl)))); (try simp only [Act.put, sA, sB, sC])))
     refine ts_run1 rfl rfl (fun K hK => ?_)
     go_simp
     refine (of_any x.op).mono ?_
     rintro en wz ⟨rfl, hwz⟩
     obtain rfl := hwz.symm
     refine hK.out _ _ trivial (still_one (.inr HX9.out)) ?_
     clear hK K
     (try simp only [Act.put, sA, sB, sC])
     have hmk2 : mark s.o x.op ≠ none := fun e => by
      obtain ⟨o, ho⟩ := marks_some HXX.out (j + 1)
      rw [marks_step HXX2.out HMK.out, e] at ho
      split at ho <;> cases ho
     have HMK2 := zh hmk2
     have HCALL := zh (call_of HC9.out HS.out HOK.out HSP.out HM.out HFN.out HCD.out HFI.out hmk2)
     clear hmk2
     refine ts_run1 rfl rfl (fun K hK => ?_)
     have HOF := zh (ofF_cases x.op)
     rcases HOF.out with h | h | h | h | h | h | h | h | h | h | h | h | h
     all_goals
      rw [h] at HCALL ⊢
      clear h HOF
      go_simp
      refine HCALL.out.mono ?_
      clear HCALL
      intro en wt ht
      obtain ⟨n, rfl⟩ := ht.form
      have HT := zh ht
      clear ht
      refine hK.out _ _ trivial (still_one (.inl rfl)) ?_
      clear hK K
      (try simp only [Act.put, sA, sB, sC])
      repeat (refine ts_take (v := ?_) rfl rfl (fun w' hw' => ?_) ?_; rotate_left; (focus (clear hw'; (try simp only [Act.put, sA, sB, sC]); go_simp; (try go_bits); (try (with_reducible rfl)))); (try simp only [Act.put, sA, sB, sC]))
      refine ts_done ?_
      cases hst : step ⟨spcOf m GS BS MS, fn, c⟩ s x with
      | error e =>
       rw [hst] at HT
       obtain rfl : n = (e : Int) := by have := HT.out.1; simpa using this
       have he0 : e ≠ 0 := fun h0 => step_err _ _ _ (by rw [hst, h0])
       have he1 : ((e : Int) != 0) = true := by simpa using he0
       have he2 : ¬ (e : Int) = 0 := by omega
       have HR2 := zh (show ch = (0, e) from by rw [HR.out]; simp only [run_stop (j := j + 1) (by rw [run_take HXX2.out HRUN.out]; exact hst)])
       clear hst
       go_wp2_with fail
       go_ret2
       exact ⟨by rw [HR2.out]; rfl, HT.out.2⟩
      | ok s' =>
       rw [hst] at HT
       obtain rfl : n = 0 := by have := HT.out.1; simpa using this
       have HLP := zh (show Lp K W S0 fn c ⟨spcOf m GS BS MS, fn, c⟩ kb sb (j + 1) s' wt from by
        obtain ⟨o', ho'⟩ : ∃ o', mark s.o x.op = some o' := by
         cases e : mark s.o x.op with
         | none => exact absurd e HMK2.out
         | some o' => exact ⟨o', rfl⟩
        obtain ⟨f1, f2⟩ := step_fine HFI.out ho' hst
        refine ⟨HT.out.2, f1, step_bnd hK.1 HCX.out HBN.out HFI.out.inv hst, ?_, by rw [run_take HXX2.out HRUN.out]; exact hst⟩
        obtain ⟨o2, ho2⟩ := marks_some HXX.out (j + 1)
        rw [ho2]
        rw [marks_step HXX2.out HMK.out, ho'] at ho2
        split at ho2
        ·rw [f2]; exact ho2.symm ▸ rfl
        ·cases ho2)
       clear hst
       go_wp2_with fail
       exact ⟨⟨j + 1, s', by omega, by go_num, HLP.out⟩, by simp [Lib.intOf]; omega⟩
    ·obtain rfl : j = c.body.length := by omega
     have hrn := HRUN.out
     rw [List.take_length] at hrn
     have HR2 := zh (show ch = match close s.t with
      | none => (0, 100)
      | some _ => (s.t.most, 0) from by rw [HR.out]; simp only [hrn])
     have k5 : wr.cell? ⟨kb, 5, none⟩ = some (.pointer (some ⟨sb, 0, none⟩)) := HC.out.cell.cell 5
     clear hrn
     go_wp2_with fail
     refine (close_any HC.out.stm HS.out.ne HS.out.fs9 HS.out.most9 (fun y hy => (HC.out.stm.labs HS.out y hy).2)).mono ?_
     intro en w8 hcl
     cases hco : close s.t with
     | none =>
      rw [hco] at hcl HR2
      obtain ⟨rfl, hb8⟩ := hcl
      have HB8 := zh (HC.out.later hb8).bel
      clear hb8 k5
      go_wp2_with fail
      go_ret2
      exact ⟨by rw [HR2.out]; rfl, HB8.out⟩
     | some r9 =>
      obtain ⟨b, t9⟩ := r9
      rw [hco] at hcl HR2
      obtain ⟨v8, lv8, fv8, rfl, hs8, _, hf8, hv8, _⟩ := hcl
      have HC8 := zh (HC.out.stack hs8 hf8 (Or.inl hv8) (fun _ _ h => h.dropLast))
      have HCL := zh (HS.out.close hco)
      clear hs8 hf8 hv8 k5
      have k5 : w8.cell? ⟨kb, 5, none⟩ = some (.pointer (some ⟨sb, 0, none⟩)) := HC8.out.cell.cell 5
      go_wp2_with fail
      refine (most_any HC8.out.stm).mono ?_
      rintro en w9 ⟨rfl, rfl⟩
      go_wp2_with fail
      go_ret2
      exact ⟨by rw [HR2.out, ← HCL.out.2.2]; rfl, HC8.out.bel⟩
end Go.Proofs.YtmgjcaikldeioaaGreat.Ty
