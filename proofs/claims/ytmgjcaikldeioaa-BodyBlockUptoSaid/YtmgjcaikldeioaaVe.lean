/- gabellelaw10.BodyNops answers true. -/
import Derived.Test.YtmgjcaikldeioaaVd
namespace Go.Proofs.Ytmgjcaikldeioaa.Ty
open Go Go.RowKit Go.Lib Kt Fm Gr

theorem sl_takeI {α : Type} {w : World} {sz : Nat} {en : α → List Value} {s : Option Addr} {n c k : Nat} {L : List α} (h : Sl w sz en (.slice s n c) L) (hk : k ≤ L.length) : Sl w sz en (.slice s k c) (L.take k) := by
  obtain ⟨s', c', e, h2⟩ := h
  injection e with e1 e2 e3
  subst e1
  refine ⟨s, c, by rw [List.length_take, Nat.min_eq_left hk], fun hne => ?_⟩
  have hL : L ≠ [] := fun e => hne (by rw [e]; simp)
  obtain ⟨g, off, e, hlt, hc⟩ := h2 hL
  refine ⟨g, off, e, hlt, fun i x hx j u hu => hc i x ?_ j u hu⟩
  rw [List.getElem?_take] at hx
  split at hx
  · exact hx
  · cases hx
theorem sl_dropI {α : Type} {w : World} {sz : Nat} {en : α → List Value} {g off n c c' k : Nat} {L : List α} (h : Sl w sz en (.slice (some ⟨g, off, none⟩) n c) L) : Sl w sz en (.slice (some ⟨g, off + k * sz, none⟩) (L.length - k) c') (L.drop k) := by
  obtain ⟨s', c2, e, h2⟩ := h
  injection e with e1 e2 e3
  subst e1
  refine ⟨_, c', by rw [List.length_drop], fun hne => ?_⟩
  have hL : L ≠ [] := fun e => hne (by rw [e]; simp)
  obtain ⟨g', off', e, hlt, hc⟩ := h2 hL
  injection e with e
  injection e with e4 e5
  subst e4 e5
  refine ⟨g, off + k * sz, rfl, hlt, fun i x hx j u hu => ?_⟩
  have := hc (k + i) x (by rw [List.getElem?_drop] at hx; exact hx) j u hu
  rw [show off + k * sz + i * sz + j = off + (k + i) * sz + j by rw [Nat.add_mul]; omega]
  exact this
theorem und_is : Try.prog.underlying 38 = some (.slice 49) := by kernel_rfl
theorem inf_is : (Try.prog.info? 49).map (fun i => (i.zero.map (·.cells.size), i.size, i.bytes)) = some (some 5, 5, 48) := by kernel_rfl
theorem siz_is : (Try.prog.info? 38).map (·.size) = some 1 := by kernel_rfl
theorem bs_i0 (w : World) : (Instr.buildSlice 38 0 #[]).run Try.prog w = .ok (.slice (some ⟨w.heap.size, 0, none⟩) 0 0) (w.alloc (.cells #[] 49)) := by kernel_rfl
theorem cxB_of {m : Mod} {GS : List Gt} {BS MS : List Lim} {f : Ft} {c : Cod} (hs : Short m) (hr : f.r.length ≤ 500) : CxB ⟨spcOf m GS BS MS, f, c⟩ :=
  ⟨fun i t e => by
    have := hs t (ftype_mem e)
    omega, fun i t e => by
    have := hs t (List.mem_of_getElem? e)
    omega, Nat.le_trans hr (by decide)⟩
theorem chk_zero {cx : Cx} (h : (chk cx).2 ≠ 0) : (chk cx).1 = 0 := by
  unfold chk at h ⊢
  split
  · rfl
  · rename_i h1
    rw [if_neg h1] at h
    split
    · rfl
    · rename_i h2
      rw [if_neg h2] at h
      cases hr : run cx ⟨stk0 cx.fn.r, []⟩ cx.c.body with
      | error e => rfl
      | ok s =>
        rw [hr] at h
        simp only at h ⊢
        cases hc : close s.t with
        | none => rfl
        | some _ => rw [hc] at h; exact absurd rfl h
theorem chk_fine {cx : Cx} (h : (chk cx).2 = 0) : exprOk cx.c.body = true := by
  cases e : exprOk cx.c.body with
  | true => rfl
  | false => rw [chk_expr e] at h; cases h
theorem expr_snoc {L : List Ins} {x : Ins} (h : exprOk L = true) (hm : mayB x = true) (hk : mark [] x.op = some []) : exprOk (L ++ [x]) = true := by
  unfold exprOk at h ⊢
  rw [decide_eq_true_eq] at h ⊢
  rw [marks_append, h]
  show marks [] [x] = _
  rw [marks, if_pos hm, hk]
  rfl
theorem wl_i0 {ops : Array Oper} {rest : List Oper} {op : Oper} {a : Act} {w : World} {Q : Exit → Act → World → Prop} (hgd : op.guard = none) (ho : op.op = .buildSlice 38 0 #[])
    (hK : ∀ w1, Below w.heap.size w w1 → Lies w1 w.heap.size 49 #[] → wpList Try.prog ops Q rest (a.put op.dst (.slice (some ⟨w.heap.size, 0, none⟩) 0 0)) w1) : wpList Try.prog ops Q (op :: rest) a w := by
  refine wpList_plain hgd fun _ hK' => ?_
  have hb := bs_i0 w
  unfold Oper.wp execOp
  simp only [ho, List.map_toArray, List.map_nil, hb, Sem.run_bind, Sem.run_pure, Result.andThen_ok]
  exact hK' _ _ (hK _ ((Below.refl _ _).alloc (Nat.le_refl _) _) (Lies.new w _ _))
theorem row_join3 {w : World} {base n : Nat} {v : Value} {A B : List Ins} (h : w.ownsRow base 49 5 v (n + B.length) (A.flatMap Ins.cs ++ B.flatMap Ins.cs)) (hn : n = A.length) : w.ownsRow base 49 5 v (A ++ B).length ((A ++ B).flatMap Ins.cs) := by
  rw [List.length_append, List.flatMap_append, ← hn]
  exact h
theorem row_join2 {w : World} {base : Nat} {v : Value} {A B : List Ins} (h : w.ownsRow base 49 5 v (0 + A.length + B.length) ([] ++ A.flatMap Ins.cs ++ B.flatMap Ins.cs)) : w.ownsRow base 49 5 v (A ++ B).length ((A ++ B).flatMap Ins.cs) := by
  rw [List.length_append, List.flatMap_append]
  rw [Nat.zero_add, List.nil_append] at h
  exact h
theorem exec_sl1 {op : Oper} {act : Act} {w : World} {sb : Option Addr} {n cb k : Nat} (p : Operand) (t : Nat) (ho : op.op = .slice 38 p none (some (.tmp t)) none) (hp : act.eval p = .slice sb n cb) (hq : act.eval (.tmp t) = .int .i64 k) (hk : k ≤ cb) : (execOp act.eval op).run Try.prog w = .ok (.value (.slice sb k cb)) w := by
  have hk2 : (k : Int) ≤ (cb : Int) := by omega
  have hq' : act.tmps[t]?.getD undef = .int .i64 k := by simpa [Act.eval] using hq
  unfold execOp
  simp only [ho, hp]
  cases sb with
  | none => first | (go_simp; done) | (go_simp; simp [hq', hk])
  | some a => first | (go_simp; done) | (go_simp; simp [hq', hk])
/-- What is behind the first k. -/
def dropV (sb : Option Addr) (n cb k : Nat) : Value := match sb with
  | none => .slice none (n - k) (cb - k)
  | some a => .slice (if cb = k then some a else some (a.add (k * 5))) (n - k) (cb - k)
theorem exec_sl2 {op : Oper} {act : Act} {w : World} {sb : Option Addr} {n cb k : Nat} (p : Operand) (t : Nat) (ho : op.op = .slice 38 p (some (.tmp t)) none none) (hp : act.eval p = .slice sb n cb) (hq : act.eval (.tmp t) = .int .i64 k) (hk : k ≤ n) (hn : n ≤ cb) : (execOp act.eval op).run Try.prog w = .ok (.value (dropV sb n cb k)) w := by
  have hk2 : (k : Int) ≤ (n : Int) := by omega
  have hk3 : (n : Int) ≤ (cb : Int) := by omega
  have hq' : act.tmps[t]?.getD undef = .int .i64 k := by simpa [Act.eval] using hq
  unfold execOp dropV
  simp only [ho, hp]
  cases sb with
  | none => go_simp
  | some a => go_simp
theorem sl_dropV {w : World} {sb : Option Addr} {n cb k : Nat} {L : List Ins} (h : Sl w 5 Ins.cs (.slice sb n cb) L) (hn : n ≤ cb) : Sl w 5 Ins.cs (dropV sb n cb k) (L.drop k) := by
  have hL : L.length = n := by
    obtain ⟨_, _, e, _⟩ := h.form
    injection e with _ e _
    exact e.symm
  by_cases he : L.drop k = []
  · rw [he]
    have h0 : n - k = 0 := by rw [← hL, ← List.length_drop, he]; rfl
    unfold dropV
    cases sb with
    | none => exact ⟨_, _, by rw [h0]; rfl, fun e => absurd rfl e⟩
    | some a => exact ⟨_, _, by simp only [h0]; rfl, fun e => absurd rfl e⟩
  · have hk : k < n := by
      have := List.length_pos_iff.2 he
      rw [List.length_drop] at this
      omega
    obtain ⟨s, c, e, hs⟩ := h.form
    injection e with e1 _ _
    subst e1
    obtain ⟨g, off, rfl, _⟩ := hs (fun e => by rw [e] at hL; simp at hL; omega)
    have := sl_dropI (k := k) (c' := cb - k) h
    unfold dropV
    simp only [if_neg (show ¬ cb = k by omega), Addr.add_lit]
    rw [← hL]
    exact this
theorem row_join {w : World} {base : Nat} {v : Value} {A B C : List Ins} (h : w.ownsRow base 49 5 v (0 + A.length + B.length + C.length) ([] ++ A.flatMap Ins.cs ++ B.flatMap Ins.cs ++ C.flatMap Ins.cs)) : w.ownsRow base 49 5 v (A ++ B ++ C).length ((A ++ B ++ C).flatMap Ins.cs) := by
  rw [List.length_append, List.length_append, List.flatMap_append, List.flatMap_append]
  rw [Nat.zero_add, List.nil_append] at h
  exact h
/-- No more than there is room for. -/
def CapOk (v : Value) : Prop := ∀ s n c, v = .slice s n c → n ≤ c
theorem oneInsL {w : World} {x : Ins} (h : InsOk w x) : ∀ u ∈ x.cs, u.oneCell' = true := by
  obtain ⟨s, c, e, _⟩ := h.2.2.2.1.form
  intro u hu
  simp only [Ins.cs, e, List.mem_cons, List.not_mem_nil, or_false] at hu
  rcases hu with rfl | rfl | rfl | rfl | rfl <;> rfl
theorem row0 {w : World} {base g : Nat} (h : Lies w g 49 #[]) (hb : base ≤ g) : w.ownsRow base 49 5 (.slice (some ⟨g, 0, none⟩) 0 0) 0 [] :=
  ⟨rfl, .inr ⟨g, 0, #[], rfl, hb, h, Nat.le_refl _, Nat.zero_le _, rfl, rfl⟩⟩
theorem wp_i0 {op : Oper} {a : Act} {w : World} {K : Act → World → Prop} {Q : Exit → Act → World → Prop} (ho : op.op = .buildSlice 38 0 #[]) (hK : ∀ w1, Below w.heap.size w w1 → Lies w1 w.heap.size 49 #[] → K (a.put op.dst (.slice (some ⟨w.heap.size, 0, none⟩) 0 0)) w1) : op.wp Try.prog a w K Q := by
  have hb := bs_i0 w
  unfold Oper.wp execOp
  simp only [ho, List.map_toArray, List.map_nil, hb, Sem.run_bind, Sem.run_pure, Result.andThen_ok]
  exact hK _ ((Below.refl _ _).alloc (Nat.le_refl _) _) (Lies.new w _ _)
theorem wp_i1 {op : Oper} {a : Act} {w : World} {K : Act → World → Prop} {Q : Exit → Act → World → Prop} (x : Ins) (p0 : Operand) (ho : op.op = .buildSlice 38 1 #[(0, p0)]) (h0 : a.eval p0 = .agg x.cs.toArray) (hK : ∀ w1, Below w.heap.size w w1 → Lies w1 w.heap.size 49 ([x].flatMap Ins.cs).toArray → K (a.put op.dst (.slice (some ⟨w.heap.size, 0, none⟩) 1 1)) w1) : op.wp Try.prog a w K Q := by
  have hb := bs_i1 x w
  unfold Oper.wp execOp
  simp only [ho, List.map_toArray, List.map_cons, List.map_nil, h0, hb, Sem.run_bind, Sem.run_pure, Result.andThen_ok]
  exact hK _ ((Below.refl _ _).alloc (Nat.le_refl _) _) (Lies.new w _ _)
theorem region_meet {P : Program} {c : Code} {Q : Exit → Act → World → Prop} {a : Act} {w : World} (R : Act → Act → World → Prop) (h1 : c.wp P (fun e a' w' => e = .normal ∧ R a a' w') a w) (h2 : ∀ a' w', R a a' w' → Q .normal a' w') : c.wp P Q a w :=
  Code.wp_mono (fun e a' w' h => by obtain ⟨rfl, h⟩ := h; exact h2 a' w' h) h1
set_option maxRecDepth 100000 in
set_option maxHeartbeats 16000000 in
theorem law_nops {W : World} {m : Mod} {f : Ft} {c : Cod} {vb : Value} {B : List Ins} (hm : ModOk W m) (hf : FtOk W f) (hc : CodOk W c) (ak : Int) (hB : Sl W 5 Ins.cs vb B) (hBx : ∀ y ∈ B, InsOk W y) (hBl : B.length ≤ Bd) (hcap : CapOk c.bv) :
    Calls Try.prog 3 #[.agg m.cs.toArray, .agg f.cs.toArray, .agg c.cs.toArray, .int .i64 ak, vb] W fun e w' => e = .returned (.bool true) ∧ Below W.heap.size W w' := by
  obtain ⟨sB, cB, rfl, _⟩ := hB.form
  obtain ⟨sb, cb, hbv, hsb⟩ := hc.2.1.form
  have hcl : c.body.length ≤ 1048576 := hc.2.2.2
  have hBl2 : B.length ≤ 1048576 := hBl
  have hncb : c.body.length ≤ cb := hcap _ _ _ hbv
  have HM := Lib.hid hm
  have HF := Lib.hid hf
  have HC := Lib.hid hc
  have HB := Lib.hid hB
  have HBX := Lib.hid hBx
  have HBV := Lib.hid hbv
  have HSB := Lib.hid hsb
  clear hm hf hc hB hBx hbv hsb hBl
  go_enter Try.func3, Try.ntmps3
  go_wp2_with (first | (refine wl_box m.cs _ rfl rfl rfl (fun w1 hb1 hl1 => ?_); have HB1 := Lib.hid hb1; have HL1 := Lib.hid hl1; clear hb1 hl1; simp only [Act.put, List.setIfInBounds_toArray, List.set_cons_zero, List.set_cons_succ]) | (refine wl_box f.cs _ rfl rfl rfl (fun w2 hb2 hl2 => ?_); have HB2 := Lib.hid (bt HB1.out hb2); have HL2 := Lib.hid (HL1.out.below hb2 HL1.out.lt); have HF2 := Lib.hid hl2; clear hb2 hl2; simp only [Act.put, List.setIfInBounds_toArray, List.set_cons_zero, List.set_cons_succ]) | (refine wl_box c.cs _ rfl rfl rfl (fun w3 hb3 hl3 => ?_); have HB3 := Lib.hid (bt HB2.out hb3); have HL3 := Lib.hid (HL2.out.below hb3 HL2.out.lt); have HF3 := Lib.hid (HF2.out.below hb3 HF2.out.lt); have HD3 := Lib.hid hl3; clear hb3 hl3; simp only [Act.put, List.setIfInBounds_toArray, List.set_cons_zero, List.set_cons_succ]))
  refine knownL_any.mono ?_
  rintro en w4 ⟨rfl, hb4⟩
  have HB4 := Lib.hid (bt HB3.out hb4)
  have HL4 := Lib.hid (HL3.out.below hb4 HL3.out.lt)
  have HF4 := Lib.hid (HF3.out.below hb4 HF3.out.lt)
  have HD4 := Lib.hid (HD3.out.below hb4 HD3.out.lt)
  clear hb4 HB1 HB2 HB3 HL1 HL2 HL3 HF2 HF3 HD3
  obtain ⟨Bm, hBm⟩ : ∃ Bm, Bm = W.heap.size := ⟨_, rfl⟩
  obtain ⟨Bf, hBf⟩ : ∃ Bf, Bf = w1.heap.size := ⟨_, rfl⟩
  obtain ⟨Bc, hBc⟩ : ∃ Bc, Bc = w2.heap.size := ⟨_, rfl⟩
  rw [← hBm] at HL4
  rw [← hBf] at HF4
  rw [← hBc] at HD4
  rw [← hBm, ← hBf, ← hBc]
  clear hBm hBf hBc
  go_wp2_with (first | (refine wpList_load_mid rfl 33 _ rfl Bm 0 rfl m.cs _ (lies_range HL4.out) Try.underlying33 rfl sizeMod ?_; simp only [Act.put, List.setIfInBounds_toArray, List.set_cons_zero, List.set_cons_succ]) | (refine wpList_load_mid rfl 36 _ rfl Bf 0 rfl f.cs _ (lies_range HF4.out) Try.underlying36 rfl sizeFt ?_; simp only [Act.put, List.setIfInBounds_toArray, List.set_cons_zero, List.set_cons_succ]) | (refine wpList_load_mid rfl 40 _ rfl Bc 0 rfl c.cs _ (lies_range HD4.out) Try.underlying40 rfl sizeCod ?_; simp only [Act.put, List.setIfInBounds_toArray, List.set_cons_zero, List.set_cons_succ]))
  refine (great_any (HM.out.later HB4.out) (HF.out.later HB4.out) (HC.out.later HB4.out)).mono ?_
  rintro en w5 ⟨⟨bg, rfl, hg⟩, hb5⟩
  have HG := Lib.hid hg
  have HB5 := Lib.hid (bt HB4.out hb5)
  have HL5 := Lib.hid (HL4.out.below hb5 HL4.out.lt)
  have HF5 := Lib.hid (HF4.out.below hb5 HF4.out.lt)
  have HD5 := Lib.hid (HD4.out.below hb5 HD4.out.lt)
  have d1 : w5.cell? ⟨Bc, 1, none⟩ = some (.slice sb c.body.length cb) := (HD5.out.cell 1).trans (congrArg some HBV.out)
  clear hg hb5
  cases bg with
  | true =>
    go_wp2_with fail
    go_ret
    exact ⟨rfl, HB5.out⟩
  | false =>
    by_cases h100 : (100 : Int) < (B.length : Int)
    · go_wp2_with fail
      go_ret
      exact ⟨rfl, HB5.out⟩
    by_cases hneg : ak < 0
    · go_wp2_with fail
      go_ret
      exact ⟨rfl, HB5.out⟩
    by_cases hbig : (c.body.length : Int) < ak
    · go_wp2_with fail
      go_ret
      exact ⟨rfl, HB5.out⟩
    obtain ⟨k, rfl⟩ : ∃ k : Nat, ak = (k : Int) := ⟨ak.toNat, by omega⟩
    have hk : k ≤ c.body.length := by omega
    have hkcb : k ≤ cb := by omega
    have HGG := Lib.hid (HG.out rfl)
    have hb100 : B.length ≤ 100 := by omega
    have hc3 : c.body.length ≤ 3000 := HGG.out.2.1
    go_wp2_with (refine wpList_load_mid rfl 33 _ rfl Bm 0 rfl m.cs _ (lies_range HL5.out) Try.underlying33 rfl sizeMod ?_; simp only [Act.put, List.setIfInBounds_toArray, List.set_cons_zero, List.set_cons_succ])
    refine (sof_any (HM.out.later HB5.out)).mono ?_
    rintro en w6 ⟨S0, rfl, hsp, _, hb6⟩
    obtain ⟨GS, BS, MS, hg6⟩ := SpG.of hsp
    have HSP := Lib.hid hg6
    have HB6 := Lib.hid (bt HB5.out hb6)
    have HF6 := Lib.hid (HF5.out.below hb6 HF5.out.lt)
    have HD6 := Lib.hid (HD5.out.below hb6 HD5.out.lt)
    clear hsp hb6 d1 HL5 HF5 HD5
    go_wp2_with (first | (refine wpList_load_mid rfl 36 _ rfl Bf 0 rfl f.cs _ (lies_range HF6.out) Try.underlying36 rfl sizeFt ?_; simp only [Act.put, List.setIfInBounds_toArray, List.set_cons_zero, List.set_cons_succ]) | (refine wpList_load_mid rfl 40 _ rfl Bc 0 rfl c.cs _ (lies_range HD6.out) Try.underlying40 rfl sizeCod ?_; simp only [Act.put, List.setIfInBounds_toArray, List.set_cons_zero, List.set_cons_succ]))
    refine (check_any HSP.out (HM.out.later HB6.out) (HF.out.later HB6.out) (HC.out.later HB6.out) (by omega) (cxB_of HGG.out.1 (by have := HGG.out.2.2; omega))).mono ?_
    rintro en w7 ⟨rfl, hb7⟩
    obtain ⟨r1, hr1⟩ : ∃ r1, r1 = chk ⟨spcOf m GS BS MS, f, c⟩ := ⟨_, rfl⟩
    rw [← hr1]
    have HR1 := Lib.hid hr1
    have HB7 := Lib.hid (bt HB6.out hb7)
    have HF7 := Lib.hid (HF6.out.below hb7 HF6.out.lt)
    have HD7 := Lib.hid (HD6.out.below hb7 HD6.out.lt)
    have HSP7 := Lib.hid (HSP.out.later hb7)
    clear hr1 hb7 HF6 HD6 HSP
    go_wp2_with (first | (refine wpList_load_mid rfl 40 _ rfl Bc 0 rfl c.cs _ (lies_range HD7.out) Try.underlying40 rfl sizeCod ?_; simp only [Act.put, List.setIfInBounds_toArray, List.set_cons_zero, List.set_cons_succ]) | (refine wl_put (Lies.new _ _ _) c.cs _ _ rfl rfl rfl rfl rfl sizeCod (oneCod HC.out) (fun w8 hl8 hf8 => ?_); have HB8 := Lib.hid (below_put ((Below.refl w7.heap.size w7).alloc (Nat.le_refl _) _) hf8 (Nat.le_refl _)); have HW8 := Lib.hid hl8; have HF8 := Lib.hid (HF7.out.below HB8.out HF7.out.lt); have HD8 := Lib.hid (HD7.out.below HB8.out HD7.out.lt); have HSP8 := Lib.hid (HSP7.out.later HB8.out); obtain ⟨Bw, hBw⟩ : ∃ Bw, Bw = w7.heap.size := ⟨_, rfl⟩; rw [← hBw] at HW8 ⊢; have HBW := Lib.hid hBw; clear hBw hl8 hf8; try simp only [Act.put]))
    clear hg6
    refine region_meet (fun a0 act V => ∃ (u54 u58 u59 u61 u62 u66 u67 : Value), act = (((((((((((((((a0.put (some 55) (.pointer (some ⟨Bc, 1, none⟩))).put (some 56) (.slice sb c.body.length cb)).put (some 57) (.int .i64 k)).put (some 58) (u58)).put (some 60) (.agg (ins 1 0 0).cs.toArray)).put (some 63) (.pointer (some ⟨Bc, 1, none⟩))).put (some 64) (.slice sb c.body.length cb)).put (some 65) (.int .i64 k)).put (some 66) (u66)).put (some 54) (u54)).put (some 59) (u59)).put (some 61) (u61)).put (some 62) (u62)).put (some 67) (u67)).put (some 68) (.pointer (some ⟨Bw, 1, none⟩))) ∧ Below w7.heap.size w7 V ∧ Lies V Bw 40 [c.lv, u67].toArray ∧ V.ownsRow w7.heap.size 49 5 u67 (c.body.take k ++ [ins 1 0 0] ++ c.body.drop k).length ((c.body.take k ++ [ins 1 0 0] ++ c.body.drop k).flatMap Ins.cs)) ?r1 ?r2
    case r1 =>
      have hd := below_drew w8
      have hy0 : Below w7.heap.size w7 w8.drew := bt HB8.out hd
      have HWd := Lib.hid (HW8.out.below hd HW8.out.lt)
      have HBC := Lib.hid HC.out.2.1
      rw [HBV.out] at HBC
      have HONE := Lib.hid (show ∀ y ∈ c.body, ∀ u ∈ y.cs, u.oneCell' = true from fun y hy => oneInsL (HC.out.2.2.1 y hy))
      have HS58 := Lib.hid (sl_takeI HBC.out hk)
      have HS66 := Lib.hid (sl_dropV (k := k) HBC.out hncb)
      refine RP.region (RP.take 1 (RP.take 2 (RP.take 3 (RP.take 4 (RP.take 6 (RP.take 9 (RP.take 10 (RP.take 11 (RP.take 12 (RP.fork 0 7 (RP.fork 5 7 (RP.run 7 (RP.run 8 (RP.run 13 (RP.take 14 (RP.run 15 RP.done))))) (RP.run 5 (RP.run 8 (RP.run 13 (RP.take 14 (RP.run 15 RP.done)))))) (RP.run 0 (RP.run 5 (RP.run 8 (RP.run 13 (RP.take 14 (RP.run 15 RP.done)))))))))))))))) (fun w' => w'.cell? ⟨Bc, 1, none⟩ = some (.slice sb c.body.length cb)) (by kernel_rfl) (by kernel_rfl) (fun _ _ _ _ _ h => by cases h.1) (((HD7.out.below hy0 HD7.out.lt).cell 1).trans (congrArg some HBV.out)) (fun _ => ?_)
      generalize w8.drew = V at hy0 HWd ⊢
      clear hd
      repeat (first | (refine RP.t_take (v := .slice sb k cb) rfl rfl (fun w' _ => exec_sl1 _ _ rfl rfl rfl hkcb) ?_; (try simp only [Act.put, List.setIfInBounds_toArray, List.set_cons_zero, List.set_cons_succ])) | (refine RP.t_take (v := dropV sb c.body.length cb k) rfl rfl (fun w' _ => exec_sl2 _ _ rfl rfl rfl hk hncb) ?_; (try simp only [Act.put, List.setIfInBounds_toArray, List.set_cons_zero, List.set_cons_succ])) | (refine RP.t_take (v := ?_) rfl rfl (fun w' hw' => ?_) ?_; rotate_left; (focus (have q0 := hw'; clear hw'; (try simp only [Act.put, List.setIfInBounds_toArray, List.set_cons_zero, List.set_cons_succ]); go_simp; (try go_bits); (try (with_reducible rfl)))); (try simp only [Act.put, List.setIfInBounds_toArray, List.set_cons_zero, List.set_cons_succ])) | (refine RP.t_skip rfl rfl ?_; (try simp only [Act.put, List.setIfInBounds_toArray, List.set_cons_zero, List.set_cons_succ])))
      refine RP.t_fork rfl rfl (fun K hK => ?_) (fun K hK => ?_)
      · refine ite_of rfl ?_
        refine wp_i0 rfl (fun x1 hb1 hl1 => ?_)
        have hy1 : Below w7.heap.size w7 x1 := hy0.trans (hb1.mono hy0.size)
        have HW1 := Lib.hid (HWd.out.below hb1 HWd.out.lt)
        have HR1 := Lib.hid (row0 hl1 hy0.size)
        have hsz1 : V.heap.size < x1.heap.size := hl1.lt
        refine hK.out _ _ (((HD7.out.below hy1 HD7.out.lt).cell 1).trans (congrArg some HBV.out)) ?_
        clear hK K
        (try simp only [Act.put, List.setIfInBounds_toArray, List.set_cons_zero, List.set_cons_succ])
        clear hb1 hl1
        refine RP.t_fork rfl rfl (fun K hK => ?_) (fun K hK => ?_)
        · refine ite_of rfl ?_
          refine wp_app (by_ := 48) _ _ rfl und_is inf_is (by decide) rfl HR1.out Ins.len rfl (HS58.out.later (bt HB7.out hy1)) (fun y hy => HONE.out y (List.mem_of_mem_take hy)) (by unfold maxLen; simp; omega) (by simp; omega) hy1.size (fun v2 x2 hr2 hg2 hv2 => ?_)
          have hy2 : Below w7.heap.size w7 x2 := hy1.grown hg2 hy1.size (fun _ hk => (row_block HR1.out hk).1)
          have HW2 := Lib.hid (lies_frT HW1.out (FrT.grown HR1.out hg2) (by decide))
          have HR2 := Lib.hid hr2
          refine hK.out _ _ (((HD7.out.below hy2 HD7.out.lt).cell 1).trans (congrArg some HBV.out)) ?_
          clear hK K
          (try simp only [Act.put, List.setIfInBounds_toArray, List.set_cons_zero, List.set_cons_succ])
          clear hr2 hg2 hv2
          refine RP.t_run rfl (fun K hK => ?_)
          refine ite_of rfl ?_
          refine wp_i1 (ins 1 0 0) _ rfl rfl (fun x3 hb3 hs3 => ?_)
          have hy3 : Below w7.heap.size w7 x3 := hy2.trans (hb3.mono hy2.size)
          have HW3 := Lib.hid (HW2.out.below hb3 HW2.out.lt)
          have HU3 := Lib.hid hs3
          have HR3 := Lib.hid (ownsRow_keep HR2.out hb3)
          refine hK.out _ _ (((HD7.out.below hy3 HD7.out.lt).cell 1).trans (congrArg some HBV.out)) ?_
          clear hK K
          (try simp only [Act.put, List.setIfInBounds_toArray, List.set_cons_zero, List.set_cons_succ])
          clear hb3 hs3
          refine RP.t_run rfl (fun K hK => ?_)
          refine ite_of rfl ?_
          refine wp_app (by_ := 48) _ _ rfl und_is inf_is (by decide) rfl HR3.out Ins.len rfl (sl_many (L := [ins 1 0 0]) Ins.len HU3.out) (fun y hy => by obtain rfl := List.mem_singleton.1 hy; exact oneInsL (ins_ok W (by decide) (by decide))) (by unfold maxLen; simp; omega) (by simp; omega) hy3.size (fun v4 x4 hr4 hg4 hv4 => ?_)
          have hy4 : Below w7.heap.size w7 x4 := hy3.grown hg4 hy3.size (fun _ hk => (row_block HR3.out hk).1)
          have HW4 := Lib.hid (lies_frT HW3.out (FrT.grown HR3.out hg4) (by decide))
          have HR4 := Lib.hid hr4
          refine hK.out _ _ (((HD7.out.below hy4 HD7.out.lt).cell 1).trans (congrArg some HBV.out)) ?_
          clear hK K
          (try simp only [Act.put, List.setIfInBounds_toArray, List.set_cons_zero, List.set_cons_succ])
          clear hr4 hg4 hv4
          refine RP.t_run rfl (fun K hK => ?_)
          refine ite_of rfl ?_
          refine wp_app (by_ := 48) _ _ rfl und_is inf_is (by decide) rfl HR4.out Ins.len rfl (HS66.out.later (bt HB7.out hy4)) (fun y hy => HONE.out y (List.mem_of_mem_drop hy)) (by unfold maxLen; simp; omega) (by simp; omega) hy4.size (fun v5 x5 hr5 hg5 hv5 => ?_)
          have hy5 : Below w7.heap.size w7 x5 := hy4.grown hg5 hy4.size (fun _ hk => (row_block HR4.out hk).1)
          have HW5 := Lib.hid (lies_frT HW4.out (FrT.grown HR4.out hg5) (by decide))
          have HR5 := Lib.hid hr5
          refine hK.out _ _ (((HD7.out.below hy5 HD7.out.lt).cell 1).trans (congrArg some HBV.out)) ?_
          clear hK K
          (try simp only [Act.put, List.setIfInBounds_toArray, List.set_cons_zero, List.set_cons_succ])
          clear hr5 hg5 hv5
          repeat (first | (refine RP.t_take (v := .slice sb k cb) rfl rfl (fun w' _ => exec_sl1 _ _ rfl rfl rfl hkcb) ?_; (try simp only [Act.put, List.setIfInBounds_toArray, List.set_cons_zero, List.set_cons_succ])) | (refine RP.t_take (v := dropV sb c.body.length cb k) rfl rfl (fun w' _ => exec_sl2 _ _ rfl rfl rfl hk hncb) ?_; (try simp only [Act.put, List.setIfInBounds_toArray, List.set_cons_zero, List.set_cons_succ])) | (refine RP.t_take (v := ?_) rfl rfl (fun w' hw' => ?_) ?_; rotate_left; (focus (have q0 := hw'; clear hw'; (try simp only [Act.put, List.setIfInBounds_toArray, List.set_cons_zero, List.set_cons_succ]); go_simp; (try go_bits); (try (with_reducible rfl)))); (try simp only [Act.put, List.setIfInBounds_toArray, List.set_cons_zero, List.set_cons_succ])) | (refine RP.t_skip rfl rfl ?_; (try simp only [Act.put, List.setIfInBounds_toArray, List.set_cons_zero, List.set_cons_succ])))
          refine RP.t_run rfl (fun K hK => ?_)
          refine ite_of rfl ?_
          skip
          have HRR := Lib.hid (row_join HR5.out)
          obtain ⟨sv, cv, hvv, _, _⟩ := row_form HRR.out
          subst hvv
          refine wp_fld (c0 := c.cs) HW5.out _ _ rfl rfl rfl [.slice sv _ cv] [c.lv, .slice sv _ cv] rfl siz_is (by intro u hu; obtain rfl := List.mem_singleton.1 hu; rfl) (by simp [Cod.cs]) rfl (fun x6 hl6 hf6 => ?_)
          have hy6 : Below w7.heap.size w7 x6 := hy5.trans (hf6.below hy5.size (fun k hk => by rw [hk, HBW.out]; exact Nat.le_refl _))
          refine hK.out _ _ (((HD7.out.below hy6 HD7.out.lt).cell 1).trans (congrArg some HBV.out)) ?_
          clear hK K
          (try simp only [Act.put])
          exact RP.t_done ⟨rfl, _, _, _, _, _, _, _, rfl, hy6, hl6, row_frT HRR.out (FrT.field HW5.out hf6) (by decide)⟩
        · refine ite_of rfl ?_
          refine wp_i1 (ins 1 0 0) _ rfl rfl (fun x2 hb2 hs2 => ?_)
          have hy2 : Below w7.heap.size w7 x2 := hy1.trans (hb2.mono hy1.size)
          have HW2 := Lib.hid (HW1.out.below hb2 HW1.out.lt)
          have HU2 := Lib.hid hs2
          have HR2 := Lib.hid (ownsRow_keep HR1.out hb2)
          refine hK.out _ _ (((HD7.out.below hy2 HD7.out.lt).cell 1).trans (congrArg some HBV.out)) ?_
          clear hK K
          (try simp only [Act.put, List.setIfInBounds_toArray, List.set_cons_zero, List.set_cons_succ])
          clear hb2 hs2
          refine RP.t_run rfl (fun K hK => ?_)
          refine ite_of rfl ?_
          refine wp_app (by_ := 48) _ _ rfl und_is inf_is (by decide) rfl HR2.out Ins.len rfl (HS58.out.later (bt HB7.out hy2)) (fun y hy => HONE.out y (List.mem_of_mem_take hy)) (by unfold maxLen; simp; omega) (by simp; omega) hy2.size (fun v3 x3 hr3 hg3 hv3 => ?_)
          have hy3 : Below w7.heap.size w7 x3 := hy2.grown hg3 hy2.size (fun _ hk => (row_block HR2.out hk).1)
          have HW3 := Lib.hid (lies_frT HW2.out (FrT.grown HR2.out hg3) (by decide))
          have HU3 := Lib.hid (HU2.out.kept hg3 (fun e => by have e2 : some (x1.heap.size) = some (V.heap.size) := e; injection e2 with e2; omega))
          have HR3 := Lib.hid hr3
          refine hK.out _ _ (((HD7.out.below hy3 HD7.out.lt).cell 1).trans (congrArg some HBV.out)) ?_
          clear hK K
          (try simp only [Act.put, List.setIfInBounds_toArray, List.set_cons_zero, List.set_cons_succ])
          clear hr3 hg3 hv3
          refine RP.t_run rfl (fun K hK => ?_)
          refine ite_of rfl ?_
          refine wp_app (by_ := 48) _ _ rfl und_is inf_is (by decide) rfl HR3.out Ins.len rfl (sl_many (L := [ins 1 0 0]) Ins.len HU3.out) (fun y hy => by obtain rfl := List.mem_singleton.1 hy; exact oneInsL (ins_ok W (by decide) (by decide))) (by unfold maxLen; simp; omega) (by simp; omega) hy3.size (fun v4 x4 hr4 hg4 hv4 => ?_)
          have hy4 : Below w7.heap.size w7 x4 := hy3.grown hg4 hy3.size (fun _ hk => (row_block HR3.out hk).1)
          have HW4 := Lib.hid (lies_frT HW3.out (FrT.grown HR3.out hg4) (by decide))
          have HR4 := Lib.hid hr4
          refine hK.out _ _ (((HD7.out.below hy4 HD7.out.lt).cell 1).trans (congrArg some HBV.out)) ?_
          clear hK K
          (try simp only [Act.put, List.setIfInBounds_toArray, List.set_cons_zero, List.set_cons_succ])
          clear hr4 hg4 hv4
          refine RP.t_run rfl (fun K hK => ?_)
          refine ite_of rfl ?_
          refine wp_app (by_ := 48) _ _ rfl und_is inf_is (by decide) rfl HR4.out Ins.len rfl (HS66.out.later (bt HB7.out hy4)) (fun y hy => HONE.out y (List.mem_of_mem_drop hy)) (by unfold maxLen; simp; omega) (by simp; omega) hy4.size (fun v5 x5 hr5 hg5 hv5 => ?_)
          have hy5 : Below w7.heap.size w7 x5 := hy4.grown hg5 hy4.size (fun _ hk => (row_block HR4.out hk).1)
          have HW5 := Lib.hid (lies_frT HW4.out (FrT.grown HR4.out hg5) (by decide))
          have HR5 := Lib.hid hr5
          refine hK.out _ _ (((HD7.out.below hy5 HD7.out.lt).cell 1).trans (congrArg some HBV.out)) ?_
          clear hK K
          (try simp only [Act.put, List.setIfInBounds_toArray, List.set_cons_zero, List.set_cons_succ])
          clear hr5 hg5 hv5
          repeat (first | (refine RP.t_take (v := .slice sb k cb) rfl rfl (fun w' _ => exec_sl1 _ _ rfl rfl rfl hkcb) ?_; (try simp only [Act.put, List.setIfInBounds_toArray, List.set_cons_zero, List.set_cons_succ])) | (refine RP.t_take (v := dropV sb c.body.length cb k) rfl rfl (fun w' _ => exec_sl2 _ _ rfl rfl rfl hk hncb) ?_; (try simp only [Act.put, List.setIfInBounds_toArray, List.set_cons_zero, List.set_cons_succ])) | (refine RP.t_take (v := ?_) rfl rfl (fun w' hw' => ?_) ?_; rotate_left; (focus (have q0 := hw'; clear hw'; (try simp only [Act.put, List.setIfInBounds_toArray, List.set_cons_zero, List.set_cons_succ]); go_simp; (try go_bits); (try (with_reducible rfl)))); (try simp only [Act.put, List.setIfInBounds_toArray, List.set_cons_zero, List.set_cons_succ])) | (refine RP.t_skip rfl rfl ?_; (try simp only [Act.put, List.setIfInBounds_toArray, List.set_cons_zero, List.set_cons_succ])))
          refine RP.t_run rfl (fun K hK => ?_)
          refine ite_of rfl ?_
          skip
          have HRR := Lib.hid (row_join HR5.out)
          obtain ⟨sv, cv, hvv, _, _⟩ := row_form HRR.out
          subst hvv
          refine wp_fld (c0 := c.cs) HW5.out _ _ rfl rfl rfl [.slice sv _ cv] [c.lv, .slice sv _ cv] rfl siz_is (by intro u hu; obtain rfl := List.mem_singleton.1 hu; rfl) (by simp [Cod.cs]) rfl (fun x6 hl6 hf6 => ?_)
          have hy6 : Below w7.heap.size w7 x6 := hy5.trans (hf6.below hy5.size (fun k hk => by rw [hk, HBW.out]; exact Nat.le_refl _))
          refine hK.out _ _ (((HD7.out.below hy6 HD7.out.lt).cell 1).trans (congrArg some HBV.out)) ?_
          clear hK K
          (try simp only [Act.put])
          exact RP.t_done ⟨rfl, _, _, _, _, _, _, _, rfl, hy6, hl6, row_frT HRR.out (FrT.field HW5.out hf6) (by decide)⟩
      · refine ite_of rfl ?_
        refine wp_i1 (ins 1 0 0) _ rfl rfl (fun x1 hb1 hs1 => ?_)
        have hy1 : Below w7.heap.size w7 x1 := hy0.trans (hb1.mono hy0.size)
        have HW1 := Lib.hid (HWd.out.below hb1 HWd.out.lt)
        have HU1 := Lib.hid hs1
        have hsz1 : V.heap.size < x1.heap.size := hs1.lt
        refine hK.out _ _ (((HD7.out.below hy1 HD7.out.lt).cell 1).trans (congrArg some HBV.out)) ?_
        clear hK K
        (try simp only [Act.put, List.setIfInBounds_toArray, List.set_cons_zero, List.set_cons_succ])
        clear hb1 hs1
        refine RP.t_run rfl (fun K hK => ?_)
        refine ite_of rfl ?_
        refine wp_i0 rfl (fun x2 hb2 hl2 => ?_)
        have hy2 : Below w7.heap.size w7 x2 := hy1.trans (hb2.mono hy1.size)
        have HW2 := Lib.hid (HW1.out.below hb2 HW1.out.lt)
        have HR2 := Lib.hid (row0 hl2 hy1.size)
        have HU2 := Lib.hid (HU1.out.below hb2 HU1.out.lt)
        refine hK.out _ _ (((HD7.out.below hy2 HD7.out.lt).cell 1).trans (congrArg some HBV.out)) ?_
        clear hK K
        (try simp only [Act.put, List.setIfInBounds_toArray, List.set_cons_zero, List.set_cons_succ])
        clear hb2 hl2
        refine RP.t_run rfl (fun K hK => ?_)
        refine ite_of rfl ?_
        refine wp_app (by_ := 48) _ _ rfl und_is inf_is (by decide) rfl HR2.out Ins.len rfl (HS58.out.later (bt HB7.out hy2)) (fun y hy => HONE.out y (List.mem_of_mem_take hy)) (by unfold maxLen; simp; omega) (by simp; omega) hy2.size (fun v3 x3 hr3 hg3 hv3 => ?_)
        have hy3 : Below w7.heap.size w7 x3 := hy2.grown hg3 hy2.size (fun _ hk => (row_block HR2.out hk).1)
        have HW3 := Lib.hid (lies_frT HW2.out (FrT.grown HR2.out hg3) (by decide))
        have HU3 := Lib.hid (HU2.out.kept hg3 (fun e => by have e2 : some (V.heap.size) = some (x1.heap.size) := e; injection e2 with e2; omega))
        have HR3 := Lib.hid hr3
        refine hK.out _ _ (((HD7.out.below hy3 HD7.out.lt).cell 1).trans (congrArg some HBV.out)) ?_
        clear hK K
        (try simp only [Act.put, List.setIfInBounds_toArray, List.set_cons_zero, List.set_cons_succ])
        clear hr3 hg3 hv3
        refine RP.t_run rfl (fun K hK => ?_)
        refine ite_of rfl ?_
        refine wp_app (by_ := 48) _ _ rfl und_is inf_is (by decide) rfl HR3.out Ins.len rfl (sl_many (L := [ins 1 0 0]) Ins.len HU3.out) (fun y hy => by obtain rfl := List.mem_singleton.1 hy; exact oneInsL (ins_ok W (by decide) (by decide))) (by unfold maxLen; simp; omega) (by simp; omega) hy3.size (fun v4 x4 hr4 hg4 hv4 => ?_)
        have hy4 : Below w7.heap.size w7 x4 := hy3.grown hg4 hy3.size (fun _ hk => (row_block HR3.out hk).1)
        have HW4 := Lib.hid (lies_frT HW3.out (FrT.grown HR3.out hg4) (by decide))
        have HR4 := Lib.hid hr4
        refine hK.out _ _ (((HD7.out.below hy4 HD7.out.lt).cell 1).trans (congrArg some HBV.out)) ?_
        clear hK K
        (try simp only [Act.put, List.setIfInBounds_toArray, List.set_cons_zero, List.set_cons_succ])
        clear hr4 hg4 hv4
        refine RP.t_run rfl (fun K hK => ?_)
        refine ite_of rfl ?_
        refine wp_app (by_ := 48) _ _ rfl und_is inf_is (by decide) rfl HR4.out Ins.len rfl (HS66.out.later (bt HB7.out hy4)) (fun y hy => HONE.out y (List.mem_of_mem_drop hy)) (by unfold maxLen; simp; omega) (by simp; omega) hy4.size (fun v5 x5 hr5 hg5 hv5 => ?_)
        have hy5 : Below w7.heap.size w7 x5 := hy4.grown hg5 hy4.size (fun _ hk => (row_block HR4.out hk).1)
        have HW5 := Lib.hid (lies_frT HW4.out (FrT.grown HR4.out hg5) (by decide))
        have HR5 := Lib.hid hr5
        refine hK.out _ _ (((HD7.out.below hy5 HD7.out.lt).cell 1).trans (congrArg some HBV.out)) ?_
        clear hK K
        (try simp only [Act.put, List.setIfInBounds_toArray, List.set_cons_zero, List.set_cons_succ])
        clear hr5 hg5 hv5
        repeat (first | (refine RP.t_take (v := .slice sb k cb) rfl rfl (fun w' _ => exec_sl1 _ _ rfl rfl rfl hkcb) ?_; (try simp only [Act.put, List.setIfInBounds_toArray, List.set_cons_zero, List.set_cons_succ])) | (refine RP.t_take (v := dropV sb c.body.length cb k) rfl rfl (fun w' _ => exec_sl2 _ _ rfl rfl rfl hk hncb) ?_; (try simp only [Act.put, List.setIfInBounds_toArray, List.set_cons_zero, List.set_cons_succ])) | (refine RP.t_take (v := ?_) rfl rfl (fun w' hw' => ?_) ?_; rotate_left; (focus (have q0 := hw'; clear hw'; (try simp only [Act.put, List.setIfInBounds_toArray, List.set_cons_zero, List.set_cons_succ]); go_simp; (try go_bits); (try (with_reducible rfl)))); (try simp only [Act.put, List.setIfInBounds_toArray, List.set_cons_zero, List.set_cons_succ])) | (refine RP.t_skip rfl rfl ?_; (try simp only [Act.put, List.setIfInBounds_toArray, List.set_cons_zero, List.set_cons_succ])))
        refine RP.t_run rfl (fun K hK => ?_)
        refine ite_of rfl ?_
        skip
        have HRR := Lib.hid (row_join HR5.out)
        obtain ⟨sv, cv, hvv, _, _⟩ := row_form HRR.out
        subst hvv
        refine wp_fld (c0 := c.cs) HW5.out _ _ rfl rfl rfl [.slice sv _ cv] [c.lv, .slice sv _ cv] rfl siz_is (by intro u hu; obtain rfl := List.mem_singleton.1 hu; rfl) (by simp [Cod.cs]) rfl (fun x6 hl6 hf6 => ?_)
        have hy6 : Below w7.heap.size w7 x6 := hy5.trans (hf6.below hy5.size (fun k hk => by rw [hk, HBW.out]; exact Nat.le_refl _))
        refine hK.out _ _ (((HD7.out.below hy6 HD7.out.lt).cell 1).trans (congrArg some HBV.out)) ?_
        clear hK K
        (try simp only [Act.put])
        exact RP.t_done ⟨rfl, _, _, _, _, _, _, _, rfl, hy6, hl6, row_frT HRR.out (FrT.field HW5.out hf6) (by decide)⟩
    case r2 =>
    rintro act w9 ⟨u54, u58, u59, u61, u62, u66, u67, rfl, hb9, hl9, hr9⟩
    simp only [Act.put, List.setIfInBounds_toArray, List.set_cons_zero, List.set_cons_succ]
    have HB9 := Lib.hid (bt HB7.out hb9)
    have HF9 := Lib.hid (HF7.out.below hb9 HF7.out.lt)
    have HD9 := Lib.hid (HD7.out.below hb9 HD7.out.lt)
    have HW9 := Lib.hid hl9
    have HSP9 := Lib.hid (HSP7.out.later hb9)
    have HNL := Lib.hid (show ∀ y ∈ c.body.take k ++ [ins 1 0 0] ++ c.body.drop k, InsOk w9 y from fun y hy => by
      rcases List.mem_append.1 hy with hy | hy
      · rcases List.mem_append.1 hy with hy | hy
        · exact (HC.out.2.2.1 y (List.mem_of_mem_take hy)).later HB9.out
        · obtain rfl := List.mem_singleton.1 hy
          exact ins_ok _ (by decide) (by decide)
      · exact (HC.out.2.2.1 y (List.mem_of_mem_drop hy)).later HB9.out)
    have hnl : (c.body.take k ++ [ins 1 0 0] ++ c.body.drop k).length ≤ 3001 := by simp; omega
    have HCW := Lib.hid (show CodOk w9 ⟨c.lv, c.locs, u67, c.body.take k ++ [ins 1 0 0] ++ c.body.drop k⟩ from ⟨(HC.out.later HB9.out).1, own_sl Ins.len hr9, HNL.out, Nat.le_trans hnl (by decide)⟩)
    clear hb9 hl9 hr9 HB8 HW8 HF8 HD8 HSP8 HF7 HD7 HSP7
    go_wp2_with (first | (refine wpList_load_mid rfl 36 _ rfl Bf 0 rfl f.cs _ (lies_range HF9.out) Try.underlying36 rfl sizeFt ?_; simp only [Act.put, List.setIfInBounds_toArray, List.set_cons_zero, List.set_cons_succ]) | (refine wpList_load_mid rfl 40 _ rfl Bw 0 rfl [c.lv, u67] _ (lies_range HW9.out) Try.underlying40 rfl sizeCod ?_; simp only [Act.put, List.setIfInBounds_toArray, List.set_cons_zero, List.set_cons_succ]))
    refine (check_any (c := ⟨c.lv, c.locs, u67, c.body.take k ++ [ins 1 0 0] ++ c.body.drop k⟩) HSP9.out (HM.out.later HB9.out) (HF.out.later HB9.out) HCW.out (Nat.le_trans hnl (by decide)) (cxB_of HGG.out.1 (by have := HGG.out.2.2; omega))).mono ?_
    rintro en w10 ⟨rfl, hb10⟩
    rw [show chk ⟨spcOf m GS BS MS, f, ⟨c.lv, c.locs, u67, c.body.take k ++ [ins 1 0 0] ++ c.body.drop k⟩⟩ = r1 from by
      rw [HR1.out]
      exact chk_nop (x := ins 1 0 0) ⟨rfl, rfl, rfl, rfl, rfl⟩ (a := c.body.take k) (b := c.body.drop k) (List.take_append_drop k c.body).symm (by simp) rfl rfl rfl]
    obtain ⟨p, q⟩ := r1
    have HB10 := Lib.hid (bt HB9.out hb10)
    have HF10 := Lib.hid (HF9.out.below hb10 HF9.out.lt)
    have HD10 := Lib.hid (HD9.out.below hb10 HD9.out.lt)
    have HSP10 := Lib.hid (HSP9.out.later hb10)
    clear hb10 HF9 HD9 HSP9 HW9
    have hp0 : ¬ (p : Int) < 0 := by omega
    by_cases hq : q = 0
    · subst hq
      have d1 : w10.cell? ⟨Bc, 1, none⟩ = some (.slice sb c.body.length cb) := (HD10.out.cell 1).trans (congrArg some HBV.out)
      have HBC := Lib.hid (HC.out.2.1.later HB10.out)
      rw [HBV.out] at HBC
      have HONE := Lib.hid (show ∀ y ∈ c.body, ∀ u ∈ y.cs, u.oneCell' = true from fun y hy => oneInsL (HC.out.2.2.1 y hy))
      obtain ⟨n5, hn5'⟩ : ∃ n5, n5 = (c.body ++ [ins 32 4294967295 0]).length := ⟨_, rfl⟩
      obtain ⟨n8, hn8'⟩ : ∃ n8, n8 = (c.body ++ [ins 32 4294967295 0] ++ B).length := ⟨_, rfl⟩
      have hn5b : n5 ≤ 3001 := by rw [hn5']; simp; omega
      have hn8b : n8 ≤ 3101 := by rw [hn8']; simp; omega
      have HN5 := Lib.hid hn5'
      have HN8 := Lib.hid hn8'
      clear hn5' hn8'
      go_wp2_with (first | (refine wpList_load_mid rfl 40 _ rfl Bc 0 rfl c.cs _ (lies_range HD10.out) Try.underlying40 rfl sizeCod ?_; simp only [Act.put, List.setIfInBounds_toArray, List.set_cons_zero, List.set_cons_succ]) | (refine wl_put (Lies.new _ _ _) c.cs _ _ rfl rfl rfl rfl rfl sizeCod (oneCod HC.out) (fun y1 hl1 hf1 => ?_); have hz1 : Below w10.heap.size w10 y1 := below_put ((Below.refl w10.heap.size w10).alloc (Nat.le_refl _) _) hf1 (Nat.le_refl _); have HX1 := Lib.hid hl1; have HDy := Lib.hid (HD10.out.below hz1 HD10.out.lt); have d2 : y1.cell? ⟨Bc, 1, none⟩ = some (.slice sb c.body.length cb) := (HDy.out.cell 1).trans (congrArg some HBV.out); obtain ⟨Bb, hBb⟩ : ∃ Bb, Bb = w10.heap.size := ⟨_, rfl⟩; rw [← hBb] at HX1 ⊢; have HBB := Lib.hid hBb; clear hBb hl1 hf1 d1; try simp only [Act.put]) | (refine wl_i0 rfl rfl (fun y2 hb2 hl2 => ?_); have hz2 := hz1.trans (hb2.mono hz1.size); have HX2 := Lib.hid (HX1.out.below hb2 HX1.out.lt); have HR2 := Lib.hid (row0 hl2 hz1.size); have hltB : Bc < y1.heap.size := HDy.out.lt; have d3 : y2.cell? ⟨Bc, 1, none⟩ = some (.slice sb c.body.length cb) := keepc hb2 d2; clear hb2 hl2; try simp only [Act.put, List.setIfInBounds_toArray, List.set_cons_zero, List.set_cons_succ]) | (refine wl_i1 (ins 32 4294967295 0) _ rfl rfl rfl (fun y4 hb4 hs4 => ?_); have hz4 := hz3.trans (hb4.mono hz3.size); have HX4 := Lib.hid (HX3.out.below hb4 HX3.out.lt); have HR4 := Lib.hid (ownsRow_keep HR3.out hb4); have HU4 := Lib.hid hs4; clear hb4 hs4; try simp only [Act.put, List.setIfInBounds_toArray, List.set_cons_zero, List.set_cons_succ]) | (refine wl_app (by_ := 48) _ _ rfl rfl und_is inf_is (by decide) rfl HR4.out Ins.len rfl HU4.out (fun y hy => by obtain rfl := List.mem_singleton.1 hy; exact oneInsL (ins_ok W (by decide) (by decide))) (by unfold maxLen; simp; omega) (by simp; omega) hz4.size (fun v5 y5 hr5 hg5 _ => ?_); have hz5 := hz4.grown hg5 hz4.size (fun _ hk => (row_block HR4.out hk).1); have HX5 := Lib.hid (lies_frT HX4.out (FrT.grown HR4.out hg5) (by decide)); have HR5 := Lib.hid (show y5.ownsRow w10.heap.size 49 5 v5 n5 ((c.body ++ [ins 32 4294967295 0]).flatMap Ins.cs) from by have h := row_join2 hr5; rw [← HN5.out] at h; exact h); obtain ⟨s5, c5, rfl, _, _⟩ := row_form HR5.out; clear hr5 hg5; try simp only [Act.put, List.setIfInBounds_toArray, List.set_cons_zero, List.set_cons_succ]) | (refine wl_app (by_ := 48) _ _ rfl rfl und_is inf_is (by decide) rfl HR2.out Ins.len rfl (HBC.out.later hz2) HONE.out (by unfold maxLen; simp; omega) (by simp; omega) hz2.size (fun v3 y3 hr3 hg3 _ => ?_); have hz3 := hz2.grown hg3 hz2.size (fun _ hk => (row_block HR2.out hk).1); have HX3 := Lib.hid (lies_frT HX2.out (FrT.grown HR2.out hg3) (by decide)); have HR3 := Lib.hid hr3; clear hr3 hg3 d2 d3; try simp only [Act.put, List.setIfInBounds_toArray, List.set_cons_zero, List.set_cons_succ]) | (refine wl_fld (c0 := c.cs) HX5.out _ _ rfl rfl rfl rfl [.slice s5 n5 c5] [c.lv, .slice s5 n5 c5] rfl siz_is (by intro u hu; obtain rfl := List.mem_singleton.1 hu; rfl) (by simp [Cod.cs]) rfl (fun y6 hl6 hf6 => ?_); have hz6 := hz5.trans (hf6.below hz5.size (fun k hk => by rw [hk, HBB.out]; exact Nat.le_refl _)); have HX6 := Lib.hid hl6; have HR6 := Lib.hid (row_frT HR5.out (FrT.field HX5.out hf6) (by decide)); have HF6 := Lib.hid (HF10.out.below hz6 HF10.out.lt); clear hl6 hf6; (try simp only [Act.put]) ) | (refine wpList_load_mid rfl 36 _ rfl Bf 0 rfl f.cs _ (lies_range HF6.out) Try.underlying36 rfl sizeFt ?_; simp only [Act.put, List.setIfInBounds_toArray, List.set_cons_zero, List.set_cons_succ]) | (refine wpList_load_mid rfl 40 _ rfl Bb 0 rfl [c.lv, .slice s5 n5 c5] _ (lies_range HX6.out) Try.underlying40 rfl sizeCod ?_; simp only [Act.put, List.setIfInBounds_toArray, List.set_cons_zero, List.set_cons_succ]))
      have hn5 : (c.body ++ [ins 32 4294967295 0]).length ≤ 3001 := by simp; omega
      have HY6 := Lib.hid (bt HB10.out hz6)
      have HBD := Lib.hid (show ∀ y ∈ (c.body ++ [ins 32 4294967295 0]), InsOk y6 y from fun y hy => by
        rcases List.mem_append.1 hy with hy | hy
        · exact (HC.out.2.2.1 y hy).later HY6.out
        · obtain rfl := List.mem_singleton.1 hy
          exact ins_ok _ (by decide) (by decide))
      have HC6 := Lib.hid (show CodOk y6 ⟨c.lv, c.locs, .slice s5 n5 c5, (c.body ++ [ins 32 4294967295 0])⟩ from ⟨(HC.out.later HY6.out).1, own_sl Ins.len (by rw [← HN5.out]; exact HR6.out), HBD.out, Nat.le_trans hn5 (by decide)⟩)
      refine (check_any (c := ⟨c.lv, c.locs, .slice s5 n5 c5, (c.body ++ [ins 32 4294967295 0])⟩) (HSP10.out.later hz6) (HM.out.later HY6.out) (HF.out.later HY6.out) HC6.out (Nat.le_trans hn5 (by decide)) (cxB_of HGG.out.1 (by have := HGG.out.2.2; omega))).mono ?_
      rintro en y7 ⟨rfl, hb7⟩
      obtain ⟨r3, hr3⟩ : ∃ r3, r3 = chk ⟨spcOf m GS BS MS, f, ⟨c.lv, c.locs, .slice s5 n5 c5, (c.body ++ [ins 32 4294967295 0])⟩⟩ := ⟨_, rfl⟩
      rw [← hr3]
      have HR3' := Lib.hid hr3
      have hz7 := hz6.trans (hb7.mono hz6.size)
      have HX7 := Lib.hid (HX6.out.below hb7 HX6.out.lt)
      have HR7 := Lib.hid (ownsRow_keep HR6.out hb7)
      have d7 : y7.cell? ⟨Bb, 1, none⟩ = some (.slice s5 n5 c5) := HX7.out.cell 1
      have HF7' := Lib.hid (HF6.out.below hb7 HF6.out.lt)
      clear hr3 hb7 hz1 hz2 hz3 hz4 hz5 hz6 hltB
      have HONB := Lib.hid (show ∀ y ∈ B, ∀ u ∈ y.cs, u.oneCell' = true from fun y hy => oneInsL (HBX.out y hy))
      go_wp2_with (first | (refine wl_app (by_ := 48) _ _ rfl rfl und_is inf_is (by decide) rfl HR7.out Ins.len rfl (HB.out.later (bt HB10.out hz7)) HONB.out (by unfold maxLen; omega) (by omega) hz7.size (fun v8 y8 hr8 hg8 _ => ?_); have hz8 := hz7.grown hg8 hz7.size (fun _ hk => (row_block HR7.out hk).1); have HX8 := Lib.hid (lies_frT HX7.out (FrT.grown HR7.out hg8) (by decide)); have HR8 := Lib.hid (show y8.ownsRow w10.heap.size 49 5 v8 n8 ((c.body ++ [ins 32 4294967295 0] ++ B).flatMap Ins.cs) from by have h := row_join3 hr8 HN5.out; rw [← HN8.out] at h; exact h); obtain ⟨s8, c8, rfl, _, _⟩ := row_form HR8.out; clear hr8 hg8; (try simp only [Act.put, List.setIfInBounds_toArray, List.set_cons_zero, List.set_cons_succ])) | (refine wl_fld (c0 := [c.lv, .slice s5 n5 c5]) HX8.out _ _ rfl rfl rfl rfl [.slice s8 n8 c8] [c.lv, .slice s8 n8 c8] rfl siz_is (by intro u hu; obtain rfl := List.mem_singleton.1 hu; rfl) (by simp) rfl (fun y9 hl9 hf9 => ?_); have hz9 := hz8.trans (hf9.below hz8.size (fun k hk => by rw [hk, HBB.out]; exact Nat.le_refl _)); have HX9 := Lib.hid hl9; have HR9 := Lib.hid (row_frT HR8.out (FrT.field HX8.out hf9) (by decide)); have HF9 := Lib.hid (HF10.out.below hz9 HF10.out.lt); clear hl9 hf9 d7; (try simp only [Act.put])) | (refine wpList_load_mid rfl 36 _ rfl Bf 0 rfl f.cs _ (lies_range HF9.out) Try.underlying36 rfl sizeFt ?_; simp only [Act.put, List.setIfInBounds_toArray, List.set_cons_zero, List.set_cons_succ]) | (refine wpList_load_mid rfl 40 _ rfl Bb 0 rfl [c.lv, .slice s8 n8 c8] _ (lies_range HX9.out) Try.underlying40 rfl sizeCod ?_; simp only [Act.put, List.setIfInBounds_toArray, List.set_cons_zero, List.set_cons_succ]))
      have hn9 : (c.body ++ [ins 32 4294967295 0] ++ B).length ≤ 3101 := by simp; omega
      have HY9 := Lib.hid (bt HB10.out hz9)
      have HBE := Lib.hid (show ∀ y ∈ (c.body ++ [ins 32 4294967295 0] ++ B), InsOk y9 y from fun y hy => by
        rcases List.mem_append.1 hy with hy | hy
        · rcases List.mem_append.1 hy with hy | hy
          · exact (HC.out.2.2.1 y hy).later HY9.out
          · obtain rfl := List.mem_singleton.1 hy
            exact ins_ok _ (by decide) (by decide)
        · exact (HBX.out y hy).later HY9.out)
      have HC9 := Lib.hid (show CodOk y9 ⟨c.lv, c.locs, .slice s8 n8 c8, (c.body ++ [ins 32 4294967295 0] ++ B)⟩ from ⟨(HC.out.later HY9.out).1, own_sl Ins.len (by rw [← HN8.out]; exact HR9.out), HBE.out, Nat.le_trans hn9 (by decide)⟩)
      refine (check_any (c := ⟨c.lv, c.locs, .slice s8 n8 c8, (c.body ++ [ins 32 4294967295 0] ++ B)⟩) (HSP10.out.later hz9) (HM.out.later HY9.out) (HF.out.later HY9.out) HC9.out (Nat.le_trans hn9 (by decide)) (cxB_of HGG.out.1 (by have := HGG.out.2.2; omega))).mono ?_
      rintro en y10 ⟨rfl, hb10⟩
      obtain ⟨r4, hr4⟩ : ∃ r4, r4 = chk ⟨spcOf m GS BS MS, f, ⟨c.lv, c.locs, .slice s8 n8 c8, (c.body ++ [ins 32 4294967295 0] ++ B)⟩⟩ := ⟨_, rfl⟩
      rw [← hr4]
      have HR4' := Lib.hid hr4
      have hz10 := hz9.trans (hb10.mono hz9.size)
      have HFa := Lib.hid (HF10.out.below hz10 HF10.out.lt)
      have HDa := Lib.hid (HD10.out.below hz10 HD10.out.lt)
      have HYa := Lib.hid (bt HB10.out hz10)
      clear hr4 hb10 hz7 hz8 hz9
      go_wp2_with (first | (refine wpList_load_mid rfl 36 _ rfl Bf 0 rfl f.cs _ (lies_range HFa.out) Try.underlying36 rfl sizeFt ?_; simp only [Act.put, List.setIfInBounds_toArray, List.set_cons_zero, List.set_cons_succ]) | (refine wpList_load_mid rfl 40 _ rfl Bc 0 rfl c.cs _ (lies_range HDa.out) Try.underlying40 rfl sizeCod ?_; simp only [Act.put, List.setIfInBounds_toArray, List.set_cons_zero, List.set_cons_succ]))
      refine (loc_any (a := 4294967295) (HF.out.later HYa.out) (HC.out.later HYa.out) (by decide)).mono ?_
      rintro en y11 ⟨⟨t, rfl, _⟩, hb11⟩
      have HYb := Lib.hid (bt HYa.out hb11)
      clear hb11
      have hok : (chk ⟨spcOf m GS BS MS, f, c⟩).2 = 0 := by rw [← HR1.out]
      cases hloc : locT f c 4294967295 with
      | some u =>
        simp only [Option.isSome_some]
        clear hok
        go_wp2_with fail
        go_ret
        exact ⟨rfl, HYb.out⟩
      | none =>
        simp only [Option.isSome_none]
        have h3 : r3 = (0, 80) := by
          rw [HR3'.out]
          refine (chk_bad (cx := ⟨spcOf m GS BS MS, f, c⟩) (cx' := ⟨spcOf m GS BS MS, f, ⟨c.lv, c.locs, .slice s5 n5 c5, c.body ++ [ins 32 4294967295 0]⟩⟩) (x := ins 32 4294967295 0) ⟨rfl, rfl, rfl, rfl⟩ hloc (b := []) rfl rfl rfl rfl hok).trans ?_
          rw [if_pos (expr_snoc (chk_fine hok) (by rfl) (by rfl))]
        have h4 : r4 = (0, if exprOk (c.body ++ ins 32 4294967295 0 :: B) then 80 else 2) := by
          rw [HR4'.out]
          exact chk_bad (cx := ⟨spcOf m GS BS MS, f, c⟩) (x := ins 32 4294967295 0) ⟨rfl, rfl, rfl, rfl⟩ hloc (b := B) (by simp) rfl rfl rfl hok
        subst h3
        subst h4
        clear hok hloc
        cases hex : exprOk (c.body ++ ins 32 4294967295 0 :: B) with
        | true =>
          go_wp2_with fail
          go_ret
          exact ⟨rfl, HYb.out⟩
        | false =>
          go_wp2_with fail
          go_ret
          exact ⟨rfl, HYb.out⟩
    · have hq1 : ¬ (q : Int) = 0 := by omega
      have hq2 : ((q : Int) != 0) = true := by simpa using hq
      have hpz : p = 0 := by
        have := chk_zero (cx := ⟨spcOf m GS BS MS, f, c⟩) (by rw [← HR1.out]; exact hq)
        rw [← HR1.out] at this
        exact this
      subst hpz
      go_wp2_with fail
      go_ret
      exact ⟨rfl, HB10.out⟩
end Go.Proofs.Ytmgjcaikldeioaa.Ty
