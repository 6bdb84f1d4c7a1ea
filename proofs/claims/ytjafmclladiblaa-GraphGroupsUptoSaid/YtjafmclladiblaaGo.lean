/- Graph: which functions call which, as it is in memory; the walk of Of. -/
import Derived.Test.YtjafmclladiblaaGq
import Derived.Test.YtjafmclladiblaaRt
import Derived.Deep.OwnRows
namespace Go.Proofs.Ytjafmclladiblaa.Gr
open Go Go.RowKit Go.Lib Kt Fm

/-- A graph in memory. -/
def Gph (w : World) (G : Nat) (m : Mod) : Prop := ∃ (cv rv : Value) (CV : List Value), Lies w G 70 #[.int .i64 (fk m 0).length, cv, rv] ∧ Sl w 1 vc cv CV ∧ CV.length = cnt m ∧ (∀ (j : Nat) (v : Value), CV[j]? = some v → Sl w 1 ic v (callsL m j)) ∧ Sl w 1 ic rv (rootsL m)
theorem Gph.later {w w' : World} {G : Nat} {m : Mod} (h : Gph w G m) (hb : Below w.heap.size w w') : Gph w' G m := by
  obtain ⟨cv, rv, CV, h1, h2, h3, h4, h5⟩ := h
  exact ⟨cv, rv, CV, h1.below hb h1.lt, h2.later hb, h3, fun j v hv => (h4 j v hv).later hb, h5.later hb⟩
theorem made_list (z : Value) (n : Nat) : (madeCells #[z] n).toList = List.replicate n z := by
  refine List.ext_getElem (by simp [size_madeCells]) fun i h1 h2 => ?_
  simp [madeCells, Nat.mod_one]
theorem wp_mk {P : Program} {op : Oper} {a : Act} {w : World} {K : Act → World → Prop} {Q : Exit → Act → World → Prop} {t e : TypeId} {z : Value} {bytes : Nat} (ht : P.underlying t = some (.slice e)) (hinfo : (P.info? e).map (fun i => (i.zero, i.size, i.bytes)) = some (some z, 1, bytes)) (hz1 : z.cells = #[z])
    (p q : Operand) (ho : op.op = .makeSlice t p q) {kl kc : IntKind} {n : Nat} (hp : a.eval p = .int kl (n : Int)) (hq : a.eval q = .int kc (n : Int)) (hbytes : bytes * n ≤ 281474976710656) (h63 : n ≤ 9223372036854775807)
    (hK : ∀ w1, Below w.heap.size w w1 → w1.ownsRow w.heap.size e 1 (.slice (some ⟨w.heap.size, 0, none⟩) n n) n (List.replicate n z) → K (a.put op.dst (.slice (some ⟨w.heap.size, 0, none⟩) n n)) w1) : op.wp P a w K Q := by
  have hr := run_make_row' (P := P) t e z bytes ht hinfo hz1 kl kc n hbytes h63 w
  unfold Oper.wp execOp
  simp [ho, hp, hq, hr]
  refine hK _ ((Below.refl _ _).alloc (Nat.le_refl _) _) ⟨by simp, .inr ⟨w.heap.size, n, madeCells #[z] n, rfl, Nat.le_refl _, World.alloc_heap_new w _, Nat.le_refl _, by unfold maxLen; omega, by simp [size_madeCells], ?_⟩⟩
  rw [Nat.mul_one, made_list, List.take_of_length_le (by simp)]
theorem wp_box1 {P : Program} {op : Oper} {a : Act} {w : World} {K : Act → World → Prop} {Q : Exit → Act → World → Prop} {ty : TypeId} (cs : List Value) (p : Operand) (ho : op.op = .box ty p)
    (hx : a.eval p = .agg cs.toArray) (hk : ∀ w1, Below w.heap.size w w1 → Lies w1 w.heap.size ty cs.toArray → K (a.put op.dst (.pointer (some ⟨w.heap.size, 0, none⟩))) w1) : op.wp P a w K Q := by
  unfold Oper.wp execOp
  simp only [ho, hx]
  go_simp
  exact hk _ ((Below.refl _ _).alloc (Nat.le_refl _) _) (Lies.new w _ _)
theorem info_li : (Try.prog.info? 40).map (fun i => (i.zero, i.size, i.bytes)) = some (some (.slice none 0 0), 1, 24) := by kernel_rfl
theorem size_int : (Try.prog.info? 3).map (·.size) = some 1 := by kernel_rfl
theorem size_li : (Try.prog.info? 40).map (·.size) = some 1 := by kernel_rfl
theorem cells_int (k : IntKind) (x : Int) : (Value.int k x).cells = [Value.int k x].toArray := rfl
theorem one_int (k : IntKind) (x : Int) : ∀ u ∈ [Value.int k x], u.oneCell' = true := by simp [Value.oneCell']
theorem ite_of {b : Bool} {p q : Prop} (h : b = true) (hp : p) : if b = true then p else q := by rw [if_pos h]; exact hp
theorem region_meet {P : Program} {c : Code} {Q : Exit → Act → World → Prop} {a : Act} {w : World} (R : Act → Act → World → Prop) (h1 : c.wp P (fun e a' w' => e = .normal ∧ R a a' w') a w) (h2 : ∀ a' w', R a a' w' → Q .normal a' w') : c.wp P Q a w :=
  Code.wp_mono (fun e a' w' h => by obtain ⟨rfl, h⟩ := h; exact h2 a' w' h) h1
theorem sizeCod : (Try.prog.info? 63).map (·.size) = some 2 := by kernel_rfl
theorem oneCod {w : World} {x : Cod} (h : CodOk w x) : (x.cs.toArray.all (·.oneCell')) = true := by
  obtain ⟨s, n, c, e⟩ := h.1
  obtain ⟨s2, c2, e2, _⟩ := h.2.1.form
  simp [Cod.cs, e, e2, Value.oneCell']
theorem sizeIns : (Try.prog.info? 75).map (·.size) = some 5 := by kernel_rfl
theorem oneIns {w : World} {x : Ins} (h : InsOk w x) : (x.cs.toArray.all (·.oneCell')) = true := by
  obtain ⟨s, n, c, e⟩ := h.2.2
  simp [Ins.cs, e, Value.oneCell']
theorem typB_none {m : Mod} {f : Nat} {y : Ins} (h : false = (m.types[y.a]?).isSome) : typB m f y = false := by
  unfold typB
  have hn : m.types[y.a]? = none := by simpa using h.symm
  rw [hn]
  cases ftype m f <;> rfl
theorem typB_none2 {m : Mod} {f : Nat} {y : Ins} (h : false = (ftype m f).isSome) : typB m f y = false := by
  unfold typB
  have hn : ftype m f = none := by simpa using h.symm
  rw [hn]
theorem typB_told {m : Mod} {f : Nat} {y : Ins} {z u : Ft} (hz : FnTold m f z) (hu : TyTold m y.a u) (h2 : true = (ftype m f).isSome) (h1 : true = (m.types[y.a]?).isSome) : typB m f y = same z u := by
  obtain ⟨t, ht⟩ := Option.isSome_iff_exists.1 h2.symm
  obtain ⟨w, hw⟩ := Option.isSome_iff_exists.1 h1.symm
  unfold FnTold at hz
  unfold TyTold at hu
  rw [ht] at hz
  rw [hw] at hu
  simp only [Prod.mk.injEq] at hz hu
  unfold typB
  rw [ht, hw]
  unfold same
  rw [hz.1, hz.2, hu.1, hu.2]
theorem wl_loadw {P : Program} {ops : Array Oper} {rest : List Oper} {op : Oper} {a : Act} {w : World} {Q : Exit → Act → World → Prop} {cs : List Value} {b o : Nat} {ty : TypeId} {d : TypeDesc} (h : w.rangeAt b o cs) (p : Operand) (hgd : Region.wanted op (yielded ops a.tmps) = true) (ho : op.op = .load ty p)
    (hx : a.eval p = .pointer (some ⟨b, o, none⟩)) (hu : P.underlying ty = some d) (hd : d.isRow = true) (hi : (P.info? ty).map (·.size) = some cs.length) (hk : wpList P ops Q rest (a.put op.dst (.agg cs.toArray)) w) : wpList P ops Q (op :: rest) a w := by
  refine BigFrame.wpList_want hgd fun _ hK => ?_
  have hl := run_loadAt_mid (P := P) w b o ty cs _ h hu hd hi
  unfold Oper.wp execOp
  simp only [ho, hx, hl, Sem.run_bind, Sem.run_pure, Result.andThen_ok]
  exact hK _ _ hk
/-- The roots while they are gathered, from w0 on. -/
structure Ro (w0 wr : World) (G : Nat) (m : Mod) (cv : Value) (v : Value) (M : List Nat) : Prop where
  fr : Fr w0 wr (fun k => k = G)
  g : Lies wr G 70 [.int .i64 (fk m 0).length, cv, v].toArray
  cur : wr.ownsRow w0.heap.size 3 1 v M.length (M.flatMap ic)
theorem Ro.start {w0 : World} {G : Nat} {m : Mod} {cv : Value} (h : Lies w0 G 70 #[.int .i64 (fk m 0).length, cv, .slice none 0 0]) : Ro w0 w0 G m cv (.slice none 0 0) [] := ⟨Fr.refl _ _, h, World.ownsRow_nil _ _ _ _⟩
theorem Ro.later {w0 wr w1 : World} {G : Nat} {m : Mod} {cv v : Value} {M : List Nat} (h : Ro w0 wr G m cv v M) (hb : Below wr.heap.size wr w1) : Ro w0 w1 G m cv v M :=
  ⟨h.fr.trans (Fr.of_below hb _), h.g.below hb h.g.lt, ownsRow_keep h.cur hb⟩
theorem Ro.mid {w0 wr w1 : World} {G : Nat} {m : Mod} {cv v : Value} {M : List Nat} (h : Ro w0 wr G m cv v M) (hg : wr.grownBy w1 v.ownBlock) : Lies w1 G 70 [.int .i64 (fk m 0).length, cv, v].toArray := lies_frT h.g (FrT.grown h.cur hg) (by decide)
theorem Ro.turn {w0 wr w1 w2 : World} {G : Nat} {m : Mod} {cv v v' : Value} {M M' : List Nat} (h : Ro w0 wr G m cv v M) (hr : w1.ownsRow w0.heap.size 3 1 v' M'.length (M'.flatMap ic)) (hg : wr.grownBy w1 v.ownBlock) (hl : Lies w2 G 70 [.int .i64 (fk m 0).length, cv, v'].toArray) (hf : Fr w1 w2 (fun k => k = G)) : Ro w0 w2 G m cv v' M' := by
  have f1 : Fr w0 w1 (fun k => k = G) := by
    refine ⟨hg.os.trans h.fr.os, hg.tape.trans h.fr.tape, hg.output.trans h.fr.output, Nat.le_trans h.fr.size hg.size, fun i hi hn => ?_⟩
    exact (hg.block i (Nat.lt_of_lt_of_le hi h.fr.size) (fun e => by have := (row_block h.cur e.symm).1; omega)).trans (h.fr.block i hi hn)
  exact ⟨f1.trans hf, hl, row_frT hr (FrT.field (h.mid hg) hf) (by decide)⟩
theorem Ro.done {w4 w0 wr : World} {R0 G CB : Nat} {m : Mod} {CV : List Value} {v : Value} (h : Ro w0 wr G m (.slice (some ⟨CB, 0, none⟩) (cnt m) (cnt m)) v (rootsL m)) (hd : GoD w4 w0 R0 G CB m CV) : Gph wr G m := by
  have hne : ∀ (e : TypeId) (cur : Array Value), e ≠ 70 → w0.heap[G]? = some (.cells cur e (0, 0)) → False := fun e cur he hc => by
    rw [show w0.heap[G]? = _ from hd.g] at hc
    injection hc with hc
    injection hc with _ h2 _
    exact he h2.symm
  refine ⟨_, v, CV, h.g, ?_, hd.len, fun j u hj => ?_, own_sl ic_len h.cur⟩
  · have hr := row_fr hd.row h.fr (fun k hk e => by
      subst e
      obtain ⟨_, _, cur, hc⟩ := row_block hd.row hk
      exact hne _ cur (by decide) hc)
    have := own_sl (L := CV) (en := vc) (sz := 1) (fun _ => rfl) (v := .slice (some ⟨CB, 0, none⟩) (cnt m) (cnt m)) (w := wr) (base := R0) (e := 40) (by rw [flat_vc, hd.len]; exact hr)
    exact this
  · refine ((hd.lists j u hj).kept h.fr (fun k _ hk e => ?_)).sl ic_len
    subst e
    obtain ⟨_, _, cur, hc⟩ := wrow_lt (hd.lists j u hj) hk.symm
    exact hne _ cur (by decide) hc
def pushR (n : Nat) (x : Exp) : List Nat := if x.kind == 0 then (if x.ix < n then [x.ix] else []) else []
def pushS (m : Mod) : List Nat := if m.hs then (if m.st < cnt m then [m.st] else []) else []
theorem pushR_le (n : Nat) (x : Exp) : (pushR n x).length ≤ 1 := by unfold pushR; split <;> (try split) <;> simp
theorem pushR_lt {n : Nat} {x : Exp} {h : Nat} (hh : h ∈ pushR n x) : h < n := by
  unfold pushR at hh
  split at hh
  · split at hh
    · rename_i ha
      obtain rfl := List.mem_singleton.1 hh
      exact ha
    · cases hh
  · cases hh
theorem srt_roots (m : Mod) : srt (cnt m) (m.exps.flatMap (pushR (cnt m)) ++ pushS m) = rootsL m := by
  unfold srt rootsL
  refine List.filter_congr fun h hh => ?_
  have hn := List.mem_range.1 hh
  rw [Bool.eq_iff_iff, List.contains_iff_mem, List.mem_append, List.mem_flatMap, rootB, Bool.or_eq_true, List.any_eq_true]
  have e1 : ∀ x : Exp, h ∈ pushR (cnt m) x ↔ (x.kind == 0 && x.ix == h) = true := fun x => by
    unfold pushR
    cases hk : x.kind == 0 with
    | false => simp
    | true =>
      rw [if_pos rfl, Bool.true_and, beq_iff_eq]
      by_cases hx : x.ix < cnt m
      · rw [if_pos hx, List.mem_singleton]
        exact ⟨fun e => e.symm, fun e => e.symm⟩
      · rw [if_neg hx]
        constructor
        · intro e; cases e
        · intro e; omega
  have e2 : h ∈ pushS m ↔ (m.hs && m.st == h) = true := by
    unfold pushS
    cases hk : m.hs with
    | false => simp
    | true =>
      rw [if_pos rfl, Bool.true_and, beq_iff_eq]
      by_cases hx : m.st < cnt m
      · rw [if_pos hx, List.mem_singleton]
        exact ⟨fun e => e.symm, fun e => e.symm⟩
      · rw [if_neg hx]
        constructor
        · intro e; cases e
        · intro e; omega
  rw [e2]
  constructor
  · rintro (⟨x, hx, hm⟩ | hm)
    · exact Or.inl ⟨x, hx, (e1 x).1 hm⟩
    · exact Or.inr hm
  · rintro (⟨x, hx, hm⟩ | hm)
    · exact Or.inl ⟨x, hx, (e1 x).2 hm⟩
    · exact Or.inr hm
theorem sizeExp : (Try.prog.info? 84).map (·.size) = some 3 := by kernel_rfl
theorem oneExp (x : Exp) : (x.cs.toArray.all (·.oneCell')) = true := by simp [Exp.cs, Value.oneCell']
theorem cnt_le {W : World} {m : Mod} (hm : ModOk W m) : cnt m ≤ 2097152 := by
  have := Nat.le_trans (fimps_le m) hm.2.1.2.2
  have := hm.2.2.1.2.2
  unfold cnt Bd at *
  omega

set_option maxRecDepth 100000 in
set_option maxHeartbeats 16000000 in
theorem gof_any {W : World} {m : Mod} (hm : ModOk W m) :
    Calls Try.prog 9 #[.agg m.cs.toArray] W fun e w' => ∃ G, e = .returned (.pointer (some ⟨G, 0, none⟩)) ∧ Gph w' G m ∧ Below W.heap.size W w' := by
  have hcl := cnt_le hm
  have HM := Lib.hid hm
  clear hm
  go_enter Try.func9, Try.ntmps9
  go_wp2_with (first | (refine wl_box m.cs _ rfl rfl rfl (fun w1 hb1 hl1 => ?_); have HB1 := Lib.hid hb1; have HL1 := Lib.hid hl1; clear hb1 hl1; simp only [Act.put, List.setIfInBounds_toArray, List.set_cons_zero, List.set_cons_succ]) | (refine wpList_load_mid rfl 33 _ rfl W.heap.size 0 rfl m.cs _ (lies_range HL1.out) Try.underlying33 rfl sizeMod ?_; simp only [Act.put, List.setIfInBounds_toArray, List.set_cons_zero, List.set_cons_succ]))
  refine (sof_any (HM.out.later HB1.out)).mono ?_
  rintro en w2 ⟨S0, rfl, hsp, hs0, hb2⟩
  have HSP := Lib.hid hsp
  have HL2 := Lib.hid (HL1.out.below hb2 HL1.out.lt)
  have HB2 := Lib.hid (bt HB1.out hb2)
  clear hsp hb2 HB1 HL1
  go_wp2_with fail
  refine (count_any HSP.out).mono ?_
  rintro en w3 ⟨rfl, hb3⟩
  have HSP := Lib.hid (HSP.out.later hb3)
  have HL3 := Lib.hid (HL2.out.below hb3 HL2.out.lt)
  have HB3 := Lib.hid (bt HB2.out hb3)
  clear hb3 HB2 HL2
  go_wp2_with fail
  obtain ⟨w4, hw4⟩ : ∃ w4, w4 = w3.alloc (.cells #[.int .i64 (cnt m)] 3) := ⟨_, rfl⟩
  have HB4' := Lib.hid (show Below w3.heap.size w3 w4 from hw4 ▸ (Below.refl _ _).alloc (Nat.le_refl _) _)
  have HN := Lib.hid (show Lies w4 w3.heap.size 3 #[.int .i64 (cnt m)] from hw4 ▸ Lies.new _ _ _)
  rw [← hw4]
  clear hw4
  have HSP := Lib.hid (HSP.out.later HB4'.out)
  have HL4 := Lib.hid (HL3.out.below HB4'.out HL3.out.lt)
  have HB4 := Lib.hid (bt HB3.out HB4'.out)
  clear HB3 HL3 HB4'
  generalize hMB : w3.heap.size = MB at HN ⊢
  clear hMB
  generalize hR0 : w4.heap.size = R0
  have hB0 : W.heap.size < R0 := by rw [← hR0]; exact HL4.out.lt
  have hS0 : S0 < R0 := by rw [← hR0]; exact HSP.out.lt
  have hMB : MB < R0 := by rw [← hR0]; exact HN.out.lt
  generalize hBe : W.heap.size = B at hB0 HL4 ⊢
  refine region_meet (fun a0 act V => ∃ (G CB : Nat), act = ((((((a0.put (some 25) (.pointer (some ⟨S0, 0, none⟩))).put (some 26) (.int .i64 (fk m 0).length)).put (some 27) (.int .i64 (cnt m))).put (some 28) (.slice (some ⟨CB, 0, none⟩) (cnt m) (cnt m))).put (some 29) (.agg #[.int .i64 (fk m 0).length, .slice (some ⟨CB, 0, none⟩) (cnt m) (cnt m), .slice none 0 0])).put (some 30) (.pointer (some ⟨G, 0, none⟩))).put (some 5) (.pointer (some ⟨G, 0, none⟩)) ∧ Below R0 w4 V ∧ Lies V G 70 #[.int .i64 (fk m 0).length, .slice (some ⟨CB, 0, none⟩) (cnt m) (cnt m), .slice none 0 0] ∧ V.ownsRow R0 40 1 (.slice (some ⟨CB, 0, none⟩) (cnt m) (cnt m)) (cnt m) (List.replicate (cnt m) (.slice none 0 0)) ∧ R0 ≤ G) ?_ ?_
  case refine_1 =>
    have hd := below_drew w4
    rw [hR0] at hd
    have HD := Lib.hid hd
    clear hd
    have hnV : w4.drew.cell? ⟨MB, 0, none⟩ = some (.int .i64 (cnt m)) := HN.out.cell 0
    refine RP.region (RP.take 0 (RP.take 2 (RP.fork 1 3 (RP.run 3 (RP.take 4 (RP.run 5 (RP.take 6 RP.done)))) (RP.run 1 (RP.take 4 (RP.run 5 (RP.take 6 RP.done))))))) (fun w' => w'.cell? ⟨MB, 0, none⟩ = some (.int .i64 (cnt m))) (by kernel_rfl) (by kernel_rfl) (fun _ _ _ _ _ h => by cases h.1) hnV (fun _ => ?_)
    have HSV := Lib.hid (HSP.out.later (below_drew w4))
    have hd : Below R0 w4 w4.drew := HD.out
    have hsz : w4.drew.heap.size = R0 := hR0
    generalize w4.drew = V at hd HSV hnV hsz ⊢
    clear HD
    repeat (first | (refine RP.t_take (v := ?_) rfl rfl (fun w' hw' => ?_) ?_; rotate_left; (focus ((have q0 := hw'; clear hw'); go_simp; (try go_bits); (try (with_reducible rfl)))); (try simp only [Act.put, List.setIfInBounds_toArray, List.set_cons_zero, List.set_cons_succ])) | (refine RP.t_skip rfl rfl ?_; (try simp only [Act.put, List.setIfInBounds_toArray, List.set_cons_zero, List.set_cons_succ])))
    refine RP.t_fork rfl rfl (fun K hK => ?_) (fun K hK => ?_)
    · skip
      go_simp
      refine (imported_any HSV.out).mono ?_
      rintro en wi ⟨rfl, hbi⟩
      have hni := keepc hbi hnV
      refine hK.out _ _ hni ?_
      clear hK K
      (try simp only [Act.put, List.setIfInBounds_toArray, List.set_cons_zero, List.set_cons_succ])
      refine RP.t_run rfl (fun K hK => ?_)
      refine ite_of rfl ?_
      refine wp_mk Try.underlying55 info_li rfl _ _ rfl rfl rfl (by omega) (by omega) (fun wk hbk hrk => ?_)
      have hnk := keepc hbk hni
      refine hK.out _ _ hnk ?_
      clear hK K
      (try simp only [Act.put, List.setIfInBounds_toArray, List.set_cons_zero, List.set_cons_succ])
      repeat (first | (refine RP.t_take (v := ?_) rfl rfl (fun w' hw' => ?_) ?_; rotate_left; (focus ((have q0 := hw'; clear hw'); go_simp; (try go_bits); (try (with_reducible rfl)))); (try simp only [Act.put, List.setIfInBounds_toArray, List.set_cons_zero, List.set_cons_succ])) | (refine RP.t_skip rfl rfl ?_; (try simp only [Act.put, List.setIfInBounds_toArray, List.set_cons_zero, List.set_cons_succ])))
      refine RP.t_run rfl (fun K hK => ?_)
      refine ite_of rfl ?_
      refine wp_box1 [.int .i64 (fk m 0).length, .slice (some ⟨wi.heap.size, 0, none⟩) (cnt m) (cnt m), .slice none 0 0] _ rfl rfl (fun wb hbb hlb => ?_)
      refine hK.out _ _ (keepc hbb hnk) ?_
      clear hK K
      (try simp only [Act.put, List.setIfInBounds_toArray, List.set_cons_zero, List.set_cons_succ])
      repeat (first | (refine RP.t_take (v := ?_) rfl rfl (fun w' hw' => ?_) ?_; rotate_left; (focus ((have q0 := hw'; clear hw'); go_simp; (try go_bits); (try (with_reducible rfl)))); (try simp only [Act.put, List.setIfInBounds_toArray, List.set_cons_zero, List.set_cons_succ])) | (refine RP.t_skip rfl rfl ?_; (try simp only [Act.put, List.setIfInBounds_toArray, List.set_cons_zero, List.set_cons_succ])))
      exact RP.t_done ⟨rfl, _, _, rfl, hd.trans ((((hbi.mono (by omega)).trans (hbk.mono (by have := hbi.size; omega))).trans (hbb.mono (by have := hbi.size; have := hbk.size; omega)))), hlb, ownsRow_keep (ownsRow_base hrk (by have := hbi.size; omega)) hbb, (by have := hbi.size; have := hbk.size; omega)⟩
    · skip
      refine ite_of rfl ?_
      refine wp_mk Try.underlying55 info_li rfl _ _ rfl rfl rfl (by omega) (by omega) (fun wk hbk hrk => ?_)
      rw [hsz] at hrk
      have hnk := keepc hbk hnV
      refine hK.out _ _ hnk ?_
      clear hK K
      (try simp only [Act.put, List.setIfInBounds_toArray, List.set_cons_zero, List.set_cons_succ])
      refine RP.t_run rfl (fun K hK => ?_)
      go_simp
      refine (imported_any (HSV.out.later hbk)).mono ?_
      rintro en wi ⟨rfl, hbi⟩
      have hni := keepc hbi hnk
      refine hK.out _ _ hni ?_
      clear hK K
      (try simp only [Act.put, List.setIfInBounds_toArray, List.set_cons_zero, List.set_cons_succ])
      repeat (first | (refine RP.t_take (v := ?_) rfl rfl (fun w' hw' => ?_) ?_; rotate_left; (focus ((have q0 := hw'; clear hw'); go_simp; (try go_bits); (try (with_reducible rfl)))); (try simp only [Act.put, List.setIfInBounds_toArray, List.set_cons_zero, List.set_cons_succ])) | (refine RP.t_skip rfl rfl ?_; (try simp only [Act.put, List.setIfInBounds_toArray, List.set_cons_zero, List.set_cons_succ])))
      refine RP.t_run rfl (fun K hK => ?_)
      refine ite_of rfl ?_
      refine wp_box1 [.int .i64 (fk m 0).length, .slice (some ⟨R0, 0, none⟩) (cnt m) (cnt m), .slice none 0 0] _ rfl rfl (fun wb hbb hlb => ?_)
      refine hK.out _ _ (keepc hbb hni) ?_
      clear hK K
      (try simp only [Act.put, List.setIfInBounds_toArray, List.set_cons_zero, List.set_cons_succ])
      repeat (first | (refine RP.t_take (v := ?_) rfl rfl (fun w' hw' => ?_) ?_; rotate_left; (focus ((have q0 := hw'; clear hw'); go_simp; (try go_bits); (try (with_reducible rfl)))); (try simp only [Act.put, List.setIfInBounds_toArray, List.set_cons_zero, List.set_cons_succ])) | (refine RP.t_skip rfl rfl ?_; (try simp only [Act.put, List.setIfInBounds_toArray, List.set_cons_zero, List.set_cons_succ])))
      exact RP.t_done ⟨rfl, _, _, rfl, hd.trans ((((hbk.mono (by omega)).trans (hbi.mono (by have := hbk.size; omega))).trans (hbb.mono (by have := hbi.size; have := hbk.size; omega)))), hlb, ownsRow_keep (ownsRow_keep hrk hbi) hbb, (by have := hbi.size; have := hbk.size; omega)⟩
  rintro act wg ⟨G, CB, rfl, hbg, hlg, hrg, hG0⟩
  simp only [Act.put, List.setIfInBounds_toArray, List.set_cons_zero, List.set_cons_succ]
  have HR0 := Lib.hid hR0
  have HKP := Lib.hid (show ∀ wr, Below R0 w4 wr → SpOf wr S0 m ∧ Lies wr B 33 m.cs.toArray ∧ wr.cell? ⟨MB, 0, none⟩ = some (.int .i64 (cnt m)) ∧ Below W.heap.size W wr ∧ R0 ≤ wr.heap.size from fun wr h => by
    have h' : Below w4.heap.size w4 wr := by rw [hR0]; exact h
    have hz := h'.size
    exact ⟨HSP.out.later h', HL4.out.below h hB0, keepc h' (HN.out.cell 0), HB4.out.trans (h.mono (by omega)), by omega⟩)
  clear hR0 HSP HL4 HN HB4 HR0
  have hnG := (HKP.out wg hbg).2.2.1
  have HMG := Lib.hid (HKP.out wg hbg).2.1
  go_wp2_with (refine wpList_load_mid rfl 33 _ rfl B 0 rfl m.cs _ (lies_range HMG.out) Try.underlying33 rfl sizeMod ?_; simp only [Act.put, List.setIfInBounds_toArray, List.set_cons_zero, List.set_cons_succ])
  refine (elems_any (HM.out.later (HKP.out wg hbg).2.2.2.1) (n := cnt m) (by omega)).mono ?_
  rintro en we ⟨tv, rfl, htab, hbe⟩
  have hRg := (HKP.out wg hbg).2.2.2.2
  have H1 := Lib.hid (show Go1 w4 we R0 G CB m tv 0 (List.replicate (cnt m) (.slice none 0 0)) from
    ⟨by simp, hbg.trans (hbe.mono hRg), hlg.below hbe hlg.lt, ownsRow_keep hrg hbe, ownsRow_base htab hRg, fun j v hj hv => by
      have hv' : v = .slice none 0 0 := by
        have := (List.mem_replicate.1 (List.mem_of_getElem? hv)).2
        exact this
      subst hv'
      rw [calls_none (by unfold codeOf; rw [if_neg (fun e => by have e1 : (fk m 0).length ≤ j := e.1; omega)])]
      exact WRow.nil _ _ _ _, fun j hj hjn => by simp [hjn]⟩)
  have HBE := Lib.hid H1.out.bel
  clear hbg hlg hrg htab hbe hnG hRg HMG
  obtain ⟨sc, cc, hcv, hsc⟩ := HM.out.2.2.2.2.2.2.2.2.2.1.1.form
  have hlc : m.codes.length ≤ 1048576 := HM.out.2.2.2.2.2.2.2.2.2.1.2.2
  have hc10 : we.cell? ⟨B, 10, none⟩ = some (.slice sc m.codes.length cc) := by
    rw [← hcv]
    exact (HKP.out we HBE.out).2.1.cell 10
  obtain ⟨st, ct, rfl, _, hst⟩ := row_form H1.out.tab
  go_upto_block 0 with fail
  clear hc10 HBE
  go_cut [38] from 38 to 152 (fun _ wc => ∃ CV : List Value, GoD w4 wc R0 G CB m CV)
  case first =>
    go_wp2_with fail
    go_loopw [8, 9, 10, 12, 13, 14, 16, 17, 18, 38] (fun _ _ _ _ _ _ _ _ _ i wr => ∃ (k : Nat) (CV : List Value), k ≤ m.codes.length ∧ i = .int .i64 k ∧ Go1 w4 wr R0 G CB m (.slice st (elemsL m (cnt m)).length ct) k CV)
      (fun _ _ _ _ _ _ _ _ _ i _ => m.codes.length - (intOf i).toNat)
    case atStart => exact ⟨0, _, by omega, rfl, H1.out⟩
    case round =>
      clear H1
      obtain ⟨k, CV, hk, rfl, h1⟩ := hrel
      have H1 := Lib.hid h1
      clear h1
      by_cases hlt : k < m.codes.length
      · obtain ⟨x, hx⟩ : ∃ x, m.codes[k]? = some x := ⟨_, List.getElem?_eq_getElem hlt⟩
        obtain ⟨g, off, rfl, hg⟩ := hsc (by intro e; simp [e] at hlt)
        have hok := HM.out.2.2.2.2.2.2.2.2.2.1.2.1 x (List.mem_of_getElem? hx)
        have hxl : x.body.length ≤ 1048576 := hok.2.2.2
        obtain ⟨sb, cb, hbv, hsb⟩ := hok.2.1.form
        have hsl := HM.out.2.2.2.2.2.2.2.2.2.1.1
        rw [hcv] at hsl
        obtain ⟨hsw, hmw, hnw, hBW, hRw⟩ := HKP.out wr H1.out.bel
        have hr := keepr hBW (sl_range hsl hx)
        have HBD := Lib.hid (And.intro hok.2.1 hok.2.2.1)
        have HX := Lib.hid hx
        have HO := Lib.hid (oneCod hok)
        clear hsl hx hok hmw hnw hsw
        have HBW := Lib.hid hBW
        clear hBW
        obtain ⟨c, hcN⟩ : ∃ c, c = (fk m 0).length + k := ⟨_, rfl⟩
        have hcc : ((fk m 0).length : Int) + (k : Int) = (c : Int) := by omega
        have hcb : c ≤ 4194304 := by
          have : (fk m 0).length ≤ 1048576 := Nat.le_trans (fk_le m 0) HM.out.2.1.2.2
          omega
        have HCN := Lib.hid hcN
        clear hcN
        by_cases hat : c < cnt m
        · go_wp2_with (first | (refine wpList_load_mid rfl 63 _ rfl g (off + k * 2) rfl x.cs _ hr Try.underlying63 rfl sizeCod ?_; simp only [Act.put, List.setIfInBounds_toArray, List.set_cons_zero, List.set_cons_succ]) | (refine wl_put (Lies.new _ _ _) x.cs _ _ rfl rfl rfl rfl rfl sizeCod HO.out (fun w5 hL5 hF5 => ?_); have hc1 : w5.cell? ⟨wr.heap.size, 1, none⟩ = some (.slice sb x.body.length cb) := (hL5.cell 1).trans (congrArg some hbv); have HB5 := Lib.hid (below_put ((Below.refl wr.heap.size wr).alloc (Nat.le_refl _) _) hF5 (Nat.le_refl _)); have hg0 : w5.cell? ⟨G, 0, none⟩ = some (.int .i64 (fk m 0).length) := keepc HB5.out (H1.out.g.cell 0); have hn0 : w5.cell? ⟨MB, 0, none⟩ = some (.int .i64 (cnt m)) := keepc HB5.out (HKP.out wr H1.out.bel).2.2.1; clear hL5 hF5; try simp only [Act.put]))
          have G5 := Lib.hid (H1.out.later hRw HB5.out)
          have hR5 : R0 ≤ w5.heap.size := Nat.le_trans hRw HB5.out.size
          have hCl : c < CV.length := by rw [G5.out.len]; exact hat
          have I0 := Lib.hid (In.start G5.out.row (G5.out.rest c (by rw [HCN.out]; exact Nat.le_refl _) hat))
          clear hc1 hg0 hn0 HBW hr HO HB5 H1 hRw
          simp only [show decide (cnt m ≤ c) = false from decide_eq_false (by omega)]
          go_loopw [12, 13, 14, 16, 17, 18, 55] (fun _ _ _ _ _ _ i wr => ∃ (j : Nat) (v : Value) (M : List Nat), j ≤ x.body.length ∧ i = .int .i64 j ∧ M = (x.body.take j).flatMap (pushL m (cnt m)) ∧ M.length ≤ j * 2097153 ∧ In w5 wr R0 CB c (cnt m) CV v M)
            (fun _ _ _ _ _ _ i _ => x.body.length - (intOf i).toNat)
          case atStart => exact ⟨0, _, [], Nat.zero_le _, rfl, by simp, by simp, I0.out⟩
          case round =>
            clear I0
            obtain ⟨j, v, M, hj, rfl, hM, hMl, hI⟩ := hrel
            have HMM := Lib.hid hM
            have HI := Lib.hid hI
            have hbM : M.length ≤ (j + 1) * 2097153 := Nat.le_trans hMl (Nat.mul_le_mul_right _ (Nat.le_succ j))
            have hbP : ∀ q, q ≤ 2097153 → M.length + q ≤ (j + 1) * 2097153 := fun q hq => by rw [Nat.add_mul, Nat.one_mul]; exact Nat.add_le_add hMl hq
            have hbT : M.length ≤ 2199024304128 := by
              have h1 : j * 2097153 ≤ 1048576 * 2097153 := Nat.mul_le_mul_right _ (Nat.le_trans hj hxl)
              exact Nat.le_trans hMl (Nat.le_trans h1 (by decide))
            have HBP := Lib.hid hbP
            clear hMl hbP
            clear hM hI
            have hBw := G5.out.belIn hR5 HI.out.fr
            have HKW := Lib.hid (HKP.out wr hBw)
            clear hBw
            by_cases hlt2 : j < x.body.length
            · obtain ⟨y, hy⟩ : ∃ y, x.body[j]? = some y := ⟨_, List.getElem?_eq_getElem hlt2⟩
              obtain ⟨g2, off2, rfl, hg2⟩ := hsb (by intro e; simp [e] at hlt2)
              have hoky := HBD.out.2 y (List.mem_of_getElem? hy)
              have hsl2 := HBD.out.1
              rw [hbv] at hsl2
              have hr2 := keepr HKW.out.2.2.2.1 (sl_range hsl2 hy)
              have HY := Lib.hid hy
              have HOY := Lib.hid (oneIns hoky)
              have hya : y.a < 4294967296 := hoky.1
              have hpl := pushL_le m (cnt m) y
              have HFM := Lib.hid (show (x.body.take (j + 1)).flatMap (pushL m (cnt m)) = M ++ pushL m (cnt m) y by rw [flat_succ _ hy, ← HMM.out])
              clear hsl2 hy hoky
              have hq16 := u8b16 y.op
              have hq17 := u8b17 y.op
              by_cases h16 : y.op = 16
              · have ho16 : (y.op.toNat : Int) = 16 := by rw [h16]; rfl
                clear hq16 hq17
                by_cases ha : y.a < cnt m
                · have HP := Lib.hid (show pushL m (cnt m) y = [y.a] by unfold pushL; rw [h16]; simp [ha])
                  go_wp2_with (first | (refine wpList_load_mid rfl 75 _ rfl g2 (off2 + j * 5) rfl y.cs _ hr2 Try.underlying75 rfl sizeIns ?_; simp only [Act.put, List.setIfInBounds_toArray, List.set_cons_zero, List.set_cons_succ]) | (refine wl_put (Lies.new _ _ _) y.cs _ _ rfl rfl rfl rfl rfl sizeIns HOY.out (fun w6 hL6 hF6 => ?_); have hcop : w6.cell? ⟨wr.heap.size, 0, none⟩ = some (.int .u8 y.op.toNat) := hL6.cell 0; have hca : w6.cell? ⟨wr.heap.size, 1, none⟩ = some (.int .u32 y.a) := hL6.cell 1; have HB6 := Lib.hid (below_put ((Below.refl wr.heap.size wr).alloc (Nat.le_refl _) _) hF6 (Nat.le_refl _)); have hn6 : w6.cell? ⟨MB, 0, none⟩ = some (.int .i64 (cnt m)) := keepc HB6.out HKW.out.2.2.1; have HL6 := Lib.hid hL6; clear hL6 hF6; try simp only [Act.put]))
                  refine (there_any (n := cnt m) (by omega) hya hn6).mono ?_
                  rintro en w7 ⟨rfl, hb7⟩
                  rw [decide_eq_true ha]
                  have HB7 := Lib.hid (bt HB6.out hb7)
                  have HL7 := Lib.hid (HL6.out.below hb7 HL6.out.lt)
                  clear hb7 HB6 HL6 hcop hca hn6
                  go_wp2_with fail
                  have hb2 : (M ++ [y.a]).length ≤ (j + 1) * 2097153 := by rw [List.length_append, List.length_singleton]; exact HBP.out 1 (by decide)
                  have hd := below_drew w7
                  have HIV := Lib.hid (HI.out.later (bt HB7.out hd))
                  have HLV := Lib.hid (HL7.out.below hd HL7.out.lt)
                  refine wp_region_t [(0, 1), (1, 1), (2, 1), (3, 1), (4, 1), (5, 1), (6, 1), (7, 1), (8, 1), (9, 1), (10, 1), (11, 2), (12, 1), (13, 1), (14, 1), (15, 0), (16, 0), (17, 1), (18, 0)] (fun w' => Lies w' G 70 #[.int .i64 (fk m 0).length, .slice (some ⟨CB, 0, none⟩) (cnt m) (cnt m), .slice none 0 0] ∧ Lies w' wr.heap.size 75 y.cs.toArray) [(18, fun w' => w'.cell? ⟨CB, c, none⟩ = some v)] [18] rfl (by kernel_rfl) (by kernel_rfl) (fun _ _ d _ _ h => by cases d <;> exact h) ⟨G5.out.gIn HIV.out.fr, HLV.out⟩ (fun p hp => by
                    obtain rfl := List.mem_singleton.1 hp
                    exact HIV.out.cell hCl) ?_
                  generalize w7.drew = V at HIV HLV ⊢
                  clear hd HL7 HB7
                  repeat (first | (refine ts_take (v := ?_) rfl rfl (fun w' hw' => ?_) ?_; rotate_left; (focus (have q1 : w'.cell? ⟨G, 1, none⟩ = some (.slice (some ⟨CB, 0, none⟩) (cnt m) (cnt m)) := hw'.1.cell 1; have q2 : w'.cell? ⟨wr.heap.size, 1, none⟩ = some (.int .u32 y.a) := hw'.2.cell 1; clear hw'; (try simp only [Act.put, List.setIfInBounds_toArray, List.set_cons_zero, List.set_cons_succ]); go_simp; (try go_bits); (try (with_reducible rfl)))); (try simp only [Act.put, List.setIfInBounds_toArray, List.set_cons_zero, List.set_cons_succ])) | (refine ts_take2 (v := ?_) rfl rfl (fun w' hw' hst => ?_) ?_; rotate_left; (focus (have q0 := (Still.one hst rfl); have q1 : w'.cell? ⟨G, 1, none⟩ = some (.slice (some ⟨CB, 0, none⟩) (cnt m) (cnt m)) := hw'.1.cell 1; have q2 := hw'.2.cell 1; clear hst hw'; (try simp only [Act.put, List.setIfInBounds_toArray, List.set_cons_zero, List.set_cons_succ]); go_simp; (try go_bits); (try (with_reducible rfl)))); (try simp only [Act.put, List.setIfInBounds_toArray, List.set_cons_zero, List.set_cons_succ])) | (refine ts_skip rfl rfl ?_; (try simp only [Act.put, List.setIfInBounds_toArray, List.set_cons_zero, List.set_cons_succ])))
                  refine ts_run1 rfl rfl (fun K hK => ?_)
                  refine wp_bs1 _ _ (bs_int y.a) _ rfl rfl (fun wa hba hla => ?_)
                  have HNA := Lib.hid hla
                  have HIA := Lib.hid (HIV.out.later hba)
                  have HLA := Lib.hid (HLV.out.below hba HLV.out.lt)
                  refine hK.out _ _ ⟨G5.out.gIn HIA.out.fr, HLA.out⟩ (still_one (.inr (HIA.out.cell hCl))) ?_
                  clear hK K hba hla
                  (try simp only [Act.put, List.setIfInBounds_toArray, List.set_cons_zero, List.set_cons_succ])
                  refine ts_run1 rfl rfl (fun K hK => ?_)
                  refine wp_app (v := v) _ _ rfl Try.underlying40 info_int (by decide) rfl HIA.out.cur ic_len rfl (sl_one (en := ic) HNA.out) (fun y _ => oneIc y) (by simp only [List.length_singleton]; unfold maxLen; omega) (by simp only [List.length_singleton]; omega) HIA.out.fr.size (fun v' w8 hr8 hg8 hv8 => ?_)
                  have HG8 := Lib.hid hg8
                  have HR8 := Lib.hid (show w8.ownsRow w5.heap.size 3 1 v' (M ++ [y.a]).length ((M ++ [y.a]).flatMap ic) by rw [List.length_append, List.flatMap_append]; exact hr8)
                  obtain ⟨s8, c8, rfl, _, _⟩ := row_form hr8
                  have HRW := Lib.hid (HIA.out.mid HR8.out hg8)
                  have HF8 := Lib.hid (FrT.grown HIA.out.cur hg8)
                  have HG8g := Lib.hid (lies_frT (G5.out.gIn HIA.out.fr) HF8.out (by decide))
                  have HL8 := Lib.hid (lies_frT HLA.out HF8.out (by decide))
                  have hc8 : w8.cell? ⟨CB, c, none⟩ = some v := by
                    rw [HRW.out.cellAt _ (by omega), List.getElem?_set_self hCl]
                  refine hK.out _ _ ⟨HG8g.out, HL8.out⟩ (still_one (.inr hc8)) ?_
                  clear hK K hr8 hg8 hv8 hc8
                  (try simp only [Act.put, List.setIfInBounds_toArray, List.set_cons_zero, List.set_cons_succ])
                  repeat (first | (refine ts_take (v := ?_) rfl rfl (fun w' hw' => ?_) ?_; rotate_left; (focus (clear hw'; (try simp only [Act.put, List.setIfInBounds_toArray, List.set_cons_zero, List.set_cons_succ]); go_simp; (try go_bits); (try (with_reducible rfl)))); (try simp only [Act.put, List.setIfInBounds_toArray, List.set_cons_zero, List.set_cons_succ])) | (refine ts_take2 (v := ?_) rfl rfl (fun w' hw' hst => ?_) ?_; rotate_left; (focus ((try simp only [Act.put, List.setIfInBounds_toArray, List.set_cons_zero, List.set_cons_succ]); go_simp; (try go_bits); (try (with_reducible rfl)))); (try simp only [Act.put, List.setIfInBounds_toArray, List.set_cons_zero, List.set_cons_succ])) | (refine ts_skip rfl rfl ?_; (try simp only [Act.put, List.setIfInBounds_toArray, List.set_cons_zero, List.set_cons_succ])))
                  refine ts_run1 rfl rfl (fun K hK => ?_)
                  refine wp_rowset1 HRW.out hat _ _ rfl rfl rfl (slice_cells _ _ _) size_li rfl (fun w9 hs9 hg9 => ?_)
                  have HI9 := Lib.hid (HIA.out.turn HR8.out HG8.out hs9 hg9)
                  have HF9 := Lib.hid (HF8.out.trans (FrT.grown HRW.out hg9))
                  have HL9 := Lib.hid (lies_frT HLA.out HF9.out (by decide))
                  refine hK.out _ _ ⟨G5.out.gIn HI9.out.fr, HL9.out⟩ (still_one (.inl rfl)) ?_
                  clear hK K hs9 hg9 HG8 HR8 HRW HF8 HG8g HL8 HNA HIA HLA HIV HLV
                  refine ts_done ?_
                  (try simp only [Act.put])
                  go_wp2_with fail
                  exact ⟨⟨j + 1, _, M ++ [y.a], by omega, by go_num, by rw [HFM.out, HP.out], hb2, HI9.out⟩, by simp [intOf]; omega⟩
                · have ha' : cnt m ≤ y.a := by omega
                  have HP := Lib.hid (show pushL m (cnt m) y = [] by unfold pushL; rw [h16]; simp [ha])
                  go_wp2_with (first | (refine wpList_load_mid rfl 75 _ rfl g2 (off2 + j * 5) rfl y.cs _ hr2 Try.underlying75 rfl sizeIns ?_; simp only [Act.put, List.setIfInBounds_toArray, List.set_cons_zero, List.set_cons_succ]) | (refine wl_put (Lies.new _ _ _) y.cs _ _ rfl rfl rfl rfl rfl sizeIns HOY.out (fun w6 hL6 hF6 => ?_); have hcop : w6.cell? ⟨wr.heap.size, 0, none⟩ = some (.int .u8 y.op.toNat) := hL6.cell 0; have hca : w6.cell? ⟨wr.heap.size, 1, none⟩ = some (.int .u32 y.a) := hL6.cell 1; have HB6 := Lib.hid (below_put ((Below.refl wr.heap.size wr).alloc (Nat.le_refl _) _) hF6 (Nat.le_refl _)); have hn6 : w6.cell? ⟨MB, 0, none⟩ = some (.int .i64 (cnt m)) := keepc HB6.out HKW.out.2.2.1; have HL6 := Lib.hid hL6; clear hL6 hF6; try simp only [Act.put]))
                  refine (there_any (n := cnt m) (by omega) hya hn6).mono ?_
                  rintro en w7 ⟨rfl, hb7⟩
                  rw [decide_eq_false ha]
                  have HI7 := Lib.hid (HI.out.later (bt HB6.out hb7))
                  replace hcop := keepc hb7 hcop
                  clear hb7 HB6 HL6 hca hn6
                  go_wp2_with fail
                  exact ⟨⟨j + 1, _, M, by omega, by go_num, by rw [HFM.out, HP.out, List.append_nil], hbM, HI7.out⟩, by simp [intOf]; omega⟩
              · have ho16 : ¬ (y.op.toNat : Int) = 16 := fun e => h16 (UInt8.toNat_inj.1 (by have : (16 : UInt8).toNat = 16 := rfl; omega))
                clear hq16 hq17
                by_cases h17 : y.op = 17
                · have ho17 : (y.op.toNat : Int) = 17 := by rw [h17]; rfl
                  have HP := Lib.hid (show pushL m (cnt m) y = (elemsL m (cnt m)).filter (fun f => typB m f y) by unfold pushL; simp [h17])
                  go_wp2_with (first | (refine wpList_load_mid rfl 75 _ rfl g2 (off2 + j * 5) rfl y.cs _ hr2 Try.underlying75 rfl sizeIns ?_; simp only [Act.put, List.setIfInBounds_toArray, List.set_cons_zero, List.set_cons_succ]) | (refine wl_put (Lies.new _ _ _) y.cs _ _ rfl rfl rfl rfl rfl sizeIns HOY.out (fun w6 hL6 hF6 => ?_); have hcop : w6.cell? ⟨wr.heap.size, 0, none⟩ = some (.int .u8 y.op.toNat) := hL6.cell 0; have hca : w6.cell? ⟨wr.heap.size, 1, none⟩ = some (.int .u32 y.a) := hL6.cell 1; have HB6 := Lib.hid (below_put ((Below.refl wr.heap.size wr).alloc (Nat.le_refl _) _) hF6 (Nat.le_refl _)); have hn6 : w6.cell? ⟨MB, 0, none⟩ = some (.int .i64 (cnt m)) := keepc HB6.out HKW.out.2.2.1; have HL6 := Lib.hid hL6; clear hL6 hF6; try simp only [Act.put]))
                  refine (type_any HM.out (HKW.out.1.later HB6.out) hya).mono ?_
                  rintro en w7 ⟨u, rfl, hou, htu, hb7⟩
                  obtain ⟨b, hb⟩ : ∃ b, b = (m.types[y.a]?).isSome := ⟨_, rfl⟩
                  rw [← hb]
                  have HBE := Lib.hid hb
                  have hlu := told_len HM.out htu
                  have HLU := Lib.hid hlu
                  have HTU := Lib.hid htu
                  have HU := Lib.hid hou
                  have HOU := Lib.hid (oneFt (hou.ok hlu.1 hlu.2))
                  have HB7 := Lib.hid (bt HB6.out hb7)
                  clear hb hlu htu hou hb7 HB6 HL6 hcop hca hn6
                  go_wp2_with (refine wl_put (Lies.new _ _ _) u.cs _ _ rfl rfl rfl rfl rfl sizeFt HOU.out (fun w8 hL8 hF8 => ?_); have HL8 := Lib.hid hL8; have HB8 := Lib.hid (below_put ((Below.refl w7.heap.size w7).alloc (Nat.le_refl _) _) hF8 (Nat.le_refl _)); clear hL8 hF8; try simp only [Act.put])
                  have HI8 := Lib.hid (HI.out.later (bt HB7.out HB8.out))
                  have HU8 := Lib.hid (HU.out.later HB8.out)
                  clear HB7 HB8 HU HI
                  generalize w7.heap.size = n13 at HL8 ⊢
                  have hEl : (elemsL m (cnt m)).length ≤ cnt m := Nat.le_trans (List.length_filter_le _ _) (by simp)
                  go_loopw [16, 17, 18, 100] (fun _ _ _ i wr => ∃ (q : Nat) (v : Value) (N : List Nat), q ≤ (elemsL m (cnt m)).length ∧ i = .int .i64 q ∧ N = M ++ ((elemsL m (cnt m)).take q).filter (fun f => typB m f y) ∧ N.length ≤ M.length + q ∧ In w5 wr R0 CB c (cnt m) CV v N ∧ Lies wr n13 78 u.cs.toArray ∧ FtOwn wr u)
                    (fun _ _ _ i _ => (elemsL m (cnt m)).length - (intOf i).toNat)
                  case atStart => exact ⟨0, _, M, Nat.zero_le _, rfl, by simp, Nat.le_refl _, HI8.out, HL8.out, HU8.out⟩
                  case round =>
                    clear HI8 HL8 HU8
                    have HMO := Lib.hid HMM.out
                    have hMT : M.length ≤ 2199024304128 := hbT
                    clear hbT HMM
                    obtain ⟨q, v, N, hq, rfl, hN, hNl, hI, hL, hU⟩ := hrel
                    have HNN := Lib.hid hN
                    have HI := Lib.hid hI
                    have HLU2 := Lib.hid hL
                    have HU := Lib.hid hU
                    clear hN hI hL hU
                    have hBw := G5.out.belIn hR5 HI.out.fr
                    have HKW := Lib.hid (HKP.out wr hBw)
                    clear hBw
                    by_cases hlt3 : q < (elemsL m (cnt m)).length
                    · obtain ⟨f, hf⟩ : ∃ f, (elemsL m (cnt m))[q]? = some f := ⟨_, List.getElem?_eq_getElem hlt3⟩
                      have hfn : f < cnt m := List.mem_range.1 (List.mem_filter.1 (List.mem_of_getElem? hf)).1
                      obtain ⟨gt, rfl⟩ := hst (by omega)
                      have hcell : wr.cell? ⟨gt, q, none⟩ = some (.int .i64 f) := by
                        have := row_at (en := ic) (sz := 1) ic_len (G5.out.tabIn HI.out.fr) hf 0 _ rfl
                        simpa using this
                      have HFE := Lib.hid (filter_succ (fun f => typB m f y) hf)
                      clear hf
                      go_wp2_with fail
                      refine (func_any HM.out HKW.out.1 (by omega)).mono ?_
                      rintro en w9 ⟨z, rfl, hoz, htz, hb9⟩
                      obtain ⟨b2, hb2⟩ : ∃ b, b = (ftype m f).isSome := ⟨_, rfl⟩
                      rw [← hb2]
                      have HBE2 := Lib.hid hb2
                      have hlz := fntold_len HM.out htz
                      have HLZ := Lib.hid hlz
                      have HTZ := Lib.hid htz
                      have HZ := Lib.hid hoz
                      have HOZ := Lib.hid (oneFt (hoz.ok hlz.1 hlz.2))
                      have HB9 := Lib.hid hb9
                      clear hb2 hlz htz hoz hb9 hcell
                      cases b with
                      | false =>
                        have hT : typB m f y = false := typB_none HBE.out
                        go_wp2_with (refine wl_put (Lies.new _ _ _) z.cs _ _ rfl rfl rfl rfl rfl sizeFt HOZ.out (fun w8 hL8 hF8 => ?_); have HB8 := Lib.hid (below_put ((Below.refl w9.heap.size w9).alloc (Nat.le_refl _) _) hF8 (Nat.le_refl _)); clear hL8 hF8; try simp only [Act.put])
                        have hbb := bt HB9.out HB8.out
                        exact ⟨⟨q + 1, _, N, by omega, by go_num, by rw [HFE.out, hT, HNN.out]; simp, by omega, HI.out.later hbb, HLU2.out.below hbb HLU2.out.lt, HU.out.later hbb⟩, by simp [intOf]; omega⟩
                      | true =>
                        cases b2 with
                        | false =>
                          have hT : typB m f y = false := typB_none2 HBE2.out
                          go_wp2_with (refine wl_put (Lies.new _ _ _) z.cs _ _ rfl rfl rfl rfl rfl sizeFt HOZ.out (fun w8 hL8 hF8 => ?_); have HB8 := Lib.hid (below_put ((Below.refl w9.heap.size w9).alloc (Nat.le_refl _) _) hF8 (Nat.le_refl _)); clear hL8 hF8; try simp only [Act.put])
                          have hbb := bt HB9.out HB8.out
                          exact ⟨⟨q + 1, _, N, by omega, by go_num, by rw [HFE.out, hT, HNN.out]; simp, by omega, HI.out.later hbb, HLU2.out.below hbb HLU2.out.lt, HU.out.later hbb⟩, by simp [intOf]; omega⟩
                        | true =>
                          have HTB := Lib.hid (typB_told HTZ.out HTU.out HBE2.out HBE.out)
                          go_wp2_with (first | (refine wl_put (Lies.new _ _ _) z.cs _ _ rfl rfl rfl rfl rfl sizeFt HOZ.out (fun w8 hL8 hF8 => ?_); have HB8 := Lib.hid (below_put ((Below.refl w9.heap.size w9).alloc (Nat.le_refl _) _) hF8 (Nat.le_refl _)); have HLZ8 := Lib.hid hL8; have HLU8 := Lib.hid (HLU2.out.below (bt HB9.out HB8.out) HLU2.out.lt); clear hL8 hF8; try simp only [Act.put]) | (refine wl_loadw (lies_range HLZ8.out) _ (by first | rfl | (simp [Region.wanted, yielded, *]; done)) rfl rfl Try.underlying78 rfl sizeFt ?_; simp only [Act.put, List.setIfInBounds_toArray, List.set_cons_zero, List.set_cons_succ]) | (refine wl_loadw (lies_range HLU8.out) _ (by first | rfl | (simp [Region.wanted, yielded, *]; done)) rfl rfl Try.underlying78 rfl sizeFt ?_; simp only [Act.put, List.setIfInBounds_toArray, List.set_cons_zero, List.set_cons_succ]))
                          refine (same_any (HZ.out.later HB8.out |>.ok HLZ.out.1 HLZ.out.2) ((HU.out.later (bt HB9.out HB8.out)).ok HLU.out.1 HLU.out.2)).mono ?_
                          rintro en wc ⟨rfl, hbc⟩
                          have HB7 := Lib.hid (bt (bt HB9.out HB8.out) hbc)
                          have HL7 := Lib.hid (HLU8.out.below hbc HLU8.out.lt)
                          have HUQ := Lib.hid (HU.out.later HB7.out)
                          clear hbc HB8 HB9 HLZ8 HLU8 HZ HU HLU2
                          cases hs : same z u with
                          | false =>
                            have hT : typB m f y = false := by rw [HTB.out, hs]
                            go_wp2_with fail
                            exact ⟨⟨q + 1, _, N, by omega, by go_num, by rw [HFE.out, hT, HNN.out]; simp, by omega, HI.out.later HB7.out, HL7.out, HUQ.out⟩, by simp [intOf]; omega⟩
                          | true =>
                            have hT : typB m f y = true := by rw [HTB.out, hs]
                            go_wp2_with fail
                            have hd := below_drew wc
                            have HIV := Lib.hid (HI.out.later (bt HB7.out hd))
                            have HLV := Lib.hid (HL7.out.below hd HL7.out.lt)
                            have HUV := Lib.hid (HUQ.out.later hd)
                            refine wp_region_t [(0, 1), (1, 1), (2, 1), (3, 1), (4, 1), (5, 1), (6, 1), (7, 1), (8, 1), (9, 1), (10, 1), (11, 2), (12, 1), (13, 0), (14, 0), (15, 1), (16, 0)] (fun w' => Lies w' G 70 #[.int .i64 (fk m 0).length, .slice (some ⟨CB, 0, none⟩) (cnt m) (cnt m), .slice none 0 0] ∧ Lies w' n13 78 u.cs.toArray) [(16, fun w' => w'.cell? ⟨CB, c, none⟩ = some v)] [16] rfl (by kernel_rfl) (by kernel_rfl) (fun _ _ d _ _ h => by cases d <;> exact h) ⟨G5.out.gIn HIV.out.fr, HLV.out⟩ (fun p hp => by
                              obtain rfl := List.mem_singleton.1 hp
                              exact HIV.out.cell hCl) ?_
                            generalize wc.drew = V at HIV HLV HUV ⊢
                            clear hd HL7 HB7 HUQ
                            repeat (first | (refine ts_take (v := ?_) rfl rfl (fun w' hw' => ?_) ?_; rotate_left; (focus (have q1 : w'.cell? ⟨G, 1, none⟩ = some (.slice (some ⟨CB, 0, none⟩) (cnt m) (cnt m)) := hw'.1.cell 1; clear hw'; (try simp only [Act.put, List.setIfInBounds_toArray, List.set_cons_zero, List.set_cons_succ]); go_simp; (try go_bits); (try (with_reducible rfl)))); (try simp only [Act.put, List.setIfInBounds_toArray, List.set_cons_zero, List.set_cons_succ])) | (refine ts_take2 (v := ?_) rfl rfl (fun w' hw' hst => ?_) ?_; rotate_left; (focus (have q0 := (Still.one hst rfl); have q1 : w'.cell? ⟨G, 1, none⟩ = some (.slice (some ⟨CB, 0, none⟩) (cnt m) (cnt m)) := hw'.1.cell 1; clear hst hw'; (try simp only [Act.put, List.setIfInBounds_toArray, List.set_cons_zero, List.set_cons_succ]); go_simp; (try go_bits); (try (with_reducible rfl)))); (try simp only [Act.put, List.setIfInBounds_toArray, List.set_cons_zero, List.set_cons_succ])) | (refine ts_skip rfl rfl ?_; (try simp only [Act.put, List.setIfInBounds_toArray, List.set_cons_zero, List.set_cons_succ])))
                            refine ts_run1 rfl rfl (fun K hK => ?_)
                            refine wp_bs1 _ _ (bs_int f) _ rfl rfl (fun wa hba hla => ?_)
                            have HNA := Lib.hid hla
                            have HIA := Lib.hid (HIV.out.later hba)
                            have HLA := Lib.hid (HLV.out.below hba HLV.out.lt)
                            have HUA := Lib.hid (HUV.out.later hba)
                            refine hK.out _ _ ⟨G5.out.gIn HIA.out.fr, HLA.out⟩ (still_one (.inr (HIA.out.cell hCl))) ?_
                            clear hK K hba hla
                            (try simp only [Act.put, List.setIfInBounds_toArray, List.set_cons_zero, List.set_cons_succ])
                            refine ts_run1 rfl rfl (fun K hK => ?_)
                            refine wp_app (v := v) _ _ rfl Try.underlying40 info_int (by decide) rfl HIA.out.cur ic_len rfl (sl_one (en := ic) HNA.out) (fun y _ => oneIc y) (by simp only [List.length_singleton]; unfold maxLen; omega) (by simp only [List.length_singleton]; omega) HIA.out.fr.size (fun v' w8 hr8 hg8 hv8 => ?_)
                            have HG8 := Lib.hid hg8
                            have HR8 := Lib.hid (show w8.ownsRow w5.heap.size 3 1 v' (N ++ [f]).length ((N ++ [f]).flatMap ic) by rw [List.length_append, List.flatMap_append]; exact hr8)
                            obtain ⟨s8, c8, rfl, _, _⟩ := row_form hr8
                            have HRW := Lib.hid (HIA.out.mid HR8.out hg8)
                            have HF8 := Lib.hid (FrT.grown HIA.out.cur hg8)
                            have HG8g := Lib.hid (lies_frT (G5.out.gIn HIA.out.fr) HF8.out (by decide))
                            have HL8 := Lib.hid (lies_frT HLA.out HF8.out (by decide))
                            have hc8 : w8.cell? ⟨CB, c, none⟩ = some v := by
                              rw [HRW.out.cellAt _ (by omega), List.getElem?_set_self hCl]
                            refine hK.out _ _ ⟨HG8g.out, HL8.out⟩ (still_one (.inr hc8)) ?_
                            clear hK K hr8 hg8 hv8 hc8
                            (try simp only [Act.put, List.setIfInBounds_toArray, List.set_cons_zero, List.set_cons_succ])
                            repeat (first | (refine ts_take (v := ?_) rfl rfl (fun w' hw' => ?_) ?_; rotate_left; (focus (clear hw'; (try simp only [Act.put, List.setIfInBounds_toArray, List.set_cons_zero, List.set_cons_succ]); go_simp; (try go_bits); (try (with_reducible rfl)))); (try simp only [Act.put, List.setIfInBounds_toArray, List.set_cons_zero, List.set_cons_succ])) | (refine ts_take2 (v := ?_) rfl rfl (fun w' hw' hst => ?_) ?_; rotate_left; (focus ((try simp only [Act.put, List.setIfInBounds_toArray, List.set_cons_zero, List.set_cons_succ]); go_simp; (try go_bits); (try (with_reducible rfl)))); (try simp only [Act.put, List.setIfInBounds_toArray, List.set_cons_zero, List.set_cons_succ])) | (refine ts_skip rfl rfl ?_; (try simp only [Act.put, List.setIfInBounds_toArray, List.set_cons_zero, List.set_cons_succ])))
                            refine ts_run1 rfl rfl (fun K hK => ?_)
                            refine wp_rowset1 HRW.out hat _ _ rfl rfl rfl (slice_cells _ _ _) size_li rfl (fun wz hs9 hg9 => ?_)
                            have HI9 := Lib.hid (HIA.out.turn HR8.out HG8.out hs9 hg9)
                            have HF9 := Lib.hid (HF8.out.trans (FrT.grown HRW.out hg9))
                            have HL9 := Lib.hid (lies_frT HLA.out HF9.out (by decide))
                            have HU9 := Lib.hid (HUA.out.frT HF9.out (by decide))
                            refine hK.out _ _ ⟨G5.out.gIn HI9.out.fr, HL9.out⟩ (still_one (.inl rfl)) ?_
                            clear hK K hs9 hg9 HG8 HR8 HRW HF8 HG8g HL8 HNA HIA HLA HIV HLV HUA HUV
                            refine ts_done ?_
                            (try simp only [Act.put])
                            go_wp2_with fail
                            exact ⟨⟨q + 1, _, N ++ [f], by omega, by go_num, by rw [HFE.out, hT, HNN.out]; simp, by rw [List.length_append, List.length_singleton]; omega, HI9.out, HL9.out, HU9.out⟩, by simp [intOf]; omega⟩
                    · obtain rfl : q = (elemsL m (cnt m)).length := by omega
                      rw [List.take_length] at HNN
                      go_wp2_with fail
                      exact ⟨⟨j + 1, _, N, by omega, by go_num, by rw [HFM.out, HP.out]; exact HNN.out, Nat.le_trans hNl (HBP.out _ (by omega)), HI.out⟩, by simp [intOf]; omega⟩
                · have ho17 : ¬ (y.op.toNat : Int) = 17 := fun e => h17 (UInt8.toNat_inj.1 (by have : (17 : UInt8).toNat = 17 := rfl; omega))
                  have HP := Lib.hid (show pushL m (cnt m) y = [] by unfold pushL; simp [h16, h17])
                  go_wp2_with (first | (refine wpList_load_mid rfl 75 _ rfl g2 (off2 + j * 5) rfl y.cs _ hr2 Try.underlying75 rfl sizeIns ?_; simp only [Act.put, List.setIfInBounds_toArray, List.set_cons_zero, List.set_cons_succ]) | (refine wl_put (Lies.new _ _ _) y.cs _ _ rfl rfl rfl rfl rfl sizeIns HOY.out (fun w6 hL6 hF6 => ?_); have hcop : w6.cell? ⟨wr.heap.size, 0, none⟩ = some (.int .u8 y.op.toNat) := hL6.cell 0; have hca : w6.cell? ⟨wr.heap.size, 1, none⟩ = some (.int .u32 y.a) := hL6.cell 1; have HB6 := Lib.hid (below_put ((Below.refl wr.heap.size wr).alloc (Nat.le_refl _) _) hF6 (Nat.le_refl _)); have hn6 : w6.cell? ⟨MB, 0, none⟩ = some (.int .i64 (cnt m)) := keepc HB6.out HKW.out.2.2.1; have HL6 := Lib.hid hL6; clear hL6 hF6; try simp only [Act.put]))
                  have HI7 := Lib.hid (HI.out.later HB6.out)
                  exact ⟨⟨j + 1, _, M, by omega, by go_num, by rw [HFM.out, HP.out, List.append_nil], hbM, HI7.out⟩, by simp [intOf]; omega⟩
            · obtain rfl : j = x.body.length := by omega
              go_wp2_with fail
              rw [List.take_length] at HMM
              have hlt3 : ∀ h ∈ M, h < cnt m := fun h hh => by
                rw [HMM.out] at hh
                obtain ⟨y, _, hy⟩ := List.mem_flatMap.1 hh
                exact pushL_lt hy
              have hd := below_drew wr
              have HIV := Lib.hid (HI.out.later hd)
              refine wp_region_t [(0, 1), (1, 1), (2, 1), (3, 1), (4, 1), (5, 1), (6, 1), (7, 1), (8, 1), (9, 1), (10, 1), (11, 2), (12, 0), (13, 1), (14, 0)] (fun w' => Lies w' G 70 #[.int .i64 (fk m 0).length, .slice (some ⟨CB, 0, none⟩) (cnt m) (cnt m), .slice none 0 0]) [(14, fun w' => w'.cell? ⟨CB, c, none⟩ = some v)] [14] rfl (by kernel_rfl) (by kernel_rfl) (fun _ _ d _ _ h => by cases d <;> exact h) (G5.out.gIn HIV.out.fr) (fun p hp => by
                obtain rfl := List.mem_singleton.1 hp
                exact HIV.out.cell hCl) ?_
              generalize wr.drew = V at HIV ⊢
              clear hd
              repeat (first | (refine ts_take (v := ?_) rfl rfl (fun w' hw' => ?_) ?_; rotate_left; (focus (have q1 : w'.cell? ⟨G, 1, none⟩ = some (.slice (some ⟨CB, 0, none⟩) (cnt m) (cnt m)) := hw'.cell 1; clear hw'; (try simp only [Act.put, List.setIfInBounds_toArray, List.set_cons_zero, List.set_cons_succ]); go_simp; (try go_bits); (try (with_reducible rfl)))); (try simp only [Act.put, List.setIfInBounds_toArray, List.set_cons_zero, List.set_cons_succ])) | (refine ts_take2 (v := ?_) rfl rfl (fun w' hw' hst => ?_) ?_; rotate_left; (focus (have q0 := (Still.one hst rfl); have q1 : w'.cell? ⟨G, 1, none⟩ = some (.slice (some ⟨CB, 0, none⟩) (cnt m) (cnt m)) := hw'.cell 1; clear hst hw'; (try simp only [Act.put, List.setIfInBounds_toArray, List.set_cons_zero, List.set_cons_succ]); go_simp; (try go_bits); (try (with_reducible rfl)))); (try simp only [Act.put, List.setIfInBounds_toArray, List.set_cons_zero, List.set_cons_succ])) | (refine ts_skip rfl rfl ?_; (try simp only [Act.put, List.setIfInBounds_toArray, List.set_cons_zero, List.set_cons_succ])))
              refine ts_run1 rfl rfl (fun K hK => ?_)
              go_simp
              refine (set_any HIV.out.cur hlt3 (by omega)).mono ?_
              rintro en w8 ⟨v', rfl, hr8, hg8, _⟩
              have hcs : srt (cnt m) M = callsL m c := by
                rw [HMM.out]
                refine srt_calls ?_
                unfold codeOf
                have e1 : (fimps m).length = (fk m 0).length := rfl
                rw [if_pos ⟨by rw [HCN.out]; omega, hat⟩, HCN.out, e1, Nat.add_sub_cancel_left, HX.out]
              rw [hcs] at hr8
              have HR8 := Lib.hid hr8
              have HG8 := Lib.hid hg8
              obtain ⟨s8, c8, rfl, _, _⟩ := row_form hr8
              have HRW := Lib.hid (HIV.out.mid HR8.out hg8)
              have HG8g := Lib.hid (lies_frT (G5.out.gIn HIV.out.fr) (FrT.grown HIV.out.cur hg8) (by decide))
              have hc8 : w8.cell? ⟨CB, c, none⟩ = some v := by
                rw [HRW.out.cellAt _ (by omega), List.getElem?_set_self hCl]
              refine hK.out _ _ HG8g.out (still_one (.inr hc8)) ?_
              clear hK K hr8 hg8 hc8 hcs
              (try simp only [Act.put, List.setIfInBounds_toArray, List.set_cons_zero, List.set_cons_succ])
              repeat (first | (refine ts_take (v := ?_) rfl rfl (fun w' hw' => ?_) ?_; rotate_left; (focus (clear hw'; (try simp only [Act.put, List.setIfInBounds_toArray, List.set_cons_zero, List.set_cons_succ]); go_simp; (try go_bits); (try (with_reducible rfl)))); (try simp only [Act.put, List.setIfInBounds_toArray, List.set_cons_zero, List.set_cons_succ])) | (refine ts_take2 (v := ?_) rfl rfl (fun w' hw' hst => ?_) ?_; rotate_left; (focus ((try simp only [Act.put, List.setIfInBounds_toArray, List.set_cons_zero, List.set_cons_succ]); go_simp; (try go_bits); (try (with_reducible rfl)))); (try simp only [Act.put, List.setIfInBounds_toArray, List.set_cons_zero, List.set_cons_succ])) | (refine ts_skip rfl rfl ?_; (try simp only [Act.put, List.setIfInBounds_toArray, List.set_cons_zero, List.set_cons_succ])))
              refine ts_run1 rfl rfl (fun K hK => ?_)
              refine wp_rowset1 HRW.out hat _ _ rfl rfl rfl (slice_cells _ _ _) size_li rfl (fun w9 hs9 hg9 => ?_)
              have HI9 := Lib.hid (HIV.out.turn HR8.out HG8.out hs9 hg9)
              refine hK.out _ _ (G5.out.gIn HI9.out.fr) (still_one (.inl rfl)) ?_
              clear hK K hs9 hg9 HG8 HR8 HRW HG8g HIV
              refine ts_done ?_
              (try simp only [Act.put])
              go_wp2_with fail
              have hfin := HI9.out
              rw [HCN.out] at hfin
              have hnx := G5.out.next hR5 hfin (by rw [← HCN.out]; exact hat)
              exact ⟨⟨k + 1, _, by omega, by go_num, hnx⟩, by simp [intOf]; omega⟩
        · have hat' : cnt m ≤ c := by omega
          go_wp2_with (first | (refine wpList_load_mid rfl 63 _ rfl g (off + k * 2) rfl x.cs _ hr Try.underlying63 rfl sizeCod ?_; simp only [Act.put, List.setIfInBounds_toArray, List.set_cons_zero, List.set_cons_succ]) | (refine wl_put (Lies.new _ _ _) x.cs _ _ rfl rfl rfl rfl rfl sizeCod HO.out (fun w5 hL5 hF5 => ?_); have HB5 := Lib.hid (below_put ((Below.refl wr.heap.size wr).alloc (Nat.le_refl _) _) hF5 (Nat.le_refl _)); have hg0 : w5.cell? ⟨G, 0, none⟩ = some (.int .i64 (fk m 0).length) := keepc HB5.out (H1.out.g.cell 0); have hn0 : w5.cell? ⟨MB, 0, none⟩ = some (.int .i64 (cnt m)) := keepc HB5.out (HKP.out wr H1.out.bel).2.2.1; clear hL5 hF5; try simp only [Act.put]))
          go_meet
          case rel => exact ⟨CV, (H1.out.later hRw HB5.out).done (Or.inl (by rw [← HCN.out]; exact hat'))⟩
      · obtain rfl : k = m.codes.length := by omega
        go_wp2_with fail
        go_meet
        case rel => exact ⟨CV, H1.out.done (Or.inr (Nat.le_refl _))⟩
  case rest =>
    obtain ⟨CV, hD⟩ := hcut
    have HD := Lib.hid hD
    have HKC := Lib.hid (HKP.out wc hD.bel)
    obtain ⟨sx, cx, hev, hsx⟩ := HM.out.2.2.2.2.2.2.1.1.form
    have hlx : m.exps.length ≤ 1048576 := HM.out.2.2.2.2.2.2.1.2.2
    have hc6 : wc.cell? ⟨B, 6, none⟩ = some (.slice sx m.exps.length cx) := by
      rw [← hev]
      exact HKC.out.2.1.cell 6
    have HRO := Lib.hid (Ro.start hD.g)
    clear hD H1
    generalize hcvv : (Value.slice (some ⟨CB, 0, none⟩) (cnt m) (cnt m)) = cvv at HRO
    have HCV := Lib.hid hcvv
    clear hcvv
    go_wp2_with fail
    clear hc6
    go_loopw [20, 156] (fun _ i wr => ∃ (j : Nat) (v : Value) (M : List Nat), j ≤ m.exps.length ∧ i = .int .i64 j ∧ M = (m.exps.take j).flatMap (pushR (cnt m)) ∧ M.length ≤ j ∧ Ro wc wr G m cvv v M)
      (fun _ i _ => m.exps.length - (intOf i).toNat)
    case atStart => exact ⟨0, _, [], Nat.zero_le _, rfl, by simp, Nat.le_refl _, HRO.out⟩
    case round =>
      clear HRO
      obtain ⟨j, v, M, hj, rfl, hM, hMl, hI⟩ := hrel
      have HMM := Lib.hid hM
      have HI := Lib.hid hI
      have HKW := Lib.hid (HKP.out wr (HD.out.bel.trans (hI.fr.below HKC.out.2.2.2.2 (fun k hk => by omega))))
      clear hM hI
      by_cases hlt2 : j < m.exps.length
      · obtain ⟨y, hy⟩ : ∃ y, m.exps[j]? = some y := ⟨_, List.getElem?_eq_getElem hlt2⟩
        obtain ⟨g2, off2, rfl, hg2⟩ := hsx (by intro e; simp [e] at hlt2)
        have hsl2 := HM.out.2.2.2.2.2.2.1.1
        rw [hev] at hsl2
        have hr2 := keepr HKW.out.2.2.2.1 (sl_range hsl2 hy)
        have hya : y.ix < 4294967296 := HM.out.2.2.2.2.2.2.1.2.1 y (List.mem_of_getElem? hy)
        have hpl := pushR_le (cnt m) y
        have HFM := Lib.hid (show (m.exps.take (j + 1)).flatMap (pushR (cnt m)) = M ++ pushR (cnt m) y by rw [flat_succ _ hy, ← HMM.out])
        clear hsl2 hy
        by_cases h0 : y.kind = 0
        · have ho0 : (y.kind.toNat : Int) = 0 := by rw [h0]; rfl
          by_cases ha : y.ix < cnt m
          · have HP := Lib.hid (show pushR (cnt m) y = [y.ix] by unfold pushR; rw [h0]; simp [ha])
            go_wp2_with (first | (refine wpList_load_mid rfl 84 _ rfl g2 (off2 + j * 3) rfl y.cs _ hr2 Try.underlying84 rfl sizeExp ?_; simp only [Act.put, List.setIfInBounds_toArray, List.set_cons_zero, List.set_cons_succ]) | (refine wl_put (Lies.new _ _ _) y.cs _ _ rfl rfl rfl rfl rfl sizeExp (oneExp y) (fun w6 hL6 hF6 => ?_); have hcop : w6.cell? ⟨wr.heap.size, 1, none⟩ = some (.int .u8 y.kind.toNat) := hL6.cell 1; have hca : w6.cell? ⟨wr.heap.size, 2, none⟩ = some (.int .u32 y.ix) := hL6.cell 2; have HB6 := Lib.hid (below_put ((Below.refl wr.heap.size wr).alloc (Nat.le_refl _) _) hF6 (Nat.le_refl _)); have hn6 : w6.cell? ⟨MB, 0, none⟩ = some (.int .i64 (cnt m)) := keepc HB6.out HKW.out.2.2.1; have HL6 := Lib.hid hL6; clear hL6 hF6; try simp only [Act.put]))
            refine (there_any (n := cnt m) (by omega) hya hn6).mono ?_
            rintro en w7 ⟨rfl, hb7⟩
            rw [decide_eq_true ha]
            have HB7 := Lib.hid (bt HB6.out hb7)
            have HL7 := Lib.hid (HL6.out.below hb7 HL6.out.lt)
            clear hb7 HB6 HL6 hcop hca hn6
            go_wp2_with fail
            have hd := below_drew w7
            have HIV := Lib.hid (HI.out.later (bt HB7.out hd))
            have HLV := Lib.hid (HL7.out.below hd HL7.out.lt)
            refine wp_region_t [(0, 1), (1, 1), (2, 1), (3, 1), (4, 2), (5, 1), (6, 1), (7, 1), (8, 0), (9, 0), (10, 1), (11, 1), (12, 0)] (fun w' => Lies w' wr.heap.size 84 y.cs.toArray) [(12, fun w' => w'.cell? ⟨G, 2, none⟩ = some v)] [12] rfl (by kernel_rfl) (by kernel_rfl) (fun _ _ d _ _ h => by cases d <;> exact h) HLV.out (fun p hp => by
              obtain rfl := List.mem_singleton.1 hp
              exact HIV.out.g.cell 2) ?_
            generalize w7.drew = V at HIV HLV ⊢
            clear hd
            repeat (first | (refine ts_take (v := ?_) rfl rfl (fun w' hw' => ?_) ?_; rotate_left; (focus (have q2 : w'.cell? ⟨wr.heap.size, 2, none⟩ = some (.int .u32 y.ix) := hw'.cell 2; clear hw'; (try simp only [Act.put, List.setIfInBounds_toArray, List.set_cons_zero, List.set_cons_succ]); go_simp; (try go_bits); (try (with_reducible rfl)))); (try simp only [Act.put, List.setIfInBounds_toArray, List.set_cons_zero, List.set_cons_succ])) | (refine ts_take2 (v := ?_) rfl rfl (fun w' hw' hst => ?_) ?_; rotate_left; (focus (have q0 := (Still.one hst rfl); have q2 : w'.cell? ⟨wr.heap.size, 2, none⟩ = some (.int .u32 y.ix) := hw'.cell 2; clear hst hw'; (try simp only [Act.put, List.setIfInBounds_toArray, List.set_cons_zero, List.set_cons_succ]); go_simp; (try go_bits); (try (with_reducible rfl)))); (try simp only [Act.put, List.setIfInBounds_toArray, List.set_cons_zero, List.set_cons_succ])) | (refine ts_skip rfl rfl ?_; (try simp only [Act.put, List.setIfInBounds_toArray, List.set_cons_zero, List.set_cons_succ])))
            refine ts_run1 rfl rfl (fun K hK => ?_)
            refine wp_bs1 _ _ (bs_int y.ix) _ rfl rfl (fun wa hba hla => ?_)
            have HNA := Lib.hid hla
            have HIA := Lib.hid (HIV.out.later hba)
            have HLA := Lib.hid (HLV.out.below hba HLV.out.lt)
            refine hK.out _ _ HLA.out (still_one (.inr (HIA.out.g.cell 2))) ?_
            clear hK K hba hla
            (try simp only [Act.put, List.setIfInBounds_toArray, List.set_cons_zero, List.set_cons_succ])
            refine ts_run1 rfl rfl (fun K hK => ?_)
            refine wp_app (v := v) _ _ rfl Try.underlying40 info_int (by decide) rfl HIA.out.cur ic_len rfl (sl_one (en := ic) HNA.out) (fun y _ => oneIc y) (by simp only [List.length_singleton]; unfold maxLen; omega) (by simp only [List.length_singleton]; omega) HIA.out.fr.size (fun v' w8 hr8 hg8 hv8 => ?_)
            have HG8 := Lib.hid hg8
            have HR8 := Lib.hid (show w8.ownsRow wc.heap.size 3 1 v' (M ++ [y.ix]).length ((M ++ [y.ix]).flatMap ic) by rw [List.length_append, List.flatMap_append]; exact hr8)
            obtain ⟨s8, c8, rfl, _, _⟩ := row_form hr8
            have HF8 := Lib.hid (FrT.grown HIA.out.cur hg8)
            have HG8g := Lib.hid (HIA.out.mid hg8)
            have HL8 := Lib.hid (lies_frT HLA.out HF8.out (by decide))
            refine hK.out _ _ HL8.out (still_one (.inr (HG8g.out.cell 2))) ?_
            clear hK K hr8 hg8 hv8
            (try simp only [Act.put, List.setIfInBounds_toArray, List.set_cons_zero, List.set_cons_succ])
            repeat (first | (refine ts_take (v := ?_) rfl rfl (fun w' hw' => ?_) ?_; rotate_left; (focus (clear hw'; (try simp only [Act.put, List.setIfInBounds_toArray, List.set_cons_zero, List.set_cons_succ]); go_simp; (try go_bits); (try (with_reducible rfl)))); (try simp only [Act.put, List.setIfInBounds_toArray, List.set_cons_zero, List.set_cons_succ])) | (refine ts_take2 (v := ?_) rfl rfl (fun w' hw' hst => ?_) ?_; rotate_left; (focus ((try simp only [Act.put, List.setIfInBounds_toArray, List.set_cons_zero, List.set_cons_succ]); go_simp; (try go_bits); (try (with_reducible rfl)))); (try simp only [Act.put, List.setIfInBounds_toArray, List.set_cons_zero, List.set_cons_succ])) | (refine ts_skip rfl rfl ?_; (try simp only [Act.put, List.setIfInBounds_toArray, List.set_cons_zero, List.set_cons_succ])))
            refine ts_run1 rfl rfl (fun K hK => ?_)
            refine wp_fld HG8g.out _ _ rfl rfl rfl [_] [.int .i64 (fk m 0).length, cvv, .slice s8 _ c8] (slice_cells _ _ _) size_li (one_slice _ _ _) (by simp) rfl (fun wz hlz hfz => ?_)
            have HI9 := Lib.hid (HIA.out.turn HR8.out HG8.out hlz hfz)
            have HL9 := Lib.hid (lies_frT HL8.out (FrT.field HG8g.out hfz) (by decide))
            refine hK.out _ _ HL9.out (still_one (.inl rfl)) ?_
            clear hK K hlz hfz HG8 HR8 HF8 HG8g HL8 HNA HIA HLA HIV HLV
            refine ts_done ?_
            (try simp only [Act.put])
            go_wp2_with fail
            exact ⟨⟨j + 1, _, M ++ [y.ix], by omega, by go_num, by rw [HFM.out, HP.out], by rw [List.length_append, List.length_singleton]; omega, HI9.out⟩, by simp [intOf]; omega⟩
          · have HP := Lib.hid (show pushR (cnt m) y = [] by unfold pushR; rw [h0]; simp [ha])
            go_wp2_with (first | (refine wpList_load_mid rfl 84 _ rfl g2 (off2 + j * 3) rfl y.cs _ hr2 Try.underlying84 rfl sizeExp ?_; simp only [Act.put, List.setIfInBounds_toArray, List.set_cons_zero, List.set_cons_succ]) | (refine wl_put (Lies.new _ _ _) y.cs _ _ rfl rfl rfl rfl rfl sizeExp (oneExp y) (fun w6 hL6 hF6 => ?_); have hcop : w6.cell? ⟨wr.heap.size, 1, none⟩ = some (.int .u8 y.kind.toNat) := hL6.cell 1; have hca : w6.cell? ⟨wr.heap.size, 2, none⟩ = some (.int .u32 y.ix) := hL6.cell 2; have HB6 := Lib.hid (below_put ((Below.refl wr.heap.size wr).alloc (Nat.le_refl _) _) hF6 (Nat.le_refl _)); have hn6 : w6.cell? ⟨MB, 0, none⟩ = some (.int .i64 (cnt m)) := keepc HB6.out HKW.out.2.2.1; have HL6 := Lib.hid hL6; clear hL6 hF6; try simp only [Act.put]))
            refine (there_any (n := cnt m) (by omega) hya hn6).mono ?_
            rintro en w7 ⟨rfl, hb7⟩
            rw [decide_eq_false ha]
            have HI7 := Lib.hid (HI.out.later (bt HB6.out hb7))
            clear hb7 HB6 HL6 hcop hca hn6
            go_wp2_with fail
            exact ⟨⟨j + 1, _, M, by omega, by go_num, by rw [HFM.out, HP.out, List.append_nil], by omega, HI7.out⟩, by simp [intOf]; omega⟩
        · have ho0 : ¬ (y.kind.toNat : Int) = 0 := fun e => h0 (UInt8.toNat_inj.1 (by have : (0 : UInt8).toNat = 0 := rfl; omega))
          have HP := Lib.hid (show pushR (cnt m) y = [] by unfold pushR; simp [h0])
          go_wp2_with (first | (refine wpList_load_mid rfl 84 _ rfl g2 (off2 + j * 3) rfl y.cs _ hr2 Try.underlying84 rfl sizeExp ?_; simp only [Act.put, List.setIfInBounds_toArray, List.set_cons_zero, List.set_cons_succ]) | (refine wl_put (Lies.new _ _ _) y.cs _ _ rfl rfl rfl rfl rfl sizeExp (oneExp y) (fun w6 hL6 hF6 => ?_); have hcop : w6.cell? ⟨wr.heap.size, 1, none⟩ = some (.int .u8 y.kind.toNat) := hL6.cell 1; have hca : w6.cell? ⟨wr.heap.size, 2, none⟩ = some (.int .u32 y.ix) := hL6.cell 2; have HB6 := Lib.hid (below_put ((Below.refl wr.heap.size wr).alloc (Nat.le_refl _) _) hF6 (Nat.le_refl _)); have hn6 : w6.cell? ⟨MB, 0, none⟩ = some (.int .i64 (cnt m)) := keepc HB6.out HKW.out.2.2.1; have HL6 := Lib.hid hL6; clear hL6 hF6; try simp only [Act.put]))
          have HI7 := Lib.hid (HI.out.later HB6.out)
          exact ⟨⟨j + 1, _, M, by omega, by go_num, by rw [HFM.out, HP.out, List.append_nil], by omega, HI7.out⟩, by simp [intOf]; omega⟩
      · obtain rfl : j = m.exps.length := by omega
        rw [List.take_length] at HMM
        have hc7 : wr.cell? ⟨B, 7, none⟩ = some (.bool m.hs) := HKW.out.2.1.cell 7
        have hc8 : wr.cell? ⟨B, 8, none⟩ = some (.int .u32 m.st) := HKW.out.2.1.cell 8
        have hn6 := HKW.out.2.2.1
        have hst4 := HM.out.2.2.2.2.2.2.2.1
        have hltM : ∀ h ∈ M, h < cnt m := fun h hh => by
          rw [HMM.out] at hh
          obtain ⟨y, _, hy⟩ := List.mem_flatMap.1 hh
          exact pushR_lt hy
        have HSR := Lib.hid (show srt (cnt m) (M ++ pushS m) = rootsL m by rw [HMM.out]; exact srt_roots m)
        cases hhs : m.hs with
        | false =>
          rw [hhs] at hc7
          have hPS : pushS m = [] := by unfold pushS; rw [hhs]; rfl
          have hcs : srt (cnt m) M = rootsL m := by rw [← HSR.out, hPS, List.append_nil]
          have hlt3 := hltM
          have hg2 : wr.cell? ⟨G, 2, none⟩ = some v := HI.out.g.cell 2
          clear hPS hltM
          go_wp2_with fail
          refine (set_any HI.out.cur hlt3 (by omega)).mono ?_
          rintro en w8 ⟨v', rfl, hr8, hg8, _⟩
          rw [hcs] at hr8
          obtain ⟨s8, c8, rfl, _, _⟩ := row_form hr8
          have HR8 := Lib.hid hr8
          have HG8 := Lib.hid hg8
          have HMD := Lib.hid (HI.out.mid hg8)
          clear hr8 hg8 hcs hlt3 hg2
          go_wp2_with (refine wl_fld HMD.out _ _ rfl rfl rfl rfl [_] [.int .i64 (fk m 0).length, cvv, .slice s8 (rootsL m).length c8] (slice_cells _ _ _) size_li (one_slice _ _ _) (by simp) rfl (fun wz hlz hfz => ?_); have HI9 := Lib.hid (HI.out.turn HR8.out HG8.out hlz hfz); clear hlz hfz; try simp only [Act.put])
          go_ret
          have hcvv := HCV.out
          subst hcvv
          exact ⟨G, rfl, HI9.out.done HD.out, (HKP.out wz (HD.out.bel.trans (HI9.out.fr.below HKC.out.2.2.2.2 (fun k hk => by omega)))).2.2.2.1⟩
        | true =>
          rw [hhs] at hc7
          by_cases ha : m.st < cnt m
          · have HPS := Lib.hid (show pushS m = [m.st] by unfold pushS; rw [hhs, if_pos rfl, if_pos ha])
            go_wp2_with fail
            refine (there_any (n := cnt m) (by omega) hst4 hn6).mono ?_
            rintro en w7 ⟨rfl, hb7⟩
            rw [decide_eq_true ha]
            have HB7 := Lib.hid hb7
            have HL7 := Lib.hid (HKW.out.2.1.below hb7 HKW.out.2.1.lt)
            clear hb7 hc7 hc8 hn6
            go_wp2_with fail
            have hd := below_drew w7
            have HIV := Lib.hid (HI.out.later (bt HB7.out hd))
            have HLV := Lib.hid (HL7.out.below hd HL7.out.lt)
            refine wp_region_t [(0, 1), (1, 1), (2, 1), (3, 1), (4, 2), (5, 1), (6, 1), (7, 1), (8, 0), (9, 0), (10, 1), (11, 1), (12, 0)] (fun w' => Lies w' B 33 m.cs.toArray) [(12, fun w' => w'.cell? ⟨G, 2, none⟩ = some v)] [12] rfl (by kernel_rfl) (by kernel_rfl) (fun _ _ d _ _ h => by cases d <;> exact h) HLV.out (fun p hp => by
              obtain rfl := List.mem_singleton.1 hp
              exact HIV.out.g.cell 2) ?_
            generalize w7.drew = V at HIV HLV ⊢
            clear hd
            repeat (first | (refine ts_take (v := ?_) rfl rfl (fun w' hw' => ?_) ?_; rotate_left; (focus (have q2 : w'.cell? ⟨B, 8, none⟩ = some (.int .u32 m.st) := hw'.cell 8; clear hw'; (try simp only [Act.put, List.setIfInBounds_toArray, List.set_cons_zero, List.set_cons_succ]); go_simp; (try go_bits); (try (with_reducible rfl)))); (try simp only [Act.put, List.setIfInBounds_toArray, List.set_cons_zero, List.set_cons_succ])) | (refine ts_take2 (v := ?_) rfl rfl (fun w' hw' hst => ?_) ?_; rotate_left; (focus (have q0 := (Still.one hst rfl); have q2 : w'.cell? ⟨B, 8, none⟩ = some (.int .u32 m.st) := hw'.cell 8; clear hst hw'; (try simp only [Act.put, List.setIfInBounds_toArray, List.set_cons_zero, List.set_cons_succ]); go_simp; (try go_bits); (try (with_reducible rfl)))); (try simp only [Act.put, List.setIfInBounds_toArray, List.set_cons_zero, List.set_cons_succ])) | (refine ts_skip rfl rfl ?_; (try simp only [Act.put, List.setIfInBounds_toArray, List.set_cons_zero, List.set_cons_succ])))
            refine ts_run1 rfl rfl (fun K hK => ?_)
            refine wp_bs1 _ _ (bs_int m.st) _ rfl rfl (fun wa hba hla => ?_)
            have HNA := Lib.hid hla
            have HIA := Lib.hid (HIV.out.later hba)
            have HLA := Lib.hid (HLV.out.below hba HLV.out.lt)
            refine hK.out _ _ HLA.out (still_one (.inr (HIA.out.g.cell 2))) ?_
            clear hK K hba hla
            (try simp only [Act.put, List.setIfInBounds_toArray, List.set_cons_zero, List.set_cons_succ])
            refine ts_run1 rfl rfl (fun K hK => ?_)
            refine wp_app (v := v) _ _ rfl Try.underlying40 info_int (by decide) rfl HIA.out.cur ic_len rfl (sl_one (en := ic) HNA.out) (fun y _ => oneIc y) (by simp only [List.length_singleton]; unfold maxLen; omega) (by simp only [List.length_singleton]; omega) HIA.out.fr.size (fun v' w8 hr8 hg8 hv8 => ?_)
            have HG8 := Lib.hid hg8
            have HR8 := Lib.hid (show w8.ownsRow wc.heap.size 3 1 v' (M ++ [m.st]).length ((M ++ [m.st]).flatMap ic) by rw [List.length_append, List.flatMap_append]; exact hr8)
            obtain ⟨s8, c8, rfl, _, _⟩ := row_form hr8
            have HF8 := Lib.hid (FrT.grown HIA.out.cur hg8)
            have HG8g := Lib.hid (HIA.out.mid hg8)
            have HL8 := Lib.hid (lies_frT HLA.out HF8.out (by decide))
            refine hK.out _ _ HL8.out (still_one (.inr (HG8g.out.cell 2))) ?_
            clear hK K hr8 hg8 hv8
            (try simp only [Act.put, List.setIfInBounds_toArray, List.set_cons_zero, List.set_cons_succ])
            repeat (first | (refine ts_take (v := ?_) rfl rfl (fun w' hw' => ?_) ?_; rotate_left; (focus (clear hw'; (try simp only [Act.put, List.setIfInBounds_toArray, List.set_cons_zero, List.set_cons_succ]); go_simp; (try go_bits); (try (with_reducible rfl)))); (try simp only [Act.put, List.setIfInBounds_toArray, List.set_cons_zero, List.set_cons_succ])) | (refine ts_take2 (v := ?_) rfl rfl (fun w' hw' hst => ?_) ?_; rotate_left; (focus ((try simp only [Act.put, List.setIfInBounds_toArray, List.set_cons_zero, List.set_cons_succ]); go_simp; (try go_bits); (try (with_reducible rfl)))); (try simp only [Act.put, List.setIfInBounds_toArray, List.set_cons_zero, List.set_cons_succ])) | (refine ts_skip rfl rfl ?_; (try simp only [Act.put, List.setIfInBounds_toArray, List.set_cons_zero, List.set_cons_succ])))
            refine ts_run1 rfl rfl (fun K hK => ?_)
            refine wp_fld HG8g.out _ _ rfl rfl rfl [_] [.int .i64 (fk m 0).length, cvv, .slice s8 _ c8] (slice_cells _ _ _) size_li (one_slice _ _ _) (by simp) rfl (fun wz hlz hfz => ?_)
            have HI9 := Lib.hid (HIA.out.turn HR8.out HG8.out hlz hfz)
            have HL9 := Lib.hid (lies_frT HL8.out (FrT.field HG8g.out hfz) (by decide))
            refine hK.out _ _ HL9.out (still_one (.inl rfl)) ?_
            clear hK K hlz hfz HG8 HR8 HF8 HG8g HL8 HNA HIA HLA HIV HLV
            refine ts_done ?_
            (try simp only [Act.put])
            have HI := Lib.hid HI9.out
            clear HI9
            have hcs : srt (cnt m) (M ++ [m.st]) = rootsL m := by rw [← HSR.out, HPS.out]
            have hlt3 : ∀ h ∈ M ++ [m.st], h < cnt m := fun h hh => by
              rcases List.mem_append.1 hh with e | e
              · exact hltM h e
              · obtain rfl := List.mem_singleton.1 e
                exact ha
            have hMl2 : (M ++ [m.st]).length ≤ m.exps.length + 1 := by rw [List.length_append, List.length_singleton]; omega
            have hg2 : wz.cell? ⟨G, 2, none⟩ = some (.slice s8 (M.length + [m.st].length) c8) := HI.out.g.cell 2
            clear hltM HPS
            go_wp2_with fail
            refine (set_any HI.out.cur hlt3 (by omega)).mono ?_
            rintro en w8 ⟨v', rfl, hr8, hg8, _⟩
            rw [hcs] at hr8
            obtain ⟨s8, c8, rfl, _, _⟩ := row_form hr8
            have HR8 := Lib.hid hr8
            have HG8 := Lib.hid hg8
            have HMD := Lib.hid (HI.out.mid hg8)
            clear hr8 hg8 hcs hlt3 hg2
            go_wp2_with (refine wl_fld HMD.out _ _ rfl rfl rfl rfl [_] [.int .i64 (fk m 0).length, cvv, .slice s8 (rootsL m).length c8] (slice_cells _ _ _) size_li (one_slice _ _ _) (by simp) rfl (fun wy hlz hfz => ?_); have HI9 := Lib.hid (HI.out.turn HR8.out HG8.out hlz hfz); clear hlz hfz; try simp only [Act.put])
            go_ret
            have hcvv := HCV.out
            subst hcvv
            exact ⟨G, rfl, HI9.out.done HD.out, (HKP.out wy (HD.out.bel.trans (HI9.out.fr.below HKC.out.2.2.2.2 (fun k hk => by omega)))).2.2.2.1⟩
          · have hPS : pushS m = [] := by unfold pushS; rw [hhs, if_pos rfl, if_neg ha]
            have hcs : srt (cnt m) M = rootsL m := by rw [← HSR.out, hPS, List.append_nil]
            have hlt3 := hltM
            go_wp2_with fail
            refine (there_any (n := cnt m) (by omega) hst4 hn6).mono ?_
            rintro en w7 ⟨rfl, hb7⟩
            rw [decide_eq_false ha]
            have HI := Lib.hid (HI.out.later hb7)
            have hg2 : w7.cell? ⟨G, 2, none⟩ = some v := HI.out.g.cell 2
            clear hb7 hc7 hc8 hn6 hPS hltM
            go_wp2_with fail
            refine (set_any HI.out.cur hlt3 (by omega)).mono ?_
            rintro en w8 ⟨v', rfl, hr8, hg8, _⟩
            rw [hcs] at hr8
            obtain ⟨s8, c8, rfl, _, _⟩ := row_form hr8
            have HR8 := Lib.hid hr8
            have HG8 := Lib.hid hg8
            have HMD := Lib.hid (HI.out.mid hg8)
            clear hr8 hg8 hcs hlt3 hg2
            go_wp2_with (refine wl_fld HMD.out _ _ rfl rfl rfl rfl [_] [.int .i64 (fk m 0).length, cvv, .slice s8 (rootsL m).length c8] (slice_cells _ _ _) size_li (one_slice _ _ _) (by simp) rfl (fun wz hlz hfz => ?_); have HI9 := Lib.hid (HI.out.turn HR8.out HG8.out hlz hfz); clear hlz hfz; try simp only [Act.put])
            go_ret
            have hcvv := HCV.out
            subst hcvv
            exact ⟨G, rfl, HI9.out.done HD.out, (HKP.out wz (HD.out.bel.trans (HI9.out.fr.below HKC.out.2.2.2.2 (fun k hk => by omega)))).2.2.2.1⟩
end Go.Proofs.Ytjafmclladiblaa.Gr
