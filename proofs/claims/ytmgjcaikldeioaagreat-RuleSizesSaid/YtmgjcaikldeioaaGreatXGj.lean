/- Space: the walk of Of. -/
import Derived.Test.YtmgjcaikldeioaaGreatXGi
namespace Go.Proofs.YtmgjcaikldeioaaGreat.Gr
open Go Go.RowKit Kt Fm

theorem sizeLim : (Tryz.prog.info? 84).map (·.size) = some 2 := by kernel_rfl
theorem sizeGt : (Tryz.prog.info? 78).map (·.size) = some 2 := by kernel_rfl
theorem sizeGlb : (Tryz.prog.info? 80).map (·.size) = some 3 := by kernel_rfl
theorem oneLim (x : Lim) : ∀ u ∈ x.cs, u.oneCell' = true := by simp [Lim.cs, Value.oneCell']
theorem oneGt (x : Gt) : ∀ u ∈ x.cs, u.oneCell' = true := by simp [Gt.cs, Value.oneCell']
theorem oneFtl {w : World} {x : Ft} (h : FtOwn w x) : ∀ u ∈ x.cs, u.oneCell' = true := by
 obtain ⟨s1, c1, e1, _⟩ := h.1.form
 obtain ⟨s2, c2, e2, _⟩ := h.2.form
 simp [Ft.cs, e1, e2, Value.oneCell']
theorem oneTyl {w : World} {x : Ty} (h : FtOwn w x.ft) : ∀ u ∈ x.cs, u.oneCell' = true := by
 obtain ⟨s1, c1, e1, _⟩ := h.1.form
 obtain ⟨s2, c2, e2, _⟩ := h.2.form
 simp [Ty.cs, e1, e2, Value.oneCell']
theorem slice_cells (s : Option Addr) (n c : Nat) : (Value.slice s n c).cells = [Value.slice s n c].toArray := rfl
theorem size4 : (Tryz.prog.info? 120).map (·.size) = some 4 := by kernel_rfl
theorem sizeSl_ft : (Tryz.prog.info? 22).map (·.size) = some 1 := by kernel_rfl
theorem sizeSl_ty : (Tryz.prog.info? 118).map (·.size) = some 1 := by kernel_rfl
theorem sizeSl_lim : (Tryz.prog.info? 25).map (·.size) = some 1 := by kernel_rfl
theorem sizeSl_gt : (Tryz.prog.info? 119).map (·.size) = some 1 := by kernel_rfl
theorem buildTy (y : Ty) (w : World) : (Instr.build 129 #[(0, .agg y.ft.cs.toArray), (1, .bool y.ok)]).run Tryz.prog w = .ok (.agg y.cs.toArray) w := by kernel_rfl
theorem exec_buildTy {act : Act} {op : Oper} {w : World} (y : Ty) (p q : Operand) (ho : op.op = .build 129 #[(0, p), (1, q)]) (hp : act.eval p = .agg y.ft.cs.toArray) (hq : act.eval q = .bool y.ok) : (execOp act.eval op).run Tryz.prog w = .ok (.value (.agg y.cs.toArray)) w := by
 have hb := buildTy y w
 unfold execOp
 simp [ho, hp, hq, hb]
theorem oneGlb {w : World} {x : Glb} (h : GlbOk w x) : (x.cs.toArray.all (·.oneCell')) = true := by
 obtain ⟨s, c, e, _⟩ := h.2.1.form
 simp [Glb.cs, e, Value.oneCell']
theorem one_slice (s : Option Addr) (n c : Nat) : ∀ u ∈ [Value.slice s n c], u.oneCell' = true := by simp [Value.oneCell']

/-- What a module's space has. -/
def gsOf (m : Mod) : List Gt := (fk m 3).map (·.gt) ++ m.globs.map (·.gt)
def bsOf (m : Mod) : List Lim := (fk m 1).map (·.lim) ++ m.tabs
def msOf (m : Mod) : List Lim := (fk m 2).map (·.lim) ++ m.mems
/-- A space in memory, its lists told. -/
def SpX (w : World) (S0 : Nat) (m : Mod) : Prop := ∃ (B : Nat) (TS : List Ft) (tv fv gv bv mv ev : Value), Sp w B S0 m TS ((allTy m).map (tyOf TS)) (gsOf m) (bsOf m) (msOf m) tv fv gv bv mv (fk m 0).length (fk m 1).length (fk m 2).length (fk m 3).length ev ∧ TS.map (fun x => (x.p, x.r)) = m.types.map (fun x => (x.p, x.r))
theorem SpX.sp {w : World} {S0 : Nat} {m : Mod} (h : SpX w S0 m) : SpOf w S0 m := by
 obtain ⟨B, TS, tv, fv, gv, bv, mv, ev, h, hm⟩ := h
 exact ⟨B, TS, _, _, _, tv, fv, gv, bv, mv, ev, h, hm⟩
set_option maxRecDepth 100000 in
set_option maxHeartbeats 16000000 in
theorem sofX_any {W : World} {m : Mod} (hm : ModOk W m) :
  Calls Tryz.prog 11 #[.agg m.cs.toArray] W fun e w' => ∃ s, e = .returned (.pointer (some ⟨s, 0, none⟩)) ∧ SpX w' s m ∧ W.heap.size ≤ s ∧ Below W.heap.size W w' := by
 have HM := zh hm
 have HX := zh hm.2.2.2.2.2.2.1
 have hlT : m.types.length ≤ 1048576 := hm.1.2.2
 have hlB : m.tabs.length ≤ 1048576 := hm.2.2.2.1.2.2
 have hlM : m.mems.length ≤ 1048576 := hm.2.2.2.2.1.2.2
 have hlG : m.globs.length ≤ 1048576 := hm.2.2.2.2.2.1.2.2
 have hlF : m.funcs.length ≤ 1048576 := hm.2.2.1.2.2
 have hlI : m.imps.length ≤ 1048576 := hm.2.1.2.2
 clear hm
 go_enter Tryz.func11, Tryz.ntmps11
 go_wp2_with (refine wl_box m.cs _ rfl rfl rfl (fun w1 hb1 hl1 => ?_); have HB1 := zh hb1; have HL1 := zh hl1; have hc6 := (ModAt.of hl1).c6; have hc0 := (ModAt.of hl1).c0; clear hb1 hl1; simp only [Act.put, sA, sB, sC])
 refine (clone_exp (HX.out.1.later HB1.out) (Nat.le_trans HX.out.2.2 (by decide))).mono ?_
 rintro en w2 ⟨ev, rfl, hoe, hb2⟩
 obtain ⟨se, ce, rfl, _⟩ := (own_sl (en := Exp.cs) (fun _ => rfl) hoe).form
 replace hc0 := keepc hb2 hc0
 have HB2 := zh (bt HB1.out hb2)
 have HM2 := zh (HL1.out.below hb2 HL1.out.lt)
 have hBS : W.heap.size < w2.heap.size := Nat.lt_of_lt_of_le HL1.out.lt hb2.size
 clear hb2 hc6 hoe HL1 HB1
 obtain ⟨st, ct, htv, hst⟩ := HM.out.1.1.form
 rw [htv] at hc0
 go_wp2_with (refine wl_box (spc (.slice none 0 0) (.slice none 0 0) (.slice none 0 0) (.slice none 0 0) (.slice none 0 0) 0 0 0 0 (.slice se m.exps.length ce)) _ rfl rfl rfl (fun w3 hb3 hl3 => ?_); have HB3 := zh hb3; have HL3 := zh hl3; have HM3 := zh (HM2.out.below hb3 HM2.out.lt); have hc0' := keepc hb3 hc0; clear hb3 hl3; simp only [Act.put, sA, sB, sC])
 have HB4 := zh (bt HB2.out HB3.out)
 clear HB2 HB3 HM2 hc0 hc0'
 generalize Value.slice se m.exps.length ce = ev at HL3 ⊢
 generalize w2.heap.size = S0 at hBS HL3 ⊢
 have HS := zh (show Sp w3 W.heap.size S0 m [] [] [] [] [] (.slice none 0 0) (.slice none 0 0) (.slice none 0 0) (.slice none 0 0) (.slice none 0 0) 0 0 0 0 ev from
  ⟨HL3.out, HM3.out, World.ownsRow_nil _ _ _ _, World.ownsRow_nil _ _ _ _, World.ownsRow_nil _ _ _ _, World.ownsRow_nil _ _ _ _, World.ownsRow_nil _ _ _ _, (fun _ h => by cases h), (by simp), (by simp)⟩)
 clear HL3 HM3
 go_loopw [5, 33] (fun _ i wr => ∃ (k : Nat) (TS : List Ft) (tv : Value), k ≤ m.types.length ∧ i = .int .i64 k ∧ TS.length = k ∧ TS.map (fun x => (x.p, x.r)) = (m.types.take k).map (fun x => (x.p, x.r)) ∧ Sp wr W.heap.size S0 m TS [] [] [] [] tv (.slice none 0 0) (.slice none 0 0) (.slice none 0 0) (.slice none 0 0) 0 0 0 0 ev ∧ Below W.heap.size W wr)
  (fun _ i _ => m.types.length - (intOf i).toNat)
 case atStart => exact ⟨0, [], .slice none 0 0, by omega, rfl, rfl, rfl, HS.out, HB4.out⟩
 case round =>
  clear HS HB4
  obtain ⟨k, TS, tv, hk, rfl, hTk, hmap, hS, hbW⟩ := hrel
  have HTK := zh hTk
  have HMAP := zh hmap
  have HS := zh hS
  have HBW := zh hbW
  clear hTk hmap hS hbW
  by_cases hlt : k < m.types.length
  ·obtain ⟨x, hx⟩ : ∃ x, m.types[k]? = some x := ⟨_, List.getElem?_eq_getElem hlt⟩
   obtain ⟨g, off, rfl, hg⟩ := hst (by intro e; simp [e] at hlt)
   have hokx := HM.out.1.2.1 x (List.mem_of_getElem? hx)
   have hsl := HM.out.1.1
   rw [htv] at hsl
   have hr := keepr HBW.out (sl_range hsl hx)
   have HX2 := zh hx
   have HOK := zh (hokx.later HBW.out)
   have HO := zh (oneFt hokx)
   clear hsl hx hokx
   go_wp2_with (first | (refine wpList_load_mid rfl 51 _ rfl g (off + k * 2) rfl x.cs _ hr Tryz.underlying51 rfl sizeFt ?_; simp only [Act.put, sA, sB, sC]) | (refine wl_put (Lies.new _ _ _) x.cs _ _ rfl rfl rfl rfl rfl sizeFt HO.out (fun w5 hL5 hF5 => ?_); have HL5 := zh hL5; have HF5 := zh hF5; clear hL5 hF5; try simp only [Act.put]))
   have hb5 : Below wr.heap.size wr w5 := below_put ((Below.refl _ _).alloc (Nat.le_refl _) _) HF5.out (Nat.le_refl _)
   have HS5 := zh (HS.out.later hb5)
   have HB5 := zh (bt HBW.out hb5)
   have HOK5 := zh (HOK.out.later hb5)
   clear HF5 hb5 HS HBW HOK hr HO
   generalize wr.heap.size = n5 at HL5 ⊢
   have hTSk : TS.length = k := HTK.out
   have hd : Below w5.heap.size w5 w5.drew := ⟨rfl, rfl, rfl, Nat.le_refl _, fun _ _ => rfl⟩
   have HSV := zh (HS5.out.later hd)
   have HBV := zh (bt HB5.out hd)
   have HLV := zh (HL5.out.below hd HL5.out.lt)
   refine wp_region_t [(0, 1), (1, 1), (2, 1), (3, 1), (4, 2), (5, 2), (6, 0), (7, 0), (8, 0), (9, 1), (10, 1), (11, 0)] (fun _ => True) [(8, fun w' => Lies w' n5 51 x.cs.toArray), (11, fun w' => w'.cell? ⟨S0, 0, none⟩ = some tv)] [8, 11] rfl (by kernel_rfl) (by kernel_rfl) (fun _ _ d _ _ h => by cases d <;> exact h) trivial (fun p hp => by
    rcases List.mem_cons.1 hp with rfl | hp
    ·exact HLV.out
    ·obtain rfl := List.mem_singleton.1 hp
     exact HSV.out.lies.cell 0) ?_
   have HOKV := zh (HOK5.out.later hd)
   clear HOK5
   generalize w5.drew = V at HSV HBV HLV HOKV ⊢
   clear hd HS5 HB5 HL5
   repeat (first | (refine ts_take2 (v := .agg x.cs.toArray) rfl rfl (fun w' _ hst => exec_load (lies_range (Still.fst hst rfl)) _ rfl rfl Tryz.underlying51 rfl sizeFt) ?_; (try simp only [Act.put, sA, sB, sC])) | (refine ts_take (v := ?_) rfl rfl (fun w' hw' => ?_) ?_; rotate_left; (focus (clear hw'; (try simp only [Act.put, sA, sB, sC]); go_simp; (try go_bits); (try (with_reducible rfl)))); (try simp only [Act.put, sA, sB, sC])) | (refine ts_take2 (v := ?_) rfl rfl (fun w' hw' hst => ?_) ?_; rotate_left; (focus (have q0 := (Still.fst (Still.tail hst) rfl); have q1 := (Still.fst hst rfl); clear hst hw'; (try simp only [Act.put, sA, sB, sC]); go_simp; (try go_bits); (try (with_reducible rfl)))); (try simp only [Act.put, sA, sB, sC])) | (refine ts_skip rfl rfl ?_; (try simp only [Act.put, sA, sB, sC])))
   refine ts_run1 rfl rfl (fun K hK => ?_)
   go_simp
   refine (own_any HOKV.out).mono ?_
   rintro en w6 ⟨x', rfl, ho6, hp6, hr6, hb6, _⟩
   have HOW := zh ho6
   have HPR := zh (And.intro hp6 hr6)
   have HSV := zh (HSV.out.later hb6)
   have HBV := zh (bt HBV.out hb6)
   have HLV := zh (HLV.out.below hb6 HLV.out.lt)
   refine hK.out _ _ trivial (still_two (.inr HLV.out) (.inr (HSV.out.lies.cell 0))) ?_
   clear hK K ho6 hp6 hr6 hb6 HOKV
   (try simp only [Act.put, sA, sB, sC])
   refine ts_run1 rfl rfl (fun K hK => ?_)
   refine wp_bs1 _ _ (bs_ft x') _ rfl rfl (fun w7 hb7 hl7 => ?_)
   have HN7 := zh hl7
   have HS7 := zh (HSV.out.later hb7)
   have HB7 := zh (bt HBV.out hb7)
   have HL7 := zh (HLV.out.below hb7 HLV.out.lt)
   refine hK.out _ _ trivial (still_two (.inr HL7.out) (.inr (HS7.out.lies.cell 0))) ?_
   have HOW7 := zh (HOW.out.later hb7)
   clear hK K hb7 hl7
   (try simp only [Act.put, sA, sB, sC])
   refine ts_run1 rfl rfl (fun K hK => ?_)
   refine wp_app _ _ rfl Tryz.underlying22 info_ft (by decide) rfl HS7.out.t Ft.len rfl (sl_one HN7.out) (fun y hy u hu => by
    obtain rfl := List.mem_singleton.1 hy
    exact oneFtl HOW.out u hu) (by simp only [List.length_singleton]; unfold maxLen; omega) (by simp only [List.length_singleton]; omega) HB7.out.size (fun v' w8 hr8 hg8 hv8 => ?_)
   have HR8 := zh hr8
   have HG8 := zh hg8
   have HV8 := zh hv8
   obtain ⟨s8, c8, rfl, _⟩ := row_form hr8
   have HL8 := zh (lies_frT HS7.out.lies (FrT.grown HS7.out.t hg8) (by decide))
   refine hK.out _ _ trivial (still_two (.inl rfl) (.inr (HL8.out.cell 0))) ?_
   clear hK K hr8 hg8 hv8
   (try simp only [Act.put, sA, sB, sC])
   repeat (first | (refine ts_take (v := ?_) rfl rfl (fun w' hw' => ?_) ?_; rotate_left; (focus (clear hw'; (try simp only [Act.put, sA, sB, sC]); go_simp; (try go_bits); (try (with_reducible rfl)))); (try simp only [Act.put, sA, sB, sC])) | (refine ts_take2 (v := ?_) rfl rfl (fun w' hw' hst => ?_) ?_; rotate_left; (focus (have q0 := (Still.fst (Still.tail hst) rfl); clear hst hw'; (try simp only [Act.put, sA, sB, sC]); go_simp; (try go_bits); (try (with_reducible rfl)))); (try simp only [Act.put, sA, sB, sC])) | (refine ts_skip rfl rfl ?_; (try simp only [Act.put, sA, sB, sC])))
   refine ts_run1 rfl rfl (fun K hK => ?_)
   refine wp_fld HL8.out _ _ rfl rfl rfl [_] (spc (.slice s8 _ c8) (.slice none 0 0) (.slice none 0 0) (.slice none 0 0) (.slice none 0 0) 0 0 0 0 ev) (slice_cells _ _ _) sizeSl_ft (one_slice _ _ _) (by simp [spc]) rfl (fun w9 hl9 hf9 => ?_)
   have HS9 := zh (HS7.out.put_t HR8.out HG8.out HV8.out hl9 hf9 (fun y hy => by obtain rfl := List.mem_singleton.1 hy; exact (HOW7.out.frT (FrT.grown HS7.out.t HG8.out) (by decide))))
   have HB9 := zh (below_push HB7.out HB7.out.size HS7.out.t HG8.out hf9 (Nat.le_of_lt hBS))
   refine hK.out _ _ trivial (still_two (.inl rfl) (.inl rfl)) ?_
   clear hK K hl9 hf9 HL8 HR8 HG8 HV8 HS7 HB7 HL7 HN7 HSV HBV HLV 
   refine ts_done ?_
   (try simp only [Act.put])
   go_wp2_with fail
   exact ⟨⟨k + 1, TS ++ [x'], _, by omega, by go_num, by simp [hTSk], by
    rw [List.map_append, HMAP.out, List.take_add_one, HX2.out, List.map_append]
    simp [HPR.out.1, HPR.out.2], HS9.out, HB9.out⟩, by simp [intOf]; omega⟩
  ·obtain rfl : k = m.types.length := by omega
   have hmap := HMAP.out
   rw [List.take_length] at hmap
   have HMP := zh hmap
   clear hmap HMAP
   have hTS : TS.length = m.types.length := HTK.out
   have HTB := zh (show ∀ x ∈ TS, x.p.length ≤ Bd ∧ x.r.length ≤ Bd from fun x hx => by
    have h1 : (x.p, x.r) ∈ m.types.map (fun x => (x.p, x.r)) := by rw [← HMP.out]; exact List.mem_map.2 ⟨x, hx, rfl⟩
    obtain ⟨y, hy, he⟩ := List.mem_map.1 h1
    have := HM.out.1.2.1 y hy
    simp only [Prod.mk.injEq] at he
    exact ⟨by rw [← he.1]; exact this.1.2.2, by rw [← he.2]; exact this.2.2.2⟩)
   have HTL := zh (show ∀ t ∈ allTy m, t < 4294967296 from fun t ht => by
    rcases List.mem_append.1 ht with h | h
    ·obtain ⟨x, hx, rfl⟩ := List.mem_map.1 h
     exact (HM.out.2.1.2.1 x (List.mem_filter.1 hx).1).1
    ·exact HM.out.2.2.1.2.1 t h)
   obtain ⟨sf, cf, hfv, _⟩ := HM.out.2.2.1.1.form
   go_wp2_with fail
   have hd : Below wr.heap.size wr wr.drew := ⟨rfl, rfl, rfl, Nat.le_refl _, fun _ _ => rfl⟩
   have HSV := zh (HS.out.later hd)
   have HBV := zh (bt HBW.out hd)
   refine wp_region_t [(0, 1), (1, 1), (3, 1), (4, 1), (6, 1), (7, 1), (9, 1), (10, 1), (2, 0), (5, 0), (8, 0), (11, 0), (12, 1), (13, 1), (14, 1), (15, 1)] (fun w' => w'.cell? ⟨W.heap.size, 1, none⟩ = some m.iv) [] [] rfl (by kernel_rfl) (by kernel_rfl) (fun _ _ d _ _ h => by cases d <;> exact h) (HSV.out.mod.cell 1) (fun p hp => by cases hp) ?_
   generalize wr.drew = V at HSV HBV ⊢
   clear hd HS HBW
   repeat (first | (refine ts_take (v := ?_) rfl rfl (fun w' hw' => ?_) ?_; rotate_left; (focus (have q0 := hw'; (try simp only [Act.put, sA, sB, sC]); go_simp; (try go_bits); (try (with_reducible rfl)))); (try simp only [Act.put, sA, sB, sC])) | (refine ts_skip rfl rfl ?_; (try simp only [Act.put, sA, sB, sC])))
   refine ts_run rfl (fun K hK => ?_)
   go_simp
   refine (of_k (HM.out.2.1.1.later HBV.out) (Nat.le_trans hlI (by decide)) 0 (Or.inl rfl) (n := 58) rfl HBV.out.size).mono ?_
   rintro en wa ⟨v0, rfl, ho0, hba⟩
   have HO0 := zh ho0
   have HSV := zh (HSV.out.later hba)
   have HBV := zh (bt HBV.out hba)
   refine hK.out _ _ (HSV.out.mod.cell 1) (still_none _ _) ?_
   clear hK K ho0 hba
   (try simp only [Act.put, sA, sB, sC])
   refine ts_run rfl (fun K hK => ?_)
   go_simp
   refine (of_k (HM.out.2.1.1.later HBV.out) (Nat.le_trans hlI (by decide)) 1 (Or.inr (Or.inl rfl)) (n := 59) rfl HBV.out.size).mono ?_
   rintro en wb ⟨v1, rfl, ho1, hba⟩
   have HO1 := zh ho1
   have HO0 := zh (ownsRow_keep HO0.out hba)
   have HSV := zh (HSV.out.later hba)
   have HBV := zh (bt HBV.out hba)
   refine hK.out _ _ (HSV.out.mod.cell 1) (still_none _ _) ?_
   clear hK K ho1 hba
   (try simp only [Act.put, sA, sB, sC])
   refine ts_run rfl (fun K hK => ?_)
   go_simp
   refine (of_k (HM.out.2.1.1.later HBV.out) (Nat.le_trans hlI (by decide)) 2 (Or.inr (Or.inr (Or.inl rfl))) (n := 60) rfl HBV.out.size).mono ?_
   rintro en wc ⟨v2, rfl, ho2, hba⟩
   have HO2 := zh ho2
   have HO0 := zh (ownsRow_keep HO0.out hba)
   have HO1 := zh (ownsRow_keep HO1.out hba)
   have HSV := zh (HSV.out.later hba)
   have HBV := zh (bt HBV.out hba)
   refine hK.out _ _ (HSV.out.mod.cell 1) (still_none _ _) ?_
   clear hK K ho2 hba
   (try simp only [Act.put, sA, sB, sC])
   refine ts_run rfl (fun K hK => ?_)
   go_simp
   refine (of_k (HM.out.2.1.1.later HBV.out) (Nat.le_trans hlI (by decide)) 3 (Or.inr (Or.inr (Or.inr rfl))) (n := 61) rfl HBV.out.size).mono ?_
   rintro en wd ⟨v3, rfl, ho3, hba⟩
   have HO3 := zh ho3
   have HO0 := zh (ownsRow_keep HO0.out hba)
   have HO1 := zh (ownsRow_keep HO1.out hba)
   have HO2 := zh (ownsRow_keep HO2.out hba)
   have HSV := zh (HSV.out.later hba)
   have HBV := zh (bt HBV.out hba)
   refine hK.out _ _ (HSV.out.mod.cell 1) (still_none _ _) ?_
   clear hK K ho3 hba
   (try simp only [Act.put, sA, sB, sC])
   repeat (first | (refine ts_take (v := ?_) rfl rfl (fun w' hw' => ?_) ?_; rotate_left; (focus (have q0 := hw'; (try simp only [Act.put, sA, sB, sC]); go_simp; (try go_bits); (try (with_reducible rfl)))); (try simp only [Act.put, sA, sB, sC])) | (refine ts_skip rfl rfl ?_; (try simp only [Act.put, sA, sB, sC])))
   refine ts_done ?_
   have HFK := zh (show Fk wd W.heap.size m v0 v1 v2 v3 from ⟨HO0.out, HO1.out, HO2.out, HO3.out⟩)
   have HS := zh HSV.out
   have HBW := zh HBV.out
   clear HO0 HO1 HO2 HO3 HSV HBV
   obtain ⟨s0, c0, rfl, _, hs0⟩ := row_form HFK.out.a
   obtain ⟨s1, c1, rfl, _, hs1⟩ := row_form HFK.out.b
   obtain ⟨s2, c2, rfl, _, hs2⟩ := row_form HFK.out.c
   obtain ⟨s3, c3, rfl, _, hs3⟩ := row_form HFK.out.d
   have hl0 := Nat.le_trans (fk_le m 0) hlI
   have hl1 := Nat.le_trans (fk_le m 1) hlI
   have hl2 := Nat.le_trans (fk_le m 2) hlI
   have hl3 := Nat.le_trans (fk_le m 3) hlI
   go_wp2_with (refine wl_fld HS.out.lies _ _ rfl rfl rfl rfl [.int .i64 (fk m 0).length, .int .i64 (fk m 1).length, .int .i64 (fk m 2).length, .int .i64 (fk m 3).length] (spc tv (.slice none 0 0) (.slice none 0 0) (.slice none 0 0) (.slice none 0 0) (fk m 0).length (fk m 1).length (fk m 2).length (fk m 3).length ev) rfl size4 (by simp [Value.oneCell']) (by simp [spc]) rfl (fun w9 hl9 hf9 => ?_); have HS9 := zh (HS.out.set_n hl9 hf9); have HFK9 := zh (HFK.out.frT (FrT.field HS.out.lies hf9) (by decide)); have HBW9 := zh (below_put HBW.out hf9 (Nat.le_of_lt hBS)); clear hl9 hf9; try simp only [Act.put])
   clear HS HFK HBW
   go_loopw [10, 12, 75] (fun lv _ i wr => ∃ k : Nat, k ≤ (fk m 0).length ∧ i = .int .i64 k ∧ wr.ownsRow W.heap.size 28 1 lv k ((((fk m 0).take k).map (·.ty)).flatMap u32c) ∧ Sp wr W.heap.size S0 m TS [] [] [] [] tv (.slice none 0 0) (.slice none 0 0) (.slice none 0 0) (.slice none 0 0) (fk m 0).length (fk m 1).length (fk m 2).length (fk m 3).length ev ∧ Fk wr W.heap.size m (.slice s0 (fk m 0).length c0) (.slice s1 (fk m 1).length c1) (.slice s2 (fk m 2).length c2) (.slice s3 (fk m 3).length c3) ∧ Below W.heap.size W wr)
    (fun _ _ i _ => (fk m 0).length - (intOf i).toNat)
   case atStart => exact ⟨0, by omega, rfl, World.ownsRow_nil _ _ _ _, HS9.out, HFK9.out, HBW9.out⟩
   case round =>
    clear HS9 HFK9 HBW9
    obtain ⟨k, hk, rfl, hrow, hS, hF, hB⟩ := hrel
    have HR := zh hrow
    have HS := zh hS
    have HFK := zh hF
    have HBW := zh hB
    clear hrow hS hF hB
    obtain ⟨sl, cl, rfl, _, hsl⟩ := row_form HR.out
    by_cases hlt : k < (fk m 0).length
    ·obtain ⟨x, hx⟩ : ∃ x, (fk m 0)[k]? = some x := ⟨_, List.getElem?_eq_getElem hlt⟩
     obtain ⟨g, rfl⟩ := hs0 (by omega)
     have hr := row_at imp_len HFK.out.a hx
     have HX2 := zh hx
     clear hx
     go_wp2_with (first | (refine wpList_load_mid rfl 88 _ rfl g (k * 8) rfl x.cs _ hr Tryz.underlying88 rfl sizeImp ?_; simp only [Act.put, sA, sB, sC]) | (refine wpList_load_mid rfl 88 _ rfl g (0 + k * 8) rfl x.cs _ (by rw [Nat.zero_add]; exact hr) Tryz.underlying88 rfl sizeImp ?_; simp only [Act.put, sA, sB, sC]) | (refine wl_put (Lies.new _ _ _) x.cs _ _ rfl rfl rfl rfl rfl sizeImp (oneImp x) (fun w5 hL5 hF5 => ?_); have hc3 : w5.cell? ⟨wr.heap.size, 3, none⟩ = some (.int .u32 x.ty) := hL5.cell 3; have HB5 := zh (below_put ((Below.refl wr.heap.size wr).alloc (Nat.le_refl _) _) hF5 (Nat.le_refl _)); clear hL5 hF5; try simp only [Act.put]) | (refine wl_bs1 _ _ (bs_u32 x.ty) _ rfl rfl rfl (fun w7 hb7 hl7 => ?_); have HN7 := zh hl7; have HB7 := zh (bt HB5.out hb7); clear hb7 hl7; simp only [Act.put, sA, sB, sC]) | (refine wl_app _ _ rfl rfl Tryz.underlying24 info_u32 (by decide) rfl (ownsRow_keep HR.out HB7.out) (en := u32c) (fun _ => rfl) rfl (sl_one (en := u32c) HN7.out) (by simp [u32c, Value.oneCell']) (by simp only [List.length_singleton]; unfold maxLen; omega) (by simp only [List.length_singleton]; omega) (bt HBW.out HB7.out).size (fun v' w8 hr8 hg8 hv8 => ?_); have HR8 := zh hr8; have HG8 := zh hg8; clear hr8 hg8 hv8; try simp only [Act.put]))
     exact ⟨⟨k + 1, by omega, by go_num, by rw [List.take_add_one, HX2.out, List.map_append, List.flatMap_append]; exact HR8.out, (HS.out.later HB7.out).other (FrT.grown (ownsRow_keep HR.out HB7.out) HG8.out) rfl, (HFK.out.later HB7.out).frT (FrT.grown (ownsRow_keep HR.out HB7.out) HG8.out) (by decide), (bt HBW.out HB7.out).grown HG8.out (bt HBW.out HB7.out).size (fun k hk => (row_block (ownsRow_keep HR.out HB7.out) hk).1)⟩, by simp [intOf]; omega⟩
    ·obtain rfl : k = (fk m 0).length := by omega
     rw [List.take_length] at HR
     have hc2 : wr.cell? ⟨W.heap.size, 2, none⟩ = some (.slice sf m.funcs.length cf) := by rw [← hfv]; exact HS.out.mod.cell 2
     have HFV := zh (show Sl wr 1 u32c (.slice sf m.funcs.length cf) m.funcs from by rw [← hfv]; exact HM.out.2.2.1.1.later HBW.out)
     go_wp2_with (refine wl_app _ _ rfl rfl Tryz.underlying24 info_u32 (by decide) rfl HR.out (en := u32c) (fun _ => rfl) rfl HFV.out (by simp [u32c, Value.oneCell']) (by unfold maxLen; omega) (by omega) HBW.out.size (fun v' w8 hr8 hg8 hv8 => ?_); have HR8 := zh hr8; have HG8 := zh hg8; obtain ⟨sa, ca, rfl, _, hsa⟩ := row_form hr8; clear hr8 hg8 hv8; try simp only [Act.put])
     clear hc2
     have HA := zh (show w8.ownsRow W.heap.size 28 1 (.slice sa ((fk m 0).length + m.funcs.length) ca) ((fk m 0).length + m.funcs.length) ((allTy m).flatMap u32c) from by rw [allTy, List.flatMap_append]; exact HR8.out)
     have HS8 := zh (HS.out.other (FrT.grown HR.out HG8.out) rfl)
     have HFK8 := zh (HFK.out.frT (FrT.grown HR.out HG8.out) (by decide))
     have HBW8 := zh (HBW.out.grown HG8.out HBW.out.size (fun k hk => (row_block HR.out hk).1))
     have hal : (allTy m).length = (fk m 0).length + m.funcs.length := by simp [allTy]
     clear HS HFK HBW HR HR8 HG8 HFV
     generalize hN : (fk m 0).length + m.funcs.length = N at HA hal hsa ⊢
     have hNl : N ≤ 2097152 := by omega
     go_loopw [14, 15, 16, 90] (fun _ _ _ i wr => ∃ (k : Nat) (FS : List Ty) (fv : Value), k ≤ N ∧ i = .int .i64 k ∧ FS = ((allTy m).take k).map (tyOf TS) ∧ wr.ownsRow W.heap.size 28 1 (.slice sa N ca) N ((allTy m).flatMap u32c) ∧ Sp wr W.heap.size S0 m TS FS [] [] [] tv fv (.slice none 0 0) (.slice none 0 0) (.slice none 0 0) (fk m 0).length (fk m 1).length (fk m 2).length (fk m 3).length ev ∧ Fk wr W.heap.size m (.slice s0 (fk m 0).length c0) (.slice s1 (fk m 1).length c1) (.slice s2 (fk m 2).length c2) (.slice s3 (fk m 3).length c3) ∧ Below W.heap.size W wr)
      (fun _ _ _ i _ => N - (intOf i).toNat)
     case atStart => exact ⟨0, [], _, by omega, rfl, by simp, HA.out, HS8.out, HFK8.out, HBW8.out⟩
     case round =>
      clear HS8 HFK8 HBW8 HA
      obtain ⟨k, FS, fv, hk, rfl, hFS, hA, hS, hF, hB⟩ := hrel
      have hFl : FS.length = k := by rw [hFS, List.length_map, List.length_take]; omega
      have HFS := zh hFS
      have HA := zh hA
      have HS := zh hS
      have HFK := zh hF
      have HBW := zh hB
      clear hFS hA hS hF hB
      by_cases hlt : k < N
      ·obtain ⟨t, ht⟩ : ∃ t, (allTy m)[k]? = some t := ⟨_, List.getElem?_eq_getElem (by omega)⟩
       obtain ⟨g, rfl⟩ := hsa (by omega)
       have hc : wr.cell? ⟨g, k, none⟩ = some (.int .u32 t) := by
        have := row_at (en := u32c) (sz := 1) (fun _ => rfl) HA.out ht 0 _ rfl
        simpa using this
       have HX2 := zh ht
       have htl := HTL.out t (List.mem_of_getElem? ht)
       clear ht
       have hcS : wr.cell? ⟨S0, 0, none⟩ = some tv := HS.out.lies.cell 0
       go_wp2_with fail
       refine (at_ft (own_sl Ft.len HS.out.t) (fun x hx => (HS.out.own x hx).ok (HTB.out x hx).1 (HTB.out x hx).2) (by omega) htl).mono ?_
       rintro en w6 ⟨rfl, hb6⟩
       obtain ⟨y, hy⟩ : ∃ y, y = tyOf TS t := ⟨_, rfl⟩
       have hyo : FtOwn wr y.ft := by
        rw [hy, tyOf]
        cases hq : TS[t]? with
        | none => exact FtOwn.nil _
        | some q => exact HS.out.own q (List.mem_of_getElem? hq)
       have HYO := zh (hyo.later hb6)
       have HY := zh hy
       have e1 : ftC TS[t]? = y.ft.cs := by rw [ftC_eq, hy]; rfl
       have e2 : (TS[t]?).isSome = y.ok := by rw [hy]; rfl
       rw [e1, e2]
       have HA6 := zh (ownsRow_keep HA.out hb6)
       have HS6 := zh (HS.out.later hb6)
       have HFK6 := zh (HFK.out.later hb6)
       have HBW6 := zh (bt HBW.out hb6)
       have HO := zh (show y.ft.cs.toArray.all (·.oneCell') = true from by
        have := oneFtl hyo
        rw [Array.all_eq_true_iff_forall_mem]
        intro u hu
        exact this u (by simpa using hu))
       clear hc hcS hy hyo e1 e2 hb6 HA HS HFK HBW
       go_wp2_with (refine wl_put (Lies.new _ _ _) y.ft.cs _ _ rfl rfl rfl rfl rfl sizeFt HO.out (fun w5 hL5 hF5 => ?_); have HL5 := zh hL5; have HB5 := zh (below_put ((Below.refl w6.heap.size w6).alloc (Nat.le_refl _) _) hF5 (Nat.le_refl _)); clear hL5 hF5; try simp only [Act.put])
       have HS5 := zh (HS6.out.later HB5.out)
       have HYO5 := zh (HYO.out.later HB5.out)
       have HA5 := zh (ownsRow_keep HA6.out HB5.out)
       have HFK5 := zh (HFK6.out.later HB5.out)
       have HB5 := zh (bt HBW6.out HB5.out)
       clear HS6 HA6 HFK6 HBW6 HO HYO
       generalize w6.heap.size = n5 at HL5 ⊢
       have hd : Below w5.heap.size w5 w5.drew := ⟨rfl, rfl, rfl, Nat.le_refl _, fun _ _ => rfl⟩
       have HSV := zh (HS5.out.later hd)
       have HBV := zh (bt HB5.out hd)
       have HLV := zh (HL5.out.below hd HL5.out.lt)
       refine wp_region_t [(0, 1), (1, 1), (2, 1), (3, 1), (4, 2), (5, 2), (6, 1), (7, 1), (8, 0), (9, 0), (10, 1), (11, 1), (12, 0)] (fun _ => True) [(9, fun w' => Lies w' n5 51 y.ft.cs.toArray), (12, fun w' => w'.cell? ⟨S0, 1, none⟩ = some fv)] [9, 12] rfl (by kernel_rfl) (by kernel_rfl) (fun _ _ d _ _ h => by cases d <;> exact h) trivial (fun p hp => by
        rcases List.mem_cons.1 hp with rfl | hp
        ·exact HLV.out
        ·obtain rfl := List.mem_singleton.1 hp
         exact HSV.out.lies.cell 1) ?_
       have HFKV := zh (HFK5.out.later hd)
       have HAV := zh (ownsRow_keep HA5.out hd)
       have HYOV := zh (HYO5.out.later hd)
       clear HFK5
       clear HA5
       clear HYO5
       generalize w5.drew = V at HSV HBV HLV HFKV HAV HYOV ⊢
       clear hd HS5 HB5 HL5
       repeat (first | (refine ts_take2 (v := .agg y.ft.cs.toArray) rfl rfl (fun w' _ hst => exec_load (lies_range (Still.fst hst rfl)) _ rfl rfl Tryz.underlying51 rfl sizeFt) ?_; (try simp only [Act.put, sA, sB, sC])) | (refine ts_take (v := .agg y.cs.toArray) rfl rfl (fun w' _ => exec_buildTy y _ _ rfl rfl rfl) ?_; (try simp only [Act.put, sA, sB, sC])) | (refine ts_take (v := ?_) rfl rfl (fun w' hw' => ?_) ?_; rotate_left; (focus (clear hw'; (try simp only [Act.put, sA, sB, sC]); go_simp; (try go_bits); (try (with_reducible rfl)))); (try simp only [Act.put, sA, sB, sC])) | (refine ts_take2 (v := ?_) rfl rfl (fun w' hw' hst => ?_) ?_; rotate_left; (focus (have q0 := (Still.fst (Still.tail hst) rfl); have q1 := (Still.fst hst rfl); clear hst hw'; (try simp only [Act.put, sA, sB, sC]); go_simp; (try go_bits); (try (with_reducible rfl)))); (try simp only [Act.put, sA, sB, sC])) | (refine ts_skip rfl rfl ?_; (try simp only [Act.put, sA, sB, sC])))
       refine ts_run1 rfl rfl (fun K hK => ?_)
       refine wp_bs1 _ _ (bs_ty y) _ rfl rfl (fun w7 hb7 hl7 => ?_)
       have HN7 := zh hl7
       have HS7 := zh (HSV.out.later hb7)
       have HB7 := zh (bt HBV.out hb7)
       have HL7 := zh (HLV.out.below hb7 HLV.out.lt)
       refine hK.out _ _ trivial (still_two (.inr HL7.out) (.inr (HS7.out.lies.cell 1))) ?_
       have HFK7 := zh (HFKV.out.later hb7)
       have HA7 := zh (ownsRow_keep HAV.out hb7)
       have HYO7 := zh (HYOV.out.later hb7)
       clear HFKV
       clear HAV
       clear HYOV
       clear hK K hb7 hl7
       (try simp only [Act.put, sA, sB, sC])
       refine ts_run1 rfl rfl (fun K hK => ?_)
       refine wp_app _ _ rfl Tryz.underlying118 info_ty (by decide) rfl HS7.out.f Ty.len rfl (sl_one HN7.out) (fun y hy u hu => by
        obtain rfl := List.mem_singleton.1 hy
        exact oneTyl HYO7.out u hu) (by simp only [List.length_singleton]; unfold maxLen; omega) (by simp only [List.length_singleton]; omega) HB7.out.size (fun v' w8 hr8 hg8 hv8 => ?_)
       have HR8 := zh hr8
       have HG8 := zh hg8
       have HV8 := zh hv8
       obtain ⟨s8, c8, rfl, _⟩ := row_form hr8
       have HL8 := zh (lies_frT HS7.out.lies (FrT.grown HS7.out.f hg8) (by decide))
       refine hK.out _ _ trivial (still_two (.inl rfl) (.inr (HL8.out.cell 1))) ?_
       clear hK K hr8 hg8 hv8
       (try simp only [Act.put, sA, sB, sC])
       repeat (first | (refine ts_take (v := ?_) rfl rfl (fun w' hw' => ?_) ?_; rotate_left; (focus (clear hw'; (try simp only [Act.put, sA, sB, sC]); go_simp; (try go_bits); (try (with_reducible rfl)))); (try simp only [Act.put, sA, sB, sC])) | (refine ts_take2 (v := ?_) rfl rfl (fun w' hw' hst => ?_) ?_; rotate_left; (focus (have q0 := (Still.fst (Still.tail hst) rfl); clear hst hw'; (try simp only [Act.put, sA, sB, sC]); go_simp; (try go_bits); (try (with_reducible rfl)))); (try simp only [Act.put, sA, sB, sC])) | (refine ts_skip rfl rfl ?_; (try simp only [Act.put, sA, sB, sC])))
       refine ts_run1 rfl rfl (fun K hK => ?_)
       refine wp_fld HL8.out _ _ rfl rfl rfl [_] (spc tv (.slice s8 _ c8) (.slice none 0 0) (.slice none 0 0) (.slice none 0 0) (fk m 0).length (fk m 1).length (fk m 2).length (fk m 3).length ev) (slice_cells _ _ _) sizeSl_ty (one_slice _ _ _) (by simp [spc]) rfl (fun w9 hl9 hf9 => ?_)
       have HS9 := zh (HS7.out.put_f HR8.out HG8.out HV8.out hl9 hf9 (fun z hz => by obtain rfl := List.mem_singleton.1 hz; exact (HYO7.out.frT (FrT.grown HS7.out.f HG8.out) (by decide))))
       have HB9 := zh (below_push HB7.out HB7.out.size HS7.out.f HG8.out hf9 (Nat.le_of_lt hBS))
       have HFK9 := zh (HFK7.out.frT ((FrT.grown HS7.out.f HG8.out).trans (FrT.field HL8.out hf9)) (by decide))
       have HA9 := zh (row_frT HA7.out ((FrT.grown HS7.out.f HG8.out).trans (FrT.field HL8.out hf9)) (by decide))
       clear HFK7
       clear HA7
       clear HYO7
       refine hK.out _ _ trivial (still_two (.inl rfl) (.inl rfl)) ?_
       clear hK K hl9 hf9 HL8 HR8 HG8 HV8 HS7 HB7 HL7 HN7 HSV HBV HLV 
       refine ts_done ?_
       (try simp only [Act.put])
       go_wp2_with fail
       exact ⟨⟨k + 1, FS ++ [y], _, by omega, by go_num, by rw [List.take_add_one, HX2.out, List.map_append, HFS.out, HY.out]; rfl, HA9.out, HS9.out, HFK9.out, HB9.out⟩, by simp [intOf]; omega⟩
      ·obtain rfl : k = N := by omega
       go_wp2_with fail
       rw [← hal, List.take_length] at HFS
       clear HA
       go_loopw [18, 118] (fun _ i wr => ∃ (k : Nat) (BS : List Lim) (bv : Value), k ≤ (fk m 1).length ∧ i = .int .i64 k ∧ BS.length = k ∧ BS = ((fk m 1).take k).map (·.lim) ∧ Sp wr W.heap.size S0 m TS FS [] BS [] tv fv (.slice none 0 0) bv (.slice none 0 0) (fk m 0).length (fk m 1).length (fk m 2).length (fk m 3).length ev ∧ Fk wr W.heap.size m (.slice s0 (fk m 0).length c0) (.slice s1 (fk m 1).length c1) (.slice s2 (fk m 2).length c2) (.slice s3 (fk m 3).length c3) ∧ Below W.heap.size W wr)
        (fun _ i _ => (fk m 1).length - (intOf i).toNat)
       case atStart => exact ⟨0, _, _, by omega, rfl, rfl, rfl, HS.out, HFK.out, HBW.out⟩
       case round =>
        clear HS HFK HBW
        obtain ⟨k, BS, bv, hk, rfl, hLk, hEq, hS, hF, hB⟩ := hrel
        have HBE := zh hEq
        clear hEq
        have HS := zh hS
        have HFK := zh hF
        have HBW := zh hB
        clear hS hF hB
        by_cases hlt : k < (fk m 1).length
        ·obtain ⟨x, hx⟩ : ∃ x, (fk m 1)[k]? = some x := ⟨_, List.getElem?_eq_getElem hlt⟩
         obtain ⟨g, rfl⟩ := hs1 (by omega)
         have hr := row_at imp_len HFK.out.b hx
         have HX2 := zh hx
         clear hx
         go_wp2_with (first | (refine wpList_load_mid rfl 88 _ rfl g (k * 8) rfl x.cs _ hr Tryz.underlying88 rfl sizeImp ?_; simp only [Act.put, sA, sB, sC]) | (refine wpList_load_mid rfl 88 _ rfl g (0 + k * 8) rfl x.cs _ (by rw [Nat.zero_add]; exact hr) Tryz.underlying88 rfl sizeImp ?_; simp only [Act.put, sA, sB, sC]) | (refine wl_put (Lies.new _ _ _) x.cs _ _ rfl rfl rfl rfl rfl sizeImp (oneImp x) (fun w5 hL5 hF5 => ?_); have HL5 := zh hL5; have HB5 := zh (below_put ((Below.refl wr.heap.size wr).alloc (Nat.le_refl _) _) hF5 (Nat.le_refl _)); clear hL5 hF5; try simp only [Act.put]))
         have HS5 := zh (HS.out.later HB5.out)
         have HFK5 := zh (HFK.out.later HB5.out)
         have HB5 := zh (bt HBW.out HB5.out)
         clear HS HFK HBW hr
         generalize wr.heap.size = n5 at HL5 ⊢
         have hd : Below w5.heap.size w5 w5.drew := ⟨rfl, rfl, rfl, Nat.le_refl _, fun _ _ => rfl⟩
         have HSV := zh (HS5.out.later hd)
         have HBV := zh (bt HB5.out hd)
         have HLV := zh (HL5.out.below hd HL5.out.lt)
         refine wp_region_t [(0, 1), (1, 1), (2, 1), (3, 1), (4, 2), (5, 1), (6, 2), (7, 0), (8, 0), (9, 1), (10, 1), (11, 0)] (fun _ => True) [(8, fun w' => Lies w' n5 88 x.cs.toArray), (11, fun w' => w'.cell? ⟨S0, 3, none⟩ = some bv)] [8, 11] rfl (by kernel_rfl) (by kernel_rfl) (fun _ _ d _ _ h => by cases d <;> exact h) trivial (fun p hp => by
          rcases List.mem_cons.1 hp with rfl | hp
          ·exact HLV.out
          ·obtain rfl := List.mem_singleton.1 hp
           exact HSV.out.lies.cell 3) ?_
         have HFKV := zh (HFK5.out.later hd)
         clear HFK5
         generalize w5.drew = V at HSV HBV HLV HFKV ⊢
         clear hd HS5 HB5 HL5
         repeat (first | (refine ts_take2 (v := .agg x.lim.cs.toArray) rfl rfl (fun w' _ hst => exec_load (lies_sub (o := 4) (Still.fst hst rfl) x.lim.cs rfl) _ rfl rfl Tryz.underlying84 rfl sizeLim) ?_; (try simp only [Act.put, sA, sB, sC])) | (refine ts_take (v := ?_) rfl rfl (fun w' hw' => ?_) ?_; rotate_left; (focus (clear hw'; (try simp only [Act.put, sA, sB, sC]); go_simp; (try go_bits); (try (with_reducible rfl)))); (try simp only [Act.put, sA, sB, sC])) | (refine ts_take2 (v := ?_) rfl rfl (fun w' hw' hst => ?_) ?_; rotate_left; (focus (have q0 := (Still.fst (Still.tail hst) rfl); have q1 := (Still.fst hst rfl); clear hst hw'; (try simp only [Act.put, sA, sB, sC]); go_simp; (try go_bits); (try (with_reducible rfl)))); (try simp only [Act.put, sA, sB, sC])) | (refine ts_skip rfl rfl ?_; (try simp only [Act.put, sA, sB, sC])))
         refine ts_run1 rfl rfl (fun K hK => ?_)
         refine wp_bs1 _ _ (bs_lim x.lim) _ rfl rfl (fun w7 hb7 hl7 => ?_)
         have HN7 := zh hl7
         have HS7 := zh (HSV.out.later hb7)
         have HB7 := zh (bt HBV.out hb7)
         have HL7 := zh (HLV.out.below hb7 HLV.out.lt)
         refine hK.out _ _ trivial (still_two (.inr HL7.out) (.inr (HS7.out.lies.cell 3))) ?_
         have HFK7 := zh (HFKV.out.later hb7)
         clear HFKV
         clear hK K hb7 hl7
         (try simp only [Act.put, sA, sB, sC])
         refine ts_run1 rfl rfl (fun K hK => ?_)
         refine wp_app _ _ rfl Tryz.underlying25 info_lim (by decide) rfl HS7.out.b Lim.len rfl (sl_one HN7.out) (fun y hy u hu => by
          obtain rfl := List.mem_singleton.1 hy
          exact oneLim _ u hu) (by simp only [List.length_singleton]; unfold maxLen; omega) (by simp only [List.length_singleton]; omega) HB7.out.size (fun v' w8 hr8 hg8 hv8 => ?_)
         have HR8 := zh hr8
         have HG8 := zh hg8
         have HV8 := zh hv8
         obtain ⟨s8, c8, rfl, _⟩ := row_form hr8
         have HL8 := zh (lies_frT HS7.out.lies (FrT.grown HS7.out.b hg8) (by decide))
         refine hK.out _ _ trivial (still_two (.inl rfl) (.inr (HL8.out.cell 3))) ?_
         clear hK K hr8 hg8 hv8
         (try simp only [Act.put, sA, sB, sC])
         repeat (first | (refine ts_take (v := ?_) rfl rfl (fun w' hw' => ?_) ?_; rotate_left; (focus (clear hw'; (try simp only [Act.put, sA, sB, sC]); go_simp; (try go_bits); (try (with_reducible rfl)))); (try simp only [Act.put, sA, sB, sC])) | (refine ts_take2 (v := ?_) rfl rfl (fun w' hw' hst => ?_) ?_; rotate_left; (focus (have q0 := (Still.fst (Still.tail hst) rfl); clear hst hw'; (try simp only [Act.put, sA, sB, sC]); go_simp; (try go_bits); (try (with_reducible rfl)))); (try simp only [Act.put, sA, sB, sC])) | (refine ts_skip rfl rfl ?_; (try simp only [Act.put, sA, sB, sC])))
         refine ts_run1 rfl rfl (fun K hK => ?_)
         refine wp_fld HL8.out _ _ rfl rfl rfl [_] (spc tv fv (.slice none 0 0) (.slice s8 _ c8) (.slice none 0 0) (fk m 0).length (fk m 1).length (fk m 2).length (fk m 3).length ev) (slice_cells _ _ _) sizeSl_lim (one_slice _ _ _) (by simp [spc]) rfl (fun w9 hl9 hf9 => ?_)
         have HS9 := zh (HS7.out.put_b HR8.out HG8.out HV8.out hl9 hf9)
         have HB9 := zh (below_push HB7.out HB7.out.size HS7.out.b HG8.out hf9 (Nat.le_of_lt hBS))
         have HFK9 := zh (HFK7.out.frT ((FrT.grown HS7.out.b HG8.out).trans (FrT.field HL8.out hf9)) (by decide))
         clear HFK7
         refine hK.out _ _ trivial (still_two (.inl rfl) (.inl rfl)) ?_
         clear hK K hl9 hf9 HL8 HR8 HG8 HV8 HS7 HB7 HL7 HN7 HSV HBV HLV 
         refine ts_done ?_
         (try simp only [Act.put])
         go_wp2_with fail
         exact ⟨⟨k + 1, BS ++ [x.lim], _, by omega, by go_num, by rw [List.length_append, hLk]; rfl, by rw [List.take_add_one, HX2.out, List.map_append, HBE.out]; rfl, HS9.out, HFK9.out, HB9.out⟩, by simp [intOf]; omega⟩
        ·obtain rfl : k = (fk m 1).length := by omega
         go_wp2_with fail
         rw [List.take_length] at HBE
         have hLb := hLk
         clear hLk hk hlt
         go_loopw [20, 136] (fun _ i wr => ∃ (k : Nat) (MS : List Lim) (mv : Value), k ≤ (fk m 2).length ∧ i = .int .i64 k ∧ MS.length = k ∧ MS = ((fk m 2).take k).map (·.lim) ∧ Sp wr W.heap.size S0 m TS FS [] BS MS tv fv (.slice none 0 0) bv mv (fk m 0).length (fk m 1).length (fk m 2).length (fk m 3).length ev ∧ Fk wr W.heap.size m (.slice s0 (fk m 0).length c0) (.slice s1 (fk m 1).length c1) (.slice s2 (fk m 2).length c2) (.slice s3 (fk m 3).length c3) ∧ Below W.heap.size W wr)
          (fun _ i _ => (fk m 2).length - (intOf i).toNat)
         case atStart => exact ⟨0, _, _, by omega, rfl, rfl, rfl, HS.out, HFK.out, HBW.out⟩
         case round =>
          clear HS HFK HBW
          obtain ⟨k, MS, mv, hk, rfl, hLk, hEq, hS, hF, hB⟩ := hrel
          have HME := zh hEq
          clear hEq
          have HS := zh hS
          have HFK := zh hF
          have HBW := zh hB
          clear hS hF hB
          by_cases hlt : k < (fk m 2).length
          ·obtain ⟨x, hx⟩ : ∃ x, (fk m 2)[k]? = some x := ⟨_, List.getElem?_eq_getElem hlt⟩
           obtain ⟨g, rfl⟩ := hs2 (by omega)
           have hr := row_at imp_len HFK.out.c hx
           have HX2 := zh hx
           clear hx
           go_wp2_with (first | (refine wpList_load_mid rfl 88 _ rfl g (k * 8) rfl x.cs _ hr Tryz.underlying88 rfl sizeImp ?_; simp only [Act.put, sA, sB, sC]) | (refine wpList_load_mid rfl 88 _ rfl g (0 + k * 8) rfl x.cs _ (by rw [Nat.zero_add]; exact hr) Tryz.underlying88 rfl sizeImp ?_; simp only [Act.put, sA, sB, sC]) | (refine wl_put (Lies.new _ _ _) x.cs _ _ rfl rfl rfl rfl rfl sizeImp (oneImp x) (fun w5 hL5 hF5 => ?_); have HL5 := zh hL5; have HB5 := zh (below_put ((Below.refl wr.heap.size wr).alloc (Nat.le_refl _) _) hF5 (Nat.le_refl _)); clear hL5 hF5; try simp only [Act.put]))
           have HS5 := zh (HS.out.later HB5.out)
           have HFK5 := zh (HFK.out.later HB5.out)
           have HB5 := zh (bt HBW.out HB5.out)
           clear HS HFK HBW hr
           generalize wr.heap.size = n5 at HL5 ⊢
           have hd : Below w5.heap.size w5 w5.drew := ⟨rfl, rfl, rfl, Nat.le_refl _, fun _ _ => rfl⟩
           have HSV := zh (HS5.out.later hd)
           have HBV := zh (bt HB5.out hd)
           have HLV := zh (HL5.out.below hd HL5.out.lt)
           refine wp_region_t [(0, 1), (1, 1), (2, 1), (3, 1), (4, 2), (5, 1), (6, 2), (7, 0), (8, 0), (9, 1), (10, 1), (11, 0)] (fun _ => True) [(8, fun w' => Lies w' n5 88 x.cs.toArray), (11, fun w' => w'.cell? ⟨S0, 4, none⟩ = some mv)] [8, 11] rfl (by kernel_rfl) (by kernel_rfl) (fun _ _ d _ _ h => by cases d <;> exact h) trivial (fun p hp => by
            rcases List.mem_cons.1 hp with rfl | hp
            ·exact HLV.out
            ·obtain rfl := List.mem_singleton.1 hp
             exact HSV.out.lies.cell 4) ?_
           have HFKV := zh (HFK5.out.later hd)
           clear HFK5
           generalize w5.drew = V at HSV HBV HLV HFKV ⊢
           clear hd HS5 HB5 HL5
           repeat (first | (refine ts_take2 (v := .agg x.lim.cs.toArray) rfl rfl (fun w' _ hst => exec_load (lies_sub (o := 4) (Still.fst hst rfl) x.lim.cs rfl) _ rfl rfl Tryz.underlying84 rfl sizeLim) ?_; (try simp only [Act.put, sA, sB, sC])) | (refine ts_take (v := ?_) rfl rfl (fun w' hw' => ?_) ?_; rotate_left; (focus (clear hw'; (try simp only [Act.put, sA, sB, sC]); go_simp; (try go_bits); (try (with_reducible rfl)))); (try simp only [Act.put, sA, sB, sC])) | (refine ts_take2 (v := ?_) rfl rfl (fun w' hw' hst => ?_) ?_; rotate_left; (focus (have q0 := (Still.fst (Still.tail hst) rfl); have q1 := (Still.fst hst rfl); clear hst hw'; (try simp only [Act.put, sA, sB, sC]); go_simp; (try go_bits); (try (with_reducible rfl)))); (try simp only [Act.put, sA, sB, sC])) | (refine ts_skip rfl rfl ?_; (try simp only [Act.put, sA, sB, sC])))
           refine ts_run1 rfl rfl (fun K hK => ?_)
           refine wp_bs1 _ _ (bs_lim x.lim) _ rfl rfl (fun w7 hb7 hl7 => ?_)
           have HN7 := zh hl7
           have HS7 := zh (HSV.out.later hb7)
           have HB7 := zh (bt HBV.out hb7)
           have HL7 := zh (HLV.out.below hb7 HLV.out.lt)
           refine hK.out _ _ trivial (still_two (.inr HL7.out) (.inr (HS7.out.lies.cell 4))) ?_
           have HFK7 := zh (HFKV.out.later hb7)
           clear HFKV
           clear hK K hb7 hl7
           (try simp only [Act.put, sA, sB, sC])
           refine ts_run1 rfl rfl (fun K hK => ?_)
           refine wp_app _ _ rfl Tryz.underlying25 info_lim (by decide) rfl HS7.out.m Lim.len rfl (sl_one HN7.out) (fun y hy u hu => by
            obtain rfl := List.mem_singleton.1 hy
            exact oneLim _ u hu) (by simp only [List.length_singleton]; unfold maxLen; omega) (by simp only [List.length_singleton]; omega) HB7.out.size (fun v' w8 hr8 hg8 hv8 => ?_)
           have HR8 := zh hr8
           have HG8 := zh hg8
           have HV8 := zh hv8
           obtain ⟨s8, c8, rfl, _⟩ := row_form hr8
           have HL8 := zh (lies_frT HS7.out.lies (FrT.grown HS7.out.m hg8) (by decide))
           refine hK.out _ _ trivial (still_two (.inl rfl) (.inr (HL8.out.cell 4))) ?_
           clear hK K hr8 hg8 hv8
           (try simp only [Act.put, sA, sB, sC])
           repeat (first | (refine ts_take (v := ?_) rfl rfl (fun w' hw' => ?_) ?_; rotate_left; (focus (clear hw'; (try simp only [Act.put, sA, sB, sC]); go_simp; (try go_bits); (try (with_reducible rfl)))); (try simp only [Act.put, sA, sB, sC])) | (refine ts_take2 (v := ?_) rfl rfl (fun w' hw' hst => ?_) ?_; rotate_left; (focus (have q0 := (Still.fst (Still.tail hst) rfl); clear hst hw'; (try simp only [Act.put, sA, sB, sC]); go_simp; (try go_bits); (try (with_reducible rfl)))); (try simp only [Act.put, sA, sB, sC])) | (refine ts_skip rfl rfl ?_; (try simp only [Act.put, sA, sB, sC])))
           refine ts_run1 rfl rfl (fun K hK => ?_)
           refine wp_fld HL8.out _ _ rfl rfl rfl [_] (spc tv fv (.slice none 0 0) bv (.slice s8 _ c8) (fk m 0).length (fk m 1).length (fk m 2).length (fk m 3).length ev) (slice_cells _ _ _) sizeSl_lim (one_slice _ _ _) (by simp [spc]) rfl (fun w9 hl9 hf9 => ?_)
           have HS9 := zh (HS7.out.put_m HR8.out HG8.out HV8.out hl9 hf9)
           have HB9 := zh (below_push HB7.out HB7.out.size HS7.out.m HG8.out hf9 (Nat.le_of_lt hBS))
           have HFK9 := zh (HFK7.out.frT ((FrT.grown HS7.out.m HG8.out).trans (FrT.field HL8.out hf9)) (by decide))
           clear HFK7
           refine hK.out _ _ trivial (still_two (.inl rfl) (.inl rfl)) ?_
           clear hK K hl9 hf9 HL8 HR8 HG8 HV8 HS7 HB7 HL7 HN7 HSV HBV HLV 
           refine ts_done ?_
           (try simp only [Act.put])
           go_wp2_with fail
           exact ⟨⟨k + 1, MS ++ [x.lim], _, by omega, by go_num, by rw [List.length_append, hLk]; rfl, by rw [List.take_add_one, HX2.out, List.map_append, HME.out]; rfl, HS9.out, HFK9.out, HB9.out⟩, by simp [intOf]; omega⟩
          ·obtain rfl : k = (fk m 2).length := by omega
           go_wp2_with fail
           rw [List.take_length] at HME
           have hLm := hLk
           clear hLk hk hlt
           go_loopw [22, 154] (fun _ i wr => ∃ (k : Nat) (GS : List Gt) (gv : Value), k ≤ (fk m 3).length ∧ i = .int .i64 k ∧ GS.length = k ∧ GS = ((fk m 3).take k).map (·.gt) ∧ Sp wr W.heap.size S0 m TS FS GS BS MS tv fv gv bv mv (fk m 0).length (fk m 1).length (fk m 2).length (fk m 3).length ev ∧ Fk wr W.heap.size m (.slice s0 (fk m 0).length c0) (.slice s1 (fk m 1).length c1) (.slice s2 (fk m 2).length c2) (.slice s3 (fk m 3).length c3) ∧ Below W.heap.size W wr)
            (fun _ i _ => (fk m 3).length - (intOf i).toNat)
           case atStart => exact ⟨0, _, _, by omega, rfl, rfl, rfl, HS.out, HFK.out, HBW.out⟩
           case round =>
            clear HS HFK HBW
            obtain ⟨k, GS, gv, hk, rfl, hLk, hEq, hS, hF, hB⟩ := hrel
            have HGE := zh hEq
            clear hEq
            have HS := zh hS
            have HFK := zh hF
            have HBW := zh hB
            clear hS hF hB
            by_cases hlt : k < (fk m 3).length
            ·obtain ⟨x, hx⟩ : ∃ x, (fk m 3)[k]? = some x := ⟨_, List.getElem?_eq_getElem hlt⟩
             obtain ⟨g, rfl⟩ := hs3 (by omega)
             have hr := row_at imp_len HFK.out.d hx
             have HX2 := zh hx
             clear hx
             go_wp2_with (first | (refine wpList_load_mid rfl 88 _ rfl g (k * 8) rfl x.cs _ hr Tryz.underlying88 rfl sizeImp ?_; simp only [Act.put, sA, sB, sC]) | (refine wpList_load_mid rfl 88 _ rfl g (0 + k * 8) rfl x.cs _ (by rw [Nat.zero_add]; exact hr) Tryz.underlying88 rfl sizeImp ?_; simp only [Act.put, sA, sB, sC]) | (refine wl_put (Lies.new _ _ _) x.cs _ _ rfl rfl rfl rfl rfl sizeImp (oneImp x) (fun w5 hL5 hF5 => ?_); have HL5 := zh hL5; have HB5 := zh (below_put ((Below.refl wr.heap.size wr).alloc (Nat.le_refl _) _) hF5 (Nat.le_refl _)); clear hL5 hF5; try simp only [Act.put]))
             have HS5 := zh (HS.out.later HB5.out)
             have HFK5 := zh (HFK.out.later HB5.out)
             have HB5 := zh (bt HBW.out HB5.out)
             clear HS HFK HBW hr
             generalize wr.heap.size = n5 at HL5 ⊢
             have hd : Below w5.heap.size w5 w5.drew := ⟨rfl, rfl, rfl, Nat.le_refl _, fun _ _ => rfl⟩
             have HSV := zh (HS5.out.later hd)
             have HBV := zh (bt HB5.out hd)
             have HLV := zh (HL5.out.below hd HL5.out.lt)
             refine wp_region_t [(0, 1), (1, 1), (2, 1), (3, 1), (4, 2), (5, 1), (6, 2), (7, 0), (8, 0), (9, 1), (10, 1), (11, 0)] (fun _ => True) [(8, fun w' => Lies w' n5 88 x.cs.toArray), (11, fun w' => w'.cell? ⟨S0, 2, none⟩ = some gv)] [8, 11] rfl (by kernel_rfl) (by kernel_rfl) (fun _ _ d _ _ h => by cases d <;> exact h) trivial (fun p hp => by
              rcases List.mem_cons.1 hp with rfl | hp
              ·exact HLV.out
              ·obtain rfl := List.mem_singleton.1 hp
               exact HSV.out.lies.cell 2) ?_
             have HFKV := zh (HFK5.out.later hd)
             clear HFK5
             generalize w5.drew = V at HSV HBV HLV HFKV ⊢
             clear hd HS5 HB5 HL5
             repeat (first | (refine ts_take2 (v := .agg x.gt.cs.toArray) rfl rfl (fun w' _ hst => exec_load (lies_sub (o := 6) (Still.fst hst rfl) x.gt.cs rfl) _ rfl rfl Tryz.underlying78 rfl sizeGt) ?_; (try simp only [Act.put, sA, sB, sC])) | (refine ts_take (v := ?_) rfl rfl (fun w' hw' => ?_) ?_; rotate_left; (focus (clear hw'; (try simp only [Act.put, sA, sB, sC]); go_simp; (try go_bits); (try (with_reducible rfl)))); (try simp only [Act.put, sA, sB, sC])) | (refine ts_take2 (v := ?_) rfl rfl (fun w' hw' hst => ?_) ?_; rotate_left; (focus (have q0 := (Still.fst (Still.tail hst) rfl); have q1 := (Still.fst hst rfl); clear hst hw'; (try simp only [Act.put, sA, sB, sC]); go_simp; (try go_bits); (try (with_reducible rfl)))); (try simp only [Act.put, sA, sB, sC])) | (refine ts_skip rfl rfl ?_; (try simp only [Act.put, sA, sB, sC])))
             refine ts_run1 rfl rfl (fun K hK => ?_)
             refine wp_bs1 _ _ (bs_gt x.gt) _ rfl rfl (fun w7 hb7 hl7 => ?_)
             have HN7 := zh hl7
             have HS7 := zh (HSV.out.later hb7)
             have HB7 := zh (bt HBV.out hb7)
             have HL7 := zh (HLV.out.below hb7 HLV.out.lt)
             refine hK.out _ _ trivial (still_two (.inr HL7.out) (.inr (HS7.out.lies.cell 2))) ?_
             have HFK7 := zh (HFKV.out.later hb7)
             clear HFKV
             clear hK K hb7 hl7
             (try simp only [Act.put, sA, sB, sC])
             refine ts_run1 rfl rfl (fun K hK => ?_)
             refine wp_app _ _ rfl Tryz.underlying119 info_gt (by decide) rfl HS7.out.g Gt.len rfl (sl_one HN7.out) (fun y hy u hu => by
              obtain rfl := List.mem_singleton.1 hy
              exact oneGt _ u hu) (by simp only [List.length_singleton]; unfold maxLen; omega) (by simp only [List.length_singleton]; omega) HB7.out.size (fun v' w8 hr8 hg8 hv8 => ?_)
             have HR8 := zh hr8
             have HG8 := zh hg8
             have HV8 := zh hv8
             obtain ⟨s8, c8, rfl, _⟩ := row_form hr8
             have HL8 := zh (lies_frT HS7.out.lies (FrT.grown HS7.out.g hg8) (by decide))
             refine hK.out _ _ trivial (still_two (.inl rfl) (.inr (HL8.out.cell 2))) ?_
             clear hK K hr8 hg8 hv8
             (try simp only [Act.put, sA, sB, sC])
             repeat (first | (refine ts_take (v := ?_) rfl rfl (fun w' hw' => ?_) ?_; rotate_left; (focus (clear hw'; (try simp only [Act.put, sA, sB, sC]); go_simp; (try go_bits); (try (with_reducible rfl)))); (try simp only [Act.put, sA, sB, sC])) | (refine ts_take2 (v := ?_) rfl rfl (fun w' hw' hst => ?_) ?_; rotate_left; (focus (have q0 := (Still.fst (Still.tail hst) rfl); clear hst hw'; (try simp only [Act.put, sA, sB, sC]); go_simp; (try go_bits); (try (with_reducible rfl)))); (try simp only [Act.put, sA, sB, sC])) | (refine ts_skip rfl rfl ?_; (try simp only [Act.put, sA, sB, sC])))
             refine ts_run1 rfl rfl (fun K hK => ?_)
             refine wp_fld HL8.out _ _ rfl rfl rfl [_] (spc tv fv (.slice s8 _ c8) bv mv (fk m 0).length (fk m 1).length (fk m 2).length (fk m 3).length ev) (slice_cells _ _ _) sizeSl_gt (one_slice _ _ _) (by simp [spc]) rfl (fun w9 hl9 hf9 => ?_)
             have HS9 := zh (HS7.out.put_g HR8.out HG8.out HV8.out hl9 hf9)
             have HB9 := zh (below_push HB7.out HB7.out.size HS7.out.g HG8.out hf9 (Nat.le_of_lt hBS))
             have HFK9 := zh (HFK7.out.frT ((FrT.grown HS7.out.g HG8.out).trans (FrT.field HL8.out hf9)) (by decide))
             clear HFK7
             refine hK.out _ _ trivial (still_two (.inl rfl) (.inl rfl)) ?_
             clear hK K hl9 hf9 HL8 HR8 HG8 HV8 HS7 HB7 HL7 HN7 HSV HBV HLV 
             refine ts_done ?_
             (try simp only [Act.put])
             go_wp2_with fail
             exact ⟨⟨k + 1, GS ++ [x.gt], _, by omega, by go_num, by rw [List.length_append, hLk]; rfl, by rw [List.take_add_one, HX2.out, List.map_append, HGE.out]; rfl, HS9.out, HFK9.out, HB9.out⟩, by simp [intOf]; omega⟩
            ·obtain rfl : k = (fk m 3).length := by omega
             go_wp2_with fail
             rw [List.take_length] at HGE
             have hLg := hLk
             clear hLk hk hlt
             obtain ⟨sgv, cgv, hgv, hsg⟩ := HM.out.2.2.2.2.2.1.1.form
             have hd : Below wr.heap.size wr wr.drew := ⟨rfl, rfl, rfl, Nat.le_refl _, fun _ _ => rfl⟩
             have HSV := zh (HS.out.later hd)
             have HBV := zh (bt HBW.out hd)
             refine wp_region_t [(0, 1), (1, 1), (2, 1), (3, 1), (4, 1), (5, 2), (6, 1), (7, 1), (9, 1), (10, 1), (11, 1), (12, 2), (13, 1), (14, 1), (8, 0), (15, 0), (16, 1), (17, 1), (18, 0), (19, 1), (20, 1), (21, 0)] (fun w' => w'.cell? ⟨W.heap.size, 3, none⟩ = some m.bv ∧ w'.cell? ⟨W.heap.size, 4, none⟩ = some m.mv) [(18, fun w' => w'.cell? ⟨S0, 3, none⟩ = some bv), (21, fun w' => w'.cell? ⟨S0, 4, none⟩ = some mv)] [18, 21] rfl (by kernel_rfl) (by kernel_rfl) (fun _ _ d _ _ h => by cases d <;> exact h) ⟨HSV.out.mod.cell 3, HSV.out.mod.cell 4⟩ (fun p hp => by
              rcases List.mem_cons.1 hp with rfl | hp
              ·exact HSV.out.lies.cell 3
              ·obtain rfl := List.mem_singleton.1 hp
               exact HSV.out.lies.cell 4) ?_
             have HFKV := zh (HFK.out.later hd)
             generalize wr.drew = V at HSV HBV HFKV ⊢
             clear hd HS HBW HFK
             repeat (first | (refine ts_take (v := ?_) rfl rfl (fun w' hw' => ?_) ?_; rotate_left; (focus (obtain ⟨q2, q3⟩ := hw'; (try simp only [Act.put, sA, sB, sC]); go_simp; (try go_bits); (try (with_reducible rfl)))); (try simp only [Act.put, sA, sB, sC])) | (refine ts_take2 (v := ?_) rfl rfl (fun w' hw' hst => ?_) ?_; rotate_left; (focus (obtain ⟨q2, q3⟩ := hw'; have q0 := (Still.fst hst rfl); have q1 := (Still.fst (Still.tail hst) rfl); clear hst; (try simp only [Act.put, sA, sB, sC]); go_simp; (try go_bits); (try (with_reducible rfl)))); (try simp only [Act.put, sA, sB, sC])) | (refine ts_skip rfl rfl ?_; (try simp only [Act.put, sA, sB, sC])))
             refine ts_run1 rfl rfl (fun K hK => ?_)
             refine wp_app _ _ rfl Tryz.underlying25 info_lim (by decide) rfl HSV.out.b Lim.len rfl (HM.out.2.2.2.1.1.later HBV.out) (fun y _ => oneLim y) (by unfold maxLen; omega) (by omega) HBV.out.size (fun b' w8 hr8 hg8 hv8 => ?_)
             have HR8 := zh hr8
             have HG8 := zh hg8
             have HV8 := zh hv8
             have hf8 := FrT.grown HSV.out.b hg8
             have HL8 := zh (lies_frT HSV.out.lies hf8 (by decide))
             have HMD8 := zh (lies_frT HSV.out.mod hf8 (by decide))
             have HM8 := zh (row_fr HSV.out.m (Fr.of_grown hg8) (fun k hk e => HSV.out.ne k e.symm hk))
             have HB8 := zh (HBV.out.grown hg8 HBV.out.size (fun k hk => (row_block HSV.out.b hk).1))
             obtain ⟨s8, c8, rfl, _⟩ := row_form hr8
             refine hK.out _ _ ⟨HMD8.out.cell 3, HMD8.out.cell 4⟩ (still_two (.inr (HL8.out.cell 3)) (.inr (HL8.out.cell 4))) ?_
             clear hK K hr8 hg8 hv8 hf8
             (try simp only [Act.put, sA, sB, sC])
             refine ts_run1 rfl rfl (fun K hK => ?_)
             refine wp_app _ _ rfl Tryz.underlying25 info_lim (by decide) rfl HM8.out Lim.len rfl (HM.out.2.2.2.2.1.1.later HB8.out) (fun y _ => oneLim y) (by unfold maxLen; omega) (by omega) HB8.out.size (fun m' w9 hr9 hg9 hv9 => ?_)
             have HR9 := zh hr9
             have HG9 := zh hg9
             have HV9 := zh hv9
             have hf9 := FrT.grown HM8.out hg9
             have HL9 := zh (lies_frT HL8.out hf9 (by decide))
             have HMD9 := zh (lies_frT HMD8.out hf9 (by decide))
             have HB9 := zh (HB8.out.grown hg9 HB8.out.size (fun k hk => (row_block HM8.out hk).1))
             obtain ⟨s9, c9, rfl, _⟩ := row_form hr9
             refine hK.out _ _ ⟨HMD9.out.cell 3, HMD9.out.cell 4⟩ (still_two (.inr (HL9.out.cell 3)) (.inr (HL9.out.cell 4))) ?_
             clear hK K hr9 hg9 hv9 hf9 HL8 HMD8
             (try simp only [Act.put, sA, sB, sC])
             repeat (first | (refine ts_take (v := ?_) rfl rfl (fun w' hw' => ?_) ?_; rotate_left; (focus ((try simp only [Act.put]); go_simp; (try go_bits); (try (with_reducible rfl)))); (try simp only [Act.put, sA, sB, sC])) | (refine ts_take2 (v := ?_) rfl rfl (fun w' hw' hst => ?_) ?_; rotate_left; (focus ((try simp only [Act.put, sA, sB, sC]); go_simp; (try go_bits); (try (with_reducible rfl)))); (try simp only [Act.put, sA, sB, sC])) | (refine ts_skip rfl rfl ?_; (try simp only [Act.put, sA, sB, sC])))
             refine ts_run1 rfl rfl (fun K hK => ?_)
             refine wp_fld HL9.out _ _ rfl rfl rfl [_] (spc tv fv gv (.slice s8 _ c8) mv (fk m 0).length (fk m 1).length (fk m 2).length (fk m 3).length ev) (slice_cells _ _ _) sizeSl_lim (one_slice _ _ _) (by simp [spc]) rfl (fun wx hlx hfx => ?_)
             have HLX := zh hlx
             have HFX := zh hfx
             have HMDX := zh (lies_frT HMD9.out (FrT.field HL9.out hfx) (by decide))
             refine hK.out _ _ ⟨HMDX.out.cell 3, HMDX.out.cell 4⟩ (still_two (.inl rfl) (.inr (HLX.out.cell 4))) ?_
             clear hK K hlx hfx
             (try simp only [Act.put])
             repeat (first | (refine ts_take (v := ?_) rfl rfl (fun w' hw' => ?_) ?_; rotate_left; (focus ((try simp only [Act.put]); go_simp; (try go_bits); (try (with_reducible rfl)))); (try simp only [Act.put, sA, sB, sC])) | (refine ts_take2 (v := ?_) rfl rfl (fun w' hw' hst => ?_) ?_; rotate_left; (focus ((try simp only [Act.put, sA, sB, sC]); go_simp; (try go_bits); (try (with_reducible rfl)))); (try simp only [Act.put, sA, sB, sC])) | (refine ts_skip rfl rfl ?_; (try simp only [Act.put, sA, sB, sC])))
             refine ts_run1 rfl rfl (fun K hK => ?_)
             refine wp_fld HLX.out _ _ rfl rfl rfl [_] (spc tv fv gv (.slice s8 _ c8) (.slice s9 _ c9) (fk m 0).length (fk m 1).length (fk m 2).length (fk m 3).length ev) (slice_cells _ _ _) sizeSl_lim (one_slice _ _ _) (by simp [spc]) rfl (fun wy hly hfy => ?_)
             have HMDY := zh (lies_frT HMDX.out (FrT.field HLX.out hfy) (by decide))
             have HS := zh (HSV.out.put_bm HR8.out HG8.out HV8.out HR9.out HG9.out HV9.out hly (HFX.out.trans hfy))
             have HBW := zh (HB9.out.trans ((HFX.out.trans hfy).below HB9.out.size (fun k hk => by omega)))
             have HFK := zh (HFKV.out.frT (((FrT.grown HSV.out.b HG8.out).trans (FrT.grown HM8.out HG9.out)).trans ((FrT.field HL9.out HFX.out).trans (FrT.field HLX.out hfy))) (by decide))
             refine hK.out _ _ ⟨HMDY.out.cell 3, HMDY.out.cell 4⟩ (still_two (.inl rfl) (.inl rfl)) ?_
             clear hK K hly hfy HL9 HLX HFX HMD9 HMDX HMDY HR8 HG8 HV8 HR9 HG9 HV9 HM8 HB8 HB9 HSV HBV HFKV
             refine ts_done ?_
             (try simp only [Act.put])
             have hc5 : wy.cell? ⟨W.heap.size, 5, none⟩ = some (.slice sgv m.globs.length cgv) := by rw [← hgv]; exact HS.out.mod.cell 5
             generalize Value.slice s8 (BS.length + m.tabs.length) c8 = b2 at HS
             generalize Value.slice s9 (MS.length + m.mems.length) c9 = m2 at HS
             generalize hB2 : BS ++ m.tabs = BS2 at HS
             have HBB := zh hB2.symm
             clear hB2
             generalize hM2 : MS ++ m.mems = MS2 at HS
             have HMM := zh hM2.symm
             clear hM2
             clear hLb hLm
             go_wp2_with fail
             clear hc5
             go_loopw [24, 193] (fun _ i wr => ∃ (k : Nat) (GS : List Gt) (gv : Value), k ≤ m.globs.length ∧ i = .int .i64 k ∧ GS.length = (fk m 3).length + k ∧ GS = (fk m 3).map (·.gt) ++ (m.globs.take k).map (·.gt) ∧ Sp wr W.heap.size S0 m TS FS GS BS2 MS2 tv fv gv b2 m2 (fk m 0).length (fk m 1).length (fk m 2).length (fk m 3).length ev ∧ Fk wr W.heap.size m (.slice s0 (fk m 0).length c0) (.slice s1 (fk m 1).length c1) (.slice s2 (fk m 2).length c2) (.slice s3 (fk m 3).length c3) ∧ Below W.heap.size W wr)
              (fun _ i _ => m.globs.length - (intOf i).toNat)
             case atStart => exact ⟨0, _, _, by omega, rfl, hLg, by rw [HGE.out]; simp, HS.out, HFK.out, HBW.out⟩
             case round =>
              clear HS HFK HBW
              obtain ⟨k, GS, gv, hk, rfl, hLk, hEq, hS, hF, hB⟩ := hrel
              have HGF := zh hEq
              clear hEq
              have HS := zh hS
              have HFK := zh hF
              have HBW := zh hB
              clear hS hF hB
              by_cases hlt : k < m.globs.length
              ·obtain ⟨x, hx⟩ : ∃ x, m.globs[k]? = some x := ⟨_, List.getElem?_eq_getElem hlt⟩
               obtain ⟨g, off, rfl, _⟩ := hsg (by intro e; simp [e] at hlt)
               have hslg := HM.out.2.2.2.2.2.1.1
               rw [hgv] at hslg
               have hr := keepr HBW.out (sl_range hslg hx)
               have HOG := zh (oneGlb (HM.out.2.2.2.2.2.1.2.1 x (List.mem_of_getElem? hx)))
               have HX2 := zh hx
               clear hx hslg
               go_wp2_with (first | (refine wpList_load_mid rfl 80 _ rfl g (off + k * 3) rfl x.cs _ hr Tryz.underlying80 rfl sizeGlb ?_; simp only [Act.put, sA, sB, sC]) | (refine wl_put (Lies.new _ _ _) x.cs _ _ rfl rfl rfl rfl rfl sizeGlb HOG.out (fun w5 hL5 hF5 => ?_); have HL5 := zh hL5; have HB5 := zh (below_put ((Below.refl wr.heap.size wr).alloc (Nat.le_refl _) _) hF5 (Nat.le_refl _)); clear hL5 hF5; try simp only [Act.put]))
               have HS5 := zh (HS.out.later HB5.out)
               have HFK5 := zh (HFK.out.later HB5.out)
               have HB5 := zh (bt HBW.out HB5.out)
               clear HS HFK HBW hr
               generalize wr.heap.size = n5 at HL5 ⊢
               have hd : Below w5.heap.size w5 w5.drew := ⟨rfl, rfl, rfl, Nat.le_refl _, fun _ _ => rfl⟩
               have HSV := zh (HS5.out.later hd)
               have HBV := zh (bt HB5.out hd)
               have HLV := zh (HL5.out.below hd HL5.out.lt)
               refine wp_region_t [(0, 1), (1, 1), (2, 1), (3, 1), (4, 2), (5, 1), (6, 2), (7, 0), (8, 0), (9, 1), (10, 1), (11, 0)] (fun _ => True) [(8, fun w' => Lies w' n5 80 x.cs.toArray), (11, fun w' => w'.cell? ⟨S0, 2, none⟩ = some gv)] [8, 11] rfl (by kernel_rfl) (by kernel_rfl) (fun _ _ d _ _ h => by cases d <;> exact h) trivial (fun p hp => by
                rcases List.mem_cons.1 hp with rfl | hp
                ·exact HLV.out
                ·obtain rfl := List.mem_singleton.1 hp
                 exact HSV.out.lies.cell 2) ?_
               have HFKV := zh (HFK5.out.later hd)
               clear HFK5
               generalize w5.drew = V at HSV HBV HLV HFKV ⊢
               clear hd HS5 HB5 HL5
               repeat (first | (refine ts_take2 (v := .agg x.gt.cs.toArray) rfl rfl (fun w' _ hst => exec_load (lies_sub (o := 0) (Still.fst hst rfl) x.gt.cs rfl) _ rfl rfl Tryz.underlying78 rfl sizeGt) ?_; (try simp only [Act.put, sA, sB, sC])) | (refine ts_take (v := ?_) rfl rfl (fun w' hw' => ?_) ?_; rotate_left; (focus (clear hw'; (try simp only [Act.put, sA, sB, sC]); go_simp; (try go_bits); (try (with_reducible rfl)))); (try simp only [Act.put, sA, sB, sC])) | (refine ts_take2 (v := ?_) rfl rfl (fun w' hw' hst => ?_) ?_; rotate_left; (focus (have q0 := (Still.fst (Still.tail hst) rfl); have q1 := (Still.fst hst rfl); clear hst hw'; (try simp only [Act.put, sA, sB, sC]); go_simp; (try go_bits); (try (with_reducible rfl)))); (try simp only [Act.put, sA, sB, sC])) | (refine ts_skip rfl rfl ?_; (try simp only [Act.put, sA, sB, sC])))
               refine ts_run1 rfl rfl (fun K hK => ?_)
               refine wp_bs1 _ _ (bs_gt x.gt) _ rfl rfl (fun w7 hb7 hl7 => ?_)
               have HN7 := zh hl7
               have HS7 := zh (HSV.out.later hb7)
               have HB7 := zh (bt HBV.out hb7)
               have HL7 := zh (HLV.out.below hb7 HLV.out.lt)
               refine hK.out _ _ trivial (still_two (.inr HL7.out) (.inr (HS7.out.lies.cell 2))) ?_
               have HFK7 := zh (HFKV.out.later hb7)
               clear HFKV
               clear hK K hb7 hl7
               (try simp only [Act.put, sA, sB, sC])
               refine ts_run1 rfl rfl (fun K hK => ?_)
               refine wp_app _ _ rfl Tryz.underlying119 info_gt (by decide) rfl HS7.out.g Gt.len rfl (sl_one HN7.out) (fun y hy u hu => by
                obtain rfl := List.mem_singleton.1 hy
                exact oneGt _ u hu) (by simp only [List.length_singleton]; unfold maxLen; omega) (by simp only [List.length_singleton]; omega) HB7.out.size (fun v' w8 hr8 hg8 hv8 => ?_)
               have HR8 := zh hr8
               have HG8 := zh hg8
               have HV8 := zh hv8
               obtain ⟨s8, c8, rfl, _⟩ := row_form hr8
               have HL8 := zh (lies_frT HS7.out.lies (FrT.grown HS7.out.g hg8) (by decide))
               refine hK.out _ _ trivial (still_two (.inl rfl) (.inr (HL8.out.cell 2))) ?_
               clear hK K hr8 hg8 hv8
               (try simp only [Act.put, sA, sB, sC])
               repeat (first | (refine ts_take (v := ?_) rfl rfl (fun w' hw' => ?_) ?_; rotate_left; (focus (clear hw'; (try simp only [Act.put, sA, sB, sC]); go_simp; (try go_bits); (try (with_reducible rfl)))); (try simp only [Act.put, sA, sB, sC])) | (refine ts_take2 (v := ?_) rfl rfl (fun w' hw' hst => ?_) ?_; rotate_left; (focus (have q0 := (Still.fst (Still.tail hst) rfl); clear hst hw'; (try simp only [Act.put, sA, sB, sC]); go_simp; (try go_bits); (try (with_reducible rfl)))); (try simp only [Act.put, sA, sB, sC])) | (refine ts_skip rfl rfl ?_; (try simp only [Act.put, sA, sB, sC])))
               refine ts_run1 rfl rfl (fun K hK => ?_)
               refine wp_fld HL8.out _ _ rfl rfl rfl [_] (spc tv fv (.slice s8 _ c8) b2 m2 (fk m 0).length (fk m 1).length (fk m 2).length (fk m 3).length ev) (slice_cells _ _ _) sizeSl_gt (one_slice _ _ _) (by simp [spc]) rfl (fun w9 hl9 hf9 => ?_)
               have HS9 := zh (HS7.out.put_g HR8.out HG8.out HV8.out hl9 hf9)
               have HB9 := zh (below_push HB7.out HB7.out.size HS7.out.g HG8.out hf9 (Nat.le_of_lt hBS))
               have HFK9 := zh (HFK7.out.frT ((FrT.grown HS7.out.g HG8.out).trans (FrT.field HL8.out hf9)) (by decide))
               clear HFK7
               refine hK.out _ _ trivial (still_two (.inl rfl) (.inl rfl)) ?_
               clear hK K hl9 hf9 HL8 HR8 HG8 HV8 HS7 HB7 HL7 HN7 HSV HBV HLV 
               refine ts_done ?_
               (try simp only [Act.put])
               go_wp2_with fail
               exact ⟨⟨k + 1, GS ++ [x.gt], _, by omega, by go_num, by rw [List.length_append, hLk]; rfl, by rw [List.take_add_one, HX2.out, List.map_append, ← List.append_assoc, ← HGF.out]; rfl, HS9.out, HFK9.out, HB9.out⟩, by simp [intOf]; omega⟩
              ·obtain rfl : k = m.globs.length := by omega
               go_wp2_with fail
               go_ret
               rw [List.take_length] at HGF
               have h1 : GS = gsOf m := HGF.out
               have h2 : BS2 = bsOf m := by rw [HBB.out, HBE.out]; rfl
               have h3 : MS2 = msOf m := by rw [HMM.out, HME.out]; rfl
               refine ⟨_, rfl, ⟨W.heap.size, TS, tv, fv, gv, b2, m2, ev, ?_, HMP.out⟩, Nat.le_of_lt hBS, HBW.out⟩
               have := HS.out
               rw [HFS.out, h1, h2, h3] at this
               exact this
end Go.Proofs.YtmgjcaikldeioaaGreat.Gr
