/- What a module's checker comes to, plain: with the codes. -/
import Derived.Test.YtmgjcaikldeioaaGreatXNa
import Derived.Test.YtmgjcaikldeioaaGreatXUr
import Derived.Test.YtmgjcaikldeioaaGreatXNe
namespace Go.Proofs.YtmgjcaikldeioaaGreat.Va
open Gr Ty

def spX (m : Mod) : Spc := spcOf m (gsOf m) (bsOf m) (msOf m)
/-- The type of a function, of its lists alone. -/
def fnA (m : Mod) (i : Nat) : Ft := match ftype m i with
 | some f => ⟨.slice none 0 0, f.p, .slice none 0 0, f.r⟩
 | none => ⟨.slice none 0 0, [], .slice none 0 0, []⟩
/-- Of a code at a place: its height, its error. -/
def codC (m : Mod) (i : Nat) (c : Cod) : Nat × Nat := chk ⟨spX m, fnA m ((fk m 0).length + i), c⟩
def codE (m : Mod) : List Cod → List Nat → Nat → List Nat × Nat
 | [], H, e => (H, e)
 | c :: r, H, e => if e = 0 then codE m r (H ++ [(codC m H.length c).1]) (mst 0 ((codC m H.length c).2 == 0) (codC m H.length c).2) else (H, e)
/-- The errors ahead of the codes. -/
def fore4 (m : Mod) : Nat := eachE typE m.types (eachE (fun x e => mst e (decide (x.kind ≤ 3)) 2) m.exps (eachE (fun x e => mst e (decide (x.kind ≤ 3)) 2) m.imps (mst 0 (m.codes.length == m.funcs.length) 2)))
def fore9 (m : Mod) : Nat := expE m m.exps [] (eachE (glbE m) m.globs (storesE m (eachE (fun t e => mst e (m.types[t]?).isSome 80) m.funcs (eachE (impE m) m.imps (fore4 m)))))
def fore (m : Mod) : Nat := eachE (elmE m) m.elems (if m.hs then mst (fore9 m) (startB m) 113 else fore9 m)
def vchk (m : Mod) : List Nat × Nat :=
 let c := codE m m.codes [] (fore m)
 let e := eachE (datE m) m.datas c.2
 if e = 0 then (c.1, 0) else ([], e)
end Go.Proofs.YtmgjcaikldeioaaGreat.Va
/- A module's checker: the codes, with their heights. -/
namespace Go.Proofs.YtmgjcaikldeioaaGreat.Va
open Go Go.RowKit Go.Lib Kt Fm Gr Ty

/-! ### plain: a check asks a type's lists alone -/
theorem step_fn {S : Spc} {c : Cod} {p r : List UInt8} {pv pv' rv rv' : Value} (s : St) (x : Ins) : Ty.step ⟨S, ⟨pv, p, rv, r⟩, c⟩ s x = Ty.step ⟨S, ⟨pv', p, rv', r⟩, c⟩ s x := rfl
theorem run_fn {S : Spc} {c : Cod} {p r : List UInt8} {pv pv' rv rv' : Value} : ∀ (l : List Ins) (s : St), run ⟨S, ⟨pv, p, rv, r⟩, c⟩ s l = run ⟨S, ⟨pv', p, rv', r⟩, c⟩ s l
 | [], _ => rfl
 | x :: l, s => by
  rw [run, run, step_fn (pv' := pv') (rv' := rv')]
  cases Ty.step ⟨S, ⟨pv', p, rv', r⟩, c⟩ s x with
  | error e => rfl
  | ok s' => exact run_fn l s'
theorem chk_fn {S : Spc} {c : Cod} {f f' : Ft} (hp : f.p = f'.p) (hr : f.r = f'.r) : chk ⟨S, f, c⟩ = chk ⟨S, f', c⟩ := by
 obtain ⟨pv, p, rv, r⟩ := f
 obtain ⟨pv', p', rv', r'⟩ := f'
 simp only at hp hr
 subst hp hr
 unfold chk
 rw [run_fn (pv' := pv') (rv' := rv')]
theorem fnA_told {m : Mod} {i : Nat} {y : Ft} (h : FnTold m i y) : y.p = (fnA m i).p ∧ y.r = (fnA m i).r := by
 unfold FnTold at h
 unfold fnA
 cases hf : ftype m i with
 | none => rw [hf, Prod.mk.injEq] at h; exact h
 | some t => rw [hf, Prod.mk.injEq] at h; exact h
theorem cxB_one {m : Mod} {y : Ft} {c : Cod} (hT : ∀ t ∈ m.types, t.r.length ≤ 1) {i : Nat} (h : FnTold m i y) : CxB 1 ⟨spX m, y, c⟩ :=
 ⟨fun i t e => hT t (ftype_mem e), fun i t e => hT t (List.mem_of_getElem? e), by
  show y.r.length ≤ 1
  rw [(fnA_told h).2]
  unfold fnA
  cases hf : ftype m i with
  | none => exact Nat.zero_le _
  | some t => exact hT t (ftype_mem hf)⟩
def ic (n : Nat) : List Value := [.int .i64 n]
theorem func_anyI {W : World} {S0 : Nat} {m : Mod} {U : World} (hm : ModOk U m) (h : SpOf W S0 m) {i : Nat} (hi : i < 4294967296) {z : Int} (hz : z = (i : Int)) :
  Calls Tryz.prog 14 #[.pointer (some ⟨S0, 0, none⟩), .int .u32 z] W fun e w' => ∃ x, e = .returned (.tuple #[.agg x.cs.toArray, .bool (ftype m i).isSome]) ∧ FtOwn w' x ∧ FnTold m i x ∧ Below W.heap.size W w' := by
 subst hz
 exact (func_any hm h hi).mono fun _ _ ⟨x, h1, h2, h3, h4, _⟩ => ⟨x, h1, h2, h3, h4⟩
theorem bs_int (n : Int) (w : World) : (Instr.buildSlice 35 1 #[(0, .int .i64 n)]).run Tryz.prog w = .ok (.slice (some ⟨w.heap.size, 0, none⟩) 1 1) (w.alloc (.cells #[.int .i64 n] 3)) := by kernel_rfl
theorem wl_int {ops : Array Oper} {rest : List Oper} {op : Oper} {a : Act} {w : World} {Q : Exit → Act → World → Prop} (n : Nat) (p0 : Operand) (hgd : op.guard = none) (ho : op.op = .buildSlice 35 1 #[(0, p0)]) (h0 : a.eval p0 = .int .i64 n)
  (hK : ∀ w1, Below w.heap.size w w1 → Sl w1 1 ic (.slice (some ⟨w.heap.size, 0, none⟩) 1 1) [n] → wpList Tryz.prog ops Q rest (a.put op.dst (.slice (some ⟨w.heap.size, 0, none⟩) 1 1)) w1) : wpList Tryz.prog ops Q (op :: rest) a w :=
 wl_bs1 (.int .i64 n) [.int .i64 n] (bs_int n) p0 hgd ho h0 fun w1 h1 h2 => hK w1 h1 (sl_one (en := ic) h2)
theorem und_ints : Tryz.prog.underlying 35 = some (.slice 3) := by kernel_rfl
theorem inf_int : (Tryz.prog.info? 3).map (fun i => (i.zero.map (·.cells.size), i.size, i.bytes)) = some (some 1, 1, 8) := by kernel_rfl
theorem siz_ints : (Tryz.prog.info? 35).map (·.size) = some 1 := by kernel_rfl
set_option maxRecDepth 100000 in
set_option maxHeartbeats 8000000 in
theorem cl7_any {W1 w : World} {kb S0 cb ob hb own base : Nat} {m : Mod} {e : Nat} {hv : Value} {H : List Nat} (h : Vk W1 kb S0 m e w) (hcb : Lies w cb 92 #[.pointer (some ⟨kb, 0, none⟩)]) (hob : Lies w ob 28 #[.int .u32 own]) (hown : own = (fk m 0).length) (hhb : Lies w hb 35 #[hv]) (hhr : w.ownsRow base 3 1 hv H.length (H.flatMap ic)) (hH : H.length ≤ 1048576) (hbw : base ≤ w.heap.size) (hbase : W1.heap.size ≤ base) (hhb2 : W1.heap.size ≤ hb) (hsp : SpX W1 S0 m) (hm : ModOk W1 m) (hT : ∀ t ∈ m.types, t.r.length ≤ 1) {x : Cod} (hx : CodOk W1 x) :
  Calls Tryz.prog 51 #[.agg x.cs.toArray, .pointer (some ⟨cb, 0, none⟩), .pointer (some ⟨ob, 0, none⟩), .pointer (some ⟨hb, 0, none⟩)] w fun en w' => en = .returned (.tuple #[]) ∧ ∃ hv', Vk W1 kb S0 m (mst e ((codC m H.length x).2 == 0) (codC m H.length x).2) w' ∧ Lies w' cb 92 #[.pointer (some ⟨kb, 0, none⟩)] ∧ Lies w' ob 28 #[.int .u32 own] ∧ Lies w' hb 35 #[hv'] ∧ w'.ownsRow base 3 1 hv' (H ++ [(codC m H.length x).1]).length ((H ++ [(codC m H.length x).1]).flatMap ic) ∧ FrT [94, 35, 3] w w' := by
 have HSP := zh hsp
 have HM := zh hm
 have HTT := zh hT
 have HX := zh hx
 obtain ⟨hs, hcp, rfl, _, _⟩ := row_form hhr
 have hown2 : own ≤ 1048576 := by rw [hown]; exact Nat.le_trans (fk_le m 0) hm.2.1.2.2
 have HOW := zh hown
 have hi : own + H.length < 4294967296 := by omega
 have HO0 := zh hob
 have HH0 := zh hhb
 have HR0 := zh hhr
 have HBW := zh hbw
 have HBS := zh hbase
 have HB2 := zh hhb2
 have HV0 := zh h
 have HF0 := zh (Fr.refl w (fun k => k = kb))
 have HC0 := zh hcb
 clear h hcb hsp hm hT hx hob hhb hhr hown hbw hbase hhb2
 obtain ⟨n, hn⟩ : ∃ n, n = H.length := ⟨_, rfl⟩
 rw [← hn] at HH0 HR0 hH hi ⊢
 have HN' := zh hn
 clear hn
 have hw1 : IntKind.u32.wrap (n : Int) = (n : Int) := by show (n : Int) % 4294967296 = n; omega
 go_enter Tryz.func51, Tryz.ntmps51
 go_wp2_with (refine wl_box x.cs _ rfl rfl rfl (fun w1 hb1 hl1 => ?_); have HV1 := zh (HV0.out.later hb1); have HF1 := zh (HF0.out.trans (Fr.of_below hb1 _)); have HC1 := zh (HC0.out.below hb1 HC0.out.lt); have HO1 := zh (HO0.out.below hb1 HO0.out.lt); have HH1 := zh (HH0.out.below hb1 HH0.out.lt); have HR1 := zh (ownsRow_keep HR0.out hb1); have HI1 := zh hl1; obtain ⟨Bi, hB1⟩ : ∃ Bi, Bi = w.heap.size := ⟨_, rfl⟩; rw [← hB1] at HI1 ⊢; clear hB1 hl1 hb1; (try simp only [Act.put, sA, sB, sC]))
 have hd2 := below_drew w1
 have HV2 := zh (HV1.out.later hd2)
 have HF2 := zh (HF1.out.trans (Fr.of_below hd2 _))
 have HC2 := zh (HC1.out.below hd2 HC1.out.lt)
 have HO2 := zh (HO1.out.below hd2 HO1.out.lt)
 have HH2 := zh (HH1.out.below hd2 HH1.out.lt)
 have HI2 := zh (HI1.out.below hd2 HI1.out.lt)
 have HR2 := zh (ownsRow_keep HR1.out hd2)
 refine RP.region (RP.take 0 (RP.take 1 (RP.take 2 (RP.take 3 (RP.take 4 (RP.take 5 (RP.take 6 (RP.take 7 (RP.take 8 (RP.fork 9 13 (RP.take 10 (RP.take 11 (RP.take 12 (RP.run 13 (RP.run 14 (RP.take 15 RP.done)))))) (RP.run 9 (RP.take 10 (RP.take 11 (RP.take 12 (RP.run 14 (RP.take 15 RP.done)))))))))))))))) (fun w' => w'.cell? ⟨cb, 0, none⟩ = some (.pointer (some ⟨kb, 0, none⟩)) ∧ w'.cell? ⟨kb, 12, none⟩ = some (.pointer (some ⟨S0, 0, none⟩)) ∧ w'.cell? ⟨ob, 0, none⟩ = some (.int .u32 own) ∧ w'.cell? ⟨hb, 0, none⟩ = some (.slice hs n hcp)) (by kernel_rfl) (by kernel_rfl) (fun _ _ d _ _ h => by cases d <;> exact h) ⟨(HC2.out.cell 0), HV2.out.s, (HO2.out.cell 0), (HH2.out.cell 0)⟩ (fun _ => ?_)
 clear hd2
 generalize w1.drew = w2 at HV2 HF2 HC2 HO2 HH2 HI2 HR2 ⊢
 repeat (first | (refine RP.t_take (v := ?_) rfl rfl (fun w' hw' => ?_) ?_; rotate_left; (focus (obtain ⟨q0, q1, q2, q3⟩ := hw'; (try simp only [Act.put, sA, sB, sC]); go_simp; (try go_bits); (try (with_reducible rfl)))); (try simp only [Act.put, sA, sB, sC])) | (refine RP.t_skip rfl rfl ?_; (try simp only [Act.put, sA, sB, sC])))
 refine RP.t_fork rfl rfl (fun K hK => ?_) (fun K hK => ?_)
 ·go_simp
  refine (func_anyI (i := own + n) HM.out (spx_later HSP.out HV2.out.bel).sp hi (by omega)).mono ?_
  rintro en w3 ⟨y, rfl, ho, ht, hb3⟩
  have HV3 := zh (HV2.out.later hb3)
  have HF3 := zh (HF2.out.trans (Fr.of_below hb3 _))
  have HC3 := zh (HC2.out.below hb3 HC2.out.lt)
  have HO3 := zh (HO2.out.below hb3 HO2.out.lt)
  have HH3 := zh (HH2.out.below hb3 HH2.out.lt)
  have HI3 := zh (HI2.out.below hb3 HI2.out.lt)
  have HR3 := zh (ownsRow_keep HR2.out hb3)
  have HOY := zh ho
  have HFT := zh ht
  have HLN := zh (fntold_len HM.out ht)
  clear ho ht
  clear hb3
  refine hK.out _ _ ⟨(HC3.out.cell 0), HV3.out.s, (HO3.out.cell 0), (HH3.out.cell 0)⟩ ?_
  clear hK K
  (try simp only [Act.put, sA, sB, sC])
  repeat (first | (refine RP.t_take (v := ?_) rfl rfl (fun w' hw' => ?_) ?_; rotate_left; (focus (obtain ⟨q0, q1, q2, q3⟩ := hw'; (try simp only [Act.put, sA, sB, sC]); go_simp; (try go_bits); (try (with_reducible rfl)))); (try simp only [Act.put, sA, sB, sC])) | (refine RP.t_skip rfl rfl ?_; (try simp only [Act.put, sA, sB, sC])))
  refine RP.t_run rfl (fun K hK => ?_)
  go_simp
  obtain ⟨w4, hwn⟩ : ∃ w4, w4 = w3.alloc (.cells #[.slice none 0 0, .slice none 0 0] 51) := ⟨_, rfl⟩
  have hb4 : Below w3.heap.size w3 w4 := hwn ▸ (Below.refl _ _).alloc (Nat.le_refl _) _
  have HN4 := zh (show Lies w4 w3.heap.size 51 #[.slice none 0 0, .slice none 0 0] from hwn ▸ Lies.new _ _ _)
  rw [← hwn]
  clear hwn
  have HV4 := zh (HV3.out.later hb4)
  have HF4 := zh (HF3.out.trans (Fr.of_below hb4 _))
  have HC4 := zh (HC3.out.below hb4 HC3.out.lt)
  have HO4 := zh (HO3.out.below hb4 HO3.out.lt)
  have HH4 := zh (HH3.out.below hb4 HH3.out.lt)
  have HI4 := zh (HI3.out.below hb4 HI3.out.lt)
  have HR4 := zh (ownsRow_keep HR3.out hb4)
  obtain ⟨Bn, hBn⟩ : ∃ Bn, Bn = w3.heap.size := ⟨_, rfl⟩
  rw [← hBn] at HN4 ⊢
  have hBw : w.heap.size ≤ Bn := by rw [hBn]; exact HF3.out.size
  clear hBn
  replace HOY := zh (HOY.out.later hb4)
  clear hb4
  refine hK.out _ _ ⟨(HC4.out.cell 0), HV4.out.s, (HO4.out.cell 0), (HH4.out.cell 0)⟩ ?_
  clear hK K
  (try simp only [Act.put, sA, sB, sC])
  refine RP.t_run rfl (fun K hK => ?_)
  refine ite_of rfl ?_
  refine wp_put HN4.out y.cs _ _ rfl rfl rfl rfl sizeFt (oneFt (HOY.out.ok HLN.out.1 HLN.out.2)) (fun w5 hlc hfc => ?_)
  have HOY := zh (HOY.out.frT (FrT.field HN4.out hfc) (by decide))
  have HV5 := zh (HV4.out.put HN4.out (by decide) (Nat.le_trans HV0.out.bel.size hBw) hfc)
  have HF5 := zh (fr_new HF4.out hfc hBw)
  have HC5 := zh (lies_frT HC4.out (FrT.field HN4.out hfc) (by decide))
  have HO5 := zh (lies_frT HO4.out (FrT.field HN4.out hfc) (by decide))
  have HH5 := zh (lies_frT HH4.out (FrT.field HN4.out hfc) (by decide))
  have HI5 := zh (lies_frT HI4.out (FrT.field HN4.out hfc) (by decide))
  have HR5 := zh (row_frT HR4.out (FrT.field HN4.out hfc) (by decide))
  have HN5 := zh hlc
  refine hK.out _ _ ⟨(HC5.out.cell 0), HV5.out.s, (HO5.out.cell 0), (HH5.out.cell 0)⟩ ?_
  clear hK K
  (try simp only [Act.put])
  repeat (first | (refine RP.t_take (v := ?_) rfl rfl (fun w' hw' => ?_) ?_; rotate_left; (focus (obtain ⟨q0, q1, q2, q3⟩ := hw'; (try simp only [Act.put, sA, sB, sC]); go_simp; (try go_bits); (try (with_reducible rfl)))); (try simp only [Act.put, sA, sB, sC])) | (refine RP.t_skip rfl rfl ?_; (try simp only [Act.put, sA, sB, sC])))
  refine RP.t_done ?_
  clear hlc hfc
  clear hw1
  go_wp2_with fail
  have hd6 := below_drew w5
  have HV6 := zh (HV5.out.later hd6)
  have HF6 := zh (HF5.out.trans (Fr.of_below hd6 _))
  have HC6 := zh (HC5.out.below hd6 HC5.out.lt)
  have HO6 := zh (HO5.out.below hd6 HO5.out.lt)
  have HH6 := zh (HH5.out.below hd6 HH5.out.lt)
  have HI6 := zh (HI5.out.below hd6 HI5.out.lt)
  have HN6 := zh (HN5.out.below hd6 HN5.out.lt)
  have HR6 := zh (ownsRow_keep HR5.out hd6)
  refine wp_region_t [(0, 1), (1, 1), (2, 1), (3, 1), (4, 1), (5, 1), (6, 0), (7, 1), (8, 1), (9, 1), (10, 1), (11, 1)] (fun w' => w'.cell? ⟨cb, 0, none⟩ = some (.pointer (some ⟨kb, 0, none⟩)) ∧ w'.cell? ⟨kb, 12, none⟩ = some (.pointer (some ⟨S0, 0, none⟩)) ∧ Lies w' Bn 51 y.cs.toArray ∧ Lies w' Bi 48 x.cs.toArray) [] [] rfl (by kernel_rfl) (by kernel_rfl) (fun _ _ d _ _ h => by cases d <;> exact h) ⟨HC6.out.cell 0, HV6.out.s, HN6.out, HI6.out⟩ (fun p hp => by cases hp) ?_
  replace HOY := zh (HOY.out.later hd6)
  clear hd6
  generalize w5.drew = w6 at HV6 HF6 HC6 HO6 HH6 HI6 HN6 HR6 HOY ⊢
  repeat (first | (refine ts_take (v := .agg y.cs.toArray) rfl rfl (fun w' hw' => exec_load (lies_range hw'.2.2.1) _ rfl rfl Tryz.underlying51 rfl sizeFt) ?_; (try simp only [Act.put, sA, sB, sC])) | (refine ts_take (v := .agg x.cs.toArray) rfl rfl (fun w' hw' => exec_load (lies_range hw'.2.2.2) _ rfl rfl Tryz.underlying48 rfl sizeCod) ?_; (try simp only [Act.put, sA, sB, sC])) | (refine ts_take (v := ?_) rfl rfl (fun w' hw' => ?_) ?_; rotate_left; (focus (obtain ⟨q0, q1, q2, q3⟩ := hw'; (try simp only [Act.put, sA, sB, sC]); go_simp; (try go_bits); (try (with_reducible rfl)))); (try simp only [Act.put, sA, sB, sC])) | (refine ts_skip rfl rfl ?_; (try simp only [Act.put, sA, sB, sC])))
  refine ts_run1 rfl rfl (fun K hK => ?_)
  go_simp
  refine (check_anyK (K := 1) (fn := y) (c := x) (m := m) (GS := gsOf m) (BS := bsOf m) (MS := msOf m) ⟨Nat.le_refl _, by decide⟩ (spx_later HSP.out HV6.out.bel) (HM.out.later HV6.out.bel) (HOY.out.ok HLN.out.1 HLN.out.2) (HX.out.later HV6.out.bel) (by have : x.body.length ≤ 1048576 := HX.out.2.2.2; omega) (cxB_one HTT.out HFT.out)).mono ?_
  rintro en w7 ⟨rfl, hb7⟩
  have HV7 := zh (HV6.out.later hb7)
  have HF7 := zh (HF6.out.trans (Fr.of_below hb7 _))
  have HC7 := zh (HC6.out.below hb7 HC6.out.lt)
  have HO7 := zh (HO6.out.below hb7 HO6.out.lt)
  have HH7 := zh (HH6.out.below hb7 HH6.out.lt)
  have HI7 := zh (HI6.out.below hb7 HI6.out.lt)
  have HN7 := zh (HN6.out.below hb7 HN6.out.lt)
  have HR7 := zh (ownsRow_keep HR6.out hb7)
  clear hb7
  rw [show chk ⟨spcOf m (gsOf m) (bsOf m) (msOf m), y, x⟩ = codC m n x from by rw [codC, ← HOW.out]; exact chk_fn (fnA_told HFT.out).1 (fnA_told HFT.out).2]
  obtain ⟨p, hp⟩ : ∃ p, p = codC m n x := ⟨_, rfl⟩
  rw [← hp]
  have HP := zh hp
  clear hp
  obtain ⟨ph, pe⟩ := p
  simp only
  refine hK.out _ _ ⟨HC7.out.cell 0, HV7.out.s, HN7.out, HI7.out⟩ (still_none _ _) ?_
  clear hK K
  (try simp only [Act.put, sA, sB, sC])
  repeat (first | (refine ts_take (v := .agg y.cs.toArray) rfl rfl (fun w' hw' => exec_load (lies_range hw'.2.2.1) _ rfl rfl Tryz.underlying51 rfl sizeFt) ?_; (try simp only [Act.put, sA, sB, sC])) | (refine ts_take (v := .agg x.cs.toArray) rfl rfl (fun w' hw' => exec_load (lies_range hw'.2.2.2) _ rfl rfl Tryz.underlying48 rfl sizeCod) ?_; (try simp only [Act.put, sA, sB, sC])) | (refine ts_take (v := ?_) rfl rfl (fun w' hw' => ?_) ?_; rotate_left; (focus (obtain ⟨q0, q1, q2, q3⟩ := hw'; (try simp only [Act.put, sA, sB, sC]); go_simp; (try go_bits); (try (with_reducible rfl)))); (try simp only [Act.put, sA, sB, sC])) | (refine ts_skip rfl rfl ?_; (try simp only [Act.put, sA, sB, sC])))
  refine ts_done ?_
  have cc : w7.cell? ⟨cb, 0, none⟩ = some (.pointer (some ⟨kb, 0, none⟩)) := HC7.out.cell 0
  have xH0 : w7.cell? ⟨hb, 0, none⟩ = some (.slice hs n hcp) := HH7.out.cell 0
  go_wp2_with fail
  clear cc xH0 
  refine (must_any HV7.out _ pe).mono ?_
  rintro en w8 ⟨rfl, hv, hf⟩
  have HV8 := zh hv
  have HF8 := zh (HF7.out.trans hf)
  have HC8 := zh (HV7.out.keep HC7.out (by decide) hf)
  have HO8 := zh (HV7.out.keep HO7.out (by decide) hf)
  have HH8 := zh (HV7.out.keep HH7.out (by decide) hf)
  have HI8 := zh (HV7.out.keep HI7.out (by decide) hf)
  have HN8 := zh (HV7.out.keep HN7.out (by decide) hf)
  have HR8 := zh (HV7.out.row HR7.out (by decide) hf)
  clear hv hf
  have cc : w8.cell? ⟨cb, 0, none⟩ = some (.pointer (some ⟨kb, 0, none⟩)) := HC8.out.cell 0
  have xH0 : w8.cell? ⟨hb, 0, none⟩ = some (.slice hs n hcp) := HH8.out.cell 0
  go_wp2_with (first | (refine wl_int ph _ rfl rfl rfl (fun w9 hb9 hs9 => ?_); have HV9 := zh (HV8.out.later hb9); have HF9 := zh (HF8.out.trans (Fr.of_below hb9 _)); have HC9 := zh (HC8.out.below hb9 HC8.out.lt); have HO9 := zh (HO8.out.below hb9 HO8.out.lt); have HH9 := zh (HH8.out.below hb9 HH8.out.lt); have HR9 := zh (ownsRow_keep HR8.out hb9); have HS := zh hs9; clear hb9 hs9; (try simp only [Act.put, sA, sB, sC])) | (refine wl_app (by_ := 8) _ _ rfl rfl und_ints inf_int (by decide) rfl HR9.out (en := ic) (fun _ => rfl) rfl HS.out (fun z _ u hu => by obtain rfl := List.mem_singleton.1 hu; rfl) (by unfold maxLen; simp; omega) (by simp; omega) (Nat.le_trans HBW.out HF9.out.size) (fun v8 w10 hr8 hg8 hno => ?_); have HG8 := zh hg8; have HR8 := zh hr8; obtain ⟨s8, c8, rfl, _, _⟩ := row_form hr8; clear hr8 hg8 hno; (try simp only [Act.put, sA, sB, sC])) | (refine wl_fld (lies_frT HH9.out (FrT.grown HR9.out HG8.out) (by decide)) _ _ rfl rfl rfl rfl [_] [_] rfl siz_ints (by intro u hu; obtain rfl := List.mem_singleton.1 hu; rfl) (by simp) rfl (fun w11 hl9 hf9 => ?_); have HLf := zh hl9; have HFf := zh hf9; clear hl9 hf9; (try simp only [Act.put])))
  go_end0
  have hfa := (FrT.grown HR9.out HG8.out).trans (FrT.field (lies_frT HH9.out (FrT.grown HR9.out HG8.out) (by decide)) HFf.out)
  have HVe := HV9.out.cell
  rw [show ((pe : Int) == 0) = (pe == 0) from by rw [Bool.eq_iff_iff, beq_iff_eq, beq_iff_eq]; omega] at HVe
  rw [← HP.out]
  refine ⟨rfl, _, ⟨?_, lies_frT HVe hfa (by decide), HV9.out.hk⟩, lies_frT HC9.out hfa (by decide), lies_frT HO9.out hfa (by decide), HLf.out, ?_, ?_⟩
  ·exact (HV9.out.bel.grown HG8.out HV9.out.bel.size (fun k hk => Nat.le_trans HBS.out (row_block HR9.out hk).1)).trans (HFf.out.below (Nat.le_trans HV9.out.bel.size HG8.out.size) (fun k hk => by rw [hk]; exact HB2.out))
  ·have h9 := row_frT HR8.out (FrT.field (lies_frT HH9.out (FrT.grown HR9.out HG8.out) (by decide)) HFf.out) (by decide)
   rw [List.length_append, List.flatMap_append, ← HN'.out]
   exact h9
  ·exact (((FrT.field HV0.out.cell HF9.out).trans hfa)).sub (by decide)
 ·go_simp
  obtain ⟨w3, hwn⟩ : ∃ w3, w3 = w2.alloc (.cells #[.slice none 0 0, .slice none 0 0] 51) := ⟨_, rfl⟩
  have hb3 : Below w2.heap.size w2 w3 := hwn ▸ (Below.refl _ _).alloc (Nat.le_refl _) _
  have HN3 := zh (show Lies w3 w2.heap.size 51 #[.slice none 0 0, .slice none 0 0] from hwn ▸ Lies.new _ _ _)
  rw [← hwn]
  clear hwn
  have HV3 := zh (HV2.out.later hb3)
  have HF3 := zh (HF2.out.trans (Fr.of_below hb3 _))
  have HC3 := zh (HC2.out.below hb3 HC2.out.lt)
  have HO3 := zh (HO2.out.below hb3 HO2.out.lt)
  have HH3 := zh (HH2.out.below hb3 HH2.out.lt)
  have HI3 := zh (HI2.out.below hb3 HI2.out.lt)
  have HR3 := zh (ownsRow_keep HR2.out hb3)
  obtain ⟨Bn, hBn⟩ : ∃ Bn, Bn = w2.heap.size := ⟨_, rfl⟩
  rw [← hBn] at HN3 ⊢
  have hBw : w.heap.size ≤ Bn := by rw [hBn]; exact HF2.out.size
  clear hBn
  clear hb3
  refine hK.out _ _ ⟨(HC3.out.cell 0), HV3.out.s, (HO3.out.cell 0), (HH3.out.cell 0)⟩ ?_
  clear hK K
  (try simp only [Act.put, sA, sB, sC])
  refine RP.t_run rfl (fun K hK => ?_)
  go_simp
  refine (func_anyI (i := own + n) HM.out (spx_later HSP.out HV3.out.bel).sp hi (by omega)).mono ?_
  rintro en w4 ⟨y, rfl, ho, ht, hb4⟩
  have HV4 := zh (HV3.out.later hb4)
  have HF4 := zh (HF3.out.trans (Fr.of_below hb4 _))
  have HC4 := zh (HC3.out.below hb4 HC3.out.lt)
  have HO4 := zh (HO3.out.below hb4 HO3.out.lt)
  have HH4 := zh (HH3.out.below hb4 HH3.out.lt)
  have HI4 := zh (HI3.out.below hb4 HI3.out.lt)
  have HN4 := zh (HN3.out.below hb4 HN3.out.lt)
  have HR4 := zh (ownsRow_keep HR3.out hb4)
  have HOY := zh ho
  have HFT := zh ht
  have HLN := zh (fntold_len HM.out ht)
  clear ho ht
  clear hb4
  refine hK.out _ _ ⟨(HC4.out.cell 0), HV4.out.s, (HO4.out.cell 0), (HH4.out.cell 0)⟩ ?_
  clear hK K
  (try simp only [Act.put, sA, sB, sC])
  repeat (first | (refine RP.t_take (v := ?_) rfl rfl (fun w' hw' => ?_) ?_; rotate_left; (focus (obtain ⟨q0, q1, q2, q3⟩ := hw'; (try simp only [Act.put, sA, sB, sC]); go_simp; (try go_bits); (try (with_reducible rfl)))); (try simp only [Act.put, sA, sB, sC])) | (refine RP.t_skip rfl rfl ?_; (try simp only [Act.put, sA, sB, sC])))
  refine RP.t_run rfl (fun K hK => ?_)
  refine ite_of rfl ?_
  refine wp_put HN4.out y.cs _ _ rfl rfl rfl rfl sizeFt (oneFt (HOY.out.ok HLN.out.1 HLN.out.2)) (fun w5 hlc hfc => ?_)
  have HOY := zh (HOY.out.frT (FrT.field HN4.out hfc) (by decide))
  have HV5 := zh (HV4.out.put HN4.out (by decide) (Nat.le_trans HV0.out.bel.size hBw) hfc)
  have HF5 := zh (fr_new HF4.out hfc hBw)
  have HC5 := zh (lies_frT HC4.out (FrT.field HN4.out hfc) (by decide))
  have HO5 := zh (lies_frT HO4.out (FrT.field HN4.out hfc) (by decide))
  have HH5 := zh (lies_frT HH4.out (FrT.field HN4.out hfc) (by decide))
  have HI5 := zh (lies_frT HI4.out (FrT.field HN4.out hfc) (by decide))
  have HR5 := zh (row_frT HR4.out (FrT.field HN4.out hfc) (by decide))
  have HN5 := zh hlc
  refine hK.out _ _ ⟨(HC5.out.cell 0), HV5.out.s, (HO5.out.cell 0), (HH5.out.cell 0)⟩ ?_
  clear hK K
  (try simp only [Act.put])
  repeat (first | (refine RP.t_take (v := ?_) rfl rfl (fun w' hw' => ?_) ?_; rotate_left; (focus (obtain ⟨q0, q1, q2, q3⟩ := hw'; (try simp only [Act.put, sA, sB, sC]); go_simp; (try go_bits); (try (with_reducible rfl)))); (try simp only [Act.put, sA, sB, sC])) | (refine RP.t_skip rfl rfl ?_; (try simp only [Act.put, sA, sB, sC])))
  refine RP.t_done ?_
  clear hlc hfc
  clear hw1
  go_wp2_with fail
  have hd6 := below_drew w5
  have HV6 := zh (HV5.out.later hd6)
  have HF6 := zh (HF5.out.trans (Fr.of_below hd6 _))
  have HC6 := zh (HC5.out.below hd6 HC5.out.lt)
  have HO6 := zh (HO5.out.below hd6 HO5.out.lt)
  have HH6 := zh (HH5.out.below hd6 HH5.out.lt)
  have HI6 := zh (HI5.out.below hd6 HI5.out.lt)
  have HN6 := zh (HN5.out.below hd6 HN5.out.lt)
  have HR6 := zh (ownsRow_keep HR5.out hd6)
  refine wp_region_t [(0, 1), (1, 1), (2, 1), (3, 1), (4, 1), (5, 1), (6, 0), (7, 1), (8, 1), (9, 1), (10, 1), (11, 1)] (fun w' => w'.cell? ⟨cb, 0, none⟩ = some (.pointer (some ⟨kb, 0, none⟩)) ∧ w'.cell? ⟨kb, 12, none⟩ = some (.pointer (some ⟨S0, 0, none⟩)) ∧ Lies w' Bn 51 y.cs.toArray ∧ Lies w' Bi 48 x.cs.toArray) [] [] rfl (by kernel_rfl) (by kernel_rfl) (fun _ _ d _ _ h => by cases d <;> exact h) ⟨HC6.out.cell 0, HV6.out.s, HN6.out, HI6.out⟩ (fun p hp => by cases hp) ?_
  replace HOY := zh (HOY.out.later hd6)
  clear hd6
  generalize w5.drew = w6 at HV6 HF6 HC6 HO6 HH6 HI6 HN6 HR6 HOY ⊢
  repeat (first | (refine ts_take (v := .agg y.cs.toArray) rfl rfl (fun w' hw' => exec_load (lies_range hw'.2.2.1) _ rfl rfl Tryz.underlying51 rfl sizeFt) ?_; (try simp only [Act.put, sA, sB, sC])) | (refine ts_take (v := .agg x.cs.toArray) rfl rfl (fun w' hw' => exec_load (lies_range hw'.2.2.2) _ rfl rfl Tryz.underlying48 rfl sizeCod) ?_; (try simp only [Act.put, sA, sB, sC])) | (refine ts_take (v := ?_) rfl rfl (fun w' hw' => ?_) ?_; rotate_left; (focus (obtain ⟨q0, q1, q2, q3⟩ := hw'; (try simp only [Act.put, sA, sB, sC]); go_simp; (try go_bits); (try (with_reducible rfl)))); (try simp only [Act.put, sA, sB, sC])) | (refine ts_skip rfl rfl ?_; (try simp only [Act.put, sA, sB, sC])))
  refine ts_run1 rfl rfl (fun K hK => ?_)
  go_simp
  refine (check_anyK (K := 1) (fn := y) (c := x) (m := m) (GS := gsOf m) (BS := bsOf m) (MS := msOf m) ⟨Nat.le_refl _, by decide⟩ (spx_later HSP.out HV6.out.bel) (HM.out.later HV6.out.bel) (HOY.out.ok HLN.out.1 HLN.out.2) (HX.out.later HV6.out.bel) (by have : x.body.length ≤ 1048576 := HX.out.2.2.2; omega) (cxB_one HTT.out HFT.out)).mono ?_
  rintro en w7 ⟨rfl, hb7⟩
  have HV7 := zh (HV6.out.later hb7)
  have HF7 := zh (HF6.out.trans (Fr.of_below hb7 _))
  have HC7 := zh (HC6.out.below hb7 HC6.out.lt)
  have HO7 := zh (HO6.out.below hb7 HO6.out.lt)
  have HH7 := zh (HH6.out.below hb7 HH6.out.lt)
  have HI7 := zh (HI6.out.below hb7 HI6.out.lt)
  have HN7 := zh (HN6.out.below hb7 HN6.out.lt)
  have HR7 := zh (ownsRow_keep HR6.out hb7)
  clear hb7
  rw [show chk ⟨spcOf m (gsOf m) (bsOf m) (msOf m), y, x⟩ = codC m n x from by rw [codC, ← HOW.out]; exact chk_fn (fnA_told HFT.out).1 (fnA_told HFT.out).2]
  obtain ⟨p, hp⟩ : ∃ p, p = codC m n x := ⟨_, rfl⟩
  rw [← hp]
  have HP := zh hp
  clear hp
  obtain ⟨ph, pe⟩ := p
  simp only
  refine hK.out _ _ ⟨HC7.out.cell 0, HV7.out.s, HN7.out, HI7.out⟩ (still_none _ _) ?_
  clear hK K
  (try simp only [Act.put, sA, sB, sC])
  repeat (first | (refine ts_take (v := .agg y.cs.toArray) rfl rfl (fun w' hw' => exec_load (lies_range hw'.2.2.1) _ rfl rfl Tryz.underlying51 rfl sizeFt) ?_; (try simp only [Act.put, sA, sB, sC])) | (refine ts_take (v := .agg x.cs.toArray) rfl rfl (fun w' hw' => exec_load (lies_range hw'.2.2.2) _ rfl rfl Tryz.underlying48 rfl sizeCod) ?_; (try simp only [Act.put, sA, sB, sC])) | (refine ts_take (v := ?_) rfl rfl (fun w' hw' => ?_) ?_; rotate_left; (focus (obtain ⟨q0, q1, q2, q3⟩ := hw'; (try simp only [Act.put, sA, sB, sC]); go_simp; (try go_bits); (try (with_reducible rfl)))); (try simp only [Act.put, sA, sB, sC])) | (refine ts_skip rfl rfl ?_; (try simp only [Act.put, sA, sB, sC])))
  refine ts_done ?_
  have cc : w7.cell? ⟨cb, 0, none⟩ = some (.pointer (some ⟨kb, 0, none⟩)) := HC7.out.cell 0
  have xH0 : w7.cell? ⟨hb, 0, none⟩ = some (.slice hs n hcp) := HH7.out.cell 0
  go_wp2_with fail
  clear cc xH0 
  refine (must_any HV7.out _ pe).mono ?_
  rintro en w8 ⟨rfl, hv, hf⟩
  have HV8 := zh hv
  have HF8 := zh (HF7.out.trans hf)
  have HC8 := zh (HV7.out.keep HC7.out (by decide) hf)
  have HO8 := zh (HV7.out.keep HO7.out (by decide) hf)
  have HH8 := zh (HV7.out.keep HH7.out (by decide) hf)
  have HI8 := zh (HV7.out.keep HI7.out (by decide) hf)
  have HN8 := zh (HV7.out.keep HN7.out (by decide) hf)
  have HR8 := zh (HV7.out.row HR7.out (by decide) hf)
  clear hv hf
  have cc : w8.cell? ⟨cb, 0, none⟩ = some (.pointer (some ⟨kb, 0, none⟩)) := HC8.out.cell 0
  have xH0 : w8.cell? ⟨hb, 0, none⟩ = some (.slice hs n hcp) := HH8.out.cell 0
  go_wp2_with (first | (refine wl_int ph _ rfl rfl rfl (fun w9 hb9 hs9 => ?_); have HV9 := zh (HV8.out.later hb9); have HF9 := zh (HF8.out.trans (Fr.of_below hb9 _)); have HC9 := zh (HC8.out.below hb9 HC8.out.lt); have HO9 := zh (HO8.out.below hb9 HO8.out.lt); have HH9 := zh (HH8.out.below hb9 HH8.out.lt); have HR9 := zh (ownsRow_keep HR8.out hb9); have HS := zh hs9; clear hb9 hs9; (try simp only [Act.put, sA, sB, sC])) | (refine wl_app (by_ := 8) _ _ rfl rfl und_ints inf_int (by decide) rfl HR9.out (en := ic) (fun _ => rfl) rfl HS.out (fun z _ u hu => by obtain rfl := List.mem_singleton.1 hu; rfl) (by unfold maxLen; simp; omega) (by simp; omega) (Nat.le_trans HBW.out HF9.out.size) (fun v8 w10 hr8 hg8 hno => ?_); have HG8 := zh hg8; have HR8 := zh hr8; obtain ⟨s8, c8, rfl, _, _⟩ := row_form hr8; clear hr8 hg8 hno; (try simp only [Act.put, sA, sB, sC])) | (refine wl_fld (lies_frT HH9.out (FrT.grown HR9.out HG8.out) (by decide)) _ _ rfl rfl rfl rfl [_] [_] rfl siz_ints (by intro u hu; obtain rfl := List.mem_singleton.1 hu; rfl) (by simp) rfl (fun w11 hl9 hf9 => ?_); have HLf := zh hl9; have HFf := zh hf9; clear hl9 hf9; (try simp only [Act.put])))
  go_end0
  have hfa := (FrT.grown HR9.out HG8.out).trans (FrT.field (lies_frT HH9.out (FrT.grown HR9.out HG8.out) (by decide)) HFf.out)
  have HVe := HV9.out.cell
  rw [show ((pe : Int) == 0) = (pe == 0) from by rw [Bool.eq_iff_iff, beq_iff_eq, beq_iff_eq]; omega] at HVe
  rw [← HP.out]
  refine ⟨rfl, _, ⟨?_, lies_frT HVe hfa (by decide), HV9.out.hk⟩, lies_frT HC9.out hfa (by decide), lies_frT HO9.out hfa (by decide), HLf.out, ?_, ?_⟩
  ·exact (HV9.out.bel.grown HG8.out HV9.out.bel.size (fun k hk => Nat.le_trans HBS.out (row_block HR9.out hk).1)).trans (HFf.out.below (Nat.le_trans HV9.out.bel.size HG8.out.size) (fun k hk => by rw [hk]; exact HB2.out))
  ·have h9 := row_frT HR8.out (FrT.field (lies_frT HH9.out (FrT.grown HR9.out HG8.out) (by decide)) HFf.out) (by decide)
   rw [List.length_append, List.flatMap_append, ← HN'.out]
   exact h9
  ·exact (((FrT.field HV0.out.cell HF9.out).trans hfa)).sub (by decide)
end Go.Proofs.YtmgjcaikldeioaaGreat.Va
/- valid.Check: what it tells is vchk's. -/
namespace Go.Proofs.YtmgjcaikldeioaaGreat.Va
open Go Go.RowKit Go.Lib Kt Fm Gr Ty

theorem mst_back {e x : Nat} {b : Bool} (hx : x ≠ 0) (h : mst e b x = 0) : e = 0 := ((mst_zero hx).1 h).1
theorem eachE_back {α : Type} {f : α → Nat → Nat} {l : List α} {e : Nat} (h : eachE f l e = 0) : e = 0 := by
 by_cases he : e = 0
 ·exact he
 ·rw [eachE_ne he] at h; exact h
theorem constE_back {m : Mod} {l : List Ins} {t : UInt8} {e : Nat} (h : constE m l t e = 0) : e = 0 := by
 by_cases he : e = 0
 ·exact he
 ·unfold constE at h
  split at h
  ·rw [if_pos he] at h; exact h
  ·exact mst_back (by decide) h
theorem limO_back {o : Option Lim} {k : Int} {e : Nat} (h : limO o k e = 0) : e = 0 := by
 cases o with
 | none => exact h
 | some l => exact mst_back (by decide) (mst_back (by decide) h)
theorem storesE_back {m : Mod} {e : Nat} (h : storesE m e = 0) : e = 0 := mst_back (by decide) (limO_back (limO_back h))
theorem expE_ne {m : Mod} {l : List Exp} {ns : List (List UInt8)} {e : Nat} (h : e ≠ 0) : expE m l ns e = e := by
 cases l with
 | nil => rfl
 | cons x r => exact if_neg h
theorem expE_back {m : Mod} {l : List Exp} {ns : List (List UInt8)} {e : Nat} (h : expE m l ns e = 0) : e = 0 := by
 by_cases he : e = 0
 ·exact he
 ·rw [expE_ne he] at h; exact h
theorem typE_back {t : Ft} {e : Nat} (h : typE t e = 0) : e = 0 := mst_back (by decide) h
theorem start_back {b : Bool} {s : Bool} {e : Nat} (h : (if b then mst e s 113 else e) = 0) : e = 0 := by
 split at h
 ·exact mst_back (by decide) h
 ·exact h
theorem fore_types {m : Mod} (h : fore m = 0) : ∀ t ∈ m.types, t.r.length ≤ 1 := by
 have h9 : fore9 m = 0 := start_back (eachE_back h)
 have h4 : fore4 m = 0 := eachE_back (eachE_back (storesE_back (eachE_back (expE_back h9))))
 have h2 := ((eachE_zero (f := typE) (fun x e => typE_back)).1 h4).2
 intro t ht
 have h3 := ((mst_zero (by decide)).1 (h2 t ht)).2
 rw [Bool.and_eq_true, Bool.and_eq_true, decide_eq_true_eq] at h3
 exact h3.1.1
theorem codE_snoc {m : Mod} (x : Cod) : ∀ {l : List Cod} {H : List Nat} {e : Nat}, (codE m l H e).2 = 0 → codE m (l ++ [x]) H e = ((codE m l H e).1 ++ [(codC m (codE m l H e).1.length x).1], mst 0 ((codC m (codE m l H e).1.length x).2 == 0) (codC m (codE m l H e).1.length x).2)
 | [], H, e, h => by
  have h : e = 0 := h
  subst h
  rfl
 | y :: r, H, e, h => by
  rw [List.cons_append, codE] at *
  by_cases he : e = 0
  ·subst he
   rw [if_pos rfl] at *
   exact codE_snoc x h
  ·rw [if_neg he] at h; exact absurd h he
theorem codE_ne {m : Mod} {l : List Cod} {H : List Nat} {e : Nat} (h : e ≠ 0) : codE m l H e = (H, e) := by
 cases l with
 | nil => rfl
 | cons x r => exact if_neg h
theorem codE_app {m : Mod} (l2 : List Cod) : ∀ {l : List Cod} {H : List Nat} {e : Nat}, (codE m l H e).2 ≠ 0 → codE m (l ++ l2) H e = codE m l H e
 | [], H, e, h => codE_ne h
 | y :: r, H, e, h => by
  rw [List.cons_append, codE] at *
  by_cases he : e = 0
  ·subst he
   rw [if_pos rfl] at *
   rw [codE, if_pos rfl]
   exact codE_app l2 h
  ·rw [if_neg he, codE, if_neg he]
theorem codE_len {m : Mod} : ∀ (l : List Cod) (H : List Nat) (e : Nat), (codE m l H e).1.length ≤ H.length + l.length
 | [], H, e => Nat.le_refl _
 | y :: r, H, e => by
  rw [codE]
  split
  ·refine Nat.le_trans (codE_len r _ _) ?_
   simp only [List.length_append, List.length_cons, List.length_nil]
   omega
  ·exact Nat.le_add_right _ _
theorem codE_back {m : Mod} {l : List Cod} {H : List Nat} {e : Nat} (h : (codE m l H e).2 = 0) : e = 0 := by
 by_cases he : e = 0
 ·exact he
 ·rw [codE_ne he] at h; exact h
theorem beqI (a b : Nat) : ((a : Int) == (b : Int)) = (a == b) := by rw [Bool.eq_iff_iff, beq_iff_eq, beq_iff_eq]; omega
theorem ent_1 : EnterOk 31 := fun args w => by go_simp
theorem ent_2 : EnterOk 33 := fun args w => by go_simp
theorem ent_3 : EnterOk 35 := fun args w => by go_simp
theorem ent_4 : EnterOk 39 := fun args w => by go_simp
theorem ent_5 : EnterOk 42 := fun args w => by go_simp
theorem ent_6 : EnterOk 47 := fun args w => by go_simp
theorem ent_7 : EnterOk 51 := fun args w => by go_simp
theorem ent_8 : EnterOk 53 := fun args w => by go_simp
theorem ent_i : EnterOk 37 := fun args w => by go_simp
theorem oneElm {w : World} {x : Elm} (h : ElmOk w x) : (x.cs.toArray.all (·.oneCell')) = true := by
 obtain ⟨s, c, e, _⟩ := h.2.1.1.form
 obtain ⟨s2, c2, e2, _⟩ := h.2.2.1.form
 simp [Elm.cs, e, e2, Value.oneCell']
theorem oneDat {w : World} {x : Dat} (h : DatOk w x) : (x.cs.toArray.all (·.oneCell')) = true := by
 obtain ⟨s, c, e, _⟩ := h.2.1.1.form
 obtain ⟨s2, c2, e2, _⟩ := h.2.2.1.form
 simp [Dat.cs, e, e2, Value.oneCell']
theorem bld_vk (p : Option Addr) (a0 a1 a2 a3 a4 a5 a6 a7 a8 a9 a10 a11 : Value) (w : World) : (Instr.build 94 #[(0, .agg #[a0, a1, a2, a3, a4, a5, a6, a7, a8, a9, a10, a11]), (1, .pointer p)]).run Tryz.prog w = .ok (.agg #[a0, a1, a2, a3, a4, a5, a6, a7, a8, a9, a10, a11, .pointer p, .int .i64 0]) w := by kernel_rfl
theorem exec_vk {op : Oper} {act : Act} {w : World} {S0 : Nat} {m : Mod} (p0 p1 : Operand) (ho : op.op = .build 94 #[(0, p0), (1, p1)]) (h0 : act.eval p0 = .agg m.cs.toArray) (h1 : act.eval p1 = .pointer (some ⟨S0, 0, none⟩)) :
  (execOp act.eval op).run Tryz.prog w = .ok (.value (.agg (vcs m S0 0).toArray)) w := by
 have hb := bld_vk (some ⟨S0, 0, none⟩) m.tv m.iv m.fv m.bv m.mv m.gv m.ev (.bool m.hs) (.int .u32 m.st) m.ev2 m.cv m.dv w
 have e1 : m.cs.toArray = #[m.tv, m.iv, m.fv, m.bv, m.mv, m.gv, m.ev, .bool m.hs, .int .u32 m.st, m.ev2, m.cv, m.dv] := rfl
 have e2 : (vcs m S0 0).toArray = #[m.tv, m.iv, m.fv, m.bv, m.mv, m.gv, m.ev, .bool m.hs, .int .u32 m.st, m.ev2, m.cv, m.dv, .pointer (some ⟨S0, 0, none⟩), .int .i64 0] := rfl
 unfold execOp
 simp [ho, h0, h1, e1, e2, hb]
theorem wp_boxC {P : Program} {op : Oper} {a : Act} {w : World} {K : Act → World → Prop} {Q : Exit → Act → World → Prop} {ty : TypeId} (cs : List Value) (p : Operand) (ho : op.op = .box ty p) (hx : a.eval p = .agg cs.toArray) (hk : ∀ w1, Below w.heap.size w w1 → Lies w1 w.heap.size ty cs.toArray → K (a.put op.dst (.pointer (some ⟨w.heap.size, 0, none⟩))) w1) : op.wp P a w K Q := by
 unfold Oper.wp execOp
 simp only [ho, hx]
 go_simp
 exact hk _ ((Below.refl _ _).alloc (Nat.le_refl _) _) (Lies.new w _ _)
/-- What Check has behind its first lines. -/
structure Be (W : World) (m : Mod) (Bm : Nat) (W1 : World) (S0 kb cb : Nat) (e : Nat) (w : World) : Prop where
 bel : Below W.heap.size W W1
 sp : SpX W1 S0 m
 vk : Vk W1 kb S0 m e w
 cb : Lies w cb 92 #[.pointer (some ⟨kb, 0, none⟩)]
 md : Lies w Bm 33 m.cs.toArray
section
variable {W : World} {m : Mod} {Bm : Nat} {W1 : World} {S0 kb cb e : Nat} {w w' : World}
theorem Be.later (h : Be W m Bm W1 S0 kb cb e w) (hb : Below w.heap.size w w') : Be W m Bm W1 S0 kb cb e w' := ⟨h.bel, h.sp, h.vk.later hb, h.cb.below hb h.cb.lt, h.md.below hb h.md.lt⟩
theorem Be.turn {e' : Nat} (h : Be W m Bm W1 S0 kb cb e w) (hv : Vk W1 kb S0 m e' w') (hf : Fr w w' (fun k => k = kb)) : Be W m Bm W1 S0 kb cb e' w' := ⟨h.bel, h.sp, hv, h.vk.keep h.cb (by decide) hf, h.vk.keep h.md (by decide) hf⟩
end
theorem siz_pc : (Tryz.prog.info? 92).map (·.size) = some 1 := by kernel_rfl
theorem spx_frT {es : List TypeId} {w w2 : World} {S0 : Nat} {m : Mod} (h : SpX w S0 m) (hf : FrT es w w2) (he : (spKinds.all fun t => !es.contains t) = true) : SpX w2 S0 m := by
 obtain ⟨B, TS, tv, fv, gv, bv, mv, ev, h, hm⟩ := h
 exact ⟨B, TS, tv, fv, gv, bv, mv, ev, h.other hf he, hm⟩
theorem below_swap {w w5 wz : World} {cb : Nat} {t : TypeId} {c c' : Array Value} (h5 : Below w.heap.size w w5) (hl : Lies w cb t c) (hz : Lies wz cb t c') (hf : Fr w5 wz (fun k => k = cb)) : ∃ w', Fr w w' (fun k => k = cb) ∧ w'.heap.size = w.heap.size ∧ Below w'.heap.size w' wz := by
 refine ⟨{ w with heap := w.heap.setIfInBounds cb (.cells c' t (0, 0)) }, ⟨rfl, rfl, rfl, Nat.le_of_eq (by simp), fun k hk hn => ?_⟩, by simp, ⟨hf.os.trans h5.os, hf.tape.trans h5.tape, hf.output.trans h5.output, ?_, fun k hk => ?_⟩⟩
 ·simp only [Array.getElem?_setIfInBounds]
  rw [if_neg (fun e => hn e.symm)]
 ·simp only [Array.size_setIfInBounds]
  exact Nat.le_trans h5.size hf.size
 ·simp only [Array.size_setIfInBounds] at hk
  simp only [Array.getElem?_setIfInBounds]
  by_cases e : cb = k
  ·subst e
   rw [if_pos rfl, if_pos hl.lt]
   exact hz
  ·rw [if_neg e]
   exact (hf.block k (Nat.lt_of_lt_of_le hk h5.size) (fun c => e c.symm)).trans (h5.block k hk)
set_option maxRecDepth 100000 in
set_option maxHeartbeats 16000000 in
theorem vcheck_any {W : World} {m : Mod} (hm : ModOk W m) :
  Calls Tryz.prog 9 #[.agg m.cs.toArray] W fun en w' => ∃ v, en = .returned (.tuple #[v, .int .i64 (vchk m).2]) ∧ Sl w' 1 ic v (vchk m).1 ∧ Below W.heap.size W w' := by
 have HM := zh hm
 obtain ⟨sc, cc0, hcv, _⟩ := hm.2.2.2.2.2.2.2.2.2.1.1.form
 obtain ⟨sf, cf0, hfv, _⟩ := hm.2.2.1.1.form
 have HCV := zh hcv
 have HFV := zh hfv
 clear hm hcv hfv
 go_enter Tryz.func9, Tryz.ntmps9
 go_wp2_with (refine wl_box m.cs _ rfl rfl rfl (fun w1 hb1 hl1 => ?_); have HB1 := zh hb1; have HL1 := zh hl1; obtain ⟨Bm, hBm⟩ : ∃ Bm, Bm = W.heap.size := ⟨_, rfl⟩; rw [← hBm] at HL1 ⊢; clear hBm hb1 hl1; (try simp only [Act.put, sA, sB, sC]))
 go_cut [4] from 9 to 13 (fun u wx => ∃ W1 S0 kb cb, u = .pointer (some ⟨cb, 0, none⟩) ∧ Be W m Bm W1 S0 kb cb 0 wx)
 case first =>
  have hd := below_drew w1
  have HL2 := zh (HL1.out.below hd HL1.out.lt)
  have HB2 := zh (bt HB1.out hd)
  refine RP.region (RP.take 0 (RP.take 1 (RP.fork 2 5 (RP.take 3 (RP.fork 4 5 (RP.run 5 (RP.run 6 RP.done)) (RP.run 4 (RP.run 6 RP.done)))) (RP.run 2 (RP.take 3 (RP.run 4 (RP.run 6 RP.done))))))) (fun w' => Lies w' Bm 33 m.cs.toArray) (by kernel_rfl) (by kernel_rfl) (fun _ _ d _ _ h => by cases d <;> exact h) HL2.out (fun _ => ?_)
  clear hd
  generalize w1.drew = w2 at HL2 HB2 ⊢
  repeat (first | (refine RP.t_take (v := .agg m.cs.toArray) rfl rfl (fun w' hw' => exec_load (lies_range hw') _ rfl rfl Tryz.underlying33 rfl sizeMod) ?_; (try simp only [Act.put, sA, sB, sC])) | (refine RP.t_take (v := .agg (vcs m S0 0).toArray) rfl rfl (fun w' _ => exec_vk _ _ rfl rfl rfl) ?_; (try simp only [Act.put, sA, sB, sC])))
  refine RP.t_fork rfl rfl (fun K hK => ?_) (fun K hK => ?_)
  ·go_simp
   refine (sofX_any (HM.out.later HB2.out)).mono ?_
   rintro en w3 ⟨S0, rfl, hsp, _, hbs⟩
   have HSP := zh hsp
   have HLs := zh (HL2.out.below hbs HL2.out.lt)
   have HBs := zh (bt HB2.out hbs)
   have hw3 := HBs.out.size
   clear hsp hbs
   refine hK.out _ _ HLs.out ?_
   clear hK K
   (try simp only [Act.put, sA, sB, sC])
   repeat (first | (refine RP.t_take (v := .agg m.cs.toArray) rfl rfl (fun w' hw' => exec_load (lies_range hw') _ rfl rfl Tryz.underlying33 rfl sizeMod) ?_; (try simp only [Act.put, sA, sB, sC])) | (refine RP.t_take (v := .agg (vcs m S0 0).toArray) rfl rfl (fun w' _ => exec_vk _ _ rfl rfl rfl) ?_; (try simp only [Act.put, sA, sB, sC])))
   refine RP.t_fork rfl rfl (fun K hK => ?_) (fun K hK => ?_)
   ·refine ite_of rfl ?_
    refine wp_boxC (vcs m S0 0) _ rfl rfl (fun w4 hbk hlk => ?_)
    have HLk := zh (HLs.out.below hbk HLs.out.lt)
    have HKK := zh hlk
    obtain ⟨kb, hkb⟩ : ∃ kb, kb = w3.heap.size := ⟨_, rfl⟩
    rw [← hkb] at HKK ⊢
    have HB4 := zh hbk
    have HK0 := zh (show w3.heap.size ≤ kb from Nat.le_of_eq hkb.symm)
    clear hkb hbk hlk
    refine hK.out _ _ HLk.out ?_
    clear hK K
    (try simp only [Act.put, sA, sB, sC])
    refine RP.t_run rfl (fun K hK => ?_)
    go_simp
    obtain ⟨w5, hwn⟩ : ∃ w5, w5 = w4.alloc (.cells #[.pointer none] 92) := ⟨_, rfl⟩
    have hba : Below w4.heap.size w4 w5 := hwn ▸ (Below.refl _ _).alloc (Nat.le_refl _) _
    have HCC := zh (show Lies w5 w4.heap.size 92 #[.pointer none] from hwn ▸ Lies.new _ _ _)
    rw [← hwn]
    have HLa := zh (HLk.out.below hba HLk.out.lt)
    obtain ⟨cb, hcb⟩ : ∃ cb, cb = w4.heap.size := ⟨_, rfl⟩
    rw [← hcb] at HCC ⊢
    replace HKK := zh (HKK.out.below hba HKK.out.lt)
    have HB5 := zh (bt HB4.out hba)
    have HCB := zh (show w3.heap.size ≤ cb from by rw [hcb]; exact HB4.out.size)
    clear hcb hwn hba
    refine hK.out _ _ HLa.out ?_
    clear hK K
    (try simp only [Act.put, sA, sB, sC])
    refine RP.t_run rfl (fun K hK => ?_)
    refine ite_of rfl ?_
    refine wp_fld (c0 := [.pointer none]) HCC.out _ _ rfl rfl rfl [.pointer (some ⟨kb, 0, none⟩)] [.pointer (some ⟨kb, 0, none⟩)] rfl siz_pc (by intro u hu; obtain rfl := List.mem_singleton.1 hu; rfl) (by simp) rfl (fun wz hlz hfz => ?_)
    have HLz := zh (lies_frT HLa.out (FrT.field HCC.out hfz) (by decide))
    have HKz := zh (lies_frT HKK.out (FrT.field HCC.out hfz) (by decide))
    have HCz := zh hlz
    have HFz := zh hfz
    clear hlz hfz
    refine hK.out _ _ HLz.out ?_
    clear hK K
    (try simp only [Act.put])
    refine RP.t_done ?_
    go_wp2_with fail
    go_meet
    exact ⟨w3, S0, kb, cb, rfl, ⟨HBs.out, HSP.out, ⟨HB5.out.trans (HFz.out.below HB5.out.size (fun k hk => by rw [hk]; exact HCB.out)), HKz.out, HK0.out⟩, HCz.out, HLz.out⟩⟩
   ·go_simp
    obtain ⟨w4, hwn⟩ : ∃ w4, w4 = w3.alloc (.cells #[.pointer none] 92) := ⟨_, rfl⟩
    have hba : Below w3.heap.size w3 w4 := hwn ▸ (Below.refl _ _).alloc (Nat.le_refl _) _
    have HCC := zh (show Lies w4 w3.heap.size 92 #[.pointer none] from hwn ▸ Lies.new _ _ _)
    rw [← hwn]
    have HLa := zh (HLs.out.below hba HLs.out.lt)
    obtain ⟨cb, hcb⟩ : ∃ cb, cb = w3.heap.size := ⟨_, rfl⟩
    rw [← hcb] at HCC ⊢
    have HB4 := zh hba
    have HCB := zh (show w3.heap.size ≤ cb from Nat.le_of_eq hcb.symm)
    clear hcb hwn hba
    refine hK.out _ _ HLa.out ?_
    clear hK K
    (try simp only [Act.put, sA, sB, sC])
    refine RP.t_run rfl (fun K hK => ?_)
    refine ite_of rfl ?_
    refine wp_boxC (vcs m S0 0) _ rfl rfl (fun w5 hbk hlk => ?_)
    have HLk := zh (HLa.out.below hbk HLa.out.lt)
    have HKK := zh hlk
    obtain ⟨kb, hkb⟩ : ∃ kb, kb = w4.heap.size := ⟨_, rfl⟩
    rw [← hkb] at HKK ⊢
    replace HCC := zh (HCC.out.below hbk HCC.out.lt)
    have HB5 := zh (bt HB4.out hbk)
    have HK0 := zh (show w3.heap.size ≤ kb from by rw [hkb]; exact HB4.out.size)
    clear hkb hbk hlk
    refine hK.out _ _ HLk.out ?_
    clear hK K
    (try simp only [Act.put, sA, sB, sC])
    refine RP.t_run rfl (fun K hK => ?_)
    refine ite_of rfl ?_
    refine wp_fld (c0 := [.pointer none]) HCC.out _ _ rfl rfl rfl [.pointer (some ⟨kb, 0, none⟩)] [.pointer (some ⟨kb, 0, none⟩)] rfl siz_pc (by intro u hu; obtain rfl := List.mem_singleton.1 hu; rfl) (by simp) rfl (fun wz hlz hfz => ?_)
    have HLz := zh (lies_frT HLk.out (FrT.field HCC.out hfz) (by decide))
    have HKz := zh (lies_frT HKK.out (FrT.field HCC.out hfz) (by decide))
    have HCz := zh hlz
    have HFz := zh hfz
    clear hlz hfz
    refine hK.out _ _ HLz.out ?_
    clear hK K
    (try simp only [Act.put])
    refine RP.t_done ?_
    go_wp2_with fail
    go_meet
    exact ⟨w3, S0, kb, cb, rfl, ⟨HBs.out, HSP.out, ⟨HB5.out.trans (HFz.out.below HB5.out.size (fun k hk => by rw [hk]; exact HCB.out)), HKz.out, HK0.out⟩, HCz.out, HLz.out⟩⟩
  ·go_simp
   obtain ⟨w3, hwn⟩ : ∃ w3, w3 = w2.alloc (.cells #[.pointer none] 92) := ⟨_, rfl⟩
   have hba : Below w2.heap.size w2 w3 := hwn ▸ (Below.refl _ _).alloc (Nat.le_refl _) _
   have HCC := zh (show Lies w3 w2.heap.size 92 #[.pointer none] from hwn ▸ Lies.new _ _ _)
   rw [← hwn]
   have HLa := zh (HL2.out.below hba HL2.out.lt)
   obtain ⟨cb, hcb⟩ : ∃ cb, cb = w2.heap.size := ⟨_, rfl⟩
   rw [← hcb] at HCC ⊢
   have HB3 := zh (bt HB2.out hba)
   have HCW := zh (show W.heap.size ≤ cb from by rw [hcb]; exact HB2.out.size)
   clear hcb hwn hba
   refine hK.out _ _ HLa.out ?_
   clear hK K
   (try simp only [Act.put, sA, sB, sC])
   refine RP.t_run rfl (fun K hK => ?_)
   go_simp
   refine (sofX_any (HM.out.later HB3.out)).mono ?_
   rintro en w4 ⟨S0, rfl, hsp, _, hbs⟩
   have HSP := zh hsp
   have HLs := zh (HLa.out.below hbs HLa.out.lt)
   have HBs := zh (bt HB3.out hbs)
   replace HCC := zh (HCC.out.below hbs HCC.out.lt)
   clear hsp hbs
   refine hK.out _ _ HLs.out ?_
   clear hK K
   (try simp only [Act.put, sA, sB, sC])
   repeat (first | (refine RP.t_take (v := .agg m.cs.toArray) rfl rfl (fun w' hw' => exec_load (lies_range hw') _ rfl rfl Tryz.underlying33 rfl sizeMod) ?_; (try simp only [Act.put, sA, sB, sC])) | (refine RP.t_take (v := .agg (vcs m S0 0).toArray) rfl rfl (fun w' _ => exec_vk _ _ rfl rfl rfl) ?_; (try simp only [Act.put, sA, sB, sC])))
   refine RP.t_run rfl (fun K hK => ?_)
   refine ite_of rfl ?_
   refine wp_boxC (vcs m S0 0) _ rfl rfl (fun w5 hbk hlk => ?_)
   have HLk := zh (HLs.out.below hbk HLs.out.lt)
   have HKK := zh hlk
   obtain ⟨kb, hkb⟩ : ∃ kb, kb = w4.heap.size := ⟨_, rfl⟩
   rw [← hkb] at HKK ⊢
   have HC4 := zh HCC.out
   replace HCC := zh (HCC.out.below hbk HCC.out.lt)
   have HB5 := zh hbk
   have HK0 := zh (show w4.heap.size ≤ kb from Nat.le_of_eq hkb.symm)
   clear hkb hbk hlk
   refine hK.out _ _ HLk.out ?_
   clear hK K
   (try simp only [Act.put, sA, sB, sC])
   refine RP.t_run rfl (fun K hK => ?_)
   refine ite_of rfl ?_
   refine wp_fld (c0 := [.pointer none]) HCC.out _ _ rfl rfl rfl [.pointer (some ⟨kb, 0, none⟩)] [.pointer (some ⟨kb, 0, none⟩)] rfl siz_pc (by intro u hu; obtain rfl := List.mem_singleton.1 hu; rfl) (by simp) rfl (fun wz hlz hfz => ?_)
   have HLz := zh (lies_frT HLk.out (FrT.field HCC.out hfz) (by decide))
   have HKz := zh (lies_frT HKK.out (FrT.field HCC.out hfz) (by decide))
   have HCz := zh hlz
   obtain ⟨wq, hq1, hq2, hq3⟩ := below_swap HB5.out HC4.out hlz hfz
   have HQ2 := zh hq1
   have HQ3 := zh hq2
   have HQ4 := zh hq3
   clear hlz hfz hq1 hq2 hq3
   refine hK.out _ _ HLz.out ?_
   clear hK K
   (try simp only [Act.put])
   refine RP.t_done ?_
   go_wp2_with fail
   go_meet
   exact ⟨wq, S0, kb, cb, rfl, ⟨HBs.out.trans (HQ2.out.below HBs.out.size (fun k hk => by rw [hk]; exact HCW.out)), spx_frT HSP.out (FrT.field HC4.out HQ2.out) rfl, ⟨HQ4.out, HKz.out, by rw [HQ3.out]; exact HK0.out⟩, HCz.out, HLz.out⟩⟩
 case rest =>
  obtain ⟨W1, S0, kb, cb, rfl, hbe⟩ := hcut
  clear HB1 HL1
  have HB0 := zh hbe
  have HM1 := zh (HM.out.later hbe.bel)
  have HSP := zh hbe.sp
  have HBW := zh hbe.bel
  clear hbe
  have cc : wc.cell? ⟨cb, 0, none⟩ = some (.pointer (some ⟨kb, 0, none⟩)) := HB0.out.cb.cell 0
  have xM10 : wc.cell? ⟨Bm, 10, none⟩ = some (.slice sc m.codes.length cc0) := (HB0.out.md.cell 10).trans (congrArg some HCV.out)
  have xM2 : wc.cell? ⟨Bm, 2, none⟩ = some (.slice sf m.funcs.length cf0) := (HB0.out.md.cell 2).trans (congrArg some HFV.out)
  go_wp2_with fail
  clear cc xM10 xM2
  refine (must_any HB0.out.vk _ 2).mono ?_
  rintro en x1 ⟨rfl, hv, hf⟩
  obtain ⟨e1, he1⟩ : ∃ e', e' = mst 0 ((m.codes.length : Int) == (m.funcs.length : Int)) 2 := ⟨_, rfl⟩
  rw [← he1] at hv
  have HE1 := zh he1
  have HB1 := zh (HB0.out.turn hv hf)
  clear hv hf he1
  have cc : x1.cell? ⟨cb, 0, none⟩ = some (.pointer (some ⟨kb, 0, none⟩)) := HB1.out.cb.cell 0
  have xM1 : x1.cell? ⟨Bm, 1, none⟩ = some (m.iv) := HB1.out.md.cell 1
  go_wp2_with fail
  clear cc xM1
  refine (every_Imp HB1.out.vk ent_1 (ar := fun y => #[.agg y.cs.toArray, .pointer (some ⟨cb, 0, none⟩)]) (fun _ => by simp) HM1.out.2.1.1 HM1.out.2.1.2.2 (fun x e => mst e (decide (x.kind ≤ 3)) 2) (fun w' => Lies w' cb 92 #[.pointer (some ⟨kb, 0, none⟩)]) (fun _ _ hf hv hE => by obtain ⟨_, hv⟩ := hv; exact hv.keep hE (by decide) hf) HB1.out.cb (fun y hy w' hv hE => cl1_any hv hE y) (fun x _ => oneImpL x)).mono ?_
  rintro en x2 ⟨rfl, hv, hf⟩
  obtain ⟨e2, he2⟩ : ∃ e', e' = eachE (fun x e => mst e (decide (x.kind ≤ 3)) 2) m.imps e1 := ⟨_, rfl⟩
  rw [← he2] at hv
  have HE2 := zh he2
  have HB2 := zh (HB1.out.turn hv hf)
  clear hv hf he2
  have cc : x2.cell? ⟨cb, 0, none⟩ = some (.pointer (some ⟨kb, 0, none⟩)) := HB2.out.cb.cell 0
  have xM6 : x2.cell? ⟨Bm, 6, none⟩ = some (m.ev) := HB2.out.md.cell 6
  go_wp2_with fail
  clear cc xM6
  refine (every_Exp HB2.out.vk ent_2 (ar := fun y => #[.agg y.cs.toArray, .pointer (some ⟨cb, 0, none⟩)]) (fun _ => by simp) HM1.out.2.2.2.2.2.2.1.1 HM1.out.2.2.2.2.2.2.1.2.2 (fun x e => mst e (decide (x.kind ≤ 3)) 2) (fun w' => Lies w' cb 92 #[.pointer (some ⟨kb, 0, none⟩)]) (fun _ _ hf hv hE => by obtain ⟨_, hv⟩ := hv; exact hv.keep hE (by decide) hf) HB2.out.cb (fun y hy w' hv hE => cl2_any hv hE y) (fun x _ => by simp [Exp.cs, Value.oneCell'])).mono ?_
  rintro en x3 ⟨rfl, hv, hf⟩
  obtain ⟨e3, he3⟩ : ∃ e', e' = eachE (fun x e => mst e (decide (x.kind ≤ 3)) 2) m.exps e2 := ⟨_, rfl⟩
  rw [← he3] at hv
  have HE3 := zh he3
  have HB3 := zh (HB2.out.turn hv hf)
  clear hv hf he3
  have cc : x3.cell? ⟨cb, 0, none⟩ = some (.pointer (some ⟨kb, 0, none⟩)) := HB3.out.cb.cell 0
  have xM0 : x3.cell? ⟨Bm, 0, none⟩ = some (m.tv) := HB3.out.md.cell 0
  go_wp2_with fail
  clear cc xM0
  refine (every_Ft HB3.out.vk ent_3 (ar := fun y => #[.agg y.cs.toArray, .pointer (some ⟨cb, 0, none⟩)]) (fun _ => by simp) HM1.out.1.1 HM1.out.1.2.2 (typE) (fun w' => Lies w' cb 92 #[.pointer (some ⟨kb, 0, none⟩)]) (fun _ _ hf hv hE => by obtain ⟨_, hv⟩ := hv; exact hv.keep hE (by decide) hf) HB3.out.cb (fun y hy w' hv hE => cl3_any hv hE (HM1.out.1.2.1 y hy)) (fun x hx => oneFt (HM1.out.1.2.1 x hx))).mono ?_
  rintro en x4 ⟨rfl, hv, hf⟩
  obtain ⟨e4, he4⟩ : ∃ e', e' = eachE typE m.types e3 := ⟨_, rfl⟩
  rw [← he4] at hv
  have HE4 := zh he4
  have HB4 := zh (HB3.out.turn hv hf)
  clear hv hf he4
  have cc : x4.cell? ⟨cb, 0, none⟩ = some (.pointer (some ⟨kb, 0, none⟩)) := HB4.out.cb.cell 0
  have xM1 : x4.cell? ⟨Bm, 1, none⟩ = some (m.iv) := HB4.out.md.cell 1
  go_wp2_with fail
  clear cc xM1
  refine (every_Imp HB4.out.vk ent_i (ar := fun y => #[.pointer (some ⟨kb, 0, none⟩), .agg y.cs.toArray]) (fun _ => by simp) HM1.out.2.1.1 HM1.out.2.1.2.2 (impE m) (fun w' => Lies w' cb 92 #[.pointer (some ⟨kb, 0, none⟩)]) (fun _ _ hf hv hE => by obtain ⟨_, hv⟩ := hv; exact hv.keep hE (by decide) hf) HB4.out.cb (fun y hy w' hv hE => imp_any hv HSP.out HM1.out y (HM1.out.2.1.2.1 y hy).1) (fun x _ => oneImpL x)).mono ?_
  rintro en x5 ⟨rfl, hv, hf⟩
  obtain ⟨e5, he5⟩ : ∃ e', e' = eachE (impE m) m.imps e4 := ⟨_, rfl⟩
  rw [← he5] at hv
  have HE5 := zh he5
  have HB5 := zh (HB4.out.turn hv hf)
  clear hv hf he5
  have cc : x5.cell? ⟨cb, 0, none⟩ = some (.pointer (some ⟨kb, 0, none⟩)) := HB5.out.cb.cell 0
  have xM2 : x5.cell? ⟨Bm, 2, none⟩ = some (m.fv) := HB5.out.md.cell 2
  go_wp2_with fail
  clear cc xM2
  refine (every_u32 HB5.out.vk ent_4 (ar := fun y => #[.int .u32 y, .pointer (some ⟨cb, 0, none⟩)]) (fun _ => by simp) HM1.out.2.2.1.1 HM1.out.2.2.1.2.2 (fun t e => mst e (m.types[t]?).isSome 80) (fun w' => Lies w' cb 92 #[.pointer (some ⟨kb, 0, none⟩)]) (fun _ _ hf hv hE => by obtain ⟨_, hv⟩ := hv; exact hv.keep hE (by decide) hf) HB5.out.cb (fun y hy w' hv hE => cl4_any hv hE HSP.out HM1.out (HM1.out.2.2.1.2.1 y hy))).mono ?_
  rintro en x6 ⟨rfl, hv, hf⟩
  obtain ⟨e6, he6⟩ : ∃ e', e' = eachE (fun t e => mst e (m.types[t]?).isSome 80) m.funcs e5 := ⟨_, rfl⟩
  rw [← he6] at hv
  have HE6 := zh he6
  have HB6 := zh (HB5.out.turn hv hf)
  clear hv hf he6
  have cc : x6.cell? ⟨cb, 0, none⟩ = some (.pointer (some ⟨kb, 0, none⟩)) := HB6.out.cb.cell 0
  go_wp2_with fail
  clear cc
  refine (stores_any HB6.out.vk HSP.out HM1.out).mono ?_
  rintro en x7 ⟨rfl, hv, hf⟩
  obtain ⟨e7, he7⟩ : ∃ e', e' = storesE m e6 := ⟨_, rfl⟩
  rw [← he7] at hv
  have HE7 := zh he7
  have HB7 := zh (HB6.out.turn hv hf)
  clear hv hf he7
  have cc : x7.cell? ⟨cb, 0, none⟩ = some (.pointer (some ⟨kb, 0, none⟩)) := HB7.out.cb.cell 0
  have xM5 : x7.cell? ⟨Bm, 5, none⟩ = some (m.gv) := HB7.out.md.cell 5
  go_wp2_with fail
  clear cc xM5
  refine (every_Glb HB7.out.vk ent_5 (ar := fun y => #[.agg y.cs.toArray, .pointer (some ⟨cb, 0, none⟩)]) (fun _ => by simp) HM1.out.2.2.2.2.2.1.1 HM1.out.2.2.2.2.2.1.2.2 (glbE m) (fun w' => Lies w' cb 92 #[.pointer (some ⟨kb, 0, none⟩)]) (fun _ _ hf hv hE => by obtain ⟨_, hv⟩ := hv; exact hv.keep hE (by decide) hf) HB7.out.cb (fun y hy w' hv hE => cl5_any hv hE HSP.out HM1.out (HM1.out.2.2.2.2.2.1.2.1 y hy)) (fun x hx => oneGlb (HM1.out.2.2.2.2.2.1.2.1 x hx))).mono ?_
  rintro en x8 ⟨rfl, hv, hf⟩
  obtain ⟨e8, he8⟩ : ∃ e', e' = eachE (glbE m) m.globs e7 := ⟨_, rfl⟩
  rw [← he8] at hv
  have HE8 := zh he8
  have HB8 := zh (HB7.out.turn hv hf)
  clear hv hf he8
  have cc : x8.cell? ⟨cb, 0, none⟩ = some (.pointer (some ⟨kb, 0, none⟩)) := HB8.out.cb.cell 0
  go_wp2_with fail
  clear cc
  refine (expo_any HB8.out.vk HSP.out HM1.out).mono ?_
  rintro en x9 ⟨rfl, hv, hf⟩
  obtain ⟨e9, he9⟩ : ∃ e', e' = expE m m.exps [] e8 := ⟨_, rfl⟩
  rw [← he9] at hv
  have HE9 := zh he9
  have HB9 := zh (HB8.out.turn hv hf)
  clear hv hf he9
  obtain ⟨b, hb⟩ : ∃ b, b = m.hs := ⟨_, rfl⟩
  have HHS := zh hb
  have xM7 : x9.cell? ⟨Bm, 7, none⟩ = some (.bool b) := by rw [hb]; exact HB9.out.md.cell 7
  clear hb
  go_upto_if 59 with fail
  go_cut [5, 6] from 60 to 77 (fun _ _ wx => ∃ e, e = (if b then mst e9 (startB m) 113 else e9) ∧ Be W m Bm W1 S0 kb cb e wx)
  case first =>
   cases b with
   | false =>
    go_wp2_with fail
    go_meet
    exact ⟨_, rfl, HB9.out⟩
   | true =>
    have HV0 := zh HB9.out.vk
    have HF0 := zh (Fr.refl x9 (fun k => k = kb))
    have HC0 := zh HB9.out.cb
    have HD0 := zh HB9.out.md
    have hst : m.st < 4294967296 := HM.out.2.2.2.2.2.2.2.1
    go_wp2_with fail
    clear xM7
    obtain ⟨ok, hok⟩ : ∃ ok, ok = (ftype m m.st).isSome := ⟨_, rfl⟩
    have HOK := zh hok
    clear hok
    have hd1 := below_drew x9
    have HV1 := zh (HV0.out.later hd1)
    have HF1 := zh (HF0.out.trans (Fr.of_below hd1 _))
    have HC1 := zh (HC0.out.below hd1 HC0.out.lt)
    have HD1 := zh (HD0.out.below hd1 HD0.out.lt)
    refine RP.region (RP.take 0 (RP.take 1 (RP.take 2 (RP.take 3 (RP.take 4 (RP.take 5 (RP.fork 6 10 (RP.take 7 (RP.take 8 (RP.take 9 (RP.run 10 (RP.run 11 (RP.take 12 RP.done)))))) (RP.run 6 (RP.take 7 (RP.take 8 (RP.take 9 (RP.run 11 (RP.take 12 RP.done))))))))))))) (fun w' => w'.cell? ⟨cb, 0, none⟩ = some (.pointer (some ⟨kb, 0, none⟩)) ∧ w'.cell? ⟨kb, 12, none⟩ = some (.pointer (some ⟨S0, 0, none⟩)) ∧ w'.cell? ⟨Bm, 8, none⟩ = some (.int .u32 m.st)) (by kernel_rfl) (by kernel_rfl) (fun _ _ d _ _ h => by cases d <;> exact h) ⟨(HC1.out.cell 0), HV1.out.s, (HD1.out.cell 8)⟩ (fun _ => ?_)
    clear hd1
    generalize x9.drew = y1 at HV1 HF1 HC1 HD1 ⊢
    repeat (first | (refine RP.t_take (v := ?_) rfl rfl (fun w' hw' => ?_) ?_; rotate_left; (focus (obtain ⟨q0, q1, q2⟩ := hw'; (try simp only [Act.put, sA, sB, sC]); go_simp; (try go_bits); (try (with_reducible rfl)))); (try simp only [Act.put, sA, sB, sC])) | (refine RP.t_skip rfl rfl ?_; (try simp only [Act.put, sA, sB, sC])))
    refine RP.t_fork rfl rfl (fun K hK => ?_) (fun K hK => ?_)
    ·go_simp
     refine (func_anyI (i := m.st) HM1.out (spx_later HSP.out HV1.out.bel).sp hst rfl).mono ?_
     rintro en y2 ⟨y, rfl, ho, ht, hb2⟩
     have HV2 := zh (HV1.out.later hb2)
     have HF2 := zh (HF1.out.trans (Fr.of_below hb2 _))
     have HC2 := zh (HC1.out.below hb2 HC1.out.lt)
     have HD2 := zh (HD1.out.below hb2 HD1.out.lt)
     rw [← HOK.out]
     have HOY := zh ho
     have HFT := zh ht
     have HLN := zh (fntold_len HM1.out ht)
     clear ho ht
     clear hb2
     refine hK.out _ _ ⟨(HC2.out.cell 0), HV2.out.s, (HD2.out.cell 8)⟩ ?_
     clear hK K
     (try simp only [Act.put, sA, sB, sC])
     repeat (first | (refine RP.t_take (v := ?_) rfl rfl (fun w' hw' => ?_) ?_; rotate_left; (focus (obtain ⟨q0, q1, q2⟩ := hw'; (try simp only [Act.put, sA, sB, sC]); go_simp; (try go_bits); (try (with_reducible rfl)))); (try simp only [Act.put, sA, sB, sC])) | (refine RP.t_skip rfl rfl ?_; (try simp only [Act.put, sA, sB, sC])))
     refine RP.t_run rfl (fun K hK => ?_)
     go_simp
     obtain ⟨y3, hwn⟩ : ∃ y3, y3 = y2.alloc (.cells #[.slice none 0 0, .slice none 0 0] 51) := ⟨_, rfl⟩
     have hb3 : Below y2.heap.size y2 y3 := hwn ▸ (Below.refl _ _).alloc (Nat.le_refl _) _
     have HN3 := zh (show Lies y3 y2.heap.size 51 #[.slice none 0 0, .slice none 0 0] from hwn ▸ Lies.new _ _ _)
     rw [← hwn]
     clear hwn
     have HV3 := zh (HV2.out.later hb3)
     have HF3 := zh (HF2.out.trans (Fr.of_below hb3 _))
     have HC3 := zh (HC2.out.below hb3 HC2.out.lt)
     have HD3 := zh (HD2.out.below hb3 HD2.out.lt)
     obtain ⟨Bn, hBn⟩ : ∃ Bn, Bn = y2.heap.size := ⟨_, rfl⟩
     rw [← hBn] at HN3 ⊢
     have hBw : x9.heap.size ≤ Bn := by rw [hBn]; exact HF2.out.size
     clear hBn
     replace HOY := zh (HOY.out.later hb3)
     clear hb3
     refine hK.out _ _ ⟨(HC3.out.cell 0), HV3.out.s, (HD3.out.cell 8)⟩ ?_
     clear hK K
     (try simp only [Act.put, sA, sB, sC])
     refine RP.t_run rfl (fun K hK => ?_)
     refine ite_of rfl ?_
     refine wp_put HN3.out y.cs _ _ rfl rfl rfl rfl sizeFt (oneFt (HOY.out.ok HLN.out.1 HLN.out.2)) (fun y4 hlc hfc => ?_)
     have HOY := zh (HOY.out.frT (FrT.field HN3.out hfc) (by decide))
     have HV4 := zh (HV3.out.put HN3.out (by decide) (Nat.le_trans HV0.out.bel.size hBw) hfc)
     have HF4 := zh (fr_new HF3.out hfc hBw)
     have HC4 := zh (lies_frT HC3.out (FrT.field HN3.out hfc) (by decide))
     have HD4 := zh (lies_frT HD3.out (FrT.field HN3.out hfc) (by decide))
     have HN4 := zh hlc
     refine hK.out _ _ ⟨(HC4.out.cell 0), HV4.out.s, (HD4.out.cell 8)⟩ ?_
     clear hK K
     (try simp only [Act.put])
     repeat (first | (refine RP.t_take (v := ?_) rfl rfl (fun w' hw' => ?_) ?_; rotate_left; (focus (obtain ⟨q0, q1, q2⟩ := hw'; (try simp only [Act.put, sA, sB, sC]); go_simp; (try go_bits); (try (with_reducible rfl)))); (try simp only [Act.put, sA, sB, sC])) | (refine RP.t_skip rfl rfl ?_; (try simp only [Act.put, sA, sB, sC])))
     refine RP.t_done ?_
     clear hlc hfc
     clear hst
     go_wp2_with fail
     have hd5 := below_drew y4
     have HV5 := zh (HV4.out.later hd5)
     have HF5 := zh (HF4.out.trans (Fr.of_below hd5 _))
     have HC5 := zh (HC4.out.below hd5 HC4.out.lt)
     have HD5 := zh (HD4.out.below hd5 HD4.out.lt)
     have HN5 := zh (HN4.out.below hd5 HN4.out.lt)
     replace HOY := zh (HOY.out.later hd5)
     refine wp_region_t [(0, 1), (1, 1), (2, 1), (3, 1), (4, 1), (5, 0), (6, 1), (7, 0)] (fun w' => w'.cell? ⟨cb, 0, none⟩ = some (.pointer (some ⟨kb, 0, none⟩)) ∧ Lies w' Bn 51 y.cs.toArray) [] [] rfl (by kernel_rfl) (by kernel_rfl) (fun _ _ d _ _ h => by cases d <;> exact h) ⟨HC5.out.cell 0, HN5.out⟩ (fun p hp => by cases hp) ?_
     clear hd5
     generalize y4.drew = y5 at HV5 HF5 HC5 HD5 HN5 HOY ⊢
     cases ok with
     | false =>
      repeat (first | (refine ts_take (v := .agg y.cs.toArray) rfl rfl (fun w' hw' => exec_load (lies_range hw'.2) _ rfl rfl Tryz.underlying51 rfl sizeFt) ?_; (try simp only [Act.put, sA, sB, sC])) | (refine ts_take (v := ?_) rfl rfl (fun w' hw' => ?_) ?_; rotate_left; (focus (obtain ⟨q0, q1⟩ := hw'; (try simp only [Act.put, sA, sB, sC]); go_simp; (try go_bits); (try (with_reducible rfl)))); (try simp only [Act.put, sA, sB, sC])) | (refine ts_skip rfl rfl ?_; (try simp only [Act.put, sA, sB, sC])))
      refine ts_run rfl (fun K hK => ?_)
      rw [if_neg (Bool.eq_false_iff.1 (show Region.wanted _ _ = false from rfl))]
      refine hK.out _ _ ⟨HC5.out.cell 0, HN5.out⟩ (still_none _ _) ?_
      clear hK K
      (try simp only [Act.put, sA, sB, sC])
      repeat (first | (refine ts_take (v := .agg y.cs.toArray) rfl rfl (fun w' hw' => exec_load (lies_range hw'.2) _ rfl rfl Tryz.underlying51 rfl sizeFt) ?_; (try simp only [Act.put, sA, sB, sC])) | (refine ts_take (v := ?_) rfl rfl (fun w' hw' => ?_) ?_; rotate_left; (focus (obtain ⟨q0, q1⟩ := hw'; (try simp only [Act.put, sA, sB, sC]); go_simp; (try go_bits); (try (with_reducible rfl)))); (try simp only [Act.put, sA, sB, sC])) | (refine ts_skip rfl rfl ?_; (try simp only [Act.put, sA, sB, sC])))
      refine ts_run1 rfl rfl (fun K hK => ?_)
      go_simp
      refine (must_any HV5.out false 113).mono ?_
      rintro en y6 ⟨rfl, hv, hf⟩
      have HV6 := zh hv
      have HF6 := zh (HF5.out.trans hf)
      have HC6 := zh (HV5.out.keep HC5.out (by decide) hf)
      have HD6 := zh (HV5.out.keep HD5.out (by decide) hf)
      have HN6 := zh (HV5.out.keep HN5.out (by decide) hf)
      clear hv hf
      refine hK.out _ _ ⟨HC6.out.cell 0, HN6.out⟩ (still_none _ _) ?_
      clear hK K
      (try simp only [Act.put, sA, sB, sC])
      refine ts_done ?_
      go_wp2_with fail
      go_meet
      refine ⟨_, rfl, ⟨HBW.out, HSP.out, ?_, HC6.out, HD6.out⟩⟩
      rw [if_pos trivial, show startB m = false from by unfold startB; cases h : ftype m m.st with | none => rfl | some f => rw [h] at HOK; cases HOK.out]
      exact HV6.out
     | true =>
      repeat (first | (refine ts_take (v := .agg y.cs.toArray) rfl rfl (fun w' hw' => exec_load (lies_range hw'.2) _ rfl rfl Tryz.underlying51 rfl sizeFt) ?_; (try simp only [Act.put, sA, sB, sC])) | (refine ts_take (v := ?_) rfl rfl (fun w' hw' => ?_) ?_; rotate_left; (focus (obtain ⟨q0, q1⟩ := hw'; (try simp only [Act.put, sA, sB, sC]); go_simp; (try go_bits); (try (with_reducible rfl)))); (try simp only [Act.put, sA, sB, sC])) | (refine ts_skip rfl rfl ?_; (try simp only [Act.put, sA, sB, sC])))
      refine ts_run rfl (fun K hK => ?_)
      rw [if_pos (show Region.wanted _ _ = true from rfl)]
      go_simp
      refine (same_any (x := y) (y := (⟨.slice none 0 0, [], .slice none 0 0, []⟩ : Ft)) (HOY.out.ok HLN.out.1 HLN.out.2) ⟨⟨Sl.nil _ _ _ _, fun _ _ => trivial, Nat.zero_le _⟩, ⟨Sl.nil _ _ _ _, fun _ _ => trivial, Nat.zero_le _⟩⟩).mono ?_
      rintro en y6 ⟨rfl, hb6⟩
      have HV6 := zh (HV5.out.later hb6)
      have HF6 := zh (HF5.out.trans (Fr.of_below hb6 _))
      have HC6 := zh (HC5.out.below hb6 HC5.out.lt)
      have HD6 := zh (HD5.out.below hb6 HD5.out.lt)
      have HN6 := zh (HN5.out.below hb6 HN5.out.lt)
      clear hb6
      refine hK.out _ _ ⟨HC6.out.cell 0, HN6.out⟩ (still_none _ _) ?_
      clear hK K
      (try simp only [Act.put, sA, sB, sC])
      repeat (first | (refine ts_take (v := .agg y.cs.toArray) rfl rfl (fun w' hw' => exec_load (lies_range hw'.2) _ rfl rfl Tryz.underlying51 rfl sizeFt) ?_; (try simp only [Act.put, sA, sB, sC])) | (refine ts_take (v := ?_) rfl rfl (fun w' hw' => ?_) ?_; rotate_left; (focus (obtain ⟨q0, q1⟩ := hw'; (try simp only [Act.put, sA, sB, sC]); go_simp; (try go_bits); (try (with_reducible rfl)))); (try simp only [Act.put, sA, sB, sC])) | (refine ts_skip rfl rfl ?_; (try simp only [Act.put, sA, sB, sC])))
      refine ts_run1 rfl rfl (fun K hK => ?_)
      go_simp
      refine (must_any HV6.out _ 113).mono ?_
      rintro en y7 ⟨rfl, hv, hf⟩
      have HV7 := zh hv
      have HF7 := zh (HF6.out.trans hf)
      have HC7 := zh (HV6.out.keep HC6.out (by decide) hf)
      have HD7 := zh (HV6.out.keep HD6.out (by decide) hf)
      have HN7 := zh (HV6.out.keep HN6.out (by decide) hf)
      clear hv hf
      refine hK.out _ _ ⟨HC7.out.cell 0, HN7.out⟩ (still_none _ _) ?_
      clear hK K
      (try simp only [Act.put, sA, sB, sC])
      refine ts_done ?_
      go_wp2_with fail
      go_meet
      refine ⟨_, rfl, ⟨HBW.out, HSP.out, ?_, HC7.out, HD7.out⟩⟩
      rw [if_pos trivial, show startB m = same y (⟨.slice none 0 0, [], .slice none 0 0, []⟩ : Ft) from by
       have ht := HFT.out
       unfold FnTold at ht
       unfold startB
       cases h : ftype m m.st with
       | none => rw [h] at HOK; cases HOK.out
       | some f =>
        rw [h, Prod.mk.injEq] at ht
        unfold same
        rw [ht.1, ht.2]]
      exact HV7.out
    ·go_simp
     obtain ⟨y2, hwn⟩ : ∃ y2, y2 = y1.alloc (.cells #[.slice none 0 0, .slice none 0 0] 51) := ⟨_, rfl⟩
     have hb2 : Below y1.heap.size y1 y2 := hwn ▸ (Below.refl _ _).alloc (Nat.le_refl _) _
     have HN2 := zh (show Lies y2 y1.heap.size 51 #[.slice none 0 0, .slice none 0 0] from hwn ▸ Lies.new _ _ _)
     rw [← hwn]
     clear hwn
     have HV2 := zh (HV1.out.later hb2)
     have HF2 := zh (HF1.out.trans (Fr.of_below hb2 _))
     have HC2 := zh (HC1.out.below hb2 HC1.out.lt)
     have HD2 := zh (HD1.out.below hb2 HD1.out.lt)
     obtain ⟨Bn, hBn⟩ : ∃ Bn, Bn = y1.heap.size := ⟨_, rfl⟩
     rw [← hBn] at HN2 ⊢
     have hBw : x9.heap.size ≤ Bn := by rw [hBn]; exact HF1.out.size
     clear hBn
     clear hb2
     refine hK.out _ _ ⟨(HC2.out.cell 0), HV2.out.s, (HD2.out.cell 8)⟩ ?_
     clear hK K
     (try simp only [Act.put, sA, sB, sC])
     refine RP.t_run rfl (fun K hK => ?_)
     go_simp
     refine (func_anyI (i := m.st) HM1.out (spx_later HSP.out HV2.out.bel).sp hst rfl).mono ?_
     rintro en y3 ⟨y, rfl, ho, ht, hb3⟩
     have HV3 := zh (HV2.out.later hb3)
     have HF3 := zh (HF2.out.trans (Fr.of_below hb3 _))
     have HC3 := zh (HC2.out.below hb3 HC2.out.lt)
     have HD3 := zh (HD2.out.below hb3 HD2.out.lt)
     have HN3 := zh (HN2.out.below hb3 HN2.out.lt)
     rw [← HOK.out]
     have HOY := zh ho
     have HFT := zh ht
     have HLN := zh (fntold_len HM1.out ht)
     clear ho ht
     clear hb3
     refine hK.out _ _ ⟨(HC3.out.cell 0), HV3.out.s, (HD3.out.cell 8)⟩ ?_
     clear hK K
     (try simp only [Act.put, sA, sB, sC])
     repeat (first | (refine RP.t_take (v := ?_) rfl rfl (fun w' hw' => ?_) ?_; rotate_left; (focus (obtain ⟨q0, q1, q2⟩ := hw'; (try simp only [Act.put, sA, sB, sC]); go_simp; (try go_bits); (try (with_reducible rfl)))); (try simp only [Act.put, sA, sB, sC])) | (refine RP.t_skip rfl rfl ?_; (try simp only [Act.put, sA, sB, sC])))
     refine RP.t_run rfl (fun K hK => ?_)
     refine ite_of rfl ?_
     refine wp_put HN3.out y.cs _ _ rfl rfl rfl rfl sizeFt (oneFt (HOY.out.ok HLN.out.1 HLN.out.2)) (fun y4 hlc hfc => ?_)
     have HOY := zh (HOY.out.frT (FrT.field HN3.out hfc) (by decide))
     have HV4 := zh (HV3.out.put HN3.out (by decide) (Nat.le_trans HV0.out.bel.size hBw) hfc)
     have HF4 := zh (fr_new HF3.out hfc hBw)
     have HC4 := zh (lies_frT HC3.out (FrT.field HN3.out hfc) (by decide))
     have HD4 := zh (lies_frT HD3.out (FrT.field HN3.out hfc) (by decide))
     have HN4 := zh hlc
     refine hK.out _ _ ⟨(HC4.out.cell 0), HV4.out.s, (HD4.out.cell 8)⟩ ?_
     clear hK K
     (try simp only [Act.put])
     repeat (first | (refine RP.t_take (v := ?_) rfl rfl (fun w' hw' => ?_) ?_; rotate_left; (focus (obtain ⟨q0, q1, q2⟩ := hw'; (try simp only [Act.put, sA, sB, sC]); go_simp; (try go_bits); (try (with_reducible rfl)))); (try simp only [Act.put, sA, sB, sC])) | (refine RP.t_skip rfl rfl ?_; (try simp only [Act.put, sA, sB, sC])))
     refine RP.t_done ?_
     clear hlc hfc
     clear hst
     go_wp2_with fail
     have hd5 := below_drew y4
     have HV5 := zh (HV4.out.later hd5)
     have HF5 := zh (HF4.out.trans (Fr.of_below hd5 _))
     have HC5 := zh (HC4.out.below hd5 HC4.out.lt)
     have HD5 := zh (HD4.out.below hd5 HD4.out.lt)
     have HN5 := zh (HN4.out.below hd5 HN4.out.lt)
     replace HOY := zh (HOY.out.later hd5)
     refine wp_region_t [(0, 1), (1, 1), (2, 1), (3, 1), (4, 1), (5, 0), (6, 1), (7, 0)] (fun w' => w'.cell? ⟨cb, 0, none⟩ = some (.pointer (some ⟨kb, 0, none⟩)) ∧ Lies w' Bn 51 y.cs.toArray) [] [] rfl (by kernel_rfl) (by kernel_rfl) (fun _ _ d _ _ h => by cases d <;> exact h) ⟨HC5.out.cell 0, HN5.out⟩ (fun p hp => by cases hp) ?_
     clear hd5
     generalize y4.drew = y5 at HV5 HF5 HC5 HD5 HN5 HOY ⊢
     cases ok with
     | false =>
      repeat (first | (refine ts_take (v := .agg y.cs.toArray) rfl rfl (fun w' hw' => exec_load (lies_range hw'.2) _ rfl rfl Tryz.underlying51 rfl sizeFt) ?_; (try simp only [Act.put, sA, sB, sC])) | (refine ts_take (v := ?_) rfl rfl (fun w' hw' => ?_) ?_; rotate_left; (focus (obtain ⟨q0, q1⟩ := hw'; (try simp only [Act.put, sA, sB, sC]); go_simp; (try go_bits); (try (with_reducible rfl)))); (try simp only [Act.put, sA, sB, sC])) | (refine ts_skip rfl rfl ?_; (try simp only [Act.put, sA, sB, sC])))
      refine ts_run rfl (fun K hK => ?_)
      rw [if_neg (Bool.eq_false_iff.1 (show Region.wanted _ _ = false from rfl))]
      refine hK.out _ _ ⟨HC5.out.cell 0, HN5.out⟩ (still_none _ _) ?_
      clear hK K
      (try simp only [Act.put, sA, sB, sC])
      repeat (first | (refine ts_take (v := .agg y.cs.toArray) rfl rfl (fun w' hw' => exec_load (lies_range hw'.2) _ rfl rfl Tryz.underlying51 rfl sizeFt) ?_; (try simp only [Act.put, sA, sB, sC])) | (refine ts_take (v := ?_) rfl rfl (fun w' hw' => ?_) ?_; rotate_left; (focus (obtain ⟨q0, q1⟩ := hw'; (try simp only [Act.put, sA, sB, sC]); go_simp; (try go_bits); (try (with_reducible rfl)))); (try simp only [Act.put, sA, sB, sC])) | (refine ts_skip rfl rfl ?_; (try simp only [Act.put, sA, sB, sC])))
      refine ts_run1 rfl rfl (fun K hK => ?_)
      go_simp
      refine (must_any HV5.out false 113).mono ?_
      rintro en y6 ⟨rfl, hv, hf⟩
      have HV6 := zh hv
      have HF6 := zh (HF5.out.trans hf)
      have HC6 := zh (HV5.out.keep HC5.out (by decide) hf)
      have HD6 := zh (HV5.out.keep HD5.out (by decide) hf)
      have HN6 := zh (HV5.out.keep HN5.out (by decide) hf)
      clear hv hf
      refine hK.out _ _ ⟨HC6.out.cell 0, HN6.out⟩ (still_none _ _) ?_
      clear hK K
      (try simp only [Act.put, sA, sB, sC])
      refine ts_done ?_
      go_wp2_with fail
      go_meet
      refine ⟨_, rfl, ⟨HBW.out, HSP.out, ?_, HC6.out, HD6.out⟩⟩
      rw [if_pos trivial, show startB m = false from by unfold startB; cases h : ftype m m.st with | none => rfl | some f => rw [h] at HOK; cases HOK.out]
      exact HV6.out
     | true =>
      repeat (first | (refine ts_take (v := .agg y.cs.toArray) rfl rfl (fun w' hw' => exec_load (lies_range hw'.2) _ rfl rfl Tryz.underlying51 rfl sizeFt) ?_; (try simp only [Act.put, sA, sB, sC])) | (refine ts_take (v := ?_) rfl rfl (fun w' hw' => ?_) ?_; rotate_left; (focus (obtain ⟨q0, q1⟩ := hw'; (try simp only [Act.put, sA, sB, sC]); go_simp; (try go_bits); (try (with_reducible rfl)))); (try simp only [Act.put, sA, sB, sC])) | (refine ts_skip rfl rfl ?_; (try simp only [Act.put, sA, sB, sC])))
      refine ts_run rfl (fun K hK => ?_)
      rw [if_pos (show Region.wanted _ _ = true from rfl)]
      go_simp
      refine (same_any (x := y) (y := (⟨.slice none 0 0, [], .slice none 0 0, []⟩ : Ft)) (HOY.out.ok HLN.out.1 HLN.out.2) ⟨⟨Sl.nil _ _ _ _, fun _ _ => trivial, Nat.zero_le _⟩, ⟨Sl.nil _ _ _ _, fun _ _ => trivial, Nat.zero_le _⟩⟩).mono ?_
      rintro en y6 ⟨rfl, hb6⟩
      have HV6 := zh (HV5.out.later hb6)
      have HF6 := zh (HF5.out.trans (Fr.of_below hb6 _))
      have HC6 := zh (HC5.out.below hb6 HC5.out.lt)
      have HD6 := zh (HD5.out.below hb6 HD5.out.lt)
      have HN6 := zh (HN5.out.below hb6 HN5.out.lt)
      clear hb6
      refine hK.out _ _ ⟨HC6.out.cell 0, HN6.out⟩ (still_none _ _) ?_
      clear hK K
      (try simp only [Act.put, sA, sB, sC])
      repeat (first | (refine ts_take (v := .agg y.cs.toArray) rfl rfl (fun w' hw' => exec_load (lies_range hw'.2) _ rfl rfl Tryz.underlying51 rfl sizeFt) ?_; (try simp only [Act.put, sA, sB, sC])) | (refine ts_take (v := ?_) rfl rfl (fun w' hw' => ?_) ?_; rotate_left; (focus (obtain ⟨q0, q1⟩ := hw'; (try simp only [Act.put, sA, sB, sC]); go_simp; (try go_bits); (try (with_reducible rfl)))); (try simp only [Act.put, sA, sB, sC])) | (refine ts_skip rfl rfl ?_; (try simp only [Act.put, sA, sB, sC])))
      refine ts_run1 rfl rfl (fun K hK => ?_)
      go_simp
      refine (must_any HV6.out _ 113).mono ?_
      rintro en y7 ⟨rfl, hv, hf⟩
      have HV7 := zh hv
      have HF7 := zh (HF6.out.trans hf)
      have HC7 := zh (HV6.out.keep HC6.out (by decide) hf)
      have HD7 := zh (HV6.out.keep HD6.out (by decide) hf)
      have HN7 := zh (HV6.out.keep HN6.out (by decide) hf)
      clear hv hf
      refine hK.out _ _ ⟨HC7.out.cell 0, HN7.out⟩ (still_none _ _) ?_
      clear hK K
      (try simp only [Act.put, sA, sB, sC])
      refine ts_done ?_
      go_wp2_with fail
      go_meet
      refine ⟨_, rfl, ⟨HBW.out, HSP.out, ?_, HC7.out, HD7.out⟩⟩
      rw [if_pos trivial, show startB m = same y (⟨.slice none 0 0, [], .slice none 0 0, []⟩ : Ft) from by
       have ht := HFT.out
       unfold FnTold at ht
       unfold startB
       cases h : ftype m m.st with
       | none => rw [h] at HOK; cases HOK.out
       | some f =>
        rw [h, Prod.mk.injEq] at ht
        unfold same
        rw [ht.1, ht.2]]
      exact HV7.out
  case rest =>
   obtain ⟨e10, he10, hbe⟩ := hcut
   have HE10 := zh he10
   have HB10 := zh hbe
   clear he10 hbe xM7
   have cc : wc.cell? ⟨cb, 0, none⟩ = some (.pointer (some ⟨kb, 0, none⟩)) := HB10.out.cb.cell 0
   have xM9 : wc.cell? ⟨Bm, 9, none⟩ = some (m.ev2) := HB10.out.md.cell 9
   go_wp2_with fail
   clear cc xM9
   refine (every_Elm HB10.out.vk ent_6 (ar := fun y => #[.agg y.cs.toArray, .pointer (some ⟨cb, 0, none⟩)]) (fun _ => by simp) HM1.out.2.2.2.2.2.2.2.2.1.1 HM1.out.2.2.2.2.2.2.2.2.1.2.2 (elmE m) (fun w' => Lies w' cb 92 #[.pointer (some ⟨kb, 0, none⟩)]) (fun _ _ hf hv hE => by obtain ⟨_, hv⟩ := hv; exact hv.keep hE (by decide) hf) HB10.out.cb (fun y hy w' hv hE => cl6_any hv hE HSP.out HM1.out (HM1.out.2.2.2.2.2.2.2.2.1.2.1 y hy)) (fun x hx => oneElm (HM1.out.2.2.2.2.2.2.2.2.1.2.1 x hx))).mono ?_
   rintro en x11 ⟨rfl, hv, hf⟩
   obtain ⟨e11, he11⟩ : ∃ e', e' = eachE (elmE m) m.elems e10 := ⟨_, rfl⟩
   rw [← he11] at hv
   have HE11 := zh he11
   have HB11 := zh (HB10.out.turn hv hf)
   clear hv hf he11
   have HFO := zh (show e11 = fore m from by rw [HE11.out, HE10.out, HHS.out, HE9.out, HE8.out, HE7.out, HE6.out, HE5.out, HE4.out, HE3.out, HE2.out, HE1.out, beqI]; rfl)
   clear HE1 HE2 HE3 HE4 HE5 HE6 HE7 HE8 HE9 HE10 HE11
   obtain ⟨n0, hn0⟩ : ∃ n0, n0 = (fk m 0).length := ⟨_, rfl⟩
   have HN0 := zh hn0
   have hn0b : n0 ≤ 1048576 := by rw [hn0]; exact Nat.le_trans (fk_le m 0) HM.out.2.1.2.2
   clear hn0
   obtain ⟨z1, hz1⟩ : ∃ z1, z1 = x11.alloc (.cells #[.slice none 0 0] 35) := ⟨_, rfl⟩
   have hzb : Below x11.heap.size x11 z1 := hz1 ▸ (Below.refl _ _).alloc (Nat.le_refl _) _
   have HZ1 := zh (HB11.out.later hzb)
   have HH1 := zh (show Lies z1 x11.heap.size 35 #[.slice none 0 0] from hz1 ▸ Lies.new _ _ _)
   have cc : (x11.alloc (.cells #[.slice none 0 0] 35)).cell? ⟨cb, 0, none⟩ = some (.pointer (some ⟨kb, 0, none⟩)) := hz1 ▸ HZ1.out.cb.cell 0
   have c12 : (x11.alloc (.cells #[.slice none 0 0] 35)).cell? ⟨kb, 12, none⟩ = some (.pointer (some ⟨S0, 0, none⟩)) := hz1 ▸ HZ1.out.vk.s
   go_wp2_with fail
   rw [← hz1]
   clear cc c12 hz1
   obtain ⟨hb, hhb⟩ : ∃ hb, hb = x11.heap.size := ⟨_, rfl⟩
   rw [← hhb] at HH1 ⊢
   have HHB := zh (show W1.heap.size ≤ hb from by rw [hhb]; exact HB11.out.vk.bel.size)
   clear hhb hzb
   refine (imported0 (spx_later HSP.out HZ1.out.vk.bel)).mono ?_
   rintro en z2 ⟨rfl, hb2⟩
   rw [← HN0.out]
   have HZ2 := zh (HZ1.out.later hb2)
   have HH2 := zh (HH1.out.below hb2 HH1.out.lt)
   clear hb2
   have hwr : IntKind.u32.wrap (n0 : Int) = (n0 : Int) := by show (n0 : Int) % 4294967296 = n0; omega
   obtain ⟨z3, hz3⟩ : ∃ z3, z3 = z2.alloc (.cells #[.int .u32 n0] 28) := ⟨_, rfl⟩
   have hzb : Below z2.heap.size z2 z3 := hz3 ▸ (Below.refl _ _).alloc (Nat.le_refl _) _
   have HZ3 := zh (HZ2.out.later hzb)
   have HH3 := zh (HH2.out.below hzb HH2.out.lt)
   have HO3 := zh (show Lies z3 z2.heap.size 28 #[.int .u32 n0] from hz3 ▸ Lies.new _ _ _)
   have cc : (z2.alloc (.cells #[.int .u32 n0] 28)).cell? ⟨cb, 0, none⟩ = some (.pointer (some ⟨kb, 0, none⟩)) := hz3 ▸ HZ3.out.cb.cell 0
   have xM10 : (z2.alloc (.cells #[.int .u32 n0] 28)).cell? ⟨Bm, 10, none⟩ = some m.cv := hz3 ▸ HZ3.out.md.cell 10
   go_wp2_with fail
   rw [← hz3]
   clear cc xM10 hz3 hwr
   obtain ⟨ob, hob⟩ : ∃ ob, ob = z2.heap.size := ⟨_, rfl⟩
   rw [← hob] at HO3 ⊢
   clear hob hzb
   obtain ⟨J, hJ⟩ : ∃ J : List Cod → Nat → World → Prop, J = fun A e' w' => Be W m Bm W1 S0 kb cb e' w' ∧ Lies w' ob 28 #[.int .u32 n0] ∧ e' = (codE m A [] (fore m)).2 ∧ ∃ hv, Lies w' hb 35 #[hv] ∧ w'.ownsRow W1.heap.size 3 1 hv (codE m A [] (fore m)).1.length ((codE m A [] (fore m)).1.flatMap ic) := ⟨_, rfl⟩
   have HJ := zh hJ
   clear hJ
   refine (each_Cod (L := m.codes) (e0 := e11) J ent_7 (ar := fun y => #[.agg y.cs.toArray, .pointer (some ⟨cb, 0, none⟩), .pointer (some ⟨ob, 0, none⟩), .pointer (some ⟨hb, 0, none⟩)]) (fun _ => by simp) (fun A e' w' h => by rw [HJ.out] at h; exact h.1.vk.c13) (fun A e' w' h => by rw [HJ.out] at h; exact HM1.out.2.2.2.2.2.2.2.2.2.1.1.later h.1.vk.bel) (fun A e' u u' h hb => by
    rw [HJ.out] at h ⊢
    obtain ⟨h1, h2, h3, hv, h4, h5⟩ := h
    exact ⟨h1.later hb, h2.below hb h2.lt, h3, hv, h4.below hb h4.lt, ownsRow_keep h5 hb⟩) (fun A x R u hL h => ?_) (by
    rw [HJ.out]
    exact ⟨HZ3.out, HO3.out, HFO.out, _, HH3.out, World.ownsRow_nil _ _ _ _⟩) HM1.out.2.2.2.2.2.2.2.2.2.1.2.2 (fun x hx => oneCod (HM1.out.2.2.2.2.2.2.2.2.2.1.2.1 x hx))).mono ?_
   ·rw [HJ.out] at h
    obtain ⟨h1, h2, h3, hv, h4, h5⟩ := h
    have hlen : (codE m A [] (fore m)).1.length ≤ 1048576 := by
     have h6 := codE_len (m := m) A [] (fore m)
     have h7 : m.codes.length ≤ 1048576 := HM1.out.2.2.2.2.2.2.2.2.2.1.2.2
     rw [hL, List.length_append, List.length_cons] at h7
     simp only [List.length_nil] at h6
     omega
    refine (cl7_any (w := u) h1.vk h1.cb h2 HN0.out h4 h5 hlen h1.vk.bel.size (Nat.le_refl _) HHB.out HSP.out HM1.out (fore_types (codE_back h3.symm)) (HM1.out.2.2.2.2.2.2.2.2.2.1.2.1 x (by rw [hL]; simp))).mono ?_
    rintro en u' ⟨rfl, hv', hvk, hc, ho, hh, hrw, hft⟩
    refine ⟨rfl, mst 0 ((codC m (codE m A [] (fore m)).1.length x).2 == 0) (codC m (codE m A [] (fore m)).1.length x).2, ?_⟩
    rw [HJ.out]
    exact ⟨⟨HBW.out, HSP.out, hvk, hc, lies_frT h1.md hft (by decide)⟩, ho, by rw [codE_snoc x h3.symm], hv', hh, by rw [codE_snoc x h3.symm]; exact hrw⟩
   rintro en z4 ⟨rfl, A, R, e12, hL, h, hR⟩
   rw [HJ.out] at h
   obtain ⟨h1, h2, h3, hv, h4, h5⟩ := h
   have hcod : codE m m.codes [] (fore m) = codE m A [] (fore m) := by
    rcases hR with rfl | hR
    ·rw [hL, List.append_nil]
    ·rw [hL, codE_app R (by rw [← h3]; exact hR)]
   rw [← hcod] at h3 h5
   clear hcod hL hR h2
   have HE12 := zh h3
   have HB12 := zh h1
   have HHV := zh h4
   have HRW := zh h5
   obtain ⟨sh, ch, rfl, _, _⟩ := row_form h5
   clear h1 h3 h4 h5 HJ HH1 HH2 HH3 HO3 HZ1 HZ2 HZ3 HFO
   have cc : z4.cell? ⟨cb, 0, none⟩ = some (.pointer (some ⟨kb, 0, none⟩)) := HB12.out.cb.cell 0
   have xM11 : z4.cell? ⟨Bm, 11, none⟩ = some (m.dv) := HB12.out.md.cell 11
   go_wp2_with fail
   clear cc xM11
   refine (every_Dat HB12.out.vk ent_8 (ar := fun y => #[.agg y.cs.toArray, .pointer (some ⟨cb, 0, none⟩)]) (fun _ => by simp) HM1.out.2.2.2.2.2.2.2.2.2.2.1 HM1.out.2.2.2.2.2.2.2.2.2.2.2.2 (datE m) (fun w' => Lies w' cb 92 #[.pointer (some ⟨kb, 0, none⟩)]) (fun _ _ hf hv hE => by obtain ⟨_, hv⟩ := hv; exact hv.keep hE (by decide) hf) HB12.out.cb (fun y hy w' hv hE => cl8_any hv hE HSP.out HM1.out (HM1.out.2.2.2.2.2.2.2.2.2.2.2.1 y hy)) (fun x hx => oneDat (HM1.out.2.2.2.2.2.2.2.2.2.2.2.1 x hx))).mono ?_
   rintro en x13 ⟨rfl, hv, hf⟩
   obtain ⟨e13, he13⟩ : ∃ e', e' = eachE (datE m) m.datas e12 := ⟨_, rfl⟩
   rw [← he13] at hv
   have HE13 := zh he13
   have HB13 := zh (HB12.out.turn hv hf)
   have HHV13 := zh (HB12.out.vk.keep HHV.out (by decide) hf)
   have HRW13 := zh (HB12.out.vk.row HRW.out (by decide) hf)
   clear hv hf he13
   have HV := zh (show vchk m = if e13 = 0 then ((codE m m.codes [] (fore m)).1, 0) else ([], e13) from by rw [HE13.out, HE12.out]; rfl)
   have cc : x13.cell? ⟨cb, 0, none⟩ = some (.pointer (some ⟨kb, 0, none⟩)) := HB13.out.cb.cell 0
   have c13 := HB13.out.vk.c13
   have h7 : x13.cell? ⟨hb, 0, none⟩ = some (.slice sh (codE m m.codes [] (fore m)).1.length ch) := HHV13.out.cell 0
   by_cases h0 : e13 = 0
   ·subst h0
    generalize hHq : (codE m m.codes [] (fore m)).1 = HQ at HV HRW13 h7
    go_wp2_with fail
    go_ret2
    refine ⟨_, by rw [HV.out]; rfl, ?_, bt HBW.out HB13.out.vk.bel⟩
    rw [HV.out, if_pos trivial]
    exact own_sl (fun _ => rfl) HRW13.out
   ·have h01 : ¬ (e13 : Int) = 0 := by omega
    have h02 : ((e13 : Int) != 0) = true := by simpa using h0
    go_wp2_with fail
    clear cc c13 h7
    have hd := below_drew x13
    have HBd := zh (HB13.out.later hd)
    refine wp_region_t [(0, 1), (1, 1), (2, 1), (3, 1), (4, 1), (5, 1)] (fun w' => w'.cell? ⟨cb, 0, none⟩ = some (.pointer (some ⟨kb, 0, none⟩)) ∧ w'.cell? ⟨kb, 13, none⟩ = some (.int .i64 e13)) [] [] rfl (by kernel_rfl) (by kernel_rfl) (fun _ _ d _ _ h => by cases d <;> exact h) ⟨HBd.out.cb.cell 0, HBd.out.vk.c13⟩ (fun p hp => by cases hp) ?_
    clear hd
    generalize x13.drew = xq at HBd ⊢
    repeat (first | (refine ts_take (v := ?_) rfl rfl (fun w' hw' => ?_) ?_; rotate_left; (focus (obtain ⟨q0, q1⟩ := hw'; (try simp only [Act.put, sA, sB, sC]); go_simp; (try go_bits); (try (with_reducible rfl)))); (try simp only [Act.put, sA, sB, sC])) | (refine ts_skip rfl rfl ?_; (try simp only [Act.put, sA, sB, sC])))
    refine ts_done ?_
    go_wp2_with fail
    go_ret2
    refine ⟨_, by rw [HV.out, if_neg h0]; rfl, ?_, bt HBW.out HBd.out.vk.bel⟩
    rw [HV.out, if_neg h0]
    exact Sl.nil _ _ _ _
end Go.Proofs.YtmgjcaikldeioaaGreat.Va
