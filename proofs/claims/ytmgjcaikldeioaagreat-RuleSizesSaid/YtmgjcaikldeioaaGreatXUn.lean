/- A body's checker: return and unreachable, branches. -/
import Derived.Test.YtmgjcaikldeioaaGreatXUl
import Derived.Test.YtmgjcaikldeioaaGreatXUk
namespace Go.Proofs.YtmgjcaikldeioaaGreat.Ty
open Go Go.RowKit Go.Lib Kt Fm Gr

theorem wp_wone {op : Oper} {a : Act} {w : World} {Q : Exit → Act → World → Prop} {K : Act → World → Prop} {own : Nat → Prop} {v : Value} {n g : Nat} {xs : List Value} {u : Value} (p q : Operand) (ho : op.op = .call { callee := .builtin .append, args := #[p, q], argTypes := #[49, 49] }) (hv : a.eval p = v) (h : WRow w own 5 1 v n xs)
  (hq : a.eval q = .slice (some ⟨g, 0, none⟩) 1 1) (hx : Sl w 1 oc (.slice (some ⟨g, 0, none⟩) 1 1) [u]) (hu : u.oneCell' = true) (hn : n ≤ 1000000000) (hK : ∀ v' w', WRow w' (fun k => own k ∨ w.heap.size ≤ k) 5 1 v' (n + 1) (xs ++ [u]) → Fr w w' (fun k => some k = v.ownBlock) → K (a.put op.dst v') w') : op.wp Tryz.prog a w K Q := by
 obtain ⟨i, z, hi, hz0, hz1, hz2, hz3⟩ := info_of' inf_u8
 obtain ⟨v', w', hr, h2, h3, _⟩ := run_append_wrow (P := Tryz.prog) w 49 op.type 5 i z 1 1 und_u8s hi hz0 hz1 hz2 hz3 (by decide) h ⟨g, 0, none⟩ 1 [u] rfl (fun j y hj => by
  obtain ⟨rfl, rfl⟩ : j = 0 ∧ y = u := by
   rcases j with _ | j
   ·exact ⟨rfl, by simpa using hj.symm⟩
   ·simp at hj
  exact hx.cell (i := 0) (x := y) rfl (j := 0) rfl) (fun y hy => by obtain rfl := List.mem_singleton.1 hy; exact hu) (by unfold maxLen; omega) (by omega)
 unfold Oper.wp execOp
 simp only [ho, resolve, invoke, builtin, Sem.run_bind, Sem.run_pure, Result.andThen_ok, List.map_toArray, List.map_cons, List.map_nil, hv, hq, hr]
 exact hK v' w' h2 h3
theorem all_take {α : Type} {l : List α} {k : Nat} {x : α} (p : α → Bool) (h : l[k]? = some x) : (l.take (k + 1)).all p = ((l.take k).all p && p x) := by
 rw [List.take_add_one, h]
 simp
theorem not_isNone {o : Option Bts} : o.isNone = !o.isSome := by cases o <;> rfl
theorem any_none {t : Stk} {L : List Nat} : (L.any fun n => (label t n).isNone) = !(L.all fun n => (label t n).isSome) := by
 induction L with
 | nil => rfl
 | cons x r ih => rw [List.any_cons, List.all_cons, ih, not_isNone, Bool.not_and]
theorem same_some {t : Stk} {l : Bts} : ∀ {L : List Nat}, (L.all fun n => (label t n).isSome) = true → (L.all fun n => decide (label t n = some l)) = L.all fun n => (label t n).getD [] == l
 | [], _ => rfl
 | x :: r, h => by
  simp only [List.all_cons, Bool.and_eq_true] at h
  simp only [List.all_cons, same_some h.2]
  congr 1
  cases hx : label t x with
  | none => rw [hx] at h; cases h.1
  | some b => rw [Bool.eq_iff_iff]; simp
theorem getD_len {s : St} {a : Nat} (h : Sm s) : ((label s.t a).getD []).length ≤ 4000 := by
 cases e : label s.t a with
 | none => simp
 | some l => exact h.label e
set_option maxRecDepth 100000 in
set_option maxHeartbeats 8000000 in
theorem indirect_any {W0 w : World} {S0 kb sb : Nat} {fn : Ft} {c : Cod} {lv fv ov : Value} {FV : List Fv} {s : St} {x : Ins} (h : Ck W0 w S0 fn c kb sb lv fv ov FV s) (hs : Sm s) (hx : InsOk W0 x) {m : Mod} {GS : List Gt} {BS MS : List Lim} (hsp : SpG W0 S0 m GS BS MS) (hm : ModOk W0 m) :
  Calls Tryz.prog 98 #[.pointer (some ⟨kb, 0, none⟩), .agg x.cs.toArray] w fun e w' => StepSays W0 S0 fn c kb sb w' e (stepInd ⟨spcOf m GS BS MS, fn, c⟩ s x) := by
 have HC := zh h
 have HS := zh hs
 have HX := zh hx
 have HSP := zh hsp
 have HM := zh hm
 have hxa : x.a < 4294967296 := hx.1
 obtain ⟨tb, htb⟩ : ∃ tb, tb = (BS[0]?).isSome := ⟨_, rfl⟩
 obtain ⟨b, hb⟩ : ∃ b, b = (m.types[x.a]?).isSome := ⟨_, rfl⟩
 have HTB := zh htb
 have HBB := zh hb
 clear h hs hx hsp hm htb hb
 go_enter Tryz.func98, Tryz.ntmps98
 go_wp2_with (refine wl_box x.cs _ rfl rfl rfl (fun w1 hb1 hl1 => ?_); have HC1 := zh (HC.out.later hb1); have HX1 := zh hl1; have HB1 := zh hb1; obtain ⟨B3, hB3⟩ : ∃ B3, B3 = w.heap.size := ⟨_, rfl⟩; rw [← hB3] at HX1 ⊢; clear hB3 hb1 hl1; have k0 : w1.cell? ⟨kb, 0, none⟩ = some (.pointer (some ⟨S0, 0, none⟩)) := HC1.out.cell.cell 0; have k5 : w1.cell? ⟨kb, 5, none⟩ = some (.pointer (some ⟨sb, 0, none⟩)) := HC1.out.cell.cell 5; have x1 : w1.cell? ⟨B3, 1, none⟩ = some (.int .u32 x.a) := HX1.out.cell 1; (try simp only [Act.put, sA, sB, sC]))
 refine (table_any (i := 0) (HSP.out.later HC1.out.bel) (by decide)).mono ?_
 rintro en w2 ⟨rfl, hb2⟩
 rw [← HTB.out]
 have HC2 := zh (HC1.out.later hb2)
 have HX2 := zh (HX1.out.below hb2 HX1.out.lt)
 clear k0 k5 x1 hb2
 have k0 : w2.cell? ⟨kb, 0, none⟩ = some (.pointer (some ⟨S0, 0, none⟩)) := HC2.out.cell.cell 0
 have k5 : w2.cell? ⟨kb, 5, none⟩ = some (.pointer (some ⟨sb, 0, none⟩)) := HC2.out.cell.cell 5
 have x1 : w2.cell? ⟨B3, 1, none⟩ = some (.int .u32 x.a) := HX2.out.cell 1
 obtain ⟨cs, hcs⟩ : ∃ cs, cs = limC BS[0]? := ⟨_, rfl⟩
 obtain ⟨a0, a1, rfl, hone⟩ : ∃ a0 a1, cs = [a0, a1] ∧ (([a0, a1] : List Value).toArray.all (·.oneCell')) = true := by
  cases hm0 : BS[0]? with
  | none => exact ⟨_, _, by rw [hcs, hm0]; rfl, by simp [Value.oneCell']⟩
  | some l => exact ⟨_, _, by rw [hcs, hm0]; rfl, by simp [Value.oneCell']⟩
 rw [← hcs]
 have HON := zh hone
 clear hcs hone
 go_wp2_with (refine wl_put (Lies.new _ _ _) [a0, a1] _ _ rfl rfl rfl rfl rfl sizeLim HON.out (fun w3 hL3 hF3 => ?_); have hb3 := below_put ((Below.refl w2.heap.size w2).alloc (Nat.le_refl _) _) hF3 (Nat.le_refl _); have HC3 := zh (HC2.out.later hb3); have HX3 := zh (HX2.out.below hb3 HX2.out.lt); clear hb3 hL3 hF3 k0 k5 x1; have k0 : w3.cell? ⟨kb, 0, none⟩ = some (.pointer (some ⟨S0, 0, none⟩)) := HC3.out.cell.cell 0; have k5 : w3.cell? ⟨kb, 5, none⟩ = some (.pointer (some ⟨sb, 0, none⟩)) := HC3.out.cell.cell 5; have x1 : w3.cell? ⟨B3, 1, none⟩ = some (.int .u32 x.a) := HX3.out.cell 1; (try simp only [Act.put]))
 have hd4 := below_drew w3
 have HC4 := zh (HC3.out.later hd4)
 have HX4 := zh (HX3.out.below hd4 HX3.out.lt)
 refine RP.region (RP.take 0 (RP.take 1 (RP.take 2 (RP.take 3 (RP.take 4 (RP.take 5 (RP.fork 6 10 (RP.take 7 (RP.take 8 (RP.take 9 (RP.run 10 (RP.run 11 (RP.take 12 RP.done)))))) (RP.run 6 (RP.take 7 (RP.take 8 (RP.take 9 (RP.run 11 (RP.take 12 RP.done))))))))))))) (fun w' => w'.cell? ⟨kb, 0, none⟩ = some (.pointer (some ⟨S0, 0, none⟩)) ∧ w'.cell? ⟨kb, 5, none⟩ = some (.pointer (some ⟨sb, 0, none⟩)) ∧ w'.cell? ⟨B3, 1, none⟩ = some (.int .u32 x.a)) (by kernel_rfl) (by kernel_rfl) (fun _ _ d _ _ h => by cases d <;> exact h) ⟨(HC4.out.cell.cell 0), (HC4.out.cell.cell 5), (HX4.out.cell 1)⟩ (fun _ => ?_)
 clear k0 k5 x1 hd4
 generalize w3.drew = w4 at HC4 HX4 ⊢
 repeat (first | (refine RP.t_take (v := ?_) rfl rfl (fun w' hw' => ?_) ?_; rotate_left; (focus (obtain ⟨q0, q1, q2⟩ := hw'; (try simp only [Act.put, sA, sB, sC]); go_simp; (try go_bits); (try (with_reducible rfl)))); (try simp only [Act.put, sA, sB, sC])) | (refine RP.t_skip rfl rfl ?_; (try simp only [Act.put, sA, sB, sC])))
 refine RP.t_fork rfl rfl (fun K hK => ?_) (fun K hK => ?_)
 ·go_simp
  refine (type_any HM.out (HSP.out.later HC4.out.bel).sp hxa).mono ?_
  rintro en wa ⟨y, rfl, ho, ht, hya, hab⟩
  rw [← HBB.out]
  have HO := zh ho
  have HT := zh ht
  have HAB := zh hab
  have HLN := zh (told_len HM.out ht)
  clear ho ht hab
  refine hK.out _ _ ⟨((HC4.out.later hya).cell.cell 0), ((HC4.out.later hya).cell.cell 5), ((HX4.out.below hya HX4.out.lt).cell 1)⟩ ?_
  clear hK K
  (try simp only [Act.put, sA, sB, sC])
  repeat (first | (refine RP.t_take (v := ?_) rfl rfl (fun w' hw' => ?_) ?_; rotate_left; (focus (obtain ⟨q0, q1, q2⟩ := hw'; (try simp only [Act.put, sA, sB, sC]); go_simp; (try go_bits); (try (with_reducible rfl)))); (try simp only [Act.put, sA, sB, sC])) | (refine RP.t_skip rfl rfl ?_; (try simp only [Act.put, sA, sB, sC])))
  refine RP.t_run rfl (fun K hK => ?_)
  go_simp
  obtain ⟨wb, hwn⟩ : ∃ wb, wb = wa.alloc (.cells #[.slice none 0 0, .slice none 0 0] 51) := ⟨_, rfl⟩
  have hal : Below wa.heap.size wa wb := hwn ▸ (Below.refl _ _).alloc (Nat.le_refl _) _
  have hyb := bt hya hal
  have HN := zh (show Lies wb wa.heap.size 51 #[.slice none 0 0, .slice none 0 0] from hwn ▸ Lies.new _ _ _)
  rw [← hwn]
  clear hwn
  obtain ⟨Bn, hBn⟩ : ∃ Bn, Bn = wa.heap.size := ⟨_, rfl⟩
  rw [← hBn] at HN ⊢
  have hBw : w4.heap.size ≤ Bn := by rw [hBn]; exact hya.size
  clear hBn
  replace HO := zh (HO.out.later hal)
  refine hK.out _ _ ⟨((HC4.out.later hyb).cell.cell 0), ((HC4.out.later hyb).cell.cell 5), ((HX4.out.below hyb HX4.out.lt).cell 1)⟩ ?_
  clear hK K
  (try simp only [Act.put, sA, sB, sC])
  refine RP.t_run rfl (fun K hK => ?_)
  refine ite_of rfl ?_
  refine wp_put HN.out y.cs _ _ rfl rfl rfl rfl sizeFt (oneFt (HO.out.ok HLN.out.1 HLN.out.2)) (fun w5 hlc hfc => ?_)
  have hyc := hyb.trans (hfc.below hyb.size (fun k hk => by omega))
  have HO := zh (HO.out.frT (FrT.field HN.out hfc) (by decide))
  refine hK.out _ _ ⟨((HC4.out.later hyc).cell.cell 0), ((HC4.out.later hyc).cell.cell 5), ((HX4.out.below hyc HX4.out.lt).cell 1)⟩ ?_
  clear hK K
  (try simp only [Act.put])
  repeat (first | (refine RP.t_take (v := ?_) rfl rfl (fun w' hw' => ?_) ?_; rotate_left; (focus (obtain ⟨q0, q1, q2⟩ := hw'; (try simp only [Act.put, sA, sB, sC]); go_simp; (try go_bits); (try (with_reducible rfl)))); (try simp only [Act.put, sA, sB, sC])) | (refine RP.t_skip rfl rfl ?_; (try simp only [Act.put, sA, sB, sC])))
  refine RP.t_done ?_
  have HN5 := zh hlc
  clear hlc hfc
  have HC5 := zh (HC4.out.later hyc)
  have HX5 := zh (HX4.out.below hyc HX4.out.lt)
  have HBP := zh hyc
  clear hyc
  have k0 : w5.cell? ⟨kb, 0, none⟩ = some (.pointer (some ⟨S0, 0, none⟩)) := HC5.out.cell.cell 0
  have k5 : w5.cell? ⟨kb, 5, none⟩ = some (.pointer (some ⟨sb, 0, none⟩)) := HC5.out.cell.cell 5
  have x1 : w5.cell? ⟨B3, 1, none⟩ = some (.int .u32 x.a) := HX5.out.cell 1
  have n0 : w5.cell? ⟨Bn, 0, none⟩ = some (y.pv) := HN5.out.cell 0
  have n1 : w5.cell? ⟨Bn, 1, none⟩ = some (y.rv) := HN5.out.cell 1
  cases b with
  | false =>
   have HE := zh (show m.types[x.a]? = none from by have := HBB.out; cases h : m.types[x.a]? with | none => rfl | some _ => rw [h] at this; cases this)
   go_wp2_with fail
   go_ret
   unfold stepInd
   rw [show (spcOf m GS BS MS).type x.a = none from HE.out]
   exact ⟨rfl, HC5.out.bel⟩
  | true =>
   obtain ⟨f, hf⟩ : ∃ f, m.types[x.a]? = some f := by have := HBB.out; cases h : m.types[x.a]? with | none => rw [h] at this; cases this | some f => exact ⟨f, rfl⟩
   have HE := zh hf
   have HPR := zh (show y.p = f.p ∧ y.r = f.r from by have := HT.out; unfold TyTold at this; rw [hf] at this; simpa using this)
   clear hf
   cases tb with
   | false =>
    go_wp2_with fail
    go_ret
    unfold stepInd
    rw [show (spcOf m GS BS MS).type x.a = some f from HE.out]
    simp only [show (spcOf m GS BS MS).tab = false from HTB.out.symm]
    rw [if_neg (by decide)]
    exact ⟨rfl, HC5.out.bel⟩
   | true =>
    go_wp2_with fail
    have HNd := zh (HN5.out.below (below_drew w5) HN5.out.lt)
    have hd9 := below_drew w5
    have HCd := zh (HC5.out.later hd9)
    have HOd := zh (HO.out.later hd9)
    have hy9 := bt HBP.out hd9
    refine wp_region_t [(0, 1), (1, 1), (2, 2), (5, 1), (6, 2), (3, 0), (4, 0), (7, 0), (8, 1)] (fun _ => True) [(7, fun w' => w'.cell? ⟨Bn, 0, none⟩ = some y.pv ∧ w'.cell? ⟨Bn, 1, none⟩ = some y.rv)] [7] rfl (by kernel_rfl) (by kernel_rfl) (fun _ _ d _ _ h => by cases d <;> exact h) trivial (fun p hp => by obtain rfl := List.mem_singleton.1 hp; exact ⟨HNd.out.cell 0, HNd.out.cell 1⟩) ?_
    clear k0 k5 x1 n0 n1 hd9
    generalize w5.drew = wv at HNd HCd HOd hy9 ⊢
    repeat (first | (refine ts_take2 (v := ?_) rfl rfl (fun w' _ hs' => ?_) ?_; rotate_left; (focus (obtain ⟨q0, q1⟩ := hs'.one rfl; clear hs'; (try simp only [Act.put, sA, sB, sC]); go_simp; (try go_bits); (try (with_reducible rfl)))); (try simp only [Act.put, sA, sB, sC])) | (refine ts_take (v := ?_) rfl rfl (fun w' hw' => ?_) ?_; rotate_left; (focus (clear hw'; (try simp only [Act.put, sA, sB, sC]); go_simp; (try go_bits); (try (with_reducible rfl)))); (try simp only [Act.put, sA, sB, sC])))
    refine ts_run1 rfl rfl (fun K hK => ?_)
    refine wp_b1 127 _ rfl rfl (fun wa hba hsa => ?_)
    have HNa := zh (HNd.out.below hba HNd.out.lt)
    have HOa := zh (HOd.out.later hba)
    have HSa := zh hsa
    have hya := hba
    refine hK.out _ _ trivial (still_one (.inr ⟨HNa.out.cell 0, HNa.out.cell 1⟩)) ?_
    clear hK K hba hsa
    (try simp only [Act.put, sA, sB, sC])
    refine ts_run1 rfl rfl (fun K hK => ?_)
    refine wp_wone (n := y.p.length) _ _ rfl rfl HOa.out.1 rfl HSa.out rfl (by have := HLN.out.1; unfold Bd at this; omega) (fun vb wb hwb hfb => ?_)
    have HNb := zh (lies_fr HNa.out hfb (fun e => by obtain ⟨_, _, cur, hc⟩ := wrow_lt HOa.out.1 e.symm; exact HNa.out.ne (show Lies wa Bn 5 cur from hc) (by decide) rfl))
    have HRb := zh (HOa.out.2.kept hfb (fun k _ hk e => HAB.out.2.2 k e.symm hk.symm))
    have HSb := zh (show Sl wb 1 u8c vb (y.p ++ [127]) from Fm.WRow.sl (en := u8c) (fun _ => rfl) (by rw [List.length_append, List.flatMap_append]; exact hwb))
    have HCb := zh (HC4.out.later ((bt hy9 hya).trans (hfb.below (bt hy9 hya).size (fun k hk => HAB.out.1 k hk.symm))))
    refine hK.out _ _ trivial (still_one (.inr ⟨HNb.out.cell 0, HNb.out.cell 1⟩)) ?_
    clear hK K hwb hfb hya
    (try simp only [Act.put, sA, sB, sC])
    refine ts_run1 rfl rfl (fun K hK => ?_)
    go_simp
    refine (takes_any HCb.out HS.out (ps := f.p ++ [127]) (rs := f.r) (by rw [← HPR.out.1]; exact HSb.out) (by rw [← HPR.out.2]; exact Fm.WRow.sl (en := u8c) (fun _ => rfl) HRb.out) (by have := HLN.out.1; rw [HPR.out.1] at this; unfold Bd at this; simp; omega) (by have := HLN.out.2; rw [HPR.out.2] at this; unfold Bd at this; omega)).mono ?_
    intro en wt ht
    obtain ⟨n, rfl⟩ := ht.form
    replace ht := zh ht
    refine hK.out _ _ trivial (still_one (.inl rfl)) ?_
    clear hK K
    (try simp only [Act.put, sA, sB, sC])
    repeat (refine ts_take (v := ?_) rfl rfl (fun w' hw' => ?_) ?_; rotate_left; (focus (clear hw'; (try simp only [Act.put, sA, sB, sC]); go_simp; (try go_bits); (try (with_reducible rfl)))); (try simp only [Act.put, sA, sB, sC]))
    refine ts_done ?_
    go_wp2_with fail
    go_ret
    unfold stepInd
    rw [show (spcOf m GS BS MS).type x.a = some f from HE.out]
    simp only [show (spcOf m GS BS MS).tab = true from HTB.out.symm, if_true]
    exact ht.out
 ·go_simp
  obtain ⟨wa, hwn⟩ : ∃ wa, wa = w4.alloc (.cells #[.slice none 0 0, .slice none 0 0] 51) := ⟨_, rfl⟩
  have hal : Below w4.heap.size w4 wa := hwn ▸ (Below.refl _ _).alloc (Nat.le_refl _) _
  have hya := hal
  have HN := zh (show Lies wa w4.heap.size 51 #[.slice none 0 0, .slice none 0 0] from hwn ▸ Lies.new _ _ _)
  rw [← hwn]
  clear hwn
  obtain ⟨Bn, hBn⟩ : ∃ Bn, Bn = w4.heap.size := ⟨_, rfl⟩
  rw [← hBn] at HN ⊢
  have hBw : w4.heap.size ≤ Bn := by rw [hBn]; exact Nat.le_refl _
  clear hBn
  refine hK.out _ _ ⟨((HC4.out.later hya).cell.cell 0), ((HC4.out.later hya).cell.cell 5), ((HX4.out.below hya HX4.out.lt).cell 1)⟩ ?_
  clear hK K
  (try simp only [Act.put, sA, sB, sC])
  refine RP.t_run rfl (fun K hK => ?_)
  go_simp
  refine (type_any HM.out (HSP.out.later (HC4.out.later hya).bel).sp hxa).mono ?_
  rintro en wb ⟨y, rfl, ho, ht, hbb, hab⟩
  have hyb := bt hya hbb
  replace HN := zh (HN.out.below hbb HN.out.lt)
  rw [← HBB.out]
  have HO := zh ho
  have HT := zh ht
  have HAB := zh (show FtAbove w4.heap.size y from ⟨fun k hk => Nat.le_trans hya.size (hab.1 k hk), fun k hk => Nat.le_trans hya.size (hab.2.1 k hk), hab.2.2⟩)
  have HLN := zh (told_len HM.out ht)
  clear ho ht hab
  refine hK.out _ _ ⟨((HC4.out.later hyb).cell.cell 0), ((HC4.out.later hyb).cell.cell 5), ((HX4.out.below hyb HX4.out.lt).cell 1)⟩ ?_
  clear hK K
  (try simp only [Act.put, sA, sB, sC])
  repeat (first | (refine RP.t_take (v := ?_) rfl rfl (fun w' hw' => ?_) ?_; rotate_left; (focus (obtain ⟨q0, q1, q2⟩ := hw'; (try simp only [Act.put, sA, sB, sC]); go_simp; (try go_bits); (try (with_reducible rfl)))); (try simp only [Act.put, sA, sB, sC])) | (refine RP.t_skip rfl rfl ?_; (try simp only [Act.put, sA, sB, sC])))
  refine RP.t_run rfl (fun K hK => ?_)
  refine ite_of rfl ?_
  refine wp_put HN.out y.cs _ _ rfl rfl rfl rfl sizeFt (oneFt (HO.out.ok HLN.out.1 HLN.out.2)) (fun w5 hlc hfc => ?_)
  have hyc := hyb.trans (hfc.below hyb.size (fun k hk => by omega))
  have HO := zh (HO.out.frT (FrT.field HN.out hfc) (by decide))
  refine hK.out _ _ ⟨((HC4.out.later hyc).cell.cell 0), ((HC4.out.later hyc).cell.cell 5), ((HX4.out.below hyc HX4.out.lt).cell 1)⟩ ?_
  clear hK K
  (try simp only [Act.put])
  repeat (first | (refine RP.t_take (v := ?_) rfl rfl (fun w' hw' => ?_) ?_; rotate_left; (focus (obtain ⟨q0, q1, q2⟩ := hw'; (try simp only [Act.put, sA, sB, sC]); go_simp; (try go_bits); (try (with_reducible rfl)))); (try simp only [Act.put, sA, sB, sC])) | (refine RP.t_skip rfl rfl ?_; (try simp only [Act.put, sA, sB, sC])))
  refine RP.t_done ?_
  have HN5 := zh hlc
  clear hlc hfc
  have HC5 := zh (HC4.out.later hyc)
  have HX5 := zh (HX4.out.below hyc HX4.out.lt)
  have HBP := zh hyc
  clear hyc
  have k0 : w5.cell? ⟨kb, 0, none⟩ = some (.pointer (some ⟨S0, 0, none⟩)) := HC5.out.cell.cell 0
  have k5 : w5.cell? ⟨kb, 5, none⟩ = some (.pointer (some ⟨sb, 0, none⟩)) := HC5.out.cell.cell 5
  have x1 : w5.cell? ⟨B3, 1, none⟩ = some (.int .u32 x.a) := HX5.out.cell 1
  have n0 : w5.cell? ⟨Bn, 0, none⟩ = some (y.pv) := HN5.out.cell 0
  have n1 : w5.cell? ⟨Bn, 1, none⟩ = some (y.rv) := HN5.out.cell 1
  cases b with
  | false =>
   have HE := zh (show m.types[x.a]? = none from by have := HBB.out; cases h : m.types[x.a]? with | none => rfl | some _ => rw [h] at this; cases this)
   go_wp2_with fail
   go_ret
   unfold stepInd
   rw [show (spcOf m GS BS MS).type x.a = none from HE.out]
   exact ⟨rfl, HC5.out.bel⟩
  | true =>
   obtain ⟨f, hf⟩ : ∃ f, m.types[x.a]? = some f := by have := HBB.out; cases h : m.types[x.a]? with | none => rw [h] at this; cases this | some f => exact ⟨f, rfl⟩
   have HE := zh hf
   have HPR := zh (show y.p = f.p ∧ y.r = f.r from by have := HT.out; unfold TyTold at this; rw [hf] at this; simpa using this)
   clear hf
   cases tb with
   | false =>
    go_wp2_with fail
    go_ret
    unfold stepInd
    rw [show (spcOf m GS BS MS).type x.a = some f from HE.out]
    simp only [show (spcOf m GS BS MS).tab = false from HTB.out.symm]
    rw [if_neg (by decide)]
    exact ⟨rfl, HC5.out.bel⟩
   | true =>
    go_wp2_with fail
    have HNd := zh (HN5.out.below (below_drew w5) HN5.out.lt)
    have hd9 := below_drew w5
    have HCd := zh (HC5.out.later hd9)
    have HOd := zh (HO.out.later hd9)
    have hy9 := bt HBP.out hd9
    refine wp_region_t [(0, 1), (1, 1), (2, 2), (5, 1), (6, 2), (3, 0), (4, 0), (7, 0), (8, 1)] (fun _ => True) [(7, fun w' => w'.cell? ⟨Bn, 0, none⟩ = some y.pv ∧ w'.cell? ⟨Bn, 1, none⟩ = some y.rv)] [7] rfl (by kernel_rfl) (by kernel_rfl) (fun _ _ d _ _ h => by cases d <;> exact h) trivial (fun p hp => by obtain rfl := List.mem_singleton.1 hp; exact ⟨HNd.out.cell 0, HNd.out.cell 1⟩) ?_
    clear k0 k5 x1 n0 n1 hd9
    generalize w5.drew = wv at HNd HCd HOd hy9 ⊢
    repeat (first | (refine ts_take2 (v := ?_) rfl rfl (fun w' _ hs' => ?_) ?_; rotate_left; (focus (obtain ⟨q0, q1⟩ := hs'.one rfl; clear hs'; (try simp only [Act.put, sA, sB, sC]); go_simp; (try go_bits); (try (with_reducible rfl)))); (try simp only [Act.put, sA, sB, sC])) | (refine ts_take (v := ?_) rfl rfl (fun w' hw' => ?_) ?_; rotate_left; (focus (clear hw'; (try simp only [Act.put, sA, sB, sC]); go_simp; (try go_bits); (try (with_reducible rfl)))); (try simp only [Act.put, sA, sB, sC])))
    refine ts_run1 rfl rfl (fun K hK => ?_)
    refine wp_b1 127 _ rfl rfl (fun wa hba hsa => ?_)
    have HNa := zh (HNd.out.below hba HNd.out.lt)
    have HOa := zh (HOd.out.later hba)
    have HSa := zh hsa
    have hya := hba
    refine hK.out _ _ trivial (still_one (.inr ⟨HNa.out.cell 0, HNa.out.cell 1⟩)) ?_
    clear hK K hba hsa
    (try simp only [Act.put, sA, sB, sC])
    refine ts_run1 rfl rfl (fun K hK => ?_)
    refine wp_wone (n := y.p.length) _ _ rfl rfl HOa.out.1 rfl HSa.out rfl (by have := HLN.out.1; unfold Bd at this; omega) (fun vb wb hwb hfb => ?_)
    have HNb := zh (lies_fr HNa.out hfb (fun e => by obtain ⟨_, _, cur, hc⟩ := wrow_lt HOa.out.1 e.symm; exact HNa.out.ne (show Lies wa Bn 5 cur from hc) (by decide) rfl))
    have HRb := zh (HOa.out.2.kept hfb (fun k _ hk e => HAB.out.2.2 k e.symm hk.symm))
    have HSb := zh (show Sl wb 1 u8c vb (y.p ++ [127]) from Fm.WRow.sl (en := u8c) (fun _ => rfl) (by rw [List.length_append, List.flatMap_append]; exact hwb))
    have HCb := zh (HC4.out.later ((bt hy9 hya).trans (hfb.below (bt hy9 hya).size (fun k hk => HAB.out.1 k hk.symm))))
    refine hK.out _ _ trivial (still_one (.inr ⟨HNb.out.cell 0, HNb.out.cell 1⟩)) ?_
    clear hK K hwb hfb hya
    (try simp only [Act.put, sA, sB, sC])
    refine ts_run1 rfl rfl (fun K hK => ?_)
    go_simp
    refine (takes_any HCb.out HS.out (ps := f.p ++ [127]) (rs := f.r) (by rw [← HPR.out.1]; exact HSb.out) (by rw [← HPR.out.2]; exact Fm.WRow.sl (en := u8c) (fun _ => rfl) HRb.out) (by have := HLN.out.1; rw [HPR.out.1] at this; unfold Bd at this; simp; omega) (by have := HLN.out.2; rw [HPR.out.2] at this; unfold Bd at this; omega)).mono ?_
    intro en wt ht
    obtain ⟨n, rfl⟩ := ht.form
    replace ht := zh ht
    refine hK.out _ _ trivial (still_one (.inl rfl)) ?_
    clear hK K
    (try simp only [Act.put, sA, sB, sC])
    repeat (refine ts_take (v := ?_) rfl rfl (fun w' hw' => ?_) ?_; rotate_left; (focus (clear hw'; (try simp only [Act.put, sA, sB, sC]); go_simp; (try go_bits); (try (with_reducible rfl)))); (try simp only [Act.put, sA, sB, sC]))
    refine ts_done ?_
    go_wp2_with fail
    go_ret
    unfold stepInd
    rw [show (spcOf m GS BS MS).type x.a = some f from HE.out]
    simp only [show (spcOf m GS BS MS).tab = true from HTB.out.symm, if_true]
    exact ht.out
set_option maxRecDepth 100000 in
set_option maxHeartbeats 8000000 in
theorem table_any' {W0 w : World} {S0 kb sb : Nat} {fn : Ft} {c : Cod} {lv fv ov : Value} {FV : List Fv} {s : St} {x : Ins} (h : Ck W0 w S0 fn c kb sb lv fv ov FV s) (hs : Sm s) (hx : InsOk W0 x) :
  Calls Tryz.prog 95 #[.pointer (some ⟨kb, 0, none⟩), .agg x.cs.toArray] w fun e w' => StepSays W0 S0 fn c kb sb w' e (stepTable s x) := by
 have HC := zh h
 have HS := zh hs
 have HX := zh hx
 have hxa : x.a < 4294967296 := hx.1
 obtain ⟨sl, cl, hlv, hls⟩ := hx.2.2.2.1.form
 have HSL := zh hx.2.2.2.1
 rw [hlv] at HSL
 have HLS := zh hls
 have HLV := zh hlv
 have HLT := zh hx.2.2.2.2.1
 have hlb : x.ls.length ≤ 1048576 := hx.2.2.2.2.2
 obtain ⟨b0, hb0⟩ : ∃ b0, b0 = (label s.t x.a).isSome := ⟨_, rfl⟩
 obtain ⟨l0, hl0⟩ : ∃ l0, l0 = (label s.t x.a).getD [] := ⟨_, rfl⟩
 have hl0b : l0.length ≤ 4000 := by rw [hl0]; exact getD_len hs
 have HB0 := zh hb0
 have HL0 := zh hl0
 clear h hs hx hls hlv hb0 hl0
 go_enter Tryz.func95, Tryz.ntmps95
 go_wp2_with (refine wl_box x.cs _ rfl rfl rfl (fun w1 hb1 hl1 => ?_); have HC1 := zh (HC.out.later hb1); have HX1 := zh hl1; have HB1 := zh hb1; obtain ⟨B3, hB3⟩ : ∃ B3, B3 = w.heap.size := ⟨_, rfl⟩; rw [← hB3] at HX1 ⊢; clear hB3 hb1 hl1; have k5 : w1.cell? ⟨kb, 5, none⟩ = some (.pointer (some ⟨sb, 0, none⟩)) := HC1.out.cell.cell 5; have x1 : w1.cell? ⟨B3, 1, none⟩ = some (.int .u32 x.a) := HX1.out.cell 1; have x4 : w1.cell? ⟨B3, 4, none⟩ = some (.slice sl x.ls.length cl) := (HX1.out.cell 4).trans (congrArg some HLV.out); (try simp only [Act.put, sA, sB, sC]))
 have hd2 := below_drew w1
 have HC2 := zh (HC1.out.later hd2)
 have HX2 := zh (HX1.out.below hd2 HX1.out.lt)
 refine wp_region_t [(0, 1), (1, 1), (2, 1), (3, 1), (4, 1), (5, 1), (6, 0), (7, 1), (8, 1), (9, 1), (10, 1), (11, 1)] (fun w' => w'.cell? ⟨kb, 5, none⟩ = some (.pointer (some ⟨sb, 0, none⟩)) ∧ w'.cell? ⟨B3, 1, none⟩ = some (.int .u32 x.a)) [] [] rfl (by kernel_rfl) (by kernel_rfl) (fun _ _ d _ _ h => by cases d <;> exact h) ⟨(HC2.out.cell.cell 5), (HX2.out.cell 1)⟩ (fun p hp => by cases hp) ?_
 clear k5 x1 x4 hd2
 generalize w1.drew = w2 at HC2 HX2 ⊢
 repeat (first | (refine ts_take (v := ?_) rfl rfl (fun w' hw' => ?_) ?_; rotate_left; (focus (obtain ⟨q0, q1⟩ := hw'; (try simp only [Act.put, sA, sB, sC]); go_simp; (try go_bits); (try (with_reducible rfl)))); (try simp only [Act.put, sA, sB, sC])) | (refine ts_skip rfl rfl ?_; (try simp only [Act.put, sA, sB, sC])))
 refine ts_run1 rfl rfl (fun K hK => ?_)
 go_simp
 refine (lab_any HC2.out.stm HS.out.fs9 (fun y hy => (HC2.out.stm.labs HS.out y hy).1) hxa).mono ?_
 intro en w3 hl
 obtain ⟨v0, rfl, ho3, hb3⟩ := hl.uni
 rw [← HB0.out]
 rw [← HL0.out] at ho3
 have HO := zh ho3
 have HBP := zh hb3
 clear hl ho3
 have HC3 := zh (HC2.out.later hb3)
 have HX3 := zh (HX2.out.below hb3 HX2.out.lt)
 clear hb3
 refine hK.out _ _ ⟨(HC3.out.cell.cell 5), (HX3.out.cell 1)⟩ (still_none _ _) ?_
 clear hK K
 (try simp only [Act.put, sA, sB, sC])
 repeat (first | (refine ts_take (v := ?_) rfl rfl (fun w' hw' => ?_) ?_; rotate_left; (focus (obtain ⟨q0, q1⟩ := hw'; (try simp only [Act.put, sA, sB, sC]); go_simp; (try go_bits); (try (with_reducible rfl)))); (try simp only [Act.put, sA, sB, sC])) | (refine ts_skip rfl rfl ?_; (try simp only [Act.put, sA, sB, sC])))
 refine ts_done ?_
 have k5 : w3.cell? ⟨kb, 5, none⟩ = some (.pointer (some ⟨sb, 0, none⟩)) := HC3.out.cell.cell 5
 have x1 : w3.cell? ⟨B3, 1, none⟩ = some (.int .u32 x.a) := HX3.out.cell 1
 have x4 : w3.cell? ⟨B3, 4, none⟩ = some (.slice sl x.ls.length cl) := (HX3.out.cell 4).trans (congrArg some HLV.out)
 go_wp2_with fail
 clear k5 x1 x4
 go_loopw [6, 7, 25] (fun ok sm i wr => ∃ j : Nat, j ≤ x.ls.length ∧ i = .int .i64 j ∧ ok = .bool (b0 && (x.ls.take j).all fun n => (label s.t n).isSome) ∧ sm = .bool ((x.ls.take j).all fun n => (label s.t n).getD [] == l0) ∧ Below w3.heap.size w3 wr)
  (fun _ _ i _ => x.ls.length - (Lib.intOf i).toNat)
 case atStart => exact ⟨0, by omega, rfl, by simp, by simp, Below.refl _ _⟩
 case round =>
  obtain ⟨j, hj, rfl, rfl, rfl, hbr⟩ := hrel
  have HBR := zh hbr
  clear hbr
  obtain ⟨ok, hok⟩ : ∃ ok, ok = (b0 && (x.ls.take j).all fun n => (label s.t n).isSome) := ⟨_, rfl⟩
  obtain ⟨sm, hsm⟩ : ∃ sm, sm = ((x.ls.take j).all fun n => (label s.t n).getD [] == l0) := ⟨_, rfl⟩
  rw [← hok, ← hsm]
  have HOK := zh hok
  have HSM := zh hsm
  clear hok hsm
  have HCr := zh (HC3.out.later HBR.out)
  have k5 : wr.cell? ⟨kb, 5, none⟩ = some (.pointer (some ⟨sb, 0, none⟩)) := HCr.out.cell.cell 5
  by_cases hlt : j < x.ls.length
  ·obtain ⟨y, hy⟩ : ∃ y, x.ls[j]? = some y := ⟨_, List.getElem?_eq_getElem hlt⟩
   have hyl : y < 4294967296 := HLT.out y (List.mem_of_getElem? hy)
   have hlt2 : (j : Int) < (x.ls.length : Int) := by omega
   obtain ⟨g, off, rfl, _⟩ := HLS.out (by intro e; rw [e] at hlt; simp at hlt)
   have hcy := (HSL.out.later HCr.out.bel).cell hy (j := 0) rfl
   rw [Nat.add_zero, Nat.mul_one] at hcy
   have HY := zh hy
   clear hy
   go_wp2_with fail
   refine (lab_any HCr.out.stm HS.out.fs9 (fun z hz => (HCr.out.stm.labs HS.out z hz).1) hyl).mono ?_
   intro en wl hl
   obtain ⟨v2, rfl, ho2, hb2⟩ := hl.uni
   obtain ⟨b2, hb2'⟩ : ∃ b2, b2 = (label s.t y).isSome := ⟨_, rfl⟩
   obtain ⟨l2, hl2⟩ : ∃ l2, l2 = (label s.t y).getD [] := ⟨_, rfl⟩
   have hl2b : l2.length ≤ 4000 := by rw [hl2]; exact getD_len HS.out
   rw [← hb2']
   rw [← hl2] at ho2
   have HO2 := zh ho2
   have HBL := zh (bt HBR.out hb2)
   have HOK2 := zh (show (ok && b2) = (b0 && (x.ls.take (j + 1)).all fun n => (label s.t n).isSome) from by rw [all_take _ HY.out, ← Bool.and_assoc, ← HOK.out, hb2'])
   have HSM2 := zh (show (sm && (l2 == l0)) = ((x.ls.take (j + 1)).all fun n => (label s.t n).getD [] == l0) from by rw [all_take _ HY.out, ← HSM.out, hl2])
   clear hl ho2 hb2 hb2' hl2 hcy k5
   cases ok <;> cases sm
   ·go_wp2_with fail
    exact ⟨⟨j + 1, by omega, by go_num, by rw [← HOK2.out]; first | rfl | (cases b2 <;> rfl), by rw [← HSM2.out]; first | rfl | simp, HBL.out⟩, by simp [Lib.intOf]; omega⟩
   ·go_wp2_with fail
    refine (equal_u8 (row_sl HO2.out) (row_sl (ownsRow_keep HO.out HBL.out)) (by omega) (by omega)).mono ?_
    rintro en we ⟨rfl, hbe⟩
    have HBE := zh (bt HBL.out hbe)
    clear hbe
    go_wp2_with fail
    exact ⟨⟨j + 1, by omega, by go_num, by rw [← HOK2.out]; first | rfl | (cases b2 <;> rfl), by rw [← HSM2.out]; first | rfl | simp, HBE.out⟩, by simp [Lib.intOf]; omega⟩
   ·go_wp2_with fail
    exact ⟨⟨j + 1, by omega, by go_num, by rw [← HOK2.out]; first | rfl | (cases b2 <;> rfl), by rw [← HSM2.out]; first | rfl | simp, HBL.out⟩, by simp [Lib.intOf]; omega⟩
   ·go_wp2_with fail
    refine (equal_u8 (row_sl HO2.out) (row_sl (ownsRow_keep HO.out HBL.out)) (by omega) (by omega)).mono ?_
    rintro en we ⟨rfl, hbe⟩
    have HBE := zh (bt HBL.out hbe)
    clear hbe
    go_wp2_with fail
    exact ⟨⟨j + 1, by omega, by go_num, by rw [← HOK2.out]; first | rfl | (cases b2 <;> rfl), by rw [← HSM2.out]; first | rfl | simp, HBE.out⟩, by simp [Lib.intOf]; omega⟩
  ·obtain rfl : j = x.ls.length := by omega
   rw [List.take_length] at HOK HSM
   have hge : ¬ ((x.ls.length : Nat) : Int) < ((x.ls.length : Nat) : Int) := by omega
   cases ok with
   | false =>
    go_wp2_with fail
    go_ret
    unfold stepTable
    cases hla : label s.t x.a with
    | none => exact ⟨rfl, HCr.out.bel⟩
    | some l =>
     have h1 := HOK.out
     rw [HB0.out, hla] at h1
     simp only [any_none]
     rw [show (x.ls.all fun n => (label s.t n).isSome) = false from by simpa using h1.symm]
     exact ⟨rfl, HCr.out.bel⟩
   | true =>
    obtain ⟨l, hla⟩ : ∃ l, label s.t x.a = some l := by
     have h1 := HOK.out
     rw [HB0.out] at h1
     cases hla : label s.t x.a with
     | none => rw [hla] at h1; simp at h1
     | some l => exact ⟨l, rfl⟩
    have hll : l0 = l := by rw [HL0.out, hla]; rfl
    subst hll
    have HALL := zh (show (x.ls.all fun n => (label s.t n).isSome) = true from by
     have h1 := HOK.out
     rw [HB0.out, hla] at h1
     simpa using h1.symm)
    have HLA := zh hla
    clear hla
    cases sm with
    | false =>
     go_wp2_with fail
     have hdr := below_drew wr
     have HCv := zh (HCr.out.later hdr)
     have HOv := zh (ownsRow_keep HO.out (bt HBR.out hdr))
     refine wp_region_t [(0, 1), (1, 1), (2, 1), (3, 1), (4, 1), (5, 1), (6, 1), (7, 0), (8, 0), (9, 0), (10, 1), (11, 1)] (fun w' => w'.cell? ⟨kb, 5, none⟩ = some (.pointer (some ⟨sb, 0, none⟩))) [] [] rfl (by kernel_rfl) (by kernel_rfl) (fun _ _ d _ _ h => by cases d <;> exact h) (HCv.out.cell.cell 5) (fun p hp => by cases hp) ?_
     have hyv := bt HBR.out hdr
     clear k5 hdr
     generalize wr.drew = wv at HCv HOv hyv ⊢
     repeat (first | (refine ts_take (v := ?_) rfl rfl (fun w' hw' => ?_) ?_; rotate_left; (focus (have q0 := hw'; (try simp only [Act.put, sA, sB, sC]); go_simp; (try go_bits); (try (with_reducible rfl)))); (try simp only [Act.put, sA, sB, sC])) | (refine ts_skip rfl rfl ?_; (try simp only [Act.put, sA, sB, sC])))
     refine ts_run rfl (fun K hK => ?_)
     rw [if_neg (Bool.eq_false_iff.1 (show Region.wanted _ _ = false from rfl))]
     refine hK.out _ _ (HCv.out.cell.cell 5) (still_none _ _) ?_
     clear hK K
     (try simp only [Act.put, sA, sB, sC])
     refine ts_run rfl (fun K hK => ?_)
     rw [if_neg (Bool.eq_false_iff.1 (show Region.wanted _ _ = false from rfl))]
     refine hK.out _ _ (HCv.out.cell.cell 5) (still_none _ _) ?_
     clear hK K
     (try simp only [Act.put, sA, sB, sC])
     refine ts_run rfl (fun K hK => ?_)
     rw [if_neg (Bool.eq_false_iff.1 (show Region.wanted _ _ = false from rfl))]
     refine hK.out _ _ (HCv.out.cell.cell 5) (still_none _ _) ?_
     clear hK K
     (try simp only [Act.put, sA, sB, sC])
     repeat (first | (refine ts_take (v := ?_) rfl rfl (fun w' hw' => ?_) ?_; rotate_left; (focus (have q0 := hw'; (try simp only [Act.put, sA, sB, sC]); go_simp; (try go_bits); (try (with_reducible rfl)))); (try simp only [Act.put, sA, sB, sC])) | (refine ts_skip rfl rfl ?_; (try simp only [Act.put, sA, sB, sC])))
     refine ts_done ?_
     have k5 : wv.cell? ⟨kb, 5, none⟩ = some (.pointer (some ⟨sb, 0, none⟩)) := HCv.out.cell.cell 5
     go_wp2_with fail
     refine (dead_any HCv.out.stm HS.out.ne HS.out.fs9).mono ?_
     rintro en wd ⟨rfl, lvd, FVd, hsd, hfd, hvd, hsepd⟩
     have HCd := zh (HCv.out.stack hsd hfd (Or.inl hvd) (fun k _ h => hsepd k h))
     clear k5 hsd hfd hvd hsepd
     go_wp2_with fail
     refine (typed_any false).mono ?_
     rintro en wt ⟨rfl, rfl⟩
     go_wp2_with fail
     go_ret
     unfold stepTable
     rw [HLA.out]
     simp only [any_none, HALL.out]
     rw [if_neg (by decide), same_some HALL.out, ← HSM.out]
     rw [if_pos rfl]
     exact ⟨rfl, HCd.out.bel⟩
    | true =>
     go_wp2_with fail
     have hdr := below_drew wr
     have HCv := zh (HCr.out.later hdr)
     have HOv := zh (ownsRow_keep HO.out (bt HBR.out hdr))
     refine wp_region_t [(0, 1), (1, 1), (2, 1), (3, 1), (4, 1), (5, 1), (6, 1), (7, 0), (8, 0), (9, 0), (10, 1), (11, 1)] (fun w' => w'.cell? ⟨kb, 5, none⟩ = some (.pointer (some ⟨sb, 0, none⟩))) [] [] rfl (by kernel_rfl) (by kernel_rfl) (fun _ _ d _ _ h => by cases d <;> exact h) (HCv.out.cell.cell 5) (fun p hp => by cases hp) ?_
     have hyv := bt HBR.out hdr
     clear k5 hdr
     generalize wr.drew = wv at HCv HOv hyv ⊢
     repeat (first | (refine ts_take (v := ?_) rfl rfl (fun w' hw' => ?_) ?_; rotate_left; (focus (have q0 := hw'; (try simp only [Act.put, sA, sB, sC]); go_simp; (try go_bits); (try (with_reducible rfl)))); (try simp only [Act.put, sA, sB, sC])) | (refine ts_skip rfl rfl ?_; (try simp only [Act.put, sA, sB, sC])))
     refine ts_run rfl (fun K hK => ?_)
     refine ite_of rfl ?_
     refine wp_b1 127 _ rfl rfl (fun wa hba hsa => ?_)
     have HSa := zh hsa
     have HOa := zh (ownsRow_keep HOv.out hba)
     have hya := hba
     refine hK.out _ _ ((HCv.out.later hya).cell.cell 5) (still_none _ _) ?_
     clear hK K hba hsa
     (try simp only [Act.put, sA, sB, sC])
     refine ts_run rfl (fun K hK => ?_)
     refine ite_of rfl ?_
     refine wp_app (by_ := 1) _ _ rfl und_u8s inf_u8 (by decide) (v := v0) rfl HOa.out (fun _ => rfl) rfl HSa.out (one_oc _) (by unfold maxLen; simp; omega) (by simp; omega) (Nat.le_trans HBP.out.size (Nat.le_trans hyv.size hya.size)) (fun vb wb hob hgb hvb => ?_)
     have HLb := zh (row_more (t := 127) hob)
     have HCb := zh (HC2.out.later ((bt HBP.out (bt hyv hya)).grown hgb (Nat.le_trans HBP.out.size (Nat.le_trans hyv.size hya.size)) (fun _ hk => (row_block HOa.out hk).1)))
     refine hK.out _ _ (HCb.out.cell.cell 5) (still_none _ _) ?_
     clear hK K hob hgb hvb hya
     (try simp only [Act.put, sA, sB, sC])
     refine ts_run rfl (fun K hK => ?_)
     refine ite_of rfl ?_
     go_simp
     refine (want_any HCb.out.stm HS.out.ne HS.out.fs9 HS.out.most9 HLb.out (by simp; omega)).mono ?_
     intro en ww hw
     cases hwa : want s.t (l0 ++ [127]) with
     | none =>
      rw [hwa] at hw
      obtain ⟨rfl, hbw⟩ := hw
      have HCw := zh (HCb.out.later hbw)
      refine hK.out _ _ (HCw.out.cell.cell 5) (still_none _ _) ?_
      clear hK K hbw
      (try simp only [Act.put, sA, sB, sC])
      repeat (first | (refine ts_take (v := ?_) rfl rfl (fun w' hw' => ?_) ?_; rotate_left; (focus (have q0 := hw'; (try simp only [Act.put, sA, sB, sC]); go_simp; (try go_bits); (try (with_reducible rfl)))); (try simp only [Act.put, sA, sB, sC])) | (refine ts_skip rfl rfl ?_; (try simp only [Act.put, sA, sB, sC])))
      refine ts_done ?_
      have k5 : ww.cell? ⟨kb, 5, none⟩ = some (.pointer (some ⟨sb, 0, none⟩)) := HCw.out.cell.cell 5
      go_wp2_with fail
      refine (dead_any HCw.out.stm HS.out.ne HS.out.fs9).mono ?_
      rintro en wd ⟨rfl, lvd, FVd, hsd, hfd, hvd, hsepd⟩
      have HCd := zh (HCw.out.stack hsd hfd (Or.inl hvd) (fun k _ h => hsepd k h))
      clear k5 hsd hfd hvd hsepd
      go_wp2_with fail
      refine (typed_any false).mono ?_
      rintro en wt ⟨rfl, rfl⟩
      go_wp2_with fail
      go_ret
      unfold stepTable
      rw [HLA.out]
      simp only [any_none, HALL.out]
      rw [if_neg (by decide), same_some HALL.out, ← HSM.out]
      rw [if_neg (by decide)]
      simp only [hwa]
      exact ⟨rfl, HCd.out.bel⟩
     | some tw =>
      rw [hwa] at hw
      obtain ⟨rfl, lvw, hsw, hfw, hvw⟩ := hw
      have HCw := zh (HCb.out.stack hsw (hfw.mono fun _ _ e => Or.inl e) (Or.inl hvw) (fun _ _ h => h))
      have HSw := zh (Sm.of (s' := ⟨tw, s.o⟩) HS.out (want_most hwa))
      refine hK.out _ _ (HCw.out.cell.cell 5) (still_none _ _) ?_
      clear hK K hsw hfw hvw
      (try simp only [Act.put, sA, sB, sC])
      repeat (first | (refine ts_take (v := ?_) rfl rfl (fun w' hw' => ?_) ?_; rotate_left; (focus (have q0 := hw'; (try simp only [Act.put, sA, sB, sC]); go_simp; (try go_bits); (try (with_reducible rfl)))); (try simp only [Act.put, sA, sB, sC])) | (refine ts_skip rfl rfl ?_; (try simp only [Act.put, sA, sB, sC])))
      refine ts_done ?_
      have k5 : ww.cell? ⟨kb, 5, none⟩ = some (.pointer (some ⟨sb, 0, none⟩)) := HCw.out.cell.cell 5
      go_wp2_with fail
      refine (dead_any HCw.out.stm HSw.out.ne HSw.out.fs9).mono ?_
      rintro en wd ⟨rfl, lvd, FVd, hsd, hfd, hvd, hsepd⟩
      have HCd := zh (HCw.out.stack hsd hfd (Or.inl hvd) (fun k _ h => hsepd k h))
      clear k5 hsd hfd hvd hsepd
      go_wp2_with fail
      refine (typed_any true).mono ?_
      rintro en wt ⟨rfl, rfl⟩
      go_wp2_with fail
      go_ret
      unfold stepTable
      rw [HLA.out]
      simp only [any_none, HALL.out]
      rw [if_neg (by decide), same_some HALL.out, ← HSM.out]
      rw [if_neg (by decide)]
      simp only [hwa]
      exact ⟨rfl, _, _, _, _, HCd.out⟩
end Go.Proofs.YtmgjcaikldeioaaGreat.Ty
