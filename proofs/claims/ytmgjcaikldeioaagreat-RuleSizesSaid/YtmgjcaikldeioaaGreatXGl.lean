/- Space: Count, Imported, Type, Func. -/
import Derived.Test.YtmgjcaikldeioaaGreatXGj
namespace Go.Proofs.YtmgjcaikldeioaaGreat.Gr
open Go Go.RowKit Go.Lib Kt Fm

/-- Of a space in memory: how long its rows are. -/
theorem below_drew (w : World) : Below w.heap.size w w.drew := ⟨rfl, rfl, rfl, Nat.le_refl _, fun _ _ => rfl⟩
/-- What a type that is told is: of the type of that number, if there is one. -/
def TyTold (m : Mod) (i : Nat) (x : Ft) : Prop := (x.p, x.r) = match m.types[i]? with | some t => (t.p, t.r) | none => ([], [])
theorem told_of {TS : List Ft} {m : Mod} (h : TS.map (fun x => (x.p, x.r)) = m.types.map (fun x => (x.p, x.r))) (i : Nat) : TyTold m i (tyOf TS i).ft ∧ (tyOf TS i).ok = (m.types[i]?).isSome := by
 have h1 := congrArg (fun l => l[i]?) h
 simp only [List.getElem?_map] at h1
 unfold TyTold tyOf
 cases hx : TS[i]? with
 | none =>
  rw [hx] at h1
  cases hm : m.types[i]? with
  | none => exact ⟨rfl, rfl⟩
  | some t => rw [hm] at h1; cases h1
 | some x =>
  rw [hx] at h1
  cases hm : m.types[i]? with
  | none => rw [hm] at h1; cases h1
  | some t =>
   rw [hm] at h1
   exact ⟨by simpa using h1, rfl⟩
theorem told_len {W : World} {m : Mod} (hm : ModOk W m) {i : Nat} {x : Ft} (h : TyTold m i x) : x.p.length ≤ Bd ∧ x.r.length ≤ Bd := by
 unfold TyTold at h
 cases ht : m.types[i]? with
 | none =>
  rw [ht] at h
  simp only [Prod.mk.injEq] at h
  rw [h.1, h.2]
  exact ⟨Nat.zero_le _, Nat.zero_le _⟩
 | some t =>
  rw [ht] at h
  simp only [Prod.mk.injEq] at h
  have := hm.1.2.1 t (List.mem_of_getElem? ht)
  rw [h.1, h.2]
  exact ⟨this.1.2.2, this.2.2.2⟩

set_option maxRecDepth 100000 in
set_option maxHeartbeats 4000000 in
theorem type_any {W : World} {S0 : Nat} {m : Mod} {U : World} (hm : ModOk U m) (h : SpOf W S0 m) {i : Nat} (hi : i < 4294967296) :
  Calls Tryz.prog 17 #[.pointer (some ⟨S0, 0, none⟩), .int .u32 i] W fun e w' => ∃ x, e = .returned (.tuple #[.agg x.cs.toArray, .bool (m.types[i]?).isSome]) ∧ FtOwn w' x ∧ TyTold m i x ∧ Below W.heap.size W w' ∧ FtAbove W.heap.size x := by
 obtain ⟨B, TS, GS, BS, MS, tv, fv, gv, bv, mv, ev, hS, hmap⟩ := h
 have hc : W.cell? ⟨S0, 0, none⟩ = some tv := hS.lies.cell 0
 have hlt0 := hS.lies.lt
 obtain ⟨hy1, hy2⟩ := told_of hmap i
 have hlen := told_len hm hy1
 have HLT := zh (show ∀ x ∈ TS, x.p.length ≤ Bd ∧ x.r.length ≤ Bd from fun x hx => by
  have h1 : (x.p, x.r) ∈ m.types.map (fun x => (x.p, x.r)) := by rw [← hmap]; exact List.mem_map.2 ⟨x, hx, rfl⟩
  obtain ⟨y, hy, he⟩ := List.mem_map.1 h1
  have := hm.1.2.1 y hy
  simp only [Prod.mk.injEq] at he
  exact ⟨by rw [← he.1]; exact this.1.2.2, by rw [← he.2]; exact this.2.2.2⟩)
 have hTS : TS.length ≤ 1048576 := by
  have := congrArg List.length hmap
  rw [List.length_map, List.length_map] at this
  rw [this]
  exact hm.1.2.2
 have hyo : FtOwn W (tyOf TS i).ft := by
  rw [tyOf]
  cases hq : TS[i]? with
  | none => exact FtOwn.nil _
  | some q => exact hS.own q (List.mem_of_getElem? hq)
 obtain ⟨y, hy⟩ : ∃ y, y = tyOf TS i := ⟨_, rfl⟩
 have e1 : ftC TS[i]? = y.ft.cs := by rw [ftC_eq, hy]; rfl
 have e2 : (TS[i]?).isSome = y.ok := by rw [hy]; rfl
 rw [← hy] at hy1 hy2 hlen hyo
 have HY := zh (show FtOk W y.ft from hyo.ok hlen.1 hlen.2)
 have HT := zh hy1
 have HL := zh hlen
 have HS := zh hS
 have HE := zh (And.intro e1 e2)
 have hone := zh (oneFt (hyo.ok hlen.1 hlen.2))
 rw [← hy2]
 clear hS hmap hy1 hy2 hyo e1 e2 hy hlen hm
 go_enter Tryz.func17, Tryz.ntmps17
 go_wp2_with fail
 obtain ⟨w1, hw1⟩ : ∃ w1, w1 = W.alloc (.cells #[.slice none 0 0, .slice none 0 0] 51) := ⟨_, rfl⟩
 have hb1 : Below W.heap.size W w1 := hw1 ▸ (Below.refl _ _).alloc (Nat.le_refl _) _
 have HL1 := zh (show Lies w1 W.heap.size 51 nilFt.toArray from hw1 ▸ Lies.new _ _ _)
 have HB1 := zh hb1
 rw [← hw1]
 clear hw1 hb1 hc
 have HS1 := zh (HS.out.later HB1.out)
 refine (at_ft (own_sl Ft.len HS1.out.t) (fun x hx => (HS1.out.own x hx).ok (HLT.out x hx).1 (HLT.out x hx).2) (by omega) hi).mono ?_
 rintro en w2 ⟨rfl, hb2⟩
 rw [HE.out.1, HE.out.2]
 have HL2 := zh (HL1.out.below hb2 HL1.out.lt)
 have HB2 := zh (bt HB1.out hb2)
 clear hb2 HL1 HB1 HS HS1
 go_wp2_with (first | (refine wl_put (Lies.new _ _ _) y.ft.cs _ _ rfl rfl rfl rfl rfl sizeFt hone.out (fun w5 hL5 hF5 => ?_); have HB5 := zh (below_put ((Below.refl w2.heap.size w2).alloc (Nat.le_refl _) _) hF5 (Nat.le_refl _)); have HR5 := zh (lies_range hL5); clear hL5 hF5; try simp only [Act.put]) | (refine wpList_load_mid rfl 51 _ rfl w2.heap.size 0 rfl y.ft.cs _ HR5.out Tryz.underlying51 rfl sizeFt ?_; simp only [Act.put, sA, sB, sC]))
 have HL5 := zh (HL2.out.below HB5.out HL2.out.lt)
 have HY5 := zh (HY.out.later (bt HB2.out HB5.out))
 have HB6 := zh (bt HB2.out HB5.out)
 clear HB2 HB5 HL2 HR5
 refine (own_any HY5.out).mono ?_
 rintro en w6 ⟨x, rfl, ho, hp, hr, hb6, hab⟩
 have HAB := zh (show FtAbove W.heap.size x from ⟨fun k hk => Nat.le_trans HB6.out.size (hab.1 k hk), fun k hk => Nat.le_trans HB6.out.size (hab.2.1 k hk), hab.2.2⟩)
 clear hab
 have HX := zh (ho.ok (by rw [hp]; exact HL.out.1) (by rw [hr]; exact HL.out.2))
 have HO := zh ho
 have HTT := zh (show TyTold m i x from by
  have := HT.out
  unfold TyTold at this ⊢
  rw [← this, hp, hr])
 have HL6 := zh (HL5.out.below hb6 HL5.out.lt)
 have HB7 := zh (bt HB6.out hb6)
 clear ho hp hr hb6 HL5 HB6 HY5
 go_wp2_with (refine wl_put HL6.out x.cs _ _ rfl rfl rfl rfl rfl sizeFt (oneFt HX.out) (fun w8 hL8 hF8 => ?_); have HL8 := zh hL8; have HF8 := zh hF8; clear hL8 hF8; try simp only [Act.put])
 (try simp only [Exit.inBlock, Exit.then])
 refine bodyPost_ret_by (results_ct rfl _ _ _ x.cs _ rfl HL8.out Tryz.underlying51 rfl sizeFt) rfl ⟨x, rfl, ?_, HTT.out, below_put HB7.out HF8.out (Nat.le_refl _), HAB.out⟩
 exact HO.out.frT (FrT.field HL6.out HF8.out) (by decide)

/-- What a function's type that is told is. -/
def FnTold (m : Mod) (i : Nat) (x : Ft) : Prop := (x.p, x.r) = match ftype m i with | some t => (t.p, t.r) | none => ([], [])
theorem fntold_len {W : World} {m : Mod} (hm : ModOk W m) {i : Nat} {x : Ft} (h : FnTold m i x) : x.p.length ≤ Bd ∧ x.r.length ≤ Bd := by
 unfold FnTold at h
 cases ht : ftype m i with
 | none =>
  rw [ht] at h
  simp only [Prod.mk.injEq] at h
  rw [h.1, h.2]
  exact ⟨Nat.zero_le _, Nat.zero_le _⟩
 | some t =>
  rw [ht] at h
  simp only [Prod.mk.injEq] at h
  have := hm.1.2.1 t (ftype_mem ht)
  rw [h.1, h.2]
  exact ⟨this.1.2.2, this.2.2.2⟩
def fnOf (m : Mod) (TS : List Ft) (i : Nat) : Ty := (((allTy m).map (tyOf TS))[i]?).getD ⟨⟨.slice none 0 0, [], .slice none 0 0, []⟩, false⟩
theorem tyC_eq (o : Option Ty) : tyC o = (o.getD ⟨⟨.slice none 0 0, [], .slice none 0 0, []⟩, false⟩).cs := by cases o <;> rfl
theorem fnOf_told {TS : List Ft} {m : Mod} (h : TS.map (fun x => (x.p, x.r)) = m.types.map (fun x => (x.p, x.r))) (i : Nat) : FnTold m i (fnOf m TS i).ft ∧ (fnOf m TS i).ok = (ftype m i).isSome := by
 unfold FnTold fnOf ftype
 rw [show ftyps m = allTy m from rfl, List.getElem?_map]
 cases ha : (allTy m)[i]? with
 | none => exact ⟨rfl, rfl⟩
 | some t => exact told_of h t
set_option maxRecDepth 100000 in
set_option maxHeartbeats 4000000 in
theorem func_any {W : World} {S0 : Nat} {m : Mod} {U : World} (hm : ModOk U m) (h : SpOf W S0 m) {i : Nat} (hi : i < 4294967296) :
  Calls Tryz.prog 14 #[.pointer (some ⟨S0, 0, none⟩), .int .u32 i] W fun e w' => ∃ x, e = .returned (.tuple #[.agg x.cs.toArray, .bool (ftype m i).isSome]) ∧ FtOwn w' x ∧ FnTold m i x ∧ Below W.heap.size W w' ∧ FtAbove W.heap.size x := by
 obtain ⟨B, TS, GS, BS, MS, tv, fv, gv, bv, mv, ev, hS, hmap⟩ := h
 have hc : W.cell? ⟨S0, 1, none⟩ = some fv := hS.lies.cell 1
 have hlt0 := hS.lies.lt
 obtain ⟨hy1, hy2⟩ := fnOf_told hmap i
 have hlen := fntold_len hm hy1
 have hall : ∀ z ∈ (allTy m).map (tyOf TS), FtOk W z.ft := by
  intro z hz
  obtain ⟨t, _, rfl⟩ := List.mem_map.1 hz
  have hl := told_len hm (told_of hmap t).1
  exact (hS.fown _ hz).ok hl.1 hl.2
 have hFS : ((allTy m).map (tyOf TS)).length ≤ 4194304 := by
  rw [List.length_map, allTy_len]
  have := Nat.le_trans (fimps_le m) hm.2.1.2.2
  have := hm.2.2.1.2.2
  unfold cnt Bd at *
  omega
 have hyo : FtOwn W (fnOf m TS i).ft := by
  rw [fnOf]
  cases hq : ((allTy m).map (tyOf TS))[i]? with
  | none => exact FtOwn.nil _
  | some q => exact hS.fown q (List.mem_of_getElem? hq)
 obtain ⟨y, hy⟩ : ∃ y, y = fnOf m TS i := ⟨_, rfl⟩
 have e1 : tyC ((allTy m).map (tyOf TS))[i]? = y.cs := by rw [tyC_eq, hy]; rfl
 rw [← hy] at hy1 hy2 hlen hyo
 have HY := zh (show FtOk W y.ft from hyo.ok hlen.1 hlen.2)
 have HT := zh hy1
 have HL := zh hlen
 have HS := zh hS
 have HE := zh e1
 have HALL := zh hall
 have hone := zh (oneTy (x := y) (hyo.ok hlen.1 hlen.2))
 rw [← hy2]
 clear hS hmap hy1 hy2 hyo e1 hy hlen hm hall
 go_enter Tryz.func14, Tryz.ntmps14
 go_wp2_with fail
 obtain ⟨w1, hw1⟩ : ∃ w1, w1 = W.alloc (.cells #[.slice none 0 0, .slice none 0 0] 51) := ⟨_, rfl⟩
 have hb1 : Below W.heap.size W w1 := hw1 ▸ (Below.refl _ _).alloc (Nat.le_refl _) _
 have HL1 := zh (show Lies w1 W.heap.size 51 nilFt.toArray from hw1 ▸ Lies.new _ _ _)
 have HB1 := zh hb1
 rw [← hw1]
 clear hw1 hb1 hc
 have HS1 := zh (HS.out.later HB1.out)
 refine (at_ty (own_sl Ty.len HS1.out.f) (fun x hx => (HALL.out x hx).later HB1.out) hFS hi).mono ?_
 rintro en w2 ⟨rfl, hb2⟩
 rw [HE.out]
 have HL2 := zh (HL1.out.below hb2 HL1.out.lt)
 have HB2 := zh (bt HB1.out hb2)
 clear hb2 HL1 HB1 HS HS1
 go_wp2_with (refine wl_put (Lies.new _ _ _) y.cs _ _ rfl rfl rfl rfl rfl sizeTy hone.out (fun w5 hL5 hF5 => ?_); have HB5 := zh (below_put ((Below.refl w2.heap.size w2).alloc (Nat.le_refl _) _) hF5 (Nat.le_refl _)); have HY5 := zh hL5; clear hL5 hF5; try simp only [Act.put])
 have hd := below_drew w5
 have HL5 := zh ((HL2.out.below HB5.out HL2.out.lt).below hd (Nat.lt_of_lt_of_le HL2.out.lt HB5.out.size))
 have HB6 := zh (bt (bt HB2.out HB5.out) hd)
 have HYV := zh (HY5.out.below hd HY5.out.lt)
 have hne : ¬ W.heap.size = w2.heap.size := fun e => by have := HL2.out.lt; omega
 have hne2 : W.heap.size < w2.heap.size := HL2.out.lt
 refine wp_region_t [(0, 1), (1, 1), (3, 1), (4, 1), (2, 0), (5, 0), (6, 1)] (fun w' => Lies w' w2.heap.size 129 y.cs.toArray) [] [] rfl (by kernel_rfl) (by kernel_rfl) (fun _ _ d _ _ h => by cases d <;> exact h) HYV.out (fun p hp => by cases hp) ?_
 generalize w5.drew = V at HL5 HB6 HYV ⊢
 clear hd HB2 HB5 HL2 HY5
 generalize w2.heap.size = n6 at HYV hne hne2 ⊢
 repeat (first | (refine ts_take (v := .agg y.ft.cs.toArray) rfl rfl (fun w' hw' => exec_load (lies_sub (o := 0) hw' y.ft.cs rfl) _ rfl rfl Tryz.underlying51 rfl sizeFt) ?_; (try simp only [Act.put, sA, sB, sC])) | (first | (refine ts_take (v := ?_) rfl rfl (fun w' hw' => ?_) ?_; rotate_left; (focus (have q2 : w'.cell? ⟨n6, 2, none⟩ = some (.bool y.ok) := hw'.cell 2; clear hw'; (try simp only [Act.put, sA, sB, sC]); go_simp; (try go_bits); (try (with_reducible rfl)))); (try simp only [Act.put, sA, sB, sC])) | (refine ts_skip rfl rfl ?_; (try simp only [Act.put, sA, sB, sC]))))
 refine ts_run1 rfl rfl (fun K hK => ?_)
 go_simp
 refine (own_any (HY.out.later HB6.out)).mono ?_
 rintro en w6 ⟨x, rfl, ho, hp, hr, hb6, hab⟩
 have HAB := zh (show FtAbove W.heap.size x from ⟨fun k hk => Nat.le_trans HB6.out.size (hab.1 k hk), fun k hk => Nat.le_trans HB6.out.size (hab.2.1 k hk), hab.2.2⟩)
 clear hab
 have HX := zh (ho.ok (by rw [hp]; exact HL.out.1) (by rw [hr]; exact HL.out.2))
 have HO := zh ho
 have HTT := zh (show FnTold m i x from by
  have := HT.out
  unfold FnTold at this ⊢
  rw [← this, hp, hr])
 have HL6 := zh (HL5.out.below hb6 HL5.out.lt)
 have HB7 := zh (bt HB6.out hb6)
 have HY6 := zh (HYV.out.below hb6 HYV.out.lt)
 refine hK.out _ _ HY6.out (still_none _ _) ?_
 clear hK K ho hp hr hb6 HL5 HB6 HYV
 (try simp only [Act.put, sA, sB, sC])
 refine ts_run1 rfl rfl (fun K hK => ?_)
 refine wp_put HL6.out x.cs _ _ rfl rfl rfl rfl sizeFt (oneFt HX.out) (fun w8 hl8 hf8 => ?_)
 have HL8 := zh hl8
 have HF8 := zh hf8
 refine hK.out _ _ (lies_fr HY6.out hf8 (fun e => hne e.symm)) (still_none _ _) ?_
 clear hK K hl8 hf8
 (try simp only [Act.put])
 repeat (first | (refine ts_take (v := ?_) rfl rfl (fun w' hw' => ?_) ?_; rotate_left; (focus (clear hw'; (try simp only [Act.put, sA, sB, sC]); go_simp; (try go_bits); (try (with_reducible rfl)))); (try simp only [Act.put, sA, sB, sC])) | (refine ts_skip rfl rfl ?_; (try simp only [Act.put, sA, sB, sC])))
 refine ts_done ?_
 go_wp2_with fail
 (try simp only [Exit.inBlock, Exit.then])
 refine bodyPost_ret_by (results_ct rfl _ _ _ x.cs _ rfl HL8.out Tryz.underlying51 rfl sizeFt) rfl ⟨x, rfl, ?_, HTT.out, below_put HB7.out HF8.out (Nat.le_refl _), HAB.out⟩
 exact HO.out.frT (FrT.field HL6.out HF8.out) (by decide)
end Go.Proofs.YtmgjcaikldeioaaGreat.Gr
