/- pool.Add. -/
import Derived.Test.YtkdckcjnjljdmaaCZx
import Derived.Test.YtkdckcjnjljdmaaCZr
namespace Go.Proofs.Ytkdckcjnjljdmaa.Po
open Go Go.RowKit Go.Lib Kt Fm Ad Kv

section
variable {P : Program} {ops : Array Oper} {rest : List Oper} {op : Oper} {a : Act} {w : World} {Q : Exit → Act → World → Prop}
/-- An element of a row of one's own is written. -/
theorem wl_rowset {α : Type} {en : α → List Value} {base : Nat} {e ty : TypeId} {sz g cap : Nat} {L : List α} (hlen : ∀ x, (en x).length = sz) (h : w.ownsRow base e sz (.slice (some ⟨g, 0, none⟩) L.length cap) L.length (L.flatMap en)) {i : Nat} (hi : i < L.length) (x : α) (p q : Operand) (hgd : op.guard = none) (ho : op.op = .store ty p q)
    (hp : a.eval p = .pointer (some ⟨g, i * sz, none⟩)) (hq : a.eval q = .agg (en x).toArray) (hs : (P.info? ty).map (·.size) = some sz) (h1 : (en x).toArray.all (·.oneCell') = true)
    (hK : ∀ w', w'.ownsRow base e sz (.slice (some ⟨g, 0, none⟩) L.length cap) L.length ((L.set i x).flatMap en) → w.grownBy w' (some g) → wpList P ops Q rest (a.put op.dst undef) w') : wpList P ops Q (op :: rest) a w := by
  obtain ⟨cur, hl, hsz, hn, _⟩ : ∃ cur, Lies w g e cur ∧ cur.size = cap * sz ∧ L.length ≤ cap ∧ True := by
    rcases h.2 with ⟨h0, _⟩ | ⟨g', cap', cur, hv, hb, hg, h1, h2, h3, h4⟩
    · cases h0
    · cases hv
      exact ⟨cur, hg, h3, h1, trivial⟩
  have hle : (i + 1) * sz ≤ cap * sz := Nat.mul_le_mul_right _ (Nat.le_trans hi hn)
  rw [Nat.succ_mul] at hle
  obtain ⟨r1, r2⟩ := row_set hlen h hi x
  have he := hlen x
  exact wpList_store_mid hgd ty p q ho g (i * sz) (en x).toArray hp hq (fun j hj => ⟨by rw [hl.cell, Array.getElem?_eq_getElem (by simp at hj; omega)]; rfl, hl.frozen _⟩) (by rw [hs]; simp [he]) h1 (hK _ r1 r2)
end
theorem TxOwn.mono {b b' : Nat} {w : World} {t : Tx} (h : TxOwn b w t) (hb : b' ≤ b) : TxOwn b' w t := ⟨h.d.mono hb, h.n, h.v, h.g, h.p⟩
theorem frT_row {W w' : World} {base : Nat} {e : TypeId} {sz n : Nat} {v : Value} {xs : List Value} (hr : W.ownsRow base e sz v n xs) (hf : Fr W w' (fun k => some k = v.ownBlock)) : FrT [e] W w' :=
  hf.mono fun k _ hk => by
    obtain ⟨_, _, cur, hc⟩ := row_block hr hk.symm
    exact ⟨e, List.mem_singleton.2 rfl, cur, _, hc⟩
theorem addF_no {f : Nx} {most : Nat} {l : List Tx} {t : Tx} (h : ¬ mayP f l t = 0) : addF f most l t = (l, [], mayP f l t) := by unfold addF; rw [if_neg h]
theorem addF_yes {f : Nx} {most : Nat} {l : List Tx} {t : Tx} (h : mayP f l t = 0) : addF f most l t = addP most l t := by unfold addF; rw [if_pos h]
/-- Behind the first half of Add: with the new one. -/
structure AddMid (W : World) (base X : Nat) (l : List Tx) (x : Tx) (wx : World) (vo v9 : Value) (O : List Tx) : Prop where
  row : wx.ownsRow W.heap.size 81 22 v9 (withT l x).1.length ((withT l x).1.flatMap Tx.cs)
  own : ∀ u ∈ (withT l x).1, TxOwn base wx u
  out : wx.ownsRow W.heap.size 32 22 vo O.length (O.flatMap Tx.cs)
  outs : ∀ u ∈ O, TxOwn W.heap.size wx u
  nv : O.map Tx.nv = (withT l x).2.map Tx.nv
  box : Lies wx X 81 x.cs.toArray
  below : Below W.heap.size W wx
def AddSays (base : Nat) (W : World) (bp most : Nat) (l : List Tx) (f : Nx) (t : Tx) (e : Ending) (w' : World) : Prop := ∃ (dv vo v' : Value) (O : List Tx), e = .returned (.tuple #[vo, .int .i64 (addF f most l { t with dv := dv }).2.2]) ∧ PoolAt base w' bp most v' (addF f most l { t with dv := dv }).1 ∧ w'.ownsRow W.heap.size 32 22 vo O.length (O.flatMap Tx.cs) ∧ (∀ u ∈ O, TxOwn W.heap.size w' u) ∧ O.map Tx.nv = (addF f most l { t with dv := dv }).2.1.map Tx.nv ∧ Fr W w' (fun k => k = bp)
set_option maxRecDepth 100000 in
set_option maxHeartbeats 16000000 in
theorem add_any {base : Nat} {W : World} {bp most : Nat} {v wv : Value} {l : List Tx} {f : Nx} {t : Tx} (hp : PoolAt base W bp most v l) (hf : Nonces W wv f) (ht : TxOk W t) (hl : l.length ≤ 1000) (hb : base ≤ W.heap.size) : Calls Try.prog 14 #[.pointer (some ⟨bp, 0, none⟩), wv, .agg t.cs.toArray] W fun e w' => AddSays base W bp most l f t e w' := by
  have HP := Lib.hid hp
  have HF := Lib.hid hf
  have HT := Lib.hid ht
  have HMD := Lib.hid (show ∀ dv, mayP f l { t with dv := dv } = mayP f l t from fun _ => rfl)
  obtain ⟨m, hm⟩ : ∃ m, m = mayP f l t := ⟨_, rfl⟩
  have HM := Lib.hid hm
  clear hp hf ht hm
  go_enter Try.func14, Try.ntmps14
  go_upto_region 1 with (refine wl_box t.cs _ rfl rfl rfl (fun w1 hbw1 hlw1 => ?_); have HB1 := Lib.hid (hbw1); have HLB := Lib.hid hlw1; obtain ⟨B, hBw1⟩ : ∃ B, B = W.heap.size := ⟨_, rfl⟩; rw [← hBw1] at HLB ⊢; clear hBw1 hbw1 hlw1; (try simp only [Act.put, List.setIfInBounds_toArray, List.set_cons_zero, List.set_cons_succ]))
  go_wp2_with (refine wpList_load_mid rfl 32 _ rfl B 0 rfl t.cs _ (lies_range HLB.out) Try.underlying32 rfl sizeTx ?_; (try simp only [Act.put, List.setIfInBounds_toArray, List.set_cons_zero, List.set_cons_succ]))
  refine (may_any (HP.out.later HB1.out) (HF.out.later HB1.out) (HT.out.later HB1.out) (by omega)).mono ?_
  rintro en w2 ⟨rfl, hb2⟩
  have HB2 := Lib.hid (bt HB1.out hb2)
  have HL2 := Lib.hid (HLB.out.below hb2 HLB.out.lt)
  clear hb2
  rw [← HM.out]
  by_cases h0 : m = 0
  rotate_left
  · have h1 : ¬ (m : Int) = 0 := by omega
    have h2 : ((m : Int) != 0) = true := by simpa using h1
    have E := Lib.hid (show addF f most l t = (l, [], m) from by rw [HM.out]; exact addF_no (by rw [← HM.out]; exact h0))
    clear HM h0
    go_wp2_with fail
    go_ret2
    refine ⟨t.dv, _, v, [], (by rw [show ({ t with dv := t.dv } : Tx) = t from rfl, E.out]; try rfl), by rw [show ({ t with dv := t.dv } : Tx) = t from rfl, E.out]; exact HP.out.later HB2.out, World.ownsRow_nil _ _ _ _, fun u hu => (by cases hu), (by rw [show ({ t with dv := t.dv } : Tx) = t from rfl, E.out]; try rfl), Fr.of_below HB2.out _⟩
  have h2 : ((m : Int) != 0) = false := by rw [h0]; rfl
  have HM1 := Lib.hid (show mayP f l t = 0 from by rw [← HM.out, h0])
  have HME := Lib.hid (mayP_ok HM1.out)
  have HLE := Lib.hid (mayT_len HME.out.1)
  clear HM
  subst h0
  obtain ⟨s, c, hv, hfm⟩ := HP.out.form
  have HFM := Lib.hid hfm
  subst hv
  clear hfm
  have z1 : w2.cell? ⟨bp, 1, none⟩ = some (.slice s l.length c) := (HP.out.later HB2.out).box.cell 1
  go_wp2_with fail
  refine (cloneE_any ((HP.out.later HB2.out).sl) (fun u hu => ((HP.out.later HB2.out).own u hu).ok) (by omega)).mono ?_
  rintro en w3 ⟨v9, rfl, hr3, hb3⟩
  have HB3 := Lib.hid (bt HB2.out hb3)
  have HL3 := Lib.hid (HL2.out.below hb3 HL2.out.lt)
  have R3 := Lib.hid (hr3.mono HB2.out.size : w3.ownsRow W.heap.size 81 22 v9 l.length (l.flatMap Tx.cs))
  clear hb3 hr3 z1
  go_wp2_with (refine wpList_load_mid rfl 32 _ rfl B 0 rfl t.cs _ (lies_range HL3.out) Try.underlying32 rfl sizeTx ?_; (try simp only [Act.put, List.setIfInBounds_toArray, List.set_cons_zero, List.set_cons_succ]))
  refine (own_any (W := w3) (t := t) (HT.out.later HB3.out) (Nat.le_trans HLE.out (by decide))).mono ?_
  rintro en w4 ⟨dv, rfl, ho4, hb4⟩
  have HB4 := Lib.hid (bt HB3.out hb4)
  have HL4 := Lib.hid (HL3.out.below hb4 HL3.out.lt)
  have R4 := Lib.hid (ownsRow_keep R3.out hb4)
  have X4 := Lib.hid (ho4.mono HB3.out.size)
  have HS34 := Lib.hid (show w3.heap.size ≤ w4.heap.size from hb4.size)
  clear hb4 ho4
  obtain ⟨x, hx⟩ : ∃ x : Tx, x = { t with dv := dv } := ⟨_, rfl⟩
  rw [← hx] at X4 ⊢
  have HX := Lib.hid hx
  clear hx
  have OB := Lib.hid (show (x.cs.toArray.all (·.oneCell')) = true from X4.out.ok.oneB)
  go_upto_region 8 with (first | (refine wl_val (v := .agg x.cs.toArray) rfl (wb_op (ty := 81) (args := #[(0, .tmp 30)]) rfl (by kernel_rfl)) ?_; (try simp only [Act.put, List.setIfInBounds_toArray, List.set_cons_zero, List.set_cons_succ])) | (refine wl_put (Lies.new _ _ _) x.cs _ _ rfl rfl rfl rfl rfl sizeEn OB.out (fun w5 hl5 hf5 => ?_); have hb5 : Below w4.heap.size w4 w5 := below_put ((Below.refl w4.heap.size w4).alloc (Nat.le_refl _) _) hf5 (Nat.le_refl _); have HB5 := Lib.hid (bt HB4.out hb5); have HL5 := Lib.hid (HL4.out.below hb5 HL4.out.lt); have R5 := Lib.hid (ownsRow_keep R4.out hb5); have X5 := Lib.hid (X4.out.later hb5); obtain ⟨X, hX⟩ : ∃ X, X = w4.heap.size := ⟨_, rfl⟩; rw [← hX] at hl5 ⊢; have BX5 := Lib.hid hl5; have HXX := Lib.hid hX; clear hl5 hf5 hb5 hX; (try simp only [Act.put])))
  have z17 : w5.cell? ⟨B, 17, none⟩ = some (.int .u64 t.nonce) := HL5.out.cell 17
  go_wp2_with (refine wpList_load_mid rfl 23 _ rfl B 1 rfl t.frm.cs _ (frm_range HL5.out) Try.underlying23 rfl sizeAd ?_; (try simp only [Act.put, List.setIfInBounds_toArray, List.set_cons_zero, List.set_cons_succ]))
  refine (find_any (HP.out.later HB5.out) (by omega) t).mono ?_
  rintro en w6 ⟨rfl, hb6⟩
  have HB6 := Lib.hid (bt HB5.out hb6)
  have R6 := Lib.hid (ownsRow_keep R5.out hb6)
  have X6 := Lib.hid (X5.out.later hb6)
  have BX6 := Lib.hid (BX5.out.below hb6 BX5.out.lt)
  clear hb6 z17 R5 X5 BX5 R4 X4
  have HRB := Lib.hid (show ∀ g, v9.ownBlock = some g → g < X from fun g e => by
    have h1 := (row_block R3.out e).2.1
    have h2 := HS34.out
    rw [HXX.out]
    omega)
  clear HB4 R3 HS34
  obtain ⟨is, his⟩ : ∃ is, is = (at? l t).isSome := ⟨_, rfl⟩
  obtain ⟨ps, hps⟩ : ∃ ps, ps = pos l t := ⟨_, rfl⟩
  rw [← his, ← hps]
  have HIS := Lib.hid his
  have HPS := Lib.hid hps
  clear his hps
  go_upto_if 41 with fail
  go_cut [6, 9] from 42 to 59 (fun vo vn wx => ∃ O : List Tx, AddMid W base X l x wx vo vn O)
  case first =>
    cases hat : at? l t with
    | none =>
      have HIS2 := Lib.hid (show is = false from by rw [HIS.out, hat]; rfl)
      have HW := Lib.hid (show withT l x = (insAt l ps x, []) from by unfold withT; rw [show at? l x = none from by rw [HX.out]; exact hat, show pos l x = ps from by rw [HX.out, HPS.out]; rfl])
      clear hat
      obtain rfl := HIS2.out
      clear HIS HIS2
      go_wp2_with (first | (refine wpList_load_mid rfl 81 _ rfl X 0 rfl x.cs _ (lies_range BX6.out) Try.underlying81 rfl sizeEn ?_; (try simp only [Act.put, List.setIfInBounds_toArray, List.set_cons_zero, List.set_cons_succ])) | (refine wl_bsN (e := 81) (d := 58) rfl rfl x.cs rfl (fun w => by kernel_rfl) (fun w7 hb7 hl7 => ?_); have R7 := Lib.hid (ownsRow_keep R6.out hb7); have X7 := Lib.hid (X6.out.later hb7); have BX7 := Lib.hid (BX6.out.below hb7 BX6.out.lt); have HB7 := Lib.hid (bt HB6.out hb7); obtain ⟨gx, hgx⟩ : ∃ gx, gx = w6.heap.size := ⟨_, rfl⟩; rw [← hgx] at hl7 ⊢; have G7 := Lib.hid hl7; have HGX := Lib.hid (show v9.ownBlock ≠ some gx from fun e => by have h1 := (row_block R6.out e).2.1; omega); clear hb7 hl7 hgx; (try simp only [Act.put, List.setIfInBounds_toArray, List.set_cons_zero, List.set_cons_succ])))
      refine (ins_any (W := w7) (base := W.heap.size) (gx := gx) (v := v9) (l := l) (x := x) (i := ps) R7.out G7.out HGX.out X7.out.ok (fun u hu => ((HP.out.later HB7.out).own u hu).ok) (by rw [HPS.out]; exact pos_le l t) (by omega) HB7.out.size).mono ?_
      rintro en w8 ⟨v10, rfl, hr8, hf8⟩
      have F8 := Lib.hid (frT_row R7.out hf8)
      have X8 := Lib.hid (X7.out.frT F8.out (by decide))
      have BX8 := Lib.hid (show Lies w8 X 81 x.cs.toArray from lies_fr BX7.out hf8 (fun e => by have h1 := HRB.out _ e.symm; omega))
      have HB8 := Lib.hid (show Below W.heap.size W w8 from HB7.out.trans (hf8.below HB7.out.size (fun k hk => (row_block R7.out hk.symm).1)))
      have R8 := Lib.hid hr8
      clear hr8 hf8
      go_wp2_with fail
      go_meet
      exact ⟨[], ⟨by rw [HW.out]; exact R8.out, fun u hu => by rw [HW.out] at hu; rcases insAt_mem.1 hu with e | hu; exact e ▸ X8.out.mono hb; exact (HP.out.own u hu).later HB8.out, World.ownsRow_nil _ _ _ _, fun u hu => (by cases hu), by rw [HW.out], BX8.out, HB8.out⟩⟩
    | some y =>
      have HIS2 := Lib.hid (show is = true from by rw [HIS.out, hat]; rfl)
      have HW := Lib.hid (show withT l x = (l.set ps x, [y]) from by unfold withT; rw [show at? l x = some y from by rw [HX.out]; exact hat, show pos l x = ps from by rw [HX.out, HPS.out]; rfl])
      have HY := Lib.hid (show l[ps]? = some y from by rw [HPS.out]; exact (at_some hat).1)
      clear hat
      obtain rfl := HIS2.out
      clear HIS HIS2
      have hpl : ps < l.length := (List.getElem?_eq_some_iff.1 HY.out).1
      have hpl2 : (ps : Int) < (l.length : Int) := by omega
      obtain ⟨s9, cap, hv9, hnc, hf9⟩ := row_form R6.out
      obtain ⟨g, hs9⟩ := hf9 (by omega)
      subst hs9
      subst hv9
      clear hf9
      have HYL := Lib.hid (mayT_len (HP.out.ok.ok y (List.mem_of_getElem? HY.out)).may)
      have HYO := Lib.hid ((HP.out.later HB6.out).own y (List.mem_of_getElem? HY.out))
      have HRG := Lib.hid (row_at Tx.len R6.out HY.out)
      go_wp2_with (refine wpList_load_mid rfl 32 _ rfl g (ps * 22) rfl y.cs _ HRG.out Try.underlying32 rfl sizeTx ?_; (try simp only [Act.put, List.setIfInBounds_toArray, List.set_cons_zero, List.set_cons_succ]))
      have hown := own_any (W := w6) (t := y) HYO.out.ok (Nat.le_trans HYL.out (by decide))
      refine hown.mono ?_
      clear hown
      rintro en w7 ⟨dy, rfl, ho7, hb7⟩
      have R7 := Lib.hid (ownsRow_keep R6.out hb7)
      have X7 := Lib.hid (X6.out.later hb7)
      have BX7 := Lib.hid (BX6.out.below hb7 BX6.out.lt)
      have HB7 := Lib.hid (bt HB6.out hb7)
      obtain ⟨y', hy'⟩ : ∃ y' : Tx, y' = { y with dv := dy } := ⟨_, rfl⟩
      rw [← hy'] at ho7 ⊢
      have Y7 := Lib.hid (ho7.mono HB6.out.size)
      have HNV := Lib.hid (show y'.nv = y.nv from by rw [hy']; rfl)
      clear ho7 hb7 hy' HRG HYO HYL
      go_upto_region 11 with (first | (refine wl_bsN (e := 32) (d := 49) rfl rfl y'.cs rfl (fun w => by kernel_rfl) (fun w8 hb8 hl8 => ?_); have R8 := Lib.hid (ownsRow_keep R7.out hb8); have X8 := Lib.hid (X7.out.later hb8); have BX8 := Lib.hid (BX7.out.below hb8 BX7.out.lt); have Y8 := Lib.hid (Y7.out.later hb8); have HB8 := Lib.hid (bt HB7.out hb8); have L8 := Lib.hid hl8; clear hb8 hl8; (try simp only [Act.put, List.setIfInBounds_toArray, List.set_cons_zero, List.set_cons_succ])) | (refine wl_app (base := W.heap.size) (by_ := 80) _ _ rfl rfl Try.underlying27 inf_tx (by decide) rfl (World.ownsRow_nil _ _ _ _) Tx.len rfl (sl_one L8.out) (fun z hz u hu => by obtain rfl := List.mem_singleton.1 hz; exact Y8.out.ok.one u hu) (by unfold maxLen; simp) (by simp) HB8.out.size (fun vo w9 hr9 hg9 hv9 => ?_); have O9 := Lib.hid (show w9.ownsRow W.heap.size 32 22 vo [y'].length ([y'].flatMap Tx.cs) from by rw [Nat.zero_add, List.nil_append] at hr9; exact hr9); have hb9 : Below w8.heap.size w8 w9 := (Below.refl w8.heap.size w8).grown hg9 (Nat.le_refl _) (fun q hq => by cases hq); have R9 := Lib.hid (ownsRow_keep R8.out hb9); have X9 := Lib.hid (X8.out.later hb9); have BX9 := Lib.hid (BX8.out.below hb9 BX8.out.lt); have Y9 := Lib.hid (Y8.out.later hb9); have HB9 := Lib.hid (bt HB8.out hb9); clear hr9 hg9 hv9 hb9; (try simp only [Act.put, List.setIfInBounds_toArray, List.set_cons_zero, List.set_cons_succ])))
      go_wp2_with (first | (refine wpList_load_mid rfl 81 _ rfl X 0 rfl x.cs _ (lies_range BX9.out) Try.underlying81 rfl sizeEn ?_; (try simp only [Act.put, List.setIfInBounds_toArray, List.set_cons_zero, List.set_cons_succ])) | (refine wl_rowset Tx.len R9.out hpl x _ _ rfl rfl rfl rfl sizeEn OB.out (fun w10 hr10 hg10 => ?_); have F10 := Lib.hid (FrT.grown R9.out (show w9.grownBy w10 (Value.ownBlock (.slice (some ⟨g, 0, none⟩) l.length cap)) from hg10)); have R10 := Lib.hid hr10; have BX10 := Lib.hid (show Lies w10 X 81 x.cs.toArray from BX9.out.kept hg10 (fun e => by have h1 := HRB.out g rfl; have h2 := Option.some.inj e; omega)); have HB10 := Lib.hid (show Below W.heap.size W w10 from HB9.out.grown hg10 HB9.out.size (fun q hq => by cases hq; exact (row_block R9.out rfl).1)); clear hr10 hg10; (try simp only [Act.put])))
      go_meet
      exact ⟨[y'], ⟨by rw [HW.out, List.length_set]; exact R10.out, fun u hu => by rw [HW.out] at hu; rcases List.mem_or_eq_of_mem_set hu with hu | e; exact (HP.out.own u hu).later HB10.out; exact e ▸ (X9.out.frT F10.out (by decide)).mono hb, row_frT O9.out F10.out (by decide), fun u hu => by obtain rfl := List.mem_singleton.1 hu; exact Y9.out.frT F10.out (by decide), by rw [HW.out]; exact congrArg (fun z => [z]) HNV.out, BX10.out, HB10.out⟩⟩
  case rest =>
    obtain ⟨O, hcut⟩ := hcut
    clear HB6 R6 X6 BX6 HRB HIS HB5 HL5 HXX HL4 HL3 HL2 HLB
    obtain ⟨L1, hL1⟩ : ∃ L1, L1 = (withT l x).1 := ⟨_, rfl⟩
    have h1 := hcut.row
    have h2 := hcut.own
    rw [← hL1] at h1 h2
    have RC := Lib.hid h1
    have OC := Lib.hid h2
    have VC := Lib.hid hcut.out
    have SC := Lib.hid hcut.outs
    have NC := Lib.hid hcut.nv
    have BXC := Lib.hid hcut.box
    have HBC := Lib.hid hcut.below
    have HL1 := Lib.hid hL1
    have PKX := Lib.hid (show ∀ u ∈ L1, OkT u from fun u hu => by
      rw [HL1.out] at hu
      rcases withT_mem hu with e | hu
      · rw [e, HX.out]
        exact ⟨HME.out.1, by have := HME.out.2.1; have := HT.out.n; show t.nonce < 18446744073709551615; omega, HT.out.v, HT.out.g, HT.out.p⟩
      · exact HP.out.ok.ok u hu)
    have HOF := Lib.hid (show PoolOk most (addF f most l x).1 from addF_ok HP.out.ok (by rw [HX.out]; exact HT.out.n) (by rw [HX.out]; exact HT.out.v) (by rw [HX.out]; exact HT.out.g) (by rw [HX.out]; exact HT.out.p))
    have HAD := Lib.hid (show addF f most l x = addP most l x from addF_yes (by rw [HX.out]; exact HM1.out))
    have HLL := Lib.hid (show L1.length ≤ l.length + 1 from by rw [HL1.out, withT_len]; split <;> omega)
    have HSR := Lib.hid (show Srt L1 from by rw [HL1.out]; exact withT_srt HP.out.ok.srt)
    have HXM := Lib.hid (show x ∈ L1 from by rw [HL1.out]; exact withT_has)
    clear hcut h1 h2 hL1
    obtain ⟨s9, cap, hv9, hnc, hf9⟩ := row_form RC.out
    subst hv9
    have HF9 := Lib.hid hf9
    clear hf9
    have z0 : wc.cell? ⟨bp, 0, none⟩ = some (.int .i64 most) := (HP.out.later HBC.out).box.cell 0
    have hll := HLL.out
    by_cases hle : L1.length ≤ most
    · have hc1 : ¬ (most : Int) < (L1.length : Int) := by omega
      have AE := Lib.hid (show addF f most l x = (L1, (withT l x).2, 0) from by rw [HAD.out, addP_less (by rw [← HL1.out]; exact hle), HL1.out])
      go_wp2_with (refine wl_fld (c0 := [.int .i64 most, .slice s l.length c]) (HP.out.later HBC.out).box _ _ rfl rfl (by exact rfl) (by exact rfl) [.slice s9 L1.length cap] [.int .i64 most, .slice s9 L1.length cap] rfl (by kernel_rfl) (by intro u hu; obtain rfl := List.mem_singleton.1 hu; rfl) (by simp) rfl (fun wz hlz hfz => ?_); have LZ := Lib.hid hlz; have FZ := Lib.hid hfz; have TZ := Lib.hid (FrT.field (HP.out.later HBC.out).box hfz); clear hlz hfz; (try simp only [Act.put]))
      go_ret2
      have RZ := row_frT RC.out TZ.out (by decide)
      exact ⟨dv, u6, .slice s9 L1.length cap, O, by rw [← HX.out, AE.out]; rfl, by rw [← HX.out]; exact ⟨LZ.out, by rw [AE.out]; exact own_sl Tx.len RZ, fun u hu => by rw [AE.out] at hu; exact (OC.out u hu).frT TZ.out (by decide), HOF.out⟩, row_frT VC.out TZ.out (by decide), fun u hu => (SC.out u hu).frT TZ.out (by decide), by rw [← HX.out, AE.out]; exact NC.out, (Fr.of_below HBC.out _).trans FZ.out⟩
    · have hc1 : (most : Int) < (L1.length : Int) := by omega
      obtain ⟨za, zr, hzl⟩ : ∃ za zr, L1 = za :: zr := by
        cases hq : L1 with
        | nil => have h := HXM.out; rw [hq] at h; cases h
        | cons a r => exact ⟨a, r, rfl⟩
      obtain ⟨z, hz⟩ : ∃ z, z = maxT za zr := ⟨_, rfl⟩
      have HWO := Lib.hid (show worst L1 = some z from by rw [hzl, hz]; rfl)
      have HWS := Lib.hid (worst_spec HWO.out)
      have HIX := Lib.hid (idxT_at HSR.out HWS.out.1)
      have hkl : idxT L1 z < L1.length := (List.getElem?_eq_some_iff.1 HIX.out).1
      have SLC := Lib.hid (own_sl Tx.len RC.out)
      have hmx := max_any (a := za) (r := zr) (by rw [← hzl]; exact SLC.out) (by rw [← hzl]; exact fun u hu => ⟨(OC.out u hu).ok, (PKX.out u hu).may⟩) (by have h := congrArg List.length hzl; simp at h; omega)
      rw [← hz] at hmx
      have HMX := Lib.hid hmx
      have OBZ := Lib.hid (show (z.cs.toArray.all (·.oneCell')) = true from (OC.out z HWS.out.1).ok.oneB)
      clear hmx hz hzl
      obtain ⟨k, hk⟩ : ∃ k, k = idxT L1 z := ⟨_, rfl⟩
      have HK := Lib.hid hk
      rw [← hk] at HIX hkl
      clear hk
      have hnl : ¬ L1.length = 0 := by omega
      obtain ⟨g, hs9⟩ := HF9.out hnl
      subst hs9
      have hki : (k : Int) < (L1.length : Int) := by omega
      go_wp2_with fail
      refine HMX.out.mono ?_
      rintro en w7 ⟨rfl, hb7⟩
      have HB7 := Lib.hid (bt HBC.out hb7)
      have R7 := Lib.hid (ownsRow_keep RC.out hb7)
      have V7 := Lib.hid (ownsRow_keep VC.out hb7)
      have O7 := Lib.hid (show ∀ u ∈ L1, TxOwn base w7 u from fun u hu => (OC.out u hu).later hb7)
      have S7 := Lib.hid (show ∀ u ∈ O, TxOwn W.heap.size w7 u from fun u hu => (SC.out u hu).later hb7)
      have BX7 := Lib.hid (BXC.out.below hb7 BXC.out.lt)
      clear hb7 z0 HMX
      go_upto_region 15 with (refine wl_put (Lies.new _ _ _) z.cs _ _ rfl rfl rfl rfl rfl sizeEn OBZ.out (fun w8 hl8 hf8 => ?_); have hb8 : Below w7.heap.size w7 w8 := below_put ((Below.refl w7.heap.size w7).alloc (Nat.le_refl _) _) hf8 (Nat.le_refl _); have HB8 := Lib.hid (bt HB7.out hb8); have R8 := Lib.hid (ownsRow_keep R7.out hb8); have V8 := Lib.hid (ownsRow_keep V7.out hb8); have O8 := Lib.hid (show ∀ u ∈ L1, TxOwn base w8 u from fun u hu => (O7.out u hu).later hb8); have S8 := Lib.hid (show ∀ u ∈ O, TxOwn W.heap.size w8 u from fun u hu => (S7.out u hu).later hb8); have BX8 := Lib.hid (BX7.out.below hb8 BX7.out.lt); obtain ⟨Z, hZ⟩ : ∃ Z, Z = w7.heap.size := ⟨_, rfl⟩; rw [← hZ] at hl8 ⊢; have BZ8 := Lib.hid hl8; clear hl8 hf8 hb8 hZ; (try simp only [Act.put]))
      have hix := idx_any (W := w8) (z := z) (Bw := Z) (own_sl Tx.len R8.out) BZ8.out HSR.out HWS.out.1 (by omega)
      rw [← HK.out] at hix
      replace hix := Lib.hid hix
      go_wp2_with fail
      refine hix.out.mono ?_
      clear hix
      rintro en w9 ⟨rfl, hb9⟩
      have HB9 := Lib.hid (bt HB8.out hb9)
      have R9 := Lib.hid (ownsRow_keep R8.out hb9)
      have V9 := Lib.hid (ownsRow_keep V8.out hb9)
      have O9 := Lib.hid (show ∀ u ∈ L1, TxOwn base w9 u from fun u hu => (O8.out u hu).later hb9)
      have S9 := Lib.hid (show ∀ u ∈ O, TxOwn W.heap.size w9 u from fun u hu => (S8.out u hu).later hb9)
      have BX9 := Lib.hid (BX8.out.below hb9 BX8.out.lt)
      clear hb9
      go_upto_region 16 with fail
      refine wp_region_t [(0, 1), (1, 1), (2, 1), (3, 1), (4, 1), (5, 0), (6, 1)] (fun w' => Below w9.heap.size w9 w') [] [] rfl (by kernel_rfl) (by kernel_rfl) (fun _ _ d _ _ h => by cases d <;> exact h) (below_drew w9) (fun p hp => by cases hp) ?_
      have B10 := Lib.hid (below_drew w9)
      generalize w9.drew = w10 at B10 ⊢
      repeat (first | (refine ts_take (v := .agg x.cs.toArray) rfl rfl (fun w' hw' => exec_load (lies_range (BX9.out.below hw' BX9.out.lt)) _ rfl rfl Try.underlying81 rfl sizeEn) ?_; (try simp only [Act.put, List.setIfInBounds_toArray, List.set_cons_zero, List.set_cons_succ])) | (refine ts_take (v := .agg z.cs.toArray) rfl rfl (fun w' hw' => exec_load (row_at Tx.len (ownsRow_keep R9.out hw') HIX.out) _ rfl rfl Try.underlying81 rfl sizeEn) ?_; (try simp only [Act.put, List.setIfInBounds_toArray, List.set_cons_zero, List.set_cons_succ])) | (refine ts_take (v := ?_) rfl rfl (fun w' hw' => ?_) ?_; rotate_left; (focus (skip; (try simp only [Act.put, List.setIfInBounds_toArray, List.set_cons_zero, List.set_cons_succ]); go_simp; (try go_bits); (try (with_reducible rfl)))); (try simp only [Act.put, List.setIfInBounds_toArray, List.set_cons_zero, List.set_cons_succ])))
      refine ts_run1 rfl rfl (fun K hK => ?_)
      go_simp
      refine (place_any z x).mono ?_
      rintro en w11 ⟨rfl, hb11⟩
      have B11 := Lib.hid (bt B10.out hb11)
      clear hb11
      refine hK.out _ _ B11.out (still_none _ _) ?_
      clear hK K
      (try simp only [Act.put, List.setIfInBounds_toArray, List.set_cons_zero, List.set_cons_succ])
      obtain ⟨pz, hpz⟩ : ∃ pz, pz = place z x := ⟨_, rfl⟩
      rw [← hpz]
      have HPZ := Lib.hid hpz
      clear hpz
      repeat (first | (refine ts_take (v := ?_) rfl rfl (fun w' hw' => ?_) ?_; rotate_left; (focus (skip; (try simp only [Act.put, List.setIfInBounds_toArray, List.set_cons_zero, List.set_cons_succ]); go_simp; (try go_bits); (try (with_reducible rfl)))); (try simp only [Act.put, List.setIfInBounds_toArray, List.set_cons_zero, List.set_cons_succ])) | (refine ts_skip rfl rfl ?_; (try simp only [Act.put, List.setIfInBounds_toArray, List.set_cons_zero, List.set_cons_succ])))
      refine ts_done ?_
      have HB11 := Lib.hid (bt HB9.out B11.out)
      have R11 := Lib.hid (ownsRow_keep R9.out B11.out)
      have V11 := Lib.hid (ownsRow_keep V9.out B11.out)
      have O11 := Lib.hid (show ∀ u ∈ L1, TxOwn base w11 u from fun u hu => (O9.out u hu).later B11.out)
      have S11 := Lib.hid (show ∀ u ∈ O, TxOwn W.heap.size w11 u from fun u hu => (S9.out u hu).later B11.out)
      by_cases hpz0 : pz = 0
      · have AE := Lib.hid (show addF f most l x = (l, [], 7) from by rw [HAD.out, addP_self (by rw [← HL1.out]; exact hle) (by rw [← HL1.out]; exact HWO.out) (by rw [← HPZ.out]; exact hpz0)])
        subst hpz0
        go_wp2_with fail
        go_ret2
        exact ⟨dv, .slice none 0 0, .slice s l.length c, [], by rw [← HX.out, AE.out]; rfl, by rw [← HX.out, AE.out]; exact HP.out.later HB11.out, World.ownsRow_nil _ _ _ _, fun u hu => (by cases hu), (by rw [← HX.out, AE.out]; try rfl), Fr.of_below HB11.out _⟩
      · have hpz1 : (pz == 0) = false := by simpa using hpz0
        have AE := Lib.hid (show addF f most l x = (L1.take k ++ L1.drop (k + 1), (withT l x).2 ++ [z], 0) from by rw [HAD.out, addP_more (by rw [← HL1.out]; exact hle) (by rw [← HL1.out]; exact HWO.out) (by rw [← HPZ.out]; exact hpz0), ← HL1.out, strike_at HSR.out HIX.out])
        have HZL := Lib.hid (mayT_len (PKX.out z HWS.out.1).may)
        have HOL := Lib.hid (show O.length ≤ 1 from by
          have h := congrArg List.length NC.out
          rw [List.length_map, List.length_map] at h
          rw [h]
          unfold withT
          cases at? l x <;> simp)
        clear hpz0
        go_wp2_with (refine wpList_load_mid rfl 32 _ rfl g (k * 22) rfl z.cs _ (row_at Tx.len R11.out HIX.out) Try.underlying32 rfl sizeTx ?_; (try simp only [Act.put, List.setIfInBounds_toArray, List.set_cons_zero, List.set_cons_succ]))
        have hown := own_any (W := w11) (t := z) (O11.out z HWS.out.1).ok (Nat.le_trans HZL.out (by decide))
        refine hown.mono ?_
        clear hown
        rintro en w12 ⟨dz, rfl, ho12, hb12⟩
        have HB12 := Lib.hid (bt HB11.out hb12)
        have R12 := Lib.hid (ownsRow_keep R11.out hb12)
        have V12 := Lib.hid (ownsRow_keep V11.out hb12)
        have O12 := Lib.hid (show ∀ u ∈ L1, TxOwn base w12 u from fun u hu => (O11.out u hu).later hb12)
        have S12 := Lib.hid (show ∀ u ∈ O, TxOwn W.heap.size w12 u from fun u hu => (S11.out u hu).later hb12)
        obtain ⟨z', hz'⟩ : ∃ z' : Tx, z' = { z with dv := dz } := ⟨_, rfl⟩
        rw [← hz'] at ho12 ⊢
        have Z12 := Lib.hid (ho12.mono HB11.out.size)
        have HNV := Lib.hid (show (O ++ [z']).map Tx.nv = ((withT l x).2 ++ [z]).map Tx.nv from by rw [List.map_append, List.map_append, NC.out, hz']; rfl)
        clear ho12 hb12 hz'
        go_upto_region 19 with (first | (refine wl_bsN (e := 32) (d := 86) rfl rfl z'.cs rfl (fun w => by kernel_rfl) (fun w13 hb13 hl13 => ?_); have R13 := Lib.hid (ownsRow_keep R12.out hb13); have V13 := Lib.hid (ownsRow_keep V12.out hb13); have Z13 := Lib.hid (Z12.out.later hb13); have HB13 := Lib.hid (bt HB12.out hb13); have O13 := Lib.hid (show ∀ u ∈ L1, TxOwn base w13 u from fun u hu => (O12.out u hu).later hb13); have S13 := Lib.hid (show ∀ u ∈ O, TxOwn W.heap.size w13 u from fun u hu => (S12.out u hu).later hb13); have L13 := Lib.hid hl13; clear hb13 hl13; (try simp only [Act.put, List.setIfInBounds_toArray, List.set_cons_zero, List.set_cons_succ])) | (refine wl_app (base := W.heap.size) (by_ := 80) _ _ rfl rfl Try.underlying27 inf_tx (by decide) rfl V13.out Tx.len rfl (sl_one L13.out) (fun y hy u hu => by obtain rfl := List.mem_singleton.1 hy; exact Z13.out.ok.one u hu) (by have h := HOL.out; unfold maxLen; simp; omega) (by have h := HOL.out; simp; omega) HB13.out.size (fun vo w14 hr14 hg14 hv14 => ?_); have F14 := Lib.hid (FrT.grown V13.out hg14); have V14 := Lib.hid (show w14.ownsRow W.heap.size 32 22 vo (O ++ [z']).length ((O ++ [z']).flatMap Tx.cs) from by rw [List.length_append, List.flatMap_append]; exact hr14); have R14 := Lib.hid (row_frT R13.out F14.out (by decide)); have HB14 := Lib.hid (show Below W.heap.size W w14 from HB13.out.grown hg14 HB13.out.size (fun _ hk => (row_block V13.out hk).1)); have O14 := Lib.hid (show ∀ u ∈ L1, TxOwn base w14 u from fun u hu => (O13.out u hu).frT F14.out (by decide)); have S14 := Lib.hid (show ∀ u ∈ O ++ [z'], TxOwn W.heap.size w14 u from fun u hu => (List.mem_append.1 hu).elim (fun h => (S13.out u h).frT F14.out (by decide)) (fun h => by obtain rfl := List.mem_singleton.1 h; exact Z13.out.frT F14.out (by decide))); clear hr14 hg14 hv14; (try simp only [Act.put, List.setIfInBounds_toArray, List.set_cons_zero, List.set_cons_succ])))
        go_wp2_with fail
        refine (del_any (W := w14) (base := W.heap.size) (l := L1) (k := k) R14.out (fun u hu => (O14.out u hu).ok) hkl (by omega) HB14.out.size).mono ?_
        rintro en w15 ⟨v15, rfl, hr15, hb15, hf15⟩
        have R15 := Lib.hid hr15
        have HB15 := Lib.hid (HB14.out.trans hb15)
        have V15 := Lib.hid (row_frT V14.out hf15 (by decide))
        have S15 := Lib.hid (show ∀ u ∈ O ++ [z'], TxOwn W.heap.size w15 u from fun u hu => (S14.out u hu).frT hf15 (by decide))
        have O15 := Lib.hid (show ∀ u ∈ L1.take k ++ L1.drop (k + 1), TxOwn base w15 u from fun u hu => ((List.mem_append.1 hu).elim (fun h => O14.out u (List.mem_of_mem_take h)) (fun h => O14.out u (List.mem_of_mem_drop h))).frT hf15 (by decide))
        have VCC := Lib.hid (row_cells hr15)
        clear hr15 hb15 hf15
        go_wp2_with (refine wl_fld (c0 := [.int .i64 most, .slice s l.length c]) (HP.out.later HB15.out).box _ _ rfl rfl (by exact rfl) (by exact rfl) [v15] [.int .i64 most, v15] VCC.out.1 (by kernel_rfl) (by intro u hu; obtain rfl := List.mem_singleton.1 hu; exact VCC.out.2) (by simp) rfl (fun wz hlz hfz => ?_); have LZ := Lib.hid hlz; have FZ := Lib.hid hfz; have TZ := Lib.hid (FrT.field (HP.out.later HB15.out).box hfz); clear hlz hfz; (try simp only [Act.put]))
        go_ret2
        have RZ := row_frT R15.out TZ.out (by decide)
        exact ⟨dv, vo, v15, O ++ [z'], by rw [← HX.out, AE.out]; rfl, by rw [← HX.out]; exact ⟨LZ.out, by rw [AE.out]; exact own_sl Tx.len RZ, fun u hu => by rw [AE.out] at hu; exact (O15.out u hu).frT TZ.out (by decide), HOF.out⟩, row_frT V15.out TZ.out (by decide), fun u hu => (S15.out u hu).frT TZ.out (by decide), by rw [← HX.out, AE.out]; exact HNV.out, (Fr.of_below HB15.out _).trans FZ.out⟩
end Go.Proofs.Ytkdckcjnjljdmaa.Po
