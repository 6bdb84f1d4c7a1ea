/- The walk of the document's Emit. -/
import Derived.Test.YteeghdkejnhjnaaBoF
namespace Go.Proofs.Yteeghdkejnhjnaa.Bo
open Go Go.RowKit Kt Ad

theorem wp_append_bytes {o : Oper} {a : Act} {w : World} {K : Act → World → Prop} {Q : Exit → Act → World → Prop} {base g : Nat} (hg : w.ownsRow base 5 1 (.slice (some ⟨g, 0, none⟩) 0 0) 0 []) (hbase : base ≤ w.heap.size) {v : Value} {b : List UInt8} (h : Byt w v b) (hn : b.length ≤ 1000000000) (s x : Operand)
    (ho : o.op = .call { callee := .builtin .append, args := #[s, x], argTypes := #[25, 25] }) (hs : a.eval s = .slice (some ⟨g, 0, none⟩) 0 0) (hx : a.eval x = v)
    (hK : ∀ v' w', w'.ownsRow base 5 1 v' b.length (b.map u8v) → w.grownBy w' (some g) → K (a.put o.dst v') w') : Oper.wp Try.prog o a w K Q := by
  obtain ⟨v', w', hrun, r1, r2⟩ := run_append_bytes hg hbase h hn o.type
  unfold Oper.wp
  simp [execOp, ho, resolve, invoke, builtin, hs, hx, hrun, Result.andThen]
  exact hK v' w' r1 r2
/-- The document's book ahead of the store of its longer row. -/
structure RHalf (W : World) (own : Nat → Prop) (br : Nat) (vl vn vc : Value) (E : List Ev) (C : Cs) : Prop where
  cell : Lies W br 54 #[vl, vc]
  row : WRow W own 66 9 vn E.length (E.flatMap Ev.cs)
  evs : ∀ x ∈ E, Bts W own x.v x.b
  crow : WRow W own 70 9 vc C.length (C.flatMap cdc)
  cds : ∀ c ∈ C, Bts W own c.2.1 c.2.2
  obr : own br
theorem RHalf.store {V : World} {own : Nat → Prop} {br : Nat} {vl vn vc : Value} {E : List Ev} {C : Cs} (h : RHalf V own br vl vn vc E C) : Rk (V.setCell ⟨br, 0, none⟩ vn) own br vn vc E C := by
  have hf : Fr V (V.setCell ⟨br, 0, none⟩ vn) (fun i => i = br) := Fr.setCell V _ _
  have hty : ∀ k, k = br → ∀ cur, ¬ Lies V k 5 cur := fun k e cur hl => by subst e; exact absurd (lies_uniq h.cell hl) (by decide)
  refine ⟨?_, h.row.kept hf (fun k _ hk e => ?_), fun x hx => (h.evs x hx).kept_ty hf hty, h.crow.kept hf (fun k _ hk e => ?_), fun c hc => (h.cds c hc).kept_ty hf hty, h.obr⟩
  · have := h.cell.set 0 vn
    simpa using this
  · obtain ⟨_, _, cur, hg⟩ := wrow_lt h.row hk.symm
    subst e
    exact absurd (lies_uniq h.cell hg) (by decide)
  · obtain ⟨_, _, cur, hg⟩ := wrow_lt h.crow hk.symm
    subst e
    exact absurd (lies_uniq h.cell hg) (by decide)
theorem remit_half {W V V' : World} {own : Nat → Prop} {br : Nat} {vl vn vc : Value} {E : List Ev} {C : Cs} (h : Rk V (fun i => own i ∧ i < W.heap.size) br vl vc E C) {a : A8} {v : Value} {b : List UInt8} (hb : Bts V (fun k => own k ∨ W.heap.size ≤ k) v b)
    (hr : WRow V' (fun k => (own k ∧ k < W.heap.size) ∨ V.heap.size ≤ k) 66 9 vn (E.length + 1) (E.flatMap Ev.cs ++ Ev.cs ⟨a, v, b⟩)) (hf : Fr V V' (fun k => some k = vl.ownBlock)) (hsz : W.heap.size ≤ V.heap.size) (ho : ∀ i, W.heap.size ≤ i → own i) :
    RHalf V' own br vl vn vc (E ++ [⟨a, v, b⟩]) C := by
  have hne : ∀ k, some k = vl.ownBlock → ∃ cur, Lies V k 66 cur := fun k e => by
    obtain ⟨_, _, cur, hg⟩ := wrow_lt h.row e.symm
    exact ⟨cur, hg⟩
  have hty : ∀ k, some k = vl.ownBlock → ∀ cur, ¬ Lies V k 5 cur := fun k e cur hl => by
    obtain ⟨c2, hg⟩ := hne k e
    exact absurd (lies_uniq hg hl) (by decide)
  have hm := h.mono (own' := own) (fun k _ hk => hk.1)
  refine ⟨lies_fr h.cell hf (fun e => by obtain ⟨c2, hg⟩ := hne _ e; exact absurd (lies_uniq hg h.cell) (by decide)), ?_, fun x hx => ?_, hm.crow.kept hf (fun k _ hk e => ?_), fun c hc => (hm.cds c hc).kept_ty hf hty, hm.obr⟩
  · have := hr.mono (own' := own) (fun k _ hk => hk.elim (fun h => h.1) (fun h => ho k (Nat.le_trans hsz h)))
    rw [List.length_append, List.flatMap_append]
    simpa using this
  · rcases List.mem_append.1 hx with hx | hx
    · exact (hm.evs x hx).kept_ty hf hty
    · obtain rfl : x = ⟨a, v, b⟩ := by simpa using hx
      exact (hb.mono (own' := own) (fun k _ hk => hk.elim id (ho k))).kept_ty hf hty
  · obtain ⟨_, _, cur, hg⟩ := wrow_lt hm.crow hk.symm
    obtain ⟨c2, hg2⟩ := hne _ e
    exact absurd (lies_uniq hg2 hg) (by decide)

set_option maxRecDepth 100000 in
set_option maxHeartbeats 4000000 in
theorem remit_long {W : World} {br : Nat} (a : A8) {v : Value} {b : List UInt8} (hv : Byt W v b) (hn : 1024 < b.length) :
    Calls Try.prog 24 #[.pointer (some ⟨br, 0, none⟩), a.v, v] W fun e w' => e = .returned (.int .i64 3) ∧ Below W.heap.size W w' := by
  obtain ⟨s0, c0, rfl, _⟩ := hv
  simp only [A8.v]
  go_enter Try.func24, Try.ntmps24
  go_wp2_with fail
  go_ret
  exact ⟨rfl, (Below.refl _ _).alloc (Nat.le_refl _) _⟩

set_option maxRecDepth 100000 in
set_option maxHeartbeats 4000000 in
theorem remit_any {W : World} {own : Nat → Prop} {br : Nat} {vl vc : Value} {E : List Ev} {C : Cs} (h : Rk W own br vl vc E C) (ho : ∀ i, W.heap.size ≤ i → own i) (hN : E.length ≤ 1000000) (a : A8) {v : Value} {b : List UInt8} (hv : Byt W v b) (hshort : ¬ 1024 < b.length) :
    Calls Try.prog 24 #[.pointer (some ⟨br, 0, none⟩), a.v, v] W fun e w' => ∃ v' vn, e = .returned (.int .i64 0) ∧ Rk w' own br vn vc (E ++ [⟨a, v', b⟩]) C ∧ Fr W w' own := by
  obtain ⟨i0, hi, hz0, hz1, hz2⟩ := info_parts infoEv
  have hn : b.length ≤ 1000000000 := by omega
  have HV := Lib.hid hv
  obtain ⟨s0, c0, rfl, _⟩ := hv
  obtain ⟨sr, capr, rfl, _⟩ := h.row.form
  simp only [A8.v]
  go_enter Try.func24, Try.ntmps24
  go_wp2_with fail
  obtain ⟨W1, hW1⟩ : ∃ W1, W1 = W.alloc (.cells a.cs.toArray 24) := ⟨_, rfl⟩
  have hA1 : Lies W1 W.heap.size 24 a.cs.toArray := hW1 ▸ Lies.new W _ _
  have hB1 : Below W.heap.size W W1 := hW1 ▸ (Below.refl _ _).alloc (Nat.le_refl _) _
  have hR1 := (h.mono (own' := fun i => own i ∧ i < W.heap.size) (fun k hk ho => ⟨ho, hk⟩)).later hB1
  rw [show W.alloc (.cells #[.int .u8 a.x0.toNat, .int .u8 a.x1.toNat, .int .u8 a.x2.toNat, .int .u8 a.x3.toNat, .int .u8 a.x4.toNat, .int .u8 a.x5.toNat, .int .u8 a.x6.toNat, .int .u8 a.x7.toNat] 24) = W1 from hW1.symm]
  have hbr0 := h.cell.lt
  clear hW1 h
  refine RP.region (RP.take 0 (RP.take 1 (RP.take 2 (RP.take 3 (RP.take 5 (RP.take 7 (RP.fork 4 6 (RP.run 6 (RP.run 8 (RP.take 9 (RP.run 10 (RP.run 11 (RP.take 12 (RP.take 13 (RP.run 14 RP.done)))))))) (RP.fork 4 8 (RP.run 8 (RP.take 9 (RP.run 10 (RP.run 11 (RP.take 12 (RP.take 13 (RP.run 14 RP.done))))))) (RP.take 9 (RP.fork 4 10 (RP.run 10 (RP.run 11 (RP.take 12 (RP.take 13 (RP.run 14 RP.done))))) (RP.run 4 (RP.run 11 (RP.take 12 (RP.take 13 (RP.run 14 RP.done))))))))))))))) (fun w' => Lies w' W.heap.size 24 a.cs.toArray) (by as_aux_lemma => kernel_rfl) (by as_aux_lemma => kernel_rfl) (fun _ _ d _ _ h => by cases d <;> exact h) hA1.drew (fun hS => ?_)
  have HS := Lib.hid hS
  have HR := Lib.hid hR1.drew
  have HB := Lib.hid hB1.drew
  clear hS hA1 hR1 hB1
  generalize W1.drew = V at HS HR HB ⊢
  repeat (first | (refine RP.t_take (v := ?_) rfl rfl (fun w' hw' => ?_) ?_; rotate_left; (focus ((have hAf := hw'; obtain ⟨a0, a1, a2, a3, a4, a5, a6, a7⟩ := lies_addr hAf); go_simp; (try go_bits); (try (with_reducible rfl)))); (try simp only [Act.put, List.setIfInBounds_toArray, List.set_cons_zero, List.set_cons_succ])) | (refine RP.t_skip rfl rfl ?_; (try simp only [Act.put, List.setIfInBounds_toArray, List.set_cons_zero, List.set_cons_succ])))
  refine RP.t_fork rfl rfl (fun KK hKK => ?_) (fun KK hKK => ?_)
  · as_aux_lemma =>
      have hc := HR.out.cell.cell 0
      simp only [List.getElem?_toArray, List.getElem?_cons_zero] at hc
      go_simp
      refine hKK.out _ _ HS.out ?_
      clear hKK KK hc
      (try simp only [Act.put, List.setIfInBounds_toArray, List.set_cons_zero, List.set_cons_succ])
      refine RP.t_run rfl (fun KK hKK => ?_)
      go_simp
      have HO := Lib.hid (show (V.alloc (.cells #[] 5)).ownsRow W.heap.size 5 1 (.slice (some ⟨V.heap.size, 0, none⟩) 0 0) 0 [] from World.ownsRow_made V #[] 0 HB.out.size (Nat.zero_le _) rfl)
      have hb : Below V.heap.size V (V.alloc (.cells #[] 5)) := (Below.refl _ _).alloc (Nat.le_refl _) _
      have hgw : W.heap.size < V.heap.size := HS.out.lt
      replace HR := Lib.hid (HR.out.later hb)
      replace HS := Lib.hid (HS.out.below hb HS.out.lt)
      replace HB := Lib.hid (HB.out.trans (hb.mono HB.out.size))
      clear hb
      refine hKK.out _ _ HS.out ?_
      clear hKK KK
      generalize V.alloc (.cells #[] 5) = U1 at HO HR HB HS ⊢
      generalize V.heap.size = g1 at HO hgw ⊢
      (try simp only [Act.put, List.setIfInBounds_toArray, List.set_cons_zero, List.set_cons_succ])
      refine t_run1 rfl rfl (fun KK hKK => ?_)
      refine wp_append_bytes HO.out HB.out.size (HV.out.later HB.out) hn _ _ rfl rfl rfl (fun v' U2 hv hg => ?_)
      obtain ⟨s', c', hv'⟩ := own_form hv
      subst hv'
      have HT := Lib.hid (show Bts U2 (fun i => own i ∨ W.heap.size ≤ i) (.slice s' b.length c') b from ⟨hv.mono (Nat.zero_le _), fun i e => Or.inr (hv.lt i e).1⟩)
      replace HR := Lib.hid (HR.out.kept (Fr.of_grown hg) (fun i hi e => by injection e with e; omega))
      replace HS := Lib.hid (HS.out.kept hg (by simp; omega))
      replace HB := Lib.hid (HB.out.grown hg HB.out.size (fun i e => by injection e with e; omega))
      refine hKK.out _ _ HS.out ?_
      clear hKK KK hv hg HO hgw
      (try simp only [Act.put, List.setIfInBounds_toArray, List.set_cons_zero, List.set_cons_succ])
      refine RP.t_take (v := .agg (Ev.cs ⟨a, .slice s' b.length c', b⟩).toArray) rfl rfl (fun w' _ => exec_build a s' b.length c' b _ _ rfl rfl rfl w') ?_
      (try simp only [Act.put, List.setIfInBounds_toArray, List.set_cons_zero, List.set_cons_succ])
      refine t_run1 rfl rfl (fun KK hKK => ?_)
      refine wp_bslice a s' b.length c' b _ rfl rfl ?_
      have hb : Below U2.heap.size U2 (U2.alloc (.cells (Ev.cs ⟨a, .slice s' b.length c', b⟩).toArray 66)) := (Below.refl _ _).alloc (Nat.le_refl _) _
      have hd9 : ∀ j u, (Ev.cs ⟨a, .slice s' b.length c', b⟩)[j]? = some u → (U2.alloc (.cells (Ev.cs ⟨a, .slice s' b.length c', b⟩).toArray 66)).cell? ((⟨U2.heap.size, 0, none⟩ : Addr).add j) = some u := cells_new _ _ _
      replace HR := Lib.hid (HR.out.later hb)
      replace HS := Lib.hid (HS.out.below hb HS.out.lt)
      replace HB := Lib.hid (HB.out.trans (hb.mono HB.out.size))
      replace HT := Lib.hid (HT.out.kept (m := fun _ => False) (Fr.of_below hb _) (fun _ _ h => h))
      clear hb
      refine hKK.out _ _ HS.out ?_
      clear hKK KK
      generalize U2.alloc (.cells (Ev.cs ⟨a, .slice s' b.length c', b⟩).toArray 66) = U3 at HR HB HS HT hd9 ⊢
      generalize U2.heap.size = d3 at hd9 ⊢
      have HD := Lib.hid hd9
      clear hd9
      (try simp only [Act.put, List.setIfInBounds_toArray, List.set_cons_zero, List.set_cons_succ])
      refine t_run1 rfl rfl (fun KK hKK => ?_)
      refine wp_append_wrow _ _ 51 rfl i0 _ 9 32 Try.underlying51 hi hz0 hz1 hz2 rfl (by decide) HR.out.row rfl ⟨d3, 0, none⟩ 1 (Ev.cs ⟨a, .slice s' b.length c', b⟩) rfl rfl HD.out ?_ (by unfold maxLen; omega) (by omega) ?_
      · intro u hu
        simp only [Ev.cs, List.mem_cons, List.not_mem_nil, or_false] at hu
        rcases hu with rfl | rfl | rfl | rfl | rfl | rfl | rfl | rfl | rfl <;> rfl
      intro vn U4 hr3 hf3 _ _ _
      obtain ⟨s3, cap3, rfl, _⟩ := hr3.form
      have HH := Lib.hid (remit_half HR.out HT.out hr3 hf3 HB.out.size ho)
      have HF := Lib.hid ((Fr.of_below HB.out own).trans (hf3.mono (fun i _ e => (wrow_lt HR.out.row e.symm).2.1.1)))
      have hbw : ¬ some W.heap.size = (Value.slice sr E.length capr).ownBlock := fun e => by have := (wrow_lt HR.out.row e.symm).2.1.2; omega
      replace HS := Lib.hid (lies_fr HS.out hf3 hbw)
      refine hKK.out _ _ HS.out ?_
      clear hKK KK hr3 hf3 hbw HR HT HB HD
      (try simp only [Act.put, List.setIfInBounds_toArray, List.set_cons_zero, List.set_cons_succ])
      repeat (first | (refine RP.t_take (v := ?_) rfl rfl (fun w' hw' => ?_) ?_; rotate_left; (focus ((have hAf := hw'; obtain ⟨a0, a1, a2, a3, a4, a5, a6, a7⟩ := lies_addr hAf); go_simp; (try go_bits); (try (with_reducible rfl)))); (try simp only [Act.put, List.setIfInBounds_toArray, List.set_cons_zero, List.set_cons_succ])) | (refine RP.t_skip rfl rfl ?_; (try simp only [Act.put, List.setIfInBounds_toArray, List.set_cons_zero, List.set_cons_succ])))
      refine RP.t_run rfl (fun KK hKK => ?_)
      have hc := HH.out.cell.cell 0
      have hfz := HH.out.cell.frozen 0
      have hbl := HH.out.cell.lt
      have hlw := HS.out.lt
      simp only [List.getElem?_toArray, List.getElem?_cons_zero] at hc
      go_simp
      have hne : W.heap.size ≠ br := by omega
      refine hKK.out _ _ (HS.out.other hne _) ?_
      clear hKK KK hc hfz hlw hne
      refine RP.t_done ?_
      go_wp2_with fail
      go_ret
      exact ⟨_, _, rfl, HH.out.store, HF.out.trans ((Fr.setCell U4 _ _).mono (fun i _ e => e ▸ HH.out.obr))⟩
  · as_aux_lemma =>
      refine if_go rfl ?_
      go_simp
      have HO := Lib.hid (show (V.alloc (.cells #[] 5)).ownsRow W.heap.size 5 1 (.slice (some ⟨V.heap.size, 0, none⟩) 0 0) 0 [] from World.ownsRow_made V #[] 0 HB.out.size (Nat.zero_le _) rfl)
      have hb : Below V.heap.size V (V.alloc (.cells #[] 5)) := (Below.refl _ _).alloc (Nat.le_refl _) _
      have hgw : W.heap.size < V.heap.size := HS.out.lt
      replace HR := Lib.hid (HR.out.later hb)
      replace HS := Lib.hid (HS.out.below hb HS.out.lt)
      replace HB := Lib.hid (HB.out.trans (hb.mono HB.out.size))
      clear hb
      refine hKK.out _ _ HS.out ?_
      clear hKK KK
      generalize V.alloc (.cells #[] 5) = U5 at HO HR HB HS ⊢
      generalize V.heap.size = g5 at HO hgw ⊢
      (try simp only [Act.put, List.setIfInBounds_toArray, List.set_cons_zero, List.set_cons_succ])
      refine RP.t_fork rfl rfl (fun KK hKK => ?_) (fun KK hKK => ?_)
      · as_aux_lemma =>
          have hc := HR.out.cell.cell 0
          simp only [List.getElem?_toArray, List.getElem?_cons_zero] at hc
          go_simp
          refine hKK.out _ _ HS.out ?_
          clear hKK KK hc
          (try simp only [Act.put, List.setIfInBounds_toArray, List.set_cons_zero, List.set_cons_succ])
          refine t_run1 rfl rfl (fun KK hKK => ?_)
          refine wp_append_bytes HO.out HB.out.size (HV.out.later HB.out) hn _ _ rfl rfl rfl (fun v' U6 hv hg => ?_)
          obtain ⟨s', c', hv'⟩ := own_form hv
          subst hv'
          have HT := Lib.hid (show Bts U6 (fun i => own i ∨ W.heap.size ≤ i) (.slice s' b.length c') b from ⟨hv.mono (Nat.zero_le _), fun i e => Or.inr (hv.lt i e).1⟩)
          replace HR := Lib.hid (HR.out.kept (Fr.of_grown hg) (fun i hi e => by injection e with e; omega))
          replace HS := Lib.hid (HS.out.kept hg (by simp; omega))
          replace HB := Lib.hid (HB.out.grown hg HB.out.size (fun i e => by injection e with e; omega))
          refine hKK.out _ _ HS.out ?_
          clear hKK KK hv hg HO hgw
          (try simp only [Act.put, List.setIfInBounds_toArray, List.set_cons_zero, List.set_cons_succ])
          refine RP.t_take (v := .agg (Ev.cs ⟨a, .slice s' b.length c', b⟩).toArray) rfl rfl (fun w' _ => exec_build a s' b.length c' b _ _ rfl rfl rfl w') ?_
          (try simp only [Act.put, List.setIfInBounds_toArray, List.set_cons_zero, List.set_cons_succ])
          refine t_run1 rfl rfl (fun KK hKK => ?_)
          refine wp_bslice a s' b.length c' b _ rfl rfl ?_
          have hb : Below U6.heap.size U6 (U6.alloc (.cells (Ev.cs ⟨a, .slice s' b.length c', b⟩).toArray 66)) := (Below.refl _ _).alloc (Nat.le_refl _) _
          have hd9 : ∀ j u, (Ev.cs ⟨a, .slice s' b.length c', b⟩)[j]? = some u → (U6.alloc (.cells (Ev.cs ⟨a, .slice s' b.length c', b⟩).toArray 66)).cell? ((⟨U6.heap.size, 0, none⟩ : Addr).add j) = some u := cells_new _ _ _
          replace HR := Lib.hid (HR.out.later hb)
          replace HS := Lib.hid (HS.out.below hb HS.out.lt)
          replace HB := Lib.hid (HB.out.trans (hb.mono HB.out.size))
          replace HT := Lib.hid (HT.out.kept (m := fun _ => False) (Fr.of_below hb _) (fun _ _ h => h))
          clear hb
          refine hKK.out _ _ HS.out ?_
          clear hKK KK
          generalize U6.alloc (.cells (Ev.cs ⟨a, .slice s' b.length c', b⟩).toArray 66) = U7 at HR HB HS HT hd9 ⊢
          generalize U6.heap.size = d7 at hd9 ⊢
          have HD := Lib.hid hd9
          clear hd9
          (try simp only [Act.put, List.setIfInBounds_toArray, List.set_cons_zero, List.set_cons_succ])
          refine t_run1 rfl rfl (fun KK hKK => ?_)
          refine wp_append_wrow _ _ 51 rfl i0 _ 9 32 Try.underlying51 hi hz0 hz1 hz2 rfl (by decide) HR.out.row rfl ⟨d7, 0, none⟩ 1 (Ev.cs ⟨a, .slice s' b.length c', b⟩) rfl rfl HD.out ?_ (by unfold maxLen; omega) (by omega) ?_
          · intro u hu
            simp only [Ev.cs, List.mem_cons, List.not_mem_nil, or_false] at hu
            rcases hu with rfl | rfl | rfl | rfl | rfl | rfl | rfl | rfl | rfl <;> rfl
          intro vn U8 hr3 hf3 _ _ _
          obtain ⟨s3, cap3, rfl, _⟩ := hr3.form
          have HH := Lib.hid (remit_half HR.out HT.out hr3 hf3 HB.out.size ho)
          have HF := Lib.hid ((Fr.of_below HB.out own).trans (hf3.mono (fun i _ e => (wrow_lt HR.out.row e.symm).2.1.1)))
          have hbw : ¬ some W.heap.size = (Value.slice sr E.length capr).ownBlock := fun e => by have := (wrow_lt HR.out.row e.symm).2.1.2; omega
          replace HS := Lib.hid (lies_fr HS.out hf3 hbw)
          refine hKK.out _ _ HS.out ?_
          clear hKK KK hr3 hf3 hbw HR HT HB HD
          (try simp only [Act.put, List.setIfInBounds_toArray, List.set_cons_zero, List.set_cons_succ])
          repeat (first | (refine RP.t_take (v := ?_) rfl rfl (fun w' hw' => ?_) ?_; rotate_left; (focus ((have hAf := hw'; obtain ⟨a0, a1, a2, a3, a4, a5, a6, a7⟩ := lies_addr hAf); go_simp; (try go_bits); (try (with_reducible rfl)))); (try simp only [Act.put, List.setIfInBounds_toArray, List.set_cons_zero, List.set_cons_succ])) | (refine RP.t_skip rfl rfl ?_; (try simp only [Act.put, List.setIfInBounds_toArray, List.set_cons_zero, List.set_cons_succ])))
          refine RP.t_run rfl (fun KK hKK => ?_)
          have hc := HH.out.cell.cell 0
          have hfz := HH.out.cell.frozen 0
          have hbl := HH.out.cell.lt
          have hlw := HS.out.lt
          simp only [List.getElem?_toArray, List.getElem?_cons_zero] at hc
          go_simp
          have hne : W.heap.size ≠ br := by omega
          refine hKK.out _ _ (HS.out.other hne _) ?_
          clear hKK KK hc hfz hlw hne
          refine RP.t_done ?_
          go_wp2_with fail
          go_ret
          exact ⟨_, _, rfl, HH.out.store, HF.out.trans ((Fr.setCell U8 _ _).mono (fun i _ e => e ▸ HH.out.obr))⟩
      · as_aux_lemma =>
          refine if_go rfl ?_
          refine wp_append_bytes HO.out HB.out.size (HV.out.later HB.out) hn _ _ rfl rfl rfl (fun v' U9 hv hg => ?_)
          obtain ⟨s', c', hv'⟩ := own_form hv
          subst hv'
          have HT := Lib.hid (show Bts U9 (fun i => own i ∨ W.heap.size ≤ i) (.slice s' b.length c') b from ⟨hv.mono (Nat.zero_le _), fun i e => Or.inr (hv.lt i e).1⟩)
          replace HR := Lib.hid (HR.out.kept (Fr.of_grown hg) (fun i hi e => by injection e with e; omega))
          replace HS := Lib.hid (HS.out.kept hg (by simp; omega))
          replace HB := Lib.hid (HB.out.grown hg HB.out.size (fun i e => by injection e with e; omega))
          refine hKK.out _ _ HS.out ?_
          clear hKK KK hv hg HO hgw
          (try simp only [Act.put, List.setIfInBounds_toArray, List.set_cons_zero, List.set_cons_succ])
          refine RP.t_take (v := .agg (Ev.cs ⟨a, .slice s' b.length c', b⟩).toArray) rfl rfl (fun w' _ => exec_build a s' b.length c' b _ _ rfl rfl rfl w') ?_
          (try simp only [Act.put, List.setIfInBounds_toArray, List.set_cons_zero, List.set_cons_succ])
          refine RP.t_fork rfl rfl (fun KK hKK => ?_) (fun KK hKK => ?_)
          · as_aux_lemma =>
              have hc := HR.out.cell.cell 0
              simp only [List.getElem?_toArray, List.getElem?_cons_zero] at hc
              go_simp
              refine hKK.out _ _ HS.out ?_
              clear hKK KK hc
              (try simp only [Act.put, List.setIfInBounds_toArray, List.set_cons_zero, List.set_cons_succ])
              refine t_run1 rfl rfl (fun KK hKK => ?_)
              refine wp_bslice a s' b.length c' b _ rfl rfl ?_
              have hb : Below U9.heap.size U9 (U9.alloc (.cells (Ev.cs ⟨a, .slice s' b.length c', b⟩).toArray 66)) := (Below.refl _ _).alloc (Nat.le_refl _) _
              have hd9 : ∀ j u, (Ev.cs ⟨a, .slice s' b.length c', b⟩)[j]? = some u → (U9.alloc (.cells (Ev.cs ⟨a, .slice s' b.length c', b⟩).toArray 66)).cell? ((⟨U9.heap.size, 0, none⟩ : Addr).add j) = some u := cells_new _ _ _
              replace HR := Lib.hid (HR.out.later hb)
              replace HS := Lib.hid (HS.out.below hb HS.out.lt)
              replace HB := Lib.hid (HB.out.trans (hb.mono HB.out.size))
              replace HT := Lib.hid (HT.out.kept (m := fun _ => False) (Fr.of_below hb _) (fun _ _ h => h))
              clear hb
              refine hKK.out _ _ HS.out ?_
              clear hKK KK
              generalize U9.alloc (.cells (Ev.cs ⟨a, .slice s' b.length c', b⟩).toArray 66) = U10 at HR HB HS HT hd9 ⊢
              generalize U9.heap.size = d10 at hd9 ⊢
              have HD := Lib.hid hd9
              clear hd9
              (try simp only [Act.put, List.setIfInBounds_toArray, List.set_cons_zero, List.set_cons_succ])
              refine t_run1 rfl rfl (fun KK hKK => ?_)
              refine wp_append_wrow _ _ 51 rfl i0 _ 9 32 Try.underlying51 hi hz0 hz1 hz2 rfl (by decide) HR.out.row rfl ⟨d10, 0, none⟩ 1 (Ev.cs ⟨a, .slice s' b.length c', b⟩) rfl rfl HD.out ?_ (by unfold maxLen; omega) (by omega) ?_
              · intro u hu
                simp only [Ev.cs, List.mem_cons, List.not_mem_nil, or_false] at hu
                rcases hu with rfl | rfl | rfl | rfl | rfl | rfl | rfl | rfl | rfl <;> rfl
              intro vn U11 hr3 hf3 _ _ _
              obtain ⟨s3, cap3, rfl, _⟩ := hr3.form
              have HH := Lib.hid (remit_half HR.out HT.out hr3 hf3 HB.out.size ho)
              have HF := Lib.hid ((Fr.of_below HB.out own).trans (hf3.mono (fun i _ e => (wrow_lt HR.out.row e.symm).2.1.1)))
              have hbw : ¬ some W.heap.size = (Value.slice sr E.length capr).ownBlock := fun e => by have := (wrow_lt HR.out.row e.symm).2.1.2; omega
              replace HS := Lib.hid (lies_fr HS.out hf3 hbw)
              refine hKK.out _ _ HS.out ?_
              clear hKK KK hr3 hf3 hbw HR HT HB HD
              (try simp only [Act.put, List.setIfInBounds_toArray, List.set_cons_zero, List.set_cons_succ])
              repeat (first | (refine RP.t_take (v := ?_) rfl rfl (fun w' hw' => ?_) ?_; rotate_left; (focus ((have hAf := hw'; obtain ⟨a0, a1, a2, a3, a4, a5, a6, a7⟩ := lies_addr hAf); go_simp; (try go_bits); (try (with_reducible rfl)))); (try simp only [Act.put, List.setIfInBounds_toArray, List.set_cons_zero, List.set_cons_succ])) | (refine RP.t_skip rfl rfl ?_; (try simp only [Act.put, List.setIfInBounds_toArray, List.set_cons_zero, List.set_cons_succ])))
              refine RP.t_run rfl (fun KK hKK => ?_)
              have hc := HH.out.cell.cell 0
              have hfz := HH.out.cell.frozen 0
              have hbl := HH.out.cell.lt
              have hlw := HS.out.lt
              simp only [List.getElem?_toArray, List.getElem?_cons_zero] at hc
              go_simp
              have hne : W.heap.size ≠ br := by omega
              refine hKK.out _ _ (HS.out.other hne _) ?_
              clear hKK KK hc hfz hlw hne
              refine RP.t_done ?_
              go_wp2_with fail
              go_ret
              exact ⟨_, _, rfl, HH.out.store, HF.out.trans ((Fr.setCell U11 _ _).mono (fun i _ e => e ▸ HH.out.obr))⟩
          · as_aux_lemma =>
              refine if_go rfl ?_
              refine wp_bslice a s' b.length c' b _ rfl rfl ?_
              have hb : Below U9.heap.size U9 (U9.alloc (.cells (Ev.cs ⟨a, .slice s' b.length c', b⟩).toArray 66)) := (Below.refl _ _).alloc (Nat.le_refl _) _
              have hd9 : ∀ j u, (Ev.cs ⟨a, .slice s' b.length c', b⟩)[j]? = some u → (U9.alloc (.cells (Ev.cs ⟨a, .slice s' b.length c', b⟩).toArray 66)).cell? ((⟨U9.heap.size, 0, none⟩ : Addr).add j) = some u := cells_new _ _ _
              replace HR := Lib.hid (HR.out.later hb)
              replace HS := Lib.hid (HS.out.below hb HS.out.lt)
              replace HB := Lib.hid (HB.out.trans (hb.mono HB.out.size))
              replace HT := Lib.hid (HT.out.kept (m := fun _ => False) (Fr.of_below hb _) (fun _ _ h => h))
              clear hb
              refine hKK.out _ _ HS.out ?_
              clear hKK KK
              generalize U9.alloc (.cells (Ev.cs ⟨a, .slice s' b.length c', b⟩).toArray 66) = U12 at HR HB HS HT hd9 ⊢
              generalize U9.heap.size = d12 at hd9 ⊢
              have HD := Lib.hid hd9
              clear hd9
              (try simp only [Act.put, List.setIfInBounds_toArray, List.set_cons_zero, List.set_cons_succ])
              refine RP.t_run rfl (fun KK hKK => ?_)
              have hc := HR.out.cell.cell 0
              simp only [List.getElem?_toArray, List.getElem?_cons_zero] at hc
              go_simp
              refine hKK.out _ _ HS.out ?_
              clear hKK KK hc
              (try simp only [Act.put, List.setIfInBounds_toArray, List.set_cons_zero, List.set_cons_succ])
              refine t_run1 rfl rfl (fun KK hKK => ?_)
              refine wp_append_wrow _ _ 51 rfl i0 _ 9 32 Try.underlying51 hi hz0 hz1 hz2 rfl (by decide) HR.out.row rfl ⟨d12, 0, none⟩ 1 (Ev.cs ⟨a, .slice s' b.length c', b⟩) rfl rfl HD.out ?_ (by unfold maxLen; omega) (by omega) ?_
              · intro u hu
                simp only [Ev.cs, List.mem_cons, List.not_mem_nil, or_false] at hu
                rcases hu with rfl | rfl | rfl | rfl | rfl | rfl | rfl | rfl | rfl <;> rfl
              intro vn U13 hr3 hf3 _ _ _
              obtain ⟨s3, cap3, rfl, _⟩ := hr3.form
              have HH := Lib.hid (remit_half HR.out HT.out hr3 hf3 HB.out.size ho)
              have HF := Lib.hid ((Fr.of_below HB.out own).trans (hf3.mono (fun i _ e => (wrow_lt HR.out.row e.symm).2.1.1)))
              have hbw : ¬ some W.heap.size = (Value.slice sr E.length capr).ownBlock := fun e => by have := (wrow_lt HR.out.row e.symm).2.1.2; omega
              replace HS := Lib.hid (lies_fr HS.out hf3 hbw)
              refine hKK.out _ _ HS.out ?_
              clear hKK KK hr3 hf3 hbw HR HT HB HD
              (try simp only [Act.put, List.setIfInBounds_toArray, List.set_cons_zero, List.set_cons_succ])
              repeat (first | (refine RP.t_take (v := ?_) rfl rfl (fun w' hw' => ?_) ?_; rotate_left; (focus ((have hAf := hw'; obtain ⟨a0, a1, a2, a3, a4, a5, a6, a7⟩ := lies_addr hAf); go_simp; (try go_bits); (try (with_reducible rfl)))); (try simp only [Act.put, List.setIfInBounds_toArray, List.set_cons_zero, List.set_cons_succ])) | (refine RP.t_skip rfl rfl ?_; (try simp only [Act.put, List.setIfInBounds_toArray, List.set_cons_zero, List.set_cons_succ])))
              refine RP.t_run rfl (fun KK hKK => ?_)
              have hc := HH.out.cell.cell 0
              have hfz := HH.out.cell.frozen 0
              have hbl := HH.out.cell.lt
              have hlw := HS.out.lt
              simp only [List.getElem?_toArray, List.getElem?_cons_zero] at hc
              go_simp
              have hne : W.heap.size ≠ br := by omega
              refine hKK.out _ _ (HS.out.other hne _) ?_
              clear hKK KK hc hfz hlw hne
              refine RP.t_done ?_
              go_wp2_with fail
              go_ret
              exact ⟨_, _, rfl, HH.out.store, HF.out.trans ((Fr.setCell U13 _ _).mono (fun i _ e => e ▸ HH.out.obr))⟩
end Go.Proofs.Yteeghdkejnhjnaa.Bo
