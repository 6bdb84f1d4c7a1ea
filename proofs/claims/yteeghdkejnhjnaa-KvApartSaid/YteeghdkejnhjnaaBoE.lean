/- The walk of a book's Emit. -/
import Derived.Test.YteeghdkejnhjnaaBoW
namespace Go.Proofs.Yteeghdkejnhjnaa.Bo
open Go Go.RowKit Kt Ad

theorem wp_append_wrow {P : Program} {w : World} {o : Oper} {a : Act} {K : Act → World → Prop} {Q : Exit → Act → World → Prop} (s x : Operand) (t : TypeId) (ho : o.op = .call { callee := .builtin .append, args := #[s, x], argTypes := #[t, t] })
    {e : TypeId} (i : TypeInfo) (z : Value) (size bytes : Nat) (ht : P.underlying t = some (.slice e)) (hi : P.info? e = some i) (hz : i.zero = some z) (hsize : i.size = size) (hby : i.bytes = bytes) (hzs : z.cells.size = size) (hsz : 0 < size)
    {own : Nat → Prop} {v : Value} {n : Nat} {xs : List Value} (h : WRow w own e size v n xs) (hs : a.eval s = v) (ad : Addr) (c : Nat) (news : List Value) (hx : a.eval x = .slice (some ad) 1 c) (hl : news.length = size) (hnews : ∀ j u, news[j]? = some u → w.cell? (ad.add j) = some u) (h1 : ∀ u ∈ news, u.oneCell' = true)
    (h63 : n + 1 ≤ maxLen) (hbytes : (n + 1) * bytes ≤ 140737488355328)
    (hK : ∀ v' w', WRow w' (fun k => own k ∨ w.heap.size ≤ k) e size v' (n + 1) (xs ++ news) → Fr w w' (fun k => some k = v.ownBlock) → Stay e size n w w' → (∀ k, v'.ownBlock = some k → v.ownBlock = some k ∨ w.heap.size ≤ k) → (∀ s, v = .slice s n n → Fr w w' (fun _ => False)) → K (a.put o.dst v') w') : Oper.wp P o a w K Q := by
  obtain ⟨v', w', hrun, r1, r2, r3, r4, r5⟩ := run_append_wrow (P := P) w t o.type e i z size bytes ht hi hz hsize hby hzs hsz h ad c news hl hnews h1 h63 hbytes
  unfold Oper.wp
  simp [execOp, ho, resolve, invoke, builtin, hs, hx, hrun, Result.andThen]
  exact hK v' w' r1 r2 r3 r4 r5

theorem if_go {c : Bool} {A B : Prop} (hc : c = true) (h : A) : if c = true then A else B := by rw [if_pos hc]; exact h
theorem Stay.other {e t : TypeId} {size n : Nat} {w : World} {g i : Nat} {cs : Array Value} (h : Lies w g t cs) (ht : t ≠ e) (v : Value) : Stay e size n w (w.setCell ⟨g, i, none⟩ v) := fun _ _ _ _ _ hr =>
  hr.kept (Fr.setCell w _ v) (fun k _ hk e => by
    obtain ⟨_, _, cur, hg⟩ := wrow_lt hr hk.symm
    subst e
    exact ht (lies_uniq h hg))
/-- What a book is ahead of the store of its longer row. -/
structure Half (W : World) (own : Nat → Prop) (bl bm : Nat) (vr vn : Value) (E : List Ev) (C : Cs) : Prop where
  cell : Lies W bl 112 #[vr, .map (some bm)]
  row : WRow W own 66 9 vn E.length (E.flatMap Ev.cs)
  evs : ∀ x ∈ E, Bts W own x.v x.b
  map : IsMap A8.v W bm (C.map kvc)
  codes : ∀ c ∈ C, Bts W own c.2.1 c.2.2 ∧ c.2.2 ≠ []
  rise : Al.Rise C
  obl : own bl
  obm : own bm
theorem emit_grown {W V V' : World} {own : Nat → Prop} {bl bm : Nat} {vr vn : Value} {E : List Ev} {C : Cs} (h : Bk V own bl bm vr E C) {a : A8} {v : Value} {b : List UInt8} (hb : Bts V (fun k => own k ∨ W.heap.size ≤ k) v b)
    (hr : WRow V' (fun k => own k ∨ V.heap.size ≤ k) 66 9 vn (E.length + 1) (E.flatMap Ev.cs ++ Ev.cs ⟨a, v, b⟩)) (hf : Fr V V' (fun k => some k = vr.ownBlock)) (hsz : W.heap.size ≤ V.heap.size) :
    Half V' (fun k => own k ∨ W.heap.size ≤ k) bl bm vr vn (E ++ [⟨a, v, b⟩]) C := by
  have hty : ∀ k, some k = vr.ownBlock → ∀ cur, ¬ Lies V k 5 cur := fun k e cur hl => h.ne_row hl (by decide) e
  have hm := h.mono (own' := fun k => own k ∨ W.heap.size ≤ k) (fun k _ hk => Or.inl hk)
  refine ⟨lies_fr h.cell hf (h.ne_row h.cell (by decide)), ?_, fun x hx => ?_, map_fr h.map hf h.map_ne_row, fun c hc => ⟨(hm.codes c hc).1.kept_ty hf hty, (hm.codes c hc).2⟩, h.rise, hm.obl, hm.obm⟩
  · have := hr.mono (own' := fun k => own k ∨ W.heap.size ≤ k) (fun k _ hk => hk.imp id (fun hk => Nat.le_trans hsz hk))
    rw [List.length_append, List.flatMap_append]
    simpa using this
  · rcases List.mem_append.1 hx with hx | hx
    · exact (hm.evs x hx).kept_ty hf hty
    · obtain rfl : x = ⟨a, v, b⟩ := by simpa using hx
      exact hb.kept_ty hf hty
theorem Half.store {W : World} {own : Nat → Prop} {bl bm : Nat} {vr vn : Value} {E : List Ev} {C : Cs} (h : Half W own bl bm vr vn E C) : Bk (W.setCell ⟨bl, 0, none⟩ vn) own bl bm vn E C := by
  have hf : Fr W (W.setCell ⟨bl, 0, none⟩ vn) (fun i => i = bl) := Fr.setCell W _ _
  have hty : ∀ k, k = bl → ∀ cur, ¬ Lies W k 5 cur := fun k e cur hl => by subst e; exact absurd (lies_uniq h.cell hl) (by decide)
  refine ⟨?_, h.row.kept hf (fun k _ hk e => ?_), fun x hx => (h.evs x hx).kept_ty hf hty, map_fr h.map hf (fun e => ?_), fun c hc => ⟨(h.codes c hc).1.kept_ty hf hty, (h.codes c hc).2⟩, h.rise, h.obl, h.obm⟩
  · have := h.cell.set 0 vn
    simpa using this
  · obtain ⟨_, _, cur, hg⟩ := wrow_lt h.row hk.symm
    subst e
    exact absurd (lies_uniq h.cell hg) (by decide)
  · obtain ⟨es, c, h1, _⟩ := h.map.block
    exact absurd e.symm (h.cell.not_map h1)

set_option maxRecDepth 100000 in
set_option maxHeartbeats 4000000 in
theorem emit_long {W : World} {bl : Nat} (a : A8) {v : Value} {b : List UInt8} (hv : Byt W v b) (hn : 1024 < b.length) :
    Calls Try.prog 23 #[.pointer (some ⟨bl, 0, none⟩), a.v, v] W fun e w' => e = .returned (.int .i64 3) ∧ Below W.heap.size W w' := by
  obtain ⟨s0, c0, rfl, _⟩ := hv
  simp only [A8.v]
  go_enter Try.func23, Try.ntmps23
  go_wp2_with fail
  go_ret
  exact ⟨rfl, (Below.refl _ _).alloc (Nat.le_refl _) _⟩

set_option maxRecDepth 100000 in
set_option maxHeartbeats 4000000 in
theorem emit_any {W : World} {own : Nat → Prop} {bl bm : Nat} {vr : Value} {E : List Ev} {C : Cs} (h : Bk W own bl bm vr E C) (hN : E.length ≤ 1000000) (a : A8) {v : Value} {b : List UInt8} (hv : Byt W v b) (hshort : ¬ 1024 < b.length) :
    Calls Try.prog 23 #[.pointer (some ⟨bl, 0, none⟩), a.v, v] W fun e w' => ∃ v' vn, e = .returned (.int .i64 0) ∧ Bk w' (fun k => own k ∨ W.heap.size ≤ k) bl bm vn (E ++ [⟨a, v', b⟩]) C ∧ Fr W w' (fun k => k = bl ∨ some k = vr.ownBlock) ∧ Stay 66 9 E.length W w' ∧ (∀ k, vn.ownBlock = some k → vr.ownBlock = some k ∨ W.heap.size ≤ k) ∧ (∀ s, vr = .slice s E.length E.length → Fr W w' (fun k => k = bl)) := by
  obtain ⟨i0, hi, hz0, hz1, hz2⟩ := info_parts infoEv
  have hn : b.length ≤ 1000000000 := by omega
  have hcz := h.cell.cell 0
  simp only [List.getElem?_toArray, List.getElem?_cons_zero] at hcz
  have hlt := h.cell.lt
  have HV := Lib.hid hv
  obtain ⟨s0, c0, rfl, _⟩ := hv
  obtain ⟨sr, capr, rfl, _⟩ := h.form
  simp only [A8.v]
  go_enter Try.func23, Try.ntmps23
  go_wp2_with fail
  obtain ⟨W1, hW1⟩ : ∃ W1, W1 = W.alloc (.cells a.cs.toArray 24) := ⟨_, rfl⟩
  have hA1 : Lies W1 W.heap.size 24 a.cs.toArray := hW1 ▸ Lies.new W _ _
  have hB1 : Below W.heap.size W W1 := hW1 ▸ (Below.refl _ _).alloc (Nat.le_refl _) _
  have hK1 := h.later hB1
  clear h
  rw [show W.alloc (.cells #[.int .u8 a.x0.toNat, .int .u8 a.x1.toNat, .int .u8 a.x2.toNat, .int .u8 a.x3.toNat, .int .u8 a.x4.toNat, .int .u8 a.x5.toNat, .int .u8 a.x6.toNat, .int .u8 a.x7.toNat] 24) = W1 from hW1.symm]
  clear hW1 hcz
  refine RP.region (RP.take 0 (RP.take 1 (RP.take 2 (RP.take 3 (RP.take 5 (RP.take 6 (RP.fork 4 7 (RP.run 7 (RP.take 8 (RP.run 9 (RP.run 10 (RP.take 11 (RP.take 12 (RP.run 13 RP.done))))))) (RP.take 8 (RP.fork 4 9 (RP.run 9 (RP.run 10 (RP.take 11 (RP.take 12 (RP.run 13 RP.done))))) (RP.run 4 (RP.run 10 (RP.take 11 (RP.take 12 (RP.run 13 RP.done)))))))))))))) (fun w' => Lies w' W.heap.size 24 a.cs.toArray) (by as_aux_lemma => kernel_rfl) (by as_aux_lemma => kernel_rfl) (fun _ _ d _ _ h => by cases d <;> exact h) hA1.drew (fun hS => ?_)
  have hK := hK1.drew
  have hB := hB1.drew
  have hV1 := HV.out.later hB
  generalize W1.drew = V at hS hK hB hV1 ⊢
  clear hA1 hK1 hB1
  repeat (first | (refine RP.t_take (v := ?_) rfl rfl (fun w' hw' => ?_) ?_; rotate_left; (focus ((have hAf := hw'; obtain ⟨a0, a1, a2, a3, a4, a5, a6, a7⟩ := lies_addr hAf); go_simp; (try go_bits); (try (with_reducible rfl)))); (try simp only [Act.put, List.setIfInBounds_toArray, List.set_cons_zero, List.set_cons_succ])) | (refine RP.t_skip rfl rfl ?_; (try simp only [Act.put, List.setIfInBounds_toArray, List.set_cons_zero, List.set_cons_succ])))
  refine RP.t_fork rfl rfl (fun KK hKK => ?_) (fun KK hKK => ?_)
  · as_aux_lemma =>
      have hc := hK.cell.cell 0
      simp only [List.getElem?_toArray, List.getElem?_cons_zero] at hc
      go_simp
      refine hKK.out _ _ hS ?_
      clear hKK KK hc
      (try simp only [Act.put, List.setIfInBounds_toArray, List.set_cons_zero, List.set_cons_succ])
      refine RP.t_run rfl (fun KK hKK => ?_)
      go_simp
      refine (bclone_any hV1 hn).mono ?_
      rintro ex V1 ⟨v', rfl, hT, hb2⟩
      obtain ⟨s', c', rfl⟩ := hT.form
      replace hS := hS.below hb2 hS.lt
      have HT := Lib.hid (hT.mono (own' := fun k => own k ∨ W.heap.size ≤ k) (fun k _ hk => Or.inr (Nat.le_trans hB.size hk)))
      replace hK := hK.later hb2
      replace hB := hB.trans (hb2.mono hB.size)
      refine hKK.out _ _ hS ?_
      clear hKK KK hb2 hV1 hT
      (try simp only [Act.put, List.setIfInBounds_toArray, List.set_cons_zero, List.set_cons_succ])
      refine RP.t_take (v := .agg (Ev.cs ⟨a, .slice s' b.length c', b⟩).toArray) rfl rfl (fun w' _ => exec_build a s' b.length c' b _ _ rfl rfl rfl w') ?_
      (try simp only [Act.put, List.setIfInBounds_toArray, List.set_cons_zero, List.set_cons_succ])
      refine t_run1 rfl rfl (fun KK hKK => ?_)
      refine wp_bslice a s' b.length c' b _ rfl rfl ?_
      have hb9 : Below V1.heap.size V1 (V1.alloc (.cells (Ev.cs ⟨a, .slice s' b.length c', b⟩).toArray 66)) := (Below.refl _ _).alloc (Nat.le_refl _) _
      have hd9 : ∃ d, d = V1.heap.size ∧ ∀ j u, (Ev.cs ⟨a, .slice s' b.length c', b⟩)[j]? = some u → (V1.alloc (.cells (Ev.cs ⟨a, .slice s' b.length c', b⟩).toArray 66)).cell? ((⟨d, 0, none⟩ : Addr).add j) = some u := ⟨_, rfl, cells_new _ _ _⟩
      replace hS := hS.below hb9 hS.lt
      replace hK := hK.later hb9
      replace HT := Lib.hid (HT.out.kept (m := fun _ => False) (Fr.of_below hb9 _) (fun _ _ h => h))
      replace hB := hB.trans (hb9.mono hB.size)
      refine hKK.out _ _ hS ?_
      clear hKK KK hb9
      obtain ⟨d, hd, hd9⟩ := hd9
      rw [← hd]
      generalize V1.alloc (.cells (Ev.cs ⟨a, .slice s' b.length c', b⟩).toArray 66) = V2 at hS hK HT hB hd9 ⊢
      clear hd
      (try simp only [Act.put, List.setIfInBounds_toArray, List.set_cons_zero, List.set_cons_succ])
      refine t_run1 rfl rfl (fun KK hKK => ?_)
      refine wp_append_wrow _ _ 51 rfl i0 _ 9 32 Try.underlying51 hi hz0 hz1 hz2 rfl (by decide) hK.row rfl ⟨d, 0, none⟩ 1 (Ev.cs ⟨a, .slice s' b.length c', b⟩) rfl rfl hd9 ?_ (by unfold maxLen; omega) (by omega) ?_
      · intro u hu
        simp only [Ev.cs, List.mem_cons, List.not_mem_nil, or_false] at hu
        rcases hu with rfl | rfl | rfl | rfl | rfl | rfl | rfl | rfl | rfl <;> rfl
      intro vn V3 hr3 hf3 hst3 hfr3 hfl3
      obtain ⟨s3, cap3, rfl, _⟩ := hr3.form
      have hE3 := emit_grown hK HT.out hr3 hf3 (by have := hB.size; omega)
      have hbw := hK.ne_row hS (by decide)
      replace hS := lies_fr hS hf3 hbw
      refine hKK.out _ _ hS ?_
      have HF3 := Lib.hid ((Fr.of_below hB _).trans hf3)
      have HST := Lib.hid ((Stay.of_below (e := 66) (size := 9) (n := E.length) hB).trans hst3)
      have hszw := hB.size
      have HFR := Lib.hid (fun k hk => (hfr3 k hk).imp id (fun h => Nat.le_trans hszw h))
      have HFL := Lib.hid (fun s e => (Fr.of_below hB (fun _ => False)).trans (hfl3 s e))
      have HE := Lib.hid hE3
      have hlw := hS.lt
      clear hKK KK hK HT hB hd9 hr3 hf3 hst3 hfr3 hfl3 hE3 hszw hbw
      (try simp only [Act.put, List.setIfInBounds_toArray, List.set_cons_zero, List.set_cons_succ])
      repeat (first | (refine RP.t_take (v := ?_) rfl rfl (fun w' hw' => ?_) ?_; rotate_left; (focus ((have hAf := hw'; obtain ⟨a0, a1, a2, a3, a4, a5, a6, a7⟩ := lies_addr hAf); go_simp; (try go_bits); (try (with_reducible rfl)))); (try simp only [Act.put, List.setIfInBounds_toArray, List.set_cons_zero, List.set_cons_succ])) | (refine RP.t_skip rfl rfl ?_; (try simp only [Act.put, List.setIfInBounds_toArray, List.set_cons_zero, List.set_cons_succ])))
      refine RP.t_run rfl (fun KK hKK => ?_)
      have hc := HE.out.cell.cell 0
      have hfz := HE.out.cell.frozen 0
      have hbl := HE.out.cell.lt
      simp only [List.getElem?_toArray, List.getElem?_cons_zero] at hc
      go_simp
      have hne : W.heap.size ≠ bl := by omega
      refine hKK.out _ _ (hS.other hne _) ?_
      clear hKK KK hc hfz hS hlw
      refine RP.t_done ?_
      go_wp2_with fail
      go_ret
      exact ⟨_, _, rfl, HE.out.store, (HF3.out.mono (fun k _ hk => Or.inr hk)).trans ((Fr.setCell V3 _ _).mono (fun k _ hk => Or.inl hk)), HST.out.trans (Stay.other HE.out.cell (by decide) _), HFR.out, fun s e => ((HFL.out s e).mono (fun k _ hk => hk.elim)).trans (Fr.setCell V3 _ _)⟩
  · as_aux_lemma =>
      go_simp
      refine (bclone_any hV1 hn).mono ?_
      rintro ex V1 ⟨v', rfl, hT, hb2⟩
      obtain ⟨s', c', rfl⟩ := hT.form
      replace hS := hS.below hb2 hS.lt
      have HT := Lib.hid (hT.mono (own' := fun k => own k ∨ W.heap.size ≤ k) (fun k _ hk => Or.inr (Nat.le_trans hB.size hk)))
      replace hK := hK.later hb2
      replace hB := hB.trans (hb2.mono hB.size)
      refine hKK.out _ _ hS ?_
      clear hKK KK hb2 hV1 hT
      (try simp only [Act.put, List.setIfInBounds_toArray, List.set_cons_zero, List.set_cons_succ])
      refine RP.t_take (v := .agg (Ev.cs ⟨a, .slice s' b.length c', b⟩).toArray) rfl rfl (fun w' _ => exec_build a s' b.length c' b _ _ rfl rfl rfl w') ?_
      (try simp only [Act.put, List.setIfInBounds_toArray, List.set_cons_zero, List.set_cons_succ])
      refine RP.t_fork rfl rfl (fun KK hKK => ?_) (fun KK hKK => ?_)
      · as_aux_lemma =>
          have hc := hK.cell.cell 0
          simp only [List.getElem?_toArray, List.getElem?_cons_zero] at hc
          go_simp
          refine hKK.out _ _ hS ?_
          clear hKK KK hc
          (try simp only [Act.put, List.setIfInBounds_toArray, List.set_cons_zero, List.set_cons_succ])
          refine t_run1 rfl rfl (fun KK hKK => ?_)
          refine wp_bslice a s' b.length c' b _ rfl rfl ?_
          have hb9 : Below V1.heap.size V1 (V1.alloc (.cells (Ev.cs ⟨a, .slice s' b.length c', b⟩).toArray 66)) := (Below.refl _ _).alloc (Nat.le_refl _) _
          have hd9 : ∃ d, d = V1.heap.size ∧ ∀ j u, (Ev.cs ⟨a, .slice s' b.length c', b⟩)[j]? = some u → (V1.alloc (.cells (Ev.cs ⟨a, .slice s' b.length c', b⟩).toArray 66)).cell? ((⟨d, 0, none⟩ : Addr).add j) = some u := ⟨_, rfl, cells_new _ _ _⟩
          replace hS := hS.below hb9 hS.lt
          replace hK := hK.later hb9
          replace HT := Lib.hid (HT.out.kept (m := fun _ => False) (Fr.of_below hb9 _) (fun _ _ h => h))
          replace hB := hB.trans (hb9.mono hB.size)
          refine hKK.out _ _ hS ?_
          clear hKK KK hb9
          obtain ⟨d, hd, hd9⟩ := hd9
          rw [← hd]
          generalize V1.alloc (.cells (Ev.cs ⟨a, .slice s' b.length c', b⟩).toArray 66) = V2 at hS hK HT hB hd9 ⊢
          clear hd
          (try simp only [Act.put, List.setIfInBounds_toArray, List.set_cons_zero, List.set_cons_succ])
          refine t_run1 rfl rfl (fun KK hKK => ?_)
          refine wp_append_wrow _ _ 51 rfl i0 _ 9 32 Try.underlying51 hi hz0 hz1 hz2 rfl (by decide) hK.row rfl ⟨d, 0, none⟩ 1 (Ev.cs ⟨a, .slice s' b.length c', b⟩) rfl rfl hd9 ?_ (by unfold maxLen; omega) (by omega) ?_
          · intro u hu
            simp only [Ev.cs, List.mem_cons, List.not_mem_nil, or_false] at hu
            rcases hu with rfl | rfl | rfl | rfl | rfl | rfl | rfl | rfl | rfl <;> rfl
          intro vn V3 hr3 hf3 hst3 hfr3 hfl3
          obtain ⟨s3, cap3, rfl, _⟩ := hr3.form
          have hE3 := emit_grown hK HT.out hr3 hf3 (by have := hB.size; omega)
          have hbw := hK.ne_row hS (by decide)
          replace hS := lies_fr hS hf3 hbw
          refine hKK.out _ _ hS ?_
          have HF3 := Lib.hid ((Fr.of_below hB _).trans hf3)
          have HST := Lib.hid ((Stay.of_below (e := 66) (size := 9) (n := E.length) hB).trans hst3)
          have hszw := hB.size
          have HFR := Lib.hid (fun k hk => (hfr3 k hk).imp id (fun h => Nat.le_trans hszw h))
          have HFL := Lib.hid (fun s e => (Fr.of_below hB (fun _ => False)).trans (hfl3 s e))
          have HE := Lib.hid hE3
          have hlw := hS.lt
          clear hKK KK hK HT hB hd9 hr3 hf3 hst3 hfr3 hfl3 hE3 hszw hbw
          (try simp only [Act.put, List.setIfInBounds_toArray, List.set_cons_zero, List.set_cons_succ])
          repeat (first | (refine RP.t_take (v := ?_) rfl rfl (fun w' hw' => ?_) ?_; rotate_left; (focus ((have hAf := hw'; obtain ⟨a0, a1, a2, a3, a4, a5, a6, a7⟩ := lies_addr hAf); go_simp; (try go_bits); (try (with_reducible rfl)))); (try simp only [Act.put, List.setIfInBounds_toArray, List.set_cons_zero, List.set_cons_succ])) | (refine RP.t_skip rfl rfl ?_; (try simp only [Act.put, List.setIfInBounds_toArray, List.set_cons_zero, List.set_cons_succ])))
          refine RP.t_run rfl (fun KK hKK => ?_)
          have hc := HE.out.cell.cell 0
          have hfz := HE.out.cell.frozen 0
          have hbl := HE.out.cell.lt
          simp only [List.getElem?_toArray, List.getElem?_cons_zero] at hc
          go_simp
          have hne : W.heap.size ≠ bl := by omega
          refine hKK.out _ _ (hS.other hne _) ?_
          clear hKK KK hc hfz hS hlw
          refine RP.t_done ?_
          go_wp2_with fail
          go_ret
          exact ⟨_, _, rfl, HE.out.store, (HF3.out.mono (fun k _ hk => Or.inr hk)).trans ((Fr.setCell V3 _ _).mono (fun k _ hk => Or.inl hk)), HST.out.trans (Stay.other HE.out.cell (by decide) _), HFR.out, fun s e => ((HFL.out s e).mono (fun k _ hk => hk.elim)).trans (Fr.setCell V3 _ _)⟩
      · as_aux_lemma =>
          refine if_go rfl ?_
          refine wp_bslice a s' b.length c' b _ rfl rfl ?_
          have hb9 : Below V1.heap.size V1 (V1.alloc (.cells (Ev.cs ⟨a, .slice s' b.length c', b⟩).toArray 66)) := (Below.refl _ _).alloc (Nat.le_refl _) _
          have hd9 : ∃ d, d = V1.heap.size ∧ ∀ j u, (Ev.cs ⟨a, .slice s' b.length c', b⟩)[j]? = some u → (V1.alloc (.cells (Ev.cs ⟨a, .slice s' b.length c', b⟩).toArray 66)).cell? ((⟨d, 0, none⟩ : Addr).add j) = some u := ⟨_, rfl, cells_new _ _ _⟩
          replace hS := hS.below hb9 hS.lt
          replace hK := hK.later hb9
          replace HT := Lib.hid (HT.out.kept (m := fun _ => False) (Fr.of_below hb9 _) (fun _ _ h => h))
          replace hB := hB.trans (hb9.mono hB.size)
          refine hKK.out _ _ hS ?_
          clear hKK KK hb9
          obtain ⟨d, hd, hd9⟩ := hd9
          rw [← hd]
          generalize V1.alloc (.cells (Ev.cs ⟨a, .slice s' b.length c', b⟩).toArray 66) = V2 at hS hK HT hB hd9 ⊢
          clear hd
          (try simp only [Act.put, List.setIfInBounds_toArray, List.set_cons_zero, List.set_cons_succ])
          refine RP.t_run rfl (fun KK hKK => ?_)
          have hc := hK.cell.cell 0
          simp only [List.getElem?_toArray, List.getElem?_cons_zero] at hc
          go_simp
          refine hKK.out _ _ hS ?_
          clear hKK KK hc
          (try simp only [Act.put, List.setIfInBounds_toArray, List.set_cons_zero, List.set_cons_succ])
          refine t_run1 rfl rfl (fun KK hKK => ?_)
          refine wp_append_wrow _ _ 51 rfl i0 _ 9 32 Try.underlying51 hi hz0 hz1 hz2 rfl (by decide) hK.row rfl ⟨d, 0, none⟩ 1 (Ev.cs ⟨a, .slice s' b.length c', b⟩) rfl rfl hd9 ?_ (by unfold maxLen; omega) (by omega) ?_
          · intro u hu
            simp only [Ev.cs, List.mem_cons, List.not_mem_nil, or_false] at hu
            rcases hu with rfl | rfl | rfl | rfl | rfl | rfl | rfl | rfl | rfl <;> rfl
          intro vn V3 hr3 hf3 hst3 hfr3 hfl3
          obtain ⟨s3, cap3, rfl, _⟩ := hr3.form
          have hE3 := emit_grown hK HT.out hr3 hf3 (by have := hB.size; omega)
          have hbw := hK.ne_row hS (by decide)
          replace hS := lies_fr hS hf3 hbw
          refine hKK.out _ _ hS ?_
          have HF3 := Lib.hid ((Fr.of_below hB _).trans hf3)
          have HST := Lib.hid ((Stay.of_below (e := 66) (size := 9) (n := E.length) hB).trans hst3)
          have hszw := hB.size
          have HFR := Lib.hid (fun k hk => (hfr3 k hk).imp id (fun h => Nat.le_trans hszw h))
          have HFL := Lib.hid (fun s e => (Fr.of_below hB (fun _ => False)).trans (hfl3 s e))
          have HE := Lib.hid hE3
          have hlw := hS.lt
          clear hKK KK hK HT hB hd9 hr3 hf3 hst3 hfr3 hfl3 hE3 hszw hbw
          (try simp only [Act.put, List.setIfInBounds_toArray, List.set_cons_zero, List.set_cons_succ])
          repeat (first | (refine RP.t_take (v := ?_) rfl rfl (fun w' hw' => ?_) ?_; rotate_left; (focus ((have hAf := hw'; obtain ⟨a0, a1, a2, a3, a4, a5, a6, a7⟩ := lies_addr hAf); go_simp; (try go_bits); (try (with_reducible rfl)))); (try simp only [Act.put, List.setIfInBounds_toArray, List.set_cons_zero, List.set_cons_succ])) | (refine RP.t_skip rfl rfl ?_; (try simp only [Act.put, List.setIfInBounds_toArray, List.set_cons_zero, List.set_cons_succ])))
          refine RP.t_run rfl (fun KK hKK => ?_)
          have hc := HE.out.cell.cell 0
          have hfz := HE.out.cell.frozen 0
          have hbl := HE.out.cell.lt
          simp only [List.getElem?_toArray, List.getElem?_cons_zero] at hc
          go_simp
          have hne : W.heap.size ≠ bl := by omega
          refine hKK.out _ _ (hS.other hne _) ?_
          clear hKK KK hc hfz hS hlw
          refine RP.t_done ?_
          go_wp2_with fail
          go_ret
          exact ⟨_, _, rfl, HE.out.store, (HF3.out.mono (fun k _ hk => Or.inr hk)).trans ((Fr.setCell V3 _ _).mono (fun k _ hk => Or.inl hk)), HST.out.trans (Stay.other HE.out.cell (by decide) _), HFR.out, fun s e => ((HFL.out s e).mono (fun k _ hk => hk.elim)).trans (Fr.setCell V3 _ _)⟩
end Go.Proofs.Yteeghdkejnhjnaa.Bo
