/- An event built of an address and its bytes' slice, and a slice of one event: nine cells at once. -/
import Derived.Test.YteeghdkejnhjnaaBoS
import Derived.Laws.BytesArg
namespace Go.Proofs.Yteeghdkejnhjnaa.Bo
open Go Go.RowKit Kt Ad
theorem build_ev (a : A8) (s : Option Addr) (n c : Nat) (b : List UInt8) (w : World) : (Instr.build 66 #[(0, a.v), (1, .slice s n c)]).run Try.prog w = .ok (.agg (Ev.cs ⟨a, .slice s n c, b⟩).toArray) w := by kernel_rfl
theorem bslice_ev (a : A8) (s : Option Addr) (n c : Nat) (b : List UInt8) (w : World) : (Instr.buildSlice 51 1 #[(0, .agg (Ev.cs ⟨a, .slice s n c, b⟩).toArray)]).run Try.prog w = .ok (.slice (some ⟨w.heap.size, 0, none⟩) 1 1) (w.alloc (.cells (Ev.cs ⟨a, .slice s n c, b⟩).toArray 66)) := by kernel_rfl
theorem exec_build {op : Oper} {a : Act} (x : A8) (s : Option Addr) (n c : Nat) (b : List UInt8) (p0 p1 : Operand) (ho : op.op = .build 66 #[(0, p0), (1, p1)]) (h0 : a.eval p0 = x.v) (h1 : a.eval p1 = .slice s n c) (w : World) :
    (execOp a.eval op).run Try.prog w = .ok (.value (.agg (Ev.cs ⟨x, .slice s n c, b⟩).toArray)) w := by
  have hb := build_ev x s n c b w
  unfold execOp
  simp [ho, h0, h1, hb]
theorem wp_bslice {op : Oper} {a : Act} {w : World} {K : Act → World → Prop} {Q : Exit → Act → World → Prop} (x : A8) (s : Option Addr) (n c : Nat) (b : List UInt8) (p0 : Operand) (ho : op.op = .buildSlice 51 1 #[(0, p0)]) (h0 : a.eval p0 = .agg (Ev.cs ⟨x, .slice s n c, b⟩).toArray)
    (hK : K (a.put op.dst (.slice (some ⟨w.heap.size, 0, none⟩) 1 1)) (w.alloc (.cells (Ev.cs ⟨x, .slice s n c, b⟩).toArray 66))) : Oper.wp Try.prog op a w K Q := by
  have hb := bslice_ev x s n c b w
  unfold Oper.wp execOp
  simp [ho, h0, hb]
  exact hK
end Go.Proofs.Yteeghdkejnhjnaa.Bo

/- The walk of a book's Emit. -/
namespace Go.Proofs.Yteeghdkejnhjnaa.Bo
open Go Go.RowKit Kt Ad

theorem wp_append_wrow {P : Program} {w : World} {o : Oper} {a : Act} {K : Act → World → Prop} {Q : Exit → Act → World → Prop} (s x : Operand) (t : TypeId) (ho : o.op = .call { callee := .builtin .append, args := #[s, x], argTypes := #[t, t] })
    {e : TypeId} (i : TypeInfo) (z : Value) (size bytes : Nat) (ht : P.underlying t = some (.slice e)) (hi : P.info? e = some i) (hz : i.zero = some z) (hsize : i.size = size) (hby : i.bytes = bytes) (hzs : z.cells.size = size) (hsz : 0 < size)
    {own : Nat → Prop} {v : Value} {n : Nat} {xs : List Value} (h : WRow w own e size v n xs) (hs : a.eval s = v) (ad : Addr) (c : Nat) (news : List Value) (hx : a.eval x = .slice (some ad) 1 c) (hl : news.length = size) (hnews : ∀ j u, news[j]? = some u → w.cell? (ad.add j) = some u) (h1 : ∀ u ∈ news, u.oneCell' = true)
    (h63 : n + 1 ≤ maxLen) (hbytes : (n + 1) * bytes ≤ 140737488355328)
    (hK : ∀ v' w', WRow w' (fun k => own k ∨ w.heap.size ≤ k) e size v' (n + 1) (xs ++ news) → Fr w w' (fun k => some k = v.ownBlock) → Stay e size n w w' → (∀ k, v'.ownBlock = some k → v.ownBlock = some k ∨ w.heap.size ≤ k) → (∀ s, v = .slice s n n → Fr w w' (fun _ => False)) → K (a.put o.dst v') w') : Oper.wp P o a w K Q := by
  obtain ⟨v', w', hrun, r1, r2, r3, r4, r5⟩ := run_append_wrow (P := P) w t o.type e i z size bytes ht hi hz hsize hby hzs hsz h ad c news hl hnews h1 h63 hbytes
  unfold Oper.wp
  simp [execOp, ho, resolve, invoke, builtin, hs, hx, hrun, Result.andThen]
  exact hK v' w' r1 r2 r3 r4 r5

theorem if_go {c : Bool} {A B : Prop} (hc : c = true) (h : A) : if c = true then A else B := by rw [if_pos hc]; exact h
theorem Stay.other {e t : TypeId} {size n : Nat} {w : World} {g i : Nat} {cs : Array Value} (h : Lies w g t cs) (ht : t ≠ e) (v : Value) : Stay e size n w (w.setCell ⟨g, i, none⟩ v) := fun _ _ _ _ _ hr =>
  hr.kept (Fr.setCell w _ v) (fun k _ hk e => by
    obtain ⟨_, _, cur, hg⟩ := wrow_lt hr hk.symm
    subst e
    exact ht (lies_uniq h hg))
/-- What a book is ahead of the store of its longer row. -/
structure Half (W : World) (own : Nat → Prop) (bl bm : Nat) (vr vn : Value) (E : List Ev) (C : Cs) : Prop where
  cell : Lies W bl 112 #[vr, .map (some bm)]
  row : WRow W own 66 9 vn E.length (E.flatMap Ev.cs)
  evs : ∀ x ∈ E, Bts W own x.v x.b
  map : IsMap A8.v W bm (C.map kvc)
  codes : ∀ c ∈ C, Bts W own c.2.1 c.2.2 ∧ c.2.2 ≠ []
  rise : Al.Rise C
  obl : own bl
  obm : own bm
theorem emit_grown {W V V' : World} {own : Nat → Prop} {bl bm : Nat} {vr vn : Value} {E : List Ev} {C : Cs} (h : Bk V own bl bm vr E C) {a : A8} {v : Value} {b : List UInt8} (hb : Bts V (fun k => own k ∨ W.heap.size ≤ k) v b)
    (hr : WRow V' (fun k => own k ∨ V.heap.size ≤ k) 66 9 vn (E.length + 1) (E.flatMap Ev.cs ++ Ev.cs ⟨a, v, b⟩)) (hf : Fr V V' (fun k => some k = vr.ownBlock)) (hsz : W.heap.size ≤ V.heap.size) :
    Half V' (fun k => own k ∨ W.heap.size ≤ k) bl bm vr vn (E ++ [⟨a, v, b⟩]) C := by
  have hty : ∀ k, some k = vr.ownBlock → ∀ cur, ¬ Lies V k 5 cur := fun k e cur hl => h.ne_row hl (by decide) e
  have hm := h.mono (own' := fun k => own k ∨ W.heap.size ≤ k) (fun k _ hk => Or.inl hk)
  refine ⟨lies_fr h.cell hf (h.ne_row h.cell (by decide)), ?_, fun x hx => ?_, map_fr h.map hf h.map_ne_row, fun c hc => ⟨(hm.codes c hc).1.kept_ty hf hty, (hm.codes c hc).2⟩, h.rise, hm.obl, hm.obm⟩
  · have := hr.mono (own' := fun k => own k ∨ W.heap.size ≤ k) (fun k _ hk => hk.imp id (fun hk => Nat.le_trans hsz hk))
    rw [List.length_append, List.flatMap_append]
    simpa using this
  · rcases List.mem_append.1 hx with hx | hx
    · exact (hm.evs x hx).kept_ty hf hty
    · obtain rfl : x = ⟨a, v, b⟩ := by simpa using hx
      exact hb.kept_ty hf hty
theorem Half.store {W : World} {own : Nat → Prop} {bl bm : Nat} {vr vn : Value} {E : List Ev} {C : Cs} (h : Half W own bl bm vr vn E C) : Bk (W.setCell ⟨bl, 0, none⟩ vn) own bl bm vn E C := by
  have hf : Fr W (W.setCell ⟨bl, 0, none⟩ vn) (fun i => i = bl) := Fr.setCell W _ _
  have hty : ∀ k, k = bl → ∀ cur, ¬ Lies W k 5 cur := fun k e cur hl => by subst e; exact absurd (lies_uniq h.cell hl) (by decide)
  refine ⟨?_, h.row.kept hf (fun k _ hk e => ?_), fun x hx => (h.evs x hx).kept_ty hf hty, map_fr h.map hf (fun e => ?_), fun c hc => ⟨(h.codes c hc).1.kept_ty hf hty, (h.codes c hc).2⟩, h.rise, h.obl, h.obm⟩
  · have := h.cell.set 0 vn
    simpa using this
  · obtain ⟨_, _, cur, hg⟩ := wrow_lt h.row hk.symm
    subst e
    exact absurd (lies_uniq h.cell hg) (by decide)
  · obtain ⟨es, c, h1, _⟩ := h.map.block
    exact absurd e.symm (h.cell.not_map h1)

set_option maxRecDepth 100000 in
set_option maxHeartbeats 4000000 in
theorem emit_long {W : World} {bl : Nat} (a : A8) {v : Value} {b : List UInt8} (hv : Byt W v b) (hn : 1024 < b.length) :
    Calls Try.prog 23 #[.pointer (some ⟨bl, 0, none⟩), a.v, v] W fun e w' => e = .returned (.int .i64 3) ∧ Below W.heap.size W w' := by
  obtain ⟨s0, c0, rfl, _⟩ := hv
  simp only [A8.v]
  go_enter Try.func23, Try.ntmps23
  go_wp2_with fail
  go_ret
  exact ⟨rfl, (Below.refl _ _).alloc (Nat.le_refl _) _⟩

set_option maxRecDepth 100000 in
set_option maxHeartbeats 4000000 in
theorem emit_any {W : World} {own : Nat → Prop} {bl bm : Nat} {vr : Value} {E : List Ev} {C : Cs} (h : Bk W own bl bm vr E C) (hN : E.length ≤ 1000000) (a : A8) {v : Value} {b : List UInt8} (hv : Byt W v b) (hshort : ¬ 1024 < b.length) :
    Calls Try.prog 23 #[.pointer (some ⟨bl, 0, none⟩), a.v, v] W fun e w' => ∃ v' vn, e = .returned (.int .i64 0) ∧ Bk w' (fun k => own k ∨ W.heap.size ≤ k) bl bm vn (E ++ [⟨a, v', b⟩]) C ∧ Fr W w' (fun k => k = bl ∨ some k = vr.ownBlock) ∧ Stay 66 9 E.length W w' ∧ (∀ k, vn.ownBlock = some k → vr.ownBlock = some k ∨ W.heap.size ≤ k) ∧ (∀ s, vr = .slice s E.length E.length → Fr W w' (fun k => k = bl)) := by
  obtain ⟨i0, hi, hz0, hz1, hz2⟩ := info_parts infoEv
  have hn : b.length ≤ 1000000000 := by omega
  have hcz := h.cell.cell 0
  simp only [List.getElem?_toArray, List.getElem?_cons_zero] at hcz
  have hlt := h.cell.lt
  have HV := Lib.hid hv
  obtain ⟨s0, c0, rfl, _⟩ := hv
  obtain ⟨sr, capr, rfl, _⟩ := h.form
  simp only [A8.v]
  go_enter Try.func23, Try.ntmps23
  go_wp2_with fail
  obtain ⟨W1, hW1⟩ : ∃ W1, W1 = W.alloc (.cells a.cs.toArray 24) := ⟨_, rfl⟩
  have hA1 : Lies W1 W.heap.size 24 a.cs.toArray := hW1 ▸ Lies.new W _ _
  have hB1 : Below W.heap.size W W1 := hW1 ▸ (Below.refl _ _).alloc (Nat.le_refl _) _
  have hK1 := h.later hB1
  clear h
  rw [show W.alloc (.cells #[.int .u8 a.x0.toNat, .int .u8 a.x1.toNat, .int .u8 a.x2.toNat, .int .u8 a.x3.toNat, .int .u8 a.x4.toNat, .int .u8 a.x5.toNat, .int .u8 a.x6.toNat, .int .u8 a.x7.toNat] 24) = W1 from hW1.symm]
  clear hW1 hcz
  refine RP.region (RP.take 0 (RP.take 1 (RP.take 2 (RP.take 3 (RP.take 5 (RP.take 6 (RP.fork 4 7 (RP.run 7 (RP.take 8 (RP.run 9 (RP.run 10 (RP.take 11 (RP.take 12 (RP.run 13 RP.done))))))) (RP.take 8 (RP.fork 4 9 (RP.run 9 (RP.run 10 (RP.take 11 (RP.take 12 (RP.run 13 RP.done))))) (RP.run 4 (RP.run 10 (RP.take 11 (RP.take 12 (RP.run 13 RP.done)))))))))))))) (fun w' => Lies w' W.heap.size 24 a.cs.toArray) (by as_aux_lemma => kernel_rfl) (by as_aux_lemma => kernel_rfl) (fun _ _ d _ _ h => by cases d <;> exact h) hA1.drew (fun hS => ?_)
  have hK := hK1.drew
  have hB := hB1.drew
  have hV1 := HV.out.later hB
  generalize W1.drew = V at hS hK hB hV1 ⊢
  clear hA1 hK1 hB1
  repeat (first | (refine RP.t_take (v := ?_) rfl rfl (fun w' hw' => ?_) ?_; rotate_left; (focus ((have hAf := hw'; obtain ⟨a0, a1, a2, a3, a4, a5, a6, a7⟩ := lies_addr hAf); go_simp; (try go_bits); (try (with_reducible rfl)))); (try simp only [Act.put, List.setIfInBounds_toArray, List.set_cons_zero, List.set_cons_succ])) | (refine RP.t_skip rfl rfl ?_; (try simp only [Act.put, List.setIfInBounds_toArray, List.set_cons_zero, List.set_cons_succ])))
  refine RP.t_fork rfl rfl (fun KK hKK => ?_) (fun KK hKK => ?_)
  · as_aux_lemma =>
      have hc := hK.cell.cell 0
      simp only [List.getElem?_toArray, List.getElem?_cons_zero] at hc
      go_simp
      refine hKK.out _ _ hS ?_
      clear hKK KK hc
      (try simp only [Act.put, List.setIfInBounds_toArray, List.set_cons_zero, List.set_cons_succ])
      refine RP.t_run rfl (fun KK hKK => ?_)
      go_simp
      refine (bclone_any hV1 hn).mono ?_
      rintro ex V1 ⟨v', rfl, hT, hb2⟩
      obtain ⟨s', c', rfl⟩ := hT.form
      replace hS := hS.below hb2 hS.lt
      have HT := Lib.hid (hT.mono (own' := fun k => own k ∨ W.heap.size ≤ k) (fun k _ hk => Or.inr (Nat.le_trans hB.size hk)))
      replace hK := hK.later hb2
      replace hB := hB.trans (hb2.mono hB.size)
      refine hKK.out _ _ hS ?_
      clear hKK KK hb2 hV1 hT
      (try simp only [Act.put, List.setIfInBounds_toArray, List.set_cons_zero, List.set_cons_succ])
      refine RP.t_take (v := .agg (Ev.cs ⟨a, .slice s' b.length c', b⟩).toArray) rfl rfl (fun w' _ => exec_build a s' b.length c' b _ _ rfl rfl rfl w') ?_
      (try simp only [Act.put, List.setIfInBounds_toArray, List.set_cons_zero, List.set_cons_succ])
      refine t_run1 rfl rfl (fun KK hKK => ?_)
      refine wp_bslice a s' b.length c' b _ rfl rfl ?_
      have hb9 : Below V1.heap.size V1 (V1.alloc (.cells (Ev.cs ⟨a, .slice s' b.length c', b⟩).toArray 66)) := (Below.refl _ _).alloc (Nat.le_refl _) _
      have hd9 : ∃ d, d = V1.heap.size ∧ ∀ j u, (Ev.cs ⟨a, .slice s' b.length c', b⟩)[j]? = some u → (V1.alloc (.cells (Ev.cs ⟨a, .slice s' b.length c', b⟩).toArray 66)).cell? ((⟨d, 0, none⟩ : Addr).add j) = some u := ⟨_, rfl, cells_new _ _ _⟩
      replace hS := hS.below hb9 hS.lt
      replace hK := hK.later hb9
      replace HT := Lib.hid (HT.out.kept (m := fun _ => False) (Fr.of_below hb9 _) (fun _ _ h => h))
      replace hB := hB.trans (hb9.mono hB.size)
      refine hKK.out _ _ hS ?_
      clear hKK KK hb9
      obtain ⟨d, hd, hd9⟩ := hd9
      rw [← hd]
      generalize V1.alloc (.cells (Ev.cs ⟨a, .slice s' b.length c', b⟩).toArray 66) = V2 at hS hK HT hB hd9 ⊢
      clear hd
      (try simp only [Act.put, List.setIfInBounds_toArray, List.set_cons_zero, List.set_cons_succ])
      refine t_run1 rfl rfl (fun KK hKK => ?_)
      refine wp_append_wrow _ _ 51 rfl i0 _ 9 32 Try.underlying51 hi hz0 hz1 hz2 rfl (by decide) hK.row rfl ⟨d, 0, none⟩ 1 (Ev.cs ⟨a, .slice s' b.length c', b⟩) rfl rfl hd9 ?_ (by unfold maxLen; omega) (by omega) ?_
      · intro u hu
        simp only [Ev.cs, List.mem_cons, List.not_mem_nil, or_false] at hu
        rcases hu with rfl | rfl | rfl | rfl | rfl | rfl | rfl | rfl | rfl <;> rfl
      intro vn V3 hr3 hf3 hst3 hfr3 hfl3
      obtain ⟨s3, cap3, rfl, _⟩ := hr3.form
      have hE3 := emit_grown hK HT.out hr3 hf3 (by have := hB.size; omega)
      have hbw := hK.ne_row hS (by decide)
      replace hS := lies_fr hS hf3 hbw
      refine hKK.out _ _ hS ?_
      have HF3 := Lib.hid ((Fr.of_below hB _).trans hf3)
      have HST := Lib.hid ((Stay.of_below (e := 66) (size := 9) (n := E.length) hB).trans hst3)
      have hszw := hB.size
      have HFR := Lib.hid (fun k hk => (hfr3 k hk).imp id (fun h => Nat.le_trans hszw h))
      have HFL := Lib.hid (fun s e => (Fr.of_below hB (fun _ => False)).trans (hfl3 s e))
      have HE := Lib.hid hE3
      have hlw := hS.lt
      clear hKK KK hK HT hB hd9 hr3 hf3 hst3 hfr3 hfl3 hE3 hszw hbw
      (try simp only [Act.put, List.setIfInBounds_toArray, List.set_cons_zero, List.set_cons_succ])
      repeat (first | (refine RP.t_take (v := ?_) rfl rfl (fun w' hw' => ?_) ?_; rotate_left; (focus ((have hAf := hw'; obtain ⟨a0, a1, a2, a3, a4, a5, a6, a7⟩ := lies_addr hAf); go_simp; (try go_bits); (try (with_reducible rfl)))); (try simp only [Act.put, List.setIfInBounds_toArray, List.set_cons_zero, List.set_cons_succ])) | (refine RP.t_skip rfl rfl ?_; (try simp only [Act.put, List.setIfInBounds_toArray, List.set_cons_zero, List.set_cons_succ])))
      refine RP.t_run rfl (fun KK hKK => ?_)
      have hc := HE.out.cell.cell 0
      have hfz := HE.out.cell.frozen 0
      have hbl := HE.out.cell.lt
      simp only [List.getElem?_toArray, List.getElem?_cons_zero] at hc
      go_simp
      have hne : W.heap.size ≠ bl := by omega
      refine hKK.out _ _ (hS.other hne _) ?_
      clear hKK KK hc hfz hS hlw
      refine RP.t_done ?_
      go_wp2_with fail
      go_ret
      exact ⟨_, _, rfl, HE.out.store, (HF3.out.mono (fun k _ hk => Or.inr hk)).trans ((Fr.setCell V3 _ _).mono (fun k _ hk => Or.inl hk)), HST.out.trans (Stay.other HE.out.cell (by decide) _), HFR.out, fun s e => ((HFL.out s e).mono (fun k _ hk => hk.elim)).trans (Fr.setCell V3 _ _)⟩
  · as_aux_lemma =>
      go_simp
      refine (bclone_any hV1 hn).mono ?_
      rintro ex V1 ⟨v', rfl, hT, hb2⟩
      obtain ⟨s', c', rfl⟩ := hT.form
      replace hS := hS.below hb2 hS.lt
      have HT := Lib.hid (hT.mono (own' := fun k => own k ∨ W.heap.size ≤ k) (fun k _ hk => Or.inr (Nat.le_trans hB.size hk)))
      replace hK := hK.later hb2
      replace hB := hB.trans (hb2.mono hB.size)
      refine hKK.out _ _ hS ?_
      clear hKK KK hb2 hV1 hT
      (try simp only [Act.put, List.setIfInBounds_toArray, List.set_cons_zero, List.set_cons_succ])
      refine RP.t_take (v := .agg (Ev.cs ⟨a, .slice s' b.length c', b⟩).toArray) rfl rfl (fun w' _ => exec_build a s' b.length c' b _ _ rfl rfl rfl w') ?_
      (try simp only [Act.put, List.setIfInBounds_toArray, List.set_cons_zero, List.set_cons_succ])
      refine RP.t_fork rfl rfl (fun KK hKK => ?_) (fun KK hKK => ?_)
      · as_aux_lemma =>
          have hc := hK.cell.cell 0
          simp only [List.getElem?_toArray, List.getElem?_cons_zero] at hc
          go_simp
          refine hKK.out _ _ hS ?_
          clear hKK KK hc
          (try simp only [Act.put, List.setIfInBounds_toArray, List.set_cons_zero, List.set_cons_succ])
          refine t_run1 rfl rfl (fun KK hKK => ?_)
          refine wp_bslice a s' b.length c' b _ rfl rfl ?_
          have hb9 : Below V1.heap.size V1 (V1.alloc (.cells (Ev.cs ⟨a, .slice s' b.length c', b⟩).toArray 66)) := (Below.refl _ _).alloc (Nat.le_refl _) _
          have hd9 : ∃ d, d = V1.heap.size ∧ ∀ j u, (Ev.cs ⟨a, .slice s' b.length c', b⟩)[j]? = some u → (V1.alloc (.cells (Ev.cs ⟨a, .slice s' b.length c', b⟩).toArray 66)).cell? ((⟨d, 0, none⟩ : Addr).add j) = some u := ⟨_, rfl, cells_new _ _ _⟩
          replace hS := hS.below hb9 hS.lt
          replace hK := hK.later hb9
          replace HT := Lib.hid (HT.out.kept (m := fun _ => False) (Fr.of_below hb9 _) (fun _ _ h => h))
          replace hB := hB.trans (hb9.mono hB.size)
          refine hKK.out _ _ hS ?_
          clear hKK KK hb9
          obtain ⟨d, hd, hd9⟩ := hd9
          rw [← hd]
          generalize V1.alloc (.cells (Ev.cs ⟨a, .slice s' b.length c', b⟩).toArray 66) = V2 at hS hK HT hB hd9 ⊢
          clear hd
          (try simp only [Act.put, List.setIfInBounds_toArray, List.set_cons_zero, List.set_cons_succ])
          refine t_run1 rfl rfl (fun KK hKK => ?_)
          refine wp_append_wrow _ _ 51 rfl i0 _ 9 32 Try.underlying51 hi hz0 hz1 hz2 rfl (by decide) hK.row rfl ⟨d, 0, none⟩ 1 (Ev.cs ⟨a, .slice s' b.length c', b⟩) rfl rfl hd9 ?_ (by unfold maxLen; omega) (by omega) ?_
          · intro u hu
            simp only [Ev.cs, List.mem_cons, List.not_mem_nil, or_false] at hu
            rcases hu with rfl | rfl | rfl | rfl | rfl | rfl | rfl | rfl | rfl <;> rfl
          intro vn V3 hr3 hf3 hst3 hfr3 hfl3
          obtain ⟨s3, cap3, rfl, _⟩ := hr3.form
          have hE3 := emit_grown hK HT.out hr3 hf3 (by have := hB.size; omega)
          have hbw := hK.ne_row hS (by decide)
          replace hS := lies_fr hS hf3 hbw
          refine hKK.out _ _ hS ?_
          have HF3 := Lib.hid ((Fr.of_below hB _).trans hf3)
          have HST := Lib.hid ((Stay.of_below (e := 66) (size := 9) (n := E.length) hB).trans hst3)
          have hszw := hB.size
          have HFR := Lib.hid (fun k hk => (hfr3 k hk).imp id (fun h => Nat.le_trans hszw h))
          have HFL := Lib.hid (fun s e => (Fr.of_below hB (fun _ => False)).trans (hfl3 s e))
          have HE := Lib.hid hE3
          have hlw := hS.lt
          clear hKK KK hK HT hB hd9 hr3 hf3 hst3 hfr3 hfl3 hE3 hszw hbw
          (try simp only [Act.put, List.setIfInBounds_toArray, List.set_cons_zero, List.set_cons_succ])
          repeat (first | (refine RP.t_take (v := ?_) rfl rfl (fun w' hw' => ?_) ?_; rotate_left; (focus ((have hAf := hw'; obtain ⟨a0, a1, a2, a3, a4, a5, a6, a7⟩ := lies_addr hAf); go_simp; (try go_bits); (try (with_reducible rfl)))); (try simp only [Act.put, List.setIfInBounds_toArray, List.set_cons_zero, List.set_cons_succ])) | (refine RP.t_skip rfl rfl ?_; (try simp only [Act.put, List.setIfInBounds_toArray, List.set_cons_zero, List.set_cons_succ])))
          refine RP.t_run rfl (fun KK hKK => ?_)
          have hc := HE.out.cell.cell 0
          have hfz := HE.out.cell.frozen 0
          have hbl := HE.out.cell.lt
          simp only [List.getElem?_toArray, List.getElem?_cons_zero] at hc
          go_simp
          have hne : W.heap.size ≠ bl := by omega
          refine hKK.out _ _ (hS.other hne _) ?_
          clear hKK KK hc hfz hS hlw
          refine RP.t_done ?_
          go_wp2_with fail
          go_ret
          exact ⟨_, _, rfl, HE.out.store, (HF3.out.mono (fun k _ hk => Or.inr hk)).trans ((Fr.setCell V3 _ _).mono (fun k _ hk => Or.inl hk)), HST.out.trans (Stay.other HE.out.cell (by decide) _), HFR.out, fun s e => ((HFL.out s e).mono (fun k _ hk => hk.elim)).trans (Fr.setCell V3 _ _)⟩
      · as_aux_lemma =>
          refine if_go rfl ?_
          refine wp_bslice a s' b.length c' b _ rfl rfl ?_
          have hb9 : Below V1.heap.size V1 (V1.alloc (.cells (Ev.cs ⟨a, .slice s' b.length c', b⟩).toArray 66)) := (Below.refl _ _).alloc (Nat.le_refl _) _
          have hd9 : ∃ d, d = V1.heap.size ∧ ∀ j u, (Ev.cs ⟨a, .slice s' b.length c', b⟩)[j]? = some u → (V1.alloc (.cells (Ev.cs ⟨a, .slice s' b.length c', b⟩).toArray 66)).cell? ((⟨d, 0, none⟩ : Addr).add j) = some u := ⟨_, rfl, cells_new _ _ _⟩
          replace hS := hS.below hb9 hS.lt
          replace hK := hK.later hb9
          replace HT := Lib.hid (HT.out.kept (m := fun _ => False) (Fr.of_below hb9 _) (fun _ _ h => h))
          replace hB := hB.trans (hb9.mono hB.size)
          refine hKK.out _ _ hS ?_
          clear hKK KK hb9
          obtain ⟨d, hd, hd9⟩ := hd9
          rw [← hd]
          generalize V1.alloc (.cells (Ev.cs ⟨a, .slice s' b.length c', b⟩).toArray 66) = V2 at hS hK HT hB hd9 ⊢
          clear hd
          (try simp only [Act.put, List.setIfInBounds_toArray, List.set_cons_zero, List.set_cons_succ])
          refine RP.t_run rfl (fun KK hKK => ?_)
          have hc := hK.cell.cell 0
          simp only [List.getElem?_toArray, List.getElem?_cons_zero] at hc
          go_simp
          refine hKK.out _ _ hS ?_
          clear hKK KK hc
          (try simp only [Act.put, List.setIfInBounds_toArray, List.set_cons_zero, List.set_cons_succ])
          refine t_run1 rfl rfl (fun KK hKK => ?_)
          refine wp_append_wrow _ _ 51 rfl i0 _ 9 32 Try.underlying51 hi hz0 hz1 hz2 rfl (by decide) hK.row rfl ⟨d, 0, none⟩ 1 (Ev.cs ⟨a, .slice s' b.length c', b⟩) rfl rfl hd9 ?_ (by unfold maxLen; omega) (by omega) ?_
          · intro u hu
            simp only [Ev.cs, List.mem_cons, List.not_mem_nil, or_false] at hu
            rcases hu with rfl | rfl | rfl | rfl | rfl | rfl | rfl | rfl | rfl <;> rfl
          intro vn V3 hr3 hf3 hst3 hfr3 hfl3
          obtain ⟨s3, cap3, rfl, _⟩ := hr3.form
          have hE3 := emit_grown hK HT.out hr3 hf3 (by have := hB.size; omega)
          have hbw := hK.ne_row hS (by decide)
          replace hS := lies_fr hS hf3 hbw
          refine hKK.out _ _ hS ?_
          have HF3 := Lib.hid ((Fr.of_below hB _).trans hf3)
          have HST := Lib.hid ((Stay.of_below (e := 66) (size := 9) (n := E.length) hB).trans hst3)
          have hszw := hB.size
          have HFR := Lib.hid (fun k hk => (hfr3 k hk).imp id (fun h => Nat.le_trans hszw h))
          have HFL := Lib.hid (fun s e => (Fr.of_below hB (fun _ => False)).trans (hfl3 s e))
          have HE := Lib.hid hE3
          have hlw := hS.lt
          clear hKK KK hK HT hB hd9 hr3 hf3 hst3 hfr3 hfl3 hE3 hszw hbw
          (try simp only [Act.put, List.setIfInBounds_toArray, List.set_cons_zero, List.set_cons_succ])
          repeat (first | (refine RP.t_take (v := ?_) rfl rfl (fun w' hw' => ?_) ?_; rotate_left; (focus ((have hAf := hw'; obtain ⟨a0, a1, a2, a3, a4, a5, a6, a7⟩ := lies_addr hAf); go_simp; (try go_bits); (try (with_reducible rfl)))); (try simp only [Act.put, List.setIfInBounds_toArray, List.set_cons_zero, List.set_cons_succ])) | (refine RP.t_skip rfl rfl ?_; (try simp only [Act.put, List.setIfInBounds_toArray, List.set_cons_zero, List.set_cons_succ])))
          refine RP.t_run rfl (fun KK hKK => ?_)
          have hc := HE.out.cell.cell 0
          have hfz := HE.out.cell.frozen 0
          have hbl := HE.out.cell.lt
          simp only [List.getElem?_toArray, List.getElem?_cons_zero] at hc
          go_simp
          have hne : W.heap.size ≠ bl := by omega
          refine hKK.out _ _ (hS.other hne _) ?_
          clear hKK KK hc hfz hS hlw
          refine RP.t_done ?_
          go_wp2_with fail
          go_ret
          exact ⟨_, _, rfl, HE.out.store, (HF3.out.mono (fun k _ hk => Or.inr hk)).trans ((Fr.setCell V3 _ _).mono (fun k _ hk => Or.inl hk)), HST.out.trans (Stay.other HE.out.cell (by decide) _), HFR.out, fun s e => ((HFL.out s e).mono (fun k _ hk => hk.elim)).trans (Fr.setCell V3 _ _)⟩
end Go.Proofs.Yteeghdkejnhjnaa.Bo

/- The walk of a book's Events. -/
namespace Go.Proofs.Yteeghdkejnhjnaa.Bo
open Go Go.RowKit Kt Ad

/-- What events say. -/
def said (E : List Ev) : List (A8 × List UInt8) := E.map fun x => (x.a, x.b)
/-- Events that were told: a row and bytes of one's own. -/
structure Told (W : World) (own : Nat → Prop) (v : Value) (E : List Ev) : Prop where
  row : WRow W own 66 9 v E.length (E.flatMap Ev.cs)
  evs : ∀ x ∈ E, Bts W own x.v x.b
theorem Told.nil (W : World) (own : Nat → Prop) : Told W own (.slice none 0 0) [] := ⟨WRow.nil _ _ _ _, by simp⟩
theorem Told.kept {W W' : World} {own m : Nat → Prop} {v : Value} {E : List Ev} (h : Told W own v E) (hf : Fr W W' m) (hn : ∀ k, own k → ¬ m k) : Told W' own v E := ⟨h.row.kept hf (fun k hk _ => hn k hk), fun x hx => (h.evs x hx).kept hf hn⟩
theorem Told.mono {W : World} {own own' : Nat → Prop} {v : Value} {E : List Ev} (h : Told W own v E) (ho : ∀ k, k < W.heap.size → own k → own' k) : Told W own' v E := ⟨h.row.mono ho, fun x hx => (h.evs x hx).mono ho⟩
theorem drop_flat : ∀ (k : Nat) (E : List Ev), (E.flatMap Ev.cs).drop (k * 9) = (E.drop k).flatMap Ev.cs
  | 0, E => by simp
  | k + 1, [] => by simp
  | k + 1, x :: r => by
    rw [List.flatMap_cons, List.drop_succ_cons, ← drop_flat k r, List.drop_append, List.drop_of_length_le (by rw [Ev.len]; omega), Ev.len, Nat.add_mul, Nat.one_mul, Nat.add_sub_cancel, List.nil_append]
theorem flat_set (D R : List Ev) (x : Ev) (v : Value) : ((D ++ x :: R).flatMap Ev.cs).set (D.length * 9 + 8) v = (D ++ ⟨x.a, v, x.b⟩ :: R).flatMap Ev.cs := by
  rw [List.flatMap_append, List.flatMap_append, List.flatMap_cons, List.flatMap_cons, List.set_append]
  rw [if_neg (by rw [length_flat Ev.len]; omega), length_flat Ev.len, Nat.add_sub_cancel_left]
  rfl
theorem row_set {W : World} {base : Nat} {e : TypeId} {size g cap n : Nat} {xs : List Value} (h : W.ownsRow base e size (.slice (some ⟨g, 0, none⟩) n cap) n xs) (j : Nat) (hj : j < n * size) (u : Value) : (W.setCell ⟨g, j, none⟩ u).ownsRow base e size (.slice (some ⟨g, 0, none⟩) n cap) n (xs.set j u) := by
  refine ⟨by rw [List.length_set]; exact h.1, ?_⟩
  rcases h.2 with ⟨h0, _⟩ | ⟨g', cap', cur, hv, hb, hg, h1, h2, h3, h4⟩
  · cases h0
  · cases hv
    refine .inr ⟨g, cap, cur.setIfInBounds j u, rfl, hb, ?_, h1, h2, by simpa using h3, ?_⟩
    · simp [World.setCell, Array.getElem?_modify, hg]
    · rw [Array.toList_setIfInBounds, ← h4]
      refine List.ext_getElem? fun i => ?_
      rw [List.getElem?_take, List.getElem?_set, List.getElem?_set, List.getElem?_take]
      by_cases hi : i < n * size
      · rw [if_pos hi, if_pos hi]
        by_cases hij : j = i
        · rw [if_pos hij, if_pos hij]
          have hle := Nat.mul_le_mul_right size h1
          subst hij
          rw [if_pos (by simp; omega), if_pos (by rw [List.length_take]; simp; omega)]
        · rw [if_neg hij, if_neg hij]
      · rw [if_neg hi, if_neg hi, if_neg (by omega)]
theorem row_frozen {W : World} {base : Nat} {e : TypeId} {size g cap n : Nat} {xs : List Value} (h : W.ownsRow base e size (.slice (some ⟨g, 0, none⟩) n cap) n xs) (j : Nat) : W.frozen? ⟨g, j, none⟩ = false := by
  rcases h.2 with ⟨h0, _⟩ | ⟨g', cap', cur, hv, hb, hg, _⟩
  · cases h0
  · cases hv
    simp [World.frozen?, hg]
theorem ev_cells {W : World} {base g cap n : Nat} {L : List Ev} (h : W.ownsRow base 66 9 (.slice (some ⟨g, 0, none⟩) n cap) n (L.flatMap Ev.cs)) {k : Nat} {x : Ev} (hk : L[k]? = some x) :
    W.cell? ⟨g, k * 9, none⟩ = some (.int .u8 x.a.x0.toNat) ∧ W.cell? ⟨g, k * 9 + 1, none⟩ = some (.int .u8 x.a.x1.toNat) ∧ W.cell? ⟨g, k * 9 + 2, none⟩ = some (.int .u8 x.a.x2.toNat) ∧ W.cell? ⟨g, k * 9 + 3, none⟩ = some (.int .u8 x.a.x3.toNat) ∧ W.cell? ⟨g, k * 9 + 4, none⟩ = some (.int .u8 x.a.x4.toNat) ∧ W.cell? ⟨g, k * 9 + 5, none⟩ = some (.int .u8 x.a.x5.toNat) ∧ W.cell? ⟨g, k * 9 + 6, none⟩ = some (.int .u8 x.a.x6.toNat) ∧ W.cell? ⟨g, k * 9 + 7, none⟩ = some (.int .u8 x.a.x7.toNat) ∧ W.cell? ⟨g, k * 9 + 8, none⟩ = some x.v :=
  ⟨row_cell Ev.len h hk (j := 0) (by omega), row_cell Ev.len h hk (j := 1) (by omega), row_cell Ev.len h hk (j := 2) (by omega), row_cell Ev.len h hk (j := 3) (by omega), row_cell Ev.len h hk (j := 4) (by omega), row_cell Ev.len h hk (j := 5) (by omega), row_cell Ev.len h hk (j := 6) (by omega), row_cell Ev.len h hk (j := 7) (by omega), row_cell Ev.len h hk (j := 8) (by omega)⟩

set_option maxRecDepth 100000 in
set_option maxHeartbeats 4000000 in
theorem events_out {W : World} {own : Nat → Prop} {bl bm : Nat} {vr : Value} {E : List Ev} {C : Cs} (h : Bk W own bl bm vr E C) (k : Int) (hk : k < 0 ∨ (E.length : Int) ≤ k) :
    Calls Try.prog 30 #[.pointer (some ⟨bl, 0, none⟩), .int .i64 k] W fun e w' => e = .returned (.slice none 0 0) ∧ w' = W := by
  have H := Lib.hid (len_any h)
  clear h
  by_cases h0 : k < 0
  · clear hk
    go_enter Try.func30, Try.ntmps30
    go_wp2_with fail
    go_ret
    exact ⟨rfl, rfl⟩
  · have hk' : (E.length : Int) ≤ k := by omega
    clear hk
    go_enter Try.func30, Try.ntmps30
    go_wp2_with (go_at_call 33; refine H.out.mono ?_; rintro ex w1 ⟨rfl, rfl⟩)
    go_ret
    exact ⟨rfl, rfl⟩

set_option maxRecDepth 100000 in
set_option maxHeartbeats 4000000 in
theorem events_in {W : World} {own : Nat → Prop} {bl bm : Nat} {vr : Value} {E : List Ev} {C : Cs} (h : Bk W own bl bm vr E C) (hN : E.length ≤ 1000000) (hB : ∀ x ∈ E, x.b.length ≤ 1000000) (k : Nat) (hk : k < E.length) :
    Calls Try.prog 30 #[.pointer (some ⟨bl, 0, none⟩), .int .i64 k] W fun e w' => ∃ v' E', e = .returned v' ∧ said E' = said (E.drop k) ∧ Told w' (fun i => W.heap.size ≤ i) v' E' ∧ Below W.heap.size W w' := by
  have HL := Lib.hid (len_any h)
  obtain ⟨s, cap, rfl, hle, hs⟩ := h.form
  obtain ⟨g, rfl, hgl⟩ := hs (by omega)
  have hc := h.cell.cell 0
  simp only [List.getElem?_toArray, List.getElem?_cons_zero] at hc
  have HR := Lib.hid h.row
  have HE := Lib.hid h.evs
  clear h
  have hec := eclone_any (W := W) (b := g) (off := k * 9) (n := E.length - k) (c := cap - k) (xs := (E.drop k).flatMap Ev.cs) (by rw [length_flat Ev.len, List.length_drop]) (by omega)
    (fun j u hj => HR.out.cell (by rw [← hj, show (E.drop k).flatMap Ev.cs = (E.flatMap Ev.cs).drop (k * 9) from (drop_flat k E).symm, List.getElem?_drop]))
    (ones_ev (fun x hx => by obtain ⟨s, c, e⟩ := (HE.out x (List.mem_of_mem_drop hx)).form; rw [e]; rfl))
  have HC := Lib.hid hec
  clear hec
  obtain ⟨F, hF⟩ : ∃ F, F = E.drop k := ⟨_, rfl⟩
  rw [← hF] at HC ⊢
  go_enter Try.func30, Try.ntmps30
  go_wp2_with (go_at_call 33; refine HL.out.mono ?_; rintro ex w1 ⟨rfl, rfl⟩)
  refine HC.out.mono ?_
  rintro ex w2 ⟨v', rfl, hrow, hb⟩
  have hlF : E.length - k = F.length := by rw [hF, List.length_drop]
  have HF := Lib.hid (show ∀ x ∈ F, Byt w1 x.v x.b ∧ x.b.length ≤ 1000000 from fun x hx => by
    have hx' : x ∈ E := List.mem_of_mem_drop (hF ▸ hx)
    exact ⟨(HE.out x hx').byt, hB x hx'⟩)
  rw [hlF] at hrow ⊢
  obtain ⟨go, co, rfl⟩ : ∃ go co, v' = .slice (some ⟨go, 0, none⟩) F.length co := by
    rcases hrow.2 with ⟨_, h0⟩ | ⟨go, co, _, rfl, _⟩
    · omega
    · exact ⟨go, co, rfl⟩
  have hnF : F.length ≤ 1000000 := by omega
  have hgo : w1.heap.size ≤ go := (hrow.lt go rfl).1
  have hgo2 : go < w2.heap.size := (hrow.lt go rfl).2
  have HROW := Lib.hid hrow
  have HB := Lib.hid hb
  clear hF hlF HC HL HR HE hc hgl hB hrow hb hle
  go_wp2_with fail
  go_loopw [24] (fun i wr => ∃ (j : Nat) (D : List Ev), j ≤ F.length ∧ i = .int .i64 j ∧ D.length = j ∧ said D = said (F.take j) ∧ wr.ownsRow w1.heap.size 66 9 (.slice (some ⟨go, 0, none⟩) F.length co) F.length ((D ++ F.drop j).flatMap Ev.cs) ∧ (∀ x ∈ D, Bts wr (fun i => w1.heap.size ≤ i) x.v x.b) ∧ Below w1.heap.size w1 wr ∧ w2.heap.size ≤ wr.heap.size)
    (fun i _ => F.length - (intOf i).toNat)
  case atStart => exact ⟨0, [], by omega, rfl, rfl, rfl, by simpa using HROW.out, by simp, HB.out, Nat.le_refl _⟩
  case round =>
    clear HROW HB
    obtain ⟨j, D, hj, rfl, hD, hs, hrow, hev, hb, hsz⟩ := hrel
    have HROW := Lib.hid hrow
    have HEV := Lib.hid hev
    have HB := Lib.hid hb
    have HSD := Lib.hid hs
    clear hs hrow hev hb
    by_cases hlt : j < F.length
    · obtain ⟨x, hx⟩ : ∃ x, F[j]? = some x := ⟨_, List.getElem?_eq_getElem hlt⟩
      have hd : F.drop j = x :: F.drop (j + 1) := by
        rw [List.drop_eq_getElem_cons hlt]
        congr 1
        rw [List.getElem?_eq_getElem hlt] at hx
        injection hx
      obtain ⟨hby0, hlb⟩ := HF.out x (List.mem_of_getElem? hx)
      have hby := hby0.later HB.out
      clear hby0
      have htk : F.take (j + 1) = F.take j ++ [x] := by rw [List.take_add_one, hx]; rfl
      have hcx : (D ++ F.drop j)[j]? = some x := by rw [List.getElem?_append_right (by omega), hd, hD, Nat.sub_self]; rfl
      obtain ⟨c0, c1, c2, c3, c4, c5, c6, c7, c8⟩ := ev_cells HROW.out hcx
      have HBY := Lib.hid hby
      obtain ⟨xa, xv, xb⟩ := x
      obtain ⟨sx, cx, hxv⟩ : ∃ sx cx, xv = .slice sx xb.length cx := by obtain ⟨s, c, e, _⟩ := hby; exact ⟨s, c, e⟩
      subst hxv
      have HCX := Lib.hid hcx
      clear hby hcx c0 c1 c2 c3 c4 c5 c6 c7
      go_wp2_with (go_at_call 65; refine (bclone_any HBY.out (by omega)).mono ?_; rintro ex w4 ⟨v4, rfl, hT, hb4⟩; obtain ⟨s4, c4, rfl⟩ := hT.form; have hb5 := (ownsRow_keep HROW.out hb4); have c9 := (ev_cells hb5 HCX.out).2.2.2.2.2.2.2.2; have c10 := row_frozen hb5 (j * 9 + 8); clear hb5)
      have hgo4 : go < w4.heap.size := by have := hb4.size; omega
      go_roundw
      case rel =>
        have hr5 := row_set (ownsRow_keep HROW.out hb4) (j * 9 + 8) (by omega) (.slice s4 xb.length c4)
        rw [hd] at hr5
        have e1 := flat_set D (F.drop (j + 1)) ⟨xa, .slice sx xb.length cx, xb⟩ (.slice s4 xb.length c4)
        rw [hD] at e1
        rw [e1] at hr5
        have hfs : Fr w4 (w4.setCell ⟨go, j * 9 + 8, none⟩ (.slice s4 xb.length c4)) (fun i => i = go) := Fr.setCell w4 _ _
        have hgl : Lies w4 go 66 _ := (wrow_lt (WRow.of_own (own := fun _ => True) (ownsRow_keep HROW.out hb4) (fun _ _ => trivial)) rfl).2.2.choose_spec
        have hty : ∀ i, i = go → ∀ cur, ¬ Lies w4 i 5 cur := fun i e cur hl => by subst e; exact absurd (lies_uniq hgl hl) (by decide)
        refine ⟨j + 1, D ++ [⟨xa, .slice s4 xb.length c4, xb⟩], by omega, by go_num, by simp [hD], ?_, by rw [List.append_assoc]; exact hr5, fun x hx => ?_, ?_, ?_⟩
        · rw [htk]
          have := HSD.out
          unfold said at this ⊢
          rw [List.map_append, List.map_append, this]
          rfl
        · rcases List.mem_append.1 hx with hx | hx
          · exact ((HEV.out x hx).kept (m := fun _ => False) (Fr.of_below hb4 _) (fun _ _ h => h)).kept_ty hfs hty
          · obtain rfl : x = ⟨xa, .slice s4 xb.length c4, xb⟩ := by simpa using hx
            exact (hT.mono (fun k _ hk => by have := HB.out.size; omega)).kept_ty hfs hty
        · exact (HB.out.trans (hb4.mono HB.out.size)).setCell hgo _
        · have := hb4.size
          simp only [World.setCell, Array.size_modify]
          omega
      case measure => simp [intOf]; omega
    · obtain rfl : j = F.length := by omega
      go_wp2_with fail
      go_ret
      have e1 : F.take F.length = F := List.take_length
      rw [List.drop_length, List.append_nil] at HROW
      rw [e1] at HSD
      refine ⟨.slice (some ⟨go, 0, none⟩) F.length co, D, rfl, HSD.out, ⟨?_, HEV.out⟩, HB.out⟩
      rw [hD]
      exact WRow.of_own HROW.out (fun _ h => h)

theorem events_any {W : World} {own : Nat → Prop} {bl bm : Nat} {vr : Value} {E : List Ev} {C : Cs} (h : Bk W own bl bm vr E C) (hN : E.length ≤ 1000000) (hB : ∀ x ∈ E, x.b.length ≤ 1000000) (k : Int) :
    Calls Try.prog 30 #[.pointer (some ⟨bl, 0, none⟩), .int .i64 k] W fun e w' => ∃ v' E', e = .returned v' ∧ said E' = (if k < 0 then [] else said (E.drop k.toNat)) ∧ Told w' (fun i => W.heap.size ≤ i) v' E' ∧ Below W.heap.size W w' := by
  by_cases h0 : k < 0 ∨ (E.length : Int) ≤ k
  · refine (events_out h k h0).mono ?_
    rintro e w' ⟨rfl, rfl⟩
    refine ⟨_, [], rfl, ?_, Told.nil _ _, Below.refl _ _⟩
    split
    · rfl
    · rw [List.drop_of_length_le (by omega)]
  · obtain ⟨n, rfl⟩ : ∃ n : Nat, k = n := ⟨k.toNat, by omega⟩
    refine (events_in h hN hB n (by omega)).mono ?_
    rintro e w' ⟨v', E', rfl, h1, h2, h3⟩
    refine ⟨v', E', rfl, ?_, h2, h3⟩
    rw [if_neg (by omega), h1, Int.toNat_natCast]
end Go.Proofs.Yteeghdkejnhjnaa.Bo

/- The walk of the document's SameEvents: two lists that are shown. -/
namespace Go.Proofs.Yteeghdkejnhjnaa.Bo
open Go Go.RowKit Kt Ad

def bst (b : List UInt8) : ByteArray := ⟨b.toArray⟩
theorem bst_beq (a b : List UInt8) : ((bst a).toList == (bst b).toList) = decide (a = b) := by
  rw [ByteArray.toList_eq, ByteArray.toList_eq]
  show (a == b) = _
  by_cases h : a = b
  · subst h; simp
  · simp [h]
set_option maxRecDepth 100000 in
theorem Byt.conv {W : World} {v : Value} {b : List UInt8} (h : Byt W v b) : (convert 25 9 v).run Try.prog W = .ok (.string (bst b)) W := by
  obtain ⟨s, cap, rfl, hb⟩ := h
  by_cases h0 : b = []
  · subst h0
    have hz : ∀ p : Option Addr, (convert 25 9 (.slice p 0 cap)).run Try.prog W = .ok (.string ByteArray.empty) W := fun p => by
      rw [run_convert_bytes_string W _ _ _ _ 0 cap Try.underlying25 Try.underlying5 Try.underlying9]
      cases p <;> simp [Conv.bytesToString, loadCells]
      all_goals rfl
    simp only [List.length_nil]
    rw [hz]
    rfl
  · obtain ⟨g, off, rfl, hg, hc⟩ := hb h0
    have := run_convert_bytes_arg (P := Try.prog) W _ _ Try.underlying25 Try.underlying5 g off b.length cap (b.map fun x => (x.toNat : Int)) (by simp) (fun i hi => by
      rw [hc i b[i] (List.getElem?_eq_getElem hi)]
      simp [List.getD, u8v, List.getElem?_eq_getElem hi]) _ Try.underlying9
    rw [this]
    congr 2
    unfold strOfNums bst
    congr 1
    rw [List.map_map, show b.map ((fun n : Int => UInt8.ofNat n.toNat) ∘ fun x : UInt8 => (x.toNat : Int)) = b.map id from List.map_congr_left fun x _ => by simp, List.map_id]

/-- A slice shows these events. -/
structure Shows (W : World) (v : Value) (E : List Ev) : Prop where
  row : ∃ s cap, v = .slice s E.length cap ∧ (E ≠ [] → ∃ g off, s = some ⟨g, off, none⟩ ∧ g < W.heap.size ∧ ∀ j u, (E.flatMap Ev.cs)[j]? = some u → W.cell? ⟨g, off + j, none⟩ = some u)
  evs : ∀ x ∈ E, Byt W x.v x.b
theorem WRow.shows {W : World} {own : Nat → Prop} {v : Value} {E : List Ev} (h : WRow W own 66 9 v E.length (E.flatMap Ev.cs)) (he : ∀ x ∈ E, Byt W x.v x.b) : Shows W v E := by
  refine ⟨?_, he⟩
  obtain ⟨s, cap, rfl, _, hs⟩ := h.form
  refine ⟨s, cap, rfl, fun hne => ?_⟩
  obtain ⟨g, rfl, hg⟩ := hs (by have := List.length_pos_iff.2 hne; omega)
  exact ⟨g, 0, rfl, hg, fun j u hj => by rw [Nat.zero_add]; exact h.cell hj⟩
theorem Told.shows {W : World} {own : Nat → Prop} {v : Value} {E : List Ev} (h : Told W own v E) : Shows W v E := WRow.shows h.row (fun x hx => (h.evs x hx).byt)
theorem Shows.later {W W' : World} {v : Value} {E : List Ev} (h : Shows W v E) (hb : Below W.heap.size W W') : Shows W' v E := by
  refine ⟨?_, fun x hx => (h.evs x hx).later hb⟩
  obtain ⟨s, cap, rfl, hs⟩ := h.row
  refine ⟨s, cap, rfl, fun hne => ?_⟩
  obtain ⟨g, off, rfl, hg, hc⟩ := hs hne
  exact ⟨g, off, rfl, Nat.lt_of_lt_of_le hg hb.size, fun j u hj => (hb.cell (p := ⟨g, off + j, none⟩) hg).trans (hc j u hj)⟩
/-- The cells of the i-th event that is shown. -/
def EvAt (W : World) (g o : Nat) (x : Ev) : Prop :=
  W.cell? ⟨g, o, none⟩ = some (.int .u8 x.a.x0.toNat) ∧ W.cell? ⟨g, o + 1, none⟩ = some (.int .u8 x.a.x1.toNat) ∧ W.cell? ⟨g, o + 2, none⟩ = some (.int .u8 x.a.x2.toNat) ∧ W.cell? ⟨g, o + 3, none⟩ = some (.int .u8 x.a.x3.toNat) ∧ W.cell? ⟨g, o + 4, none⟩ = some (.int .u8 x.a.x4.toNat) ∧ W.cell? ⟨g, o + 5, none⟩ = some (.int .u8 x.a.x5.toNat) ∧ W.cell? ⟨g, o + 6, none⟩ = some (.int .u8 x.a.x6.toNat) ∧ W.cell? ⟨g, o + 7, none⟩ = some (.int .u8 x.a.x7.toNat) ∧ W.cell? ⟨g, o + 8, none⟩ = some x.v
theorem shown_at {W : World} {g off : Nat} {E : List Ev} (h : ∀ j u, (E.flatMap Ev.cs)[j]? = some u → W.cell? ⟨g, off + j, none⟩ = some u) {k : Nat} {x : Ev} (hk : E[k]? = some x) : EvAt W g (off + k * 9) x := by
  have c : ∀ j, j < 9 → W.cell? ⟨g, off + k * 9 + j, none⟩ = x.cs[j]? := fun j hj => by
    have e := getElem?_flat Ev.len hk hj
    obtain ⟨u, hu⟩ : ∃ u, x.cs[j]? = some u := ⟨_, List.getElem?_eq_getElem (by rw [Ev.len]; exact hj)⟩
    rw [hu] at e ⊢
    rw [Nat.add_assoc]
    exact h _ _ e
  exact ⟨c 0 (by omega), c 1 (by omega), c 2 (by omega), c 3 (by omega), c 4 (by omega), c 5 (by omega), c 6 (by omega), c 7 (by omega), c 8 (by omega)⟩
theorem said_take {A B : List Ev} {i : Nat} {x y : Ev} (hx : A[i]? = some x) (hy : B[i]? = some y) (h : said (A.take i) = said (B.take i)) : said (A.take (i + 1)) = said (B.take (i + 1)) ↔ x.a = y.a ∧ x.b = y.b := by
  have e1 : A.take (i + 1) = A.take i ++ [x] := by rw [List.take_add_one, hx]; rfl
  have e2 : B.take (i + 1) = B.take i ++ [y] := by rw [List.take_add_one, hy]; rfl
  rw [e1, e2]
  unfold said at *
  rw [List.map_append, List.map_append, h]
  simp
theorem said_of_take {A B : List Ev} (i : Nat) (h : said A = said B) : said (A.take i) = said (B.take i) := by
  unfold said at *
  rw [List.map_take, List.map_take, h]

set_option maxRecDepth 100000 in
set_option maxHeartbeats 4000000 in
theorem same_any {W : World} {va vb : Value} {A B : List Ev} (ha : Shows W va A) (hb : Shows W vb B) (hN : A.length ≤ 1000000000) :
    Calls Try.prog 34 #[va, vb] W fun e w' => e = .returned (.bool (decide (said A = said B))) ∧ Below W.heap.size W w' := by
  obtain ⟨sa, ca, rfl, hsa⟩ := ha.row
  obtain ⟨sb, cb, rfl, hsb⟩ := hb.row
  have HA := Lib.hid ha
  have HB := Lib.hid hb
  have HSA := Lib.hid hsa
  have HSB := Lib.hid hsb
  clear ha hb hsa hsb
  have hle : said A = said B → A.length = B.length := fun h => by have := congrArg List.length h; simpa [said] using this
  have HLE := Lib.hid hle
  clear hle
  obtain ⟨R, hR⟩ : ∃ R, decide (said A = said B) = R := ⟨_, rfl⟩
  rw [hR]
  have HR := Lib.hid hR
  clear hR
  go_enter Try.func34, Try.ntmps34
  go_wp2_with fail
  go_loopw [5, 6] (fun o i wr => ∃ (k : Nat) (ob : Bool), k ≤ A.length ∧ o = .bool ob ∧ i = .int .i64 k ∧ (ob = true ↔ (A.length = B.length ∧ said (A.take k) = said (B.take k))) ∧ Below W.heap.size W wr)
    (fun _ i _ => A.length - (intOf i).toNat)
  case atStart => exact ⟨0, _, by omega, rfl, rfl, by simp [said]; omega, Below.refl _ _⟩
  case round =>
    obtain ⟨k, ob, hk, rfl, rfl, ho, hb⟩ := hrel
    have HO := Lib.hid ho
    have HW := Lib.hid hb
    clear ho hb
    by_cases hlt : k < A.length
    · cases ob with
      | false =>
        have hne : said A ≠ said B := fun e => by
          have := HO.out.2 ⟨HLE.out e, said_of_take k e⟩
          cases this
        obtain rfl : R = false := by rw [← HR.out]; exact decide_eq_false hne
        clear hne
        go_wp2_with fail
        go_ret
        exact ⟨rfl, HW.out⟩
      | true =>
        obtain ⟨hlen, htk⟩ := HO.out.1 rfl
        obtain ⟨x, hx⟩ : ∃ x, A[k]? = some x := ⟨_, List.getElem?_eq_getElem hlt⟩
        obtain ⟨y, hy⟩ : ∃ y, B[k]? = some y := ⟨_, List.getElem?_eq_getElem (by omega)⟩
        obtain ⟨ga, oa, rfl, hga, hca⟩ := HSA.out (by intro e; simp [e] at hlt)
        obtain ⟨gb, pb, rfl, hgb, hcb⟩ := HSB.out (by intro e; rw [e, List.length_nil] at hlen; omega)
        have hax := shown_at hca hx
        have hby := shown_at hcb hy
        have hst := said_take hx hy htk
        have HX := Lib.hid ((HA.out.evs x (List.mem_of_getElem? hx)).later HW.out)
        have HY := Lib.hid ((HB.out.evs y (List.mem_of_getElem? hy)).later HW.out)
        have HAX := Lib.hid (show EvAt wr ga (oa + k * 9) x from by
          unfold EvAt at hax ⊢
          obtain ⟨h0, h1, h2, h3, h4, h5, h6, h7, h8⟩ := hax
          exact ⟨(HW.out.cell hga).trans h0, (HW.out.cell hga).trans h1, (HW.out.cell hga).trans h2, (HW.out.cell hga).trans h3, (HW.out.cell hga).trans h4, (HW.out.cell hga).trans h5, (HW.out.cell hga).trans h6, (HW.out.cell hga).trans h7, (HW.out.cell hga).trans h8⟩)
        have HBY := Lib.hid (show EvAt wr gb (pb + k * 9) y from by
          unfold EvAt at hby ⊢
          obtain ⟨h0, h1, h2, h3, h4, h5, h6, h7, h8⟩ := hby
          exact ⟨(HW.out.cell hgb).trans h0, (HW.out.cell hgb).trans h1, (HW.out.cell hgb).trans h2, (HW.out.cell hgb).trans h3, (HW.out.cell hgb).trans h4, (HW.out.cell hgb).trans h5, (HW.out.cell hgb).trans h6, (HW.out.cell hgb).trans h7, (HW.out.cell hgb).trans h8⟩)
        obtain ⟨ax, vx, bx⟩ := x
        obtain ⟨ay, vy, byy⟩ := y
        obtain ⟨sx, cx, hvx⟩ : ∃ sx cx, vx = .slice sx bx.length cx := by obtain ⟨s, c, e, _⟩ := HX.out; exact ⟨s, c, e⟩
        obtain ⟨sy, cy, hvy⟩ : ∃ sy cy, vy = .slice sy byy.length cy := by obtain ⟨s, c, e, _⟩ := HY.out; exact ⟨s, c, e⟩
        subst hvx
        subst hvy
        have HST := Lib.hid hst
        clear hax hby hca hcb hga hgb hx hy htk hst
        have hlB : k < B.length := by omega
        have HLEN := Lib.hid hlen
        clear hlen
        by_cases hxy : ax = ay
        · as_aux_lemma =>
            subst hxy
            go_wp2_with fail
            refine RP.region (RP.take 0 (RP.take 1 (RP.take 2 (RP.take 3 (RP.take 4 (RP.take 5 (RP.take 6 (RP.take 7 (RP.take 8 (RP.take 9 (RP.take 10 (RP.take 11 (RP.take 12 (RP.take 13 (RP.take 14 (RP.take 15 (RP.take 16 (RP.take 17 (RP.take 18 (RP.take 19 (RP.take 20 (RP.take 21 (RP.take 22 (RP.take 23 (RP.take 24 (RP.take 25 (RP.take 26 RP.done))))))))))))))))))))))))))) (fun w' => EvAt w' ga (oa + k * 9) ⟨ax, .slice sx bx.length cx, bx⟩ ∧ EvAt w' gb (pb + k * 9) ⟨ax, .slice sy byy.length cy, byy⟩ ∧ Byt w' (.slice sx bx.length cx) bx ∧ Byt w' (.slice sy byy.length cy) byy) (by as_aux_lemma => kernel_rfl) (by as_aux_lemma => kernel_rfl) (fun _ _ d _ _ h => by cases d <;> exact h) ⟨HAX.out, HBY.out, HX.out, HY.out⟩ (fun hS => ?_)
            clear hS
            repeat (first | (refine RP.t_take (v := ?_) rfl rfl (fun w' hw' => ?_) ?_; rotate_left; (focus ((obtain ⟨hxr, hyr, hxb, hyb⟩ := hw'; obtain ⟨c0, c1, c2, c3, c4, c5, c6, c7, c8⟩ := hxr; obtain ⟨d0, d1, d2, d3, d4, d5, d6, d7, d8⟩ := hyr; have kx := hxb.conv; have ky := hyb.conv); go_simp; (try go_bits); (try (with_reducible rfl)))); (try simp only [Act.put, List.setIfInBounds_toArray, List.set_cons_zero, List.set_cons_succ])) | (refine RP.t_skip rfl rfl ?_; (try simp only [Act.put, List.setIfInBounds_toArray, List.set_cons_zero, List.set_cons_succ])))
            refine RP.t_done ?_
            simp only [bst_beq]
            go_wp2_with fail
            go_roundw
            case rel => exact ⟨k + 1, decide (bx = byy), by omega, rfl, by go_num, by rw [HST.out]; simp [HLEN.out], HW.out.drew⟩
            case measure => simp [intOf]; omega
        · as_aux_lemma =>
            go_wp2_with fail
            refine RP.region (RP.take 0 (RP.take 1 (RP.take 2 (RP.take 3 (RP.take 4 (RP.take 5 (RP.take 6 (RP.take 7 (RP.take 8 (RP.take 9 (RP.take 10 (RP.take 11 (RP.take 12 (RP.take 13 (RP.take 14 (RP.take 15 (RP.take 16 (RP.take 17 (RP.take 18 (RP.take 19 (RP.take 20 (RP.take 21 (RP.take 22 (RP.take 23 (RP.take 24 (RP.take 25 (RP.take 26 RP.done))))))))))))))))))))))))))) (fun w' => EvAt w' ga (oa + k * 9) ⟨ax, .slice sx bx.length cx, bx⟩ ∧ EvAt w' gb (pb + k * 9) ⟨ay, .slice sy byy.length cy, byy⟩ ∧ Byt w' (.slice sx bx.length cx) bx ∧ Byt w' (.slice sy byy.length cy) byy) (by as_aux_lemma => kernel_rfl) (by as_aux_lemma => kernel_rfl) (fun _ _ d _ _ h => by cases d <;> exact h) ⟨HAX.out, HBY.out, HX.out, HY.out⟩ (fun hS => ?_)
            clear hS
            repeat (first | (refine RP.t_take (v := ?_) rfl rfl (fun w' hw' => ?_) ?_; rotate_left; (focus ((obtain ⟨hxr, hyr, hxb, hyb⟩ := hw'; obtain ⟨c0, c1, c2, c3, c4, c5, c6, c7, c8⟩ := hxr; obtain ⟨d0, d1, d2, d3, d4, d5, d6, d7, d8⟩ := hyr; have kx := hxb.conv; have ky := hyb.conv); go_simp; (try go_bits); (try (with_reducible rfl)))); (try simp only [Act.put, List.setIfInBounds_toArray, List.set_cons_zero, List.set_cons_succ])) | (refine RP.t_skip rfl rfl ?_; (try simp only [Act.put, List.setIfInBounds_toArray, List.set_cons_zero, List.set_cons_succ])))
            refine RP.t_done ?_
            go_wp2_with fail
            go_roundw
            case rel => exact ⟨k + 1, false, by omega, rfl, by go_num, by rw [HST.out]; simp [hxy], HW.out.drew⟩
            case measure => simp [intOf]; omega
    · obtain rfl : k = A.length := by omega
      obtain rfl : R = ob := by
        rw [← HR.out]
        have h1 := HO.out
        rw [List.take_length] at h1
        by_cases e : said A = said B
        · have hl := HLE.out e
          rw [decide_eq_true e, eq_comm, h1]
          exact ⟨hl, by rw [hl, List.take_length]; exact e⟩
        · rw [decide_eq_false e, eq_comm, ← Bool.not_eq_true]
          intro h2
          obtain ⟨hl, h3⟩ := h1.1 h2
          rw [hl, List.take_length] at h3
          exact e h3
      go_wp2_with fail
      go_ret
      exact ⟨rfl, HW.out⟩
end Go.Proofs.Yteeghdkejnhjnaa.Bo
