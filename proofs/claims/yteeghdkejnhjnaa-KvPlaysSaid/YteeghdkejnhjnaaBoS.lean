/- The walks of a book's SetCode, Code, Coded, Cut. -/
import Derived.Test.YteeghdkejnhjnaaBoB
import Derived.Test.YteeghdkejnhjnaaKsB
import Derived.Test.YteeghdkejnhjnaaCmB
import Derived.Test.YteeghdkejnhjnaaAcD
namespace Go.Proofs.Yteeghdkejnhjnaa.Bo
open Go Go.RowKit Kt Ad

theorem take_flat : ∀ (k : Nat) (E : List Ev), (E.flatMap Ev.cs).take (k * 9) = (E.take k).flatMap Ev.cs
  | 0, E => by simp
  | k + 1, [] => by simp
  | k + 1, x :: r => by
    rw [List.flatMap_cons, List.take_succ_cons, List.flatMap_cons, ← take_flat k r, List.take_append, List.take_of_length_le (by rw [Ev.len]; omega), Ev.len, Nat.add_mul, Nat.one_mul, Nat.add_sub_cancel]
theorem strike_kvc (C : Cs) (a : A8) : strike (C.map kvc) a = (Al.del a C).map kvc := by
  unfold strike Al.del
  rw [List.filter_map]
  rfl
theorem valAt_kvc (C : Cs) (a : A8) : valAt (C.map kvc) a = (Al.find C a).map (·.1) := by
  unfold valAt Al.find
  rw [List.find?_map, Option.map_map, Option.map_map]
  rfl
theorem zeroBytes (w : World) : (zeroValue 25).run Try.prog w = .ok (.slice none 0 0) w := by kernel_rfl
section
variable {W W' : World} {own : Nat → Prop} {bl bm : Nat} {vr : Value} {E : List Ev} {C : Cs}
/-- Only the map has changed. -/
theorem Bk.mapped (h : Bk W own bl bm vr E C) {C' : Cs} (hf : Fr W W' (fun k => k = bm)) (hm : IsMap A8.v W' bm (C'.map kvc)) (hc : ∀ c ∈ C', Bts W' own c.2.1 c.2.2 ∧ c.2.2 ≠ []) (hr : Al.Rise C') : Bk W' own bl bm vr E C' :=
  ⟨lies_fr h.cell hf h.ne, h.row.kept hf (fun k _ hk e => h.map_ne_row (by rw [← e]; exact hk)), fun x hx => (h.evs x hx).kept_ty hf (fun k e cur hl => by
    subst e
    obtain ⟨es, c, h1, _⟩ := h.map.block
    have := hl.symm.trans h1
    cases this), hm, hc, hr, h.obl, h.obm⟩
theorem Bk.bts_map (h : Bk W own bl bm vr E C) {v : Value} {b : List UInt8} (hb : Bts W own v b) (hf : Fr W W' (fun k => k = bm)) : Bts W' own v b :=
  hb.kept_ty hf (fun k e cur hl => by
    subst e
    obtain ⟨es, c, h1, _⟩ := h.map.block
    have := hl.symm.trans h1
    cases this)
end
theorem wp_mapset {α : Type} [DecidableEq α] {P : Program} {k t e : TypeId} {ek : α → Value} {w : World} {b : Nat} {L : List (α × Value)} {o : Oper} {a : Act} {K : Act → World → Prop} {Q : Exit → Act → World → Prop}
    (E : KeyEnc P k ek) (ht : P.underlying t = some (.map k e)) (h : IsMap ek w b L) (x : α) (m kx vx : Operand) (hop : o.op = Op.mapUpdate t m kx vx)
    (hm : a.eval m = .map (some b)) (hk : a.eval kx = ek x) (v : Value) (hv : a.eval vx = v)
    (hK : ∀ w', IsMap ek w' b (putAt L x v) → w.grownBy w' (some b) → w'.heap.size = w.heap.size → K (a.put o.dst undef) w') : Oper.wp P o a w K Q := by
  obtain ⟨w', hrun, r1, r2, r3⟩ := h.store E ht x v
  unfold Oper.wp
  simp [execOp, hop, hm, hk, hv, hrun, Result.andThen]
  exact hK w' r1 r2 r3

set_option maxRecDepth 100000 in
set_option maxHeartbeats 2000000 in
theorem setcode_del {W : World} {own : Nat → Prop} {bl bm : Nat} {vr : Value} {E : List Ev} {C : Cs} (h : Bk W own bl bm vr E C) (a : A8) (s0 : Option Addr) (c0 : Nat) :
    Calls Try.prog 27 #[.pointer (some ⟨bl, 0, none⟩), a.v, .slice s0 0 c0] W fun e w' => e = .returned (.int .i64 0) ∧ Bk w' own bl bm vr E (Al.del a C) ∧ Fr W w' (fun k => k = bm) := by
  have hc := h.cell.cell 0
  have hc1 := h.cell.cell 1
  simp only [List.getElem?_toArray, List.getElem?_cons_zero, List.getElem?_cons_succ] at hc hc1
  have hlt := h.cell.lt
  simp only [A8.v]
  go_enter Try.func27, Try.ntmps27
  go_wp2_with fail
  obtain ⟨W1, hW1⟩ : ∃ W1, W1 = W.alloc (.cells a.cs.toArray 24) := ⟨_, rfl⟩
  have hA1 : Lies W1 W.heap.size 24 a.cs.toArray := hW1 ▸ Lies.new W _ _
  have hB1 : Below W.heap.size W W1 := hW1 ▸ (Below.refl _ _).alloc (Nat.le_refl _) _
  have hK1 := h.later hB1
  rw [show W.alloc (.cells #[.int .u8 a.x0.toNat, .int .u8 a.x1.toNat, .int .u8 a.x2.toNat, .int .u8 a.x3.toNat, .int .u8 a.x4.toNat, .int .u8 a.x5.toNat, .int .u8 a.x6.toNat, .int .u8 a.x7.toNat] 24) = W1 from hW1.symm]
  clear hW1
  refine wp_region_tail 5 (by kernel_rfl) (by kernel_rfl) (fun V hV => ?_)
  have hA : Lies V W.heap.size 24 a.cs.toArray := by rw [hV]; exact hA1.drew
  have hK : Bk V own bl bm vr E C := by rw [hV]; exact hK1.drew
  have hB : Below W.heap.size W V := by rw [hV]; exact hB1.drew
  obtain ⟨a0, a1, a2, a3, a4, a5, a6, a7⟩ := lies_addr hA
  have hc := hK.cell.cell 0
  have hc1 := hK.cell.cell 1
  simp only [List.getElem?_toArray, List.getElem?_cons_zero, List.getElem?_cons_succ] at hc hc1
  clear hV hA1 hK1 hB1
  repeat still_step
  refine wpStill_nil ?_
  refine wpl_del encAddr Try.underlying110 hK.map a _ _ rfl rfl rfl rfl ?_
  intro w' m1 g1 s1
  rw [strike_kvc] at m1
  have hf : Fr V w' (fun k => k = bm) := (Fr.of_grown g1).mono (fun k _ e => by injection e)
  have hR : Bk w' own bl bm vr E (Al.del a C) := hK.mapped hf m1 (fun c hc => ⟨hK.bts_map (hK.codes c (Al.mem_del.1 hc).1).1 hf, (hK.codes c (Al.mem_del.1 hc).1).2⟩) (hK.rise.del a)
  have hF : Fr W w' (fun k => k = bm) := (Fr.of_below hB _).trans hf
  clear m1 g1 s1 hf h hK hA hB a0 a1 a2 a3 a4 a5 a6 a7 hc hc1 hlt
  go_wp2
  go_ret
  exact ⟨rfl, hR, hF⟩

set_option maxRecDepth 100000 in
set_option maxHeartbeats 2000000 in
theorem setcode_put {W : World} {own : Nat → Prop} {bl bm : Nat} {vr : Value} {E : List Ev} {C : Cs} (h : Bk W own bl bm vr E C) (a : A8) {v : Value} {b : List UInt8} (hv : Byt W v b) (hb : b ≠ []) (hn : b.length ≤ 1000000000) :
    Calls Try.prog 27 #[.pointer (some ⟨bl, 0, none⟩), a.v, v] W fun e w' => ∃ v', e = .returned (.int .i64 0) ∧ Bk w' (fun k => own k ∨ W.heap.size ≤ k) bl bm vr E (Al.ins (a, (v', b)) C) ∧ Fr W w' (fun k => k = bm) := by
  have hc := h.cell.cell 0
  have hc1 := h.cell.cell 1
  simp only [List.getElem?_toArray, List.getElem?_cons_zero, List.getElem?_cons_succ] at hc hc1
  have hlt := h.cell.lt
  have HV := Lib.hid hv
  obtain ⟨s0, c0, rfl, _⟩ := hv
  have hpos : 0 < b.length := List.length_pos_iff.2 hb
  simp only [A8.v]
  go_enter Try.func27, Try.ntmps27
  go_wp2_with fail
  obtain ⟨W1, hW1⟩ : ∃ W1, W1 = W.alloc (.cells a.cs.toArray 24) := ⟨_, rfl⟩
  have hA1 : Lies W1 W.heap.size 24 a.cs.toArray := hW1 ▸ Lies.new W _ _
  have hB1 : Below W.heap.size W W1 := hW1 ▸ (Below.refl _ _).alloc (Nat.le_refl _) _
  have hK1 := h.later hB1
  rw [show W.alloc (.cells #[.int .u8 a.x0.toNat, .int .u8 a.x1.toNat, .int .u8 a.x2.toNat, .int .u8 a.x3.toNat, .int .u8 a.x4.toNat, .int .u8 a.x5.toNat, .int .u8 a.x6.toNat, .int .u8 a.x7.toNat] 24) = W1 from hW1.symm]
  clear hW1
  refine RP.region (RP.take 0 (RP.take 1 (RP.take 2 (RP.take 3 (RP.take 4 (RP.take 5 (RP.run 6 (RP.run 7 RP.done)))))))) (fun w' => Lies w' bl 112 #[vr, .map (some bm)] ∧ Lies w' W.heap.size 24 a.cs.toArray) (by as_aux_lemma => kernel_rfl) (by as_aux_lemma => kernel_rfl) (fun _ _ d _ _ h => by cases d <;> exact h) ⟨hK1.cell.drew, hA1.drew⟩ (fun hS => ?_)
  have hK := hK1.drew
  have hB := hB1.drew
  have hV1 : Byt W1.drew (.slice s0 b.length c0) b := HV.out.later hB
  generalize W1.drew = V at hS hK hB hV1 ⊢
  clear hA1 hK1 hB1
  repeat (first | (refine RP.t_take (v := ?_) rfl rfl (fun w' hw' => ?_) ?_; rotate_left; (focus ((obtain ⟨hCf, hAf⟩ := hw'; obtain ⟨a0, a1, a2, a3, a4, a5, a6, a7⟩ := lies_addr hAf; have hc := hCf.cell 0; have hc1 := hCf.cell 1; simp only [List.getElem?_toArray, List.getElem?_cons_zero, List.getElem?_cons_succ] at hc hc1); go_simp; (try go_bits); (try (with_reducible rfl)))); (try simp only [Act.put, List.setIfInBounds_toArray, List.set_cons_zero, List.set_cons_succ])) | (refine RP.t_skip rfl rfl ?_; (try simp only [Act.put, List.setIfInBounds_toArray, List.set_cons_zero, List.set_cons_succ])))
  refine RP.t_run rfl (fun K hKK => ?_)
  go_simp
  refine (bclone_any hV1 hn).mono ?_
  rintro ex V1 ⟨v', rfl, hT, hb2⟩
  replace hS := And.intro (hS.1.below hb2 hS.1.lt) (hS.2.below hb2 hS.2.lt)
  have hsz : W.heap.size ≤ V.heap.size := hB.size
  replace hK := hK.later hb2
  replace hB := hB.trans (hb2.mono hB.size)
  refine hKK.out _ _ hS ?_
  clear hKK K hb2 hV1
  (try simp only [Act.put, List.setIfInBounds_toArray, List.set_cons_zero, List.set_cons_succ])
  refine t_run1 rfl rfl (fun K hKK => ?_)
  refine wp_mapset encAddr Try.underlying110 hK.map a _ _ _ rfl rfl rfl v' rfl ?_
  intro w' m1 g1 s1
  have hf : Fr V1 w' (fun k => k = bm) := (Fr.of_grown g1).mono (fun k _ e => by injection e)
  have hbm : ¬ bl = bm := hK.ne
  have hbx : ¬ W.heap.size = bm := by have := h.map.lt; omega
  have hT' : Bts V1 (fun k => own k ∨ W.heap.size ≤ k) v' b := hT.mono (fun k _ hk => Or.inr (Nat.le_trans hsz hk))
  have hK' := hK.mono (own' := fun k => own k ∨ W.heap.size ≤ k) (fun k _ hk => Or.inl hk)
  have hR : Bk w' (fun k => own k ∨ W.heap.size ≤ k) bl bm vr E (Al.ins (a, (v', b)) C) := by
    refine hK'.mapped hf (m1.perm ?_) (fun c hc => ?_) (hK'.rise.ins _)
    · unfold putAt
      rw [strike_kvc]
      exact ((Al.perm_ins (a, (v', b)) C).map kvc).symm
    · rcases Al.mem_ins.1 hc with ⟨hc, _⟩ | rfl
      · exact ⟨hK'.bts_map (hK'.codes c hc).1 hf, (hK'.codes c hc).2⟩
      · exact ⟨hK'.bts_map hT' hf, hb⟩
  refine hKK.out _ _ ⟨lies_fr hS.1 hf hbm, lies_fr hS.2 hf hbx⟩ ?_
  have hF : Fr W w' (fun k => k = bm) := ((Fr.of_below hB _)).trans hf
  clear hKK K m1 g1 s1 hf h hK hK' hT hT' hS hB hc hc1 hlt HV
  simp only [Act.put]
  refine RP.t_done ?_
  go_wp2_with fail
  go_ret
  exact ⟨v', rfl, hR, hF⟩

set_option maxRecDepth 100000 in
set_option maxHeartbeats 2000000 in
theorem code_any {W : World} {own : Nat → Prop} {bl bm : Nat} {vr : Value} {E : List Ev} {C : Cs} (h : Bk W own bl bm vr E C) (a : A8) (hN : ∀ c ∈ C, c.2.2.length ≤ 1000000000) :
    Calls Try.prog 31 #[.pointer (some ⟨bl, 0, none⟩), a.v] W fun e w' => ∃ v', e = .returned (.tuple #[v', .bool (Al.find C a).isSome]) ∧ Bts w' (fun k => W.heap.size ≤ k) v' (((Al.find C a).map (·.2)).getD []) ∧ Below W.heap.size W w' := by
  obtain ⟨v1, b1, i1, hk, hby, hbn, hi⟩ : ∃ (v1 : Value) (b1 : List UInt8) (i1 : Bool), (∀ w' : World, Bk w' own bl bm vr E C → (Instr.lookup 110 (.map (some bm)) a.v true).run Try.prog w' = .ok (.tuple #[v1, .bool i1]) w') ∧ Bts W own v1 b1 ∧ b1.length ≤ 1000000000 ∧ (Al.find C a).isSome = i1 ∧ ((Al.find C a).map (·.2)).getD [] = b1 := by
    have hlk := fun w' (h' : Bk w' own bl bm vr E C) => h'.map.look encAddr Try.underlying110 true (zeroBytes w') a
    simp only [valAt_kvc] at hlk
    rcases Al.find_cases C a with ⟨x, hx, e⟩ | ⟨_, e⟩
    · rw [e] at hlk ⊢
      exact ⟨x.1, x.2, true, hlk, (h.codes _ hx).1, hN _ hx, rfl, rfl⟩
    · rw [e] at hlk ⊢
      exact ⟨.slice none 0 0, [], false, hlk, ⟨World.ownsRow_nil _ _ _ _, fun g e => by cases e⟩, by simp, rfl, rfl⟩
  rw [hi.1, hi.2]
  clear hi
  obtain ⟨s1, c1, rfl⟩ := hby.form
  have hc := h.cell.cell 0
  have hc1 := h.cell.cell 1
  simp only [List.getElem?_toArray, List.getElem?_cons_zero, List.getElem?_cons_succ] at hc hc1
  have hlt := h.cell.lt
  simp only [A8.v] at hk ⊢
  have HK := Lib.hid hk
  have HBY := Lib.hid hby.byt
  clear hk hby
  go_enter Try.func31, Try.ntmps31
  go_wp2_with fail
  obtain ⟨W1, hW1⟩ : ∃ W1, W1 = W.alloc (.cells a.cs.toArray 24) := ⟨_, rfl⟩
  have hA1 : Lies W1 W.heap.size 24 a.cs.toArray := hW1 ▸ Lies.new W _ _
  have hB1 : Below W.heap.size W W1 := hW1 ▸ (Below.refl _ _).alloc (Nat.le_refl _) _
  have hK1 := h.later hB1
  rw [show W.alloc (.cells #[.int .u8 a.x0.toNat, .int .u8 a.x1.toNat, .int .u8 a.x2.toNat, .int .u8 a.x3.toNat, .int .u8 a.x4.toNat, .int .u8 a.x5.toNat, .int .u8 a.x6.toNat, .int .u8 a.x7.toNat] 24) = W1 from hW1.symm]
  clear hW1
  refine RP.region (RP.take 0 (RP.take 1 (RP.take 2 (RP.take 3 (RP.take 4 (RP.take 5 (RP.take 6 (RP.take 7 (RP.take 8 (RP.take 9 (RP.take 10 RP.done))))))))))) (fun w' => Bk w' own bl bm vr E C ∧ Lies w' W.heap.size 24 a.cs.toArray) (by as_aux_lemma => kernel_rfl) (by as_aux_lemma => kernel_rfl) (fun _ _ d _ _ h => by cases d <;> exact h) ⟨hK1.drew, hA1.drew⟩ (fun hS => ?_)
  have hB := hB1.drew
  generalize W1.drew = V at hS hB ⊢
  clear hA1 hK1 hB1
  repeat (first | (refine RP.t_take (v := ?_) rfl rfl (fun w' hw' => ?_) ?_; rotate_left; (focus ((obtain ⟨hKf, hAf⟩ := hw'; obtain ⟨a0, a1, a2, a3, a4, a5, a6, a7⟩ := lies_addr hAf; have hk := HK.out w' hKf; have hc := hKf.cell.cell 0; have hc1 := hKf.cell.cell 1; simp only [List.getElem?_toArray, List.getElem?_cons_zero, List.getElem?_cons_succ] at hc hc1); go_simp; (try go_bits); (try (with_reducible rfl)))); (try simp only [Act.put, List.setIfInBounds_toArray, List.set_cons_zero, List.set_cons_succ])) | (refine RP.t_skip rfl rfl ?_; (try simp only [Act.put, List.setIfInBounds_toArray, List.set_cons_zero, List.set_cons_succ])))
  refine RP.t_done ?_
  have HV := Lib.hid (HBY.out.later hB)
  clear hS HK HBY hc hc1 hlt h
  go_wp2_with (go_at_call 65; refine (bclone_any HV.out hbn).mono ?_; rintro ex w2 ⟨v', rfl, hT, hb2⟩)
  first | go_ret | go_ret2
  refine ⟨v', rfl, hT.mono (fun k _ hk => Nat.le_trans hB.size hk), hB.trans (hb2.mono hB.size)⟩

theorem eKeys1 : ∀ args w, (callFunc 95 args).run Try.prog w = .ok (.enter 95 args) w := enters_of Try.func95 (by kernel_rfl) rfl
theorem eCoded1 : ∀ args w, (callFunc 74 args).run Try.prog w = .ok (.enter 74 args) w := enters_of Try.func74 (by kernel_rfl) rfl

set_option maxRecDepth 100000 in
set_option maxHeartbeats 2000000 in
theorem coded_any {W : World} {own : Nat → Prop} {bl bm : Nat} {vr : Value} {E : List Ev} {C : Cs} (h : Bk W own bl bm vr E C) (hN : C.length ≤ 1000000000) :
    Calls Try.prog 36 #[.pointer (some ⟨bl, 0, none⟩)] W fun e w' => ∃ v, e = .returned v ∧ w'.ownsRow W.heap.size 24 8 v C.length (addrCells (C.map (·.1))) ∧ Below W.heap.size W w' := by
  have hc := h.cell.cell 1
  simp only [List.getElem?_toArray, List.getElem?_cons_zero, List.getElem?_cons_succ] at hc
  have hkeys : (C.map kvc).map (·.1) = C.map (·.1) := by rw [List.map_map]; rfl
  have hr : RiseA (C.map (·.1)) := List.pairwise_map.2 h.rise
  have hnd : (C.map (·.1)).Nodup := Al.nodup_of_rise h.rise
  have HS := Lib.hid (fun m (hm : 1 ≤ m) => keys_stops_book Fence.wide m trivial rfl hm W.heap.size bm (C.map kvc) (W.alloc (.cells #[.map (some bm)] 110)) (by simp) ((Lies.new W _ _).cell 0) (h.map.alloc _))
  rw [hkeys, List.length_map] at HS
  have HL := Lib.hid (show (C.map (·.1)).length = C.length by simp)
  rw [show C.length = (C.map (·.1)).length by simp] at HS hN ⊢
  have HN := Lib.hid hN
  have HND := Lib.hid hnd
  have HR := Lib.hid hr
  clear h hkeys hr hnd hN HL
  generalize C.map (·.1) = K at HS HN HND HR ⊢
  have hf1 : Fence.wide.fn 73 := trivial
  have hf2 : Fence.wide.fn 72 := trivial
  refine (callsIn_wide (n := 9)).1 ?_
  refine callsIn_of_wp Try.func36 rfl trivial ?_ rfl
  simp only [Try.ntmps36, List.size_toArray, List.length_cons, List.length_nil, Nat.reduceAdd, Nat.reduceSub, Array.replicate_succ, Array.replicate_zero, List.push_toArray, List.append_toArray, List.nil_append, List.cons_append]
  gi_wp2_with (first
    | (gi_at_call 73; refine (keys_book Fence.wide 8 trivial rfl (some bm) W).mono ?_; rintro e w1 ⟨rfl, rfl⟩)
    | (gi_at_call 72; refine (Ac.sortedFunc_in Fence.wide 8 rfl (by decide) _ _ eKeys1 _ HND.out HN.out _ HS.out _ #[] eCoded1 cmp_book).mono ?_; rintro e w2 ⟨v, ss, rfl, hp, hr, hrow, hb⟩))
  go_ret
  obtain rfl : ss = K := eq_of_riseA hr HR.out hp
  refine ⟨v, rfl, ?_, ((Below.refl _ _).alloc (Nat.le_refl _) _).trans (hb.mono (by simp))⟩
  refine ⟨hrow.1, ?_⟩
  rcases hrow.2 with hn | ⟨g, cap, cur, hv, hbg, rest⟩
  · exact .inl hn
  · exact .inr ⟨g, cap, cur, hv, by simp at hbg; omega, rest⟩

set_option maxRecDepth 100000 in
set_option maxHeartbeats 2000000 in
theorem cut_ok {W : World} {own : Nat → Prop} {bl bm : Nat} {vr : Value} {E : List Ev} {C : Cs} (h : Bk W own bl bm vr E C) (k : Nat) (hk : k ≤ E.length) :
    Calls Try.prog 25 #[.pointer (some ⟨bl, 0, none⟩), .int .i64 k] W fun e w' => ∃ vr', e = .returned (.int .i64 0) ∧ Bk w' own bl bm vr' (E.take k) C ∧ Fr W w' (fun i => i = bl) ∧ (∀ i, vr'.ownBlock = some i → vr.ownBlock = some i) ∧ ∃ s, vr' = .slice s k k := by
  obtain ⟨s, cap, rfl, hle, hs⟩ := h.form
  have hc := h.cell.cell 0
  simp only [List.getElem?_toArray, List.getElem?_cons_zero] at hc
  have hfz := h.cell.frozen 0
  have hlt := h.cell.lt
  have H := Lib.hid h
  clear h
  go_enter Try.func25, Try.ntmps25
  go_wp2_with fail
  go_ret
  have h' := H.out
  have hsl : s = none → k = 0 := fun e => by
    by_cases h0 : E.length = 0
    · omega
    · obtain ⟨g, e', _⟩ := hs h0; rw [e] at e'; cases e'
  have hf : Fr W (W.setCell ⟨bl, 0, none⟩ (.slice s k k)) (fun i => i = bl) := Fr.setCell W _ _
  refine ⟨.slice s k k, rfl, ⟨?_, ?_, fun x hx => (h'.evs x (List.mem_of_mem_take hx)).kept_ty hf (fun i e cur hl => ?_), map_fr h'.map hf (fun e => h'.ne e.symm), fun c hc => ⟨(h'.codes c hc).1.kept_ty hf (fun i e cur hl => ?_), (h'.codes c hc).2⟩, h'.rise, h'.obl, h'.obm⟩, hf, fun i e => by cases s <;> exact e, s, rfl⟩
  · have := h'.cell.set 0 (.slice s k k)
    simpa using this
  · have hlk : (E.take k).length = k := by rw [List.length_take]; omega
    have hr := h'.row
    refine ⟨by rw [length_flat Ev.len, hlk], ?_⟩
    rw [hlk]
    rcases hr.2 with ⟨e, h0⟩ | ⟨g, cap', cur, e, h0, hg, h1, h2, h3, h4⟩
    · injection e with e1 e2 e3
      subst e1
      obtain rfl := hsl rfl
      exact .inl ⟨rfl, rfl⟩
    · injection e with e1 e2 e3
      subst e1 e3
      refine .inr ⟨g, k, cur, rfl, h0, (hf.block g (Array.getElem?_eq_some_iff.1 hg).1 (fun e => ?_)).trans hg, Nat.le_refl _, by omega, Nat.le_trans (Nat.mul_le_mul_right 9 (by omega : k ≤ cap)) h3, ?_⟩
      · subst e
        exact absurd (lies_uniq h'.cell hg) (by decide)
      · have h5 : (cur.toList.take (E.length * 9)).take (k * 9) = (E.flatMap Ev.cs).take (k * 9) := by rw [h4]
        rw [List.take_take, Nat.min_eq_left (Nat.mul_le_mul_right 9 hk)] at h5
        rw [h5]
        exact take_flat k E
  · subst e; exact absurd (lies_uniq h'.cell hl) (by decide)
  · subst e; exact absurd (lies_uniq h'.cell hl) (by decide)
end Go.Proofs.Yteeghdkejnhjnaa.Bo
