/- The walks of a store's New and Get. -/
import Derived.Test.YteeghdkejnhjnaaKvM
namespace Go.Proofs.Yteeghdkejnhjnaa.Kv
open Go Go.RowKit Kt Ad Bo

set_option maxRecDepth 100000 in
set_option maxHeartbeats 2000000 in
theorem kvnew_any (W : World) :
    Calls Try.prog 12 #[] W fun e w' => ∃ bl bo, e = .returned (.pointer (some ⟨bl, 0, none⟩)) ∧ Kv w' (fun k => W.heap.size ≤ k) bl bo [] ∧ Below W.heap.size W w' := by
  have hmm := @run_makeMap Try.prog
  go_enter Try.func12, Try.ntmps12
  go_wp2
  go_ret
  refine ⟨W.heap.size + 1, W.heap.size, rfl, ⟨?_, (IsMap.new W A8.v).alloc _, by simp, by simp, by simp, by simp, by omega, Nat.le_refl _⟩, ((Below.refl _ _).alloc (Nat.le_refl _) _).alloc (by simp) _⟩
  have := Lies.new (W.alloc (.map #[] 0)) 105 #[.map (some W.heap.size)]
  rw [World.size_alloc] at this
  exact this

/-- What is looked up. -/
theorem Kv.value {W : World} {own : Nat → Prop} {bl bo : Nat} {O : Os} (h : Kv W own bl bo O) (a : A8) (k : Bs) (hk : k.length ≤ maxLen) :
    ∃ v1, (∀ w', Kv w' own bl bo O → (Instr.lookup 106 (mapOf O a) (sv k) true).run Try.prog w' = .ok (.tuple #[v1, .bool (look O a k).isSome]) w') ∧ Bts W own v1 ((look O a k).getD []) := by
  have hlk := fun w' (h' : Kv w' own bl bo O) => h'.lookK a k hk true
  unfold look
  cases e : get O a with
  | none =>
    rw [e] at hlk
    exact ⟨.slice none 0 0, hlk, ⟨World.ownsRow_nil _ _ _ _, fun g e => by cases e⟩⟩
  | some p =>
    rw [e] at hlk
    simp only [Option.bind_some] at hlk ⊢
    cases e2 : get p.2 k with
    | none =>
      rw [e2] at hlk
      exact ⟨.slice none 0 0, hlk, ⟨World.ownsRow_nil _ _ _ _, fun g e => by cases e⟩⟩
    | some u =>
      rw [e2] at hlk
      exact ⟨u.1, hlk, h.bts _ (get_mem e) _ (get_mem e2)⟩

set_option maxRecDepth 100000 in
set_option maxHeartbeats 2000000 in
theorem kvget_any {W : World} {own : Nat → Prop} {bl bo : Nat} {O : Os} (h : Kv W own bl bo O) (a : A8) {vk : Value} {k : Bs} (hk : Byt W vk k) (hkl : k.length ≤ maxLen) (hN : ∀ v, look O a k = some v → v.length ≤ 1000000000) :
    Calls Try.prog 15 #[.pointer (some ⟨bl, 0, none⟩), a.v, vk] W fun e w' => ∃ v', e = .returned (.tuple #[v', .bool (look O a k).isSome]) ∧ Bts w' (fun i => W.heap.size ≤ i) v' ((look O a k).getD []) ∧ Below W.heap.size W w' := by
  obtain ⟨v1, hl1, hb1⟩ := h.value a k hkl
  have hbn : ((look O a k).getD []).length ≤ 1000000000 := by
    cases e : look O a k with
    | none => simp
    | some v => exact hN v e
  generalize (look O a k).isSome = i1 at hl1 ⊢
  generalize (look O a k).getD [] = b1 at hb1 hbn ⊢
  obtain ⟨s1, c1, rfl⟩ := hb1.form
  obtain ⟨sk0, ck0, rfl⟩ : ∃ s c, vk = .slice s k.length c := by obtain ⟨s, c, e, _⟩ := hk; exact ⟨s, c, e⟩
  have HL := Lib.hid hl1
  have HB1 := Lib.hid hb1.byt
  have HKV := Lib.hid hk
  have hlt := h.cell.lt
  have hc := h.cell.cell 0
  simp only [List.getElem?_toArray, List.getElem?_cons_zero] at hc
  clear hl1 hb1 hN hkl hk
  simp only [A8.v]
  go_enter Try.func15, Try.ntmps15
  go_wp2_with fail
  obtain ⟨W1, hW1⟩ : ∃ W1, W1 = W.alloc (.cells a.cs.toArray 24) := ⟨_, rfl⟩
  have hA1 : Lies W1 W.heap.size 24 a.cs.toArray := hW1 ▸ Lies.new W _ _
  have hB1 : Below W.heap.size W W1 := hW1 ▸ (Below.refl _ _).alloc (Nat.le_refl _) _
  have hK1 := h.later hB1
  rw [show W.alloc (.cells #[.int .u8 a.x0.toNat, .int .u8 a.x1.toNat, .int .u8 a.x2.toNat, .int .u8 a.x3.toNat, .int .u8 a.x4.toNat, .int .u8 a.x5.toNat, .int .u8 a.x6.toNat, .int .u8 a.x7.toNat] 24) = W1 from hW1.symm]
  clear hW1
  refine RP.region (RP.take 0 (RP.take 1 (RP.take 2 (RP.take 3 (RP.take 4 (RP.take 5 (RP.take 6 (RP.take 7 (RP.take 8 (RP.take 9 (RP.take 10 (RP.take 11 (RP.take 12 (RP.take 13 RP.done)))))))))))))) (fun w' => Kv w' own bl bo O ∧ Lies w' W.heap.size 24 a.cs.toArray ∧ Byt w' (.slice sk0 k.length ck0) k) (by as_aux_lemma => kernel_rfl) (by as_aux_lemma => kernel_rfl) (fun _ _ d _ _ h => by cases d <;> exact h) ⟨hK1.drew, hA1.drew, HKV.out.later hB1.drew⟩ (fun hS => ?_)
  have hB := hB1.drew
  generalize W1.drew = V at hS hB ⊢
  clear hA1 hK1 hB1
  repeat (first | (refine RP.t_take (v := ?_) rfl rfl (fun w' hw' => ?_) ?_; rotate_left; (focus ((obtain ⟨hKf, hAf, hBf⟩ := hw'; obtain ⟨a0, a1, a2, a3, a4, a5, a6, a7⟩ := lies_addr hAf; have hc := hKf.cell.cell 0; simp only [List.getElem?_toArray, List.getElem?_cons_zero] at hc; have hlA := hKf.lookA a; simp only [A8.v] at hlA; have hcv := hBf.conv; have hl2 := HL.out w' hKf; simp only [sv] at hl2); go_simp; (try go_bits); (try (with_reducible rfl)))); (try simp only [Act.put, List.setIfInBounds_toArray, List.set_cons_zero, List.set_cons_succ])) | (refine RP.t_skip rfl rfl ?_; (try simp only [Act.put, List.setIfInBounds_toArray, List.set_cons_zero, List.set_cons_succ])))
  refine RP.t_done ?_
  have HV := Lib.hid (HB1.out.later hB)
  clear hS HL HB1 HKV hc hlt h
  go_wp2_with (go_at_call 65; refine (bclone_any HV.out hbn).mono ?_; rintro ex w2 ⟨v', rfl, hT, hb2⟩)
  first | go_ret | go_ret2
  refine ⟨v', rfl, hT.mono (fun k _ hk => Nat.le_trans hB.size hk), hB.trans (hb2.mono hB.size)⟩
end Go.Proofs.Yteeghdkejnhjnaa.Kv

/- The walks of a store's Put. -/
namespace Go.Proofs.Yteeghdkejnhjnaa.Kv
open Go Go.RowKit Kt Ad Bo

/-- The blocks of a store's maps. -/
def Mp (O : Os) (bo i : Nat) : Prop := i = bo ∨ ∃ p ∈ O, p.2.1 = i
theorem Kv.mp {W : World} {own : Nat → Prop} {bl bo : Nat} {O : Os} (h : Kv W own bl bo O) {i : Nat} (hi : Mp O bo i) : own i := by
  rcases hi with rfl | ⟨p, hp, rfl⟩
  · exact h.obo
  · exact (h.own' p hp).1
theorem Kv.mp_map {W : World} {own : Nat → Prop} {bl bo : Nat} {O : Os} (h : Kv W own bl bo O) {i : Nat} (hi : Mp O bo i) : ∃ es c, W.heap[i]? = some (.map es c) := by
  rcases hi with rfl | ⟨p, hp, rfl⟩
  · obtain ⟨es, c, h1, _⟩ := h.map.block
    exact ⟨es, c, h1⟩
  · exact (h.vals p hp).block
theorem wp_kset {w : World} {m : Nat} {L : List (Bs × Value)} {o : Oper} {act : Act} {K : Act → World → Prop} {Q : Exit → Act → World → Prop}
    (h : KMap w m L) (k : Bs) (hk : k.length ≤ maxLen) (mx kx vx : Operand) (hop : o.op = Op.mapUpdate 106 mx kx vx)
    (hm : act.eval mx = .map (some m)) (hkx : act.eval kx = sv k) (v : Value) (hv : act.eval vx = v)
    (hK : ∀ w', KMap w' m (put L k v) → Fr w w' (fun i => i = m) → K (act.put o.dst undef) w') : Oper.wp Try.prog o act w K Q := by
  obtain ⟨w', hrun, r1, r2, r3⟩ := h.store k hk v
  unfold Oper.wp
  simp [execOp, hop, hm, hkx, hv, hrun, Result.andThen]
  exact hK w' r1 r2
theorem wp_kdel {w : World} {m : Nat} {L : List (Bs × Value)} {o : Oper} {act : Act} {K : Act → World → Prop} {Q : Exit → Act → World → Prop}
    (h : KMap w m L) (k : Bs) (hk : k.length ≤ maxLen) (mx kx : Operand) (hop : o.op = Op.call { callee := Callee.builtin Builtin.delete, args := #[mx, kx], argTypes := #[106, 9] })
    (hm : act.eval mx = .map (some m)) (hkx : act.eval kx = sv k)
    (hK : ∀ w', KMap w' m (cut L k) → Fr w w' (fun i => i = m) → K (act.put o.dst (.tuple #[])) w') : Oper.wp Try.prog o act w K Q := by
  obtain ⟨w', hrun, r1, r2, r3⟩ := h.del k hk o.type
  unfold Oper.wp
  simp [execOp, hop, resolve, invoke, builtin, hm, hkx, hrun, Result.andThen]
  exact hK w' r1 r2
theorem wp_mapdel {α : Type} [DecidableEq α] {P : Program} {k t e : TypeId} {ek : α → Value} {w : World} {b : Nat} {L : List (α × Value)} {o : Oper} {act : Act} {K : Act → World → Prop} {Q : Exit → Act → World → Prop}
    (E : KeyEnc P k ek) (ht : P.underlying t = some (.map k e)) (h : IsMap ek w b L) (x : α) (m kx : Operand) (hop : o.op = Op.call { callee := Callee.builtin Builtin.delete, args := #[m, kx], argTypes := #[t, k] })
    (hm : act.eval m = .map (some b)) (hk : act.eval kx = ek x)
    (hK : ∀ w', IsMap ek w' b (strike L x) → w.grownBy w' (some b) → w'.heap.size = w.heap.size → K (act.put o.dst (.tuple #[])) w') : Oper.wp P o act w K Q := by
  obtain ⟨w', hrun, r1, r2, r3⟩ := h.del E ht x o.type
  unfold Oper.wp
  simp [execOp, hop, resolve, invoke, builtin, hm, hk, hrun, Result.andThen]
  exact hK w' r1 r2 r3
theorem eql_nil_map (w : World) (r : Option Nat) : (binOp .eql 106 (.map r) (.map none)).run Try.prog w = .ok (.bool r.isNone) w := run_eql_map_nil_sl (P := Try.prog) w 106 _ _ r Try.underlying106

set_option maxRecDepth 100000 in
set_option maxHeartbeats 2000000 in
theorem kvput_long {W : World} {bl : Nat} (a : A8) {vk vv : Value} {k v : Bs} (hk : Byt W vk k) (hv : Byt W vv v) (hn : 64 < k.length ∨ 1024 < v.length) :
    Calls Try.prog 13 #[.pointer (some ⟨bl, 0, none⟩), a.v, vk, vv] W fun e w' => e = .returned (.int .i64 3) ∧ Below W.heap.size W w' := by
  obtain ⟨sk0, ck0, rfl⟩ : ∃ s c, vk = .slice s k.length c := by obtain ⟨s, c, e, _⟩ := hk; exact ⟨s, c, e⟩
  obtain ⟨sv0, cv0, rfl⟩ : ∃ s c, vv = .slice s v.length c := by obtain ⟨s, c, e, _⟩ := hv; exact ⟨s, c, e⟩
  have HKV := Lib.hid hk
  have HVV := Lib.hid hv
  clear hk hv
  clear HKV HVV
  simp only [A8.v]
  by_cases h0 : 64 < k.length
  · clear hn
    go_enter Try.func13, Try.ntmps13
    go_wp2_with fail
    go_ret
    exact ⟨rfl, (Below.refl _ _).alloc (Nat.le_refl _) _⟩
  · have h1 : 1024 < v.length := by omega
    clear hn
    go_enter Try.func13, Try.ntmps13
    go_wp2_with fail
    go_ret
    exact ⟨rfl, (Below.refl _ _).alloc (Nat.le_refl _) _⟩

set_option maxRecDepth 100000 in
set_option maxHeartbeats 4000000 in
theorem kvput_new {W : World} {own : Nat → Prop} {bl bo : Nat} {O : Os} (h : Kv W own bl bo O) (a : A8) {vk vv : Value} {k v : Bs} (hk : Byt W vk k) (hv : Byt W vv v) (hk64 : k.length ≤ 64) (hv1024 : v.length ≤ 1024) (e0 : get O a = none) :
    Calls Try.prog 13 #[.pointer (some ⟨bl, 0, none⟩), a.v, vk, vv] W fun e w' => ∃ m v', e = .returned (.int .i64 0) ∧ Kv w' (fun i => own i ∨ W.heap.size ≤ i) bl bo (put (put O a (m, [])) a (m, put [] k (v', v))) ∧ Fr W w' (fun i => Mp O bo i ∨ W.heap.size ≤ i) := by
  obtain ⟨sk0, ck0, rfl⟩ : ∃ s c, vk = .slice s k.length c := by obtain ⟨s, c, e, _⟩ := hk; exact ⟨s, c, e⟩
  obtain ⟨sv0, cv0, rfl⟩ : ∃ s c, vv = .slice s v.length c := by obtain ⟨s, c, e, _⟩ := hv; exact ⟨s, c, e⟩
  have HKV := Lib.hid hk
  have HVV := Lib.hid hv
  clear hk hv
  have hlt := h.cell.lt
  have hc := h.cell.cell 0
  simp only [List.getElem?_toArray, List.getElem?_cons_zero] at hc
  have hmo0 : mapOf O a = .map none := by unfold mapOf; rw [e0]
  have hq := eql_nil_map
  have HMO0 := Lib.hid hmo0
  have E0 := Lib.hid e0
  have H := Lib.hid h
  clear hmo0 e0 h
  simp only [A8.v]
  go_enter Try.func13, Try.ntmps13
  go_wp2_with fail
  obtain ⟨W1, hW1⟩ : ∃ W1, W1 = W.alloc (.cells a.cs.toArray 24) := ⟨_, rfl⟩
  have hA1 : Lies W1 W.heap.size 24 a.cs.toArray := hW1 ▸ Lies.new W _ _
  have hB1 : Below W.heap.size W W1 := hW1 ▸ (Below.refl _ _).alloc (Nat.le_refl _) _
  have hK1 := H.out.later hB1
  rw [show W.alloc (.cells #[.int .u8 a.x0.toNat, .int .u8 a.x1.toNat, .int .u8 a.x2.toNat, .int .u8 a.x3.toNat, .int .u8 a.x4.toNat, .int .u8 a.x5.toNat, .int .u8 a.x6.toNat, .int .u8 a.x7.toNat] 24) = W1 from hW1.symm]
  clear hW1
  refine RP.region (RP.take 0 (RP.take 1 (RP.take 2 (RP.take 3 (RP.take 4 (RP.take 5 (RP.take 6 RP.done))))))) (fun w' => Lies w' bl 105 #[.map (some bo)] ∧ Kt.IsMap A8.v w' bo (O.map okv) ∧ Lies w' W.heap.size 24 a.cs.toArray) (by as_aux_lemma => kernel_rfl) (by as_aux_lemma => kernel_rfl) (fun _ _ d _ _ h => by cases d <;> exact h) ⟨hK1.cell.drew, hK1.map.drew, hA1.drew⟩ (fun hS => ?_)
  have HB := Lib.hid hB1.drew
  have HK := Lib.hid hK1.drew
  generalize W1.drew = V0 at hS HB HK ⊢
  clear hA1 hK1 hB1 hc
  repeat (first | (refine RP.t_take (v := ?_) rfl rfl (fun w' hw' => ?_) ?_; rotate_left; (focus ((obtain ⟨hLf, hMf, hAf⟩ := hw'; obtain ⟨a0, a1, a2, a3, a4, a5, a6, a7⟩ := lies_addr hAf; have hc := hLf.cell 0; simp only [List.getElem?_toArray, List.getElem?_cons_zero] at hc; have hlA := look_okv hMf a; rw [HMO0.out] at hlA; simp only [A8.v] at hlA); go_simp; (try go_bits); (try (with_reducible rfl)))); (try simp only [Act.put, List.setIfInBounds_toArray, List.set_cons_zero, List.set_cons_succ])) | (refine RP.t_skip rfl rfl ?_; (try simp only [Act.put, List.setIfInBounds_toArray, List.set_cons_zero, List.set_cons_succ])))
  refine RP.t_done ?_
  have hA := hS.2.2
  clear hS HMO0
  have hc := HK.out.cell.cell 0
  simp only [List.getElem?_toArray, List.getElem?_cons_zero] at hc
  have hmm := @run_makeMap Try.prog
  go_wp2_with fail
  refine RP.region (RP.take 0 (RP.take 1 (RP.take 2 (RP.take 3 (RP.take 4 (RP.run 5 (RP.run 6 RP.done))))))) (fun w' => Lies w' bl 105 #[.map (some bo)] ∧ Lies w' W.heap.size 24 a.cs.toArray) (by as_aux_lemma => kernel_rfl) (by as_aux_lemma => kernel_rfl) (fun _ _ d _ _ h => by cases d <;> exact h) ⟨HK.out.cell.drew, hA.drew⟩ (fun hS => ?_)
  have HB1 := Lib.hid HB.out.drew
  have HK1 := Lib.hid HK.out.drew
  generalize V0.drew = V1 at hS HB1 HK1 ⊢
  clear hA hc HB HK
  repeat (first | (refine RP.t_take (v := ?_) rfl rfl (fun w' hw' => ?_) ?_; rotate_left; (focus ((obtain ⟨hLf, hAf⟩ := hw'; obtain ⟨a0, a1, a2, a3, a4, a5, a6, a7⟩ := lies_addr hAf; have hc := hLf.cell 0; simp only [List.getElem?_toArray, List.getElem?_cons_zero] at hc); go_simp; (try go_bits); (try (with_reducible rfl)))); (try simp only [Act.put, List.setIfInBounds_toArray, List.set_cons_zero, List.set_cons_succ])) | (refine RP.t_skip rfl rfl ?_; (try simp only [Act.put, List.setIfInBounds_toArray, List.set_cons_zero, List.set_cons_succ])))
  refine RP.t_run rfl (fun KK hKK => ?_)
  go_simp
  have hnew := KMap.new V1
  have hszV : W.heap.size ≤ V1.heap.size := HB1.out.size
  have hbd : ∀ p ∈ O, p.2.1 ≠ V1.heap.size := fun p hp e => by have := (HK1.out.vals p hp).lt; omega
  have hbo : V1.heap.size ≠ bo := fun e => by have := HK1.out.map.lt; omega
  have hlw : ¬ W.heap.size = bo := fun e => by have := H.out.map.lt; omega
  have hbA : Below V1.heap.size V1 (V1.alloc (.map #[] 0)) := (Below.refl _ _).alloc (Nat.le_refl _) _
  replace hS := And.intro (hS.1.alloc (.map #[] 0)) (hS.2.alloc (.map #[] 0))
  refine hKK.out _ _ hS ?_
  clear hKK KK
  (try simp only [Act.put, List.setIfInBounds_toArray, List.set_cons_zero, List.set_cons_succ])
  refine t_run1 rfl rfl (fun KK hKK => ?_)
  refine wp_mapset encAddr Try.underlying103 (HK1.out.map.alloc (.map #[] 0)) a _ _ _ rfl rfl rfl (.map (some V1.heap.size)) rfl ?_
  intro V2 m1 g1 s1
  have hf : Fr (V1.alloc (.map #[] 0)) V2 (fun i => i = bo) := (Fr.of_grown g1).mono (fun k _ e => by injection e)
  have HK := Lib.hid (((HK1.out.later hbA).mono (own2 := fun i => own i ∨ W.heap.size ≤ i) (fun i _ hi => Or.inl hi)).addA E0.out hnew (Or.inr hszV) hbo hbd hf m1)
  have hA2 : Lies V2 W.heap.size 24 a.cs.toArray := lies_fr hS.2 hf hlw
  have HF := Lib.hid (((Fr.of_below HB1.out _).trans (Fr.of_below hbA _)).trans (hf.mono (m' := fun i => Mp O bo i ∨ W.heap.size ≤ i) (fun i _ e => Or.inl (Or.inl e))))
  have HKV0 := Lib.hid (Byt.off_map ((HKV.out.later HB1.out).later hbA) hf (by obtain ⟨es, c, h1, _⟩ := (HK1.out.map.alloc (.map #[] 0)).block; exact ⟨es, c, h1⟩))
  have HVV0 := Lib.hid (Byt.off_map ((HVV.out.later HB1.out).later hbA) hf (by obtain ⟨es, c, h1, _⟩ := (HK1.out.map.alloc (.map #[] 0)).block; exact ⟨es, c, h1⟩))
  refine hKK.out _ _ ⟨lies_fr hS.1 hf H.out.ne, hA2⟩ ?_
  clear hKK KK m1 g1 s1 hS hf hnew hbd hbo hlw hbA HB1 HK1 HKV HVV hmm
  simp only [Act.put]
  refine RP.t_done ?_
  have hA := hA2
  clear hA2
  obtain ⟨m, hm⟩ : ∃ m, m = V1.heap.size := ⟨_, rfl⟩
  rw [← hm] at HK
  have HM0 := Lib.hid (show W.heap.size ≤ m from by rw [hm]; exact hszV)
  obtain ⟨O1, hO1⟩ : ∃ O1, O1 = put O a (m, []) := ⟨_, rfl⟩
  have E1 := Lib.hid (show get O1 a = some (m, ([] : Vs)) from by rw [hO1, get_put, if_pos rfl])
  rw [← hO1] at HK
  have HO1 := Lib.hid hO1
  clear hO1 hm hszV
  generalize V2 = V0 at *
  have hc := HK.out.cell.cell 0
  simp only [List.getElem?_toArray, List.getElem?_cons_zero] at hc
  go_wp2_with fail
  have HMO := Lib.hid (show mapOf O1 a = .map (some m) from by unfold mapOf; rw [E1.out])
  refine RP.region (RP.take 0 (RP.take 1 (RP.take 2 (RP.take 3 (RP.take 4 (RP.take 5 (RP.take 6 (RP.take 7 (RP.take 8 (RP.run 9 (RP.run 10 RP.done))))))))))) (fun w' => Lies w' bl 105 #[.map (some bo)] ∧ Kt.IsMap A8.v w' bo (O1.map okv) ∧ Lies w' W.heap.size 24 a.cs.toArray ∧ Byt w' (.slice sk0 k.length ck0) k) (by as_aux_lemma => kernel_rfl) (by as_aux_lemma => kernel_rfl) (fun _ _ d _ _ h => by cases d <;> exact h) ⟨HK.out.cell.drew, HK.out.map.drew, hA.drew, HKV0.out.later (Below.refl _ _).drew⟩ (fun hS => ?_)
  have HK1 := Lib.hid HK.out.drew
  have HF1 := Lib.hid (HF.out.trans (Fr.drew _ _))
  have HVV1 := Lib.hid (HVV0.out.later (Below.refl _ _).drew)
  generalize V0.drew = V at hS HK1 HF1 HVV1 ⊢
  clear HK hA HF HKV0 HVV0
  repeat (first | (refine RP.t_take (v := ?_) rfl rfl (fun w' hw' => ?_) ?_; rotate_left; (focus ((obtain ⟨hLf, hMf, hAf, hBf⟩ := hw'; obtain ⟨a0, a1, a2, a3, a4, a5, a6, a7⟩ := lies_addr hAf; have hc := hLf.cell 0; simp only [List.getElem?_toArray, List.getElem?_cons_zero] at hc; have hlA := look_okv hMf a; rw [HMO.out] at hlA; simp only [A8.v] at hlA; have hcv := hBf.conv); go_simp; (try go_bits); (try (with_reducible rfl)))); (try simp only [Act.put, List.setIfInBounds_toArray, List.set_cons_zero, List.set_cons_succ])) | (refine RP.t_skip rfl rfl ?_; (try simp only [Act.put, List.setIfInBounds_toArray, List.set_cons_zero, List.set_cons_succ])))
  refine RP.t_run rfl (fun KK hKK => ?_)
  go_simp
  refine (bclone_any HVV1.out (by omega)).mono ?_
  rintro ex V1 ⟨v', rfl, hT, hb2⟩
  replace hS := And.intro (hS.1.below hb2 hS.1.lt) (And.intro (hS.2.1.of_block (hb2.block _ hS.2.1.lt)) (And.intro (hS.2.2.1.below hb2 hS.2.2.1.lt) (hS.2.2.2.later hb2)))
  have HK2 := Lib.hid (HK1.out.later hb2)
  have HF2 := Lib.hid (HF1.out.trans (Fr.of_below hb2 _))
  have hszV : W.heap.size ≤ V.heap.size := HF1.out.size
  have HT := Lib.hid (hT.mono (own' := fun i => own i ∨ W.heap.size ≤ i) (fun i _ hi => Or.inr (Nat.le_trans hszV hi)))
  refine hKK.out _ _ hS ?_
  clear hKK KK hb2 hT HVV1 HK1 HF1
  (try simp only [Act.put, List.setIfInBounds_toArray, List.set_cons_zero, List.set_cons_succ])
  refine t_run1 rfl rfl (fun KK hKK => ?_)
  refine wp_kset (HK2.out.vals _ (get_mem E1.out)) k (by unfold maxLen; omega) _ _ _ rfl rfl rfl v' rfl ?_
  intro w' m1 f1
  rw [put_ikv _ _ _ v] at m1
  have hR := HK2.out.setK E1.out f1 m1 (fun c hc => by
    rcases List.mem_cons.1 hc with rfl | hc
    · exact HT.out
    · exact HK2.out.bts _ (get_mem E1.out) c (mem_cut.1 hc).1)
  have hnb : ¬ bl = m := fun e => HK2.out.ne_bl (get_mem E1.out) e.symm
  have hno : ¬ bo = m := fun e => (HK2.out.own' _ (get_mem E1.out)).2 e.symm
  have hna : ¬ W.heap.size = m := fun e => (HK2.out.vals _ (get_mem E1.out)).not_lies (e ▸ hS.2.2.1)
  have HR := Lib.hid hR
  have HF3 := Lib.hid ((HF2.out.trans (f1.mono (m' := fun i => Mp O bo i ∨ W.heap.size ≤ i) (fun i _ e => Or.inr (by rw [e]; exact HM0.out)))))
  refine hKK.out _ _ ⟨lies_fr hS.1 f1 hnb, map_fr hS.2.1 f1 hno, lies_fr hS.2.2.1 f1 hna, Byt.off_map hS.2.2.2 f1 (HK2.out.vals _ (get_mem E1.out)).block⟩ ?_
  clear hKK KK m1 f1 hR hS HK2 HF2 HT
  simp only [Act.put]
  refine RP.t_done ?_
  go_wp2_with fail
  go_ret
  rw [HO1.out] at HR
  first | exact ⟨m, v', rfl, HR.out, HF3.out⟩ | exact ⟨rfl, m, v', HR.out, HF3.out⟩ | exact ⟨rfl, ⟨m, v', HR.out⟩, HF3.out⟩

set_option maxRecDepth 100000 in
set_option maxHeartbeats 4000000 in
theorem kvput_old {W : World} {own : Nat → Prop} {bl bo : Nat} {O : Os} (h : Kv W own bl bo O) (a : A8) {vk vv : Value} {k v : Bs} (hk : Byt W vk k) (hv : Byt W vv v) (hk64 : k.length ≤ 64) (hv1024 : v.length ≤ 1024) {m : Nat} {K : Vs} (e0 : get O a = some (m, K)) :
    Calls Try.prog 13 #[.pointer (some ⟨bl, 0, none⟩), a.v, vk, vv] W fun e w' => ∃ v', e = .returned (.int .i64 0) ∧ Kv w' (fun i => own i ∨ W.heap.size ≤ i) bl bo (put O a (m, put K k (v', v))) ∧ Fr W w' (fun i => Mp O bo i ∨ W.heap.size ≤ i) := by
  obtain ⟨sk0, ck0, rfl⟩ : ∃ s c, vk = .slice s k.length c := by obtain ⟨s, c, e, _⟩ := hk; exact ⟨s, c, e⟩
  obtain ⟨sv0, cv0, rfl⟩ : ∃ s c, vv = .slice s v.length c := by obtain ⟨s, c, e, _⟩ := hv; exact ⟨s, c, e⟩
  have HKV := Lib.hid hk
  have HVV := Lib.hid hv
  clear hk hv
  have hlt := h.cell.lt
  have hc := h.cell.cell 0
  simp only [List.getElem?_toArray, List.getElem?_cons_zero] at hc
  have hmo0 : mapOf O a = .map (some m) := by unfold mapOf; rw [e0]
  have hq := eql_nil_map
  have HMO0 := Lib.hid hmo0
  have E0 := Lib.hid e0
  have H := Lib.hid h
  clear hmo0 e0 h
  simp only [A8.v]
  go_enter Try.func13, Try.ntmps13
  go_wp2_with fail
  obtain ⟨W1, hW1⟩ : ∃ W1, W1 = W.alloc (.cells a.cs.toArray 24) := ⟨_, rfl⟩
  have hA1 : Lies W1 W.heap.size 24 a.cs.toArray := hW1 ▸ Lies.new W _ _
  have hB1 : Below W.heap.size W W1 := hW1 ▸ (Below.refl _ _).alloc (Nat.le_refl _) _
  have hK1 := H.out.later hB1
  rw [show W.alloc (.cells #[.int .u8 a.x0.toNat, .int .u8 a.x1.toNat, .int .u8 a.x2.toNat, .int .u8 a.x3.toNat, .int .u8 a.x4.toNat, .int .u8 a.x5.toNat, .int .u8 a.x6.toNat, .int .u8 a.x7.toNat] 24) = W1 from hW1.symm]
  clear hW1
  refine RP.region (RP.take 0 (RP.take 1 (RP.take 2 (RP.take 3 (RP.take 4 (RP.take 5 (RP.take 6 RP.done))))))) (fun w' => Lies w' bl 105 #[.map (some bo)] ∧ Kt.IsMap A8.v w' bo (O.map okv) ∧ Lies w' W.heap.size 24 a.cs.toArray) (by as_aux_lemma => kernel_rfl) (by as_aux_lemma => kernel_rfl) (fun _ _ d _ _ h => by cases d <;> exact h) ⟨hK1.cell.drew, hK1.map.drew, hA1.drew⟩ (fun hS => ?_)
  have HB := Lib.hid hB1.drew
  have HK := Lib.hid hK1.drew
  generalize W1.drew = V0 at hS HB HK ⊢
  clear hA1 hK1 hB1 hc
  repeat (first | (refine RP.t_take (v := ?_) rfl rfl (fun w' hw' => ?_) ?_; rotate_left; (focus ((obtain ⟨hLf, hMf, hAf⟩ := hw'; obtain ⟨a0, a1, a2, a3, a4, a5, a6, a7⟩ := lies_addr hAf; have hc := hLf.cell 0; simp only [List.getElem?_toArray, List.getElem?_cons_zero] at hc; have hlA := look_okv hMf a; rw [HMO0.out] at hlA; simp only [A8.v] at hlA); go_simp; (try go_bits); (try (with_reducible rfl)))); (try simp only [Act.put, List.setIfInBounds_toArray, List.set_cons_zero, List.set_cons_succ])) | (refine RP.t_skip rfl rfl ?_; (try simp only [Act.put, List.setIfInBounds_toArray, List.set_cons_zero, List.set_cons_succ])))
  refine RP.t_done ?_
  have hA := hS.2.2
  clear hS HMO0
  have hc := HK.out.cell.cell 0
  simp only [List.getElem?_toArray, List.getElem?_cons_zero] at hc
  have E1 := E0
  have HF := Lib.hid (Fr.of_below HB.out (fun i => Mp O bo i ∨ W.heap.size ≤ i))
  have HKV0 := Lib.hid (HKV.out.later HB.out)
  have HVV0 := Lib.hid (HVV.out.later HB.out)
  replace HK := Lib.hid (HK.out.mono (own2 := fun i => own i ∨ W.heap.size ≤ i) (fun i _ hi => Or.inl hi))
  obtain ⟨O1, hO1⟩ : ∃ O1, O1 = O := ⟨_, rfl⟩
  rw [← hO1] at HK E1
  have HO1 := Lib.hid hO1
  clear hO1 HB HKV HVV
  go_wp2_with fail
  have HMO := Lib.hid (show mapOf O1 a = .map (some m) from by unfold mapOf; rw [E1.out])
  refine RP.region (RP.take 0 (RP.take 1 (RP.take 2 (RP.take 3 (RP.take 4 (RP.take 5 (RP.take 6 (RP.take 7 (RP.take 8 (RP.run 9 (RP.run 10 RP.done))))))))))) (fun w' => Lies w' bl 105 #[.map (some bo)] ∧ Kt.IsMap A8.v w' bo (O1.map okv) ∧ Lies w' W.heap.size 24 a.cs.toArray ∧ Byt w' (.slice sk0 k.length ck0) k) (by as_aux_lemma => kernel_rfl) (by as_aux_lemma => kernel_rfl) (fun _ _ d _ _ h => by cases d <;> exact h) ⟨HK.out.cell.drew, HK.out.map.drew, hA.drew, HKV0.out.later (Below.refl _ _).drew⟩ (fun hS => ?_)
  have HK1 := Lib.hid HK.out.drew
  have HF1 := Lib.hid (HF.out.trans (Fr.drew _ _))
  have HVV1 := Lib.hid (HVV0.out.later (Below.refl _ _).drew)
  generalize V0.drew = V at hS HK1 HF1 HVV1 ⊢
  clear HK hA HF HKV0 HVV0
  repeat (first | (refine RP.t_take (v := ?_) rfl rfl (fun w' hw' => ?_) ?_; rotate_left; (focus ((obtain ⟨hLf, hMf, hAf, hBf⟩ := hw'; obtain ⟨a0, a1, a2, a3, a4, a5, a6, a7⟩ := lies_addr hAf; have hc := hLf.cell 0; simp only [List.getElem?_toArray, List.getElem?_cons_zero] at hc; have hlA := look_okv hMf a; rw [HMO.out] at hlA; simp only [A8.v] at hlA; have hcv := hBf.conv); go_simp; (try go_bits); (try (with_reducible rfl)))); (try simp only [Act.put, List.setIfInBounds_toArray, List.set_cons_zero, List.set_cons_succ])) | (refine RP.t_skip rfl rfl ?_; (try simp only [Act.put, List.setIfInBounds_toArray, List.set_cons_zero, List.set_cons_succ])))
  refine RP.t_run rfl (fun KK hKK => ?_)
  go_simp
  refine (bclone_any HVV1.out (by omega)).mono ?_
  rintro ex V1 ⟨v', rfl, hT, hb2⟩
  replace hS := And.intro (hS.1.below hb2 hS.1.lt) (And.intro (hS.2.1.of_block (hb2.block _ hS.2.1.lt)) (And.intro (hS.2.2.1.below hb2 hS.2.2.1.lt) (hS.2.2.2.later hb2)))
  have HK2 := Lib.hid (HK1.out.later hb2)
  have HF2 := Lib.hid (HF1.out.trans (Fr.of_below hb2 _))
  have hszV : W.heap.size ≤ V.heap.size := HF1.out.size
  have HT := Lib.hid (hT.mono (own' := fun i => own i ∨ W.heap.size ≤ i) (fun i _ hi => Or.inr (Nat.le_trans hszV hi)))
  refine hKK.out _ _ hS ?_
  clear hKK KK hb2 hT HVV1 HK1 HF1
  (try simp only [Act.put, List.setIfInBounds_toArray, List.set_cons_zero, List.set_cons_succ])
  refine t_run1 rfl rfl (fun KK hKK => ?_)
  refine wp_kset (HK2.out.vals _ (get_mem E1.out)) k (by unfold maxLen; omega) _ _ _ rfl rfl rfl v' rfl ?_
  intro w' m1 f1
  rw [put_ikv _ _ _ v] at m1
  have hR := HK2.out.setK E1.out f1 m1 (fun c hc => by
    rcases List.mem_cons.1 hc with rfl | hc
    · exact HT.out
    · exact HK2.out.bts _ (get_mem E1.out) c (mem_cut.1 hc).1)
  have hnb : ¬ bl = m := fun e => HK2.out.ne_bl (get_mem E1.out) e.symm
  have hno : ¬ bo = m := fun e => (HK2.out.own' _ (get_mem E1.out)).2 e.symm
  have hna : ¬ W.heap.size = m := fun e => (HK2.out.vals _ (get_mem E1.out)).not_lies (e ▸ hS.2.2.1)
  have HR := Lib.hid hR
  have HF3 := Lib.hid ((HF2.out.trans (f1.mono (m' := fun i => Mp O bo i ∨ W.heap.size ≤ i) (fun i _ e => Or.inl (Or.inr ⟨_, get_mem E0.out, e.symm⟩)))))
  refine hKK.out _ _ ⟨lies_fr hS.1 f1 hnb, map_fr hS.2.1 f1 hno, lies_fr hS.2.2.1 f1 hna, Byt.off_map hS.2.2.2 f1 (HK2.out.vals _ (get_mem E1.out)).block⟩ ?_
  clear hKK KK m1 f1 hR hS HK2 HF2 HT
  simp only [Act.put]
  refine RP.t_done ?_
  go_wp2_with fail
  go_ret
  rw [HO1.out] at HR
  first | exact ⟨v', rfl, HR.out, HF3.out⟩ | exact ⟨rfl, v', HR.out, HF3.out⟩ | exact ⟨rfl, ⟨v', HR.out⟩, HF3.out⟩
end Go.Proofs.Yteeghdkejnhjnaa.Kv

/- The walk of a store's Del. -/
namespace Go.Proofs.Yteeghdkejnhjnaa.Kv
open Go Go.RowKit Kt Ad Bo

set_option maxRecDepth 100000 in
set_option maxHeartbeats 4000000 in
theorem kvdel_no {W : World} {own : Nat → Prop} {bl bo : Nat} {O : Os} (h : Kv W own bl bo O) (a : A8) {vk : Value} {k : Bs} (hk : Byt W vk k) (hkl : k.length ≤ maxLen) (hN : ∀ v, look O a k = some v → v.length ≤ 1000000000) (e0 : look O a k = none) :
    Calls Try.prog 14 #[.pointer (some ⟨bl, 0, none⟩), a.v, vk] W fun e w' => e = .returned (.bool false) ∧ Below W.heap.size W w' := by
  obtain ⟨sk0, ck0, rfl⟩ : ∃ s c, vk = .slice s k.length c := by obtain ⟨s, c, e, _⟩ := hk; exact ⟨s, c, e⟩
  have HKV := Lib.hid hk
  have HKL := Lib.hid hkl
  have HN := Lib.hid hN
  have H := Lib.hid h
  clear hk hkl hN h
  have HLK := Lib.hid e0
  clear e0
  simp only [A8.v]
  go_enter Try.func14, Try.ntmps14
  go_wp2_with fail
  obtain ⟨W1, hW1⟩ : ∃ W1, W1 = W.alloc (.cells a.cs.toArray 24) := ⟨_, rfl⟩
  have hA1 : Lies W1 W.heap.size 24 a.cs.toArray := hW1 ▸ Lies.new W _ _
  have hB1 : Below W.heap.size W W1 := hW1 ▸ (Below.refl _ _).alloc (Nat.le_refl _) _
  have hK1 := Lib.hid (H.out.later hB1)
  rw [show W.alloc (.cells #[.int .u8 a.x0.toNat, .int .u8 a.x1.toNat, .int .u8 a.x2.toNat, .int .u8 a.x3.toNat, .int .u8 a.x4.toNat, .int .u8 a.x5.toNat, .int .u8 a.x6.toNat, .int .u8 a.x7.toNat] 24) = W1 from hW1.symm]
  clear hW1
  have HA1 := Lib.hid hA1
  have HB1 := Lib.hid hB1
  obtain ⟨a0, a1, a2, a3, a4, a5, a6, a7⟩ := lies_addr hA1
  clear hA1 hB1
  have hg := kvget_any hK1.out a (HKV.out.later HB1.out) HKL.out HN.out
  rw [HLK.out] at hg
  simp only [Option.isSome_none, Option.getD_none, A8.v] at hg
  replace hg := Lib.hid hg
  go_wp2_with fail
  refine hg.out.mono ?_
  rintro ex w2 ⟨v2, rfl, _, hb2⟩
  have HB2 := Lib.hid (HB1.out.trans (hb2.mono HB1.out.size))
  clear hg hK1 hb2 HA1 HB1 a0 a1 a2 a3 a4 a5 a6 a7
  go_wp2_with fail
  go_ret
  exact ⟨rfl, HB2.out⟩

theorem cut_put {α β : Type} [DecidableEq α] (L : List (α × β)) (a : α) (v : β) : cut (put L a v) a = cut L a := by
  unfold put cut
  rw [List.filter_cons_of_neg (by simp), List.filter_filter]
  simp

set_option maxRecDepth 100000 in
set_option maxHeartbeats 4000000 in
theorem kvdel_yes {W : World} {own : Nat → Prop} {bl bo : Nat} {O : Os} (h : Kv W own bl bo O) (a : A8) {vk : Value} {k : Bs} (hk : Byt W vk k) (hkl : k.length ≤ maxLen) (hN : ∀ v, look O a k = some v → v.length ≤ 1000000000) {m : Nat} {K : Vs} {u : Value × Bs} (e0 : get O a = some (m, K)) (e1 : get K k = some u) :
    Calls Try.prog 14 #[.pointer (some ⟨bl, 0, none⟩), a.v, vk] W fun e w' => ∃ O', e = .returned (.bool true) ∧ Kv w' own bl bo O' ∧ look O' = (look O).put a k none ∧ (Full O → Full O') ∧ Fr W w' (Mp O bo) := by
  obtain ⟨sk0, ck0, rfl⟩ : ∃ s c, vk = .slice s k.length c := by obtain ⟨s, c, e, _⟩ := hk; exact ⟨s, c, e⟩
  have HKV := Lib.hid hk
  have HKL := Lib.hid hkl
  have HN := Lib.hid hN
  have H := Lib.hid h
  clear hk hkl hN h
  have hlk : look O a k = some u.2 := by unfold look; rw [e0, Option.bind_some, e1]; rfl
  have hgk : ∀ k', (get K k').map (·.2) = look O a k' := fun k' => by unfold look; rw [e0]; rfl
  have HLK := Lib.hid hlk
  have HGK := Lib.hid hgk
  have E0 := Lib.hid e0
  clear e0 e1 hlk hgk
  simp only [A8.v]
  go_enter Try.func14, Try.ntmps14
  go_wp2_with fail
  obtain ⟨W1, hW1⟩ : ∃ W1, W1 = W.alloc (.cells a.cs.toArray 24) := ⟨_, rfl⟩
  have hA1 : Lies W1 W.heap.size 24 a.cs.toArray := hW1 ▸ Lies.new W _ _
  have hB1 : Below W.heap.size W W1 := hW1 ▸ (Below.refl _ _).alloc (Nat.le_refl _) _
  have hK1 := Lib.hid (H.out.later hB1)
  rw [show W.alloc (.cells #[.int .u8 a.x0.toNat, .int .u8 a.x1.toNat, .int .u8 a.x2.toNat, .int .u8 a.x3.toNat, .int .u8 a.x4.toNat, .int .u8 a.x5.toNat, .int .u8 a.x6.toNat, .int .u8 a.x7.toNat] 24) = W1 from hW1.symm]
  clear hW1
  have HA1 := Lib.hid hA1
  have HB1 := Lib.hid hB1
  obtain ⟨a0, a1, a2, a3, a4, a5, a6, a7⟩ := lies_addr hA1
  clear hA1 hB1
  have hg := kvget_any hK1.out a (HKV.out.later HB1.out) HKL.out HN.out
  rw [HLK.out] at hg
  simp only [Option.isSome_some, Option.getD_some, A8.v] at hg
  replace hg := Lib.hid hg
  go_wp2_with fail
  refine hg.out.mono ?_
  rintro ex w2 ⟨v2, rfl, _, hb2⟩
  have HB2 := Lib.hid (HB1.out.trans (hb2.mono HB1.out.size))
  have HK2 := Lib.hid (hK1.out.later hb2)
  have hA2 : Lies w2 W.heap.size 24 a.cs.toArray := HA1.out.below hb2 HA1.out.lt
  have HMO := Lib.hid (show mapOf O a = .map (some m) from by unfold mapOf; rw [E0.out])
  clear hg hK1 hb2 HA1 HB1 a0 a1 a2 a3 a4 a5 a6 a7
  have hc := HK2.out.cell.cell 0
  simp only [List.getElem?_toArray, List.getElem?_cons_zero] at hc
  go_wp2_with fail
  refine RP.region (RP.take 0 (RP.take 1 (RP.take 2 (RP.take 3 (RP.take 4 (RP.take 5 (RP.take 6 (RP.take 7 (RP.run 8 RP.done))))))))) (fun w' => Lies w' bl 105 #[.map (some bo)] ∧ Kt.IsMap A8.v w' bo (O.map okv) ∧ Lies w' W.heap.size 24 a.cs.toArray ∧ Byt w' (.slice sk0 k.length ck0) k) (by as_aux_lemma => kernel_rfl) (by as_aux_lemma => kernel_rfl) (fun _ _ d _ _ h => by cases d <;> exact h) ⟨HK2.out.cell.drew, HK2.out.map.drew, hA2.drew, (HKV.out.later HB2.out).later (Below.refl _ _).drew⟩ (fun hS => ?_)
  have HK := Lib.hid HK2.out.drew
  have HB := Lib.hid HB2.out.drew
  generalize w2.drew = V at hS HK HB ⊢
  clear HK2 HB2 hA2 hc
  repeat (first | (refine RP.t_take (v := ?_) rfl rfl (fun w' hw' => ?_) ?_; rotate_left; (focus ((obtain ⟨hLf, hMf, hAf, hBf⟩ := hw'; obtain ⟨a0, a1, a2, a3, a4, a5, a6, a7⟩ := lies_addr hAf; have hc := hLf.cell 0; simp only [List.getElem?_toArray, List.getElem?_cons_zero] at hc; have hlA := look_okv hMf a; rw [HMO.out] at hlA; simp only [A8.v] at hlA; have hcv := hBf.conv); go_simp; (try go_bits); (try (with_reducible rfl)))); (try simp only [Act.put, List.setIfInBounds_toArray, List.set_cons_zero, List.set_cons_succ])) | (refine RP.t_skip rfl rfl ?_; (try simp only [Act.put, List.setIfInBounds_toArray, List.set_cons_zero, List.set_cons_succ])))
  refine t_run1 rfl rfl (fun KK hKK => ?_)
  refine wp_kdel (HK.out.vals _ (get_mem E0.out)) k HKL.out _ _ rfl rfl rfl ?_
  intro V2 m1 f1
  rw [cut_ikv] at m1
  have hR := HK.out.setK E0.out f1 m1 (fun c hc => HK.out.bts _ (get_mem E0.out) c (mem_cut.1 hc).1)
  have hnb : ¬ bl = m := fun e => HK.out.ne_bl (get_mem E0.out) e.symm
  have hno : ¬ bo = m := fun e => (HK.out.own' _ (get_mem E0.out)).2 e.symm
  have hna : ¬ W.heap.size = m := fun e => (HK.out.vals _ (get_mem E0.out)).not_lies (e ▸ hS.2.2.1)
  have HR := Lib.hid hR
  have hA := lies_fr hS.2.2.1 f1 hna
  have HF := Lib.hid ((Fr.of_below HB.out (Mp O bo)).trans (f1.mono (fun i _ e => Or.inr ⟨_, get_mem E0.out, e.symm⟩)))
  have HM1 := Lib.hid m1
  refine hKK.out _ _ ⟨lies_fr hS.1 f1 hnb, map_fr hS.2.1 f1 hno, hA, Byt.off_map hS.2.2.2 f1 (HK.out.vals _ (get_mem E0.out)).block⟩ ?_
  clear hKK KK m1 f1 hR hS HK HB hnb hno hna
  simp only [Act.put]
  refine RP.t_done ?_
  have HMO2 := Lib.hid (show mapOf (put O a (m, cut K k)) a = .map (some m) from by unfold mapOf; rw [get_put, if_pos rfl])
  have hc := HR.out.cell.cell 0
  simp only [List.getElem?_toArray, List.getElem?_cons_zero] at hc
  go_wp2_with fail
  by_cases hz : cut K k = []
  · rw [hz] at HM1
    have HZ := Lib.hid hz
    clear hz
    refine RP.region (RP.take 0 (RP.take 1 (RP.take 2 (RP.take 3 (RP.take 4 (RP.take 5 (RP.take 6 (RP.take 7 RP.done)))))))) (fun w' => Lies w' bl 105 #[.map (some bo)] ∧ Kt.IsMap A8.v w' bo ((put O a (m, cut K k)).map okv) ∧ Lies w' W.heap.size 24 a.cs.toArray ∧ KMap w' m []) (by as_aux_lemma => kernel_rfl) (by as_aux_lemma => kernel_rfl) (fun _ _ d _ _ h => by cases d <;> exact h) ⟨HR.out.cell.drew, HR.out.map.drew, hA.drew, HM1.out.fr (n := fun _ => False) (Fr.drew _ _) (fun h => h)⟩ (fun hS => ?_)
    have HK := Lib.hid HR.out.drew
    have HF2 := Lib.hid (HF.out.trans (Fr.drew _ _))
    generalize V2.drew = V3 at hS HK HF2 ⊢
    clear HR HF hA hc HM1
    repeat (first | (refine RP.t_take (v := ?_) rfl rfl (fun w' hw' => ?_) ?_; rotate_left; (focus ((obtain ⟨hLf, hMf, hAf, hBf⟩ := hw'; obtain ⟨a0, a1, a2, a3, a4, a5, a6, a7⟩ := lies_addr hAf; have hc := hLf.cell 0; simp only [List.getElem?_toArray, List.getElem?_cons_zero] at hc; have hlA := look_okv hMf a; rw [HMO2.out] at hlA; simp only [A8.v] at hlA; have hln := fun ty => hBf.len ty; simp only [List.length_nil] at hln); go_simp; (try go_bits); (try (with_reducible rfl)))); (try simp only [Act.put, List.setIfInBounds_toArray, List.set_cons_zero, List.set_cons_succ])) | (refine RP.t_skip rfl rfl ?_; (try simp only [Act.put, List.setIfInBounds_toArray, List.set_cons_zero, List.set_cons_succ])))
    refine RP.t_done ?_
    have hA := hS.2.2.1
    clear hS
    have hc := HK.out.cell.cell 0
    simp only [List.getElem?_toArray, List.getElem?_cons_zero] at hc
    go_wp2_with fail
    refine RP.region (RP.take 0 (RP.take 1 (RP.take 2 (RP.take 3 (RP.take 4 (RP.run 5 RP.done)))))) (fun w' => Lies w' bl 105 #[.map (some bo)] ∧ Lies w' W.heap.size 24 a.cs.toArray) (by as_aux_lemma => kernel_rfl) (by as_aux_lemma => kernel_rfl) (fun _ _ d _ _ h => by cases d <;> exact h) ⟨HK.out.cell.drew, hA.drew⟩ (fun hS => ?_)
    have HK4 := Lib.hid HK.out.drew
    have HF4 := Lib.hid (HF2.out.trans (Fr.drew _ _))
    generalize V3.drew = V4 at hS HK4 HF4 ⊢
    clear HK HF2 hA hc
    repeat (first | (refine RP.t_take (v := ?_) rfl rfl (fun w' hw' => ?_) ?_; rotate_left; (focus ((obtain ⟨hLf, hAf⟩ := hw'; obtain ⟨a0, a1, a2, a3, a4, a5, a6, a7⟩ := lies_addr hAf; have hc := hLf.cell 0; simp only [List.getElem?_toArray, List.getElem?_cons_zero] at hc); go_simp; (try go_bits); (try (with_reducible rfl)))); (try simp only [Act.put, List.setIfInBounds_toArray, List.set_cons_zero, List.set_cons_succ])) | (refine RP.t_skip rfl rfl ?_; (try simp only [Act.put, List.setIfInBounds_toArray, List.set_cons_zero, List.set_cons_succ])))
    refine t_run1 rfl rfl (fun KK hKK => ?_)
    refine wp_mapdel encAddr Try.underlying103 HK4.out.map a _ _ rfl rfl rfl ?_
    intro w' m1 g1 s1
    have hf : Fr V4 w' (fun i => i = bo) := (Fr.of_grown g1).mono (fun k _ e => by injection e)
    have hR := HK4.out.cutA a hf m1
    rw [cut_put] at hR
    have HR := Lib.hid hR
    have HF5 := Lib.hid (HF4.out.trans (hf.mono (fun i _ e => Or.inl e)))
    have hna : ¬ W.heap.size = bo := fun e => IsMap.not_lies HK4.out.map (e ▸ hS.2)
    refine hKK.out _ _ ⟨lies_fr hS.1 hf HK4.out.ne, lies_fr hS.2 hf hna⟩ ?_
    clear hKK KK m1 g1 s1 hf hR hS HK4 HF4 hna
    simp only [Act.put]
    refine RP.t_done ?_
    go_wp2_with fail
    go_ret
    refine ⟨_, rfl, HR.out, look_cutA a k (fun k' hne => ?_), fun hf p hp => hf p (mem_cut.1 hp).1, HF5.out⟩
    have : get (cut K k) k' = none := by rw [HZ.out]; rfl
    rw [get_cut, if_neg hne] at this
    rw [← HGK.out, this]
    rfl
  · have hn0 : (((cut K k).length : Int) == 0) = false := by
      have := List.length_pos_iff.2 hz
      simp
      exact hz
    have hpos : 0 < (cut K k).length := List.length_pos_iff.2 hz
    have HZ := Lib.hid hz
    have hli : ((cut K k).map ikv).length = (cut K k).length := List.length_map ..
    have HLI := Lib.hid hli
    obtain ⟨n, hn⟩ : ∃ n, (cut K k).length = n := ⟨_, rfl⟩
    rw [hn] at hn0 hpos HLI
    clear hz hli hn
    refine RP.region (RP.take 0 (RP.take 1 (RP.take 2 (RP.take 3 (RP.take 4 (RP.take 5 (RP.take 6 (RP.take 7 RP.done)))))))) (fun w' => Lies w' bl 105 #[.map (some bo)] ∧ Kt.IsMap A8.v w' bo ((put O a (m, cut K k)).map okv) ∧ Lies w' W.heap.size 24 a.cs.toArray ∧ KMap w' m ((cut K k).map ikv)) (by as_aux_lemma => kernel_rfl) (by as_aux_lemma => kernel_rfl) (fun _ _ d _ _ h => by cases d <;> exact h) ⟨HR.out.cell.drew, HR.out.map.drew, hA.drew, HM1.out.fr (n := fun _ => False) (Fr.drew _ _) (fun h => h)⟩ (fun hS => ?_)
    have HK := Lib.hid HR.out.drew
    have HF2 := Lib.hid (HF.out.trans (Fr.drew _ _))
    generalize V2.drew = V3 at hS HK HF2 ⊢
    clear HR HF hA hc HM1
    repeat (first | (refine RP.t_take (v := ?_) rfl rfl (fun w' hw' => ?_) ?_; rotate_left; (focus ((obtain ⟨hLf, hMf, hAf, hBf⟩ := hw'; obtain ⟨a0, a1, a2, a3, a4, a5, a6, a7⟩ := lies_addr hAf; have hc := hLf.cell 0; simp only [List.getElem?_toArray, List.getElem?_cons_zero] at hc; have hlA := look_okv hMf a; rw [HMO2.out] at hlA; simp only [A8.v] at hlA; have hln := fun ty => hBf.len ty; rw [HLI.out] at hln); go_simp; (try go_bits); (try (with_reducible rfl)))); (try simp only [Act.put, List.setIfInBounds_toArray, List.set_cons_zero, List.set_cons_succ])) | (refine RP.t_skip rfl rfl ?_; (try simp only [Act.put, List.setIfInBounds_toArray, List.set_cons_zero, List.set_cons_succ])))
    refine RP.t_done ?_
    clear hS
    go_wp2_with fail
    go_ret
    refine ⟨_, rfl, HK.out, look_cut a m K k HGK.out, fun hf p hp => ?_, HF2.out⟩
    rcases List.mem_cons.1 hp with rfl | hp
    · exact HZ.out
    · exact hf p (mem_cut.1 hp).1
end Go.Proofs.Yteeghdkejnhjnaa.Kv
