/- The walk of a book's Copy; clear of a slice of bytes. -/
import Derived.Test.YteeghdkejnhjnaaBoE
import Derived.Test.YteeghdkejnhjnaaClB
namespace Go.Proofs.Yteeghdkejnhjnaa.Bo
open Go Go.RowKit Kt Ad

/-- A row told with no more room than it has elements. -/
theorem WRow.full {W : World} {own : Nat → Prop} {e : TypeId} {size n cap : Nat} {s : Option Addr} {xs : List Value} (h : WRow W own e size (.slice s n cap) n xs) : WRow W own e size (.slice s n n) n xs := by
  refine ⟨h.1, ?_⟩
  rcases h.2 with ⟨e, h0⟩ | ⟨g, cap', cur, e, h0, hg, h1, h2, h3, h4⟩
  · injection e with e1 e2 e3
    subst e1 h0
    exact .inl ⟨rfl, rfl⟩
  · injection e with e1 e2 e3
    subst e1 e3
    exact .inr ⟨g, n, cur, rfl, h0, hg, Nat.le_refl _, by omega, Nat.le_trans (Nat.mul_le_mul_right size h1) h3, h4⟩
theorem zeroU8 (w : World) : (zeroValue 5).run Try.prog w = .ok (.int .u8 0) w := by kernel_rfl
/-- 'clear' of bytes of one's own: nothing but their block turns. -/
theorem run_clear_bts {W : World} {own : Nat → Prop} {v : Value} {b : List UInt8} (h : Bts W own v b) (ty : TypeId) :
    ∃ W', (Builtin.clear_ #[25] ty #[v]).run Try.prog W = .ok (.tuple #[]) W' ∧ Fr W W' (fun k => some k = v.ownBlock) := by
  rcases h.1.2 with ⟨rfl, _⟩ | ⟨g, cap, cur, rfl, _, hg, h1, h2, h3, h4⟩
  · refine ⟨W, ?_, Fr.refl _ _⟩
    simp [Builtin.clear_, run_underlying Try.underlying25]
  · by_cases h0 : b.length = 0
    · refine ⟨W, ?_, Fr.refl _ _⟩
      rw [h0]
      simp [Builtin.clear_, run_underlying Try.underlying25]
    · refine ⟨_, Lib.run_clear_slice (P := Try.prog) W _ _ ty (.int .u8 0) Try.underlying25 zeroU8 rfl rfl g 0 b.length cap (by omega) (fun j hj => ?_) (fun j hj => ?_), ?_⟩
      · simp only [World.cell?, hg, Nat.zero_add]
        rw [Array.getElem?_eq_getElem (by omega)]; rfl
      · simp [World.frozen?, hg]
      · exact ⟨World.os_setCells _ _ _ _, tape_setCells _ _ _ _, World.output_setCells _ _ _ _, Nat.le_of_eq (size_setCells _ _ _ _).symm, fun k hk hn => World.heap_setCells_other W g _ _ hk (fun e => hn (by rw [e]; rfl))⟩
theorem wl_clear {ops : Array Oper} {rest : List Oper} {o : Oper} {a : Act} {w : World} {Q : Exit → Act → World → Prop} {own : Nat → Prop} {v : Value} {b : List UInt8} (h : Bts w own v b) (p : Operand) (hg : o.guard = none)
    (hop : o.op = Op.call { callee := Callee.builtin Builtin.clear, args := #[p], argTypes := #[25] }) (hv : a.eval p = v)
    (hK : ∀ w', Fr w w' (fun k => some k = v.ownBlock) → wpList Try.prog ops Q rest (a.put o.dst (.tuple #[])) w') : wpList Try.prog ops Q (o :: rest) a w := by
  refine wpList_plain hg fun K' hK' => ?_
  obtain ⟨w', hrun, r1⟩ := run_clear_bts h o.type
  unfold Oper.wp
  simp [execOp, hop, resolve, invoke, builtin, hv, hrun, Result.andThen]
  exact hK' _ _ (hK w' r1)

set_option maxRecDepth 100000 in
set_option maxHeartbeats 4000000 in
theorem copy_any {W : World} {own : Nat → Prop} {bl bm : Nat} {vr : Value} {E : List Ev} {C : Cs} (h : Bk W own bl bm vr E C) :
    Calls Try.prog 29 #[.pointer (some ⟨bl, 0, none⟩)] W fun e w' => ∃ bl' bm' vr', e = .returned (.pointer (some ⟨bl', 0, none⟩)) ∧ Bk w' (fun k => own k ∨ W.heap.size ≤ k) bl' bm' vr' E C ∧ (∀ i, vr'.ownBlock = some i → vr.ownBlock = some i) ∧ (∃ s, vr' = .slice s E.length E.length) ∧ W.heap.size ≤ bl' ∧ W.heap.size ≤ bm' ∧ Below W.heap.size W w' := by
  obtain ⟨s, cap, rfl, hle, hs⟩ := h.form
  have hc := h.cell.cell 0
  have hc1 := h.cell.cell 1
  simp only [List.getElem?_toArray, List.getElem?_cons_zero, List.getElem?_cons_succ] at hc hc1
  have H := Lib.hid h
  clear h
  go_enter Try.func29, Try.ntmps29
  go_wp2_with fail
  refine RP.region (RP.take 0 (RP.take 1 (RP.take 2 (RP.take 3 (RP.take 4 (RP.take 5 (RP.take 6 (RP.take 7 (RP.take 8 (RP.take 9 (RP.take 10 (RP.run 11 (RP.take 12 (RP.run 13 (RP.take 14 RP.done))))))))))))))) (fun w' => Lies w' bl 112 #[.slice s E.length cap, .map (some bm)]) (by as_aux_lemma => kernel_rfl) (by as_aux_lemma => kernel_rfl) (fun _ _ d _ _ h => by cases d <;> exact h) H.out.cell.drew (fun hS => ?_)
  have HD := Lib.hid H.out.drew
  have HB := Lib.hid (Below.refl W.heap.size W).drew
  generalize W.drew = V at hS HD HB ⊢
  clear hc hc1
  repeat (first | (refine RP.t_take (v := ?_) rfl rfl (fun w' hw' => ?_) ?_; rotate_left; (focus ((have hc := hw'.cell 0; have hc1 := hw'.cell 1; simp only [List.getElem?_toArray, List.getElem?_cons_zero, List.getElem?_cons_succ] at hc hc1); go_simp; (try go_bits); (try (with_reducible rfl)))); (try simp only [Act.put, List.setIfInBounds_toArray, List.set_cons_zero, List.set_cons_succ])) | (refine RP.t_skip rfl rfl ?_; (try simp only [Act.put, List.setIfInBounds_toArray, List.set_cons_zero, List.set_cons_succ])))
  refine RP.t_run rfl (fun K hK => ?_)
  go_simp
  refine (clone_book HD.out.map).mono ?_
  rintro en V1 ⟨rfl, hm2, o, rfl⟩
  have HM2 := Lib.hid hm2
  clear hm2
  refine hK.out _ _ (hS.alloc o) ?_
  clear hK K
  (try simp only [Act.put, List.setIfInBounds_toArray, List.set_cons_zero, List.set_cons_succ])
  repeat (first | (refine RP.t_take (v := ?_) rfl rfl (fun w' hw' => ?_) ?_; rotate_left; (focus ((have hc := hw'.cell 0; have hc1 := hw'.cell 1; simp only [List.getElem?_toArray, List.getElem?_cons_zero, List.getElem?_cons_succ] at hc hc1); go_simp; (try go_bits); (try (with_reducible rfl)))); (try simp only [Act.put, List.setIfInBounds_toArray, List.set_cons_zero, List.set_cons_succ])) | (refine RP.t_skip rfl rfl ?_; (try simp only [Act.put, List.setIfInBounds_toArray, List.set_cons_zero, List.set_cons_succ])))
  refine RP.t_run rfl (fun K hK => ?_)
  go_simp
  refine hK.out _ _ ((hS.alloc o).alloc _) ?_
  clear hK K
  (try simp only [Act.put, List.setIfInBounds_toArray, List.set_cons_zero, List.set_cons_succ])
  repeat (first | (refine RP.t_take (v := ?_) rfl rfl (fun w' hw' => ?_) ?_; rotate_left; (focus ((have hc := hw'.cell 0; have hc1 := hw'.cell 1; simp only [List.getElem?_toArray, List.getElem?_cons_zero, List.getElem?_cons_succ] at hc hc1); go_simp; (try go_bits); (try (with_reducible rfl)))); (try simp only [Act.put, List.setIfInBounds_toArray, List.set_cons_zero, List.set_cons_succ])) | (refine RP.t_skip rfl rfl ?_; (try simp only [Act.put, List.setIfInBounds_toArray, List.set_cons_zero, List.set_cons_succ])))
  refine RP.t_done ?_
  go_wp2_with fail
  go_ret
  have hsz := HB.out.size
  have hb2 : Below V.heap.size V ((V.alloc o).alloc (.cells #[.slice s E.length E.length, .map (some V.heap.size)] 112)) := ((Below.refl _ _).alloc (Nat.le_refl _) o).alloc (by simp) _
  have hL := (HD.out.later hb2).mono (own' := fun k => own k ∨ W.heap.size ≤ k) (fun k _ hk => Or.inl hk)
  refine ⟨V.heap.size + 1, V.heap.size, .slice s E.length E.length, rfl, ⟨?_, hL.row.full, hL.evs, HM2.out.alloc _, hL.codes, hL.rise, Or.inr (by omega), Or.inr hsz⟩, fun i e => by cases s <;> exact e, ⟨s, rfl⟩, by omega, hsz, HB.out.trans (hb2.mono hsz)⟩
  have := Lies.new (V.alloc o) 112 #[.slice s E.length E.length, .map (some V.heap.size)]
  rw [World.size_alloc] at this
  exact this
end Go.Proofs.Yteeghdkejnhjnaa.Bo
