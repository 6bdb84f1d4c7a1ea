/- The walk of the document's SetCode. -/
import Derived.Test.YteeghdkejnhjnaaBoH
namespace Go.Proofs.Yteeghdkejnhjnaa.Bo
open Go Go.RowKit Go.Lib Kt Ad

theorem Sc.store {W V : World} {own : Nat → Prop} {br : Nat} {vl vc o : Value} {E : List Ev} {C O : Cs} {a : A8} (h : Sc W V own br vl vc E C a O o) (ho : ∀ i, W.heap.size ≤ i → own i) : Rk (V.setCell ⟨br, 1, none⟩ o) own br vl o E O := by
  have hf : Fr V (V.setCell ⟨br, 1, none⟩ o) (fun i => i = br) := Fr.setCell V _ _
  have hty : ∀ k, k = br → ∀ cur, ¬ Lies V k 5 cur := fun k e cur hl => by subst e; exact absurd (lies_uniq h.rk.cell hl) (by decide)
  have hm := h.rk.mono (own' := own) (fun k _ hk => hk.1)
  have hr := WRow.of_own h.out ho
  refine ⟨?_, hm.row.kept hf (fun k _ hk e => ?_), fun x hx => (hm.evs x hx).kept_ty hf hty, hr.kept hf (fun k _ hk e => ?_), fun c hc => ((h.cds c hc).mono (own' := own) (fun k _ hk => hk.elim id (ho k))).kept_ty hf hty, hm.obr⟩
  · have := h.rk.cell.set 1 o
    simpa using this
  · obtain ⟨_, _, cur, hg⟩ := wrow_lt hm.row hk.symm
    subst e
    exact absurd (lies_uniq h.rk.cell hg) (by decide)
  · obtain ⟨_, _, cur, hg⟩ := wrow_lt hr hk.symm
    subst e
    exact absurd (lies_uniq h.rk.cell hg) (by decide)
theorem Sc.store_fr {W V : World} {own : Nat → Prop} {br : Nat} {vl vc o : Value} {E : List Ev} {C O : Cs} {a : A8} (h : Sc W V own br vl vc E C a O o) : Fr W (V.setCell ⟨br, 1, none⟩ o) own :=
  (Fr.of_below h.below own).trans ((Fr.setCell V _ _).mono (fun _ _ e => e ▸ h.rk.obr.1))
set_option maxRecDepth 100000 in
set_option maxHeartbeats 8000000 in
theorem rsetcode_any {W : World} {own : Nat → Prop} {br : Nat} {vl vc : Value} {E : List Ev} {C : Cs} (h : Rk W own br vl vc E C) (ho : ∀ i, W.heap.size ≤ i → own i) (hN : C.length ≤ 100000) (a : A8) {v : Value} {b : List UInt8} (hv : Byt W v b) (hn : b.length ≤ 1000000000) :
    Calls Try.prog 28 #[.pointer (some ⟨br, 0, none⟩), a.v, v] W fun e w' => e = .returned (.tuple #[]) ∧ ∃ vc' C', Rk w' own br vl vc' E C' ∧ Al.turn (·.2) C' = Al.insGo (a, b) (decide (b = [])) (Al.turn (·.2) C) ∧ Fr W w' own := by
  have HV := Lib.hid hv
  obtain ⟨s0, c0, rfl, _⟩ := hv
  obtain ⟨s, cap, rfl, hle, hs⟩ := h.crow.form
  have HS := Lib.hid hs
  have hb1 := (Below.refl W.heap.size W).alloc (Nat.le_refl _) (.cells a.cs.toArray 24)
  have HSC0 := Lib.hid (show Sc W (W.alloc (.cells a.cs.toArray 24)) own br vl (.slice s C.length cap) E C a [] (.slice none 0 0) from
    ⟨World.ownsRow_nil _ _ _ _, by simp, (h.mono (own' := fun i => own i ∧ i < W.heap.size) (fun k hk ho => ⟨ho, hk⟩)).later hb1, Lies.new W _ _, hb1⟩)
  clear hs hb1 h hle
  obtain ⟨R, hR⟩ : ∃ R, R = Al.insGo (a, b) (decide (b = [])) (Al.turn (·.2) C) := ⟨_, rfl⟩
  rw [← hR]
  have HR0 := Lib.hid hR
  clear hR
  obtain ⟨d0, hd0⟩ : ∃ d0, ((b.length : Int) == 0) = d0 := ⟨_, rfl⟩
  have hbd : decide (b = []) = d0 := by
    rw [← hd0]
    by_cases h0 : b = []
    · subst h0; rfl
    · have := List.length_pos_iff.2 h0
      rw [decide_eq_false h0, eq_comm, beq_eq_false_iff_ne]
      omega
  rw [hbd] at HR0
  clear hbd
  simp only [A8.v]
  all_goals
    go_enter Try.func28, Try.ntmps28
    go_wp2_with fail
    clear hd0
    go_loopw [6, 7, 8] (fun ov dv i wr => ∃ (j : Nat) (d : Bool) (O : Cs) (o : Value), j ≤ C.length ∧ i = .int .i64 j ∧ dv = .bool d ∧ ov = o ∧ Al.turn (·.2) O ++ Al.insGo (a, b) d (Al.turn (·.2) (C.drop j)) = R ∧ O.length ≤ 2 * j ∧ Sc W wr own br vl (.slice s C.length cap) E C a O o)
      (fun _ _ i _ => C.length - (intOf i).toNat)
    case atStart => exact ⟨0, d0, [], _, by omega, rfl, rfl, rfl, by rw [HR0.out]; rfl, by simp, HSC0.out⟩
    case round =>
      clear HSC0
      obtain ⟨j, d, O, o, hj, rfl, rfl, rfl, hG, hOl, hSC⟩ := hrel
      obtain ⟨so, co, rfl⟩ := own_form hSC.out
      have HG := Lib.hid hG
      have HSC := Lib.hid hSC
      clear hG hSC
      have hc1 := HSC.out.rk.cell.cell 1
      simp only [List.getElem?_toArray, List.getElem?_cons_zero, List.getElem?_cons_succ] at hc1
      by_cases hlt : j < C.length
      · obtain ⟨y, hx⟩ : ∃ y, C[j]? = some y := ⟨_, List.getElem?_eq_getElem hlt⟩
        obtain ⟨g, rfl, _⟩ := HS.out (by omega)
        obtain ⟨ya, yv, yb⟩ := y
        obtain ⟨sy, cy, hyv⟩ := (HSC.out.rk.cds _ (List.mem_of_getElem? hx)).form
        simp only at hyv
        subst hyv
        have HG2 := Lib.hid (show Al.turn (·.2) O ++ Al.insGo (a, b) d ((ya, yb) :: Al.turn (·.2) (C.drop (j + 1))) = R from by
          rw [← HG.out, List.drop_eq_getElem_cons hlt, (List.getElem?_eq_some_iff.1 hx).2]
          rfl)
        have HX := Lib.hid hx
        clear hx HG
        cases d with
        | true =>
          by_cases hya : ya = a
          · as_aux_lemma =>
              have HG3 := Lib.hid (show Al.turn (·.2) O ++ Al.insGo (a, b) true (Al.turn (·.2) (C.drop (j + 1))) = R from by rw [← HG2.out, insGo_step, if_neg (by simp), if_neg (by simp [hya])]; simp)
              obtain rfl : a = ya := hya.symm
              go_wp2_with fail
              clear hc1
              refine RP.region (RP.take 0 (RP.take 1 (RP.take 2 (RP.take 3 (RP.take 4 (RP.take 5 (RP.take 6 (RP.take 7 (RP.take 8 (RP.take 9 (RP.take 10 (RP.take 11 (RP.run 12 (RP.take 13 RP.done)))))))))))))) (fun w' => Rk w' (fun i => own i ∧ i < W.heap.size) br vl (.slice (some ⟨g, 0, none⟩) C.length cap) E C ∧ Lies w' W.heap.size 24 a.cs.toArray) (by as_aux_lemma => kernel_rfl) (by as_aux_lemma => kernel_rfl) (fun _ _ d _ _ h => by cases d <;> exact h) ⟨HSC.out.drew.rk, HSC.out.drew.box⟩ (fun hS => ?_)
              clear hS
              replace HSC := Lib.hid HSC.out.drew
              generalize wr.drew = U1 at HSC ⊢
              repeat (first | (refine RP.t_take (v := ?_) rfl rfl (fun w' hw' => ?_) ?_; rotate_left; (focus ((obtain ⟨hRf, hAf⟩ := hw'; obtain ⟨a0, a1, a2, a3, a4, a5, a6, a7⟩ := lies_addr hAf; have hc1 := hRf.cell.cell 1; simp only [List.getElem?_toArray, List.getElem?_cons_zero, List.getElem?_cons_succ] at hc1; obtain ⟨c0, c1, c2, c3, c4, c5, c6, c7, c8⟩ := cd_cells hRf.crow HX.out); go_simp; (try go_bits); (try (with_reducible rfl)))); (try simp only [Act.put, List.setIfInBounds_toArray, List.set_cons_zero, List.set_cons_succ])) | (refine RP.t_skip rfl rfl ?_; (try simp only [Act.put, List.setIfInBounds_toArray, List.set_cons_zero, List.set_cons_succ])))
              refine RP.t_run rfl (fun KK hKK => ?_)
              go_simp
              refine hKK.out _ _ ⟨HSC.out.rk, HSC.out.box⟩ ?_
              clear hKK KK
              (try simp only [Act.put, List.setIfInBounds_toArray, List.set_cons_zero, List.set_cons_succ])
              repeat (first | (refine RP.t_take (v := ?_) rfl rfl (fun w' hw' => ?_) ?_; rotate_left; (focus ((obtain ⟨hRf, hAf⟩ := hw'; obtain ⟨a0, a1, a2, a3, a4, a5, a6, a7⟩ := lies_addr hAf; have hc1 := hRf.cell.cell 1; simp only [List.getElem?_toArray, List.getElem?_cons_zero, List.getElem?_cons_succ] at hc1; obtain ⟨c0, c1, c2, c3, c4, c5, c6, c7, c8⟩ := cd_cells hRf.crow HX.out); go_simp; (try go_bits); (try (with_reducible rfl)))); (try simp only [Act.put, List.setIfInBounds_toArray, List.set_cons_zero, List.set_cons_succ])) | (refine RP.t_skip rfl rfl ?_; (try simp only [Act.put, List.setIfInBounds_toArray, List.set_cons_zero, List.set_cons_succ])))
              refine RP.t_done ?_
              go_wp2_with fail
              refine RP.region (RP.take 0 (RP.take 1 (RP.take 2 (RP.take 3 (RP.take 4 (RP.take 5 (RP.take 6 (RP.take 7 (RP.take 8 (RP.take 9 RP.done)))))))))) (fun w' => Rk w' (fun i => own i ∧ i < W.heap.size) br vl (.slice (some ⟨g, 0, none⟩) C.length cap) E C ∧ Lies w' W.heap.size 24 a.cs.toArray) (by as_aux_lemma => kernel_rfl) (by as_aux_lemma => kernel_rfl) (fun _ _ d _ _ h => by cases d <;> exact h) ⟨HSC.out.drew.rk, HSC.out.drew.box⟩ (fun hS => ?_)
              clear hS
              replace HSC := Lib.hid HSC.out.drew
              generalize U1.drew = U2 at HSC ⊢
              repeat (first | (refine RP.t_take (v := ?_) rfl rfl (fun w' hw' => ?_) ?_; rotate_left; (focus ((obtain ⟨hRf, hAf⟩ := hw'; obtain ⟨a0, a1, a2, a3, a4, a5, a6, a7⟩ := lies_addr hAf; have hc1 := hRf.cell.cell 1; simp only [List.getElem?_toArray, List.getElem?_cons_zero, List.getElem?_cons_succ] at hc1; obtain ⟨c0, c1, c2, c3, c4, c5, c6, c7, c8⟩ := cd_cells hRf.crow HX.out); go_simp; (try go_bits); (try (with_reducible rfl)))); (try simp only [Act.put, List.setIfInBounds_toArray, List.set_cons_zero, List.set_cons_succ])) | (refine RP.t_skip rfl rfl ?_; (try simp only [Act.put, List.setIfInBounds_toArray, List.set_cons_zero, List.set_cons_succ])))
              refine RP.t_done ?_
              go_wp2_with fail
              go_roundw
              case rel => exact ⟨j + 1, true, O, _, by omega, by go_num, rfl, rfl, HG3.out, by omega, HSC.out⟩
              case measure => simp [intOf]; omega
          · as_aux_lemma =>
              have HG3 := Lib.hid (show Al.turn (·.2) (O ++ [(ya, (.slice sy yb.length cy, yb))]) ++ Al.insGo (a, b) true (Al.turn (·.2) (C.drop (j + 1))) = R from by rw [← HG2.out, insGo_step, if_neg (by simp), if_pos hya, turn_app]; simp [Al.turn])
              go_wp2_with fail
              clear hc1
              refine RP.region (RP.take 0 (RP.take 1 (RP.take 2 (RP.take 3 (RP.take 4 (RP.take 5 (RP.take 6 (RP.take 7 (RP.take 8 (RP.take 9 (RP.take 10 (RP.take 11 (RP.run 12 (RP.take 13 RP.done)))))))))))))) (fun w' => Rk w' (fun i => own i ∧ i < W.heap.size) br vl (.slice (some ⟨g, 0, none⟩) C.length cap) E C ∧ Lies w' W.heap.size 24 a.cs.toArray) (by as_aux_lemma => kernel_rfl) (by as_aux_lemma => kernel_rfl) (fun _ _ d _ _ h => by cases d <;> exact h) ⟨HSC.out.drew.rk, HSC.out.drew.box⟩ (fun hS => ?_)
              clear hS
              replace HSC := Lib.hid HSC.out.drew
              generalize wr.drew = U3 at HSC ⊢
              repeat (first | (refine RP.t_take (v := ?_) rfl rfl (fun w' hw' => ?_) ?_; rotate_left; (focus ((obtain ⟨hRf, hAf⟩ := hw'; obtain ⟨a0, a1, a2, a3, a4, a5, a6, a7⟩ := lies_addr hAf; have hc1 := hRf.cell.cell 1; simp only [List.getElem?_toArray, List.getElem?_cons_zero, List.getElem?_cons_succ] at hc1; obtain ⟨c0, c1, c2, c3, c4, c5, c6, c7, c8⟩ := cd_cells hRf.crow HX.out); go_simp; (try go_bits); (try (with_reducible rfl)))); (try simp only [Act.put, List.setIfInBounds_toArray, List.set_cons_zero, List.set_cons_succ])) | (refine RP.t_skip rfl rfl ?_; (try simp only [Act.put, List.setIfInBounds_toArray, List.set_cons_zero, List.set_cons_succ])))
              refine RP.t_run rfl (fun KK hKK => ?_)
              go_simp
              refine hKK.out _ _ ⟨HSC.out.rk, HSC.out.box⟩ ?_
              clear hKK KK
              (try simp only [Act.put, List.setIfInBounds_toArray, List.set_cons_zero, List.set_cons_succ])
              repeat (first | (refine RP.t_take (v := ?_) rfl rfl (fun w' hw' => ?_) ?_; rotate_left; (focus ((obtain ⟨hRf, hAf⟩ := hw'; obtain ⟨a0, a1, a2, a3, a4, a5, a6, a7⟩ := lies_addr hAf; have hc1 := hRf.cell.cell 1; simp only [List.getElem?_toArray, List.getElem?_cons_zero, List.getElem?_cons_succ] at hc1; obtain ⟨c0, c1, c2, c3, c4, c5, c6, c7, c8⟩ := cd_cells hRf.crow HX.out); go_simp; (try go_bits); (try (with_reducible rfl)))); (try simp only [Act.put, List.setIfInBounds_toArray, List.set_cons_zero, List.set_cons_succ])) | (refine RP.t_skip rfl rfl ?_; (try simp only [Act.put, List.setIfInBounds_toArray, List.set_cons_zero, List.set_cons_succ])))
              refine RP.t_done ?_
              go_wp2_with fail
              refine RP.region (RP.take 0 (RP.take 1 (RP.take 2 (RP.take 3 (RP.take 4 (RP.take 5 (RP.take 6 (RP.take 7 (RP.take 8 (RP.take 9 RP.done)))))))))) (fun w' => Rk w' (fun i => own i ∧ i < W.heap.size) br vl (.slice (some ⟨g, 0, none⟩) C.length cap) E C ∧ Lies w' W.heap.size 24 a.cs.toArray) (by as_aux_lemma => kernel_rfl) (by as_aux_lemma => kernel_rfl) (fun _ _ d _ _ h => by cases d <;> exact h) ⟨HSC.out.drew.rk, HSC.out.drew.box⟩ (fun hS => ?_)
              clear hS
              replace HSC := Lib.hid HSC.out.drew
              generalize U3.drew = U4 at HSC ⊢
              repeat (first | (refine RP.t_take (v := ?_) rfl rfl (fun w' hw' => ?_) ?_; rotate_left; (focus ((obtain ⟨hRf, hAf⟩ := hw'; obtain ⟨a0, a1, a2, a3, a4, a5, a6, a7⟩ := lies_addr hAf; have hc1 := hRf.cell.cell 1; simp only [List.getElem?_toArray, List.getElem?_cons_zero, List.getElem?_cons_succ] at hc1; obtain ⟨c0, c1, c2, c3, c4, c5, c6, c7, c8⟩ := cd_cells hRf.crow HX.out); go_simp; (try go_bits); (try (with_reducible rfl)))); (try simp only [Act.put, List.setIfInBounds_toArray, List.set_cons_zero, List.set_cons_succ])) | (refine RP.t_skip rfl rfl ?_; (try simp only [Act.put, List.setIfInBounds_toArray, List.set_cons_zero, List.set_cons_succ])))
              refine RP.t_done ?_
              have hc1 := HSC.out.rk.cell.cell 1
              simp only [List.getElem?_toArray, List.getElem?_cons_zero, List.getElem?_cons_succ] at hc1
              have HRE := Lib.hid (show U4.rangeAt g (j * 9) (cdc (ya, (.slice sy yb.length cy, yb))) from fun t v hv => by
                have ht : t < 9 := by have := (List.getElem?_eq_some_iff.1 hv).1; rwa [cdc_len] at this
                exact (wrow_cell cdc_len HSC.out.rk.crow HX.out ht).trans hv)
              have HYB := Lib.hid (show Bts U4 (fun i => own i ∨ W.heap.size ≤ i) (.slice sy yb.length cy) yb from (HSC.out.rk.cds _ (List.mem_of_getElem? HX.out)).mono (fun i _ hi => Or.inl hi.1))
              have hgw : g < U4.heap.size := (wrow_lt HSC.out.rk.crow rfl).1
              go_wp2_with (first | (refine wl_loadC (ya, (.slice sy yb.length cy, yb)) g (j * 9) HRE.out _ rfl rfl rfl ?_; simp only [Act.put, List.setIfInBounds_toArray, List.set_cons_zero, List.set_cons_succ]) | (refine wl_bsliceC ya sy yb.length cy yb _ rfl rfl rfl ?_; simp only [Act.put, List.setIfInBounds_toArray, List.set_cons_zero, List.set_cons_succ]) | (refine wl_append_cd (HSC.out.later ((Below.refl _ _).alloc (Nat.le_refl _) (.cells (cdc (ya, (.slice sy yb.length cy, yb))).toArray 70))).out (by have := HSC.out.below.size; simp only [World.size_alloc]; omega) (by omega) _ ya sy yb.length cy yb (cells_new _ _ _) _ _ rfl rfl rfl rfl (fun v' U5 hv hg => ?_); obtain ⟨so3, co3, hv'⟩ := own_form hv; subst hv'; replace HSC := Lib.hid ((HSC.out.later ((Below.refl _ _).alloc (Nat.le_refl _) (.cells (cdc (ya, (.slice sy yb.length cy, yb))).toArray 70))).push (HYB.out.kept (m := fun _ => False) (Fr.alloc _ _ _) (fun _ _ h => h)) hv hg); clear hv hg hc1 hgw; simp only [Act.put, List.setIfInBounds_toArray, List.set_cons_zero, List.set_cons_succ]))
              go_roundw
              case rel => exact ⟨j + 1, true, O ++ [(ya, (.slice sy yb.length cy, yb))], _, by omega, by go_num, rfl, rfl, HG3.out, by simp only [List.length_append, List.length_cons, List.length_nil]; omega, HSC.out⟩
              case measure => simp [intOf]; omega
        | false =>
          by_cases hlt2 : a.num < ya.num
          · as_aux_lemma =>
              have hya : ya ≠ a := fun e => by rw [e] at hlt2; omega
              have HG3 := Lib.hid (show ∀ vx, Al.turn (·.2) ((O ++ [(a, (vx, b))]) ++ [(ya, (.slice sy yb.length cy, yb))]) ++ Al.insGo (a, b) true (Al.turn (·.2) (C.drop (j + 1))) = R from fun vx => by rw [← HG2.out, insGo_step, if_pos (by simpa using hlt2), if_pos hya, turn_app, turn_app]; simp [Al.turn, hlt2])
              go_wp2_with fail
              clear hc1
              refine RP.region (RP.take 0 (RP.take 1 (RP.take 2 (RP.take 3 (RP.take 4 (RP.take 5 (RP.take 6 (RP.take 7 (RP.take 8 (RP.take 9 (RP.take 10 (RP.take 11 (RP.run 12 (RP.take 13 RP.done)))))))))))))) (fun w' => Rk w' (fun i => own i ∧ i < W.heap.size) br vl (.slice (some ⟨g, 0, none⟩) C.length cap) E C ∧ Lies w' W.heap.size 24 a.cs.toArray) (by as_aux_lemma => kernel_rfl) (by as_aux_lemma => kernel_rfl) (fun _ _ d _ _ h => by cases d <;> exact h) ⟨HSC.out.drew.rk, HSC.out.drew.box⟩ (fun hS => ?_)
              clear hS
              replace HSC := Lib.hid HSC.out.drew
              generalize wr.drew = U6 at HSC ⊢
              repeat (first | (refine RP.t_take (v := ?_) rfl rfl (fun w' hw' => ?_) ?_; rotate_left; (focus ((obtain ⟨hRf, hAf⟩ := hw'; obtain ⟨a0, a1, a2, a3, a4, a5, a6, a7⟩ := lies_addr hAf; have hc1 := hRf.cell.cell 1; simp only [List.getElem?_toArray, List.getElem?_cons_zero, List.getElem?_cons_succ] at hc1; obtain ⟨c0, c1, c2, c3, c4, c5, c6, c7, c8⟩ := cd_cells hRf.crow HX.out); go_simp; (try go_bits); (try (with_reducible rfl)))); (try simp only [Act.put, List.setIfInBounds_toArray, List.set_cons_zero, List.set_cons_succ])) | (refine RP.t_skip rfl rfl ?_; (try simp only [Act.put, List.setIfInBounds_toArray, List.set_cons_zero, List.set_cons_succ])))
              refine RP.t_run rfl (fun KK hKK => ?_)
              go_simp
              refine (less_any a ya _).mono ?_
              rintro ex U7 ⟨rfl, hb⟩
              replace HSC := Lib.hid (HSC.out.later hb)
              clear hb
              rw [decide_eq_true hlt2]
              refine hKK.out _ _ ⟨HSC.out.rk, HSC.out.box⟩ ?_
              clear hKK KK
              (try simp only [Act.put, List.setIfInBounds_toArray, List.set_cons_zero, List.set_cons_succ])
              repeat (first | (refine RP.t_take (v := ?_) rfl rfl (fun w' hw' => ?_) ?_; rotate_left; (focus ((obtain ⟨hRf, hAf⟩ := hw'; obtain ⟨a0, a1, a2, a3, a4, a5, a6, a7⟩ := lies_addr hAf; have hc1 := hRf.cell.cell 1; simp only [List.getElem?_toArray, List.getElem?_cons_zero, List.getElem?_cons_succ] at hc1; obtain ⟨c0, c1, c2, c3, c4, c5, c6, c7, c8⟩ := cd_cells hRf.crow HX.out); go_simp; (try go_bits); (try (with_reducible rfl)))); (try simp only [Act.put, List.setIfInBounds_toArray, List.set_cons_zero, List.set_cons_succ])) | (refine RP.t_skip rfl rfl ?_; (try simp only [Act.put, List.setIfInBounds_toArray, List.set_cons_zero, List.set_cons_succ])))
              refine RP.t_done ?_
              go_wp2_with fail
              refine RP.region (RP.take 0 (RP.take 1 (RP.take 3 (RP.run 2 (RP.run 4 (RP.take 5 (RP.run 6 (RP.run 7 (RP.take 8 RP.done))))))))) (fun w' => Lies w' W.heap.size 24 a.cs.toArray) (by as_aux_lemma => kernel_rfl) (by as_aux_lemma => kernel_rfl) (fun _ _ d _ _ h => by cases d <;> exact h) HSC.out.drew.box (fun hS => ?_)
              clear hS
              replace HSC := Lib.hid HSC.out.drew
              generalize U7.drew = U8 at HSC ⊢
              repeat (first | (refine RP.t_take (v := ?_) rfl rfl (fun w' hw' => ?_) ?_; rotate_left; (focus ((have hAf := hw'; obtain ⟨a0, a1, a2, a3, a4, a5, a6, a7⟩ := lies_addr hAf); go_simp; (try go_bits); (try (with_reducible rfl)))); (try simp only [Act.put, List.setIfInBounds_toArray, List.set_cons_zero, List.set_cons_succ])) | (refine RP.t_skip rfl rfl ?_; (try simp only [Act.put, List.setIfInBounds_toArray, List.set_cons_zero, List.set_cons_succ])))
              refine RP.t_run rfl (fun KK hKK => ?_)
              go_simp
              have HO := Lib.hid (show (U8.alloc (.cells #[] 5)).ownsRow U8.heap.size 5 1 (.slice (some ⟨U8.heap.size, 0, none⟩) 0 0) 0 [] from World.ownsRow_made U8 #[] 0 (Nat.le_refl _) (Nat.zero_le _) rfl)
              have hb : Below U8.heap.size U8 (U8.alloc (.cells #[] 5)) := (Below.refl _ _).alloc (Nat.le_refl _) _
              have hsa : U8.heap.size ≤ (U8.alloc (.cells #[] 5)).heap.size := hb.size
              refine hKK.out _ _ (HSC.out.later hb).box ?_
              clear hKK KK
              have HBY := Lib.hid (HV.out.later (HSC.out.later hb).below)
              have HBA := Lib.hid hb
              clear hb
              generalize U8.alloc (.cells #[] 5) = U9 at HO hsa HBY HBA ⊢
              (try simp only [Act.put, List.setIfInBounds_toArray, List.set_cons_zero, List.set_cons_succ])
              refine t_run1 rfl rfl (fun KK hKK => ?_)
              refine wp_append_bytes HO.out hsa HBY.out hn _ _ rfl rfl rfl (fun v' U10 hv hg => ?_)
              obtain ⟨s', c', hv'⟩ := own_form hv
              subst hv'
              have hb : Below U8.heap.size U8 U10 := HBA.out.grown hg hsa (fun i e => by injection e with e; omega)
              have hsw : W.heap.size ≤ U8.heap.size := HSC.out.below.size
              have HT := Lib.hid (show Bts U10 (fun i => own i ∨ W.heap.size ≤ i) (.slice s' b.length c') b from ⟨hv.mono (Nat.zero_le _), fun i e => Or.inr (Nat.le_trans hsw (hv.lt i e).1)⟩)
              replace HSC := Lib.hid (HSC.out.later hb)
              refine hKK.out _ _ HSC.out.box ?_
              clear hKK KK hv hg hb HO HBY HBA hsa hsw
              (try simp only [Act.put, List.setIfInBounds_toArray, List.set_cons_zero, List.set_cons_succ])
              refine RP.t_take (v := .agg (cdc (a, (.slice s' b.length c', b))).toArray) rfl rfl (fun w' _ => exec_buildC a s' b.length c' b _ _ rfl rfl rfl w') ?_
              (try simp only [Act.put, List.setIfInBounds_toArray, List.set_cons_zero, List.set_cons_succ])
              refine t_run1 rfl rfl (fun KK hKK => ?_)
              refine wp_bsliceC a s' b.length c' b _ rfl rfl ?_
              have hb : Below U10.heap.size U10 (U10.alloc (.cells (cdc (a, (.slice s' b.length c', b))).toArray 70)) := (Below.refl _ _).alloc (Nat.le_refl _) _
              have hd9 : ∀ j u, (cdc (a, (.slice s' b.length c', b)))[j]? = some u → (U10.alloc (.cells (cdc (a, (.slice s' b.length c', b))).toArray 70)).cell? ((⟨U10.heap.size, 0, none⟩ : Addr).add j) = some u := cells_new _ _ _
              replace HSC := Lib.hid (HSC.out.later hb)
              replace HT := Lib.hid (HT.out.kept (m := fun _ => False) (Fr.of_below hb _) (fun _ _ h => h))
              clear hb
              refine hKK.out _ _ HSC.out.box ?_
              clear hKK KK
              generalize U10.alloc (.cells (cdc (a, (.slice s' b.length c', b))).toArray 70) = U11 at HSC HT hd9 ⊢
              generalize U10.heap.size = d11 at hd9 ⊢
              have HD := Lib.hid hd9
              clear hd9
              (try simp only [Act.put, List.setIfInBounds_toArray, List.set_cons_zero, List.set_cons_succ])
              refine t_run1 rfl rfl (fun KK hKK => ?_)
              refine wp_append_cd HSC.out.out HSC.out.below.size (by omega) d11 a s' b.length c' b HD.out _ _ rfl rfl rfl (fun v' U12 hv hg => ?_)
              obtain ⟨so2, co2, hv'⟩ := own_form hv
              subst hv'
              replace HSC := Lib.hid (HSC.out.push HT.out hv hg)
              refine hKK.out _ _ HSC.out.box ?_
              clear hKK KK hv hg HT HD
              (try simp only [Act.put, List.setIfInBounds_toArray, List.set_cons_zero, List.set_cons_succ])
              repeat (first | (refine RP.t_take (v := ?_) rfl rfl (fun w' hw' => ?_) ?_; rotate_left; (focus ((have hAf := hw'; obtain ⟨a0, a1, a2, a3, a4, a5, a6, a7⟩ := lies_addr hAf); go_simp; (try go_bits); (try (with_reducible rfl)))); (try simp only [Act.put, List.setIfInBounds_toArray, List.set_cons_zero, List.set_cons_succ])) | (refine RP.t_skip rfl rfl ?_; (try simp only [Act.put, List.setIfInBounds_toArray, List.set_cons_zero, List.set_cons_succ])))
              refine RP.t_done ?_
              have hol : (O ++ [(a, (Value.slice s' b.length c', b))]).length ≤ 1000000 := by simp only [List.length_append, List.length_cons, List.length_nil]; omega
              go_wp2_with fail
              refine RP.region (RP.take 0 (RP.take 1 (RP.take 2 (RP.take 3 (RP.take 4 (RP.take 5 (RP.take 6 (RP.take 7 (RP.take 8 (RP.take 9 RP.done)))))))))) (fun w' => Rk w' (fun i => own i ∧ i < W.heap.size) br vl (.slice (some ⟨g, 0, none⟩) C.length cap) E C ∧ Lies w' W.heap.size 24 a.cs.toArray) (by as_aux_lemma => kernel_rfl) (by as_aux_lemma => kernel_rfl) (fun _ _ d _ _ h => by cases d <;> exact h) ⟨HSC.out.drew.rk, HSC.out.drew.box⟩ (fun hS => ?_)
              clear hS
              replace HSC := Lib.hid HSC.out.drew
              generalize U12.drew = U13 at HSC ⊢
              repeat (first | (refine RP.t_take (v := ?_) rfl rfl (fun w' hw' => ?_) ?_; rotate_left; (focus ((obtain ⟨hRf, hAf⟩ := hw'; obtain ⟨a0, a1, a2, a3, a4, a5, a6, a7⟩ := lies_addr hAf; have hc1 := hRf.cell.cell 1; simp only [List.getElem?_toArray, List.getElem?_cons_zero, List.getElem?_cons_succ] at hc1; obtain ⟨c0, c1, c2, c3, c4, c5, c6, c7, c8⟩ := cd_cells hRf.crow HX.out); go_simp; (try go_bits); (try (with_reducible rfl)))); (try simp only [Act.put, List.setIfInBounds_toArray, List.set_cons_zero, List.set_cons_succ])) | (refine RP.t_skip rfl rfl ?_; (try simp only [Act.put, List.setIfInBounds_toArray, List.set_cons_zero, List.set_cons_succ])))
              refine RP.t_done ?_
              have hc1 := HSC.out.rk.cell.cell 1
              simp only [List.getElem?_toArray, List.getElem?_cons_zero, List.getElem?_cons_succ] at hc1
              have HRE := Lib.hid (show U13.rangeAt g (j * 9) (cdc (ya, (.slice sy yb.length cy, yb))) from fun t v hv => by
                have ht : t < 9 := by have := (List.getElem?_eq_some_iff.1 hv).1; rwa [cdc_len] at this
                exact (wrow_cell cdc_len HSC.out.rk.crow HX.out ht).trans hv)
              have HYB := Lib.hid (show Bts U13 (fun i => own i ∨ W.heap.size ≤ i) (.slice sy yb.length cy) yb from (HSC.out.rk.cds _ (List.mem_of_getElem? HX.out)).mono (fun i _ hi => Or.inl hi.1))
              have hgw : g < U13.heap.size := (wrow_lt HSC.out.rk.crow rfl).1
              go_wp2_with (first | (refine wl_loadC (ya, (.slice sy yb.length cy, yb)) g (j * 9) HRE.out _ rfl rfl rfl ?_; simp only [Act.put, List.setIfInBounds_toArray, List.set_cons_zero, List.set_cons_succ]) | (refine wl_bsliceC ya sy yb.length cy yb _ rfl rfl rfl ?_; simp only [Act.put, List.setIfInBounds_toArray, List.set_cons_zero, List.set_cons_succ]) | (refine wl_append_cd (HSC.out.later ((Below.refl _ _).alloc (Nat.le_refl _) (.cells (cdc (ya, (.slice sy yb.length cy, yb))).toArray 70))).out (by have := HSC.out.below.size; simp only [World.size_alloc]; omega) (by omega) _ ya sy yb.length cy yb (cells_new _ _ _) _ _ rfl rfl rfl rfl (fun v' U14 hv hg => ?_); obtain ⟨so3, co3, hv'⟩ := own_form hv; subst hv'; replace HSC := Lib.hid ((HSC.out.later ((Below.refl _ _).alloc (Nat.le_refl _) (.cells (cdc (ya, (.slice sy yb.length cy, yb))).toArray 70))).push (HYB.out.kept (m := fun _ => False) (Fr.alloc _ _ _) (fun _ _ h => h)) hv hg); clear hv hg hc1 hgw; simp only [Act.put, List.setIfInBounds_toArray, List.set_cons_zero, List.set_cons_succ]))
              go_roundw
              case rel => exact ⟨j + 1, true, (O ++ [(a, (.slice s' b.length c', b))]) ++ [(ya, (.slice sy yb.length cy, yb))], _, by omega, by go_num, rfl, rfl, HG3.out _, by simp only [List.length_append, List.length_cons, List.length_nil]; omega, HSC.out⟩
              case measure => simp [intOf]; omega
          · by_cases hya : ya = a
            · as_aux_lemma =>
                have HG3 := Lib.hid (show Al.turn (·.2) O ++ Al.insGo (a, b) false (Al.turn (·.2) (C.drop (j + 1))) = R from by rw [← HG2.out, insGo_step, if_neg (by simpa using hlt2), if_neg (by simp [hya])]; simp [hlt2])
                obtain rfl : a = ya := hya.symm
                go_wp2_with fail
                clear hc1
                refine RP.region (RP.take 0 (RP.take 1 (RP.take 2 (RP.take 3 (RP.take 4 (RP.take 5 (RP.take 6 (RP.take 7 (RP.take 8 (RP.take 9 (RP.take 10 (RP.take 11 (RP.run 12 (RP.take 13 RP.done)))))))))))))) (fun w' => Rk w' (fun i => own i ∧ i < W.heap.size) br vl (.slice (some ⟨g, 0, none⟩) C.length cap) E C ∧ Lies w' W.heap.size 24 a.cs.toArray) (by as_aux_lemma => kernel_rfl) (by as_aux_lemma => kernel_rfl) (fun _ _ d _ _ h => by cases d <;> exact h) ⟨HSC.out.drew.rk, HSC.out.drew.box⟩ (fun hS => ?_)
                clear hS
                replace HSC := Lib.hid HSC.out.drew
                generalize wr.drew = U15 at HSC ⊢
                repeat (first | (refine RP.t_take (v := ?_) rfl rfl (fun w' hw' => ?_) ?_; rotate_left; (focus ((obtain ⟨hRf, hAf⟩ := hw'; obtain ⟨a0, a1, a2, a3, a4, a5, a6, a7⟩ := lies_addr hAf; have hc1 := hRf.cell.cell 1; simp only [List.getElem?_toArray, List.getElem?_cons_zero, List.getElem?_cons_succ] at hc1; obtain ⟨c0, c1, c2, c3, c4, c5, c6, c7, c8⟩ := cd_cells hRf.crow HX.out); go_simp; (try go_bits); (try (with_reducible rfl)))); (try simp only [Act.put, List.setIfInBounds_toArray, List.set_cons_zero, List.set_cons_succ])) | (refine RP.t_skip rfl rfl ?_; (try simp only [Act.put, List.setIfInBounds_toArray, List.set_cons_zero, List.set_cons_succ])))
                refine RP.t_run rfl (fun KK hKK => ?_)
                go_simp
                refine (less_any a a _).mono ?_
                rintro ex U16 ⟨rfl, hb⟩
                replace HSC := Lib.hid (HSC.out.later hb)
                clear hb
                rw [decide_eq_false hlt2]
                refine hKK.out _ _ ⟨HSC.out.rk, HSC.out.box⟩ ?_
                clear hKK KK
                (try simp only [Act.put, List.setIfInBounds_toArray, List.set_cons_zero, List.set_cons_succ])
                repeat (first | (refine RP.t_take (v := ?_) rfl rfl (fun w' hw' => ?_) ?_; rotate_left; (focus ((obtain ⟨hRf, hAf⟩ := hw'; obtain ⟨a0, a1, a2, a3, a4, a5, a6, a7⟩ := lies_addr hAf; have hc1 := hRf.cell.cell 1; simp only [List.getElem?_toArray, List.getElem?_cons_zero, List.getElem?_cons_succ] at hc1; obtain ⟨c0, c1, c2, c3, c4, c5, c6, c7, c8⟩ := cd_cells hRf.crow HX.out); go_simp; (try go_bits); (try (with_reducible rfl)))); (try simp only [Act.put, List.setIfInBounds_toArray, List.set_cons_zero, List.set_cons_succ])) | (refine RP.t_skip rfl rfl ?_; (try simp only [Act.put, List.setIfInBounds_toArray, List.set_cons_zero, List.set_cons_succ])))
                refine RP.t_done ?_
                go_wp2_with fail
                refine RP.region (RP.take 0 (RP.take 1 (RP.take 2 (RP.take 3 (RP.take 4 (RP.take 5 (RP.take 6 (RP.take 7 (RP.take 8 (RP.take 9 RP.done)))))))))) (fun w' => Rk w' (fun i => own i ∧ i < W.heap.size) br vl (.slice (some ⟨g, 0, none⟩) C.length cap) E C ∧ Lies w' W.heap.size 24 a.cs.toArray) (by as_aux_lemma => kernel_rfl) (by as_aux_lemma => kernel_rfl) (fun _ _ d _ _ h => by cases d <;> exact h) ⟨HSC.out.drew.rk, HSC.out.drew.box⟩ (fun hS => ?_)
                clear hS
                replace HSC := Lib.hid HSC.out.drew
                generalize U16.drew = U17 at HSC ⊢
                repeat (first | (refine RP.t_take (v := ?_) rfl rfl (fun w' hw' => ?_) ?_; rotate_left; (focus ((obtain ⟨hRf, hAf⟩ := hw'; obtain ⟨a0, a1, a2, a3, a4, a5, a6, a7⟩ := lies_addr hAf; have hc1 := hRf.cell.cell 1; simp only [List.getElem?_toArray, List.getElem?_cons_zero, List.getElem?_cons_succ] at hc1; obtain ⟨c0, c1, c2, c3, c4, c5, c6, c7, c8⟩ := cd_cells hRf.crow HX.out); go_simp; (try go_bits); (try (with_reducible rfl)))); (try simp only [Act.put, List.setIfInBounds_toArray, List.set_cons_zero, List.set_cons_succ])) | (refine RP.t_skip rfl rfl ?_; (try simp only [Act.put, List.setIfInBounds_toArray, List.set_cons_zero, List.set_cons_succ])))
                refine RP.t_done ?_
                go_wp2_with fail
                go_roundw
                case rel => exact ⟨j + 1, false, O, _, by omega, by go_num, rfl, rfl, HG3.out, by omega, HSC.out⟩
                case measure => simp [intOf]; omega
            · as_aux_lemma =>
                have HG3 := Lib.hid (show Al.turn (·.2) (O ++ [(ya, (.slice sy yb.length cy, yb))]) ++ Al.insGo (a, b) false (Al.turn (·.2) (C.drop (j + 1))) = R from by rw [← HG2.out, insGo_step, if_neg (by simpa using hlt2), if_pos hya, turn_app]; simp [Al.turn, hlt2])
                go_wp2_with fail
                clear hc1
                refine RP.region (RP.take 0 (RP.take 1 (RP.take 2 (RP.take 3 (RP.take 4 (RP.take 5 (RP.take 6 (RP.take 7 (RP.take 8 (RP.take 9 (RP.take 10 (RP.take 11 (RP.run 12 (RP.take 13 RP.done)))))))))))))) (fun w' => Rk w' (fun i => own i ∧ i < W.heap.size) br vl (.slice (some ⟨g, 0, none⟩) C.length cap) E C ∧ Lies w' W.heap.size 24 a.cs.toArray) (by as_aux_lemma => kernel_rfl) (by as_aux_lemma => kernel_rfl) (fun _ _ d _ _ h => by cases d <;> exact h) ⟨HSC.out.drew.rk, HSC.out.drew.box⟩ (fun hS => ?_)
                clear hS
                replace HSC := Lib.hid HSC.out.drew
                generalize wr.drew = U18 at HSC ⊢
                repeat (first | (refine RP.t_take (v := ?_) rfl rfl (fun w' hw' => ?_) ?_; rotate_left; (focus ((obtain ⟨hRf, hAf⟩ := hw'; obtain ⟨a0, a1, a2, a3, a4, a5, a6, a7⟩ := lies_addr hAf; have hc1 := hRf.cell.cell 1; simp only [List.getElem?_toArray, List.getElem?_cons_zero, List.getElem?_cons_succ] at hc1; obtain ⟨c0, c1, c2, c3, c4, c5, c6, c7, c8⟩ := cd_cells hRf.crow HX.out); go_simp; (try go_bits); (try (with_reducible rfl)))); (try simp only [Act.put, List.setIfInBounds_toArray, List.set_cons_zero, List.set_cons_succ])) | (refine RP.t_skip rfl rfl ?_; (try simp only [Act.put, List.setIfInBounds_toArray, List.set_cons_zero, List.set_cons_succ])))
                refine RP.t_run rfl (fun KK hKK => ?_)
                go_simp
                refine (less_any a ya _).mono ?_
                rintro ex U19 ⟨rfl, hb⟩
                replace HSC := Lib.hid (HSC.out.later hb)
                clear hb
                rw [decide_eq_false hlt2]
                refine hKK.out _ _ ⟨HSC.out.rk, HSC.out.box⟩ ?_
                clear hKK KK
                (try simp only [Act.put, List.setIfInBounds_toArray, List.set_cons_zero, List.set_cons_succ])
                repeat (first | (refine RP.t_take (v := ?_) rfl rfl (fun w' hw' => ?_) ?_; rotate_left; (focus ((obtain ⟨hRf, hAf⟩ := hw'; obtain ⟨a0, a1, a2, a3, a4, a5, a6, a7⟩ := lies_addr hAf; have hc1 := hRf.cell.cell 1; simp only [List.getElem?_toArray, List.getElem?_cons_zero, List.getElem?_cons_succ] at hc1; obtain ⟨c0, c1, c2, c3, c4, c5, c6, c7, c8⟩ := cd_cells hRf.crow HX.out); go_simp; (try go_bits); (try (with_reducible rfl)))); (try simp only [Act.put, List.setIfInBounds_toArray, List.set_cons_zero, List.set_cons_succ])) | (refine RP.t_skip rfl rfl ?_; (try simp only [Act.put, List.setIfInBounds_toArray, List.set_cons_zero, List.set_cons_succ])))
                refine RP.t_done ?_
                go_wp2_with fail
                refine RP.region (RP.take 0 (RP.take 1 (RP.take 2 (RP.take 3 (RP.take 4 (RP.take 5 (RP.take 6 (RP.take 7 (RP.take 8 (RP.take 9 RP.done)))))))))) (fun w' => Rk w' (fun i => own i ∧ i < W.heap.size) br vl (.slice (some ⟨g, 0, none⟩) C.length cap) E C ∧ Lies w' W.heap.size 24 a.cs.toArray) (by as_aux_lemma => kernel_rfl) (by as_aux_lemma => kernel_rfl) (fun _ _ d _ _ h => by cases d <;> exact h) ⟨HSC.out.drew.rk, HSC.out.drew.box⟩ (fun hS => ?_)
                clear hS
                replace HSC := Lib.hid HSC.out.drew
                generalize U19.drew = U20 at HSC ⊢
                repeat (first | (refine RP.t_take (v := ?_) rfl rfl (fun w' hw' => ?_) ?_; rotate_left; (focus ((obtain ⟨hRf, hAf⟩ := hw'; obtain ⟨a0, a1, a2, a3, a4, a5, a6, a7⟩ := lies_addr hAf; have hc1 := hRf.cell.cell 1; simp only [List.getElem?_toArray, List.getElem?_cons_zero, List.getElem?_cons_succ] at hc1; obtain ⟨c0, c1, c2, c3, c4, c5, c6, c7, c8⟩ := cd_cells hRf.crow HX.out); go_simp; (try go_bits); (try (with_reducible rfl)))); (try simp only [Act.put, List.setIfInBounds_toArray, List.set_cons_zero, List.set_cons_succ])) | (refine RP.t_skip rfl rfl ?_; (try simp only [Act.put, List.setIfInBounds_toArray, List.set_cons_zero, List.set_cons_succ])))
                refine RP.t_done ?_
                have hc1 := HSC.out.rk.cell.cell 1
                simp only [List.getElem?_toArray, List.getElem?_cons_zero, List.getElem?_cons_succ] at hc1
                have HRE := Lib.hid (show U20.rangeAt g (j * 9) (cdc (ya, (.slice sy yb.length cy, yb))) from fun t v hv => by
                  have ht : t < 9 := by have := (List.getElem?_eq_some_iff.1 hv).1; rwa [cdc_len] at this
                  exact (wrow_cell cdc_len HSC.out.rk.crow HX.out ht).trans hv)
                have HYB := Lib.hid (show Bts U20 (fun i => own i ∨ W.heap.size ≤ i) (.slice sy yb.length cy) yb from (HSC.out.rk.cds _ (List.mem_of_getElem? HX.out)).mono (fun i _ hi => Or.inl hi.1))
                have hgw : g < U20.heap.size := (wrow_lt HSC.out.rk.crow rfl).1
                go_wp2_with (first | (refine wl_loadC (ya, (.slice sy yb.length cy, yb)) g (j * 9) HRE.out _ rfl rfl rfl ?_; simp only [Act.put, List.setIfInBounds_toArray, List.set_cons_zero, List.set_cons_succ]) | (refine wl_bsliceC ya sy yb.length cy yb _ rfl rfl rfl ?_; simp only [Act.put, List.setIfInBounds_toArray, List.set_cons_zero, List.set_cons_succ]) | (refine wl_append_cd (HSC.out.later ((Below.refl _ _).alloc (Nat.le_refl _) (.cells (cdc (ya, (.slice sy yb.length cy, yb))).toArray 70))).out (by have := HSC.out.below.size; simp only [World.size_alloc]; omega) (by omega) _ ya sy yb.length cy yb (cells_new _ _ _) _ _ rfl rfl rfl rfl (fun v' U21 hv hg => ?_); obtain ⟨so3, co3, hv'⟩ := own_form hv; subst hv'; replace HSC := Lib.hid ((HSC.out.later ((Below.refl _ _).alloc (Nat.le_refl _) (.cells (cdc (ya, (.slice sy yb.length cy, yb))).toArray 70))).push (HYB.out.kept (m := fun _ => False) (Fr.alloc _ _ _) (fun _ _ h => h)) hv hg); clear hv hg hc1 hgw; simp only [Act.put, List.setIfInBounds_toArray, List.set_cons_zero, List.set_cons_succ]))
                go_roundw
                case rel => exact ⟨j + 1, false, O ++ [(ya, (.slice sy yb.length cy, yb))], _, by omega, by go_num, rfl, rfl, HG3.out, by simp only [List.length_append, List.length_cons, List.length_nil]; omega, HSC.out⟩
                case measure => simp [intOf]; omega
      · obtain rfl : j = C.length := by omega
        have HG3 := HG.out
        rw [List.drop_length] at HG3
        clear HG
        cases d with
        | true =>
          have HE := Lib.hid (show Al.turn (·.2) O = R from by simpa [Al.turn, Al.insGo] using HG3)
          clear HG3 hc1
          have hc1 := HSC.out.rk.cell.cell 1
          have hf1 := HSC.out.rk.cell.frozen 1
          have hl1 := HSC.out.rk.cell.lt
          simp only [List.getElem?_toArray, List.getElem?_cons_zero, List.getElem?_cons_succ] at hc1
          go_wp2_with fail
          first | go_end0 | refine bodyPost_ret (results_none rfl _ _ _) rfl ?_
          exact ⟨rfl, _, O, HSC.out.store ho, HE.out, HSC.out.store_fr⟩
        | false =>
          have HE := Lib.hid (show ∀ vx, Al.turn (·.2) (O ++ [(a, (vx, b))]) = R from fun vx => by rw [← HG3, turn_app]; rfl)
          clear HG3 hc1
          have hc1 := HSC.out.rk.cell.cell 1
          simp only [List.getElem?_toArray, List.getElem?_cons_zero, List.getElem?_cons_succ] at hc1
          go_wp2_with fail
          clear hc1
          refine RP.region (RP.take 0 (RP.take 1 (RP.take 3 (RP.run 2 (RP.run 4 (RP.take 5 (RP.run 6 (RP.run 7 (RP.take 8 RP.done))))))))) (fun w' => Lies w' W.heap.size 24 a.cs.toArray) (by as_aux_lemma => kernel_rfl) (by as_aux_lemma => kernel_rfl) (fun _ _ d _ _ h => by cases d <;> exact h) HSC.out.drew.box (fun hS => ?_)
          clear hS
          replace HSC := Lib.hid HSC.out.drew
          generalize wr.drew = U22 at HSC ⊢
          repeat (first | (refine RP.t_take (v := ?_) rfl rfl (fun w' hw' => ?_) ?_; rotate_left; (focus ((have hAf := hw'; obtain ⟨a0, a1, a2, a3, a4, a5, a6, a7⟩ := lies_addr hAf); go_simp; (try go_bits); (try (with_reducible rfl)))); (try simp only [Act.put, List.setIfInBounds_toArray, List.set_cons_zero, List.set_cons_succ])) | (refine RP.t_skip rfl rfl ?_; (try simp only [Act.put, List.setIfInBounds_toArray, List.set_cons_zero, List.set_cons_succ])))
          refine RP.t_run rfl (fun KK hKK => ?_)
          go_simp
          have HO := Lib.hid (show (U22.alloc (.cells #[] 5)).ownsRow U22.heap.size 5 1 (.slice (some ⟨U22.heap.size, 0, none⟩) 0 0) 0 [] from World.ownsRow_made U22 #[] 0 (Nat.le_refl _) (Nat.zero_le _) rfl)
          have hb : Below U22.heap.size U22 (U22.alloc (.cells #[] 5)) := (Below.refl _ _).alloc (Nat.le_refl _) _
          have hsa : U22.heap.size ≤ (U22.alloc (.cells #[] 5)).heap.size := hb.size
          refine hKK.out _ _ (HSC.out.later hb).box ?_
          clear hKK KK
          have HBY := Lib.hid (HV.out.later (HSC.out.later hb).below)
          have HBA := Lib.hid hb
          clear hb
          generalize U22.alloc (.cells #[] 5) = U23 at HO hsa HBY HBA ⊢
          (try simp only [Act.put, List.setIfInBounds_toArray, List.set_cons_zero, List.set_cons_succ])
          refine t_run1 rfl rfl (fun KK hKK => ?_)
          refine wp_append_bytes HO.out hsa HBY.out hn _ _ rfl rfl rfl (fun v' U24 hv hg => ?_)
          obtain ⟨s', c', hv'⟩ := own_form hv
          subst hv'
          have hb : Below U22.heap.size U22 U24 := HBA.out.grown hg hsa (fun i e => by injection e with e; omega)
          have hsw : W.heap.size ≤ U22.heap.size := HSC.out.below.size
          have HT := Lib.hid (show Bts U24 (fun i => own i ∨ W.heap.size ≤ i) (.slice s' b.length c') b from ⟨hv.mono (Nat.zero_le _), fun i e => Or.inr (Nat.le_trans hsw (hv.lt i e).1)⟩)
          replace HSC := Lib.hid (HSC.out.later hb)
          refine hKK.out _ _ HSC.out.box ?_
          clear hKK KK hv hg hb HO HBY HBA hsa hsw
          (try simp only [Act.put, List.setIfInBounds_toArray, List.set_cons_zero, List.set_cons_succ])
          refine RP.t_take (v := .agg (cdc (a, (.slice s' b.length c', b))).toArray) rfl rfl (fun w' _ => exec_buildC a s' b.length c' b _ _ rfl rfl rfl w') ?_
          (try simp only [Act.put, List.setIfInBounds_toArray, List.set_cons_zero, List.set_cons_succ])
          refine t_run1 rfl rfl (fun KK hKK => ?_)
          refine wp_bsliceC a s' b.length c' b _ rfl rfl ?_
          have hb : Below U24.heap.size U24 (U24.alloc (.cells (cdc (a, (.slice s' b.length c', b))).toArray 70)) := (Below.refl _ _).alloc (Nat.le_refl _) _
          have hd9 : ∀ j u, (cdc (a, (.slice s' b.length c', b)))[j]? = some u → (U24.alloc (.cells (cdc (a, (.slice s' b.length c', b))).toArray 70)).cell? ((⟨U24.heap.size, 0, none⟩ : Addr).add j) = some u := cells_new _ _ _
          replace HSC := Lib.hid (HSC.out.later hb)
          replace HT := Lib.hid (HT.out.kept (m := fun _ => False) (Fr.of_below hb _) (fun _ _ h => h))
          clear hb
          refine hKK.out _ _ HSC.out.box ?_
          clear hKK KK
          generalize U24.alloc (.cells (cdc (a, (.slice s' b.length c', b))).toArray 70) = U25 at HSC HT hd9 ⊢
          generalize U24.heap.size = d25 at hd9 ⊢
          have HD := Lib.hid hd9
          clear hd9
          (try simp only [Act.put, List.setIfInBounds_toArray, List.set_cons_zero, List.set_cons_succ])
          refine t_run1 rfl rfl (fun KK hKK => ?_)
          refine wp_append_cd HSC.out.out HSC.out.below.size (by omega) d25 a s' b.length c' b HD.out _ _ rfl rfl rfl (fun v' U26 hv hg => ?_)
          obtain ⟨so2, co2, hv'⟩ := own_form hv
          subst hv'
          replace HSC := Lib.hid (HSC.out.push HT.out hv hg)
          refine hKK.out _ _ HSC.out.box ?_
          clear hKK KK hv hg HT HD
          (try simp only [Act.put, List.setIfInBounds_toArray, List.set_cons_zero, List.set_cons_succ])
          repeat (first | (refine RP.t_take (v := ?_) rfl rfl (fun w' hw' => ?_) ?_; rotate_left; (focus ((have hAf := hw'; obtain ⟨a0, a1, a2, a3, a4, a5, a6, a7⟩ := lies_addr hAf); go_simp; (try go_bits); (try (with_reducible rfl)))); (try simp only [Act.put, List.setIfInBounds_toArray, List.set_cons_zero, List.set_cons_succ])) | (refine RP.t_skip rfl rfl ?_; (try simp only [Act.put, List.setIfInBounds_toArray, List.set_cons_zero, List.set_cons_succ])))
          refine RP.t_done ?_
          have hc1 := HSC.out.rk.cell.cell 1
          have hf1 := HSC.out.rk.cell.frozen 1
          have hl1 := HSC.out.rk.cell.lt
          simp only [List.getElem?_toArray, List.getElem?_cons_zero, List.getElem?_cons_succ] at hc1
          go_wp2_with fail
          first | go_end0 | refine bodyPost_ret (results_none rfl _ _ _) rfl ?_
          exact ⟨rfl, _, (O ++ [(a, (.slice s' b.length c', b))]), HSC.out.store ho, HE.out _, HSC.out.store_fr⟩
end Go.Proofs.Yteeghdkejnhjnaa.Bo
