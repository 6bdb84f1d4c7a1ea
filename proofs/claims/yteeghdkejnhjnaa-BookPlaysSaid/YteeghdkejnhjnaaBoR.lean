/- The document's book in memory: two rows; the walk of its Code. -/
import Derived.Test.YteeghdkejnhjnaaBoE
import Derived.Test.YteeghdkejnhjnaaBoV
namespace Go.Proofs.Yteeghdkejnhjnaa.Bo
open Go Go.RowKit Kt Ad

def cdc (c : A8 × (Value × List UInt8)) : List Value := [.int .u8 c.1.x0.toNat, .int .u8 c.1.x1.toNat, .int .u8 c.1.x2.toNat, .int .u8 c.1.x3.toNat, .int .u8 c.1.x4.toNat, .int .u8 c.1.x5.toNat, .int .u8 c.1.x6.toNat, .int .u8 c.1.x7.toNat, c.2.1]
theorem cdc_len (c : A8 × (Value × List UInt8)) : (cdc c).length = 9 := rfl
/-- THE DOCUMENT's BOOK: the struct in block br, its rows of events and of codes. -/
structure Rk (W : World) (own : Nat → Prop) (br : Nat) (vl vc : Value) (E : List Ev) (C : Cs) : Prop where
  cell : Lies W br 54 #[vl, vc]
  row : WRow W own 66 9 vl E.length (E.flatMap Ev.cs)
  evs : ∀ x ∈ E, Bts W own x.v x.b
  crow : WRow W own 70 9 vc C.length (C.flatMap cdc)
  cds : ∀ c ∈ C, Bts W own c.2.1 c.2.2
  obr : own br
section
variable {W W' : World} {own own' m : Nat → Prop} {br : Nat} {vl vc : Value} {E : List Ev} {C : Cs}
theorem Rk.kept (h : Rk W own br vl vc E C) (hf : Fr W W' m) (hn : ∀ k, own k → ¬ m k) : Rk W' own br vl vc E C :=
  ⟨lies_fr h.cell hf (hn _ h.obr), h.row.kept hf (fun k hk _ => hn k hk), fun x hx => (h.evs x hx).kept hf hn, h.crow.kept hf (fun k hk _ => hn k hk), fun c hc => (h.cds c hc).kept hf hn, h.obr⟩
theorem Rk.later (h : Rk W own br vl vc E C) (hb : Below W.heap.size W W') : Rk W' own br vl vc E C := h.kept (m := fun _ => False) (Fr.of_below hb _) (fun _ _ h => h)
theorem Rk.drew (h : Rk W own br vl vc E C) : Rk W.drew own br vl vc E C := h.later (Below.refl _ _).drew
theorem Rk.mono (h : Rk W own br vl vc E C) (ho : ∀ k, k < W.heap.size → own k → own' k) : Rk W own' br vl vc E C :=
  ⟨h.cell, h.row.mono ho, fun x hx => (h.evs x hx).mono ho, h.crow.mono ho, fun c hc => (h.cds c hc).mono ho, ho _ h.cell.lt h.obr⟩
theorem wrow_cell {α : Type} {enc : α → List Value} {sz : Nat} {e : TypeId} {g cap n : Nat} {l : List α} (hm : ∀ x, (enc x).length = sz) (h : WRow W own e sz (.slice (some ⟨g, 0, none⟩) n cap) n (l.flatMap enc)) {k : Nat} {x : α} (hk : l[k]? = some x) {j : Nat} (hj : j < sz) : W.cell? ⟨g, k * sz + j, none⟩ = (enc x)[j]? := by
  have h2 := getElem?_flat hm hk hj
  obtain ⟨u, hu⟩ : ∃ u, (enc x)[j]? = some u := ⟨_, List.getElem?_eq_getElem (by rw [hm]; exact hj)⟩
  rw [hu] at h2 ⊢
  exact h.cell h2
theorem cd_cells {g cap n : Nat} (h : WRow W own 70 9 (.slice (some ⟨g, 0, none⟩) n cap) n (C.flatMap cdc)) {k : Nat} {c : A8 × (Value × List UInt8)} (hk : C[k]? = some c) :
    W.cell? ⟨g, k * 9, none⟩ = some (.int .u8 c.1.x0.toNat) ∧ W.cell? ⟨g, k * 9 + 1, none⟩ = some (.int .u8 c.1.x1.toNat) ∧ W.cell? ⟨g, k * 9 + 2, none⟩ = some (.int .u8 c.1.x2.toNat) ∧ W.cell? ⟨g, k * 9 + 3, none⟩ = some (.int .u8 c.1.x3.toNat) ∧ W.cell? ⟨g, k * 9 + 4, none⟩ = some (.int .u8 c.1.x4.toNat) ∧ W.cell? ⟨g, k * 9 + 5, none⟩ = some (.int .u8 c.1.x5.toNat) ∧ W.cell? ⟨g, k * 9 + 6, none⟩ = some (.int .u8 c.1.x6.toNat) ∧ W.cell? ⟨g, k * 9 + 7, none⟩ = some (.int .u8 c.1.x7.toNat) ∧ W.cell? ⟨g, k * 9 + 8, none⟩ = some c.2.1 :=
  ⟨wrow_cell cdc_len h hk (j := 0) (by omega), wrow_cell cdc_len h hk (j := 1) (by omega), wrow_cell cdc_len h hk (j := 2) (by omega), wrow_cell cdc_len h hk (j := 3) (by omega), wrow_cell cdc_len h hk (j := 4) (by omega), wrow_cell cdc_len h hk (j := 5) (by omega), wrow_cell cdc_len h hk (j := 6) (by omega), wrow_cell cdc_len h hk (j := 7) (by omega), wrow_cell cdc_len h hk (j := 8) (by omega)⟩
end
theorem find_at {C : Cs} {a : A8} {k : Nat} {c : A8 × (Value × List UInt8)} (hk : C[k]? = some c) (ha : c.1 = a) (hno : ∀ j y, j < k → C[j]? = some y → y.1 ≠ a) : Al.find C a = some c.2 := by
  unfold Al.find
  have : C.find? (fun e => decide (e.1 = a)) = some c := by
    rw [List.find?_eq_some_iff_getElem]
    have hl := (List.getElem?_eq_some_iff.1 hk).1
    refine ⟨by simpa using ha, k, hl, (List.getElem?_eq_some_iff.1 hk).2, fun j hj => ?_⟩
    have := hno j C[j] hj (List.getElem?_eq_getElem (by omega))
    simpa using this
  rw [this]
  rfl

set_option maxRecDepth 100000 in
set_option maxHeartbeats 4000000 in
theorem rcode_any {W : World} {own : Nat → Prop} {br : Nat} {vl vc : Value} {E : List Ev} {C : Cs} (h : Rk W own br vl vc E C) (a : A8) (hN : C.length ≤ 1000000000) :
    Calls Try.prog 32 #[.pointer (some ⟨br, 0, none⟩), a.v] W fun e w' => ∃ v, e = .returned (.tuple #[v, .bool (Al.find C a).isSome]) ∧ Bts w' own v (((Al.find C a).map (·.2)).getD []) ∧ Below W.heap.size W w' := by
  obtain ⟨s, cap, rfl, hle, hs⟩ := h.crow.form
  have HS := Lib.hid hs
  have HR := Lib.hid (h.later ((Below.refl W.heap.size W).alloc (Nat.le_refl _) (.cells a.cs.toArray 24)))
  have HA := Lib.hid (Lies.new W 24 a.cs.toArray)
  have HB := Lib.hid ((Below.refl W.heap.size W).alloc (Nat.le_refl _) (.cells a.cs.toArray 24))
  clear h hs hle
  simp only [A8.v]
  go_enter Try.func32, Try.ntmps32
  go_wp2_with fail
  go_loopw [6] (fun i wr => ∃ k : Nat, k ≤ C.length ∧ i = .int .i64 k ∧ (∀ j y, j < k → C[j]? = some y → y.1 ≠ a) ∧ Rk wr own br vl (.slice s C.length cap) E C ∧ Lies wr W.heap.size 24 a.cs.toArray ∧ Below W.heap.size W wr)
    (fun i _ => C.length - (intOf i).toNat)
  case atStart => exact ⟨0, by omega, rfl, fun _ _ h => absurd h (by omega), HR.out, HA.out, HB.out⟩
  case round =>
    clear HR HA HB
    obtain ⟨k, hk, rfl, hno, hR, hA, hB⟩ := hrel
    have HNO := Lib.hid hno
    have HR := Lib.hid hR
    have HA := Lib.hid hA
    have HB := Lib.hid hB
    have hc1 := hR.cell.cell 1
    simp only [List.getElem?_toArray, List.getElem?_cons_zero, List.getElem?_cons_succ] at hc1
    clear hno hR hA hB
    by_cases hlt : k < C.length
    · obtain ⟨c, hx⟩ : ∃ c, C[k]? = some c := ⟨_, List.getElem?_eq_getElem hlt⟩
      obtain ⟨g, rfl, _⟩ := HS.out (by omega)
      obtain ⟨ca, cv, cb⟩ := c
      have hbt := HR.out.cds _ (List.mem_of_getElem? hx)
      obtain ⟨sv, cc, hcv⟩ := hbt.form
      simp only at hcv
      subst hcv
      have HBT := Lib.hid hbt
      clear hbt
      by_cases hxa : ca = a
      · as_aux_lemma =>
          have hfa := find_at hx hxa (fun j y hj hy => HNO.out j y hj hy)
          have HFA := Lib.hid hfa
          clear hfa
          subst hxa
          go_wp2_with fail
          refine RP.region (RP.take 0 (RP.take 1 (RP.take 2 (RP.take 3 (RP.take 4 (RP.take 5 (RP.take 6 (RP.take 7 (RP.take 8 (RP.take 9 RP.done)))))))))) (fun w' => Rk w' own br vl (.slice (some ⟨g, 0, none⟩) C.length cap) E C ∧ Lies w' W.heap.size 24 ca.cs.toArray) (by as_aux_lemma => kernel_rfl) (by as_aux_lemma => kernel_rfl) (fun _ _ d _ _ h => by cases d <;> exact h) ⟨HR.out.drew, HA.out.drew⟩ (fun hS => ?_)
          clear hc1
          repeat (first | (refine RP.t_take (v := ?_) rfl rfl (fun w' hw' => ?_) ?_; rotate_left; (focus ((obtain ⟨hRf, hAf⟩ := hw'; obtain ⟨a0, a1, a2, a3, a4, a5, a6, a7⟩ := lies_addr hAf; have hc1 := hRf.cell.cell 1; simp only [List.getElem?_toArray, List.getElem?_cons_zero, List.getElem?_cons_succ] at hc1; obtain ⟨c0, c1, c2, c3, c4, c5, c6, c7, c8⟩ := cd_cells hRf.crow hx); go_simp; (try go_bits); (try (with_reducible rfl)))); (try simp only [Act.put, List.setIfInBounds_toArray, List.set_cons_zero, List.set_cons_succ])) | (refine RP.t_skip rfl rfl ?_; (try simp only [Act.put, List.setIfInBounds_toArray, List.set_cons_zero, List.set_cons_succ])))
          refine RP.t_done ?_
          have hc1 := hS.1.cell.cell 1
          simp only [List.getElem?_toArray, List.getElem?_cons_zero, List.getElem?_cons_succ] at hc1
          obtain ⟨c0, c1, c2, c3, c4, c5, c6, c7, c8⟩ := cd_cells hS.1.crow hx
          go_wp2_with fail
          first | go_ret | go_ret2
          refine ⟨_, by rw [HFA.out]; rfl, ?_, HB.out.drew⟩
          rw [HFA.out]
          exact (HBT.out.kept (m := fun _ => False) (Fr.drew _ _) (fun _ _ h => h))
      · as_aux_lemma =>
          have HNO2 := Lib.hid (show ∀ j y, j < k + 1 → C[j]? = some y → y.1 ≠ a from fun j y hj hy => by
            by_cases e : j = k
            · subst e; rw [hx] at hy; cases hy; exact hxa
            · exact HNO.out j y (by omega) hy)
          go_wp2_with fail
          refine RP.region (RP.take 0 (RP.take 1 (RP.take 2 (RP.take 3 (RP.take 4 (RP.take 5 (RP.take 6 (RP.take 7 (RP.take 8 (RP.take 9 RP.done)))))))))) (fun w' => Rk w' own br vl (.slice (some ⟨g, 0, none⟩) C.length cap) E C ∧ Lies w' W.heap.size 24 a.cs.toArray) (by as_aux_lemma => kernel_rfl) (by as_aux_lemma => kernel_rfl) (fun _ _ d _ _ h => by cases d <;> exact h) ⟨HR.out.drew, HA.out.drew⟩ (fun hS => ?_)
          clear hc1
          repeat (first | (refine RP.t_take (v := ?_) rfl rfl (fun w' hw' => ?_) ?_; rotate_left; (focus ((obtain ⟨hRf, hAf⟩ := hw'; obtain ⟨a0, a1, a2, a3, a4, a5, a6, a7⟩ := lies_addr hAf; have hc1 := hRf.cell.cell 1; simp only [List.getElem?_toArray, List.getElem?_cons_zero, List.getElem?_cons_succ] at hc1; obtain ⟨c0, c1, c2, c3, c4, c5, c6, c7, c8⟩ := cd_cells hRf.crow hx); go_simp; (try go_bits); (try (with_reducible rfl)))); (try simp only [Act.put, List.setIfInBounds_toArray, List.set_cons_zero, List.set_cons_succ])) | (refine RP.t_skip rfl rfl ?_; (try simp only [Act.put, List.setIfInBounds_toArray, List.set_cons_zero, List.set_cons_succ])))
          refine RP.t_done ?_
          go_wp2_with fail
          go_roundw
          case rel => exact ⟨k + 1, by omega, by go_num, HNO2.out, hS.1, hS.2, HB.out.drew⟩
          case measure => simp [intOf]; omega
    · obtain rfl : k = C.length := by omega
      have HFA := Lib.hid (show Al.find C a = none from Al.find_none (fun e he => by
        obtain ⟨i, hi, e1⟩ := List.getElem_of_mem he
        exact HNO.out i e hi (by rw [List.getElem?_eq_getElem hi, e1])))
      go_wp2_with fail
      first | go_ret | go_ret2
      refine ⟨_, by rw [HFA.out]; rfl, ?_, HB.out⟩
      rw [HFA.out]
      exact ⟨World.ownsRow_nil _ _ _ _, fun g e => by cases e⟩
end Go.Proofs.Yteeghdkejnhjnaa.Bo
