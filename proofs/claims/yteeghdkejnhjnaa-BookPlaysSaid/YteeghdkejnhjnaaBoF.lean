/- The walk of the document's Cut; bytes appended to an empty slice. -/
import Derived.Test.YteeghdkejnhjnaaBoZ
namespace Go.Proofs.Yteeghdkejnhjnaa.Bo
open Go Go.RowKit Go.Lib Kt Ad

/-- Another row of events is stored. -/
theorem Rk.stored {V : World} {own : Nat → Prop} {br : Nat} {vl vl' vc : Value} {E E' : List Ev} {C : Cs} (h : Rk V own br vl vc E C) (hr : WRow V own 66 9 vl' E'.length (E'.flatMap Ev.cs)) (he : ∀ x ∈ E', Bts V own x.v x.b) : Rk (V.setCell ⟨br, 0, none⟩ vl') own br vl' vc E' C := by
  have hf : Fr V (V.setCell ⟨br, 0, none⟩ vl') (fun i => i = br) := Fr.setCell V _ _
  have hty : ∀ k, k = br → ∀ cur, ¬ Lies V k 5 cur := fun k e cur hl => by subst e; exact absurd (lies_uniq h.cell hl) (by decide)
  refine ⟨?_, hr.kept hf (fun k _ hk e => ?_), fun x hx => (he x hx).kept_ty hf hty, h.crow.kept hf (fun k _ hk e => ?_), fun c hc => (h.cds c hc).kept_ty hf hty, h.obr⟩
  · have := h.cell.set 0 vl'
    simpa using this
  · obtain ⟨_, _, cur, hg⟩ := wrow_lt hr hk.symm
    subst e
    exact absurd (lies_uniq h.cell hg) (by decide)
  · obtain ⟨_, _, cur, hg⟩ := wrow_lt h.crow hk.symm
    subst e
    exact absurd (lies_uniq h.cell hg) (by decide)
set_option maxRecDepth 100000 in
theorem run_append_bytes {w : World} {base g : Nat} (hg : w.ownsRow base 5 1 (.slice (some ⟨g, 0, none⟩) 0 0) 0 []) (hbase : base ≤ w.heap.size) {v : Value} {b : List UInt8} (h : Byt w v b) (hn : b.length ≤ 1000000000) (ty : TypeId) :
    ∃ v' w', (Builtin.append_ #[25, 25] ty #[.slice (some ⟨g, 0, none⟩) 0 0, v]).run Try.prog w = .ok v' w' ∧ w'.ownsRow base 5 1 v' b.length (b.map u8v) ∧ w.grownBy w' (some g) := by
  obtain ⟨i0, hi, hz0, hz1, hz2⟩ := info_parts infoU8
  obtain ⟨s, cap, rfl, hb⟩ := h
  cases s with
  | none =>
    have hb0 : b = [] := by
      by_cases h0 : b = []
      · exact h0
      · obtain ⟨g, off, e, _⟩ := hb h0; cases e
    subst hb0
    refine ⟨_, w, ?_, hg, World.grownBy.refl _ _⟩
    simp [Builtin.append_, run_underlying Try.underlying25, sizeOf, typeInfo, hi, Builtin.lenOf, Builtin.firstCells, storeCells]
  | some ad =>
    obtain ⟨v', w', hrun, r1, r2, _⟩ := run_append_own (P := Try.prog) w base 25 ty 5 i0 (.int .u8 0) 1 1 Try.underlying25 hi hz0 hz1 hz2 rfl (by decide) _ 0 [] hg ad b.length cap (b.map u8v) (by simp) (fun j u hj => by
      have hjl : j < b.length := by simpa using (List.getElem?_eq_some_iff.1 hj).1
      obtain ⟨g, off, e, _, hc⟩ := hb (by intro e; simp [e] at hjl)
      injection e with e
      subst e
      rw [Addr.add_lit, hc j b[j] (List.getElem?_eq_getElem hjl)]
      simpa [hjl] using hj) (by intro u hu; obtain ⟨x, _, rfl⟩ := List.mem_map.1 hu; rfl) (by unfold maxLen; omega) (by omega) hbase
    refine ⟨v', w', hrun, ?_, r2⟩
    simpa only [Nat.zero_add, List.nil_append] using r1

set_option maxRecDepth 100000 in
set_option maxHeartbeats 4000000 in
theorem rcut_bad {W : World} {own : Nat → Prop} {br : Nat} {vl vc : Value} {E : List Ev} {C : Cs} (h : Rk W own br vl vc E C) (k : Int) (hk : k < 0 ∨ (E.length : Int) < k) :
    Calls Try.prog 26 #[.pointer (some ⟨br, 0, none⟩), .int .i64 k] W fun e w' => e = .returned (.int .i64 5) ∧ w' = W := by
  obtain ⟨s, cap, rfl, _⟩ := h.row.form
  have hc := h.cell.cell 0
  simp only [List.getElem?_toArray, List.getElem?_cons_zero] at hc
  clear h
  by_cases h0 : k < 0
  · clear hk
    go_enter Try.func26, Try.ntmps26
    go_wp2_with fail
    go_ret
    exact ⟨rfl, rfl⟩
  · have hk' : (E.length : Int) < k := by omega
    clear hk
    go_enter Try.func26, Try.ntmps26
    go_wp2_with fail
    go_ret
    exact ⟨rfl, rfl⟩

set_option maxRecDepth 100000 in
set_option maxHeartbeats 4000000 in
theorem rcut_ok {W : World} {own : Nat → Prop} {br : Nat} {vl vc : Value} {E : List Ev} {C : Cs} (h : Rk W own br vl vc E C) (ho : ∀ i, W.heap.size ≤ i → own i) (hN : E.length ≤ 1000000) (k : Nat) (hk : k ≤ E.length) :
    Calls Try.prog 26 #[.pointer (some ⟨br, 0, none⟩), .int .i64 k] W fun e w' => ∃ vl', e = .returned (.int .i64 0) ∧ Rk w' own br vl' vc (E.take k) C ∧ Fr W w' own := by
  obtain ⟨i0, hi, hz0, hz1, hz2⟩ := info_parts infoEv
  obtain ⟨s, cap, rfl, hle, hs⟩ := h.row.form
  have hc := h.cell.cell 0
  simp only [List.getElem?_toArray, List.getElem?_cons_zero] at hc
  have hfz := h.cell.frozen 0
  have hlt := h.cell.lt
  have H := Lib.hid h
  have HS := Lib.hid hs
  clear h hs
  have hown : ∀ v' (w1 : World), w1.ownsRow W.heap.size 66 9 v' k ((E.take k).flatMap Ev.cs) → Below W.heap.size W w1 → Rk (w1.setCell ⟨br, 0, none⟩ v') own br v' vc (E.take k) C ∧ Fr W (w1.setCell ⟨br, 0, none⟩ v') own := by
    intro v' w1 hrow hb
    have hlk : (E.take k).length = k := by rw [List.length_take]; omega
    have hR := H.out.later hb
    have hr : WRow w1 own 66 9 v' (E.take k).length ((E.take k).flatMap Ev.cs) := by rw [hlk]; exact WRow.of_own hrow ho
    exact ⟨hR.stored hr (fun x hx => hR.evs x (List.mem_of_mem_take hx)), (Fr.of_below hb _).trans ((Fr.setCell w1 _ _).mono (fun i _ e => e ▸ hR.obr))⟩
  have HW := Lib.hid hown
  clear hown
  cases s with
  | none =>
    obtain ⟨h0, rfl⟩ : E.length = 0 ∧ k = 0 := by
      by_cases h0 : E.length = 0
      · omega
      · obtain ⟨g, e, _⟩ := HS.out h0; cases e
    go_enter Try.func26, Try.ntmps26
    go_wp2_with fail
    go_ret
    have := HW.out (.slice (some ⟨W.heap.size, 0, none⟩) 0 0) (W.alloc (.cells #[] 66)) (World.ownsRow_made W #[] 0 (Nat.le_refl _) (Nat.zero_le _) (by simp)) ((Below.refl _ _).alloc (Nat.le_refl _) _)
    rw [World.setCell_alloc_past _ _ _ _ hlt] at this
    exact ⟨_, rfl, this.1, this.2⟩
  | some ad =>
    have HC := Lib.hid (show ∀ j u, ((E.take k).flatMap Ev.cs)[j]? = some u → W.cell? (ad.add j) = some u from fun j u hj => by
      have hjl := (List.getElem?_eq_some_iff.1 hj).1
      rw [length_flat Ev.len, List.length_take] at hjl
      obtain ⟨g, e, _⟩ := HS.out (by intro e; rw [e] at hjl; simp at hjl)
      injection e with e
      subst e
      rw [Addr.add_lit, Nat.zero_add]
      refine H.out.row.cell ?_
      rw [← take_flat, List.getElem?_take] at hj
      split at hj
      · exact hj
      · cases hj)
    have H1 := Lib.hid (show ∀ u ∈ (E.take k).flatMap Ev.cs, u.oneCell' = true from ones_ev (fun x hx => by obtain ⟨s, c, e⟩ := (H.out.evs x (List.mem_of_mem_take hx)).form; rw [e]; rfl))
    have HL := Lib.hid (show ((E.take k).flatMap Ev.cs).length = k * 9 from by rw [length_flat Ev.len, List.length_take, Nat.min_eq_left hk])
    go_enter Try.func26, Try.ntmps26
    go_wp2_with (at_builtin; refine wpList_append_own _ rfl _ _ 51 rfl W.heap.size 66 i0 _ 9 32 Try.underlying51 hi hz0 hz1 hz2 rfl (by decide) _ _ _ rfl (World.ownsRow_made W #[] 0 (Nat.le_refl _) (Nat.zero_le _) rfl) ad k cap ((E.take k).flatMap Ev.cs) rfl HL.out (fun j u hj => Lib.cell?_alloc_some _ (HC.out j u hj)) H1.out (by unfold maxLen; omega) (by omega) (by simp) ?qq)
    case qq =>
      intro v' w1 hr1 hg1 _
      obtain ⟨s5, c5, hv5⟩ := own_form hr1
      (try simp only [Nat.zero_add] at hv5)
      subst hv5
      have hb5 : Below W.heap.size W w1 := ((Below.refl _ W).alloc (Nat.le_refl _) _).grown hg1 (by simp) (by intro i hi; simp [Value.ownBlock] at hi; omega)
      have HR1 := Lib.hid hr1
      have HB5 := Lib.hid hb5
      have hc5 := (H.out.later hb5).cell.cell 0
      have hf5 := (H.out.later hb5).cell.frozen 0
      have hl5 := (H.out.later hb5).cell.lt
      simp only [List.getElem?_toArray, List.getElem?_cons_zero] at hc5
      clear hr1 hg1 hb5
      go_wp2_with fail
      go_ret
      have := HW.out (.slice s5 k c5) w1 (by simpa using HR1.out) HB5.out
      exact ⟨_, rfl, this.1, this.2⟩
end Go.Proofs.Yteeghdkejnhjnaa.Bo
