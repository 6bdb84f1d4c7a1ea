/- Graph: heavy: what is not heavy has few functions. -/
import Derived.Test.YtjafmclladiblaaGx
namespace Go.Proofs.Ytjafmclladiblaa.Gr
open Go Go.RowKit Go.Lib Kt Fm

set_option maxRecDepth 100000 in
set_option maxHeartbeats 8000000 in
theorem heavy_any {W : World} {m : Mod} (hm : ModOk W m) :
    Calls Try.prog 8 #[.agg m.cs.toArray] W fun e w' => (∃ b : Bool, e = .returned (.bool b) ∧ (b = false → m.funcs.length + m.imps.length ≤ 20)) ∧ Below W.heap.size W w' := by
  have hlF : m.funcs.length ≤ 1048576 := hm.2.2.1.2.2
  have hlI : m.imps.length ≤ 1048576 := hm.2.1.2.2
  have hlC : m.codes.length ≤ 1048576 := hm.2.2.2.2.2.2.2.2.2.1.2.2
  have hlE : m.elems.length ≤ 1048576 := hm.2.2.2.2.2.2.2.2.1.2.2
  obtain ⟨sf, cf, hfv, _⟩ := hm.2.2.1.1.form
  obtain ⟨si, ci, hiv, _⟩ := hm.2.1.1.form
  obtain ⟨sc, cc, hcv, hsc⟩ := hm.2.2.2.2.2.2.2.2.2.1.1.form
  obtain ⟨se, ce, hev, hse⟩ := hm.2.2.2.2.2.2.2.2.1.1.form
  have HM := Lib.hid hm
  clear hm
  go_enter Try.func8, Try.ntmps8
  go_wp2_with (refine wl_box m.cs _ rfl rfl rfl (fun w1 hb1 hl1 => ?_); have HB1 := Lib.hid hb1; have HL1 := Lib.hid hl1; have hc2 : w1.cell? ⟨W.heap.size, 2, none⟩ = some (.slice sf m.funcs.length cf) := (hl1.cell 2).trans (congrArg some hfv); have hc1 : w1.cell? ⟨W.heap.size, 1, none⟩ = some (.slice si m.imps.length ci) := (hl1.cell 1).trans (congrArg some hiv); have hc10 : w1.cell? ⟨W.heap.size, 10, none⟩ = some (.slice sc m.codes.length cc) := (hl1.cell 10).trans (congrArg some hcv); clear hb1 hl1; simp only [Act.put, List.setIfInBounds_toArray, List.set_cons_zero, List.set_cons_succ])
  clear hc2 hc1 hc10
  go_loopw [3, 5, 18] (fun nv _ i wr => ∃ (k N : Nat), k ≤ m.codes.length ∧ i = .int .i64 k ∧ nv = .int .i64 N ∧ m.funcs.length + m.imps.length ≤ N ∧ N ≤ 2097152 + k * 1048576 ∧ Below w1.heap.size w1 wr)
    (fun _ _ i _ => m.codes.length - (intOf i).toNat)
  case atStart => exact ⟨0, m.funcs.length + m.imps.length, Nat.zero_le _, rfl, by simp, Nat.le_refl _, by simp; omega, Below.refl _ _⟩
  case round =>
    obtain ⟨k, N, hk, rfl, rfl, hN, hNl, hB⟩ := hrel
    have HB := Lib.hid hB
    have hNb : N ≤ 2097152 + 1099511627776 := Nat.le_trans hNl (Nat.add_le_add_left (Nat.le_trans (Nat.mul_le_mul_right _ (Nat.le_trans hk hlC)) (by decide)) _)
    have HNL := Lib.hid hNl
    clear hB hNl
    by_cases hlt : k < m.codes.length
    · obtain ⟨x, hx⟩ : ∃ x, m.codes[k]? = some x := ⟨_, List.getElem?_eq_getElem hlt⟩
      obtain ⟨g, off, rfl, hg⟩ := hsc (by intro e; simp [e] at hlt)
      have hok := HM.out.2.2.2.2.2.2.2.2.2.1.2.1 x (List.mem_of_getElem? hx)
      have hxl : x.body.length ≤ 1048576 := hok.2.2.2
      obtain ⟨sb, cb, hbv, hsb⟩ := hok.2.1.form
      have hsl := HM.out.2.2.2.2.2.2.2.2.2.1.1
      rw [hcv] at hsl
      have hr := keepr (bt HB1.out HB.out) (sl_range hsl hx)
      have HO := Lib.hid (oneCod hok)
      clear hsl hx hok hsb
      go_wp2_with (first | (refine wpList_load_mid rfl 63 _ rfl g (off + k * 2) rfl x.cs _ hr Try.underlying63 rfl sizeCod ?_; simp only [Act.put, List.setIfInBounds_toArray, List.set_cons_zero, List.set_cons_succ]) | (refine wl_put (Lies.new _ _ _) x.cs _ _ rfl rfl rfl rfl rfl sizeCod HO.out (fun w5 hL5 hF5 => ?_); have hcb : w5.cell? ⟨wr.heap.size, 1, none⟩ = some (.slice sb x.body.length cb) := (hL5.cell 1).trans (congrArg some hbv); have HB5 := Lib.hid (below_put ((Below.refl wr.heap.size wr).alloc (Nat.le_refl _) _) hF5 (Nat.le_refl _)); clear hL5 hF5; try simp only [Act.put]))
      have hnn : N + x.body.length / 20 ≤ 2097152 + (k + 1) * 1048576 := by
        have h1 := HNL.out
        rw [Nat.add_mul, Nat.one_mul]
        generalize k * 1048576 = q at h1 ⊢
        omega
      exact ⟨⟨k + 1, N + x.body.length / 20, by omega, by go_num, by simp, by omega, hnn, bt HB.out HB5.out⟩, by simp [intOf]; omega⟩
    · obtain rfl : k = m.codes.length := by omega
      have hc9 : wr.cell? ⟨W.heap.size, 9, none⟩ = some (.slice se m.elems.length ce) := keepc HB.out ((HL1.out.cell 9).trans (congrArg some hev))
      have hN1 : N ≤ 1099513724928 := hNb
      clear HNL hNb
      obtain ⟨w2, rfl⟩ : ∃ w2 : World, w2 = wr := ⟨_, rfl⟩
      go_wp2_with fail
      clear hc9
      go_loopw [3, 7, 32] (fun nv _ i wr => ∃ (k N : Nat), k ≤ m.elems.length ∧ i = .int .i64 k ∧ nv = .int .i64 N ∧ m.funcs.length + m.imps.length ≤ N ∧ N ≤ 1099513724928 + k * 1048576 ∧ Below w2.heap.size w2 wr)
        (fun _ _ i _ => m.elems.length - (intOf i).toNat)
      case atStart => exact ⟨0, N, Nat.zero_le _, rfl, rfl, hN, by rw [Nat.zero_mul]; exact hN1, Below.refl _ _⟩
      case round =>
        have HB1 := Lib.hid (bt HB1.out HB.out)
        clear hN hN1 hk hlt HB
        obtain ⟨k, N, hk, rfl, rfl, hN, hNl, hB⟩ := hrel
        have HB := Lib.hid hB
        have hNb : N ≤ 1099513724928 + 1099511627776 := Nat.le_trans hNl (Nat.add_le_add_left (Nat.le_trans (Nat.mul_le_mul_right _ (Nat.le_trans hk hlE)) (by decide)) _)
        have HNL := Lib.hid hNl
        clear hB hNl
        by_cases hlt : k < m.elems.length
        · obtain ⟨x, hx⟩ : ∃ x, m.elems[k]? = some x := ⟨_, List.getElem?_eq_getElem hlt⟩
          obtain ⟨g, off, rfl, hg⟩ := hse (by intro e; simp [e] at hlt)
          have hok := HM.out.2.2.2.2.2.2.2.2.1.2.1 x (List.mem_of_getElem? hx)
          have hxl : x.fs.length ≤ 1048576 := hok.2.2.2.2
          obtain ⟨sb, cb, hbv, hsb⟩ := hok.2.2.1.form
          have hsl := HM.out.2.2.2.2.2.2.2.2.1.1
          rw [hev] at hsl
          have hr := keepr (bt HB1.out HB.out) (sl_range hsl hx)
          have HO := Lib.hid (oneElm hok)
          clear hsl hx hok hsb
          go_wp2_with (first | (refine wpList_load_mid rfl 65 _ rfl g (off + k * 3) rfl x.cs _ hr Try.underlying65 rfl sizeElm ?_; simp only [Act.put, List.setIfInBounds_toArray, List.set_cons_zero, List.set_cons_succ]) | (refine wl_put (Lies.new _ _ _) x.cs _ _ rfl rfl rfl rfl rfl sizeElm HO.out (fun w5 hL5 hF5 => ?_); have hcb : w5.cell? ⟨wr.heap.size, 2, none⟩ = some (.slice sb x.fs.length cb) := (hL5.cell 2).trans (congrArg some hbv); have HB5 := Lib.hid (below_put ((Below.refl wr.heap.size wr).alloc (Nat.le_refl _) _) hF5 (Nat.le_refl _)); clear hL5 hF5; try simp only [Act.put]))
          have hnn : N + x.fs.length / 4 ≤ 1099513724928 + (k + 1) * 1048576 := by
            have h1 := HNL.out
            rw [Nat.add_mul, Nat.one_mul]
            generalize k * 1048576 = q at h1 ⊢
            omega
          exact ⟨⟨k + 1, N + x.fs.length / 4, by omega, by go_num, by simp, by omega, hnn, bt HB.out HB5.out⟩, by simp [intOf]; omega⟩
        · obtain rfl : k = m.elems.length := by omega
          go_wp2_with fail
          go_ret
          refine ⟨⟨_, rfl, fun e => ?_⟩, bt HB1.out HB.out⟩
          rw [decide_eq_false_iff_not] at e
          omega
end Go.Proofs.Ytjafmclladiblaa.Gr
