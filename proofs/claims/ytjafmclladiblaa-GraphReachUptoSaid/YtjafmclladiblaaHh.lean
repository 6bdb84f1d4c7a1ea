/- Graph: the law GraphReach answers true. -/
import Derived.Test.YtjafmclladiblaaHe
namespace Go.Proofs.Ytjafmclladiblaa.Gr
open Go Go.RowKit Go.Lib Kt Fm

/-- Dead is what is own, not reached from the roots, and no root. -/
def deadB (m : Mod) (out : List Bool) (f : Nat) : Bool := decide ((fk m 0).length ≤ f) && !(out[f]? == some true || rootB m f)
theorem deadL_eq (m : Mod) (out : List Bool) : deadL m out = (List.range (cnt m)).filter (deadB m out) := rfl
set_option maxRecDepth 100000 in
set_option maxHeartbeats 32000000 in
theorem law_reach {W : World} {m : Mod} (hm : ModOk W m) {v : Value} {L : List Int} (hv : Sl W 1 zc v L) :
    Calls Try.prog 4 #[.agg m.cs.toArray, v] W fun e w' => e = .returned (.bool true) ∧ Below W.heap.size W w' := by
  have HM := Lib.hid hm
  have HX := Lib.hid hv
  obtain ⟨sv, cv, rfl, _⟩ := hv.form
  clear hm hv
  go_enter Try.func4, Try.ntmps4
  go_wp2_with (first | (refine wl_box m.cs _ rfl rfl rfl (fun w1 hb1 hl1 => ?_); have HB1 := Lib.hid hb1; have HL1 := Lib.hid hl1; clear hb1 hl1; simp only [Act.put, List.setIfInBounds_toArray, List.set_cons_zero, List.set_cons_succ]) | (refine wpList_load_mid rfl 33 _ rfl W.heap.size 0 rfl m.cs _ (lies_range HL1.out) Try.underlying33 rfl sizeMod ?_; simp only [Act.put, List.setIfInBounds_toArray, List.set_cons_zero, List.set_cons_succ]))
  refine known_any.mono ?_
  rintro en w2 ⟨rfl, hb2⟩
  have HB2 := Lib.hid (bt HB1.out hb2)
  have HL2 := Lib.hid (HL1.out.below hb2 HL1.out.lt)
  clear hb2 HB1 HL1
  go_wp2_with (refine wpList_load_mid rfl 33 _ rfl W.heap.size 0 rfl m.cs _ (lies_range HL2.out) Try.underlying33 rfl sizeMod ?_; simp only [Act.put, List.setIfInBounds_toArray, List.set_cons_zero, List.set_cons_succ])
  refine (heavy_any (HM.out.later HB2.out)).mono ?_
  rintro en w4 ⟨⟨b, rfl, hbv⟩, hb3⟩
  have HB4 := Lib.hid (bt HB2.out hb3)
  have HL4 := Lib.hid (HL2.out.below hb3 HL2.out.lt)
  clear hb3 HB2 HL2
  cases b with
  | true =>
    clear hbv
    go_wp2_with fail
    go_ret
    exact ⟨rfl, HB4.out⟩
  | false =>
  have hn20 : cnt m ≤ 20 := Nat.le_trans (cnt_lim m) (hbv rfl)
  clear hbv
  by_cases hL20 : 20 < L.length
  · go_wp2_with fail
    go_ret
    exact ⟨rfl, HB4.out⟩
  have hL : L.length ≤ 1000 := by omega
  have q1 : decide (20 < (L.length : Int)) = false := decide_eq_false (by omega)
  have Q := Lib.hid q1
  clear q1
  have hn4 : cnt m ≤ 1000 := by omega
  go_wp2_with (refine wpList_load_mid rfl 33 _ rfl W.heap.size 0 rfl m.cs _ (lies_range HL4.out) Try.underlying33 rfl sizeMod ?_; simp only [Act.put, List.setIfInBounds_toArray, List.set_cons_zero, List.set_cons_succ])
  refine (gof_any (HM.out.later HB4.out)).mono ?_
  rintro en w5 ⟨G, rfl, hg, hb4⟩
  have HB5 := Lib.hid (bt HB4.out hb4)
  have HL5 := Lib.hid (HL4.out.below hb4 HL4.out.lt)
  have HG5 := Lib.hid hg
  clear hb4 hg HB4 HL4 hL20
  go_wp2_with fail
  simp only [Q.out]
  clear Q
  refine wp_region_b [(0, true), (1, true), (3, true), (4, true), (2, false), (5, false), (6, false), (7, false), (8, true)] (by kernel_rfl) (by kernel_rfl) (fun _ _ d _ _ h => by cases d <;> exact h) ?_
  intro V hbV
  have HMA := Lib.hid ((ModAt.of HL5.out).later hbV)
  have HLV := Lib.hid (HL5.out.below hbV HL5.out.lt)
  have HGV := Lib.hid (HG5.out.later hbV)
  have HXV := Lib.hid (HX.out.later (bt HB5.out hbV))
  have HBV := Lib.hid (bt HB5.out hbV)
  clear hbV HL5 HG5 HB5
  repeat (first | (refine hs_take (v := .agg m.cs.toArray) rfl rfl (fun w' hw' => exec_loadM (HMA.out.later hw') _ rfl rfl) ?_; (try simp only [Act.put, List.setIfInBounds_toArray, List.set_cons_zero, List.set_cons_succ])) | (refine hs_take (v := ?_) rfl rfl (fun w' hw' => ?_) ?_; rotate_left; (focus (clear hw'; (try simp only [Act.put, List.setIfInBounds_toArray, List.set_cons_zero, List.set_cons_succ]); go_simp; (try go_bits); (try (with_reducible rfl)))); (try simp only [Act.put, List.setIfInBounds_toArray, List.set_cons_zero, List.set_cons_succ])) | (refine hs_skip rfl rfl ?_; (try simp only [Act.put, List.setIfInBounds_toArray, List.set_cons_zero, List.set_cons_succ])))
  refine hs_run rfl (fun K hK => ?_)
  go_simp
  refine (reach_any HGV.out hn4 HXV.out hL).mono ?_
  rintro en V1 ⟨v1, o1, rfl, hm1, ho1, hb1⟩
  have HS1 := Lib.hid (own_sl (en := ic) ic_len ho1)
  have HM1 := Lib.hid hm1
  refine hK.out _ _ hb1 ?_
  clear hK K ho1 hm1
  (try simp only [Act.put, List.setIfInBounds_toArray, List.set_cons_zero, List.set_cons_succ])
  refine hs_run rfl (fun K hK => ?_)
  go_simp
  refine (rreach_any (HM.out.later (bt HBV.out hb1)) hn4 (HXV.out.later hb1) hL).mono ?_
  rintro en V2 ⟨v2, o2, rfl, hm2, ho2, hb2⟩
  obtain rfl : o2 = o1 := hm2.uniq HM1.out
  have HS12 := Lib.hid (HS1.out.later hb2)
  have hlo : o2.length = cnt m := hm2.1
  rw [← flat_bc, ← hlo] at ho2
  have HS2 := Lib.hid (own_sl (en := bc) (fun _ => rfl) ho2)
  have hV2 := bt hb1 hb2
  refine hK.out _ _ hV2 ?_
  clear hK K ho2 hm2 hb1 hb2 HS1 HM1
  (try simp only [Act.put, List.setIfInBounds_toArray, List.set_cons_zero, List.set_cons_succ])
  refine hs_run rfl (fun K hK => ?_)
  go_simp
  refine (places_any HS2.out (by omega)).mono ?_
  rintro en V3 ⟨v3, rfl, ho3, hb3⟩
  have HS13 := Lib.hid (HS12.out.later hb3)
  have HS3 := Lib.hid (own_sl (en := ic) ic_len ho3)
  have hV3 := bt hV2 hb3
  refine hK.out _ _ hV3 ?_
  clear hK K ho3 hb3 HS12 HS2 hV2
  (try simp only [Act.put, List.setIfInBounds_toArray, List.set_cons_zero, List.set_cons_succ])
  have hpl := places_le o2
  refine hs_run rfl (fun K hK => ?_)
  go_simp
  refine (equal_ic HS13.out HS3.out (by omega) (by omega)).mono ?_
  rintro en V4 ⟨rfl, hb4⟩
  rw [show (places o2 == places o2) = true from beq_iff_eq.2 rfl]
  have hV4 := bt hV3 hb4
  refine hK.out _ _ hV4 ?_
  clear hK K hb4 HS13 HS3 hV3 hpl hlo
  (try simp only [Act.put, List.setIfInBounds_toArray, List.set_cons_zero, List.set_cons_succ])
  repeat (first | (refine hs_take (v := .agg m.cs.toArray) rfl rfl (fun w' hw' => exec_loadM (HMA.out.later hw') _ rfl rfl) ?_; (try simp only [Act.put, List.setIfInBounds_toArray, List.set_cons_zero, List.set_cons_succ])) | (refine hs_take (v := ?_) rfl rfl (fun w' hw' => ?_) ?_; rotate_left; (focus (clear hw'; (try simp only [Act.put, List.setIfInBounds_toArray, List.set_cons_zero, List.set_cons_succ]); go_simp; (try go_bits); (try (with_reducible rfl)))); (try simp only [Act.put, List.setIfInBounds_toArray, List.set_cons_zero, List.set_cons_succ])) | (refine hs_skip rfl rfl ?_; (try simp only [Act.put, List.setIfInBounds_toArray, List.set_cons_zero, List.set_cons_succ])))
  refine hs_done ?_
  have HB6 := Lib.hid (bt HBV.out hV4)
  have HL6 := Lib.hid (HLV.out.below hV4 HLV.out.lt)
  have HG6 := Lib.hid (HGV.out.later hV4)
  clear hV4 HBV HLV HGV HXV HMA
  go_wp2_with fail
  refine (roots_any HG6.out (by omega)).mono ?_
  rintro en w7 ⟨v7, rfl, ho, hb⟩
  have HR7 := Lib.hid (sl_zc (own_sl (en := ic) ic_len ho))
  have HB7 := Lib.hid (bt HB6.out hb)
  have HL7 := Lib.hid (HL6.out.below hb HL6.out.lt)
  have HG7 := Lib.hid (HG6.out.later hb)
  have hrl : (ints (rootsL m)).length ≤ 1000 := by
    rw [ints_len]
    exact Nat.le_trans (rootsL_le m) hn4
  clear hb ho HB6 HL6 HG6
  go_wp2_with (refine wpList_load_mid rfl 33 _ rfl W.heap.size 0 rfl m.cs _ (lies_range HL7.out) Try.underlying33 rfl sizeMod ?_; simp only [Act.put, List.setIfInBounds_toArray, List.set_cons_zero, List.set_cons_succ])
  refine (rreach_any (HM.out.later HB7.out) hn4 HR7.out hrl).mono ?_
  rintro en w8 ⟨v8, live, rfl, hmk, ho8, hb⟩
  have HMK := Lib.hid hmk
  have HLR := Lib.hid ho8
  have HB8 := Lib.hid (bt HB7.out hb)
  have HL8 := Lib.hid (HL7.out.below hb HL7.out.lt)
  have HG8 := Lib.hid (HG7.out.later hb)
  generalize w7.heap.size = LB at HLR
  clear hmk hb ho8 HB7 HL7 HG7 HR7 hrl
  obtain ⟨sl8, cl8, rfl, _, hsl8⟩ := row_form HLR.out
  go_wp2_with (refine wpList_load_mid rfl 33 _ rfl W.heap.size 0 rfl m.cs _ (lies_range HL8.out) Try.underlying33 rfl sizeMod ?_; simp only [Act.put, List.setIfInBounds_toArray, List.set_cons_zero, List.set_cons_succ])
  refine (rlen_any (HM.out.later HB8.out)).mono ?_
  rintro en w9 ⟨rfl, hb⟩
  have HLR9 := Lib.hid (ownsRow_keep HLR.out hb)
  have HB9 := Lib.hid (bt HB8.out hb)
  have HL9 := Lib.hid (HL8.out.below hb HL8.out.lt)
  have HG9 := Lib.hid (HG8.out.later hb)
  clear hb HB8 HL8 HG8 HLR
  go_wp2_with fail
  obtain ⟨R0, hR0⟩ : ∃ R0, R0 = w9.heap.size := ⟨_, rfl⟩
  have HR0 := Lib.hid hR0
  clear hR0
  go_loopw [8, 9, 10, 38] (fun dv _ _ iv wr => ∃ (i : Nat), i ≤ cnt m ∧ iv = .int .i64 i ∧ wr.ownsRow R0 3 1 dv ((List.range i).filter (deadB m live)).length (((List.range i).filter (deadB m live)).flatMap ic) ∧ Below R0 w9 wr)
    (fun _ _ _ iv _ => cnt m - (intOf iv).toNat)
  case atStart => exact ⟨0, Nat.zero_le _, rfl, World.ownsRow_nil _ _ _ _, Below.refl _ _⟩
  case round =>
    obtain ⟨i, hi, rfl, hrow, hB⟩ := hrel
    have hB' : Below w9.heap.size w9 wr := by rw [← HR0.out]; exact hB
    have HRW := Lib.hid hrow
    have HBR := Lib.hid hB
    have HBW := Lib.hid (bt HB9.out hB')
    have HLW := Lib.hid (HL9.out.below hB' HL9.out.lt)
    have HGW := Lib.hid (HG9.out.later hB')
    have HLRW := Lib.hid (ownsRow_keep HLR9.out hB')
    have hRr : R0 ≤ wr.heap.size := by rw [HR0.out]; exact hB'.size
    clear hrow hB hB'
    by_cases hlt : i < cnt m
    · obtain ⟨wo, hwo⟩ : ∃ wo : World, wo = wr := ⟨_, rfl⟩
      go_upto_region 14 with fail
      go_cut [51] from 41 to 51 (fun c wx => c = .bool false ∧ Below wr.heap.size wr wx)
      case first =>
        have HBD := Lib.hid (below_drew wr)
        have HMA := Lib.hid ((ModAt.of HLW.out).later (below_drew wr))
        have HGV := Lib.hid (HGW.out.later (below_drew wr))
        have HBV := Lib.hid (bt HBW.out (below_drew wr))
        refine RP.region (RP.take 0 (RP.take 1 (RP.take 3 (RP.take 4 (RP.take 7 (RP.fork 2 5 (RP.run 5 (RP.run 6 (RP.run 8 (RP.run 9 (RP.run 10 RP.done))))) (RP.run 2 (RP.run 6 (RP.run 8 (RP.run 9 (RP.run 10 RP.done))))))))))) (fun w' => ModAt w' W.heap.size m) (by kernel_rfl) (by kernel_rfl) (fun _ _ d _ _ h => by first | (cases d <;> exact h) | cases h.1) HMA.out (fun _ => ?_)
        generalize wr.drew = V at HBD HMA HGV HBV ⊢
        have hr0 : Below V.heap.size V V := Below.refl _ _
        repeat (first | (refine RP.t_take (v := .agg m.cs.toArray) rfl rfl (fun w' hw' => exec_loadM hw' _ rfl rfl) ?_; (try simp only [Act.put, List.setIfInBounds_toArray, List.set_cons_zero, List.set_cons_succ])) | (refine RP.t_take (v := ?_) rfl rfl (fun w' hw' => ?_) ?_; rotate_left; (focus ((clear hw'); (try simp only [Act.put, List.setIfInBounds_toArray, List.set_cons_zero, List.set_cons_succ]); go_simp; (try go_bits); (try (with_reducible rfl)))); (try simp only [Act.put, List.setIfInBounds_toArray, List.set_cons_zero, List.set_cons_succ])) | (refine RP.t_skip rfl rfl ?_; (try simp only [Act.put, List.setIfInBounds_toArray, List.set_cons_zero, List.set_cons_succ])))
        refine RP.t_fork rfl rfl (fun K hK => ?_) (fun K hK => ?_)
        · go_simp
          refine (circle_any (HGV.out.later hr0) hn4 i).mono ?_
          rintro en Va ⟨⟨b, rfl, hbb⟩, hbc⟩
          have HBB := Lib.hid (show b = true ↔ Way (cnt m) (callsB m) i i from hbb.trans ⟨fun e => by simpa using e.2, fun e => ⟨by omega, by simpa using e⟩⟩)
          have hx := bt hr0 hbc
          refine hK.out _ _ (HMA.out.later hx) ?_
          clear hK K hbb
          (try simp only [Act.put, List.setIfInBounds_toArray, List.set_cons_zero, List.set_cons_succ])
          refine RP.t_run rfl (fun K hK => ?_)
          refine ite_of rfl ?_
          refine wp_bs1 _ _ (bs_z i) _ rfl rfl (fun Vb hbk hlk => ?_)
          have HSK := Lib.hid (sl_one (sz := 1) (en := zc) hlk)
          have hy := bt hx hbk
          refine hK.out _ _ (HMA.out.later hy) ?_
          clear hK K hlk
          (try simp only [Act.put, List.setIfInBounds_toArray, List.set_cons_zero, List.set_cons_succ])
          refine RP.t_run rfl (fun K hK => ?_)
          go_simp
          refine (rreach_any (HM.out.later (bt HBV.out hy)) hn4 (HSK.out) (by simp)).mono ?_
          rintro en V9 ⟨v9, o9, rfl, hm9, ho9, hb9⟩
          have hz := bt hy hb9
          refine hK.out _ _ (HMA.out.later hz) ?_
          clear hK K
          (try simp only [Act.put, List.setIfInBounds_toArray, List.set_cons_zero, List.set_cons_succ])
          obtain ⟨b2, hb2⟩ : ∃ b2, o9[i]? = some b2 := ⟨_, List.getElem?_eq_getElem (by rw [hm9.1]; exact hlt)⟩
          have hbb2 : b2 = b := by
            have h1 := hm9.2 i hlt
            rw [hb2, got_one] at h1
            have h2 := HBB.out
            cases b <;> cases b2 <;> simp_all
          subst hbb2
          obtain ⟨s9, c9, rfl, _, hs9⟩ := row_form ho9
          obtain ⟨g9, rfl⟩ := hs9 (by omega)
          have hcell := ho9.cells (g := g9) rfl i (.bool b2) (by rw [List.getElem?_map, hb2]; rfl)
          rw [Addr.add_lit, Nat.zero_add] at hcell
          have HMZ := Lib.hid (HMA.out.later hz)
          have HZ := Lib.hid (bt HBD.out hz)
          clear hm9 ho9 hb9 hb2 HBB
          refine RP.t_run rfl (fun K hK => ?_)
          go_simp
          refine hK.out _ _ HMZ.out ?_
          clear hK K
          (try simp only [Act.put, List.setIfInBounds_toArray, List.set_cons_zero, List.set_cons_succ])
          refine RP.t_run rfl (fun K hK => ?_)
          go_simp
          refine hK.out _ _ HMZ.out ?_
          clear hK K
          (try simp only [Act.put, List.setIfInBounds_toArray, List.set_cons_zero, List.set_cons_succ])
          cases b2
          all_goals
            refine RP.t_run rfl (fun K hK => ?_)
            go_simp
            refine hK.out _ _ HMZ.out ?_
            clear hK K
            (try simp only [Act.put, List.setIfInBounds_toArray, List.set_cons_zero, List.set_cons_succ])
            refine RP.t_done ?_
            (try go_wp2_with fail)
            (try go_meet)
            exact ⟨rfl, HZ.out⟩
        · refine ite_of rfl ?_
          refine wp_bs1 _ _ (bs_z i) _ rfl rfl (fun Vb hbk hlk => ?_)
          have HSK := Lib.hid (sl_one (sz := 1) (en := zc) hlk)
          have hy := bt hr0 hbk
          refine hK.out _ _ (HMA.out.later hy) ?_
          clear hK K hlk
          (try simp only [Act.put, List.setIfInBounds_toArray, List.set_cons_zero, List.set_cons_succ])
          refine RP.t_run rfl (fun K hK => ?_)
          go_simp
          refine (circle_any (HGV.out.later hy) hn4 i).mono ?_
          rintro en Va ⟨⟨b, rfl, hbb⟩, hbc⟩
          have HBB := Lib.hid (show b = true ↔ Way (cnt m) (callsB m) i i from hbb.trans ⟨fun e => by simpa using e.2, fun e => ⟨by omega, by simpa using e⟩⟩)
          have hx := bt hy hbc
          refine hK.out _ _ (HMA.out.later hx) ?_
          clear hK K hbb
          (try simp only [Act.put, List.setIfInBounds_toArray, List.set_cons_zero, List.set_cons_succ])
          refine RP.t_run rfl (fun K hK => ?_)
          go_simp
          refine (rreach_any (HM.out.later (bt HBV.out hx)) hn4 (HSK.out.later hbc) (by simp)).mono ?_
          rintro en V9 ⟨v9, o9, rfl, hm9, ho9, hb9⟩
          have hz := bt hx hb9
          refine hK.out _ _ (HMA.out.later hz) ?_
          clear hK K
          (try simp only [Act.put, List.setIfInBounds_toArray, List.set_cons_zero, List.set_cons_succ])
          obtain ⟨b2, hb2⟩ : ∃ b2, o9[i]? = some b2 := ⟨_, List.getElem?_eq_getElem (by rw [hm9.1]; exact hlt)⟩
          have hbb2 : b2 = b := by
            have h1 := hm9.2 i hlt
            rw [hb2, got_one] at h1
            have h2 := HBB.out
            cases b <;> cases b2 <;> simp_all
          subst hbb2
          obtain ⟨s9, c9, rfl, _, hs9⟩ := row_form ho9
          obtain ⟨g9, rfl⟩ := hs9 (by omega)
          have hcell := ho9.cells (g := g9) rfl i (.bool b2) (by rw [List.getElem?_map, hb2]; rfl)
          rw [Addr.add_lit, Nat.zero_add] at hcell
          have HMZ := Lib.hid (HMA.out.later hz)
          have HZ := Lib.hid (bt HBD.out hz)
          clear hm9 ho9 hb9 hb2 HBB
          refine RP.t_run rfl (fun K hK => ?_)
          go_simp
          refine hK.out _ _ HMZ.out ?_
          clear hK K
          (try simp only [Act.put, List.setIfInBounds_toArray, List.set_cons_zero, List.set_cons_succ])
          refine RP.t_run rfl (fun K hK => ?_)
          go_simp
          refine hK.out _ _ HMZ.out ?_
          clear hK K
          (try simp only [Act.put, List.setIfInBounds_toArray, List.set_cons_zero, List.set_cons_succ])
          cases b2
          all_goals
            refine RP.t_run rfl (fun K hK => ?_)
            go_simp
            refine hK.out _ _ HMZ.out ?_
            clear hK K
            (try simp only [Act.put, List.setIfInBounds_toArray, List.set_cons_zero, List.set_cons_succ])
            refine RP.t_done ?_
            (try go_wp2_with fail)
            (try go_meet)
            exact ⟨rfl, HZ.out⟩
      case rest =>
        obtain ⟨rfl, hbx⟩ := hcut
        obtain ⟨wd, rfl⟩ : ∃ wd : World, wd = wc := ⟨_, rfl⟩
        have HRW2 := Lib.hid (ownsRow_keep HRW.out hbx)
        have HBR2 := Lib.hid (HBR.out.trans (hbx.mono hRr))
        have HB2 := Lib.hid (bt HBW.out hbx)
        have HL2 := Lib.hid (HLW.out.below hbx HLW.out.lt)
        have HLR2 := Lib.hid (ownsRow_keep HLRW.out hbx)
        have hRr2 : R0 ≤ wd.heap.size := Nat.le_trans hRr hbx.size
        clear hbx HRW HBR HBW HLW HGW HLRW
        go_upto_region 16 with fail
        go_cut [10] from 52 to 59 (fun c wx => c = .bool (decide ((fk m 0).length ≤ i)) ∧ Below wd.heap.size wd wx)
        case first =>
          have HMA := Lib.hid (ModAt.of HL2.out)
          obtain ⟨sf, cf, hfv, _⟩ := HM.out.2.2.1.1.form
          have hc2 := HMA.out.c2
          rw [hfv] at hc2
          have hlF : m.funcs.length ≤ 1048576 := HM.out.2.2.1.2.2
          have HBV := HB2
          have hbx := Below.refl wd.heap.size wd
          refine wp_region_b [(0, true), (1, true), (3, true), (4, true), (5, true), (2, false), (6, true), (7, true), (8, true)] (by kernel_rfl) (by kernel_rfl) (fun _ _ d _ _ h => by cases d <;> exact h) ?_
          intro V hbV
          replace hc2 := keepc hbV hc2
          replace HMA := Lib.hid (HMA.out.later hbV)
          replace HBV := Lib.hid (bt HBV.out hbV)
          have hS0 : Below V.heap.size V V := Below.refl _ _
          repeat (first | (refine hs_take (v := .agg m.cs.toArray) rfl rfl (fun w' hw' => exec_loadM (HMA.out.later hw') _ rfl rfl) ?_; (try simp only [Act.put, List.setIfInBounds_toArray, List.set_cons_zero, List.set_cons_succ])) | (refine hs_take (v := ?_) rfl rfl (fun w' hw' => ?_) ?_; rotate_left; (focus (have q0 := keepc hw' hc2; clear hw'; (try simp only [Act.put, List.setIfInBounds_toArray, List.set_cons_zero, List.set_cons_succ]); go_simp; (try go_bits); (try (with_reducible rfl)))); (try simp only [Act.put, List.setIfInBounds_toArray, List.set_cons_zero, List.set_cons_succ])) | (refine hs_skip rfl rfl ?_; (try simp only [Act.put, List.setIfInBounds_toArray, List.set_cons_zero, List.set_cons_succ])))
          refine hs_run rfl (fun K hK => ?_)
          go_simp
          refine (rlen_any (HM.out.later (bt HBV.out hS0))).mono ?_
          rintro en V1 ⟨rfl, hB1⟩
          have hS1 := bt hS0 hB1
          clear hB1 hS0
          refine hK.out _ _ hS1 ?_
          clear hK K
          (try simp only [Act.put, List.setIfInBounds_toArray, List.set_cons_zero, List.set_cons_succ])
          repeat (first | (refine hs_take (v := .agg m.cs.toArray) rfl rfl (fun w' hw' => exec_loadM (HMA.out.later hw') _ rfl rfl) ?_; (try simp only [Act.put, List.setIfInBounds_toArray, List.set_cons_zero, List.set_cons_succ])) | (refine hs_take (v := ?_) rfl rfl (fun w' hw' => ?_) ?_; rotate_left; (focus (have q0 := keepc hw' hc2; clear hw'; (try simp only [Act.put, List.setIfInBounds_toArray, List.set_cons_zero, List.set_cons_succ]); go_simp; (try go_bits); (try (with_reducible rfl)))); (try simp only [Act.put, List.setIfInBounds_toArray, List.set_cons_zero, List.set_cons_succ])) | (refine hs_skip rfl rfl ?_; (try simp only [Act.put, List.setIfInBounds_toArray, List.set_cons_zero, List.set_cons_succ])))
          refine hs_done ?_
          go_wp2_with fail
          go_meet
          have hcm : cnt m = (fk m 0).length + m.funcs.length := rfl
          exact ⟨congrArg Value.bool (decide_eq_decide.2 (by omega)), bt hbV hS1⟩
        case rest =>
          obtain ⟨rfl, hbx⟩ := hcut
          obtain ⟨we, rfl⟩ : ∃ we : World, we = wc := ⟨_, rfl⟩
          have HRW3 := Lib.hid (ownsRow_keep HRW2.out hbx)
          have HBR3 := Lib.hid (HBR2.out.trans (hbx.mono hRr2))
          have HB3 := Lib.hid (bt HB2.out hbx)
          have HL3 := Lib.hid (HL2.out.below hbx HL2.out.lt)
          have HA3 := Lib.hid (ModAt.of HL3.out)
          have hlr3 := ownsRow_keep HLR2.out hbx
          have hRr3 : R0 ≤ we.heap.size := Nat.le_trans hRr2 hbx.size
          obtain ⟨lb, hlb⟩ : ∃ lb, live[i]? = some lb := ⟨_, List.getElem?_eq_getElem (by rw [HMK.out.1]; exact hlt)⟩
          obtain ⟨g8, rfl⟩ := hsl8 (by omega)
          have hcell := hlr3.cells (g := g8) rfl i (.bool lb) (by rw [List.getElem?_map, hlb]; rfl)
          rw [Addr.add_lit, Nat.zero_add] at hcell
          obtain ⟨ob, hob⟩ : ∃ ob, ob = decide ((fk m 0).length ≤ i) := ⟨_, rfl⟩
          have HST := Lib.hid (filter_step (deadB m live) i)
          have hkl := filt_le (deadB m live) i
          have HDB := Lib.hid (show deadB m live i = (ob && !(lb || rootB m i)) by unfold deadB; rw [hlb, ← hob]; cases lb <;> rfl)
          rw [← hob]
          clear hbx HRW2 HBR2 HB2 HL2 HLR2 hlb hob hlr3
          cases ob with
          | false =>
            go_wp2_with fail
            exact ⟨⟨i + 1, by omega, by go_num, by rw [HST.out, HDB.out]; simpa using HRW3.out, HBR3.out⟩, by simp [intOf]; omega⟩
          | true => cases lb with
            | true =>
              go_wp2_with fail
              exact ⟨⟨i + 1, by omega, by go_num, by rw [HST.out, HDB.out]; simpa using HRW3.out, HBR3.out⟩, by simp [intOf]; omega⟩
            | false =>
              go_wp2_with (first | (refine wpList_load_mid rfl 33 _ rfl W.heap.size 0 rfl m.cs _ (lies_range HL3.out) Try.underlying33 rfl sizeMod ?_; simp only [Act.put, List.setIfInBounds_toArray, List.set_cons_zero, List.set_cons_succ]) | (refine wm_loadw HA3.out _ (by first | rfl | (simp [Region.wanted, yielded, *]; done)) rfl rfl ?_; simp only [Act.put, List.setIfInBounds_toArray, List.set_cons_zero, List.set_cons_succ]))
              refine (rroot_any (HM.out.later HB3.out) (f := i) (by omega)).mono ?_
              rintro en wf ⟨rfl, hb⟩
              have HRW4 := Lib.hid (ownsRow_keep HRW3.out hb)
              have HBR4 := Lib.hid (HBR3.out.trans (hb.mono hRr3))
              have hRr4 : R0 ≤ wf.heap.size := Nat.le_trans hRr3 hb.size
              have HDB2 := Lib.hid HDB.out
              generalize rootB m i = rb at HDB2 ⊢
              clear hb HRW3 HBR3 HB3 HL3 HA3 hcell HDB
              cases rb with
              | true =>
                go_wp2_with fail
                exact ⟨⟨i + 1, by omega, by go_num, by rw [HST.out, HDB2.out]; simpa using HRW4.out, HBR4.out⟩, by simp [intOf]; omega⟩
              | false =>
                go_wp2_with (first | (refine wl_bs1 _ _ (bs_int i) _ rfl rfl rfl (fun w13 hb13 hl13 => ?_); have HN13 := Lib.hid hl13; have HB13 := Lib.hid hb13; clear hb13 hl13; simp only [Act.put, List.setIfInBounds_toArray, List.set_cons_zero, List.set_cons_succ]) | (refine wl_app _ _ rfl rfl Try.underlying40 info_int (by decide) rfl (ownsRow_keep HRW4.out HB13.out) ic_len rfl (sl_one (en := ic) HN13.out) (fun y _ => oneIc y) (by simp only [List.length_singleton]; unfold maxLen; omega) (by simp only [List.length_singleton]; omega) (Nat.le_trans hRr4 HB13.out.size) (fun v' w8 hr8 hg8 hv8 => ?_); have HR8 := Lib.hid hr8; have HG8 := Lib.hid hg8; clear hr8 hg8 hv8; try simp only [Act.put]))
                exact ⟨⟨i + 1, by omega, by go_num, by rw [HST.out, HDB2.out]; simp only [Bool.false_or, Bool.not_false, Bool.and_true, if_true]; rw [List.length_append, List.flatMap_append]; exact HR8.out, (HBR4.out.trans (HB13.out.mono hRr4)).grown HG8.out (Nat.le_trans hRr4 HB13.out.size) (fun k hk => (row_block (ownsRow_keep HRW4.out HB13.out) hk).1)⟩, by simp [intOf]; omega⟩
    · obtain rfl : i = cnt m := by omega
      have HK := Lib.hid (own_sl (en := ic) ic_len HRW.out)
      clear HRW HLW HLRW
      go_wp2_with fail
      refine (dead_any HGW.out hn4).mono ?_
      rintro en wa ⟨va, o9, rfl, hm9, ho, hb⟩
      obtain rfl : o9 = live := hm9.uniq HMK.out
      rw [deadL_eq] at ho
      have HC := Lib.hid (own_sl (en := ic) ic_len ho)
      have HK2 := Lib.hid (HK.out.later hb)
      have HBa := Lib.hid (bt HBW.out hb)
      have hkl := filt_le (deadB m o9) (cnt m)
      clear hb ho HK HBW HGW hm9
      go_wp2_with fail
      refine (equal_ic HC.out HK2.out (by omega) (by omega)).mono ?_
      rintro en wb ⟨rfl, hb⟩
      rw [show ((List.range (cnt m)).filter (deadB m o9) == (List.range (cnt m)).filter (deadB m o9)) = true from beq_iff_eq.2 rfl]
      have HBb := Lib.hid (bt HBa.out hb)
      clear hb HC HK2 HBa
      go_wp2_with fail
      go_ret
      exact ⟨rfl, HBb.out⟩
end Go.Proofs.Ytjafmclladiblaa.Gr
