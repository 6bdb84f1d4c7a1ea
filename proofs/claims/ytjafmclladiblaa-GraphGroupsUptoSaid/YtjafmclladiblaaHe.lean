/- Graph: the law GraphCalls answers true. -/
import Derived.Test.YtjafmclladiblaaHd
import Derived.Test.YtjafmclladiblaaGz
namespace Go.Proofs.Ytjafmclladiblaa.Gr
open Go Go.RowKit Go.Lib Kt Fm

theorem cnt_lim (m : Mod) : cnt m ≤ m.funcs.length + m.imps.length := by
  have := fimps_le m
  unfold cnt
  omega
theorem filter_step (p : Nat → Bool) (k : Nat) : (List.range (k + 1)).filter p = (List.range k).filter p ++ if p k then [k] else [] := range_filter_succ _ _
theorem filt_le (p : Nat → Bool) (k : Nat) : ((List.range k).filter p).length ≤ k := Nat.le_trans (List.length_filter_le _ _) (by simp)
set_option maxRecDepth 100000 in
set_option maxHeartbeats 16000000 in
theorem law_calls {W : World} {m : Mod} (hm : ModOk W m) (f : Int) :
    Calls Try.prog 3 #[.agg m.cs.toArray, .int .i64 f] W fun e w' => e = .returned (.bool true) ∧ Below W.heap.size W w' := by
  have HM := Lib.hid hm
  clear hm
  go_enter Try.func3, Try.ntmps3
  go_wp2_with (first | (refine wl_box m.cs _ rfl rfl rfl (fun w1 hb1 hl1 => ?_); have HB1 := Lib.hid hb1; have HL1 := Lib.hid hl1; clear hb1 hl1; simp only [Act.put, List.setIfInBounds_toArray, List.set_cons_zero, List.set_cons_succ]) | (refine wpList_load_mid rfl 33 _ rfl W.heap.size 0 rfl m.cs _ (lies_range HL1.out) Try.underlying33 rfl sizeMod ?_; simp only [Act.put, List.setIfInBounds_toArray, List.set_cons_zero, List.set_cons_succ]))
  refine known_any.mono ?_
  rintro en w2 ⟨rfl, hb2⟩
  have HB2 := Lib.hid (bt HB1.out hb2)
  have HL2 := Lib.hid (HL1.out.below hb2 HL1.out.lt)
  clear hb2 HB1 HL1
  go_wp2_with (refine wpList_load_mid rfl 33 _ rfl W.heap.size 0 rfl m.cs _ (lies_range HL2.out) Try.underlying33 rfl sizeMod ?_; simp only [Act.put, List.setIfInBounds_toArray, List.set_cons_zero, List.set_cons_succ])
  refine (heavy_any (HM.out.later HB2.out)).mono ?_
  rintro en w3 ⟨⟨b, rfl, hbv⟩, hb3⟩
  have HB3 := Lib.hid (bt HB2.out hb3)
  have HL3 := Lib.hid (HL2.out.below hb3 HL2.out.lt)
  clear hb3 HB2 HL2
  cases b with
  | true =>
    clear hbv
    go_wp2_with fail
    go_ret
    exact ⟨rfl, HB3.out⟩
  | false =>
  have hn20 : cnt m ≤ 20 := Nat.le_trans (cnt_lim m) (hbv rfl)
  clear hbv
  have hn4 : cnt m ≤ 4194304 := by omega
  go_wp2_with (refine wpList_load_mid rfl 33 _ rfl W.heap.size 0 rfl m.cs _ (lies_range HL3.out) Try.underlying33 rfl sizeMod ?_; simp only [Act.put, List.setIfInBounds_toArray, List.set_cons_zero, List.set_cons_succ])
  refine (gof_any (HM.out.later HB3.out)).mono ?_
  rintro en w4 ⟨G, rfl, hg, hb4⟩
  have HB4 := Lib.hid (bt HB3.out hb4)
  have HL4 := Lib.hid (HL3.out.below hb4 HL3.out.lt)
  have HG4 := Lib.hid hg
  clear hb4 hg HB3 HL3
  go_wp2_with (refine wpList_load_mid rfl 33 _ rfl W.heap.size 0 rfl m.cs _ (lies_range HL4.out) Try.underlying33 rfl sizeMod ?_; simp only [Act.put, List.setIfInBounds_toArray, List.set_cons_zero, List.set_cons_succ])
  refine (rlen_any (HM.out.later HB4.out)).mono ?_
  rintro en w5 ⟨rfl, hb5⟩
  have HB5 := Lib.hid (bt HB4.out hb5)
  have HL5 := Lib.hid (HL4.out.below hb5 HL4.out.lt)
  have HG5 := Lib.hid (HG4.out.later hb5)
  clear hb5 HB4 HL4 HG4
  go_upto_region 7 with fail
  go_cut [38] from 19 to 38 (fun c wx => c = .bool false ∧ Below w5.heap.size w5 wx)
  case first =>
    go_wp2_with fail
    refine (len_any HG5.out).mono ?_
    rintro en w5' ⟨rfl, rfl⟩
    by_cases h0 : f < 0
    · go_wp2_with fail
      refine (calls_any HG5.out hn4 f).mono ?_
      rintro en w6 ⟨v6, rfl, ho, hb⟩
      rw [show gcalls m f = [] by unfold gcalls; rw [if_neg (by omega)]] at ho
      obtain ⟨s6, c6, rfl, _, _⟩ := row_form ho
      go_wp2_with fail
      go_meet
      exact ⟨rfl, hb⟩
    · by_cases h1 : f < (cnt m : Int)
      · go_wp2_with fail
        go_meet
        exact ⟨rfl, Below.refl _ _⟩
      · go_wp2_with fail
        refine (calls_any HG5.out hn4 f).mono ?_
        rintro en w6 ⟨v6, rfl, ho, hb⟩
        rw [show gcalls m f = [] by unfold gcalls; rw [if_neg (by omega)]] at ho
        obtain ⟨s6, c6, rfl, _, _⟩ := row_form ho
        go_wp2_with fail
        go_meet
        exact ⟨rfl, hb⟩
  case rest =>
    obtain ⟨rfl, hbx⟩ := hcut
    have HB6 := Lib.hid (bt HB5.out hbx)
    have HL6 := Lib.hid (HL5.out.below hbx HL5.out.lt)
    have HG6 := Lib.hid (HG5.out.later hbx)
    clear hbx HB5 HL5 HG5
    go_wp2_with fail
    obtain ⟨w6, hw6⟩ : ∃ w6 : World, w6 = wc := ⟨_, rfl⟩
    rw [← hw6] at HB6 HL6 HG6 ⊢
    clear hw6
    obtain ⟨R0, hR0⟩ : ∃ R0, R0 = w6.heap.size := ⟨_, rfl⟩
    have HR0 := Lib.hid hR0
    clear hR0
    go_loopw [7, 8, 9, 10, 40] (fun rv _ _ _ iv wr => ∃ (i : Nat), i ≤ cnt m ∧ iv = .int .i64 i ∧ wr.ownsRow R0 3 1 rv ((List.range i).filter (rootB m)).length (((List.range i).filter (rootB m)).flatMap ic) ∧ Below R0 w6 wr)
      (fun _ _ _ _ iv _ => cnt m - (intOf iv).toNat)
    case atStart => exact ⟨0, Nat.zero_le _, rfl, World.ownsRow_nil _ _ _ _, Below.refl _ _⟩
    case round =>
      obtain ⟨i, hi, rfl, hrow, hB⟩ := hrel
      have hB' : Below w6.heap.size w6 wr := by rw [← HR0.out]; exact hB
      have HRW := Lib.hid hrow
      have HBR := Lib.hid hB
      have HB7 := Lib.hid (bt HB6.out hB')
      have HL7 := Lib.hid (HL6.out.below hB' HL6.out.lt)
      have HG7 := Lib.hid (HG6.out.later hB')
      have hRr : R0 ≤ wr.heap.size := by rw [HR0.out]; exact hB'.size
      clear hrow hB hB'
      by_cases hlt : i < cnt m
      · go_wp2_with fail
        obtain ⟨w7, rfl⟩ : ∃ w7 : World, w7 = wr := ⟨_, rfl⟩
        go_loopw [9, 10, 44] (fun kv _ hv wx => ∃ (h : Nat), h ≤ cnt m ∧ hv = .int .i64 h ∧ wx.ownsRow w7.heap.size 3 1 kv ((List.range h).filter (callsB m i)).length (((List.range h).filter (callsB m i)).flatMap ic) ∧ Below w7.heap.size w7 wx)
          (fun _ _ hv _ => cnt m - (intOf hv).toNat)
        case atStart => exact ⟨0, Nat.zero_le _, rfl, World.ownsRow_nil _ _ _ _, Below.refl _ _⟩
        case round =>
          obtain ⟨h, hh, rfl, hrow, hB⟩ := hrel
          have HKW := Lib.hid hrow
          have HBX := Lib.hid hB
          have HB8 := Lib.hid (bt HB7.out hB)
          have HL8 := Lib.hid (HL7.out.below hB HL7.out.lt)
          clear hrow hB
          by_cases hlt2 : h < cnt m
          · go_wp2_with (refine wpList_load_mid rfl 33 _ rfl W.heap.size 0 rfl m.cs _ (lies_range HL8.out) Try.underlying33 rfl sizeMod ?_; simp only [Act.put, List.setIfInBounds_toArray, List.set_cons_zero, List.set_cons_succ])
            refine (rcalls_any (HM.out.later HB8.out) (f := i) (h := h) (by omega) (by omega)).mono ?_
            rintro en w9 ⟨rfl, hb⟩
            have HKW9 := Lib.hid (ownsRow_keep HKW.out hb)
            have HBX9 := Lib.hid (bt HBX.out hb)
            have HST := Lib.hid (filter_step (callsB m i) h)
            have hkl := filt_le (callsB m i) h
            generalize callsB m i h = c at HST ⊢
            clear hb HKW HBX HB8 HL8
            cases c with
            | false =>
              go_wp2_with fail
              exact ⟨⟨h + 1, by omega, by go_num, by rw [HST.out]; simpa using HKW9.out, HBX9.out⟩, by simp [intOf]; omega⟩
            | true =>
              go_wp2_with (first | (refine wl_bs1 _ _ (bs_int h) _ rfl rfl rfl (fun w11 hb11 hl11 => ?_); have HN11 := Lib.hid hl11; have HB11 := Lib.hid hb11; clear hb11 hl11; simp only [Act.put, List.setIfInBounds_toArray, List.set_cons_zero, List.set_cons_succ]) | (refine wl_app _ _ rfl rfl Try.underlying40 info_int (by decide) rfl (ownsRow_keep HKW9.out HB11.out) ic_len rfl (sl_one (en := ic) HN11.out) (fun y _ => oneIc y) (by simp only [List.length_singleton]; unfold maxLen; omega) (by simp only [List.length_singleton]; omega) ((bt HBX9.out HB11.out).size) (fun v' w8 hr8 hg8 hv8 => ?_); have HR8 := Lib.hid hr8; have HG8 := Lib.hid hg8; clear hr8 hg8 hv8; try simp only [Act.put]))
              exact ⟨⟨h + 1, by omega, by go_num, by rw [HST.out, if_pos trivial, List.length_append, List.flatMap_append]; exact HR8.out, (bt HBX9.out HB11.out).grown HG8.out (bt HBX9.out HB11.out).size (fun k hk => (row_block (ownsRow_keep HKW9.out HB11.out) hk).1)⟩, by simp [intOf]; omega⟩
          · obtain rfl : h = cnt m := by omega
            have HG9 := Lib.hid (HG7.out.later HBX.out)
            have HK := Lib.hid (own_sl (en := ic) (fun _ => rfl) HKW.out)
            have HRK := Lib.hid (ownsRow_keep HRW.out HBX.out)
            clear HKW HRW HG7 HB7 HL7
            go_wp2_with fail
            refine (calls_any HG9.out hn4 i).mono ?_
            rintro en w9 ⟨v9, rfl, ho, hb⟩
            rw [gcalls_nat hlt] at ho
            have HC := Lib.hid (own_sl (en := ic) (fun _ => rfl) ho)
            have HK2 := Lib.hid (HK.out.later hb)
            have HB9 := Lib.hid (bt HB8.out hb)
            have HL9 := Lib.hid (HL8.out.below hb HL8.out.lt)
            have HRK2 := Lib.hid (ownsRow_keep HRK.out hb)
            have HBX9 := Lib.hid (bt HBX.out hb)
            clear hb ho HK HB8 HL8 HRK HBX HG9
            go_wp2_with fail
            refine (equal_ic HC.out HK2.out (Nat.le_trans (filt_le _ _) hn4) (Nat.le_trans (filt_le _ _) hn4)).mono ?_
            rintro en w10 ⟨rfl, hb⟩
            rw [show (callsL m i == (List.range (cnt m)).filter (callsB m i)) = true from beq_iff_eq.2 rfl]
            have HB10 := Lib.hid (bt HB9.out hb)
            have HL10 := Lib.hid (HL9.out.below hb HL9.out.lt)
            have HRK3 := Lib.hid (ownsRow_keep HRK2.out hb)
            have HBX10 := Lib.hid (bt HBX9.out hb)
            clear hb HC HK2 HB9 HL9 HRK2 HBX9
            go_wp2_with (refine wpList_load_mid rfl 33 _ rfl W.heap.size 0 rfl m.cs _ (lies_range HL10.out) Try.underlying33 rfl sizeMod ?_; simp only [Act.put, List.setIfInBounds_toArray, List.set_cons_zero, List.set_cons_succ])
            refine (rroot_any (HM.out.later HB10.out) (f := i) (by omega)).mono ?_
            rintro en w11 ⟨rfl, hb⟩
            have HRK4 := Lib.hid (ownsRow_keep HRK3.out hb)
            have HBX11 := Lib.hid (bt HBX10.out hb)
            have hRr2 : R0 ≤ w11.heap.size := Nat.le_trans hRr HBX11.out.size
            have HBRR := Lib.hid (HBR.out.trans (HBX11.out.mono hRr))
            have HST := Lib.hid (filter_step (rootB m) i)
            have hkl := filt_le (rootB m) i
            generalize rootB m i = c at HST ⊢
            clear hb HRK3 HBX10 HB10 HL10 HBR
            cases c with
            | false =>
              go_wp2_with fail
              exact ⟨⟨i + 1, by omega, by go_num, by rw [HST.out]; simpa using HRK4.out, HBRR.out⟩, by simp [intOf]; omega⟩
            | true =>
              go_wp2_with (first | (refine wl_bs1 _ _ (bs_int i) _ rfl rfl rfl (fun w13 hb13 hl13 => ?_); have HN13 := Lib.hid hl13; have HB13 := Lib.hid hb13; clear hb13 hl13; simp only [Act.put, List.setIfInBounds_toArray, List.set_cons_zero, List.set_cons_succ]) | (refine wl_app _ _ rfl rfl Try.underlying40 info_int (by decide) rfl (ownsRow_keep HRK4.out HB13.out) ic_len rfl (sl_one (en := ic) HN13.out) (fun y _ => oneIc y) (by simp only [List.length_singleton]; unfold maxLen; omega) (by simp only [List.length_singleton]; omega) (Nat.le_trans hRr2 HB13.out.size) (fun v' w8 hr8 hg8 hv8 => ?_); have HR8 := Lib.hid hr8; have HG8 := Lib.hid hg8; clear hr8 hg8 hv8; try simp only [Act.put]))
              exact ⟨⟨i + 1, by omega, by go_num, by rw [HST.out, if_pos trivial, List.length_append, List.flatMap_append]; exact HR8.out, (HBRR.out.trans (HB13.out.mono hRr2)).grown HG8.out (Nat.le_trans hRr2 HB13.out.size) (fun k hk => (row_block (ownsRow_keep HRK4.out HB13.out) hk).1)⟩, by simp [intOf]; omega⟩
      · obtain rfl : i = cnt m := by omega
        have HK := Lib.hid (own_sl (en := ic) (fun _ => rfl) HRW.out)
        clear HRW HL7
        go_wp2_with fail
        refine (roots_any HG7.out hn4).mono ?_
        rintro en w9 ⟨v9, rfl, ho, hb⟩
        have HC := Lib.hid (own_sl (en := ic) (fun _ => rfl) ho)
        have HK2 := Lib.hid (HK.out.later hb)
        have HB9 := Lib.hid (bt HB7.out hb)
        clear hb ho HK HB7 HG7
        go_wp2_with fail
        refine (equal_ic HC.out HK2.out (Nat.le_trans (filt_le _ _) hn4) (Nat.le_trans (filt_le _ _) hn4)).mono ?_
        rintro en w10 ⟨rfl, hb⟩
        rw [show (rootsL m == (List.range (cnt m)).filter (rootB m)) = true from beq_iff_eq.2 rfl]
        have HB10 := Lib.hid (bt HB9.out hb)
        clear hb HC HK2 HB9
        go_wp2_with fail
        go_ret
        exact ⟨rfl, HB10.out⟩
end Go.Proofs.Ytjafmclladiblaa.Gr
