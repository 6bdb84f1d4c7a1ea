/- Graph: slices.IsSorted of what rises; the law GraphGroups answers true. -/
import Derived.Test.YtjafmclladiblaaHi
namespace Go.Proofs.Ytjafmclladiblaa.Gr
open Go Go.RowKit Go.Lib Kt Fm

set_option maxRecDepth 100000 in
theorem nan_any {W : World} (x : Int) : Calls Try.prog 65 #[.int .i64 x] W fun e w' => e = .returned (.bool false) ∧ w' = W := by
  go_enter Try.func65, Try.ntmps65
  go_wp2_with fail
  go_ret
  exact ⟨by simp, rfl⟩
set_option maxRecDepth 100000 in
theorem less_no {W : World} {x y : Int} (h : ¬ x < y) : Calls Try.prog 48 #[.int .i64 x, .int .i64 y] W fun e w' => e = .returned (.bool false) ∧ Below W.heap.size W w' := by
  go_enter Try.func48, Try.ntmps48
  go_wp2_with fail
  refine (nan_any x).mono ?_
  rintro en w1 ⟨rfl, rfl⟩
  go_wp2_with fail
  go_ret
  exact ⟨by simp; omega, Below.refl _ _⟩
set_option maxRecDepth 100000 in
set_option maxHeartbeats 4000000 in
theorem sorted_any {W : World} {v : Value} {L : List Nat} (h : Sl W 1 ic v L) (hs : L.Pairwise (· < ·)) (hl : L.length ≤ 1000) :
    Calls Try.prog 25 #[v] W fun e w' => e = .returned (.bool true) ∧ Below W.heap.size W w' := by
  obtain ⟨s, cap, rfl, hs2⟩ := h.form
  have HS := Lib.hid h
  have HP := Lib.hid hs
  clear h hs
  go_enter Try.func25, Try.ntmps25
  go_wp2_with fail
  go_loopw [3] (fun iv wr => ∃ k : Nat, k ≤ L.length ∧ iv = .int .i64 ((k : Int) - 1) ∧ Below W.heap.size W wr)
    (fun iv _ => (intOf iv + 1).toNat)
  case atStart => exact ⟨L.length, Nat.le_refl _, rfl, Below.refl _ _⟩
  case round =>
    obtain ⟨k, hk, rfl, hB⟩ := hrel
    have HB := Lib.hid hB
    clear hB
    by_cases hlt : 1 < k
    · obtain ⟨x, hx⟩ : ∃ x, L[k - 1]? = some x := ⟨_, List.getElem?_eq_getElem (by omega)⟩
      obtain ⟨y, hy⟩ : ∃ y, L[k - 2]? = some y := ⟨_, List.getElem?_eq_getElem (by omega)⟩
      have hyx : y < x := by
        have h1 := List.getElem?_eq_some_iff.1 hx
        have h2 := List.getElem?_eq_some_iff.1 hy
        have := List.pairwise_iff_getElem.1 HP.out (k - 2) (k - 1) h2.1 h1.1 (by omega)
        rw [h1.2, h2.2] at this
        exact this
      obtain ⟨g, off, rfl, _⟩ := hs2 (by intro e; rw [e] at hx; simp at hx)
      obtain ⟨q, rfl⟩ : ∃ q, k = q + 2 := ⟨k - 2, by omega⟩
      rw [show q + 2 - 1 = q + 1 by omega] at hx
      rw [show q + 2 - 2 = q by omega] at hy
      have hcx := (HS.out.later HB.out).cell hx (j := 0) rfl
      have hcy := (HS.out.later HB.out).cell hy (j := 0) rfl
      rw [Nat.mul_one, Nat.add_zero] at hcx hcy
      rw [show (((q + 2 : Nat) : Int) - 1) = ((q + 1 : Nat) : Int) by omega]
      clear hx hy
      obtain ⟨p, hpe⟩ : ∃ p, p = q + 1 := ⟨_, rfl⟩
      rw [← hpe] at hcx ⊢
      have hpl : p < L.length := by omega
      have hql : q < L.length := by omega
      have hq1 : (p : Int) - 1 = (q : Int) := by omega
      clear hpe hlt hk
      go_wp2_with fail
      refine wp_region_b [(0, true), (1, true), (2, true), (3, true), (4, true), (5, true), (6, true), (7, true), (8, true), (9, false)] (by kernel_rfl) (by kernel_rfl) (fun _ _ d _ _ h => by cases d <;> exact h) ?_
      intro V hbV
      replace hcx := keepc hbV hcx
      replace hcy := keepc hbV hcy
      have hS0 : Below V.heap.size V V := Below.refl _ _
      repeat (first | (refine hs_take (v := ?_) rfl rfl (fun w' hw' => ?_) ?_; rotate_left; (focus (have q0 := keepc hw' hcx; have q1 := keepc hw' hcy; clear hw'; (try simp only [Act.put, List.setIfInBounds_toArray, List.set_cons_zero, List.set_cons_succ]); go_simp; (try go_bits); (try (with_reducible rfl)))); (try simp only [Act.put, List.setIfInBounds_toArray, List.set_cons_zero, List.set_cons_succ])) | (refine hs_skip rfl rfl ?_; (try simp only [Act.put, List.setIfInBounds_toArray, List.set_cons_zero, List.set_cons_succ])))
      refine hs_run rfl (fun K hK => ?_)
      go_simp
      refine (less_no (W := V) (x := x) (y := y) (by omega)).mono ?_
      rintro en V1 ⟨rfl, hB1⟩
      have hS1 := bt hS0 hB1
      clear hB1 hS0
      refine hK.out _ _ hS1 ?_
      clear hK K
      (try simp only [Act.put, List.setIfInBounds_toArray, List.set_cons_zero, List.set_cons_succ])
      refine hs_done ?_
      go_wp2_with fail
      exact ⟨⟨q + 1, by omega, by simp, bt (bt HB.out hbV) hS1⟩, by simp [intOf]; omega⟩
    · go_wp2_with fail
      go_ret
      exact ⟨rfl, HB.out⟩

theorem info_int1 : (Try.prog.info? 3).map (fun i => (i.zero, i.size, i.bytes)) = some (some (.int .i64 0), 1, 8) := by kernel_rfl
def tot (GS : List (List Nat)) (k : Nat) : Nat := ((GS.take k).flatten).length
theorem tot_all (GS : List (List Nat)) : tot GS GS.length = GS.flatten.length := by unfold tot; rw [List.take_length]
theorem tot_succ {GS : List (List Nat)} {k : Nat} {g : List Nat} (h : GS[k]? = some g) : tot GS (k + 1) = tot GS k + g.length := by
  unfold tot
  rw [List.take_add_one, h, Option.toList_some, List.flatten_append, List.length_append]
  simp
theorem tot_le (GS : List (List Nat)) (k : Nat) : tot GS k ≤ GS.flatten.length := by
  unfold tot
  conv => rhs; rw [← List.take_append_drop k GS, List.flatten_append, List.length_append]
  omega
theorem flat_take2 {GS : List (List Nat)} {k : Nat} {g : List Nat} (h : GS[k]? = some g) : ((GS.take (k + 1)).flatten).length = ((GS.take k).flatten).length + g.length := by
  rw [List.take_add_one, h, Option.toList_some, List.flatten_append, List.length_append]
  simp
set_option maxRecDepth 100000 in
set_option maxHeartbeats 32000000 in
theorem law_groups {W : World} {m : Mod} (hm : ModOk W m) :
    Calls Try.prog 6 #[.agg m.cs.toArray] W fun e w' => e = .returned (.bool true) ∧ Below W.heap.size W w' := by
  have HM := Lib.hid hm
  clear hm
  go_enter Try.func6, Try.ntmps6
  go_wp2_with (first | (refine wl_box m.cs _ rfl rfl rfl (fun w1 hb1 hl1 => ?_); have HB1 := Lib.hid hb1; have HL1 := Lib.hid hl1; clear hb1 hl1; simp only [Act.put, List.setIfInBounds_toArray, List.set_cons_zero, List.set_cons_succ]) | (refine wpList_load_mid rfl 33 _ rfl W.heap.size 0 rfl m.cs _ (lies_range HL1.out) Try.underlying33 rfl sizeMod ?_; simp only [Act.put, List.setIfInBounds_toArray, List.set_cons_zero, List.set_cons_succ]))
  refine known_any.mono ?_
  rintro en w2 ⟨rfl, hb2⟩
  have HB2 := Lib.hid (bt HB1.out hb2)
  have HL2 := Lib.hid (HL1.out.below hb2 HL1.out.lt)
  clear hb2 HB1 HL1
  go_wp2_with (refine wpList_load_mid rfl 33 _ rfl W.heap.size 0 rfl m.cs _ (lies_range HL2.out) Try.underlying33 rfl sizeMod ?_; simp only [Act.put, List.setIfInBounds_toArray, List.set_cons_zero, List.set_cons_succ])
  refine (heavy_any (HM.out.later HB2.out)).mono ?_
  rintro en w4 ⟨⟨b, rfl, hbv⟩, hb3⟩
  have HB4 := Lib.hid (bt HB2.out hb3)
  have HL4 := Lib.hid (HL2.out.below hb3 HL2.out.lt)
  clear hb3 HB2 HL2
  cases b with
  | true =>
    clear hbv
    go_wp2_with fail
    go_ret
    exact ⟨rfl, HB4.out⟩
  | false =>
  have hn20 : cnt m ≤ 20 := Nat.le_trans (cnt_lim m) (hbv rfl)
  clear hbv
  have hn4 : cnt m ≤ 1000 := by omega
  go_wp2_with (refine wpList_load_mid rfl 33 _ rfl W.heap.size 0 rfl m.cs _ (lies_range HL4.out) Try.underlying33 rfl sizeMod ?_; simp only [Act.put, List.setIfInBounds_toArray, List.set_cons_zero, List.set_cons_succ])
  refine (gof_any (HM.out.later HB4.out)).mono ?_
  rintro en w5 ⟨G, rfl, hg, hb4⟩
  have HB5 := Lib.hid (bt HB4.out hb4)
  have HG5 := Lib.hid hg
  clear hb4 hg HB4 HL4
  go_wp2_with fail
  refine (groups_any HG5.out hn4).mono ?_
  rintro en w6 ⟨v6, OV, rfl, hs6, hl6, ho6, hb⟩
  have HGS := Lib.hid (groups_plain m)
  have HT := Lib.hid HGS.out.total
  have hlg : (grps m (cnt m)).length ≤ 20 := by
    rw [grps_eq, List.length_map]
    exact Nat.le_trans (Nat.le_trans (List.length_filter_le _ _) (by simp)) hn20
  generalize grps m (cnt m) = GS at hl6 ho6 HGS HT hlg
  obtain ⟨s6, c6, rfl, hs6f⟩ := hs6.form
  have HS6 := Lib.hid hs6
  have HO6 := Lib.hid ho6
  have HB6 := Lib.hid (bt HB5.out hb)
  have HG6 := Lib.hid (HG5.out.later hb)
  have HL6 := Lib.hid hl6
  clear hs6 ho6 hb HB5 HG5 hl6
  go_wp2_with fail
  refine (len_any HG6.out).mono ?_
  rintro en w6' ⟨rfl, rfl⟩
  go_wp2_with (refine wl_mk (n := cnt m) Try.underlying40 info_int1 rfl _ _ rfl rfl rfl rfl (by omega) (by omega) (fun w7 hb7 hr7 => ?_); have HB7 := Lib.hid hb7; have HR7 := Lib.hid hr7; clear hb7 hr7; simp only [Act.put, List.setIfInBounds_toArray, List.set_cons_zero, List.set_cons_succ])
  obtain ⟨IB, hIB⟩ : ∃ IB, IB = w6'.heap.size := ⟨_, rfl⟩
  have HIB := Lib.hid hIB
  rw [← hIB] at HR7 HB7 ⊢
  rw [HL6.out]
  clear hIB
  have HR0 := Lib.hid (show w7.ownsRow IB 3 1 (.slice (some ⟨IB, 0, none⟩) (cnt m) (cnt m)) (cnt m) ((List.replicate (cnt m) 0).map fun (x : Nat) => Value.int .i64 x) by rw [List.map_replicate]; exact HR7.out)
  clear HR7
  go_loopw [6, 7, 8, 9, 11, 30] (fun sv lv _ _ _ iv wr => ∃ (k : Nat) (lst : Int) (A : List Nat), k ≤ GS.length ∧ iv = .int .i64 k ∧ sv = .int .i64 ((tot GS k : Nat) : Int) ∧ lv = .int .i64 lst ∧ (∀ g r, GS[k]? = some g → g.head? = some r → lst < (r : Int)) ∧ A.length = cnt m ∧ Put GS k 0 A ∧ wr.ownsRow IB 3 1 (.slice (some ⟨IB, 0, none⟩) (cnt m) (cnt m)) (cnt m) (A.map fun (x : Nat) => Value.int .i64 x) ∧ Below IB w6' wr)
    (fun _ _ _ _ _ iv _ => GS.length - (intOf iv).toNat)
  case atStart => exact ⟨0, -1, List.replicate (cnt m) 0, Nat.zero_le _, rfl, rfl, rfl, fun g r _ _ => by omega, by simp, fun j g p f _ _ h => by omega, HR0.out, HB7.out⟩
  case round =>
    clear HR0 HB7
    obtain ⟨k, lst, A, hk, rfl, rfl, rfl, hlst, hA, hP, hrow, hB⟩ := hrel
    have HLS := Lib.hid hlst
    have HA := Lib.hid hA
    have HP := Lib.hid hP
    have HRW := Lib.hid hrow
    have HBR := Lib.hid hB
    have hB' : Below w6'.heap.size w6' wr := by rw [← HIB.out]; exact hB
    have HSW := Lib.hid (HS6.out.later hB')
    have HGW := Lib.hid (HG6.out.later hB')
    have HBW := Lib.hid (bt HB6.out hB')
    clear hlst hA hP hrow hB
    by_cases hlt : k < GS.length
    · obtain ⟨g, hg⟩ : ∃ g, GS[k]? = some g := ⟨_, List.getElem?_eq_getElem hlt⟩
      obtain ⟨u, hu⟩ : ∃ u, OV[k]? = some u := ⟨_, List.getElem?_eq_getElem (by rw [HL6.out]; exact hlt)⟩
      obtain ⟨r, hr⟩ := HGS.out.ne k g hg
      have hsu := HO6.out k u g hu hg
      obtain ⟨su, cu, rfl, hsu2⟩ := hsu.form
      have hsz := HGS.out.sorted g (List.mem_of_getElem? hg)
      have hg0 : g[0]? = some r := by rw [← List.head?_eq_getElem?]; exact hr
      obtain ⟨gb, go, rfl, _⟩ := hsu2 (by intro e; rw [e] at hg0; cases hg0)
      obtain ⟨g6, o6, rfl, _⟩ := hs6f (by intro e; rw [e] at hu; cases hu)
      have hcu := HSW.out.cell hu (j := 0) rfl
      rw [Nat.mul_one, Nat.add_zero] at hcu
      have HSU := Lib.hid (hsu.later hB')
      have HSU0 := Lib.hid hsu
      have hB2 := hB'
      have hc0 := HSU.out.cell hg0 (j := 0) rfl
      rw [Nat.mul_one, Nat.add_zero] at hc0
      have hglen : g.length ≤ cnt m := by
        rw [← HT.out]
        have := tot_succ hg
        have h1 := tot_le GS (k + 1)
        omega
      have hgpos : 0 < g.length := (List.getElem?_eq_some_iff.1 hg0).1
      have hlr := HLS.out g r hg hr
      have HHD := Lib.hid (show g.head? = some r from hr)
      have HG' := Lib.hid hg
      clear hu hsu hB' HLS hr hg hg0
      have hne1 : ¬ g.length = 0 := by omega
      have hne2 : ¬ g = [] := by intro e; rw [e] at hgpos; simp at hgpos
      have hnl : ¬ (r : Int) ≤ lst := by omega
      go_wp2_with fail
      refine (sorted_any HSU.out hsz (by omega)).mono ?_
      rintro en wq ⟨rfl, hbq⟩
      have hc1 := keepc hbq hc0
      have HSU2 := Lib.hid (HSU.out.later hbq)
      have HRW2 := Lib.hid (ownsRow_keep HRW.out hbq)
      have HBR2 := Lib.hid (HBR.out.trans (hbq.mono (by rw [HIB.out]; exact hB2.size)))
      have hIq : w6'.heap.size ≤ wq.heap.size := Nat.le_trans hB2.size hbq.size
      clear hbq hcu hc0 HSU HRW HBR HSW HGW HBW hB2
      go_wp2_with fail
      have qz : ((g.length : Int) == 0) = false := by rw [beq_eq_false_iff_ne]; omega
      simp only [qz]
      clear qz
      obtain ⟨wo, rfl⟩ : ∃ wo : World, wo = wq := ⟨_, rfl⟩
      go_loopw [6, 11, 55] (fun sv _ iv wx => ∃ (i : Nat) (A : List Nat), i ≤ g.length ∧ iv = .int .i64 i ∧ sv = .int .i64 ((tot GS k + i : Nat) : Int) ∧ A.length = cnt m ∧ Put GS k i A ∧ wx.ownsRow IB 3 1 (.slice (some ⟨IB, 0, none⟩) (cnt m) (cnt m)) (cnt m) (A.map fun (x : Nat) => Value.int .i64 x) ∧ Below IB w6' wx)
        (fun _ _ iv _ => g.length - (intOf iv).toNat)
      case atStart => exact ⟨0, A, Nat.zero_le _, rfl, by simp, HA.out, HP.out, HRW2.out, HBR2.out⟩
      case round =>
        clear HA HP HRW2 HBR2 HSU2 hc1
        obtain ⟨i, A, hi, rfl, rfl, hA, hP, hrow, hB⟩ := hrel
        have HA := Lib.hid hA
        have HP := Lib.hid hP
        have HRW := Lib.hid hrow
        have HBR := Lib.hid hB
        have hB' : Below w6'.heap.size w6' wr := by rw [← HIB.out]; exact hB
        have HGW := Lib.hid (HG6.out.later hB')
        have hst : tot GS k + g.length ≤ 20 := by
          rw [← tot_succ HG'.out]
          refine Nat.le_trans ?_ hn20
          rw [← HT.out]
          exact tot_le _ _
        clear hA hP hrow hB
        by_cases hil : i < g.length
        · obtain ⟨f, hf⟩ : ∃ f, g[i]? = some f := ⟨_, List.getElem?_eq_getElem hil⟩
          have hfn : f < cnt m := HGS.out.lt g (List.mem_of_getElem? HG'.out) f (List.mem_of_getElem? hf)
          have hcf := (HSU0.out.later hB').cell hf (j := 0) rfl
          rw [Nat.mul_one, Nat.add_zero] at hcf
          have HPN := Lib.hid (HP.out.set HGS.out HG'.out hf HA.out)
          clear hf hB'
          go_wp2_with fail
          refine (len_any HGW.out).mono ?_
          rintro en wy ⟨rfl, rfl⟩
          go_wp2_with (refine wl_rowset1 (i := f) (v := .int .i64 k) HRW.out hfn _ _ rfl rfl rfl rfl rfl size_int rfl (fun w9 hs9 hg9 => ?_); have HS9 := Lib.hid hs9; have HG9 := Lib.hid hg9; clear hs9 hg9; try simp only [Act.put])
          exact ⟨⟨i + 1, A.set f k, by omega, by go_num, by simp; omega, by rw [List.length_set]; exact HA.out, HPN.out, by rw [List.map_set]; exact HS9.out, HBR.out.grown HG9.out (by have := HBR.out.size; have := HRW.out; exact Nat.le_of_lt (row_block HRW.out rfl).2.1) (fun k hk => (row_block HRW.out hk).1)⟩, by simp [intOf]; omega⟩
        · obtain rfl : i = g.length := by omega
          go_wp2_with fail
          refine ⟨⟨k + 1, (r : Int), A, by omega, by go_num, by rw [tot_succ HG'.out], rfl, fun g' r' h1 h2 => ?_, HA.out, HP.out.row HG'.out, HRW.out, HBR.out⟩, by simp [intOf]; omega⟩
          have := HGS.out.rise k g g' r r' HG'.out h1 HHD.out h2
          omega
    · obtain rfl : k = GS.length := by omega
      have hsn : tot GS GS.length = cnt m := by rw [tot_all]; exact HT.out
      rw [hsn]
      clear hsn HSW HLS
      go_wp2_with fail
      refine (len_any HGW.out).mono ?_
      rintro en wy ⟨rfl, rfl⟩
      go_wp2_with fail
      have HGS2 := Lib.hid HGS.out
      have HEND := Lib.hid HP.out
      have HAL := Lib.hid HA.out
      have HW0 := Lib.hid HBW.out
      clear HP HA HBR HBW HT HL6 HS6 HO6 HB6 HG6 HM hB'
      obtain ⟨wo, rfl⟩ : ∃ wo : World, wo = wy := ⟨_, rfl⟩
      go_loopw [12, 14, 15, 16, 81] (fun _ _ _ _ iv wr => ∃ (f : Nat), f ≤ cnt m ∧ iv = .int .i64 f ∧ Below wo.heap.size wo wr)
        (fun _ _ _ _ iv _ => cnt m - (intOf iv).toNat)
      case atStart => exact ⟨0, Nat.zero_le _, rfl, Below.refl _ _⟩
      case round =>
        obtain ⟨f, hf, rfl, hB⟩ := hrel
        have HBO := Lib.hid hB
        have HRf := Lib.hid (ownsRow_keep HRW.out hB)
        have HGf := Lib.hid (HGW.out.later hB)
        have HBf := Lib.hid (bt HW0.out hB)
        clear hB
        by_cases hfn : f < cnt m
        · obtain ⟨a, ha⟩ : ∃ a, A[f]? = some a := ⟨_, List.getElem?_eq_getElem (by rw [HAL.out]; exact hfn)⟩
          have HAF := Lib.hid ha
          have hca0 := HRf.out.cells (g := IB) rfl f (.int .i64 a) (by rw [List.getElem?_map, ha]; rfl)
          rw [Addr.add_lit, Nat.zero_add] at hca0
          have HCA0 := Lib.hid hca0
          clear ha hca0
          go_wp2_with fail
          obtain ⟨wa, hwa⟩ : ∃ wa, wa = wr.alloc (.cells #[.int .i64 f] 3) := ⟨_, rfl⟩
          have hba : Below wr.heap.size wr wa := hwa ▸ (Below.refl _ _).alloc (Nat.le_refl _) _
          have hsa : Sl wa 1 zc (sl1 wr.heap.size) [(f : Int)] := by rw [hwa]; exact sl_one (Lies.new wr _ _)
          rw [← hwa]
          clear hwa
          refine (reach_any (HGf.out.later hba) hn4 hsa (by simp)).mono ?_
          rintro en wb ⟨v1, o1, rfl, hm1, ho1, hb1⟩
          rw [places_way hm1] at ho1
          have hS1 := own_sl (en := ic) ic_len ho1
          obtain ⟨s1, c1, rfl, hs1f⟩ := hS1.form
          have HS1 := Lib.hid hS1
          have hbb := bt hba hb1
          have HBO1 := Lib.hid (bt HBO.out hbb)
          have hwl := wayL_le m f
          clear hba hsa hm1 ho1 hb1 hS1 hbb HBO HRf HGf HBf HCA0
          go_wp2_with fail
          obtain ⟨wp, rfl⟩ : ∃ wp : World, wp = wb := ⟨_, rfl⟩
          go_loopw [14, 15, 89] (fun _ _ iv wx => ∃ (i : Nat), i ≤ (wayL m f).length ∧ iv = .int .i64 i ∧ Below wp.heap.size wp wx)
            (fun _ _ iv _ => (wayL m f).length - (intOf iv).toNat)
          case atStart => exact ⟨0, Nat.zero_le _, rfl, Below.refl _ _⟩
          case round =>
            obtain ⟨i, hi, rfl, hB⟩ := hrel
            have HBI := Lib.hid hB
            have HBO2 := Lib.hid (bt HBO1.out hB)
            have HSi := Lib.hid (HS1.out.later hB)
            clear hB
            by_cases hil : i < (wayL m f).length
            · obtain ⟨h, hh⟩ : ∃ h, (wayL m f)[i]? = some h := ⟨_, List.getElem?_eq_getElem hil⟩
              have hw : Way (cnt m) (callsB m) f h := mem_wayL.1 (List.mem_of_getElem? hh)
              have hhn := hw.lt.2
              obtain ⟨g1, o1, rfl, _⟩ := hs1f (by intro e; rw [e] at hh; cases hh)
              have hch := HSi.out.cell hh (j := 0) rfl
              rw [Nat.mul_one, Nat.add_zero] at hch
              obtain ⟨b, hb⟩ : ∃ b, A[h]? = some b := ⟨_, List.getElem?_eq_getElem (by rw [HAL.out]; exact hhn)⟩
              have hsame := HEND.out.same HGS2.out hfn hhn HAF.out hb
              have HAH := Lib.hid hb
              have HW := Lib.hid hw
              have HSM := Lib.hid hsame
              clear hh hw hb hsame
              go_wp2_with fail
              obtain ⟨wc, hwc⟩ : ∃ wc, wc = wr.alloc (.cells #[.int .i64 h] 3) := ⟨_, rfl⟩
              have hba : Below wr.heap.size wr wc := hwc ▸ (Below.refl _ _).alloc (Nat.le_refl _) _
              have hsa : Sl wc 1 zc (sl1 wr.heap.size) [(h : Int)] := by rw [hwc]; exact sl_one (Lies.new wr _ _)
              rw [← hwc]
              clear hwc
              have HGc := Lib.hid (HGW.out.later (bt HBO2.out hba))
              refine (reach_any HGc.out hn4 hsa (by simp)).mono ?_
              rintro en wd ⟨v2, o2, rfl, hm2, ho2, hb2⟩
              rw [places_way hm2] at ho2
              have HS2 := Lib.hid (own_sl (en := ic) ic_len ho2)
              have hbd := bt hba hb2
              have hwl2 := wayL_le m h
              clear hba hsa hm2 ho2 hb2 hch HGc
              go_wp2_with fail
              refine (contains_ic HS2.out (by omega) f).mono ?_
              rintro en we ⟨rfl, hbe⟩
              have hbk : (ints (wayL m h)).contains (f : Int) = true ↔ Way (cnt m) (callsB m) h f := by
                rw [List.contains_iff_mem, mem_ints, ← mem_wayL]
                exact ⟨fun e => by simpa using e.2, fun e => ⟨by omega, by simpa using e⟩⟩
              have HBK := Lib.hid hbk
              have HBI2 := Lib.hid (bt HBI.out (bt hbd hbe))
              have hBe := bt HBO2.out (bt hbd hbe)
              have hre := ownsRow_keep HRW.out hBe
              have hca := hre.cells (g := IB) rfl f (.int .i64 a) (by rw [List.getElem?_map, HAF.out]; rfl)
              have hcb := hre.cells (g := IB) rfl h (.int .i64 b) (by rw [List.getElem?_map, HAH.out]; rfl)
              rw [Addr.add_lit, Nat.zero_add] at hca hcb
              generalize (ints (wayL m h)).contains (f : Int) = bk at HBK ⊢
              clear hbk hbd hbe hBe hre HS2 HBI HBO2 HSi
              go_upto_region 33 with fail
              go_cut [114] from 99 to 114 (fun c wx => c = .bool false ∧ Below we.heap.size we wx)
              case first =>
                by_cases hfh : f = h
                · subst hfh
                  have hab : a = b := HSM.out.2 (Or.inl rfl)
                  subst hab
                  cases bk with
                  | true =>
                    refine wp_region_b [(0, true), (1, true), (2, true), (3, true), (4, true), (5, true), (6, true), (7, true), (8, true), (9, true), (10, true), (11, true), (12, true), (13, true), (14, true), (15, true)] (by kernel_rfl) (by kernel_rfl) (fun _ _ d _ _ h => by cases d <;> exact h) ?_
                    intro V hbV
                    replace hca := keepc hbV hca
                    replace hcb := keepc hbV hcb
                    have hS0 : Below V.heap.size V V := Below.refl _ _
                    repeat (first | (refine hs_take (v := ?_) rfl rfl (fun w' hw' => ?_) ?_; rotate_left; (focus (have q0 := keepc hw' hca; have q1 := keepc hw' hcb; clear hw'; (try simp only [Act.put, List.setIfInBounds_toArray, List.set_cons_zero, List.set_cons_succ]); go_simp; (try go_bits); (try (with_reducible rfl)))); (try simp only [Act.put, List.setIfInBounds_toArray, List.set_cons_zero, List.set_cons_succ])) | (refine hs_skip rfl rfl ?_; (try simp only [Act.put, List.setIfInBounds_toArray, List.set_cons_zero, List.set_cons_succ])))
                    refine hs_done ?_
                    go_wp2_with fail
                    go_meet
                    exact ⟨rfl, hbV⟩
                  | false =>
                    refine wp_region_b [(0, true), (1, true), (2, true), (3, true), (4, true), (5, true), (6, true), (7, true), (8, true), (9, true), (10, true), (11, true), (12, true), (13, true), (14, true), (15, true)] (by kernel_rfl) (by kernel_rfl) (fun _ _ d _ _ h => by cases d <;> exact h) ?_
                    intro V hbV
                    replace hca := keepc hbV hca
                    replace hcb := keepc hbV hcb
                    have hS0 : Below V.heap.size V V := Below.refl _ _
                    repeat (first | (refine hs_take (v := ?_) rfl rfl (fun w' hw' => ?_) ?_; rotate_left; (focus (have q0 := keepc hw' hca; have q1 := keepc hw' hcb; clear hw'; (try simp only [Act.put, List.setIfInBounds_toArray, List.set_cons_zero, List.set_cons_succ]); go_simp; (try go_bits); (try (with_reducible rfl)))); (try simp only [Act.put, List.setIfInBounds_toArray, List.set_cons_zero, List.set_cons_succ])) | (refine hs_skip rfl rfl ?_; (try simp only [Act.put, List.setIfInBounds_toArray, List.set_cons_zero, List.set_cons_succ])))
                    refine hs_done ?_
                    go_wp2_with fail
                    go_meet
                    exact ⟨rfl, hbV⟩
                · have hne : ¬ (f : Int) = (h : Int) := by omega
                  have hne3 : ((f : Int) == (h : Int)) = false := by rw [beq_eq_false_iff_ne]; exact hne
                  have hne4 : ((f : Int) != (h : Int)) = true := by rw [bne, hne3]; rfl
                  by_cases hab : a = b
                  · subst hab
                    have hbt : bk = true := HBK.out.2 ((HSM.out.1 rfl).elim (fun e => absurd e hfh) (fun e => (both_iff.1 e).2))
                    subst hbt
                    refine wp_region_b [(0, true), (1, true), (2, true), (3, true), (4, true), (5, true), (6, true), (7, true), (8, true), (9, true), (10, true), (11, true), (12, true), (13, true), (14, true), (15, true)] (by kernel_rfl) (by kernel_rfl) (fun _ _ d _ _ h => by cases d <;> exact h) ?_
                    intro V hbV
                    replace hca := keepc hbV hca
                    replace hcb := keepc hbV hcb
                    have hS0 : Below V.heap.size V V := Below.refl _ _
                    repeat (first | (refine hs_take (v := ?_) rfl rfl (fun w' hw' => ?_) ?_; rotate_left; (focus (have q0 := keepc hw' hca; have q1 := keepc hw' hcb; clear hw'; (try simp only [Act.put, List.setIfInBounds_toArray, List.set_cons_zero, List.set_cons_succ]); go_simp; (try go_bits); (try (with_reducible rfl)))); (try simp only [Act.put, List.setIfInBounds_toArray, List.set_cons_zero, List.set_cons_succ])) | (refine hs_skip rfl rfl ?_; (try simp only [Act.put, List.setIfInBounds_toArray, List.set_cons_zero, List.set_cons_succ])))
                    refine hs_done ?_
                    go_wp2_with fail
                    go_meet
                    exact ⟨rfl, hbV⟩
                  · have hab2 : ¬ (a : Int) = (b : Int) := by omega
                    have hab3 : ((a : Int) == (b : Int)) = false := by rw [beq_eq_false_iff_ne]; exact hab2
                    have hbt : bk = false := by
                      cases bk with
                      | false => rfl
                      | true => exact absurd (HSM.out.2 (Or.inr (both_iff.2 ⟨HW.out, HBK.out.1 rfl⟩))) hab
                    subst hbt
                    refine wp_region_b [(0, true), (1, true), (2, true), (3, true), (4, true), (5, true), (6, true), (7, true), (8, true), (9, true), (10, true), (11, true), (12, true), (13, true), (14, true), (15, true)] (by kernel_rfl) (by kernel_rfl) (fun _ _ d _ _ h => by cases d <;> exact h) ?_
                    intro V hbV
                    replace hca := keepc hbV hca
                    replace hcb := keepc hbV hcb
                    have hS0 : Below V.heap.size V V := Below.refl _ _
                    repeat (first | (refine hs_take (v := ?_) rfl rfl (fun w' hw' => ?_) ?_; rotate_left; (focus (have q0 := keepc hw' hca; have q1 := keepc hw' hcb; clear hw'; (try simp only [Act.put, List.setIfInBounds_toArray, List.set_cons_zero, List.set_cons_succ]); go_simp; (try go_bits); (try (with_reducible rfl)))); (try simp only [Act.put, List.setIfInBounds_toArray, List.set_cons_zero, List.set_cons_succ])) | (refine hs_skip rfl rfl ?_; (try simp only [Act.put, List.setIfInBounds_toArray, List.set_cons_zero, List.set_cons_succ])))
                    refine hs_done ?_
                    go_wp2_with fail
                    go_meet
                    exact ⟨rfl, hbV⟩
              case rest =>
                obtain ⟨rfl, hbx⟩ := hcut
                have HBI3 := Lib.hid (bt HBI2.out hbx)
                clear hbx hca hcb
                go_wp2_with fail
                exact ⟨⟨i + 1, by omega, by go_num, HBI3.out⟩, by simp [intOf]; omega⟩
            · obtain rfl : i = (wayL m f).length := by omega
              clear HSi HS1 hs1f HBI
              go_wp2_with fail
              obtain ⟨wq, rfl⟩ : ∃ wq : World, wq = wr := ⟨_, rfl⟩
              go_loopw [16, 118] (fun _ iv wx => ∃ (h : Nat), h ≤ cnt m ∧ iv = .int .i64 h ∧ Below wo.heap.size wo wx)
                (fun _ iv _ => cnt m - (intOf iv).toNat)
              case atStart => exact ⟨0, Nat.zero_le _, rfl, HBO2.out⟩
              case round =>
                clear HBO2 HBO1
                obtain ⟨h, hh, rfl, hB⟩ := hrel
                have HBO := Lib.hid hB
                have HRf := Lib.hid (ownsRow_keep HRW.out hB)
                have HGf := Lib.hid (HGW.out.later hB)
                clear hB
                by_cases hhn : h < cnt m
                · obtain ⟨b, hb⟩ : ∃ b, A[h]? = some b := ⟨_, List.getElem?_eq_getElem (by rw [HAL.out]; exact hhn)⟩
                  have hsame := HEND.out.same HGS2.out hfn hhn HAF.out hb
                  have hca := HRf.out.cells (g := IB) rfl f (.int .i64 a) (by rw [List.getElem?_map, HAF.out]; rfl)
                  have hcb := HRf.out.cells (g := IB) rfl h (.int .i64 b) (by rw [List.getElem?_map, hb]; rfl)
                  rw [Addr.add_lit, Nat.zero_add] at hca hcb
                  have HSM := Lib.hid hsame
                  clear hb hsame
                  go_upto_region 39 with fail
                  go_cut [143] from 121 to 143 (fun c wx => c = .bool false ∧ Below wr.heap.size wr wx)
                  case first =>
                    by_cases hfh : f = h
                    · subst hfh
                      refine wp_region_b [(0, true), (1, true), (2, true), (3, true), (4, true), (5, true), (6, true), (7, true), (8, true), (9, true), (10, true), (11, true), (12, true), (13, true), (14, true), (15, true), (16, true), (19, true), (17, false), (18, false), (20, false), (21, true), (22, true)] (by kernel_rfl) (by kernel_rfl) (fun _ _ d _ _ h => by cases d <;> exact h) ?_
                      intro V hbV
                      replace hca := keepc hbV hca
                      replace hcb := keepc hbV hcb
                      have hS0 : Below V.heap.size V V := Below.refl _ _
                      repeat (first | (refine hs_take (v := ?_) rfl rfl (fun w' hw' => ?_) ?_; rotate_left; (focus (have q0 := keepc hw' hca; have q1 := keepc hw' hcb; clear hw'; (try simp only [Act.put, List.setIfInBounds_toArray, List.set_cons_zero, List.set_cons_succ]); go_simp; (try go_bits); (try (with_reducible rfl)))); (try simp only [Act.put, List.setIfInBounds_toArray, List.set_cons_zero, List.set_cons_succ])) | (refine hs_skip rfl rfl ?_; (try simp only [Act.put, List.setIfInBounds_toArray, List.set_cons_zero, List.set_cons_succ])))
                      refine hs_pass rfl rfl hS0 ?_
                      have hS1 := hS0
                      (try simp only [Act.put, List.setIfInBounds_toArray, List.set_cons_zero, List.set_cons_succ])
                      refine hs_pass rfl rfl hS1 ?_
                      have hS2 := hS1
                      (try simp only [Act.put, List.setIfInBounds_toArray, List.set_cons_zero, List.set_cons_succ])
                      refine hs_pass rfl rfl hS2 ?_
                      have hS3 := hS2
                      (try simp only [Act.put, List.setIfInBounds_toArray, List.set_cons_zero, List.set_cons_succ])
                      repeat (first | (refine hs_take (v := ?_) rfl rfl (fun w' hw' => ?_) ?_; rotate_left; (focus (have q0 := keepc hw' hca; have q1 := keepc hw' hcb; clear hw'; (try simp only [Act.put, List.setIfInBounds_toArray, List.set_cons_zero, List.set_cons_succ]); go_simp; (try go_bits); (try (with_reducible rfl)))); (try simp only [Act.put, List.setIfInBounds_toArray, List.set_cons_zero, List.set_cons_succ])) | (refine hs_skip rfl rfl ?_; (try simp only [Act.put, List.setIfInBounds_toArray, List.set_cons_zero, List.set_cons_succ])))
                      refine hs_done ?_
                      go_wp2_with fail
                      go_meet
                      exact ⟨rfl, hbV⟩
                    · have hne : ¬ (f : Int) = (h : Int) := by omega
                      have hne3 : ((f : Int) == (h : Int)) = false := by rw [beq_eq_false_iff_ne]; exact hne
                      have hne4 : ((f : Int) != (h : Int)) = true := by rw [bne, hne3]; rfl
                      by_cases hab : a = b
                      · subst hab
                        have hwy : Way (cnt m) (callsB m) f h := (HSM.out.1 rfl).elim (fun e => absurd e hfh) (fun e => (both_iff.1 e).1)
                        have HWY := Lib.hid (show (ints (wayL m f)).contains (h : Int) = true by rw [List.contains_iff_mem, mem_ints]; exact ⟨by omega, by simpa using mem_wayL.2 hwy⟩)
                        clear hwy
                        refine wp_region_b [(0, true), (1, true), (2, true), (3, true), (4, true), (5, true), (6, true), (7, true), (8, true), (9, true), (10, true), (11, true), (12, true), (13, true), (14, true), (15, true), (16, true), (19, true), (17, false), (18, false), (20, false), (21, true), (22, true)] (by kernel_rfl) (by kernel_rfl) (fun _ _ d _ _ h => by cases d <;> exact h) ?_
                        intro V hbV
                        replace hca := keepc hbV hca
                        replace hcb := keepc hbV hcb
                        have HGV := Lib.hid (HGf.out.later hbV)
                        repeat (first | (refine hs_take (v := ?_) rfl rfl (fun w' hw' => ?_) ?_; rotate_left; (focus (have q0 := keepc hw' hca; have q1 := keepc hw' hcb; clear hw'; (try simp only [Act.put, List.setIfInBounds_toArray, List.set_cons_zero, List.set_cons_succ]); go_simp; (try go_bits); (try (with_reducible rfl)))); (try simp only [Act.put, List.setIfInBounds_toArray, List.set_cons_zero, List.set_cons_succ])) | (refine hs_skip rfl rfl ?_; (try simp only [Act.put, List.setIfInBounds_toArray, List.set_cons_zero, List.set_cons_succ])))
                        refine hs_run rfl (fun K hK => ?_)
                        refine ite_of rfl ?_
                        refine wp_bs1 _ _ (bs_z f) _ rfl rfl (fun Va hba hla => ?_)
                        have HSK := Lib.hid (sl_one (sz := 1) (en := zc) hla)
                        refine hK.out _ _ hba ?_
                        clear hK K hla
                        (try simp only [Act.put, List.setIfInBounds_toArray, List.set_cons_zero, List.set_cons_succ])
                        refine hs_run rfl (fun K hK => ?_)
                        go_simp
                        refine (reach_any (HGV.out.later hba) hn4 HSK.out (by simp)).mono ?_
                        rintro en Vb ⟨vb, ob, rfl, hmb, hob, hbb⟩
                        rw [places_way hmb] at hob
                        have HSB := Lib.hid (own_sl (en := ic) ic_len hob)
                        have hS2 := bt hba hbb
                        have hwl3 := wayL_le m f
                        refine hK.out _ _ hS2 ?_
                        clear hK K hmb hob hba hbb HSK
                        (try simp only [Act.put, List.setIfInBounds_toArray, List.set_cons_zero, List.set_cons_succ])
                        refine hs_run rfl (fun K hK => ?_)
                        go_simp
                        refine (contains_ic HSB.out (by omega) h).mono ?_
                        rintro en Vc ⟨rfl, hbc⟩
                        rw [HWY.out]
                        have hS3 := bt hS2 hbc
                        refine hK.out _ _ hS3 ?_
                        clear hK K
                        (try simp only [Act.put, List.setIfInBounds_toArray, List.set_cons_zero, List.set_cons_succ])
                        repeat (first | (refine hs_take (v := ?_) rfl rfl (fun w' hw' => ?_) ?_; rotate_left; (focus (have q0 := keepc hw' hca; have q1 := keepc hw' hcb; clear hw'; (try simp only [Act.put, List.setIfInBounds_toArray, List.set_cons_zero, List.set_cons_succ]); go_simp; (try go_bits); (try (with_reducible rfl)))); (try simp only [Act.put, List.setIfInBounds_toArray, List.set_cons_zero, List.set_cons_succ])) | (refine hs_skip rfl rfl ?_; (try simp only [Act.put, List.setIfInBounds_toArray, List.set_cons_zero, List.set_cons_succ])))
                        refine hs_done ?_
                        go_wp2_with fail
                        go_meet
                        exact ⟨rfl, bt hbV hS3⟩
                      · have hab2 : ¬ (a : Int) = (b : Int) := by omega
                        have hab3 : ((a : Int) == (b : Int)) = false := by rw [beq_eq_false_iff_ne]; exact hab2
                        refine wp_region_b [(0, true), (1, true), (2, true), (3, true), (4, true), (5, true), (6, true), (7, true), (8, true), (9, true), (10, true), (11, true), (12, true), (13, true), (14, true), (15, true), (16, true), (19, true), (17, false), (18, false), (20, false), (21, true), (22, true)] (by kernel_rfl) (by kernel_rfl) (fun _ _ d _ _ h => by cases d <;> exact h) ?_
                        intro V hbV
                        replace hca := keepc hbV hca
                        replace hcb := keepc hbV hcb
                        have hS0 : Below V.heap.size V V := Below.refl _ _
                        repeat (first | (refine hs_take (v := ?_) rfl rfl (fun w' hw' => ?_) ?_; rotate_left; (focus (have q0 := keepc hw' hca; have q1 := keepc hw' hcb; clear hw'; (try simp only [Act.put, List.setIfInBounds_toArray, List.set_cons_zero, List.set_cons_succ]); go_simp; (try go_bits); (try (with_reducible rfl)))); (try simp only [Act.put, List.setIfInBounds_toArray, List.set_cons_zero, List.set_cons_succ])) | (refine hs_skip rfl rfl ?_; (try simp only [Act.put, List.setIfInBounds_toArray, List.set_cons_zero, List.set_cons_succ])))
                        refine hs_pass rfl rfl hS0 ?_
                        have hS1 := hS0
                        (try simp only [Act.put, List.setIfInBounds_toArray, List.set_cons_zero, List.set_cons_succ])
                        refine hs_pass rfl rfl hS1 ?_
                        have hS2 := hS1
                        (try simp only [Act.put, List.setIfInBounds_toArray, List.set_cons_zero, List.set_cons_succ])
                        refine hs_pass rfl rfl hS2 ?_
                        have hS3 := hS2
                        (try simp only [Act.put, List.setIfInBounds_toArray, List.set_cons_zero, List.set_cons_succ])
                        repeat (first | (refine hs_take (v := ?_) rfl rfl (fun w' hw' => ?_) ?_; rotate_left; (focus (have q0 := keepc hw' hca; have q1 := keepc hw' hcb; clear hw'; (try simp only [Act.put, List.setIfInBounds_toArray, List.set_cons_zero, List.set_cons_succ]); go_simp; (try go_bits); (try (with_reducible rfl)))); (try simp only [Act.put, List.setIfInBounds_toArray, List.set_cons_zero, List.set_cons_succ])) | (refine hs_skip rfl rfl ?_; (try simp only [Act.put, List.setIfInBounds_toArray, List.set_cons_zero, List.set_cons_succ])))
                        refine hs_done ?_
                        go_wp2_with fail
                        go_meet
                        exact ⟨rfl, hbV⟩
                  case rest =>
                    obtain ⟨rfl, hbx⟩ := hcut
                    have HBO3 := Lib.hid (bt HBO.out hbx)
                    clear hbx hca hcb
                    go_wp2_with fail
                    exact ⟨⟨h + 1, by omega, by go_num, HBO3.out⟩, by simp [intOf]; omega⟩
                · obtain rfl : h = cnt m := by omega
                  go_wp2_with fail
                  exact ⟨⟨f + 1, by omega, by go_num, HBO.out⟩, by simp [intOf]; omega⟩
        · obtain rfl : f = cnt m := by omega
          go_wp2_with fail
          go_ret
          exact ⟨rfl, HBf.out⟩
end Go.Proofs.Ytjafmclladiblaa.Gr
