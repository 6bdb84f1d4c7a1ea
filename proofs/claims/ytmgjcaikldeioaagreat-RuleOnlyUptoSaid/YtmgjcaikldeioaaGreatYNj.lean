/- Is a module more than is gone through: some answer, with no fault. -/
import Derived.Test.YtmgjcaikldeioaaGreatYNa
import Derived.Test.YtmgjcaikldeioaaGreatYUr
import Derived.Test.YtmgjcaikldeioaaGreatYNh
namespace Go.Proofs.YtmgjcaikldeioaaGreat.Va
open Go Go.RowKit Go.Lib Kt Fm Gr Ty

set_option maxRecDepth 100000 in
set_option maxHeartbeats 16000000 in
theorem heavy_any {W : World} {v : Value} {L : List Ins} (h : Sl W 5 Ins.cs v L) (hx : ∀ y ∈ L, InsOk W y) (hl : L.length ≤ 1048576) :
  Calls Tryz.prog 54 #[v] W fun e w' => (∃ n : Nat, n ≤ 2000000 ∧ e = .returned (.int .i64 n)) ∧ Below W.heap.size W w' := by
 obtain ⟨s, c, rfl, hs⟩ := h.form
 have HS := Lib.hid hs
 have H := Lib.hid h
 have HX := Lib.hid hx
 clear hs h hx
 go_enter Tryz.func54, Tryz.ntmps54
 go_wp2_with fail
 go_loopw [3, 4] (fun nv iv wr => ∃ i n : Nat, i ≤ L.length ∧ iv = .int .i64 i ∧ nv = .int .i64 n ∧ n ≤ 2000000 ∧ Below W.heap.size W wr)
  (fun _ iv _ => L.length - (Lib.intOf iv).toNat)
 case atStart => exact ⟨0, L.length, by omega, rfl, rfl, by omega, Below.refl _ _⟩
 case round =>
  obtain ⟨i, n, hi, rfl, rfl, hn, hbr⟩ := hrel
  have HBR := Lib.hid hbr
  clear hbr
  by_cases hlt : i < L.length
  ·have hlt2 : (i : Int) < (L.length : Int) := by omega
   by_cases hn3 : n ≤ 4000
   ·have hn32 : (n : Int) ≤ 4000 := by omega
    obtain ⟨x, hx⟩ : ∃ x, L[i]? = some x := ⟨_, List.getElem?_eq_getElem hlt⟩
    have hok := HX.out x (List.mem_of_getElem? hx)
    obtain ⟨sl, cl, hlv, _⟩ := hok.2.2.2.1.form
    have hll : x.ls.length ≤ 1048576 := hok.2.2.2.2.2
    obtain ⟨g, off, rfl, hg⟩ := HS.out (by intro e; rw [e] at hlt; simp at hlt)
    have hcx : wr.cell? ⟨g, off + i * 5 + 4, none⟩ = some (.slice sl x.ls.length cl) := ((H.out.later HBR.out).cell hx (j := 4) rfl).trans (congrArg some hlv)
    clear hx hok hlv
    go_wp2_with fail
    exact ⟨⟨i + 1, n + x.ls.length, by omega, by go_num, by go_num, by omega, HBR.out⟩, by simp [Lib.intOf]; omega⟩
   ·have hn32 : ¬ (n : Int) ≤ 4000 := by omega
    have hn33 : (4000 : Int) < (n : Int) := by omega
    go_wp2_with fail
    go_ret
    exact ⟨⟨n, hn, rfl⟩, HBR.out⟩
  ·obtain rfl : i = L.length := by omega
   have hge : ¬ ((L.length : Nat) : Int) < ((L.length : Nat) : Int) := by omega
   go_wp2_with fail
   go_ret
   exact ⟨⟨n, hn, rfl⟩, HBR.out⟩
set_option maxRecDepth 100000 in
set_option maxHeartbeats 16000000 in
theorem great7_any {W : World} {m : Mod} (hm : ModOk W m) :
  Calls Tryz.prog 10 #[.agg m.cs.toArray] W fun e w' => (∃ b : Bool, e = .returned (.bool b)) ∧ Below W.heap.size W w' := by
 have HM := Lib.hid hm
 have hl0 : m.types.length ≤ 1048576 := hm.1.2.2
 obtain ⟨s0, c0, hv0, hs0⟩ := hm.1.1.form
 have HV0 := Lib.hid hv0
 have HS0 := Lib.hid hs0
 have hl1 : m.imps.length ≤ 1048576 := hm.2.1.2.2
 obtain ⟨s1, c1, hv1, hs1⟩ := hm.2.1.1.form
 have HV1 := Lib.hid hv1
 have HS1 := Lib.hid hs1
 have hl2 : m.funcs.length ≤ 1048576 := hm.2.2.1.2.2
 obtain ⟨s2, c2, hv2, hs2⟩ := hm.2.2.1.1.form
 have HV2 := Lib.hid hv2
 have HS2 := Lib.hid hs2
 have hl3 : m.tabs.length ≤ 1048576 := hm.2.2.2.1.2.2
 obtain ⟨s3, c3, hv3, hs3⟩ := hm.2.2.2.1.1.form
 have HV3 := Lib.hid hv3
 have HS3 := Lib.hid hs3
 have hl4 : m.mems.length ≤ 1048576 := hm.2.2.2.2.1.2.2
 obtain ⟨s4, c4, hv4, hs4⟩ := hm.2.2.2.2.1.1.form
 have HV4 := Lib.hid hv4
 have HS4 := Lib.hid hs4
 have hl5 : m.globs.length ≤ 1048576 := hm.2.2.2.2.2.1.2.2
 obtain ⟨s5, c5, hv5, hs5⟩ := hm.2.2.2.2.2.1.1.form
 have HV5 := Lib.hid hv5
 have HS5 := Lib.hid hs5
 have hl6 : m.exps.length ≤ 1048576 := hm.2.2.2.2.2.2.1.2.2
 obtain ⟨s6, c6, hv6, hs6⟩ := hm.2.2.2.2.2.2.1.1.form
 have HV6 := Lib.hid hv6
 have HS6 := Lib.hid hs6
 have hl9 : m.elems.length ≤ 1048576 := hm.2.2.2.2.2.2.2.2.1.2.2
 obtain ⟨s9, c9, hv9, hs9⟩ := hm.2.2.2.2.2.2.2.2.1.1.form
 have HV9 := Lib.hid hv9
 have HS9 := Lib.hid hs9
 have hl10 : m.codes.length ≤ 1048576 := hm.2.2.2.2.2.2.2.2.2.1.2.2
 obtain ⟨s10, c10, hv10, hs10⟩ := hm.2.2.2.2.2.2.2.2.2.1.1.form
 have HV10 := Lib.hid hv10
 have HS10 := Lib.hid hs10
 have hl11 : m.datas.length ≤ 1048576 := hm.2.2.2.2.2.2.2.2.2.2.2.2
 obtain ⟨s11, c11, hv11, hs11⟩ := hm.2.2.2.2.2.2.2.2.2.2.1.form
 have HV11 := Lib.hid hv11
 have HS11 := Lib.hid hs11
 clear hm hv0 hs0 hv1 hs1 hv2 hs2 hv3 hs3 hv4 hs4 hv5 hs5 hv6 hs6 hv9 hs9 hv10 hs10 hv11 hs11
 go_enter Tryz.func10, Tryz.ntmps10
 go_upto_block 0 with (refine wl_box m.cs _ rfl rfl rfl (fun w1 hb1 hl1 => ?_); have HB1 := Lib.hid hb1; have HL1 := Lib.hid hl1; obtain ⟨Bm, hBm⟩ : ∃ Bm, Bm = W.heap.size := ⟨_, rfl⟩; rw [← hBm] at HL1 ⊢; have xM0 : w1.cell? ⟨Bm, 0, none⟩ = some (.slice s0 m.types.length c0) := (HL1.out.cell 0).trans (congrArg some HV0.out); have xM1 : w1.cell? ⟨Bm, 1, none⟩ = some (.slice s1 m.imps.length c1) := (HL1.out.cell 1).trans (congrArg some HV1.out); have xM2 : w1.cell? ⟨Bm, 2, none⟩ = some (.slice s2 m.funcs.length c2) := (HL1.out.cell 2).trans (congrArg some HV2.out); have xM3 : w1.cell? ⟨Bm, 3, none⟩ = some (.slice s3 m.tabs.length c3) := (HL1.out.cell 3).trans (congrArg some HV3.out); have xM4 : w1.cell? ⟨Bm, 4, none⟩ = some (.slice s4 m.mems.length c4) := (HL1.out.cell 4).trans (congrArg some HV4.out); have xM5 : w1.cell? ⟨Bm, 5, none⟩ = some (.slice s5 m.globs.length c5) := (HL1.out.cell 5).trans (congrArg some HV5.out); have xM6 : w1.cell? ⟨Bm, 6, none⟩ = some (.slice s6 m.exps.length c6) := (HL1.out.cell 6).trans (congrArg some HV6.out); have xM9 : w1.cell? ⟨Bm, 9, none⟩ = some (.slice s9 m.elems.length c9) := (HL1.out.cell 9).trans (congrArg some HV9.out); have xM10 : w1.cell? ⟨Bm, 10, none⟩ = some (.slice s10 m.codes.length c10) := (HL1.out.cell 10).trans (congrArg some HV10.out); have xM11 : w1.cell? ⟨Bm, 11, none⟩ = some (.slice s11 m.datas.length c11) := (HL1.out.cell 11).trans (congrArg some HV11.out); clear hBm hb1 hl1; (try simp only [Act.put, sA, sB, sC]))
 clear xM0 xM1 xM2 xM3 xM4 xM5 xM6 xM9 xM10 xM11
 obtain ⟨n0, hn0⟩ : ∃ n0, n0 = m.types.length + m.imps.length + m.funcs.length + m.tabs.length + m.mems.length + m.globs.length + m.exps.length + m.elems.length + m.codes.length + m.datas.length := ⟨_, rfl⟩
 have hn0b : n0 ≤ 20000000 := by omega
 go_cut [3, 4] from 50 to 77 (fun nv _ wx => ∃ n : Nat, nv = .int .i64 n ∧ n ≤ 20000000 ∧ Below w1.heap.size w1 wx)
 case first =>
  go_wp2_with fail
  go_loopw [3, 4] (fun nv iv wr => ∃ i n : Nat, i ≤ m.types.length ∧ iv = .int .i64 i ∧ nv = .int .i64 n ∧ n ≤ 20000000 ∧ Below w1.heap.size w1 wr)
   (fun _ iv _ => m.types.length - (Lib.intOf iv).toNat)
  case atStart => exact ⟨0, n0, by omega, rfl, by rw [hn0]; simp; done, by omega, Below.refl _ _⟩
  case round =>
   obtain ⟨i, n, hi, rfl, rfl, hn, hbr⟩ := hrel
   have HBR := Lib.hid hbr
   clear hbr
   have xM : wr.cell? ⟨Bm, 0, none⟩ = some (.slice s0 m.types.length c0) := keepc HBR.out ((HL1.out.cell 0).trans (congrArg some HV0.out))
   by_cases hlt : i < m.types.length
   ·have hlt2 : (i : Int) < (m.types.length : Int) := by omega
    by_cases hn3 : n ≤ 4000
    ·have hn32 : (n : Int) ≤ 4000 := by omega
     obtain ⟨x, hx⟩ : ∃ x, m.types[i]? = some x := ⟨_, List.getElem?_eq_getElem hlt⟩
     have hok := HM.out.1.2.1 x (List.mem_of_getElem? hx)
     obtain ⟨g, off, rfl, hg⟩ := HS0.out (by intro e; rw [e] at hlt; simp at hlt)
     have hsl := HM.out.1.1.later (bt HB1.out HBR.out)
     rw [HV0.out] at hsl
     obtain ⟨sp, cp, hpv, _⟩ := hok.1.1.form
     obtain ⟨sr, cr, hrv, _⟩ := hok.2.1.form
     have hpl : x.p.length ≤ 1048576 := hok.1.2.2
     have hrl : x.r.length ≤ 1048576 := hok.2.2.2
     have hc0 : wr.cell? ⟨g, off + i * 2, none⟩ = some (.slice sp x.p.length cp) := by have := (hsl.cell hx (j := 0) rfl).trans (congrArg some hpv); rwa [Nat.add_zero] at this
     have hc1 : wr.cell? ⟨g, off + i * 2 + 1, none⟩ = some (.slice sr x.r.length cr) := (hsl.cell hx (j := 1) rfl).trans (congrArg some hrv)
     clear hx hok hpv hrv hsl
     go_wp2_with fail
     refine wp_region_t [(0, 1), (1, 1), (2, 1), (3, 1), (4, 1), (5, 1), (6, 1), (7, 1), (8, 1), (9, 1), (10, 1), (11, 1), (12, 1), (13, 1), (14, 1), (15, 1), (16, 1), (17, 1)] (fun w' => w'.cell? ⟨Bm, 0, none⟩ = some (.slice (some ⟨g, off, none⟩) m.types.length c0) ∧ w'.cell? ⟨g, off + i * 2, none⟩ = some (.slice sp x.p.length cp) ∧ w'.cell? ⟨g, off + i * 2 + 1, none⟩ = some (.slice sr x.r.length cr)) [] [] rfl (by kernel_rfl) (by kernel_rfl) (fun _ _ d _ _ h => by cases d <;> exact h) ⟨xM, hc0, hc1⟩ (fun p hp => by cases hp) ?_
     have HD := Lib.hid (bt HBR.out (below_drew wr))
     clear xM hc0 hc1
     generalize wr.drew = wv at HD ⊢
     repeat (first | (refine ts_take (v := ?_) rfl rfl (fun w' hw' => ?_) ?_; rotate_left; (focus (obtain ⟨q0, q1, q2⟩ := hw'; (try simp only [Act.put, sA, sB, sC]); go_simp; (try go_bits); (try (with_reducible rfl)))); (try simp only [Act.put, sA, sB, sC])) | (refine ts_skip rfl rfl ?_; (try simp only [Act.put, sA, sB, sC])))
     refine ts_done ?_
     go_wp2_with fail
     exact ⟨⟨i + 1, n + x.p.length + x.r.length, by omega, by go_num, by go_num, by omega, HD.out⟩, by simp [Lib.intOf]; omega⟩
    ·have hn32 : ¬ (n : Int) ≤ 4000 := by omega
     have hn33 : (4000 : Int) < (n : Int) := by omega
     go_wp2_with fail
     go_meet
     exact ⟨n, rfl, hn, HBR.out⟩
   ·obtain rfl : i = m.types.length := by omega
    have hge : ¬ ((m.types.length : Nat) : Int) < ((m.types.length : Nat) : Int) := by omega
    go_wp2_with fail
    go_meet
    exact ⟨n, rfl, hn, HBR.out⟩
 case rest =>
  obtain ⟨q1, rfl, hq1, hbr⟩ := hcut
  have HR1 := Lib.hid hbr
  clear hbr
  go_upto_block 2 with fail
  go_cut [3, 5] from 78 to 105 (fun nv _ wx => ∃ n : Nat, nv = .int .i64 n ∧ n ≤ 20000000 ∧ Below w1.heap.size w1 wx)
  case first =>
   go_wp2_with fail
   go_loopw [3, 5] (fun nv iv wr => ∃ i n : Nat, i ≤ m.imps.length ∧ iv = .int .i64 i ∧ nv = .int .i64 n ∧ n ≤ 20000000 ∧ Below w1.heap.size w1 wr)
    (fun _ iv _ => m.imps.length - (Lib.intOf iv).toNat)
   case atStart => exact ⟨0, q1, by omega, rfl, rfl, by omega, HR1.out⟩
   case round =>
    obtain ⟨i, n, hi, rfl, rfl, hn, hbr⟩ := hrel
    have HBR := Lib.hid hbr
    clear hbr
    have xM : wr.cell? ⟨Bm, 1, none⟩ = some (.slice s1 m.imps.length c1) := keepc HBR.out ((HL1.out.cell 1).trans (congrArg some HV1.out))
    by_cases hlt : i < m.imps.length
    ·have hlt2 : (i : Int) < (m.imps.length : Int) := by omega
     by_cases hn3 : n ≤ 4000
     ·have hn32 : (n : Int) ≤ 4000 := by omega
      obtain ⟨x, hx⟩ : ∃ x, m.imps[i]? = some x := ⟨_, List.getElem?_eq_getElem hlt⟩
      have hok := HM.out.2.1.2.1 x (List.mem_of_getElem? hx)
      obtain ⟨g, off, rfl, hg⟩ := HS1.out (by intro e; rw [e] at hlt; simp at hlt)
      have hsl := HM.out.2.1.1.later (bt HB1.out HBR.out)
      rw [HV1.out] at hsl
      have hml : x.mod.size ≤ 1048576 := hok.2.2.2.1
      have hnl : x.nm.size ≤ 1048576 := hok.2.2.2.2
      have hc0 : wr.cell? ⟨g, off + i * 8, none⟩ = some (.string x.mod) := by have := hsl.cell hx (j := 0) rfl; rwa [Nat.add_zero] at this
      have hc1 : wr.cell? ⟨g, off + i * 8 + 1, none⟩ = some (.string x.nm) := hsl.cell hx (j := 1) rfl
      clear hx hok hsl
      go_wp2_with fail
      refine wp_region_t [(0, 1), (1, 1), (2, 1), (3, 1), (4, 1), (5, 1), (6, 1), (7, 1), (8, 1), (9, 1), (10, 1), (11, 1), (12, 1), (13, 1), (14, 1), (15, 1), (16, 1), (17, 1)] (fun w' => w'.cell? ⟨Bm, 1, none⟩ = some (.slice (some ⟨g, off, none⟩) m.imps.length c1) ∧ w'.cell? ⟨g, off + i * 8, none⟩ = some (.string x.mod) ∧ w'.cell? ⟨g, off + i * 8 + 1, none⟩ = some (.string x.nm)) [] [] rfl (by kernel_rfl) (by kernel_rfl) (fun _ _ d _ _ h => by cases d <;> exact h) ⟨xM, hc0, hc1⟩ (fun p hp => by cases hp) ?_
      have HD := Lib.hid (bt HBR.out (below_drew wr))
      clear xM hc0 hc1
      generalize wr.drew = wv at HD ⊢
      repeat (first | (refine ts_take (v := ?_) rfl rfl (fun w' hw' => ?_) ?_; rotate_left; (focus (obtain ⟨q0, q1, q2⟩ := hw'; (try simp only [Act.put, sA, sB, sC]); go_simp; (try go_bits); (try (with_reducible rfl)))); (try simp only [Act.put, sA, sB, sC])) | (refine ts_skip rfl rfl ?_; (try simp only [Act.put, sA, sB, sC])))
      refine ts_done ?_
      go_wp2_with fail
      exact ⟨⟨i + 1, n + x.mod.size + x.nm.size, by omega, by go_num, by go_num, by omega, HD.out⟩, by simp [Lib.intOf]; omega⟩
     ·have hn32 : ¬ (n : Int) ≤ 4000 := by omega
      have hn33 : (4000 : Int) < (n : Int) := by omega
      go_wp2_with fail
      go_meet
      exact ⟨n, rfl, hn, HBR.out⟩
    ·obtain rfl : i = m.imps.length := by omega
     have hge : ¬ ((m.imps.length : Nat) : Int) < ((m.imps.length : Nat) : Int) := by omega
     go_wp2_with fail
     go_meet
     exact ⟨n, rfl, hn, HBR.out⟩
  case rest =>
   obtain ⟨q2, rfl, hq2, hbr⟩ := hcut
   have HR2 := Lib.hid hbr
   clear hbr
   go_upto_block 4 with fail
   go_cut [3, 6] from 106 to 125 (fun nv _ wx => ∃ n : Nat, nv = .int .i64 n ∧ n ≤ 20000000 ∧ Below w1.heap.size w1 wx)
   case first =>
    go_wp2_with fail
    go_loopw [3, 6] (fun nv iv wr => ∃ i n : Nat, i ≤ m.exps.length ∧ iv = .int .i64 i ∧ nv = .int .i64 n ∧ n ≤ 20000000 ∧ Below w1.heap.size w1 wr)
     (fun _ iv _ => m.exps.length - (Lib.intOf iv).toNat)
    case atStart => exact ⟨0, q2, by omega, rfl, rfl, by omega, HR2.out⟩
    case round =>
     obtain ⟨i, n, hi, rfl, rfl, hn, hbr⟩ := hrel
     have HBR := Lib.hid hbr
     clear hbr
     have xM : wr.cell? ⟨Bm, 6, none⟩ = some (.slice s6 m.exps.length c6) := keepc HBR.out ((HL1.out.cell 6).trans (congrArg some HV6.out))
     by_cases hlt : i < m.exps.length
     ·have hlt2 : (i : Int) < (m.exps.length : Int) := by omega
      by_cases hn3 : n ≤ 4000
      ·have hn32 : (n : Int) ≤ 4000 := by omega
       obtain ⟨x, hx⟩ : ∃ x, m.exps[i]? = some x := ⟨_, List.getElem?_eq_getElem hlt⟩
       have hok := HM.out.2.2.2.2.2.2.1.2.1 x (List.mem_of_getElem? hx)
       obtain ⟨g, off, rfl, hg⟩ := HS6.out (by intro e; rw [e] at hlt; simp at hlt)
       have hsl := HM.out.2.2.2.2.2.2.1.1.later (bt HB1.out HBR.out)
       rw [HV6.out] at hsl
       have hnl : x.nm.size ≤ 1048576 := hok.2
       have hc0 : wr.cell? ⟨g, off + i * 3, none⟩ = some (.string x.nm) := by have := hsl.cell hx (j := 0) rfl; rwa [Nat.add_zero] at this
       clear hx hok hsl
       go_wp2_with fail
       exact ⟨⟨i + 1, n + x.nm.size, by omega, by go_num, by go_num, by omega, HBR.out⟩, by simp [Lib.intOf]; omega⟩
      ·have hn32 : ¬ (n : Int) ≤ 4000 := by omega
       have hn33 : (4000 : Int) < (n : Int) := by omega
       go_wp2_with fail
       go_meet
       exact ⟨n, rfl, hn, HBR.out⟩
     ·obtain rfl : i = m.exps.length := by omega
      have hge : ¬ ((m.exps.length : Nat) : Int) < ((m.exps.length : Nat) : Int) := by omega
      go_wp2_with fail
      go_meet
      exact ⟨n, rfl, hn, HBR.out⟩
   case rest =>
    obtain ⟨q3, rfl, hq3, hbr⟩ := hcut
    have HR3 := Lib.hid hbr
    clear hbr
    go_upto_block 6 with fail
    go_cut [3, 7] from 126 to 145 (fun nv _ wx => ∃ n : Nat, nv = .int .i64 n ∧ n ≤ 20000000 ∧ Below w1.heap.size w1 wx)
    case first =>
     go_wp2_with fail
     go_loopw [3, 7] (fun nv iv wr => ∃ i n : Nat, i ≤ m.globs.length ∧ iv = .int .i64 i ∧ nv = .int .i64 n ∧ n ≤ 20000000 ∧ Below w1.heap.size w1 wr)
      (fun _ iv _ => m.globs.length - (Lib.intOf iv).toNat)
     case atStart => exact ⟨0, q3, by omega, rfl, rfl, by omega, HR3.out⟩
     case round =>
      obtain ⟨i, n, hi, rfl, rfl, hn, hbr⟩ := hrel
      have HBR := Lib.hid hbr
      clear hbr
      have xM : wr.cell? ⟨Bm, 5, none⟩ = some (.slice s5 m.globs.length c5) := keepc HBR.out ((HL1.out.cell 5).trans (congrArg some HV5.out))
      by_cases hlt : i < m.globs.length
      ·have hlt2 : (i : Int) < (m.globs.length : Int) := by omega
       by_cases hn3 : n ≤ 4000
       ·have hn32 : (n : Int) ≤ 4000 := by omega
        obtain ⟨x, hx⟩ : ∃ x, m.globs[i]? = some x := ⟨_, List.getElem?_eq_getElem hlt⟩
        have hok := HM.out.2.2.2.2.2.1.2.1 x (List.mem_of_getElem? hx)
        obtain ⟨g, off, rfl, hg⟩ := HS5.out (by intro e; rw [e] at hlt; simp at hlt)
        have hsl := HM.out.2.2.2.2.2.1.1.later (bt HB1.out HBR.out)
        rw [HV5.out] at hsl
        have hc2 : wr.cell? ⟨g, off + i * 3 + 2, none⟩ = some (x.iv) := hsl.cell hx (j := 2) rfl
        have HOK := Lib.hid hok
        clear hx hok hsl
        go_wp2_with fail
        refine (heavy_any (HOK.out.2.1.later (bt HB1.out HBR.out)) (fun y hy => (HOK.out.2.2.1 y hy).later (bt HB1.out HBR.out)) HOK.out.2.2.2).mono ?_
        rintro en w5 ⟨⟨h, hh, rfl⟩, hb5⟩
        have HB5 := Lib.hid (bt HBR.out hb5)
        clear hb5 xM hc2
        go_wp2_with fail
        exact ⟨⟨i + 1, n + h, by omega, by go_num, by go_num, by omega, HB5.out⟩, by simp [Lib.intOf]; omega⟩
       ·have hn32 : ¬ (n : Int) ≤ 4000 := by omega
        have hn33 : (4000 : Int) < (n : Int) := by omega
        go_wp2_with fail
        go_meet
        exact ⟨n, rfl, hn, HBR.out⟩
      ·obtain rfl : i = m.globs.length := by omega
       have hge : ¬ ((m.globs.length : Nat) : Int) < ((m.globs.length : Nat) : Int) := by omega
       go_wp2_with fail
       go_meet
       exact ⟨n, rfl, hn, HBR.out⟩
    case rest =>
     obtain ⟨q4, rfl, hq4, hbr⟩ := hcut
     have HR4 := Lib.hid hbr
     clear hbr
     go_upto_block 8 with fail
     go_cut [3, 8] from 146 to 173 (fun nv _ wx => ∃ n : Nat, nv = .int .i64 n ∧ n ≤ 20000000 ∧ Below w1.heap.size w1 wx)
     case first =>
      go_wp2_with fail
      go_loopw [3, 8] (fun nv iv wr => ∃ i n : Nat, i ≤ m.elems.length ∧ iv = .int .i64 i ∧ nv = .int .i64 n ∧ n ≤ 20000000 ∧ Below w1.heap.size w1 wr)
       (fun _ iv _ => m.elems.length - (Lib.intOf iv).toNat)
      case atStart => exact ⟨0, q4, by omega, rfl, rfl, by omega, HR4.out⟩
      case round =>
       obtain ⟨i, n, hi, rfl, rfl, hn, hbr⟩ := hrel
       have HBR := Lib.hid hbr
       clear hbr
       have xM : wr.cell? ⟨Bm, 9, none⟩ = some (.slice s9 m.elems.length c9) := keepc HBR.out ((HL1.out.cell 9).trans (congrArg some HV9.out))
       by_cases hlt : i < m.elems.length
       ·have hlt2 : (i : Int) < (m.elems.length : Int) := by omega
        by_cases hn3 : n ≤ 4000
        ·have hn32 : (n : Int) ≤ 4000 := by omega
         obtain ⟨x, hx⟩ : ∃ x, m.elems[i]? = some x := ⟨_, List.getElem?_eq_getElem hlt⟩
         have hok := HM.out.2.2.2.2.2.2.2.2.1.2.1 x (List.mem_of_getElem? hx)
         obtain ⟨g, off, rfl, hg⟩ := HS9.out (by intro e; rw [e] at hlt; simp at hlt)
         have hsl := HM.out.2.2.2.2.2.2.2.2.1.1.later (bt HB1.out HBR.out)
         rw [HV9.out] at hsl
         have HOK := Lib.hid hok
         obtain ⟨sr, cr, hrv, _⟩ := hok.2.2.1.form
         have hrl : x.fs.length ≤ 1048576 := hok.2.2.2.2
         have hc1 : wr.cell? ⟨g, off + i * 3 + 1, none⟩ = some (x.ov) := hsl.cell hx (j := 1) rfl
         have hc2 : wr.cell? ⟨g, off + i * 3 + 2, none⟩ = some (.slice sr x.fs.length cr) := (hsl.cell hx (j := 2) rfl).trans (congrArg some hrv)
         clear hx hok hrv hsl
         go_wp2_with fail
         refine wp_region_t [(0, 1), (1, 1), (2, 1), (3, 1), (4, 1), (5, 1), (6, 1), (9, 1), (10, 1), (11, 1), (12, 1), (13, 1), (14, 1), (15, 1), (7, 0), (8, 1), (16, 1), (17, 1)] (fun w' => w'.cell? ⟨Bm, 9, none⟩ = some (.slice (some ⟨g, off, none⟩) m.elems.length c9) ∧ w'.cell? ⟨g, off + i * 3 + 1, none⟩ = some (x.ov) ∧ w'.cell? ⟨g, off + i * 3 + 2, none⟩ = some (.slice sr x.fs.length cr)) [] [] rfl (by kernel_rfl) (by kernel_rfl) (fun _ _ d _ _ h => by cases d <;> exact h) ⟨xM, hc1, hc2⟩ (fun p hp => by cases hp) ?_
         have HD := Lib.hid (bt HBR.out (below_drew wr))
         have HBd := Lib.hid (below_drew wr)
         generalize wr.drew = wv at HD HBd ⊢
         repeat (first | (refine ts_take (v := ?_) rfl rfl (fun w' hw' => ?_) ?_; rotate_left; (focus (obtain ⟨q0, q1, q2⟩ := hw'; (try simp only [Act.put, sA, sB, sC]); go_simp; (try go_bits); (try (with_reducible rfl)))); (try simp only [Act.put, sA, sB, sC])) | (refine ts_skip rfl rfl ?_; (try simp only [Act.put, sA, sB, sC])))
         refine ts_run1 rfl rfl (fun K hK => ?_)
         go_simp
         refine (heavy_any (HOK.out.2.1.1.later (bt HB1.out HD.out)) (fun y hy => (HOK.out.2.1.2.1 y hy).later (bt HB1.out HD.out)) HOK.out.2.1.2.2).mono ?_
         rintro en w5 ⟨⟨h, hh, rfl⟩, hb5⟩
         have HB5 := Lib.hid (bt HD.out hb5)
         refine hK.out _ _ ⟨keepc hb5 (keepc HBd.out xM), keepc hb5 (keepc HBd.out hc1), keepc hb5 (keepc HBd.out hc2)⟩ (still_none _ _) ?_
         clear hK K
         (try simp only [Act.put, sA, sB, sC])
         clear xM hc1 hc2
         repeat (first | (refine ts_take (v := ?_) rfl rfl (fun w' hw' => ?_) ?_; rotate_left; (focus (obtain ⟨q0, q1, q2⟩ := hw'; (try simp only [Act.put, sA, sB, sC]); go_simp; (try go_bits); (try (with_reducible rfl)))); (try simp only [Act.put, sA, sB, sC])) | (refine ts_skip rfl rfl ?_; (try simp only [Act.put, sA, sB, sC])))
         refine ts_done ?_
         go_wp2_with fail
         exact ⟨⟨i + 1, n + h + x.fs.length, by omega, by go_num, by go_num, by omega, HB5.out⟩, by simp [Lib.intOf]; omega⟩
        ·have hn32 : ¬ (n : Int) ≤ 4000 := by omega
         have hn33 : (4000 : Int) < (n : Int) := by omega
         go_wp2_with fail
         go_meet
         exact ⟨n, rfl, hn, HBR.out⟩
       ·obtain rfl : i = m.elems.length := by omega
        have hge : ¬ ((m.elems.length : Nat) : Int) < ((m.elems.length : Nat) : Int) := by omega
        go_wp2_with fail
        go_meet
        exact ⟨n, rfl, hn, HBR.out⟩
     case rest =>
      obtain ⟨q5, rfl, hq5, hbr⟩ := hcut
      have HR5 := Lib.hid hbr
      clear hbr
      go_upto_block 10 with fail
      go_cut [3, 9] from 174 to 201 (fun nv _ wx => ∃ n : Nat, nv = .int .i64 n ∧ n ≤ 20000000 ∧ Below w1.heap.size w1 wx)
      case first =>
       go_wp2_with fail
       go_loopw [3, 9] (fun nv iv wr => ∃ i n : Nat, i ≤ m.codes.length ∧ iv = .int .i64 i ∧ nv = .int .i64 n ∧ n ≤ 20000000 ∧ Below w1.heap.size w1 wr)
        (fun _ iv _ => m.codes.length - (Lib.intOf iv).toNat)
       case atStart => exact ⟨0, q5, by omega, rfl, rfl, by omega, HR5.out⟩
       case round =>
        obtain ⟨i, n, hi, rfl, rfl, hn, hbr⟩ := hrel
        have HBR := Lib.hid hbr
        clear hbr
        have xM : wr.cell? ⟨Bm, 10, none⟩ = some (.slice s10 m.codes.length c10) := keepc HBR.out ((HL1.out.cell 10).trans (congrArg some HV10.out))
        by_cases hlt : i < m.codes.length
        ·have hlt2 : (i : Int) < (m.codes.length : Int) := by omega
         by_cases hn3 : n ≤ 4000
         ·have hn32 : (n : Int) ≤ 4000 := by omega
          obtain ⟨x, hx⟩ : ∃ x, m.codes[i]? = some x := ⟨_, List.getElem?_eq_getElem hlt⟩
          have hok := HM.out.2.2.2.2.2.2.2.2.2.1.2.1 x (List.mem_of_getElem? hx)
          obtain ⟨g, off, rfl, hg⟩ := HS10.out (by intro e; rw [e] at hlt; simp at hlt)
          have hsl := HM.out.2.2.2.2.2.2.2.2.2.1.1.later (bt HB1.out HBR.out)
          rw [HV10.out] at hsl
          have HOK := Lib.hid hok
          obtain ⟨sr, cr, hrv, _⟩ := hok.1.1.form
          have hrl : x.locs.length ≤ 1048576 := hok.1.2.2
          have hc1 : wr.cell? ⟨g, off + i * 2 + 1, none⟩ = some (x.bv) := hsl.cell hx (j := 1) rfl
          have hc0 : wr.cell? ⟨g, off + i * 2, none⟩ = some (.slice sr x.locs.length cr) := by have := (hsl.cell hx (j := 0) rfl).trans (congrArg some hrv); rwa [Nat.add_zero] at this
          clear hx hok hrv hsl
          go_wp2_with fail
          refine wp_region_t [(0, 1), (1, 1), (2, 1), (3, 1), (4, 1), (5, 1), (6, 1), (9, 1), (10, 1), (11, 1), (12, 1), (13, 1), (14, 1), (15, 1), (7, 0), (8, 1), (16, 1), (17, 1)] (fun w' => w'.cell? ⟨Bm, 10, none⟩ = some (.slice (some ⟨g, off, none⟩) m.codes.length c10) ∧ w'.cell? ⟨g, off + i * 2 + 1, none⟩ = some (x.bv) ∧ w'.cell? ⟨g, off + i * 2, none⟩ = some (.slice sr x.locs.length cr)) [] [] rfl (by kernel_rfl) (by kernel_rfl) (fun _ _ d _ _ h => by cases d <;> exact h) ⟨xM, hc1, hc0⟩ (fun p hp => by cases hp) ?_
          have HD := Lib.hid (bt HBR.out (below_drew wr))
          have HBd := Lib.hid (below_drew wr)
          generalize wr.drew = wv at HD HBd ⊢
          repeat (first | (refine ts_take (v := ?_) rfl rfl (fun w' hw' => ?_) ?_; rotate_left; (focus (obtain ⟨q0, q1, q2⟩ := hw'; (try simp only [Act.put, sA, sB, sC]); go_simp; (try go_bits); (try (with_reducible rfl)))); (try simp only [Act.put, sA, sB, sC])) | (refine ts_skip rfl rfl ?_; (try simp only [Act.put, sA, sB, sC])))
          refine ts_run1 rfl rfl (fun K hK => ?_)
          go_simp
          refine (heavy_any (HOK.out.2.1.later (bt HB1.out HD.out)) (fun y hy => (HOK.out.2.2.1 y hy).later (bt HB1.out HD.out)) HOK.out.2.2.2).mono ?_
          rintro en w5 ⟨⟨h, hh, rfl⟩, hb5⟩
          have HB5 := Lib.hid (bt HD.out hb5)
          refine hK.out _ _ ⟨keepc hb5 (keepc HBd.out xM), keepc hb5 (keepc HBd.out hc1), keepc hb5 (keepc HBd.out hc0)⟩ (still_none _ _) ?_
          clear hK K
          (try simp only [Act.put, sA, sB, sC])
          clear xM hc1 hc0
          repeat (first | (refine ts_take (v := ?_) rfl rfl (fun w' hw' => ?_) ?_; rotate_left; (focus (obtain ⟨q0, q1, q2⟩ := hw'; (try simp only [Act.put, sA, sB, sC]); go_simp; (try go_bits); (try (with_reducible rfl)))); (try simp only [Act.put, sA, sB, sC])) | (refine ts_skip rfl rfl ?_; (try simp only [Act.put, sA, sB, sC])))
          refine ts_done ?_
          go_wp2_with fail
          exact ⟨⟨i + 1, n + h + x.locs.length, by omega, by go_num, by go_num, by omega, HB5.out⟩, by simp [Lib.intOf]; omega⟩
         ·have hn32 : ¬ (n : Int) ≤ 4000 := by omega
          have hn33 : (4000 : Int) < (n : Int) := by omega
          go_wp2_with fail
          go_meet
          exact ⟨n, rfl, hn, HBR.out⟩
        ·obtain rfl : i = m.codes.length := by omega
         have hge : ¬ ((m.codes.length : Nat) : Int) < ((m.codes.length : Nat) : Int) := by omega
         go_wp2_with fail
         go_meet
         exact ⟨n, rfl, hn, HBR.out⟩
      case rest =>
       obtain ⟨q6, rfl, hq6, hbr⟩ := hcut
       have HR6 := Lib.hid hbr
       clear hbr
       go_upto_block 12 with fail
       go_cut [3, 10] from 202 to 230 (fun nv _ wx => ∃ n : Nat, nv = .int .i64 n ∧ n ≤ 20000000 ∧ Below w1.heap.size w1 wx)
       case first =>
        go_wp2_with fail
        go_loopw [3, 10] (fun nv iv wr => ∃ i n : Nat, i ≤ m.datas.length ∧ iv = .int .i64 i ∧ nv = .int .i64 n ∧ n ≤ 20000000 ∧ Below w1.heap.size w1 wr)
         (fun _ iv _ => m.datas.length - (Lib.intOf iv).toNat)
        case atStart => exact ⟨0, q6, by omega, rfl, rfl, by omega, HR6.out⟩
        case round =>
         obtain ⟨i, n, hi, rfl, rfl, hn, hbr⟩ := hrel
         have HBR := Lib.hid hbr
         clear hbr
         have xM : wr.cell? ⟨Bm, 11, none⟩ = some (.slice s11 m.datas.length c11) := keepc HBR.out ((HL1.out.cell 11).trans (congrArg some HV11.out))
         by_cases hlt : i < m.datas.length
         ·have hlt2 : (i : Int) < (m.datas.length : Int) := by omega
          by_cases hn3 : n ≤ 4000
          ·have hn32 : (n : Int) ≤ 4000 := by omega
           obtain ⟨x, hx⟩ : ∃ x, m.datas[i]? = some x := ⟨_, List.getElem?_eq_getElem hlt⟩
           have hok := HM.out.2.2.2.2.2.2.2.2.2.2.2.1 x (List.mem_of_getElem? hx)
           obtain ⟨g, off, rfl, hg⟩ := HS11.out (by intro e; rw [e] at hlt; simp at hlt)
           have hsl := HM.out.2.2.2.2.2.2.2.2.2.2.1.later (bt HB1.out HBR.out)
           rw [HV11.out] at hsl
           have HOK := Lib.hid hok
           obtain ⟨sr, cr, hrv, _⟩ := hok.2.2.1.form
           have hrl : x.b.length ≤ 1048576 := hok.2.2.2.2
           have hc1 : wr.cell? ⟨g, off + i * 3 + 1, none⟩ = some (x.ov) := hsl.cell hx (j := 1) rfl
           have hc2 : wr.cell? ⟨g, off + i * 3 + 2, none⟩ = some (.slice sr x.b.length cr) := (hsl.cell hx (j := 2) rfl).trans (congrArg some hrv)
           clear hx hok hrv hsl
           go_wp2_with fail
           refine wp_region_t [(0, 1), (1, 1), (2, 1), (3, 1), (4, 1), (5, 1), (6, 1), (9, 1), (10, 1), (11, 1), (12, 1), (13, 1), (14, 1), (15, 1), (16, 1), (7, 0), (8, 1), (17, 1), (18, 1)] (fun w' => w'.cell? ⟨Bm, 11, none⟩ = some (.slice (some ⟨g, off, none⟩) m.datas.length c11) ∧ w'.cell? ⟨g, off + i * 3 + 1, none⟩ = some (x.ov) ∧ w'.cell? ⟨g, off + i * 3 + 2, none⟩ = some (.slice sr x.b.length cr)) [] [] rfl (by kernel_rfl) (by kernel_rfl) (fun _ _ d _ _ h => by cases d <;> exact h) ⟨xM, hc1, hc2⟩ (fun p hp => by cases hp) ?_
           have HD := Lib.hid (bt HBR.out (below_drew wr))
           have HBd := Lib.hid (below_drew wr)
           generalize wr.drew = wv at HD HBd ⊢
           repeat (first | (refine ts_take (v := ?_) rfl rfl (fun w' hw' => ?_) ?_; rotate_left; (focus (obtain ⟨q0, q1, q2⟩ := hw'; (try simp only [Act.put, sA, sB, sC]); go_simp; (try go_bits); (try (with_reducible rfl)))); (try simp only [Act.put, sA, sB, sC])) | (refine ts_skip rfl rfl ?_; (try simp only [Act.put, sA, sB, sC])))
           refine ts_run1 rfl rfl (fun K hK => ?_)
           go_simp
           refine (heavy_any (HOK.out.2.1.1.later (bt HB1.out HD.out)) (fun y hy => (HOK.out.2.1.2.1 y hy).later (bt HB1.out HD.out)) HOK.out.2.1.2.2).mono ?_
           rintro en w5 ⟨⟨h, hh, rfl⟩, hb5⟩
           have HB5 := Lib.hid (bt HD.out hb5)
           refine hK.out _ _ ⟨keepc hb5 (keepc HBd.out xM), keepc hb5 (keepc HBd.out hc1), keepc hb5 (keepc HBd.out hc2)⟩ (still_none _ _) ?_
           clear hK K
           (try simp only [Act.put, sA, sB, sC])
           clear xM hc1 hc2
           repeat (first | (refine ts_take (v := ?_) rfl rfl (fun w' hw' => ?_) ?_; rotate_left; (focus (obtain ⟨q0, q1, q2⟩ := hw'; (try simp only [Act.put, sA, sB, sC]); go_simp; (try go_bits); (try (with_reducible rfl)))); (try simp only [Act.put, sA, sB, sC])) | (refine ts_skip rfl rfl ?_; (try simp only [Act.put, sA, sB, sC])))
           refine ts_done ?_
           go_wp2_with fail
           exact ⟨⟨i + 1, n + h + x.b.length / 32, by omega, by go_num, by go_num, by omega, HB5.out⟩, by simp [Lib.intOf]; omega⟩
          ·have hn32 : ¬ (n : Int) ≤ 4000 := by omega
           have hn33 : (4000 : Int) < (n : Int) := by omega
           go_wp2_with fail
           go_meet
           exact ⟨n, rfl, hn, HBR.out⟩
         ·obtain rfl : i = m.datas.length := by omega
          have hge : ¬ ((m.datas.length : Nat) : Int) < ((m.datas.length : Nat) : Int) := by omega
          go_wp2_with fail
          go_meet
          exact ⟨n, rfl, hn, HBR.out⟩
       case rest =>
        obtain ⟨q7, rfl, hq7, hbr⟩ := hcut
        have HR7 := Lib.hid hbr
        clear hbr
        go_wp2_with fail
        go_ret
        exact ⟨⟨_, rfl⟩, bt HB1.out HR7.out⟩
end Go.Proofs.YtmgjcaikldeioaaGreat.Va
/- The chapter's rows for valid. -/
namespace Go.Proofs.YtmgjcaikldeioaaGreat.Va
open Go Go.RowKit Go.Lib Kt Fm Gr Ty

theorem vchk_ne {m : Mod} (h : (vchk m).2 ≠ 0) : (vchk m).1 = [] := by
 unfold vchk at *
 simp only at *
 split
 ·rename_i h1
  rw [if_pos h1] at h
  exact absurd rfl h
 ·rfl
set_option maxRecDepth 100000 in
set_option maxHeartbeats 8000000 in
theorem is_any {W : World} {m : Mod} (hm : ModOk W m) {k : Nat} {b : Bool} (hb : ((vchk m).2 == k) = b) :
  Calls Tryz.prog 18 #[.agg m.cs.toArray, .int .i64 k] W fun e w' => e = .returned (.bool b) ∧ Below W.heap.size W w' := by
 have HM := Lib.hid hm
 have HBB := Lib.hid hb
 clear hm hb
 go_enter Tryz.func18, Tryz.ntmps18
 go_wp2_with (first | (refine wl_box m.cs _ rfl rfl rfl (fun w1 hb1 hl1 => ?_); have HB1 := Lib.hid hb1; have HL1 := Lib.hid hl1; obtain ⟨Bm, hBm⟩ : ∃ Bm, Bm = W.heap.size := ⟨_, rfl⟩; rw [← hBm] at HL1 ⊢; clear hBm hb1 hl1; (try simp only [Act.put, sA, sB, sC])) | (refine wpList_load_mid rfl 33 _ rfl Bm 0 rfl m.cs _ (lies_range HL1.out) Tryz.underlying33 rfl sizeMod ?_; (try simp only [Act.put, sA, sB, sC])))
 refine (vcheck_any (HM.out.later HB1.out)).mono ?_
 rintro en w2 ⟨v, rfl, hsl, hb2⟩
 obtain ⟨s, c, rfl, _⟩ := hsl.form
 have HB2 := Lib.hid (bt HB1.out hb2)
 obtain ⟨ev, hev⟩ : ∃ ev, ev = (vchk m).2 := ⟨_, rfl⟩
 obtain ⟨n, hn⟩ : ∃ n, n = (vchk m).1.length := ⟨_, rfl⟩
 rw [← hev, ← hn]
 have hn0 : ev ≠ 0 → n = 0 := fun h => by rw [hn, vchk_ne (by rw [← hev]; exact h)]; rfl
 rw [← hev] at HBB
 clear hev hn hsl hb2
 by_cases h1 : ev = k
 ·subst h1
  obtain rfl : b = true := by rw [← HBB.out]; simp
  by_cases h0 : ev = 0
  ·subst h0
   clear hn0
   go_wp2_with fail
   go_ret
   exact ⟨rfl, HB2.out⟩
  ·obtain rfl := hn0 h0
   have h01 : ¬ (ev : Int) = 0 := by omega
   have h02 : ((ev : Int) == 0) = false := by rw [beq_eq_false_iff_ne]; omega
   have h03 : ((ev : Int) == (ev : Int)) = true := by simp
   clear hn0 h0
   go_wp2_with fail
   go_ret
   exact ⟨rfl, HB2.out⟩
 ·obtain rfl : b = false := by rw [← HBB.out]; simpa using h1
  have h03 : ((ev : Int) == (k : Int)) = false := by rw [beq_eq_false_iff_ne]; omega
  clear hn0 h1
  go_wp2_with fail
  go_ret
  exact ⟨rfl, HB2.out⟩
def modM (mv : Value) (mems : List Lim) (gv : Value) (globs : List Glb) : Mod := ⟨.slice none 0 0, [], .slice none 0 0, [], .slice none 0 0, [], .slice none 0 0, [], mv, mems, gv, globs, .slice none 0 0, [], false, 0, .slice none 0 0, [], .slice none 0 0, [], .slice none 0 0, []⟩
theorem nil_ok {α : Type} {w : World} {sz : Nat} {en : α → List Value} {Q : α → Prop} : Sl w sz en (.slice none 0 0) [] ∧ (∀ y ∈ ([] : List α), Q y) ∧ ([] : List α).length ≤ Bd := ⟨Sl.nil _ _ _ _, fun _ h => (by cases h), Nat.zero_le _⟩
theorem modM_ok {w : World} {mv : Value} {mems : List Lim} {gv : Value} {globs : List Glb} (h1 : Sl w 2 Lim.cs mv mems ∧ (∀ y ∈ mems, LimOk w y) ∧ mems.length ≤ Bd) (h2 : Sl w 3 Glb.cs gv globs ∧ (∀ y ∈ globs, GlbOk w y) ∧ globs.length ≤ Bd) : ModOk w (modM mv mems gv globs) :=
 ⟨nil_ok, nil_ok, nil_ok, nil_ok, h1, h2, nil_ok, (by show (0 : Nat) < 4294967296; decide), nil_ok, nil_ok, nil_ok⟩
theorem vk0 : ((vchk (modM (.slice none 0 0) [] (.slice none 0 0) [])).2 == 0) = true := by rfl
theorem vk1 (v : Value) : ((vchk (modM v [⟨0, -1⟩, ⟨0, -1⟩] (.slice none 0 0) [])).2 == 112) = true := by rfl
theorem vk2 (v : Value) : ((vchk (modM v [⟨2, 1⟩] (.slice none 0 0) [])).2 == 112) = true := by rfl
theorem vk3 (v u : Value) : ((vchk (modM (.slice none 0 0) [] v [⟨⟨127, false⟩, u, [⟨66, 0, 0, 0, .slice none 0 0, []⟩]⟩])).2 == 100) = true := by rfl
theorem vk4 (v u : Value) : ((vchk (modM (.slice none 0 0) [] v [⟨⟨127, false⟩, u, [⟨35, 0, 0, 0, .slice none 0 0, []⟩]⟩])).2 == 80) = true := by rfl
def modN (tv fv ev cv : Value) (n : Nat) : Mod := ⟨tv, [⟨.slice none 0 0, [], .slice none 0 0, []⟩], .slice none 0 0, [], fv, [0], .slice none 0 0, [], .slice none 0 0, [], .slice none 0 0, [], ev, [⟨⟨#[97]⟩, 0, 0⟩, ⟨⟨#[97]⟩, 0, n⟩], false, 0, .slice none 0 0, [], cv, [⟨.slice none 0 0, [], .slice none 0 0, []⟩], .slice none 0 0, []⟩
theorem vk5 (tv fv ev cv : Value) : ((vchk (modN tv fv ev cv 0)).2 == 111) = true := by kernel_rfl
theorem vk6 (tv fv ev cv : Value) : ((vchk (modN tv fv ev cv 1)).2 == 80) = true := by kernel_rfl
theorem sl_many {α : Type} {w : World} {en : α → List Value} {sz g : Nat} {t : TypeId} {L : List α} (hlen : ∀ x, (en x).length = sz) (h : Lies w g t (L.flatMap en).toArray) : Sl w sz en (.slice (some ⟨g, 0, none⟩) L.length L.length) L := by
 refine ⟨_, _, rfl, fun _ => ⟨g, 0, rfl, h.lt, fun i x hi j u hu => ?_⟩⟩
 have hj : j < sz := by rw [← hlen x]; exact (List.getElem?_eq_some_iff.1 hu).1
 have hf := getElem?_flat hlen hi hj
 have h2 := h.cell (i * sz + j)
 rw [Nat.zero_add, h2, List.getElem?_toArray, hf]
 exact hu
set_option maxRecDepth 100000 in
set_option maxHeartbeats 8000000 in
theorem begins_any {W : World} {v : Value} {L : List Ins} (h : Sl W 5 Ins.cs v L) (hx : ∀ y ∈ L, InsOk W y) (hn : L.length ≤ 10) :
  Calls Tryz.prog 27 #[v] W fun e w' => (∃ gv, e = .returned (.agg (modM (.slice none 0 0) [] gv [⟨⟨127, false⟩, v, L⟩]).cs.toArray) ∧ ModOk w' (modM (.slice none 0 0) [] gv [⟨⟨127, false⟩, v, L⟩])) ∧ Below W.heap.size W w' := by
 obtain ⟨s, c, rfl, _⟩ := h.form
 have H := Lib.hid h
 have HX := Lib.hid hx
 clear h hx
 go_enter Tryz.func27, Tryz.ntmps27
 go_wp2_with fail
 have hl : Lies ((W.alloc (.cells (modM (.slice none 0 0) [] (.slice (some ⟨W.heap.size + 1, 0, none⟩) 1 1) [⟨⟨127, false⟩, .slice s L.length c, L⟩]).cs.toArray 33)).alloc (.cells #[.int .u8 127, .bool false, .slice s L.length c] 80)) W.heap.size 33 (modM (.slice none 0 0) [] (.slice (some ⟨W.heap.size + 1, 0, none⟩) 1 1) [⟨⟨127, false⟩, .slice s L.length c, L⟩]).cs.toArray := (Lies.new _ _ _).alloc _
 have h1 : Lies ((W.alloc (.cells (modM (.slice none 0 0) [] (.slice (some ⟨W.heap.size + 1, 0, none⟩) 1 1) [⟨⟨127, false⟩, .slice s L.length c, L⟩]).cs.toArray 33)).alloc (.cells #[.int .u8 127, .bool false, .slice s L.length c] 80)) (W.heap.size + 1) 80 #[.int .u8 127, .bool false, .slice s L.length c] := lies_new2 _ _ _ _
 have hb : Below W.heap.size W ((W.alloc (.cells (modM (.slice none 0 0) [] (.slice (some ⟨W.heap.size + 1, 0, none⟩) 1 1) [⟨⟨127, false⟩, .slice s L.length c, L⟩]).cs.toArray 33)).alloc (.cells #[.int .u8 127, .bool false, .slice s L.length c] 80)) := ((Below.refl _ _).alloc (Nat.le_refl _) _).alloc (by simp) _
 (try simp only [Exit.inBlock, Exit.then])
 refine bodyPost_ret_by (results_c rfl _ _ W.heap.size (modM (.slice none 0 0) [] (.slice (some ⟨W.heap.size + 1, 0, none⟩) 1 1) [⟨⟨127, false⟩, .slice s L.length c, L⟩]).cs _ rfl hl Tryz.underlying33 rfl sizeMod) rfl ⟨⟨_, rfl, modM_ok nil_ok ⟨sl_one (x := (⟨⟨127, false⟩, .slice s L.length c, L⟩ : Glb)) (en := Glb.cs) h1, fun y hy => ?_, (by show (1 : Nat) ≤ 1048576; decide)⟩⟩, hb⟩
 obtain rfl := List.mem_singleton.1 hy
 exact ⟨trivial, H.out.later hb, fun z hz => (HX.out z hz).later hb, Nat.le_trans hn (by decide)⟩
set_option maxRecDepth 100000 in
set_option maxHeartbeats 8000000 in
theorem names_any {W : World} {n : Nat} (hn : n < 4294967296) :
  Calls Tryz.prog 28 #[.int .u32 n] W fun e w' => (∃ tv fv ev cv, e = .returned (.agg (modN tv fv ev cv n).cs.toArray) ∧ ModOk w' (modN tv fv ev cv n)) ∧ Below W.heap.size W w' := by
 go_enter Tryz.func28, Tryz.ntmps28
 go_wp2_with fail
 have h0 : Lies (((((W.alloc (.cells (modN (.slice (some ⟨W.heap.size + 1, 0, none⟩) 1 1) (.slice (some ⟨W.heap.size + 1 + 1, 0, none⟩) 1 1) (.slice (some ⟨W.heap.size + 1 + 1 + 1 + 1, 0, none⟩) 2 2) (.slice (some ⟨W.heap.size + 1 + 1 + 1, 0, none⟩) 1 1) n).cs.toArray 33)).alloc (.cells #[.slice none 0 0, .slice none 0 0] 51)).alloc (.cells #[.int .u32 0] 28)).alloc (.cells #[.slice none 0 0, .slice none 0 0] 48)).alloc (.cells (([⟨⟨#[97]⟩, 0, 0⟩, ⟨⟨#[97]⟩, 0, n⟩] : List Exp).flatMap Exp.cs).toArray 61)) (W.heap.size) 33 (modN (.slice (some ⟨W.heap.size + 1, 0, none⟩) 1 1) (.slice (some ⟨W.heap.size + 1 + 1, 0, none⟩) 1 1) (.slice (some ⟨W.heap.size + 1 + 1 + 1 + 1, 0, none⟩) 2 2) (.slice (some ⟨W.heap.size + 1 + 1 + 1, 0, none⟩) 1 1) n).cs.toArray := by
  have h := (Lies.new W _ _ : Lies (W.alloc (.cells (modN (.slice (some ⟨W.heap.size + 1, 0, none⟩) 1 1) (.slice (some ⟨W.heap.size + 1 + 1, 0, none⟩) 1 1) (.slice (some ⟨W.heap.size + 1 + 1 + 1 + 1, 0, none⟩) 2 2) (.slice (some ⟨W.heap.size + 1 + 1 + 1, 0, none⟩) 1 1) n).cs.toArray 33)) W.heap.size 33 (modN (.slice (some ⟨W.heap.size + 1, 0, none⟩) 1 1) (.slice (some ⟨W.heap.size + 1 + 1, 0, none⟩) 1 1) (.slice (some ⟨W.heap.size + 1 + 1 + 1 + 1, 0, none⟩) 2 2) (.slice (some ⟨W.heap.size + 1 + 1 + 1, 0, none⟩) 1 1) n).cs.toArray)
  exact ((((h.alloc _).alloc _).alloc _).alloc _)
 have h1 : Lies (((((W.alloc (.cells (modN (.slice (some ⟨W.heap.size + 1, 0, none⟩) 1 1) (.slice (some ⟨W.heap.size + 1 + 1, 0, none⟩) 1 1) (.slice (some ⟨W.heap.size + 1 + 1 + 1 + 1, 0, none⟩) 2 2) (.slice (some ⟨W.heap.size + 1 + 1 + 1, 0, none⟩) 1 1) n).cs.toArray 33)).alloc (.cells #[.slice none 0 0, .slice none 0 0] 51)).alloc (.cells #[.int .u32 0] 28)).alloc (.cells #[.slice none 0 0, .slice none 0 0] 48)).alloc (.cells (([⟨⟨#[97]⟩, 0, 0⟩, ⟨⟨#[97]⟩, 0, n⟩] : List Exp).flatMap Exp.cs).toArray 61)) (W.heap.size + 1) 51 #[.slice none 0 0, .slice none 0 0] := by
  have h := (Lies.new (W.alloc (.cells (modN (.slice (some ⟨W.heap.size + 1, 0, none⟩) 1 1) (.slice (some ⟨W.heap.size + 1 + 1, 0, none⟩) 1 1) (.slice (some ⟨W.heap.size + 1 + 1 + 1 + 1, 0, none⟩) 2 2) (.slice (some ⟨W.heap.size + 1 + 1 + 1, 0, none⟩) 1 1) n).cs.toArray 33)) _ _ : Lies ((W.alloc (.cells (modN (.slice (some ⟨W.heap.size + 1, 0, none⟩) 1 1) (.slice (some ⟨W.heap.size + 1 + 1, 0, none⟩) 1 1) (.slice (some ⟨W.heap.size + 1 + 1 + 1 + 1, 0, none⟩) 2 2) (.slice (some ⟨W.heap.size + 1 + 1 + 1, 0, none⟩) 1 1) n).cs.toArray 33)).alloc (.cells #[.slice none 0 0, .slice none 0 0] 51)) (W.alloc (.cells (modN (.slice (some ⟨W.heap.size + 1, 0, none⟩) 1 1) (.slice (some ⟨W.heap.size + 1 + 1, 0, none⟩) 1 1) (.slice (some ⟨W.heap.size + 1 + 1 + 1 + 1, 0, none⟩) 2 2) (.slice (some ⟨W.heap.size + 1 + 1 + 1, 0, none⟩) 1 1) n).cs.toArray 33)).heap.size 51 #[.slice none 0 0, .slice none 0 0])
  simp only [World.size_alloc] at h
  exact (((h.alloc _).alloc _).alloc _)
 have h2 : Lies (((((W.alloc (.cells (modN (.slice (some ⟨W.heap.size + 1, 0, none⟩) 1 1) (.slice (some ⟨W.heap.size + 1 + 1, 0, none⟩) 1 1) (.slice (some ⟨W.heap.size + 1 + 1 + 1 + 1, 0, none⟩) 2 2) (.slice (some ⟨W.heap.size + 1 + 1 + 1, 0, none⟩) 1 1) n).cs.toArray 33)).alloc (.cells #[.slice none 0 0, .slice none 0 0] 51)).alloc (.cells #[.int .u32 0] 28)).alloc (.cells #[.slice none 0 0, .slice none 0 0] 48)).alloc (.cells (([⟨⟨#[97]⟩, 0, 0⟩, ⟨⟨#[97]⟩, 0, n⟩] : List Exp).flatMap Exp.cs).toArray 61)) (W.heap.size + 1 + 1) 28 #[.int .u32 0] := by
  have h := (Lies.new ((W.alloc (.cells (modN (.slice (some ⟨W.heap.size + 1, 0, none⟩) 1 1) (.slice (some ⟨W.heap.size + 1 + 1, 0, none⟩) 1 1) (.slice (some ⟨W.heap.size + 1 + 1 + 1 + 1, 0, none⟩) 2 2) (.slice (some ⟨W.heap.size + 1 + 1 + 1, 0, none⟩) 1 1) n).cs.toArray 33)).alloc (.cells #[.slice none 0 0, .slice none 0 0] 51)) _ _ : Lies (((W.alloc (.cells (modN (.slice (some ⟨W.heap.size + 1, 0, none⟩) 1 1) (.slice (some ⟨W.heap.size + 1 + 1, 0, none⟩) 1 1) (.slice (some ⟨W.heap.size + 1 + 1 + 1 + 1, 0, none⟩) 2 2) (.slice (some ⟨W.heap.size + 1 + 1 + 1, 0, none⟩) 1 1) n).cs.toArray 33)).alloc (.cells #[.slice none 0 0, .slice none 0 0] 51)).alloc (.cells #[.int .u32 0] 28)) ((W.alloc (.cells (modN (.slice (some ⟨W.heap.size + 1, 0, none⟩) 1 1) (.slice (some ⟨W.heap.size + 1 + 1, 0, none⟩) 1 1) (.slice (some ⟨W.heap.size + 1 + 1 + 1 + 1, 0, none⟩) 2 2) (.slice (some ⟨W.heap.size + 1 + 1 + 1, 0, none⟩) 1 1) n).cs.toArray 33)).alloc (.cells #[.slice none 0 0, .slice none 0 0] 51)).heap.size 28 #[.int .u32 0])
  simp only [World.size_alloc] at h
  exact ((h.alloc _).alloc _)
 have h3 : Lies (((((W.alloc (.cells (modN (.slice (some ⟨W.heap.size + 1, 0, none⟩) 1 1) (.slice (some ⟨W.heap.size + 1 + 1, 0, none⟩) 1 1) (.slice (some ⟨W.heap.size + 1 + 1 + 1 + 1, 0, none⟩) 2 2) (.slice (some ⟨W.heap.size + 1 + 1 + 1, 0, none⟩) 1 1) n).cs.toArray 33)).alloc (.cells #[.slice none 0 0, .slice none 0 0] 51)).alloc (.cells #[.int .u32 0] 28)).alloc (.cells #[.slice none 0 0, .slice none 0 0] 48)).alloc (.cells (([⟨⟨#[97]⟩, 0, 0⟩, ⟨⟨#[97]⟩, 0, n⟩] : List Exp).flatMap Exp.cs).toArray 61)) (W.heap.size + 1 + 1 + 1) 48 #[.slice none 0 0, .slice none 0 0] := by
  have h := (Lies.new (((W.alloc (.cells (modN (.slice (some ⟨W.heap.size + 1, 0, none⟩) 1 1) (.slice (some ⟨W.heap.size + 1 + 1, 0, none⟩) 1 1) (.slice (some ⟨W.heap.size + 1 + 1 + 1 + 1, 0, none⟩) 2 2) (.slice (some ⟨W.heap.size + 1 + 1 + 1, 0, none⟩) 1 1) n).cs.toArray 33)).alloc (.cells #[.slice none 0 0, .slice none 0 0] 51)).alloc (.cells #[.int .u32 0] 28)) _ _ : Lies ((((W.alloc (.cells (modN (.slice (some ⟨W.heap.size + 1, 0, none⟩) 1 1) (.slice (some ⟨W.heap.size + 1 + 1, 0, none⟩) 1 1) (.slice (some ⟨W.heap.size + 1 + 1 + 1 + 1, 0, none⟩) 2 2) (.slice (some ⟨W.heap.size + 1 + 1 + 1, 0, none⟩) 1 1) n).cs.toArray 33)).alloc (.cells #[.slice none 0 0, .slice none 0 0] 51)).alloc (.cells #[.int .u32 0] 28)).alloc (.cells #[.slice none 0 0, .slice none 0 0] 48)) (((W.alloc (.cells (modN (.slice (some ⟨W.heap.size + 1, 0, none⟩) 1 1) (.slice (some ⟨W.heap.size + 1 + 1, 0, none⟩) 1 1) (.slice (some ⟨W.heap.size + 1 + 1 + 1 + 1, 0, none⟩) 2 2) (.slice (some ⟨W.heap.size + 1 + 1 + 1, 0, none⟩) 1 1) n).cs.toArray 33)).alloc (.cells #[.slice none 0 0, .slice none 0 0] 51)).alloc (.cells #[.int .u32 0] 28)).heap.size 48 #[.slice none 0 0, .slice none 0 0])
  simp only [World.size_alloc] at h
  exact (h.alloc _)
 have h4 : Lies (((((W.alloc (.cells (modN (.slice (some ⟨W.heap.size + 1, 0, none⟩) 1 1) (.slice (some ⟨W.heap.size + 1 + 1, 0, none⟩) 1 1) (.slice (some ⟨W.heap.size + 1 + 1 + 1 + 1, 0, none⟩) 2 2) (.slice (some ⟨W.heap.size + 1 + 1 + 1, 0, none⟩) 1 1) n).cs.toArray 33)).alloc (.cells #[.slice none 0 0, .slice none 0 0] 51)).alloc (.cells #[.int .u32 0] 28)).alloc (.cells #[.slice none 0 0, .slice none 0 0] 48)).alloc (.cells (([⟨⟨#[97]⟩, 0, 0⟩, ⟨⟨#[97]⟩, 0, n⟩] : List Exp).flatMap Exp.cs).toArray 61)) (W.heap.size + 1 + 1 + 1 + 1) 61 (([⟨⟨#[97]⟩, 0, 0⟩, ⟨⟨#[97]⟩, 0, n⟩] : List Exp).flatMap Exp.cs).toArray := by
  have h := (Lies.new ((((W.alloc (.cells (modN (.slice (some ⟨W.heap.size + 1, 0, none⟩) 1 1) (.slice (some ⟨W.heap.size + 1 + 1, 0, none⟩) 1 1) (.slice (some ⟨W.heap.size + 1 + 1 + 1 + 1, 0, none⟩) 2 2) (.slice (some ⟨W.heap.size + 1 + 1 + 1, 0, none⟩) 1 1) n).cs.toArray 33)).alloc (.cells #[.slice none 0 0, .slice none 0 0] 51)).alloc (.cells #[.int .u32 0] 28)).alloc (.cells #[.slice none 0 0, .slice none 0 0] 48)) _ _ : Lies (((((W.alloc (.cells (modN (.slice (some ⟨W.heap.size + 1, 0, none⟩) 1 1) (.slice (some ⟨W.heap.size + 1 + 1, 0, none⟩) 1 1) (.slice (some ⟨W.heap.size + 1 + 1 + 1 + 1, 0, none⟩) 2 2) (.slice (some ⟨W.heap.size + 1 + 1 + 1, 0, none⟩) 1 1) n).cs.toArray 33)).alloc (.cells #[.slice none 0 0, .slice none 0 0] 51)).alloc (.cells #[.int .u32 0] 28)).alloc (.cells #[.slice none 0 0, .slice none 0 0] 48)).alloc (.cells (([⟨⟨#[97]⟩, 0, 0⟩, ⟨⟨#[97]⟩, 0, n⟩] : List Exp).flatMap Exp.cs).toArray 61)) ((((W.alloc (.cells (modN (.slice (some ⟨W.heap.size + 1, 0, none⟩) 1 1) (.slice (some ⟨W.heap.size + 1 + 1, 0, none⟩) 1 1) (.slice (some ⟨W.heap.size + 1 + 1 + 1 + 1, 0, none⟩) 2 2) (.slice (some ⟨W.heap.size + 1 + 1 + 1, 0, none⟩) 1 1) n).cs.toArray 33)).alloc (.cells #[.slice none 0 0, .slice none 0 0] 51)).alloc (.cells #[.int .u32 0] 28)).alloc (.cells #[.slice none 0 0, .slice none 0 0] 48)).heap.size 61 (([⟨⟨#[97]⟩, 0, 0⟩, ⟨⟨#[97]⟩, 0, n⟩] : List Exp).flatMap Exp.cs).toArray)
  simp only [World.size_alloc] at h
  exact h
 have hb : Below W.heap.size W (((((W.alloc (.cells (modN (.slice (some ⟨W.heap.size + 1, 0, none⟩) 1 1) (.slice (some ⟨W.heap.size + 1 + 1, 0, none⟩) 1 1) (.slice (some ⟨W.heap.size + 1 + 1 + 1 + 1, 0, none⟩) 2 2) (.slice (some ⟨W.heap.size + 1 + 1 + 1, 0, none⟩) 1 1) n).cs.toArray 33)).alloc (.cells #[.slice none 0 0, .slice none 0 0] 51)).alloc (.cells #[.int .u32 0] 28)).alloc (.cells #[.slice none 0 0, .slice none 0 0] 48)).alloc (.cells (([⟨⟨#[97]⟩, 0, 0⟩, ⟨⟨#[97]⟩, 0, n⟩] : List Exp).flatMap Exp.cs).toArray 61)) := (((((Below.refl _ _).alloc (Nat.le_refl _) _).alloc (by simp) _).alloc (by simp; omega) _).alloc (by simp; omega) _).alloc (by simp; omega) _
 (try simp only [Exit.inBlock, Exit.then])
 refine bodyPost_ret_by (results_c rfl _ _ W.heap.size (modN (.slice (some ⟨W.heap.size + 1, 0, none⟩) 1 1) (.slice (some ⟨W.heap.size + 1 + 1, 0, none⟩) 1 1) (.slice (some ⟨W.heap.size + 1 + 1 + 1 + 1, 0, none⟩) 2 2) (.slice (some ⟨W.heap.size + 1 + 1 + 1, 0, none⟩) 1 1) n).cs _ rfl h0 Tryz.underlying33 rfl sizeMod) rfl ⟨⟨_, _, _, _, rfl, ?_⟩, hb⟩
 refine ⟨⟨sl_one (x := (⟨.slice none 0 0, [], .slice none 0 0, []⟩ : Ft)) (en := Ft.cs) h1, fun y hy => ?_, (by show (1 : Nat) ≤ 1048576; decide)⟩, nil_ok, ⟨sl_one (x := (0 : Nat)) (en := u32c) h2, fun y hy => ?_, (by show (1 : Nat) ≤ 1048576; decide)⟩, nil_ok, nil_ok, nil_ok, ⟨sl_many (L := [⟨⟨#[97]⟩, 0, 0⟩, ⟨⟨#[97]⟩, 0, n⟩]) Exp.len h4, fun y hy => ?_, (by show (2 : Nat) ≤ 1048576; decide)⟩, (by show (0 : Nat) < 4294967296; decide), nil_ok, ⟨sl_one (x := (⟨.slice none 0 0, [], .slice none 0 0, []⟩ : Cod)) (en := Cod.cs) h3, fun y hy => ?_, (by show (1 : Nat) ≤ 1048576; decide)⟩, nil_ok⟩
 ·obtain rfl := List.mem_singleton.1 hy
  exact ⟨nil_ok, nil_ok⟩
 ·obtain rfl := List.mem_singleton.1 hy
  show (0 : Nat) < 4294967296
  decide
 ·rcases List.mem_cons.1 hy with rfl | hy
  ·exact ⟨by show (0 : Nat) < 4294967296; decide, by show (1 : Nat) ≤ 1048576; decide⟩
  ·obtain rfl := List.mem_singleton.1 hy
   exact ⟨hn, by show (1 : Nat) ≤ 1048576; decide⟩
 ·obtain rfl := List.mem_singleton.1 hy
  exact ⟨nil_ok, nil_ok⟩
theorem lim2_ok {w : World} {y : Lim} (hy : y ∈ ([⟨0, -1⟩, ⟨0, -1⟩] : List Lim)) : LimOk w y := by
 rcases List.mem_cons.1 hy with rfl | hy
 ·show (0 : Nat) < 4294967296
  decide
 ·obtain rfl := List.mem_singleton.1 hy
  show (0 : Nat) < 4294967296
  decide
theorem calls_world {P : Program} {f : FuncId} {args : Array Value} {w w' : World} {R : Ending → World → Prop} (e : w = w') (h : Calls P f args w' R) : Calls P f args w R := e ▸ h
set_option maxRecDepth 100000 in
set_option maxHeartbeats 8000000 in
theorem known_any {W : World} : Calls Tryz.prog 8 #[] W fun e w' => e = .returned (.bool true) ∧ Below W.heap.size W w' := by
 go_enter Tryz.func8, Tryz.ntmps8
 go_wp2_with fail
 obtain ⟨w1, hw1⟩ : ∃ w1, w1 = W.alloc (.cells #[.int .u32 0, .int .i64 (-1)] 84) := ⟨_, rfl⟩
 have HB1 := Lib.hid (show Below W.heap.size W w1 from hw1 ▸ (Below.refl _ _).alloc (Nat.le_refl _) _)
 have HL1 := Lib.hid (show Lies w1 W.heap.size 84 (Lim.cs (⟨0, -1⟩ : Lim)).toArray from hw1 ▸ Lies.new _ _ _)
 rw [← hw1]
 clear hw1
 obtain ⟨Bl, hBl⟩ : ∃ Bl, Bl = W.heap.size := ⟨_, rfl⟩
 rw [← hBl] at HL1 ⊢
 clear hBl
 refine (is_any (m := modM (.slice none 0 0) [] (.slice none 0 0) []) (modM_ok nil_ok nil_ok) vk0).mono ?_
 rintro en w2 ⟨rfl, hb2⟩
 have HB2 := Lib.hid (bt HB1.out hb2)
 have HL2 := Lib.hid (HL1.out.below hb2 HL1.out.lt)
 clear hb2
 go_wp2_with (refine wl_loadw (lies_range HL2.out) _ (by first | rfl | (simp [Region.wanted, yielded, *]; done)) rfl rfl Tryz.underlying84 rfl sizeLim ?_; (try simp only [Act.put, sA, sB, sC]))
 have hl3 : Lies (w2.alloc (.cells (([(⟨0, -1⟩ : Lim), (⟨0, -1⟩ : Lim)] : List Lim).flatMap Lim.cs).toArray 84)) w2.heap.size 84 (([(⟨0, -1⟩ : Lim), (⟨0, -1⟩ : Lim)] : List Lim).flatMap Lim.cs).toArray := Lies.new _ _ _
 refine (is_any (m := modM (.slice (some ⟨w2.heap.size, 0, none⟩) 2 2) [(⟨0, -1⟩ : Lim), (⟨0, -1⟩ : Lim)] (.slice none 0 0) []) (modM_ok ⟨sl_many (L := [(⟨0, -1⟩ : Lim), (⟨0, -1⟩ : Lim)]) Lim.len hl3, fun y hy => lim2_ok hy, (by show (2 : Nat) ≤ 1048576; decide)⟩ nil_ok) (vk1 _)).mono ?_
 rintro en w3 ⟨rfl, hb3⟩
 have HB3 := Lib.hid (bt HB2.out (((Below.refl w2.heap.size w2).alloc (Nat.le_refl _) _).trans (hb3.mono (by simp))))
 clear hb3 hl3
 go_wp2_with fail
 have hl4 : Lies (w3.alloc (.cells (([⟨2, 1⟩] : List Lim).flatMap Lim.cs).toArray 84)) w3.heap.size 84 (([⟨2, 1⟩] : List Lim).flatMap Lim.cs).toArray := Lies.new _ _ _
 refine (is_any (m := modM (.slice (some ⟨w3.heap.size, 0, none⟩) 1 1) [⟨2, 1⟩] (.slice none 0 0) []) (modM_ok ⟨sl_many (L := [⟨2, 1⟩]) Lim.len hl4, fun y hy => (by obtain rfl := List.mem_singleton.1 hy; show (2 : Nat) < 4294967296; decide), (by show (1 : Nat) ≤ 1048576; decide)⟩ nil_ok) (vk2 _)).mono ?_
 rintro en w4 ⟨rfl, hb4⟩
 have HB4 := Lib.hid (bt HB3.out (((Below.refl w3.heap.size w3).alloc (Nat.le_refl _) _).trans (hb4.mono (by simp))))
 clear hb4 hl4
 go_wp2_with fail
 obtain ⟨u4, hu4⟩ : ∃ u, u = w4.alloc (.cells (([(⟨66, 0, 0, 0, .slice none 0 0, []⟩ : Ins)] : List Ins).flatMap Ins.cs).toArray 57) := ⟨_, rfl⟩
 have hbu : Below w4.heap.size w4 u4 := hu4 ▸ (Below.refl _ _).alloc (Nat.le_refl _) _
 have HLU := Lib.hid (show Lies u4 w4.heap.size 57 (([(⟨66, 0, 0, 0, .slice none 0 0, []⟩ : Ins)] : List Ins).flatMap Ins.cs).toArray from hu4 ▸ Lies.new _ _ _)
 have HBU := Lib.hid (bt HB4.out hbu)
 refine calls_world hu4.symm ?_
 clear hu4 hbu
 obtain ⟨Bu, hBu⟩ : ∃ Bu, Bu = w4.heap.size := ⟨_, rfl⟩
 rw [← hBu] at HLU ⊢
 clear hBu
 refine (begins_any (v := .slice (some ⟨Bu, 0, none⟩) 1 1) (L := [(⟨66, 0, 0, 0, .slice none 0 0, []⟩ : Ins)]) (sl_many (L := [(⟨66, 0, 0, 0, .slice none 0 0, []⟩ : Ins)]) Ins.len HLU.out) (fun y hy => (by obtain rfl := List.mem_singleton.1 hy; exact ⟨(by show (0 : Nat) < _; decide), (by show (0 : Nat) < _; decide), (by constructor <;> decide), nil_ok⟩)) (by show (1 : Nat) ≤ 10; decide)).mono ?_
 rintro en w5 ⟨⟨gv, rfl, hok⟩, hb5⟩
 have HB5 := Lib.hid (bt HBU.out hb5)
 have HOK := Lib.hid hok
 clear hok hb5
 go_wp2_with fail
 refine (is_any HOK.out (vk3 _ _)).mono ?_
 rintro en w6 ⟨rfl, hb6⟩
 have HB6 := Lib.hid (bt HB5.out hb6)
 clear hb6
 go_wp2_with fail
 obtain ⟨u6, hu6⟩ : ∃ u, u = w6.alloc (.cells (([(⟨35, 0, 0, 0, .slice none 0 0, []⟩ : Ins)] : List Ins).flatMap Ins.cs).toArray 57) := ⟨_, rfl⟩
 have hbu : Below w6.heap.size w6 u6 := hu6 ▸ (Below.refl _ _).alloc (Nat.le_refl _) _
 have HLU := Lib.hid (show Lies u6 w6.heap.size 57 (([(⟨35, 0, 0, 0, .slice none 0 0, []⟩ : Ins)] : List Ins).flatMap Ins.cs).toArray from hu6 ▸ Lies.new _ _ _)
 have HBU := Lib.hid (bt HB6.out hbu)
 refine calls_world hu6.symm ?_
 clear hu6 hbu
 obtain ⟨Bu, hBu⟩ : ∃ Bu, Bu = w6.heap.size := ⟨_, rfl⟩
 rw [← hBu] at HLU ⊢
 clear hBu
 refine (begins_any (v := .slice (some ⟨Bu, 0, none⟩) 1 1) (L := [(⟨35, 0, 0, 0, .slice none 0 0, []⟩ : Ins)]) (sl_many (L := [(⟨35, 0, 0, 0, .slice none 0 0, []⟩ : Ins)]) Ins.len HLU.out) (fun y hy => (by obtain rfl := List.mem_singleton.1 hy; exact ⟨(by show (0 : Nat) < _; decide), (by show (0 : Nat) < _; decide), (by constructor <;> decide), nil_ok⟩)) (by show (1 : Nat) ≤ 10; decide)).mono ?_
 rintro en w7 ⟨⟨gv, rfl, hok⟩, hb7⟩
 have HB7 := Lib.hid (bt HBU.out hb7)
 have HOK := Lib.hid hok
 clear hok hb7
 go_wp2_with fail
 refine (is_any HOK.out (vk4 _ _)).mono ?_
 rintro en w8 ⟨rfl, hb8⟩
 have HB8 := Lib.hid (bt HB7.out hb8)
 clear hb8
 go_wp2_with fail
 refine (names_any (n := 0) (by decide)).mono ?_
 rintro en w9 ⟨⟨tv, fv, ev, cv, rfl, hok⟩, hb9⟩
 have HB9 := Lib.hid (bt HB8.out hb9)
 have HOK := Lib.hid hok
 clear hok hb9
 go_wp2_with fail
 refine (is_any HOK.out (vk5 _ _ _ _)).mono ?_
 rintro en w10 ⟨rfl, hb10⟩
 have HB10 := Lib.hid (bt HB9.out hb10)
 clear hb10
 go_wp2_with fail
 refine (names_any (n := 1) (by decide)).mono ?_
 rintro en w11 ⟨⟨tv, fv, ev, cv, rfl, hok⟩, hb11⟩
 have HB11 := Lib.hid (bt HB10.out hb11)
 have HOK := Lib.hid hok
 clear hok hb11
 go_wp2_with fail
 refine (is_any HOK.out (vk6 _ _ _ _)).mono ?_
 rintro en w12 ⟨rfl, hb12⟩
 have HB12 := Lib.hid (bt HB11.out hb12)
 clear hb12
 go_wp2_with fail
 go_ret
 exact ⟨rfl, HB12.out⟩
end Go.Proofs.YtmgjcaikldeioaaGreat.Va
/- What a module is that valid.Check finds fine, plain. -/
namespace Go.Proofs.YtmgjcaikldeioaaGreat.Va
open Gr Ty

/-- A body that is gone through: each instruction made its step. -/
theorem run_each {cx : Cx} : ∀ {l : List Ins} {s s' : St}, run cx s l = .ok s' → ∀ x ∈ l, ∃ s1 s2, Ty.step cx s1 x = .ok s2
 | [], _, _, _, x, hx => by cases hx
 | y :: l, s, s', h, x, hx => by
  rw [run] at h
  cases hs : Ty.step cx s y with
  | error e => rw [hs] at h; cases h
  | ok s2 =>
   rw [hs] at h
   rcases List.mem_cons.1 hx with rfl | hx
   ·exact ⟨s, s2, hs⟩
   ·exact run_each h x hx
theorem chk_each {cx : Cx} (h : (chk cx).2 = 0) : ∀ x ∈ cx.c.body, ∃ s1 s2, Ty.step cx s1 x = .ok s2 := by
 unfold chk at h
 split at h
 ·cases h
 ·split at h
  ·cases h
  ·cases hr : run cx ⟨stk0 cx.fn.r, []⟩ cx.c.body with
   | error e =>
    rw [hr] at h
    have he : e = 0 := h
    subst he
    exact absurd hr (run_err _ _ _)
   | ok s => exact run_each hr
section
variable {m : Mod}
theorem there0 {i : Nat} (h : (ftype m i).isSome = true) : thereB m 0 i = true := by
 unfold ftype at h
 cases hf : (ftyps m)[i]? with
 | none => rw [hf] at h; cases h
 | some t =>
  have := (List.getElem?_eq_some_iff.1 hf).1
  have hc : cnt m = (ftyps m).length := by rw [cnt, ftyps, List.length_append, List.length_map]
  unfold thereB cntK
  rw [if_pos rfl, decide_eq_true_eq, hc]
  exact this
theorem len_of {α : Type} {l : List α} {i : Nat} (h : (l[i]?).isSome = true) : i < l.length := by
 cases hf : l[i]? with
 | none => rw [hf] at h; cases h
 | some t => exact (List.getElem?_eq_some_iff.1 hf).1
/-- What each instruction of a body that is well typed speaks of is there. -/
structure InsFine (m : Mod) (x : Ins) : Prop where
 call : x.op = 16 → thereB m 0 x.a = true
 ind : x.op = 17 → (m.types[x.a]?).isSome = true ∧ thereB m 1 0 = true
 glob : x.op = 35 ∨ x.op = 36 → thereB m 3 x.a = true
 mem : x.op = 63 ∨ x.op = 64 → thereB m 2 0 = true
theorem ins_fine {f : Ft} {c : Cod} {x : Ins} {s1 s2 : St} (h : Ty.step ⟨spX m, f, c⟩ s1 x = .ok s2) : InsFine m x := by
 refine ⟨fun e => ?_, fun e => ?_, fun e => ?_, fun e => ?_⟩
 ·have hs : Ty.step ⟨spX m, f, c⟩ s1 x = stepCall ⟨spX m, f, c⟩ s1 x := by unfold Ty.step; simp [e]
  rw [hs] at h
  unfold stepCall at h
  refine there0 ?_
  cases hf : ftype m x.a with
  | none => rw [show (spX m).func x.a = none from hf] at h; cases h
  | some t => rfl
 ·have hs : Ty.step ⟨spX m, f, c⟩ s1 x = stepInd ⟨spX m, f, c⟩ s1 x := by unfold Ty.step; simp [e]
  rw [hs] at h
  unfold stepInd at h
  cases hf : m.types[x.a]? with
  | none => rw [show (spX m).type x.a = none from hf] at h; cases h
  | some t =>
   rw [show (spX m).type x.a = some t from hf] at h
   simp only at h
   refine ⟨rfl, ?_⟩
   split at h
   ·rename_i hb
    have := len_of (show ((bsOf m)[0]?).isSome = true from hb)
    unfold thereB cntK
    rw [if_neg (by decide), if_pos rfl, decide_eq_true_eq]
    exact this
   ·cases h
 ·have hs : Ty.step ⟨spX m, f, c⟩ s1 x = stepGlobal ⟨spX m, f, c⟩ s1 x := by unfold Ty.step; rcases e with e | e <;> simp [e]
  rw [hs] at h
  unfold stepGlobal at h
  cases hf : (gsOf m)[x.a]? with
  | none => rw [show (spX m).glob x.a = none from hf] at h; cases h
  | some t =>
   have := (List.getElem?_eq_some_iff.1 hf).1
   unfold thereB cntK
   rw [if_neg (by decide), if_neg (by decide), if_neg (by decide), if_pos rfl, decide_eq_true_eq]
   exact this
 ·have hs : Ty.step ⟨spX m, f, c⟩ s1 x = stepPlain ⟨spX m, f, c⟩ s1 x := by unfold Ty.step; rcases e with e | e <;> simp [e]
  rw [hs] at h
  unfold stepPlain at h
  have hfo : formN x.op = 7 := by rcases e with e | e <;> rw [e] <;> decide
  split at h
  ·cases h
  ·rename_i hb
   have hm : (spX m).mem = true := by
    cases hm : (spX m).mem with
    | true => rfl
    | false => exact absurd ⟨.inr hfo, hm⟩ hb
   have := len_of (show ((msOf m)[0]?).isSome = true from hm)
   unfold thereB cntK
   rw [if_neg (by decide), if_neg (by decide), if_pos rfl, decide_eq_true_eq]
   exact this
theorem codE_ok : ∀ {l : List Cod} {H : List Nat} {e : Nat}, (codE m l H e).2 = 0 → (codE m l H e).1.length = H.length + l.length ∧ (∀ (i h : Nat), H[i]? = some h → (codE m l H e).1[i]? = some h) ∧ ∀ (i : Nat) (c : Cod), l[i]? = some c → ∃ h, codC m (H.length + i) c = (h, 0) ∧ (codE m l H e).1[H.length + i]? = some h
 | [], H, e, _ => ⟨rfl, fun _ _ h => h, fun i c h => by cases h⟩
 | y :: r, H, e, h => by
  obtain rfl := codE_back h
  rw [codE, if_pos rfl] at h ⊢
  have hk : (codC m H.length y).2 = 0 := by
   have h1 := codE_back h
   by_cases hk : (codC m H.length y).2 = 0
   ·exact hk
   ·rw [show ((codC m H.length y).2 == 0) = false from by simpa using hk] at h1
    exact h1
  obtain ⟨h1, h2, h3⟩ := codE_ok h
  refine ⟨by rw [h1]; simp only [List.length_append, List.length_cons, List.length_nil]; omega, fun i x hx => ?_, fun i c hc => ?_⟩
  ·refine h2 i x ?_
   rw [List.getElem?_append_left (List.getElem?_eq_some_iff.1 hx).1]
   exact hx
  ·cases i with
   | zero =>
    obtain rfl : y = c := by simpa using hc
    refine ⟨_, Prod.ext rfl hk, ?_⟩
    refine h2 _ _ ?_
    simp
   | succ i =>
    obtain ⟨q, hq1, hq2⟩ := h3 i c (by simpa using hc)
    rw [List.length_append, List.length_singleton] at hq1 hq2
    exact ⟨q, by rw [show H.length + (i + 1) = H.length + 1 + i by omega]; exact hq1, by rw [show H.length + (i + 1) = H.length + 1 + i by omega]; exact hq2⟩
theorem expE_there : ∀ {l : List Exp} {ns : List (List UInt8)} {e : Nat}, expE m l ns e = 0 → ∀ x ∈ l, thereB m x.kind x.ix = true
 | [], _, _, _, x, hx => by cases hx
 | y :: r, ns, e, h, x, hx => by
  obtain rfl := expE_back h
  rw [expE, if_pos rfl] at h
  rcases List.mem_cons.1 hx with rfl | hx
  ·exact ((mst_zero (by decide)).1 (mst_back (by decide) (expE_back h))).2
  ·exact expE_there h x hx
theorem elmE_back {x : Elm} {e : Nat} (h : elmE m x e = 0) : e = 0 := mst_back (by decide) (constE_back (eachE_back h))
theorem datE_back {x : Dat} {e : Nat} (h : datE m x e = 0) : e = 0 := mst_back (by decide) (constE_back h)
/-- A valid module. -/
structure Sound (m : Mod) (H : List Nat) : Prop where
 len : H.length = m.codes.length
 tab : (bsOf m).length ≤ 1
 mem : (msOf m).length ≤ 1
 res : ∀ t ∈ m.types, t.r.length ≤ 1
 cod : ∀ (i : Nat) (c : Cod), m.codes[i]? = some c → (ftype m ((fk m 0).length + i)).isSome = true ∧ (∃ h, codC m i c = (h, 0) ∧ H[i]? = some h) ∧ ∀ x ∈ c.body, InsFine m x
 elm : ∀ x ∈ m.elems, ∀ f ∈ x.fs, thereB m 0 f = true ∧ thereB m 1 x.tb = true
 exp : ∀ x ∈ m.exps, thereB m x.kind x.ix = true
 start : m.hs = true → thereB m 0 m.st = true
theorem vchk_zero (h : (vchk m).2 = 0) : eachE (datE m) m.datas (codE m m.codes [] (fore m)).2 = 0 ∧ (vchk m).1 = (codE m m.codes [] (fore m)).1 := by
 unfold vchk at *
 simp only at *
 split at h
 ·rename_i h1
  exact ⟨h1, by rw [if_pos h1]⟩
 ·rename_i h1
  exact absurd h h1
theorem sound_of (h : (vchk m).2 = 0) : Sound m (vchk m).1 := by
 obtain ⟨h1, h2⟩ := vchk_zero h
 have h3 : (codE m m.codes [] (fore m)).2 = 0 := eachE_back h1
 have h4 : fore m = 0 := codE_back h3
 have h5 := start_back (eachE_back h4)
 have h6 := expE_back h5
 have h7 := eachE_back h6
 have h8 := storesE_back h7
 have h9 := eachE_back h8
 have h10 := eachE_back h9
 obtain ⟨k1, _, k3⟩ := codE_ok h3
 have hl : m.codes.length = m.funcs.length := by
  have := ((mst_zero (by decide)).1 (eachE_back (eachE_back (eachE_back h10)))).2
  simpa using this
 have hst := ((mst_zero (by decide)).1 (limO_back (limO_back h7))).2
 rw [Bool.and_eq_true, decide_eq_true_eq, decide_eq_true_eq] at hst
 have hel := ((eachE_zero (f := elmE m) (fun x e => elmE_back)).1 h4).2
 refine ⟨by rw [h2, k1]; simp, hst.1, by omega, fore_types h4, fun i c hc => ?_, fun x hx f hf => ?_, expE_there h5, fun hs => ?_⟩
 ·have hi := (List.getElem?_eq_some_iff.1 hc).1
  obtain ⟨q, hq1, hq2⟩ := k3 i c hc
  simp only [List.length_nil, Nat.zero_add] at hq1 hq2
  refine ⟨?_, ⟨q, hq1, by rw [h2]; exact hq2⟩, fun x hx => ?_⟩
  ·obtain ⟨t, ht⟩ : ∃ t, m.funcs[i]? = some t := ⟨_, List.getElem?_eq_getElem (by omega)⟩
   have hty := ((mst_zero (by decide)).1 (((eachE_zero (f := fun t e => mst e (m.types[t]?).isSome 80) (fun x e => mst_back (by decide))).1 h8).2 t (List.mem_of_getElem? ht))).2
   unfold ftype
   have hf : (ftyps m)[(fk m 0).length + i]? = some t := by
    rw [ftyps, List.getElem?_append_right (by rw [List.length_map]; exact Nat.le_add_right _ _), List.length_map]
    rw [show (fk m 0).length + i - (fimps m).length = i from by rw [show (fimps m).length = (fk m 0).length from rfl]; omega]
    exact ht
   rw [hf]
   exact hty
  ·have hq : (chk ⟨spX m, fnA m ((fk m 0).length + i), c⟩).2 = 0 := by
    have := congrArg Prod.snd hq1
    exact this
   obtain ⟨s1, s2, hs⟩ := chk_each hq x hx
   exact ins_fine hs
 ·have h11 := hel x hx
  have h12 := ((eachE_zero (f := fun f e => mst e (thereB m 0 f) 80) (fun x e => mst_back (by decide))).1 h11)
  exact ⟨((mst_zero (by decide)).1 (h12.2 f hf)).2, ((mst_zero (by decide)).1 (constE_back h12.1)).2⟩
 ·have h11 := eachE_back h4
  rw [if_pos hs] at h11
  have h12 := ((mst_zero (by decide)).1 h11).2
  refine there0 ?_
  unfold startB at h12
  cases hf : ftype m m.st with
  | none => rw [hf] at h12; cases h12
  | some t => rfl
end
end Go.Proofs.YtmgjcaikldeioaaGreat.Va
