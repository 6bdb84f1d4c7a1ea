/- The chapter's rows: gabellelaw38.known. -/
import Derived.Test.YtkdckcjnjljdmaaCYe
namespace Go.Proofs.Ytkdckcjnjljdmaa.Po
open Go Go.RowKit Go.Lib Kt Fm Ad Kv

theorem tx_ok (w : World) : TxOk w ta ∧ TxOk w tb ∧ TxOk w tc ∧ TxOk w td := ⟨tx1_txok w 1 (by decide) (by decide), tx1_txok w 1 (by decide) (by decide), tx1_txok w 2 (by decide) (by decide), tx1_txok w 1 (by decide) (by decide)⟩
theorem one_of {l : List Tx} {x : Tx} (h : l.map Tx.nv = [x]) : ∃ y, l = [y] ∧ y.nv = x := by
  cases l with
  | nil => cases h
  | cons y r =>
    rw [List.map_cons, List.cons.injEq] at h
    obtain ⟨h1, h2⟩ := h
    rw [List.map_eq_nil_iff.1 h2]
    exact ⟨y, rfl, h1⟩
theorem three_of {l : List Tx} {x y z : Tx} (h : l.map Tx.nv = [x, y, z]) : ∃ a b c, l = [a, b, c] ∧ a.nv = x ∧ b.nv = y ∧ c.nv = z := by
  cases l with
  | nil => cases h
  | cons a r =>
    cases r with
    | nil => cases h
    | cons b r =>
      rw [List.map_cons, List.map_cons, List.cons.injEq, List.cons.injEq] at h
      obtain ⟨h1, h2, h3⟩ := h
      obtain ⟨c, rfl, h4⟩ := one_of h3
      exact ⟨a, b, c, rfl, h1, h2, h4⟩
theorem coming_ok (w : World) : ∀ x ∈ coming, TxOk w x ∧ x.nv = x := fun x hx => by
  obtain ⟨h1, h2, h3, h4⟩ := tx_ok w
  simp only [coming, List.mem_cons, List.not_mem_nil, or_false] at hx
  rcases hx with rfl | rfl | rfl
  · exact ⟨h2, rfl⟩
  · exact ⟨h1, rfl⟩
  · exact ⟨h3, rfl⟩
theorem frm_cells (t : Tx) : ∀ j u, t.frm.cs[j]? = some u → t.cs[1 + j]? = some u := fun j u hj => by
  match j, hj with
  | 0, hj => exact hj
  | 1, hj => exact hj
  | 2, hj => exact hj
  | 3, hj => exact hj
  | 4, hj => exact hj
  | 5, hj => exact hj
  | 6, hj => exact hj
  | 7, hj => exact hj
  | j + 8, hj => cases hj
theorem eq_adr2 (w : World) : (Op.equalIn 10000 23 (.agg (adr 2).cs.toArray) (.agg #[.int .u8 2, .int .u8 0, .int .u8 0, .int .u8 0, .int .u8 0, .int .u8 0, .int .u8 0, .int .u8 0])).run Try.prog w = .ok true w := by kernel_rfl
theorem stage_len (k : Nat) : (stage k).length ≤ 3 := by
  match k with
  | 0 => simp [stage]
  | 1 => simp [stage]
  | 2 => simp [stage]
  | k + 3 => simp [stage]
theorem len_nv {l L : List Tx} (h : l.map Tx.nv = L) : l.length = L.length := by rw [← h, List.length_map]
set_option maxRecDepth 100000 in
set_option maxHeartbeats 16000000 in
theorem known_any (W : World) : Calls Try.prog 5 #[] W fun e w' => e = .returned (.bool true) ∧ Below W.heap.size W w' := by
  go_enter Try.func5, Try.ntmps5
  go_wp2_with (refine wl_val (v := .agg (Wd.Gen.cs ⟨0, 0, 0, 0, 0, 0, 0, 0⟩ none 0 0).toArray) rfl (wb_op (ty := 26) (args := #[]) rfl (by kernel_rfl)) ?_; (try simp only [Act.put, List.setIfInBounds_toArray, List.set_cons_zero, List.set_cons_succ]))
  refine (Wd.wnew_any (W := W) (c := ⟨0, 0, 0, 0, 0, 0, 0, 0⟩) (s := none) (cap := 0) (l := []) ⟨_, _, rfl, fun h => absurd rfl h⟩ (fun x hx => by cases hx) (by simp)).mono ?_
  rintro en w1 hnew
  obtain ⟨wp, rfl, HN, HB1⟩ : ∃ wp, en = .returned (.tuple #[.pointer (some ⟨wp, 0, none⟩), .int .i64 0]) ∧ RowKit.Hid (Nonces w1 (.pointer (some ⟨wp, 0, none⟩)) nx0) ∧ RowKit.Hid (Below W.heap.size W w1) := by
    rcases hnew with ⟨h, _⟩ | ⟨_, wp, bl, bm, bk, bb, rfl, hw, _, _, _, hb⟩
    · exact absurd rfl h
    · exact ⟨wp, rfl, Lib.hid hw.nonces, Lib.hid hb⟩
  clear hnew
  go_wp2_with fail
  refine (new_any 9 w1).mono ?_
  rintro en w2 ⟨bp, rfl, hp, hbp, hb2⟩
  have HP2 := Lib.hid (show PS w1 bp 9 w2 (.slice none 0 0) [] from ⟨hb2, hp, hbp⟩)
  clear hp hbp hb2
  go_wp2_with fail
  refine (tx1_any 1 0 2 w2).mono ?_
  rintro en w3 ⟨rfl, hb3⟩
  have HP3 := Lib.hid (HP2.out.later hb3)
  clear hb3 HP2
  rw [show tx1 1 0 2 = td from rfl]
  go_wp2_with fail
  refine (tx1_any 1 0 1 w3).mono ?_
  rintro en w4 ⟨rfl, hb4⟩
  have HP4 := Lib.hid (HP3.out.later hb4)
  clear hb4 HP3
  rw [show tx1 1 0 1 = ta from rfl]
  go_wp2_with fail
  have hbt := better_any (W := w4) (x := td) (y := ta) (tx_ok w4).2.2.2 (tx_ok w4).1 rfl rfl
  rw [decide_eq_true rank_td] at hbt
  refine hbt.mono ?_
  clear hbt
  rintro en w5 ⟨rfl, hb5⟩
  have HP5 := Lib.hid (HP4.out.later hb5)
  clear hb5 HP4
  go_wp2_with fail
  refine (tx1_any 1 1 9 w5).mono ?_
  rintro en w6 ⟨rfl, hb6⟩
  have HP6 := Lib.hid (HP5.out.later hb6)
  clear hb6 HP5
  rw [show tx1 1 1 9 = tb from rfl]
  go_wp2_with fail
  refine (tx1_any 1 0 1 w6).mono ?_
  rintro en w7 ⟨rfl, hb7⟩
  have HP7 := Lib.hid (HP6.out.later hb7)
  clear hb7 HP6
  rw [show tx1 1 0 1 = ta from rfl]
  go_wp2_with fail
  refine (tx1_any 2 0 5 w7).mono ?_
  rintro en w8 ⟨rfl, hb8⟩
  have HP8 := Lib.hid (HP7.out.later hb8)
  clear hb8 HP7
  rw [show tx1 2 0 5 = tc from rfl]
  go_wp2_with (refine wl_bsN (e := 32) (d := 39) rfl rfl (coming.flatMap Tx.cs) rfl (fun w => by kernel_rfl) (fun w9 hb9 hl9 => ?_); have HP9 := Lib.hid (HP8.out.later hb9); have HC9 := Lib.hid hl9; obtain ⟨G, hG⟩ : ∃ G, G = w8.heap.size := ⟨_, rfl⟩; rw [← hG] at HC9 ⊢; clear hb9 hl9 hG HP8; (try simp only [Act.put, List.setIfInBounds_toArray, List.set_cons_zero, List.set_cons_succ]))
  go_loopw [41] (fun iv wr => ∃ (k : Nat) (v : Value) (l : List Tx), k ≤ 3 ∧ iv = .int .i64 k ∧ PS w1 bp 9 wr v l ∧ l.map Tx.nv = stage k ∧ Lies wr G 32 (coming.flatMap Tx.cs).toArray) (fun iv _ => 3 - (RowKit.intOf iv).toNat)
  case atStart => exact ⟨0, _, [], by decide, rfl, HP9.out, rfl, HC9.out⟩
  case round =>
    clear HP9 HC9
    obtain ⟨k, v, l, hk, rfl, hps, hst, hcm⟩ := hrel
    have HPS := Lib.hid hps
    have HST := Lib.hid hst
    have HCM := Lib.hid hcm
    clear hps hst hcm
    obtain ⟨wa, hwa⟩ : ∃ wa, wa = wr := ⟨_, rfl⟩
    rw [← hwa] at HPS HCM ⊢
    clear hwa
    by_cases hlt : k < 3
    · have hlt2 : (k : Int) < 3 := by omega
      obtain ⟨x, hx⟩ : ∃ x, coming[k]? = some x := ⟨_, List.getElem?_eq_getElem (by exact hlt)⟩
      have HX := Lib.hid hx
      have HXO := Lib.hid (fun w => coming_ok w x (List.mem_of_getElem? hx))
      clear hx
      have OB := Lib.hid (show (x.cs.toArray.all (·.oneCell')) = true from (HXO.out wa).1.oneB)
      have HSL := Lib.hid (sl_range (sl_many (L := coming) Tx.len HCM.out) HX.out)
      go_upto_region 8 with (first | (refine wpList_load_mid rfl 32 _ rfl G (0 + k * 22) (by first | rfl | (congr 3; omega)) x.cs _ HSL.out Try.underlying32 rfl sizeTx ?_; (try simp only [Act.put, List.setIfInBounds_toArray, List.set_cons_zero, List.set_cons_succ])) | (refine wpList_load_mid rfl 32 _ rfl G (k * 22) rfl x.cs _ (by have h := HSL.out; rw [Nat.zero_add] at h; exact h) Try.underlying32 rfl sizeTx ?_; (try simp only [Act.put, List.setIfInBounds_toArray, List.set_cons_zero, List.set_cons_succ])) | (refine wl_put (Lies.new _ _ _) x.cs _ _ rfl rfl rfl rfl rfl sizeTx OB.out (fun wb hlb hfb => ?_); have hbb : Below wa.heap.size wa wb := below_put ((Below.refl wa.heap.size wa).alloc (Nat.le_refl _) _) hfb (Nat.le_refl _); have HPB := Lib.hid (HPS.out.later hbb); have HCB := Lib.hid (HCM.out.below hbb HCM.out.lt); obtain ⟨Bx, hBx⟩ : ∃ Bx, Bx = wa.heap.size := ⟨_, rfl⟩; rw [← hBx] at hlb ⊢; have HXB := Lib.hid hlb; clear hlb hfb hbb hBx; (try simp only [Act.put])))
      go_wp2_with (refine wpList_load_mid rfl 32 _ rfl Bx 0 rfl x.cs _ (lies_range HXB.out) Try.underlying32 rfl sizeTx ?_; (try simp only [Act.put, List.setIfInBounds_toArray, List.set_cons_zero, List.set_cons_succ]))
      refine (add_ps (t := x) HPB.out HN.out (HXO.out wb).1 (by have h := len_nv HST.out; have h2 := stage_len k; omega)).mono ?_
      rintro en wc ⟨dv, vo, v', O, rfl, hps, ho1, ho2, ho3, hfr⟩
      obtain ⟨q1, q2, q3⟩ := add_nv (dv := dv) HST.out (HXO.out wb).2 (stage_next k x HX.out)
      rw [q3]
      have HPC := Lib.hid hps
      have HQ1 := Lib.hid q1
      have HCC := Lib.hid (show Lies wc G 32 (coming.flatMap Tx.cs).toArray from lies_fr HCB.out hfr (fun e => HCB.out.ne HPB.out.pool.box (by decide) e))
      clear hps ho1 ho2 ho3 hfr q1 q2 q3
      go_wp2_with fail
      go_roundw
      case rel => exact ⟨k + 1, v', _, hlt, by go_num, HPC.out, HQ1.out, HCC.out⟩
      case measure => simp [RowKit.intOf]; omega
    · have hlt2 : ¬ (k : Int) < 3 := by omega
      obtain rfl : k = 3 := by omega
      go_wp2_with fail
      have HST3 := Lib.hid (show l.map Tx.nv = stage 3 from HST.out)
      refine (tx1_any 1 0 1 wa).mono ?_
      rintro en wb ⟨rfl, hbb⟩
      have HPB := Lib.hid (HPS.out.later hbb)
      clear hbb HPS HCM HST
      rw [show tx1 1 0 1 = ta from rfl]
      go_wp2_with fail
      refine (add_ps (t := ta) HPB.out HN.out (tx_ok wb).1 (by have h := len_nv HST3.out; have h2 := stage_len 3; omega)).mono ?_
      rintro en wc ⟨dv, vo, v', O, rfl, hps, ho1, ho2, ho3, hfr⟩
      obtain ⟨q1, q2, q3⟩ := add_nv (dv := dv) HST3.out (show ta.nv = ta from rfl) stage_again
      rw [q3]
      have HPC := Lib.hid hps
      have HQ1 := Lib.hid q1
      clear hps ho1 ho2 ho3 hfr q1 q2 q3 HPB HST3
      go_wp2_with fail
      refine (order_any HPC.out.pool (HN.out.later HPC.out.below) (by have h := len_nv HQ1.out; have h2 := stage_len 3; rw [h]; exact Nat.le_trans h2 (by decide))).mono ?_
      rintro en wd ⟨ov, O, o, rfl, hor, hoo, hon, hord, _, hbd⟩
      have ho := ord_nv hord
      rw [HQ1.out] at ho
      have ho2 := ord_stage ho
      rw [hon] at ho2
      obtain ⟨x0, x1, x2, rfl, e0, e1, e2⟩ := three_of ho2
      have HPD := Lib.hid (HPC.out.later hbd)
      obtain ⟨so, co, rfl, hco, hso⟩ := row_form hor
      obtain ⟨g, rfl⟩ := hso (by simp)
      have zA : wd.rangeAt g 1 (adr 2).cs := fun j u hj => by
        have h := row_at Tx.len hor (i := 0) (x := x0) rfl
        have h1 : x0.frm = adr 2 := congrArg Tx.frm e0
        have h2 := frm_cells x0 j u (by rw [h1]; exact hj)
        have h3 := h (1 + j) u h2
        rw [Nat.zero_mul, Nat.zero_add] at h3
        exact h3
      have z1 : wd.cell? ⟨g, 39, none⟩ = some (.int .u64 0) := by
        have h := row_at Tx.len hor (i := 1) (x := x1) rfl 17 (.int .u64 x1.nonce) rfl
        rw [show x1.nonce = 0 from congrArg Tx.nonce e1] at h
        exact h
      have z2 : wd.cell? ⟨g, 61, none⟩ = some (.int .u64 1) := by
        have h := row_at Tx.len hor (i := 2) (x := x2) rfl 17 (.int .u64 x2.nonce) rfl
        rw [show x2.nonce = 1 from congrArg Tx.nonce e2] at h
        exact h
      have hc0 : (3 : Int) ≤ (co : Int) := by simp at hco; omega
      clear hor hoo hon hord ho ho2 hbd e0 e1 e2 hco hso HPC
      have heq := eq_adr2
      go_wp2_with (refine wl_loadw zA _ rfl rfl (by exact rfl) Try.underlying23 rfl sizeAd ?_; (try simp only [Act.put, List.setIfInBounds_toArray, List.set_cons_zero, List.set_cons_succ]))
      clear heq zA z1 z2 hc0
      refine (tx1_any 1 0 2 wd).mono ?_
      rintro en we ⟨rfl, hbe⟩
      have HPE := Lib.hid (HPD.out.later hbe)
      clear hbe HPD
      rw [show tx1 1 0 2 = td from rfl]
      go_wp2_with fail
      refine (add_ps (t := td) HPE.out HN.out (tx_ok we).2.2.2 (by have h := len_nv HQ1.out; have h2 := stage_len 3; rw [h]; exact Nat.le_trans h2 (by decide))).mono ?_
      rintro en wf ⟨dv2, vo2, v2, O2, rfl, hps, ho1, ho2, ho3, hfr⟩
      obtain ⟨q1, q2, q3⟩ := add_nv (dv := dv2) HQ1.out (show td.nv = td from rfl) stage_last
      rw [q3]
      rw [q2] at ho3
      obtain ⟨y0, rfl, f0⟩ := one_of ho3
      have HPF := Lib.hid hps
      have HL3 := Lib.hid (show _ = 3 from (len_nv q1).trans rfl)
      obtain ⟨s2, c2, rfl, hc2, hs2⟩ := row_form ho1
      obtain ⟨g2, rfl⟩ := hs2 (by simp)
      have HO2 := Lib.hid (show wf.cell? ⟨g2, 20, none⟩ = some (.int .u64 1) from by
        have h := row_at Tx.len ho1 (i := 0) (x := y0) rfl 20 (.int .u64 y0.price) rfl
        rw [show y0.price = 1 from congrArg Tx.price f0] at h
        exact h)
      have hc1 : (1 : Int) ≤ (c2 : Int) := by simp at hc2; omega
      generalize (addF nx0 9 _ _).1 = l2 at HPF HL3
      clear hps ho1 ho2 ho3 hfr q1 q2 q3 HPE HQ1 f0 hc2 hs2
      go_wp2_with fail
      refine (new_any 0 wf).mono ?_
      rintro en wg ⟨bp2, rfl, hp, hbp, hbg⟩
      have HPG := Lib.hid (show PS w1 bp2 0 wg (.slice none 0 0) [] from ⟨bt HPF.out.below hbg, ⟨hp.box, hp.sl, fun t ht => (by cases ht), hp.ok⟩, Nat.le_trans HPF.out.below.size hbp⟩)
      have HBG := Lib.hid hbg
      have HP2 := Lib.hid hbp
      clear hp hbp hbg
      go_wp2_with fail
      refine (tx1_any 1 0 2 wg).mono ?_
      rintro en wh ⟨rfl, hbh⟩
      have HPH := Lib.hid (HPG.out.later hbh)
      have HBH := Lib.hid (bt HBG.out hbh)
      clear hbh HPG HBG
      rw [show tx1 1 0 2 = td from rfl]
      go_wp2_with fail
      refine (add_ps (t := td) HPH.out HN.out (tx_ok wh).2.2.2 (by simp)).mono ?_
      rintro en wi ⟨dv3, vo3, v3, O3, rfl, hps, ho1, ho2, ho3, hfr⟩
      obtain ⟨q1, q2, q3⟩ := add_nv (dv := dv3) (show ([] : List Tx).map Tx.nv = [] from rfl) (show td.nv = td from rfl) stage_full
      rw [q3]
      have HBI := Lib.hid (show Below wf.heap.size wf wi from HBH.out.trans (hfr.below HBH.out.size (fun k hk => by rw [hk]; exact HP2.out)))
      have HPI := Lib.hid (HPF.out.later HBI.out)
      have HO3 := Lib.hid (keepc HBI.out HO2.out)
      clear hps ho1 ho2 ho3 hfr q1 q2 q3 HBI HPF HO2 HBH HPH
      go_wp2_with fail
      have HPwi := HPI
      refine (tx1_any 1 0 2 wi).mono ?_
      rintro en wj ⟨rfl, hb⟩
      have HPwj := Lib.hid (HPI.out.later hb)
      have zj := keepc hb HO3.out
      have HO4 := Lib.hid zj
      clear hb HPI HPwi HO3 zj
      rw [show tx1 1 0 2 = td from rfl]
      go_wp2_with fail
      refine (add_nil wj (.pointer (some ⟨wp, 0, none⟩)) td).mono ?_
      rintro en wk ⟨rfl, hb⟩
      have HPwk := Lib.hid (HPwj.out.later hb)
      have z20 := keepc hb HO4.out
      clear hb HPwj HO4
      go_wp2_with fail
      have hlen := len_any HPwk.out.pool
      rw [HL3.out] at hlen
      refine hlen.mono ?_
      clear hlen z20
      rintro en wl ⟨rfl, hb⟩
      have HPwl := Lib.hid (HPwk.out.later hb)
      clear hb HPwk
      go_wp2_with fail
      refine (drop_nil wl ⟨0, 0, 0, 0, 0, 0, 0, 0⟩ 0).mono ?_
      rintro en wm ⟨rfl, hb⟩
      have HPwm := Lib.hid (HPwl.out.later hb)
      clear hb HPwl
      go_wp2_with fail
      refine (clean_nil wm (some ⟨wp, 0, none⟩)).mono ?_
      rintro en wn ⟨rfl, hb⟩
      have HPwn := Lib.hid (HPwm.out.later hb)
      clear hb HPwm
      go_wp2_with fail
      refine (len_nil wn).mono ?_
      rintro en wo ⟨rfl, hb⟩
      have HPwo := Lib.hid (HPwn.out.later hb)
      clear hb HPwn
      go_wp2_with fail
      refine (order_nil wo (.pointer (some ⟨wp, 0, none⟩))).mono ?_
      rintro en wq ⟨rfl, hb⟩
      have HPwq := Lib.hid (HPwo.out.later hb)
      clear hb HPwo
      go_wp2_with fail
      refine (fill_nil wq (some ⟨wp, 0, none⟩) 1 1).mono ?_
      rintro en ws ⟨rfl, hb⟩
      have HPws := Lib.hid (HPwq.out.later hb)
      clear hb HPwq
      go_wp2_with fail
      refine (all_nil ws).mono ?_
      rintro en wt ⟨rfl, hb⟩
      have HPwt := Lib.hid (HPws.out.later hb)
      clear hb HPws
      go_wp2_with fail
      go_ret
      exact ⟨rfl, bt HB1.out HPwt.out.below⟩
end Go.Proofs.Ytkdckcjnjljdmaa.Po
