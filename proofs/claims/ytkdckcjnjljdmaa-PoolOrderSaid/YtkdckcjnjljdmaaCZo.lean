/- slices.MinFunc, slices.MaxFunc at the pool's entries. -/
import Derived.Test.YtkdckcjnjljdmaaCZm
import Derived.Laws.OwnMore
namespace Go.Proofs.Ytkdckcjnjljdmaa.Po
open Go Go.RowKit Go.Lib Kt Fm Ad Kv

set_option maxRecDepth 100000 in
set_option maxHeartbeats 16000000 in
theorem min_any {W : World} {v : Value} {a : Tx} {r : List Tx} (h : Sl W 22 Tx.cs v (a :: r)) (hok : ∀ t ∈ a :: r, TxOk W t ∧ mayT t = 0) (hl : r.length ≤ 100000) : Calls Try.prog 47 #[v, (.func (.func 29) #[] #[])] W fun e w' => e = .returned (.agg (minT a r).cs.toArray) ∧ Below W.heap.size W w' := by
  obtain ⟨s, c, rfl, hf⟩ := h.form
  obtain ⟨g, off, rfl, _⟩ := hf (by simp)
  have HS := Lib.hid h
  have HO := Lib.hid hok
  clear h hf hok
  go_enter Try.func47, Try.ntmps47
  go_upto_region 1 with fail
  obtain ⟨w1, hw1⟩ : ∃ w1, w1 = W.alloc (.cells txZ.cs.toArray 81) := ⟨_, rfl⟩
  rw [show W.alloc (.cells #[.int .u8 0, .int .u8 0, .int .u8 0, .int .u8 0, .int .u8 0, .int .u8 0, .int .u8 0, .int .u8 0, .int .u8 0, .int .u8 0, .int .u8 0, .int .u8 0, .int .u8 0, .int .u8 0, .int .u8 0, .int .u8 0, .int .u8 0, .int .u64 0, .int .u64 0, .int .u64 0, .int .u64 0, .slice none 0 0] 81) = w1 from hw1.symm]
  have HB1 := Lib.hid (show Below W.heap.size W w1 from by rw [hw1]; exact (Below.refl _ _).alloc (Nat.le_refl _) _)
  obtain ⟨D, hD⟩ : ∃ D, D = W.heap.size := ⟨_, rfl⟩
  rw [← hD]
  have HD1 := Lib.hid (show Lies w1 D 81 txZ.cs.toArray from by rw [hw1, hD]; exact Lies.new _ _ _)
  have HDW := Lib.hid (show W.heap.size ≤ D from Nat.le_of_eq hD.symm)
  clear hw1 hD
  have hlen : (a :: r).length = r.length + 1 := rfl
  have HA := Lib.hid (HO.out a (.head _))
  go_wp2_with (first | (refine wpList_load_mid rfl 81 _ rfl g (off + 0 * 22) rfl a.cs _ (sl_range (HS.out.later HB1.out) (show (a :: r)[0]? = some a from rfl)) Try.underlying81 rfl sizeEn ?_; (try simp only [Act.put, List.setIfInBounds_toArray, List.set_cons_zero, List.set_cons_succ])) | (refine wl_put (Lies.new _ _ _) a.cs _ _ rfl rfl rfl rfl rfl sizeEn HA.out.1.oneB (fun w2 hl2 hf2 => ?_); have hb2 : Below w1.heap.size w1 w2 := below_put ((Below.refl w1.heap.size w1).alloc (Nat.le_refl _) _) hf2 (Nat.le_refl _); have HB2 := Lib.hid (bt HB1.out hb2); have HD2 := Lib.hid (HD1.out.below hb2 HD1.out.lt); obtain ⟨M, hM⟩ : ∃ M, M = w1.heap.size := ⟨_, rfl⟩; have HMW := Lib.hid (show W.heap.size ≤ M from by rw [hM]; exact HB1.out.size); have HDM := Lib.hid (show ¬ D = M from fun e => by have := HD1.out.lt; omega); rw [← hM] at hl2 ⊢; have HM2 := Lib.hid hl2; clear hl2 hf2 hb2 hM; (try simp only [Act.put])))
  go_loopw [6] (fun iv wr => ∃ k : Nat, k ≤ r.length ∧ iv = .int .i64 ((k + 1 : Nat) : Int) ∧ Lies wr M 81 (minT a (r.take k)).cs.toArray ∧ Lies wr D 81 txZ.cs.toArray ∧ Below W.heap.size W wr) (fun iv _ => r.length + 1 - (RowKit.intOf iv).toNat)
  case atStart => exact ⟨0, Nat.zero_le _, rfl, HM2.out, HD2.out, HB2.out⟩
  case round =>
    obtain ⟨k, hk, rfl, hm, hd, hb⟩ := hrel
    have HM := Lib.hid hm
    have HD := Lib.hid hd
    have HB := Lib.hid hb
    clear hm hd hb HM2 HD2 HB2
    by_cases hlt : k < r.length
    · have hlt2 : (k : Int) < (r.length : Int) := by omega
      have hlt3 : (k : Int) + 1 < (r.length : Int) + 1 := by omega
      have hlt4 : (0 : Int) ≤ (k : Int) + 1 := by omega
      obtain ⟨x, hx⟩ : ∃ x, r[k]? = some x := ⟨_, List.getElem?_eq_getElem hlt⟩
      have HX := Lib.hid (show (a :: r)[k + 1]? = some x from hx)
      have HNX := Lib.hid (min_more (a := a) hx)
      have HXO := Lib.hid (HO.out x (.tail _ (List.mem_of_getElem? hx)))
      have HMO := Lib.hid (HO.out (minT a (r.take k)) (by rcases (minT_spec (r.take k) a).1 with e | e; rw [e]; exact .head _; exact .tail _ (List.mem_of_mem_take e)))
      clear hx
      obtain ⟨m, hm⟩ : ∃ m, m = minT a (r.take k) := ⟨_, rfl⟩
      rw [← hm] at HM HNX HMO
      clear hm
      have HML := Lib.hid (Nat.lt_of_lt_of_le HM.out.lt (Nat.le_refl _))
      go_upto_region 7 with fail
      refine wp_region_t [(0, 1), (1, 1), (2, 1), (3, 1), (4, 1), (5, 1), (6, 0), (7, 1)] (fun w' => Sl w' 22 Tx.cs (.slice (some ⟨g, off, none⟩) (a :: r).length c) (a :: r) ∧ Lies w' M 81 m.cs.toArray) [] [] rfl (by kernel_rfl) (by kernel_rfl) (fun _ _ d _ _ h => by cases d <;> exact h) ⟨HS.out.later (bt HB.out (below_drew wr)), HM.out.below (below_drew wr) HM.out.lt⟩ (fun p hp => by cases hp) ?_
      have HB3 := Lib.hid (bt HB.out (below_drew wr))
      have HM3 := Lib.hid (HM.out.below (below_drew wr) HM.out.lt)
      have HD3 := Lib.hid (HD.out.below (below_drew wr) HD.out.lt)
      generalize wr.drew = w3 at HB3 HM3 HD3 ⊢
      repeat (first | (refine ts_take (v := .agg x.cs.toArray) rfl rfl (fun w' hw' => exec_load (sl_range hw'.1 HX.out) _ rfl rfl Try.underlying81 rfl sizeEn) ?_; (try simp only [Act.put, List.setIfInBounds_toArray, List.set_cons_zero, List.set_cons_succ])) | (refine ts_take (v := .agg m.cs.toArray) rfl rfl (fun w' hw' => exec_load (lies_range hw'.2) _ rfl rfl Try.underlying81 rfl sizeEn) ?_; (try simp only [Act.put, List.setIfInBounds_toArray, List.set_cons_zero, List.set_cons_succ])) | (refine ts_take (v := ?_) rfl rfl (fun w' hw' => ?_) ?_; rotate_left; (focus (skip; (try simp only [Act.put, List.setIfInBounds_toArray, List.set_cons_zero, List.set_cons_succ]); go_simp; (try go_bits); (try (with_reducible rfl)))); (try simp only [Act.put, List.setIfInBounds_toArray, List.set_cons_zero, List.set_cons_succ])))
      refine ts_run1 rfl rfl (fun K hK => ?_)
      go_simp
      refine (rank_any (HXO.out.1.later HB3.out) (HMO.out.1.later HB3.out) HXO.out.2 HMO.out.2).mono ?_
      rintro en w4 ⟨rfl, hb4⟩
      have HB4 := Lib.hid (bt HB3.out hb4)
      have HM4 := Lib.hid (HM3.out.below hb4 HM3.out.lt)
      have HD4 := Lib.hid (HD3.out.below hb4 HD3.out.lt)
      clear hb4
      refine hK.out _ _ ⟨HS.out.later HB4.out, HM4.out⟩ (still_none _ _) ?_
      clear hK K
      (try simp only [Act.put, List.setIfInBounds_toArray, List.set_cons_zero, List.set_cons_succ])
      repeat (refine ts_take (v := ?_) rfl rfl (fun w' hw' => ?_) ?_; rotate_left; (focus (skip; (try simp only [Act.put, List.setIfInBounds_toArray, List.set_cons_zero, List.set_cons_succ]); go_simp; (try go_bits); (try (with_reducible rfl)))); (try simp only [Act.put, List.setIfInBounds_toArray, List.set_cons_zero, List.set_cons_succ]))
      refine ts_done ?_
      by_cases hc : rank x m < 0
      · have HN := Lib.hid (show minT a (r.take (k + 1)) = x from by rw [HNX.out, if_pos hc])
        clear HNX
        go_wp2_with (first | (refine wpList_load_mid rfl 81 _ rfl g (off + (k + 1) * 22) rfl x.cs _ (sl_range (HS.out.later HB4.out) HX.out) Try.underlying81 rfl sizeEn ?_; (try simp only [Act.put, List.setIfInBounds_toArray, List.set_cons_zero, List.set_cons_succ])) | (refine wl_put HM4.out x.cs _ _ rfl rfl rfl rfl rfl sizeEn HXO.out.1.oneB (fun w5 hl5 hf5 => ?_); have HM5 := Lib.hid hl5; have HD5 := Lib.hid (lies_fr HD4.out hf5 HDM.out); have HB5 := Lib.hid (HB4.out.trans (hf5.below HB4.out.size (fun q hq => by rw [hq]; exact HMW.out))); clear hl5 hf5; (try simp only [Act.put])))
        go_roundw
        case rel => exact ⟨k + 1, hlt, by go_num, by rw [HN.out]; exact HM5.out, HD5.out, HB5.out⟩
        case measure => simp [RowKit.intOf]; omega
      · have HN := Lib.hid (show minT a (r.take (k + 1)) = m from by rw [HNX.out, if_neg hc])
        clear HNX
        go_wp2_with fail
        go_roundw
        case rel => exact ⟨k + 1, hlt, by go_num, by rw [HN.out]; exact HM4.out, HD4.out, HB4.out⟩
        case measure => simp [RowKit.intOf]; omega
    · have hlt2 : ¬ (k : Int) < (r.length : Int) := by omega
      have hlt3 : ¬ (k : Int) + 1 < (r.length : Int) + 1 := by omega
      have HKR := Lib.hid (show r.take k = r from List.take_of_length_le (by omega))
      rw [HKR.out] at HM
      have HMO := Lib.hid (HO.out (minT a r) (by rcases (minT_spec r a).1 with e | e; rw [e]; exact .head _; exact .tail _ e))
      go_wp2_with (first | (refine wpList_load_mid rfl 81 _ rfl M 0 rfl (minT a r).cs _ (lies_range HM.out) Try.underlying81 rfl sizeEn ?_; (try simp only [Act.put, List.setIfInBounds_toArray, List.set_cons_zero, List.set_cons_succ])) | (refine wl_put HD.out (minT a r).cs _ _ rfl rfl rfl rfl rfl sizeEn HMO.out.1.oneB (fun w5 hl5 hf5 => ?_); have HD5 := Lib.hid hl5; have HB5 := Lib.hid (HB.out.trans (hf5.below HB.out.size (fun q hq => by rw [hq]; exact HDW.out))); clear hl5 hf5; (try simp only [Act.put])))
      (try simp only [Exit.inBlock, Exit.then])
      exact bodyPost_ret_by (results_c rfl _ _ D (minT a r).cs _ rfl HD5.out Try.underlying81 rfl sizeEn) rfl ⟨rfl, HB5.out⟩
set_option maxRecDepth 100000 in
set_option maxHeartbeats 16000000 in
theorem max_any {W : World} {v : Value} {a : Tx} {r : List Tx} (h : Sl W 22 Tx.cs v (a :: r)) (hok : ∀ t ∈ a :: r, TxOk W t ∧ mayT t = 0) (hl : r.length ≤ 100000) : Calls Try.prog 34 #[v, (.func (.func 29) #[] #[])] W fun e w' => e = .returned (.agg (maxT a r).cs.toArray) ∧ Below W.heap.size W w' := by
  obtain ⟨s, c, rfl, hf⟩ := h.form
  obtain ⟨g, off, rfl, _⟩ := hf (by simp)
  have HS := Lib.hid h
  have HO := Lib.hid hok
  clear h hf hok
  go_enter Try.func34, Try.ntmps34
  go_upto_region 1 with fail
  obtain ⟨w1, hw1⟩ : ∃ w1, w1 = W.alloc (.cells txZ.cs.toArray 81) := ⟨_, rfl⟩
  rw [show W.alloc (.cells #[.int .u8 0, .int .u8 0, .int .u8 0, .int .u8 0, .int .u8 0, .int .u8 0, .int .u8 0, .int .u8 0, .int .u8 0, .int .u8 0, .int .u8 0, .int .u8 0, .int .u8 0, .int .u8 0, .int .u8 0, .int .u8 0, .int .u8 0, .int .u64 0, .int .u64 0, .int .u64 0, .int .u64 0, .slice none 0 0] 81) = w1 from hw1.symm]
  have HB1 := Lib.hid (show Below W.heap.size W w1 from by rw [hw1]; exact (Below.refl _ _).alloc (Nat.le_refl _) _)
  obtain ⟨D, hD⟩ : ∃ D, D = W.heap.size := ⟨_, rfl⟩
  rw [← hD]
  have HD1 := Lib.hid (show Lies w1 D 81 txZ.cs.toArray from by rw [hw1, hD]; exact Lies.new _ _ _)
  have HDW := Lib.hid (show W.heap.size ≤ D from Nat.le_of_eq hD.symm)
  clear hw1 hD
  have hlen : (a :: r).length = r.length + 1 := rfl
  have HA := Lib.hid (HO.out a (.head _))
  go_wp2_with (first | (refine wpList_load_mid rfl 81 _ rfl g (off + 0 * 22) rfl a.cs _ (sl_range (HS.out.later HB1.out) (show (a :: r)[0]? = some a from rfl)) Try.underlying81 rfl sizeEn ?_; (try simp only [Act.put, List.setIfInBounds_toArray, List.set_cons_zero, List.set_cons_succ])) | (refine wl_put (Lies.new _ _ _) a.cs _ _ rfl rfl rfl rfl rfl sizeEn HA.out.1.oneB (fun w2 hl2 hf2 => ?_); have hb2 : Below w1.heap.size w1 w2 := below_put ((Below.refl w1.heap.size w1).alloc (Nat.le_refl _) _) hf2 (Nat.le_refl _); have HB2 := Lib.hid (bt HB1.out hb2); have HD2 := Lib.hid (HD1.out.below hb2 HD1.out.lt); obtain ⟨M, hM⟩ : ∃ M, M = w1.heap.size := ⟨_, rfl⟩; have HMW := Lib.hid (show W.heap.size ≤ M from by rw [hM]; exact HB1.out.size); have HDM := Lib.hid (show ¬ D = M from fun e => by have := HD1.out.lt; omega); rw [← hM] at hl2 ⊢; have HM2 := Lib.hid hl2; clear hl2 hf2 hb2 hM; (try simp only [Act.put])))
  go_loopw [6] (fun iv wr => ∃ k : Nat, k ≤ r.length ∧ iv = .int .i64 ((k + 1 : Nat) : Int) ∧ Lies wr M 81 (maxT a (r.take k)).cs.toArray ∧ Lies wr D 81 txZ.cs.toArray ∧ Below W.heap.size W wr) (fun iv _ => r.length + 1 - (RowKit.intOf iv).toNat)
  case atStart => exact ⟨0, Nat.zero_le _, rfl, HM2.out, HD2.out, HB2.out⟩
  case round =>
    obtain ⟨k, hk, rfl, hm, hd, hb⟩ := hrel
    have HM := Lib.hid hm
    have HD := Lib.hid hd
    have HB := Lib.hid hb
    clear hm hd hb HM2 HD2 HB2
    by_cases hlt : k < r.length
    · have hlt2 : (k : Int) < (r.length : Int) := by omega
      have hlt3 : (k : Int) + 1 < (r.length : Int) + 1 := by omega
      have hlt4 : (0 : Int) ≤ (k : Int) + 1 := by omega
      obtain ⟨x, hx⟩ : ∃ x, r[k]? = some x := ⟨_, List.getElem?_eq_getElem hlt⟩
      have HX := Lib.hid (show (a :: r)[k + 1]? = some x from hx)
      have HNX := Lib.hid (max_more (a := a) hx)
      have HXO := Lib.hid (HO.out x (.tail _ (List.mem_of_getElem? hx)))
      have HMO := Lib.hid (HO.out (maxT a (r.take k)) (by rcases (maxT_spec (r.take k) a).1 with e | e; rw [e]; exact .head _; exact .tail _ (List.mem_of_mem_take e)))
      clear hx
      obtain ⟨m, hm⟩ : ∃ m, m = maxT a (r.take k) := ⟨_, rfl⟩
      rw [← hm] at HM HNX HMO
      clear hm
      have HML := Lib.hid (Nat.lt_of_lt_of_le HM.out.lt (Nat.le_refl _))
      go_upto_region 7 with fail
      refine wp_region_t [(0, 1), (1, 1), (2, 1), (3, 1), (4, 1), (5, 1), (6, 0), (7, 1)] (fun w' => Sl w' 22 Tx.cs (.slice (some ⟨g, off, none⟩) (a :: r).length c) (a :: r) ∧ Lies w' M 81 m.cs.toArray) [] [] rfl (by kernel_rfl) (by kernel_rfl) (fun _ _ d _ _ h => by cases d <;> exact h) ⟨HS.out.later (bt HB.out (below_drew wr)), HM.out.below (below_drew wr) HM.out.lt⟩ (fun p hp => by cases hp) ?_
      have HB3 := Lib.hid (bt HB.out (below_drew wr))
      have HM3 := Lib.hid (HM.out.below (below_drew wr) HM.out.lt)
      have HD3 := Lib.hid (HD.out.below (below_drew wr) HD.out.lt)
      generalize wr.drew = w3 at HB3 HM3 HD3 ⊢
      repeat (first | (refine ts_take (v := .agg x.cs.toArray) rfl rfl (fun w' hw' => exec_load (sl_range hw'.1 HX.out) _ rfl rfl Try.underlying81 rfl sizeEn) ?_; (try simp only [Act.put, List.setIfInBounds_toArray, List.set_cons_zero, List.set_cons_succ])) | (refine ts_take (v := .agg m.cs.toArray) rfl rfl (fun w' hw' => exec_load (lies_range hw'.2) _ rfl rfl Try.underlying81 rfl sizeEn) ?_; (try simp only [Act.put, List.setIfInBounds_toArray, List.set_cons_zero, List.set_cons_succ])) | (refine ts_take (v := ?_) rfl rfl (fun w' hw' => ?_) ?_; rotate_left; (focus (skip; (try simp only [Act.put, List.setIfInBounds_toArray, List.set_cons_zero, List.set_cons_succ]); go_simp; (try go_bits); (try (with_reducible rfl)))); (try simp only [Act.put, List.setIfInBounds_toArray, List.set_cons_zero, List.set_cons_succ])))
      refine ts_run1 rfl rfl (fun K hK => ?_)
      go_simp
      refine (rank_any (HXO.out.1.later HB3.out) (HMO.out.1.later HB3.out) HXO.out.2 HMO.out.2).mono ?_
      rintro en w4 ⟨rfl, hb4⟩
      have HB4 := Lib.hid (bt HB3.out hb4)
      have HM4 := Lib.hid (HM3.out.below hb4 HM3.out.lt)
      have HD4 := Lib.hid (HD3.out.below hb4 HD3.out.lt)
      clear hb4
      refine hK.out _ _ ⟨HS.out.later HB4.out, HM4.out⟩ (still_none _ _) ?_
      clear hK K
      (try simp only [Act.put, List.setIfInBounds_toArray, List.set_cons_zero, List.set_cons_succ])
      repeat (refine ts_take (v := ?_) rfl rfl (fun w' hw' => ?_) ?_; rotate_left; (focus (skip; (try simp only [Act.put, List.setIfInBounds_toArray, List.set_cons_zero, List.set_cons_succ]); go_simp; (try go_bits); (try (with_reducible rfl)))); (try simp only [Act.put, List.setIfInBounds_toArray, List.set_cons_zero, List.set_cons_succ]))
      refine ts_done ?_
      by_cases hc : 0 < rank x m
      · have HN := Lib.hid (show maxT a (r.take (k + 1)) = x from by rw [HNX.out, if_pos hc])
        clear HNX
        go_wp2_with (first | (refine wpList_load_mid rfl 81 _ rfl g (off + (k + 1) * 22) rfl x.cs _ (sl_range (HS.out.later HB4.out) HX.out) Try.underlying81 rfl sizeEn ?_; (try simp only [Act.put, List.setIfInBounds_toArray, List.set_cons_zero, List.set_cons_succ])) | (refine wl_put HM4.out x.cs _ _ rfl rfl rfl rfl rfl sizeEn HXO.out.1.oneB (fun w5 hl5 hf5 => ?_); have HM5 := Lib.hid hl5; have HD5 := Lib.hid (lies_fr HD4.out hf5 HDM.out); have HB5 := Lib.hid (HB4.out.trans (hf5.below HB4.out.size (fun q hq => by rw [hq]; exact HMW.out))); clear hl5 hf5; (try simp only [Act.put])))
        go_roundw
        case rel => exact ⟨k + 1, hlt, by go_num, by rw [HN.out]; exact HM5.out, HD5.out, HB5.out⟩
        case measure => simp [RowKit.intOf]; omega
      · have HN := Lib.hid (show maxT a (r.take (k + 1)) = m from by rw [HNX.out, if_neg hc])
        clear HNX
        go_wp2_with fail
        go_roundw
        case rel => exact ⟨k + 1, hlt, by go_num, by rw [HN.out]; exact HM4.out, HD4.out, HB4.out⟩
        case measure => simp [RowKit.intOf]; omega
    · have hlt2 : ¬ (k : Int) < (r.length : Int) := by omega
      have hlt3 : ¬ (k : Int) + 1 < (r.length : Int) + 1 := by omega
      have HKR := Lib.hid (show r.take k = r from List.take_of_length_le (by omega))
      rw [HKR.out] at HM
      have HMO := Lib.hid (HO.out (maxT a r) (by rcases (maxT_spec r a).1 with e | e; rw [e]; exact .head _; exact .tail _ e))
      go_wp2_with (first | (refine wpList_load_mid rfl 81 _ rfl M 0 rfl (maxT a r).cs _ (lies_range HM.out) Try.underlying81 rfl sizeEn ?_; (try simp only [Act.put, List.setIfInBounds_toArray, List.set_cons_zero, List.set_cons_succ])) | (refine wl_put HD.out (maxT a r).cs _ _ rfl rfl rfl rfl rfl sizeEn HMO.out.1.oneB (fun w5 hl5 hf5 => ?_); have HD5 := Lib.hid hl5; have HB5 := Lib.hid (HB.out.trans (hf5.below HB.out.size (fun q hq => by rw [hq]; exact HDW.out))); clear hl5 hf5; (try simp only [Act.put])))
      (try simp only [Exit.inBlock, Exit.then])
      exact bodyPost_ret_by (results_c rfl _ _ D (maxT a r).cs _ rfl HD5.out Try.underlying81 rfl sizeEn) rfl ⟨rfl, HB5.out⟩
end Go.Proofs.Ytkdckcjnjljdmaa.Po
namespace Go.Proofs.Ytkdckcjnjljdmaa.Po
open Go Go.RowKit Go.Lib Kt Fm Ad Kv

set_option maxRecDepth 100000 in
set_option maxHeartbeats 16000000 in
theorem add1_any {W : World} {y z : Tx} {Bw : Nat} (hz : Lies W Bw 81 z.cs.toArray) : Calls Try.prog 36 #[.agg y.cs.toArray, .pointer (some ⟨Bw, 0, none⟩)] W fun e w' => e = .returned (.bool (decide (place y z = 0))) ∧ Below W.heap.size W w' := by
  have HZ := Lib.hid hz
  clear hz
  go_enter Try.func36, Try.ntmps36
  go_upto_region 1 with (refine wl_box y.cs _ rfl rfl rfl (fun w1 hbw1 hlw1 => ?_); have HB1 := Lib.hid (hbw1); have HLBy := Lib.hid hlw1; obtain ⟨By, hBw1⟩ : ∃ By, By = W.heap.size := ⟨_, rfl⟩; rw [← hBw1] at HLBy ⊢; clear hBw1 hbw1 hlw1; (try simp only [Act.put, List.setIfInBounds_toArray, List.set_cons_zero, List.set_cons_succ]))
  go_wp2_with (first | (refine wpList_load_mid rfl 81 _ rfl By 0 rfl y.cs _ (lies_range HLBy.out) Try.underlying81 rfl sizeEn ?_; (try simp only [Act.put, List.setIfInBounds_toArray, List.set_cons_zero, List.set_cons_succ])) | (refine wpList_load_mid rfl 81 _ rfl Bw 0 rfl z.cs _ (lies_range (HZ.out.below HB1.out HZ.out.lt)) Try.underlying81 rfl sizeEn ?_; (try simp only [Act.put, List.setIfInBounds_toArray, List.set_cons_zero, List.set_cons_succ])))
  refine (place_any y z).mono ?_
  rintro en w2 ⟨rfl, hb2⟩
  have HB2 := Lib.hid (bt HB1.out hb2)
  clear hb2
  go_wp2_with fail
  go_ret
  exact ⟨rfl, HB2.out⟩
set_option maxRecDepth 100000 in
set_option maxHeartbeats 16000000 in
theorem idx_any {W : World} {v : Value} {l : List Tx} {z : Tx} {Bw : Nat} (h : Sl W 22 Tx.cs v l) (hz : Lies W Bw 81 z.cs.toArray) (hs : Srt l) (hm : z ∈ l) (hl : l.length ≤ 100000) : Calls Try.prog 35 #[v, (.func (.func 36) #[] #[.pointer (some ⟨Bw, 0, none⟩)])] W fun e w' => e = .returned (.int .i64 (idxT l z)) ∧ Below W.heap.size W w' := by
  obtain ⟨s, c, rfl, hf⟩ := h.form
  obtain ⟨g, off, rfl, _⟩ := hf (by intro e; rw [e] at hm; cases hm)
  have HS := Lib.hid h
  have HZ := Lib.hid hz
  have HAT := Lib.hid (idxT_at hs hm)
  have HBF := Lib.hid (show ∀ k x, k < idxT l z → l[k]? = some x → ¬ place x z = 0 from fun k x hk hx => idxT_before hk hx)
  have hlt0 : idxT l z < l.length := (List.getElem?_eq_some_iff.1 (idxT_at hs hm)).1
  obtain ⟨q, hq⟩ : ∃ q, q = idxT l z := ⟨_, rfl⟩
  rw [← hq] at HAT HBF hlt0 ⊢
  clear hq h hf hz hs hm
  go_enter Try.func35, Try.ntmps35
  go_wp2_with fail
  go_loopw [8] (fun iv wr => ∃ k : Nat, k ≤ q ∧ iv = .int .i64 k ∧ Below W.heap.size W wr) (fun iv _ => q - (RowKit.intOf iv).toNat)
  case atStart => exact ⟨0, Nat.zero_le _, rfl, Below.refl _ _⟩
  case round =>
    obtain ⟨k, hk, rfl, hb⟩ := hrel
    have HB := Lib.hid hb
    clear hb
    have hlt : k < l.length := by omega
    have hlt2 : (k : Int) < (l.length : Int) := by omega
    obtain ⟨x, hx⟩ : ∃ x, l[k]? = some x := ⟨_, List.getElem?_eq_getElem hlt⟩
    have HX := Lib.hid hx
    clear hx
    go_wp2_with (refine wpList_load_mid rfl 81 _ rfl g (off + k * 22) rfl x.cs _ (sl_range (HS.out.later HB.out) HX.out) Try.underlying81 rfl sizeEn ?_; (try simp only [Act.put, List.setIfInBounds_toArray, List.set_cons_zero, List.set_cons_succ]))
    refine (add1_any (y := x) (HZ.out.below HB.out HZ.out.lt)).mono ?_
    rintro en w1 ⟨rfl, hb1⟩
    have HB1 := Lib.hid (bt HB.out hb1)
    clear hb1
    by_cases hkq : k < q
    · have hp := HBF.out k x hkq HX.out
      rw [decide_eq_false hp]
      clear hp
      go_wp2_with fail
      go_roundw
      case rel => exact ⟨k + 1, hkq, by go_num, HB1.out⟩
      case measure => simp [RowKit.intOf]; omega
    · obtain rfl : k = q := by omega
      have hp : place x z = 0 := by
        have h1 := HX.out
        rw [HAT.out] at h1
        cases h1
        exact place_eq.2 ⟨rfl, rfl⟩
      rw [decide_eq_true hp]
      clear hp
      go_wp2_with fail
      go_ret
      exact ⟨rfl, HB1.out⟩
theorem eql_nil_ents (w : World) (a : Option Go.Addr) (n c n' c' : Nat) : (binOp .eql 77 (.slice a n c) (.slice none n' c')).run Try.prog w = .ok (.bool a.isNone) w := Lib.run_eql_slice_nil w _ _ a n c n' c' Try.underlying77
theorem inf_en : (Try.prog.info? 81).map (fun i => (i.zero.map (·.cells.size), i.size, i.bytes)) = some (some 22, 22, 80) := by kernel_rfl
set_option maxRecDepth 100000 in
set_option maxHeartbeats 16000000 in
theorem cloneE_any {W : World} {v : Value} {l : List Tx} (h : Sl W 22 Tx.cs v l) (ho : ∀ t ∈ l, TxOk W t) (hl : l.length ≤ 100000) : Calls Try.prog 31 #[v] W fun e w' => ∃ v', e = .returned v' ∧ w'.ownsRow W.heap.size 81 22 v' l.length (l.flatMap Tx.cs) ∧ Below W.heap.size W w' := by
  obtain ⟨s, c, rfl, hf⟩ := h.form
  have HS := Lib.hid h
  have HF := Lib.hid hf
  have HO := Lib.hid ho
  clear h hf ho
  have q := eql_nil_ents
  go_enter Try.func31, Try.ntmps31
  cases s with
  | none =>
    have HE := Lib.hid (show l = [] from Decidable.byContradiction fun hn => by obtain ⟨g, off, e, _⟩ := HF.out (fun e => hn (by rw [e])); cases e)
    go_wp2_with fail
    go_ret
    exact ⟨_, rfl, by rw [HE.out]; exact World.ownsRow_nil _ _ _ _, Below.refl _ _⟩
  | some ad =>
    go_wp2_with (first | (refine wl_bsN (e := 81) (d := 5) rfl rfl [] rfl (fun w => by kernel_rfl) (fun w1 hb1 hl1 => ?_); have HB1 := Lib.hid hb1; have HR1 := Lib.hid (row_none (sz := 22) hl1 (Nat.le_refl _)); have HS1 := Lib.hid (HS.out.later hb1); clear hb1 hl1; (try simp only [Act.put, List.setIfInBounds_toArray, List.set_cons_zero, List.set_cons_succ])) | (refine wl_app (by_ := 80) _ _ rfl rfl Try.underlying77 inf_en (by decide) rfl HR1.out Tx.len rfl HS1.out (fun y hy => (HO.out y hy).one) (by unfold maxLen; omega) (by omega) HB1.out.size (fun v2 w2 hr2 hg2 hv2 => ?_); have HR2 := Lib.hid (show w2.ownsRow W.heap.size 81 22 v2 l.length (l.flatMap Tx.cs) from by rw [Nat.zero_add, List.nil_append] at hr2; exact hr2); have HB2 := Lib.hid (HB1.out.grown hg2 HB1.out.size (fun _ hk => (row_block HR1.out hk).1)); clear hr2 hg2 hv2; (try simp only [Act.put, List.setIfInBounds_toArray, List.set_cons_zero, List.set_cons_succ])))
    go_ret
    exact ⟨_, rfl, HR2.out, HB2.out⟩
end Go.Proofs.Ytkdckcjnjljdmaa.Po
namespace Go.Proofs.Ytkdckcjnjljdmaa.Po
open Go Go.RowKit Go.Lib Kt Fm Ad Kv

/-- Cells past a row's end are written: the row stays. -/
theorem row_past {w : World} {base : Nat} {e : TypeId} {sz g n cap : Nat} {xs : List Value} (h : w.ownsRow base e sz (.slice (some ⟨g, 0, none⟩) n cap) n xs) (o : Nat) (vs : List Value) (ho : n * sz ≤ o) :
    (w.setCells g o vs).ownsRow base e sz (.slice (some ⟨g, 0, none⟩) n cap) n xs ∧ w.grownBy (w.setCells g o vs) (some g) := by
  have hgr : w.grownBy (w.setCells g o vs) (some g) := ⟨World.os_setCells _ _ _ _, tape_setCells _ _ _ _, World.output_setCells _ _ _ _, Nat.le_of_eq (size_setCells _ _ _ _).symm, fun k hk hn => World.heap_setCells_other w g _ vs hk (fun e => hn (by rw [e]))⟩
  refine ⟨⟨h.1, ?_⟩, hgr⟩
  rcases h.2 with ⟨h0, _⟩ | ⟨g', cap', cur, hv, hb, hg, h1, h2, h3, h4⟩
  · cases h0
  · cases hv
    obtain ⟨cur', a1, a2, a3⟩ := heap_setCells vs o w cur hg
    exact .inr ⟨g, cap, cur', rfl, hb, a1, h1, h2, by omega, by rw [take_eq_of (fun j hj => a3 j (by omega)), h4]⟩
theorem row_room {w : World} {base : Nat} {e : TypeId} {sz g n cap : Nat} {xs : List Value} (h : w.ownsRow base e sz (.slice (some ⟨g, 0, none⟩) n cap) n xs) : ∃ cur, Lies w g e cur ∧ cur.size = cap * sz ∧ n ≤ cap ∧ base ≤ g := by
  rcases h.2 with ⟨h0, _⟩ | ⟨g', cap', cur, hv, hb, hg, h1, h2, h3, h4⟩
  · cases h0
  · cases hv
    exact ⟨cur, hg, h3, h1, hb⟩
theorem zeroE (w : World) : (zeroValue 81).run Try.prog w = .ok (.agg txZ.cs.toArray) w := by kernel_rfl
section
variable {ops : Array Oper} {rest : List Oper} {op : Oper} {a : Act} {w : World} {K : Act → World → Prop} {Q : Exit → Act → World → Prop}
theorem wl_clearE (p : Operand) (hgd : op.guard = none) (ho : op.op = .call { callee := .builtin .clear, args := #[p], argTypes := #[77] }) {base g n m cap c0 : Nat} {xs : List Value} (h : w.ownsRow base 81 22 (.slice (some ⟨g, 0, none⟩) n cap) n xs) (hm : 0 < m) (hc : n + m ≤ cap) (hp : a.eval p = .slice (some ⟨g, n * 22, none⟩) m c0)
    (hK : ∀ w', w'.ownsRow base 81 22 (.slice (some ⟨g, 0, none⟩) n cap) n xs → w.grownBy w' (some g) → wpList Try.prog ops Q rest (a.put op.dst (.tuple #[])) w') : wpList Try.prog ops Q (op :: rest) a w := by
  obtain ⟨cur, hl, hs, _, _⟩ := row_room h
  obtain ⟨zs, hz, hr⟩ := run_clear_cells (P := Try.prog) w 77 81 op.type (.agg txZ.cs.toArray) Try.underlying77 zeroE (fun u hu => by
    have : u ∈ txZ.cs := by simpa [Value.cells] using hu
    exact (show ∀ u ∈ txZ.cs, u.oneCell' = true from by decide) u this) (sz := 22) rfl (by decide) g (n * 22) m c0 hm (fun j hj => by rw [hl.cell, Array.getElem?_eq_getElem (by rw [hs]; omega)]; rfl) (fun j hj => hl.frozen _)
  obtain ⟨h1, h2⟩ := row_past h (n * 22) zs (Nat.le_refl _)
  refine wpList_plain hgd fun _ hK' => ?_
  unfold Oper.wp execOp
  simp only [ho, resolve, invoke, builtin, Sem.run_bind, Sem.run_pure, Result.andThen_ok, List.map_toArray, List.map_cons, List.map_nil, hp, hr]
  exact hK' _ _ (hK _ h1 h2)
theorem wp_fits (p q : Operand) (ho : op.op = .call { callee := .builtin .append, args := #[p, q], argTypes := #[77, 77] }) {base g n cap m c0 : Nat} {ad : Go.Addr} {xs news : List Value} (h : w.ownsRow base 81 22 (.slice (some ⟨g, 0, none⟩) n cap) n xs) (hp : a.eval p = .slice (some ⟨g, 0, none⟩) n cap) (hq : a.eval q = .slice (some ad) m c0) (hl : news.length = m * 22) (hn : ∀ j u, news[j]? = some u → w.cell? (ad.add j) = some u) (h1 : ∀ u ∈ news, u.oneCell' = true) (hroom : n + m ≤ cap)
    (hK : ∀ w', w'.ownsRow base 81 22 (.slice (some ⟨g, 0, none⟩) (n + m) cap) (n + m) (xs ++ news) → w.grownBy w' (some g) → K (a.put op.dst (.slice (some ⟨g, 0, none⟩) (n + m) cap)) w') : op.wp Try.prog a w K Q := by
  obtain ⟨i, z, hi, hz0, hz1, hz2, hz3⟩ := info_of' inf_en
  obtain ⟨w', hr, h2, h3⟩ := run_append_fits (P := Try.prog) (w := w) base 77 op.type 81 i 22 Try.underlying77 hi hz1 g n cap xs h ad m c0 news hl hn h1 hroom
  unfold Oper.wp execOp
  simp only [ho, resolve, invoke, builtin, Sem.run_bind, Sem.run_pure, Result.andThen_ok, List.map_toArray, List.map_cons, List.map_nil, hp, hq, hr]
  exact hK w' h2 h3
end
theorem flat_len {L : List Tx} : (L.flatMap Tx.cs).length = L.length * 22 := length_flat Tx.len L
theorem flat_drop {L : List Tx} (k : Nat) : (L.drop k).flatMap Tx.cs = (L.flatMap Tx.cs).drop (k * 22) := by
  have h := List.take_append_drop k L
  conv => rhs; rw [← h, List.flatMap_append]
  rcases Nat.lt_or_ge L.length k with hk | hk
  · rw [List.drop_eq_nil_of_le (Nat.le_of_lt hk), List.take_of_length_le (Nat.le_of_lt hk), List.flatMap_nil, List.append_nil, List.drop_eq_nil_of_le (by rw [flat_len]; omega)]
  · have e : ((L.take k).flatMap Tx.cs).length = k * 22 := by rw [flat_len, List.length_take, Nat.min_eq_left hk]
    rw [← e, List.drop_left]
theorem flat_take {L : List Tx} (k : Nat) : (L.take k).flatMap Tx.cs = (L.flatMap Tx.cs).take (k * 22) := by
  have h := List.take_append_drop k L
  conv => rhs; rw [← h, List.flatMap_append]
  rcases Nat.lt_or_ge L.length k with hk | hk
  · rw [List.drop_eq_nil_of_le (Nat.le_of_lt hk), List.take_of_length_le (Nat.le_of_lt hk), List.flatMap_nil, List.append_nil, List.take_of_length_le (by rw [flat_len]; omega)]
  · have e : ((L.take k).flatMap Tx.cs).length = k * 22 := by rw [flat_len, List.length_take, Nat.min_eq_left hk]
    rw [← e, List.take_left]
set_option maxRecDepth 100000 in
set_option maxHeartbeats 16000000 in
theorem del_any {W : World} {base : Nat} {v : Value} {l : List Tx} (h : W.ownsRow base 81 22 v l.length (l.flatMap Tx.cs)) (ho : ∀ t ∈ l, TxOk W t) {k : Nat} (hk : k < l.length) (hl : l.length ≤ 100000) (hb : base ≤ W.heap.size) : Calls Try.prog 38 #[v, .int .i64 k, .int .i64 ((k : Int) + 1)] W fun e w' => ∃ v', e = .returned v' ∧ w'.ownsRow base 81 22 v' (l.take k ++ l.drop (k + 1)).length ((l.take k ++ l.drop (k + 1)).flatMap Tx.cs) ∧ Below base W w' ∧ FrT [81] W w' := by
  obtain ⟨s, cap, rfl, hnc, hf⟩ := row_form h
  obtain ⟨g, rfl⟩ := hf (by omega)
  have HR := Lib.hid h
  have HO := Lib.hid ho
  have hcap : (l.length : Int) ≤ (cap : Int) := by omega
  have hki : (k : Int) < (l.length : Int) := by omega
  have hki2 : (k : Int) + 1 ≤ (l.length : Int) := by omega
  have hki3 : (k : Int) ≤ (cap : Int) := by omega
  have hki4 : k ≤ cap := by omega
  have hki5 : k + 1 ≤ l.length := by omega
  have hki6 : (k : Int) ≤ (l.length : Int) := by omega
  have hki7 : (0 : Int) ≤ (k : Int) + 1 := by omega
  clear h ho hf
  go_enter Try.func38, Try.ntmps38
  go_upto_region 5 with fail
  refine wp_region_t [(0, 1), (1, 1), (2, 1), (3, 1), (4, 1), (5, 1), (6, 0), (7, 1)] (fun _ => True) [] [] rfl (by kernel_rfl) (by kernel_rfl) (fun _ _ d _ _ h => by cases d <;> exact h) trivial (fun p hp => by cases hp) ?_
  have HB1 := Lib.hid (below_drew W)
  generalize W.drew = w1 at HB1 ⊢
  repeat (refine ts_take (v := ?_) rfl rfl (fun w' hw' => ?_) ?_; rotate_left; (focus (skip; (try simp only [Act.put, List.setIfInBounds_toArray, List.set_cons_zero, List.set_cons_succ]); go_simp; (try go_bits); (try (with_reducible rfl)))); (try simp only [Act.put, List.setIfInBounds_toArray, List.set_cons_zero, List.set_cons_succ]))
  obtain ⟨ad, had⟩ : ∃ ad : Go.Addr, ad = if cap = k + 1 then ⟨g, 0, none⟩ else ⟨g, (k + 1) * 22, none⟩ := ⟨_, rfl⟩
  rw [show (if cap = k + 1 then some (⟨g, 0, none⟩ : Go.Addr) else some ⟨g, (k + 1) * 22, none⟩) = some ad from by rw [had]; split <;> rfl]
  have HRW := Lib.hid (ownsRow_keep HR.out HB1.out)
  have HAD := Lib.hid (show ∀ j u, ((l.drop (k + 1)).flatMap Tx.cs)[j]? = some u → w1.cell? (ad.add j) = some u from fun j u hj => by
    rw [flat_drop, List.getElem?_drop] at hj
    have hc := HRW.out.cells (g := g) rfl _ _ hj
    rw [Addr.add_lit] at hc
    rw [had]
    by_cases hz : cap = k + 1
    · exfalso
      have h1 := (List.getElem?_eq_some_iff.1 hj).1
      rw [flat_len] at h1
      omega
    · rw [if_neg hz, Addr.add_lit]
      rw [Nat.zero_add] at hc
      exact hc)
  have HF := Lib.hid (row_front (L := l.take k) Tx.len HRW.out (by rw [List.length_take]; omega) (by rw [List.length_take, Nat.min_eq_left (by omega), flat_take]))
  have hlk : (l.take k).length = k := by rw [List.length_take]; omega
  rw [hlk] at HF
  clear had hlk
  refine ts_run1 rfl rfl (fun K hK => ?_)
  refine wp_fits (m := l.length - (k + 1)) _ _ rfl HF.out rfl rfl (by rw [flat_len, List.length_drop]) HAD.out (fun u hu => by obtain ⟨y, hy, hu⟩ := List.mem_flatMap.1 hu; exact (HO.out y (List.mem_of_mem_drop hy)).one u hu) (by omega) (fun w2 hr2 hg2 => ?_)
  have HB2 := Lib.hid (show Below base W w2 from (HB1.out.mono hb).grown hg2 (Nat.le_trans hb HB1.out.size) (fun q hq => by cases hq; exact (row_block HRW.out rfl).1))
  have HF2 := Lib.hid (((FrT.below HB1.out []).trans (FrT.grown HRW.out (show w1.grownBy w2 (Value.ownBlock (.slice (some ⟨g, 0, none⟩) l.length cap)) from hg2))).sub (by simp) : FrT [81] W w2)
  have R2 := Lib.hid hr2
  clear hr2 hg2
  refine hK.out _ _ trivial (still_none _ _) ?_
  clear hK K
  (try simp only [Act.put, List.setIfInBounds_toArray, List.set_cons_zero, List.set_cons_succ])
  repeat (refine ts_take (v := ?_) rfl rfl (fun w' hw' => ?_) ?_; rotate_left; (focus (skip; (try simp only [Act.put, List.setIfInBounds_toArray, List.set_cons_zero, List.set_cons_succ]); go_simp; (try go_bits); (try (with_reducible rfl)))); (try simp only [Act.put, List.setIfInBounds_toArray, List.set_cons_zero]))
  refine ts_done ?_
  obtain ⟨N, hN⟩ : ∃ N, l.length = N + 1 := ⟨l.length - 1, by omega⟩
  have HLN := Lib.hid (show (l.take k ++ l.drop (k + 1)).length = N from by rw [List.length_append, List.length_take, List.length_drop]; omega)
  rw [show k + (l.length - (k + 1)) = N from by omega] at R2 ⊢
  rw [hN]
  have hc1 : (N : Int) + 1 ≤ (cap : Int) := by omega
  have hc2 : ¬ cap = N := by omega
  have hc3 : N + 1 ≤ cap := by omega
  have hN2 : N ≤ 100000 := by omega
  clear hN hk hl hnc hcap hki hki2 hki3 hki4 hki5 hki6 hki7
  go_wp2_with (refine wl_clearE _ rfl rfl R2.out (m := 1) (by decide) hc3 rfl (fun w3 hr3 hg3 => ?_); have R3 := Lib.hid hr3; have HB3 := Lib.hid (HB2.out.grown hg3 (Nat.le_trans hb (by have := HF2.out.size; exact this)) (fun q hq => by cases hq; exact (row_block R2.out rfl).1)); have HF3 := Lib.hid ((HF2.out.trans (FrT.grown R2.out (show w2.grownBy w3 (Value.ownBlock (.slice (some ⟨g, 0, none⟩) N cap)) from hg3))).sub (by simp) : FrT [81] W w3); clear hr3 hg3; (try simp only [Act.put]))
  go_ret
  exact ⟨_, rfl, by rw [HLN.out, List.flatMap_append]; exact R3.out, HB3.out, HF3.out⟩
end Go.Proofs.Ytkdckcjnjljdmaa.Po
