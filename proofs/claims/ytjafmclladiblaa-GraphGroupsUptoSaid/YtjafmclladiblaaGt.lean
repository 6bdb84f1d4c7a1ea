/- Graph: Circle, Dead; Reach, Circle, Dead of no graph. -/
import Derived.Test.YtjafmclladiblaaGs
namespace Go.Proofs.Ytjafmclladiblaa.Gr
open Go Go.RowKit Go.Lib Kt Fm

theorem run_append_nil2 {t ty e : TypeId} (ht : Try.prog.underlying t = some (.slice e)) {i : TypeInfo} (hi : Try.prog.info? e = some i) (w : World) : (Builtin.append_ #[t, t] ty #[.slice none 0 0, .slice none 0 0]).run Try.prog w = .ok (.slice none 0 0) w := by
  simp [Builtin.append_, run_underlying ht, sizeOf, typeInfo, hi, Builtin.lenOf, Builtin.firstCells]
set_option maxRecDepth 100000 in
set_option maxHeartbeats 16000000 in
theorem reach_nil {W : World} {v : Value} {L : List Int} (hs : Sl W 1 zc v L) (hl : L.length ≤ 1000) :
    Calls Try.prog 17 #[.pointer none, v] W fun e w' => e = .returned (.slice none 0 0) ∧ Below W.heap.size W w' := by
  obtain ⟨s, cap, rfl, hs2⟩ := hs.form
  have HS := Lib.hid hs
  clear hs
  go_enter Try.func17, Try.ntmps17
  go_wp2_with fail
  refine (len_nil (W := W)).mono ?_
  rintro en w2 ⟨rfl, rfl⟩
  go_wp2_with (refine wl_mk (n := 0) Try.underlying48 info_bool rfl _ _ rfl rfl rfl rfl (by omega) (by omega) (fun w1 hb1 hr1 => ?_); have HB1 := Lib.hid hb1; clear hb1 hr1; simp only [Act.put, List.setIfInBounds_toArray, List.set_cons_zero, List.set_cons_succ])
  go_loopw [7, 9, 21] (fun lv _ i wr => ∃ (k : Nat), k ≤ L.length ∧ i = .int .i64 k ∧ lv = .slice none 0 0 ∧ Below w2.heap.size w2 wr)
    (fun _ _ i _ => L.length - (intOf i).toNat)
  case atStart => exact ⟨0, Nat.zero_le _, rfl, rfl, HB1.out⟩
  case round =>
    clear HB1
    obtain ⟨k, hk, rfl, rfl, hB⟩ := hrel
    have HB := Lib.hid hB
    clear hB
    by_cases hlt : k < L.length
    · obtain ⟨f, hf⟩ : ∃ f, L[k]? = some f := ⟨_, List.getElem?_eq_getElem hlt⟩
      obtain ⟨g, off, rfl, hg⟩ := hs2 (by intro e; simp [e] at hlt)
      have hcell := (HS.out.later HB.out).cell hf (j := 0) rfl
      rw [Nat.mul_one, Nat.add_zero] at hcell
      clear hf
      go_wp2_with fail
      refine (calls_nil f).mono ?_
      rintro en w3 ⟨rfl, rfl⟩
      obtain ⟨i0, _, hi0, _⟩ := info_of' info_int
      have hap := run_append_nil2 (ty := 40) Try.underlying40 hi0
      go_wp2_with fail
      exact ⟨⟨k + 1, by omega, by go_num, rfl, HB.out⟩, by simp [intOf]; omega⟩
    · obtain rfl : k = L.length := by omega
      go_wp2_with fail
      go_loopw [7, 10] (fun lv _ wx => lv = .slice none 0 0 ∧ Below w2.heap.size w2 wx) (fun _ _ _ => 0)
      case atStart => exact ⟨rfl, HB.out⟩
      case round =>
        clear HB
        obtain ⟨rfl, hB⟩ := hrel
        have HB := Lib.hid hB
        clear hB
        go_wp2_with fail
        go_loopw [11, 12, 13, 64] (fun lv _ _ i wr => i = .int .i64 0 ∧ lv = .slice none 0 0 ∧ Below w2.heap.size w2 wr) (fun _ _ _ _ _ => 0)
        case atStart => exact ⟨rfl, rfl, HB.out⟩
        case round =>
          clear HB
          obtain ⟨rfl, rfl, hB⟩ := hrel
          have HB := Lib.hid hB
          clear hB
          go_wp2_with fail
          go_ret
          exact ⟨rfl, HB.out⟩

theorem bs_z (x : Int) (w : World) : (Instr.buildSlice 40 1 #[(0, (.int .i64 x))]).run Try.prog w = .ok (.slice (some ⟨w.heap.size, 0, none⟩) 1 1) (w.alloc (.cells (zc x).toArray 3)) := by kernel_rfl
theorem places_sorted (out : List Bool) : (places out).Pairwise (· < ·) := sorted_range _ _
theorem places_le (out : List Bool) : (places out).length ≤ out.length := Nat.le_trans (List.length_filter_le _ _) (by simp)
theorem mem_ints {L : List Nat} {x : Int} : x ∈ ints L ↔ 0 ≤ x ∧ x.toNat ∈ L := by
  rw [ints, List.mem_map]
  constructor
  · rintro ⟨y, hy, rfl⟩
    exact ⟨by omega, by simpa using hy⟩
  · rintro ⟨h0, h⟩
    exact ⟨_, h, by omega⟩
theorem got_one {n : Nat} {c : Cl} {f : Nat} {h : Nat} : Got n c [(f : Int)] h ↔ Way n c f h := by
  constructor
  · rintro ⟨g, hg, w⟩
    have : g = f := by have := List.mem_singleton.1 hg; omega
    exact this ▸ w
  · exact fun w => ⟨f, List.mem_singleton.2 rfl, w⟩
set_option maxRecDepth 100000 in
set_option maxHeartbeats 4000000 in
theorem circle_any {W : World} {G : Nat} {m : Mod} (h : Gph W G m) (hn : cnt m ≤ 1000) (f : Int) :
    Calls Try.prog 20 #[.pointer (some ⟨G, 0, none⟩), .int .i64 f] W fun e w' => (∃ b, e = .returned (.bool b) ∧ (b = true ↔ 0 ≤ f ∧ Way (cnt m) (callsB m) f.toNat f.toNat)) ∧ Below W.heap.size W w' := by
  have HG := Lib.hid h
  clear h
  go_enter Try.func20, Try.ntmps20
  go_wp2_with (refine wl_bs1 _ _ (bs_z f) _ rfl rfl rfl (fun w7 hb7 hl7 => ?_); have HN7 := Lib.hid hl7; have HB7 := Lib.hid hb7; clear hb7 hl7; simp only [Act.put, List.setIfInBounds_toArray, List.set_cons_zero, List.set_cons_succ])
  refine (reach_any (HG.out.later HB7.out) hn (sl_one (en := zc) HN7.out) (by simp)).mono ?_
  rintro en w8 ⟨v', out, rfl, hm, hr, hb⟩
  have HM := Lib.hid hm
  have HB8 := Lib.hid (bt HB7.out hb)
  have hpl := places_le out
  rw [hm.1] at hpl
  have HV := Lib.hid (own_sl ic_len hr)
  clear hm hb hr
  go_wp2_with fail
  refine (bsearch_ic HV.out (by omega) (places_sorted out) f).mono ?_
  rintro en w9 ⟨⟨i, rfl⟩, hb⟩
  have HB9 := Lib.hid (bt HB8.out hb)
  clear hb
  obtain ⟨b, hbq⟩ : ∃ b, b = (ints (places out)).contains f := ⟨_, rfl⟩
  rw [← hbq]
  have hiff : b = true ↔ 0 ≤ f ∧ Way (cnt m) (callsB m) f.toNat f.toNat := by
    rw [hbq, List.contains_iff_mem, mem_ints, mem_places]
    constructor
    · rintro ⟨h0, h1⟩
      obtain ⟨j, rfl⟩ : ∃ j : Nat, f = (j : Int) := ⟨f.toNat, by omega⟩
      rw [Int.toNat_natCast] at h1 ⊢
      have hlt : j < cnt m := by rw [← HM.out.1]; exact (List.getElem?_eq_some_iff.1 h1).1
      exact ⟨h0, got_one.1 ((HM.out.2 _ hlt).1 h1)⟩
    · rintro ⟨h0, h1⟩
      obtain ⟨j, rfl⟩ : ∃ j : Nat, f = (j : Int) := ⟨f.toNat, by omega⟩
      rw [Int.toNat_natCast] at h1 ⊢
      exact ⟨h0, (HM.out.2 _ h1.lt.1).2 (got_one.2 h1)⟩
  clear hbq
  have HI := Lib.hid hiff
  clear hiff
  go_wp2_with fail
  go_ret
  exact ⟨⟨_, rfl, HI.out⟩, HB9.out⟩
set_option maxRecDepth 100000 in
set_option maxHeartbeats 4000000 in
theorem circle_nil {W : World} (f : Int) :
    Calls Try.prog 20 #[.pointer none, .int .i64 f] W fun e w' => e = .returned (.bool false) ∧ Below W.heap.size W w' := by
  go_enter Try.func20, Try.ntmps20
  go_wp2_with (refine wl_bs1 _ _ (bs_z f) _ rfl rfl rfl (fun w7 hb7 hl7 => ?_); have HN7 := Lib.hid hl7; have HB7 := Lib.hid hb7; clear hb7 hl7; simp only [Act.put, List.setIfInBounds_toArray, List.set_cons_zero, List.set_cons_succ])
  refine (reach_nil (sl_one (en := zc) HN7.out) (by simp)).mono ?_
  rintro en w8 ⟨rfl, hb⟩
  have HB8 := Lib.hid (bt HB7.out hb)
  clear hb
  go_wp2_with fail
  refine (bsearch_ic (L := []) (Sl.nil _ _ _ _) (by decide) List.Pairwise.nil f).mono ?_
  rintro en w9 ⟨⟨i, rfl⟩, hb⟩
  have HB9 := Lib.hid (bt HB8.out hb)
  clear hb
  go_wp2_with fail
  go_ret
  exact ⟨rfl, HB9.out⟩
set_option maxRecDepth 100000 in
set_option maxHeartbeats 4000000 in
theorem dead_nil {W : World} :
    Calls Try.prog 21 #[.pointer none] W fun e w' => e = .returned (.slice none 0 0) ∧ w' = W := by
  go_enter Try.func21, Try.ntmps21
  go_wp2_with fail
  go_ret
  exact ⟨rfl, rfl⟩
/-- What is dead, of what is reached from the roots. -/
def deadL (m : Mod) (out : List Bool) : List Nat := (List.range (cnt m)).filter fun f => decide ((fk m 0).length ≤ f) && !(out[f]? == some true || rootB m f)
theorem sl_zc {w : World} {v : Value} {L : List Nat} (h : Sl w 1 ic v L) : Sl w 1 zc v (ints L) := by
  obtain ⟨s, cap, rfl, hs⟩ := h
  refine ⟨s, cap, by rw [ints_len], fun hne => ?_⟩
  obtain ⟨g, off, rfl, hg, hc⟩ := hs (fun e => hne (by rw [e]; rfl))
  refine ⟨g, off, rfl, hg, fun i x hi j c hj => ?_⟩
  rw [ints, List.getElem?_map] at hi
  cases hx : L[i]? with
  | none => rw [hx] at hi; cases hi
  | some y =>
    rw [hx] at hi
    injection hi with hi
    subst hi
    exact hc i y hx j c hj
theorem live_contains {m : Mod} {out : List Bool} {f : Nat} (hf : f < cnt m) : (ints (srt (cnt m) (places out ++ rootsL m))).contains (f : Int) = (out[f]? == some true || rootB m f) := by
  rw [ints_contains, Bool.eq_iff_iff, List.contains_iff_mem, mem_srt, List.mem_append, mem_places, Bool.or_eq_true, beq_iff_eq, rootsL, List.mem_filter, List.mem_range]
  constructor
  · rintro ⟨_, h | h⟩
    · exact Or.inl h
    · exact Or.inr h.2
  · rintro (h | h)
    · exact ⟨hf, Or.inl h⟩
    · exact ⟨hf, Or.inr ⟨hf, h⟩⟩
theorem range_filter_succ (k : Nat) (p : Nat → Bool) : (List.range (k + 1)).filter p = (List.range k).filter p ++ if p k then [k] else [] := by
  rw [List.range_succ, List.filter_append]
  congr 1
  by_cases e : p k <;> simp [e]
theorem range_filter_none {k : Nat} {p : Nat → Bool} (h : ∀ i, i < k → p i = false) : (List.range k).filter p = [] := by
  rw [List.filter_eq_nil_iff]
  intro i hi
  rw [h i (List.mem_range.1 hi)]
  simp
set_option maxRecDepth 100000 in
set_option maxHeartbeats 8000000 in
theorem dead_any {W : World} {G : Nat} {m : Mod} (h : Gph W G m) (hn : cnt m ≤ 1000) :
    Calls Try.prog 21 #[.pointer (some ⟨G, 0, none⟩)] W fun e w' => ∃ v' out, e = .returned v' ∧ Marked (cnt m) out (Got (cnt m) (callsB m) (ints (rootsL m))) ∧ w'.ownsRow W.heap.size 3 1 v' (deadL m out).length ((deadL m out).flatMap ic) ∧ Below W.heap.size W w' := by
  have HG := Lib.hid h
  obtain ⟨cv, rv, CV, hl, _, _, _, hroots⟩ := h
  have hc2 : W.cell? ⟨G, 2, none⟩ = some rv := hl.cell 2
  have hl2 := hc2
  have hc0 : W.cell? ⟨G, 0, none⟩ = some (.int .i64 (fk m 0).length) := hl.cell 0
  have HRT := Lib.hid hroots
  have hrl := rootsL_le m
  have hnf : (fk m 0).length ≤ cnt m := by show (fimps m).length ≤ cnt m; unfold cnt; omega
  clear hl hroots
  go_enter Try.func21, Try.ntmps21
  go_wp2_with fail
  have hd := below_drew W
  refine wp_region_t [(0, 1), (1, 1), (2, 1), (3, 1), (4, 1), (6, 1), (7, 1), (8, 1), (9, 1), (5, 0), (10, 0), (11, 0), (12, 1)] (fun w' => w'.cell? ⟨G, 2, none⟩ = some rv) [] [] rfl (by kernel_rfl) (by kernel_rfl) (fun _ _ d _ _ h => by cases d <;> exact h) hc2 (fun p hp => by cases hp) ?_
  have HGV := Lib.hid (HG.out.later hd)
  have HBV := Lib.hid hd
  have HRV := Lib.hid (HRT.out.later hd)
  replace hc2 : W.drew.cell? ⟨G, 2, none⟩ = some rv := hc2
  have HC0 := Lib.hid hc0
  have HC2 := Lib.hid (show W.cell? ⟨G, 2, none⟩ = some rv from hl2)
  clear hc0 hl2
  generalize W.drew = V at HGV HBV HRV hc2 ⊢
  clear hd
  repeat (first | (refine ts_take (v := ?_) rfl rfl (fun w' hw' => ?_) ?_; rotate_left; (focus (have q0 := hw'; clear hw'; (try simp only [Act.put, List.setIfInBounds_toArray, List.set_cons_zero, List.set_cons_succ]); go_simp; (try go_bits); (try (with_reducible rfl)))); (try simp only [Act.put, List.setIfInBounds_toArray, List.set_cons_zero, List.set_cons_succ])) | (refine ts_skip rfl rfl ?_; (try simp only [Act.put, List.setIfInBounds_toArray, List.set_cons_zero, List.set_cons_succ])))
  refine ts_run1 rfl rfl (fun K hK => ?_)
  go_simp
  refine (reach_any HGV.out hn (sl_zc HRV.out) (by rw [ints_len]; omega)).mono ?_
  rintro en w8 ⟨v8, out, rfl, hm, hr, hb⟩
  have HM := Lib.hid hm
  have hpl := places_le out
  rw [hm.1] at hpl
  have HR8 := Lib.hid (ownsRow_base hr HBV.out.size)
  have HB8 := Lib.hid (bt HBV.out hb)
  have HRV8 := Lib.hid (HRV.out.later hb)
  replace hc2 := keepc hb hc2
  refine hK.out _ _ hc2 (still_none _ _) ?_
  clear hK K hm hr hb
  (try simp only [Act.put, List.setIfInBounds_toArray, List.set_cons_zero, List.set_cons_succ])
  refine ts_run1 rfl rfl (fun K hK => ?_)
  refine wp_app (v := v8) _ _ rfl Try.underlying40 info_int (by decide) rfl HR8.out ic_len rfl HRV8.out (fun y _ => oneIc y) (by unfold maxLen; omega) (by omega) HB8.out.size (fun v9 w9 hr9 hg9 hv9 => ?_)
  have HB9 := Lib.hid (HB8.out.grown hg9 HB8.out.size (fun k hk => (row_block HR8.out hk).1))
  have HR9 := Lib.hid (show w9.ownsRow W.heap.size 3 1 v9 (places out ++ rootsL m).length ((places out ++ rootsL m).flatMap ic) by rw [List.length_append, List.flatMap_append]; exact hr9)
  replace hc2 : w9.cell? ⟨G, 2, none⟩ = some rv := keepc HB9.out HC2.out
  refine hK.out _ _ hc2 (still_none _ _) ?_
  clear hK K hr9 hg9 hv9
  (try simp only [Act.put, List.setIfInBounds_toArray, List.set_cons_zero, List.set_cons_succ])
  refine ts_run1 rfl rfl (fun K hK => ?_)
  go_simp
  refine (set_any (n := cnt m) HR9.out (by
    intro x hx
    rcases List.mem_append.1 hx with h | h
    · have := mem_places.1 h
      rw [← HM.out.1]
      exact (List.getElem?_eq_some_iff.1 this).1
    · exact List.mem_range.1 (List.mem_filter.1 h).1) (by rw [List.length_append]; omega)).mono ?_
  rintro en wa ⟨va, rfl, hra, hga, _⟩
  have HBA := Lib.hid (HB9.out.grown hga HB9.out.size (fun k hk => (row_block HR9.out hk).1))
  have HRA := Lib.hid hra
  replace hc2 : wa.cell? ⟨G, 2, none⟩ = some rv := keepc HBA.out HC2.out
  refine hK.out _ _ hc2 (still_none _ _) ?_
  clear hK K hra hga
  (try simp only [Act.put, List.setIfInBounds_toArray, List.set_cons_zero, List.set_cons_succ])
  repeat (first | (refine ts_take (v := ?_) rfl rfl (fun w' hw' => ?_) ?_; rotate_left; (focus (have q0 := hw'; clear hw'; (try simp only [Act.put, List.setIfInBounds_toArray, List.set_cons_zero, List.set_cons_succ]); go_simp; (try go_bits); (try (with_reducible rfl)))); (try simp only [Act.put, List.setIfInBounds_toArray, List.set_cons_zero, List.set_cons_succ])) | (refine ts_skip rfl rfl ?_; (try simp only [Act.put, List.setIfInBounds_toArray, List.set_cons_zero, List.set_cons_succ])))
  refine ts_done ?_
  have hc0 := keepc HBA.out HC0.out
  have HLV := Lib.hid (own_sl ic_len HRA.out)
  have hsl := srt_le (cnt m) (places out ++ rootsL m)
  have HGA := Lib.hid (HG.out.later HBA.out)
  clear HR8 HR9 HRA hc2
  go_wp2_with fail
  clear hc0
  go_loopw [4, 5, 6, 7] (fun lv i _ _ wr => ∃ (k : Nat) (P : List Nat), (fk m 0).length ≤ k ∧ k ≤ cnt m ∧ i = .int .i64 k ∧ P = (List.range k).filter (fun f => decide ((fk m 0).length ≤ f) && !(out[f]? == some true || rootB m f)) ∧ P.length ≤ k ∧ wr.ownsRow wa.heap.size 3 1 lv P.length (P.flatMap ic) ∧ Below wa.heap.size wa wr)
    (fun _ i _ _ _ => cnt m - (intOf i).toNat)
  case atStart => exact ⟨(fk m 0).length, [], Nat.le_refl _, hnf, rfl, (range_filter_none (fun i hi => by rw [decide_eq_false (by omega), Bool.false_and])).symm, Nat.zero_le _, World.ownsRow_nil _ _ _ _, Below.refl _ _⟩
  case round =>
    obtain ⟨k, P, hk0, hk, rfl, hP, hPl, hrow, hB⟩ := hrel
    have HP := Lib.hid hP
    have HROW := Lib.hid hrow
    have HB := Lib.hid hB
    clear hP hrow hB
    go_wp2_with fail
    refine (len_any (HGA.out.later HB.out)).mono ?_
    rintro en w5 ⟨rfl, rfl⟩
    by_cases hlt : k < cnt m
    · have HRS := Lib.hid (range_filter_succ k (fun f => decide ((fk m 0).length ≤ f) && !(out[f]? == some true || rootB m f)))
      go_wp2_with fail
      refine (bsearch_ic (HLV.out.later HB.out) (by omega) (sorted_range _ _) k).mono ?_
      rintro en w6 ⟨⟨i, rfl⟩, hb⟩
      rw [live_contains hlt]
      obtain ⟨b, hbq⟩ : ∃ b, b = (out[k]? == some true || rootB m k) := ⟨_, rfl⟩
      rw [← hbq]
      have HBQ := Lib.hid hbq
      have HROW6 := Lib.hid (ownsRow_keep HROW.out hb)
      have HB6 := Lib.hid (bt HB.out hb)
      clear hbq hb HROW HB
      cases b with
      | true =>
        go_wp2_with fail
        exact ⟨⟨k + 1, P, by omega, by omega, by go_num, by
          have h1 := HRS.out
          rw [← HBQ.out, ← HP.out] at h1
          rw [h1]
          simp, by omega, HROW6.out, HB6.out⟩, by simp [intOf]; omega⟩
      | false =>
        go_wp2_with (first | (refine wl_bs1 _ _ (bs_int k) _ rfl rfl rfl (fun w7 hb7 hl7 => ?_); have HN7 := Lib.hid hl7; have HB7 := Lib.hid hb7; clear hb7 hl7; simp only [Act.put, List.setIfInBounds_toArray, List.set_cons_zero, List.set_cons_succ]) | (refine wl_app _ _ rfl rfl Try.underlying40 info_int (by decide) rfl (ownsRow_keep HROW6.out HB7.out) ic_len rfl (sl_one (en := ic) HN7.out) (fun y _ => oneIc y) (by simp only [List.length_singleton]; unfold maxLen; omega) (by simp only [List.length_singleton]; omega) (bt HB6.out HB7.out).size (fun v' w8 hr8 hg8 hv8 => ?_); have HR8 := Lib.hid hr8; have HG8 := Lib.hid hg8; clear hr8 hg8 hv8; try simp only [Act.put]))
        exact ⟨⟨k + 1, P ++ [k], by omega, by omega, by go_num, by
          have h1 := HRS.out
          rw [← HBQ.out, ← HP.out] at h1
          rw [h1]
          simp [hk0], by rw [List.length_append, List.length_singleton]; omega, by rw [List.length_append, List.flatMap_append]; exact HR8.out, (bt HB6.out HB7.out).grown HG8.out (bt HB6.out HB7.out).size (fun k hk => (row_block (ownsRow_keep HROW6.out HB7.out) hk).1)⟩, by simp [intOf]; omega⟩
    · obtain rfl : k = cnt m := by omega
      go_wp2_with fail
      go_ret
      have hd : deadL m out = P := by rw [HP.out]; rfl
      exact ⟨_, out, rfl, HM.out, by rw [hd]; exact ownsRow_base HROW.out HBA.out.size, bt HBA.out HB.out⟩
end Go.Proofs.Ytjafmclladiblaa.Gr
