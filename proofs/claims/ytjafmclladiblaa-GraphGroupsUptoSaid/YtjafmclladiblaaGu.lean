/- Graph: Groups. -/
import Derived.Test.YtjafmclladiblaaGt
namespace Go.Proofs.Ytjafmclladiblaa.Gr
open Go Go.RowKit Go.Lib Kt Fm

/-! ### plain -/
open Classical in
/-- What is reached from a function, rising. -/
noncomputable def wayL (m : Mod) (f : Nat) : List Nat := (List.range (cnt m)).filter fun h => decide (Way (cnt m) (callsB m) f h)
open Classical in
theorem mem_wayL {m : Mod} {f h : Nat} : h ∈ wayL m f ↔ Way (cnt m) (callsB m) f h := by
  unfold wayL
  rw [List.mem_filter, List.mem_range, decide_eq_true_eq]
  exact ⟨fun e => e.2, fun w => ⟨w.lt.2, w⟩⟩
theorem wayL_le (m : Mod) (f : Nat) : (wayL m f).length ≤ cnt m := Nat.le_trans (List.length_filter_le _ _) (by simp)
theorem wayL_sorted (m : Mod) (f : Nat) : (wayL m f).Pairwise (· < ·) := sorted_range _ _
open Classical in
theorem places_way {m : Mod} {out : List Bool} {f : Nat} (h : Marked (cnt m) out (Got (cnt m) (callsB m) [(f : Int)])) : places out = wayL m f := by
  unfold places wayL
  rw [h.1]
  refine List.filter_congr fun i hi => ?_
  rw [Bool.eq_iff_iff, beq_iff_eq, decide_eq_true_eq]
  exact (h.2 i (List.mem_range.1 hi)).trans got_one
/-- Do two functions reach one another? -/
noncomputable def both (m : Mod) (f h : Nat) : Bool := (wayL m f).contains h && (wayL m h).contains f
theorem both_iff {m : Mod} {f h : Nat} : both m f h = true ↔ Way (cnt m) (callsB m) f h ∧ Way (cnt m) (callsB m) h f := by
  unfold both
  rw [Bool.and_eq_true, List.contains_iff_mem, List.contains_iff_mem, mem_wayL, mem_wayL]
theorem both_trans {m : Mod} {f g h : Nat} (a : both m f g = true) (b : both m g h = true) : both m f h = true := by
  rw [both_iff] at *
  exact ⟨a.1.trans b.1, b.2.trans a.2⟩
theorem both_symm {m : Mod} {f g : Nat} (a : both m f g = true) : both m g f = true := by
  rw [both_iff] at *
  exact ⟨a.2, a.1⟩
/-- Does an earlier function stand in one group with it? -/
noncomputable def old (m : Mod) (k j : Nat) : Bool := (List.range (min k j)).any fun g => both m g j
/-- A function's group, where it is the first one. -/
noncomputable def grp (m : Mod) (f : Nat) : List Nat := f :: (List.range (cnt m)).filter fun h => decide (f < h) && both m f h
/-- The groups of the first k functions. -/
noncomputable def grps (m : Mod) (k : Nat) : List (List Nat) := ((List.range k).filter fun f => !old m f f).map (grp m)
theorem old_iff {m : Mod} {k j : Nat} : old m k j = true ↔ ∃ g, g < k ∧ g < j ∧ both m g j = true := by
  unfold old
  rw [List.any_eq_true]
  constructor
  · rintro ⟨g, hg, e⟩
    have := List.mem_range.1 hg
    exact ⟨g, by omega, by omega, e⟩
  · rintro ⟨g, h1, h2, e⟩
    exact ⟨g, List.mem_range.2 (by omega), e⟩
theorem old_skip {m : Mod} {k j : Nat} (h : old m k k = true) : old m (k + 1) j = old m k j := by
  rw [Bool.eq_iff_iff, old_iff, old_iff]
  constructor
  · rintro ⟨g, h1, h2, e⟩
    by_cases hg : g = k
    · subst hg
      obtain ⟨g', h3, _, e'⟩ := old_iff.1 h
      exact ⟨g', h3, by omega, both_trans e' e⟩
    · exact ⟨g, by omega, h2, e⟩
  · rintro ⟨g, h1, h2, e⟩
    exact ⟨g, by omega, h2, e⟩
theorem old_next {m : Mod} {k j : Nat} : old m (k + 1) j = (old m k j || (decide (k < j) && both m k j)) := by
  rw [Bool.eq_iff_iff, Bool.or_eq_true, Bool.and_eq_true, old_iff, old_iff, decide_eq_true_eq]
  constructor
  · rintro ⟨g, h1, h2, e⟩
    by_cases hg : g = k
    · subst hg; exact Or.inr ⟨h2, e⟩
    · exact Or.inl ⟨g, by omega, h2, e⟩
  · rintro (⟨g, h1, h2, e⟩ | ⟨h2, e⟩)
    · exact ⟨g, by omega, h2, e⟩
    · exact ⟨k, by omega, h2, e⟩
theorem grps_succ (m : Mod) (k : Nat) : grps m (k + 1) = grps m k ++ if old m k k then [] else [grp m k] := by
  unfold grps
  rw [range_filter_succ, List.map_append]
  congr 1
  cases old m k k <;> rfl
theorem grps_le (m : Mod) (k : Nat) : (grps m k).length ≤ k := by
  unfold grps
  rw [List.length_map]
  exact Nat.le_trans (List.length_filter_le _ _) (by simp)

theorem fr_grown {w0 wr w1 : World} {mm : Nat → Prop} {e : TypeId} {sz n : Nat} {v : Value} {xs : List Value} (h : Fr w0 wr mm) (hr : wr.ownsRow w0.heap.size e sz v n xs) (hg : wr.grownBy w1 v.ownBlock) : Fr w0 w1 mm :=
  ⟨hg.os.trans h.os, hg.tape.trans h.tape, hg.output.trans h.output, Nat.le_trans h.size hg.size, fun i hi hn => (hg.block i (Nat.lt_of_lt_of_le hi h.size) (fun e => by have := (row_block hr e.symm).1; omega)).trans (h.block i hi hn)⟩
theorem own_one {α : Type} {en : α → List Value} {w : World} {g base : Nat} {e : TypeId} {sz : Nat} {x : α} (hlen : ∀ x, (en x).length = sz) (h : Lies w g e (en x).toArray) (hb : base ≤ g) : w.ownsRow base e sz (.slice (some ⟨g, 0, none⟩) 1 1) 1 ([x].flatMap en) :=
  ⟨by rw [length_flat hlen]; rfl, .inr ⟨g, 1, (en x).toArray, rfl, hb, h, Nat.le_refl _, by decide, by simp [hlen], by rw [List.flatMap_cons, List.flatMap_nil, List.append_nil, Nat.one_mul]; simp [← hlen x]⟩⟩
theorem bs_sl (s : Option Addr) (n c : Nat) (w : World) : (Instr.buildSlice 55 1 #[(0, (.slice s n c))]).run Try.prog w = .ok (.slice (some ⟨w.heap.size, 0, none⟩) 1 1) (w.alloc (.cells (vc (.slice s n c)).toArray 40)) := by kernel_rfl
theorem info_li2 : (Try.prog.info? 40).map (fun i => (i.zero.map (·.cells.size), i.size, i.bytes)) = some (some 1, 1, 24) := by kernel_rfl
/-- The marks while a function's group is gathered. -/
noncomputable def oldTo (m : Mod) (k h j : Nat) : Bool := old m k j || (decide (k < j ∧ j < h) && both m k j)
theorem oldTo_start (m : Mod) (k : Nat) : oldTo m k (k + 1) = old m k := by
  funext j
  unfold oldTo
  rw [decide_eq_false (by omega), Bool.false_and, Bool.or_false]
theorem oldTo_end (m : Mod) (k : Nat) : (List.range (cnt m)).map (oldTo m k (cnt m)) = (List.range (cnt m)).map (old m (k + 1)) := by
  refine List.map_congr_left fun j hj => ?_
  have := List.mem_range.1 hj
  unfold oldTo
  rw [old_next]
  by_cases h : k < j
  · rw [decide_eq_true ⟨h, this⟩, decide_eq_true h]
  · rw [decide_eq_false (fun e => h e.1), decide_eq_false h]
theorem oldTo_no {m : Mod} {k h : Nat} (hb : both m k h = false) : oldTo m k (h + 1) = oldTo m k h := by
  funext j
  unfold oldTo
  by_cases e : j = h
  · subst e; rw [hb, Bool.and_false, Bool.and_false]
  · rw [show decide (k < j ∧ j < h + 1) = decide (k < j ∧ j < h) from decide_eq_decide.2 (by omega)]
theorem oldTo_yes {m : Mod} {k h n : Nat} (hb : both m k h = true) (hk : k < h) : ((List.range n).map (oldTo m k h)).set h true = (List.range n).map (oldTo m k (h + 1)) := by
  refine List.ext_getElem (by simp) fun j h1 h2 => ?_
  rw [List.getElem_set]
  simp only [List.getElem_map, List.getElem_range]
  unfold oldTo
  split
  · rename_i e
    subst e
    rw [hb, decide_eq_true ⟨hk, by omega⟩]
    simp
  · rename_i e
    rw [show decide (k < j ∧ j < h + 1) = decide (k < j ∧ j < h) from decide_eq_decide.2 (by omega)]
/-! ### has -/
set_option maxRecDepth 100000 in
set_option maxHeartbeats 4000000 in
theorem has_any {W : World} {VB CB n : Nat} {m : Mod} {RS : List Value} (hn : cnt m ≤ 1000) (hv : Lies W VB 55 #[.slice (some ⟨CB, 0, none⟩) n n]) {base : Nat} (hr : W.ownsRow base 40 1 (.slice (some ⟨CB, 0, none⟩) n n) n RS) {f h : Nat} (hf : f < n) (_hnn : n ≤ 1000)
    (hw : ∀ v, RS[f]? = some v → WRow W (fun _ => True) 3 1 v (wayL m f).length ((wayL m f).flatMap ic)) :
    Calls Try.prog 47 #[.int .i64 f, .int .i64 h, .pointer (some ⟨VB, 0, none⟩)] W fun e w' => e = .returned (.bool ((wayL m f).contains h)) ∧ Below W.heap.size W w' := by
  have hl : RS.length = n := by rw [hr.1, Nat.mul_one]
  obtain ⟨v, hvf⟩ : ∃ v, RS[f]? = some v := ⟨_, List.getElem?_eq_getElem (by rw [hl]; exact hf)⟩
  have hc1 : W.cell? ⟨VB, 0, none⟩ = some (.slice (some ⟨CB, 0, none⟩) n n) := hv.cell 0
  have hc2 : W.cell? ⟨CB, f, none⟩ = some v := by rw [hr.cellAt _ (by omega), hvf]
  have HS := Lib.hid ((hw v hvf).sl ic_len)
  have hwl := wayL_le m f
  obtain ⟨b, hb⟩ : ∃ b, b = (wayL m f).contains h := ⟨_, rfl⟩
  rw [← hb]
  have HBB := Lib.hid hb
  clear hr hv hw hvf hb
  go_enter Try.func47, Try.ntmps47
  go_wp2_with fail
  refine (bsearch_ic HS.out (by omega) (wayL_sorted m f) h).mono ?_
  rintro en w9 ⟨⟨i, rfl⟩, hb⟩
  rw [ints_contains, ← HBB.out]
  have HB := Lib.hid hb
  clear hb
  go_wp2_with fail
  go_ret
  exact ⟨rfl, HB.out⟩

set_option maxRecDepth 100000 in
set_option maxHeartbeats 16000000 in
theorem groups_any {W : World} {G : Nat} {m : Mod} (h : Gph W G m) (hn : cnt m ≤ 1000) :
    Calls Try.prog 24 #[.pointer (some ⟨G, 0, none⟩)] W fun e w' => ∃ v' OV, e = .returned v' ∧ Sl w' 1 vc v' OV ∧ OV.length = (grps m (cnt m)).length ∧ (∀ (i : Nat) (u : Value) (g : List Nat), OV[i]? = some u → (grps m (cnt m))[i]? = some g → Sl w' 1 ic u g) ∧ Below W.heap.size W w' := by
  have HG := Lib.hid h
  clear h
  go_enter Try.func24, Try.ntmps24
  go_wp2_with fail
  refine (len_any HG.out).mono ?_
  rintro en w2 ⟨rfl, rfl⟩
  go_wp2_with (refine wl_mk Try.underlying55 info_li rfl _ _ rfl rfl rfl rfl (by omega) (by omega) (fun w1 hb1 hr1 => ?_); have HB1 := Lib.hid hb1; have HR1 := Lib.hid hr1; clear hb1 hr1; simp only [Act.put, List.setIfInBounds_toArray, List.set_cons_zero, List.set_cons_succ])
  obtain ⟨w3, hw3⟩ : ∃ w3, w3 = w1.alloc (.cells #[.slice (some ⟨w2.heap.size, 0, none⟩) (cnt m) (cnt m)] 55) := ⟨_, rfl⟩
  have HVB := Lib.hid (show Lies w3 w1.heap.size 55 #[.slice (some ⟨w2.heap.size, 0, none⟩) (cnt m) (cnt m)] from hw3 ▸ Lies.new _ _ _)
  have hb3 : Below w1.heap.size w1 w3 := hw3 ▸ (Below.refl _ _).alloc (Nat.le_refl _) _
  rw [← hw3]
  clear hw3
  have HR3 := Lib.hid (ownsRow_keep HR1.out hb3)
  have HB3 := Lib.hid (bt HB1.out hb3)
  have hvb : w2.heap.size ≤ w1.heap.size := HB1.out.size
  clear hb3 HR1 HB1
  generalize hCB : w2.heap.size = CB at HVB HR3 ⊢
  generalize w1.heap.size = VB at HVB hvb ⊢
  have HR3 := Lib.hid (show w3.ownsRow w2.heap.size 40 1 (.slice (some ⟨CB, 0, none⟩) (cnt m) (cnt m)) (cnt m) (List.replicate (cnt m) (.slice none 0 0)) by rw [hCB]; exact HR3.out)
  have hCB0 : w2.heap.size ≤ CB := by omega
  have hVB0 : w2.heap.size ≤ VB := by omega
  clear hCB hvb
  go_loopw [4, 16] (fun _ i wr => ∃ (k : Nat) (RS : List Value), k ≤ cnt m ∧ i = .int .i64 k ∧ wr.ownsRow w2.heap.size 40 1 (.slice (some ⟨CB, 0, none⟩) (cnt m) (cnt m)) (cnt m) RS ∧ (∀ (j : Nat) (u : Value), j < k → RS[j]? = some u → WRow wr (fun _ => True) 3 1 u (wayL m j).length ((wayL m j).flatMap ic)) ∧ Lies wr VB 55 #[.slice (some ⟨CB, 0, none⟩) (cnt m) (cnt m)] ∧ Below w2.heap.size w2 wr)
    (fun _ i _ => cnt m - (intOf i).toNat)
  case atStart => exact ⟨0, _, Nat.zero_le _, rfl, HR3.out, fun j u hj => by omega, HVB.out, HB3.out⟩
  case round =>
    clear HR3 HVB HB3
    obtain ⟨k, RS, hk, rfl, hrow, hls, hvl, hB⟩ := hrel
    have hRl : RS.length = cnt m := by rw [hrow.1, Nat.mul_one]
    have HROW := Lib.hid hrow
    have HLS := Lib.hid hls
    have HVL := Lib.hid hvl
    have HB := Lib.hid hB
    clear hrow hls hvl hB
    by_cases hlt : k < cnt m
    · go_wp2_with fail
      have hd := below_drew wr
      have HRV := Lib.hid (ownsRow_keep HROW.out hd)
      have HVV := Lib.hid (HVL.out.below hd HVL.out.lt)
      have HBV := Lib.hid (bt HB.out hd)
      have HLV := Lib.hid (fun (j : Nat) (u : Value) (hj : j < k) (hu : RS[j]? = some u) => (HLS.out j u hj hu).kept (m := fun _ => False) (Fr.of_below hd _) (fun _ _ _ h => h))
      refine wp_region_t [(0, 1), (1, 1), (2, 1), (3, 1), (4, 0), (5, 0), (6, 1), (7, 0)] (fun w' => w'.cell? ⟨VB, 0, none⟩ = some (.slice (some ⟨CB, 0, none⟩) (cnt m) (cnt m))) [] [] rfl (by kernel_rfl) (by kernel_rfl) (fun _ _ d _ _ h => by cases d <;> exact h) (HVV.out.cell 0) (fun p hp => by cases hp) ?_
      generalize wr.drew = V at HRV HVV HBV HLV ⊢
      clear hd HROW HVL HB HLS
      repeat (first | (refine ts_take (v := ?_) rfl rfl (fun w' hw' => ?_) ?_; rotate_left; (focus (have q0 := hw'; clear hw'; (try simp only [Act.put, List.setIfInBounds_toArray, List.set_cons_zero, List.set_cons_succ]); go_simp; (try go_bits); (try (with_reducible rfl)))); (try simp only [Act.put, List.setIfInBounds_toArray, List.set_cons_zero, List.set_cons_succ])) | (refine ts_skip rfl rfl ?_; (try simp only [Act.put, List.setIfInBounds_toArray, List.set_cons_zero, List.set_cons_succ])))
      refine ts_run1 rfl rfl (fun K hK => ?_)
      refine wp_bs1 _ _ (bs_z k) _ rfl rfl (fun wa hba hla => ?_)
      have HNA := Lib.hid hla
      have HRA := Lib.hid (ownsRow_keep HRV.out hba)
      have HVA := Lib.hid (HVV.out.below hba HVV.out.lt)
      have HBA := Lib.hid (bt HBV.out hba)
      have HLA := Lib.hid (fun (j : Nat) (u : Value) (hj : j < k) (hu : RS[j]? = some u) => (HLV.out j u hj hu).kept (m := fun _ => False) (Fr.of_below hba _) (fun _ _ _ h => h))
      refine hK.out _ _ (HVA.out.cell 0) (still_none _ _) ?_
      clear hK K hba hla HRV HVV HBV HLV
      (try simp only [Act.put, List.setIfInBounds_toArray, List.set_cons_zero, List.set_cons_succ])
      refine ts_run1 rfl rfl (fun K hK => ?_)
      go_simp
      refine (reach_any (HG.out.later HBA.out) hn (sl_one (en := zc) HNA.out) (by simp)).mono ?_
      rintro en wb ⟨vb, out, rfl, hm, hr, hbb⟩
      rw [places_way hm] at hr
      have HVR := Lib.hid (WRow.of_own (own := fun _ => True) hr (fun _ _ => trivial))
      have HRB := Lib.hid (ownsRow_keep HRA.out hbb)
      have HVBB := Lib.hid (HVA.out.below hbb HVA.out.lt)
      have HBB := Lib.hid (bt HBA.out hbb)
      have HLB := Lib.hid (fun (j : Nat) (u : Value) (hj : j < k) (hu : RS[j]? = some u) => (HLA.out j u hj hu).kept (m := fun _ => False) (Fr.of_below hbb _) (fun _ _ _ h => h))
      obtain ⟨sb, cb, rfl, _, _⟩ := row_form hr
      refine hK.out _ _ (HVBB.out.cell 0) (still_none _ _) ?_
      clear hK K hm hr hbb HRA HVA HBA HLA
      (try simp only [Act.put, List.setIfInBounds_toArray, List.set_cons_zero, List.set_cons_succ])
      repeat (first | (refine ts_take (v := ?_) rfl rfl (fun w' hw' => ?_) ?_; rotate_left; (focus (have q0 := hw'; clear hw'; (try simp only [Act.put, List.setIfInBounds_toArray, List.set_cons_zero, List.set_cons_succ]); go_simp; (try go_bits); (try (with_reducible rfl)))); (try simp only [Act.put, List.setIfInBounds_toArray, List.set_cons_zero, List.set_cons_succ])) | (refine ts_skip rfl rfl ?_; (try simp only [Act.put, List.setIfInBounds_toArray, List.set_cons_zero, List.set_cons_succ])))
      refine ts_run1 rfl rfl (fun K hK => ?_)
      refine wp_rowset1 HRB.out hlt _ _ rfl rfl rfl (slice_cells _ _ _) size_li rfl (fun wz hs9 hg9 => ?_)
      have hf9 : FrT [40] wb wz := FrT.grown HRB.out hg9
      have HVZ := Lib.hid (lies_frT HVBB.out hf9 (by decide))
      have HRZ := Lib.hid hs9
      have HBZ := Lib.hid (HBB.out.grown hg9 HBB.out.size (fun q hq => by injection hq with hq; omega))
      have HLZ := Lib.hid (show ∀ (j : Nat) (u : Value), j < k + 1 → (RS.set k (.slice sb (wayL m k).length cb))[j]? = some u → WRow wz (fun _ => True) 3 1 u (wayL m j).length ((wayL m j).flatMap ic) from fun j u hj hu => by
        by_cases e : j = k
        · subst e
          rw [List.getElem?_set_self (by omega)] at hu
          injection hu with hu
          subst hu
          exact wrow_frT HVR.out hf9 (by decide)
        · rw [List.getElem?_set_ne (fun e' => e e'.symm)] at hu
          exact wrow_frT (HLB.out j u (by omega) hu) hf9 (by decide))
      refine hK.out _ _ (HVZ.out.cell 0) (still_none _ _) ?_
      clear hK K hs9 hg9 hf9 HVR HRB HVBB HBB HLB
      refine ts_done ?_
      (try simp only [Act.put])
      go_wp2_with fail
      exact ⟨⟨k + 1, _, by omega, by go_num, HRZ.out, HLZ.out, HVZ.out, HBZ.out⟩, by simp [intOf]; omega⟩
    · obtain rfl : k = cnt m := by omega
      go_wp2_with fail
      refine (len_any (HG.out.later HB.out)).mono ?_
      rintro en w4 ⟨rfl, rfl⟩
      go_wp2_with (refine wl_mk Try.underlying48 info_bool rfl _ _ rfl rfl rfl rfl (by omega) (by omega) (fun w5 hb5 hr5 => ?_); have HB5 := Lib.hid hb5; have HR5 := Lib.hid hr5; clear hb5 hr5; simp only [Act.put, List.setIfInBounds_toArray, List.set_cons_zero, List.set_cons_succ])
      have hDB0 : w2.heap.size ≤ w4.heap.size := HB.out.size
      have HDN := Lib.hid (show w5.ownsRow w2.heap.size 4 1 (.slice (some ⟨w4.heap.size, 0, none⟩) (cnt m) (cnt m)) (cnt m) (((List.range (cnt m)).map (old m 0)).map Value.bool) by
        have h0 : ((List.range (cnt m)).map (old m 0)).map Value.bool = List.replicate (cnt m) (.bool false) := by
          refine List.ext_getElem (by simp) fun j h1 h2 => ?_
          simp [old]
        rw [h0]
        exact ownsRow_base HR5.out hDB0)
      have HWB := Lib.hid (bt HB.out HB5.out)
      have HRW := Lib.hid (ownsRow_keep HROW.out HB5.out)
      have HVW := Lib.hid (HVL.out.below HB5.out HVL.out.lt)
      have HLW := Lib.hid (fun (j : Nat) (u : Value) (hj : j < cnt m) (hu : RS[j]? = some u) => (HLS.out j u hj hu).kept (m := fun _ => False) (Fr.of_below HB5.out _) (fun _ _ _ h => h))
      clear HB HROW HVL HLS HB5 HR5
      generalize w4.heap.size = DB at HDN hDB0 ⊢
      have hne1 : ∀ (b : Nat) (e : TypeId) (cur : Array Value), w5.heap[b]? = some (.cells cur e (0, 0)) → e ≠ 4 → cnt m ≠ 0 → b ≠ DB := fun b e cur hb he _ hbd => by
        subst hbd
        obtain ⟨_, _, cur', hc⟩ := row_block HDN.out (k := b) rfl
        rw [hc] at hb
        injection hb with hb
        injection hb with _ h2 _
        exact he h2.symm
      have HKK := Lib.hid (show ∀ wr, cnt m ≠ 0 → Fr w5 wr (fun k => k = DB) → Lies wr VB 55 #[.slice (some ⟨CB, 0, none⟩) (cnt m) (cnt m)] ∧ wr.ownsRow w2.heap.size 40 1 (.slice (some ⟨CB, 0, none⟩) (cnt m) (cnt m)) (cnt m) RS ∧ (∀ (j : Nat) (u : Value), j < cnt m → RS[j]? = some u → WRow wr (fun _ => True) 3 1 u (wayL m j).length ((wayL m j).flatMap ic)) ∧ Below w2.heap.size w2 wr from fun wr h0 hf => by
        refine ⟨lies_fr HVW.out hf (hne1 VB _ _ HVW.out (by decide) h0), row_fr HRW.out hf (fun k hk => ?_), fun j u hj hu => (HLW.out j u hj hu).kept hf (fun b _ hb => ?_), HWB.out.trans (hf.below HWB.out.size (fun k hk => by omega))⟩
        · obtain ⟨_, _, cur, hc⟩ := row_block HRW.out hk
          exact hne1 k _ cur hc (by decide) h0
        · obtain ⟨_, _, cur, hc⟩ := wrow_lt (HLW.out j u hj hu) hb.symm
          exact hne1 b _ cur hc (by decide) h0)
      have HWBS := Lib.hid HWB.out
      clear hne1 HVW HRW HLW
      go_wp2_with fail
      go_loopw [7, 8, 9, 10, 33] (fun ov _ _ _ i wr => ∃ (k : Nat) (OV : List Value), k ≤ cnt m ∧ i = .int .i64 k ∧ wr.ownsRow w2.heap.size 4 1 (.slice (some ⟨DB, 0, none⟩) (cnt m) (cnt m)) (cnt m) (((List.range (cnt m)).map (old m k)).map Value.bool) ∧ wr.ownsRow w5.heap.size 40 1 ov OV.length OV ∧ OV.length = (grps m k).length ∧ (∀ (i : Nat) (u : Value) (g : List Nat), OV[i]? = some u → (grps m k)[i]? = some g → WRow wr (fun _ => True) 3 1 u g.length (g.flatMap ic)) ∧ Fr w5 wr (fun k => k = DB))
        (fun _ _ _ _ i _ => cnt m - (intOf i).toNat)
      case atStart => exact ⟨0, [], Nat.zero_le _, rfl, HDN.out, World.ownsRow_nil _ _ _ _, rfl, (fun i u g hu => by simp at hu), Fr.refl _ _⟩
      case round =>
        clear HDN
        obtain ⟨k, OV, hk, rfl, hdn, hov, hol, hlist, hfr⟩ := hrel
        have HDN := Lib.hid hdn
        have HOV := Lib.hid hov
        have HOL := Lib.hid hol
        have HLI := Lib.hid hlist
        have HFR := Lib.hid hfr
        have hgl := grps_le m k
        have hovl : OV.length ≤ k := by omega
        clear hdn hov hol hlist hfr
        by_cases hlt : k < cnt m
        · have h0 : cnt m ≠ 0 := by omega
          obtain ⟨b, hb⟩ : ∃ b, b = old m k k := ⟨_, rfl⟩
          have hcb : wr.cell? ⟨DB, k, none⟩ = some (.bool b) := by
            rw [HDN.out.cellAt _ (by omega), hb]
            simp [hlt]
          have HBK := Lib.hid hb
          clear hb
          cases b with
          | true =>
            go_wp2_with fail
            have hgs : grps m (k + 1) = grps m k := by rw [grps_succ, ← HBK.out, if_pos rfl, List.append_nil]
            have hos : (List.range (cnt m)).map (old m (k + 1)) = (List.range (cnt m)).map (old m k) := List.map_congr_left fun j _ => old_skip HBK.out.symm
            exact ⟨⟨k + 1, OV, by omega, by go_num, by rw [hos]; exact HDN.out, HOV.out, by rw [hgs]; exact HOL.out, by rw [hgs]; exact HLI.out, HFR.out⟩, by simp [intOf]; omega⟩
          | false =>
            go_wp2_with (refine wl_bs1 _ _ (bs_int k) _ rfl rfl rfl (fun w7 hb7 hl7 => ?_); have HN7 := Lib.hid hl7; have HB7 := Lib.hid hb7; clear hb7 hl7; simp only [Act.put, List.setIfInBounds_toArray, List.set_cons_zero, List.set_cons_succ])
            obtain ⟨wo, rfl⟩ : ∃ wo : World, wo = wr := ⟨_, rfl⟩
            have HDN7 := Lib.hid (show w7.ownsRow w2.heap.size 4 1 (.slice (some ⟨DB, 0, none⟩) (cnt m) (cnt m)) (cnt m) (((List.range (cnt m)).map (oldTo m k (k + 1))).map Value.bool) by rw [oldTo_start]; exact ownsRow_keep HDN.out HB7.out)
            have HGR := Lib.hid (own_one (base := wo.heap.size) ic_len HN7.out (Nat.le_refl _))
            have HF7 := Lib.hid (Fr.of_below HB7.out (fun k => k = DB))
            have hw5 : w5.heap.size ≤ wo.heap.size := HFR.out.size
            have HDNO := Lib.hid HDN.out
            clear HDN HN7 HB7 hcb
            go_loopw [9, 10] (fun gv hv wr => ∃ (h : Nat) (P : List Nat), k + 1 ≤ h ∧ h ≤ cnt m ∧ hv = .int .i64 h ∧ P = k :: (List.range h).filter (fun x => decide (k < x) && both m k x) ∧ P.length ≤ h + 1 ∧ wr.ownsRow wo.heap.size 3 1 gv P.length (P.flatMap ic) ∧ wr.ownsRow w2.heap.size 4 1 (.slice (some ⟨DB, 0, none⟩) (cnt m) (cnt m)) (cnt m) (((List.range (cnt m)).map (oldTo m k h)).map Value.bool) ∧ Fr wo wr (fun k => k = DB))
              (fun _ hv _ => cnt m - (intOf hv).toNat)
            case atStart => exact ⟨k + 1, [k], Nat.le_refl _, by omega, by go_num, by rw [range_filter_none (fun i hi => by rw [decide_eq_false (by omega), Bool.false_and])], by simp, HGR.out, HDN7.out, HF7.out⟩
            case round =>
              clear HGR HDN7 HF7
              obtain ⟨h, P, hkh, hh, rfl, hP, hPl, hgr, hdn, hfr⟩ := hrel
              have HP := Lib.hid hP
              have HGR := Lib.hid hgr
              have HDN := Lib.hid hdn
              have HFO := Lib.hid hfr
              clear hP hgr hdn hfr
              by_cases hlt2 : h < cnt m
              · have HRS := Lib.hid (range_filter_succ h (fun x => decide (k < x) && both m k x))
                obtain ⟨q1, q2, q3, q4⟩ := HKK.out wr h0 (HFR.out.trans HFO.out)
                have HQ := Lib.hid (And.intro q1 (And.intro q2 q3))
                clear q1 q2 q3 q4
                go_wp2_with fail
                refine (has_any hn HQ.out.1 HQ.out.2.1 (f := k) (h := h) hlt hn (fun v hv => HQ.out.2.2 k v hlt hv)).mono ?_
                rintro en wa ⟨rfl, hba⟩
                have HBA := Lib.hid hba
                have HQA := Lib.hid (show Lies wa VB 55 #[.slice (some ⟨CB, 0, none⟩) (cnt m) (cnt m)] ∧ wa.ownsRow w2.heap.size 40 1 (.slice (some ⟨CB, 0, none⟩) (cnt m) (cnt m)) (cnt m) RS ∧ (∀ (j : Nat) (u : Value), j < cnt m → RS[j]? = some u → WRow wa (fun _ => True) 3 1 u (wayL m j).length ((wayL m j).flatMap ic)) from ⟨HQ.out.1.below hba HQ.out.1.lt, ownsRow_keep HQ.out.2.1 hba, fun j u hj hu => (HQ.out.2.2 j u hj hu).kept (m := fun _ => False) (Fr.of_below hba _) (fun _ _ _ h => h)⟩)
                clear hba HQ
                obtain ⟨b1, hb1⟩ : ∃ b, b = (wayL m k).contains h := ⟨_, rfl⟩
                rw [← hb1]
                have HB1 := Lib.hid hb1
                clear hb1
                cases b1 with
                | false =>
                  have hbo : both m k h = false := by unfold both; rw [← HB1.out, Bool.false_and]
                  go_wp2_with fail
                  exact ⟨⟨h + 1, P, by omega, by omega, by go_num, by
                    have h1 := HRS.out
                    rw [hbo, Bool.and_false, if_neg (by simp), List.append_nil] at h1
                    rw [h1]; exact HP.out, by omega, ownsRow_keep HGR.out HBA.out, by rw [oldTo_no hbo]; exact ownsRow_keep HDN.out HBA.out, HFO.out.trans (Fr.of_below HBA.out _)⟩, by simp [intOf]; omega⟩
                | true =>
                  go_wp2_with fail
                  refine (has_any hn HQA.out.1 HQA.out.2.1 (f := h) (h := k) hlt2 hn (fun v hv => HQA.out.2.2 h v hlt2 hv)).mono ?_
                  rintro en wb ⟨rfl, hbb⟩
                  have HBB := Lib.hid (bt HBA.out hbb)
                  clear hbb HQA HBA
                  obtain ⟨b2, hb2⟩ : ∃ b, b = (wayL m h).contains k := ⟨_, rfl⟩
                  rw [← hb2]
                  have HB2 := Lib.hid hb2
                  clear hb2
                  have hbo : both m k h = b2 := by unfold both; rw [← HB1.out, ← HB2.out, Bool.true_and]
                  have HBO := Lib.hid hbo
                  clear hbo
                  cases b2 with
                  | false =>
                    go_wp2_with fail
                    exact ⟨⟨h + 1, P, by omega, by omega, by go_num, by
                      have h1 := HRS.out
                      rw [HBO.out, Bool.and_false, if_neg (by simp), List.append_nil] at h1
                      rw [h1]; exact HP.out, by omega, ownsRow_keep HGR.out HBB.out, by rw [oldTo_no HBO.out]; exact ownsRow_keep HDN.out HBB.out, HFO.out.trans (Fr.of_below HBB.out _)⟩, by simp [intOf]; omega⟩
                  | true =>
                    have HGRB := Lib.hid (ownsRow_keep HGR.out HBB.out)
                    have HDNB := Lib.hid (ownsRow_keep HDN.out HBB.out)
                    have HFB := Lib.hid (HFO.out.trans (Fr.of_below HBB.out _))
                    clear HGR HDN HFO
                    go_wp2_with (first | (refine wl_rowset1 (v := .bool true) HDNB.out hlt2 _ _ rfl rfl rfl rfl rfl size_bool rfl (fun wc hsc hgc => ?_); have HDNC := Lib.hid hsc; have HGC := Lib.hid hgc; have HGRC := Lib.hid (row_frT HGRB.out (FrT.grown HDNB.out hgc) (by decide)); have HFC := Lib.hid (HFB.out.trans ((Fr.of_grown hgc).mono (fun q _ e => (by injection e) : ∀ q, q < wb.heap.size → some q = some DB → q = DB))); clear hsc hgc; try simp only [Act.put]) | (refine wl_bs1 _ _ (bs_int h) _ rfl rfl rfl (fun wd hbd hld => ?_); have HND := Lib.hid hld; have HBD := Lib.hid hbd; clear hbd hld; simp only [Act.put, List.setIfInBounds_toArray, List.set_cons_zero, List.set_cons_succ]) | (refine wl_app _ _ rfl rfl Try.underlying40 info_int (by decide) rfl (ownsRow_keep HGRC.out HBD.out) ic_len rfl (sl_one (en := ic) HND.out) (fun y _ => oneIc y) (by simp only [List.length_singleton]; unfold maxLen; omega) (by simp only [List.length_singleton]; omega) (Nat.le_trans HFC.out.size HBD.out.size) (fun v' w8 hr8 hg8 hv8 => ?_); have HR8 := Lib.hid hr8; have HG8 := Lib.hid hg8; clear hr8 hg8 hv8; try simp only [Act.put]))
                    have hfD : Fr wo wd (fun k => k = DB) := HFC.out.trans (Fr.of_below HBD.out _)
                    have hgD := ownsRow_keep HGRC.out HBD.out
                    exact ⟨⟨h + 1, P ++ [h], by omega, by omega, by go_num, by
                      have h1 := HRS.out
                      rw [HBO.out, decide_eq_true (show k < h by omega), Bool.true_and, if_pos rfl] at h1
                      rw [h1, HP.out]; rfl, by rw [List.length_append, List.length_singleton]; omega, by rw [List.length_append, List.flatMap_append]; exact HR8.out, by
                      have h2 := row_frT (ownsRow_keep HDNC.out HBD.out) (FrT.grown hgD HG8.out) (by decide)
                      rw [show Value.bool true = (Value.bool) true from rfl, ← List.map_set, oldTo_yes HBO.out (by omega)] at h2
                      exact h2, fr_grown hfD hgD HG8.out⟩, by simp [intOf]; omega⟩
              · obtain rfl : h = cnt m := by omega
                obtain ⟨sg, cg, rfl, _, _⟩ := row_form HGR.out
                have hP2 : P = grp m k := HP.out
                have hdb : ∀ (b : Nat) (e : TypeId) (cur : Array Value), wo.heap[b]? = some (.cells cur e (0, 0)) → e ≠ 4 → b ≠ DB := fun b e cur hb he hbd => by
                  subst hbd
                  obtain ⟨_, _, cur', hc⟩ := row_block HDNO.out (k := b) rfl
                  rw [hc] at hb
                  injection hb with hb
                  injection hb with _ h2 _
                  exact he h2.symm
                have HOVR := Lib.hid (row_fr HOV.out HFO.out (fun q hq e => by
                  obtain ⟨_, _, cur, hc⟩ := row_block HOV.out hq
                  exact hdb q _ cur hc (by decide) e))
                have HLIR := Lib.hid (fun (i : Nat) (u : Value) (g : List Nat) (hu : OV[i]? = some u) (hg : (grps m k)[i]? = some g) => (HLI.out i u g hu hg).kept HFO.out (fun b _ hb e => by
                  obtain ⟨_, _, cur, hc⟩ := wrow_lt (HLI.out i u g hu hg) hb.symm
                  exact hdb b _ cur hc (by decide) e))
                have HFRR := Lib.hid (HFR.out.trans HFO.out)
                clear hdb HOV HLI HFR HDNO HFO
                go_wp2_with (first | (refine wl_bs1 _ _ (bs_sl sg P.length cg) _ rfl rfl rfl (fun wd hbd hld => ?_); have HND := Lib.hid hld; have HBD := Lib.hid hbd; clear hbd hld; simp only [Act.put, List.setIfInBounds_toArray, List.set_cons_zero, List.set_cons_succ]) | (refine wl_app (v := u7) _ _ rfl rfl Try.underlying55 info_li2 (by decide) rfl (ownsRow_keep HOVR.out HBD.out) (en := vc) (fun _ => rfl) rfl (sl_one (en := vc) HND.out) (by simp [vc, Value.oneCell']) (by simp only [List.length_singleton]; unfold maxLen; omega) (by simp only [List.length_singleton]; omega) (Nat.le_trans HFRR.out.size HBD.out.size) (fun v' w8 hr8 hg8 hv8 => ?_); have HR8 := Lib.hid hr8; have HG8 := Lib.hid hg8; clear hr8 hg8 hv8; try simp only [Act.put]))
                have hf8 : FrT [40] wd w8 := FrT.grown (ownsRow_keep HOVR.out HBD.out) HG8.out
                have hgs : grps m (k + 1) = grps m k ++ [grp m k] := by rw [grps_succ, ← HBK.out, if_neg (by simp)]
                exact ⟨⟨k + 1, OV ++ [.slice sg P.length cg], by omega, by go_num, by
                  have h2 := row_frT (ownsRow_keep HDN.out HBD.out) hf8 (by decide)
                  rw [oldTo_end] at h2
                  exact h2, by rw [List.length_append]; exact HR8.out, by rw [hgs, List.length_append, List.length_append, HOL.out]; rfl, fun i u g hu hg => by
                  rw [hgs] at hg
                  by_cases hi : i < OV.length
                  · rw [List.getElem?_append_left hi] at hu
                    rw [List.getElem?_append_left (by rw [← HOL.out]; exact hi)] at hg
                    exact wrow_frT ((HLIR.out i u g hu hg).kept (m := fun _ => False) (Fr.of_below HBD.out _) (fun _ _ _ h => h)) hf8 (by decide)
                  · have hi2 : i = OV.length := by
                      have := (List.getElem?_eq_some_iff.1 hu).1
                      rw [List.length_append, List.length_singleton] at this
                      omega
                    subst hi2
                    rw [List.getElem?_append_right (Nat.le_refl _), Nat.sub_self] at hu
                    rw [List.getElem?_append_right (by rw [HOL.out]; exact Nat.le_refl _), HOL.out, Nat.sub_self] at hg
                    simp only [List.getElem?_cons_zero, Option.some.injEq] at hu hg
                    subst hu
                    rw [← hg, ← hP2]
                    exact wrow_frT ((WRow.of_own (own := fun _ => True) HGR.out (fun _ _ => trivial)).kept (m := fun _ => False) (Fr.of_below HBD.out _) (fun _ _ _ h => h)) hf8 (by decide), fr_grown (HFRR.out.trans (Fr.of_below HBD.out _)) (ownsRow_keep HOVR.out HBD.out) HG8.out⟩, by simp [intOf]; omega⟩
        · obtain rfl : k = cnt m := by omega
          go_wp2_with fail
          go_ret
          have hbel : Below w2.heap.size w2 wr := HWBS.out.trans (HFR.out.below HWBS.out.size (fun k hk => by omega))
          exact ⟨_, OV, rfl, own_sl (sz := 1) (L := OV) (en := vc) (fun _ => rfl) (by rw [flat_vc]; exact HOV.out), HOL.out, fun i u g hu hg => (HLI.out i u g hu hg).sl ic_len, hbel⟩
end Go.Proofs.Ytjafmclladiblaa.Gr
