/- Graph: the law GraphDepths answers true. -/
import Derived.Test.YtjafmclladiblaaHe
namespace Go.Proofs.Ytjafmclladiblaa.Gr
open Go Go.RowKit Go.Lib Kt Fm

/-! ### plain -/
theorem imp_calls {m : Mod} {f h : Nat} (hf : f < (fk m 0).length) : callsB m f h = false := by
  have : codeOf m f = none := by
    unfold codeOf
    rw [if_neg]
    intro e
    have h1 : (fimps m).length = (fk m 0).length := rfl
    omega
  unfold callsB
  rw [this, Bool.and_false]
theorem bad_imp {m : Mod} {f : Nat} (hb : ¬ Good m f) : (fk m 0).length ≤ f := by
  refine Nat.le_of_not_lt fun hf => hb fun h hh w => ?_
  have no : ∀ g, ¬ Way (cnt m) (callsB m) f g := fun g w => by
    obtain ⟨x, _, e, _⟩ := w.first
    rw [imp_calls hf] at e
    cases e
  rcases hh with rfl | hh
  · exact no _ w
  · exact no _ hh
theorem bad_step {m : Mod} {f : Nat} (hb : ¬ Good m f) : ∃ g, g ∈ callsL m f ∧ ¬ Good m g := by
  have : ∃ h, (h = f ∨ Way (cnt m) (callsB m) f h) ∧ Way (cnt m) (callsB m) h h := by
    refine Classical.byContradiction fun hn => hb fun h hh w => hn ⟨h, hh, w⟩
  obtain ⟨h, hh, w⟩ := this
  have hw : Way (cnt m) (callsB m) f h := by
    rcases hh with rfl | hh
    · exact w
    · exact hh
  obtain ⟨g, hg, e, hr⟩ := hw.first
  refine ⟨g, mem_callsL.2 ⟨hg, e⟩, fun hgood => ?_⟩
  rcases hr with rfl | hr
  · exact hgood _ (Or.inl rfl) w
  · exact hgood _ (Or.inr hr) w
theorem docFold_none {D : Nat → Option Nat} {g : Nat} (hg : D g = none) : ∀ (l : List Nat) (b : Nat), g ∈ l → docFold D l b = none
  | [], _, h => by cases h
  | x :: r, b, h => by
    rw [docFold]
    rcases List.mem_cons.1 h with rfl | h
    · rw [hg]
    · cases D x with
      | none => rfl
      | some d => exact docFold_none hg r _ h
theorem docFold_some {D : Nat → Option Nat} {g : Nat → Nat} : ∀ (l : List Nat) (b : Nat), (∀ h ∈ l, D h = some (g h)) → docFold D l b = some (l.foldl (fun n h => max n (g h)) b)
  | [], _, _ => rfl
  | x :: r, b, h => by
    rw [docFold, h x (List.mem_cons_self ..), List.foldl_cons]
    exact docFold_some r _ (fun y hy => h y (List.mem_cons_of_mem _ hy))
theorem docD_bad {m : Mod} : ∀ (k f : Nat), ¬ Good m f → docD m k f = none
  | 0, f, h => by
    have := bad_imp h
    unfold docD
    rw [if_neg (by omega)]
  | k + 1, f, h => by
    have := bad_imp h
    obtain ⟨g, hg, hb⟩ := bad_step h
    rw [docD, if_neg (by omega), docFold_none (docD_bad k g hb) _ _ hg]
    rfl
theorem docD_good {m : Mod} : ∀ (k f : Nat), f < cnt m → Good m f → mu m f < k → docD m k f = some (dep m f)
  | 0, f, _, _, h => by omega
  | k + 1, f, hf, hg, h => by
    rw [docD, dep_eq hf hg]
    by_cases hi : f < (fk m 0).length
    · rw [if_pos hi, if_pos hi]
    · rw [if_neg hi, if_neg hi, docFold_some (g := dep m) _ _ (fun x hx => docD_good k x (mem_callsL.1 hx).1 (hg.step hf hx) (by have := mu_lt hg hf hx; omega))]
      rfl
open Classical in
theorem docV_told {m : Mod} {f : Nat} (hf : f < cnt m) : docV (docD m (cnt m + 1) f) = if Good m f then (dep m f : Int) else -1 := by
  by_cases h : Good m f
  · rw [if_pos h, docD_good _ _ hf h (by have := wayL_le m f; unfold mu; omega)]
    rfl
  · rw [if_neg h, docD_bad _ _ h]
    rfl

set_option maxRecDepth 100000 in
set_option maxHeartbeats 16000000 in
theorem law_depths {W : World} {m : Mod} (hm : ModOk W m) (f : Int) :
    Calls Try.prog 5 #[.agg m.cs.toArray, .int .i64 f] W fun e w' => e = .returned (.bool true) ∧ Below W.heap.size W w' := by
  have HM := Lib.hid hm
  clear hm
  have hci : (cnt m : Int) ≤ 9007199254740992 := by
    have := cnt_lim m
    have h1 : m.funcs.length ≤ 1048576 := HM.out.2.2.1.2.2
    have h2 : m.imps.length ≤ 1048576 := HM.out.2.1.2.2
    omega
  go_enter Try.func5, Try.ntmps5
  go_wp2_with (first | (refine wl_box m.cs _ rfl rfl rfl (fun w1 hb1 hl1 => ?_); have HB1 := Lib.hid hb1; have HL1 := Lib.hid hl1; clear hb1 hl1; simp only [Act.put, List.setIfInBounds_toArray, List.set_cons_zero, List.set_cons_succ]) | (refine wpList_load_mid rfl 33 _ rfl W.heap.size 0 rfl m.cs _ (lies_range HL1.out) Try.underlying33 rfl sizeMod ?_; simp only [Act.put, List.setIfInBounds_toArray, List.set_cons_zero, List.set_cons_succ]))
  refine known_any.mono ?_
  rintro en w2 ⟨rfl, hb2⟩
  have HB2 := Lib.hid (bt HB1.out hb2)
  have HL2 := Lib.hid (HL1.out.below hb2 HL1.out.lt)
  clear hb2 HB1 HL1
  go_wp2_with (refine wpList_load_mid rfl 33 _ rfl W.heap.size 0 rfl m.cs _ (lies_range HL2.out) Try.underlying33 rfl sizeMod ?_; simp only [Act.put, List.setIfInBounds_toArray, List.set_cons_zero, List.set_cons_succ])
  refine (rlen_any (HM.out.later HB2.out)).mono ?_
  rintro en w3 ⟨rfl, hb5⟩
  have HB3 := Lib.hid (bt HB2.out hb5)
  have HL3 := Lib.hid (HL2.out.below hb5 HL2.out.lt)
  clear hb5 HB2 HL2
  go_wp2_with (refine wpList_load_mid rfl 33 _ rfl W.heap.size 0 rfl m.cs _ (lies_range HL3.out) Try.underlying33 rfl sizeMod ?_; simp only [Act.put, List.setIfInBounds_toArray, List.set_cons_zero, List.set_cons_succ])
  refine (heavy_any (HM.out.later HB3.out)).mono ?_
  rintro en w4 ⟨⟨b, rfl, hbv⟩, hb3⟩
  have HB4 := Lib.hid (bt HB3.out hb3)
  have HL4 := Lib.hid (HL3.out.below hb3 HL3.out.lt)
  clear hb3 HB3 HL3 hbv
  cases b with
  | true =>
    go_wp2_with fail
    go_ret
    exact ⟨rfl, HB4.out⟩
  | false =>
  by_cases hn8 : 8 < cnt m
  · go_wp2_with fail
    go_ret
    exact ⟨rfl, HB4.out⟩
  have hn : cnt m ≤ 8 := by omega
  clear hn8
  have hn4 : cnt m ≤ 1000 := by omega
  go_wp2_with (refine wpList_load_mid rfl 33 _ rfl W.heap.size 0 rfl m.cs _ (lies_range HL4.out) Try.underlying33 rfl sizeMod ?_; simp only [Act.put, List.setIfInBounds_toArray, List.set_cons_zero, List.set_cons_succ])
  refine (gof_any (HM.out.later HB4.out)).mono ?_
  rintro en w5 ⟨G, rfl, hg, hb4⟩
  have HB5 := Lib.hid (bt HB4.out hb4)
  have HL5 := Lib.hid (HL4.out.below hb4 HL4.out.lt)
  have HG5 := Lib.hid hg
  clear hb4 hg HB4 HL4
  by_cases hr : 0 ≤ f ∧ f < (cnt m : Int)
  · obtain ⟨hr0, hr1⟩ := hr
    have q1 : decide (f < 0) = false := decide_eq_false (by omega)
    have q2 : decide ((cnt m : Int) ≤ f) = false := decide_eq_false (by omega)
    have q3 : decide (8 < (cnt m : Int)) = false := decide_eq_false (by omega)
    have Q := Lib.hid (And.intro q1 (And.intro q2 q3))
    clear q1 q2 q3
    go_wp2_with fail
    simp only [Q.out.1, Q.out.2.1, Q.out.2.2, Bool.or_false]
    clear Q
    obtain ⟨w6, hw6⟩ : ∃ w6 : World, w6 = w5 := ⟨_, rfl⟩
    rw [← hw6] at HB5 HL5 HG5 ⊢
    clear hw6
    go_loopw [9, 10, 11, 12, 45] (fun _ _ _ _ iv wr => ∃ (i : Nat), i ≤ cnt m ∧ iv = .int .i64 i ∧ Below w6.heap.size w6 wr)
      (fun _ _ _ _ iv _ => cnt m - (intOf iv).toNat)
    case atStart => exact ⟨0, Nat.zero_le _, rfl, Below.refl _ _⟩
    case round =>
      obtain ⟨i, hi, rfl, hB⟩ := hrel
      have HBR := Lib.hid hB
      have HB7 := Lib.hid (bt HB5.out hB)
      have HL7 := Lib.hid (HL5.out.below hB HL5.out.lt)
      have HG7 := Lib.hid (HG5.out.later hB)
      clear hB
      by_cases hlt : i < cnt m
      · go_wp2_with fail
        refine (depth_any HG7.out hn4 i).mono ?_
        rintro en w8 ⟨⟨ok, rfl, hok⟩, hb⟩
        rw [Int.toNat_natCast] at hok ⊢
        have hok2 : ok = true ↔ Good m i := ⟨fun e => (hok.1 e).2.2, fun g => hok.2 ⟨by omega, by omega, g⟩⟩
        have HOK := Lib.hid hok2
        have HB8 := Lib.hid (bt HB7.out hb)
        have HL8 := Lib.hid (HL7.out.below hb HL7.out.lt)
        have HBR8 := Lib.hid (bt HBR.out hb)
        have hd := dep_le m i
        clear hb hok hok2 HB7 HL7 HG7 HBR
        cases ok with
        | true =>
          have HGD := Lib.hid (HOK.out.1 rfl)
          clear HOK
          rw [if_pos rfl]
          go_wp2_with (refine wpList_load_mid rfl 33 _ rfl W.heap.size 0 rfl m.cs _ (lies_range HL8.out) Try.underlying33 rfl sizeMod ?_; simp only [Act.put, List.setIfInBounds_toArray, List.set_cons_zero, List.set_cons_succ])
          refine (rdepth_any hn4 (cnt m + 1) i _ (by omega) (by omega) (HM.out.later HB8.out)).mono ?_
          rintro en w9 ⟨rfl, hb⟩
          rw [docV_told hlt, if_pos HGD.out]
          have HBR9 := Lib.hid (bt HBR8.out hb)
          clear hb HB8 HL8 HBR8
          generalize dep m i = d at hd ⊢
          go_wp2_with fail
          exact ⟨⟨i + 1, by omega, by go_num, HBR9.out⟩, by simp [intOf]; omega⟩
        | false =>
          have HGD := Lib.hid (show ¬ Good m i from fun g => by have := HOK.out.2 g; cases this)
          clear HOK
          rw [if_neg (by simp)]
          go_wp2_with (refine wpList_load_mid rfl 33 _ rfl W.heap.size 0 rfl m.cs _ (lies_range HL8.out) Try.underlying33 rfl sizeMod ?_; simp only [Act.put, List.setIfInBounds_toArray, List.set_cons_zero, List.set_cons_succ])
          refine (rdepth_any hn4 (cnt m + 1) i _ (by omega) (by omega) (HM.out.later HB8.out)).mono ?_
          rintro en w9 ⟨rfl, hb⟩
          rw [docV_told hlt, if_neg HGD.out]
          have HBR9 := Lib.hid (bt HBR8.out hb)
          clear hb HB8 HL8 HBR8
          generalize dep m i = d at hd ⊢
          go_wp2_with fail
          exact ⟨⟨i + 1, by omega, by go_num, HBR9.out⟩, by simp [intOf]; omega⟩
      · obtain rfl : i = cnt m := by omega
        go_wp2_with fail
        go_ret
        exact ⟨rfl, HB7.out⟩
  · have hd := Lib.hid (depth_any HG5.out hn4 f)
    by_cases h0 : f < 0
    · go_wp2_with fail
      refine hd.out.mono ?_
      rintro en w6 ⟨⟨ok, rfl, hok⟩, hb⟩
      obtain rfl : ok = false := by
        cases ok with
        | false => rfl
        | true => exact absurd ⟨(hok.1 rfl).1, (hok.1 rfl).2.1⟩ hr
      go_wp2_with fail
      go_ret
      exact ⟨rfl, bt HB5.out hb⟩
    · have h1 : (cnt m : Int) ≤ f := by omega
      go_wp2_with fail
      refine hd.out.mono ?_
      rintro en w6 ⟨⟨ok, rfl, hok⟩, hb⟩
      obtain rfl : ok = false := by
        cases ok with
        | false => rfl
        | true => exact absurd ⟨(hok.1 rfl).1, (hok.1 rfl).2.1⟩ hr
      go_wp2_with fail
      go_ret
      exact ⟨rfl, bt HB5.out hb⟩
end Go.Proofs.Ytjafmclladiblaa.Gr
