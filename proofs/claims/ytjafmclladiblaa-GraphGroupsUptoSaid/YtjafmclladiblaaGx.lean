/- Graph: the document's Depth; places. -/
import Derived.Test.YtjafmclladiblaaGw
namespace Go.Proofs.Ytjafmclladiblaa.Gr
open Go Go.RowKit Go.Lib Kt Fm

/-! ### the document's Depth, plain -/
def docFold (g : Nat → Option Nat) : List Nat → Nat → Option Nat
  | [], b => some b
  | h :: r, b => match g h with
    | none => none
    | some d => docFold g r (max b d)
theorem docFold_append (g : Nat → Option Nat) : ∀ (l r : List Nat) (b : Nat), docFold g (l ++ r) b = (docFold g l b).bind (docFold g r)
  | [], r, b => rfl
  | h :: l, r, b => by
    rw [List.cons_append, docFold, docFold]
    cases g h with
    | none => rfl
    | some d => exact docFold_append g l r _
def docD (m : Mod) : Nat → Nat → Option Nat
  | 0, f => if f < (fk m 0).length then some 0 else none
  | k + 1, f => if f < (fk m 0).length then some 0 else (docFold (docD m k) (callsL m f) 0).map (· + 1)
def docV (o : Option Nat) : Int := match o with | some d => (d : Int) | none => -1
theorem range_split (p : Nat → Bool) (h : Nat) : ∀ n, h ≤ n → ∃ r, (List.range n).filter p = (List.range h).filter p ++ r
  | 0, hn => ⟨[], by rw [show h = 0 by omega, List.append_nil]⟩
  | n + 1, hn => by
    by_cases e : h = n + 1
    · exact ⟨[], by rw [e, List.append_nil]⟩
    · obtain ⟨r, hr⟩ := range_split p h n (by omega)
      exact ⟨r ++ if p n then [n] else [], by rw [range_filter_succ, hr, List.append_assoc]⟩
theorem docFold_le {g : Nat → Option Nat} {c : Nat} (hg : ∀ h d, g h = some d → d ≤ c) : ∀ (l : List Nat) (b d : Nat), b ≤ c → docFold g l b = some d → d ≤ c
  | [], b, d, hb, h => by injection h with h; omega
  | x :: l, b, d, hb, h => by
    rw [docFold] at h
    cases hx : g x with
    | none => rw [hx] at h; cases h
    | some y =>
      rw [hx] at h
      exact docFold_le hg l _ d (Nat.max_le.2 ⟨hb, hg x y hx⟩) h
theorem docD_le (m : Mod) : ∀ k f d, docD m k f = some d → d ≤ k
  | 0, f, d, h => by
    unfold docD at h
    split at h
    · injection h with h; omega
    · cases h
  | k + 1, f, d, h => by
    unfold docD at h
    split at h
    · injection h with h; omega
    · cases hf : docFold (docD m k) (callsL m f) 0 with
      | none => rw [hf] at h; cases h
      | some y =>
        rw [hf] at h
        have h : y + 1 = d := by simpa using h
        have := docFold_le (fun h d => docD_le m k h d) _ 0 y (Nat.zero_le _) hf
        omega
set_option maxRecDepth 100000 in
set_option maxHeartbeats 16000000 in
theorem rdepth_any {m : Mod} (hn : cnt m ≤ 1000) : ∀ (k f : Nat) (W : World), k ≤ 1001 → f ≤ 1000 → ModOk W m →
    Calls Try.prog 23 #[.agg m.cs.toArray, .int .i64 f, .int .i64 k] W fun e w' => e = .returned (.int .i64 (docV (docD m k f))) ∧ Below W.heap.size W w' := by
  intro k
  induction k with
  | zero =>
    intro f W hk hf hm
    have HM := Lib.hid hm
    clear hm
    have hnf : (fimps m).length ≤ cnt m := by unfold cnt; omega
    by_cases him : f < (fimps m).length
    · have hd : docV (docD m 0 f) = 0 := by unfold docD; rw [if_pos (show f < (fk m 0).length from him)]; rfl
      rw [hd]
      go_enter Try.func23, Try.ntmps23
      go_wp2_with (first | (refine wl_box m.cs _ rfl rfl rfl (fun w1 hb1 hl1 => ?_); have HB1 := Lib.hid hb1; have HL1 := Lib.hid hl1; clear hb1 hl1; simp only [Act.put, List.setIfInBounds_toArray, List.set_cons_zero, List.set_cons_succ]) | (refine wpList_load_mid rfl 33 _ rfl W.heap.size 0 rfl m.cs _ (lies_range HL1.out) Try.underlying33 rfl sizeMod ?_; simp only [Act.put, List.setIfInBounds_toArray, List.set_cons_zero, List.set_cons_succ]))
      refine (rimp_any (HM.out.later HB1.out)).mono ?_
      rintro en w2 ⟨rfl, hb2⟩
      have HB2 := Lib.hid (bt HB1.out hb2)
      clear hb2
      go_wp2_with fail
      go_ret
      exact ⟨rfl, HB2.out⟩
    · have him' : (fimps m).length ≤ f := by omega
      have hd : docV (docD m 0 f) = -1 := by unfold docD; rw [if_neg (show ¬ f < (fk m 0).length from him)]; rfl
      rw [hd]
      clear hd
      go_enter Try.func23, Try.ntmps23
      go_wp2_with (first | (refine wl_box m.cs _ rfl rfl rfl (fun w1 hb1 hl1 => ?_); have HB1 := Lib.hid hb1; have HL1 := Lib.hid hl1; clear hb1 hl1; simp only [Act.put, List.setIfInBounds_toArray, List.set_cons_zero, List.set_cons_succ]) | (refine wpList_load_mid rfl 33 _ rfl W.heap.size 0 rfl m.cs _ (lies_range HL1.out) Try.underlying33 rfl sizeMod ?_; simp only [Act.put, List.setIfInBounds_toArray, List.set_cons_zero, List.set_cons_succ]))
      refine (rimp_any (HM.out.later HB1.out)).mono ?_
      rintro en w2 ⟨rfl, hb2⟩
      have HB2 := Lib.hid (bt HB1.out hb2)
      clear hb2
      go_wp2_with fail
      go_ret
      exact ⟨rfl, HB2.out⟩
  | succ k ih =>
    intro f W hk hf hm
    have HIH := Lib.hid ih
    have HM := Lib.hid hm
    clear hm ih
    have hnf : (fimps m).length ≤ cnt m := by unfold cnt; omega
    have hk0 : ¬ (k : Int) + 1 = 0 := by omega
    by_cases him : f < (fimps m).length
    · have hd : docV (docD m (k + 1) f) = 0 := by unfold docD; rw [if_pos (show f < (fk m 0).length from him)]; rfl
      rw [hd]
      go_enter Try.func23, Try.ntmps23
      go_wp2_with (first | (refine wl_box m.cs _ rfl rfl rfl (fun w1 hb1 hl1 => ?_); have HB1 := Lib.hid hb1; have HL1 := Lib.hid hl1; clear hb1 hl1; simp only [Act.put, List.setIfInBounds_toArray, List.set_cons_zero, List.set_cons_succ]) | (refine wpList_load_mid rfl 33 _ rfl W.heap.size 0 rfl m.cs _ (lies_range HL1.out) Try.underlying33 rfl sizeMod ?_; simp only [Act.put, List.setIfInBounds_toArray, List.set_cons_zero, List.set_cons_succ]))
      refine (rimp_any (HM.out.later HB1.out)).mono ?_
      rintro en w2 ⟨rfl, hb2⟩
      have HB2 := Lib.hid (bt HB1.out hb2)
      clear hb2
      go_wp2_with fail
      go_ret
      exact ⟨rfl, HB2.out⟩
    · have him' : (fimps m).length ≤ f := by omega
      have HDE := Lib.hid (show docD m (k + 1) f = (docFold (docD m k) (callsL m f) 0).map (· + 1) by rw [docD, if_neg (show ¬ f < (fk m 0).length from him)])
      go_enter Try.func23, Try.ntmps23
      go_wp2_with (first | (refine wl_box m.cs _ rfl rfl rfl (fun w1 hb1 hl1 => ?_); have HB1 := Lib.hid hb1; have HL1 := Lib.hid hl1; clear hb1 hl1; simp only [Act.put, List.setIfInBounds_toArray, List.set_cons_zero, List.set_cons_succ]) | (refine wpList_load_mid rfl 33 _ rfl W.heap.size 0 rfl m.cs _ (lies_range HL1.out) Try.underlying33 rfl sizeMod ?_; simp only [Act.put, List.setIfInBounds_toArray, List.set_cons_zero, List.set_cons_succ]))
      refine (rimp_any (HM.out.later HB1.out)).mono ?_
      rintro en w2 ⟨rfl, hb2⟩
      have HB2 := Lib.hid (bt HB1.out hb2)
      have HL2 := Lib.hid (HL1.out.below hb2 HL1.out.lt)
      clear hb2 HB1 HL1
      go_wp2_with fail
      simp only [show ((k : Int) + 1 == 0) = false from beq_eq_false_iff_ne.2 (by omega)]
      go_loopw [7, 8, 9] (fun bv hv _ wr => ∃ (h b : Nat), h ≤ cnt m ∧ hv = .int .i64 h ∧ bv = .int .i64 b ∧ b ≤ 1001 ∧ docFold (docD m k) ((List.range h).filter (callsB m f)) 0 = some b ∧ Lies wr W.heap.size 33 m.cs.toArray ∧ Below W.heap.size W wr)
        (fun _ hv _ _ => cnt m - (intOf hv).toNat)
      case atStart => exact ⟨0, 0, Nat.zero_le _, rfl, rfl, Nat.zero_le _, rfl, HL2.out, HB2.out⟩
      case round =>
        clear HL2 HB2
        obtain ⟨h, b, hh, rfl, rfl, hb1, hfold, hL, hB⟩ := hrel
        have HFO := Lib.hid hfold
        have HL := Lib.hid hL
        have HB := Lib.hid hB
        clear hfold hL hB
        go_wp2_with (refine wpList_load_mid rfl 33 _ rfl W.heap.size 0 rfl m.cs _ (lies_range HL.out) Try.underlying33 rfl sizeMod ?_; simp only [Act.put, List.setIfInBounds_toArray, List.set_cons_zero, List.set_cons_succ])
        refine (rlen_any (HM.out.later HB.out)).mono ?_
        rintro en w3 ⟨rfl, hb3⟩
        have HB3 := Lib.hid (bt HB.out hb3)
        have HL3 := Lib.hid (HL.out.below hb3 HL.out.lt)
        clear hb3 HB HL
        by_cases hlt : h < cnt m
        · have HRS := Lib.hid (range_filter_succ h (callsB m f))
          go_wp2_with (refine wpList_load_mid rfl 33 _ rfl W.heap.size 0 rfl m.cs _ (lies_range HL3.out) Try.underlying33 rfl sizeMod ?_; simp only [Act.put, List.setIfInBounds_toArray, List.set_cons_zero, List.set_cons_succ])
          refine (rcalls_any (HM.out.later HB3.out) (f := f) (h := h) (by omega) (by omega)).mono ?_
          rintro en w4 ⟨rfl, hb4⟩
          have HB4 := Lib.hid (bt HB3.out hb4)
          have HL4 := Lib.hid (HL3.out.below hb4 HL3.out.lt)
          clear hb4 HB3 HL3
          obtain ⟨c, hc⟩ : ∃ c, c = callsB m f h := ⟨_, rfl⟩
          rw [← hc]
          have HC := Lib.hid hc
          clear hc
          cases c with
          | false =>
            go_wp2_with fail
            exact ⟨⟨h + 1, b, by omega, by go_num, rfl, hb1, by rw [HRS.out, ← HC.out, if_neg (by simp), List.append_nil]; exact HFO.out, HL4.out, HB4.out⟩, by simp [intOf]; omega⟩
          | true =>
            go_wp2_with (refine wpList_load_mid rfl 33 _ rfl W.heap.size 0 rfl m.cs _ (lies_range HL4.out) Try.underlying33 rfl sizeMod ?_; simp only [Act.put, List.setIfInBounds_toArray, List.set_cons_zero, List.set_cons_succ])
            refine (HIH.out h w4 (by omega) (by omega) (HM.out.later HB4.out)).mono ?_
            rintro en w5 ⟨rfl, hb5⟩
            have HB5 := Lib.hid (bt HB4.out hb5)
            have HL5 := Lib.hid (HL4.out.below hb5 HL4.out.lt)
            clear hb5 HB4 HL4
            cases hdd : docD m k h with
            | none =>
              have HND := Lib.hid (show docV (docD m (k + 1) f) = -1 by
                rw [HDE.out]
                obtain ⟨r, hr⟩ := range_split (callsB m f) (h + 1) (cnt m) (by omega)
                rw [callsL, hr, docFold_append, HRS.out, ← HC.out, if_pos rfl, docFold_append, HFO.out, Option.bind_some, docFold, hdd]
                rfl)
              dsimp only [docV]
              go_wp2_with fail
              go_ret
              exact ⟨by rw [HND.out]; rfl, HB5.out⟩
            | some d =>
              have hdl := docD_le m k h d hdd
              have HDD := Lib.hid hdd
              dsimp only [docV]
              have HFN := Lib.hid (show docFold (docD m k) ((List.range (h + 1)).filter (callsB m f)) 0 = some (max b d) by
                rw [HRS.out, ← HC.out, if_pos rfl, docFold_append, HFO.out, Option.bind_some, docFold, hdd]
                rfl)
              clear hdd
              by_cases hbd : b < d
              · go_wp2_with fail
                exact ⟨⟨h + 1, d, by omega, by go_num, rfl, by omega, by rw [HFN.out, Nat.max_eq_right (by omega)], HL5.out, HB5.out⟩, by simp [intOf]; omega⟩
              · have hbd' : d ≤ b := by omega
                go_wp2_with fail
                exact ⟨⟨h + 1, b, by omega, by go_num, rfl, by omega, by rw [HFN.out, Nat.max_eq_left (by omega)], HL5.out, HB5.out⟩, by simp [intOf]; omega⟩
        · obtain rfl : h = cnt m := by omega
          have HV := Lib.hid (show docV (docD m (k + 1) f) = (b : Int) + 1 by rw [HDE.out, callsL, HFO.out]; rfl)
          go_wp2_with fail
          go_ret
          exact ⟨by rw [HV.out]; rfl, HB3.out⟩

/-! ### places -/
set_option maxRecDepth 100000 in
set_option maxHeartbeats 4000000 in
theorem places_any {W : World} {v : Value} {out : List Bool} (h : Sl W 1 bc v out) (hl : out.length ≤ 100000) :
    Calls Try.prog 18 #[v] W fun e w' => ∃ v', e = .returned v' ∧ w'.ownsRow W.heap.size 3 1 v' (places out).length ((places out).flatMap ic) ∧ Below W.heap.size W w' := by
  obtain ⟨s, cap, rfl, hs2⟩ := h.form
  have HS := Lib.hid h
  clear h
  go_enter Try.func18, Try.ntmps18
  go_wp2_with fail
  go_loopw [3, 4, 5, 8] (fun lv _ _ i wr => ∃ (k : Nat) (P : List Nat), k ≤ out.length ∧ i = .int .i64 k ∧ P = (List.range k).filter (fun i => out[i]? == some true) ∧ P.length ≤ k ∧ wr.ownsRow W.heap.size 3 1 lv P.length (P.flatMap ic) ∧ Below W.heap.size W wr)
    (fun _ _ _ i _ => out.length - (intOf i).toNat)
  case atStart => exact ⟨0, [], Nat.zero_le _, rfl, rfl, Nat.le_refl _, World.ownsRow_nil _ _ _ _, Below.refl _ _⟩
  case round =>
    obtain ⟨k, P, hk, rfl, hP, hPl, hrow, hB⟩ := hrel
    have HP := Lib.hid hP
    have HROW := Lib.hid hrow
    have HB := Lib.hid hB
    clear hP hrow hB
    by_cases hlt : k < out.length
    · obtain ⟨b, hb⟩ : ∃ b, out[k]? = some b := ⟨_, List.getElem?_eq_getElem hlt⟩
      obtain ⟨g, off, rfl, _⟩ := hs2 (by intro e; rw [e] at hlt; simp at hlt)
      have hcb := (HS.out.later HB.out).cell hb (j := 0) rfl
      rw [Nat.mul_one, Nat.add_zero] at hcb
      have HPS := Lib.hid (places_succ out k hb)
      clear hb
      cases b with
      | false =>
        go_wp2_with fail
        exact ⟨⟨k + 1, P, by omega, by go_num, by rw [HPS.out, ← HP.out]; simp, by omega, HROW.out, HB.out⟩, by simp [intOf]; omega⟩
      | true =>
        go_wp2_with (first | (refine wl_bs1 _ _ (bs_int k) _ rfl rfl rfl (fun w7 hb7 hl7 => ?_); have HN7 := Lib.hid hl7; have HB7 := Lib.hid hb7; clear hb7 hl7; simp only [Act.put, List.setIfInBounds_toArray, List.set_cons_zero, List.set_cons_succ]) | (refine wl_app _ _ rfl rfl Try.underlying40 info_int (by decide) rfl (ownsRow_keep HROW.out HB7.out) ic_len rfl (sl_one (en := ic) HN7.out) (fun y _ => oneIc y) (by simp only [List.length_singleton]; unfold maxLen; omega) (by simp only [List.length_singleton]; omega) (bt HB.out HB7.out).size (fun v' w8 hr8 hg8 hv8 => ?_); have HR8 := Lib.hid hr8; have HG8 := Lib.hid hg8; clear hr8 hg8 hv8; try simp only [Act.put]))
        exact ⟨⟨k + 1, P ++ [k], by omega, by go_num, by rw [HPS.out, ← HP.out, if_pos rfl], by rw [List.length_append, List.length_singleton]; omega, by rw [List.length_append, List.flatMap_append]; exact HR8.out, (bt HB.out HB7.out).grown HG8.out (bt HB.out HB7.out).size (fun k hk => (row_block (ownsRow_keep HROW.out HB7.out) hk).1)⟩, by simp [intOf]; omega⟩
    · obtain rfl : k = out.length := by omega
      go_wp2_with fail
      go_ret
      have hpl : places out = P := by rw [HP.out, places]
      exact ⟨_, rfl, by rw [hpl]; exact HROW.out, HB.out⟩
end Go.Proofs.Ytjafmclladiblaa.Gr
