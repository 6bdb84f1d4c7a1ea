/- Graph: the document's Reach. -/
import Derived.Test.YtjafmclladiblaaGy
namespace Go.Proofs.Ytjafmclladiblaa.Gr
open Go Go.RowKit Go.Lib Kt Fm

theorem idx_inj {n f h f' h' : Nat} (hh : h < n) (hh' : h' < n) (e : f * n + h = f' * n + h') : f = f' ∧ h = h' := by
  have h1 : (f * n + h) / n = f := by rw [Nat.mul_comm, Nat.mul_add_div (by omega), Nat.div_eq_of_lt hh, Nat.add_zero]
  have h2 : (f' * n + h') / n = f' := by rw [Nat.mul_comm, Nat.mul_add_div (by omega), Nat.div_eq_of_lt hh', Nat.add_zero]
  have h3 : f = f' := by rw [← h1, ← h2, e]
  subst h3
  exact ⟨rfl, by omega⟩
theorem idx_lt {n f h : Nat} (hf : f < n) (hh : h < n) : f * n + h < n * n := by
  have : (f + 1) * n ≤ n * n := Nat.mul_le_mul_right _ hf
  rw [Nat.add_mul, Nat.one_mul] at this
  omega
/-- The table of calls, as far as it is made. -/
def Tab (m : Mod) (K : List Bool) (f h : Nat) : Prop := K.length = cnt m * cnt m ∧ ∀ f' h', h' < cnt m → (f' < f ∨ f' = f ∧ h' < h) → f' < cnt m → K[f' * cnt m + h']? = some (callsB m f' h')
theorem Tab.next {m : Mod} {K : List Bool} {f h : Nat} (t : Tab m K f h) (hf : f < cnt m) (hh : h < cnt m) : Tab m (K.set (f * cnt m + h) (callsB m f h)) f (h + 1) := by
  refine ⟨by rw [List.length_set]; exact t.1, fun f' h' h1 h2 h3 => ?_⟩
  by_cases e : f' * cnt m + h' = f * cnt m + h
  · obtain ⟨rfl, rfl⟩ := idx_inj h1 hh e
    rw [List.getElem?_set_self (by rw [t.1]; exact idx_lt hf hh)]
  · rw [List.getElem?_set_ne (fun e' => e e'.symm)]
    refine t.2 f' h' h1 ?_ h3
    rcases h2 with h2 | ⟨rfl, h2⟩
    · exact Or.inl h2
    · refine Or.inr ⟨rfl, ?_⟩
      by_cases e2 : h' = h
      · subst e2; exact absurd rfl e
      · omega
theorem Tab.row {m : Mod} {K : List Bool} {f : Nat} (t : Tab m K f (cnt m)) : Tab m K (f + 1) 0 := ⟨t.1, fun f' h' h1 h2 h3 => t.2 f' h' h1 (by omega) h3⟩
/-- What of the start has come to be marked. -/
structure Bas (m : Mod) (L : List Int) (i h : Nat) (out : List Bool) : Prop where
  len : out.length = cnt m
  sound : ∀ j : Nat, out[j]? = some true → Got (cnt m) (callsB m) L j
  base : ∀ i' h' (f : Nat), L[i']? = some (f : Int) → f < cnt m → h' < cnt m → (i' < i ∨ i' = i ∧ h' < h) → callsB m f h' = true → out[h']? = some true
theorem Bas.skip {m : Mod} {L : List Int} {i h : Nat} {out : List Bool} {x : Int} (b : Bas m L i h out) (hx : L[i]? = some x) (hn : ∀ f : Nat, x = (f : Int) → f < cnt m → callsB m f h = false) : Bas m L i (h + 1) out := by
  refine ⟨b.len, b.sound, fun i' h' f h1 h2 h3 h4 h5 => ?_⟩
  rcases h4 with h4 | ⟨rfl, h4⟩
  · exact b.base i' h' f h1 h2 h3 (Or.inl h4) h5
  · by_cases e : h' = h
    · subst e
      rw [hx] at h1
      injection h1 with h1
      rw [hn f h1 h2] at h5
      cases h5
    · exact b.base i' h' f h1 h2 h3 (Or.inr ⟨rfl, by omega⟩) h5
theorem Bas.mark {m : Mod} {L : List Int} {i h : Nat} {out : List Bool} {f : Nat} (b : Bas m L i h out) (hx : L[i]? = some (f : Int)) (hf : f < cnt m) (hh : h < cnt m) (hc : callsB m f h = true) : Bas m L i (h + 1) (out.set h true) := by
  refine ⟨by rw [List.length_set]; exact b.len, fun j hj => ?_, fun i' h' f' h1 h2 h3 h4 h5 => ?_⟩
  · rcases getElem?_set_true.1 hj with ⟨rfl, _⟩ | hj
    · exact ⟨f, List.mem_of_getElem? hx, .one hf hh hc⟩
    · exact b.sound j hj
  · rw [getElem?_set_true]
    by_cases e : h' = h
    · exact Or.inl ⟨e, by rw [b.len]; exact hh⟩
    · refine Or.inr (b.base i' h' f' h1 h2 h3 ?_ h5)
      rcases h4 with h4 | ⟨rfl, h4⟩
      · exact Or.inl h4
      · exact Or.inr ⟨rfl, by omega⟩
theorem Bas.row {m : Mod} {L : List Int} {i : Nat} {out : List Bool} (b : Bas m L i (cnt m) out) : Bas m L (i + 1) 0 out := ⟨b.len, b.sound, fun i' h' f h1 h2 h3 h4 h5 => b.base i' h' f h1 h2 h3 (by omega) h5⟩
theorem Bas.turns {m : Mod} {L : List Int} {out : List Bool} (b : Bas m L L.length 0 out) : Turns (cnt m) (callsB m) L 0 out :=
  ⟨b.len, b.sound, fun f hf h1 h h2 h3 => by
    obtain ⟨i, hi, e⟩ := List.getElem_of_mem hf
    exact b.base i h f (by rw [List.getElem?_eq_getElem hi, e]) h1 h2 (Or.inl hi) h3, Or.inr (Nat.zero_le _)⟩

set_option maxRecDepth 100000 in
set_option maxHeartbeats 16000000 in
theorem rreach_any {W : World} {m : Mod} (hm : ModOk W m) (hn : cnt m ≤ 1000) {v : Value} {L : List Int} (hs : Sl W 1 zc v L) (hl : L.length ≤ 1000) :
    Calls Try.prog 19 #[.agg m.cs.toArray, v] W fun e w' => ∃ v' out, e = .returned v' ∧ Marked (cnt m) out (Got (cnt m) (callsB m) L) ∧ w'.ownsRow W.heap.size 4 1 v' (cnt m) (out.map Value.bool) ∧ Below W.heap.size W w' := by
  have HM := Lib.hid hm
  obtain ⟨s, cap, rfl, hs2⟩ := hs.form
  have HS := Lib.hid hs
  have hq1 : cnt m * cnt m ≤ 1000000 := Nat.mul_le_mul hn hn
  obtain ⟨q, hqe⟩ : ∃ q, q = cnt m * cnt m := ⟨_, rfl⟩
  have hq : (cnt m : Int) * (cnt m : Int) = (q : Int) := by rw [hqe, Int.natCast_mul]
  have HQ := Lib.hid hqe
  rw [← hqe] at hq1
  clear hm hs hqe
  go_enter Try.func19, Try.ntmps19
  go_wp2_with (first | (refine wl_box m.cs _ rfl rfl rfl (fun w1 hb1 hl1 => ?_); have HB1 := Lib.hid hb1; have HL1 := Lib.hid hl1; clear hb1 hl1; simp only [Act.put, List.setIfInBounds_toArray, List.set_cons_zero, List.set_cons_succ]) | (refine wpList_load_mid rfl 33 _ rfl W.heap.size 0 rfl m.cs _ (lies_range HL1.out) Try.underlying33 rfl sizeMod ?_; simp only [Act.put, List.setIfInBounds_toArray, List.set_cons_zero, List.set_cons_succ]))
  refine (rlen_any (HM.out.later HB1.out)).mono ?_
  rintro en w2 ⟨rfl, hb2⟩
  have HB2 := Lib.hid (bt HB1.out hb2)
  have HL2 := Lib.hid (HL1.out.below hb2 HL1.out.lt)
  clear hb2 HB1 HL1
  go_wp2_with (refine wl_mk (n := q) Try.underlying48 info_bool rfl _ _ rfl rfl rfl rfl (by omega) (by omega) (fun w3 hb3 hr3 => ?_); have HB3 := Lib.hid hb3; have HR3 := Lib.hid hr3; clear hb3 hr3; simp only [Act.put, List.setIfInBounds_toArray, List.set_cons_zero, List.set_cons_succ])
  have hCB0 : W.heap.size ≤ w2.heap.size := HB2.out.size
  have HK0 := Lib.hid (show w3.ownsRow W.heap.size 4 1 (.slice (some ⟨w2.heap.size, 0, none⟩) q q) q ((List.replicate q false).map Value.bool) by rw [List.map_replicate]; exact ownsRow_base HR3.out hCB0)
  have HL3 := Lib.hid (HL2.out.below HB3.out HL2.out.lt)
  have HW3 := Lib.hid (bt HB2.out HB3.out)
  have HT0 := Lib.hid (show Tab m (List.replicate q false) 0 0 from ⟨by rw [List.length_replicate, HQ.out], fun f' h' _ h2 => by omega⟩)
  clear HR3 HB3 HB2 HL2
  generalize w2.heap.size = CB at HK0 hCB0 ⊢
  generalize List.replicate q false = K0 at HK0 HT0
  go_loopw [7, 8] (fun fv _ wr => ∃ (f : Nat) (K : List Bool), f ≤ cnt m ∧ fv = .int .i64 f ∧ Tab m K f 0 ∧ wr.ownsRow W.heap.size 4 1 (.slice (some ⟨CB, 0, none⟩) q q) q (K.map Value.bool) ∧ Lies wr W.heap.size 33 m.cs.toArray ∧ Below W.heap.size W wr)
    (fun fv _ _ => cnt m - (intOf fv).toNat)
  case atStart => exact ⟨0, K0, Nat.zero_le _, rfl, HT0.out, HK0.out, HL3.out, HW3.out⟩
  case round =>
    clear HT0 HK0 HL3 HW3
    obtain ⟨f, K, hf, rfl, hT, hK, hL, hB⟩ := hrel
    have HT := Lib.hid hT
    have HK := Lib.hid hK
    have HL := Lib.hid hL
    have HB := Lib.hid hB
    clear hT hK hL hB
    by_cases hlt : f < cnt m
    · obtain ⟨p, hpe⟩ : ∃ p, p = f * cnt m := ⟨_, rfl⟩
      have hp : (f : Int) * (cnt m : Int) = (p : Int) := by rw [hpe, Int.natCast_mul]
      have hpb : ∀ h, h < cnt m → p + h < q := fun h hh => by rw [hpe, HQ.out]; exact idx_lt hlt hh
      have HP := Lib.hid hpe
      have HPB := Lib.hid hpb
      clear hpe hpb
      go_wp2_with fail
      obtain ⟨w4, rfl⟩ : ∃ w4 : World, w4 = wr := ⟨_, rfl⟩
      go_loopw [8] (fun hv wr => ∃ (h : Nat) (K : List Bool), h ≤ cnt m ∧ hv = .int .i64 h ∧ Tab m K f h ∧ wr.ownsRow W.heap.size 4 1 (.slice (some ⟨CB, 0, none⟩) q q) q (K.map Value.bool) ∧ Lies wr W.heap.size 33 m.cs.toArray ∧ Below W.heap.size W wr)
        (fun hv _ => cnt m - (intOf hv).toNat)
      case atStart => exact ⟨0, K, Nat.zero_le _, rfl, HT.out, HK.out, HL.out, HB.out⟩
      case round =>
        clear HT HK HL HB
        obtain ⟨h, K, hh, rfl, hT, hK, hL, hB⟩ := hrel
        have HT := Lib.hid hT
        have HK := Lib.hid hK
        have HL := Lib.hid hL
        have HB := Lib.hid hB
        clear hT hK hL hB
        by_cases hlt2 : h < cnt m
        · have hph := HPB.out h hlt2
          go_wp2_with (refine wpList_load_mid rfl 33 _ rfl W.heap.size 0 rfl m.cs _ (lies_range HL.out) Try.underlying33 rfl sizeMod ?_; simp only [Act.put, List.setIfInBounds_toArray, List.set_cons_zero, List.set_cons_succ])
          refine (rcalls_any (HM.out.later HB.out) (f := f) (h := h) (by omega) (by omega)).mono ?_
          rintro en w5 ⟨rfl, hb5⟩
          obtain ⟨c, hc⟩ : ∃ c, c = callsB m f h := ⟨_, rfl⟩
          rw [← hc]
          have HK5 := Lib.hid (ownsRow_keep HK.out hb5)
          have HL5 := Lib.hid (HL.out.below hb5 HL.out.lt)
          have HB5 := Lib.hid (bt HB.out hb5)
          have HTN := Lib.hid (show Tab m (K.set (p + h) c) f (h + 1) by rw [hc, HP.out]; exact HT.out.next hlt hlt2)
          clear hb5 hc HK HL HB
          go_wp2_with (refine wl_rowset1 (i := p + h) (v := .bool c) HK5.out hph _ _ rfl rfl rfl rfl rfl size_bool rfl (fun w6 hs6 hg6 => ?_); have HS6 := Lib.hid hs6; have HG6 := Lib.hid hg6; clear hs6 hg6; try simp only [Act.put])
          have hfT : FrT [4] w5 w6 := FrT.grown HK5.out HG6.out
          exact ⟨⟨h + 1, K.set (p + h) c, by omega, by go_num, HTN.out, by rw [List.map_set]; exact HS6.out, lies_frT HL5.out hfT (by decide), HB5.out.grown HG6.out HB5.out.size (fun k hk => (row_block HK5.out hk).1)⟩, by simp [intOf]; omega⟩
        · obtain rfl : h = cnt m := by omega
          go_wp2_with fail
          exact ⟨⟨f + 1, K, by omega, by go_num, HT.out.row, HK.out, HL.out, HB.out⟩, by simp [intOf]; omega⟩
    · obtain rfl : f = cnt m := by omega
      have HT := Lib.hid (show ∀ f' h', f' < cnt m → h' < cnt m → K[f' * cnt m + h']? = some (callsB m f' h') from fun f' h' h1 h2 => HT.out.2 f' h' h2 (Or.inl h1) h1)
      go_wp2_with (refine wl_mk (n := cnt m) Try.underlying48 info_bool rfl _ _ rfl rfl rfl rfl (by omega) (by omega) (fun w3 hb3 hr3 => ?_); have HB3 := Lib.hid hb3; have HR3 := Lib.hid hr3; clear hb3 hr3; simp only [Act.put, List.setIfInBounds_toArray, List.set_cons_zero, List.set_cons_succ])
      have HR0 := Lib.hid (show w3.ownsRow wr.heap.size 4 1 (.slice (some ⟨wr.heap.size, 0, none⟩) (cnt m) (cnt m)) (cnt m) ((List.replicate (cnt m) false).map Value.bool) by rw [List.map_replicate]; exact HR3.out)
      obtain ⟨OB, hOB⟩ : ∃ OB, OB = wr.heap.size := ⟨_, rfl⟩
      have HBas := Lib.hid (show Bas m L 0 0 (List.replicate (cnt m) false) from ⟨List.length_replicate, fun j hj => by
        have := (List.mem_replicate.1 (List.mem_of_getElem? hj)).2
        exact absurd this (by decide), fun i' h' f _ _ _ h4 => by omega⟩)
      have HOB := Lib.hid hOB
      rw [← hOB] at HR0 HB3 ⊢
      clear HR3 HL hOB
      obtain ⟨wb, rfl⟩ : ∃ wb : World, wb = wr := ⟨_, rfl⟩
      generalize List.replicate (cnt m) false = O0 at HR0 HBas
      go_loopw [10, 11] (fun iv _ wx => ∃ (i : Nat) (out : List Bool), i ≤ L.length ∧ iv = .int .i64 i ∧ Bas m L i 0 out ∧ wx.ownsRow OB 4 1 (.slice (some ⟨OB, 0, none⟩) (cnt m) (cnt m)) (cnt m) (out.map Value.bool) ∧ Below OB wb wx)
        (fun iv _ _ => L.length - (intOf iv).toNat)
      case atStart => exact ⟨0, O0, Nat.zero_le _, rfl, HBas.out, HR0.out, HB3.out⟩
      case round =>
        clear HBas HR0 HB3
        obtain ⟨i, out, hi, rfl, hBas, hrow, hB⟩ := hrel
        have HBas := Lib.hid hBas
        have HRO := Lib.hid hrow
        have HB3 := Lib.hid hB
        clear hBas hrow hB
        by_cases hil : i < L.length
        · obtain ⟨x, hx⟩ : ∃ x, L[i]? = some x := ⟨_, List.getElem?_eq_getElem hil⟩
          obtain ⟨sb, so, rfl, _⟩ := hs2 (by intro e; rw [e] at hil; simp at hil)
          have HX := Lib.hid hx
          clear hx
          go_wp2_with fail
          obtain ⟨wc, rfl⟩ : ∃ wc : World, wc = wr := ⟨_, rfl⟩
          go_loopw [11] (fun hv wx => ∃ (h : Nat) (out : List Bool), h ≤ cnt m ∧ hv = .int .i64 h ∧ Bas m L i h out ∧ wx.ownsRow OB 4 1 (.slice (some ⟨OB, 0, none⟩) (cnt m) (cnt m)) (cnt m) (out.map Value.bool) ∧ Below OB wb wx)
            (fun hv _ => cnt m - (intOf hv).toNat)
          case atStart => exact ⟨0, out, Nat.zero_le _, rfl, HBas.out, HRO.out, HB3.out⟩
          case round =>
            clear HBas HRO HB3
            obtain ⟨h, out, hh, rfl, hBas, hrow, hB⟩ := hrel
            have HBas := Lib.hid hBas
            have HRO := Lib.hid hrow
            have HB3 := Lib.hid hB
            clear hBas hrow hB
            by_cases hlt2 : h < cnt m
            · have hB0 : Below wb.heap.size wb wr := by rw [← HOB.out]; exact HB3.out
              have hcx := (HS.out.later (bt HB.out hB0)).cell HX.out (j := 0) rfl
              rw [Nat.mul_one, Nat.add_zero] at hcx
              by_cases hx0 : x < 0
              · go_wp2_with fail
                exact ⟨⟨h + 1, out, by omega, by go_num, HBas.out.skip HX.out (fun f' e hf' => by omega), HRO.out, HB3.out⟩, by simp [intOf]; omega⟩
              · obtain ⟨f, rfl⟩ : ∃ f : Nat, x = (f : Int) := ⟨x.toNat, by omega⟩
                by_cases hfn : f < cnt m
                · obtain ⟨p, hpe⟩ : ∃ p, p = f * cnt m := ⟨_, rfl⟩
                  have hp : (f : Int) * (cnt m : Int) = (p : Int) := by rw [hpe, Int.natCast_mul]
                  have hpq : p + h < q := by rw [hpe, HQ.out]; exact idx_lt hfn hlt2
                  have hk := HT.out f h hfn hlt2
                  rw [← hpe] at hk
                  have hkc := (ownsRow_keep HK.out hB0).cells (g := CB) rfl (p + h) (.bool (callsB m f h)) (by rw [List.getElem?_map, hk]; rfl)
                  rw [Addr.add_lit, Nat.zero_add] at hkc
                  have HPE := Lib.hid hpe
                  clear hk hpe
                  obtain ⟨c, hc⟩ : ∃ c, c = callsB m f h := ⟨_, rfl⟩
                  rw [← hc] at hkc
                  have HC := Lib.hid hc
                  clear hc
                  cases c with
                  | false =>
                    go_wp2_with fail
                    exact ⟨⟨h + 1, out, by omega, by go_num, HBas.out.skip HX.out (fun f' e hf' => (by omega : f = f') ▸ HC.out.symm), HRO.out, HB3.out⟩, by simp [intOf]; omega⟩
                  | true =>
                    go_wp2_with (refine wl_rowset1 (i := h) (v := .bool true) HRO.out hlt2 _ _ rfl rfl rfl rfl rfl size_bool rfl (fun w6 hs6 hg6 => ?_); have HS6 := Lib.hid hs6; have HG6 := Lib.hid hg6; clear hs6 hg6; try simp only [Act.put])
                    exact ⟨⟨h + 1, out.set h true, by omega, by go_num, HBas.out.mark HX.out hfn hlt2 HC.out.symm, by rw [List.map_set]; exact HS6.out, HB3.out.grown HG6.out (by rw [HOB.out]; exact hB0.size) (fun k hk => (row_block HRO.out hk).1)⟩, by simp [intOf]; omega⟩
                · go_wp2_with fail
                  exact ⟨⟨h + 1, out, by omega, by go_num, HBas.out.skip HX.out (fun f' e hf' => by omega), HRO.out, HB3.out⟩, by simp [intOf]; omega⟩
            · obtain rfl : h = cnt m := by omega
              go_wp2_with fail
              exact ⟨⟨i + 1, out, by omega, by go_num, HBas.out.row, HRO.out, HB3.out⟩, by simp [intOf]; omega⟩
        · obtain rfl : i = L.length := by omega
          have HTS := Lib.hid HBas.out.turns
          clear HBas
          go_wp2_with fail
          obtain ⟨wc, rfl⟩ : ∃ wc : World, wc = wr := ⟨_, rfl⟩
          go_loopw [12, 13, 14] (fun tv _ _ wx => ∃ (t : Nat) (out : List Bool), t ≤ cnt m ∧ tv = .int .i64 t ∧ Turns (cnt m) (callsB m) L t out ∧ wx.ownsRow OB 4 1 (.slice (some ⟨OB, 0, none⟩) (cnt m) (cnt m)) (cnt m) (out.map Value.bool) ∧ Below OB wb wx)
            (fun tv _ _ _ => cnt m - (intOf tv).toNat)
          case atStart => exact ⟨0, out, Nat.zero_le _, rfl, HTS.out, HRO.out, HB3.out⟩
          case round =>
            clear HTS HRO HB3
            obtain ⟨t, out, ht, rfl, hT, hrow, hB⟩ := hrel
            have HTS := Lib.hid hT
            have HRO := Lib.hid hrow
            have HB3 := Lib.hid hB
            clear hT hrow hB
            by_cases htl : t < cnt m
            · have HT0 := Lib.hid (Turn.start HTS.out.len HTS.out.sound)
              go_wp2_with fail
              obtain ⟨wd, rfl⟩ : ∃ wd : World, wd = wr := ⟨_, rfl⟩
              obtain ⟨out0, hout0⟩ : ∃ out0, out0 = out := ⟨_, rfl⟩
              rw [← hout0] at HTS HT0 HRO
              clear hout0
              go_loopw [13, 14] (fun fv _ wx => ∃ (f : Nat) (out : List Bool), f ≤ cnt m ∧ fv = .int .i64 f ∧ Turn (cnt m) (callsB m) L out0 f 0 out ∧ wx.ownsRow OB 4 1 (.slice (some ⟨OB, 0, none⟩) (cnt m) (cnt m)) (cnt m) (out.map Value.bool) ∧ Below OB wb wx)
                (fun fv _ _ => cnt m - (intOf fv).toNat)
              case atStart => exact ⟨0, out0, Nat.zero_le _, rfl, HT0.out, HRO.out, HB3.out⟩
              case round =>
                clear HT0 HRO HB3
                obtain ⟨f, out, hf, rfl, hT, hrow, hB⟩ := hrel
                have HTN := Lib.hid hT
                have HRO := Lib.hid hrow
                have HB3 := Lib.hid hB
                clear hT hrow hB
                by_cases hfn : f < cnt m
                · obtain ⟨p, hpe⟩ : ∃ p, p = f * cnt m := ⟨_, rfl⟩
                  have hp : (f : Int) * (cnt m : Int) = (p : Int) := by rw [hpe, Int.natCast_mul]
                  have HPE := Lib.hid hpe
                  clear hpe
                  go_wp2_with fail
                  obtain ⟨we, rfl⟩ : ∃ we : World, we = wr := ⟨_, rfl⟩
                  go_loopw [14] (fun hv wx => ∃ (h : Nat) (out : List Bool), h ≤ cnt m ∧ hv = .int .i64 h ∧ Turn (cnt m) (callsB m) L out0 f h out ∧ wx.ownsRow OB 4 1 (.slice (some ⟨OB, 0, none⟩) (cnt m) (cnt m)) (cnt m) (out.map Value.bool) ∧ Below OB wb wx)
                    (fun hv _ => cnt m - (intOf hv).toNat)
                  case atStart => exact ⟨0, out, Nat.zero_le _, rfl, HTN.out, HRO.out, HB3.out⟩
                  case round =>
                    clear HTN HRO HB3
                    obtain ⟨h, out, hh, rfl, hT, hrow, hB⟩ := hrel
                    have HTN := Lib.hid hT
                    have HRO := Lib.hid hrow
                    have HB3 := Lib.hid hB
                    clear hT hrow hB
                    by_cases hlt2 : h < cnt m
                    · have hB0 : Below wb.heap.size wb wr := by rw [← HOB.out]; exact HB3.out
                      obtain ⟨b, hb⟩ : ∃ b, out[f]? = some b := ⟨_, List.getElem?_eq_getElem (by rw [HTN.out.len]; exact hfn)⟩
                      have hbc := HRO.out.cells (g := OB) rfl f (.bool b) (by rw [List.getElem?_map, hb]; rfl)
                      rw [Addr.add_lit, Nat.zero_add] at hbc
                      have hpq : p + h < q := by rw [HPE.out, HQ.out]; exact idx_lt hfn hlt2
                      have hk := HT.out f h hfn hlt2
                      rw [← HPE.out] at hk
                      have hkc := (ownsRow_keep HK.out hB0).cells (g := CB) rfl (p + h) (.bool (callsB m f h)) (by rw [List.getElem?_map, hk]; rfl)
                      rw [Addr.add_lit, Nat.zero_add] at hkc
                      clear hk
                      have hnx := HTN.out.next hfn hlt2
                      rw [hb] at hnx
                      obtain ⟨c, hc⟩ : ∃ c, c = callsB m f h := ⟨_, rfl⟩
                      rw [← hc] at hkc hnx
                      have HNX := Lib.hid hnx
                      clear hc hnx hb
                      cases b with
                      | false =>
                        go_wp2_with fail
                        exact ⟨⟨h + 1, out, by omega, by go_num, by have := HNX.out; rwa [if_neg (by simp)] at this, HRO.out, HB3.out⟩, by simp [intOf]; omega⟩
                      | true => cases c with
                        | false =>
                          go_wp2_with fail
                          exact ⟨⟨h + 1, out, by omega, by go_num, by have := HNX.out; rwa [if_neg (by simp)] at this, HRO.out, HB3.out⟩, by simp [intOf]; omega⟩
                        | true =>
                          go_wp2_with (refine wl_rowset1 (i := h) (v := .bool true) HRO.out hlt2 _ _ rfl rfl rfl rfl rfl size_bool rfl (fun w6 hs6 hg6 => ?_); have HS6 := Lib.hid hs6; have HG6 := Lib.hid hg6; clear hs6 hg6; try simp only [Act.put])
                          exact ⟨⟨h + 1, out.set h true, by omega, by go_num, by have := HNX.out; rwa [if_pos ⟨rfl, rfl⟩] at this, by rw [List.map_set]; exact HS6.out, HB3.out.grown HG6.out (by rw [HOB.out]; exact hB0.size) (fun k hk => (row_block HRO.out hk).1)⟩, by simp [intOf]; omega⟩
                    · obtain rfl : h = cnt m := by omega
                      go_wp2_with fail
                      exact ⟨⟨f + 1, out, by omega, by go_num, HTN.out.row, HRO.out, HB3.out⟩, by simp [intOf]; omega⟩
                · obtain rfl : f = cnt m := by omega
                  go_wp2_with fail
                  exact ⟨⟨t + 1, out, by omega, by go_num, HTS.out.next HTN.out, HRO.out, HB3.out⟩, by simp [intOf]; omega⟩
            · obtain rfl : t = cnt m := by omega
              go_wp2_with fail
              go_ret
              have hB0 : Below wb.heap.size wb wr := by rw [← HOB.out]; exact HB3.out
              have hWR := bt HB.out hB0
              exact ⟨_, out, rfl, HTS.out.end, by have := HRO.out; rw [HOB.out] at this ⊢; exact ownsRow_base this HB.out.size, hWR⟩
end Go.Proofs.Ytjafmclladiblaa.Gr
