/- The walk of KvNewest: a key's value is the newest one that was put. -/
import Derived.Test.YteeghdkejnhjnaaKvK
import Derived.Test.YteeghdkejnhjnaaKvW
import Derived.Deep.CutBlock
import Derived.Deep.CutRange
namespace Go.Proofs.Yteeghdkejnhjnaa.Kv
open Go Go.RowKit Go.Shelf Kt Ad Bo

theorem less_lt : ∀ a b : Bs, Op.bytesLess a b = decide (Lt a b)
  | [], [] => by simp [Op.bytesLess, Lt, Lib.compareBytes]
  | [], _ :: _ => by simp [Op.bytesLess, nil_lt]
  | _ :: _, [] => by simp [Op.bytesLess, lt_nil]
  | x :: a, y :: b => by
    have ih := less_lt a b
    rw [Op.bytesLess]
    by_cases h1 : x < y
    · simp [h1, lt_cons]
    · by_cases h2 : y < x
      · have : ¬ x = y := fun e => by subst e; exact h1 h2
        simp [h1, lt_cons, this]
      · have e : x = y := UInt8.toNat_inj.1 (by have a1 : ¬ x.toNat < y.toNat := h1; have a2 : ¬ y.toNat < x.toNat := h2; omega)
        subst e
        simp [h1, lt_cons, ih]
/-- Behind a key that is ahead: not at most. -/
theorem not_leq {k l : Bs} (h : Lt l k) : (Op.bytesLess (bst k).toList (bst l).toList || (bst k).toList == (bst l).toList) = false := by
  have e : ∀ b, (bst b).toList = b := fun b => by rw [ByteArray.toList_eq]; rfl
  rw [e, e, less_lt, decide_eq_false (lt_asymm h)]
  have : k ≠ l := fun e => by subst e; exact lt_irr _ h
  simp [this]
theorem bst_self (b : Bs) : ((bst b).toList == (bst b).toList) = true := by simp
theorem bst_ne {a b : Bs} (h : a ≠ b) : ((bst a).toList == (bst b).toList) = false := by rw [bst_beq]; exact decide_eq_false h

set_option maxRecDepth 100000 in
set_option maxHeartbeats 8000000 in
theorem law_newest {W : World} {v0 vk : Value} {X : List Kdo} (h0 : KRow W v0 X) (a : A8) {key : Bs} (hkey : Byt W vk key) (hkl : key.length ≤ maxLen) :
    Calls Try.prog 3 #[v0, a.v, vk] W fun e w' => e = .returned (.bool true) ∧ Below W.heap.size W w' := by
  have HV0 := Lib.hid (fun (w : World) (hb : Below W.heap.size W w) => heavy_any (h0.below hb))
  obtain ⟨s0, cap0, rfl, hs0⟩ := h0.shape
  have HB0 := Lib.hid h0.byt
  have HS0 := Lib.hid hs0
  have HKL := Lib.hid hkl
  have HKEY := Lib.hid hkey
  obtain ⟨sq, cq, hvk⟩ : ∃ s c, vk = .slice s key.length c := by obtain ⟨s, c, e, _⟩ := hkey; exact ⟨s, c, e⟩
  subst hvk
  clear hs0 h0 hkl hkey
  have HN := Lib.hid (fun w => known_any w)
  simp only [A8.v]
  go_enter Try.func3, Try.ntmps3
  go_wp2_with fail
  refine (HN.out _).mono ?_
  rintro en w1 ⟨rfl, hb1⟩
  have hA1 : Lies (W.alloc (.cells a.cs.toArray 24)) W.heap.size 24 a.cs.toArray := Lies.new W _ _
  have hbA : Below W.heap.size W (W.alloc (.cells a.cs.toArray 24)) := (Below.refl _ _).alloc (Nat.le_refl _) _
  have HA1 := Lib.hid (hA1.below hb1 hA1.lt)
  have HW1 := Lib.hid (hbA.trans (hb1.mono (by simp)))
  clear HN hA1 hbA hb1
  go_wp2_with fail
  refine (HV0.out w1 HW1.out).mono ?_
  rintro en w2 ⟨hv, rfl, hh, hb⟩
  have HW2 := Lib.hid (HW1.out.trans (hb.mono HW1.out.size))
  have HA2 := Lib.hid (HA1.out.below hb HA1.out.lt)
  clear hb HV0 HW1 HA1
  cases hv with
  | true =>
    go_wp2_with fail
    go_ret
    exact ⟨rfl, HW2.out⟩
  | false =>
    obtain ⟨hlX, hbX⟩ := hh rfl
    have HL0 := Lib.hid hbX
    clear hh hbX
    go_wp2_with fail
    refine (sto_new _).mono ?_
    rintro en w3 ⟨bl, rfl, hK, hb⟩
    have hWlt : W.heap.size < w2.heap.size := HA2.out.lt
    have HS := Lib.hid hK
    have HW3 := Lib.hid (HW2.out.trans (hb.mono HW2.out.size))
    have HA3 := Lib.hid (HA2.out.below hb HA2.out.lt)
    have hsz : w2.heap.size ≤ w3.heap.size := hb.size
    generalize w2.heap.size = n0 at HS hWlt hsz
    clear hK hb HW2 HA2
    go_wp2_with fail
    go_loopw [8, 9, 28] (fun want has i wr => ∃ (j : Nat) (g : St), j ≤ X.length ∧ i = .int .i64 j ∧ has = .bool (g a key).isSome ∧ (∃ s c, want = .slice s ((g a key).getD []).length c) ∧ Byt W want ((g a key).getD []) ∧ Sto wr (fun i => n0 ≤ i) bl g ∧ Bd j g ∧ Lies wr W.heap.size 24 a.cs.toArray ∧ Below W.heap.size W wr ∧ n0 ≤ wr.heap.size)
      (fun _ _ i _ => X.length - (intOf i).toNat)
    case atStart => exact ⟨0, St.nil, by omega, rfl, rfl, ⟨none, 0, rfl⟩, byt_nil W 0, HS.out, Bd.nil, HA3.out, HW3.out, hsz⟩
    case round =>
      clear HS HW3 HA3 hsz
      obtain ⟨j, g, hj, rfl, rfl, ⟨sw, cw, rfl⟩, hwb, hS, hB, hA, hW, hsz⟩ := hrel
      have HWB := Lib.hid hwb
      have HS := Lib.hid hS
      have HB := Lib.hid hB
      have HA := Lib.hid hA
      have HW := Lib.hid hW
      clear hwb hS hB hA hW
      by_cases hlt : j < X.length
      · obtain ⟨x, hx⟩ : ∃ x, X[j]? = some x := ⟨_, List.getElem?_eq_getElem hlt⟩
        obtain ⟨b, off, rfl, hbl, hat⟩ := HS0.out (by intro e; simp [e] at hlt)
        obtain ⟨⟨hby, _⟩, ⟨hby2, _⟩⟩ := HB0.out x (List.mem_of_getElem? hx)
        obtain ⟨hlk, hlv⟩ := HL0.out x (List.mem_of_getElem? hx)
        have hd := (hat j x hx).below HW.out hbl
        clear hat hx
        obtain ⟨xk, xa, xkv, xkey, xvv, xval, xn⟩ := x
        obtain ⟨sx, cx, hvx⟩ : ∃ sx cx, xkv = .slice sx xkey.length cx := by obtain ⟨s, c, e, _⟩ := hby; exact ⟨s, c, e⟩
        obtain ⟨sy, cy, hvy⟩ : ∃ sx cx, xvv = .slice sx xval.length cx := by obtain ⟨s, c, e, _⟩ := hby2; exact ⟨s, c, e⟩
        subst hvx hvy
        replace hlk : xkey.length ≤ 30000 := hlk
        replace hlv : xval.length ≤ 30000 := hlv
        have HD := Lib.hid hd
        have HBK := Lib.hid (show Byt W (.slice sx xkey.length cx) xkey from hby)
        have HBV := Lib.hid (show Byt W (.slice sy xval.length cy) xval from hby2)
        clear hd hby hby2
        obtain ⟨a0, a1, a2, a3, a4, a5, a6, a7⟩ := lies_addr HA.out
        obtain ⟨hs, hhs⟩ : ∃ hs, (g a key).isSome = hs := ⟨_, rfl⟩
        obtain ⟨wb, hwb⟩ : ∃ wb, (g a key).getD [] = wb := ⟨_, rfl⟩
        rw [hwb] at HWB ⊢
        rw [hhs]
        have HHS := Lib.hid hhs
        have HWW := Lib.hid hwb
        clear hhs hwb
        obtain ⟨ob, hob⟩ : ∃ ob : Bool, ob = decide (xa = a ∧ xkey = key) := ⟨_, rfl⟩
        have HOB := Lib.hid hob
        clear hob a0 a1 a2 a3 a4 a5 a6 a7
        go_upto_region 11 with (first | (refine wk_load _ _ _ HD.out _ rfl rfl rfl ?_; simp only [Kdo.cs, Act.put, List.setIfInBounds_toArray, List.set_cons_zero, List.set_cons_succ]) | (refine wk_store ⟨xk, xa, .slice sx xkey.length cx, xkey, .slice sy xval.length cy, xval, xn⟩ rfl rfl _ _ rfl rfl rfl rfl rfl ?_; simp only [Kdo.cs, Act.put]))
        obtain ⟨W1, hW1⟩ : ∃ W1, W1 = wr.alloc (.cells (Kdo.cs ⟨xk, xa, .slice sx xkey.length cx, xkey, .slice sy xval.length cy, xval, xn⟩).toArray 31) := ⟨_, rfl⟩
        have hb1 : Below wr.heap.size wr W1 := hW1 ▸ (Below.refl _ _).alloc (Nat.le_refl _) _
        have HX := Lib.hid (show Lies W1 wr.heap.size 31 (Kdo.cs ⟨xk, xa, .slice sx xkey.length cx, xkey, .slice sy xval.length cy, xval, xn⟩).toArray from hW1 ▸ Lies.new wr _ _)
        rw [show wr.alloc (.cells #[.int .i64 xk, .int .u8 xa.x0.toNat, .int .u8 xa.x1.toNat, .int .u8 xa.x2.toNat, .int .u8 xa.x3.toNat, .int .u8 xa.x4.toNat, .int .u8 xa.x5.toNat, .int .u8 xa.x6.toNat, .int .u8 xa.x7.toNat, .slice sx xkey.length cx, .slice sy xval.length cy, .int .i64 xn] 31) = W1 from hW1.symm]
        have HS1 := Lib.hid ((HS.out.mono (own2 := fun i => n0 ≤ i ∧ i ≠ wr.heap.size) (fun i hl hi => ⟨hi, by omega⟩)).later hb1)
        have HA1 := Lib.hid (HA.out.below hb1 HA.out.lt)
        have HW1 := Lib.hid (HW.out.trans (hb1.mono HW.out.size))
        have hdx := HX.out.lt
        have hdn : n0 ≤ wr.heap.size := hsz
        clear hW1 hb1 HS HA HW HD hsz
        generalize wr.heap.size = dx at HX HS1 hdx hdn ⊢
        have HBK1 := Lib.hid (HBK.out.later HW1.out)
        have HBV1 := Lib.hid (HBV.out.later HW1.out)
        have HKEY1 := Lib.hid (HKEY.out.later HW1.out)
        go_cut [12] from 32 to 43 (fun o w => o = .bool ob ∧ w = W1)
        case first =>
          obtain ⟨a0, a1, a2, a3, a4, a5, a6, a7⟩ := lies_addr HA1.out
          obtain ⟨d0, d1, d2, d3, d4, d5, d6, d7, d8, d9, d10, d11⟩ := lies_kdo HX.out
          have kx := Byt.conv HBK1.out
          have ky := Byt.conv HKEY1.out
          by_cases hxa : xa = a
          · by_cases hxk : xkey = key
            · as_aux_lemma =>
                have hob : ob = true := by rw [HOB.out]; exact decide_eq_true ⟨hxa, hxk⟩
                have HO := Lib.hid hob
                subst hxa hxk
                clear hob HOB
                go_wp2_with fail
                go_meet
                exact ⟨by rw [HO.out], rfl⟩
            · as_aux_lemma =>
                have hob : ob = false := by rw [HOB.out]; exact decide_eq_false (fun e => hxk e.2)
                have HO := Lib.hid hob
                have hq := bst_ne hxk
                subst hxa
                clear hob HOB hxk
                go_wp2_with fail
                go_meet
                exact ⟨by rw [HO.out], rfl⟩
          · as_aux_lemma =>
              have hob : ob = false := by rw [HOB.out]; exact decide_eq_false (fun e => hxa e.1)
              have HO := Lib.hid hob
              clear hob HOB
              go_wp2_with fail
              go_meet
              exact ⟨by rw [HO.out], rfl⟩
        case rest =>
          obtain ⟨rfl, rfl⟩ := hcut
          obtain ⟨d0, d1, d2, d3, d4, d5, d6, d7, d8, d9, d10, d11⟩ := lies_kdo HX.out
          go_upto_block 2 with fail
          clear d0 d1 d2 d3 d4 d5 d6 d7 d8 d9 d10 d11
          go_cut [8, 9, 13] from 46 to 73 (fun want has _ wx => ∃ g' : St, has = .bool (g' a key).isSome ∧ (∃ s c, want = .slice s ((g' a key).getD []).length c) ∧ Byt W want ((g' a key).getD []) ∧ Sto wx (fun i => n0 ≤ i ∧ i ≠ dx) bl g' ∧ Bd (j + 1) g' ∧ Lies wx W.heap.size 24 a.cs.toArray ∧ Below W.heap.size W wx ∧ dx < wx.heap.size)
          case first =>
            have hkinds : xk = 0 ∨ xk = 1 ∨ (xk ≠ 0 ∧ xk ≠ 1) := by omega
            have hho : ∀ i, wc.heap.size ≤ i → n0 ≤ i ∧ i ≠ dx := fun i hi => by omega
            have HHO := Lib.hid hho
            clear hho
            rcases hkinds with rfl | rfl | ⟨m0, m1⟩
            · obtain ⟨d0, d1, d2, d3, d4, d5, d6, d7, d8, d9, d10, d11⟩ := lies_kdo HX.out
              go_wp2_with fail
              by_cases hl : 64 < xkey.length ∨ 1024 < xval.length
              · as_aux_lemma =>
                  have hc := sto_put HS1.out HHO.out xa HBK1.out HBV1.out
                  rw [put_far hl, put_fars xa hl] at hc
                  replace hc := Lib.hid hc
                  clear hl
                  refine hc.out.mono ?_
                  rintro en w5 ⟨rfl, hs5, hf5⟩
                  have HS5 := Lib.hid hs5
                  have HA5 := Lib.hid (lies_fr HA1.out hf5 (fun e => by have := e.1; omega))
                  have HW5 := Lib.hid (HW1.out.trans (hf5.below HW1.out.size (fun i hi => by omega)))
                  have hsz5 : wc.heap.size ≤ w5.heap.size := hf5.size
                  clear hc hs5 hf5 d0 d1 d2 d3 d4 d5 d6 d7 d8 d9 d10 d11
                  go_wp2_with fail
                  go_meet
                  exact ⟨g, by rw [HHS.out], ⟨sw, cw, by rw [HWW.out]⟩, by rw [HWW.out]; exact HWB.out, HS5.out, HB.out.mono (by omega), HA5.out, HW5.out, by omega⟩
              · have hc := sto_put HS1.out HHO.out xa HBK1.out HBV1.out
                rw [put_ok (by omega) (by omega), put_is xa (by omega) (by omega)] at hc
                replace hc := Lib.hid hc
                have HB5 := Lib.hid (HB.out.put xa (k := xkey) (v := xval) (by omega) (by omega))
                refine hc.out.mono ?_
                rintro en w5 ⟨rfl, hs5, hf5⟩
                have HS5 := Lib.hid hs5
                have HA5 := Lib.hid (lies_fr HA1.out hf5 (fun e => by have := e.1; omega))
                have HX5 := Lib.hid (lies_fr HX.out hf5 (fun e => e.2 rfl))
                have HW5 := Lib.hid (HW1.out.trans (hf5.below HW1.out.size (fun i hi => by omega)))
                have hsz5 : wc.heap.size ≤ w5.heap.size := hf5.size
                clear hc hs5 hf5 hl d0 d1 d2 d3 d4 d5 d6 d7 d8 d9 d10 d11
                obtain ⟨d0, d1, d2, d3, d4, d5, d6, d7, d8, d9, d10, d11⟩ := lies_kdo HX5.out
                cases ob with
                | true =>
                  as_aux_lemma =>
                    have hg : (g.put xa xkey (some xval)) a key = some xval := by
                      obtain ⟨h1, h2⟩ := of_decide_eq_true HOB.out.symm
                      rw [← h1, ← h2]; exact put_same _ _ _ _
                    have HG := Lib.hid hg
                    clear hg
                    go_wp2_with fail
                    go_meet
                    exact ⟨g.put xa xkey (some xval), by rw [HG.out]; rfl, ⟨sy, cy, by rw [HG.out]; rfl⟩, by rw [HG.out]; exact HBV.out, HS5.out, HB5.out, HA5.out, HW5.out, by omega⟩
                | false =>
                  as_aux_lemma =>
                    have hg : (g.put xa xkey (some xval)) a key = g a key := put_other _ _ (fun e => of_decide_eq_false HOB.out.symm ⟨e.1.symm, e.2.symm⟩)
                    have HG := Lib.hid hg
                    clear hg
                    go_wp2_with fail
                    go_meet
                    exact ⟨g.put xa xkey (some xval), by rw [HG.out, HHS.out], ⟨sw, cw, by rw [HG.out, HWW.out]⟩, by rw [HG.out, HWW.out]; exact HWB.out, HS5.out, HB5.out, HA5.out, HW5.out, by omega⟩
            · obtain ⟨d0, d1, d2, d3, d4, d5, d6, d7, d8, d9, d10, d11⟩ := lies_kdo HX.out
              go_wp2_with fail
              have HB5 := Lib.hid ((HB.out.del xa xkey).mono (by omega : j ≤ j + 1))
              cases ob with
              | true =>
                as_aux_lemma =>
                  obtain ⟨rfl, rfl⟩ := of_decide_eq_true HOB.out.symm
                  have hc := sto_del HS1.out HB.out xa HBK1.out HKL.out
                  rw [HHS.out] at hc
                  replace hc := Lib.hid hc
                  refine hc.out.mono ?_
                  rintro en w5 ⟨rfl, hs5, hf5⟩
                  have HS5 := Lib.hid hs5
                  have HA5 := Lib.hid (lies_fr HA1.out hf5 (fun e => by have := e.1; omega))
                  have HW5 := Lib.hid (HW1.out.trans (hf5.below HW1.out.size (fun i hi => by omega)))
                  have hsz5 : wc.heap.size ≤ w5.heap.size := hf5.size
                  have HG := Lib.hid (put_same g xa xkey none)
                  clear hc hs5 hf5 d0 d1 d2 d3 d4 d5 d6 d7 d8 d9 d10 d11
                  go_wp2_with fail
                  go_meet
                  exact ⟨g.put xa xkey none, by rw [HG.out]; rfl, ⟨none, 0, by rw [HG.out]; rfl⟩, by rw [HG.out]; exact byt_nil W 0, HS5.out, HB5.out, HA5.out, HW5.out, by omega⟩
              | false =>
                as_aux_lemma =>
                  have hc := sto_del HS1.out HB.out xa HBK1.out (by unfold maxLen; omega)
                  obtain ⟨wi, hwi⟩ : ∃ wi, (g xa xkey).isSome = wi := ⟨_, rfl⟩
                  rw [hwi] at hc
                  replace hc := Lib.hid hc
                  refine hc.out.mono ?_
                  rintro en w5 ⟨rfl, hs5, hf5⟩
                  have HS5 := Lib.hid hs5
                  have HA5 := Lib.hid (lies_fr HA1.out hf5 (fun e => by have := e.1; omega))
                  have HW5 := Lib.hid (HW1.out.trans (hf5.below HW1.out.size (fun i hi => by omega)))
                  have hsz5 : wc.heap.size ≤ w5.heap.size := hf5.size
                  have hg : (g.put xa xkey none) a key = g a key := put_other _ _ (fun e => of_decide_eq_false HOB.out.symm ⟨e.1.symm, e.2.symm⟩)
                  have HG := Lib.hid hg
                  clear hc hs5 hf5 hg hwi d0 d1 d2 d3 d4 d5 d6 d7 d8 d9 d10 d11
                  go_wp2_with fail
                  go_meet
                  exact ⟨g.put xa xkey none, by rw [HG.out, HHS.out], ⟨sw, cw, by rw [HG.out, HWW.out]⟩, by rw [HG.out, HWW.out]; exact HWB.out, HS5.out, HB5.out, HA5.out, HW5.out, by omega⟩
            · as_aux_lemma =>
                go_wp2_with fail
                go_meet
                exact ⟨g, by rw [HHS.out], ⟨sw, cw, by rw [HWW.out]⟩, by rw [HWW.out]; exact HWB.out, HS1.out, HB.out.mono (by omega), HA1.out, HW1.out, hdx⟩
          case rest =>
            clear HS1 HA1 HX HBK1 HBV1 HKEY1 HHS HWW HOB HWB HB HW1 hdx
            obtain ⟨g', rfl, ⟨sw, cw, rfl⟩, hwb, hS, hB, hA, hW, hdx⟩ := hcut
            have HWB := Lib.hid hwb
            have HS2 := Lib.hid hS
            have HB2 := Lib.hid hB
            have HA2 := Lib.hid hA
            have HW2 := Lib.hid hW
            have HKEY2 := Lib.hid (HKEY.out.later hW)
            have hc := sto_get hS hB a HKEY2.out HKL.out
            obtain ⟨hs2, hhs⟩ : ∃ hs, (g' a key).isSome = hs := ⟨_, rfl⟩
            obtain ⟨wb2, hwb2⟩ : ∃ wb, (g' a key).getD [] = wb := ⟨_, rfl⟩
            rw [hhs, hwb2] at hc
            rw [hwb2] at HWB ⊢
            rw [hhs]
            have HHS := Lib.hid hhs
            have HWW := Lib.hid hwb2
            replace hc := Lib.hid hc
            clear hwb hS hB hA hW hhs hwb2
            obtain ⟨a0, a1, a2, a3, a4, a5, a6, a7⟩ := lies_addr HA2.out
            go_wp2_with fail
            refine hc.out.mono ?_
            rintro en w6 ⟨v6, rfl, ht, hb⟩
            obtain ⟨s6, c6, rfl⟩ := ht.form
            have HS6 := Lib.hid (HS2.out.later hb)
            have HA6 := Lib.hid (HA2.out.below hb HA2.out.lt)
            have HW6 := Lib.hid (HW2.out.trans (hb.mono HW2.out.size))
            have kx := Byt.conv ht.byt
            have ky := Byt.conv (HWB.out.later HW6.out)
            have hsz6 := hb.size
            clear hc ht hb HS2 HA2 HW2 HKEY2 a0 a1 a2 a3 a4 a5 a6 a7
            go_wp2_with fail
            go_roundw
            case rel => exact ⟨j + 1, g', by omega, by go_num, by rw [HHS.out], ⟨sw, cw, by rw [HWW.out]⟩, by rw [HWW.out]; exact HWB.out, HS6.out.mono (fun i _ hi => hi.1), HB2.out, HA6.out, HW6.out, by omega⟩
            case measure => simp [intOf]; omega
      · obtain rfl : j = X.length := by omega
        obtain ⟨a0, a1, a2, a3, a4, a5, a6, a7⟩ := lies_addr HA.out
        have HBn := Lib.hid (HB.out.mono (by omega : X.length ≤ 200))
        clear hj hlt HWB HB
        go_wp2_with fail
        refine (sto_list HS.out HBn.out (by decide) a).mono ?_
        rintro en w4 ⟨v4, T, rfl, hP, hT, hb⟩
        obtain ⟨s4, c4, hv4, hs4⟩ := hP.row
        subst hv4
        have HSH := Lib.hid hs4
        have HP4 := Lib.hid hP
        have HT := Lib.hid hT
        have HS4 := Lib.hid (HS.out.later hb)
        have HA4 := Lib.hid (HA.out.below hb HA.out.lt)
        have HW4 := Lib.hid (HW.out.trans (hb.mono HW.out.size))
        have hlT : T.length ≤ 200 := by have := hT.len HBn.out; rwa [saidP_len] at this
        clear hP hs4 hT hb HS HA HW a0 a1 a2 a3 a4 a5 a6 a7
        go_wp2_with fail
        go_loopw [16, 96] (fun last i wr => ∃ (j : Nat) (lb : Bs), j ≤ T.length ∧ i = .int .i64 j ∧ last = .string (bst lb) ∧ (∀ p, 0 < j → T[j - 1]? = some p → lb = p.k) ∧ Below w4.heap.size w4 wr)
          (fun _ i _ => T.length - (intOf i).toNat)
        case atStart => exact ⟨0, [], by omega, rfl, rfl, fun p h _ => absurd h (by omega), Below.refl _ _⟩
        case round =>
          obtain ⟨j, lb, hj, rfl, rfl, hlb, hb⟩ := hrel
          have HLB := Lib.hid hlb
          have HW5 := Lib.hid hb
          clear hlb hb
          by_cases hlt : j < T.length
          · obtain ⟨p, hp⟩ : ∃ p, T[j]? = some p := ⟨_, List.getElem?_eq_getElem hlt⟩
            obtain ⟨g4, o4, rfl, hg4, hc4⟩ := HSH.out (by intro e; simp [e] at hlt)
            have hat := prat hc4 hp
            obtain ⟨q0, q1⟩ : PrAt wr g4 (o4 + j * 2) p := ⟨(HW5.out.cell hg4).trans hat.1, (HW5.out.cell hg4).trans hat.2⟩
            have hpm := List.mem_of_getElem? hp
            obtain ⟨hbk, hbv⟩ := HP4.out.byt p hpm
            have hgk : g a p.k = some p.v := (HT.out.2 p.k p.v).1 (List.mem_map.2 ⟨p, hpm, rfl⟩)
            have hkl : p.k.length ≤ 64 := by obtain ⟨Dl, _, h2⟩ := HBn.out; exact (h2 a p.k p.v hgk).2.1
            have hlts : ∀ q, 0 < j → T[j - 1]? = some q → Lt q.k p.k := fun q h0 hq => by
              have hr := HT.out.1
              unfold Rise saidP at hr
              have hr2 := List.pairwise_map.1 hr
              obtain ⟨i1, e1⟩ := List.getElem?_eq_some_iff.1 hq
              obtain ⟨i2, e2⟩ := List.getElem?_eq_some_iff.1 hp
              have := List.pairwise_iff_getElem.1 hr2 (j - 1) j i1 i2 (by omega)
              rw [e1, e2] at this
              exact this
            obtain ⟨kv, pk, vv, pv⟩ := p
            obtain ⟨sx, cx, hvx⟩ : ∃ s c, kv = .slice s pk.length c := by obtain ⟨s, c, e, _⟩ := hbk; exact ⟨s, c, e⟩
            obtain ⟨sy, cy, hvy⟩ : ∃ s c, vv = .slice s pv.length c := by obtain ⟨s, c, e, _⟩ := hbv; exact ⟨s, c, e⟩
            subst hvx hvy
            simp only at q0 q1
            have HBK := Lib.hid (hbk.later HW5.out)
            have HBV := Lib.hid (hbv.later HW5.out)
            have HGK := Lib.hid hgk
            have HLT := Lib.hid hlts
            have HPJ := Lib.hid hp
            have HA5 := Lib.hid (HA4.out.below HW5.out HA4.out.lt)
            have HS5 := Lib.hid (HS4.out.later HW5.out)
            replace hkl : pk.length ≤ 64 := hkl
            obtain ⟨a0, a1, a2, a3, a4, a5, a6, a7⟩ := lies_addr HA5.out
            have hWl : W.heap.size < wr.heap.size := HA5.out.lt
            clear hat hc4 hpm hbk hbv hgk hlts hp
            go_upto_region 30 with fail
            obtain ⟨W1, hW1⟩ : ∃ W1, W1 = wr.alloc (.cells (⟨.slice sx pk.length cx, pk, .slice sy pv.length cy, pv⟩ : Pr).cs.toArray 40) := ⟨_, rfl⟩
            have hb1 : Below wr.heap.size wr W1 := hW1 ▸ (Below.refl _ _).alloc (Nat.le_refl _) _
            have HX := Lib.hid (show Lies W1 wr.heap.size 40 (⟨.slice sx pk.length cx, pk, .slice sy pv.length cy, pv⟩ : Pr).cs.toArray from hW1 ▸ Lies.new wr _ _)
            rw [show wr.alloc (.cells #[.slice sx pk.length cx, .slice sy pv.length cy] 40) = W1 from hW1.symm]
            have HW6 := Lib.hid (HW5.out.trans (hb1.mono HW5.out.size))
            have HA6 := Lib.hid (HA5.out.below hb1 HA5.out.lt)
            have HS6 := Lib.hid (HS5.out.later hb1)
            have HBK6 := Lib.hid (HBK.out.later hb1)
            have HBV6 := Lib.hid (HBV.out.later hb1)
            have hdx := HX.out.lt
            clear hW1 hb1 a0 a1 a2 a3 a4 a5 a6 a7 q0 q1 hWl HA5 HS5 HBK HBV HW5
            generalize wr.heap.size = dx at HX hdx ⊢
            obtain ⟨a0, a1, a2, a3, a4, a5, a6, a7⟩ := lies_addr HA6.out
            have q0 := HX.out.cell 0
            have q1 := HX.out.cell 1
            simp only [Pr.cs, List.getElem?_toArray, List.getElem?_cons_zero, List.getElem?_cons_succ] at q0 q1
            have hc := sto_get HS6.out HBn.out a HBK6.out (show pk.length ≤ maxLen from Nat.le_trans hkl (by unfold maxLen; omega))
            rw [show g a pk = some pv from HGK.out] at hc
            simp only [Option.isSome_some, Option.getD_some] at hc
            replace hc := Lib.hid hc
            go_wp2_with fail
            refine hc.out.mono ?_
            rintro en w7 ⟨v7, rfl, ht, hb⟩
            obtain ⟨s7, c7, rfl⟩ := ht.form
            have HW7 := Lib.hid (HW6.out.trans (hb.mono HW6.out.size))
            have HX7 := Lib.hid (HX.out.below hb HX.out.lt)
            have kx := Byt.conv ht.byt
            have ky := Byt.conv (HBV6.out.later hb)
            have kk := Byt.conv (HBK6.out.later hb)
            have q0' := HX7.out.cell 0
            have q1' := HX7.out.cell 1
            simp only [Pr.cs, List.getElem?_toArray, List.getElem?_cons_zero, List.getElem?_cons_succ] at q0' q1'
            clear hc ht hb a0 a1 a2 a3 a4 a5 a6 a7 q0 q1 HA6 HS6 HBK6 HBV6 HX HW6
            by_cases hj0 : j = 0
            · as_aux_lemma =>
                subst hj0
                go_wp2_with fail
                go_roundw
                case rel => exact ⟨1, pk, by omega, by go_num, rfl, fun q _ hq => by rw [show (1 - 1 : Nat) = 0 from rfl, HPJ.out] at hq; injection hq with hq; rw [← hq], HW7.out⟩
                case measure => simp [intOf]; omega
            · as_aux_lemma =>
                obtain ⟨p0, hp0⟩ : ∃ p, T[j - 1]? = some p := ⟨_, List.getElem?_eq_getElem (by omega)⟩
                have hll : Lt lb pk := by rw [HLB.out p0 (by omega) hp0]; exact HLT.out p0 (by omega) hp0
                have hnl := not_leq hll
                have hjp : 0 < j := by omega
                clear hp0 hll
                go_wp2_with fail
                go_roundw
                case rel => exact ⟨j + 1, pk, by omega, by go_num, rfl, fun q _ hq => by rw [Nat.add_sub_cancel, HPJ.out] at hq; injection hq with hq; rw [← hq], HW7.out⟩
                case measure => simp [intOf]; omega
          · obtain rfl : j = T.length := by omega
            go_wp2_with fail
            go_ret
            exact ⟨rfl, HW4.out.trans (HW5.out.mono HW4.out.size)⟩
end Go.Proofs.Yteeghdkejnhjnaa.Kv
