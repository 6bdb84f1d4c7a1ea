/- The walk of BookCuts: behind a Cut to what Len was the events are what they were. -/
import Derived.Test.YteeghdkejnhjnaaBoK
import Derived.Test.YteeghdkejnhjnaaBoY
namespace Go.Proofs.Yteeghdkejnhjnaa.Bo
open Go Go.RowKit Kt Ad

theorem own_form {w : World} {base sz n : Nat} {t : TypeId} {v : Value} {xs : List Value} (h : w.ownsRow base t sz v n xs) : ∃ (s : Option Addr) (cap : Nat), v = .slice s n cap := by
  rcases h.2 with ⟨rfl, h0⟩ | ⟨g, cap, cur, rfl, _⟩
  · exact ⟨none, 0, by rw [h0]⟩
  · exact ⟨_, cap, rfl⟩
theorem turn_mem {C : Cs} {k : Nat} {S : List (A8 × List UInt8)} (h : Bd k S (Al.turn (·.2) C)) : ∀ c ∈ C, c.2.2.length ≤ 1000000000 := fun c hc => by
  have := h.cds (c.1, c.2.2) (List.mem_map.2 ⟨c, hc, rfl⟩)
  exact Nat.le_trans this (by decide)
theorem turn_len (C : Cs) : (Al.turn (·.2) C).length = C.length := List.length_map ..
theorem code_is {C' C : Cs} {a : A8} {b : List UInt8} (hr : Al.Rise C) (h : Al.turn (·.2) C' = (if b = [] then Al.del a (Al.turn (·.2) C) else Al.ins (a, b) (Al.turn (·.2) C))) : (Al.find C' a).isSome = decide (0 < b.length) := by
  have h1 : (Al.find C' a).map (·.2) = if b = [] then none else some b := by
    rw [← Al.turn_find, h]
    by_cases h0 : b = []
    · rw [if_pos h0, if_pos h0, Al.find_del (Al.turn_rise _ hr), if_pos rfl]
    · rw [if_neg h0, if_neg h0, Al.find_ins (Al.turn_rise _ hr), if_pos rfl]
  by_cases h0 : b = []
  · rw [if_pos h0] at h1
    rw [Option.map_eq_none_iff.1 h1, h0]
    rfl
  · rw [if_neg h0] at h1
    rw [some_of_map h1, decide_eq_true (List.length_pos_iff.2 h0)]

set_option maxRecDepth 100000 in
set_option maxHeartbeats 8000000 in
theorem law_cuts {W : World} {v0 v1 : Value} {X Y : List Do} (h0 : DoRow W v0 X) (h1 : DoRow W v1 Y) :
    Calls Try.prog 6 #[v0, v1] W fun e w' => e = .returned (.bool true) ∧ Below W.heap.size W w' := by
  have HV0 := Lib.hid (fun (w : World) (hb : Below W.heap.size W w) => heavy_any (h0.below hb))
  have HV1 := Lib.hid (fun (w : World) (hb : Below W.heap.size W w) => heavy_any (h1.below hb))
  obtain ⟨s0, cap0, rfl, hs0⟩ := h0.shape
  obtain ⟨s1, cap1, rfl, hs1⟩ := h1.shape
  have HB0 := Lib.hid h0.byt
  have HB1 := Lib.hid h1.byt
  have HS0 := Lib.hid hs0
  have HS1 := Lib.hid hs1
  clear hs0 hs1 h0 h1
  have HN := Lib.hid (known_any W)
  go_enter Try.func6, Try.ntmps6
  go_wp2_with fail
  refine HN.out.mono ?_
  rintro en w1 ⟨rfl, hb1⟩
  clear HN
  go_wp2_with fail
  refine (HV0.out w1 hb1).mono ?_
  rintro en w2 ⟨hv, rfl, hh, hb⟩
  have hb2 := hb1.trans (hb.mono hb1.size)
  clear hb hb1 HV0
  cases hv with
  | true =>
    go_wp2_with fail
    go_ret
    exact ⟨rfl, hb2⟩
  | false =>
    obtain ⟨hlX, hbX⟩ := hh rfl
    have HL0 := Lib.hid hbX
    clear hh hbX
    go_wp2_with fail
    refine (HV1.out w2 hb2).mono ?_
    rintro en w3 ⟨hv, rfl, hh, hb⟩
    have hb3 := hb2.trans (hb.mono hb2.size)
    clear hb hb2 HV1
    cases hv with
    | true =>
      go_wp2_with fail
      go_ret
      exact ⟨rfl, hb3⟩
    | false =>
      obtain ⟨hlY, hbY⟩ := hh rfl
      have HL1 := Lib.hid hbY
      clear hh hbY
      go_wp2_with fail
      refine (new_any _).mono ?_
      rintro en w4 ⟨bl, bm, rfl, hK, hb⟩
      have HK := Lib.hid (hK.mono (own' := (fun i => W.heap.size ≤ i)) (fun k _ hk => Nat.le_trans hb3.size hk))
      have HW := Lib.hid (hb3.trans (hb.mono hb3.size))
      clear hK hb hb3
      go_wp2_with fail
      go_loopw [27] (fun i wr => ∃ (k : Nat) (vr : Value) (E : List Ev) (C : Cs), k ≤ X.length ∧ i = .int .i64 k ∧ Bk wr (fun i => W.heap.size ≤ i) bl bm vr E C ∧ Bd k (said E) (Al.turn (·.2) C) ∧ Below W.heap.size W wr)
        (fun i _ => X.length - (intOf i).toNat)
      case atStart => exact ⟨0, _, [], [], by omega, rfl, HK.out, ⟨Nat.le_refl _, by simp [said], by simp [Al.turn]⟩, HW.out⟩
      case round =>
        clear HK HW
        obtain ⟨k, vr, E, C, hk, rfl, hK, hbd, hW⟩ := hrel
        have HK2 := Lib.hid hK
        have HBD := Lib.hid hbd
        have HW2 := Lib.hid hW
        clear hK hbd hW
        by_cases hlt : k < X.length
        · as_aux_lemma =>
            obtain ⟨x, hx⟩ : ∃ x, X[k]? = some x := ⟨_, List.getElem?_eq_getElem hlt⟩
            obtain ⟨b, off, rfl, hbl, hat⟩ := HS0.out (by intro e; simp [e] at hlt)
            have hby := (HB0.out x (List.mem_of_getElem? hx)).1
            have hlb := HL0.out x (List.mem_of_getElem? hx)
            have hd := (hat k x hx).below HW2.out hbl
            clear hat hx
            obtain ⟨xk, xn, xa, xv, xb⟩ := x
            obtain ⟨sx, cx, hvx⟩ : ∃ sx cx, xv = .slice sx xb.length cx := by obtain ⟨s, c, e, _⟩ := hby; exact ⟨s, c, e⟩
            subst hvx
            replace hlb : xb.length ≤ 30000 := hlb
            have HD := Lib.hid hd
            have HBY := Lib.hid (show Byt W (.slice sx xb.length cx) xb from hby)
            clear hd hby
            have hEl : E.length ≤ 1000000 := by have := HBD.out.len; rw [said_len] at this; omega
            by_cases hk0 : xk = 0
            · as_aux_lemma =>
                subst hk0
                go_wp2_with (first | (refine wb_load _ _ _ HD.out _ rfl rfl rfl ?_; simp only [Do.cs, Act.put, List.setIfInBounds_toArray, List.set_cons_zero, List.set_cons_succ]) | (refine wb_store ⟨0, xn, xa, .slice sx xb.length cx, xb⟩ rfl _ _ rfl rfl rfl rfl rfl ?_; simp only [Do.cs, Act.put]))
                obtain ⟨W1, hW1⟩ : ∃ W1, W1 = wr.alloc (.cells (Do.cs ⟨0, xn, xa, .slice sx xb.length cx, xb⟩).toArray 56) := ⟨_, rfl⟩
                have hb1 : Below wr.heap.size wr W1 := hW1 ▸ (Below.refl _ _).alloc (Nat.le_refl _) _
                have HX := Lib.hid (show Lies W1 wr.heap.size 56 (Do.cs ⟨0, xn, xa, .slice sx xb.length cx, xb⟩).toArray from hW1 ▸ Lies.new wr _ _)
                rw [show wr.alloc (.cells #[.int .i64 0, .int .i64 xn, .int .u8 xa.x0.toNat, .int .u8 xa.x1.toNat, .int .u8 xa.x2.toNat, .int .u8 xa.x3.toNat, .int .u8 xa.x4.toNat, .int .u8 xa.x5.toNat, .int .u8 xa.x6.toNat, .int .u8 xa.x7.toNat, .slice sx xb.length cx] 56) = W1 from hW1.symm]
                have HK := Lib.hid (HK2.out.later hb1)
                have HW := Lib.hid (HW2.out.trans (hb1.mono HW2.out.size))
                have HBX := Lib.hid (HBY.out.later HW.out)
                have hdx := HX.out.lt
                clear hW1 hb1 HK2 HW2 HBY HD
                refine (emit_own HK.out (fun i hi => Nat.le_trans HW.out.size hi) hEl xa HBX.out).mono ?_
                rintro en w5 ⟨vn, E5, rfl, hk5, hs5, hf5⟩
                have HK5 := Lib.hid hk5
                have HW5 := Lib.hid (HW.out.trans (hf5.below HW.out.size (fun i hi => hi)))
                have hb5 := HBD.out.emit xa xb
                rw [← hs5] at hb5
                have HB5 := Lib.hid hb5
                clear hk5 hs5 hf5 hb5 HK HW HX HBX HBD
                go_wp2_with fail
                go_roundw
                case rel => exact ⟨k + 1, vn, E5, C, by omega, by go_num, HK5.out, HB5.out, HW5.out⟩
                case measure => simp [intOf]; omega
            · as_aux_lemma =>
                go_wp2_with (first | (refine wb_load _ _ _ HD.out _ rfl rfl rfl ?_; simp only [Do.cs, Act.put, List.setIfInBounds_toArray, List.set_cons_zero, List.set_cons_succ]) | (refine wb_store ⟨xk, xn, xa, .slice sx xb.length cx, xb⟩ rfl _ _ rfl rfl rfl rfl rfl ?_; simp only [Do.cs, Act.put]))
                obtain ⟨W1, hW1⟩ : ∃ W1, W1 = wr.alloc (.cells (Do.cs ⟨xk, xn, xa, .slice sx xb.length cx, xb⟩).toArray 56) := ⟨_, rfl⟩
                have hb1 : Below wr.heap.size wr W1 := hW1 ▸ (Below.refl _ _).alloc (Nat.le_refl _) _
                have HX := Lib.hid (show Lies W1 wr.heap.size 56 (Do.cs ⟨xk, xn, xa, .slice sx xb.length cx, xb⟩).toArray from hW1 ▸ Lies.new wr _ _)
                rw [show wr.alloc (.cells #[.int .i64 xk, .int .i64 xn, .int .u8 xa.x0.toNat, .int .u8 xa.x1.toNat, .int .u8 xa.x2.toNat, .int .u8 xa.x3.toNat, .int .u8 xa.x4.toNat, .int .u8 xa.x5.toNat, .int .u8 xa.x6.toNat, .int .u8 xa.x7.toNat, .slice sx xb.length cx] 56) = W1 from hW1.symm]
                have HK := Lib.hid (HK2.out.later hb1)
                have HW := Lib.hid (HW2.out.trans (hb1.mono HW2.out.size))
                have HBX := Lib.hid (HBY.out.later HW.out)
                have hdx := HX.out.lt
                clear hW1 hb1 HK2 HW2 HBY HD
                refine (setcode_own HK.out (fun i hi => Nat.le_trans HW.out.size hi) xa HBX.out (by omega)).mono ?_
                rintro en w5 ⟨C5, rfl, hk5, hs5, hf5⟩
                have HK5 := Lib.hid hk5
                have HW5 := Lib.hid (HW.out.trans (hf5.below HW.out.size (fun i hi => hi)))
                have hb5 := HBD.out.set xa xb hlb
                rw [← hs5] at hb5
                have HB5 := Lib.hid hb5
                clear hk5 hs5 hf5 hb5 HK HW HX HBX HBD
                go_wp2_with fail
                go_roundw
                case rel => exact ⟨k + 1, vr, E, C5, by omega, by go_num, HK5.out, HB5.out, HW5.out⟩
                case measure => simp [intOf]; omega
        · obtain rfl : k = X.length := by omega
          clear hlt hk HS0 HB0 HL0
          obtain ⟨S, hS⟩ : ∃ S, S = said E := ⟨_, rfl⟩
          have hES : E.length = S.length := by rw [hS, said_len]
          have HSD := Lib.hid hS
          clear hS
          have hEl : E.length ≤ 1000000 := by have := HBD.out.len; rw [said_len] at this; omega
          have HEB := Lib.hid (said_short rfl (fun p hp => Nat.le_trans (HBD.out.evs p hp) (by decide)) : ∀ x ∈ E, x.b.length ≤ 1000000)
          have HBD0 := Lib.hid (HBD.out.more hlX)
          go_wp2_with fail
          have hc := len_any HK2.out
          rw [hES] at hc
          replace hc := Lib.hid hc
          refine hc.out.mono ?_
          rintro en w6 ⟨rfl, rfl⟩
          clear hc
          go_wp2_with fail
          refine (events_any HK2.out hEl HEB.out 0).mono ?_
          rintro en w7 ⟨vt, E0, rfl, hs, ht, hb⟩
          obtain ⟨st, ct, rfl, _⟩ := ht.row.form
          have HE0 := Lib.hid (show said E0 = S from by rw [hs, if_neg (by decide), HSD.out]; rfl)
          obtain ⟨n0, hn0⟩ : ∃ n0, n0 = w6.heap.size := ⟨_, rfl⟩
          obtain ⟨n1, hn1⟩ : ∃ n1, n1 = w7.heap.size := ⟨_, rfl⟩
          have HT := Lib.hid (ht.mono (own' := (fun i => n0 ≤ i ∧ i < n1)) (fun k hk ho => ⟨hn0 ▸ ho, hn1 ▸ hk⟩))
          have HK := Lib.hid ((HK2.out.mono (own' := (fun i => W.heap.size ≤ i ∧ (i < n0 ∨ n1 ≤ i))) (fun k hk ho => ⟨ho, Or.inl (hn0 ▸ hk)⟩)).later hb)
          have HW := Lib.hid (HW2.out.trans (hb.mono HW2.out.size))
          have hle1 : n1 ≤ w7.heap.size := Nat.le_of_eq hn1
          have HSE := Lib.hid (show said E = S from HSD.out.symm)
          have hSl : S.length ≤ 200 := by have := HBD0.out.len; rw [HSD.out]; omega
          clear hn0 hn1 hs ht hb HK2 HW2 HBD HEB hES hEl HSD
          go_wp2_with fail
          go_loopw [53] (fun i wr => ∃ (k : Nat) (vr : Value) (E : List Ev) (C : Cs), k ≤ Y.length ∧ i = .int .i64 k ∧ Bk wr (fun i => W.heap.size ≤ i ∧ (i < n0 ∨ n1 ≤ i)) bl bm vr E C ∧ (∃ T, said E = S ++ T) ∧ Bd (200 + k) (said E) (Al.turn (·.2) C) ∧ Told wr (fun i => n0 ≤ i ∧ i < n1) (.slice st E0.length ct) E0 ∧ Below W.heap.size W wr ∧ n1 ≤ wr.heap.size)
            (fun i _ => Y.length - (intOf i).toNat)
          case atStart => exact ⟨0, vr, E, C, by omega, rfl, HK.out, ⟨[], by rw [HSE.out, List.append_nil]⟩, HBD0.out, HT.out, HW.out, hle1⟩
          case round =>
            clear HK HW HT HSE HBD0 hle1 vr E C
            obtain ⟨k, vr, E, C, hk, rfl, hK, hS, hbd, hT, hW, hsz⟩ := hrel
            have HK2 := Lib.hid hK
            have HBD := Lib.hid hbd
            have HW2 := Lib.hid hW
            have HT2 := Lib.hid hT
            have HSE := Lib.hid hS
            clear hK hbd hW hT hS
            have hEl : E.length ≤ 1000000 := by have := HBD.out.len; rw [said_len] at this; omega
            have hCl : C.length ≤ 1000000000 := by have := HBD.out.len; rw [turn_len] at this; omega
            by_cases hlt : k < Y.length
            · as_aux_lemma =>
                obtain ⟨x, hx⟩ : ∃ x, Y[k]? = some x := ⟨_, List.getElem?_eq_getElem hlt⟩
                obtain ⟨b, off, rfl, hbl, hat⟩ := HS1.out (by intro e; simp [e] at hlt)
                have hby := (HB1.out x (List.mem_of_getElem? hx)).1
                have hlb := HL1.out x (List.mem_of_getElem? hx)
                have hd := (hat k x hx).below HW2.out hbl
                clear hat hx
                obtain ⟨xk, xn, xa, xv, xb⟩ := x
                obtain ⟨sx, cx, hvx⟩ : ∃ sx cx, xv = .slice sx xb.length cx := by obtain ⟨s, c, e, _⟩ := hby; exact ⟨s, c, e⟩
                subst hvx
                replace hlb : xb.length ≤ 30000 := hlb
                have HD := Lib.hid hd
                have HBY := Lib.hid (show Byt W (.slice sx xb.length cx) xb from hby)
                clear hd hby
                go_wp2_with (first | (refine wb_load _ _ _ HD.out _ rfl rfl rfl ?_; simp only [Do.cs, Act.put, List.setIfInBounds_toArray, List.set_cons_zero, List.set_cons_succ]) | (refine wb_store ⟨xk, xn, xa, .slice sx xb.length cx, xb⟩ rfl _ _ rfl rfl rfl rfl rfl ?_; simp only [Do.cs, Act.put]))
                obtain ⟨W1, hW1⟩ : ∃ W1, W1 = wr.alloc (.cells (Do.cs ⟨xk, xn, xa, .slice sx xb.length cx, xb⟩).toArray 56) := ⟨_, rfl⟩
                have hb1 : Below wr.heap.size wr W1 := hW1 ▸ (Below.refl _ _).alloc (Nat.le_refl _) _
                have HX := Lib.hid (show Lies W1 wr.heap.size 56 (Do.cs ⟨xk, xn, xa, .slice sx xb.length cx, xb⟩).toArray from hW1 ▸ Lies.new wr _ _)
                rw [show wr.alloc (.cells #[.int .i64 xk, .int .i64 xn, .int .u8 xa.x0.toNat, .int .u8 xa.x1.toNat, .int .u8 xa.x2.toNat, .int .u8 xa.x3.toNat, .int .u8 xa.x4.toNat, .int .u8 xa.x5.toNat, .int .u8 xa.x6.toNat, .int .u8 xa.x7.toNat, .slice sx xb.length cx] 56) = W1 from hW1.symm]
                have HK := Lib.hid ((HK2.out.mono (own' := (fun i => (W.heap.size ≤ i ∧ (i < n0 ∨ n1 ≤ i)) ∧ i ≠ wr.heap.size)) (fun k hk ho => ⟨ho, by omega⟩)).later hb1)
                have HW := Lib.hid (HW2.out.trans (hb1.mono HW2.out.size))
                have HT := Lib.hid (HT2.out.later hb1)
                have hn1 : n1 ≤ W1.heap.size := Nat.le_trans hsz hb1.size
                have HBX := Lib.hid (HBY.out.later HW.out)
                have hdx := HX.out.lt
                clear hW1 hb1 HK2 HW2 HBY HD HT2
                refine (coded_any HK.out hCl).mono ?_
                rintro en w8 ⟨vc, rfl, hrow, hb⟩
                obtain ⟨sc, csc, rfl⟩ := own_form hrow
                clear hrow
                replace HX := Lib.hid (HX.out.below hb HX.out.lt)
                replace HK := Lib.hid (HK.out.later hb)
                replace HW := Lib.hid (HW.out.trans (hb.mono HW.out.size))
                replace HT := Lib.hid (HT.out.later hb)
                replace HBX := Lib.hid (HBX.out.later hb)
                replace hn1 := Nat.le_trans hn1 hb.size
                replace hdx := Nat.lt_of_lt_of_le hdx hb.size
                clear hb
                obtain ⟨d0, d1, d2, d3, d4, d5, d6, d7, d8, d9, d10⟩ := lies_dos HX.out
                by_cases hk0 : xk = 0
                · as_aux_lemma =>
                    subst hk0
                    go_wp2_with fail
                    have hc := emit_own HK.out (fun i hi => ⟨⟨Nat.le_trans HW.out.size hi, Or.inr (Nat.le_trans hn1 hi)⟩, by omega⟩) hEl xa HBX.out
                    obtain ⟨er, her⟩ : ∃ er : Nat, (if 1024 < xb.length then 3 else 0) = er := ⟨_, rfl⟩
                    rw [her] at hc
                    clear her
                    refine hc.mono ?_
                    clear hc
                    rintro en w9 ⟨vn, E5, rfl, hk5, hs5, hf5⟩
                    have hb5 := HBD.out.emit xa xb
                    rw [← hs5] at hb5
                    have HB5 := Lib.hid hb5
                    have HS5 := Lib.hid (show ∃ T, said E5 = S ++ T from by obtain ⟨T, hT⟩ := HSE.out; exact ⟨_, by rw [hs5, hT, List.append_assoc]⟩)
                    replace HT := Lib.hid (HT.out.kept hf5 (fun i hi hm => by omega))
                    replace HW := Lib.hid (HW.out.trans (hf5.below HW.out.size (fun i hi => hi.1.1)))
                    replace hn1 := Nat.le_trans hn1 hf5.size
                    replace HK := Lib.hid hk5
                    clear hk5 hs5 hf5 hb5 HX HBX HBD HSE hdx d0 d1 d2 d3 d4 d5 d6 d7 d8 d9 d10
                    go_wp2_with fail
                    refine (coded_any HK.out hCl).mono ?_
                    rintro en w10 ⟨vc, rfl, hrow, hb⟩
                    obtain ⟨sd, csd, rfl⟩ := own_form hrow
                    clear hrow
                    replace HK := Lib.hid (HK.out.later hb)
                    replace HW := Lib.hid (HW.out.trans (hb.mono HW.out.size))
                    replace HT := Lib.hid (HT.out.later hb)
                    replace hn1 := Nat.le_trans hn1 hb.size
                    clear hb
                    go_wp2_with fail
                    go_roundw
                    case rel => exact ⟨k + 1, vn, E5, C, by omega, by go_num, HK.out.mono (fun i _ hi => hi.1), HS5.out, HB5.out, HT.out, HW.out, hn1⟩
                    case measure => simp [intOf]; omega
                · as_aux_lemma =>
                    go_wp2_with fail
                    refine (len_any HK.out).mono ?_
                    rintro en w9 ⟨rfl, rfl⟩
                    go_wp2_with fail
                    refine (setcode_own HK.out (fun i hi => ⟨⟨Nat.le_trans HW.out.size hi, Or.inr (Nat.le_trans hn1 hi)⟩, by omega⟩) xa HBX.out (by omega)).mono ?_
                    rintro en w10 ⟨C5, rfl, hk5, hs5, hf5⟩
                    have hb5 := HBD.out.set xa xb hlb
                    rw [← hs5] at hb5
                    have HB5 := Lib.hid hb5
                    have hci := code_is HK.out.rise hs5
                    replace HX := Lib.hid (lies_fr HX.out hf5 (fun e => e.2 rfl))
                    replace HT := Lib.hid (HT.out.kept hf5 (fun i hi hm => by omega))
                    replace HW := Lib.hid (HW.out.trans (hf5.below HW.out.size (fun i hi => hi.1.1)))
                    replace hn1 := Nat.le_trans hn1 hf5.size
                    replace hdx := Nat.lt_of_lt_of_le hdx hf5.size
                    replace HK := Lib.hid hk5
                    have hc := code_any HK.out xa (turn_mem HB5.out)
                    rw [hci] at hc
                    clear hk5 hs5 hf5 hb5 HBX HBD hci d0 d1 d2 d3 d4 d5 d6 d7 d8 d9 d10
                    have hz : xb.length = 0 ∨ 0 < xb.length := by omega
                    rcases hz with hz | hz
                    · as_aux_lemma =>
                        rw [decide_eq_false (show ¬ 0 < xb.length by omega)] at hc
                        replace hc := Lib.hid hc
                        obtain ⟨d0, d1, d2, d3, d4, d5, d6, d7, d8, d9, d10⟩ := lies_dos HX.out
                        go_wp2_with fail
                        refine hc.out.mono ?_
                        rintro en w11 ⟨v11, rfl, ht, hb⟩
                        obtain ⟨s11, c11, rfl⟩ := ht.form
                        replace HX := Lib.hid (HX.out.below hb HX.out.lt)
                        replace HK := Lib.hid (HK.out.later hb)
                        replace HW := Lib.hid (HW.out.trans (hb.mono HW.out.size))
                        replace HT := Lib.hid (HT.out.later hb)
                        replace hn1 := Nat.le_trans hn1 hb.size
                        clear hc ht hb d0 d1 d2 d3 d4 d5 d6 d7 d8 d9 d10
                        obtain ⟨d0, d1, d2, d3, d4, d5, d6, d7, d8, d9, d10⟩ := lies_dos HX.out
                        go_wp2_with fail
                        refine (len_any HK.out).mono ?_
                        rintro en w12 ⟨rfl, rfl⟩
                        go_wp2_with fail
                        go_roundw
                        case rel => exact ⟨k + 1, vr, E, C5, by omega, by go_num, HK.out.mono (fun i _ hi => hi.1), HSE.out, HB5.out, HT.out, HW.out, hn1⟩
                        case measure => simp [intOf]; omega
                    · as_aux_lemma =>
                        rw [decide_eq_true hz] at hc
                        replace hc := Lib.hid hc
                        obtain ⟨d0, d1, d2, d3, d4, d5, d6, d7, d8, d9, d10⟩ := lies_dos HX.out
                        go_wp2_with fail
                        refine hc.out.mono ?_
                        rintro en w11 ⟨v11, rfl, ht, hb⟩
                        obtain ⟨s11, c11, rfl⟩ := ht.form
                        replace HX := Lib.hid (HX.out.below hb HX.out.lt)
                        replace HK := Lib.hid (HK.out.later hb)
                        replace HW := Lib.hid (HW.out.trans (hb.mono HW.out.size))
                        replace HT := Lib.hid (HT.out.later hb)
                        replace hn1 := Nat.le_trans hn1 hb.size
                        clear hc ht hb d0 d1 d2 d3 d4 d5 d6 d7 d8 d9 d10
                        obtain ⟨d0, d1, d2, d3, d4, d5, d6, d7, d8, d9, d10⟩ := lies_dos HX.out
                        go_wp2_with fail
                        refine (len_any HK.out).mono ?_
                        rintro en w12 ⟨rfl, rfl⟩
                        go_wp2_with fail
                        go_roundw
                        case rel => exact ⟨k + 1, vr, E, C5, by omega, by go_num, HK.out.mono (fun i _ hi => hi.1), HSE.out, HB5.out, HT.out, HW.out, hn1⟩
                        case measure => simp [intOf]; omega
            · obtain rfl : k = Y.length := by omega
              obtain ⟨T, hT⟩ := HSE.out
              have hle : S.length ≤ E.length := by rw [← said_len, hT, List.length_append]; omega
              have hE8 : said (E.take S.length) = S := by rw [said_takes, hT, List.take_left]
              have HEB := Lib.hid (show ∀ x ∈ E.take S.length, x.b.length ≤ 1000000 from fun x hx => Nat.le_trans (HBD.out.evs (x.a, x.b) (List.mem_map.2 ⟨x, List.mem_of_mem_take hx, rfl⟩)) (by decide))
              clear hT HSE HBD hlt hk
              go_wp2_with fail
              refine (cut_own HK2.out S.length hle).mono ?_
              rintro en w8 ⟨vn, rfl, hk8, hf8⟩
              have HT := Lib.hid (HT2.out.kept hf8 (fun i hi hm => by omega))
              have HW := Lib.hid (HW2.out.trans (hf8.below HW2.out.size (fun i hi => hi.1)))
              have HK := Lib.hid hk8
              clear hk8 hf8 HK2 HW2 HT2 hle
              generalize E.take S.length = E8 at HK hE8 HEB
              have hl8 : E8.length = S.length := by rw [← said_len, hE8]
              have HE8 := Lib.hid hE8
              clear hE8
              go_wp2_with fail
              have hc := len_any HK.out
              rw [hl8] at hc
              replace hc := Lib.hid hc
              refine hc.out.mono ?_
              rintro en w9 ⟨rfl, rfl⟩
              clear hc
              have hc := events_any HK.out (by omega) HEB.out 0
              replace hc := Lib.hid hc
              clear hl8
              go_wp2_with fail
              refine hc.out.mono ?_
              rintro en w10 ⟨vt, E9, rfl, hs, ht, hb⟩
              clear hc
              obtain ⟨s9, c9, rfl, _⟩ := ht.row.form
              have hl9 : E9.length = S.length := by rw [← said_len, hs, if_neg (by decide)]; show (said E8).length = _; rw [HE8.out]
              have hc := same_any ht.shows (HT.out.later hb).shows (by omega)
              clear hl9
              rw [decide_eq_true (show said E9 = said E0 from by rw [hs, if_neg (by decide), HE0.out, ← HE8.out]; rfl)] at hc
              replace hc := Lib.hid hc
              replace HW := Lib.hid (HW.out.trans (hb.mono HW.out.size))
              clear hs ht hb HT HK
              go_wp2_with fail
              refine hc.out.mono ?_
              rintro en w11 ⟨rfl, hb⟩
              replace HW := Lib.hid (HW.out.trans (hb.mono HW.out.size))
              clear hc hb
              go_wp2_with fail
              go_ret
              exact ⟨rfl, HW.out⟩
end Go.Proofs.Yteeghdkejnhjnaa.Bo
