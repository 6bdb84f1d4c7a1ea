/- The walk of AcctKeeps: what is moved changes no sum. -/
import Derived.Test.YteeghdkejnhjnaaAcK
import Derived.Test.YteeghdkejnhjnaaOp
import Derived.Test.YteeghdkejnhjnaaLd
namespace Go.Proofs.Yteeghdkejnhjnaa.Ac
open Go Go.RowKit Kt Ad

theorem DoRow.form {W : World} {v : Value} {L : List Do} (h : DoRow W v L) : ∃ (s : Option Addr) (cap : Nat), v = .slice s L.length cap ∧ (L ≠ [] → ∃ b off, s = some ⟨b, off, none⟩ ∧ b < W.heap.size ∧ ∀ (i : Nat) (x : Do), L[i]? = some x → DoAt W b (off + i * 19) x) := by
  rcases h.shape with ⟨rfl, rfl⟩ | ⟨ad, cap, rfl, h0⟩
  · exact ⟨none, 0, rfl, fun h => absurd rfl h⟩
  · refine ⟨some ad, cap, rfl, fun hne => ?_⟩
    obtain ⟨b, off, rfl, h1, h2⟩ := h0 hne
    exact ⟨b, off, rfl, h1, h2⟩
theorem put_len (x : Ent) (L : List Ent) : (put x L).length ≤ L.length + 1 := by
  have h := List.length_filter_le (fun e : Ent => decide (e.a ≠ x.a)) L
  by_cases hz : zero x = true
  · rw [put_zero x L hz]; unfold strikeE; omega
  · rw [Bool.not_eq_true] at hz
    rw [(perm_put x L hz).length_eq, List.length_cons]; unfold strikeE; omega
theorem addE_len (L : List Ent) (a : A8) (n : Nat) : (addE L a n).2.length ≤ L.length + 1 := by unfold addE; split <;> simp [put_len]
theorem subE_len (L : List Ent) (a : A8) (n : Nat) : (subE L a n).2.length ≤ L.length + 1 := by unfold subE; split <;> simp [put_len]
theorem bumpE_len (L : List Ent) (a : A8) : (bumpE L a).2.length ≤ L.length + 1 := by unfold bumpE; split <;> simp [put_len]
theorem moveE_len (L : List Ent) (a b : A8) (n : Nat) : (moveE L a b n).2.length ≤ L.length + 2 := by
  have h1 := subE_len L a n
  have h2 := addE_len (subE L a n).2 b n
  have h3 := addE_len (subE L a n).2 a n
  unfold moveE
  split
  · split <;> simp only [] <;> omega
  · simp
theorem lies_dos {W : World} {b : Nat} {t : TypeId} {x : Do} (h : Lies W b t x.cs.toArray) :
    W.cell? ⟨b, 0, none⟩ = some (.int .i64 x.k) ∧ W.cell? ⟨b, 1, none⟩ = some (.int .u8 x.a.x0.toNat) ∧ W.cell? ⟨b, 2, none⟩ = some (.int .u8 x.a.x1.toNat) ∧ W.cell? ⟨b, 3, none⟩ = some (.int .u8 x.a.x2.toNat) ∧ W.cell? ⟨b, 4, none⟩ = some (.int .u8 x.a.x3.toNat) ∧ W.cell? ⟨b, 5, none⟩ = some (.int .u8 x.a.x4.toNat) ∧ W.cell? ⟨b, 6, none⟩ = some (.int .u8 x.a.x5.toNat) ∧ W.cell? ⟨b, 7, none⟩ = some (.int .u8 x.a.x6.toNat) ∧ W.cell? ⟨b, 8, none⟩ = some (.int .u8 x.a.x7.toNat) ∧ W.cell? ⟨b, 9, none⟩ = some (.int .u8 x.b.x0.toNat) ∧ W.cell? ⟨b, 10, none⟩ = some (.int .u8 x.b.x1.toNat) ∧ W.cell? ⟨b, 11, none⟩ = some (.int .u8 x.b.x2.toNat) ∧ W.cell? ⟨b, 12, none⟩ = some (.int .u8 x.b.x3.toNat) ∧ W.cell? ⟨b, 13, none⟩ = some (.int .u8 x.b.x4.toNat) ∧ W.cell? ⟨b, 14, none⟩ = some (.int .u8 x.b.x5.toNat) ∧ W.cell? ⟨b, 15, none⟩ = some (.int .u8 x.b.x6.toNat) ∧ W.cell? ⟨b, 16, none⟩ = some (.int .u8 x.b.x7.toNat) ∧ W.cell? ⟨b, 17, none⟩ = some (.int .u64 x.n) ∧ W.cell? ⟨b, 18, none⟩ = some (.int .u64 x.m) :=
  ⟨h.cell 0, h.cell 1, h.cell 2, h.cell 3, h.cell 4, h.cell 5, h.cell 6, h.cell 7, h.cell 8, h.cell 9, h.cell 10, h.cell 11, h.cell 12, h.cell 13, h.cell 14, h.cell 15, h.cell 16, h.cell 17, h.cell 18⟩
theorem low_below {W w w' : World} {bm : Nat} (h : Below W.heap.size W w) (hm : W.heap.size ≤ bm) (hg : w.grownBy w' (some bm)) : Below W.heap.size W w' :=
  h.trans (show Below W.heap.size w w' from ⟨hg.os, hg.tape, hg.output, hg.size, fun k hk => hg.block k (Nat.lt_of_lt_of_le hk h.size) (by simp; omega)⟩)

set_option maxRecDepth 100000 in
set_option maxHeartbeats 8000000 in
theorem law_keeps {W : World} {v0 v1 : Value} {X Y : List Do} (h0 : DoRow W v0 X) (h1 : DoRow W v1 Y) :
    Calls Try.prog 9 #[v0, v1] W fun e w' => e = .returned (.bool true) ∧ Below W.heap.size W w' := by
  obtain ⟨s0, cap0, rfl, hs0⟩ := h0.form
  obtain ⟨s1, cap1, rfl, hs1⟩ := h1.form
  have HF0 := Lib.hid h0.fit
  have HF1 := Lib.hid h1.fit
  have HS0 := Lib.hid hs0
  have HS1 := Lib.hid hs1
  clear hs0 hs1 h0 h1
  have HK := Lib.hid (known_any W)
  by_cases hX : 100 < X.length
  · go_enter Try.func9, Try.ntmps9
    go_wp2_with (go_at_call 46; refine HK.out.mono ?_; rintro en w1 ⟨rfl, hb⟩)
    go_ret
    exact ⟨rfl, hb⟩
  by_cases hY : 300 < Y.length
  · go_enter Try.func9, Try.ntmps9
    go_wp2_with (go_at_call 46; refine HK.out.mono ?_; rintro en w1 ⟨rfl, hb⟩)
    go_ret
    exact ⟨rfl, hb⟩
  go_enter Try.func9, Try.ntmps9
  go_wp2_with (go_at_call 46; refine HK.out.mono ?_; rintro en w1 ⟨rfl, hb⟩)
  refine (new_any _).mono ?_
  rintro en w2 ⟨bl, bm, rfl, hL, h1, h2, hB⟩
  have HW := Lib.hid (hb.trans (hB.mono hb.size))
  have hlo : W.heap.size ≤ bm := Nat.le_trans hb.size h2
  have HL := Lib.hid hL
  clear hL h1 h2 hB hb HK
  go_wp2_with fail
  go_loopw [30] (fun i wr => ∃ (k : Nat) (L : List Ent), k ≤ X.length ∧ i = .int .i64 k ∧ L.length ≤ k ∧ Led wr bl bm L ∧ Below W.heap.size W wr)
    (fun i _ => X.length - (intOf i).toNat)
  case atStart => exact ⟨0, [], by omega, rfl, by simp, HL.out, HW.out⟩
  case round =>
    obtain ⟨k, L, hk, rfl, hlen, hL, hW⟩ := hrel
    have HL2 := Lib.hid hL
    have HW2 := Lib.hid hW
    clear HL HW hL hW
    by_cases hlt : k < X.length
    · obtain ⟨x, hx⟩ : ∃ x, X[k]? = some x := ⟨_, List.getElem?_eq_getElem hlt⟩
      obtain ⟨b, off, rfl, hbl, hat⟩ := HS0.out (by intro e; simp [e] at hlt)
      have hfit := HF0.out x (List.mem_of_getElem? hx)
      have hd := (hat k x hx).below HW2.out hbl
      clear hat hx
      obtain ⟨xk, xa, xb, xn, xm⟩ := x
      have HD := Lib.hid hd
      have HFIT := Lib.hid hfit
      clear hd hfit
      go_wp2_with (first | (refine wl_load _ _ _ HD.out _ rfl rfl rfl ?_; simp only [Do.cs, Act.put, List.setIfInBounds_toArray, List.set_cons_zero, List.set_cons_succ]) | (refine wl_store ⟨xk, xa, xb, xn, xm⟩ _ _ rfl rfl rfl rfl rfl ?_; simp only [Do.cs, Act.put]))
      have hX1 := Lies.new wr 89 (Do.cs ⟨xk, xa, xb, xn, xm⟩).toArray
      have hL1 := HL2.out.alloc (.cells (Do.cs ⟨xk, xa, xb, xn, xm⟩).toArray 89)
      have hW1 := HW2.out.alloc (HW2.out.size) (.cells (Do.cs ⟨xk, xa, xb, xn, xm⟩).toArray 89)
      refine (set_any hL1 ⟨xa, xn, xm⟩ HFIT.out.1 HFIT.out.2).mono ?_
      rintro en w3 ⟨rfl, hL3, hG3⟩
      have HL3 := Lib.hid hL3
      have HW3 := Lib.hid (low_below hW1 hlo hG3)
      have hlen3 := put_len ⟨xa, xn, xm⟩ L
      clear hX1 hL1 hW1 hL3 hG3
      go_wp2_with fail
      go_roundw
      case rel => exact ⟨k + 1, _, by omega, by go_num, by omega, HL3.out, HW3.out⟩
      case measure => simp [intOf]; omega
    · obtain rfl : k = X.length := by omega
      go_wp2_with fail
      refine (total_any HL2.out (by omega)).mono ?_
      rintro en w4 ⟨rfl, hB⟩
      have HL4 := Lib.hid (HL2.out.later hB)
      have HW4 := Lib.hid (HW2.out.trans (hB.mono HW2.out.size))
      clear hB HL2 HW2
      obtain ⟨T, wl, hT⟩ : ∃ T wl, tot L = (T, wl) := ⟨_, _, rfl⟩
      rw [hT]
      have HT := Lib.hid hT
      have hlen0 : L.length ≤ 100 := by omega
      clear hT hlen hk hlt
      go_wp2_with fail
      go_loopw [50] (fun i wr => ∃ (k : Nat) (L : List Ent), k ≤ Y.length ∧ i = .int .i64 k ∧ L.length ≤ 100 + 2 * k ∧ Led wr bl bm L ∧ tot L = (T, wl) ∧ Below W.heap.size W wr)
        (fun i _ => Y.length - (intOf i).toNat)
      case atStart => exact ⟨0, _, by omega, rfl, by omega, HL4.out, HT.out, HW4.out⟩
      case round =>
        clear HL4 HT HW4 hlen0 L
        obtain ⟨k, L, hk, rfl, hlen, hL, hT, hW⟩ := hrel
        have HL2 := Lib.hid hL
        have HW2 := Lib.hid hW
        have HT := Lib.hid hT
        clear hL hW hT
        by_cases hlt : k < Y.length
        · as_aux_lemma =>
            obtain ⟨x, hx⟩ : ∃ x, Y[k]? = some x := ⟨_, List.getElem?_eq_getElem hlt⟩
            obtain ⟨b, off, rfl, hbl, hat⟩ := HS1.out (by intro e; simp [e] at hlt)
            have hfit := HF1.out x (List.mem_of_getElem? hx)
            have hd := (hat k x hx).below HW2.out hbl
            clear hat hx
            obtain ⟨xk, xa, xb, xn, xm⟩ := x
            have HD := Lib.hid hd
            have HFIT := Lib.hid hfit
            clear hd hfit
            go_wp2_with (first | (refine wl_load _ _ _ HD.out _ rfl rfl rfl ?_; simp only [Do.cs, Act.put, List.setIfInBounds_toArray, List.set_cons_zero, List.set_cons_succ]) | (refine wl_store ⟨xk, xa, xb, xn, xm⟩ _ _ rfl rfl rfl rfl rfl ?_; simp only [Do.cs, Act.put]))
            as_aux_lemma =>
              obtain ⟨W1, hW1⟩ : ∃ W1, W1 = wr.alloc (.cells (Do.cs ⟨xk, xa, xb, xn, xm⟩).toArray 89) := ⟨_, rfl⟩
              have hX1 : Lies W1 wr.heap.size 89 (Do.cs ⟨xk, xa, xb, xn, xm⟩).toArray := hW1 ▸ Lies.new wr _ _
              have hL1 : Led W1 bl bm L := hW1 ▸ HL2.out.alloc _
              have HW1 := Lib.hid (show Below W.heap.size W W1 from hW1 ▸ HW2.out.alloc (HW2.out.size) _)
              rw [show wr.alloc (.cells #[.int .i64 xk, .int .u8 xa.x0.toNat, .int .u8 xa.x1.toNat, .int .u8 xa.x2.toNat, .int .u8 xa.x3.toNat, .int .u8 xa.x4.toNat, .int .u8 xa.x5.toNat, .int .u8 xa.x6.toNat, .int .u8 xa.x7.toNat, .int .u8 xb.x0.toNat, .int .u8 xb.x1.toNat, .int .u8 xb.x2.toNat, .int .u8 xb.x3.toNat, .int .u8 xb.x4.toNat, .int .u8 xb.x5.toNat, .int .u8 xb.x6.toNat, .int .u8 xb.x7.toNat, .int .u64 xn, .int .u64 xm] 89) = W1 from hW1.symm]
              have hbm : bm < wr.heap.size := HL2.out.map.lt
              clear hW1 HL2 HW2
              refine RP.region (RP.take 0 (RP.take 1 (RP.take 2 (RP.take 4 (RP.take 5 (RP.take 6 (RP.run 3 (RP.run 7 (RP.take 8 (RP.take 9 RP.done)))))))))) (fun w' => Led w' bl bm L ∧ Lies w' wr.heap.size 89 (Do.cs ⟨xk, xa, xb, xn, xm⟩).toArray ∧ Below W1.heap.size W1 w') (by as_aux_lemma => kernel_rfl) (by as_aux_lemma => kernel_rfl) (fun _ _ d _ _ h => by cases d <;> exact h) ⟨hL1.drew, hX1.drew, (Below.refl _ _).drew⟩ (fun hS => ?_)
              generalize W1.drew = V at hS ⊢
              repeat (first | (refine RP.t_take (v := ?_) rfl rfl (fun w' hw' => ?_) ?_; rotate_left; (focus ((obtain ⟨hLf, hXf, hBf⟩ := hw'; obtain ⟨d0, d1, d2, d3, d4, d5, d6, d7, d8, d9, d10, d11, d12, d13, d14, d15, d16, d17, d18⟩ := lies_dos hXf); go_simp; (try go_bits); (try (with_reducible rfl)))); (try simp only [Act.put, List.setIfInBounds_toArray, List.set_cons_zero, List.set_cons_succ])) | (refine RP.t_skip rfl rfl ?_; (try simp only [Act.put, List.setIfInBounds_toArray, List.set_cons_zero, List.set_cons_succ])))
              refine RP.t_run rfl (fun K hK => ?_)
              go_simp
              refine (balance_any hS.1 xa).mono ?_
              rintro en V' ⟨rfl, hb⟩
              replace hS := And.intro (hS.1.later hb) (And.intro (hS.2.1.below hb hS.2.1.lt) (hS.2.2.trans (hb.mono hS.2.2.size)))
              refine hK.out _ _ hS ?_
              clear hK K hb
              (try simp only [Act.put, List.setIfInBounds_toArray, List.set_cons_zero, List.set_cons_succ])
              repeat (first | (refine RP.t_take (v := ?_) rfl rfl (fun w' hw' => ?_) ?_; rotate_left; (focus ((obtain ⟨hLf, hXf, hBf⟩ := hw'; obtain ⟨d0, d1, d2, d3, d4, d5, d6, d7, d8, d9, d10, d11, d12, d13, d14, d15, d16, d17, d18⟩ := lies_dos hXf); go_simp; (try go_bits); (try (with_reducible rfl)))); (try simp only [Act.put, List.setIfInBounds_toArray, List.set_cons_zero, List.set_cons_succ])) | (refine RP.t_skip rfl rfl ?_; (try simp only [Act.put, List.setIfInBounds_toArray, List.set_cons_zero, List.set_cons_succ])))
              refine RP.t_run rfl (fun K hK => ?_)
              go_simp
              refine (balance_any hS.1 xb).mono ?_
              rintro en V' ⟨rfl, hb⟩
              replace hS := And.intro (hS.1.later hb) (And.intro (hS.2.1.below hb hS.2.1.lt) (hS.2.2.trans (hb.mono hS.2.2.size)))
              refine hK.out _ _ hS ?_
              clear hK K hb
              (try simp only [Act.put, List.setIfInBounds_toArray, List.set_cons_zero, List.set_cons_succ])
              repeat (first | (refine RP.t_take (v := ?_) rfl rfl (fun w' hw' => ?_) ?_; rotate_left; (focus ((obtain ⟨hLf, hXf, hBf⟩ := hw'; obtain ⟨d0, d1, d2, d3, d4, d5, d6, d7, d8, d9, d10, d11, d12, d13, d14, d15, d16, d17, d18⟩ := lies_dos hXf); go_simp; (try go_bits); (try (with_reducible rfl)))); (try simp only [Act.put, List.setIfInBounds_toArray, List.set_cons_zero, List.set_cons_succ])) | (refine RP.t_skip rfl rfl ?_; (try simp only [Act.put, List.setIfInBounds_toArray, List.set_cons_zero, List.set_cons_succ])))
              refine RP.t_done ?_
              have HW3 := Lib.hid (HW1.out.trans (hS.2.2.mono HW1.out.size))
              as_aux_lemma =>
                obtain ⟨hL3, hX3, _⟩ := hS
                have hM := move_cases hL3.ok xa xb xn
                have hT3 := (tot_move hL3.ok xa xb xn).trans HT.out
                have hlen3 := moveE_len L xa xb xn
                have hpl := get_lt hL3.ok xa
                have hql := get_lt hL3.ok xb
                have hsum := tot_eq L
                rw [HT.out] at hsum
                have hc := move_any hL3 xa xb xn HFIT.out.1
                have hB1 := fun (w : World) (h : Led w bl bm (moveE L xa xb xn).2) => balance_any h xa
                have hB2 := fun (w : World) (h : Led w bl bm (moveE L xa xb xn).2) => balance_any h xb
                obtain ⟨d0, d1, d2, d3, d4, d5, d6, d7, d8, d9, d10, d11, d12, d13, d14, d15, d16, d17, d18⟩ := lies_dos hX3
                clear hX1 hL1 HW1 HT
                generalize (moveE L xa xb xn).2 = L' at *
                generalize (moveE L xa xb xn).1 = e at *
                have HC := Lib.hid hc
                have HX := Lib.hid hX3
                have HM := Lib.hid hM
                have HT3 := Lib.hid hT3
                have HB1 := Lib.hid hB1
                have HB2 := Lib.hid hB2
                have HS := Lib.hid hsum
                have HPL := Lib.hid hpl
                have HQL := Lib.hid hql
                clear hc hX3 hL3 hM hT3 hB1 hB2 hsum hpl hql
                go_wp2_with fail
                refine HC.out.mono ?_
                rintro en w5 ⟨rfl, hL5, hG5⟩
                have hX5 := HX.out.kept hG5 (by simp; omega)
                have HW5 := Lib.hid (low_below HW3.out hlo hG5)
                clear HC HX HW3 hG5 d0 d1 d2 d3 d4 d5 d6 d7 d8 d9 d10 d11 d12 d13 d14 d15 d16 d17 d18
                obtain ⟨d0, d1, d2, d3, d4, d5, d6, d7, d8, d9, d10, d11, d12, d13, d14, d15, d16, d17, d18⟩ := lies_dos hX5
                as_aux_lemma =>
                  rcases HM.out with ⟨rfl, rfl, hle, hg⟩ | ⟨rfl, hne, hle, hlt2, hg1, hg2⟩ | ⟨rfl, hle, hl⟩ | ⟨rfl, hle, hl, hns⟩
                  · as_aux_lemma =>
                      have HB3 := Lib.hid HB1.out
                      rw [hg] at HB3
                      generalize (get L xa).1 = p at *
                      clear HM HB1 HB2 HPL HQL HS hg
                      have hng : ¬ p < xn := by omega
                      go_wp2_with fail
                      refine (HB3.out _ hL5).mono ?_
                      rintro en w6 ⟨rfl, hb⟩
                      have hL6 := hL5.later hb
                      have hX6 := hX5.below hb hX5.lt
                      have HW6 := Lib.hid (HW5.out.trans (hb.mono HW5.out.size))
                      clear hb hL5 hX5 HW5 d0 d1 d2 d3 d4 d5 d6 d7 d8 d9 d10 d11 d12 d13 d14 d15 d16 d17 d18
                      obtain ⟨d0, d1, d2, d3, d4, d5, d6, d7, d8, d9, d10, d11, d12, d13, d14, d15, d16, d17, d18⟩ := lies_dos hX6
                      go_wp2_with fail
                      have hL9 := hL6
                      have HW9 := HW6
                      refine (total_any hL9 (by omega)).mono ?_
                      rintro en w10 ⟨rfl, hB⟩
                      have HL10 := Lib.hid (hL9.later hB)
                      have HW10 := Lib.hid (HW9.out.trans (hB.mono HW9.out.size))
                      clear hB hL9 HW9
                      rw [HT3.out]
                      go_wp2_with fail
                      go_roundw
                      case rel => exact ⟨k + 1, _, by omega, by go_num, by omega, HL10.out, HT3.out, HW10.out⟩
                      case measure => simp [intOf]; omega
                  · as_aux_lemma =>
                      have HB3 := Lib.hid HB1.out
                      have HB4 := Lib.hid HB2.out
                      rw [hg1] at HB3
                      rw [hg2] at HB4
                      have hpl : (get L xa).1 < M64 := HPL.out.1
                      generalize (get L xa).1 = p at *
                      generalize (get L xb).1 = q at *
                      clear HM HB1 HB2 HPL HQL HS hg1 hg2
                      rw [Int.natCast_add] at HB4
                      have HNE := Lib.hid hne
                      have hs1 : IntKind.u64.wrap ((p : Int) - (xn : Int)) = ((p - xn : Nat) : Int) := by rw [IntWalk.u64_in _ (by unfold M64 at hpl; omega)]; omega
                      have hs2 : IntKind.u64.wrap ((q : Int) + (xn : Int)) = (q : Int) + (xn : Int) := IntWalk.u64_in _ (by unfold M64 at hlt2; omega)
                      have hng : ¬ p < xn := by omega
                      go_wp2_with fail
                      refine RP.region (RP.take 0 (RP.take 1 (RP.take 2 (RP.take 4 (RP.take 5 (RP.take 6 (RP.take 7 (RP.run 3 (RP.take 8 (RP.take 9 (RP.take 10 (RP.take 11 (RP.take 12 (RP.take 14 (RP.take 15 (RP.take 16 (RP.take 17 (RP.run 13 (RP.take 18 (RP.take 19 (RP.take 20 (RP.take 21 (RP.take 22 (RP.take 23 (RP.take 24 (RP.take 25 (RP.take 26 (RP.take 27 (RP.take 28 (RP.take 29 (RP.take 30 (RP.take 31 (RP.take 32 (RP.take 33 RP.done)))))))))))))))))))))))))))))))))) (fun w' => Led w' bl bm L' ∧ Lies w' wr.heap.size 89 (Do.cs ⟨xk, xa, xb, xn, xm⟩).toArray ∧ Below w5.heap.size w5 w') (by as_aux_lemma => kernel_rfl) (by as_aux_lemma => kernel_rfl) (fun _ _ d _ _ h => by cases d <;> exact h) ⟨hL5.drew, hX5.drew, (Below.refl _ _).drew⟩ (fun hS => ?_)
                      generalize w5.drew = V at hS ⊢
                      repeat (first | (refine RP.t_take (v := ?_) rfl rfl (fun w' hw' => ?_) ?_; rotate_left; (focus ((obtain ⟨hLf, hXf, hBf⟩ := hw'; obtain ⟨d0, d1, d2, d3, d4, d5, d6, d7, d8, d9, d10, d11, d12, d13, d14, d15, d16, d17, d18⟩ := lies_dos hXf); go_simp; (try go_bits); (try (with_reducible rfl)))); (try simp only [Act.put, List.setIfInBounds_toArray, List.set_cons_zero, List.set_cons_succ])) | (refine RP.t_skip rfl rfl ?_; (try simp only [Act.put, List.setIfInBounds_toArray, List.set_cons_zero, List.set_cons_succ])))
                      refine RP.t_run rfl (fun K hK => ?_)
                      go_simp
                      refine (HB3.out _ hS.1).mono ?_
                      rintro en V' ⟨rfl, hb⟩
                      replace hS := And.intro (hS.1.later hb) (And.intro (hS.2.1.below hb hS.2.1.lt) (hS.2.2.trans (hb.mono hS.2.2.size)))
                      refine hK.out _ _ hS ?_
                      clear hK K hb
                      (try simp only [Act.put, List.setIfInBounds_toArray, List.set_cons_zero, List.set_cons_succ])
                      repeat (first | (refine RP.t_take (v := ?_) rfl rfl (fun w' hw' => ?_) ?_; rotate_left; (focus ((obtain ⟨hLf, hXf, hBf⟩ := hw'; obtain ⟨d0, d1, d2, d3, d4, d5, d6, d7, d8, d9, d10, d11, d12, d13, d14, d15, d16, d17, d18⟩ := lies_dos hXf); go_simp; (try go_bits); (try (with_reducible rfl)))); (try simp only [Act.put, List.setIfInBounds_toArray, List.set_cons_zero, List.set_cons_succ])) | (refine RP.t_skip rfl rfl ?_; (try simp only [Act.put, List.setIfInBounds_toArray, List.set_cons_zero, List.set_cons_succ])))
                      refine RP.t_run rfl (fun K hK => ?_)
                      go_simp
                      refine (HB4.out _ hS.1).mono ?_
                      rintro en V' ⟨rfl, hb⟩
                      replace hS := And.intro (hS.1.later hb) (And.intro (hS.2.1.below hb hS.2.1.lt) (hS.2.2.trans (hb.mono hS.2.2.size)))
                      refine hK.out _ _ hS ?_
                      clear hK K hb
                      (try simp only [Act.put, List.setIfInBounds_toArray, List.set_cons_zero, List.set_cons_succ])
                      repeat (first | (refine RP.t_take (v := ?_) rfl rfl (fun w' hw' => ?_) ?_; rotate_left; (focus ((obtain ⟨hLf, hXf, hBf⟩ := hw'; obtain ⟨d0, d1, d2, d3, d4, d5, d6, d7, d8, d9, d10, d11, d12, d13, d14, d15, d16, d17, d18⟩ := lies_dos hXf); go_simp; (try go_bits); (try (with_reducible rfl)))); (try simp only [Act.put, List.setIfInBounds_toArray, List.set_cons_zero, List.set_cons_succ])) | (refine RP.t_skip rfl rfl ?_; (try simp only [Act.put, List.setIfInBounds_toArray, List.set_cons_zero, List.set_cons_succ])))
                      refine RP.t_done ?_
                      have HW9 := Lib.hid (HW5.out.trans (hS.2.2.mono HW5.out.size))
                      have hL9 := hS.1
                      clear hS hL5 hX5 HW5 d0 d1 d2 d3 d4 d5 d6 d7 d8 d9 d10 d11 d12 d13 d14 d15 d16 d17 d18
                      go_wp2_with fail
                      refine (total_any hL9 (by omega)).mono ?_
                      rintro en w10 ⟨rfl, hB⟩
                      have HL10 := Lib.hid (hL9.later hB)
                      have HW10 := Lib.hid (HW9.out.trans (hB.mono HW9.out.size))
                      clear hB hL9 HW9
                      rw [HT3.out]
                      go_wp2_with fail
                      go_roundw
                      case rel => exact ⟨k + 1, _, by omega, by go_num, by omega, HL10.out, HT3.out, HW10.out⟩
                      case measure => simp [intOf]; omega
                  · as_aux_lemma =>
                      have HB3 := Lib.hid HB1.out
                      have HB4 := Lib.hid HB2.out
                      rw [hl] at HB3 HB4 hL5 HT3
                      generalize (get L xa).1 = p at *
                      generalize (get L xb).1 = q at *
                      clear HM HB1 HB2 HPL HQL HS hl
                      cases wl
                      all_goals
                        go_wp2_with fail
                        refine (HB3.out _ hL5).mono ?_
                        rintro en w6 ⟨rfl, hb⟩
                        have hL6 := hL5.later hb
                        have hX6 := hX5.below hb hX5.lt
                        have HW6 := Lib.hid (HW5.out.trans (hb.mono HW5.out.size))
                        clear hb hL5 hX5 HW5 d0 d1 d2 d3 d4 d5 d6 d7 d8 d9 d10 d11 d12 d13 d14 d15 d16 d17 d18
                        obtain ⟨d0, d1, d2, d3, d4, d5, d6, d7, d8, d9, d10, d11, d12, d13, d14, d15, d16, d17, d18⟩ := lies_dos hX6
                        go_wp2_with fail
                        refine (HB4.out _ hL6).mono ?_
                        rintro en w7 ⟨rfl, hb⟩
                        have hL9 := hL6.later hb
                        have hX9 := hX6.below hb hX6.lt
                        have HW9 := Lib.hid (HW6.out.trans (hb.mono HW6.out.size))
                        clear hb hL6 hX6 HW6 d0 d1 d2 d3 d4 d5 d6 d7 d8 d9 d10 d11 d12 d13 d14 d15 d16 d17 d18
                        obtain ⟨d0, d1, d2, d3, d4, d5, d6, d7, d8, d9, d10, d11, d12, d13, d14, d15, d16, d17, d18⟩ := lies_dos hX9
                        go_wp2_with fail
                        refine (total_any hL9 (by omega)).mono ?_
                        rintro en w10 ⟨rfl, hB⟩
                        have HL10 := Lib.hid (hL9.later hB)
                        have HW10 := Lib.hid (HW9.out.trans (hB.mono HW9.out.size))
                        clear hB hL9 HW9
                        rw [HT3.out]
                        go_wp2_with fail
                        go_roundw
                        case rel => exact ⟨k + 1, _, by omega, by go_num, by omega, HL10.out, HT3.out, HW10.out⟩
                        case measure => simp [intOf]; omega
                  · as_aux_lemma =>
                      have HB3 := Lib.hid HB1.out
                      have HB4 := Lib.hid HB2.out
                      rw [hl] at HB3 HB4 hL5 HT3
                      obtain rfl : wl = false := by have := HS.out; rw [if_neg hns] at this; exact (Prod.mk.inj this).2
                      have hng : ¬ (get L xa).1 < xn := by omega
                      generalize (get L xa).1 = p at *
                      generalize (get L xb).1 = q at *
                      clear HM HB1 HB2 HPL HQL HS hl hns
                      go_wp2_with fail
                      refine (HB3.out _ hL5).mono ?_
                      rintro en w6 ⟨rfl, hb⟩
                      have hL6 := hL5.later hb
                      have hX6 := hX5.below hb hX5.lt
                      have HW6 := Lib.hid (HW5.out.trans (hb.mono HW5.out.size))
                      clear hb hL5 hX5 HW5 d0 d1 d2 d3 d4 d5 d6 d7 d8 d9 d10 d11 d12 d13 d14 d15 d16 d17 d18
                      obtain ⟨d0, d1, d2, d3, d4, d5, d6, d7, d8, d9, d10, d11, d12, d13, d14, d15, d16, d17, d18⟩ := lies_dos hX6
                      go_wp2_with fail
                      refine (HB4.out _ hL6).mono ?_
                      rintro en w7 ⟨rfl, hb⟩
                      have hL9 := hL6.later hb
                      have hX9 := hX6.below hb hX6.lt
                      have HW9 := Lib.hid (HW6.out.trans (hb.mono HW6.out.size))
                      clear hb hL6 hX6 HW6 d0 d1 d2 d3 d4 d5 d6 d7 d8 d9 d10 d11 d12 d13 d14 d15 d16 d17 d18
                      obtain ⟨d0, d1, d2, d3, d4, d5, d6, d7, d8, d9, d10, d11, d12, d13, d14, d15, d16, d17, d18⟩ := lies_dos hX9
                      go_wp2_with fail
                      refine (total_any hL9 (by omega)).mono ?_
                      rintro en w10 ⟨rfl, hB⟩
                      have HL10 := Lib.hid (hL9.later hB)
                      have HW10 := Lib.hid (HW9.out.trans (hB.mono HW9.out.size))
                      clear hB hL9 HW9
                      rw [HT3.out]
                      go_wp2_with fail
                      go_roundw
                      case rel => exact ⟨k + 1, _, by omega, by go_num, by omega, HL10.out, HT3.out, HW10.out⟩
                      case measure => simp [intOf]; omega
        · obtain rfl : k = Y.length := by omega
          go_wp2_with fail
          go_ret
          exact ⟨rfl, HW2.out⟩
end Go.Proofs.Yteeghdkejnhjnaa.Ac
