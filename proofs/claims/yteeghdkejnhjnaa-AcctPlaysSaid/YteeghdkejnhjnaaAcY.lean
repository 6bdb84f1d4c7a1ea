/- The walk of AcctPlays: the ledger and the document's, call by call. -/
import Derived.Test.YteeghdkejnhjnaaAcV
import Derived.Test.YteeghdkejnhjnaaLb
import Derived.Deep.CutBlock
import Derived.Deep.CutRange
import Derived.Test.YteeghdkejnhjnaaRt
namespace Go.Proofs.Yteeghdkejnhjnaa.Ac
open Go Go.RowKit Kt Ad

/-- Both ledgers, as they lie in the round. -/
structure Pl (W w : World) (bl bm br : Nat) (L R : List Ent) : Prop where
  l : Led w bl bm L
  r : RLed w W.heap.size br R
  lo : W.heap.size ≤ bm
  lor : W.heap.size ≤ br
  below : Below W.heap.size W w
theorem lies_type {w : World} {b : Nat} {t t' : TypeId} {cs cs' : Array Value} (h : Lies w b t cs) (h' : Lies w b t' cs') : t = t' := by
  have := h.symm.trans h'
  injection this with e
  injection e
theorem low_below' {W w w' : World} {bm : Nat} (h : Below W.heap.size W w) (hm : W.heap.size ≤ bm) (hg : w.grownBy w' (some bm)) : Below W.heap.size W w' := low_below h hm hg
theorem led_map {w : World} {bl bm : Nat} {L : List Ent} (h : Led w bl bm L) {t : TypeId} {cs : Array Value} (h' : Lies w bm t cs) : False := by
  obtain ⟨_, es, clock, hh, _⟩ := h.map
  have := h'.symm.trans hh
  injection this with e
  cases e
section
variable {W w w' : World} {bl bm br : Nat} {L R L' R' : List Ent}
theorem Pl.acct (h : Pl W w bl bm br L R) (hl : Led w' bl bm L') (hg : w.grownBy w' (some bm)) : Pl W w' bl bm br L' R :=
  ⟨hl, h.r.kept hg (by obtain ⟨v, hv, _⟩ := h.r.row; intro e; injection e with e; subst e; exact led_map h.l hv) (by intro b cs e hb; injection e with e; subst e; exact led_map h.l hb), h.lo, h.lor, low_below h.below h.lo hg⟩
theorem Pl.ref (h : Pl W w bl bm br L R) (hr : RLed w' W.heap.size br R') (hg : w.grownBy w' (some br)) : Pl W w' bl bm br L R' :=
  ⟨h.l.kept hg (by obtain ⟨v, hv, _⟩ := h.r.row; intro e; injection e with e; subst e; exact absurd (lies_type h.l.cell hv) (by decide)) (by obtain ⟨v, hv, _⟩ := h.r.row; intro e; injection e with e; subst e; exact led_map h.l hv), hr, h.lo, h.lor, low_below h.below h.lor hg⟩
theorem Pl.later (h : Pl W w bl bm br L R) (hb : Below w.heap.size w w') : Pl W w' bl bm br L R :=
  ⟨h.l.later hb, h.r.later hb, h.lo, h.lor, h.below.trans (hb.mono h.below.size)⟩
theorem Pl.alloc (h : Pl W w bl bm br L R) (o : Obj) : Pl W (w.alloc o) bl bm br L R := h.later ((Below.refl _ _).alloc (Nat.le_refl _) o)
theorem Pl.drew (h : Pl W w bl bm br L R) : Pl W w.drew bl bm br L R := h.later (Below.refl _ _).drew
theorem Pl.ne_bm (h : Pl W w bl bm br L R) {b : Nat} {t : TypeId} {cs : Array Value} (hx : Lies w b t cs) : some b ≠ some bm := by
  intro e; injection e with e; subst e; exact led_map h.l hx
theorem Pl.ne_br (h : Pl W w bl bm br L R) {b : Nat} {t : TypeId} {cs : Array Value} (hx : Lies w b t cs) (ht : t ≠ 86) : some b ≠ some br := by
  intro e; injection e with e; subst e
  obtain ⟨v, hv, _⟩ := h.r.row
  exact ht (lies_type hx hv)
end

set_option maxRecDepth 100000 in
set_option maxHeartbeats 8000000 in
theorem law_plays {W : World} {v0 : Value} {X : List Do} (h0 : DoRow W v0 X) :
    Calls Try.prog 8 #[v0] W fun e w' => e = .returned (.bool true) ∧ Below W.heap.size W w' := by
  obtain ⟨s0, cap0, rfl, hs0⟩ := h0.form
  have HF0 := Lib.hid h0.fit
  have HS0 := Lib.hid hs0
  clear hs0 h0
  have HK := Lib.hid (known_any W)
  by_cases hX : 300 < X.length
  · go_enter Try.func8, Try.ntmps8
    go_wp2_with (go_at_call 46; refine HK.out.mono ?_; rintro en w1 ⟨rfl, hb⟩)
    go_ret
    exact ⟨rfl, hb⟩
  go_enter Try.func8, Try.ntmps8
  go_wp2_with (go_at_call 46; refine HK.out.mono ?_; rintro en w1 ⟨rfl, hb⟩)
  refine (new_any _).mono ?_
  rintro en w2 ⟨bl, bm, rfl, hL, h1, h2, hB⟩
  have hW2 := hb.trans (hB.mono hb.size)
  have hP : Pl W (w2.alloc (.cells #[.slice none 0 0] 86)) bl bm w2.heap.size [] [] :=
    ⟨hL.alloc _, ⟨⟨_, Lies.new w2 _ _, World.ownsRow_nil _ _ _ _⟩, Ok.nil⟩, Nat.le_trans hb.size h2, hW2.size, hW2.alloc hW2.size _⟩
  have HP := Lib.hid hP
  clear hL h1 h2 hB hb HK hW2 hP
  go_wp2_with fail
  go_loopw [3, 29] (fun l i wr => ∃ (k bl bm : Nat) (L : List Ent), k ≤ X.length ∧ l = .pointer (some ⟨bl, 0, none⟩) ∧ i = .int .i64 k ∧ L.length ≤ 2 * k ∧ Pl W wr bl bm w2.heap.size L L)
    (fun _ i _ => X.length - (intOf i).toNat)
  case atStart => exact ⟨0, bl, bm, [], by omega, rfl, rfl, by simp, HP.out⟩
  case round =>
    clear HP
    obtain ⟨k, bl, bm, L, hk, rfl, rfl, hlen, hP⟩ := hrel
    have HP := Lib.hid hP
    clear hP
    by_cases hlt : k < X.length
    · obtain ⟨x, hx⟩ : ∃ x, X[k]? = some x := ⟨_, List.getElem?_eq_getElem hlt⟩
      obtain ⟨b, off, rfl, hbl, hat⟩ := HS0.out (by intro e; simp [e] at hlt)
      have hfit := HF0.out x (List.mem_of_getElem? hx)
      have hd := (hat k x hx).below HP.out.below hbl
      clear hat hx
      obtain ⟨xk, xa, xb, xn, xm⟩ := x
      have HD := Lib.hid hd
      have HFIT := Lib.hid hfit
      clear hd hfit
      go_upto_block 2 with (first | (refine wl_load _ _ _ HD.out _ rfl rfl rfl ?_; simp only [Do.cs, Act.put, List.setIfInBounds_toArray, List.set_cons_zero, List.set_cons_succ]) | (refine wl_store ⟨xk, xa, xb, xn, xm⟩ _ _ rfl rfl rfl rfl rfl ?_; simp only [Do.cs, Act.put]))
      obtain ⟨W1, hW1⟩ : ∃ W1, W1 = wr.alloc (.cells (Do.cs ⟨xk, xa, xb, xn, xm⟩).toArray 89) := ⟨_, rfl⟩
      have HX := Lib.hid (show Lies W1 wr.heap.size 89 (Do.cs ⟨xk, xa, xb, xn, xm⟩).toArray from hW1 ▸ Lies.new wr _ _)
      have HP1 := Lib.hid (show Pl W W1 bl bm w2.heap.size L L from hW1 ▸ HP.out.alloc _)
      rw [show wr.alloc (.cells #[.int .i64 xk, .int .u8 xa.x0.toNat, .int .u8 xa.x1.toNat, .int .u8 xa.x2.toNat, .int .u8 xa.x3.toNat, .int .u8 xa.x4.toNat, .int .u8 xa.x5.toNat, .int .u8 xa.x6.toNat, .int .u8 xa.x7.toNat, .int .u8 xb.x0.toNat, .int .u8 xb.x1.toNat, .int .u8 xb.x2.toNat, .int .u8 xb.x3.toNat, .int .u8 xb.x4.toNat, .int .u8 xb.x5.toNat, .int .u8 xb.x6.toNat, .int .u8 xb.x7.toNat, .int .u64 xn, .int .u64 xm] 89) = W1 from hW1.symm]
      clear hW1 HP HD
      go_cut [3, 7, 8, 9, 29] from 29 to 215 (fun l e f _ i wx => i = .int .i64 k ∧ ∃ (bl' bm' : Nat) (er : Int) (L' : List Ent), l = .pointer (some ⟨bl', 0, none⟩) ∧ e = .int .i64 er ∧ f = .int .i64 er ∧ L'.length ≤ 2 * (k + 1) ∧ Pl W wx bl' bm' w2.heap.size L' L' ∧ Lies wx wr.heap.size 89 (Do.cs ⟨xk, xa, xb, xn, xm⟩).toArray)
      case first =>
        have hok := HP1.out.l.ok
        have HOK := Lib.hid hok
        clear hok
        have hkinds : xk = 0 ∨ xk = 1 ∨ xk = 2 ∨ xk = 3 ∨ xk = 4 ∨ xk = 5 ∨ (xk ≠ 0 ∧ xk ≠ 1 ∧ xk ≠ 2 ∧ xk ≠ 3 ∧ xk ≠ 4 ∧ xk ≠ 5) := by omega
        rcases hkinds with rfl | rfl | rfl | rfl | rfl | rfl | ⟨n0, n1, n2, n3, n4, n5⟩
        · as_aux_lemma =>
            have hl := put_len ⟨xa, xn, xm⟩ L
            obtain ⟨d0, d1, d2, d3, d4, d5, d6, d7, d8, d9, d10, d11, d12, d13, d14, d15, d16, d17, d18⟩ := lies_dos HX.out
            go_wp2_with fail
            refine (set_any HP1.out.l ⟨xa, xn, xm⟩ HFIT.out.1 HFIT.out.2).mono ?_
            rintro en w5 ⟨rfl, hL, hG⟩
            replace HX := Lib.hid (HX.out.kept hG (HP1.out.ne_bm HX.out))
            replace HP1 := Lib.hid (HP1.out.acct hL hG)
            clear hL hG d0 d1 d2 d3 d4 d5 d6 d7 d8 d9 d10 d11 d12 d13 d14 d15 d16 d17 d18
            obtain ⟨d0, d1, d2, d3, d4, d5, d6, d7, d8, d9, d10, d11, d12, d13, d14, d15, d16, d17, d18⟩ := lies_dos HX.out
            go_wp2_with (refine wl_build ⟨xa, xn, xm⟩ _ _ _ rfl rfl rfl rfl rfl ?_; simp only [Ent.cs, Act.put, List.setIfInBounds_toArray, List.set_cons_zero, List.set_cons_succ])
            have hc := rput_any HP1.out.r HP1.out.below.size (by omega) ⟨xa, xn, xm⟩ HFIT.out.1 HFIT.out.2
            simp only [Ent.cs] at hc
            --A
            refine (hc).mono ?_
            rintro en w6 ⟨rfl, hR, hG⟩
            replace HX := Lib.hid (HX.out.kept hG (HP1.out.ne_br HX.out (by decide)))
            replace HP1 := Lib.hid (HP1.out.ref hR hG)
            clear hR hG d0 d1 d2 d3 d4 d5 d6 d7 d8 d9 d10 d11 d12 d13 d14 d15 d16 d17 d18
            clear hc
            --B
            go_wp2_with fail
            go_meet
            exact ⟨rfl, _, _, 0, (put ⟨xa, xn, xm⟩ L), rfl, rfl, rfl, by omega, HP1.out, HX.out⟩
        · as_aux_lemma =>
            have hl := addE_len L xa xn
            obtain ⟨d0, d1, d2, d3, d4, d5, d6, d7, d8, d9, d10, d11, d12, d13, d14, d15, d16, d17, d18⟩ := lies_dos HX.out
            go_wp2_with fail
            have hP := HP1.out.drew
            refine RP.region (RP.take 0 (RP.take 1 (RP.take 2 (RP.take 3 (RP.take 4 (RP.take 6 (RP.take 7 (RP.take 8 (RP.take 9 (RP.take 10 (RP.run 5 (RP.run 11 (RP.take 12 (RP.take 13 RP.done)))))))))))))) (fun w' => Lies w' wr.heap.size 89 (Do.cs ⟨1, xa, xb, xn, xm⟩).toArray) (by as_aux_lemma => kernel_rfl) (by as_aux_lemma => kernel_rfl) (fun _ _ d _ _ h => by cases d <;> exact h) HX.out.drew (fun hS => ?_)
            generalize W1.drew = V at hS hP ⊢
            clear HX HP1 d0 d1 d2 d3 d4 d5 d6 d7 d8 d9 d10 d11 d12 d13 d14 d15 d16 d17 d18
            repeat (first | (refine RP.t_take (v := ?_) rfl rfl (fun w' hw' => ?_) ?_; rotate_left; (focus ((obtain ⟨d0, d1, d2, d3, d4, d5, d6, d7, d8, d9, d10, d11, d12, d13, d14, d15, d16, d17, d18⟩ := lies_dos hw'); go_simp; (try go_bits); (try (with_reducible rfl)))); (try simp only [Act.put, List.setIfInBounds_toArray, List.set_cons_zero, List.set_cons_succ])) | (refine RP.t_skip rfl rfl ?_; (try simp only [Act.put, List.setIfInBounds_toArray, List.set_cons_zero, List.set_cons_succ])))
            refine RP.t_run rfl (fun K hK => ?_)
            go_simp
            refine (add_any hP.l xa xn HFIT.out.1).mono ?_
            rintro en V1 ⟨rfl, hL, hG⟩
            replace hS := hS.kept hG (hP.ne_bm hS)
            replace hP := hP.acct hL hG
            refine hK.out _ _ hS ?_
            clear hK K hL hG
            (try simp only [Act.put, List.setIfInBounds_toArray, List.set_cons_zero, List.set_cons_succ])
            repeat (first | (refine RP.t_take (v := ?_) rfl rfl (fun w' hw' => ?_) ?_; rotate_left; (focus ((obtain ⟨d0, d1, d2, d3, d4, d5, d6, d7, d8, d9, d10, d11, d12, d13, d14, d15, d16, d17, d18⟩ := lies_dos hw'); go_simp; (try go_bits); (try (with_reducible rfl)))); (try simp only [Act.put, List.setIfInBounds_toArray, List.set_cons_zero, List.set_cons_succ])) | (refine RP.t_skip rfl rfl ?_; (try simp only [Act.put, List.setIfInBounds_toArray, List.set_cons_zero, List.set_cons_succ])))
            refine RP.t_run rfl (fun K hK => ?_)
            go_simp
            have hc := radd_any hP.r hP.below.size (by omega) xa xn
            refine hc.mono ?_
            rintro en V2 ⟨rfl, hR, hG⟩
            replace hS := hS.kept hG (hP.ne_br hS (by decide))
            replace hP := hP.ref hR hG
            refine hK.out _ _ hS ?_
            clear hK K hc hR hG
            (try simp only [Act.put, List.setIfInBounds_toArray, List.set_cons_zero, List.set_cons_succ])
            repeat (first | (refine RP.t_take (v := ?_) rfl rfl (fun w' hw' => ?_) ?_; rotate_left; (focus ((obtain ⟨d0, d1, d2, d3, d4, d5, d6, d7, d8, d9, d10, d11, d12, d13, d14, d15, d16, d17, d18⟩ := lies_dos hw'); go_simp; (try go_bits); (try (with_reducible rfl)))); (try simp only [Act.put, List.setIfInBounds_toArray, List.set_cons_zero, List.set_cons_succ])) | (refine RP.t_skip rfl rfl ?_; (try simp only [Act.put, List.setIfInBounds_toArray, List.set_cons_zero, List.set_cons_succ])))
            refine RP.t_done ?_
            have HP1 := Lib.hid hP
            have HX := Lib.hid hS
            clear hP hS
            go_wp2_with fail
            go_meet
            exact ⟨rfl, _, _, (addE L xa xn).1, (addE L xa xn).2, rfl, rfl, rfl, by omega, HP1.out, HX.out⟩
        · as_aux_lemma =>
            have hl := subE_len L xa xn
            obtain ⟨d0, d1, d2, d3, d4, d5, d6, d7, d8, d9, d10, d11, d12, d13, d14, d15, d16, d17, d18⟩ := lies_dos HX.out
            go_wp2_with fail
            have hP := HP1.out.drew
            refine RP.region (RP.take 0 (RP.take 1 (RP.take 2 (RP.take 3 (RP.take 4 (RP.take 6 (RP.take 7 (RP.take 8 (RP.take 9 (RP.take 10 (RP.run 5 (RP.run 11 (RP.take 12 (RP.take 13 RP.done)))))))))))))) (fun w' => Lies w' wr.heap.size 89 (Do.cs ⟨2, xa, xb, xn, xm⟩).toArray) (by as_aux_lemma => kernel_rfl) (by as_aux_lemma => kernel_rfl) (fun _ _ d _ _ h => by cases d <;> exact h) HX.out.drew (fun hS => ?_)
            generalize W1.drew = V at hS hP ⊢
            clear HX HP1 d0 d1 d2 d3 d4 d5 d6 d7 d8 d9 d10 d11 d12 d13 d14 d15 d16 d17 d18
            repeat (first | (refine RP.t_take (v := ?_) rfl rfl (fun w' hw' => ?_) ?_; rotate_left; (focus ((obtain ⟨d0, d1, d2, d3, d4, d5, d6, d7, d8, d9, d10, d11, d12, d13, d14, d15, d16, d17, d18⟩ := lies_dos hw'); go_simp; (try go_bits); (try (with_reducible rfl)))); (try simp only [Act.put, List.setIfInBounds_toArray, List.set_cons_zero, List.set_cons_succ])) | (refine RP.t_skip rfl rfl ?_; (try simp only [Act.put, List.setIfInBounds_toArray, List.set_cons_zero, List.set_cons_succ])))
            refine RP.t_run rfl (fun K hK => ?_)
            go_simp
            refine (sub_any hP.l xa xn).mono ?_
            rintro en V1 ⟨rfl, hL, hG⟩
            replace hS := hS.kept hG (hP.ne_bm hS)
            replace hP := hP.acct hL hG
            refine hK.out _ _ hS ?_
            clear hK K hL hG
            (try simp only [Act.put, List.setIfInBounds_toArray, List.set_cons_zero, List.set_cons_succ])
            repeat (first | (refine RP.t_take (v := ?_) rfl rfl (fun w' hw' => ?_) ?_; rotate_left; (focus ((obtain ⟨d0, d1, d2, d3, d4, d5, d6, d7, d8, d9, d10, d11, d12, d13, d14, d15, d16, d17, d18⟩ := lies_dos hw'); go_simp; (try go_bits); (try (with_reducible rfl)))); (try simp only [Act.put, List.setIfInBounds_toArray, List.set_cons_zero, List.set_cons_succ])) | (refine RP.t_skip rfl rfl ?_; (try simp only [Act.put, List.setIfInBounds_toArray, List.set_cons_zero, List.set_cons_succ])))
            refine RP.t_run rfl (fun K hK => ?_)
            go_simp
            have hc := rsub_any hP.r hP.below.size (by omega) xa xn
            refine hc.mono ?_
            rintro en V2 ⟨rfl, hR, hG⟩
            replace hS := hS.kept hG (hP.ne_br hS (by decide))
            replace hP := hP.ref hR hG
            refine hK.out _ _ hS ?_
            clear hK K hc hR hG
            (try simp only [Act.put, List.setIfInBounds_toArray, List.set_cons_zero, List.set_cons_succ])
            repeat (first | (refine RP.t_take (v := ?_) rfl rfl (fun w' hw' => ?_) ?_; rotate_left; (focus ((obtain ⟨d0, d1, d2, d3, d4, d5, d6, d7, d8, d9, d10, d11, d12, d13, d14, d15, d16, d17, d18⟩ := lies_dos hw'); go_simp; (try go_bits); (try (with_reducible rfl)))); (try simp only [Act.put, List.setIfInBounds_toArray, List.set_cons_zero, List.set_cons_succ])) | (refine RP.t_skip rfl rfl ?_; (try simp only [Act.put, List.setIfInBounds_toArray, List.set_cons_zero, List.set_cons_succ])))
            refine RP.t_done ?_
            have HP1 := Lib.hid hP
            have HX := Lib.hid hS
            clear hP hS
            go_wp2_with fail
            go_meet
            exact ⟨rfl, _, _, (subE L xa xn).1, (subE L xa xn).2, rfl, rfl, rfl, by omega, HP1.out, HX.out⟩
        · as_aux_lemma =>
            have hl := moveE_len L xa xb xn
            obtain ⟨d0, d1, d2, d3, d4, d5, d6, d7, d8, d9, d10, d11, d12, d13, d14, d15, d16, d17, d18⟩ := lies_dos HX.out
            go_wp2_with fail
            have hP := HP1.out.drew
            refine RP.region (RP.take 0 (RP.take 1 (RP.take 2 (RP.take 3 (RP.take 4 (RP.take 5 (RP.take 6 (RP.take 8 (RP.take 9 (RP.take 10 (RP.take 11 (RP.take 12 (RP.take 13 (RP.take 14 (RP.run 7 (RP.run 15 (RP.take 16 (RP.take 17 RP.done)))))))))))))))))) (fun w' => Lies w' wr.heap.size 89 (Do.cs ⟨3, xa, xb, xn, xm⟩).toArray) (by as_aux_lemma => kernel_rfl) (by as_aux_lemma => kernel_rfl) (fun _ _ d _ _ h => by cases d <;> exact h) HX.out.drew (fun hS => ?_)
            generalize W1.drew = V at hS hP ⊢
            clear HX HP1 d0 d1 d2 d3 d4 d5 d6 d7 d8 d9 d10 d11 d12 d13 d14 d15 d16 d17 d18
            repeat (first | (refine RP.t_take (v := ?_) rfl rfl (fun w' hw' => ?_) ?_; rotate_left; (focus ((obtain ⟨d0, d1, d2, d3, d4, d5, d6, d7, d8, d9, d10, d11, d12, d13, d14, d15, d16, d17, d18⟩ := lies_dos hw'); go_simp; (try go_bits); (try (with_reducible rfl)))); (try simp only [Act.put, List.setIfInBounds_toArray, List.set_cons_zero, List.set_cons_succ])) | (refine RP.t_skip rfl rfl ?_; (try simp only [Act.put, List.setIfInBounds_toArray, List.set_cons_zero, List.set_cons_succ])))
            refine RP.t_run rfl (fun K hK => ?_)
            go_simp
            refine (move_any hP.l xa xb xn HFIT.out.1).mono ?_
            rintro en V1 ⟨rfl, hL, hG⟩
            replace hS := hS.kept hG (hP.ne_bm hS)
            replace hP := hP.acct hL hG
            refine hK.out _ _ hS ?_
            clear hK K hL hG
            (try simp only [Act.put, List.setIfInBounds_toArray, List.set_cons_zero, List.set_cons_succ])
            repeat (first | (refine RP.t_take (v := ?_) rfl rfl (fun w' hw' => ?_) ?_; rotate_left; (focus ((obtain ⟨d0, d1, d2, d3, d4, d5, d6, d7, d8, d9, d10, d11, d12, d13, d14, d15, d16, d17, d18⟩ := lies_dos hw'); go_simp; (try go_bits); (try (with_reducible rfl)))); (try simp only [Act.put, List.setIfInBounds_toArray, List.set_cons_zero, List.set_cons_succ])) | (refine RP.t_skip rfl rfl ?_; (try simp only [Act.put, List.setIfInBounds_toArray, List.set_cons_zero, List.set_cons_succ])))
            refine RP.t_run rfl (fun K hK => ?_)
            go_simp
            have hc := rmove_any hP.r hP.below.size (by omega) xa xb xn
            rw [← move_eq HOK.out xa xb xn] at hc
            refine hc.mono ?_
            rintro en V2 ⟨rfl, hR, hG⟩
            replace hS := hS.kept hG (hP.ne_br hS (by decide))
            replace hP := hP.ref hR hG
            refine hK.out _ _ hS ?_
            clear hK K hc hR hG
            (try simp only [Act.put, List.setIfInBounds_toArray, List.set_cons_zero, List.set_cons_succ])
            repeat (first | (refine RP.t_take (v := ?_) rfl rfl (fun w' hw' => ?_) ?_; rotate_left; (focus ((obtain ⟨d0, d1, d2, d3, d4, d5, d6, d7, d8, d9, d10, d11, d12, d13, d14, d15, d16, d17, d18⟩ := lies_dos hw'); go_simp; (try go_bits); (try (with_reducible rfl)))); (try simp only [Act.put, List.setIfInBounds_toArray, List.set_cons_zero, List.set_cons_succ])) | (refine RP.t_skip rfl rfl ?_; (try simp only [Act.put, List.setIfInBounds_toArray, List.set_cons_zero, List.set_cons_succ])))
            refine RP.t_done ?_
            have HP1 := Lib.hid hP
            have HX := Lib.hid hS
            clear hP hS
            go_wp2_with fail
            go_meet
            exact ⟨rfl, _, _, (moveE L xa xb xn).1, (moveE L xa xb xn).2, rfl, rfl, rfl, by omega, HP1.out, HX.out⟩
        · as_aux_lemma =>
            have hl := bumpE_len L xa
            obtain ⟨d0, d1, d2, d3, d4, d5, d6, d7, d8, d9, d10, d11, d12, d13, d14, d15, d16, d17, d18⟩ := lies_dos HX.out
            go_wp2_with fail
            have hP := HP1.out.drew
            refine RP.region (RP.take 0 (RP.take 1 (RP.take 2 (RP.take 4 (RP.take 5 (RP.take 6 (RP.run 3 (RP.run 7 (RP.take 8 (RP.take 9 RP.done)))))))))) (fun w' => Lies w' wr.heap.size 89 (Do.cs ⟨4, xa, xb, xn, xm⟩).toArray) (by as_aux_lemma => kernel_rfl) (by as_aux_lemma => kernel_rfl) (fun _ _ d _ _ h => by cases d <;> exact h) HX.out.drew (fun hS => ?_)
            generalize W1.drew = V at hS hP ⊢
            clear HX HP1 d0 d1 d2 d3 d4 d5 d6 d7 d8 d9 d10 d11 d12 d13 d14 d15 d16 d17 d18
            repeat (first | (refine RP.t_take (v := ?_) rfl rfl (fun w' hw' => ?_) ?_; rotate_left; (focus ((obtain ⟨d0, d1, d2, d3, d4, d5, d6, d7, d8, d9, d10, d11, d12, d13, d14, d15, d16, d17, d18⟩ := lies_dos hw'); go_simp; (try go_bits); (try (with_reducible rfl)))); (try simp only [Act.put, List.setIfInBounds_toArray, List.set_cons_zero, List.set_cons_succ])) | (refine RP.t_skip rfl rfl ?_; (try simp only [Act.put, List.setIfInBounds_toArray, List.set_cons_zero, List.set_cons_succ])))
            refine RP.t_run rfl (fun K hK => ?_)
            go_simp
            refine (bump_any hP.l xa).mono ?_
            rintro en V1 ⟨rfl, hL, hG⟩
            replace hS := hS.kept hG (hP.ne_bm hS)
            replace hP := hP.acct hL hG
            refine hK.out _ _ hS ?_
            clear hK K hL hG
            (try simp only [Act.put, List.setIfInBounds_toArray, List.set_cons_zero, List.set_cons_succ])
            repeat (first | (refine RP.t_take (v := ?_) rfl rfl (fun w' hw' => ?_) ?_; rotate_left; (focus ((obtain ⟨d0, d1, d2, d3, d4, d5, d6, d7, d8, d9, d10, d11, d12, d13, d14, d15, d16, d17, d18⟩ := lies_dos hw'); go_simp; (try go_bits); (try (with_reducible rfl)))); (try simp only [Act.put, List.setIfInBounds_toArray, List.set_cons_zero, List.set_cons_succ])) | (refine RP.t_skip rfl rfl ?_; (try simp only [Act.put, List.setIfInBounds_toArray, List.set_cons_zero, List.set_cons_succ])))
            refine RP.t_run rfl (fun K hK => ?_)
            go_simp
            have hc := rbump_any hP.r hP.below.size (by omega) xa
            refine hc.mono ?_
            rintro en V2 ⟨rfl, hR, hG⟩
            replace hS := hS.kept hG (hP.ne_br hS (by decide))
            replace hP := hP.ref hR hG
            refine hK.out _ _ hS ?_
            clear hK K hc hR hG
            (try simp only [Act.put, List.setIfInBounds_toArray, List.set_cons_zero, List.set_cons_succ])
            repeat (first | (refine RP.t_take (v := ?_) rfl rfl (fun w' hw' => ?_) ?_; rotate_left; (focus ((obtain ⟨d0, d1, d2, d3, d4, d5, d6, d7, d8, d9, d10, d11, d12, d13, d14, d15, d16, d17, d18⟩ := lies_dos hw'); go_simp; (try go_bits); (try (with_reducible rfl)))); (try simp only [Act.put, List.setIfInBounds_toArray, List.set_cons_zero, List.set_cons_succ])) | (refine RP.t_skip rfl rfl ?_; (try simp only [Act.put, List.setIfInBounds_toArray, List.set_cons_zero, List.set_cons_succ])))
            refine RP.t_done ?_
            have HP1 := Lib.hid hP
            have HX := Lib.hid hS
            clear hP hS
            go_wp2_with fail
            go_meet
            exact ⟨rfl, _, _, (bumpE L xa).1, (bumpE L xa).2, rfl, rfl, rfl, by omega, HP1.out, HX.out⟩
        · as_aux_lemma =>
            go_wp2_with fail
            refine (copy_any HP1.out.l).mono ?_
            rintro en w5 ⟨bl', bm', rfl, hL, hl1, hl2, hB⟩
            have hbm : bm < W1.heap.size := HP1.out.l.map.lt
            have hsz : W.heap.size ≤ W1.heap.size := HP1.out.below.size
            replace HX := Lib.hid (HX.out.below hB HX.out.lt)
            replace HP1 := Lib.hid (HP1.out.later hB)
            have HN := Lib.hid hL
            clear hL hB
            obtain ⟨d0, d1, d2, d3, d4, d5, d6, d7, d8, d9, d10, d11, d12, d13, d14, d15, d16, d17, d18⟩ := lies_dos HX.out
            go_wp2_with fail
            refine (set_any HP1.out.l ⟨xa, 7, 7⟩ (show 7 < M64 by decide) (show 7 < M64 by decide)).mono ?_
            rintro en w6 ⟨rfl, hL, hG⟩
            replace HX := Lib.hid (HX.out.kept hG (HP1.out.ne_bm HX.out))
            replace HN := Lib.hid (HN.out.kept hG (by simp; omega) (by simp; omega))
            replace HP1 := Lib.hid (HP1.out.acct hL hG)
            clear hL hG d0 d1 d2 d3 d4 d5 d6 d7 d8 d9 d10 d11 d12 d13 d14 d15 d16 d17 d18
            obtain ⟨d0, d1, d2, d3, d4, d5, d6, d7, d8, d9, d10, d11, d12, d13, d14, d15, d16, d17, d18⟩ := lies_dos HX.out
            go_wp2_with fail
            refine (bump_any HP1.out.l xb).mono ?_
            rintro en w7 ⟨rfl, hL, hG⟩
            replace HX := Lib.hid (HX.out.kept hG (HP1.out.ne_bm HX.out))
            replace HN := Lib.hid (HN.out.kept hG (by simp; omega) (by simp; omega))
            replace HP1 := Lib.hid (HP1.out.acct hL hG)
            clear hL hG d0 d1 d2 d3 d4 d5 d6 d7 d8 d9 d10 d11 d12 d13 d14 d15 d16 d17 d18
            have hP9 : Pl W _ bl' bm' w2.heap.size L L := ⟨HN.out, HP1.out.r, by omega, HP1.out.lor, HP1.out.below⟩
            replace HP1 := Lib.hid hP9
            clear hP9 HN
            go_wp2_with fail
            go_meet
            exact ⟨rfl, _, _, 0, L, rfl, rfl, rfl, by omega, HP1.out, HX.out⟩
        · as_aux_lemma =>
            go_wp2_with fail
            go_meet
            exact ⟨rfl, _, _, 0, L, rfl, rfl, rfl, by omega, HP1.out, HX.out⟩
      case rest =>
        obtain ⟨rfl, bl2, bm2, er, L2, rfl, rfl, rfl, hlen2, hP, hX⟩ := hcut
        have HP2 := Lib.hid hP
        have HX2 := Lib.hid hX
        clear hP hX HP1 HX
        generalize wr.heap.size = dx at HX2 ⊢
        go_wp2_with fail
        refine (all_any HP2.out.l (by omega)).mono ?_
        rintro en w5 ⟨v, rfl, hrow, hB⟩
        obtain ⟨s5, cap5, rfl, hs5⟩ := row_form hrow
        have HS5 := Lib.hid hs5
        have HR5 := Lib.hid hrow
        replace HX2 := Lib.hid (HX2.out.below hB HX2.out.lt)
        replace HP2 := Lib.hid (HP2.out.later hB)
        clear hs5 hrow hB
        go_wp2_with fail
        refine (total_any HP2.out.l (by omega)).mono ?_
        rintro en w6 ⟨rfl, hB⟩
        replace HR5 := Lib.hid (ownsRow_keep HR5.out hB)
        replace HX2 := Lib.hid (HX2.out.below hB HX2.out.lt)
        replace HP2 := Lib.hid (HP2.out.later hB)
        clear hB
        go_wp2_with fail
        refine (rtotal_any HP2.out.r (by omega)).mono ?_
        rintro en w7 ⟨rfl, hB⟩
        replace HR5 := Lib.hid (ownsRow_keep HR5.out hB)
        replace HX2 := Lib.hid (HX2.out.below hB HX2.out.lt)
        replace HP2 := Lib.hid (HP2.out.later hB)
        clear hB
        obtain ⟨vr, hv, hrr⟩ := HP2.out.r.row
        obtain ⟨sr, capr, rfl, hsr⟩ := row_form hrr
        have hvc := hv.cell 0
        simp only [List.getElem?_toArray, List.getElem?_cons_zero] at hvc
        have HSR := Lib.hid hsr
        have HRR := Lib.hid hrr
        have HV := Lib.hid hv
        clear hsr hrr hv
        go_wp2_with fail
        go_loopw [162] (fun i wx => ∃ j : Nat, j ≤ L2.length ∧ i = .int .i64 j ∧ Pl W wx bl2 bm2 w2.heap.size L2 L2 ∧ Lies wx dx 89 (Do.cs ⟨xk, xa, xb, xn, xm⟩).toArray ∧ wx.ownsRow wc.heap.size 24 8 (.slice s5 L2.length cap5) L2.length (addrCells (L2.map (·.a))) ∧ Lies wx w2.heap.size 86 #[.slice sr L2.length capr] ∧ wx.ownsRow W.heap.size 93 10 (.slice sr L2.length capr) L2.length (L2.flatMap Ent.cs))
          (fun i _ => L2.length - (intOf i).toNat)
        case atStart => exact ⟨0, by omega, rfl, HP2.out, HX2.out, HR5.out, HV.out, HRR.out⟩
        case round =>
          obtain ⟨j, hj, rfl, hP, hX, hR5, hV, hRR⟩ := hrel
          have HP3 := Lib.hid hP
          have HX3 := Lib.hid hX
          have HR6 := Lib.hid hR5
          have HV3 := Lib.hid hV
          have HRR3 := Lib.hid hRR
          clear hP hX hR5 hV hRR hvc HP2 HX2 HR5 HV HRR
          by_cases hlt : j < L2.length
          · as_aux_lemma =>
              obtain ⟨⟨ea, eb, en⟩, he⟩ : ∃ e, L2[j]? = some e := ⟨_, List.getElem?_eq_getElem hlt⟩
              obtain ⟨g5, rfl⟩ := HS5.out (by omega)
              obtain ⟨gr, rfl⟩ := HSR.out (by omega)
              have hm : (L2.map (·.a))[j]? = some ea := by simp [he]
              have hgt : get L2 ea = (eb, en) := get_mem HP3.out.l.ok.rise (List.mem_of_getElem? he)
              have HGT := Lib.hid hgt
              clear hgt
              obtain ⟨a0, a1, a2, a3, a4, a5, a6, a7⟩ := row_addrs HR6.out hm
              have HRE := Lib.hid (show ∀ w', Below wr.heap.size wr w' → w'.rangeAt gr (j * 10) (Ent.cs ⟨ea, eb, en⟩) from fun w' hb t v hv => by
                have ht : t < 10 := by have := (List.getElem?_eq_some_iff.1 hv).1; rwa [Ent.len] at this
                exact (row_cell Ent.len (ownsRow_keep HRR3.out hb) he ht).trans hv)
              have hvc := HV3.out.cell 0
              simp only [List.getElem?_toArray, List.getElem?_cons_zero] at hvc
              have hbr : w2.heap.size < wr.heap.size := HV3.out.lt
              clear he hm
              go_wp2_with (first | (refine we_load ⟨ea, eb, en⟩ gr (j * 10) (HRE.out _ ((Below.refl _ _).alloc (Nat.le_refl _) _)) _ rfl rfl rfl ?_; simp only [Ent.cs, Act.put, List.setIfInBounds_toArray, List.set_cons_zero, List.set_cons_succ]) | (refine we_store ⟨ea, eb, en⟩ _ _ rfl rfl rfl rfl rfl ?_; simp only [Ent.cs, Act.put]))
              obtain ⟨W3, hW3⟩ : ∃ W3, W3 = (wr.alloc (.cells ea.cs.toArray 24)).alloc (.cells (Ent.cs ⟨ea, eb, en⟩).toArray 93) := ⟨_, rfl⟩
              have hA3 : Lies W3 wr.heap.size 24 ea.cs.toArray := hW3 ▸ (Lies.new wr _ _).alloc _
              have hE3 : Lies W3 (wr.heap.size + 1) 93 (Ent.cs ⟨ea, eb, en⟩).toArray := by rw [hW3]; have := Lies.new (wr.alloc (.cells ea.cs.toArray 24)) 93 (Ent.cs ⟨ea, eb, en⟩).toArray; rw [World.size_alloc] at this; exact this
              have hb3 : Below wr.heap.size wr W3 := hW3 ▸ ((Below.refl _ _).alloc (Nat.le_refl _) _).alloc (by simp only [World.size_alloc]; omega) _
              rw [show (wr.alloc (.cells #[.int .u8 ea.x0.toNat, .int .u8 ea.x1.toNat, .int .u8 ea.x2.toNat, .int .u8 ea.x3.toNat, .int .u8 ea.x4.toNat, .int .u8 ea.x5.toNat, .int .u8 ea.x6.toNat, .int .u8 ea.x7.toNat] 24)).alloc (.cells #[.int .u8 ea.x0.toNat, .int .u8 ea.x1.toNat, .int .u8 ea.x2.toNat, .int .u8 ea.x3.toNat, .int .u8 ea.x4.toNat, .int .u8 ea.x5.toNat, .int .u8 ea.x6.toNat, .int .u8 ea.x7.toNat, .int .u64 eb, .int .u64 en] 93) = W3 from hW3.symm]
              have HP4 := Lib.hid (HP3.out.later hb3)
              have HX4 := Lib.hid (HX3.out.below hb3 HX3.out.lt)
              have HR4 := Lib.hid (ownsRow_keep HR6.out hb3)
              have HV4 := Lib.hid (HV3.out.below hb3 HV3.out.lt)
              have HRR4 := Lib.hid (ownsRow_keep HRR3.out hb3)
              have hg1 : (get L2 ea).1 = eb := by rw [HGT.out]
              have hg2 : (get L2 ea).2 = en := by rw [HGT.out]
              have HG1 := Lib.hid hg1
              have HG2 := Lib.hid hg2
              clear hW3 hb3 hg1 hg2 HGT a0 a1 a2 a3 a4 a5 a6 a7 hvc hbr HP3 HX3 HR6 HV3 HRR3 HRE
              have hL := HP4.out.l.drew
              have hB := (Below.refl W3.heap.size W3).drew
              refine RP.region (RP.take 0 (RP.take 1 (RP.take 2 (RP.take 3 (RP.take 4 (RP.take 5 (RP.take 6 (RP.take 8 (RP.take 9 (RP.run 7 (RP.take 10 (RP.take 11 (RP.take 12 (RP.take 13 (RP.take 14 (RP.take 16 (RP.take 17 (RP.run 15 (RP.take 18 (RP.take 19 RP.done)))))))))))))))))))) (fun w' => Lies w' wr.heap.size 24 ea.cs.toArray ∧ Lies w' (wr.heap.size + 1) 93 (Ent.cs ⟨ea, eb, en⟩).toArray) (by as_aux_lemma => kernel_rfl) (by as_aux_lemma => kernel_rfl) (fun _ _ d _ _ h => by cases d <;> exact h) ⟨hA3.drew, hE3.drew⟩ (fun hS => ?_)
              generalize W3.drew = V at hS hL hB ⊢
              clear hA3 hE3
              repeat (first | (refine RP.t_take (v := ?_) rfl rfl (fun w' hw' => ?_) ?_; rotate_left; (focus ((obtain ⟨hAf, hEf⟩ := hw'; obtain ⟨a0, a1, a2, a3, a4, a5, a6, a7⟩ := lies_addr hAf; obtain ⟨e0, e1, e2, e3, e4, e5, e6, e7, e8, e9⟩ := lies_ent hEf); go_simp; (try go_bits); (try (with_reducible rfl)))); (try simp only [Act.put, List.setIfInBounds_toArray, List.set_cons_zero, List.set_cons_succ])) | (refine RP.t_skip rfl rfl ?_; (try simp only [Act.put, List.setIfInBounds_toArray, List.set_cons_zero, List.set_cons_succ])))
              refine RP.t_run rfl (fun K hK => ?_)
              go_simp
              have hc := balance_any hL ea
              rw [HG1.out] at hc
              refine hc.mono ?_
              rintro ex V1 ⟨rfl, hb⟩
              replace hS := And.intro (hS.1.below hb hS.1.lt) (hS.2.below hb hS.2.lt)
              replace hL := hL.later hb
              replace hB := hB.trans (hb.mono hB.size)
              refine hK.out _ _ hS ?_
              clear hK K hc hb
              (try simp only [Act.put, List.setIfInBounds_toArray, List.set_cons_zero, List.set_cons_succ])
              repeat (first | (refine RP.t_take (v := ?_) rfl rfl (fun w' hw' => ?_) ?_; rotate_left; (focus ((obtain ⟨hAf, hEf⟩ := hw'; obtain ⟨a0, a1, a2, a3, a4, a5, a6, a7⟩ := lies_addr hAf; obtain ⟨e0, e1, e2, e3, e4, e5, e6, e7, e8, e9⟩ := lies_ent hEf); go_simp; (try go_bits); (try (with_reducible rfl)))); (try simp only [Act.put, List.setIfInBounds_toArray, List.set_cons_zero, List.set_cons_succ])) | (refine RP.t_skip rfl rfl ?_; (try simp only [Act.put, List.setIfInBounds_toArray, List.set_cons_zero, List.set_cons_succ])))
              refine RP.t_run rfl (fun K hK => ?_)
              go_simp
              have hc := nonce_any hL ea
              rw [HG2.out] at hc
              refine hc.mono ?_
              rintro ex V1 ⟨rfl, hb⟩
              replace hS := And.intro (hS.1.below hb hS.1.lt) (hS.2.below hb hS.2.lt)
              replace hL := hL.later hb
              replace hB := hB.trans (hb.mono hB.size)
              refine hK.out _ _ hS ?_
              clear hK K hc hb
              (try simp only [Act.put, List.setIfInBounds_toArray, List.set_cons_zero, List.set_cons_succ])
              repeat (first | (refine RP.t_take (v := ?_) rfl rfl (fun w' hw' => ?_) ?_; rotate_left; (focus ((obtain ⟨hAf, hEf⟩ := hw'; obtain ⟨a0, a1, a2, a3, a4, a5, a6, a7⟩ := lies_addr hAf; obtain ⟨e0, e1, e2, e3, e4, e5, e6, e7, e8, e9⟩ := lies_ent hEf); go_simp; (try go_bits); (try (with_reducible rfl)))); (try simp only [Act.put, List.setIfInBounds_toArray, List.set_cons_zero, List.set_cons_succ])) | (refine RP.t_skip rfl rfl ?_; (try simp only [Act.put, List.setIfInBounds_toArray, List.set_cons_zero, List.set_cons_succ])))
              refine RP.t_done ?_
              have HP5 := Lib.hid (HP4.out.later hB)
              have HX5 := Lib.hid (HX4.out.below hB HX4.out.lt)
              have HR5 := Lib.hid (ownsRow_keep HR4.out hB)
              have HV5 := Lib.hid (HV4.out.below hB HV4.out.lt)
              have HRR5 := Lib.hid (ownsRow_keep HRR4.out hB)
              clear hB hL hS HP4 HX4 HR4 HV4 HRR4 HG1 HG2
              go_wp2_with fail
              go_roundw
              case rel => exact ⟨j + 1, by omega, by go_num, HP5.out, HX5.out, HR5.out, HV5.out, HRR5.out⟩
              case measure => simp [intOf]; omega
          · as_aux_lemma =>
              obtain rfl : j = L2.length := by omega
              clear HR6 HV3 HRR3 HS5 HSR
              obtain ⟨d0, d1, d2, d3, d4, d5, d6, d7, d8, d9, d10, d11, d12, d13, d14, d15, d16, d17, d18⟩ := lies_dos HX3.out
              obtain ⟨p, hp⟩ : ∃ p, (get L2 xb).1 = p := ⟨_, rfl⟩
              obtain ⟨q, hq⟩ : ∃ q, (get L2 xb).2 = q := ⟨_, rfl⟩
              have hc := rget_any HP3.out.r (by omega) xb
              rw [hp, hq] at hc
              have HG1 := Lib.hid hp
              have HG2 := Lib.hid hq
              replace hc := Lib.hid hc
              clear hp hq
              go_wp2_with fail
              refine hc.out.mono ?_
              rintro ex w9 ⟨rfl, hB⟩
              have HP4 := Lib.hid (HP3.out.later hB)
              have HX4 := Lib.hid (HX3.out.below hB HX3.out.lt)
              clear hc hB HP3 HX3 d0 d1 d2 d3 d4 d5 d6 d7 d8 d9 d10 d11 d12 d13 d14 d15 d16 d17 d18
              go_wp2_with (refine we_store ⟨xb, p, q⟩ _ _ rfl rfl rfl rfl rfl ?_; simp only [Ent.cs, Act.put])
              obtain ⟨W3, hW3⟩ : ∃ W3, W3 = w9.alloc (.cells (Ent.cs ⟨xb, p, q⟩).toArray 93) := ⟨_, rfl⟩
              have hE3 : Lies W3 w9.heap.size 93 (Ent.cs ⟨xb, p, q⟩).toArray := hW3 ▸ Lies.new w9 _ _
              have hb3 : Below w9.heap.size w9 W3 := hW3 ▸ (Below.refl _ _).alloc (Nat.le_refl _) _
              rw [show w9.alloc (.cells #[.int .u8 xb.x0.toNat, .int .u8 xb.x1.toNat, .int .u8 xb.x2.toNat, .int .u8 xb.x3.toNat, .int .u8 xb.x4.toNat, .int .u8 xb.x5.toNat, .int .u8 xb.x6.toNat, .int .u8 xb.x7.toNat, .int .u64 p, .int .u64 q] 93) = W3 from hW3.symm]
              have HP5 := Lib.hid (HP4.out.later hb3)
              have hX5 := HX4.out.below hb3 HX4.out.lt
              clear hW3 hb3 HP4 HX4
              have hL := HP5.out.l.drew
              have hB := (Below.refl W3.heap.size W3).drew
              refine RP.region (RP.take 0 (RP.take 1 (RP.take 2 (RP.take 4 (RP.take 5 (RP.run 3 (RP.take 6 (RP.take 7 (RP.take 8 (RP.take 9 (RP.take 10 (RP.take 12 (RP.take 13 (RP.run 11 (RP.take 14 (RP.take 15 RP.done)))))))))))))))) (fun w' => Lies w' dx 89 (Do.cs ⟨xk, xa, xb, xn, xm⟩).toArray ∧ Lies w' w9.heap.size 93 (Ent.cs ⟨xb, p, q⟩).toArray) (by as_aux_lemma => kernel_rfl) (by as_aux_lemma => kernel_rfl) (fun _ _ d _ _ h => by cases d <;> exact h) ⟨hX5.drew, hE3.drew⟩ (fun hS => ?_)
              generalize W3.drew = V at hS hL hB ⊢
              clear hX5 hE3
              repeat (first | (refine RP.t_take (v := ?_) rfl rfl (fun w' hw' => ?_) ?_; rotate_left; (focus ((obtain ⟨hAf, hEf⟩ := hw'; obtain ⟨d0, d1, d2, d3, d4, d5, d6, d7, d8, d9, d10, d11, d12, d13, d14, d15, d16, d17, d18⟩ := lies_dos hAf; obtain ⟨e0, e1, e2, e3, e4, e5, e6, e7, e8, e9⟩ := lies_ent hEf); go_simp; (try go_bits); (try (with_reducible rfl)))); (try simp only [Act.put, List.setIfInBounds_toArray, List.set_cons_zero, List.set_cons_succ])) | (refine RP.t_skip rfl rfl ?_; (try simp only [Act.put, List.setIfInBounds_toArray, List.set_cons_zero, List.set_cons_succ])))
              refine RP.t_run rfl (fun K hK => ?_)
              go_simp
              have hc := balance_any hL xb
              rw [HG1.out] at hc
              refine hc.mono ?_
              rintro ex V1 ⟨rfl, hb⟩
              replace hS := And.intro (hS.1.below hb hS.1.lt) (hS.2.below hb hS.2.lt)
              replace hL := hL.later hb
              replace hB := hB.trans (hb.mono hB.size)
              refine hK.out _ _ hS ?_
              clear hK K hc hb
              (try simp only [Act.put, List.setIfInBounds_toArray, List.set_cons_zero, List.set_cons_succ])
              repeat (first | (refine RP.t_take (v := ?_) rfl rfl (fun w' hw' => ?_) ?_; rotate_left; (focus ((obtain ⟨hAf, hEf⟩ := hw'; obtain ⟨d0, d1, d2, d3, d4, d5, d6, d7, d8, d9, d10, d11, d12, d13, d14, d15, d16, d17, d18⟩ := lies_dos hAf; obtain ⟨e0, e1, e2, e3, e4, e5, e6, e7, e8, e9⟩ := lies_ent hEf); go_simp; (try go_bits); (try (with_reducible rfl)))); (try simp only [Act.put, List.setIfInBounds_toArray, List.set_cons_zero, List.set_cons_succ])) | (refine RP.t_skip rfl rfl ?_; (try simp only [Act.put, List.setIfInBounds_toArray, List.set_cons_zero, List.set_cons_succ])))
              refine RP.t_run rfl (fun K hK => ?_)
              go_simp
              have hc := nonce_any hL xb
              rw [HG2.out] at hc
              refine hc.mono ?_
              rintro ex V1 ⟨rfl, hb⟩
              replace hS := And.intro (hS.1.below hb hS.1.lt) (hS.2.below hb hS.2.lt)
              replace hL := hL.later hb
              replace hB := hB.trans (hb.mono hB.size)
              refine hK.out _ _ hS ?_
              clear hK K hc hb
              (try simp only [Act.put, List.setIfInBounds_toArray, List.set_cons_zero, List.set_cons_succ])
              repeat (first | (refine RP.t_take (v := ?_) rfl rfl (fun w' hw' => ?_) ?_; rotate_left; (focus ((obtain ⟨hAf, hEf⟩ := hw'; obtain ⟨d0, d1, d2, d3, d4, d5, d6, d7, d8, d9, d10, d11, d12, d13, d14, d15, d16, d17, d18⟩ := lies_dos hAf; obtain ⟨e0, e1, e2, e3, e4, e5, e6, e7, e8, e9⟩ := lies_ent hEf); go_simp; (try go_bits); (try (with_reducible rfl)))); (try simp only [Act.put, List.setIfInBounds_toArray, List.set_cons_zero, List.set_cons_succ])) | (refine RP.t_skip rfl rfl ?_; (try simp only [Act.put, List.setIfInBounds_toArray, List.set_cons_zero, List.set_cons_succ])))
              refine RP.t_done ?_
              have HP6 := Lib.hid (HP5.out.later hB)
              clear hB hL hS HP5 HG1 HG2
              go_wp2_with fail
              go_roundw
              case rel => exact ⟨k + 1, bl2, bm2, L2, by omega, rfl, by go_num, hlen2, HP6.out⟩
              case measure => simp [intOf]; omega
    · obtain rfl : k = X.length := by omega
      go_wp2_with fail
      go_ret
      exact ⟨rfl, HP.out.below⟩
end Go.Proofs.Yteeghdkejnhjnaa.Ac
