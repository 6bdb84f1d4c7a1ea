/- Why a transaction is not taken: pool.may. -/
import Derived.Test.YtkdckcjnjljdmaaCZo
namespace Go.Proofs.Ytkdckcjnjljdmaa.Po
open Go Go.RowKit Go.Lib Kt Fm Ad Kv

/-- A value of which the senders' nonces are asked. -/
structure Nonces (W : World) (wv : Value) (f : Nx) : Prop where
  call : ∀ W', Below W.heap.size W W' → ∀ a : A8, Calls Try.prog 10 #[wv, a.v] W' fun e w' => e = .returned (.int .u64 (f a)) ∧ Below W'.heap.size W' w'
  lt : ∀ a, f a < 18446744073709551616
theorem Nonces.later {W W' : World} {wv : Value} {f : Nx} (h : Nonces W wv f) (hb : Below W.heap.size W W') : Nonces W' wv f := ⟨fun W2 h2 a => h.call W2 (bt hb h2) a, h.lt⟩
theorem frm_range {w : World} {B : Nat} {t : Tx} (h : Lies w B 32 t.cs.toArray) : w.rangeAt B 1 t.frm.cs := fun i u hi => by
  rw [h.cell]
  match i, hi with
  | 0, hi => exact hi
  | 1, hi => exact hi
  | 2, hi => exact hi
  | 3, hi => exact hi
  | 4, hi => exact hi
  | 5, hi => exact hi
  | 6, hi => exact hi
  | 7, hi => exact hi
  | i + 8, hi => cases hi
set_option maxRecDepth 100000 in
set_option maxHeartbeats 16000000 in
theorem may_any {base : Nat} {W : World} {bp most : Nat} {v wv : Value} {l : List Tx} {f : Nx} {t : Tx} (hp : PoolAt base W bp most v l) (hf : Nonces W wv f) (ht : TxOk W t) (hl : l.length ≤ 100000) : Calls Try.prog 30 #[.pointer (some ⟨bp, 0, none⟩), wv, .agg t.cs.toArray] W fun e w' => e = .returned (.int .i64 (mayP f l t)) ∧ Below W.heap.size W w' := by
  have HP := Lib.hid hp
  have HF := Lib.hid hf
  have HT := Lib.hid ht
  obtain ⟨m, hm⟩ : ∃ m, m = mayP f l t := ⟨_, rfl⟩
  rw [← hm]
  have HM := Lib.hid hm
  clear hp hf ht hm
  go_enter Try.func30, Try.ntmps30
  go_upto_region 1 with (refine wl_box t.cs _ rfl rfl rfl (fun w1 hbw1 hlw1 => ?_); have HB1 := Lib.hid (hbw1); have HLB := Lib.hid hlw1; obtain ⟨B, hBw1⟩ : ∃ B, B = W.heap.size := ⟨_, rfl⟩; rw [← hBw1] at HLB ⊢; clear hBw1 hbw1 hlw1; (try simp only [Act.put, List.setIfInBounds_toArray, List.set_cons_zero, List.set_cons_succ]))
  go_wp2_with (refine wpList_load_mid rfl 32 _ rfl B 0 rfl t.cs _ (lies_range HLB.out) Try.underlying32 rfl sizeTx ?_; (try simp only [Act.put, List.setIfInBounds_toArray, List.set_cons_zero, List.set_cons_succ]))
  refine (tx_may (HT.out.later HB1.out)).mono ?_
  rintro en w2 ⟨rfl, hb2⟩
  have HB2 := Lib.hid (bt HB1.out hb2)
  have HL2 := Lib.hid (HLB.out.below hb2 HLB.out.lt)
  clear hb2
  obtain ⟨m0, hm0⟩ : ∃ m0, m0 = mayT t := ⟨_, rfl⟩
  rw [← hm0]
  have HM0 := Lib.hid hm0
  clear hm0
  by_cases h0 : m0 = 0
  rotate_left
  · have E := Lib.hid (show m = m0 from by rw [HM.out, HM0.out]; unfold mayP; rw [if_pos (by rw [← HM0.out]; exact h0)])
    have h1 : ¬ (m0 : Int) = 0 := by omega
    have h2 : ((m0 : Int) != 0) = true := by simpa using h1
    clear HM
    go_wp2_with fail
    go_ret
    exact ⟨by rw [E.out]; rfl, HB2.out⟩
  have HM1 := Lib.hid (show mayT t = 0 from by rw [← HM0.out, h0])
  subst h0
  have HLE := Lib.hid (mayT_len HM1.out)
  go_wp2_with (refine wpList_load_mid rfl 23 _ rfl B 1 rfl t.frm.cs _ (frm_range HL2.out) Try.underlying23 rfl sizeAd ?_; (try simp only [Act.put, List.setIfInBounds_toArray, List.set_cons_zero, List.set_cons_succ]))
  refine (HF.out.call _ HB2.out t.frm).mono ?_
  rintro en w3 ⟨rfl, hb3⟩
  have HB3 := Lib.hid (bt HB2.out hb3)
  have HL3 := Lib.hid (HL2.out.below hb3 HL2.out.lt)
  clear hb3
  have z17 : w3.cell? ⟨B, 17, none⟩ = some (.int .u64 t.nonce) := HL3.out.cell 17
  go_wp2_with (refine wpList_load_mid rfl 23 _ rfl B 1 rfl t.frm.cs _ (frm_range HL3.out) Try.underlying23 rfl sizeAd ?_; (try simp only [Act.put, List.setIfInBounds_toArray, List.set_cons_zero, List.set_cons_succ]))
  refine (find_any (HP.out.later HB3.out) hl t).mono ?_
  rintro en w4 ⟨rfl, hb4⟩
  have HB4 := Lib.hid (bt HB3.out hb4)
  have HL4 := Lib.hid (HL3.out.below hb4 HL3.out.lt)
  clear hb4 z17
  obtain ⟨fa, hfa⟩ : ∃ fa, fa = f t.frm := ⟨_, rfl⟩
  obtain ⟨is, his⟩ : ∃ is, is = (at? l t).isSome := ⟨_, rfl⟩
  obtain ⟨ps, hps⟩ : ∃ ps, ps = pos l t := ⟨_, rfl⟩
  rw [← hfa, ← his, ← hps]
  have HFA := Lib.hid hfa
  have HIS := Lib.hid his
  have HPS := Lib.hid hps
  clear hfa his hps
  by_cases c1 : t.gas < leastT t
  · have hc1 : (t.gas : Int) < (leastT t : Int) := by omega
    go_upto_region 6 with fail
    refine wp_region_t [(0, 1), (1, 1), (2, 1), (3, 0), (4, 1), (5, 1), (6, 1), (7, 1), (8, 1), (9, 1), (10, 1)] (fun w' => Lies w' B 32 t.cs.toArray) [] [] rfl (by kernel_rfl) (by kernel_rfl) (fun _ _ d _ _ h => by cases d <;> exact h) (HL4.out.below (below_drew w4) HL4.out.lt) (fun p hp => by cases hp) ?_
    have HB5 := Lib.hid (bt HB4.out (below_drew w4))
    have HL5 := Lib.hid (HL4.out.below (below_drew w4) HL4.out.lt)
    generalize w4.drew = w5 at HB5 HL5 ⊢
    repeat (first | (refine ts_take (v := .agg t.cs.toArray) rfl rfl (fun w' hw' => exec_load (lies_range hw') _ rfl rfl Try.underlying32 rfl sizeTx) ?_; (try simp only [Act.put, List.setIfInBounds_toArray, List.set_cons_zero, List.set_cons_succ])) | (refine ts_take (v := ?_) rfl rfl (fun w' hw' => ?_) ?_; rotate_left; (focus (have q0 : w'.cell? ⟨B, 19, none⟩ = some (.int .u64 t.gas) := hw'.cell 19; (try simp only [Act.put, List.setIfInBounds_toArray, List.set_cons_zero, List.set_cons_succ]); go_simp; (try go_bits); (try (with_reducible rfl)))); (try simp only [Act.put, List.setIfInBounds_toArray, List.set_cons_zero, List.set_cons_succ])))
    refine ts_run1 rfl rfl (fun K hK => ?_)
    go_simp
    refine (tx_least (HT.out.later HB5.out) HLE.out).mono ?_
    rintro en w6 ⟨rfl, hb6⟩
    have HB6 := Lib.hid (bt HB5.out hb6)
    have HL6 := Lib.hid (HL5.out.below hb6 HL5.out.lt)
    clear hb6
    refine hK.out _ _ HL6.out (still_none _ _) ?_
    clear hK K
    (try simp only [Act.put, List.setIfInBounds_toArray, List.set_cons_zero, List.set_cons_succ])
    repeat (first | (refine ts_take (v := ?_) rfl rfl (fun w' hw' => ?_) ?_; rotate_left; (focus (have q0 : w'.cell? ⟨B, 19, none⟩ = some (.int .u64 t.gas) := hw'.cell 19; (try simp only [Act.put, List.setIfInBounds_toArray, List.set_cons_zero, List.set_cons_succ]); go_simp; (try go_bits); (try (with_reducible rfl)))); (try simp only [Act.put, List.setIfInBounds_toArray, List.set_cons_zero, List.set_cons_succ])) | (refine ts_skip rfl rfl ?_; (try simp only [Act.put, List.setIfInBounds_toArray, List.set_cons_zero, List.set_cons_succ])))
    refine ts_done ?_
    have E := Lib.hid (show m = 2 from by rw [HM.out]; unfold mayP; rw [if_neg (fun hn => hn HM1.out), if_pos (.inl c1)])
    clear HM
    go_wp2_with fail
    go_ret
    exact ⟨by rw [E.out]; rfl, HB6.out⟩
  by_cases c2 : 4294967296 < t.gas
  · have hc1 : ¬ (t.gas : Int) < (leastT t : Int) := by omega
    have hc2 : (4294967296 : Int) < (t.gas : Int) := by omega
    go_upto_region 6 with fail
    refine wp_region_t [(0, 1), (1, 1), (2, 1), (3, 0), (4, 1), (5, 1), (6, 1), (7, 1), (8, 1), (9, 1), (10, 1)] (fun w' => Lies w' B 32 t.cs.toArray) [] [] rfl (by kernel_rfl) (by kernel_rfl) (fun _ _ d _ _ h => by cases d <;> exact h) (HL4.out.below (below_drew w4) HL4.out.lt) (fun p hp => by cases hp) ?_
    have HB5 := Lib.hid (bt HB4.out (below_drew w4))
    have HL5 := Lib.hid (HL4.out.below (below_drew w4) HL4.out.lt)
    generalize w4.drew = w5 at HB5 HL5 ⊢
    repeat (first | (refine ts_take (v := .agg t.cs.toArray) rfl rfl (fun w' hw' => exec_load (lies_range hw') _ rfl rfl Try.underlying32 rfl sizeTx) ?_; (try simp only [Act.put, List.setIfInBounds_toArray, List.set_cons_zero, List.set_cons_succ])) | (refine ts_take (v := ?_) rfl rfl (fun w' hw' => ?_) ?_; rotate_left; (focus (have q0 : w'.cell? ⟨B, 19, none⟩ = some (.int .u64 t.gas) := hw'.cell 19; (try simp only [Act.put, List.setIfInBounds_toArray, List.set_cons_zero, List.set_cons_succ]); go_simp; (try go_bits); (try (with_reducible rfl)))); (try simp only [Act.put, List.setIfInBounds_toArray, List.set_cons_zero, List.set_cons_succ])))
    refine ts_run1 rfl rfl (fun K hK => ?_)
    go_simp
    refine (tx_least (HT.out.later HB5.out) HLE.out).mono ?_
    rintro en w6 ⟨rfl, hb6⟩
    have HB6 := Lib.hid (bt HB5.out hb6)
    have HL6 := Lib.hid (HL5.out.below hb6 HL5.out.lt)
    clear hb6
    refine hK.out _ _ HL6.out (still_none _ _) ?_
    clear hK K
    (try simp only [Act.put, List.setIfInBounds_toArray, List.set_cons_zero, List.set_cons_succ])
    repeat (first | (refine ts_take (v := ?_) rfl rfl (fun w' hw' => ?_) ?_; rotate_left; (focus (have q0 : w'.cell? ⟨B, 19, none⟩ = some (.int .u64 t.gas) := hw'.cell 19; (try simp only [Act.put, List.setIfInBounds_toArray, List.set_cons_zero, List.set_cons_succ]); go_simp; (try go_bits); (try (with_reducible rfl)))); (try simp only [Act.put, List.setIfInBounds_toArray, List.set_cons_zero, List.set_cons_succ])) | (refine ts_skip rfl rfl ?_; (try simp only [Act.put, List.setIfInBounds_toArray, List.set_cons_zero, List.set_cons_succ])))
    refine ts_done ?_
    have E := Lib.hid (show m = 2 from by rw [HM.out]; unfold mayP; rw [if_neg (fun hn => hn HM1.out), if_pos (.inr c2)])
    clear HM
    go_wp2_with fail
    go_ret
    exact ⟨by rw [E.out]; rfl, HB6.out⟩
  have hc1 : ¬ (t.gas : Int) < (leastT t : Int) := by omega
  have hc2 : ¬ (4294967296 : Int) < (t.gas : Int) := by omega
  have HC := Lib.hid (show ¬ (t.gas < leastT t ∨ 4294967296 < t.gas) from by omega)
  go_upto_region 6 with fail
  refine wp_region_t [(0, 1), (1, 1), (2, 1), (3, 0), (4, 1), (5, 1), (6, 1), (7, 1), (8, 1), (9, 1), (10, 1)] (fun w' => Lies w' B 32 t.cs.toArray) [] [] rfl (by kernel_rfl) (by kernel_rfl) (fun _ _ d _ _ h => by cases d <;> exact h) (HL4.out.below (below_drew w4) HL4.out.lt) (fun p hp => by cases hp) ?_
  have HB5 := Lib.hid (bt HB4.out (below_drew w4))
  have HL5 := Lib.hid (HL4.out.below (below_drew w4) HL4.out.lt)
  generalize w4.drew = w5 at HB5 HL5 ⊢
  repeat (first | (refine ts_take (v := .agg t.cs.toArray) rfl rfl (fun w' hw' => exec_load (lies_range hw') _ rfl rfl Try.underlying32 rfl sizeTx) ?_; (try simp only [Act.put, List.setIfInBounds_toArray, List.set_cons_zero, List.set_cons_succ])) | (refine ts_take (v := ?_) rfl rfl (fun w' hw' => ?_) ?_; rotate_left; (focus (have q0 : w'.cell? ⟨B, 19, none⟩ = some (.int .u64 t.gas) := hw'.cell 19; (try simp only [Act.put, List.setIfInBounds_toArray, List.set_cons_zero, List.set_cons_succ]); go_simp; (try go_bits); (try (with_reducible rfl)))); (try simp only [Act.put, List.setIfInBounds_toArray, List.set_cons_zero, List.set_cons_succ])))
  refine ts_run1 rfl rfl (fun K hK => ?_)
  go_simp
  refine (tx_least (HT.out.later HB5.out) HLE.out).mono ?_
  rintro en w6 ⟨rfl, hb6⟩
  have HB6 := Lib.hid (bt HB5.out hb6)
  have HL6 := Lib.hid (HL5.out.below hb6 HL5.out.lt)
  clear hb6
  refine hK.out _ _ HL6.out (still_none _ _) ?_
  clear hK K
  (try simp only [Act.put, List.setIfInBounds_toArray, List.set_cons_zero, List.set_cons_succ])
  repeat (first | (refine ts_take (v := ?_) rfl rfl (fun w' hw' => ?_) ?_; rotate_left; (focus (have q0 : w'.cell? ⟨B, 19, none⟩ = some (.int .u64 t.gas) := hw'.cell 19; (try simp only [Act.put, List.setIfInBounds_toArray, List.set_cons_zero, List.set_cons_succ]); go_simp; (try go_bits); (try (with_reducible rfl)))); (try simp only [Act.put, List.setIfInBounds_toArray, List.set_cons_zero, List.set_cons_succ])) | (refine ts_skip rfl rfl ?_; (try simp only [Act.put, List.setIfInBounds_toArray, List.set_cons_zero, List.set_cons_succ])))
  refine ts_done ?_
  have z17 : w6.cell? ⟨B, 17, none⟩ = some (.int .u64 t.nonce) := HL6.out.cell 17
  clear c1 c2
  by_cases c3 : t.nonce < fa
  · have hc3 : (t.nonce : Int) < (fa : Int) := by omega
    have E := Lib.hid (show m = 8 from by rw [HM.out]; unfold mayP; rw [if_neg (fun hn => hn HM1.out), if_neg HC.out, if_pos (by rw [← HFA.out]; exact c3)])
    clear HM
    go_wp2_with fail
    go_ret
    exact ⟨by rw [E.out]; rfl, HB6.out⟩
  have hc3 : ¬ (t.nonce : Int) < (fa : Int) := by omega
  have hwr : IntKind.u64.wrap ((t.nonce : Int) - (fa : Int)) = (t.nonce : Int) - (fa : Int) := IntWalk.u64_in _ (by have := HT.out.n; omega)
  by_cases c4 : 64 ≤ t.nonce - fa
  · have hc4 : (64 : Int) ≤ (t.nonce : Int) - (fa : Int) := by omega
    have E := Lib.hid (show m = 5 from by rw [HM.out]; unfold mayP; rw [if_neg (fun hn => hn HM1.out), if_neg HC.out, if_neg (by rw [← HFA.out]; exact c3), if_pos (.inl (by rw [← HFA.out]; exact c4))])
    clear HM
    go_wp2_with fail
    go_ret
    exact ⟨by rw [E.out]; rfl, HB6.out⟩
  have hc4 : ¬ (64 : Int) ≤ (t.nonce : Int) - (fa : Int) := by omega
  by_cases c5 : t.nonce = 18446744073709551615
  · have hc5 : (t.nonce : Int) = 18446744073709551615 := by omega
    have E := Lib.hid (show m = 5 from by rw [HM.out]; unfold mayP; rw [if_neg (fun hn => hn HM1.out), if_neg HC.out, if_neg (by rw [← HFA.out]; exact c3), if_pos (.inr c5)])
    clear HM
    replace c5 := Lib.hid c5
    go_wp2_with fail
    go_ret
    exact ⟨by rw [E.out]; rfl, HB6.out⟩
  have hc5 : ¬ (t.nonce : Int) = 18446744073709551615 := by omega
  have HC5 := Lib.hid (show ¬ (64 ≤ t.nonce - f t.frm ∨ t.nonce = 18446744073709551615) from by rw [← HFA.out]; omega)
  have HC3 := Lib.hid (show ¬ t.nonce < f t.frm from by rw [← HFA.out]; exact c3)
  clear c3 c4 c5
  cases hat : at? l t with
  | none =>
    have HIS2 := Lib.hid (show is = false from by rw [HIS.out, hat]; rfl)
    have HAT := Lib.hid hat
    clear hat
    obtain rfl := HIS2.out
    clear HIS HIS2
    go_upto_region 12 with fail
    refine wp_region_t [(0, 1), (1, 1), (2, 1), (3, 1), (4, 1), (5, 1), (6, 1), (7, 1), (8, 1), (9, 1), (10, 1), (11, 1), (12, 1), (13, 1), (14, 1), (15, 1)] (fun w' => Below w6.heap.size w6 w') [] [] rfl (by kernel_rfl) (by kernel_rfl) (fun _ _ d _ _ h => by cases d <;> exact h) (below_drew w6) (fun p hp => by cases hp) ?_
    have HB7 := Lib.hid (bt HB6.out (below_drew w6))
    generalize w6.drew = w7 at HB7 ⊢
    repeat (first | (refine ts_take (v := ?_) rfl rfl (fun w' hw' => ?_) ?_; rotate_left; (focus (skip; (try simp only [Act.put, List.setIfInBounds_toArray, List.set_cons_zero, List.set_cons_succ]); go_simp; (try go_bits); (try (with_reducible rfl)))); (try simp only [Act.put, List.setIfInBounds_toArray, List.set_cons_zero, List.set_cons_succ])) | (refine ts_skip rfl rfl ?_; (try simp only [Act.put, List.setIfInBounds_toArray, List.set_cons_zero, List.set_cons_succ])))
    refine ts_done ?_
    have E := Lib.hid (show m = 0 from by rw [HM.out]; unfold mayP; rw [if_neg (fun hn => hn HM1.out), if_neg HC.out, if_neg HC3.out, if_neg HC5.out, HAT.out])
    clear HM
    go_wp2_with fail
    go_ret
    exact ⟨by rw [E.out]; rfl, HB7.out⟩
  | some y =>
    have HIS2 := Lib.hid (show is = true from by rw [HIS.out, hat]; rfl)
    have HAT := Lib.hid hat
    have HY := Lib.hid (show l[ps]? = some y from by rw [HPS.out]; exact (at_some hat).1)
    clear hat
    obtain rfl := HIS2.out
    clear HIS HIS2
    have hpl : ps < l.length := (List.getElem?_eq_some_iff.1 HY.out).1
    have hpl2 : (ps : Int) < (l.length : Int) := by omega
    obtain ⟨s, c, hv, hfm⟩ := HP.out.form
    obtain ⟨g, off, hs⟩ := hfm (by intro e; rw [e] at hpl; simp at hpl)
    subst hs
    subst hv
    clear hfm
    have z1 : w6.cell? ⟨bp, 1, none⟩ = some (.slice (some ⟨g, off, none⟩) l.length c) := (HP.out.later HB6.out).box.cell 1
    have zy : w6.cell? ⟨g, off + ps * 22 + 20, none⟩ = some (.int .u64 y.price) := (HP.out.later HB6.out).sl.cell HY.out (j := 20) rfl
    have z20 : w6.cell? ⟨B, 20, none⟩ = some (.int .u64 t.price) := HL6.out.cell 20
    by_cases c6 : t.price ≤ y.price
    · have hc6 : (t.price : Int) ≤ (y.price : Int) := by omega
      go_upto_region 12 with fail
      refine wp_region_t [(0, 1), (1, 1), (2, 1), (3, 1), (4, 1), (5, 1), (6, 1), (7, 1), (8, 1), (9, 1), (10, 1), (11, 1), (12, 1), (13, 1), (14, 1), (15, 1)] (fun w' => Below w6.heap.size w6 w') [] [] rfl (by kernel_rfl) (by kernel_rfl) (fun _ _ d _ _ h => by cases d <;> exact h) (below_drew w6) (fun p hp => by cases hp) ?_
      have HB7 := Lib.hid (bt HB6.out (below_drew w6))
      generalize w6.drew = w7 at HB7 ⊢
      repeat (first | (refine ts_take (v := ?_) rfl rfl (fun w' hw' => ?_) ?_; rotate_left; (focus (have q0 := keepc hw' z1; have q1 := keepc hw' zy; have q2 := keepc hw' z20; (try simp only [Act.put, List.setIfInBounds_toArray, List.set_cons_zero, List.set_cons_succ]); go_simp; (try go_bits); (try (with_reducible rfl)))); (try simp only [Act.put, List.setIfInBounds_toArray, List.set_cons_zero, List.set_cons_succ])) | (refine ts_skip rfl rfl ?_; (try simp only [Act.put, List.setIfInBounds_toArray, List.set_cons_zero, List.set_cons_succ])))
      refine ts_done ?_
      have E := Lib.hid (show m = 6 from by rw [HM.out]; unfold mayP; rw [if_neg (fun hn => hn HM1.out), if_neg HC.out, if_neg HC3.out, if_neg HC5.out, HAT.out]; simp only; rw [if_pos c6])
      clear HM
      go_wp2_with fail
      go_ret
      exact ⟨by rw [E.out]; rfl, HB7.out⟩
    · have hc6 : ¬ (t.price : Int) ≤ (y.price : Int) := by omega
      go_upto_region 12 with fail
      refine wp_region_t [(0, 1), (1, 1), (2, 1), (3, 1), (4, 1), (5, 1), (6, 1), (7, 1), (8, 1), (9, 1), (10, 1), (11, 1), (12, 1), (13, 1), (14, 1), (15, 1)] (fun w' => Below w6.heap.size w6 w') [] [] rfl (by kernel_rfl) (by kernel_rfl) (fun _ _ d _ _ h => by cases d <;> exact h) (below_drew w6) (fun p hp => by cases hp) ?_
      have HB7 := Lib.hid (bt HB6.out (below_drew w6))
      generalize w6.drew = w7 at HB7 ⊢
      repeat (first | (refine ts_take (v := ?_) rfl rfl (fun w' hw' => ?_) ?_; rotate_left; (focus (have q0 := keepc hw' z1; have q1 := keepc hw' zy; have q2 := keepc hw' z20; (try simp only [Act.put, List.setIfInBounds_toArray, List.set_cons_zero, List.set_cons_succ]); go_simp; (try go_bits); (try (with_reducible rfl)))); (try simp only [Act.put, List.setIfInBounds_toArray, List.set_cons_zero, List.set_cons_succ])) | (refine ts_skip rfl rfl ?_; (try simp only [Act.put, List.setIfInBounds_toArray, List.set_cons_zero, List.set_cons_succ])))
      refine ts_done ?_
      have E := Lib.hid (show m = 0 from by rw [HM.out]; unfold mayP; rw [if_neg (fun hn => hn HM1.out), if_neg HC.out, if_neg HC3.out, if_neg HC5.out, HAT.out]; simp only; rw [if_neg c6])
      clear HM
      go_wp2_with fail
      go_ret
      exact ⟨by rw [E.out]; rfl, HB7.out⟩
end Go.Proofs.Ytkdckcjnjljdmaa.Po
namespace Go.Proofs.Ytkdckcjnjljdmaa.Po
open Go Go.RowKit Go.Lib Kt Fm Ad Kv

set_option maxRecDepth 100000 in
set_option maxHeartbeats 16000000 in
theorem drop_nil (W : World) (a : A8) (n : Nat) : Calls Try.prog 16 #[.pointer none, a.v, .int .u64 n] W fun e w' => e = .returned (.bool false) ∧ Below W.heap.size W w' := by
  go_enter Try.func16, Try.ntmps16
  go_wp2_with fail
  go_ret
  exact ⟨rfl, (Below.refl _ _).alloc (Nat.le_refl _) _⟩
set_option maxRecDepth 100000 in
set_option maxHeartbeats 16000000 in
theorem clean_nil (W : World) (wv : Option Go.Addr) : Calls Try.prog 17 #[.pointer none, .pointer wv] W fun e w' => e = .returned (.int .i64 0) ∧ Below W.heap.size W w' := by
  go_enter Try.func17, Try.ntmps17
  go_wp2_with fail
  go_ret
  refine ⟨rfl, ?_⟩
  first | exact Below.refl _ _ | exact (Below.refl _ _).alloc (Nat.le_refl _) _ | exact ((Below.refl _ _).alloc (Nat.le_refl _) _).alloc (by simp <;> omega) _ | exact (((Below.refl _ _).alloc (Nat.le_refl _) _).alloc (by simp <;> omega) _).alloc (by simp <;> omega) _
set_option maxRecDepth 100000 in
set_option maxHeartbeats 16000000 in
theorem order_nil (W : World) (wv : Value) : Calls Try.prog 9 #[.pointer none, wv] W fun e w' => e = .returned (.slice none 0 0) ∧ Below W.heap.size W w' := by
  go_enter Try.func9, Try.ntmps9
  go_wp2_with fail
  go_ret
  refine ⟨rfl, ?_⟩
  first | exact Below.refl _ _ | exact (Below.refl _ _).alloc (Nat.le_refl _) _ | exact ((Below.refl _ _).alloc (Nat.le_refl _) _).alloc (by simp <;> omega) _ | exact (((Below.refl _ _).alloc (Nat.le_refl _) _).alloc (by simp <;> omega) _).alloc (by simp <;> omega) _
set_option maxRecDepth 100000 in
set_option maxHeartbeats 16000000 in
theorem fill_nil (W : World) (wv : Option Go.Addr) (n k : Int) : Calls Try.prog 18 #[.pointer none, .pointer wv, .int .u64 n, .int .i64 k] W fun e w' => e = .returned (.slice none 0 0) ∧ Below W.heap.size W w' := by
  go_enter Try.func18, Try.ntmps18
  go_wp2_with fail
  go_ret
  refine ⟨rfl, ?_⟩
  first | exact Below.refl _ _ | exact (Below.refl _ _).alloc (Nat.le_refl _) _ | exact ((Below.refl _ _).alloc (Nat.le_refl _) _).alloc (by simp <;> omega) _ | exact (((Below.refl _ _).alloc (Nat.le_refl _) _).alloc (by simp <;> omega) _).alloc (by simp <;> omega) _
set_option maxRecDepth 100000 in
set_option maxHeartbeats 16000000 in
theorem add_nil (W : World) (wv : Value) (t : Tx) : Calls Try.prog 14 #[.pointer none, wv, .agg t.cs.toArray] W fun e w' => e = .returned (.tuple #[.slice none 0 0, .int .i64 1]) ∧ Below W.heap.size W w' := by
  go_enter Try.func14, Try.ntmps14
  go_wp2_with fail
  go_ret2
  refine ⟨rfl, ?_⟩
  first | exact Below.refl _ _ | exact (Below.refl _ _).alloc (Nat.le_refl _) _ | exact ((Below.refl _ _).alloc (Nat.le_refl _) _).alloc (by simp <;> omega) _ | exact (((Below.refl _ _).alloc (Nat.le_refl _) _).alloc (by simp <;> omega) _).alloc (by simp <;> omega) _
end Go.Proofs.Ytkdckcjnjljdmaa.Po
namespace Go.Proofs.Ytkdckcjnjljdmaa.Po
open Go Go.RowKit Go.Lib Kt Fm Ad Kv

theorem tx1_txok (w : World) (b : UInt8) {n p : Nat} (hn : n < 18446744073709551616) (hp : p < 18446744073709551616) : TxOk w (tx1 b n p) := ⟨Sl.nil _ _ _ _, hn, by show (0 : Nat) < 18446744073709551616; decide, by show (1000 : Nat) < 18446744073709551616; decide, hp⟩
theorem tx1_one (b : UInt8) (n p : Nat) : ((tx1 b n p).cs.toArray.all (·.oneCell')) = true := by simp [tx1, Tx.cs, Value.oneCell']
set_option maxRecDepth 100000 in
set_option maxHeartbeats 16000000 in
theorem tx1_any (b : UInt8) (n p : Nat) (W : World) : Calls Try.prog 13 #[.int .u8 b.toNat, .int .u64 n, .int .u64 p] W fun e w' => e = .returned (.agg (tx1 b n p).cs.toArray) ∧ Below W.heap.size W w' := by
  go_enter Try.func13, Try.ntmps13
  go_upto_region 1 with fail
  obtain ⟨w1, hw1⟩ : ∃ w1, w1 = W.alloc (.cells txZ.cs.toArray 32) := ⟨_, rfl⟩
  rw [show W.alloc (.cells #[.int .u8 0, .int .u8 0, .int .u8 0, .int .u8 0, .int .u8 0, .int .u8 0, .int .u8 0, .int .u8 0, .int .u8 0, .int .u8 0, .int .u8 0, .int .u8 0, .int .u8 0, .int .u8 0, .int .u8 0, .int .u8 0, .int .u8 0, .int .u64 0, .int .u64 0, .int .u64 0, .int .u64 0, .slice none 0 0] 32) = w1 from hw1.symm]
  have HB1 := Lib.hid (show Below W.heap.size W w1 from by rw [hw1]; exact (Below.refl _ _).alloc (Nat.le_refl _) _)
  obtain ⟨D, hD⟩ : ∃ D, D = W.heap.size := ⟨_, rfl⟩
  rw [← hD]
  have HD1 := Lib.hid (show Lies w1 D 32 txZ.cs.toArray from by rw [hw1, hD]; exact Lies.new _ _ _)
  have HDW := Lib.hid (show W.heap.size ≤ D from Nat.le_of_eq hD.symm)
  clear hw1 hD
  go_wp2_with (first | (refine wl_val (v := .agg (tx1 b n p).cs.toArray) rfl (wb_op (ty := 32) (args := #[(0, .const (.int .u8 1)), (1, .tmp 8), (2, .tmp 9), (3, .tmp 10), (6, .tmp 11), (5, .const (.int .u64 1000))]) rfl (by kernel_rfl)) ?_; (try simp only [Act.put, List.setIfInBounds_toArray, List.set_cons_zero, List.set_cons_succ])) | (refine wl_put HD1.out (tx1 b n p).cs _ _ rfl rfl rfl rfl rfl sizeTx (tx1_one b n p) (fun w2 hl2 hf2 => ?_); have HD2 := Lib.hid hl2; have HB2 := Lib.hid (HB1.out.trans (hf2.below HB1.out.size (fun q hq => by rw [hq]; exact HDW.out))); clear hl2 hf2; (try simp only [Act.put])))
  (try simp only [Exit.inBlock, Exit.then])
  exact bodyPost_ret_by (results_c rfl _ _ D (tx1 b n p).cs _ rfl HD2.out Try.underlying32 rfl sizeTx) rfl ⟨rfl, HB2.out⟩
set_option maxRecDepth 100000 in
set_option maxHeartbeats 16000000 in
theorem order1_any {W : World} {t : Tx} {base bo : Nat} {ov : Value} {L : List Tx} (ht : TxOk W t) (hbo : Lies W bo 27 #[ov]) (hr : W.ownsRow base 32 22 ov L.length (L.flatMap Tx.cs)) (hl : L.length ≤ 100000) (hb1 : base ≤ bo) (hb2 : base ≤ W.heap.size) : Calls Try.prog 27 #[.agg t.cs.toArray, .pointer (some ⟨bo, 0, none⟩)] W fun e w' => e = .returned (.bool true) ∧ (∃ ov', Lies w' bo 27 #[ov'] ∧ w'.ownsRow base 32 22 ov' (L ++ [t]).length ((L ++ [t]).flatMap Tx.cs)) ∧ Below base W w' ∧ FrT [32, 27] W w' := by
  have HT := Lib.hid ht
  have HO := Lib.hid hbo
  have HR := Lib.hid hr
  clear ht hbo hr
  go_enter Try.func27, Try.ntmps27
  go_upto_region 1 with (refine wl_box t.cs _ rfl rfl rfl (fun w1 hbw1 hlw1 => ?_); have HB1 := Lib.hid (hbw1); have HLB := Lib.hid hlw1; obtain ⟨B, hBw1⟩ : ∃ B, B = W.heap.size := ⟨_, rfl⟩; rw [← hBw1] at HLB ⊢; clear hBw1 hbw1 hlw1; (try simp only [Act.put, List.setIfInBounds_toArray, List.set_cons_zero, List.set_cons_succ]))
  have z0 : w1.cell? ⟨bo, 0, none⟩ = some ov := (HO.out.below HB1.out HO.out.lt).cell 0
  have R1 := Lib.hid (ownsRow_keep HR.out HB1.out)
  have O1 := Lib.hid (HO.out.below HB1.out HO.out.lt)
  have BB1 := Lib.hid (show Below base W w1 from HB1.out.mono hb2)
  have F1 := Lib.hid (FrT.below HB1.out [32, 27])
  go_wp2_with (first | (refine wpList_load_mid rfl 32 _ rfl B 0 rfl t.cs _ (lies_range HLB.out) Try.underlying32 rfl sizeTx ?_; (try simp only [Act.put, List.setIfInBounds_toArray, List.set_cons_zero, List.set_cons_succ])) | (refine wl_bsN (e := 32) (d := 6) rfl rfl t.cs rfl (fun w => by kernel_rfl) (fun w2 hb2 hl2 => ?_); have R2 := Lib.hid (ownsRow_keep R1.out hb2); have O2 := Lib.hid (O1.out.below hb2 O1.out.lt); have BB2 := Lib.hid (BB1.out.trans (hb2.mono (Nat.le_trans (by assumption) BB1.out.size))); have F2 := Lib.hid ((F1.out.trans (FrT.below hb2 [])).sub (by simp) : FrT [32, 27] W w2); have L2 := Lib.hid hl2; clear hb2 hl2; (try simp only [Act.put, List.setIfInBounds_toArray, List.set_cons_zero, List.set_cons_succ])) | (refine wl_app (by_ := 80) _ _ rfl rfl Try.underlying27 inf_tx (by decide) rfl R2.out Tx.len rfl (sl_one L2.out) (fun y hy u hu => by obtain rfl := List.mem_singleton.1 hy; exact HT.out.one u hu) (by unfold maxLen; simp; omega) (by simp; omega) (by have := BB2.out.size; omega) (fun v3 w3 hr3 hg3 hv3 => ?_); have R3 := Lib.hid (show w3.ownsRow base 32 22 v3 (L ++ [t]).length ((L ++ [t]).flatMap Tx.cs) from by rw [List.length_append, List.flatMap_append]; exact hr3); have O3 := Lib.hid (lies_frT O2.out (FrT.grown R2.out hg3) (by decide)); have BB3 := Lib.hid (BB2.out.grown hg3 (by have := BB2.out.size; omega) (fun _ hk => (row_block R2.out hk).1)); have F3 := Lib.hid ((F2.out.trans (FrT.grown R2.out hg3)).sub (by simp) : FrT [32, 27] W w3); have V3 := Lib.hid (row_cells hr3); clear hr3 hg3 hv3; (try simp only [Act.put, List.setIfInBounds_toArray, List.set_cons_zero, List.set_cons_succ])) | (refine wl_fld (c0 := [ov]) O3.out _ _ rfl rfl rfl rfl [v3] [v3] V3.out.1 (by kernel_rfl) (by intro u hu; obtain rfl := List.mem_singleton.1 hu; exact V3.out.2) (by simp) rfl (fun w4 hl4 hf4 => ?_); have O4 := Lib.hid hl4; have R4 := Lib.hid (row_frT R3.out (FrT.field O3.out hf4) (by decide)); have BB4 := Lib.hid (BB3.out.trans (hf4.below (by have := BB3.out.size; omega) (fun q hq => by rw [hq]; assumption))); have F4 := Lib.hid ((F3.out.trans (FrT.field O3.out hf4)).sub (by simp) : FrT [32, 27] W w4); clear hl4 hf4; (try simp only [Act.put])))
  go_ret
  exact ⟨rfl, ⟨v3, O4.out, R4.out⟩, BB4.out, F4.out⟩
end Go.Proofs.Ytkdckcjnjljdmaa.Po
