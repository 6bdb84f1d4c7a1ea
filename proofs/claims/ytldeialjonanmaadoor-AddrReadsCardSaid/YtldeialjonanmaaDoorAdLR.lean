/- The walk of the statement AddrReads. -/
import Derived.Test.YtldeialjonanmaaDoorAdV
import Derived.Test.YtldeialjonanmaaDoorPlan
namespace Go.Proofs.YtldeialjonanmaaDoor.Ad
open Go Go.RowKit Kt

set_option maxHeartbeats 16000000 in
theorem reads_core (s : ByteArray) (a b X : A8) (e c : Int) (ok : Bool) (t : ByteArray) (w : World)
    (hP : ∀ w, Calls Tryd.prog 11 #[.string s] w fun en w' => en = .returned (.tuple #[X.v, .int .i64 e]) ∧ Below w.heap.size w w')
    (hR : ∀ w, Calls Tryd.prog 13 #[.string s] w fun en w' => en = .returned (.tuple #[X.v, .bool ok]) ∧ Below w.heap.size w w')
    (hT : ∀ w, Calls Tryd.prog 15 #[a.v] w fun en w' => en = .returned (.string t) ∧ Below w.heap.size w w')
    (hU : ∀ w, Calls Tryd.prog 16 #[a.v] w fun en w' => en = .returned (.string t) ∧ Below w.heap.size w w')
    (hO : ∀ w, Calls Tryd.prog 12 #[a.v, b.v] w fun en w' => en = .returned (.int .i64 c) ∧ Below w.heap.size w w')
    (hok : (decide (e = 0) = ok) ∧ ((e == 0) = ok)) (he : e = 0 ∨ e = 2) (hc : (c = -1 ∧ a.num < b.num) ∨ (c = 1 ∧ b.num < a.num) ∨ (c = 0 ∧ a.num = b.num)) :
    Calls Tryd.prog 6 #[.string s, a.v, b.v] w fun e w' => e = .returned (.bool true) ∧ Below w.heap.size w w' := by
  have HP := Lib.hid hP
  have HR := Lib.hid hR
  have HT := Lib.hid hT
  have HU := Lib.hid hU
  have HO := Lib.hid hO
  have HC := Lib.hid hc
  have HK := Lib.hid hok
  have HE := Lib.hid he
  clear hP hR hT hU hO hc hok he
  go_enter Tryd.func6, Tryd.ntmps6
  go_wp2_with fail
  have hBW : Below w.heap.size w ((w.alloc (.cells #[.int .u8 a.x0.toNat, .int .u8 a.x1.toNat, .int .u8 a.x2.toNat, .int .u8 a.x3.toNat, .int .u8 a.x4.toNat, .int .u8 a.x5.toNat, .int .u8 a.x6.toNat, .int .u8 a.x7.toNat] 23)).alloc (.cells #[.int .u8 b.x0.toNat, .int .u8 b.x1.toNat, .int .u8 b.x2.toNat, .int .u8 b.x3.toNat, .int .u8 b.x4.toNat, .int .u8 b.x5.toNat, .int .u8 b.x6.toNat, .int .u8 b.x7.toNat] 23)) := ((Below.refl _ _).alloc (Nat.le_refl _) _).alloc (by simp) _
  have hsz : ((w.alloc (.cells #[.int .u8 a.x0.toNat, .int .u8 a.x1.toNat, .int .u8 a.x2.toNat, .int .u8 a.x3.toNat, .int .u8 a.x4.toNat, .int .u8 a.x5.toNat, .int .u8 a.x6.toNat, .int .u8 a.x7.toNat] 23)).alloc (.cells #[.int .u8 b.x0.toNat, .int .u8 b.x1.toNat, .int .u8 b.x2.toNat, .int .u8 b.x3.toNat, .int .u8 b.x4.toNat, .int .u8 b.x5.toNat, .int .u8 b.x6.toNat, .int .u8 b.x7.toNat] 23)).heap.size = w.heap.size + 2 := by simp
  have hA : At8 ((w.alloc (.cells #[.int .u8 a.x0.toNat, .int .u8 a.x1.toNat, .int .u8 a.x2.toNat, .int .u8 a.x3.toNat, .int .u8 a.x4.toNat, .int .u8 a.x5.toNat, .int .u8 a.x6.toNat, .int .u8 a.x7.toNat] 23)).alloc (.cells #[.int .u8 b.x0.toNat, .int .u8 b.x1.toNat, .int .u8 b.x2.toNat, .int .u8 b.x3.toNat, .int .u8 b.x4.toNat, .int .u8 b.x5.toNat, .int .u8 b.x6.toNat, .int .u8 b.x7.toNat] 23)) w.heap.size a := (At8.new w a).alloc _ (by simp)
  have hBb : At8 ((w.alloc (.cells #[.int .u8 a.x0.toNat, .int .u8 a.x1.toNat, .int .u8 a.x2.toNat, .int .u8 a.x3.toNat, .int .u8 a.x4.toNat, .int .u8 a.x5.toNat, .int .u8 a.x6.toNat, .int .u8 a.x7.toNat] 23)).alloc (.cells #[.int .u8 b.x0.toNat, .int .u8 b.x1.toNat, .int .u8 b.x2.toNat, .int .u8 b.x3.toNat, .int .u8 b.x4.toNat, .int .u8 b.x5.toNat, .int .u8 b.x6.toNat, .int .u8 b.x7.toNat] 23)) (w.heap.size + 1) b := by have := At8.new (w.alloc (.cells #[.int .u8 a.x0.toNat, .int .u8 a.x1.toNat, .int .u8 a.x2.toNat, .int .u8 a.x3.toNat, .int .u8 a.x4.toNat, .int .u8 a.x5.toNat, .int .u8 a.x6.toNat, .int .u8 a.x7.toNat] 23)) b; rwa [size_box] at this
  generalize (w.alloc (.cells #[.int .u8 a.x0.toNat, .int .u8 a.x1.toNat, .int .u8 a.x2.toNat, .int .u8 a.x3.toNat, .int .u8 a.x4.toNat, .int .u8 a.x5.toNat, .int .u8 a.x6.toNat, .int .u8 a.x7.toNat] 23)).alloc (.cells #[.int .u8 b.x0.toNat, .int .u8 b.x1.toNat, .int .u8 b.x2.toNat, .int .u8 b.x3.toNat, .int .u8 b.x4.toNat, .int .u8 b.x5.toNat, .int .u8 b.x6.toNat, .int .u8 b.x7.toNat] 23) = W at *
  have HSZ := Lib.hid hsz
  clear hsz
  refine (HP.out _).mono ?_
  rintro en w1 ⟨rfl, hB1⟩
  have hW1 := next_below hBW hB1 (by have := HSZ.out; omega)
  have hz1 := Lib.hid (keep_size hB1 (Nat.le_of_eq HSZ.out.symm))
  replace hA := hA.keep hB1 (by have := HSZ.out; omega)
  replace hBb := hBb.keep hB1 (by have := HSZ.out; omega)
  clear hBW hB1 HSZ
  go_wp2_with fail
  have hX := At8.new w1 X
  replace hA := hA.alloc (.cells #[.int .u8 X.x0.toNat, .int .u8 X.x1.toNat, .int .u8 X.x2.toNat, .int .u8 X.x3.toNat, .int .u8 X.x4.toNat, .int .u8 X.x5.toNat, .int .u8 X.x6.toNat, .int .u8 X.x7.toNat] 23) (by have := hz1.out; omega)
  replace hBb := hBb.alloc (.cells #[.int .u8 X.x0.toNat, .int .u8 X.x1.toNat, .int .u8 X.x2.toNat, .int .u8 X.x3.toNat, .int .u8 X.x4.toNat, .int .u8 X.x5.toNat, .int .u8 X.x6.toNat, .int .u8 X.x7.toNat] 23) (by have := hz1.out; omega)
  replace hW1 := hW1.alloc (by have := hz1.out; omega) (.cells #[.int .u8 X.x0.toNat, .int .u8 X.x1.toNat, .int .u8 X.x2.toNat, .int .u8 X.x3.toNat, .int .u8 X.x4.toNat, .int .u8 X.x5.toNat, .int .u8 X.x6.toNat, .int .u8 X.x7.toNat] 23)
  obtain ⟨g1, hg1⟩ : ∃ g1, g1 = w1.heap.size := ⟨_, rfl⟩
  rw [← hg1] at hX hz1 ⊢
  have hq : (w1.alloc (.cells #[.int .u8 X.x0.toNat, .int .u8 X.x1.toNat, .int .u8 X.x2.toNat, .int .u8 X.x3.toNat, .int .u8 X.x4.toNat, .int .u8 X.x5.toNat, .int .u8 X.x6.toNat, .int .u8 X.x7.toNat] 23)).heap.size = g1 + 1 := by rw [size_box, hg1]
  generalize w1.alloc (.cells #[.int .u8 X.x0.toNat, .int .u8 X.x1.toNat, .int .u8 X.x2.toNat, .int .u8 X.x3.toNat, .int .u8 X.x4.toNat, .int .u8 X.x5.toNat, .int .u8 X.x6.toNat, .int .u8 X.x7.toNat] 23) = W2 at *
  clear hg1
  have HQ := Lib.hid hq
  clear hq
  refine (HR.out _).mono ?_
  rintro en w2 ⟨rfl, hB2⟩
  have hW2 := next_below hW1 hB2 (by have := HQ.out; have := hz1.out; omega)
  have hz2 := Lib.hid (keep_size hB2 (Nat.le_of_eq HQ.out.symm))
  replace hA := hA.keep hB2 (by have := HQ.out; have := hz1.out; omega)
  replace hBb := hBb.keep hB2 (by have := HQ.out; have := hz1.out; omega)
  replace hX := hX.keep hB2 (by have := HQ.out; omega)
  clear hW1 hB2 HQ
  go_wp2_with fail
  have hY := At8.new w2 X
  replace hA := hA.alloc (.cells #[.int .u8 X.x0.toNat, .int .u8 X.x1.toNat, .int .u8 X.x2.toNat, .int .u8 X.x3.toNat, .int .u8 X.x4.toNat, .int .u8 X.x5.toNat, .int .u8 X.x6.toNat, .int .u8 X.x7.toNat] 23) (by have := hz2.out; have := hz1.out; omega)
  replace hBb := hBb.alloc (.cells #[.int .u8 X.x0.toNat, .int .u8 X.x1.toNat, .int .u8 X.x2.toNat, .int .u8 X.x3.toNat, .int .u8 X.x4.toNat, .int .u8 X.x5.toNat, .int .u8 X.x6.toNat, .int .u8 X.x7.toNat] 23) (by have := hz2.out; have := hz1.out; omega)
  replace hX := hX.alloc (.cells #[.int .u8 X.x0.toNat, .int .u8 X.x1.toNat, .int .u8 X.x2.toNat, .int .u8 X.x3.toNat, .int .u8 X.x4.toNat, .int .u8 X.x5.toNat, .int .u8 X.x6.toNat, .int .u8 X.x7.toNat] 23) (by have := hz2.out; omega)
  replace hW2 := hW2.alloc (by have := hz2.out; have := hz1.out; omega) (.cells #[.int .u8 X.x0.toNat, .int .u8 X.x1.toNat, .int .u8 X.x2.toNat, .int .u8 X.x3.toNat, .int .u8 X.x4.toNat, .int .u8 X.x5.toNat, .int .u8 X.x6.toNat, .int .u8 X.x7.toNat] 23)
  obtain ⟨g2, hg2⟩ : ∃ g2, g2 = w2.heap.size := ⟨_, rfl⟩
  rw [← hg2] at hY hz2 ⊢
  have hq : (w2.alloc (.cells #[.int .u8 X.x0.toNat, .int .u8 X.x1.toNat, .int .u8 X.x2.toNat, .int .u8 X.x3.toNat, .int .u8 X.x4.toNat, .int .u8 X.x5.toNat, .int .u8 X.x6.toNat, .int .u8 X.x7.toNat] 23)).heap.size = g2 + 1 := by rw [size_box, hg2]
  generalize w2.alloc (.cells #[.int .u8 X.x0.toNat, .int .u8 X.x1.toNat, .int .u8 X.x2.toNat, .int .u8 X.x3.toNat, .int .u8 X.x4.toNat, .int .u8 X.x5.toNat, .int .u8 X.x6.toNat, .int .u8 X.x7.toNat] 23) = W3 at *
  clear hg2
  have o1 : w.heap.size + 2 ≤ g1 := hz1.out
  have o2 : g1 + 1 ≤ g2 := hz2.out
  have l0 : w.heap.size < W3.heap.size := by omega
  have l1 : w.heap.size + 1 < W3.heap.size := by omega
  have l2 : g1 < W3.heap.size := by omega
  have l3 : g2 < W3.heap.size := by omega
  clear hq hz1 hz2 o1 o2
  refine wp_region_below [(0, true), (2, true), (1, false), (3, false), (4, true), (5, true)] (by kernel_rfl) (by kernel_rfl) (fun _ _ d _ _ h => by cases d <;> exact h) ?_
  intro V hV
  replace hA : At8 V w.heap.size a := by rw [hV]; exact hA
  replace hBb : At8 V (w.heap.size + 1) b := by rw [hV]; exact hBb
  replace hX : At8 V g1 X := by rw [hV]; exact hX
  replace hY : At8 V g2 X := by rw [hV]; exact hY
  replace l0 : w.heap.size < V.heap.size := by rw [hV]; exact l0
  replace l1 : w.heap.size + 1 < V.heap.size := by rw [hV]; exact l1
  replace l2 : g1 < V.heap.size := by rw [hV]; exact l2
  replace l3 : g2 < V.heap.size := by rw [hV]; exact l3
  replace hW2 : Below w.heap.size w V := by rw [hV]; exact hW2.drew
  have hS0 : Below V.heap.size V V := Below.refl _ _
  clear hV
  repeat (first | (refine hs_load8 rfl rfl rfl a (fun w' hw' => hA.keep hw' l0) ?_; (try simp only [Act.put, List.setIfInBounds_toArray, List.set_cons_zero, List.set_cons_succ])) | (refine hs_load8 rfl rfl rfl b (fun w' hw' => hBb.keep hw' l1) ?_; (try simp only [Act.put, List.setIfInBounds_toArray, List.set_cons_zero, List.set_cons_succ])) | (refine hs_take (v := ?_) rfl rfl (fun w' hw' => ?_) ?_; rotate_left; (focus ((clear hw'); skip; go_simp; (try go_bits); (try (with_reducible rfl)))); (try simp only [Act.put, List.setIfInBounds_toArray, List.set_cons_zero, List.set_cons_succ])) | (refine hs_skip rfl rfl ?_; (try simp only [Act.put, List.setIfInBounds_toArray, List.set_cons_zero, List.set_cons_succ])))
  refine hs_run rfl (fun K hK => ?_)
  skip
  go_simp
  refine (rnumber_any _ _).mono ?_
  rintro en V1 ⟨rfl, hB1⟩
  have hS1 : Below V.heap.size V V1 := hS0.trans (hB1.mono hS0.size)
  clear hB1 hS0
  refine hK.out _ _ hS1 ?_
  clear hK K
  (try simp only [Act.put, List.setIfInBounds_toArray, List.set_cons_zero, List.set_cons_succ])
  refine hs_run rfl (fun K hK => ?_)
  skip
  go_simp
  refine (rnumber_any _ _).mono ?_
  rintro en V2 ⟨rfl, hB2⟩
  have hS2 : Below V.heap.size V V2 := hS1.trans (hB2.mono hS1.size)
  clear hB2 hS1
  refine hK.out _ _ hS2 ?_
  clear hK K
  (try simp only [Act.put, List.setIfInBounds_toArray, List.set_cons_zero, List.set_cons_succ])
  repeat (first | (refine hs_load8 rfl rfl rfl a (fun w' hw' => hA.keep hw' l0) ?_; (try simp only [Act.put, List.setIfInBounds_toArray, List.set_cons_zero, List.set_cons_succ])) | (refine hs_load8 rfl rfl rfl b (fun w' hw' => hBb.keep hw' l1) ?_; (try simp only [Act.put, List.setIfInBounds_toArray, List.set_cons_zero, List.set_cons_succ])) | (refine hs_take (v := ?_) rfl rfl (fun w' hw' => ?_) ?_; rotate_left; (focus ((clear hw'); skip; go_simp; (try go_bits); (try (with_reducible rfl)))); (try simp only [Act.put, List.setIfInBounds_toArray, List.set_cons_zero, List.set_cons_succ])) | (refine hs_skip rfl rfl ?_; (try simp only [Act.put, List.setIfInBounds_toArray, List.set_cons_zero, List.set_cons_succ])))
  refine hs_done ?_
  replace hA := hA.keep hS2 l0
  replace hBb := hBb.keep hS2 l1
  replace hX := hX.keep hS2 l2
  replace hY := hY.keep hS2 l3
  replace hW2 := hW2.trans (hS2.mono (Nat.le_of_lt l0))
  replace l0 := Nat.lt_of_lt_of_le l0 hS2.size
  replace l1 := Nat.lt_of_lt_of_le l1 hS2.size
  replace l2 := Nat.lt_of_lt_of_le l2 hS2.size
  replace l3 := Nat.lt_of_lt_of_le l3 hS2.size
  clear hS2
  generalize V2 = W4 at *
  obtain ⟨hk1, hk2⟩ := HK.out
  rcases HE.out with rfl | rfl
  all_goals
    first | (obtain rfl : ok = true := hk2.symm) | (obtain rfl : ok = false := hk2.symm)
    clear hk1 HK HE
    rcases HC.out with ⟨rfl, hlt⟩ | ⟨rfl, hgt⟩ | ⟨rfl, heq⟩
    · clear HC
      go_wp2_with fail
      refine wp_region_below [(0, true), (1, true), (2, true), (3, true), (4, true), (5, true), (6, true), (7, true), (8, true), (9, true), (10, true), (11, true), (12, true), (13, true), (14, true), (15, true), (16, true), (17, true), (19, true), (18, false), (20, false), (21, true), (22, true), (23, true), (24, true), (25, true), (27, true), (26, false), (28, true), (29, true), (30, true), (31, false), (32, true), (33, true)] (by kernel_rfl) (by kernel_rfl) (fun _ _ d _ _ h => by cases d <;> exact h) ?_
      intro U hV
      replace hA : At8 U w.heap.size a := by rw [hV]; exact hA
      replace hBb : At8 U (w.heap.size + 1) b := by rw [hV]; exact hBb
      replace hX : At8 U g1 X := by rw [hV]; exact hX
      replace hY : At8 U g2 X := by rw [hV]; exact hY
      replace l0 : w.heap.size < U.heap.size := by rw [hV]; exact l0
      replace l1 : w.heap.size + 1 < U.heap.size := by rw [hV]; exact l1
      replace l2 : g1 < U.heap.size := by rw [hV]; exact l2
      replace l3 : g2 < U.heap.size := by rw [hV]; exact l3
      replace hW2 : Below w.heap.size w U := by rw [hV]; exact hW2.drew
      have hS0 : Below U.heap.size U U := Below.refl _ _
      clear hV
      repeat (first | (refine hs_load8 rfl rfl rfl a (fun w' hw' => hA.keep hw' l0) ?_; (try simp only [Act.put, List.setIfInBounds_toArray, List.set_cons_zero, List.set_cons_succ])) | (refine hs_load8 rfl rfl rfl b (fun w' hw' => hBb.keep hw' l1) ?_; (try simp only [Act.put, List.setIfInBounds_toArray, List.set_cons_zero, List.set_cons_succ])) | (refine hs_load8 rfl rfl rfl X (fun w' hw' => hX.keep hw' l2) ?_; (try simp only [Act.put, List.setIfInBounds_toArray, List.set_cons_zero, List.set_cons_succ])) | (refine hs_load8 rfl rfl rfl X (fun w' hw' => hY.keep hw' l3) ?_; (try simp only [Act.put, List.setIfInBounds_toArray, List.set_cons_zero, List.set_cons_succ])) | (refine hs_take (v := ?_) rfl rfl (fun w' hw' => ?_) ?_; rotate_left; (focus ((clear hw'); skip; go_simp; (try go_bits); (try (with_reducible rfl)))); (try simp only [Act.put, List.setIfInBounds_toArray, List.set_cons_zero, List.set_cons_succ])) | (refine hs_skip rfl rfl ?_; (try simp only [Act.put, List.setIfInBounds_toArray, List.set_cons_zero, List.set_cons_succ])))
      refine hs_run rfl (fun K hK => ?_)
      skip
      go_simp
      refine (HT.out _).mono ?_
      rintro en U1 ⟨rfl, hB1⟩
      have hS1 : Below U.heap.size U U1 := hS0.trans (hB1.mono hS0.size)
      clear hB1 hS0
      refine hK.out _ _ hS1 ?_
      clear hK K
      (try simp only [Act.put, List.setIfInBounds_toArray, List.set_cons_zero, List.set_cons_succ])
      refine hs_run rfl (fun K hK => ?_)
      skip
      go_simp
      refine (HU.out _).mono ?_
      rintro en U2 ⟨rfl, hB2⟩
      have hS2 : Below U.heap.size U U2 := hS1.trans (hB2.mono hS1.size)
      clear hB2 hS1
      refine hK.out _ _ hS2 ?_
      clear hK K
      (try simp only [Act.put, List.setIfInBounds_toArray, List.set_cons_zero, List.set_cons_succ])
      repeat (first | (refine hs_load8 rfl rfl rfl a (fun w' hw' => hA.keep hw' l0) ?_; (try simp only [Act.put, List.setIfInBounds_toArray, List.set_cons_zero, List.set_cons_succ])) | (refine hs_load8 rfl rfl rfl b (fun w' hw' => hBb.keep hw' l1) ?_; (try simp only [Act.put, List.setIfInBounds_toArray, List.set_cons_zero, List.set_cons_succ])) | (refine hs_load8 rfl rfl rfl X (fun w' hw' => hX.keep hw' l2) ?_; (try simp only [Act.put, List.setIfInBounds_toArray, List.set_cons_zero, List.set_cons_succ])) | (refine hs_load8 rfl rfl rfl X (fun w' hw' => hY.keep hw' l3) ?_; (try simp only [Act.put, List.setIfInBounds_toArray, List.set_cons_zero, List.set_cons_succ])) | (refine hs_take (v := ?_) rfl rfl (fun w' hw' => ?_) ?_; rotate_left; (focus ((clear hw'); skip; go_simp; (try go_bits); (try (with_reducible rfl)))); (try simp only [Act.put, List.setIfInBounds_toArray, List.set_cons_zero, List.set_cons_succ])) | (refine hs_skip rfl rfl ?_; (try simp only [Act.put, List.setIfInBounds_toArray, List.set_cons_zero, List.set_cons_succ])))
      refine hs_run rfl (fun K hK => ?_)
      skip
      go_simp
      refine (HO.out _).mono ?_
      rintro en U3 ⟨rfl, hB3⟩
      have hS3 : Below U.heap.size U U3 := hS2.trans (hB3.mono hS2.size)
      clear hB3 hS2
      refine hK.out _ _ hS3 ?_
      clear hK K
      (try simp only [Act.put, List.setIfInBounds_toArray, List.set_cons_zero, List.set_cons_succ])
      repeat (first | (refine hs_load8 rfl rfl rfl a (fun w' hw' => hA.keep hw' l0) ?_; (try simp only [Act.put, List.setIfInBounds_toArray, List.set_cons_zero, List.set_cons_succ])) | (refine hs_load8 rfl rfl rfl b (fun w' hw' => hBb.keep hw' l1) ?_; (try simp only [Act.put, List.setIfInBounds_toArray, List.set_cons_zero, List.set_cons_succ])) | (refine hs_load8 rfl rfl rfl X (fun w' hw' => hX.keep hw' l2) ?_; (try simp only [Act.put, List.setIfInBounds_toArray, List.set_cons_zero, List.set_cons_succ])) | (refine hs_load8 rfl rfl rfl X (fun w' hw' => hY.keep hw' l3) ?_; (try simp only [Act.put, List.setIfInBounds_toArray, List.set_cons_zero, List.set_cons_succ])) | (refine hs_take (v := ?_) rfl rfl (fun w' hw' => ?_) ?_; rotate_left; (focus ((clear hw'); skip; go_simp; (try go_bits); (try (with_reducible rfl)))); (try simp only [Act.put, List.setIfInBounds_toArray, List.set_cons_zero, List.set_cons_succ])) | (refine hs_skip rfl rfl ?_; (try simp only [Act.put, List.setIfInBounds_toArray, List.set_cons_zero, List.set_cons_succ])))
      refine hs_run rfl (fun K hK => ?_)
      skip
      go_simp
      refine (works_any _).mono ?_
      rintro en U4 ⟨rfl, hB4⟩
      have hS4 : Below U.heap.size U U4 := hS3.trans (hB4.mono hS3.size)
      clear hB4 hS3
      refine hK.out _ _ hS4 ?_
      clear hK K
      (try simp only [Act.put, List.setIfInBounds_toArray, List.set_cons_zero, List.set_cons_succ])
      repeat (first | (refine hs_load8 rfl rfl rfl a (fun w' hw' => hA.keep hw' l0) ?_; (try simp only [Act.put, List.setIfInBounds_toArray, List.set_cons_zero, List.set_cons_succ])) | (refine hs_load8 rfl rfl rfl b (fun w' hw' => hBb.keep hw' l1) ?_; (try simp only [Act.put, List.setIfInBounds_toArray, List.set_cons_zero, List.set_cons_succ])) | (refine hs_load8 rfl rfl rfl X (fun w' hw' => hX.keep hw' l2) ?_; (try simp only [Act.put, List.setIfInBounds_toArray, List.set_cons_zero, List.set_cons_succ])) | (refine hs_load8 rfl rfl rfl X (fun w' hw' => hY.keep hw' l3) ?_; (try simp only [Act.put, List.setIfInBounds_toArray, List.set_cons_zero, List.set_cons_succ])) | (refine hs_take (v := ?_) rfl rfl (fun w' hw' => ?_) ?_; rotate_left; (focus ((clear hw'); skip; go_simp; (try go_bits); (try (with_reducible rfl)))); (try simp only [Act.put, List.setIfInBounds_toArray, List.set_cons_zero, List.set_cons_succ])) | (refine hs_skip rfl rfl ?_; (try simp only [Act.put, List.setIfInBounds_toArray, List.set_cons_zero, List.set_cons_succ])))
      refine hs_done ?_
      go_wp2_with fail
      go_ret
      exact ⟨rfl, hW2.trans (hS4.mono (Nat.le_of_lt l0))⟩
    · clear HC
      have hnl : ¬ a.num < b.num := by omega
      go_wp2_with fail
      refine wp_region_below [(0, true), (1, true), (2, true), (3, true), (4, true), (5, true), (6, true), (7, true), (8, true), (9, true), (10, true), (11, true), (12, true), (13, true), (14, true), (15, true), (16, true), (17, true), (19, true), (18, false), (20, false), (21, true), (22, true), (23, true), (24, true), (25, true), (27, true), (26, false), (28, true), (29, true), (30, true), (31, false), (32, true), (33, true)] (by kernel_rfl) (by kernel_rfl) (fun _ _ d _ _ h => by cases d <;> exact h) ?_
      intro U hV
      replace hA : At8 U w.heap.size a := by rw [hV]; exact hA
      replace hBb : At8 U (w.heap.size + 1) b := by rw [hV]; exact hBb
      replace hX : At8 U g1 X := by rw [hV]; exact hX
      replace hY : At8 U g2 X := by rw [hV]; exact hY
      replace l0 : w.heap.size < U.heap.size := by rw [hV]; exact l0
      replace l1 : w.heap.size + 1 < U.heap.size := by rw [hV]; exact l1
      replace l2 : g1 < U.heap.size := by rw [hV]; exact l2
      replace l3 : g2 < U.heap.size := by rw [hV]; exact l3
      replace hW2 : Below w.heap.size w U := by rw [hV]; exact hW2.drew
      have hS0 : Below U.heap.size U U := Below.refl _ _
      clear hV
      repeat (first | (refine hs_load8 rfl rfl rfl a (fun w' hw' => hA.keep hw' l0) ?_; (try simp only [Act.put, List.setIfInBounds_toArray, List.set_cons_zero, List.set_cons_succ])) | (refine hs_load8 rfl rfl rfl b (fun w' hw' => hBb.keep hw' l1) ?_; (try simp only [Act.put, List.setIfInBounds_toArray, List.set_cons_zero, List.set_cons_succ])) | (refine hs_load8 rfl rfl rfl X (fun w' hw' => hX.keep hw' l2) ?_; (try simp only [Act.put, List.setIfInBounds_toArray, List.set_cons_zero, List.set_cons_succ])) | (refine hs_load8 rfl rfl rfl X (fun w' hw' => hY.keep hw' l3) ?_; (try simp only [Act.put, List.setIfInBounds_toArray, List.set_cons_zero, List.set_cons_succ])) | (refine hs_take (v := ?_) rfl rfl (fun w' hw' => ?_) ?_; rotate_left; (focus ((clear hw'); skip; go_simp; (try go_bits); (try (with_reducible rfl)))); (try simp only [Act.put, List.setIfInBounds_toArray, List.set_cons_zero, List.set_cons_succ])) | (refine hs_skip rfl rfl ?_; (try simp only [Act.put, List.setIfInBounds_toArray, List.set_cons_zero, List.set_cons_succ])))
      refine hs_run rfl (fun K hK => ?_)
      skip
      go_simp
      refine (HT.out _).mono ?_
      rintro en U1 ⟨rfl, hB1⟩
      have hS1 : Below U.heap.size U U1 := hS0.trans (hB1.mono hS0.size)
      clear hB1 hS0
      refine hK.out _ _ hS1 ?_
      clear hK K
      (try simp only [Act.put, List.setIfInBounds_toArray, List.set_cons_zero, List.set_cons_succ])
      refine hs_run rfl (fun K hK => ?_)
      skip
      go_simp
      refine (HU.out _).mono ?_
      rintro en U2 ⟨rfl, hB2⟩
      have hS2 : Below U.heap.size U U2 := hS1.trans (hB2.mono hS1.size)
      clear hB2 hS1
      refine hK.out _ _ hS2 ?_
      clear hK K
      (try simp only [Act.put, List.setIfInBounds_toArray, List.set_cons_zero, List.set_cons_succ])
      repeat (first | (refine hs_load8 rfl rfl rfl a (fun w' hw' => hA.keep hw' l0) ?_; (try simp only [Act.put, List.setIfInBounds_toArray, List.set_cons_zero, List.set_cons_succ])) | (refine hs_load8 rfl rfl rfl b (fun w' hw' => hBb.keep hw' l1) ?_; (try simp only [Act.put, List.setIfInBounds_toArray, List.set_cons_zero, List.set_cons_succ])) | (refine hs_load8 rfl rfl rfl X (fun w' hw' => hX.keep hw' l2) ?_; (try simp only [Act.put, List.setIfInBounds_toArray, List.set_cons_zero, List.set_cons_succ])) | (refine hs_load8 rfl rfl rfl X (fun w' hw' => hY.keep hw' l3) ?_; (try simp only [Act.put, List.setIfInBounds_toArray, List.set_cons_zero, List.set_cons_succ])) | (refine hs_take (v := ?_) rfl rfl (fun w' hw' => ?_) ?_; rotate_left; (focus ((clear hw'); skip; go_simp; (try go_bits); (try (with_reducible rfl)))); (try simp only [Act.put, List.setIfInBounds_toArray, List.set_cons_zero, List.set_cons_succ])) | (refine hs_skip rfl rfl ?_; (try simp only [Act.put, List.setIfInBounds_toArray, List.set_cons_zero, List.set_cons_succ])))
      refine hs_run rfl (fun K hK => ?_)
      skip
      go_simp
      refine (HO.out _).mono ?_
      rintro en U3 ⟨rfl, hB3⟩
      have hS3 : Below U.heap.size U U3 := hS2.trans (hB3.mono hS2.size)
      clear hB3 hS2
      refine hK.out _ _ hS3 ?_
      clear hK K
      (try simp only [Act.put, List.setIfInBounds_toArray, List.set_cons_zero, List.set_cons_succ])
      repeat (first | (refine hs_load8 rfl rfl rfl a (fun w' hw' => hA.keep hw' l0) ?_; (try simp only [Act.put, List.setIfInBounds_toArray, List.set_cons_zero, List.set_cons_succ])) | (refine hs_load8 rfl rfl rfl b (fun w' hw' => hBb.keep hw' l1) ?_; (try simp only [Act.put, List.setIfInBounds_toArray, List.set_cons_zero, List.set_cons_succ])) | (refine hs_load8 rfl rfl rfl X (fun w' hw' => hX.keep hw' l2) ?_; (try simp only [Act.put, List.setIfInBounds_toArray, List.set_cons_zero, List.set_cons_succ])) | (refine hs_load8 rfl rfl rfl X (fun w' hw' => hY.keep hw' l3) ?_; (try simp only [Act.put, List.setIfInBounds_toArray, List.set_cons_zero, List.set_cons_succ])) | (refine hs_take (v := ?_) rfl rfl (fun w' hw' => ?_) ?_; rotate_left; (focus ((clear hw'); skip; go_simp; (try go_bits); (try (with_reducible rfl)))); (try simp only [Act.put, List.setIfInBounds_toArray, List.set_cons_zero, List.set_cons_succ])) | (refine hs_skip rfl rfl ?_; (try simp only [Act.put, List.setIfInBounds_toArray, List.set_cons_zero, List.set_cons_succ])))
      refine hs_run rfl (fun K hK => ?_)
      skip
      go_simp
      refine (works_any _).mono ?_
      rintro en U4 ⟨rfl, hB4⟩
      have hS4 : Below U.heap.size U U4 := hS3.trans (hB4.mono hS3.size)
      clear hB4 hS3
      refine hK.out _ _ hS4 ?_
      clear hK K
      (try simp only [Act.put, List.setIfInBounds_toArray, List.set_cons_zero, List.set_cons_succ])
      repeat (first | (refine hs_load8 rfl rfl rfl a (fun w' hw' => hA.keep hw' l0) ?_; (try simp only [Act.put, List.setIfInBounds_toArray, List.set_cons_zero, List.set_cons_succ])) | (refine hs_load8 rfl rfl rfl b (fun w' hw' => hBb.keep hw' l1) ?_; (try simp only [Act.put, List.setIfInBounds_toArray, List.set_cons_zero, List.set_cons_succ])) | (refine hs_load8 rfl rfl rfl X (fun w' hw' => hX.keep hw' l2) ?_; (try simp only [Act.put, List.setIfInBounds_toArray, List.set_cons_zero, List.set_cons_succ])) | (refine hs_load8 rfl rfl rfl X (fun w' hw' => hY.keep hw' l3) ?_; (try simp only [Act.put, List.setIfInBounds_toArray, List.set_cons_zero, List.set_cons_succ])) | (refine hs_take (v := ?_) rfl rfl (fun w' hw' => ?_) ?_; rotate_left; (focus ((clear hw'); skip; go_simp; (try go_bits); (try (with_reducible rfl)))); (try simp only [Act.put, List.setIfInBounds_toArray, List.set_cons_zero, List.set_cons_succ])) | (refine hs_skip rfl rfl ?_; (try simp only [Act.put, List.setIfInBounds_toArray, List.set_cons_zero, List.set_cons_succ])))
      refine hs_done ?_
      go_wp2_with fail
      go_ret
      exact ⟨rfl, hW2.trans (hS4.mono (Nat.le_of_lt l0))⟩
    · clear HC
      have hnl : ¬ a.num < b.num := by omega
      have hnl2 : ¬ b.num < a.num := by omega
      have HQ := Lib.hid heq
      clear heq
      go_wp2_with fail
      refine wp_region_below [(0, true), (1, true), (2, true), (3, true), (4, true), (5, true), (6, true), (7, true), (8, true), (9, true), (10, true), (11, true), (12, true), (13, true), (14, true), (15, true), (16, true), (17, true), (19, true), (18, false), (20, false), (21, true), (22, true), (23, true), (24, true), (25, true), (27, true), (26, false), (28, true), (29, true), (30, true), (31, false), (32, true), (33, true)] (by kernel_rfl) (by kernel_rfl) (fun _ _ d _ _ h => by cases d <;> exact h) ?_
      intro U hV
      replace hA : At8 U w.heap.size a := by rw [hV]; exact hA
      replace hBb : At8 U (w.heap.size + 1) b := by rw [hV]; exact hBb
      replace hX : At8 U g1 X := by rw [hV]; exact hX
      replace hY : At8 U g2 X := by rw [hV]; exact hY
      replace l0 : w.heap.size < U.heap.size := by rw [hV]; exact l0
      replace l1 : w.heap.size + 1 < U.heap.size := by rw [hV]; exact l1
      replace l2 : g1 < U.heap.size := by rw [hV]; exact l2
      replace l3 : g2 < U.heap.size := by rw [hV]; exact l3
      replace hW2 : Below w.heap.size w U := by rw [hV]; exact hW2.drew
      have hS0 : Below U.heap.size U U := Below.refl _ _
      clear hV
      repeat (first | (refine hs_load8 rfl rfl rfl a (fun w' hw' => hA.keep hw' l0) ?_; (try simp only [Act.put, List.setIfInBounds_toArray, List.set_cons_zero, List.set_cons_succ])) | (refine hs_load8 rfl rfl rfl b (fun w' hw' => hBb.keep hw' l1) ?_; (try simp only [Act.put, List.setIfInBounds_toArray, List.set_cons_zero, List.set_cons_succ])) | (refine hs_load8 rfl rfl rfl X (fun w' hw' => hX.keep hw' l2) ?_; (try simp only [Act.put, List.setIfInBounds_toArray, List.set_cons_zero, List.set_cons_succ])) | (refine hs_load8 rfl rfl rfl X (fun w' hw' => hY.keep hw' l3) ?_; (try simp only [Act.put, List.setIfInBounds_toArray, List.set_cons_zero, List.set_cons_succ])) | (refine hs_take (v := ?_) rfl rfl (fun w' hw' => ?_) ?_; rotate_left; (focus ((clear hw'); skip; go_simp; (try go_bits); (try (with_reducible rfl)))); (try simp only [Act.put, List.setIfInBounds_toArray, List.set_cons_zero, List.set_cons_succ])) | (refine hs_skip rfl rfl ?_; (try simp only [Act.put, List.setIfInBounds_toArray, List.set_cons_zero, List.set_cons_succ])))
      refine hs_run rfl (fun K hK => ?_)
      skip
      go_simp
      refine (HT.out _).mono ?_
      rintro en U1 ⟨rfl, hB1⟩
      have hS1 : Below U.heap.size U U1 := hS0.trans (hB1.mono hS0.size)
      clear hB1 hS0
      refine hK.out _ _ hS1 ?_
      clear hK K
      (try simp only [Act.put, List.setIfInBounds_toArray, List.set_cons_zero, List.set_cons_succ])
      refine hs_run rfl (fun K hK => ?_)
      skip
      go_simp
      refine (HU.out _).mono ?_
      rintro en U2 ⟨rfl, hB2⟩
      have hS2 : Below U.heap.size U U2 := hS1.trans (hB2.mono hS1.size)
      clear hB2 hS1
      refine hK.out _ _ hS2 ?_
      clear hK K
      (try simp only [Act.put, List.setIfInBounds_toArray, List.set_cons_zero, List.set_cons_succ])
      repeat (first | (refine hs_load8 rfl rfl rfl a (fun w' hw' => hA.keep hw' l0) ?_; (try simp only [Act.put, List.setIfInBounds_toArray, List.set_cons_zero, List.set_cons_succ])) | (refine hs_load8 rfl rfl rfl b (fun w' hw' => hBb.keep hw' l1) ?_; (try simp only [Act.put, List.setIfInBounds_toArray, List.set_cons_zero, List.set_cons_succ])) | (refine hs_load8 rfl rfl rfl X (fun w' hw' => hX.keep hw' l2) ?_; (try simp only [Act.put, List.setIfInBounds_toArray, List.set_cons_zero, List.set_cons_succ])) | (refine hs_load8 rfl rfl rfl X (fun w' hw' => hY.keep hw' l3) ?_; (try simp only [Act.put, List.setIfInBounds_toArray, List.set_cons_zero, List.set_cons_succ])) | (refine hs_take (v := ?_) rfl rfl (fun w' hw' => ?_) ?_; rotate_left; (focus ((clear hw'); skip; go_simp; (try go_bits); (try (with_reducible rfl)))); (try simp only [Act.put, List.setIfInBounds_toArray, List.set_cons_zero, List.set_cons_succ])) | (refine hs_skip rfl rfl ?_; (try simp only [Act.put, List.setIfInBounds_toArray, List.set_cons_zero, List.set_cons_succ])))
      refine hs_run rfl (fun K hK => ?_)
      skip
      go_simp
      refine (HO.out _).mono ?_
      rintro en U3 ⟨rfl, hB3⟩
      have hS3 : Below U.heap.size U U3 := hS2.trans (hB3.mono hS2.size)
      clear hB3 hS2
      refine hK.out _ _ hS3 ?_
      clear hK K
      (try simp only [Act.put, List.setIfInBounds_toArray, List.set_cons_zero, List.set_cons_succ])
      repeat (first | (refine hs_load8 rfl rfl rfl a (fun w' hw' => hA.keep hw' l0) ?_; (try simp only [Act.put, List.setIfInBounds_toArray, List.set_cons_zero, List.set_cons_succ])) | (refine hs_load8 rfl rfl rfl b (fun w' hw' => hBb.keep hw' l1) ?_; (try simp only [Act.put, List.setIfInBounds_toArray, List.set_cons_zero, List.set_cons_succ])) | (refine hs_load8 rfl rfl rfl X (fun w' hw' => hX.keep hw' l2) ?_; (try simp only [Act.put, List.setIfInBounds_toArray, List.set_cons_zero, List.set_cons_succ])) | (refine hs_load8 rfl rfl rfl X (fun w' hw' => hY.keep hw' l3) ?_; (try simp only [Act.put, List.setIfInBounds_toArray, List.set_cons_zero, List.set_cons_succ])) | (refine hs_take (v := ?_) rfl rfl (fun w' hw' => ?_) ?_; rotate_left; (focus ((clear hw'); skip; go_simp; (try go_bits); (try (with_reducible rfl)))); (try simp only [Act.put, List.setIfInBounds_toArray, List.set_cons_zero, List.set_cons_succ])) | (refine hs_skip rfl rfl ?_; (try simp only [Act.put, List.setIfInBounds_toArray, List.set_cons_zero, List.set_cons_succ])))
      refine hs_run rfl (fun K hK => ?_)
      skip
      go_simp
      refine (works_any _).mono ?_
      rintro en U4 ⟨rfl, hB4⟩
      have hS4 : Below U.heap.size U U4 := hS3.trans (hB4.mono hS3.size)
      clear hB4 hS3
      refine hK.out _ _ hS4 ?_
      clear hK K
      (try simp only [Act.put, List.setIfInBounds_toArray, List.set_cons_zero, List.set_cons_succ])
      repeat (first | (refine hs_load8 rfl rfl rfl a (fun w' hw' => hA.keep hw' l0) ?_; (try simp only [Act.put, List.setIfInBounds_toArray, List.set_cons_zero, List.set_cons_succ])) | (refine hs_load8 rfl rfl rfl b (fun w' hw' => hBb.keep hw' l1) ?_; (try simp only [Act.put, List.setIfInBounds_toArray, List.set_cons_zero, List.set_cons_succ])) | (refine hs_load8 rfl rfl rfl X (fun w' hw' => hX.keep hw' l2) ?_; (try simp only [Act.put, List.setIfInBounds_toArray, List.set_cons_zero, List.set_cons_succ])) | (refine hs_load8 rfl rfl rfl X (fun w' hw' => hY.keep hw' l3) ?_; (try simp only [Act.put, List.setIfInBounds_toArray, List.set_cons_zero, List.set_cons_succ])) | (refine hs_take (v := ?_) rfl rfl (fun w' hw' => ?_) ?_; rotate_left; (focus ((clear hw'); skip; go_simp; (try go_bits); (try (with_reducible rfl)))); (try simp only [Act.put, List.setIfInBounds_toArray, List.set_cons_zero, List.set_cons_succ])) | (refine hs_skip rfl rfl ?_; (try simp only [Act.put, List.setIfInBounds_toArray, List.set_cons_zero, List.set_cons_succ])))
      refine hs_done ?_
      go_wp2_with fail
      go_ret
      exact ⟨rfl, hW2.trans (hS4.mono (Nat.le_of_lt l0))⟩

theorem law_reads (s : ByteArray) (a b : A8) (w : World) :
    Calls Tryd.prog 6 #[.string s, a.v, b.v] w fun e w' => e = .returned (.bool true) ∧ Below w.heap.size w w' := by
  obtain ⟨X, e, ok, hP, hR, hcase⟩ := parse_both s
  refine reads_core s a b X e (ordN a.num b.num) ok ⟨a.text.toArray⟩ w hP hR (fun w => text_any a w) (fun w => rtext_any a w) (fun w => order_any a b w) ?_ ?_ ?_
  · rcases hcase with ⟨rfl, rfl, _⟩ | ⟨rfl, rfl⟩ <;> exact ⟨rfl, rfl⟩
  · rcases hcase with ⟨rfl, _, _⟩ | ⟨rfl, _⟩
    · exact .inl rfl
    · exact .inr rfl
  · unfold ordN
    rcases Nat.lt_trichotomy a.num b.num with h | h | h
    · exact .inl ⟨by rw [if_pos h], h⟩
    · exact .inr (.inr ⟨by rw [if_neg (by omega), if_neg (by omega)], h⟩)
    · exact .inr (.inl ⟨by rw [if_neg (by omega), if_pos h], h⟩)
end Go.Proofs.YtldeialjonanmaaDoor.Ad
