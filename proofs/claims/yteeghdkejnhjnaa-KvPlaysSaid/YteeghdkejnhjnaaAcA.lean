/- The walks of the ledger's Add, Sub, Bump, Move. -/
import Derived.Test.YteeghdkejnhjnaaAcG
import Derived.Shelf.Abstract
namespace Go.Proofs.Yteeghdkejnhjnaa.Ac
open Go Go.RowKit Go.Shelf Kt Ad

theorem eAdd1 : ∀ args w, (callFunc 83 args).run Try.prog w = .ok (.enter 83 args) w := enters_of Try.func83 (by kernel_rfl) rfl
theorem eSub1 : ∀ args w, (callFunc 85 args).run Try.prog w = .ok (.enter 85 args) w := enters_of Try.func85 (by kernel_rfl) rfl
theorem eBump1 : ∀ args w, (callFunc 86 args).run Try.prog w = .ok (.enter 86 args) w := enters_of Try.func86 (by kernel_rfl) rfl

/-- The amount's box, in every later world. -/
theorem boxes {W W' : World} {a : A8} {k : Nat} (hB : Below ((W.alloc (.cells a.cs.toArray 24)).alloc (.cells #[.int .u64 k] 87)).heap.size ((W.alloc (.cells a.cs.toArray 24)).alloc (.cells #[.int .u64 k] 87)) W') :
    W'.cell? ⟨W.heap.size + 1, 0, none⟩ = some (.int .u64 k) ∧ W.heap.size + 1 < W'.heap.size := by
  have h1 := Lies.new (W.alloc (.cells a.cs.toArray 24)) 87 #[.int .u64 k]
  rw [World.size_alloc] at h1
  have h2 := h1.below hB h1.lt
  exact ⟨h2.cell 0, h2.lt⟩

set_option maxRecDepth 100000 in
set_option maxHeartbeats 2000000 in
theorem add_any {W : World} {bl bm : Nat} {L : List Ent} (h : Led W bl bm L) (a : A8) (k : Nat) (hk : k < M64) :
    Calls Try.prog 50 #[.pointer (some ⟨bl, 0, none⟩), a.v, .int .u64 k] W fun e w' => e = .returned (.int .i64 (addE L a k).1) ∧ Led w' bl bm (addE L a k).2 ∧ W.grownBy w' (some bm) := by
  have hg := get_lt h.ok a
  have hG : W.grownBy ((W.alloc (.cells a.cs.toArray 24)).alloc (.cells #[.int .u64 k] 87)) (some bm) := grownBy_trans (World.grownBy_alloc W _ _) (World.grownBy_alloc _ _ _)
  have hc : Calls Try.prog 82 #[.pointer (some ⟨bl, 0, none⟩), a.v, .func (.func 83) #[] #[.pointer (some ⟨W.heap.size + 1, 0, none⟩)]] ((W.alloc (.cells a.cs.toArray 24)).alloc (.cells #[.int .u64 k] 87)) fun e w' => e = .returned (.int .i64 (addE L a k).1) ∧ Led w' bl bm (addE L a k).2 ∧ ((W.alloc (.cells a.cs.toArray 24)).alloc (.cells #[.int .u64 k] 87)).grownBy w' (some bm) := by
    unfold addE
    by_cases ho : M64 ≤ (get L a).1 + k
    · rw [if_pos ho]
      exact change_err ((h.alloc _).alloc _) a _ _ eAdd1 _ _ 211 rfl (fun W' hB => add1_over (boxes hB).1 (boxes hB).2 hg.1 hk ho)
    · rw [if_neg ho]
      exact change_ok ((h.alloc _).alloc _) a _ _ eAdd1 _ _ (by omega) hg.2 (fun W' hB => add1_ok (boxes hB).1 (boxes hB).2 (by unfold M64 at ho; omega))
  have HC := Lib.hid hc
  have HGG := Lib.hid hG
  clear hc hG h hg hk
  generalize (addE L a k).1 = r at HC ⊢
  generalize (addE L a k).2 = L' at HC ⊢
  simp only [A8.v]
  go_enter Try.func50, Try.ntmps50
  go_wp2_with (go_at_call 82; refine HC.out.mono ?_; rintro en w3 ⟨rfl, hL3, hG3⟩)
  go_ret
  exact ⟨rfl, hL3, grownBy_trans HGG.out hG3⟩

set_option maxRecDepth 100000 in
set_option maxHeartbeats 2000000 in
theorem sub_any {W : World} {bl bm : Nat} {L : List Ent} (h : Led W bl bm L) (a : A8) (k : Nat) :
    Calls Try.prog 52 #[.pointer (some ⟨bl, 0, none⟩), a.v, .int .u64 k] W fun e w' => e = .returned (.int .i64 (subE L a k).1) ∧ Led w' bl bm (subE L a k).2 ∧ W.grownBy w' (some bm) := by
  have hg := get_lt h.ok a
  have hG : W.grownBy ((W.alloc (.cells a.cs.toArray 24)).alloc (.cells #[.int .u64 k] 87)) (some bm) := grownBy_trans (World.grownBy_alloc W _ _) (World.grownBy_alloc _ _ _)
  have hc : Calls Try.prog 82 #[.pointer (some ⟨bl, 0, none⟩), a.v, .func (.func 85) #[] #[.pointer (some ⟨W.heap.size + 1, 0, none⟩)]] ((W.alloc (.cells a.cs.toArray 24)).alloc (.cells #[.int .u64 k] 87)) fun e w' => e = .returned (.int .i64 (subE L a k).1) ∧ Led w' bl bm (subE L a k).2 ∧ ((W.alloc (.cells a.cs.toArray 24)).alloc (.cells #[.int .u64 k] 87)).grownBy w' (some bm) := by
    unfold subE
    by_cases ho : (get L a).1 < k
    · rw [if_pos ho]
      exact change_err ((h.alloc _).alloc _) a _ _ eSub1 _ _ 210 rfl (fun W' hB => sub1_low (boxes hB).1 (boxes hB).2 ho)
    · rw [if_neg ho]
      exact change_ok ((h.alloc _).alloc _) a _ _ eSub1 _ _ (by omega) hg.2 (fun W' hB => sub1_ok (boxes hB).1 (boxes hB).2 hg.1 (by omega))
  have HC := Lib.hid hc
  have HGG := Lib.hid hG
  clear hc hG h hg
  generalize (subE L a k).1 = r at HC ⊢
  generalize (subE L a k).2 = L' at HC ⊢
  simp only [A8.v]
  go_enter Try.func52, Try.ntmps52
  go_wp2_with (go_at_call 82; refine HC.out.mono ?_; rintro en w3 ⟨rfl, hL3, hG3⟩)
  go_ret
  exact ⟨rfl, hL3, grownBy_trans HGG.out hG3⟩

set_option maxRecDepth 100000 in
set_option maxHeartbeats 2000000 in
theorem bump_any {W : World} {bl bm : Nat} {L : List Ent} (h : Led W bl bm L) (a : A8) :
    Calls Try.prog 56 #[.pointer (some ⟨bl, 0, none⟩), a.v] W fun e w' => e = .returned (.int .i64 (bumpE L a).1) ∧ Led w' bl bm (bumpE L a).2 ∧ W.grownBy w' (some bm) := by
  have hg := get_lt h.ok a
  have hG : W.grownBy (W.alloc (.cells a.cs.toArray 24)) (some bm) := World.grownBy_alloc W _ _
  have hc : Calls Try.prog 82 #[.pointer (some ⟨bl, 0, none⟩), a.v, .func (.func 86) #[] #[]] (W.alloc (.cells a.cs.toArray 24)) fun e w' => e = .returned (.int .i64 (bumpE L a).1) ∧ Led w' bl bm (bumpE L a).2 ∧ (W.alloc (.cells a.cs.toArray 24)).grownBy w' (some bm) := by
    unfold bumpE
    by_cases ho : (get L a).2 = 18446744073709551615
    · rw [if_pos ho]
      refine change_err (h.alloc _) a _ _ eBump1 (get L a).1 0 211 rfl (fun W' hB => ?_)
      rw [ho]
      exact bump1_over
    · rw [if_neg ho]
      exact change_ok (h.alloc _) a _ _ eBump1 _ _ hg.1 (by have := hg.2; unfold M64 at *; omega) (fun W' hB => bump1_ok (by have := hg.2; unfold M64 at *; omega))
  have HC := Lib.hid hc
  have HGG := Lib.hid hG
  clear hc hG h hg
  generalize (bumpE L a).1 = r at HC ⊢
  generalize (bumpE L a).2 = L' at HC ⊢
  simp only [A8.v]
  go_enter Try.func56, Try.ntmps56
  go_wp2_with (go_at_call 82; refine HC.out.mono ?_; rintro en w3 ⟨rfl, hL3, hG3⟩)
  go_ret
  exact ⟨rfl, hL3, grownBy_trans HGG.out hG3⟩

theorem addE_err (L : List Ent) (a : A8) (k : Nat) : (addE L a k).1 = 0 ∨ (addE L a k).1 = 211 ∧ (addE L a k).2 = L := by unfold addE; split <;> simp
theorem subE_err (L : List Ent) (a : A8) (k : Nat) : (subE L a k).1 = 0 ∨ (subE L a k).1 = 210 ∧ (subE L a k).2 = L := by unfold subE; split <;> simp

set_option maxRecDepth 100000 in
set_option maxHeartbeats 2000000 in
theorem move_any {W : World} {bl bm : Nat} {L : List Ent} (h : Led W bl bm L) (a b : A8) (k : Nat) (hk : k < M64) :
    Calls Try.prog 54 #[.pointer (some ⟨bl, 0, none⟩), a.v, b.v, .int .u64 k] W fun e w' => e = .returned (.int .i64 (moveE L a b k).1) ∧ Led w' bl bm (moveE L a b k).2 ∧ W.grownBy w' (some bm) := by
  obtain ⟨W1, hW1⟩ : ∃ W1, W1 = (W.alloc (.cells a.cs.toArray 24)).alloc (.cells b.cs.toArray 24) := ⟨_, rfl⟩
  have hL1 : Led W1 bl bm L := by rw [hW1]; exact (h.alloc _).alloc _
  have hA1 : Lies W1 W.heap.size 24 a.cs.toArray := by rw [hW1]; exact (Lies.new W _ _).alloc _
  have hB1 : Lies W1 (W.heap.size + 1) 24 b.cs.toArray := by rw [hW1]; have := Lies.new (W.alloc (.cells a.cs.toArray 24)) 24 b.cs.toArray; rw [World.size_alloc] at this; exact this
  have hG1 : W.grownBy W1 (some bm) := by rw [hW1]; exact grownBy_trans (World.grownBy_alloc W _ _) (World.grownBy_alloc _ _ _)
  have HS := Lib.hid (sub_any hL1 a k)
  have HAa := Lib.hid (fun (W' : World) (h' : Led W' bl bm (subE L a k).2) => add_any h' a k hk)
  have HAb := Lib.hid (fun (W' : World) (h' : Led W' bl bm (subE L a k).2) => add_any h' b k hk)
  have hbm1 : W.heap.size ≠ bm := by have := h.map.lt; omega
  have hbm2 : W.heap.size + 1 ≠ bm := by have := h.map.lt; omega
  rcases subE_err L a k with hs | ⟨hs, hs2⟩
  · have HM : moveE L a b k = if (addE (subE L a k).2 b k).1 = 0 then (0, (addE (subE L a k).2 b k).2) else ((addE (subE L a k).2 b k).1, (addE (subE L a k).2 a k).2) := by unfold moveE; rw [if_pos hs]
    rw [HM]
    rw [hs] at HS
    clear HM hs
    generalize (subE L a k).2 = L2 at HS HAa HAb ⊢
    rcases addE_err L2 b k with hs | ⟨hs, hs2⟩
    · rw [if_pos hs]
      rw [hs] at HAb
      clear hs
      generalize (addE L2 b k).2 = L3 at HAb ⊢
      simp only [A8.v] at HS HAa HAb ⊢
      clear h hk
      go_enter Try.func54, Try.ntmps54
      go_wp2_with fail
      rw [show (W.alloc (.cells #[.int .u8 a.x0.toNat, .int .u8 a.x1.toNat, .int .u8 a.x2.toNat, .int .u8 a.x3.toNat, .int .u8 a.x4.toNat, .int .u8 a.x5.toNat, .int .u8 a.x6.toNat, .int .u8 a.x7.toNat] 24)).alloc (.cells #[.int .u8 b.x0.toNat, .int .u8 b.x1.toNat, .int .u8 b.x2.toNat, .int .u8 b.x3.toNat, .int .u8 b.x4.toNat, .int .u8 b.x5.toNat, .int .u8 b.x6.toNat, .int .u8 b.x7.toNat] 24) = W1 from hW1.symm]
      clear hW1
      refine HS.out.mono ?_
      rintro en w2 ⟨rfl, hL2, hG2⟩
      have hA2 := hA1.kept hG2 (by simpa using hbm1)
      have hB2 := hB1.kept hG2 (by simpa using hbm2)
      have HG02 := Lib.hid (grownBy_trans hG1 hG2)
      clear HS hL1 hA1 hB1 hG1 hG2
      obtain ⟨b0, b1, b2, b3, b4, b5, b6, b7⟩ := lies_addr hB2
      go_wp2_with fail
      refine (HAb.out _ hL2).mono ?_
      rintro en w3 ⟨rfl, hL3, hG3⟩
      have hA3 := hA2.kept hG3 (by simpa using hbm1)
      have HG03 := Lib.hid (grownBy_trans HG02.out hG3)
      clear b0 b1 b2 b3 b4 b5 b6 b7 hA2 hB2 hL2 hG3 HG02
      go_wp2_with fail
      go_ret
      exact ⟨rfl, hL3, HG03.out⟩
    · rw [if_neg (by rw [hs]; decide)]
      rw [hs, hs2] at HAb
      rw [hs]
      clear hs hs2
      generalize (addE L2 a k).2 = L4 at HAa ⊢
      generalize (addE L2 a k).1 = r at HAa ⊢
      simp only [A8.v] at HS HAa HAb ⊢
      clear h hk
      go_enter Try.func54, Try.ntmps54
      go_wp2_with fail
      rw [show (W.alloc (.cells #[.int .u8 a.x0.toNat, .int .u8 a.x1.toNat, .int .u8 a.x2.toNat, .int .u8 a.x3.toNat, .int .u8 a.x4.toNat, .int .u8 a.x5.toNat, .int .u8 a.x6.toNat, .int .u8 a.x7.toNat] 24)).alloc (.cells #[.int .u8 b.x0.toNat, .int .u8 b.x1.toNat, .int .u8 b.x2.toNat, .int .u8 b.x3.toNat, .int .u8 b.x4.toNat, .int .u8 b.x5.toNat, .int .u8 b.x6.toNat, .int .u8 b.x7.toNat] 24) = W1 from hW1.symm]
      clear hW1
      refine HS.out.mono ?_
      rintro en w2 ⟨rfl, hL2, hG2⟩
      have hA2 := hA1.kept hG2 (by simpa using hbm1)
      have hB2 := hB1.kept hG2 (by simpa using hbm2)
      have HG02 := Lib.hid (grownBy_trans hG1 hG2)
      clear HS hL1 hA1 hB1 hG1 hG2
      obtain ⟨b0, b1, b2, b3, b4, b5, b6, b7⟩ := lies_addr hB2
      go_wp2_with fail
      refine (HAb.out _ hL2).mono ?_
      rintro en w3 ⟨rfl, hL3, hG3⟩
      have hA3 := hA2.kept hG3 (by simpa using hbm1)
      have HG03 := Lib.hid (grownBy_trans HG02.out hG3)
      clear b0 b1 b2 b3 b4 b5 b6 b7 hA2 hB2 hL2 hG3 HG02
      obtain ⟨b0, b1, b2, b3, b4, b5, b6, b7⟩ := lies_addr hA3
      go_wp2_with fail
      refine (HAa.out _ hL3).mono ?_
      rintro en w4 ⟨rfl, hL4, hG4⟩
      have HG04 := Lib.hid (grownBy_trans HG03.out hG4)
      clear b0 b1 b2 b3 b4 b5 b6 b7 hG4
      go_wp2_with fail
      go_ret
      exact ⟨rfl, hL4, HG04.out⟩
  · have HM : moveE L a b k = ((subE L a k).1, L) := by unfold moveE; rw [if_neg (by rw [hs]; decide)]
    rw [HM]
    rw [hs2] at HS HAa HAb
    rw [hs] at HS ⊢
    clear hs hs2 HM
    simp only [A8.v] at HS HAa HAb ⊢
    clear h hk
    go_enter Try.func54, Try.ntmps54
    go_wp2_with fail
    rw [show (W.alloc (.cells #[.int .u8 a.x0.toNat, .int .u8 a.x1.toNat, .int .u8 a.x2.toNat, .int .u8 a.x3.toNat, .int .u8 a.x4.toNat, .int .u8 a.x5.toNat, .int .u8 a.x6.toNat, .int .u8 a.x7.toNat] 24)).alloc (.cells #[.int .u8 b.x0.toNat, .int .u8 b.x1.toNat, .int .u8 b.x2.toNat, .int .u8 b.x3.toNat, .int .u8 b.x4.toNat, .int .u8 b.x5.toNat, .int .u8 b.x6.toNat, .int .u8 b.x7.toNat] 24) = W1 from hW1.symm]
    clear hW1
    refine HS.out.mono ?_
    rintro en w2 ⟨rfl, hL2, hG2⟩
    have hA2 := hA1.kept hG2 (by simpa using hbm1)
    have hB2 := hB1.kept hG2 (by simpa using hbm2)
    have HG02 := Lib.hid (grownBy_trans hG1 hG2)
    clear HS hL1 hA1 hB1 hG1 hG2
    go_wp2_with fail
    go_ret
    exact ⟨rfl, hL2, HG02.out⟩
end Go.Proofs.Yteeghdkejnhjnaa.Ac
