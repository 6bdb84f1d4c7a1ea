/- The law's known: the chapter's rows; no ledger. -/
import Derived.Test.YteeghdkejnhjnaaAcT
import Derived.Test.YteeghdkejnhjnaaRt
namespace Go.Proofs.Yteeghdkejnhjnaa.Ac
open Go Go.RowKit Kt Ad

def kA : A8 := ⟨1, 0, 0, 0, 0, 0, 0, 0⟩
def kB : A8 := ⟨2, 0, 0, 0, 0, 0, 0, 0⟩
def kL1 : List Ent := [⟨kA, 5, 0⟩]
def kL2 : List Ent := [⟨kA, 5, 0⟩, ⟨kB, 18446744073709551615, 0⟩]
def kL3 : List Ent := [⟨kA, 5, 0⟩, ⟨kB, 18446744073709551608, 0⟩]
def kL4 : List Ent := [⟨kB, 18446744073709551613, 0⟩]
theorem k1 : put ⟨kA, 5, 0⟩ [] = kL1 := by decide +kernel
theorem k2 : put ⟨kB, 18446744073709551615, 0⟩ kL1 = kL2 := by decide +kernel
theorem k3 : tot kL2 = (0, false) := by decide +kernel
theorem k4 : moveE kL2 kA kB 1 = (211, kL2) := by decide +kernel
theorem k5 : moveE kL2 kA kA 5 = (0, kL2) := by decide +kernel
theorem k6 : moveE kL2 kA kA 6 = (210, kL2) := by decide +kernel
theorem k7 : get kL2 kA = (5, 0) := by decide +kernel
theorem k8 : subE kL2 kB 7 = (0, kL3) := by decide +kernel
theorem k9 : moveE kL3 kA kB 5 = (0, kL4) := by decide +kernel
theorem k10 : tot kL4 = (18446744073709551613, true) := by decide +kernel

structure Kn (W w : World) (bl bm : Nat) (L : List Ent) : Prop where
  a : Lies w W.heap.size 24 kA.cs.toArray
  b : Lies w (W.heap.size + 1) 24 kB.cs.toArray
  l : Led w bl bm L
  lo : W.heap.size + 2 ≤ bm
  below : Below W.heap.size W w
theorem Kn.grow {W w w' : World} {bl bm : Nat} {L L' : List Ent} (h : Kn W w bl bm L) (hl : Led w' bl bm L') (hg : w.grownBy w' (some bm)) : Kn W w' bl bm L' :=
  ⟨h.a.kept hg (by have := h.lo; simp; omega), h.b.kept hg (by have := h.lo; simp; omega), hl, h.lo,
    h.below.trans ((show Below W.heap.size w w' from ⟨hg.os, hg.tape, hg.output, hg.size, fun k hk => hg.block k (Nat.lt_of_lt_of_le hk h.below.size) (by have := h.lo; simp; omega)⟩))⟩
theorem Kn.later {W w w' : World} {bl bm : Nat} {L : List Ent} (h : Kn W w bl bm L) (hb : Below w.heap.size w w') : Kn W w' bl bm L :=
  ⟨h.a.below hb h.a.lt, h.b.below hb h.b.lt, h.l.later hb, h.lo, h.below.trans (hb.mono h.below.size)⟩
theorem Kn.drew {W w : World} {bl bm : Nat} {L : List Ent} (h : Kn W w bl bm L) : Kn W w.drew bl bm L := h.later (Below.refl _ _).drew

set_option maxRecDepth 100000 in
set_option maxHeartbeats 4000000 in
theorem known_any (W : World) : Calls Try.prog 46 #[] W fun e w' => e = .returned (.bool true) ∧ Below W.heap.size W w' := by
  go_enter Try.func46, Try.ntmps46
  go_wp2_with fail
  refine (new_any _).mono ?_
  rintro en w0 ⟨bl, bm, rfl, hL, h1, h2, hB⟩
  have H := Lib.hid (show Kn W w0 bl bm [] from ⟨((Lies.new W 24 kA.cs.toArray).alloc (.cells kB.cs.toArray 24)).below hB (by simp only [World.size_alloc]; omega), (by have := Lies.new (W.alloc (.cells kA.cs.toArray 24)) 24 kB.cs.toArray; rw [World.size_alloc] at this; exact this.below hB (by simp only [World.size_alloc]; omega)), hL, by simpa using h2, (((Below.refl _ _).alloc (Nat.le_refl _) _).alloc (by simp only [World.size_alloc]; omega) _).trans (hB.mono (by simp only [World.size_alloc]; omega))⟩)
  clear hL h1 h2 hB
  obtain ⟨a0, a1, a2, a3, a4, a5, a6, a7⟩ := lies_addr H.out.a
  obtain ⟨b0, b1, b2, b3, b4, b5, b6, b7⟩ := lies_addr H.out.b
  go_wp2_with fail
  refine (set_any H.out.l ⟨kA, 5, 0⟩ (by decide) (by decide)).mono ?_
  rintro en w1 ⟨rfl, hL, hG⟩
  rw [k1] at hL
  replace H := Lib.hid (H.out.grow hL hG)
  clear a0 a1 a2 a3 a4 a5 a6 a7 b0 b1 b2 b3 b4 b5 b6 b7 hL hG
  obtain ⟨a0, a1, a2, a3, a4, a5, a6, a7⟩ := lies_addr H.out.a
  obtain ⟨b0, b1, b2, b3, b4, b5, b6, b7⟩ := lies_addr H.out.b
  go_wp2_with fail
  refine (set_any H.out.l ⟨kB, 18446744073709551615, 0⟩ (by decide) (by decide)).mono ?_
  rintro en w2 ⟨rfl, hL, hG⟩
  rw [k2] at hL
  replace H := Lib.hid (H.out.grow hL hG)
  clear a0 a1 a2 a3 a4 a5 a6 a7 b0 b1 b2 b3 b4 b5 b6 b7 hL hG
  obtain ⟨a0, a1, a2, a3, a4, a5, a6, a7⟩ := lies_addr H.out.a
  obtain ⟨b0, b1, b2, b3, b4, b5, b6, b7⟩ := lies_addr H.out.b
  have hc := total_any H.out.l (by decide)
  rw [k3] at hc
  replace hc := Lib.hid hc
  go_wp2_with fail
  refine hc.out.mono ?_
  rintro en w3 ⟨rfl, hB⟩
  replace H := Lib.hid (H.out.later hB)
  clear a0 a1 a2 a3 a4 a5 a6 a7 b0 b1 b2 b3 b4 b5 b6 b7 hB hc
  obtain ⟨a0, a1, a2, a3, a4, a5, a6, a7⟩ := lies_addr H.out.a
  obtain ⟨b0, b1, b2, b3, b4, b5, b6, b7⟩ := lies_addr H.out.b
  have hc := move_any H.out.l kA kB 1 (by decide)
  rw [k4] at hc
  replace hc := Lib.hid hc
  go_wp2_with fail
  refine hc.out.mono ?_
  rintro en w4 ⟨rfl, hL, hG⟩
  replace H := Lib.hid (H.out.grow hL hG)
  clear a0 a1 a2 a3 a4 a5 a6 a7 b0 b1 b2 b3 b4 b5 b6 b7 hL hG hc
  obtain ⟨a0, a1, a2, a3, a4, a5, a6, a7⟩ := lies_addr H.out.a
  obtain ⟨b0, b1, b2, b3, b4, b5, b6, b7⟩ := lies_addr H.out.b
  have hc := move_any H.out.l kA kA 5 (by decide)
  rw [k5] at hc
  replace hc := Lib.hid hc
  go_wp2_with fail
  refine hc.out.mono ?_
  rintro en w5 ⟨rfl, hL, hG⟩
  replace H := Lib.hid (H.out.grow hL hG)
  clear a0 a1 a2 a3 a4 a5 a6 a7 b0 b1 b2 b3 b4 b5 b6 b7 hL hG hc
  obtain ⟨a0, a1, a2, a3, a4, a5, a6, a7⟩ := lies_addr H.out.a
  obtain ⟨b0, b1, b2, b3, b4, b5, b6, b7⟩ := lies_addr H.out.b
  have hc := move_any H.out.l kA kA 6 (by decide)
  rw [k6] at hc
  replace hc := Lib.hid hc
  go_wp2_with fail
  refine hc.out.mono ?_
  rintro en w6 ⟨rfl, hL, hG⟩
  replace H := Lib.hid (H.out.grow hL hG)
  clear a0 a1 a2 a3 a4 a5 a6 a7 b0 b1 b2 b3 b4 b5 b6 b7 hL hG hc
  obtain ⟨a0, a1, a2, a3, a4, a5, a6, a7⟩ := lies_addr H.out.a
  obtain ⟨b0, b1, b2, b3, b4, b5, b6, b7⟩ := lies_addr H.out.b
  have hc := balance_any H.out.l kA
  rw [k7] at hc
  replace hc := Lib.hid hc
  go_wp2_with fail
  refine hc.out.mono ?_
  rintro en w7 ⟨rfl, hB⟩
  replace H := Lib.hid (H.out.later hB)
  clear a0 a1 a2 a3 a4 a5 a6 a7 b0 b1 b2 b3 b4 b5 b6 b7 hB hc
  obtain ⟨a0, a1, a2, a3, a4, a5, a6, a7⟩ := lies_addr H.out.a
  obtain ⟨b0, b1, b2, b3, b4, b5, b6, b7⟩ := lies_addr H.out.b
  have hc := sub_any H.out.l kB 7
  rw [k8] at hc
  replace hc := Lib.hid hc
  go_wp2_with fail
  refine hc.out.mono ?_
  rintro en w8 ⟨rfl, hL, hG⟩
  replace H := Lib.hid (H.out.grow hL hG)
  clear a0 a1 a2 a3 a4 a5 a6 a7 b0 b1 b2 b3 b4 b5 b6 b7 hL hG hc
  obtain ⟨a0, a1, a2, a3, a4, a5, a6, a7⟩ := lies_addr H.out.a
  obtain ⟨b0, b1, b2, b3, b4, b5, b6, b7⟩ := lies_addr H.out.b
  have hc := move_any H.out.l kA kB 5 (by decide)
  rw [k9] at hc
  replace hc := Lib.hid hc
  go_wp2_with fail
  refine hc.out.mono ?_
  rintro en w9 ⟨rfl, hL, hG⟩
  replace H := Lib.hid (H.out.grow hL hG)
  clear a0 a1 a2 a3 a4 a5 a6 a7 b0 b1 b2 b3 b4 b5 b6 b7 hL hG hc
  obtain ⟨a0, a1, a2, a3, a4, a5, a6, a7⟩ := lies_addr H.out.a
  obtain ⟨b0, b1, b2, b3, b4, b5, b6, b7⟩ := lies_addr H.out.b
  go_wp2_with fail
  refine (all_any H.out.l (by decide)).mono ?_
  rintro en wa ⟨v, rfl, hrow, hB⟩
  replace H := Lib.hid (H.out.later hB)
  obtain ⟨g, cap, rfl⟩ := ownsRow_succ (k := 0) hrow
  have HR := Lib.hid hrow
  clear a0 a1 a2 a3 a4 a5 a6 a7 b0 b1 b2 b3 b4 b5 b6 b7 hB hrow
  obtain ⟨a0, a1, a2, a3, a4, a5, a6, a7⟩ := lies_addr H.out.a
  obtain ⟨b0, b1, b2, b3, b4, b5, b6, b7⟩ := lies_addr H.out.b
  have hc := total_any H.out.l (by decide)
  rw [k10] at hc
  replace hc := Lib.hid hc
  go_wp2_with fail
  refine hc.out.mono ?_
  rintro en w10 ⟨rfl, hB⟩
  replace H := Lib.hid (H.out.later hB)
  clear a0 a1 a2 a3 a4 a5 a6 a7 b0 b1 b2 b3 b4 b5 b6 b7 hc
  replace HR := Lib.hid (ownsRow_keep HR.out hB)
  clear hB
  obtain ⟨a0, a1, a2, a3, a4, a5, a6, a7⟩ := lies_addr H.out.a
  obtain ⟨b0, b1, b2, b3, b4, b5, b6, b7⟩ := lies_addr H.out.b
  go_wp2_with fail
  refine (set_nil _ kA 1 1).mono ?_
  rintro en wb ⟨rfl, hB⟩
  replace H := Lib.hid (H.out.later hB)
  replace HR := Lib.hid (ownsRow_keep HR.out hB)
  clear a0 a1 a2 a3 a4 a5 a6 a7 b0 b1 b2 b3 b4 b5 b6 b7 hB
  go_wp2_with fail
  refine (total_nil _).mono ?_
  rintro en wc ⟨rfl, hB⟩
  replace H := Lib.hid (H.out.later hB)
  replace HR := Lib.hid (ownsRow_keep HR.out hB)
  clear hB
  go_wp2_with fail
  refine RP.region (RP.take 0 (RP.take 1 (RP.take 2 (RP.take 3 (RP.take 4 (RP.take 5 (RP.take 6 (RP.take 7 (RP.take 8 (RP.take 9 (RP.take 10 (RP.take 11 (RP.take 12 (RP.take 13 (RP.take 14 (RP.take 15 (RP.take 16 (RP.take 17 (RP.take 18 (RP.take 19 (RP.run 20 (RP.take 21 (RP.take 22 (RP.take 23 (RP.take 24 (RP.take 25 (RP.run 26 (RP.take 27 (RP.take 28 (RP.take 29 (RP.take 30 (RP.take 31 (RP.take 32 (RP.run 33 (RP.take 34 (RP.take 35 (RP.take 36 (RP.take 37 (RP.take 38 (RP.run 39 (RP.take 40 (RP.take 41 (RP.take 42 (RP.take 43 (RP.take 44 (RP.take 46 (RP.take 47 (RP.take 50 (RP.run 45 (RP.run 48 (RP.take 49 (RP.take 51 (RP.take 52 (RP.take 53 (RP.take 54 (RP.take 55 (RP.take 56 (RP.take 57 (RP.take 58 (RP.run 59 (RP.take 60 (RP.take 61 (RP.take 62 (RP.take 63 (RP.take 64 (RP.run 65 (RP.take 66 (RP.take 67 (RP.take 68 RP.done))))))))))))))))))))))))))))))))))))))))))))))))))))))))))))))))))))) (fun w' => Kn W w' bl bm kL4 ∧ w'.ownsRow w9.heap.size 24 8 (.slice (some ⟨g, 0, none⟩) 1 cap) 1 (addrCells [kB])) (by kernel_rfl) (by kernel_rfl) (fun _ _ d _ _ h => by cases d <;> exact h) ⟨H.out.drew, ownsRow_keep HR.out (Below.refl _ _).drew⟩ (fun hS => ?_)
  generalize wc.drew = V at hS ⊢
  repeat (first | (refine RP.t_take (v := ?_) rfl rfl (fun w' hw' => ?_) ?_; rotate_left; (focus ((obtain ⟨hK, hR⟩ := hw'; obtain ⟨a0, a1, a2, a3, a4, a5, a6, a7⟩ := lies_addr hK.a; obtain ⟨b0, b1, b2, b3, b4, b5, b6, b7⟩ := lies_addr hK.b; have hr := row_addrs hR (k := 0) (a := kB) rfl; simp only [Nat.zero_mul, Nat.zero_add] at hr; obtain ⟨r0, r1, r2, r3, r4, r5, r6, r7⟩ := hr); go_simp; (try go_bits); (try (with_reducible rfl)))); (try simp only [Act.put, List.setIfInBounds_toArray, List.set_cons_zero, List.set_cons_succ])) | (refine RP.t_skip rfl rfl ?_; (try simp only [Act.put, List.setIfInBounds_toArray, List.set_cons_zero, List.set_cons_succ])))
  refine RP.t_run rfl (fun K hK => ?_)
  go_simp
  refine (add_nil _ kA 1).mono ?_
  rintro en V' ⟨rfl, hb⟩
  replace hS := And.intro (hS.1.later hb) (ownsRow_keep hS.2 hb)
  refine hK.out _ _ hS ?_
  clear hK K hb
  (try simp only [Act.put, List.setIfInBounds_toArray, List.set_cons_zero, List.set_cons_succ])
  repeat (first | (refine RP.t_take (v := ?_) rfl rfl (fun w' hw' => ?_) ?_; rotate_left; (focus ((obtain ⟨hK, hR⟩ := hw'; obtain ⟨a0, a1, a2, a3, a4, a5, a6, a7⟩ := lies_addr hK.a; obtain ⟨b0, b1, b2, b3, b4, b5, b6, b7⟩ := lies_addr hK.b; have hr := row_addrs hR (k := 0) (a := kB) rfl; simp only [Nat.zero_mul, Nat.zero_add] at hr; obtain ⟨r0, r1, r2, r3, r4, r5, r6, r7⟩ := hr); go_simp; (try go_bits); (try (with_reducible rfl)))); (try simp only [Act.put, List.setIfInBounds_toArray, List.set_cons_zero, List.set_cons_succ])) | (refine RP.t_skip rfl rfl ?_; (try simp only [Act.put, List.setIfInBounds_toArray, List.set_cons_zero, List.set_cons_succ])))
  refine RP.t_run rfl (fun K hK => ?_)
  go_simp
  refine (sub_nil _ kA 0).mono ?_
  rintro en V' ⟨rfl, hb⟩
  replace hS := And.intro (hS.1.later hb) (ownsRow_keep hS.2 hb)
  refine hK.out _ _ hS ?_
  clear hK K hb
  (try simp only [Act.put, List.setIfInBounds_toArray, List.set_cons_zero, List.set_cons_succ])
  repeat (first | (refine RP.t_take (v := ?_) rfl rfl (fun w' hw' => ?_) ?_; rotate_left; (focus ((obtain ⟨hK, hR⟩ := hw'; obtain ⟨a0, a1, a2, a3, a4, a5, a6, a7⟩ := lies_addr hK.a; obtain ⟨b0, b1, b2, b3, b4, b5, b6, b7⟩ := lies_addr hK.b; have hr := row_addrs hR (k := 0) (a := kB) rfl; simp only [Nat.zero_mul, Nat.zero_add] at hr; obtain ⟨r0, r1, r2, r3, r4, r5, r6, r7⟩ := hr); go_simp; (try go_bits); (try (with_reducible rfl)))); (try simp only [Act.put, List.setIfInBounds_toArray, List.set_cons_zero, List.set_cons_succ])) | (refine RP.t_skip rfl rfl ?_; (try simp only [Act.put, List.setIfInBounds_toArray, List.set_cons_zero, List.set_cons_succ])))
  refine RP.t_run rfl (fun K hK => ?_)
  go_simp
  refine (move_nil _ kA kB 0).mono ?_
  rintro en V' ⟨rfl, hb⟩
  replace hS := And.intro (hS.1.later hb) (ownsRow_keep hS.2 hb)
  refine hK.out _ _ hS ?_
  clear hK K hb
  (try simp only [Act.put, List.setIfInBounds_toArray, List.set_cons_zero, List.set_cons_succ])
  repeat (first | (refine RP.t_take (v := ?_) rfl rfl (fun w' hw' => ?_) ?_; rotate_left; (focus ((obtain ⟨hK, hR⟩ := hw'; obtain ⟨a0, a1, a2, a3, a4, a5, a6, a7⟩ := lies_addr hK.a; obtain ⟨b0, b1, b2, b3, b4, b5, b6, b7⟩ := lies_addr hK.b; have hr := row_addrs hR (k := 0) (a := kB) rfl; simp only [Nat.zero_mul, Nat.zero_add] at hr; obtain ⟨r0, r1, r2, r3, r4, r5, r6, r7⟩ := hr); go_simp; (try go_bits); (try (with_reducible rfl)))); (try simp only [Act.put, List.setIfInBounds_toArray, List.set_cons_zero, List.set_cons_succ])) | (refine RP.t_skip rfl rfl ?_; (try simp only [Act.put, List.setIfInBounds_toArray, List.set_cons_zero, List.set_cons_succ])))
  refine RP.t_run rfl (fun K hK => ?_)
  go_simp
  refine (bump_nil _ kA).mono ?_
  rintro en V' ⟨rfl, hb⟩
  replace hS := And.intro (hS.1.later hb) (ownsRow_keep hS.2 hb)
  refine hK.out _ _ hS ?_
  clear hK K hb
  (try simp only [Act.put, List.setIfInBounds_toArray, List.set_cons_zero, List.set_cons_succ])
  repeat (first | (refine RP.t_take (v := ?_) rfl rfl (fun w' hw' => ?_) ?_; rotate_left; (focus ((obtain ⟨hK, hR⟩ := hw'; obtain ⟨a0, a1, a2, a3, a4, a5, a6, a7⟩ := lies_addr hK.a; obtain ⟨b0, b1, b2, b3, b4, b5, b6, b7⟩ := lies_addr hK.b; have hr := row_addrs hR (k := 0) (a := kB) rfl; simp only [Nat.zero_mul, Nat.zero_add] at hr; obtain ⟨r0, r1, r2, r3, r4, r5, r6, r7⟩ := hr); go_simp; (try go_bits); (try (with_reducible rfl)))); (try simp only [Act.put, List.setIfInBounds_toArray, List.set_cons_zero, List.set_cons_succ])) | (refine RP.t_skip rfl rfl ?_; (try simp only [Act.put, List.setIfInBounds_toArray, List.set_cons_zero, List.set_cons_succ])))
  refine RP.t_run rfl (fun K hK => ?_)
  go_simp
  refine (balance_nil _ kA).mono ?_
  rintro en V' ⟨rfl, hb⟩
  replace hS := And.intro (hS.1.later hb) (ownsRow_keep hS.2 hb)
  refine hK.out _ _ hS ?_
  clear hK K hb
  (try simp only [Act.put, List.setIfInBounds_toArray, List.set_cons_zero, List.set_cons_succ])
  repeat (first | (refine RP.t_take (v := ?_) rfl rfl (fun w' hw' => ?_) ?_; rotate_left; (focus ((obtain ⟨hK, hR⟩ := hw'; obtain ⟨a0, a1, a2, a3, a4, a5, a6, a7⟩ := lies_addr hK.a; obtain ⟨b0, b1, b2, b3, b4, b5, b6, b7⟩ := lies_addr hK.b; have hr := row_addrs hR (k := 0) (a := kB) rfl; simp only [Nat.zero_mul, Nat.zero_add] at hr; obtain ⟨r0, r1, r2, r3, r4, r5, r6, r7⟩ := hr); go_simp; (try go_bits); (try (with_reducible rfl)))); (try simp only [Act.put, List.setIfInBounds_toArray, List.set_cons_zero, List.set_cons_succ])) | (refine RP.t_skip rfl rfl ?_; (try simp only [Act.put, List.setIfInBounds_toArray, List.set_cons_zero, List.set_cons_succ])))
  refine RP.t_run rfl (fun K hK => ?_)
  go_simp
  refine (nonce_nil _ kA).mono ?_
  rintro en V' ⟨rfl, hb⟩
  replace hS := And.intro (hS.1.later hb) (ownsRow_keep hS.2 hb)
  refine hK.out _ _ hS ?_
  clear hK K hb
  (try simp only [Act.put, List.setIfInBounds_toArray, List.set_cons_zero, List.set_cons_succ])
  repeat (first | (refine RP.t_take (v := ?_) rfl rfl (fun w' hw' => ?_) ?_; rotate_left; (focus ((obtain ⟨hK, hR⟩ := hw'; obtain ⟨a0, a1, a2, a3, a4, a5, a6, a7⟩ := lies_addr hK.a; obtain ⟨b0, b1, b2, b3, b4, b5, b6, b7⟩ := lies_addr hK.b; have hr := row_addrs hR (k := 0) (a := kB) rfl; simp only [Nat.zero_mul, Nat.zero_add] at hr; obtain ⟨r0, r1, r2, r3, r4, r5, r6, r7⟩ := hr); go_simp; (try go_bits); (try (with_reducible rfl)))); (try simp only [Act.put, List.setIfInBounds_toArray, List.set_cons_zero, List.set_cons_succ])) | (refine RP.t_skip rfl rfl ?_; (try simp only [Act.put, List.setIfInBounds_toArray, List.set_cons_zero, List.set_cons_succ])))
  refine RP.t_run rfl (fun K hK => ?_)
  go_simp
  refine (all_nil _).mono ?_
  rintro en V' ⟨rfl, hb⟩
  replace hS := And.intro (hS.1.later hb) (ownsRow_keep hS.2 hb)
  refine hK.out _ _ hS ?_
  clear hK K hb
  (try simp only [Act.put, List.setIfInBounds_toArray, List.set_cons_zero, List.set_cons_succ])
  repeat (first | (refine RP.t_take (v := ?_) rfl rfl (fun w' hw' => ?_) ?_; rotate_left; (focus ((obtain ⟨hK, hR⟩ := hw'; obtain ⟨a0, a1, a2, a3, a4, a5, a6, a7⟩ := lies_addr hK.a; obtain ⟨b0, b1, b2, b3, b4, b5, b6, b7⟩ := lies_addr hK.b; have hr := row_addrs hR (k := 0) (a := kB) rfl; simp only [Nat.zero_mul, Nat.zero_add] at hr; obtain ⟨r0, r1, r2, r3, r4, r5, r6, r7⟩ := hr); go_simp; (try go_bits); (try (with_reducible rfl)))); (try simp only [Act.put, List.setIfInBounds_toArray, List.set_cons_zero, List.set_cons_succ])) | (refine RP.t_skip rfl rfl ?_; (try simp only [Act.put, List.setIfInBounds_toArray, List.set_cons_zero, List.set_cons_succ])))
  refine RP.t_run rfl (fun K hK => ?_)
  go_simp
  refine (copy_nil _).mono ?_
  rintro en V' ⟨rfl, hb⟩
  replace hS := And.intro (hS.1.later hb) (ownsRow_keep hS.2 hb)
  refine hK.out _ _ hS ?_
  clear hK K hb
  (try simp only [Act.put, List.setIfInBounds_toArray, List.set_cons_zero, List.set_cons_succ])
  repeat (first | (refine RP.t_take (v := ?_) rfl rfl (fun w' hw' => ?_) ?_; rotate_left; (focus ((obtain ⟨hK, hR⟩ := hw'; obtain ⟨a0, a1, a2, a3, a4, a5, a6, a7⟩ := lies_addr hK.a; obtain ⟨b0, b1, b2, b3, b4, b5, b6, b7⟩ := lies_addr hK.b; have hr := row_addrs hR (k := 0) (a := kB) rfl; simp only [Nat.zero_mul, Nat.zero_add] at hr; obtain ⟨r0, r1, r2, r3, r4, r5, r6, r7⟩ := hr); go_simp; (try go_bits); (try (with_reducible rfl)))); (try simp only [Act.put, List.setIfInBounds_toArray, List.set_cons_zero, List.set_cons_succ])) | (refine RP.t_skip rfl rfl ?_; (try simp only [Act.put, List.setIfInBounds_toArray, List.set_cons_zero, List.set_cons_succ])))
  refine RP.t_done ?_
  go_wp2_with fail
  go_ret
  exact ⟨rfl, hS.1.below⟩
end Go.Proofs.Yteeghdkejnhjnaa.Ac
