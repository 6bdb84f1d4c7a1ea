/- The walks of cmp.Compare at uint64 and of addr.Order. -/
import Derived.Test.YtldeialjonanmaaDoorAdD
import Derived.Test.YtldeialjonanmaaDoorAdE
import Derived.Deep.RegionHeld3
namespace Go.Proofs.YtldeialjonanmaaDoor.Ad
open Go Go.RowKit Kt

theorem cmp_lt (x y : Nat) (w : World) (h : x < y) :
    Calls Tryd.prog 23 #[.int .u64 x, .int .u64 y] w fun e w' => e = .returned (.int .i64 (-1)) ∧ w = w' := by
  go_enter Tryd.func23, Tryd.ntmps23
  go_wp2
  go_ret
  exact ⟨rfl, rfl⟩
theorem cmp_gt (x y : Nat) (w : World) (h : y < x) :
    Calls Tryd.prog 23 #[.int .u64 x, .int .u64 y] w fun e w' => e = .returned (.int .i64 1) ∧ w = w' := by
  have h2 : ¬ x < y := by omega
  go_enter Tryd.func23, Tryd.ntmps23
  go_wp2
  go_ret
  exact ⟨rfl, rfl⟩

set_option maxHeartbeats 1000000 in
theorem order_same (a : A8) (w : World) :
    Calls Tryd.prog 12 #[a.v, a.v] w fun e w' => e = .returned (.int .i64 0) ∧ Below w.heap.size w w' := by
  go_enter Tryd.func12, Tryd.ntmps12
  go_wp2_with fail
  go_ret
  exact ⟨rfl, ((Below.refl _ _).alloc (Nat.le_refl _) _).alloc (by simp) _⟩

def ordN (x y : Nat) : Int := if x < y then -1 else if y < x then 1 else 0

set_option maxHeartbeats 4000000 in
theorem order_ne (a b : A8) (c : Int) (w : World) (hab : a ≠ b) (hcmp : ∀ w, Calls Tryd.prog 23 #[.int .u64 (a.num : Nat), .int .u64 (b.num : Nat)] w fun e w' => e = .returned (.int .i64 c) ∧ w = w') :
    Calls Tryd.prog 12 #[a.v, b.v] w fun e w' => e = .returned (.int .i64 c) ∧ Below w.heap.size w w' := by
  have hne : decide ((⟨a.x0, a.x1, a.x2, a.x3, a.x4, a.x5, a.x6, a.x7⟩ : A8) = ⟨b.x0, b.x1, b.x2, b.x3, b.x4, b.x5, b.x6, b.x7⟩) = false := by
    rw [decide_eq_false_iff_not]
    exact hab
  have HC := Lib.hid hcmp
  clear hcmp hab
  go_enter Tryd.func12, Tryd.ntmps12
  go_wp2_with fail
  have hS : ((w.alloc (.cells #[.int .u8 a.x0.toNat, .int .u8 a.x1.toNat, .int .u8 a.x2.toNat, .int .u8 a.x3.toNat, .int .u8 a.x4.toNat, .int .u8 a.x5.toNat, .int .u8 a.x6.toNat, .int .u8 a.x7.toNat] 23)).alloc (.cells #[.int .u8 b.x0.toNat, .int .u8 b.x1.toNat, .int .u8 b.x2.toNat, .int .u8 b.x3.toNat, .int .u8 b.x4.toNat, .int .u8 b.x5.toNat, .int .u8 b.x6.toNat, .int .u8 b.x7.toNat] 23)).cell? ⟨w.heap.size, 0, none⟩ = some (.int .u8 a.x0.toNat) ∧ ((w.alloc (.cells #[.int .u8 a.x0.toNat, .int .u8 a.x1.toNat, .int .u8 a.x2.toNat, .int .u8 a.x3.toNat, .int .u8 a.x4.toNat, .int .u8 a.x5.toNat, .int .u8 a.x6.toNat, .int .u8 a.x7.toNat] 23)).alloc (.cells #[.int .u8 b.x0.toNat, .int .u8 b.x1.toNat, .int .u8 b.x2.toNat, .int .u8 b.x3.toNat, .int .u8 b.x4.toNat, .int .u8 b.x5.toNat, .int .u8 b.x6.toNat, .int .u8 b.x7.toNat] 23)).cell? ⟨w.heap.size, 1, none⟩ = some (.int .u8 a.x1.toNat) ∧ ((w.alloc (.cells #[.int .u8 a.x0.toNat, .int .u8 a.x1.toNat, .int .u8 a.x2.toNat, .int .u8 a.x3.toNat, .int .u8 a.x4.toNat, .int .u8 a.x5.toNat, .int .u8 a.x6.toNat, .int .u8 a.x7.toNat] 23)).alloc (.cells #[.int .u8 b.x0.toNat, .int .u8 b.x1.toNat, .int .u8 b.x2.toNat, .int .u8 b.x3.toNat, .int .u8 b.x4.toNat, .int .u8 b.x5.toNat, .int .u8 b.x6.toNat, .int .u8 b.x7.toNat] 23)).cell? ⟨w.heap.size, 2, none⟩ = some (.int .u8 a.x2.toNat) ∧ ((w.alloc (.cells #[.int .u8 a.x0.toNat, .int .u8 a.x1.toNat, .int .u8 a.x2.toNat, .int .u8 a.x3.toNat, .int .u8 a.x4.toNat, .int .u8 a.x5.toNat, .int .u8 a.x6.toNat, .int .u8 a.x7.toNat] 23)).alloc (.cells #[.int .u8 b.x0.toNat, .int .u8 b.x1.toNat, .int .u8 b.x2.toNat, .int .u8 b.x3.toNat, .int .u8 b.x4.toNat, .int .u8 b.x5.toNat, .int .u8 b.x6.toNat, .int .u8 b.x7.toNat] 23)).cell? ⟨w.heap.size, 3, none⟩ = some (.int .u8 a.x3.toNat) ∧ ((w.alloc (.cells #[.int .u8 a.x0.toNat, .int .u8 a.x1.toNat, .int .u8 a.x2.toNat, .int .u8 a.x3.toNat, .int .u8 a.x4.toNat, .int .u8 a.x5.toNat, .int .u8 a.x6.toNat, .int .u8 a.x7.toNat] 23)).alloc (.cells #[.int .u8 b.x0.toNat, .int .u8 b.x1.toNat, .int .u8 b.x2.toNat, .int .u8 b.x3.toNat, .int .u8 b.x4.toNat, .int .u8 b.x5.toNat, .int .u8 b.x6.toNat, .int .u8 b.x7.toNat] 23)).cell? ⟨w.heap.size, 4, none⟩ = some (.int .u8 a.x4.toNat) ∧ ((w.alloc (.cells #[.int .u8 a.x0.toNat, .int .u8 a.x1.toNat, .int .u8 a.x2.toNat, .int .u8 a.x3.toNat, .int .u8 a.x4.toNat, .int .u8 a.x5.toNat, .int .u8 a.x6.toNat, .int .u8 a.x7.toNat] 23)).alloc (.cells #[.int .u8 b.x0.toNat, .int .u8 b.x1.toNat, .int .u8 b.x2.toNat, .int .u8 b.x3.toNat, .int .u8 b.x4.toNat, .int .u8 b.x5.toNat, .int .u8 b.x6.toNat, .int .u8 b.x7.toNat] 23)).cell? ⟨w.heap.size, 5, none⟩ = some (.int .u8 a.x5.toNat) ∧ ((w.alloc (.cells #[.int .u8 a.x0.toNat, .int .u8 a.x1.toNat, .int .u8 a.x2.toNat, .int .u8 a.x3.toNat, .int .u8 a.x4.toNat, .int .u8 a.x5.toNat, .int .u8 a.x6.toNat, .int .u8 a.x7.toNat] 23)).alloc (.cells #[.int .u8 b.x0.toNat, .int .u8 b.x1.toNat, .int .u8 b.x2.toNat, .int .u8 b.x3.toNat, .int .u8 b.x4.toNat, .int .u8 b.x5.toNat, .int .u8 b.x6.toNat, .int .u8 b.x7.toNat] 23)).cell? ⟨w.heap.size, 6, none⟩ = some (.int .u8 a.x6.toNat) ∧ ((w.alloc (.cells #[.int .u8 a.x0.toNat, .int .u8 a.x1.toNat, .int .u8 a.x2.toNat, .int .u8 a.x3.toNat, .int .u8 a.x4.toNat, .int .u8 a.x5.toNat, .int .u8 a.x6.toNat, .int .u8 a.x7.toNat] 23)).alloc (.cells #[.int .u8 b.x0.toNat, .int .u8 b.x1.toNat, .int .u8 b.x2.toNat, .int .u8 b.x3.toNat, .int .u8 b.x4.toNat, .int .u8 b.x5.toNat, .int .u8 b.x6.toNat, .int .u8 b.x7.toNat] 23)).cell? ⟨w.heap.size, 7, none⟩ = some (.int .u8 a.x7.toNat) ∧ ((w.alloc (.cells #[.int .u8 a.x0.toNat, .int .u8 a.x1.toNat, .int .u8 a.x2.toNat, .int .u8 a.x3.toNat, .int .u8 a.x4.toNat, .int .u8 a.x5.toNat, .int .u8 a.x6.toNat, .int .u8 a.x7.toNat] 23)).alloc (.cells #[.int .u8 b.x0.toNat, .int .u8 b.x1.toNat, .int .u8 b.x2.toNat, .int .u8 b.x3.toNat, .int .u8 b.x4.toNat, .int .u8 b.x5.toNat, .int .u8 b.x6.toNat, .int .u8 b.x7.toNat] 23)).cell? ⟨w.heap.size + 1, 0, none⟩ = some (.int .u8 b.x0.toNat) ∧ ((w.alloc (.cells #[.int .u8 a.x0.toNat, .int .u8 a.x1.toNat, .int .u8 a.x2.toNat, .int .u8 a.x3.toNat, .int .u8 a.x4.toNat, .int .u8 a.x5.toNat, .int .u8 a.x6.toNat, .int .u8 a.x7.toNat] 23)).alloc (.cells #[.int .u8 b.x0.toNat, .int .u8 b.x1.toNat, .int .u8 b.x2.toNat, .int .u8 b.x3.toNat, .int .u8 b.x4.toNat, .int .u8 b.x5.toNat, .int .u8 b.x6.toNat, .int .u8 b.x7.toNat] 23)).cell? ⟨w.heap.size + 1, 1, none⟩ = some (.int .u8 b.x1.toNat) ∧ ((w.alloc (.cells #[.int .u8 a.x0.toNat, .int .u8 a.x1.toNat, .int .u8 a.x2.toNat, .int .u8 a.x3.toNat, .int .u8 a.x4.toNat, .int .u8 a.x5.toNat, .int .u8 a.x6.toNat, .int .u8 a.x7.toNat] 23)).alloc (.cells #[.int .u8 b.x0.toNat, .int .u8 b.x1.toNat, .int .u8 b.x2.toNat, .int .u8 b.x3.toNat, .int .u8 b.x4.toNat, .int .u8 b.x5.toNat, .int .u8 b.x6.toNat, .int .u8 b.x7.toNat] 23)).cell? ⟨w.heap.size + 1, 2, none⟩ = some (.int .u8 b.x2.toNat) ∧ ((w.alloc (.cells #[.int .u8 a.x0.toNat, .int .u8 a.x1.toNat, .int .u8 a.x2.toNat, .int .u8 a.x3.toNat, .int .u8 a.x4.toNat, .int .u8 a.x5.toNat, .int .u8 a.x6.toNat, .int .u8 a.x7.toNat] 23)).alloc (.cells #[.int .u8 b.x0.toNat, .int .u8 b.x1.toNat, .int .u8 b.x2.toNat, .int .u8 b.x3.toNat, .int .u8 b.x4.toNat, .int .u8 b.x5.toNat, .int .u8 b.x6.toNat, .int .u8 b.x7.toNat] 23)).cell? ⟨w.heap.size + 1, 3, none⟩ = some (.int .u8 b.x3.toNat) ∧ ((w.alloc (.cells #[.int .u8 a.x0.toNat, .int .u8 a.x1.toNat, .int .u8 a.x2.toNat, .int .u8 a.x3.toNat, .int .u8 a.x4.toNat, .int .u8 a.x5.toNat, .int .u8 a.x6.toNat, .int .u8 a.x7.toNat] 23)).alloc (.cells #[.int .u8 b.x0.toNat, .int .u8 b.x1.toNat, .int .u8 b.x2.toNat, .int .u8 b.x3.toNat, .int .u8 b.x4.toNat, .int .u8 b.x5.toNat, .int .u8 b.x6.toNat, .int .u8 b.x7.toNat] 23)).cell? ⟨w.heap.size + 1, 4, none⟩ = some (.int .u8 b.x4.toNat) ∧ ((w.alloc (.cells #[.int .u8 a.x0.toNat, .int .u8 a.x1.toNat, .int .u8 a.x2.toNat, .int .u8 a.x3.toNat, .int .u8 a.x4.toNat, .int .u8 a.x5.toNat, .int .u8 a.x6.toNat, .int .u8 a.x7.toNat] 23)).alloc (.cells #[.int .u8 b.x0.toNat, .int .u8 b.x1.toNat, .int .u8 b.x2.toNat, .int .u8 b.x3.toNat, .int .u8 b.x4.toNat, .int .u8 b.x5.toNat, .int .u8 b.x6.toNat, .int .u8 b.x7.toNat] 23)).cell? ⟨w.heap.size + 1, 5, none⟩ = some (.int .u8 b.x5.toNat) ∧ ((w.alloc (.cells #[.int .u8 a.x0.toNat, .int .u8 a.x1.toNat, .int .u8 a.x2.toNat, .int .u8 a.x3.toNat, .int .u8 a.x4.toNat, .int .u8 a.x5.toNat, .int .u8 a.x6.toNat, .int .u8 a.x7.toNat] 23)).alloc (.cells #[.int .u8 b.x0.toNat, .int .u8 b.x1.toNat, .int .u8 b.x2.toNat, .int .u8 b.x3.toNat, .int .u8 b.x4.toNat, .int .u8 b.x5.toNat, .int .u8 b.x6.toNat, .int .u8 b.x7.toNat] 23)).cell? ⟨w.heap.size + 1, 6, none⟩ = some (.int .u8 b.x6.toNat) ∧ ((w.alloc (.cells #[.int .u8 a.x0.toNat, .int .u8 a.x1.toNat, .int .u8 a.x2.toNat, .int .u8 a.x3.toNat, .int .u8 a.x4.toNat, .int .u8 a.x5.toNat, .int .u8 a.x6.toNat, .int .u8 a.x7.toNat] 23)).alloc (.cells #[.int .u8 b.x0.toNat, .int .u8 b.x1.toNat, .int .u8 b.x2.toNat, .int .u8 b.x3.toNat, .int .u8 b.x4.toNat, .int .u8 b.x5.toNat, .int .u8 b.x6.toNat, .int .u8 b.x7.toNat] 23)).cell? ⟨w.heap.size + 1, 7, none⟩ = some (.int .u8 b.x7.toNat) := by
    refine ⟨?_, ?_, ?_, ?_, ?_, ?_, ?_, ?_, ?_, ?_, ?_, ?_, ?_, ?_, ?_, ?_⟩ <;> simp [go_sem]
  have hBW : Below w.heap.size w ((w.alloc (.cells #[.int .u8 a.x0.toNat, .int .u8 a.x1.toNat, .int .u8 a.x2.toNat, .int .u8 a.x3.toNat, .int .u8 a.x4.toNat, .int .u8 a.x5.toNat, .int .u8 a.x6.toNat, .int .u8 a.x7.toNat] 23)).alloc (.cells #[.int .u8 b.x0.toNat, .int .u8 b.x1.toNat, .int .u8 b.x2.toNat, .int .u8 b.x3.toNat, .int .u8 b.x4.toNat, .int .u8 b.x5.toNat, .int .u8 b.x6.toNat, .int .u8 b.x7.toNat] 23)) := ((Below.refl _ _).alloc (Nat.le_refl _) _).alloc (by simp) _
  have hsz : w.heap.size + 2 ≤ ((w.alloc (.cells #[.int .u8 a.x0.toNat, .int .u8 a.x1.toNat, .int .u8 a.x2.toNat, .int .u8 a.x3.toNat, .int .u8 a.x4.toNat, .int .u8 a.x5.toNat, .int .u8 a.x6.toNat, .int .u8 a.x7.toNat] 23)).alloc (.cells #[.int .u8 b.x0.toNat, .int .u8 b.x1.toNat, .int .u8 b.x2.toNat, .int .u8 b.x3.toNat, .int .u8 b.x4.toNat, .int .u8 b.x5.toNat, .int .u8 b.x6.toNat, .int .u8 b.x7.toNat] 23)).heap.size := by simp
  generalize (w.alloc (.cells #[.int .u8 a.x0.toNat, .int .u8 a.x1.toNat, .int .u8 a.x2.toNat, .int .u8 a.x3.toNat, .int .u8 a.x4.toNat, .int .u8 a.x5.toNat, .int .u8 a.x6.toNat, .int .u8 a.x7.toNat] 23)).alloc (.cells #[.int .u8 b.x0.toNat, .int .u8 b.x1.toNat, .int .u8 b.x2.toNat, .int .u8 b.x3.toNat, .int .u8 b.x4.toNat, .int .u8 b.x5.toNat, .int .u8 b.x6.toNat, .int .u8 b.x7.toNat] 23) = W at *
  replace hBW := hBW.drew
  replace hsz : w.heap.size + 2 ≤ W.drew.heap.size := hsz
  obtain ⟨ca0, ca1, ca2, ca3, ca4, ca5, ca6, ca7, cb0, cb1, cb2, cb3, cb4, cb5, cb6, cb7⟩ := hS
  go_region_held3 (fun w' => w'.cell? ⟨w.heap.size, 0, none⟩ = some (.int .u8 a.x0.toNat) ∧ w'.cell? ⟨w.heap.size, 1, none⟩ = some (.int .u8 a.x1.toNat) ∧ w'.cell? ⟨w.heap.size, 2, none⟩ = some (.int .u8 a.x2.toNat) ∧ w'.cell? ⟨w.heap.size, 3, none⟩ = some (.int .u8 a.x3.toNat) ∧ w'.cell? ⟨w.heap.size, 4, none⟩ = some (.int .u8 a.x4.toNat) ∧ w'.cell? ⟨w.heap.size, 5, none⟩ = some (.int .u8 a.x5.toNat) ∧ w'.cell? ⟨w.heap.size, 6, none⟩ = some (.int .u8 a.x6.toNat) ∧ w'.cell? ⟨w.heap.size, 7, none⟩ = some (.int .u8 a.x7.toNat) ∧ w'.cell? ⟨w.heap.size + 1, 0, none⟩ = some (.int .u8 b.x0.toNat) ∧ w'.cell? ⟨w.heap.size + 1, 1, none⟩ = some (.int .u8 b.x1.toNat) ∧ w'.cell? ⟨w.heap.size + 1, 2, none⟩ = some (.int .u8 b.x2.toNat) ∧ w'.cell? ⟨w.heap.size + 1, 3, none⟩ = some (.int .u8 b.x3.toNat) ∧ w'.cell? ⟨w.heap.size + 1, 4, none⟩ = some (.int .u8 b.x4.toNat) ∧ w'.cell? ⟨w.heap.size + 1, 5, none⟩ = some (.int .u8 b.x5.toNat) ∧ w'.cell? ⟨w.heap.size + 1, 6, none⟩ = some (.int .u8 b.x6.toNat) ∧ w'.cell? ⟨w.heap.size + 1, 7, none⟩ = some (.int .u8 b.x7.toNat)) (first | go_keep | ((try dsimp only); (repeat' apply And.intro) <;> (refine keep_cell hB1 (w.heap.size + 2) (by omega) (by assumption) ?_; simp [*]))) ((first | (go_at_call 19; refine (number_any ⟨_, _, _, _, _, _, _, _⟩ _).mono ?_; rintro e w1 ⟨rfl, hB1⟩; have hz1 := keep_size hB1 (N := w.heap.size + 2) (by assumption); have hW1 := next_below (N := w.heap.size) (w := w) (by assumption) hB1 (Nat.le_trans (by omega : w.heap.size ≤ w.heap.size + 2) (by assumption))) | (go_at_call 23; refine (HC.out _).mono ?_; rintro e w3 ⟨rfl, rfl⟩)))
  go_wp2_with fail
  go_ret
  exact ⟨rfl, by assumption⟩

theorem order_any (a b : A8) (w : World) :
    Calls Tryd.prog 12 #[a.v, b.v] w fun e w' => e = .returned (.int .i64 (ordN a.num b.num)) ∧ Below w.heap.size w w' := by
  by_cases h : a = b
  · subst h
    simp only [ordN, Nat.lt_irrefl, if_false]
    exact order_same a w
  · have hn : a.num ≠ b.num := fun e => h (A8.ext_num e)
    by_cases hl : a.num < b.num
    · simp only [ordN, if_pos hl]
      exact order_ne a b _ w h (fun w => cmp_lt _ _ w hl)
    · have hg : b.num < a.num := by omega
      simp only [ordN, if_neg hl, if_pos hg]
      exact order_ne a b _ w h (fun w => cmp_gt _ _ w hg)
end Go.Proofs.YtldeialjonanmaaDoor.Ad
