/- The walk of the statement AddrKnown. -/
import Derived.Test.YtldeialjonanmaaDoorAdV
namespace Go.Proofs.YtldeialjonanmaaDoor.Ad
open Go Go.RowKit Kt

@[reducible] def s1 : ByteArray := ⟨#[48, 48, 48, 48, 48, 48, 48, 48, 48, 48, 48, 48, 48, 49, 102]⟩
@[reducible] def s2 : ByteArray := ⟨#[48, 48, 48, 48, 48, 48, 48, 48, 48, 48, 48, 48, 48, 49, 102, 102, 48]⟩
@[reducible] def s3 : ByteArray := ⟨#[48, 48, 48, 48, 48, 48, 48, 48, 48, 48, 48, 48, 48, 49, 102, 70]⟩
@[reducible] def lit (b0 b7 : Int) : Value := .agg #[.int .u8 b0, .int .u8 0, .int .u8 0, .int .u8 0, .int .u8 0, .int .u8 0, .int .u8 0, .int .u8 b7]

theorem p1 (w : World) : Calls Tryd.prog 11 #[.string s1] w fun e w' => e = .returned (.tuple #[zeroV, .int .i64 2]) ∧ Below w.heap.size w w' := parse_len s1 w (by decide)
theorem p2 (w : World) : Calls Tryd.prog 11 #[.string s2] w fun e w' => e = .returned (.tuple #[zeroV, .int .i64 2]) ∧ Below w.heap.size w w' := parse_len s2 w (by decide)
theorem p3 (w : World) : Calls Tryd.prog 11 #[.string s3] w fun e w' => e = .returned (.tuple #[zeroV, .int .i64 2]) ∧ Below w.heap.size w w' := parse_sign s3 w rfl (by decide)
theorem p4 (w : World) : Calls Tryd.prog 11 #[.string ⟨#[]⟩] w fun e w' => e = .returned (.tuple #[zeroV, .int .i64 2]) ∧ Below w.heap.size w w' := parse_len ⟨#[]⟩ w (by decide)
theorem o1 (w : World) : Calls Tryd.prog 12 #[lit 0 1, lit 0 2] w fun e w' => e = .returned (.int .i64 (-1)) ∧ Below w.heap.size w w' := by
  have h := order_any ⟨0, 0, 0, 0, 0, 0, 0, 1⟩ ⟨0, 0, 0, 0, 0, 0, 0, 2⟩ w
  rw [show ordN (A8.num ⟨0, 0, 0, 0, 0, 0, 0, 1⟩) (A8.num ⟨0, 0, 0, 0, 0, 0, 0, 2⟩) = (-1) from by simp [ordN, A8.num], show A8.v ⟨0, 0, 0, 0, 0, 0, 0, 1⟩ = lit 0 1 from rfl, show A8.v ⟨0, 0, 0, 0, 0, 0, 0, 2⟩ = lit 0 2 from rfl] at h
  exact h
theorem o2 (w : World) : Calls Tryd.prog 12 #[lit 1 0, lit 0 2] w fun e w' => e = .returned (.int .i64 1) ∧ Below w.heap.size w w' := by
  have h := order_any ⟨1, 0, 0, 0, 0, 0, 0, 0⟩ ⟨0, 0, 0, 0, 0, 0, 0, 2⟩ w
  rw [show ordN (A8.num ⟨1, 0, 0, 0, 0, 0, 0, 0⟩) (A8.num ⟨0, 0, 0, 0, 0, 0, 0, 2⟩) = 1 from by simp [ordN, A8.num], show A8.v ⟨1, 0, 0, 0, 0, 0, 0, 0⟩ = lit 1 0 from rfl, show A8.v ⟨0, 0, 0, 0, 0, 0, 0, 2⟩ = lit 0 2 from rfl] at h
  exact h
theorem o3 (w : World) : Calls Tryd.prog 12 #[zeroV, zeroV] w fun e w' => e = .returned (.int .i64 0) ∧ Below w.heap.size w w' := by
  have h := order_same zero8 w
  rw [zero8_v] at h
  exact h
theorem zero_eq (w : World) : (Op.equalIn 10000 23 zeroV zeroV).run Tryd.prog w = .ok true w := by
  have h := equalIn_addr w 9998 zero8 zero8
  rw [zero8_v] at h
  simpa using h

set_option maxHeartbeats 4000000 in
theorem law_known (w : World) : Calls Tryd.prog 5 #[] w fun e w' => e = .returned (.bool true) ∧ Below w.heap.size w w' := by
  have hq := zero_eq
  go_enter Tryd.func5, Tryd.ntmps5
  go_wp2_with fail
  have k0 : (w.alloc (.cells #[.string s1, .string s2, .string s3, .string ⟨#[]⟩] 9)).cell? ⟨w.heap.size, 0, none⟩ = some (.string s1) := by simp [go_sem]
  have k1 : (w.alloc (.cells #[.string s1, .string s2, .string s3, .string ⟨#[]⟩] 9)).cell? ⟨w.heap.size, 1, none⟩ = some (.string s2) := by simp [go_sem]
  have k2 : (w.alloc (.cells #[.string s1, .string s2, .string s3, .string ⟨#[]⟩] 9)).cell? ⟨w.heap.size, 2, none⟩ = some (.string s3) := by simp [go_sem]
  have k3 : (w.alloc (.cells #[.string s1, .string s2, .string s3, .string ⟨#[]⟩] 9)).cell? ⟨w.heap.size, 3, none⟩ = some (.string ⟨#[]⟩) := by simp [go_sem]
  have hl : w.heap.size < (w.alloc (.cells #[.string s1, .string s2, .string s3, .string ⟨#[]⟩] 9)).heap.size := by simp
  have hB : Below w.heap.size w (w.alloc (.cells #[.string s1, .string s2, .string s3, .string ⟨#[]⟩] 9)) := (Below.refl _ _).alloc (Nat.le_refl _) _
  generalize (w.alloc (.cells #[.string s1, .string s2, .string s3, .string ⟨#[]⟩] 9)) = W0 at *
  refine wp_loop_rounds 5 ?_
  rw [rounds_succ]
  go_wp2_with fail
  refine (p1 _).mono ?_
  rintro en w1 ⟨rfl, hB1⟩
  replace k0 := keep_cell hB1 _ hl (Nat.le_refl _) k0
  replace k1 := keep_cell hB1 _ hl (Nat.le_refl _) k1
  replace k2 := keep_cell hB1 _ hl (Nat.le_refl _) k2
  replace k3 := keep_cell hB1 _ hl (Nat.le_refl _) k3
  replace hB := next_below hB hB1 (Nat.le_of_lt hl)
  replace hl := Nat.lt_of_lt_of_le hl hB1.size
  clear hB1
  go_wp2_with fail
  rw [rounds_succ]
  go_wp2_with fail
  refine (p2 _).mono ?_
  rintro en w2 ⟨rfl, hB2⟩
  replace k0 := (World.cell?_alloc_lt w1 (.cells #[.int .u8 0, .int .u8 0, .int .u8 0, .int .u8 0, .int .u8 0, .int .u8 0, .int .u8 0, .int .u8 0] 23) ⟨w.heap.size, 0, none⟩ hl).trans k0
  replace k1 := (World.cell?_alloc_lt w1 (.cells #[.int .u8 0, .int .u8 0, .int .u8 0, .int .u8 0, .int .u8 0, .int .u8 0, .int .u8 0, .int .u8 0] 23) ⟨w.heap.size, 1, none⟩ hl).trans k1
  replace k2 := (World.cell?_alloc_lt w1 (.cells #[.int .u8 0, .int .u8 0, .int .u8 0, .int .u8 0, .int .u8 0, .int .u8 0, .int .u8 0, .int .u8 0] 23) ⟨w.heap.size, 2, none⟩ hl).trans k2
  replace k3 := (World.cell?_alloc_lt w1 (.cells #[.int .u8 0, .int .u8 0, .int .u8 0, .int .u8 0, .int .u8 0, .int .u8 0, .int .u8 0, .int .u8 0] 23) ⟨w.heap.size, 3, none⟩ hl).trans k3
  replace hB := hB.alloc (Nat.le_of_lt hl) (.cells #[.int .u8 0, .int .u8 0, .int .u8 0, .int .u8 0, .int .u8 0, .int .u8 0, .int .u8 0, .int .u8 0] 23)
  replace hl : w.heap.size < (w1.alloc (.cells #[.int .u8 0, .int .u8 0, .int .u8 0, .int .u8 0, .int .u8 0, .int .u8 0, .int .u8 0, .int .u8 0] 23)).heap.size := by rw [size_box]; omega
  replace k0 := keep_cell hB2 _ hl (Nat.le_refl _) k0
  replace k1 := keep_cell hB2 _ hl (Nat.le_refl _) k1
  replace k2 := keep_cell hB2 _ hl (Nat.le_refl _) k2
  replace k3 := keep_cell hB2 _ hl (Nat.le_refl _) k3
  replace hB := next_below hB hB2 (Nat.le_of_lt hl)
  replace hl := Nat.lt_of_lt_of_le hl hB2.size
  clear hB2
  go_wp2_with fail
  rw [rounds_succ]
  go_wp2_with fail
  refine (p3 _).mono ?_
  rintro en w3 ⟨rfl, hB3⟩
  replace k0 := (World.cell?_alloc_lt w2 (.cells #[.int .u8 0, .int .u8 0, .int .u8 0, .int .u8 0, .int .u8 0, .int .u8 0, .int .u8 0, .int .u8 0] 23) ⟨w.heap.size, 0, none⟩ hl).trans k0
  replace k1 := (World.cell?_alloc_lt w2 (.cells #[.int .u8 0, .int .u8 0, .int .u8 0, .int .u8 0, .int .u8 0, .int .u8 0, .int .u8 0, .int .u8 0] 23) ⟨w.heap.size, 1, none⟩ hl).trans k1
  replace k2 := (World.cell?_alloc_lt w2 (.cells #[.int .u8 0, .int .u8 0, .int .u8 0, .int .u8 0, .int .u8 0, .int .u8 0, .int .u8 0, .int .u8 0] 23) ⟨w.heap.size, 2, none⟩ hl).trans k2
  replace k3 := (World.cell?_alloc_lt w2 (.cells #[.int .u8 0, .int .u8 0, .int .u8 0, .int .u8 0, .int .u8 0, .int .u8 0, .int .u8 0, .int .u8 0] 23) ⟨w.heap.size, 3, none⟩ hl).trans k3
  replace hB := hB.alloc (Nat.le_of_lt hl) (.cells #[.int .u8 0, .int .u8 0, .int .u8 0, .int .u8 0, .int .u8 0, .int .u8 0, .int .u8 0, .int .u8 0] 23)
  replace hl : w.heap.size < (w2.alloc (.cells #[.int .u8 0, .int .u8 0, .int .u8 0, .int .u8 0, .int .u8 0, .int .u8 0, .int .u8 0, .int .u8 0] 23)).heap.size := by rw [size_box]; omega
  replace k0 := keep_cell hB3 _ hl (Nat.le_refl _) k0
  replace k1 := keep_cell hB3 _ hl (Nat.le_refl _) k1
  replace k2 := keep_cell hB3 _ hl (Nat.le_refl _) k2
  replace k3 := keep_cell hB3 _ hl (Nat.le_refl _) k3
  replace hB := next_below hB hB3 (Nat.le_of_lt hl)
  replace hl := Nat.lt_of_lt_of_le hl hB3.size
  clear hB3
  go_wp2_with fail
  rw [rounds_succ]
  go_wp2_with fail
  refine (p4 _).mono ?_
  rintro en w4 ⟨rfl, hB4⟩
  replace k0 := (World.cell?_alloc_lt w3 (.cells #[.int .u8 0, .int .u8 0, .int .u8 0, .int .u8 0, .int .u8 0, .int .u8 0, .int .u8 0, .int .u8 0] 23) ⟨w.heap.size, 0, none⟩ hl).trans k0
  replace k1 := (World.cell?_alloc_lt w3 (.cells #[.int .u8 0, .int .u8 0, .int .u8 0, .int .u8 0, .int .u8 0, .int .u8 0, .int .u8 0, .int .u8 0] 23) ⟨w.heap.size, 1, none⟩ hl).trans k1
  replace k2 := (World.cell?_alloc_lt w3 (.cells #[.int .u8 0, .int .u8 0, .int .u8 0, .int .u8 0, .int .u8 0, .int .u8 0, .int .u8 0, .int .u8 0] 23) ⟨w.heap.size, 2, none⟩ hl).trans k2
  replace k3 := (World.cell?_alloc_lt w3 (.cells #[.int .u8 0, .int .u8 0, .int .u8 0, .int .u8 0, .int .u8 0, .int .u8 0, .int .u8 0, .int .u8 0] 23) ⟨w.heap.size, 3, none⟩ hl).trans k3
  replace hB := hB.alloc (Nat.le_of_lt hl) (.cells #[.int .u8 0, .int .u8 0, .int .u8 0, .int .u8 0, .int .u8 0, .int .u8 0, .int .u8 0, .int .u8 0] 23)
  replace hl : w.heap.size < (w3.alloc (.cells #[.int .u8 0, .int .u8 0, .int .u8 0, .int .u8 0, .int .u8 0, .int .u8 0, .int .u8 0, .int .u8 0] 23)).heap.size := by rw [size_box]; omega
  replace k0 := keep_cell hB4 _ hl (Nat.le_refl _) k0
  replace k1 := keep_cell hB4 _ hl (Nat.le_refl _) k1
  replace k2 := keep_cell hB4 _ hl (Nat.le_refl _) k2
  replace k3 := keep_cell hB4 _ hl (Nat.le_refl _) k3
  replace hB := next_below hB hB4 (Nat.le_of_lt hl)
  replace hl := Nat.lt_of_lt_of_le hl hB4.size
  clear hB4
  go_wp2_with fail
  rw [rounds_succ]
  go_wp2_with fail
  refine (works_any _).mono ?_
  rintro en w5 ⟨rfl, hB5⟩
  replace hB := hB.alloc (Nat.le_of_lt hl) (.cells #[.int .u8 0, .int .u8 0, .int .u8 0, .int .u8 0, .int .u8 0, .int .u8 0, .int .u8 0, .int .u8 0] 23)
  replace hl : w.heap.size < (w4.alloc (.cells #[.int .u8 0, .int .u8 0, .int .u8 0, .int .u8 0, .int .u8 0, .int .u8 0, .int .u8 0, .int .u8 0] 23)).heap.size := by rw [size_box]; omega
  replace hB := next_below hB hB5 (Nat.le_of_lt hl)
  replace hl := Nat.lt_of_lt_of_le hl hB5.size
  clear hB5
  go_wp2_with fail
  refine (o1 _).mono ?_
  rintro en w6 ⟨rfl, hB6⟩
  replace hB := next_below hB hB6 (Nat.le_of_lt hl)
  replace hl := Nat.lt_of_lt_of_le hl hB6.size
  clear hB6
  go_wp2_with fail
  refine (o2 _).mono ?_
  rintro en w7 ⟨rfl, hB7⟩
  replace hB := next_below hB hB7 (Nat.le_of_lt hl)
  replace hl := Nat.lt_of_lt_of_le hl hB7.size
  clear hB7
  go_wp2_with fail
  refine (o3 _).mono ?_
  rintro en w8 ⟨rfl, hB8⟩
  replace hB := next_below hB hB8 (Nat.le_of_lt hl)
  replace hl := Nat.lt_of_lt_of_le hl hB8.size
  clear hB8
  go_wp2_with fail
  go_ret
  exact ⟨rfl, hB⟩
end Go.Proofs.YtldeialjonanmaaDoor.Ad
