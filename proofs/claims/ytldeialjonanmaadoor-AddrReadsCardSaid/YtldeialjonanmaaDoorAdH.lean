/- The walk of the document's Derive. -/
import Derived.Test.YtldeialjonanmaaDoorAdQ
namespace Go.Proofs.YtldeialjonanmaaDoor.Ad
open Go Go.RowKit Kt

/-- The cells of an array of eight bytes whose last k are filled. -/
def cellsZ (a : A8) (k : Nat) : Array Value := ((List.replicate (8 - k) 0 ++ a.l.drop (8 - k)).map fun b : UInt8 => Value.int .u8 (b.toNat : Int)).toArray
theorem cellsZ_at (a : A8) (k : Nat) (hk : k < 8) : (cellsZ a k)[7 - k]? = some (.int .u8 0) := by
  have hk8 : k = 0 ∨ k = 1 ∨ k = 2 ∨ k = 3 ∨ k = 4 ∨ k = 5 ∨ k = 6 ∨ k = 7 := by omega
  rcases hk8 with rfl | rfl | rfl | rfl | rfl | rfl | rfl | rfl <;> rfl
theorem cellsZ_put (a : A8) (k : Nat) (hk : k < 8) (x : Int) (hx : x = ((a.l[7 - k]?.getD 0).toNat : Int)) :
    (cellsZ a k).setIfInBounds (7 - k) (.int .u8 x) = cellsZ a (k + 1) := by
  subst hx
  have hk8 : k = 0 ∨ k = 1 ∨ k = 2 ∨ k = 3 ∨ k = 4 ∨ k = 5 ∨ k = 6 ∨ k = 7 := by omega
  rcases hk8 with rfl | rfl | rfl | rfl | rfl | rfl | rfl | rfl <;> rfl
theorem of_atZ (n k : Nat) (hk : k < 8) : (((A8.of n).l[7 - k]?.getD 0).toNat : Int) = ((n / 256 ^ k % 256 : Nat) : Int) := by
  rw [of_at n (7 - k) (by omega), show 7 - (7 - k) = k by omega]

set_option maxHeartbeats 4000000 in
theorem rderive_any (a : A8) (n : Nat) (w : World) (_hn : n < 18446744073709551616) :
    Calls Tryd.prog 9 #[a.v, .int .u64 n] w fun e w' => e = .returned (derive a n).v ∧ Below w.heap.size w w' := by
  have HN := fun w => rnumber_any a w
  have hs1 := stir_lt ((n + 11400714819323198485) % 18446744073709551616)
  have hs2 := stir_lt ((a.num + stir ((n + 11400714819323198485) % 18446744073709551616)) % 18446744073709551616)
  obtain ⟨d, hd⟩ : ∃ d, d = derive a n := ⟨_, rfl⟩
  rw [← hd]
  have hd2 : d = A8.of (stir ((a.num + stir ((n + 11400714819323198485) % 18446744073709551616)) % 18446744073709551616)) := hd
  have HD := Lib.hid hd2
  clear hd hd2
  have hnum := a.num_lt
  go_enter Tryd.func9, Tryd.ntmps9
  go_wp2_with fail
  refine (HN _).mono ?_
  rintro e w1 ⟨rfl, hB1⟩
  clear HN
  have hc := below_cell hB1
  simp only [World.size_alloc] at hc
  go_wp2_with fail
  rw [show IntKind.u64.wrap ((n : Int) + 11400714819323198485) = _ from wrap_sum n 11400714819323198485]
  refine (rstir_any _ _ (by omega)).mono ?_
  rintro e w2 ⟨rfl, rfl⟩
  generalize stir ((n + 11400714819323198485) % 18446744073709551616) = s1 at *
  go_wp2_with fail
  rw [show IntKind.u64.wrap ((a.num : Int) + (s1 : Int)) = _ from wrap_sum a.num s1]
  refine (rstir_any _ _ (by omega)).mono ?_
  rintro e w2 ⟨rfl, rfl⟩
  generalize stir ((a.num + s1) % 18446744073709551616) = x at *
  go_wp2_with fail
  go_loopw [5, 7] (fun v i wr => ∃ k : Nat, k ≤ 8 ∧ i = .int .i64 (7 - (k : Int)) ∧ v = .int .u64 (x / 256 ^ k : Nat) ∧ wr.heap[w1.heap.size]? = some (.cells (cellsZ d k) 23 (0, 0)) ∧ Below w1.heap.size w1 wr)
    (fun _ i _ => (intOf i + 1).toNat)
  case atStart => exact ⟨0, Nat.zero_le _, rfl, by simp, heap_alloc_new _ _, (Below.refl _ _).alloc (Nat.le_refl _) _⟩
  case round =>
    obtain ⟨k, hk, rfl, rfl, hb, hB⟩ := hrel
    have hk9 : k = 0 ∨ k = 1 ∨ k = 2 ∨ k = 3 ∨ k = 4 ∨ k = 5 ∨ k = 6 ∨ k = 7 ∨ k = 8 := by omega
    have cc : k < 8 → wr.cell? ⟨w1.heap.size, 7 - k, none⟩ = some (.int .u8 0) := fun hk => (Lib.cell_of_heap (w := wr) hb _).trans (cellsZ_at d k hk)
    have ff := Lib.frozen_of_heap (w := wr) hb (7 - k)
    have HP := Lib.hid (fun (hk : k < 8) => cellsZ_put d k hk)
    have HX := Lib.hid (fun (hk : k < 8) => of_atZ x k hk)
    have hy1 : x / 256 ^ k < 18446744073709551616 := Nat.lt_of_le_of_lt (Nat.div_le_self _ _) hs2
    have HY2 := Lib.hid (show x / 256 ^ (k + 1) = x / 256 ^ k / 256 by rw [Nat.pow_succ, Nat.div_div_eq_div_mul])
    generalize hy : x / 256 ^ k = y at *
    clear hy
    rcases hk9 with rfl | rfl | rfl | rfl | rfl | rfl | rfl | rfl | rfl
    rotate_right
    · have hlt : w.heap.size + 1 < w1.heap.size := by have := hB1.size; simp at this; omega
      have c0 : wr.cell? ⟨w1.heap.size, 0, none⟩ = some (.int .u8 d.x0.toNat) := Lib.cell_of_heap (w := wr) hb 0
      have c1 : wr.cell? ⟨w1.heap.size, 1, none⟩ = some (.int .u8 d.x1.toNat) := Lib.cell_of_heap (w := wr) hb 1
      have c2 : wr.cell? ⟨w1.heap.size, 2, none⟩ = some (.int .u8 d.x2.toNat) := Lib.cell_of_heap (w := wr) hb 2
      have c3 : wr.cell? ⟨w1.heap.size, 3, none⟩ = some (.int .u8 d.x3.toNat) := Lib.cell_of_heap (w := wr) hb 3
      have c4 : wr.cell? ⟨w1.heap.size, 4, none⟩ = some (.int .u8 d.x4.toNat) := Lib.cell_of_heap (w := wr) hb 4
      have c5 : wr.cell? ⟨w1.heap.size, 5, none⟩ = some (.int .u8 d.x5.toNat) := Lib.cell_of_heap (w := wr) hb 5
      have c6 : wr.cell? ⟨w1.heap.size, 6, none⟩ = some (.int .u8 d.x6.toNat) := Lib.cell_of_heap (w := wr) hb 6
      have c7 : wr.cell? ⟨w1.heap.size, 7, none⟩ = some (.int .u8 d.x7.toNat) := Lib.cell_of_heap (w := wr) hb 7
      have d0 : wr.cell? ⟨w.heap.size + 1, 0, none⟩ = some (.int .u8 0) := (hB.cell (p := ⟨w.heap.size + 1, 0, none⟩) hlt).trans ((hc.1 _ _ (by omega)).trans (by simp [go_sem]))
      have d1 : wr.cell? ⟨w.heap.size + 1, 1, none⟩ = some (.int .u8 0) := (hB.cell (p := ⟨w.heap.size + 1, 1, none⟩) hlt).trans ((hc.1 _ _ (by omega)).trans (by simp [go_sem]))
      have d2 : wr.cell? ⟨w.heap.size + 1, 2, none⟩ = some (.int .u8 0) := (hB.cell (p := ⟨w.heap.size + 1, 2, none⟩) hlt).trans ((hc.1 _ _ (by omega)).trans (by simp [go_sem]))
      have d3 : wr.cell? ⟨w.heap.size + 1, 3, none⟩ = some (.int .u8 0) := (hB.cell (p := ⟨w.heap.size + 1, 3, none⟩) hlt).trans ((hc.1 _ _ (by omega)).trans (by simp [go_sem]))
      have d4 : wr.cell? ⟨w.heap.size + 1, 4, none⟩ = some (.int .u8 0) := (hB.cell (p := ⟨w.heap.size + 1, 4, none⟩) hlt).trans ((hc.1 _ _ (by omega)).trans (by simp [go_sem]))
      have d5 : wr.cell? ⟨w.heap.size + 1, 5, none⟩ = some (.int .u8 0) := (hB.cell (p := ⟨w.heap.size + 1, 5, none⟩) hlt).trans ((hc.1 _ _ (by omega)).trans (by simp [go_sem]))
      have d6 : wr.cell? ⟨w.heap.size + 1, 6, none⟩ = some (.int .u8 0) := (hB.cell (p := ⟨w.heap.size + 1, 6, none⟩) hlt).trans ((hc.1 _ _ (by omega)).trans (by simp [go_sem]))
      have d7 : wr.cell? ⟨w.heap.size + 1, 7, none⟩ = some (.int .u8 0) := (hB.cell (p := ⟨w.heap.size + 1, 7, none⟩) hlt).trans ((hc.1 _ _ (by omega)).trans (by simp [go_sem]))
      have e0 : wr.frozen? ⟨w.heap.size + 1, 0, none⟩ = false := (hB.frozen (p := ⟨w.heap.size + 1, 0, none⟩) hlt).trans ((hc.2 _ _ (by omega)).trans (by simp [go_sem]))
      have e1 : wr.frozen? ⟨w.heap.size + 1, 1, none⟩ = false := (hB.frozen (p := ⟨w.heap.size + 1, 1, none⟩) hlt).trans ((hc.2 _ _ (by omega)).trans (by simp [go_sem]))
      have e2 : wr.frozen? ⟨w.heap.size + 1, 2, none⟩ = false := (hB.frozen (p := ⟨w.heap.size + 1, 2, none⟩) hlt).trans ((hc.2 _ _ (by omega)).trans (by simp [go_sem]))
      have e3 : wr.frozen? ⟨w.heap.size + 1, 3, none⟩ = false := (hB.frozen (p := ⟨w.heap.size + 1, 3, none⟩) hlt).trans ((hc.2 _ _ (by omega)).trans (by simp [go_sem]))
      have e4 : wr.frozen? ⟨w.heap.size + 1, 4, none⟩ = false := (hB.frozen (p := ⟨w.heap.size + 1, 4, none⟩) hlt).trans ((hc.2 _ _ (by omega)).trans (by simp [go_sem]))
      have e5 : wr.frozen? ⟨w.heap.size + 1, 5, none⟩ = false := (hB.frozen (p := ⟨w.heap.size + 1, 5, none⟩) hlt).trans ((hc.2 _ _ (by omega)).trans (by simp [go_sem]))
      have e6 : wr.frozen? ⟨w.heap.size + 1, 6, none⟩ = false := (hB.frozen (p := ⟨w.heap.size + 1, 6, none⟩) hlt).trans ((hc.2 _ _ (by omega)).trans (by simp [go_sem]))
      have e7 : wr.frozen? ⟨w.heap.size + 1, 7, none⟩ = false := (hB.frozen (p := ⟨w.heap.size + 1, 7, none⟩) hlt).trans ((hc.2 _ _ (by omega)).trans (by simp [go_sem]))
      clear hc cc ff HP HX HY2
      go_wp2_with fail
      refine bodyPost_ret (v := d.v) (by simp [results, Tryd.results9, go_sem, d0, d1, d2, d3, d4, d5, d6, d7, A8.v]) rfl ⟨rfl, ?_⟩
      have hb0 := ((((Below.refl w.heap.size w).alloc (Nat.le_refl _) (.cells #[.int .u8 a.x0.toNat, .int .u8 a.x1.toNat, .int .u8 a.x2.toNat, .int .u8 a.x3.toNat, .int .u8 a.x4.toNat, .int .u8 a.x5.toNat, .int .u8 a.x6.toNat, .int .u8 a.x7.toNat] 23)).alloc (by simp) (.cells #[.int .u8 0, .int .u8 0, .int .u8 0, .int .u8 0, .int .u8 0, .int .u8 0, .int .u8 0, .int .u8 0] 23)).trans (hB1.mono (by simp; omega))).trans (hB.mono (by omega))
      repeat (refine Below.setCell ?_ (by simp) _)
      exact hb0
    all_goals
      go_wp2_with fail
      go_roundw
      case rel =>
        first
          | refine ⟨1, by omega, rfl, ?_, ?_, ?_⟩ | refine ⟨2, by omega, rfl, ?_, ?_, ?_⟩ | refine ⟨3, by omega, rfl, ?_, ?_, ?_⟩ | refine ⟨4, by omega, rfl, ?_, ?_, ?_⟩
          | refine ⟨5, by omega, rfl, ?_, ?_, ?_⟩ | refine ⟨6, by omega, rfl, ?_, ?_, ?_⟩ | refine ⟨7, by omega, rfl, ?_, ?_, ?_⟩ | refine ⟨8, by omega, rfl, ?_, ?_, ?_⟩
        · rw [HY2.out]; rfl
        · exact round_end0 hb (HP.out (by omega) _ (by rw [HD.out, HX.out (by omega)]; rfl))
        · exact hB.setCell (p := ⟨w1.heap.size, _, none⟩) (Nat.le_refl _) _
      case measure => simp [intOf]
end Go.Proofs.YtldeialjonanmaaDoor.Ad
