/- The walk of addr.Derive; the array that is filled from the front. -/
import Derived.Test.YtldeialjonanmaaDoorAdW
namespace Go.Proofs.YtldeialjonanmaaDoor.Ad
open Go Go.RowKit Kt

/-- The cells of an array of eight bytes that is filled up to k. -/
def cellsA (a : A8) (k : Nat) : Array Value := ((a.l.take k ++ List.replicate (8 - k) 0).map fun b : UInt8 => Value.int .u8 (b.toNat : Int)).toArray
theorem cellsA_at (a : A8) (k : Nat) (hk : k < 8) : (cellsA a k)[k]? = some (.int .u8 0) := by
  have hk8 : k = 0 ∨ k = 1 ∨ k = 2 ∨ k = 3 ∨ k = 4 ∨ k = 5 ∨ k = 6 ∨ k = 7 := by omega
  rcases hk8 with rfl | rfl | rfl | rfl | rfl | rfl | rfl | rfl <;> rfl
theorem cellsA_put (a : A8) (k : Nat) (hk : k < 8) (x : Int) (hx : x = ((a.l[k]?.getD 0).toNat : Int)) :
    (cellsA a k).setIfInBounds k (.int .u8 x) = cellsA a (k + 1) := by
  subst hx
  have hk8 : k = 0 ∨ k = 1 ∨ k = 2 ∨ k = 3 ∨ k = 4 ∨ k = 5 ∨ k = 6 ∨ k = 7 := by omega
  rcases hk8 with rfl | rfl | rfl | rfl | rfl | rfl | rfl | rfl <;> rfl
theorem round_end0 {w : World} {g t i : Nat} {cs cs' : Array Value} {u : Value} (hb : w.heap[g]? = some (.cells cs t (0, 0))) (h : cs.setIfInBounds i u = cs') :
    (w.setCell ⟨g, i, none⟩ u).heap[g]? = some (.cells cs' t (0, 0)) := by
  subst h
  simp [World.setCell, Array.getElem?_modify, hb]
theorem of_at (n k : Nat) (hk : k < 8) : (((A8.of n).l[k]?.getD 0).toNat : Int) = ((n / 256 ^ (7 - k) % 256 : Nat) : Int) := by
  have hk8 : k = 0 ∨ k = 1 ∨ k = 2 ∨ k = 3 ∨ k = 4 ∨ k = 5 ∨ k = 6 ∨ k = 7 := by omega
  rcases hk8 with rfl | rfl | rfl | rfl | rfl | rfl | rfl | rfl <;> (congr 1; simp only [A8.of, A8.l]; simp [Nat.div_one])

theorem wrap_sum (a b : Nat) : IntKind.u64.wrap ((a : Int) + (b : Int)) = (((a + b) % 18446744073709551616 : Nat) : Int) := by rw [IntKind.wrap_u64]; omega
theorem shr_byte (x j : Nat) : IntKind.u8.wrap ((x : Int) / (j : Int)) = ((x / j % 256 : Nat) : Int) := by rw [IntKind.wrap_u8]; omega

set_option maxHeartbeats 4000000 in
theorem derive_any (a : A8) (n : Nat) (w : World) (_hn : n < 18446744073709551616) :
    Calls Tryd.prog 8 #[a.v, .int .u64 n] w fun e w' => e = .returned (derive a n).v ∧ Below w.heap.size w w' := by
  have HN := fun w => number_any a w
  have hs1 := stir_lt ((n + 11400714819323198485) % 18446744073709551616)
  have hs2 := stir_lt ((a.num + stir ((n + 11400714819323198485) % 18446744073709551616)) % 18446744073709551616)
  obtain ⟨d, hd⟩ : ∃ d, d = derive a n := ⟨_, rfl⟩
  rw [← hd]
  have hd2 : d = A8.of (stir ((a.num + stir ((n + 11400714819323198485) % 18446744073709551616)) % 18446744073709551616)) := hd
  have HD := Lib.hid hd2
  clear hd hd2
  have hnum := a.num_lt
  go_enter Tryd.func8, Tryd.ntmps8
  go_wp2_with fail
  refine (HN _).mono ?_
  rintro e w1 ⟨rfl, hB1⟩
  clear HN
  have hc := below_cell hB1
  simp only [World.size_alloc] at hc
  go_wp2_with fail
  rw [show IntKind.u64.wrap ((n : Int) + 11400714819323198485) = _ from wrap_sum n 11400714819323198485]
  refine (stir_any _ _ (by omega)).mono ?_
  rintro e w2 ⟨rfl, rfl⟩
  generalize stir ((n + 11400714819323198485) % 18446744073709551616) = s1 at *
  go_wp2_with fail
  rw [show IntKind.u64.wrap ((a.num : Int) + (s1 : Int)) = _ from wrap_sum a.num s1]
  refine (stir_any _ _ (by omega)).mono ?_
  rintro e w2 ⟨rfl, rfl⟩
  generalize stir ((a.num + s1) % 18446744073709551616) = x at *
  go_wp2_with fail
  go_loopw [15] (fun i wr => ∃ k : Nat, k ≤ 8 ∧ i = .int .i64 k ∧ wr.heap[w1.heap.size]? = some (.cells (cellsA d k) 23 (0, 0)) ∧ Below w1.heap.size w1 wr)
    (fun i _ => 8 - (intOf i).toNat)
  case atStart => exact ⟨0, Nat.zero_le _, rfl, heap_alloc_new _ _, (Below.refl _ _).alloc (Nat.le_refl _) _⟩
  case round =>
    obtain ⟨k, hk, rfl, hb, hB⟩ := hrel
    have hk9 : k = 0 ∨ k = 1 ∨ k = 2 ∨ k = 3 ∨ k = 4 ∨ k = 5 ∨ k = 6 ∨ k = 7 ∨ k = 8 := by omega
    have cc : k < 8 → wr.cell? ⟨w1.heap.size, k, none⟩ = some (.int .u8 0) := fun hk => (Lib.cell_of_heap (w := wr) hb k).trans (cellsA_at d k hk)
    have ff := Lib.frozen_of_heap (w := wr) hb k
    have HP := Lib.hid (fun (hk : k < 8) => cellsA_put d k hk)
    have HX := Lib.hid (fun (hk : k < 8) => of_at x k hk)
    rcases hk9 with rfl | rfl | rfl | rfl | rfl | rfl | rfl | rfl | rfl
    rotate_right
    · have hlt : w.heap.size + 1 < w1.heap.size := by have := hB1.size; simp at this; omega
      have c0 : wr.cell? ⟨w1.heap.size, 0, none⟩ = some (.int .u8 d.x0.toNat) := Lib.cell_of_heap (w := wr) hb 0
      have c1 : wr.cell? ⟨w1.heap.size, 1, none⟩ = some (.int .u8 d.x1.toNat) := Lib.cell_of_heap (w := wr) hb 1
      have c2 : wr.cell? ⟨w1.heap.size, 2, none⟩ = some (.int .u8 d.x2.toNat) := Lib.cell_of_heap (w := wr) hb 2
      have c3 : wr.cell? ⟨w1.heap.size, 3, none⟩ = some (.int .u8 d.x3.toNat) := Lib.cell_of_heap (w := wr) hb 3
      have c4 : wr.cell? ⟨w1.heap.size, 4, none⟩ = some (.int .u8 d.x4.toNat) := Lib.cell_of_heap (w := wr) hb 4
      have c5 : wr.cell? ⟨w1.heap.size, 5, none⟩ = some (.int .u8 d.x5.toNat) := Lib.cell_of_heap (w := wr) hb 5
      have c6 : wr.cell? ⟨w1.heap.size, 6, none⟩ = some (.int .u8 d.x6.toNat) := Lib.cell_of_heap (w := wr) hb 6
      have c7 : wr.cell? ⟨w1.heap.size, 7, none⟩ = some (.int .u8 d.x7.toNat) := Lib.cell_of_heap (w := wr) hb 7
      have d0 : wr.cell? ⟨w.heap.size + 1, 0, none⟩ = some (.int .u8 0) := (hB.cell (p := ⟨w.heap.size + 1, 0, none⟩) hlt).trans ((hc.1 _ _ (by omega)).trans (by simp [go_sem]))
      have d1 : wr.cell? ⟨w.heap.size + 1, 1, none⟩ = some (.int .u8 0) := (hB.cell (p := ⟨w.heap.size + 1, 1, none⟩) hlt).trans ((hc.1 _ _ (by omega)).trans (by simp [go_sem]))
      have d2 : wr.cell? ⟨w.heap.size + 1, 2, none⟩ = some (.int .u8 0) := (hB.cell (p := ⟨w.heap.size + 1, 2, none⟩) hlt).trans ((hc.1 _ _ (by omega)).trans (by simp [go_sem]))
      have d3 : wr.cell? ⟨w.heap.size + 1, 3, none⟩ = some (.int .u8 0) := (hB.cell (p := ⟨w.heap.size + 1, 3, none⟩) hlt).trans ((hc.1 _ _ (by omega)).trans (by simp [go_sem]))
      have d4 : wr.cell? ⟨w.heap.size + 1, 4, none⟩ = some (.int .u8 0) := (hB.cell (p := ⟨w.heap.size + 1, 4, none⟩) hlt).trans ((hc.1 _ _ (by omega)).trans (by simp [go_sem]))
      have d5 : wr.cell? ⟨w.heap.size + 1, 5, none⟩ = some (.int .u8 0) := (hB.cell (p := ⟨w.heap.size + 1, 5, none⟩) hlt).trans ((hc.1 _ _ (by omega)).trans (by simp [go_sem]))
      have d6 : wr.cell? ⟨w.heap.size + 1, 6, none⟩ = some (.int .u8 0) := (hB.cell (p := ⟨w.heap.size + 1, 6, none⟩) hlt).trans ((hc.1 _ _ (by omega)).trans (by simp [go_sem]))
      have d7 : wr.cell? ⟨w.heap.size + 1, 7, none⟩ = some (.int .u8 0) := (hB.cell (p := ⟨w.heap.size + 1, 7, none⟩) hlt).trans ((hc.1 _ _ (by omega)).trans (by simp [go_sem]))
      have e0 : wr.frozen? ⟨w.heap.size + 1, 0, none⟩ = false := (hB.frozen (p := ⟨w.heap.size + 1, 0, none⟩) hlt).trans ((hc.2 _ _ (by omega)).trans (by simp [go_sem]))
      have e1 : wr.frozen? ⟨w.heap.size + 1, 1, none⟩ = false := (hB.frozen (p := ⟨w.heap.size + 1, 1, none⟩) hlt).trans ((hc.2 _ _ (by omega)).trans (by simp [go_sem]))
      have e2 : wr.frozen? ⟨w.heap.size + 1, 2, none⟩ = false := (hB.frozen (p := ⟨w.heap.size + 1, 2, none⟩) hlt).trans ((hc.2 _ _ (by omega)).trans (by simp [go_sem]))
      have e3 : wr.frozen? ⟨w.heap.size + 1, 3, none⟩ = false := (hB.frozen (p := ⟨w.heap.size + 1, 3, none⟩) hlt).trans ((hc.2 _ _ (by omega)).trans (by simp [go_sem]))
      have e4 : wr.frozen? ⟨w.heap.size + 1, 4, none⟩ = false := (hB.frozen (p := ⟨w.heap.size + 1, 4, none⟩) hlt).trans ((hc.2 _ _ (by omega)).trans (by simp [go_sem]))
      have e5 : wr.frozen? ⟨w.heap.size + 1, 5, none⟩ = false := (hB.frozen (p := ⟨w.heap.size + 1, 5, none⟩) hlt).trans ((hc.2 _ _ (by omega)).trans (by simp [go_sem]))
      have e6 : wr.frozen? ⟨w.heap.size + 1, 6, none⟩ = false := (hB.frozen (p := ⟨w.heap.size + 1, 6, none⟩) hlt).trans ((hc.2 _ _ (by omega)).trans (by simp [go_sem]))
      have e7 : wr.frozen? ⟨w.heap.size + 1, 7, none⟩ = false := (hB.frozen (p := ⟨w.heap.size + 1, 7, none⟩) hlt).trans ((hc.2 _ _ (by omega)).trans (by simp [go_sem]))
      clear hc cc ff HP HX
      go_wp2_with fail
      refine bodyPost_ret (v := d.v) (by simp [results, Tryd.results8, go_sem, d0, d1, d2, d3, d4, d5, d6, d7, A8.v]) rfl ⟨rfl, ?_⟩
      have hb0 := ((((Below.refl w.heap.size w).alloc (Nat.le_refl _) (.cells #[.int .u8 a.x0.toNat, .int .u8 a.x1.toNat, .int .u8 a.x2.toNat, .int .u8 a.x3.toNat, .int .u8 a.x4.toNat, .int .u8 a.x5.toNat, .int .u8 a.x6.toNat, .int .u8 a.x7.toNat] 23)).alloc (by simp) (.cells #[.int .u8 0, .int .u8 0, .int .u8 0, .int .u8 0, .int .u8 0, .int .u8 0, .int .u8 0, .int .u8 0] 23)).trans (hB1.mono (by simp; omega))).trans (hB.mono (by omega))
      repeat (refine Below.setCell ?_ (by simp) _)
      exact hb0
    all_goals
      go_wp2_with fail
      go_roundw
      case rel =>
        first
          | refine ⟨1, by omega, rfl, ?_, ?_⟩ | refine ⟨2, by omega, rfl, ?_, ?_⟩ | refine ⟨3, by omega, rfl, ?_, ?_⟩ | refine ⟨4, by omega, rfl, ?_, ?_⟩
          | refine ⟨5, by omega, rfl, ?_, ?_⟩ | refine ⟨6, by omega, rfl, ?_, ?_⟩ | refine ⟨7, by omega, rfl, ?_, ?_⟩ | refine ⟨8, by omega, rfl, ?_, ?_⟩
        · exact round_end0 hb (HP.out (by omega) _ (by rw [HD.out, HX.out (by omega)]; simp; try omega))
        · exact hB.setCell (p := ⟨w1.heap.size, _, none⟩) (Nat.le_refl _) _
      case measure => simp [intOf]
end Go.Proofs.YtldeialjonanmaaDoor.Ad
