/- The walk of the document's Parse. -/
import Derived.Test.YtldeialjonanmaaDoorAdQ
import Derived.Test.YtldeialjonanmaaDoorAdS
namespace Go.Proofs.YtldeialjonanmaaDoor.Ad
open Go Go.RowKit Kt

theorem rparse_len (s : ByteArray) (w : World) (hs : s.size ≠ 16) :
    Calls Tryd.prog 13 #[.string s] w fun e w' => e = .returned (.tuple #[zeroV, .bool false]) ∧ Below w.heap.size w w' := by
  have hs2 : ((s.size : Int) != 16) = true := by simp; omega
  clear hs
  go_enter Tryd.func13, Tryd.ntmps13
  go_wp2_with fail
  refine bodyPost_ret (v := .tuple #[zeroV, .bool false]) (by simp [results, Tryd.results13, go_sem]) rfl ⟨rfl, ?_⟩
  repeat (first | refine Below.setCell ?_ (by simp) _ | refine Below.alloc ?_ (by simp) _)
  exact Below.refl _ _

/-- Below the end of the whole: one round. -/
def RRel (s : ByteArray) (hs : s.size = 16) (w w1 : World) (k : Nat) (i : Value) (wr : World) : Prop :=
  k ≤ 8 ∧ i = .int .i64 (k : Int) ∧ (∀ j, (h : j < 2 * k) → ∀ h' : j < s.size, isHex s[j] = true) ∧ wr.heap[w.heap.size + 1]? = some (.cells (cellsA (spell s hs) k) 23 (0, 0)) ∧
    wr.heap[w.heap.size]? = some (.cells #[.int .u8 0, .int .u8 0, .int .u8 0, .int .u8 0, .int .u8 0, .int .u8 0, .int .u8 0, .int .u8 0] 23 (0, 0)) ∧ Below w.heap.size w wr ∧ w1 = w1

theorem heap_new2 (w : World) (o p : Obj) : ((w.alloc o).alloc p).heap[w.heap.size + 1]? = some p := by
  have := heap_alloc_new (w.alloc o) p
  simpa using this
theorem heap_old2 (w : World) (o p : Obj) : ((w.alloc o).alloc p).heap[w.heap.size]? = some o := by
  rw [Lib.alloc_old _ _ _ (by simp), heap_alloc_new]

def RPost (s : ByteArray) (hs : s.size = 16) (w : World) (e : Ending) (w' : World) : Prop :=
  ((s.data.toList.all isHex = true ∧ e = .returned (.tuple #[(spell s hs).v, .bool true])) ∨ (s.data.toList.all isHex = false ∧ e = .returned (.tuple #[zeroV, .bool false]))) ∧ Below w.heap.size w w'

theorem all_of (s : ByteArray) (h : ∀ j, (h' : j < s.size) → isHex s[j] = true) : s.data.toList.all isHex = true := by
  rw [List.all_eq_true]
  intro x hx
  obtain ⟨j, hj, rfl⟩ := List.mem_iff_getElem.1 hx
  have hj' : j < s.size := by simpa using hj
  have := h j hj'
  rw [ByteArray.getElem_eq_getElem_data] at this
  simpa using this
theorem not_all (s : ByteArray) (j : Nat) (h' : j < s.size) (h : isHex s[j] = false) : s.data.toList.all isHex = false := by
  cases hh : s.data.toList.all isHex
  · rfl
  · have := at_hex s hh j h'
    rw [h] at this; cases this

set_option maxHeartbeats 4000000 in
theorem rparse_any (s : ByteArray) (hs : s.size = 16) (w : World) :
    Calls Tryd.prog 13 #[.string s] w (RPost s hs w) := by
  have hs2 : ((s.size : Int) != 16) = false := by rw [hs]; rfl
  go_enter Tryd.func13, Tryd.ntmps13
  go_wp2_with fail
  go_loopw [5] (fun i wr => ∃ k : Nat, RRel s hs w w k i wr) (fun i _ => 8 - (intOf i).toNat)
  case atStart =>
    exact ⟨0, Nat.zero_le _, rfl, fun j h => absurd h (by omega), heap_new2 _ _ _, heap_old2 _ _ _, ((Below.refl _ _).alloc (Nat.le_refl _) _).alloc (by simp) _, rfl⟩
  case round =>
    obtain ⟨k, hk, rfl, hx, hb, hb0, hB, -⟩ := hrel
    have HX := Lib.hid hx
    clear hx
    have cc : k < 8 → wr.cell? ⟨w.heap.size + 1, k, none⟩ = some (.int .u8 0) := fun hk => (Lib.cell_of_heap (w := wr) hb k).trans (cellsA_at _ k hk)
    have ff := Lib.frozen_of_heap (w := wr) hb k
    have HP := Lib.hid (fun (hk : k < 8) => cellsA_put (spell s hs) k hk)
    have HSP := Lib.hid (fun (hk : k < 8) => spell_at s hs k hk)
    by_cases hlt : k < 8
    · have i1 : 0 ≤ 2 * (k : Int) ∧ 2 * (k : Int) < 16 := by omega
      have i2 : (2 * (k : Int)).toNat = 2 * k := by omega
      have i3 : 0 ≤ 2 * (k : Int) + 1 ∧ 2 * (k : Int) + 1 < 16 := by omega
      have i4 : (2 * (k : Int) + 1).toNat = 2 * k + 1 := by omega
      by_cases h1 : isHex (s[2 * k]'(by omega)) = true
      · by_cases h2 : isHex (s[2 * k + 1]'(by omega)) = true
        · have n1 := (hex_facts _ h1).1
          have n2 := (hex_facts _ h2).1
          go_wp2_with fail
          refine wp_region_still_lit (by kernel_rfl) (by kernel_rfl) ?_
          repeat (refine wpStill_step (fun K hK => ?_); go_simp; (try go_bits); refine hK _ ?_; clear hK K)
          refine wpStill_step (fun K hK => ?_)
          go_simp
          refine ⟨_, half_hex _ _ h1, hK _ ?_⟩
          clear hK K
          repeat (refine wpStill_step (fun K hK => ?_); go_simp; (try go_bits); refine hK _ ?_; clear hK K)
          refine wpStill_step (fun K hK => ?_)
          go_simp
          refine ⟨_, half_hex _ _ h2, hK _ ?_⟩
          clear hK K
          repeat (refine wpStill_step (fun K hK => ?_); go_simp; (try go_bits); refine hK _ ?_; clear hK K)
          refine wpStill_nil ?_
          go_wp2_with fail
          go_roundw
          case rel =>
            refine ⟨k + 1, by omega, by go_num, ?_, round_end hb (HP.out hlt _ ?_), ?_, (hB.setCell (p := ⟨w.heap.size + 1, k, none⟩) (by simp) _).drew, rfl⟩
            · intro j hj hj'
              by_cases e1 : j = 2 * k
              · subst e1; exact h1
              · by_cases e2 : j = 2 * k + 1
                · subst e2; exact h2
                · exact HX.out j (by omega) hj'
            · rw [HSP.out hlt, pair_nat _ _ h1 h2]; simp
            · exact (Below.heap_setCell _ _ _ _ (by simp)).trans hb0
          case measure => simp [intOf]; omega
        · have h2 := Bool.eq_false_iff.2 h2
          have n1 := (hex_facts _ h1).1
          have d0 : wr.cell? ⟨w.heap.size, 0, none⟩ = some (.int .u8 0) := Lib.cell_of_heap (w := wr) hb0 0
          have d1 : wr.cell? ⟨w.heap.size, 1, none⟩ = some (.int .u8 0) := Lib.cell_of_heap (w := wr) hb0 1
          have d2 : wr.cell? ⟨w.heap.size, 2, none⟩ = some (.int .u8 0) := Lib.cell_of_heap (w := wr) hb0 2
          have d3 : wr.cell? ⟨w.heap.size, 3, none⟩ = some (.int .u8 0) := Lib.cell_of_heap (w := wr) hb0 3
          have d4 : wr.cell? ⟨w.heap.size, 4, none⟩ = some (.int .u8 0) := Lib.cell_of_heap (w := wr) hb0 4
          have d5 : wr.cell? ⟨w.heap.size, 5, none⟩ = some (.int .u8 0) := Lib.cell_of_heap (w := wr) hb0 5
          have d6 : wr.cell? ⟨w.heap.size, 6, none⟩ = some (.int .u8 0) := Lib.cell_of_heap (w := wr) hb0 6
          have d7 : wr.cell? ⟨w.heap.size, 7, none⟩ = some (.int .u8 0) := Lib.cell_of_heap (w := wr) hb0 7
          have e0 : wr.frozen? ⟨w.heap.size, 0, none⟩ = false := Lib.frozen_of_heap (w := wr) hb0 0
          have e1 : wr.frozen? ⟨w.heap.size, 1, none⟩ = false := Lib.frozen_of_heap (w := wr) hb0 1
          have e2 : wr.frozen? ⟨w.heap.size, 2, none⟩ = false := Lib.frozen_of_heap (w := wr) hb0 2
          have e3 : wr.frozen? ⟨w.heap.size, 3, none⟩ = false := Lib.frozen_of_heap (w := wr) hb0 3
          have e4 : wr.frozen? ⟨w.heap.size, 4, none⟩ = false := Lib.frozen_of_heap (w := wr) hb0 4
          have e5 : wr.frozen? ⟨w.heap.size, 5, none⟩ = false := Lib.frozen_of_heap (w := wr) hb0 5
          have e6 : wr.frozen? ⟨w.heap.size, 6, none⟩ = false := Lib.frozen_of_heap (w := wr) hb0 6
          have e7 : wr.frozen? ⟨w.heap.size, 7, none⟩ = false := Lib.frozen_of_heap (w := wr) hb0 7
          go_wp2_with fail
          refine wp_region_still_lit (by kernel_rfl) (by kernel_rfl) ?_
          repeat (refine wpStill_step (fun K hK => ?_); go_simp; (try go_bits); refine hK _ ?_; clear hK K)
          refine wpStill_step (fun K hK => ?_)
          go_simp
          refine ⟨_, half_hex _ _ h1, hK _ ?_⟩
          clear hK K
          repeat (refine wpStill_step (fun K hK => ?_); go_simp; (try go_bits); refine hK _ ?_; clear hK K)
          refine wpStill_step (fun K hK => ?_)
          go_simp
          refine ⟨_, half_not _ _ h2, hK _ ?_⟩
          clear hK K
          repeat (refine wpStill_step (fun K hK => ?_); go_simp; (try go_bits); refine hK _ ?_; clear hK K)
          refine wpStill_nil ?_
          go_wp2_with fail
          refine bodyPost_ret (v := .tuple #[zeroV, .bool false]) (by simp [results, Tryd.results13, go_sem, d0, d1, d2, d3, d4, d5, d6, d7]) rfl ⟨.inr ⟨not_all s _ _ h2, rfl⟩, ?_⟩
          refine Below.drew ?_
          repeat (refine Below.setCell ?_ (by simp) _)
          exact hB
      · have h1 := Bool.eq_false_iff.2 h1
        by_cases h2 : isHex (s[2 * k + 1]'(by omega)) = true
        · have n2 := (hex_facts _ h2).1
          have d0 : wr.cell? ⟨w.heap.size, 0, none⟩ = some (.int .u8 0) := Lib.cell_of_heap (w := wr) hb0 0
          have d1 : wr.cell? ⟨w.heap.size, 1, none⟩ = some (.int .u8 0) := Lib.cell_of_heap (w := wr) hb0 1
          have d2 : wr.cell? ⟨w.heap.size, 2, none⟩ = some (.int .u8 0) := Lib.cell_of_heap (w := wr) hb0 2
          have d3 : wr.cell? ⟨w.heap.size, 3, none⟩ = some (.int .u8 0) := Lib.cell_of_heap (w := wr) hb0 3
          have d4 : wr.cell? ⟨w.heap.size, 4, none⟩ = some (.int .u8 0) := Lib.cell_of_heap (w := wr) hb0 4
          have d5 : wr.cell? ⟨w.heap.size, 5, none⟩ = some (.int .u8 0) := Lib.cell_of_heap (w := wr) hb0 5
          have d6 : wr.cell? ⟨w.heap.size, 6, none⟩ = some (.int .u8 0) := Lib.cell_of_heap (w := wr) hb0 6
          have d7 : wr.cell? ⟨w.heap.size, 7, none⟩ = some (.int .u8 0) := Lib.cell_of_heap (w := wr) hb0 7
          have e0 : wr.frozen? ⟨w.heap.size, 0, none⟩ = false := Lib.frozen_of_heap (w := wr) hb0 0
          have e1 : wr.frozen? ⟨w.heap.size, 1, none⟩ = false := Lib.frozen_of_heap (w := wr) hb0 1
          have e2 : wr.frozen? ⟨w.heap.size, 2, none⟩ = false := Lib.frozen_of_heap (w := wr) hb0 2
          have e3 : wr.frozen? ⟨w.heap.size, 3, none⟩ = false := Lib.frozen_of_heap (w := wr) hb0 3
          have e4 : wr.frozen? ⟨w.heap.size, 4, none⟩ = false := Lib.frozen_of_heap (w := wr) hb0 4
          have e5 : wr.frozen? ⟨w.heap.size, 5, none⟩ = false := Lib.frozen_of_heap (w := wr) hb0 5
          have e6 : wr.frozen? ⟨w.heap.size, 6, none⟩ = false := Lib.frozen_of_heap (w := wr) hb0 6
          have e7 : wr.frozen? ⟨w.heap.size, 7, none⟩ = false := Lib.frozen_of_heap (w := wr) hb0 7
          go_wp2_with fail
          refine wp_region_still_lit (by kernel_rfl) (by kernel_rfl) ?_
          repeat (refine wpStill_step (fun K hK => ?_); go_simp; (try go_bits); refine hK _ ?_; clear hK K)
          refine wpStill_step (fun K hK => ?_)
          go_simp
          refine ⟨_, half_not _ _ h1, hK _ ?_⟩
          clear hK K
          repeat (refine wpStill_step (fun K hK => ?_); go_simp; (try go_bits); refine hK _ ?_; clear hK K)
          refine wpStill_step (fun K hK => ?_)
          go_simp
          refine ⟨_, half_hex _ _ h2, hK _ ?_⟩
          clear hK K
          repeat (refine wpStill_step (fun K hK => ?_); go_simp; (try go_bits); refine hK _ ?_; clear hK K)
          refine wpStill_nil ?_
          go_wp2_with fail
          refine bodyPost_ret (v := .tuple #[zeroV, .bool false]) (by simp [results, Tryd.results13, go_sem, d0, d1, d2, d3, d4, d5, d6, d7]) rfl ⟨.inr ⟨not_all s _ _ h1, rfl⟩, ?_⟩
          refine Below.drew ?_
          repeat (refine Below.setCell ?_ (by simp) _)
          exact hB
        · have h2 := Bool.eq_false_iff.2 h2
          have d0 : wr.cell? ⟨w.heap.size, 0, none⟩ = some (.int .u8 0) := Lib.cell_of_heap (w := wr) hb0 0
          have d1 : wr.cell? ⟨w.heap.size, 1, none⟩ = some (.int .u8 0) := Lib.cell_of_heap (w := wr) hb0 1
          have d2 : wr.cell? ⟨w.heap.size, 2, none⟩ = some (.int .u8 0) := Lib.cell_of_heap (w := wr) hb0 2
          have d3 : wr.cell? ⟨w.heap.size, 3, none⟩ = some (.int .u8 0) := Lib.cell_of_heap (w := wr) hb0 3
          have d4 : wr.cell? ⟨w.heap.size, 4, none⟩ = some (.int .u8 0) := Lib.cell_of_heap (w := wr) hb0 4
          have d5 : wr.cell? ⟨w.heap.size, 5, none⟩ = some (.int .u8 0) := Lib.cell_of_heap (w := wr) hb0 5
          have d6 : wr.cell? ⟨w.heap.size, 6, none⟩ = some (.int .u8 0) := Lib.cell_of_heap (w := wr) hb0 6
          have d7 : wr.cell? ⟨w.heap.size, 7, none⟩ = some (.int .u8 0) := Lib.cell_of_heap (w := wr) hb0 7
          have e0 : wr.frozen? ⟨w.heap.size, 0, none⟩ = false := Lib.frozen_of_heap (w := wr) hb0 0
          have e1 : wr.frozen? ⟨w.heap.size, 1, none⟩ = false := Lib.frozen_of_heap (w := wr) hb0 1
          have e2 : wr.frozen? ⟨w.heap.size, 2, none⟩ = false := Lib.frozen_of_heap (w := wr) hb0 2
          have e3 : wr.frozen? ⟨w.heap.size, 3, none⟩ = false := Lib.frozen_of_heap (w := wr) hb0 3
          have e4 : wr.frozen? ⟨w.heap.size, 4, none⟩ = false := Lib.frozen_of_heap (w := wr) hb0 4
          have e5 : wr.frozen? ⟨w.heap.size, 5, none⟩ = false := Lib.frozen_of_heap (w := wr) hb0 5
          have e6 : wr.frozen? ⟨w.heap.size, 6, none⟩ = false := Lib.frozen_of_heap (w := wr) hb0 6
          have e7 : wr.frozen? ⟨w.heap.size, 7, none⟩ = false := Lib.frozen_of_heap (w := wr) hb0 7
          go_wp2_with fail
          refine wp_region_still_lit (by kernel_rfl) (by kernel_rfl) ?_
          repeat (refine wpStill_step (fun K hK => ?_); go_simp; (try go_bits); refine hK _ ?_; clear hK K)
          refine wpStill_step (fun K hK => ?_)
          go_simp
          refine ⟨_, half_not _ _ h1, hK _ ?_⟩
          clear hK K
          repeat (refine wpStill_step (fun K hK => ?_); go_simp; (try go_bits); refine hK _ ?_; clear hK K)
          refine wpStill_step (fun K hK => ?_)
          go_simp
          refine ⟨_, half_not _ _ h2, hK _ ?_⟩
          clear hK K
          repeat (refine wpStill_step (fun K hK => ?_); go_simp; (try go_bits); refine hK _ ?_; clear hK K)
          refine wpStill_nil ?_
          go_wp2_with fail
          refine bodyPost_ret (v := .tuple #[zeroV, .bool false]) (by simp [results, Tryd.results13, go_sem, d0, d1, d2, d3, d4, d5, d6, d7]) rfl ⟨.inr ⟨not_all s _ _ h1, rfl⟩, ?_⟩
          refine Below.drew ?_
          repeat (refine Below.setCell ?_ (by simp) _)
          exact hB
    · obtain rfl : k = 8 := by omega
      have d0 : wr.cell? ⟨w.heap.size, 0, none⟩ = some (.int .u8 0) := Lib.cell_of_heap (w := wr) hb0 0
      have d1 : wr.cell? ⟨w.heap.size, 1, none⟩ = some (.int .u8 0) := Lib.cell_of_heap (w := wr) hb0 1
      have d2 : wr.cell? ⟨w.heap.size, 2, none⟩ = some (.int .u8 0) := Lib.cell_of_heap (w := wr) hb0 2
      have d3 : wr.cell? ⟨w.heap.size, 3, none⟩ = some (.int .u8 0) := Lib.cell_of_heap (w := wr) hb0 3
      have d4 : wr.cell? ⟨w.heap.size, 4, none⟩ = some (.int .u8 0) := Lib.cell_of_heap (w := wr) hb0 4
      have d5 : wr.cell? ⟨w.heap.size, 5, none⟩ = some (.int .u8 0) := Lib.cell_of_heap (w := wr) hb0 5
      have d6 : wr.cell? ⟨w.heap.size, 6, none⟩ = some (.int .u8 0) := Lib.cell_of_heap (w := wr) hb0 6
      have d7 : wr.cell? ⟨w.heap.size, 7, none⟩ = some (.int .u8 0) := Lib.cell_of_heap (w := wr) hb0 7
      have e0 : wr.frozen? ⟨w.heap.size, 0, none⟩ = false := Lib.frozen_of_heap (w := wr) hb0 0
      have e1 : wr.frozen? ⟨w.heap.size, 1, none⟩ = false := Lib.frozen_of_heap (w := wr) hb0 1
      have e2 : wr.frozen? ⟨w.heap.size, 2, none⟩ = false := Lib.frozen_of_heap (w := wr) hb0 2
      have e3 : wr.frozen? ⟨w.heap.size, 3, none⟩ = false := Lib.frozen_of_heap (w := wr) hb0 3
      have e4 : wr.frozen? ⟨w.heap.size, 4, none⟩ = false := Lib.frozen_of_heap (w := wr) hb0 4
      have e5 : wr.frozen? ⟨w.heap.size, 5, none⟩ = false := Lib.frozen_of_heap (w := wr) hb0 5
      have e6 : wr.frozen? ⟨w.heap.size, 6, none⟩ = false := Lib.frozen_of_heap (w := wr) hb0 6
      have e7 : wr.frozen? ⟨w.heap.size, 7, none⟩ = false := Lib.frozen_of_heap (w := wr) hb0 7
      have c0 : wr.cell? ⟨w.heap.size + 1, 0, none⟩ = some (.int .u8 (spell s hs).x0.toNat) := Lib.cell_of_heap (w := wr) hb 0
      have c1 : wr.cell? ⟨w.heap.size + 1, 1, none⟩ = some (.int .u8 (spell s hs).x1.toNat) := Lib.cell_of_heap (w := wr) hb 1
      have c2 : wr.cell? ⟨w.heap.size + 1, 2, none⟩ = some (.int .u8 (spell s hs).x2.toNat) := Lib.cell_of_heap (w := wr) hb 2
      have c3 : wr.cell? ⟨w.heap.size + 1, 3, none⟩ = some (.int .u8 (spell s hs).x3.toNat) := Lib.cell_of_heap (w := wr) hb 3
      have c4 : wr.cell? ⟨w.heap.size + 1, 4, none⟩ = some (.int .u8 (spell s hs).x4.toNat) := Lib.cell_of_heap (w := wr) hb 4
      have c5 : wr.cell? ⟨w.heap.size + 1, 5, none⟩ = some (.int .u8 (spell s hs).x5.toNat) := Lib.cell_of_heap (w := wr) hb 5
      have c6 : wr.cell? ⟨w.heap.size + 1, 6, none⟩ = some (.int .u8 (spell s hs).x6.toNat) := Lib.cell_of_heap (w := wr) hb 6
      have c7 : wr.cell? ⟨w.heap.size + 1, 7, none⟩ = some (.int .u8 (spell s hs).x7.toNat) := Lib.cell_of_heap (w := wr) hb 7
      go_wp2_with fail
      refine bodyPost_ret (v := .tuple #[(spell s hs).v, .bool true]) (by simp [results, Tryd.results13, go_sem, d0, d1, d2, d3, d4, d5, d6, d7, A8.v]) rfl ⟨.inl ⟨all_of s (fun j hj => HX.out j (by omega) hj), rfl⟩, ?_⟩
      repeat (refine Below.setCell ?_ (by simp) _)
      exact hB
end Go.Proofs.YtldeialjonanmaaDoor.Ad
