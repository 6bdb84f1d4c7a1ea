/- The walk of addr.Parse. -/
import Derived.Test.YtldeialjonanmaaDoorAdR
namespace Go.Proofs.YtldeialjonanmaaDoor.Ad
open Go Go.RowKit Kt

theorem trim_any (s : ByteArray) (w : World) (hs : s.size ≤ 9223372036854775807) :
    Calls Tryd.prog 21 #[.string s, .string digs] w fun e w' => e = .returned (.string ⟨(Lib.trimS s.data.toList digs.data.toList).toArray⟩) ∧ Below w.heap.size w w' :=
  Any.strings_Trim_laid Tryd.lays160 (by kernel_rfl) s digs w hs (by decide) (Go.Proofs.ascii_of_all (by decide))

def zero8 : A8 := ⟨0, 0, 0, 0, 0, 0, 0, 0⟩
@[reducible] def zeroV : Value := .agg #[.int .u8 0, .int .u8 0, .int .u8 0, .int .u8 0, .int .u8 0, .int .u8 0, .int .u8 0, .int .u8 0]
theorem zero8_v : zero8.v = zeroV := rfl

/-- No address: the length. -/
theorem parse_len (s : ByteArray) (w : World) (hs : s.size ≠ 16) :
    Calls Tryd.prog 11 #[.string s] w fun e w' => e = .returned (.tuple #[zeroV, .int .i64 2]) ∧ Below w.heap.size w w' := by
  have hs2 : ((s.size : Int) != 16) = true := by simp; omega
  clear hs
  go_enter Tryd.func11, Tryd.ntmps11
  go_wp2_with fail
  refine bodyPost_ret (v := .tuple #[zeroV, .int .i64 2]) (by simp [results, Tryd.results11, go_sem]) rfl ⟨rfl, ?_⟩
  repeat (first | refine Below.setCell ?_ (by simp) _ | refine Below.alloc ?_ (by simp) _)
  exact Below.refl _ _

set_option maxHeartbeats 2000000 in
/-- No address: another sign. -/
theorem parse_sign (s : ByteArray) (w : World) (hs : s.size = 16) (ht : s.data.toList.all isHex = false) :
    Calls Tryd.prog 11 #[.string s] w fun e w' => e = .returned (.tuple #[zeroV, .int .i64 2]) ∧ Below w.heap.size w w' := by
  have hT := fun w => trim_any s w (by omega)
  have hne : Lib.trimS s.data.toList digs.data.toList ≠ [] := fun e => by rw [(trim_nil _).1 e] at ht; cases ht
  generalize Lib.trimS s.data.toList digs.data.toList = t at hT hne
  have he : (!t.isEmpty) = true := by cases t <;> simp_all
  have hs2 : ((s.size : Int) != 16) = false := by rw [hs]; rfl
  clear hs ht hne
  go_enter Tryd.func11, Tryd.ntmps11
  go_wp2_with fail
  refine (hT _).mono ?_
  rintro e w1 ⟨rfl, hB1⟩
  clear hT
  have hc := below_cell hB1
  simp only [World.size_alloc] at hc
  have c0 : w1.cell? ⟨w.heap.size, 0, none⟩ = some (.int .u8 0) := by rw [hc.1 _ _ (by omega)]; simp [go_sem]
  have c1 : w1.cell? ⟨w.heap.size, 1, none⟩ = some (.int .u8 0) := by rw [hc.1 _ _ (by omega)]; simp [go_sem]
  have c2 : w1.cell? ⟨w.heap.size, 2, none⟩ = some (.int .u8 0) := by rw [hc.1 _ _ (by omega)]; simp [go_sem]
  have c3 : w1.cell? ⟨w.heap.size, 3, none⟩ = some (.int .u8 0) := by rw [hc.1 _ _ (by omega)]; simp [go_sem]
  have c4 : w1.cell? ⟨w.heap.size, 4, none⟩ = some (.int .u8 0) := by rw [hc.1 _ _ (by omega)]; simp [go_sem]
  have c5 : w1.cell? ⟨w.heap.size, 5, none⟩ = some (.int .u8 0) := by rw [hc.1 _ _ (by omega)]; simp [go_sem]
  have c6 : w1.cell? ⟨w.heap.size, 6, none⟩ = some (.int .u8 0) := by rw [hc.1 _ _ (by omega)]; simp [go_sem]
  have c7 : w1.cell? ⟨w.heap.size, 7, none⟩ = some (.int .u8 0) := by rw [hc.1 _ _ (by omega)]; simp [go_sem]
  have f0 : w1.frozen? ⟨w.heap.size, 0, none⟩ = false := by rw [hc.2 _ _ (by omega)]; simp [go_sem]
  have f1 : w1.frozen? ⟨w.heap.size, 1, none⟩ = false := by rw [hc.2 _ _ (by omega)]; simp [go_sem]
  have f2 : w1.frozen? ⟨w.heap.size, 2, none⟩ = false := by rw [hc.2 _ _ (by omega)]; simp [go_sem]
  have f3 : w1.frozen? ⟨w.heap.size, 3, none⟩ = false := by rw [hc.2 _ _ (by omega)]; simp [go_sem]
  have f4 : w1.frozen? ⟨w.heap.size, 4, none⟩ = false := by rw [hc.2 _ _ (by omega)]; simp [go_sem]
  have f5 : w1.frozen? ⟨w.heap.size, 5, none⟩ = false := by rw [hc.2 _ _ (by omega)]; simp [go_sem]
  have f6 : w1.frozen? ⟨w.heap.size, 6, none⟩ = false := by rw [hc.2 _ _ (by omega)]; simp [go_sem]
  have f7 : w1.frozen? ⟨w.heap.size, 7, none⟩ = false := by rw [hc.2 _ _ (by omega)]; simp [go_sem]
  clear hc
  go_wp2_with fail
  refine bodyPost_ret (v := .tuple #[zeroV, .int .i64 2]) (by simp [results, Tryd.results11, go_sem, c0, c1, c2, c3, c4, c5, c6, c7]) rfl ⟨rfl, ?_⟩
  have hb0 := ((Below.refl w.heap.size w).alloc (Nat.le_refl _) (.cells #[.int .u8 0, .int .u8 0, .int .u8 0, .int .u8 0, .int .u8 0, .int .u8 0, .int .u8 0, .int .u8 0] 23)).trans (hB1.mono (by simp))
  repeat (refine Below.setCell ?_ (by simp) _)
  exact hb0

/-- The cells of the array behind k rounds. -/
def cellsK (s : ByteArray) (h : s.size = 16) (k : Nat) : Array Value := (((spell s h).l.take k ++ List.replicate (8 - k) 0).map fun b : UInt8 => Value.int .u8 (b.toNat : Int)).toArray

theorem cellsK_at (s : ByteArray) (h : s.size = 16) (k : Nat) (hk : k < 8) : (cellsK s h k)[k]? = some (.int .u8 0) := by
  have hk8 : k = 0 ∨ k = 1 ∨ k = 2 ∨ k = 3 ∨ k = 4 ∨ k = 5 ∨ k = 6 ∨ k = 7 := by omega
  rcases hk8 with rfl | rfl | rfl | rfl | rfl | rfl | rfl | rfl <;> rfl
theorem cellsK_put (s : ByteArray) (h : s.size = 16) (k : Nat) (hk : k < 8) (x : Int) (hx : x = (((spell s h).l[k]?.getD 0).toNat : Int)) :
    (cellsK s h k).setIfInBounds k (.int .u8 x) = cellsK s h (k + 1) := by
  subst hx
  have hk8 : k = 0 ∨ k = 1 ∨ k = 2 ∨ k = 3 ∨ k = 4 ∨ k = 5 ∨ k = 6 ∨ k = 7 := by omega
  rcases hk8 with rfl | rfl | rfl | rfl | rfl | rfl | rfl | rfl <;> rfl
theorem spell_at (s : ByteArray) (h : s.size = 16) (k : Nat) (hk : k < 8) : (spell s h).l[k]?.getD 0 = pair (s[2 * k]) (s[2 * k + 1]) := by
  have hk8 : k = 0 ∨ k = 1 ∨ k = 2 ∨ k = 3 ∨ k = 4 ∨ k = 5 ∨ k = 6 ∨ k = 7 := by omega
  rcases hk8 with rfl | rfl | rfl | rfl | rfl | rfl | rfl | rfl <;> rfl
theorem byte_pair (c d : UInt8) (hc : isHex c = true) (hd : isHex d = true) : bits .or .i64 (wrap64 ((hexN c : Int) * 16)) (hexN d : Int) % 256 = ((pair c d).toNat : Int) := by
  have h1 := (hex_facts c hc).1
  have h2 := (hex_facts d hd).1
  rw [IntWalk.wrap64_in _ (by omega), pair_nat c d hc hd, ← join_nib _ _ h1 h2, IntKind.wrap_u8]
theorem round_end {w : World} {g t i : Nat} {cs cs' : Array Value} {u : Value} (hb : w.heap[g]? = some (.cells cs t (0, 0))) (h : cs.setIfInBounds i u = cs') :
    (w.setCell ⟨g, i, none⟩ u).drew.heap[g]? = some (.cells cs' t (0, 0)) := by
  subst h
  show (w.setCell ⟨g, i, none⟩ u).heap[g]? = _
  simp [World.setCell, Array.getElem?_modify, hb]

set_option maxHeartbeats 4000000 in
theorem parse_ok (s : ByteArray) (w : World) (hs : s.size = 16) (ht : s.data.toList.all isHex = true) :
    Calls Tryd.prog 11 #[.string s] w fun e w' => e = .returned (.tuple #[(spell s hs).v, .int .i64 0]) ∧ Below w.heap.size w w' := by
  have hT := fun w => trim_any s w (by omega)
  rw [(trim_nil _).2 ht] at hT
  have hX := at_hex s ht
  have hX0 := fun (i : Nat) (hi : i < s.size) => (hex_facts s[i] (hX i hi)).1
  have hs2 : ((s.size : Int) != 16) = false := by rw [hs]; rfl
  go_enter Tryd.func11, Tryd.ntmps11
  go_wp2_with fail
  refine (hT _).mono ?_
  rintro e w1 ⟨rfl, hB1⟩
  clear hT
  have hc := below_cell hB1
  simp only [World.size_alloc] at hc
  go_wp2_with fail
  go_loopw [15] (fun i wr => ∃ k : Nat, k ≤ 8 ∧ i = .int .i64 k ∧ wr.heap[w1.heap.size]? = some (.cells (cellsK s hs k) 23 (0, 0)) ∧ Below w1.heap.size w1 wr)
    (fun i _ => 8 - (intOf i).toNat)
  case atStart => exact ⟨0, Nat.zero_le _, rfl, heap_alloc_new _ _, (Below.refl _ _).alloc (Nat.le_refl _) _⟩
  case round =>
    obtain ⟨k, hk, rfl, hb, hB⟩ := hrel
    have hk9 : k = 0 ∨ k = 1 ∨ k = 2 ∨ k = 3 ∨ k = 4 ∨ k = 5 ∨ k = 6 ∨ k = 7 ∨ k = 8 := by omega
    have cc : k < 8 → wr.cell? ⟨w1.heap.size, k, none⟩ = some (.int .u8 0) := fun hk => (Lib.cell_of_heap (w := wr) hb k).trans (cellsK_at s hs k hk)
    have ff := Lib.frozen_of_heap (w := wr) hb k
    have hput := fun (hk : k < 8) => cellsK_put s hs k hk
    have hsp := fun (hk : k < 8) => spell_at s hs k hk
    have HP := Lib.hid hput
    have HSP := Lib.hid hsp
    clear hput hsp
    rcases hk9 with rfl | rfl | rfl | rfl | rfl | rfl | rfl | rfl | rfl
    rotate_right
    · have hlt : w.heap.size < w1.heap.size := by have := hB1.size; simp at this; omega
      have c0 : wr.cell? ⟨w1.heap.size, 0, none⟩ = some (.int .u8 (pair s[0] s[1]).toNat) := Lib.cell_of_heap (w := wr) hb 0
      have c1 : wr.cell? ⟨w1.heap.size, 1, none⟩ = some (.int .u8 (pair s[2] s[3]).toNat) := Lib.cell_of_heap (w := wr) hb 1
      have c2 : wr.cell? ⟨w1.heap.size, 2, none⟩ = some (.int .u8 (pair s[4] s[5]).toNat) := Lib.cell_of_heap (w := wr) hb 2
      have c3 : wr.cell? ⟨w1.heap.size, 3, none⟩ = some (.int .u8 (pair s[6] s[7]).toNat) := Lib.cell_of_heap (w := wr) hb 3
      have c4 : wr.cell? ⟨w1.heap.size, 4, none⟩ = some (.int .u8 (pair s[8] s[9]).toNat) := Lib.cell_of_heap (w := wr) hb 4
      have c5 : wr.cell? ⟨w1.heap.size, 5, none⟩ = some (.int .u8 (pair s[10] s[11]).toNat) := Lib.cell_of_heap (w := wr) hb 5
      have c6 : wr.cell? ⟨w1.heap.size, 6, none⟩ = some (.int .u8 (pair s[12] s[13]).toNat) := Lib.cell_of_heap (w := wr) hb 6
      have c7 : wr.cell? ⟨w1.heap.size, 7, none⟩ = some (.int .u8 (pair s[14] s[15]).toNat) := Lib.cell_of_heap (w := wr) hb 7
      have d0 : wr.cell? ⟨w.heap.size, 0, none⟩ = some (.int .u8 0) := (hB.cell (p := ⟨w.heap.size, 0, none⟩) hlt).trans ((hc.1 _ _ (by omega)).trans (by simp [go_sem]))
      have d1 : wr.cell? ⟨w.heap.size, 1, none⟩ = some (.int .u8 0) := (hB.cell (p := ⟨w.heap.size, 1, none⟩) hlt).trans ((hc.1 _ _ (by omega)).trans (by simp [go_sem]))
      have d2 : wr.cell? ⟨w.heap.size, 2, none⟩ = some (.int .u8 0) := (hB.cell (p := ⟨w.heap.size, 2, none⟩) hlt).trans ((hc.1 _ _ (by omega)).trans (by simp [go_sem]))
      have d3 : wr.cell? ⟨w.heap.size, 3, none⟩ = some (.int .u8 0) := (hB.cell (p := ⟨w.heap.size, 3, none⟩) hlt).trans ((hc.1 _ _ (by omega)).trans (by simp [go_sem]))
      have d4 : wr.cell? ⟨w.heap.size, 4, none⟩ = some (.int .u8 0) := (hB.cell (p := ⟨w.heap.size, 4, none⟩) hlt).trans ((hc.1 _ _ (by omega)).trans (by simp [go_sem]))
      have d5 : wr.cell? ⟨w.heap.size, 5, none⟩ = some (.int .u8 0) := (hB.cell (p := ⟨w.heap.size, 5, none⟩) hlt).trans ((hc.1 _ _ (by omega)).trans (by simp [go_sem]))
      have d6 : wr.cell? ⟨w.heap.size, 6, none⟩ = some (.int .u8 0) := (hB.cell (p := ⟨w.heap.size, 6, none⟩) hlt).trans ((hc.1 _ _ (by omega)).trans (by simp [go_sem]))
      have d7 : wr.cell? ⟨w.heap.size, 7, none⟩ = some (.int .u8 0) := (hB.cell (p := ⟨w.heap.size, 7, none⟩) hlt).trans ((hc.1 _ _ (by omega)).trans (by simp [go_sem]))
      have e0 : wr.frozen? ⟨w.heap.size, 0, none⟩ = false := (hB.frozen (p := ⟨w.heap.size, 0, none⟩) hlt).trans ((hc.2 _ _ (by omega)).trans (by simp [go_sem]))
      have e1 : wr.frozen? ⟨w.heap.size, 1, none⟩ = false := (hB.frozen (p := ⟨w.heap.size, 1, none⟩) hlt).trans ((hc.2 _ _ (by omega)).trans (by simp [go_sem]))
      have e2 : wr.frozen? ⟨w.heap.size, 2, none⟩ = false := (hB.frozen (p := ⟨w.heap.size, 2, none⟩) hlt).trans ((hc.2 _ _ (by omega)).trans (by simp [go_sem]))
      have e3 : wr.frozen? ⟨w.heap.size, 3, none⟩ = false := (hB.frozen (p := ⟨w.heap.size, 3, none⟩) hlt).trans ((hc.2 _ _ (by omega)).trans (by simp [go_sem]))
      have e4 : wr.frozen? ⟨w.heap.size, 4, none⟩ = false := (hB.frozen (p := ⟨w.heap.size, 4, none⟩) hlt).trans ((hc.2 _ _ (by omega)).trans (by simp [go_sem]))
      have e5 : wr.frozen? ⟨w.heap.size, 5, none⟩ = false := (hB.frozen (p := ⟨w.heap.size, 5, none⟩) hlt).trans ((hc.2 _ _ (by omega)).trans (by simp [go_sem]))
      have e6 : wr.frozen? ⟨w.heap.size, 6, none⟩ = false := (hB.frozen (p := ⟨w.heap.size, 6, none⟩) hlt).trans ((hc.2 _ _ (by omega)).trans (by simp [go_sem]))
      have e7 : wr.frozen? ⟨w.heap.size, 7, none⟩ = false := (hB.frozen (p := ⟨w.heap.size, 7, none⟩) hlt).trans ((hc.2 _ _ (by omega)).trans (by simp [go_sem]))
      clear hc cc ff hX hX0 HP HSP
      go_wp2_with fail
      refine bodyPost_ret (v := .tuple #[(spell s hs).v, .int .i64 0]) (by simp [results, Tryd.results11, go_sem, d0, d1, d2, d3, d4, d5, d6, d7, A8.v, spell]) rfl ⟨rfl, ?_⟩
      have hb0 := (((Below.refl w.heap.size w).alloc (Nat.le_refl _) (.cells #[.int .u8 0, .int .u8 0, .int .u8 0, .int .u8 0, .int .u8 0, .int .u8 0, .int .u8 0, .int .u8 0] 23)).trans (hB1.mono (by simp))).trans (hB.mono (by omega))
      repeat (refine Below.setCell ?_ (by simp) _)
      exact hb0
    all_goals
      go_wp2_with fail
      refine wp_region_still_tail 16 (by kernel_rfl) (by kernel_rfl) ?_
      simp only [List.take_succ_cons, List.take_zero, List.drop_succ_cons, List.drop_zero]
      repeat (refine wpStill_step (fun K hK => ?_); go_simp; (try go_bits); refine hK _ ?_; clear hK K)
      refine wpStill_step (fun K hK => ?_)
      go_simp
      refine ⟨_, index_any _ _ (hX _ (by omega)), hK _ ?_⟩
      clear hK K
      repeat (refine wpStill_step (fun K hK => ?_); go_simp; (try go_bits); refine hK _ ?_; clear hK K)
      refine wpStill_step (fun K hK => ?_)
      go_simp
      refine ⟨_, index_any _ _ (hX _ (by omega)), hK _ ?_⟩
      clear hK K
      repeat (refine wpStill_step (fun K hK => ?_); go_simp; (try go_bits); refine hK _ ?_; clear hK K)
      refine wpStill_nil ?_
      change wpList _ _ _ _ _ wr.drew
      go_wp2_with fail
      go_roundw
      case rel =>
        first
          | refine ⟨1, by omega, rfl, ?_, ?_⟩ | refine ⟨2, by omega, rfl, ?_, ?_⟩ | refine ⟨3, by omega, rfl, ?_, ?_⟩ | refine ⟨4, by omega, rfl, ?_, ?_⟩
          | refine ⟨5, by omega, rfl, ?_, ?_⟩ | refine ⟨6, by omega, rfl, ?_, ?_⟩ | refine ⟨7, by omega, rfl, ?_, ?_⟩ | refine ⟨8, by omega, rfl, ?_, ?_⟩
        · exact round_end hb (HP.out (by omega) _ (by rw [HSP.out (by omega)]; exact byte_pair _ _ (hX _ (by omega)) (hX _ (by omega))))
        · exact (hB.setCell (p := ⟨w1.heap.size, _, none⟩) (Nat.le_refl _) _).drew
      case measure => simp [intOf]
end Go.Proofs.YtldeialjonanmaaDoor.Ad
