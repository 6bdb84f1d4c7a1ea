/- Graph: Depth and Groups of no graph. -/
import Derived.Test.YtjafmclladiblaaGw
namespace Go.Proofs.Ytjafmclladiblaa.Gr
open Go Go.RowKit Go.Lib Kt Fm

set_option maxRecDepth 100000 in
set_option maxHeartbeats 8000000 in
theorem depth_nil {W : World} (j : Nat) :
    Calls Try.prog 22 #[.pointer none, .int .i64 j] W fun e w' => e = .returned (.tuple #[.int .i64 0, .bool false]) ∧ Below W.heap.size W w' := by
  go_enter Try.func22, Try.ntmps22
  go_wp2_with fail
  obtain ⟨w1, hw1⟩ : ∃ w1, w1 = W.alloc (.cells #[.pointer none] 36) := ⟨_, rfl⟩
  have hb1 : Below W.heap.size W w1 := hw1 ▸ (Below.refl _ _).alloc (Nat.le_refl _) _
  have hl1 : Lies w1 W.heap.size 36 #[.pointer none] := hw1 ▸ Lies.new _ _ _
  rw [← hw1]
  clear hw1
  have hd := below_drew w1
  have HBV := Lib.hid (bt hb1 hd)
  have hS : w1.drew.cell? ⟨W.heap.size, 0, none⟩ = some (.pointer none) := hl1.cell 0
  clear hb1 hl1 hd
  refine wp_region_t [(0, 1), (1, 1), (2, 1), (3, 1), (4, 1), (5, 0), (6, 1), (7, 1), (8, 1), (9, 1), (10, 1), (11, 0), (12, 1), (13, 1), (14, 1), (15, 1), (18, 1), (19, 1), (16, 0), (17, 0), (20, 0), (21, 1)] (fun w' => w'.cell? ⟨W.heap.size, 0, none⟩ = some (.pointer none)) [] [] rfl (by kernel_rfl) (by kernel_rfl) (fun _ _ d _ _ h => by cases d <;> exact h) hS (fun p hp => by cases hp) ?_
  generalize w1.drew = V at HBV hS ⊢
  repeat (first | (refine ts_take (v := .func (.func 20) #[.pointer none] #[]) rfl rfl (fun w' _ => rfl) ?_; (try simp only [Act.put, List.setIfInBounds_toArray, List.set_cons_zero, List.set_cons_succ])) | (refine ts_take (v := ?_) rfl rfl (fun w' hw' => ?_) ?_; rotate_left; (focus (have q0 := hw'; clear hw'; (try simp only [Act.put, List.setIfInBounds_toArray, List.set_cons_zero, List.set_cons_succ]); go_simp; (try go_bits); (try (with_reducible rfl)))); (try simp only [Act.put, List.setIfInBounds_toArray, List.set_cons_zero, List.set_cons_succ])) | (refine ts_skip rfl rfl ?_; (try simp only [Act.put, List.setIfInBounds_toArray, List.set_cons_zero, List.set_cons_succ])))
  refine ts_run1 rfl rfl (fun K hK => ?_)
  go_simp
  refine len_nil.mono ?_
  rintro en w2 ⟨rfl, rfl⟩
  refine hK.out _ _ hS (still_none _ _) ?_
  clear hK K
  (try simp only [Act.put, List.setIfInBounds_toArray, List.set_cons_zero, List.set_cons_succ])
  repeat (first | (refine ts_take (v := .func (.func 20) #[.pointer none] #[]) rfl rfl (fun w' _ => rfl) ?_; (try simp only [Act.put, List.setIfInBounds_toArray, List.set_cons_zero, List.set_cons_succ])) | (refine ts_take (v := ?_) rfl rfl (fun w' hw' => ?_) ?_; rotate_left; (focus (have q0 := hw'; clear hw'; (try simp only [Act.put, List.setIfInBounds_toArray, List.set_cons_zero, List.set_cons_succ]); go_simp; (try go_bits); (try (with_reducible rfl)))); (try simp only [Act.put, List.setIfInBounds_toArray, List.set_cons_zero, List.set_cons_succ])) | (refine ts_skip rfl rfl ?_; (try simp only [Act.put, List.setIfInBounds_toArray, List.set_cons_zero, List.set_cons_succ])))
  refine ts_run rfl (fun K hK => ?_)
  refine ite_no rfl ?_
  refine hK.out _ _ hS (still_none _ _) ?_
  clear hK K
  (try simp only [Act.put, List.setIfInBounds_toArray, List.set_cons_zero, List.set_cons_succ])
  repeat (first | (refine ts_take (v := .func (.func 20) #[.pointer none] #[]) rfl rfl (fun w' _ => rfl) ?_; (try simp only [Act.put, List.setIfInBounds_toArray, List.set_cons_zero, List.set_cons_succ])) | (refine ts_take (v := ?_) rfl rfl (fun w' hw' => ?_) ?_; rotate_left; (focus (have q0 := hw'; clear hw'; (try simp only [Act.put, List.setIfInBounds_toArray, List.set_cons_zero, List.set_cons_succ]); go_simp; (try go_bits); (try (with_reducible rfl)))); (try simp only [Act.put, List.setIfInBounds_toArray, List.set_cons_zero, List.set_cons_succ])) | (refine ts_skip rfl rfl ?_; (try simp only [Act.put, List.setIfInBounds_toArray, List.set_cons_zero, List.set_cons_succ])))
  refine ts_run rfl (fun K hK => ?_)
  refine ite_no rfl ?_
  refine hK.out _ _ hS (still_none _ _) ?_
  clear hK K
  (try simp only [Act.put, List.setIfInBounds_toArray, List.set_cons_zero, List.set_cons_succ])
  refine ts_run rfl (fun K hK => ?_)
  refine ite_no rfl ?_
  refine hK.out _ _ hS (still_none _ _) ?_
  clear hK K
  (try simp only [Act.put, List.setIfInBounds_toArray, List.set_cons_zero, List.set_cons_succ])
  refine ts_run rfl (fun K hK => ?_)
  refine ite_no rfl ?_
  refine hK.out _ _ hS (still_none _ _) ?_
  clear hK K
  (try simp only [Act.put, List.setIfInBounds_toArray, List.set_cons_zero, List.set_cons_succ])
  repeat (first | (refine ts_take (v := .func (.func 20) #[.pointer none] #[]) rfl rfl (fun w' _ => rfl) ?_; (try simp only [Act.put, List.setIfInBounds_toArray, List.set_cons_zero, List.set_cons_succ])) | (refine ts_take (v := ?_) rfl rfl (fun w' hw' => ?_) ?_; rotate_left; (focus (have q0 := hw'; clear hw'; (try simp only [Act.put, List.setIfInBounds_toArray, List.set_cons_zero, List.set_cons_succ]); go_simp; (try go_bits); (try (with_reducible rfl)))); (try simp only [Act.put, List.setIfInBounds_toArray, List.set_cons_zero, List.set_cons_succ])) | (refine ts_skip rfl rfl ?_; (try simp only [Act.put, List.setIfInBounds_toArray, List.set_cons_zero, List.set_cons_succ])))
  refine ts_done ?_
  go_wp2_with fail
  go_ret2
  exact ⟨rfl, HBV.out⟩
set_option maxRecDepth 100000 in
set_option maxHeartbeats 8000000 in
theorem groups_nil {W : World} :
    Calls Try.prog 24 #[.pointer none] W fun e w' => e = .returned (.slice none 0 0) ∧ Below W.heap.size W w' := by
  go_enter Try.func24, Try.ntmps24
  go_wp2_with fail
  refine (len_nil (W := W)).mono ?_
  rintro en w2 ⟨rfl, rfl⟩
  go_wp2_with (refine wl_mk (n := 0) Try.underlying55 info_li rfl _ _ rfl rfl rfl rfl (by omega) (by omega) (fun w1 hb1 hr1 => ?_); have HB1 := Lib.hid hb1; clear hb1 hr1; simp only [Act.put, List.setIfInBounds_toArray, List.set_cons_zero, List.set_cons_succ])
  obtain ⟨w3, hw3⟩ : ∃ w3, w3 = w1.alloc (.cells #[.slice (some ⟨w2.heap.size, 0, none⟩) 0 0] 55) := ⟨_, rfl⟩
  have HVB := Lib.hid (show Lies w3 w1.heap.size 55 #[.slice (some ⟨w2.heap.size, 0, none⟩) 0 0] from hw3 ▸ Lies.new _ _ _)
  have HB3 := Lib.hid (bt HB1.out (hw3 ▸ (Below.refl _ _).alloc (Nat.le_refl _) _))
  rw [← hw3]
  clear hw3 HB1
  go_loopw [4, 16] (fun _ i wr => i = .int .i64 0 ∧ Below w2.heap.size w2 wr) (fun _ _ _ => 0)
  case atStart => exact ⟨rfl, HB3.out⟩
  case round =>
    clear HB3 HVB
    obtain ⟨rfl, hB⟩ := hrel
    have HB := Lib.hid hB
    clear hB
    go_wp2_with fail
    refine (len_nil (W := wr)).mono ?_
    rintro en w4 ⟨rfl, rfl⟩
    go_wp2_with (refine wl_mk (n := 0) Try.underlying48 info_bool rfl _ _ rfl rfl rfl rfl (by omega) (by omega) (fun w5 hb5 hr5 => ?_); have HB5 := Lib.hid (bt HB.out hb5); clear hb5 hr5; simp only [Act.put, List.setIfInBounds_toArray, List.set_cons_zero, List.set_cons_succ])
    go_loopw [7, 8, 9, 10, 33] (fun ov _ _ _ i wr => i = .int .i64 0 ∧ ov = .slice none 0 0 ∧ Below w2.heap.size w2 wr) (fun _ _ _ _ _ _ => 0)
    case atStart => exact ⟨rfl, rfl, HB5.out⟩
    case round =>
      clear HB HB5
      obtain ⟨rfl, rfl, hB⟩ := hrel
      have HB := Lib.hid hB
      clear hB
      go_wp2_with fail
      go_ret
      exact ⟨rfl, HB.out⟩
end Go.Proofs.Ytjafmclladiblaa.Gr
