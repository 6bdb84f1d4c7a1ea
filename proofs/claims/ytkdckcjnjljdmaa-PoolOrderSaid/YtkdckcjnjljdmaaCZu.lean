/- slices.Insert of one of the pool's entries. -/
import Derived.Test.YtkdckcjnjljdmaaCZo
import Derived.Lib.Overlaps
namespace Go.Proofs.Ytkdckcjnjljdmaa.Po
open Go Go.RowKit Go.Lib Kt Fm Ad Kv

set_option maxRecDepth 100000 in
set_option maxHeartbeats 16000000 in
theorem ins_end {W : World} {base : Nat} {v vx : Value} {l : List Tx} {x : Tx} (h : W.ownsRow base 81 22 v l.length (l.flatMap Tx.cs)) (hx : Sl W 22 Tx.cs vx [x]) (ho : TxOk W x) (hl : l.length ≤ 100000) (hb : base ≤ W.heap.size) : Calls Try.prog 33 #[v, .int .i64 l.length, vx] W fun e w' => ∃ v', e = .returned v' ∧ w'.ownsRow base 81 22 v' (l ++ [x]).length ((l ++ [x]).flatMap Tx.cs) ∧ Fr W w' (fun k => some k = v.ownBlock) := by
  obtain ⟨s, cap, rfl, hnc, hf⟩ := row_form h
  obtain ⟨sx, cx, rfl, hfx⟩ := hx.form
  obtain ⟨gx, ox, rfl, _⟩ := hfx (by simp)
  have HR := Lib.hid h
  have HX := Lib.hid hx
  have HO := Lib.hid ho
  have hc1 : (l.length : Int) ≤ (cap : Int) := by omega
  clear h hx ho hf hfx
  go_enter Try.func33, Try.ntmps33
  cases s with
  | none =>
    go_wp2_with (refine wl_app (by_ := 80) _ _ rfl rfl Try.underlying77 inf_en (by decide) rfl HR.out Tx.len rfl HX.out (fun y hy u hu => by obtain rfl := List.mem_singleton.1 hy; exact HO.out.one u hu) (by unfold maxLen; simp; omega) (by simp; omega) hb (fun v2 w2 hr2 hg2 hv2 => ?_); have R2 := Lib.hid (show w2.ownsRow base 81 22 v2 (l ++ [x]).length ((l ++ [x]).flatMap Tx.cs) from by rw [List.length_append, List.flatMap_append]; exact hr2); have F2 := Lib.hid (Fr.of_grown hg2); clear hr2 hg2 hv2; (try simp only [Act.put, List.setIfInBounds_toArray, List.set_cons_zero, List.set_cons_succ]))
    all_goals (go_ret; first | exact ⟨_, rfl, R2.out, F2.out⟩ | exact ⟨_, rfl, by have h := R2.out; rw [List.length_append, List.flatMap_append, List.flatMap_singleton] at h; exact h, F2.out⟩)
  | some ad =>
    go_wp2_with (refine wl_app (by_ := 80) _ _ rfl rfl Try.underlying77 inf_en (by decide) rfl HR.out Tx.len rfl HX.out (fun y hy u hu => by obtain rfl := List.mem_singleton.1 hy; exact HO.out.one u hu) (by unfold maxLen; simp; omega) (by simp; omega) hb (fun v2 w2 hr2 hg2 hv2 => ?_); have R2 := Lib.hid (show w2.ownsRow base 81 22 v2 (l ++ [x]).length ((l ++ [x]).flatMap Tx.cs) from by rw [List.length_append, List.flatMap_append]; exact hr2); have F2 := Lib.hid (Fr.of_grown hg2); clear hr2 hg2 hv2; (try simp only [Act.put, List.setIfInBounds_toArray, List.set_cons_zero, List.set_cons_succ]))
    all_goals (go_ret; first | exact ⟨_, rfl, R2.out, F2.out⟩ | exact ⟨_, rfl, by have h := R2.out; rw [List.length_append, List.flatMap_append, List.flatMap_singleton] at h; exact h, F2.out⟩)
end Go.Proofs.Ytkdckcjnjljdmaa.Po
