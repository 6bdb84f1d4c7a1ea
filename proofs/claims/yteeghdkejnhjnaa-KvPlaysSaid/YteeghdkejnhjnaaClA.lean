/- maps.Clone at one map type: a new block that holds the same entries. -/
import Derived.Test.YteeghdkejnhjnaaBx
import Derived.Test.YteeghdkejnhjnaaMp
import Derived.Test.YteeghdkejnhjnaaProg
import Derived.Shelf.SlMaps.Clone
namespace Go.Proofs.Yteeghdkejnhjnaa.Kt
open Go Go.RowKit

set_option maxRecDepth 100000 in
set_option maxHeartbeats 2000000 in
theorem clone_acct {α : Type} {ek : α → Value} {W : World} {b : Nat} {L : List (α × Value)} (h : IsMap ek W b L) :
    Calls Try.prog 87 #[.map (some b)] W fun e w' => e = .returned (.map (some W.heap.size)) ∧ IsMap ek w' W.heap.size L ∧ ∃ o, w' = W.alloc o := by
  obtain ⟨es, clock, hb, h2, h3⟩ := h.block
  have hnd := h.nodup
  clear h
  have hq := fun w => run_eql_map_nil_sl (P := Try.prog) w 128 _ _ (some b) Try.underlying128
  go_enter Try.func87, Try.ntmps87
  go_wp2
  rw [run_callFunc_extern Try.func93 (by kernel_rfl) (by kernel_rfl) (by kernel_rfl) (e := Extern.MapsClone.clone) (by kernel_rfl), run_maps_clone_sl W 128 hb]
  simp only [Result.andThen]
  rw [Oper.upon_value]
  go_wp2
  rw [run_typeAssert_map_sl _ 128 20 _ _ _ Try.underlying128]
  simp only [Result.andThen]
  rw [Oper.upon_value]
  go_wp2
  go_ret
  exact ⟨rfl, ⟨hnd, es, clock, (MapKept.heap_alloc W _).1, h2, h3⟩, _, rfl⟩
end Go.Proofs.Yteeghdkejnhjnaa.Kt
