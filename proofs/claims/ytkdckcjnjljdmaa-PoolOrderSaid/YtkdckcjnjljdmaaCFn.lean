/- Rows of one's own, written over; clear of a part of one. Over any program. -/
import Derived.Test.YtkdckcjnjljdmaaCFm
namespace Go.Proofs.Ytkdckcjnjljdmaa.Fm
open Go Go.RowKit Kt

theorem getElem?_over {xs vs : List Value} {o : Nat} (ho : o + vs.length ≤ xs.length) (j : Nat) : (xs.take o ++ vs ++ xs.drop (o + vs.length))[j]? = if o ≤ j ∧ j < o + vs.length then vs[j - o]? else xs[j]? := by
  have hl : (xs.take o).length = o := by rw [List.length_take]; omega
  by_cases h1 : j < o
  · rw [if_neg (by omega), List.append_assoc, List.getElem?_append_left (by omega), List.getElem?_take, if_pos h1]
  · by_cases h2 : j < o + vs.length
    · rw [if_pos ⟨by omega, h2⟩, List.getElem?_append_left (by rw [List.length_append]; omega), List.getElem?_append_right (by omega), hl]
    · rw [if_neg (by omega), List.getElem?_append_right (by rw [List.length_append]; omega), List.length_append, hl, List.getElem?_drop]
      congr 1
      omega
/-- A row of one's own whose cells are written over from the o-th on. -/
theorem row_over {w : World} {base : Nat} {e : TypeId} {sz g n cap : Nat} {xs : List Value} (h : w.ownsRow base e sz (.slice (some ⟨g, 0, none⟩) n cap) n xs) (o : Nat) (vs : List Value) (ho : o + vs.length ≤ xs.length) :
    (w.setCells g o vs).ownsRow base e sz (.slice (some ⟨g, 0, none⟩) n cap) n (xs.take o ++ vs ++ xs.drop (o + vs.length)) ∧ w.grownBy (w.setCells g o vs) (some g) := by
  have hgr : w.grownBy (w.setCells g o vs) (some g) := ⟨World.os_setCells _ _ _ _, tape_setCells _ _ _ _, World.output_setCells _ _ _ _, Nat.le_of_eq (size_setCells _ _ _ _).symm, fun k hk hn => World.heap_setCells_other w g _ vs hk (fun e => hn (by rw [e]))⟩
  refine ⟨?_, hgr⟩
  have hx := h.1
  refine ⟨by simp only [List.length_append, List.length_take, List.length_drop]; omega, ?_⟩
  rcases h.2 with ⟨h0, _⟩ | ⟨g', cap', cur, hv, hb, hg, h1, h2, h3, h4⟩
  · cases h0
  · cases hv
    obtain ⟨cur', a1, a2, _⟩ := heap_setCells vs o w cur hg
    refine .inr ⟨g, cap, cur', rfl, hb, a1, h1, h2, by omega, ?_⟩
    have hlen : xs.length = n * sz := hx
    have hle : n * sz ≤ cur.size := by rw [h3]; exact Nat.mul_le_mul_right _ h1
    refine List.ext_getElem? fun j => ?_
    rw [getElem?_over ho, List.getElem?_take]
    by_cases hj : j < n * sz
    · rw [if_pos hj]
      by_cases hr : o ≤ j ∧ j < o + vs.length
      · rw [if_pos hr]
        have := World.cell?_setCells_in g vs o w (fun k hk => by simp only [World.cell?, hg]; rw [Array.getElem?_eq_getElem (by omega)]; rfl) (j - o) (by omega)
        rw [show o + (j - o) = j by omega] at this
        have h5 : cur'[j]? = vs[j - o]? := by
          rw [List.getElem?_eq_getElem (show j - o < vs.length by omega)]
          simpa [World.cell?, a1] using this
        simpa using h5
      · rw [if_neg hr]
        have := World.cell?_setCells_out g vs o w ⟨g, j, none⟩ (fun _ _ => by show j < o ∨ o + vs.length ≤ j; omega)
        have h5 : cur'[j]? = cur[j]? := by simpa [World.cell?, a1, hg] using this
        rw [← h4, List.getElem?_take, if_pos hj]
        simpa using h5
    · rw [if_neg hj]
      rw [if_neg (by omega), List.getElem?_eq_none (by omega)]
/-- One element is written over. -/
theorem row_set {α : Type} {en : α → List Value} {w : World} {base : Nat} {e : TypeId} {sz g cap : Nat} {L : List α} (hlen : ∀ x, (en x).length = sz) (h : w.ownsRow base e sz (.slice (some ⟨g, 0, none⟩) L.length cap) L.length (L.flatMap en)) {i : Nat} (hi : i < L.length) (x : α) :
    (w.setCells g (i * sz) (en x)).ownsRow base e sz (.slice (some ⟨g, 0, none⟩) L.length cap) L.length ((L.set i x).flatMap en) ∧ w.grownBy (w.setCells g (i * sz) (en x)) (some g) := by
  have hle : i * sz + (en x).length ≤ (L.flatMap en).length := by
    rw [length_flat hlen, hlen, ← Nat.succ_mul]
    exact Nat.mul_le_mul_right _ hi
  have := row_over h (i * sz) (en x) hle
  have he : (L.flatMap en).take (i * sz) ++ en x ++ (L.flatMap en).drop (i * sz + (en x).length) = (L.set i x).flatMap en := by
    have e1 : L = L.take i ++ L[i] :: L.drop (i + 1) := by rw [List.getElem_cons_drop, List.take_append_drop]
    have e2 : L.set i x = L.take i ++ x :: L.drop (i + 1) := List.set_eq_take_append_cons_drop.trans (if_pos hi)
    have e3 : ((L.take i).flatMap en).length = i * sz := by rw [length_flat hlen, List.length_take, Nat.min_eq_left (Nat.le_of_lt hi)]
    rw [e2, List.flatMap_append, List.flatMap_cons]
    conv => lhs; rw [e1]
    rw [List.flatMap_append, List.flatMap_cons, hlen]
    rw [List.take_append_of_le_length (Nat.le_of_eq e3.symm), List.take_of_length_le (Nat.le_of_eq e3), ← List.append_assoc, List.drop_append, List.drop_of_length_le (Nat.le_of_eq (by rw [List.length_append, e3, hlen])), List.nil_append, List.length_append, e3, hlen, Nat.sub_self, List.drop_zero, List.append_assoc]
  rw [he] at this
  exact this
/-- The first ones of a row. -/
theorem row_front {α : Type} {en : α → List Value} {w : World} {base : Nat} {e : TypeId} {sz g n cap : Nat} {xs : List Value} (hlen : ∀ x, (en x).length = sz) (h : w.ownsRow base e sz (.slice (some ⟨g, 0, none⟩) n cap) n xs) {L : List α} (hL : L.length ≤ n) (hx : xs.take (L.length * sz) = L.flatMap en) :
    w.ownsRow base e sz (.slice (some ⟨g, 0, none⟩) L.length cap) L.length (L.flatMap en) := by
  refine ⟨length_flat hlen L, ?_⟩
  rcases h.2 with ⟨h0, _⟩ | ⟨g', cap', cur, hv, hb, hg, h1, h2, h3, h4⟩
  · cases h0
  · cases hv
    refine .inr ⟨g, cap, cur, rfl, hb, hg, Nat.le_trans hL h1, h2, h3, ?_⟩
    rw [← hx, ← h4, List.take_take, Nat.min_eq_left (Nat.mul_le_mul_right _ hL)]
/-- clear of elements of many cells. -/
theorem run_clear_cells {P : Program} (w : World) (t e ty : TypeId) (z : Value) (ht : P.underlying t = some (.slice e)) (hv : ∀ w, (zeroValue e).run P w = .ok z w) (h1 : ∀ v ∈ z.cells.toList, v.oneCell' = true) {sz : Nat} (hsz : z.cells.size = sz) (hpos : 0 < sz) (b o n c : Nat) (hn : 0 < n)
    (hc : ∀ j, j < n * sz → (w.cell? ⟨b, o + j, none⟩).isSome = true) (hf : ∀ j, j < n * sz → w.frozen? ⟨b, o + j, none⟩ = false) :
    ∃ zs : List Value, zs.length = n * sz ∧ (Builtin.clear_ #[t] ty #[.slice (some ⟨b, o, none⟩) n c]).run P w = .ok (.tuple #[]) (w.setCells b o zs) := by
  have hl : (Builtin.zeroCells z.cells n).toList.length = n * sz := by simp [Builtin.zeroCells, hsz]
  refine ⟨(Builtin.zeroCells z.cells n).toList, hl, ?_⟩
  have hst := run_storeCells_cells (P := P) b o (Builtin.zeroCells z.cells n).toList 0 w (fun j hj => by simpa using hc j (by omega)) (fun j hj => by simpa using hf j (by omega)) (fun v hv' => by
    obtain ⟨k, hk, rfl⟩ := List.getElem_of_mem hv'
    simp only [Builtin.zeroCells, Array.toList_map, List.getElem_map]
    refine h1 _ ?_
    have hm : ∀ q : Nat, q % z.cells.size < z.cells.size := fun q => Nat.mod_lt _ (by omega)
    rw [getElem!_pos z.cells _ (hm _)]
    exact Array.getElem_mem_toList _)
  simp only [Nat.add_zero] at hst
  obtain ⟨m, rfl⟩ : ∃ m, n = m + 1 := ⟨n - 1, by omega⟩
  simp [Builtin.clear_, run_underlying ht, hv, hst]
end Go.Proofs.Ytkdckcjnjljdmaa.Fm
