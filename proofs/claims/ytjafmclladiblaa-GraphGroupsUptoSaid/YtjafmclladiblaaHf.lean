/- Graph: what the statements' rows ask: a module and numbers that came in, opened within the bound. -/
import Derived.Test.YtjafmclladiblaaHe
import Derived.Test.YtjafmclladiblaaRw
import Derived.Test.YtjafmclladiblaaRwW
namespace Go.Proofs.Ytjafmclladiblaa.Gr
open Go Go.RowKit Go.Lib Go.WideShapes Kt Fm

section
variable {H : Type} {enc : TypeId × Value → H} {w : World} {base : Nat} {spare : Nat → Bool} {held : Bool}
set_option maxRecDepth 100000 in
theorem small {ds : List (DataW H)} (h : Rows.uptoSmall H ds = true) {d : DataW H} (hd : d ∈ ds) : bulk d ≤ Bd := by
  unfold Rows.uptoSmall at h
  rw [decide_eq_true_eq] at h
  exact Nat.le_trans (bulk_mem hd) h
set_option maxRecDepth 100000 in
theorem open_mod {r : Reach} {b0 : Nat} {v : Value} {d : DataW H} {p : List MemPlace} (hv : Value.okWide Try.prog w r b0 33 v) (h : DataW.Trod enc Try.prog w base spare held 33 v d p) (hB : bulk d ≤ Bd) : ∃ m : Mod, v = .agg m.cs.toArray ∧ ModOk w m := by
  simp only [Value.okWide, Try.underlying33] at hv
  obtain ⟨cs, rfl, hsz, _⟩ := hv
  obtain ⟨fuel, hf⟩ := h
  obtain ⟨m, hm, hok⟩ := el_Mod fuel _ _ _ hf hB
  refine ⟨m, ?_, hok⟩
  have : cs = m.cs.toArray := by
    rw [← hm]
    simp [Value.cells]
  rw [this]
set_option maxRecDepth 100000 in
theorem open_ints {r : Reach} {b0 : Nat} {v : Value} {d : DataW H} {p : List MemPlace} (hv : Value.okWide Try.prog w r b0 40 v) (h : DataW.Trod enc Try.prog w base spare held 40 v d p) (hB : bulk d ≤ Bd) : ∃ L : List Int, Sl w 1 zc v L ∧ L.length ≤ Bd := by
  obtain ⟨fuel, hf⟩ := h
  obtain ⟨v', L, e, hs, _, hl⟩ := sl_of (y := (d, p)) Try.underlying40 (sz := 1) (by kernel_rfl) (by decide) zc (fun _ => rfl) (Q := fun _ => True) hf bulk_slice bulk_elem hB (fun n cs' d p h _ => by
    obtain ⟨k, e, _, _⟩ := DataW.trod_int Try.underlying3 h
    exact ⟨k, e, trivial⟩)
  obtain rfl : v = v' := by
    obtain ⟨s, n0, c0, rfl⟩ := okWide_slice Try.underlying40 hv
    exact (List.cons.inj e).1
  exact ⟨L, hs, hl⟩
end
end Go.Proofs.Ytjafmclladiblaa.Gr
