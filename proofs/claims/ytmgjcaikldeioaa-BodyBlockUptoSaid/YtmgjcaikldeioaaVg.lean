/- What the statements' rows ask: a module, a function's type, a code, instructions that came in, opened within the bound. -/
import Derived.Test.YtmgjcaikldeioaaVe
import Derived.Test.YtmgjcaikldeioaaRw
import Derived.Test.YtmgjcaikldeioaaRwW
namespace Go.Proofs.Ytmgjcaikldeioaa.Ty
open Go Go.RowKit Go.Lib Go.WideShapes Go.ChangeShapes Go.ChangeAt Kt Fm Gr

section
variable {H : Type} {enc : TypeId × Value → H} {w : World} {base : Nat} {spare : Nat → Bool} {held : Bool}
set_option maxRecDepth 100000 in
theorem small {ds : List (DataW H)} (h : Rows.uptoSmall H ds = true) {d : DataW H} (hd : d ∈ ds) : bulk d ≤ Bd := by
  unfold Rows.uptoSmall at h
  rw [decide_eq_true_eq] at h
  exact Nat.le_trans (bulk_mem hd) h
set_option maxRecDepth 100000 in
theorem open_mod {r : Reach} {b0 : Nat} {v : Value} {d : DataW H} {p : List MemPlace} (hv : Value.okWide Try.prog w r b0 33 v) (h : DataW.Trod enc Try.prog w base spare held 33 v d p) (hB : bulk d ≤ Bd) : ∃ m : Mod, v = .agg m.cs.toArray ∧ ModOk w m := by
  simp only [Value.okWide, Try.underlying33] at hv
  obtain ⟨cs, rfl, hsz, _⟩ := hv
  obtain ⟨fuel, hf⟩ := h
  obtain ⟨m, hm, hok⟩ := el_Mod fuel _ _ _ hf hB
  refine ⟨m, ?_, hok⟩
  have : cs = m.cs.toArray := by
    rw [← hm]
    simp [Value.cells]
  rw [this]
set_option maxRecDepth 100000 in
theorem open_ft {r : Reach} {b0 : Nat} {v : Value} {d : DataW H} {p : List MemPlace} (hv : Value.okWide Try.prog w r b0 36 v) (h : DataW.Trod enc Try.prog w base spare held 36 v d p) (hB : bulk d ≤ Bd) : ∃ x : Ft, v = .agg x.cs.toArray ∧ FtOk w x := by
  simp only [Value.okWide, Try.underlying36] at hv
  obtain ⟨cs, rfl, hsz, _⟩ := hv
  obtain ⟨fuel, hf⟩ := h
  obtain ⟨m, hm, hok⟩ := el_Ft fuel _ _ _ hf hB
  refine ⟨m, ?_, hok⟩
  have : cs = m.cs.toArray := by
    rw [← hm]
    simp [Value.cells]
  rw [this]
theorem cap_Cod {n : Nat} {d : DataW H} {p : List MemPlace} {x : Cod} (h : DataW.trod enc Try.prog w base spare held n 40 x.cs = some (d, p)) : CapOk x.bv := by
  obtain ⟨xs, m, _, hy, hl, hlen, hf⟩ := DataW.trod_struct Try.underlying40 h
  have hlen' : xs.length = 2 := hlen
  have g1 : DataW.trod enc Try.prog w base spare held m 38 (x.cs.drop 1 |>.take (Try.prog.cellsOf 38)) = xs[1]? := hf 1 _ rfl
  rw [show Try.prog.cellsOf 38 = 1 from by kernel_rfl, List.getElem?_eq_getElem (by omega)] at g1
  have g2 : DataW.trod enc Try.prog w base spare held m 38 [x.bv] = some xs[1] := g1
  rcases Go.Deep.open_slice und_is g2 with ⟨hc, _⟩ | ⟨a, len, cap, m, n, D, Pl, hc, _, hle, _⟩
  · intro s n c e
    rw [(List.cons.inj hc).1] at e
    injection e with _ e1 e2
    omega
  · intro s n c e
    rw [(List.cons.inj hc).1] at e
    injection e with _ e1 e2
    omega
set_option maxRecDepth 100000 in
theorem open_cod {r : Reach} {b0 : Nat} {v : Value} {d : DataW H} {p : List MemPlace} (hv : Value.okWide Try.prog w r b0 40 v) (h : DataW.Trod enc Try.prog w base spare held 40 v d p) (hB : bulk d ≤ Bd) : ∃ x : Cod, v = .agg x.cs.toArray ∧ CodOk w x ∧ CapOk x.bv := by
  simp only [Value.okWide, Try.underlying40] at hv
  obtain ⟨cs, rfl, hsz, _⟩ := hv
  obtain ⟨fuel, hf⟩ := h
  obtain ⟨m, hm, hok⟩ := el_Cod fuel _ _ _ hf hB
  have : cs = m.cs.toArray := by
    rw [← hm]
    simp [Value.cells]
  refine ⟨m, by rw [this], hok, cap_Cod (enc := enc) (w := w) (base := base) (spare := spare) (held := held) (n := fuel) (d := d) (p := p) ?_⟩
  rw [← hm]
  exact hf
set_option maxRecDepth 100000 in
theorem open_is {r : Reach} {b0 : Nat} {v : Value} {d : DataW H} {p : List MemPlace} (hv : Value.okWide Try.prog w r b0 38 v) (h : DataW.Trod enc Try.prog w base spare held 38 v d p) (hB : bulk d ≤ Bd) : ∃ L : List Ins, Sl w 5 Ins.cs v L ∧ (∀ y ∈ L, InsOk w y) ∧ L.length ≤ Bd := by
  obtain ⟨fuel, hf⟩ := h
  obtain ⟨v', L, e, hs, hq, hl⟩ := sl_of (y := (d, p)) und_is (sz := 5) (by kernel_rfl) (by decide) Ins.cs (fun _ => rfl) (Q := fun y => InsOk w y) hf bulk_slice bulk_elem hB (fun n cs' d p h hb => el_Ins n cs' d p h hb)
  obtain rfl : v = v' := by
    obtain ⟨s, n0, c0, rfl⟩ := okWide_slice und_is hv
    exact (List.cons.inj e).1
  exact ⟨L, hs, hq, hl⟩
end
end Go.Proofs.Ytmgjcaikldeioaa.Ty
