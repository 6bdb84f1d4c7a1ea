/- The walk of the document's Calls. -/
import Derived.Test.YtmgjcaikldeioaaGreatXGa
namespace Go.Proofs.YtmgjcaikldeioaaGreat.Gr
open Go Go.RowKit Kt Fm

/-- Does an instruction call a function? -/
def hit (m : Mod) (h : Nat) (x : Ins) : Bool :=
 (x.op == 16 && x.a == h) || (x.op == 17 && (decide (x.a < m.types.length) && (listedB m h && match ftype m h, m.types[x.a]? with | some t, some u => same t u | _, _ => false)))
/-- Does one function call another one? -/
def callsB (m : Mod) (f h : Nat) : Bool := decide (h < cnt m) && match codeOf m f with | some c => c.body.any (hit m h) | none => false
theorem ftype_mem {m : Mod} {i : Nat} {t : Ft} (h : ftype m i = some t) : t ∈ m.types := by
 unfold ftype at h
 obtain ⟨k, _, hk⟩ := Option.bind_eq_some_iff.1 h
 exact List.mem_of_getElem? hk
theorem sl_range {α : Type} {W : World} {sz : Nat} {en : α → List Value} {L : List α} {g off n c : Nat} (h : Sl W sz en (.slice (some ⟨g, off, none⟩) n c) L) {i : Nat} {x : α} (hi : L[i]? = some x) : W.rangeAt g (off + i * sz) (en x) := fun _ _ hj => h.cell hi hj
end Go.Proofs.YtmgjcaikldeioaaGreat.Gr
