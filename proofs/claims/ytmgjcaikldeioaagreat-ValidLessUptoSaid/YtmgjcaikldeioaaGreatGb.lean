/- The walk of the document's Calls. -/
import Derived.Test.YtmgjcaikldeioaaGreatGa
namespace Go.Proofs.YtmgjcaikldeioaaGreat.Gr
open Go Go.RowKit Kt Fm

/-- Does an instruction call a function? -/
def hit (m : Mod) (h : Nat) (x : Ins) : Bool :=
  (x.op == 16 && x.a == h) || (x.op == 17 && (decide (x.a < m.types.length) && (listedB m h && match ftype m h, m.types[x.a]? with | some t, some u => same t u | _, _ => false)))
/-- Does one function call another one? -/
def callsB (m : Mod) (f h : Nat) : Bool := decide (h < cnt m) && match codeOf m f with | some c => c.body.any (hit m h) | none => false
theorem callsB_some {m : Mod} {f h : Nat} {c : Cod} (hc : codeOf m f = some c) (hh : h < cnt m) : callsB m f h = c.body.any (hit m h) := by rw [callsB, hc, decide_eq_true hh, Bool.true_and]
theorem ftype_mem {m : Mod} {i : Nat} {t : Ft} (h : ftype m i = some t) : t ∈ m.types := by
  unfold ftype at h
  obtain ⟨k, _, hk⟩ := Option.bind_eq_some_iff.1 h
  exact List.mem_of_getElem? hk
theorem sl_range {α : Type} {W : World} {sz : Nat} {en : α → List Value} {L : List α} {g off n c : Nat} (h : Sl W sz en (.slice (some ⟨g, off, none⟩) n c) L) {i : Nat} {x : α} (hi : L[i]? = some x) : W.rangeAt g (off + i * sz) (en x) := fun _ _ hj => h.cell hi hj
theorem exec_loadR {P : Program} {op : Oper} {act : Act} {w : World} {b o : Nat} {ty : TypeId} {cs : List Value} {d : TypeDesc} (hr : w.rangeAt b o cs) (p : Operand) (ho : op.op = .load ty p) (hx : act.eval p = .pointer (some ⟨b, o, none⟩))
    (hu : P.underlying ty = some d) (hd : d.isRow = true) (hi : (P.info? ty).map (·.size) = some cs.length) : (execOp act.eval op).run P w = .ok (.value (.agg cs.toArray)) w := by
  have hl := run_loadAt_mid (P := P) w b o ty cs d hr hu hd hi
  unfold execOp
  simp only [ho, hx, hl, Sem.run_bind, Sem.run_pure, Result.andThen_ok]
theorem codeOf_mem {m : Mod} {f : Nat} {c : Cod} (h : codeOf m f = some c) : c ∈ m.codes := by
  unfold codeOf at h
  split at h
  · exact List.mem_of_getElem? h
  · cases h
theorem u8k {x : UInt8} {k : Nat} (h : (x == UInt8.ofNat k) = true) (hk : k < 256) : (x.toNat : Int) = k := by
  rw [beq_iff_eq] at h
  subst h
  simp
  omega

end Go.Proofs.YtmgjcaikldeioaaGreat.Gr
