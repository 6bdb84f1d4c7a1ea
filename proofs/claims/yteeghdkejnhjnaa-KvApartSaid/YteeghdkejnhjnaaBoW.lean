/- An event built of an address and its bytes' slice, and a slice of one event: nine cells at once. -/
import Derived.Test.YteeghdkejnhjnaaBoS
namespace Go.Proofs.Yteeghdkejnhjnaa.Bo
open Go Go.RowKit Kt Ad
theorem build_ev (a : A8) (s : Option Addr) (n c : Nat) (b : List UInt8) (w : World) : (Instr.build 66 #[(0, a.v), (1, .slice s n c)]).run Try.prog w = .ok (.agg (Ev.cs ⟨a, .slice s n c, b⟩).toArray) w := by kernel_rfl
theorem bslice_ev (a : A8) (s : Option Addr) (n c : Nat) (b : List UInt8) (w : World) : (Instr.buildSlice 51 1 #[(0, .agg (Ev.cs ⟨a, .slice s n c, b⟩).toArray)]).run Try.prog w = .ok (.slice (some ⟨w.heap.size, 0, none⟩) 1 1) (w.alloc (.cells (Ev.cs ⟨a, .slice s n c, b⟩).toArray 66)) := by kernel_rfl
theorem exec_build {op : Oper} {a : Act} (x : A8) (s : Option Addr) (n c : Nat) (b : List UInt8) (p0 p1 : Operand) (ho : op.op = .build 66 #[(0, p0), (1, p1)]) (h0 : a.eval p0 = x.v) (h1 : a.eval p1 = .slice s n c) (w : World) :
    (execOp a.eval op).run Try.prog w = .ok (.value (.agg (Ev.cs ⟨x, .slice s n c, b⟩).toArray)) w := by
  have hb := build_ev x s n c b w
  unfold execOp
  simp [ho, h0, h1, hb]
theorem wp_bslice {op : Oper} {a : Act} {w : World} {K : Act → World → Prop} {Q : Exit → Act → World → Prop} (x : A8) (s : Option Addr) (n c : Nat) (b : List UInt8) (p0 : Operand) (ho : op.op = .buildSlice 51 1 #[(0, p0)]) (h0 : a.eval p0 = .agg (Ev.cs ⟨x, .slice s n c, b⟩).toArray)
    (hK : K (a.put op.dst (.slice (some ⟨w.heap.size, 0, none⟩) 1 1)) (w.alloc (.cells (Ev.cs ⟨x, .slice s n c, b⟩).toArray 66))) : Oper.wp Try.prog op a w K Q := by
  have hb := bslice_ev x s n c b w
  unfold Oper.wp execOp
  simp [ho, h0, hb]
  exact hK
end Go.Proofs.Yteeghdkejnhjnaa.Bo
