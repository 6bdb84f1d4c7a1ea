/- A call read out of a script: nineteen cells at once. -/
import Derived.Test.YteeghdkejnhjnaaOp
import Derived.Deep.MidRow
import Derived.Deep.WholeRow
namespace Go.Proofs.Yteeghdkejnhjnaa.Ac
open Go Go.RowKit Kt Ad
theorem sizeDo : (Try.prog.info? 89).map (·.size) = some 19 := by kernel_rfl
theorem wl_load {ops : Array Oper} {rest : List Oper} {op : Oper} {a : Act} {w : World} {Q : Exit → Act → World → Prop} (x : Do) (b o : Nat) (h : DoAt w b o x) (p : Operand) (hgd : op.guard = none) (ho : op.op = .load 89 p)
    (hx : a.eval p = .pointer (some ⟨b, o, none⟩)) (hk : wpList Try.prog ops Q rest (a.put op.dst (.agg x.cs.toArray)) w) : wpList Try.prog ops Q (op :: rest) a w :=
  wpList_load_mid hgd 89 p ho b o hx x.cs _ h Try.underlying89 rfl sizeDo hk
theorem oneCellDo (x : Do) : x.cs.toArray.all (·.oneCell') = true := by simp [Do.cs, Value.oneCell']
theorem wl_store {ops : Array Oper} {rest : List Oper} {op : Oper} {a : Act} {w : World} {Q : Exit → Act → World → Prop} (x : Do) (p y : Operand) {c0 : Array Value} (hgd : op.guard = none) (ho : op.op = .store 89 p y)
    (hx : a.eval p = .pointer (some ⟨w.heap.size, 0, none⟩)) (hy : a.eval y = .agg x.cs.toArray) (hs : c0.size = 19)
    (hk : wpList Try.prog ops Q rest (a.put op.dst undef) (w.alloc (.cells x.cs.toArray 89))) : wpList Try.prog ops Q (op :: rest) a (w.alloc (.cells c0 89)) := by
  refine wpList_plain hgd fun _ hK => ?_
  unfold Oper.wp execOp
  simp only [ho, hx, hy, run_storeAt_new (P := Try.prog) w 89 c0 x.cs.toArray sizeDo hs (oneCellDo x), Sem.run_bind, Sem.run_pure, Result.andThen_ok]
  exact hK _ _ hk
end Go.Proofs.Yteeghdkejnhjnaa.Ac
