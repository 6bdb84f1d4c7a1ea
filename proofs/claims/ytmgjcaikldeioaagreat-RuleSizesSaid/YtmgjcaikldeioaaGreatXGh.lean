/- Slices of one element, built; info of the elements of a space's rows. -/
import Derived.Test.YtmgjcaikldeioaaGreatXGg
import Derived.OwnWalk
namespace Go.Proofs.YtmgjcaikldeioaaGreat.Gr
open Go Go.RowKit Kt Fm

theorem info_ft : (Tryz.prog.info? 51).map (fun i => (i.zero.map (·.cells.size), i.size, i.bytes)) = some (some 2, 2, 48) := by kernel_rfl
theorem bs_ft (x : Ft) (w : World) : (Instr.buildSlice 22 1 #[(0, (.agg x.cs.toArray))]).run Tryz.prog w = .ok (.slice (some ⟨w.heap.size, 0, none⟩) 1 1) (w.alloc (.cells x.cs.toArray 51)) := by kernel_rfl
theorem info_ty : (Tryz.prog.info? 129).map (fun i => (i.zero.map (·.cells.size), i.size, i.bytes)) = some (some 3, 3, 56) := by kernel_rfl
theorem bs_ty (x : Ty) (w : World) : (Instr.buildSlice 118 1 #[(0, (.agg x.cs.toArray))]).run Tryz.prog w = .ok (.slice (some ⟨w.heap.size, 0, none⟩) 1 1) (w.alloc (.cells x.cs.toArray 129)) := by kernel_rfl
theorem info_lim : (Tryz.prog.info? 84).map (fun i => (i.zero.map (·.cells.size), i.size, i.bytes)) = some (some 2, 2, 16) := by kernel_rfl
theorem bs_lim (x : Lim) (w : World) : (Instr.buildSlice 25 1 #[(0, (.agg x.cs.toArray))]).run Tryz.prog w = .ok (.slice (some ⟨w.heap.size, 0, none⟩) 1 1) (w.alloc (.cells x.cs.toArray 84)) := by kernel_rfl
theorem info_gt : (Tryz.prog.info? 78).map (fun i => (i.zero.map (·.cells.size), i.size, i.bytes)) = some (some 2, 2, 2) := by kernel_rfl
theorem bs_gt (x : Gt) (w : World) : (Instr.buildSlice 119 1 #[(0, (.agg x.cs.toArray))]).run Tryz.prog w = .ok (.slice (some ⟨w.heap.size, 0, none⟩) 1 1) (w.alloc (.cells x.cs.toArray 78)) := by kernel_rfl
theorem info_u32 : (Tryz.prog.info? 28).map (fun i => (i.zero.map (·.cells.size), i.size, i.bytes)) = some (some 1, 1, 4) := by kernel_rfl
theorem bs_u32 (x : Nat) (w : World) : (Instr.buildSlice 24 1 #[(0, (.int .u32 x))]).run Tryz.prog w = .ok (.slice (some ⟨w.heap.size, 0, none⟩) 1 1) (w.alloc (.cells (u32c x).toArray 28)) := by kernel_rfl
end Go.Proofs.YtmgjcaikldeioaaGreat.Gr
