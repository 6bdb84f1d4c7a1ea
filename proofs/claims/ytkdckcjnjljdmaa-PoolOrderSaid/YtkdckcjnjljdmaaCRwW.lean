/- The world of the witness, where no variable is read. -/
import Derived.Test.YtkdckcjnjljdmaaCRw
import Derived.Test.YtkdckcjnjljdmaaChecked
namespace Go.Proofs.Ytkdckcjnjljdmaa.Rw
open Go Go.RowKit Go.WideShapes Go.ChangeShapes Go.ChangeAt
/-- A world for the witness: the settled one. -/
noncomputable def plainWorld (os : Os) : World := World.holding Try.prog os ⟨#[], #[], []⟩
theorem met_nil (w : World) : laidMet Try.prog [] w := ⟨[], rfl, List.nodup_nil, fun _ _ h => by cases h⟩
end Go.Proofs.Ytkdckcjnjljdmaa.Rw
