/- The world of the witness, where no variable is read. -/
import Derived.Test.YtmgjcaikldeioaaGreatYRw
import Derived.Test.YtmgjcaikldeioaaGreatChecked
namespace Go.Proofs.YtmgjcaikldeioaaGreat.Rw
open Go Go.RowKit Go.WideShapes Go.ChangeShapes Go.ChangeAt
/-- A world for the witness: the settled one. -/
noncomputable def plainWorld (os : Os) : World := World.holding Tryz.prog os ⟨#[], #[], []⟩
theorem met_nil (w : World) : laidMet Tryz.prog [] w := ⟨[], rfl, List.nodup_nil, fun _ _ h => by cases h⟩
end Go.Proofs.YtmgjcaikldeioaaGreat.Rw
