/- Small laws of the walk that serve every text of this seat: an array's element by a computed index, one round of a loop after the other. -/
import Derived.Test.YtmgjcaikldeioaaGreatProg
import Derived.WalkKit
import Derived.WalkSpells
import Derived.WalkLawsBesides
import Derived.Lib.Hide
namespace Go.Proofs.YtmgjcaikldeioaaGreat.Kt
open Go Go.RowKit

/-- An element of an array's value. -/
@[go_sem] theorem index_agg {P : Program} (w : World) (t : Nat) (cs : Array Value) (k : IntKind) (i : Int) :
  (Instr.index t (.agg cs) (.int k i)).run P w = (do
   match ← underlying t with
   | .array len elem => if 0 ≤ i ∧ i < len then part elem cs (i.toNat * (← sizeOf elem)) else boundsPanic k i len .index
   | _ => stuck "Index: array or string expected").run P w := by
 simp only [Instr.index, asIntOf, Sem.run_bind, Sem.run_pure, Result.andThen_ok]
 cases (underlying t).run P w with
 | halt h w' => rfl
 | ok d w' => cases d <;> rfl
@[go_sem] theorem run_part {P : Program} (w : World) (t : Nat) (cs : Array Value) (off : Nat) :
  (part t cs off).run P w = (do if ← isAgg t then pure (.agg (cs.extract off (off + (← sizeOf t)))) else match cs[off]? with | some v => pure v | none => stuck "part: no such cell" : Sem Value).run P w := rfl

end Go.Proofs.YtmgjcaikldeioaaGreat.Kt
