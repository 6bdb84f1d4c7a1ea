/-
  No cell of these rows narrows 'for every input' (looked for: loops, veiled, ifaces, maps, wideKeys, modest, calm, conditions, laid).
  DERIVED. THE GIVEN ROWS OF THIS SEAT. 7 by the template 'for every input the law returns true; each argument reads behind the call as it read before'; 0 by the template 'total and deterministic' (their statements: YteeghdkejnhjnaaTotals.lean).
  GIVEN WITH THE SEED: the statements are not yours to turn. If you find one false, say at which input.
  Laid BY PROGRAM, IN A SANDBOX (cutbox-rows.mjs): the forced cells as the released guide's own fill.sh prints them over the translation 7fe8ee41e27cfe2c… (all of the seat's roots in one cut). By AI agents, Wed Nov 11 2026. No macro, syntax, notation, axiom, sorry.
-/
import Derived.Test.YteeghdkejnhjnaaChecked
import GoSem.Claim
import GoSem.ClaimJoined
import GoSem.ClaimMapViews
import Derived.JoinedTies
import Derived.KernelRfl
namespace Go.Proofs.Yteeghdkejnhjnaa
/- THE CELL 'sum', in the pinned program and in every row, IS THE sha256 OF THE DUMP (.gsa) THAT YteeghdkejnhjnaaProg.lean LOADS. Nothing in Lean hashes anything: it is a label: what it is worth is what the hold of that sum in a sandbox is worth. -/
noncomputable def Try.pinned : Pinned := { name := "yteeghdkejnhjnaa", sum := "7fe8ee41e27cfe2c200ca48a364e88dbf7e5d20f3df51ef54598415d28e0a717", checked := Try.checked }
namespace Rows
def none {H : Type} : Left H := { results := [], args := [] }

/-- 'gabellelaw22.KvNewest': WHATEVER THE INPUT: true; the input reads as it did. -/
def kvNewestSpec : ChangeSpec := { name := "kvNewest", fn := fun _ => fun
  | [d1, d2, d3] => { results := [.lit (.bool true)], args := [d1, d2, d3] }
  | _ => none }
def kvNewestRow : OpenClaim := { program := "yteeghdkejnhjnaa", sum := "7fe8ee41e27cfe2c200ca48a364e88dbf7e5d20f3df51ef54598415d28e0a717", func := "gabelle/gabellelaw22.KvNewest", spec := "kvNewest", inPlace := ["internal/bytealg.Compare", "maps.clone"], unfollowed := true, recurses := true, plainKeys := false, apart := false }
def KvNewestSaid : Prop := kvNewestRow.holds Try.pinned (OpenSpec.ofChange kvNewestSpec)

/-- ITS FALSE NEIGHBOUR: 'it returns false'. Refute it at one input. -/
def kvNewestWrong : ChangeSpec := { name := "kvNewest", fn := fun _ => fun
  | [d1, d2, d3] => { results := [.lit (.bool false)], args := [d1, d2, d3] }
  | _ => none }
def KvNewestWrongFalsely : Prop := kvNewestRow.holds Try.pinned (OpenSpec.ofChange kvNewestWrong)

/-- 'gabellelaw22.KvApart': WHATEVER THE INPUT: true; the input reads as it did. -/
def kvApartSpec : ChangeSpec := { name := "kvApart", fn := fun _ => fun
  | [d1, d2, d3] => { results := [.lit (.bool true)], args := [d1, d2, d3] }
  | _ => none }
def kvApartRow : OpenClaim := { program := "yteeghdkejnhjnaa", sum := "7fe8ee41e27cfe2c200ca48a364e88dbf7e5d20f3df51ef54598415d28e0a717", func := "gabelle/gabellelaw22.KvApart", spec := "kvApart", inPlace := ["internal/bytealg.Compare", "maps.clone"], unfollowed := true, recurses := true, plainKeys := false, apart := false }
def KvApartSaid : Prop := kvApartRow.holds Try.pinned (OpenSpec.ofChange kvApartSpec)

/-- ITS FALSE NEIGHBOUR: 'it returns false'. Refute it at one input. -/
def kvApartWrong : ChangeSpec := { name := "kvApart", fn := fun _ => fun
  | [d1, d2, d3] => { results := [.lit (.bool false)], args := [d1, d2, d3] }
  | _ => none }
def KvApartWrongFalsely : Prop := kvApartRow.holds Try.pinned (OpenSpec.ofChange kvApartWrong)

/-- 'gabellelaw23.BookPlays': WHATEVER THE INPUT: true; the input reads as it did. -/
def bookPlaysSpec : ChangeSpec := { name := "bookPlays", fn := fun _ => fun
  | [d] => { results := [.lit (.bool true)], args := [d] }
  | _ => none }
def bookPlaysRow : OpenClaim := { program := "yteeghdkejnhjnaa", sum := "7fe8ee41e27cfe2c200ca48a364e88dbf7e5d20f3df51ef54598415d28e0a717", func := "gabelle/gabellelaw23.BookPlays", spec := "bookPlays", inPlace := ["internal/bytealg.Compare", "maps.clone"], unfollowed := true, recurses := true, plainKeys := false, apart := false }
def BookPlaysSaid : Prop := bookPlaysRow.holds Try.pinned (OpenSpec.ofChange bookPlaysSpec)

/-- ITS FALSE NEIGHBOUR: 'it returns false'. Refute it at one input. -/
def bookPlaysWrong : ChangeSpec := { name := "bookPlays", fn := fun _ => fun
  | [d] => { results := [.lit (.bool false)], args := [d] }
  | _ => none }
def BookPlaysWrongFalsely : Prop := bookPlaysRow.holds Try.pinned (OpenSpec.ofChange bookPlaysWrong)

/-- 'gabellelaw23.BookCuts': WHATEVER THE INPUT: true; the input reads as it did. -/
def bookCutsSpec : ChangeSpec := { name := "bookCuts", fn := fun _ => fun
  | [d1, d2] => { results := [.lit (.bool true)], args := [d1, d2] }
  | _ => none }
def bookCutsRow : OpenClaim := { program := "yteeghdkejnhjnaa", sum := "7fe8ee41e27cfe2c200ca48a364e88dbf7e5d20f3df51ef54598415d28e0a717", func := "gabelle/gabellelaw23.BookCuts", spec := "bookCuts", inPlace := ["internal/bytealg.Compare", "maps.clone"], unfollowed := true, recurses := true, plainKeys := false, apart := false }
def BookCutsSaid : Prop := bookCutsRow.holds Try.pinned (OpenSpec.ofChange bookCutsSpec)

/-- ITS FALSE NEIGHBOUR: 'it returns false'. Refute it at one input. -/
def bookCutsWrong : ChangeSpec := { name := "bookCuts", fn := fun _ => fun
  | [d1, d2] => { results := [.lit (.bool false)], args := [d1, d2] }
  | _ => none }
def BookCutsWrongFalsely : Prop := bookCutsRow.holds Try.pinned (OpenSpec.ofChange bookCutsWrong)

/-- 'gabellelaw22.KvPlays': WHATEVER THE INPUT: true; the input reads as it did. -/
def kvPlaysSpec : ChangeSpec := { name := "kvPlays", fn := fun _ => fun
  | [d] => { results := [.lit (.bool true)], args := [d] }
  | _ => none }
def kvPlaysRow : OpenClaim := { program := "yteeghdkejnhjnaa", sum := "7fe8ee41e27cfe2c200ca48a364e88dbf7e5d20f3df51ef54598415d28e0a717", func := "gabelle/gabellelaw22.KvPlays", spec := "kvPlays", inPlace := ["internal/bytealg.Compare", "maps.clone"], unfollowed := true, recurses := true, plainKeys := false, apart := false }
def KvPlaysSaid : Prop := kvPlaysRow.holds Try.pinned (OpenSpec.ofChange kvPlaysSpec)

/-- ITS FALSE NEIGHBOUR: 'it returns false'. Refute it at one input. -/
def kvPlaysWrong : ChangeSpec := { name := "kvPlays", fn := fun _ => fun
  | [d] => { results := [.lit (.bool false)], args := [d] }
  | _ => none }
def KvPlaysWrongFalsely : Prop := kvPlaysRow.holds Try.pinned (OpenSpec.ofChange kvPlaysWrong)

/-- 'gabellelaw21.AcctPlays': WHATEVER THE INPUT: true; the input reads as it did. -/
def acctPlaysSpec : ChangeSpec := { name := "acctPlays", fn := fun _ => fun
  | [d] => { results := [.lit (.bool true)], args := [d] }
  | _ => none }
def acctPlaysRow : OpenClaim := { program := "yteeghdkejnhjnaa", sum := "7fe8ee41e27cfe2c200ca48a364e88dbf7e5d20f3df51ef54598415d28e0a717", func := "gabelle/gabellelaw21.AcctPlays", spec := "acctPlays", inPlace := ["internal/bytealg.Compare", "math/bits.Add64", "maps.clone"], unfollowed := true, recurses := true, plainKeys := false, apart := false }
def AcctPlaysSaid : Prop := acctPlaysRow.holds Try.pinned (OpenSpec.ofChange acctPlaysSpec)

/-- ITS FALSE NEIGHBOUR: 'it returns false'. Refute it at one input. -/
def acctPlaysWrong : ChangeSpec := { name := "acctPlays", fn := fun _ => fun
  | [d] => { results := [.lit (.bool false)], args := [d] }
  | _ => none }
def AcctPlaysWrongFalsely : Prop := acctPlaysRow.holds Try.pinned (OpenSpec.ofChange acctPlaysWrong)

/-- 'gabellelaw21.AcctKeeps': WHATEVER THE INPUT: true; the input reads as it did. -/
def acctKeepsSpec : ChangeSpec := { name := "acctKeeps", fn := fun _ => fun
  | [d1, d2] => { results := [.lit (.bool true)], args := [d1, d2] }
  | _ => none }
def acctKeepsRow : OpenClaim := { program := "yteeghdkejnhjnaa", sum := "7fe8ee41e27cfe2c200ca48a364e88dbf7e5d20f3df51ef54598415d28e0a717", func := "gabelle/gabellelaw21.AcctKeeps", spec := "acctKeeps", inPlace := ["internal/bytealg.Compare", "math/bits.Add64", "maps.clone"], unfollowed := true, recurses := true, plainKeys := false, apart := false }
def AcctKeepsSaid : Prop := acctKeepsRow.holds Try.pinned (OpenSpec.ofChange acctKeepsSpec)

/-- ITS FALSE NEIGHBOUR: 'it returns false'. Refute it at one input. -/
def acctKeepsWrong : ChangeSpec := { name := "acctKeeps", fn := fun _ => fun
  | [d1, d2] => { results := [.lit (.bool false)], args := [d1, d2] }
  | _ => none }
def AcctKeepsWrongFalsely : Prop := acctKeepsRow.holds Try.pinned (OpenSpec.ofChange acctKeepsWrong)

/- THE SECOND FORM. 'bulk': how many values and letters a reading holds, each counted each time it is reached (what is shared counts as often as it is met; a slice's spare places count too). A statement '..UptoSaid' is the law's where the arguments, and the package variables that the reading takes, are together of bulk at most 1048576: NARROWER than '..Said'. Prove '..Said' where nothing that the law and all that it calls make is longer than what came in: it says more and counts as full. Else prove '..UptoSaid'. A law counts once. -/
mutual
def uptoBulk {H : Type} : DataW H → Nat
  | .lit (.string bytes) => bytes.length + 1
  | .lit _ => 1
  | .nil => 1
  | .ptr d => uptoBulk d + 1
  | .slice elems spare => uptoBulkAll elems + uptoBulkAll spare + 1
  | .agg parts => uptoBulkAll parts + 1
  | .iface _ d => uptoBulk d + 1
  | .map entries => uptoBulkEntries entries + 1
  | .held _ => 1
def uptoBulkAll {H : Type} : List (DataW H) → Nat
  | [] => 0
  | d :: r => uptoBulk d + uptoBulkAll r
def uptoBulkEntries {H : Type} : List (Lit × DataW H) → Nat
  | [] => 0
  | x :: r => uptoBulkEntry x + uptoBulkEntries r
def uptoBulkEntry {H : Type} : Lit × DataW H → Nat
  | (.string bytes, d) => bytes.length + uptoBulk d + 1
  | (_, d) => uptoBulk d + 1
 end
def uptoSmall : (H : Type) → List (DataW H) → Bool := fun _ ds => decide (uptoBulkAll ds ≤ 1048576)
def OpenSpec.upto (s : _root_.Go.ChangeSpec) : _root_.Go.OpenSpec := { _root_.Go.OpenSpec.ofChange s with cond := some uptoSmall }

/-- 'gabellelaw22.KvNewest', WHERE WHAT IT READS IS OF BULK AT MOST 1048576: true; the input reads as it did. -/
def kvNewestUptoRow : OpenClaim := { program := "yteeghdkejnhjnaa", sum := "7fe8ee41e27cfe2c200ca48a364e88dbf7e5d20f3df51ef54598415d28e0a717", func := "gabelle/gabellelaw22.KvNewest", spec := "kvNewest", inPlace := ["internal/bytealg.Compare", "maps.clone"], unfollowed := true, recurses := true, plainKeys := false, apart := false, narrowed := true }
def KvNewestUptoSaid : Prop := kvNewestUptoRow.holds Try.pinned (OpenSpec.upto kvNewestSpec)

/-- 'gabellelaw22.KvApart', WHERE WHAT IT READS IS OF BULK AT MOST 1048576: true; the input reads as it did. -/
def kvApartUptoRow : OpenClaim := { program := "yteeghdkejnhjnaa", sum := "7fe8ee41e27cfe2c200ca48a364e88dbf7e5d20f3df51ef54598415d28e0a717", func := "gabelle/gabellelaw22.KvApart", spec := "kvApart", inPlace := ["internal/bytealg.Compare", "maps.clone"], unfollowed := true, recurses := true, plainKeys := false, apart := false, narrowed := true }
def KvApartUptoSaid : Prop := kvApartUptoRow.holds Try.pinned (OpenSpec.upto kvApartSpec)

/-- 'gabellelaw23.BookPlays', WHERE WHAT IT READS IS OF BULK AT MOST 1048576: true; the input reads as it did. -/
def bookPlaysUptoRow : OpenClaim := { program := "yteeghdkejnhjnaa", sum := "7fe8ee41e27cfe2c200ca48a364e88dbf7e5d20f3df51ef54598415d28e0a717", func := "gabelle/gabellelaw23.BookPlays", spec := "bookPlays", inPlace := ["internal/bytealg.Compare", "maps.clone"], unfollowed := true, recurses := true, plainKeys := false, apart := false, narrowed := true }
def BookPlaysUptoSaid : Prop := bookPlaysUptoRow.holds Try.pinned (OpenSpec.upto bookPlaysSpec)

/-- 'gabellelaw23.BookCuts', WHERE WHAT IT READS IS OF BULK AT MOST 1048576: true; the input reads as it did. -/
def bookCutsUptoRow : OpenClaim := { program := "yteeghdkejnhjnaa", sum := "7fe8ee41e27cfe2c200ca48a364e88dbf7e5d20f3df51ef54598415d28e0a717", func := "gabelle/gabellelaw23.BookCuts", spec := "bookCuts", inPlace := ["internal/bytealg.Compare", "maps.clone"], unfollowed := true, recurses := true, plainKeys := false, apart := false, narrowed := true }
def BookCutsUptoSaid : Prop := bookCutsUptoRow.holds Try.pinned (OpenSpec.upto bookCutsSpec)

/-- 'gabellelaw22.KvPlays', WHERE WHAT IT READS IS OF BULK AT MOST 1048576: true; the input reads as it did. -/
def kvPlaysUptoRow : OpenClaim := { program := "yteeghdkejnhjnaa", sum := "7fe8ee41e27cfe2c200ca48a364e88dbf7e5d20f3df51ef54598415d28e0a717", func := "gabelle/gabellelaw22.KvPlays", spec := "kvPlays", inPlace := ["internal/bytealg.Compare", "maps.clone"], unfollowed := true, recurses := true, plainKeys := false, apart := false, narrowed := true }
def KvPlaysUptoSaid : Prop := kvPlaysUptoRow.holds Try.pinned (OpenSpec.upto kvPlaysSpec)

/-- 'gabellelaw21.AcctPlays', WHERE WHAT IT READS IS OF BULK AT MOST 1048576: true; the input reads as it did. -/
def acctPlaysUptoRow : OpenClaim := { program := "yteeghdkejnhjnaa", sum := "7fe8ee41e27cfe2c200ca48a364e88dbf7e5d20f3df51ef54598415d28e0a717", func := "gabelle/gabellelaw21.AcctPlays", spec := "acctPlays", inPlace := ["internal/bytealg.Compare", "math/bits.Add64", "maps.clone"], unfollowed := true, recurses := true, plainKeys := false, apart := false, narrowed := true }
def AcctPlaysUptoSaid : Prop := acctPlaysUptoRow.holds Try.pinned (OpenSpec.upto acctPlaysSpec)

/-- 'gabellelaw21.AcctKeeps', WHERE WHAT IT READS IS OF BULK AT MOST 1048576: true; the input reads as it did. -/
def acctKeepsUptoRow : OpenClaim := { program := "yteeghdkejnhjnaa", sum := "7fe8ee41e27cfe2c200ca48a364e88dbf7e5d20f3df51ef54598415d28e0a717", func := "gabelle/gabellelaw21.AcctKeeps", spec := "acctKeeps", inPlace := ["internal/bytealg.Compare", "math/bits.Add64", "maps.clone"], unfollowed := true, recurses := true, plainKeys := false, apart := false, narrowed := true }
def AcctKeepsUptoSaid : Prop := acctKeepsUptoRow.holds Try.pinned (OpenSpec.upto acctKeepsSpec)

end Rows
end Go.Proofs.Yteeghdkejnhjnaa
