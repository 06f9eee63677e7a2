/-
  No cell of these rows narrows 'for every input' (looked for: loops, veiled, ifaces, maps, wideKeys, modest, calm, conditions, laid).
  DERIVED. THE GIVEN ROWS OF THIS SEAT. 4 by the template 'for every input the law returns true; each argument reads behind the call as it read before'; 0 by the template 'total and deterministic' (their statements: YtlfapejkcjgfkaaTotals.lean).
  GIVEN WITH THE SEED: the statements are not yours to turn. If you find one false, say at which input.
  Laid BY PROGRAM, IN A SANDBOX (cutbox-rows.mjs): the forced cells as the released guide's own fill.sh prints them over the translation 8a401ba1fe33d1d3… (all of the seat's roots in one cut). By AI agents, Wed Nov 11 2026. No macro, syntax, notation, axiom, sorry.
-/
import Derived.Test.YtlfapejkcjgfkaaChecked
import GoSem.Claim
import GoSem.ClaimJoined
import GoSem.ClaimMapViews
import Derived.JoinedTies
import Derived.KernelRfl
namespace Go.Proofs.Ytlfapejkcjgfkaa
/- THE CELL 'sum', in the pinned program and in every row, IS THE sha256 OF THE DUMP (.gsa) THAT YtlfapejkcjgfkaaProg.lean LOADS. Nothing in Lean hashes anything: it is a label: what it is worth is what the hold of that sum in a sandbox is worth. -/
noncomputable def Try.pinned : Pinned := { name := "ytlfapejkcjgfkaa", sum := "8a401ba1fe33d1d32c59d5a90e46578a047520d025dda5edd5fed8c608e26561", checked := Try.checked }
namespace Rows
def none {H : Type} : Left H := { results := [], args := [] }

/-- 'temperalaw01.FixRounds': WHATEVER THE INPUT: true; the input reads as it did. -/
def fixRoundsSpec : ChangeSpec := { name := "fixRounds", fn := fun _ => fun
  | [d1, d2] => { results := [.lit (.bool true)], args := [d1, d2] }
  | _ => none }
def fixRoundsRow : OpenClaim := { program := "ytlfapejkcjgfkaa", sum := "8a401ba1fe33d1d32c59d5a90e46578a047520d025dda5edd5fed8c608e26561", func := "tempera/temperalaw01.FixRounds", spec := "fixRounds", apart := false }
def FixRoundsSaid : Prop := fixRoundsRow.holds Try.pinned (OpenSpec.ofChange fixRoundsSpec)

/-- ITS FALSE NEIGHBOUR: 'it returns false'. Refute it at one input. -/
def fixRoundsWrong : ChangeSpec := { name := "fixRounds", fn := fun _ => fun
  | [d1, d2] => { results := [.lit (.bool false)], args := [d1, d2] }
  | _ => none }
def FixRoundsWrongFalsely : Prop := fixRoundsRow.holds Try.pinned (OpenSpec.ofChange fixRoundsWrong)

/-- 'temperalaw01.FixLerps': WHATEVER THE INPUT: true; the input reads as it did. -/
def fixLerpsSpec : ChangeSpec := { name := "fixLerps", fn := fun _ => fun
  | [d1, d2, d3] => { results := [.lit (.bool true)], args := [d1, d2, d3] }
  | _ => none }
def fixLerpsRow : OpenClaim := { program := "ytlfapejkcjgfkaa", sum := "8a401ba1fe33d1d32c59d5a90e46578a047520d025dda5edd5fed8c608e26561", func := "tempera/temperalaw01.FixLerps", spec := "fixLerps", apart := false }
def FixLerpsSaid : Prop := fixLerpsRow.holds Try.pinned (OpenSpec.ofChange fixLerpsSpec)

/-- ITS FALSE NEIGHBOUR: 'it returns false'. Refute it at one input. -/
def fixLerpsWrong : ChangeSpec := { name := "fixLerps", fn := fun _ => fun
  | [d1, d2, d3] => { results := [.lit (.bool false)], args := [d1, d2, d3] }
  | _ => none }
def FixLerpsWrongFalsely : Prop := fixLerpsRow.holds Try.pinned (OpenSpec.ofChange fixLerpsWrong)

/-- 'temperalaw01.FixSats': WHATEVER THE INPUT: true; the input reads as it did. -/
def fixSatsSpec : ChangeSpec := { name := "fixSats", fn := fun _ => fun
  | [d1, d2, d3] => { results := [.lit (.bool true)], args := [d1, d2, d3] }
  | _ => none }
def fixSatsRow : OpenClaim := { program := "ytlfapejkcjgfkaa", sum := "8a401ba1fe33d1d32c59d5a90e46578a047520d025dda5edd5fed8c608e26561", func := "tempera/temperalaw01.FixSats", spec := "fixSats", apart := false }
def FixSatsSaid : Prop := fixSatsRow.holds Try.pinned (OpenSpec.ofChange fixSatsSpec)

/-- ITS FALSE NEIGHBOUR: 'it returns false'. Refute it at one input. -/
def fixSatsWrong : ChangeSpec := { name := "fixSats", fn := fun _ => fun
  | [d1, d2, d3] => { results := [.lit (.bool false)], args := [d1, d2, d3] }
  | _ => none }
def FixSatsWrongFalsely : Prop := fixSatsRow.holds Try.pinned (OpenSpec.ofChange fixSatsWrong)

/-- 'temperalaw01.FixFloors': WHATEVER THE INPUT: true; the input reads as it did. -/
def fixFloorsSpec : ChangeSpec := { name := "fixFloors", fn := fun _ => fun
  | [d1, d2] => { results := [.lit (.bool true)], args := [d1, d2] }
  | _ => none }
def fixFloorsRow : OpenClaim := { program := "ytlfapejkcjgfkaa", sum := "8a401ba1fe33d1d32c59d5a90e46578a047520d025dda5edd5fed8c608e26561", func := "tempera/temperalaw01.FixFloors", spec := "fixFloors", apart := false }
def FixFloorsSaid : Prop := fixFloorsRow.holds Try.pinned (OpenSpec.ofChange fixFloorsSpec)

/-- ITS FALSE NEIGHBOUR: 'it returns false'. Refute it at one input. -/
def fixFloorsWrong : ChangeSpec := { name := "fixFloors", fn := fun _ => fun
  | [d1, d2] => { results := [.lit (.bool false)], args := [d1, d2] }
  | _ => none }
def FixFloorsWrongFalsely : Prop := fixFloorsRow.holds Try.pinned (OpenSpec.ofChange fixFloorsWrong)

/- THE SECOND FORM. 'bulk': how many values and letters a reading holds, each counted each time it is reached (what is shared counts as often as it is met; a slice's spare places count too). A statement '..UptoSaid' is the law's where the arguments, and the package variables that the reading takes, are together of bulk at most 1048576: NARROWER than '..Said'. Prove '..Said' where nothing that the law and all that it calls make is longer than what came in: it says more and counts as full. Else prove '..UptoSaid'. A law counts once. -/
mutual
def uptoBulk {H : Type} : DataW H → Nat
  | .lit (.string bytes) => bytes.length + 1
  | .lit _ => 1
  | .nil => 1
  | .ptr d => uptoBulk d + 1
  | .slice elems spare => uptoBulkAll elems + uptoBulkAll spare + 1
  | .agg parts => uptoBulkAll parts + 1
  | .iface _ d => uptoBulk d + 1
  | .map entries => uptoBulkEntries entries + 1
  | .held _ => 1
def uptoBulkAll {H : Type} : List (DataW H) → Nat
  | [] => 0
  | d :: r => uptoBulk d + uptoBulkAll r
def uptoBulkEntries {H : Type} : List (Lit × DataW H) → Nat
  | [] => 0
  | x :: r => uptoBulkEntry x + uptoBulkEntries r
def uptoBulkEntry {H : Type} : Lit × DataW H → Nat
  | (.string bytes, d) => bytes.length + uptoBulk d + 1
  | (_, d) => uptoBulk d + 1
 end
def uptoSmall : (H : Type) → List (DataW H) → Bool := fun _ ds => decide (uptoBulkAll ds ≤ 1048576)
def OpenSpec.upto (s : _root_.Go.ChangeSpec) : _root_.Go.OpenSpec := { _root_.Go.OpenSpec.ofChange s with cond := some uptoSmall }

/-- 'temperalaw01.FixRounds', WHERE WHAT IT READS IS OF BULK AT MOST 1048576: true; the input reads as it did. -/
def fixRoundsUptoRow : OpenClaim := { program := "ytlfapejkcjgfkaa", sum := "8a401ba1fe33d1d32c59d5a90e46578a047520d025dda5edd5fed8c608e26561", func := "tempera/temperalaw01.FixRounds", spec := "fixRounds", apart := false, narrowed := true }
def FixRoundsUptoSaid : Prop := fixRoundsUptoRow.holds Try.pinned (OpenSpec.upto fixRoundsSpec)

/-- 'temperalaw01.FixLerps', WHERE WHAT IT READS IS OF BULK AT MOST 1048576: true; the input reads as it did. -/
def fixLerpsUptoRow : OpenClaim := { program := "ytlfapejkcjgfkaa", sum := "8a401ba1fe33d1d32c59d5a90e46578a047520d025dda5edd5fed8c608e26561", func := "tempera/temperalaw01.FixLerps", spec := "fixLerps", apart := false, narrowed := true }
def FixLerpsUptoSaid : Prop := fixLerpsUptoRow.holds Try.pinned (OpenSpec.upto fixLerpsSpec)

/-- 'temperalaw01.FixSats', WHERE WHAT IT READS IS OF BULK AT MOST 1048576: true; the input reads as it did. -/
def fixSatsUptoRow : OpenClaim := { program := "ytlfapejkcjgfkaa", sum := "8a401ba1fe33d1d32c59d5a90e46578a047520d025dda5edd5fed8c608e26561", func := "tempera/temperalaw01.FixSats", spec := "fixSats", apart := false, narrowed := true }
def FixSatsUptoSaid : Prop := fixSatsUptoRow.holds Try.pinned (OpenSpec.upto fixSatsSpec)

/-- 'temperalaw01.FixFloors', WHERE WHAT IT READS IS OF BULK AT MOST 1048576: true; the input reads as it did. -/
def fixFloorsUptoRow : OpenClaim := { program := "ytlfapejkcjgfkaa", sum := "8a401ba1fe33d1d32c59d5a90e46578a047520d025dda5edd5fed8c608e26561", func := "tempera/temperalaw01.FixFloors", spec := "fixFloors", apart := false, narrowed := true }
def FixFloorsUptoSaid : Prop := fixFloorsUptoRow.holds Try.pinned (OpenSpec.upto fixFloorsSpec)

end Rows
end Go.Proofs.Ytlfapejkcjgfkaa
