/-
  No cell of these rows narrows 'for every input' (looked for: loops, veiled, ifaces, maps, wideKeys, modest, calm, conditions, laid).
  DERIVED. THE GIVEN ROWS OF THIS SEAT. 4 by the template 'for every input the law returns true; each argument reads behind the call as it read before'; 0 by the template 'total and deterministic' (their statements: YtngmoidenkfgdaaTotals.lean).
  GIVEN WITH THE SEED: the statements are not yours to turn. If you find one false, say at which input.
  Laid BY PROGRAM, IN A SANDBOX (cutbox-rows.mjs): the forced cells as the released guide's own fill.sh prints them over the translation 1c32c311592628ed… (all of the seat's roots in one cut). By AI agents, Wed Nov 11 2026. No macro, syntax, notation, axiom, sorry.
-/
import Derived.Test.YtngmoidenkfgdaaChecked
import GoSem.Claim
import GoSem.ClaimJoined
import GoSem.ClaimMapViews
import Derived.JoinedTies
import Derived.KernelRfl
namespace Go.Proofs.Ytngmoidenkfgdaa
/- THE CELL 'sum', in the pinned program and in every row, IS THE sha256 OF THE DUMP (.gsa) THAT YtngmoidenkfgdaaProg.lean LOADS. Nothing in Lean hashes anything: it is a label: what it is worth is what the hold of that sum in a sandbox is worth. -/
noncomputable def Try.pinned : Pinned := { name := "ytngmoidenkfgdaa", sum := "1c32c311592628ed1c9464dda51fbadc5c484792c84a4f3cdb98f6dd72dc3c3a", checked := Try.checked }
namespace Rows
def none {H : Type} : Left H := { results := [], args := [] }

/-- 'temperalaw05.VecApplies': WHATEVER THE INPUT: true; the input reads as it did. -/
def vecAppliesSpec : ChangeSpec := { name := "vecApplies", fn := fun _ => fun
  | [d1, d2] => { results := [.lit (.bool true)], args := [d1, d2] }
  | _ => none }
def vecAppliesRow : OpenClaim := { program := "ytngmoidenkfgdaa", sum := "1c32c311592628ed1c9464dda51fbadc5c484792c84a4f3cdb98f6dd72dc3c3a", func := "tempera/temperalaw05.VecApplies", spec := "vecApplies", apart := false }
def VecAppliesSaid : Prop := vecAppliesRow.holds Try.pinned (OpenSpec.ofChange vecAppliesSpec)

/-- ITS FALSE NEIGHBOUR: 'it returns false'. Refute it at one input. -/
def vecAppliesWrong : ChangeSpec := { name := "vecApplies", fn := fun _ => fun
  | [d1, d2] => { results := [.lit (.bool false)], args := [d1, d2] }
  | _ => none }
def VecAppliesWrongFalsely : Prop := vecAppliesRow.holds Try.pinned (OpenSpec.ofChange vecAppliesWrong)

/-- 'temperalaw05.VecMoves': WHATEVER THE INPUT: true; the input reads as it did. -/
def vecMovesSpec : ChangeSpec := { name := "vecMoves", fn := fun _ => fun
  | [d1, d2] => { results := [.lit (.bool true)], args := [d1, d2] }
  | _ => none }
def vecMovesRow : OpenClaim := { program := "ytngmoidenkfgdaa", sum := "1c32c311592628ed1c9464dda51fbadc5c484792c84a4f3cdb98f6dd72dc3c3a", func := "tempera/temperalaw05.VecMoves", spec := "vecMoves", apart := false }
def VecMovesSaid : Prop := vecMovesRow.holds Try.pinned (OpenSpec.ofChange vecMovesSpec)

/-- ITS FALSE NEIGHBOUR: 'it returns false'. Refute it at one input. -/
def vecMovesWrong : ChangeSpec := { name := "vecMoves", fn := fun _ => fun
  | [d1, d2] => { results := [.lit (.bool false)], args := [d1, d2] }
  | _ => none }
def VecMovesWrongFalsely : Prop := vecMovesRow.holds Try.pinned (OpenSpec.ofChange vecMovesWrong)

/-- 'temperalaw05.VecMuls': WHATEVER THE INPUT: true; the input reads as it did. -/
def vecMulsSpec : ChangeSpec := { name := "vecMuls", fn := fun _ => fun
  | [d1, d2] => { results := [.lit (.bool true)], args := [d1, d2] }
  | _ => none }
def vecMulsRow : OpenClaim := { program := "ytngmoidenkfgdaa", sum := "1c32c311592628ed1c9464dda51fbadc5c484792c84a4f3cdb98f6dd72dc3c3a", func := "tempera/temperalaw05.VecMuls", spec := "vecMuls", apart := false }
def VecMulsSaid : Prop := vecMulsRow.holds Try.pinned (OpenSpec.ofChange vecMulsSpec)

/-- ITS FALSE NEIGHBOUR: 'it returns false'. Refute it at one input. -/
def vecMulsWrong : ChangeSpec := { name := "vecMuls", fn := fun _ => fun
  | [d1, d2] => { results := [.lit (.bool false)], args := [d1, d2] }
  | _ => none }
def VecMulsWrongFalsely : Prop := vecMulsRow.holds Try.pinned (OpenSpec.ofChange vecMulsWrong)

/-- 'temperalaw05.VecTurns': WHATEVER THE INPUT: true; the input reads as it did. -/
def vecTurnsSpec : ChangeSpec := { name := "vecTurns", fn := fun _ => fun
  | [d1, d2, d3] => { results := [.lit (.bool true)], args := [d1, d2, d3] }
  | _ => none }
def vecTurnsRow : OpenClaim := { program := "ytngmoidenkfgdaa", sum := "1c32c311592628ed1c9464dda51fbadc5c484792c84a4f3cdb98f6dd72dc3c3a", func := "tempera/temperalaw05.VecTurns", spec := "vecTurns", unfollowed := true, recurses := true, apart := false }
def VecTurnsSaid : Prop := vecTurnsRow.holds Try.pinned (OpenSpec.ofChange vecTurnsSpec)

/-- ITS FALSE NEIGHBOUR: 'it returns false'. Refute it at one input. -/
def vecTurnsWrong : ChangeSpec := { name := "vecTurns", fn := fun _ => fun
  | [d1, d2, d3] => { results := [.lit (.bool false)], args := [d1, d2, d3] }
  | _ => none }
def VecTurnsWrongFalsely : Prop := vecTurnsRow.holds Try.pinned (OpenSpec.ofChange vecTurnsWrong)

/- THE SECOND FORM. 'bulk': how many values and letters a reading holds, each counted each time it is reached (what is shared counts as often as it is met; a slice's spare places count too). A statement '..UptoSaid' is the law's where the arguments, and the package variables that the reading takes, are together of bulk at most 1048576: NARROWER than '..Said'. Prove '..Said' where nothing that the law and all that it calls make is longer than what came in: it says more and counts as full. Else prove '..UptoSaid'. A law counts once. -/
mutual
def uptoBulk {H : Type} : DataW H → Nat
  | .lit (.string bytes) => bytes.length + 1
  | .lit _ => 1
  | .nil => 1
  | .ptr d => uptoBulk d + 1
  | .slice elems spare => uptoBulkAll elems + uptoBulkAll spare + 1
  | .agg parts => uptoBulkAll parts + 1
  | .iface _ d => uptoBulk d + 1
  | .map entries => uptoBulkEntries entries + 1
  | .held _ => 1
def uptoBulkAll {H : Type} : List (DataW H) → Nat
  | [] => 0
  | d :: r => uptoBulk d + uptoBulkAll r
def uptoBulkEntries {H : Type} : List (Lit × DataW H) → Nat
  | [] => 0
  | x :: r => uptoBulkEntry x + uptoBulkEntries r
def uptoBulkEntry {H : Type} : Lit × DataW H → Nat
  | (.string bytes, d) => bytes.length + uptoBulk d + 1
  | (_, d) => uptoBulk d + 1
 end
def uptoSmall : (H : Type) → List (DataW H) → Bool := fun _ ds => decide (uptoBulkAll ds ≤ 1048576)
def OpenSpec.upto (s : _root_.Go.ChangeSpec) : _root_.Go.OpenSpec := { _root_.Go.OpenSpec.ofChange s with cond := some uptoSmall }

/-- 'temperalaw05.VecApplies', WHERE WHAT IT READS IS OF BULK AT MOST 1048576: true; the input reads as it did. -/
def vecAppliesUptoRow : OpenClaim := { program := "ytngmoidenkfgdaa", sum := "1c32c311592628ed1c9464dda51fbadc5c484792c84a4f3cdb98f6dd72dc3c3a", func := "tempera/temperalaw05.VecApplies", spec := "vecApplies", apart := false, narrowed := true }
def VecAppliesUptoSaid : Prop := vecAppliesUptoRow.holds Try.pinned (OpenSpec.upto vecAppliesSpec)

/-- 'temperalaw05.VecMoves', WHERE WHAT IT READS IS OF BULK AT MOST 1048576: true; the input reads as it did. -/
def vecMovesUptoRow : OpenClaim := { program := "ytngmoidenkfgdaa", sum := "1c32c311592628ed1c9464dda51fbadc5c484792c84a4f3cdb98f6dd72dc3c3a", func := "tempera/temperalaw05.VecMoves", spec := "vecMoves", apart := false, narrowed := true }
def VecMovesUptoSaid : Prop := vecMovesUptoRow.holds Try.pinned (OpenSpec.upto vecMovesSpec)

/-- 'temperalaw05.VecMuls', WHERE WHAT IT READS IS OF BULK AT MOST 1048576: true; the input reads as it did. -/
def vecMulsUptoRow : OpenClaim := { program := "ytngmoidenkfgdaa", sum := "1c32c311592628ed1c9464dda51fbadc5c484792c84a4f3cdb98f6dd72dc3c3a", func := "tempera/temperalaw05.VecMuls", spec := "vecMuls", apart := false, narrowed := true }
def VecMulsUptoSaid : Prop := vecMulsUptoRow.holds Try.pinned (OpenSpec.upto vecMulsSpec)

/-- 'temperalaw05.VecTurns', WHERE WHAT IT READS IS OF BULK AT MOST 1048576: true; the input reads as it did. -/
def vecTurnsUptoRow : OpenClaim := { program := "ytngmoidenkfgdaa", sum := "1c32c311592628ed1c9464dda51fbadc5c484792c84a4f3cdb98f6dd72dc3c3a", func := "tempera/temperalaw05.VecTurns", spec := "vecTurns", unfollowed := true, recurses := true, apart := false, narrowed := true }
def VecTurnsUptoSaid : Prop := vecTurnsUptoRow.holds Try.pinned (OpenSpec.upto vecTurnsSpec)

end Rows
end Go.Proofs.Ytngmoidenkfgdaa
