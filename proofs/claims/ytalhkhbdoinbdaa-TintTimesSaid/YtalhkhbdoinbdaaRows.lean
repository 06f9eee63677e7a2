/-
  No cell of these rows narrows 'for every input' (looked for: loops, veiled, ifaces, maps, wideKeys, modest, calm, conditions, laid).
  DERIVED. THE GIVEN ROWS OF THIS SEAT. 3 by the template 'for every input the law returns true; each argument reads behind the call as it read before'; 0 by the template 'total and deterministic' (their statements: YtalhkhbdoinbdaaTotals.lean).
  GIVEN WITH THE SEED: the statements are not yours to turn. If you find one false, say at which input.
  Laid BY PROGRAM, IN A SANDBOX (cutbox-rows.mjs): the forced cells as the released guide's own fill.sh prints them over the translation 63b03ba68e8efba0… (all of the seat's roots in one cut). By AI agents, Wed Nov 11 2026. No macro, syntax, notation, axiom, sorry.
-/
import Derived.Test.YtalhkhbdoinbdaaChecked
import GoSem.Claim
import GoSem.ClaimJoined
import GoSem.ClaimMapViews
import Derived.JoinedTies
import Derived.KernelRfl
namespace Go.Proofs.Ytalhkhbdoinbdaa
/- THE CELL 'sum', in the pinned program and in every row, IS THE sha256 OF THE DUMP (.gsa) THAT YtalhkhbdoinbdaaProg.lean LOADS. Nothing in Lean hashes anything: it is a label: what it is worth is what the hold of that sum in a sandbox is worth. -/
noncomputable def Try.pinned : Pinned := { name := "ytalhkhbdoinbdaa", sum := "63b03ba68e8efba0d1b36e400834722bb12de7086c31d85e6d8373f0f4b735fb", checked := Try.checked }
namespace Rows
def none {H : Type} : Left H := { results := [], args := [] }

/-- 'temperalaw06.TintOf': WHATEVER THE INPUT: true; the input reads as it did. -/
def tintOfSpec : ChangeSpec := { name := "tintOf", fn := fun _ => fun
  | [d] => { results := [.lit (.bool true)], args := [d] }
  | _ => none }
def tintOfRow : OpenClaim := { program := "ytalhkhbdoinbdaa", sum := "63b03ba68e8efba0d1b36e400834722bb12de7086c31d85e6d8373f0f4b735fb", func := "tempera/temperalaw06.TintOf", spec := "tintOf", unfollowed := true, recurses := true, apart := false }
def TintOfSaid : Prop := tintOfRow.holds Try.pinned (OpenSpec.ofChange tintOfSpec)

/-- ITS FALSE NEIGHBOUR: 'it returns false'. Refute it at one input. -/
def tintOfWrong : ChangeSpec := { name := "tintOf", fn := fun _ => fun
  | [d] => { results := [.lit (.bool false)], args := [d] }
  | _ => none }
def TintOfWrongFalsely : Prop := tintOfRow.holds Try.pinned (OpenSpec.ofChange tintOfWrong)

/-- 'temperalaw06.TintPacks': WHATEVER THE INPUT: true; the input reads as it did. -/
def tintPacksSpec : ChangeSpec := { name := "tintPacks", fn := fun _ => fun
  | [d1, d2] => { results := [.lit (.bool true)], args := [d1, d2] }
  | _ => none }
def tintPacksRow : OpenClaim := { program := "ytalhkhbdoinbdaa", sum := "63b03ba68e8efba0d1b36e400834722bb12de7086c31d85e6d8373f0f4b735fb", func := "tempera/temperalaw06.TintPacks", spec := "tintPacks", unfollowed := true, recurses := true, apart := false }
def TintPacksSaid : Prop := tintPacksRow.holds Try.pinned (OpenSpec.ofChange tintPacksSpec)

/-- ITS FALSE NEIGHBOUR: 'it returns false'. Refute it at one input. -/
def tintPacksWrong : ChangeSpec := { name := "tintPacks", fn := fun _ => fun
  | [d1, d2] => { results := [.lit (.bool false)], args := [d1, d2] }
  | _ => none }
def TintPacksWrongFalsely : Prop := tintPacksRow.holds Try.pinned (OpenSpec.ofChange tintPacksWrong)

/-- 'temperalaw06.TintTimes': WHATEVER THE INPUT: true; the input reads as it did. -/
def tintTimesSpec : ChangeSpec := { name := "tintTimes", fn := fun _ => fun
  | [d1, d2] => { results := [.lit (.bool true)], args := [d1, d2] }
  | _ => none }
def tintTimesRow : OpenClaim := { program := "ytalhkhbdoinbdaa", sum := "63b03ba68e8efba0d1b36e400834722bb12de7086c31d85e6d8373f0f4b735fb", func := "tempera/temperalaw06.TintTimes", spec := "tintTimes", unfollowed := true, recurses := true, apart := false }
def TintTimesSaid : Prop := tintTimesRow.holds Try.pinned (OpenSpec.ofChange tintTimesSpec)

/-- ITS FALSE NEIGHBOUR: 'it returns false'. Refute it at one input. -/
def tintTimesWrong : ChangeSpec := { name := "tintTimes", fn := fun _ => fun
  | [d1, d2] => { results := [.lit (.bool false)], args := [d1, d2] }
  | _ => none }
def TintTimesWrongFalsely : Prop := tintTimesRow.holds Try.pinned (OpenSpec.ofChange tintTimesWrong)

/- THE SECOND FORM. 'bulk': how many values and letters a reading holds, each counted each time it is reached (what is shared counts as often as it is met; a slice's spare places count too). A statement '..UptoSaid' is the law's where the arguments, and the package variables that the reading takes, are together of bulk at most 1048576: NARROWER than '..Said'. Prove '..Said' where nothing that the law and all that it calls make is longer than what came in: it says more and counts as full. Else prove '..UptoSaid'. A law counts once. -/
mutual
def uptoBulk {H : Type} : DataW H → Nat
  | .lit (.string bytes) => bytes.length + 1
  | .lit _ => 1
  | .nil => 1
  | .ptr d => uptoBulk d + 1
  | .slice elems spare => uptoBulkAll elems + uptoBulkAll spare + 1
  | .agg parts => uptoBulkAll parts + 1
  | .iface _ d => uptoBulk d + 1
  | .map entries => uptoBulkEntries entries + 1
  | .held _ => 1
def uptoBulkAll {H : Type} : List (DataW H) → Nat
  | [] => 0
  | d :: r => uptoBulk d + uptoBulkAll r
def uptoBulkEntries {H : Type} : List (Lit × DataW H) → Nat
  | [] => 0
  | x :: r => uptoBulkEntry x + uptoBulkEntries r
def uptoBulkEntry {H : Type} : Lit × DataW H → Nat
  | (.string bytes, d) => bytes.length + uptoBulk d + 1
  | (_, d) => uptoBulk d + 1
 end
def uptoSmall : (H : Type) → List (DataW H) → Bool := fun _ ds => decide (uptoBulkAll ds ≤ 1048576)
def OpenSpec.upto (s : _root_.Go.ChangeSpec) : _root_.Go.OpenSpec := { _root_.Go.OpenSpec.ofChange s with cond := some uptoSmall }

/-- 'temperalaw06.TintOf', WHERE WHAT IT READS IS OF BULK AT MOST 1048576: true; the input reads as it did. -/
def tintOfUptoRow : OpenClaim := { program := "ytalhkhbdoinbdaa", sum := "63b03ba68e8efba0d1b36e400834722bb12de7086c31d85e6d8373f0f4b735fb", func := "tempera/temperalaw06.TintOf", spec := "tintOf", unfollowed := true, recurses := true, apart := false, narrowed := true }
def TintOfUptoSaid : Prop := tintOfUptoRow.holds Try.pinned (OpenSpec.upto tintOfSpec)

/-- 'temperalaw06.TintPacks', WHERE WHAT IT READS IS OF BULK AT MOST 1048576: true; the input reads as it did. -/
def tintPacksUptoRow : OpenClaim := { program := "ytalhkhbdoinbdaa", sum := "63b03ba68e8efba0d1b36e400834722bb12de7086c31d85e6d8373f0f4b735fb", func := "tempera/temperalaw06.TintPacks", spec := "tintPacks", unfollowed := true, recurses := true, apart := false, narrowed := true }
def TintPacksUptoSaid : Prop := tintPacksUptoRow.holds Try.pinned (OpenSpec.upto tintPacksSpec)

/-- 'temperalaw06.TintTimes', WHERE WHAT IT READS IS OF BULK AT MOST 1048576: true; the input reads as it did. -/
def tintTimesUptoRow : OpenClaim := { program := "ytalhkhbdoinbdaa", sum := "63b03ba68e8efba0d1b36e400834722bb12de7086c31d85e6d8373f0f4b735fb", func := "tempera/temperalaw06.TintTimes", spec := "tintTimes", unfollowed := true, recurses := true, apart := false, narrowed := true }
def TintTimesUptoSaid : Prop := tintTimesUptoRow.holds Try.pinned (OpenSpec.upto tintTimesSpec)

end Rows
end Go.Proofs.Ytalhkhbdoinbdaa
