/-
  No cell of these rows narrows 'for every input' (looked for: loops, veiled, ifaces, maps, wideKeys, modest, calm, conditions, laid).
  DERIVED. THE GIVEN ROWS OF THIS SEAT. 3 by the template 'for every input the law returns true; each argument reads behind the call as it read before'; 0 by the template 'total and deterministic' (their statements: YtmgbeecleiknfaaTotals.lean).
  GIVEN WITH THE SEED: the statements are not yours to turn. If you find one false, say at which input.
  Laid BY PROGRAM, IN A SANDBOX (cutbox-rows.mjs): the forced cells as the released guide's own fill.sh prints them over the translation 1e7ad675cf981d67… (all of the seat's roots in one cut). By AI agents, Wed Nov 11 2026. No macro, syntax, notation, axiom, sorry.
-/
import Derived.Test.YtmgbeecleiknfaaChecked
import GoSem.Claim
import GoSem.ClaimJoined
import GoSem.ClaimMapViews
import Derived.JoinedTies
import Derived.KernelRfl
namespace Go.Proofs.Ytmgbeecleiknfaa
/- THE CELL 'sum', in the pinned program and in every row, IS THE sha256 OF THE DUMP (.gsa) THAT YtmgbeecleiknfaaProg.lean LOADS. Nothing in Lean hashes anything: it is a label: what it is worth is what the hold of that sum in a sandbox is worth. -/
noncomputable def Try.pinned : Pinned := { name := "ytmgbeecleiknfaa", sum := "1e7ad675cf981d678f075a8f558171ab6cfb1521694a16a7d555604bc39a26a1", checked := Try.checked }
namespace Rows
def none {H : Type} : Left H := { results := [], args := [] }

/-- 'temperalaw07.BlendMixes': WHATEVER THE INPUT: true; the input reads as it did. -/
def blendMixesSpec : ChangeSpec := { name := "blendMixes", fn := fun _ => fun
  | [d1, d2, d3] => { results := [.lit (.bool true)], args := [d1, d2, d3] }
  | _ => none }
def blendMixesRow : OpenClaim := { program := "ytmgbeecleiknfaa", sum := "1e7ad675cf981d678f075a8f558171ab6cfb1521694a16a7d555604bc39a26a1", func := "tempera/temperalaw07.BlendMixes", spec := "blendMixes", unfollowed := true, recurses := true, apart := false }
def BlendMixesSaid : Prop := blendMixesRow.holds Try.pinned (OpenSpec.ofChange blendMixesSpec)

/-- ITS FALSE NEIGHBOUR: 'it returns false'. Refute it at one input. -/
def blendMixesWrong : ChangeSpec := { name := "blendMixes", fn := fun _ => fun
  | [d1, d2, d3] => { results := [.lit (.bool false)], args := [d1, d2, d3] }
  | _ => none }
def BlendMixesWrongFalsely : Prop := blendMixesRow.holds Try.pinned (OpenSpec.ofChange blendMixesWrong)

/-- 'temperalaw07.BlendFactors': WHATEVER THE INPUT: true; the input reads as it did. -/
def blendFactorsSpec : ChangeSpec := { name := "blendFactors", fn := fun _ => fun
  | [d1, d2, d3] => { results := [.lit (.bool true)], args := [d1, d2, d3] }
  | _ => none }
def blendFactorsRow : OpenClaim := { program := "ytmgbeecleiknfaa", sum := "1e7ad675cf981d678f075a8f558171ab6cfb1521694a16a7d555604bc39a26a1", func := "tempera/temperalaw07.BlendFactors", spec := "blendFactors", unfollowed := true, recurses := true, apart := false }
def BlendFactorsSaid : Prop := blendFactorsRow.holds Try.pinned (OpenSpec.ofChange blendFactorsSpec)

/-- ITS FALSE NEIGHBOUR: 'it returns false'. Refute it at one input. -/
def blendFactorsWrong : ChangeSpec := { name := "blendFactors", fn := fun _ => fun
  | [d1, d2, d3] => { results := [.lit (.bool false)], args := [d1, d2, d3] }
  | _ => none }
def BlendFactorsWrongFalsely : Prop := blendFactorsRow.holds Try.pinned (OpenSpec.ofChange blendFactorsWrong)

/-- 'temperalaw07.BlendStands': WHATEVER THE INPUT: true; the input reads as it did. -/
def blendStandsSpec : ChangeSpec := { name := "blendStands", fn := fun _ => fun
  | [d1, d2] => { results := [.lit (.bool true)], args := [d1, d2] }
  | _ => none }
def blendStandsRow : OpenClaim := { program := "ytmgbeecleiknfaa", sum := "1e7ad675cf981d678f075a8f558171ab6cfb1521694a16a7d555604bc39a26a1", func := "tempera/temperalaw07.BlendStands", spec := "blendStands", unfollowed := true, recurses := true, apart := false }
def BlendStandsSaid : Prop := blendStandsRow.holds Try.pinned (OpenSpec.ofChange blendStandsSpec)

/-- ITS FALSE NEIGHBOUR: 'it returns false'. Refute it at one input. -/
def blendStandsWrong : ChangeSpec := { name := "blendStands", fn := fun _ => fun
  | [d1, d2] => { results := [.lit (.bool false)], args := [d1, d2] }
  | _ => none }
def BlendStandsWrongFalsely : Prop := blendStandsRow.holds Try.pinned (OpenSpec.ofChange blendStandsWrong)

/- THE SECOND FORM. 'bulk': how many values and letters a reading holds, each counted each time it is reached (what is shared counts as often as it is met; a slice's spare places count too). A statement '..UptoSaid' is the law's where the arguments, and the package variables that the reading takes, are together of bulk at most 1048576: NARROWER than '..Said'. Prove '..Said' where nothing that the law and all that it calls make is longer than what came in: it says more and counts as full. Else prove '..UptoSaid'. A law counts once. -/
mutual
def uptoBulk {H : Type} : DataW H → Nat
  | .lit (.string bytes) => bytes.length + 1
  | .lit _ => 1
  | .nil => 1
  | .ptr d => uptoBulk d + 1
  | .slice elems spare => uptoBulkAll elems + uptoBulkAll spare + 1
  | .agg parts => uptoBulkAll parts + 1
  | .iface _ d => uptoBulk d + 1
  | .map entries => uptoBulkEntries entries + 1
  | .held _ => 1
def uptoBulkAll {H : Type} : List (DataW H) → Nat
  | [] => 0
  | d :: r => uptoBulk d + uptoBulkAll r
def uptoBulkEntries {H : Type} : List (Lit × DataW H) → Nat
  | [] => 0
  | x :: r => uptoBulkEntry x + uptoBulkEntries r
def uptoBulkEntry {H : Type} : Lit × DataW H → Nat
  | (.string bytes, d) => bytes.length + uptoBulk d + 1
  | (_, d) => uptoBulk d + 1
 end
def uptoSmall : (H : Type) → List (DataW H) → Bool := fun _ ds => decide (uptoBulkAll ds ≤ 1048576)
def OpenSpec.upto (s : _root_.Go.ChangeSpec) : _root_.Go.OpenSpec := { _root_.Go.OpenSpec.ofChange s with cond := some uptoSmall }

/-- 'temperalaw07.BlendMixes', WHERE WHAT IT READS IS OF BULK AT MOST 1048576: true; the input reads as it did. -/
def blendMixesUptoRow : OpenClaim := { program := "ytmgbeecleiknfaa", sum := "1e7ad675cf981d678f075a8f558171ab6cfb1521694a16a7d555604bc39a26a1", func := "tempera/temperalaw07.BlendMixes", spec := "blendMixes", unfollowed := true, recurses := true, apart := false, narrowed := true }
def BlendMixesUptoSaid : Prop := blendMixesUptoRow.holds Try.pinned (OpenSpec.upto blendMixesSpec)

/-- 'temperalaw07.BlendFactors', WHERE WHAT IT READS IS OF BULK AT MOST 1048576: true; the input reads as it did. -/
def blendFactorsUptoRow : OpenClaim := { program := "ytmgbeecleiknfaa", sum := "1e7ad675cf981d678f075a8f558171ab6cfb1521694a16a7d555604bc39a26a1", func := "tempera/temperalaw07.BlendFactors", spec := "blendFactors", unfollowed := true, recurses := true, apart := false, narrowed := true }
def BlendFactorsUptoSaid : Prop := blendFactorsUptoRow.holds Try.pinned (OpenSpec.upto blendFactorsSpec)

/-- 'temperalaw07.BlendStands', WHERE WHAT IT READS IS OF BULK AT MOST 1048576: true; the input reads as it did. -/
def blendStandsUptoRow : OpenClaim := { program := "ytmgbeecleiknfaa", sum := "1e7ad675cf981d678f075a8f558171ab6cfb1521694a16a7d555604bc39a26a1", func := "tempera/temperalaw07.BlendStands", spec := "blendStands", unfollowed := true, recurses := true, apart := false, narrowed := true }
def BlendStandsUptoSaid : Prop := blendStandsUptoRow.holds Try.pinned (OpenSpec.upto blendStandsSpec)

end Rows
end Go.Proofs.Ytmgbeecleiknfaa
