/-
  No cell of these rows narrows 'for every input' (looked for: loops, veiled, ifaces, maps, wideKeys, modest, calm, conditions, laid).
  DERIVED. THE GIVEN ROWS OF THIS SEAT. 3 by the template 'for every input the law returns true; each argument reads behind the call as it read before'; 0 by the template 'total and deterministic' (their statements: YtbbmfacfmmpefaaTotals.lean).
  GIVEN WITH THE SEED: the statements are not yours to turn. If you find one false, say at which input.
  Laid BY PROGRAM, IN A SANDBOX (cutbox-rows.mjs): the forced cells as the released guide's own fill.sh prints them over the translation a2a58da783bb30b1… (all of the seat's roots in one cut). By AI agents, Wed Nov 11 2026. No macro, syntax, notation, axiom, sorry.
-/
import Derived.Test.YtbbmfacfmmpefaaChecked
import GoSem.Claim
import GoSem.ClaimJoined
import GoSem.ClaimMapViews
import Derived.JoinedTies
import Derived.KernelRfl
namespace Go.Proofs.Ytbbmfacfmmpefaa
/- THE CELL 'sum', in the pinned program and in every row, IS THE sha256 OF THE DUMP (.gsa) THAT YtbbmfacfmmpefaaProg.lean LOADS. Nothing in Lean hashes anything: it is a label: what it is worth is what the hold of that sum in a sandbox is worth. -/
noncomputable def Try.pinned : Pinned := { name := "ytbbmfacfmmpefaa", sum := "a2a58da783bb30b1fa59e120dbd133b0c7262c7ce3377154dae1798d502ae812", checked := Try.checked }
namespace Rows
def none {H : Type} : Left H := { results := [], args := [] }

/-- 'temperalaw11.TileOnce': WHATEVER THE INPUT: true; the input reads as it did. -/
def tileOnceSpec : ChangeSpec := { name := "tileOnce", fn := fun _ => fun
  | [d1, d2, d3] => { results := [.lit (.bool true)], args := [d1, d2, d3] }
  | _ => none }
def tileOnceRow : OpenClaim := { program := "ytbbmfacfmmpefaa", sum := "a2a58da783bb30b1fa59e120dbd133b0c7262c7ce3377154dae1798d502ae812", func := "tempera/temperalaw11.TileOnce", spec := "tileOnce", apart := false }
def TileOnceSaid : Prop := tileOnceRow.holds Try.pinned (OpenSpec.ofChange tileOnceSpec)

/-- ITS FALSE NEIGHBOUR: 'it returns false'. Refute it at one input. -/
def tileOnceWrong : ChangeSpec := { name := "tileOnce", fn := fun _ => fun
  | [d1, d2, d3] => { results := [.lit (.bool false)], args := [d1, d2, d3] }
  | _ => none }
def TileOnceWrongFalsely : Prop := tileOnceRow.holds Try.pinned (OpenSpec.ofChange tileOnceWrong)

/-- 'temperalaw11.TileBoxes': WHATEVER THE INPUT: true; the input reads as it did. -/
def tileBoxesSpec : ChangeSpec := { name := "tileBoxes", fn := fun _ => fun
  | [d1, d2, d3] => { results := [.lit (.bool true)], args := [d1, d2, d3] }
  | _ => none }
def tileBoxesRow : OpenClaim := { program := "ytbbmfacfmmpefaa", sum := "a2a58da783bb30b1fa59e120dbd133b0c7262c7ce3377154dae1798d502ae812", func := "tempera/temperalaw11.TileBoxes", spec := "tileBoxes", apart := false }
def TileBoxesSaid : Prop := tileBoxesRow.holds Try.pinned (OpenSpec.ofChange tileBoxesSpec)

/-- ITS FALSE NEIGHBOUR: 'it returns false'. Refute it at one input. -/
def tileBoxesWrong : ChangeSpec := { name := "tileBoxes", fn := fun _ => fun
  | [d1, d2, d3] => { results := [.lit (.bool false)], args := [d1, d2, d3] }
  | _ => none }
def TileBoxesWrongFalsely : Prop := tileBoxesRow.holds Try.pinned (OpenSpec.ofChange tileBoxesWrong)

/-- 'temperalaw11.TileCovers': WHATEVER THE INPUT: true; the input reads as it did. -/
def tileCoversSpec : ChangeSpec := { name := "tileCovers", fn := fun _ => fun
  | [d1, d2, d3] => { results := [.lit (.bool true)], args := [d1, d2, d3] }
  | _ => none }
def tileCoversRow : OpenClaim := { program := "ytbbmfacfmmpefaa", sum := "a2a58da783bb30b1fa59e120dbd133b0c7262c7ce3377154dae1798d502ae812", func := "tempera/temperalaw11.TileCovers", spec := "tileCovers", apart := false }
def TileCoversSaid : Prop := tileCoversRow.holds Try.pinned (OpenSpec.ofChange tileCoversSpec)

/-- ITS FALSE NEIGHBOUR: 'it returns false'. Refute it at one input. -/
def tileCoversWrong : ChangeSpec := { name := "tileCovers", fn := fun _ => fun
  | [d1, d2, d3] => { results := [.lit (.bool false)], args := [d1, d2, d3] }
  | _ => none }
def TileCoversWrongFalsely : Prop := tileCoversRow.holds Try.pinned (OpenSpec.ofChange tileCoversWrong)

/- THE SECOND FORM. 'bulk': how many values and letters a reading holds, each counted each time it is reached (what is shared counts as often as it is met; a slice's spare places count too). A statement '..UptoSaid' is the law's where the arguments, and the package variables that the reading takes, are together of bulk at most 1048576: NARROWER than '..Said'. Prove '..Said' where nothing that the law and all that it calls make is longer than what came in: it says more and counts as full. Else prove '..UptoSaid'. A law counts once. -/
mutual
def uptoBulk {H : Type} : DataW H → Nat
  | .lit (.string bytes) => bytes.length + 1
  | .lit _ => 1
  | .nil => 1
  | .ptr d => uptoBulk d + 1
  | .slice elems spare => uptoBulkAll elems + uptoBulkAll spare + 1
  | .agg parts => uptoBulkAll parts + 1
  | .iface _ d => uptoBulk d + 1
  | .map entries => uptoBulkEntries entries + 1
  | .held _ => 1
def uptoBulkAll {H : Type} : List (DataW H) → Nat
  | [] => 0
  | d :: r => uptoBulk d + uptoBulkAll r
def uptoBulkEntries {H : Type} : List (Lit × DataW H) → Nat
  | [] => 0
  | x :: r => uptoBulkEntry x + uptoBulkEntries r
def uptoBulkEntry {H : Type} : Lit × DataW H → Nat
  | (.string bytes, d) => bytes.length + uptoBulk d + 1
  | (_, d) => uptoBulk d + 1
 end
def uptoSmall : (H : Type) → List (DataW H) → Bool := fun _ ds => decide (uptoBulkAll ds ≤ 1048576)
def OpenSpec.upto (s : _root_.Go.ChangeSpec) : _root_.Go.OpenSpec := { _root_.Go.OpenSpec.ofChange s with cond := some uptoSmall }

/-- 'temperalaw11.TileOnce', WHERE WHAT IT READS IS OF BULK AT MOST 1048576: true; the input reads as it did. -/
def tileOnceUptoRow : OpenClaim := { program := "ytbbmfacfmmpefaa", sum := "a2a58da783bb30b1fa59e120dbd133b0c7262c7ce3377154dae1798d502ae812", func := "tempera/temperalaw11.TileOnce", spec := "tileOnce", apart := false, narrowed := true }
def TileOnceUptoSaid : Prop := tileOnceUptoRow.holds Try.pinned (OpenSpec.upto tileOnceSpec)

/-- 'temperalaw11.TileBoxes', WHERE WHAT IT READS IS OF BULK AT MOST 1048576: true; the input reads as it did. -/
def tileBoxesUptoRow : OpenClaim := { program := "ytbbmfacfmmpefaa", sum := "a2a58da783bb30b1fa59e120dbd133b0c7262c7ce3377154dae1798d502ae812", func := "tempera/temperalaw11.TileBoxes", spec := "tileBoxes", apart := false, narrowed := true }
def TileBoxesUptoSaid : Prop := tileBoxesUptoRow.holds Try.pinned (OpenSpec.upto tileBoxesSpec)

/-- 'temperalaw11.TileCovers', WHERE WHAT IT READS IS OF BULK AT MOST 1048576: true; the input reads as it did. -/
def tileCoversUptoRow : OpenClaim := { program := "ytbbmfacfmmpefaa", sum := "a2a58da783bb30b1fa59e120dbd133b0c7262c7ce3377154dae1798d502ae812", func := "tempera/temperalaw11.TileCovers", spec := "tileCovers", apart := false, narrowed := true }
def TileCoversUptoSaid : Prop := tileCoversUptoRow.holds Try.pinned (OpenSpec.upto tileCoversSpec)

end Rows
end Go.Proofs.Ytbbmfacfmmpefaa
