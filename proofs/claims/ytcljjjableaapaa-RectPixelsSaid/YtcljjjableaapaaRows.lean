/-
  No cell of these rows narrows 'for every input' (looked for: loops, veiled, ifaces, maps, wideKeys, modest, calm, conditions, laid).
  DERIVED. THE GIVEN ROWS OF THIS SEAT. 3 by the template 'for every input the law returns true; each argument reads behind the call as it read before'; 0 by the template 'total and deterministic' (their statements: YtcljjjableaapaaTotals.lean).
  GIVEN WITH THE SEED: the statements are not yours to turn. If you find one false, say at which input.
  Laid BY PROGRAM, IN A SANDBOX (cutbox-rows.mjs): the forced cells as the released guide's own fill.sh prints them over the translation 2214865cbeb2e49e… (all of the seat's roots in one cut). By AI agents, Wed Nov 11 2026. No macro, syntax, notation, axiom, sorry.
-/
import Derived.Test.YtcljjjableaapaaChecked
import GoSem.Claim
import GoSem.ClaimJoined
import GoSem.ClaimMapViews
import Derived.JoinedTies
import Derived.KernelRfl
namespace Go.Proofs.Ytcljjjableaapaa
/- THE CELL 'sum', in the pinned program and in every row, IS THE sha256 OF THE DUMP (.gsa) THAT YtcljjjableaapaaProg.lean LOADS. Nothing in Lean hashes anything: it is a label: what it is worth is what the hold of that sum in a sandbox is worth. -/
noncomputable def Try.pinned : Pinned := { name := "ytcljjjableaapaa", sum := "2214865cbeb2e49e2ae8e241ac247243bec487cd8edba35bf43d62a585c8a1ed", checked := Try.checked }
namespace Rows
def none {H : Type} : Left H := { results := [], args := [] }

/-- 'temperalaw10.RectOf': WHATEVER THE INPUT: true; the input reads as it did. -/
def rectOfSpec : ChangeSpec := { name := "rectOf", fn := fun _ => fun
  | [d1, d2] => { results := [.lit (.bool true)], args := [d1, d2] }
  | _ => none }
def rectOfRow : OpenClaim := { program := "ytcljjjableaapaa", sum := "2214865cbeb2e49e2ae8e241ac247243bec487cd8edba35bf43d62a585c8a1ed", func := "tempera/temperalaw10.RectOf", spec := "rectOf", apart := false }
def RectOfSaid : Prop := rectOfRow.holds Try.pinned (OpenSpec.ofChange rectOfSpec)

/-- ITS FALSE NEIGHBOUR: 'it returns false'. Refute it at one input. -/
def rectOfWrong : ChangeSpec := { name := "rectOf", fn := fun _ => fun
  | [d1, d2] => { results := [.lit (.bool false)], args := [d1, d2] }
  | _ => none }
def RectOfWrongFalsely : Prop := rectOfRow.holds Try.pinned (OpenSpec.ofChange rectOfWrong)

/-- 'temperalaw10.RectAnd': WHATEVER THE INPUT: true; the input reads as it did. -/
def rectAndSpec : ChangeSpec := { name := "rectAnd", fn := fun _ => fun
  | [d1, d2, d3] => { results := [.lit (.bool true)], args := [d1, d2, d3] }
  | _ => none }
def rectAndRow : OpenClaim := { program := "ytcljjjableaapaa", sum := "2214865cbeb2e49e2ae8e241ac247243bec487cd8edba35bf43d62a585c8a1ed", func := "tempera/temperalaw10.RectAnd", spec := "rectAnd", apart := false }
def RectAndSaid : Prop := rectAndRow.holds Try.pinned (OpenSpec.ofChange rectAndSpec)

/-- ITS FALSE NEIGHBOUR: 'it returns false'. Refute it at one input. -/
def rectAndWrong : ChangeSpec := { name := "rectAnd", fn := fun _ => fun
  | [d1, d2, d3] => { results := [.lit (.bool false)], args := [d1, d2, d3] }
  | _ => none }
def RectAndWrongFalsely : Prop := rectAndRow.holds Try.pinned (OpenSpec.ofChange rectAndWrong)

/-- 'temperalaw10.RectPixels': WHATEVER THE INPUT: true; the input reads as it did. -/
def rectPixelsSpec : ChangeSpec := { name := "rectPixels", fn := fun _ => fun
  | [d1, d2] => { results := [.lit (.bool true)], args := [d1, d2] }
  | _ => none }
def rectPixelsRow : OpenClaim := { program := "ytcljjjableaapaa", sum := "2214865cbeb2e49e2ae8e241ac247243bec487cd8edba35bf43d62a585c8a1ed", func := "tempera/temperalaw10.RectPixels", spec := "rectPixels", unfollowed := true, recurses := true, apart := false }
def RectPixelsSaid : Prop := rectPixelsRow.holds Try.pinned (OpenSpec.ofChange rectPixelsSpec)

/-- ITS FALSE NEIGHBOUR: 'it returns false'. Refute it at one input. -/
def rectPixelsWrong : ChangeSpec := { name := "rectPixels", fn := fun _ => fun
  | [d1, d2] => { results := [.lit (.bool false)], args := [d1, d2] }
  | _ => none }
def RectPixelsWrongFalsely : Prop := rectPixelsRow.holds Try.pinned (OpenSpec.ofChange rectPixelsWrong)

/- THE SECOND FORM. 'bulk': how many values and letters a reading holds, each counted each time it is reached (what is shared counts as often as it is met; a slice's spare places count too). A statement '..UptoSaid' is the law's where the arguments, and the package variables that the reading takes, are together of bulk at most 1048576: NARROWER than '..Said'. Prove '..Said' where nothing that the law and all that it calls make is longer than what came in: it says more and counts as full. Else prove '..UptoSaid'. A law counts once. -/
mutual
def uptoBulk {H : Type} : DataW H → Nat
  | .lit (.string bytes) => bytes.length + 1
  | .lit _ => 1
  | .nil => 1
  | .ptr d => uptoBulk d + 1
  | .slice elems spare => uptoBulkAll elems + uptoBulkAll spare + 1
  | .agg parts => uptoBulkAll parts + 1
  | .iface _ d => uptoBulk d + 1
  | .map entries => uptoBulkEntries entries + 1
  | .held _ => 1
def uptoBulkAll {H : Type} : List (DataW H) → Nat
  | [] => 0
  | d :: r => uptoBulk d + uptoBulkAll r
def uptoBulkEntries {H : Type} : List (Lit × DataW H) → Nat
  | [] => 0
  | x :: r => uptoBulkEntry x + uptoBulkEntries r
def uptoBulkEntry {H : Type} : Lit × DataW H → Nat
  | (.string bytes, d) => bytes.length + uptoBulk d + 1
  | (_, d) => uptoBulk d + 1
 end
def uptoSmall : (H : Type) → List (DataW H) → Bool := fun _ ds => decide (uptoBulkAll ds ≤ 1048576)
def OpenSpec.upto (s : _root_.Go.ChangeSpec) : _root_.Go.OpenSpec := { _root_.Go.OpenSpec.ofChange s with cond := some uptoSmall }

/-- 'temperalaw10.RectOf', WHERE WHAT IT READS IS OF BULK AT MOST 1048576: true; the input reads as it did. -/
def rectOfUptoRow : OpenClaim := { program := "ytcljjjableaapaa", sum := "2214865cbeb2e49e2ae8e241ac247243bec487cd8edba35bf43d62a585c8a1ed", func := "tempera/temperalaw10.RectOf", spec := "rectOf", apart := false, narrowed := true }
def RectOfUptoSaid : Prop := rectOfUptoRow.holds Try.pinned (OpenSpec.upto rectOfSpec)

/-- 'temperalaw10.RectAnd', WHERE WHAT IT READS IS OF BULK AT MOST 1048576: true; the input reads as it did. -/
def rectAndUptoRow : OpenClaim := { program := "ytcljjjableaapaa", sum := "2214865cbeb2e49e2ae8e241ac247243bec487cd8edba35bf43d62a585c8a1ed", func := "tempera/temperalaw10.RectAnd", spec := "rectAnd", apart := false, narrowed := true }
def RectAndUptoSaid : Prop := rectAndUptoRow.holds Try.pinned (OpenSpec.upto rectAndSpec)

/-- 'temperalaw10.RectPixels', WHERE WHAT IT READS IS OF BULK AT MOST 1048576: true; the input reads as it did. -/
def rectPixelsUptoRow : OpenClaim := { program := "ytcljjjableaapaa", sum := "2214865cbeb2e49e2ae8e241ac247243bec487cd8edba35bf43d62a585c8a1ed", func := "tempera/temperalaw10.RectPixels", spec := "rectPixels", unfollowed := true, recurses := true, apart := false, narrowed := true }
def RectPixelsUptoSaid : Prop := rectPixelsUptoRow.holds Try.pinned (OpenSpec.upto rectPixelsSpec)

end Rows
end Go.Proofs.Ytcljjjableaapaa
