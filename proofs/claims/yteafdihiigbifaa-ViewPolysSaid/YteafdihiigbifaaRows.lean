/-
  No cell of these rows narrows 'for every input' (looked for: loops, veiled, ifaces, maps, wideKeys, modest, calm, conditions, laid).
  DERIVED. THE GIVEN ROWS OF THIS SEAT. 3 by the template 'for every input the law returns true; each argument reads behind the call as it read before'; 0 by the template 'total and deterministic' (their statements: YteafdihiigbifaaTotals.lean).
  GIVEN WITH THE SEED: the statements are not yours to turn. If you find one false, say at which input.
  Laid BY PROGRAM, IN A SANDBOX (cutbox-rows.mjs): the forced cells as the released guide's own fill.sh prints them over the translation c1378a09f9a7405c… (all of the seat's roots in one cut). By AI agents, Wed Nov 11 2026. No macro, syntax, notation, axiom, sorry.
-/
import Derived.Test.YteafdihiigbifaaChecked
import GoSem.Claim
import GoSem.ClaimJoined
import GoSem.ClaimMapViews
import Derived.JoinedTies
import Derived.KernelRfl
namespace Go.Proofs.Yteafdihiigbifaa
/- THE CELL 'sum', in the pinned program and in every row, IS THE sha256 OF THE DUMP (.gsa) THAT YteafdihiigbifaaProg.lean LOADS. Nothing in Lean hashes anything: it is a label: what it is worth is what the hold of that sum in a sandbox is worth. -/
noncomputable def Try.pinned : Pinned := { name := "yteafdihiigbifaa", sum := "c1378a09f9a7405c32412af53ae6da6c6f410a65b4c9108ecba27131e606e9d2", checked := Try.checked }
namespace Rows
def none {H : Type} : Left H := { results := [], args := [] }

/-- 'temperalaw16.ViewSnaps': WHATEVER THE INPUT: true; the input reads as it did. -/
def viewSnapsSpec : ChangeSpec := { name := "viewSnaps", fn := fun _ => fun
  | [d1, d2] => { results := [.lit (.bool true)], args := [d1, d2] }
  | _ => none }
def viewSnapsRow : OpenClaim := { program := "yteafdihiigbifaa", sum := "c1378a09f9a7405c32412af53ae6da6c6f410a65b4c9108ecba27131e606e9d2", func := "tempera/temperalaw16.ViewSnaps", spec := "viewSnaps", unfollowed := true, recurses := true, apart := false }
def ViewSnapsSaid : Prop := viewSnapsRow.holds Try.pinned (OpenSpec.ofChange viewSnapsSpec)

/-- ITS FALSE NEIGHBOUR: 'it returns false'. Refute it at one input. -/
def viewSnapsWrong : ChangeSpec := { name := "viewSnaps", fn := fun _ => fun
  | [d1, d2] => { results := [.lit (.bool false)], args := [d1, d2] }
  | _ => none }
def ViewSnapsWrongFalsely : Prop := viewSnapsRow.holds Try.pinned (OpenSpec.ofChange viewSnapsWrong)

/-- 'temperalaw16.ViewOrders': WHATEVER THE INPUT: true; the input reads as it did. -/
def viewOrdersSpec : ChangeSpec := { name := "viewOrders", fn := fun _ => fun
  | [d1, d2, d3] => { results := [.lit (.bool true)], args := [d1, d2, d3] }
  | _ => none }
def viewOrdersRow : OpenClaim := { program := "yteafdihiigbifaa", sum := "c1378a09f9a7405c32412af53ae6da6c6f410a65b4c9108ecba27131e606e9d2", func := "tempera/temperalaw16.ViewOrders", spec := "viewOrders", unfollowed := true, recurses := true, apart := false }
def ViewOrdersSaid : Prop := viewOrdersRow.holds Try.pinned (OpenSpec.ofChange viewOrdersSpec)

/-- ITS FALSE NEIGHBOUR: 'it returns false'. Refute it at one input. -/
def viewOrdersWrong : ChangeSpec := { name := "viewOrders", fn := fun _ => fun
  | [d1, d2, d3] => { results := [.lit (.bool false)], args := [d1, d2, d3] }
  | _ => none }
def ViewOrdersWrongFalsely : Prop := viewOrdersRow.holds Try.pinned (OpenSpec.ofChange viewOrdersWrong)

/-- 'temperalaw16.ViewPolys': WHATEVER THE INPUT: true; the input reads as it did. -/
def viewPolysSpec : ChangeSpec := { name := "viewPolys", fn := fun _ => fun
  | [d1, d2] => { results := [.lit (.bool true)], args := [d1, d2] }
  | _ => none }
def viewPolysRow : OpenClaim := { program := "yteafdihiigbifaa", sum := "c1378a09f9a7405c32412af53ae6da6c6f410a65b4c9108ecba27131e606e9d2", func := "tempera/temperalaw16.ViewPolys", spec := "viewPolys", unfollowed := true, recurses := true, apart := false }
def ViewPolysSaid : Prop := viewPolysRow.holds Try.pinned (OpenSpec.ofChange viewPolysSpec)

/-- ITS FALSE NEIGHBOUR: 'it returns false'. Refute it at one input. -/
def viewPolysWrong : ChangeSpec := { name := "viewPolys", fn := fun _ => fun
  | [d1, d2] => { results := [.lit (.bool false)], args := [d1, d2] }
  | _ => none }
def ViewPolysWrongFalsely : Prop := viewPolysRow.holds Try.pinned (OpenSpec.ofChange viewPolysWrong)

/- THE SECOND FORM. 'bulk': how many values and letters a reading holds, each counted each time it is reached (what is shared counts as often as it is met; a slice's spare places count too). A statement '..UptoSaid' is the law's where the arguments, and the package variables that the reading takes, are together of bulk at most 1048576: NARROWER than '..Said'. Prove '..Said' where nothing that the law and all that it calls make is longer than what came in: it says more and counts as full. Else prove '..UptoSaid'. A law counts once. -/
mutual
def uptoBulk {H : Type} : DataW H → Nat
  | .lit (.string bytes) => bytes.length + 1
  | .lit _ => 1
  | .nil => 1
  | .ptr d => uptoBulk d + 1
  | .slice elems spare => uptoBulkAll elems + uptoBulkAll spare + 1
  | .agg parts => uptoBulkAll parts + 1
  | .iface _ d => uptoBulk d + 1
  | .map entries => uptoBulkEntries entries + 1
  | .held _ => 1
def uptoBulkAll {H : Type} : List (DataW H) → Nat
  | [] => 0
  | d :: r => uptoBulk d + uptoBulkAll r
def uptoBulkEntries {H : Type} : List (Lit × DataW H) → Nat
  | [] => 0
  | x :: r => uptoBulkEntry x + uptoBulkEntries r
def uptoBulkEntry {H : Type} : Lit × DataW H → Nat
  | (.string bytes, d) => bytes.length + uptoBulk d + 1
  | (_, d) => uptoBulk d + 1
 end
def uptoSmall : (H : Type) → List (DataW H) → Bool := fun _ ds => decide (uptoBulkAll ds ≤ 1048576)
def OpenSpec.upto (s : _root_.Go.ChangeSpec) : _root_.Go.OpenSpec := { _root_.Go.OpenSpec.ofChange s with cond := some uptoSmall }

/-- 'temperalaw16.ViewSnaps', WHERE WHAT IT READS IS OF BULK AT MOST 1048576: true; the input reads as it did. -/
def viewSnapsUptoRow : OpenClaim := { program := "yteafdihiigbifaa", sum := "c1378a09f9a7405c32412af53ae6da6c6f410a65b4c9108ecba27131e606e9d2", func := "tempera/temperalaw16.ViewSnaps", spec := "viewSnaps", unfollowed := true, recurses := true, apart := false, narrowed := true }
def ViewSnapsUptoSaid : Prop := viewSnapsUptoRow.holds Try.pinned (OpenSpec.upto viewSnapsSpec)

/-- 'temperalaw16.ViewOrders', WHERE WHAT IT READS IS OF BULK AT MOST 1048576: true; the input reads as it did. -/
def viewOrdersUptoRow : OpenClaim := { program := "yteafdihiigbifaa", sum := "c1378a09f9a7405c32412af53ae6da6c6f410a65b4c9108ecba27131e606e9d2", func := "tempera/temperalaw16.ViewOrders", spec := "viewOrders", unfollowed := true, recurses := true, apart := false, narrowed := true }
def ViewOrdersUptoSaid : Prop := viewOrdersUptoRow.holds Try.pinned (OpenSpec.upto viewOrdersSpec)

/-- 'temperalaw16.ViewPolys', WHERE WHAT IT READS IS OF BULK AT MOST 1048576: true; the input reads as it did. -/
def viewPolysUptoRow : OpenClaim := { program := "yteafdihiigbifaa", sum := "c1378a09f9a7405c32412af53ae6da6c6f410a65b4c9108ecba27131e606e9d2", func := "tempera/temperalaw16.ViewPolys", spec := "viewPolys", unfollowed := true, recurses := true, apart := false, narrowed := true }
def ViewPolysUptoSaid : Prop := viewPolysUptoRow.holds Try.pinned (OpenSpec.upto viewPolysSpec)

end Rows
end Go.Proofs.Yteafdihiigbifaa
