/-
  No cell of these rows narrows 'for every input' (looked for: loops, veiled, ifaces, maps, wideKeys, modest, calm, conditions, laid).
  DERIVED. THE GIVEN ROWS OF THIS SEAT. 3 by the template 'for every input the law returns true; each argument reads behind the call as it read before'; 0 by the template 'total and deterministic' (their statements: YtmadcmmkbngemaaTotals.lean).
  GIVEN WITH THE SEED: the statements are not yours to turn. If you find one false, say at which input.
  Laid BY PROGRAM, IN A SANDBOX (cutbox-rows.mjs): the forced cells as the released guide's own fill.sh prints them over the translation ddfe6bf23d9d9dbc… (all of the seat's roots in one cut). By AI agents, Wed Nov 11 2026. No macro, syntax, notation, axiom, sorry.
-/
import Derived.Test.YtmadcmmkbngemaaChecked
import GoSem.Claim
import GoSem.ClaimJoined
import GoSem.ClaimMapViews
import Derived.JoinedTies
import Derived.KernelRfl
namespace Go.Proofs.Ytmadcmmkbngemaa
/- THE CELL 'sum', in the pinned program and in every row, IS THE sha256 OF THE DUMP (.gsa) THAT YtmadcmmkbngemaaProg.lean LOADS. Nothing in Lean hashes anything: it is a label: what it is worth is what the hold of that sum in a sandbox is worth. -/
noncomputable def Try.pinned : Pinned := { name := "ytmadcmmkbngemaa", sum := "ddfe6bf23d9d9dbc9c06c9e1076059a1af68c87a42198cb3e30fbb9bbb0756b8", checked := Try.checked }
namespace Rows
def none {H : Type} : Left H := { results := [], args := [] }

/-- 'temperalaw43.HookChains': WHATEVER THE INPUT: true; the input reads as it did. -/
def hookChainsSpec : ChangeSpec := { name := "hookChains", fn := fun _ => fun
  | [d1, d2, d3] => { results := [.lit (.bool true)], args := [d1, d2, d3] }
  | _ => none }
def hookChainsRow : OpenClaim := { program := "ytmadcmmkbngemaa", sum := "ddfe6bf23d9d9dbc9c06c9e1076059a1af68c87a42198cb3e30fbb9bbb0756b8", func := "tempera/temperalaw43.HookChains", spec := "hookChains", unfollowed := true, recurses := true, apart := false }
def HookChainsSaid : Prop := hookChainsRow.holds Try.pinned (OpenSpec.ofChange hookChainsSpec)

/-- ITS FALSE NEIGHBOUR: 'it returns false'. Refute it at one input. -/
def hookChainsWrong : ChangeSpec := { name := "hookChains", fn := fun _ => fun
  | [d1, d2, d3] => { results := [.lit (.bool false)], args := [d1, d2, d3] }
  | _ => none }
def HookChainsWrongFalsely : Prop := hookChainsRow.holds Try.pinned (OpenSpec.ofChange hookChainsWrong)

/-- 'temperalaw43.HookAsks': WHATEVER THE INPUT: true; the input reads as it did. -/
def hookAsksSpec : ChangeSpec := { name := "hookAsks", fn := fun _ => fun
  | [d1, d2, d3] => { results := [.lit (.bool true)], args := [d1, d2, d3] }
  | _ => none }
def hookAsksRow : OpenClaim := { program := "ytmadcmmkbngemaa", sum := "ddfe6bf23d9d9dbc9c06c9e1076059a1af68c87a42198cb3e30fbb9bbb0756b8", func := "tempera/temperalaw43.HookAsks", spec := "hookAsks", unfollowed := true, recurses := true, apart := false }
def HookAsksSaid : Prop := hookAsksRow.holds Try.pinned (OpenSpec.ofChange hookAsksSpec)

/-- ITS FALSE NEIGHBOUR: 'it returns false'. Refute it at one input. -/
def hookAsksWrong : ChangeSpec := { name := "hookAsks", fn := fun _ => fun
  | [d1, d2, d3] => { results := [.lit (.bool false)], args := [d1, d2, d3] }
  | _ => none }
def HookAsksWrongFalsely : Prop := hookAsksRow.holds Try.pinned (OpenSpec.ofChange hookAsksWrong)

/-- 'temperalaw43.HookNone': WHATEVER THE INPUT: true; the input reads as it did. -/
def hookNoneSpec : ChangeSpec := { name := "hookNone", fn := fun _ => fun
  | [d1, d2, d3] => { results := [.lit (.bool true)], args := [d1, d2, d3] }
  | _ => none }
def hookNoneRow : OpenClaim := { program := "ytmadcmmkbngemaa", sum := "ddfe6bf23d9d9dbc9c06c9e1076059a1af68c87a42198cb3e30fbb9bbb0756b8", func := "tempera/temperalaw43.HookNone", spec := "hookNone", unfollowed := true, recurses := true, apart := false }
def HookNoneSaid : Prop := hookNoneRow.holds Try.pinned (OpenSpec.ofChange hookNoneSpec)

/-- ITS FALSE NEIGHBOUR: 'it returns false'. Refute it at one input. -/
def hookNoneWrong : ChangeSpec := { name := "hookNone", fn := fun _ => fun
  | [d1, d2, d3] => { results := [.lit (.bool false)], args := [d1, d2, d3] }
  | _ => none }
def HookNoneWrongFalsely : Prop := hookNoneRow.holds Try.pinned (OpenSpec.ofChange hookNoneWrong)

/- THE SECOND FORM. 'bulk': how many values and letters a reading holds, each counted each time it is reached (what is shared counts as often as it is met; a slice's spare places count too). A statement '..UptoSaid' is the law's where the arguments, and the package variables that the reading takes, are together of bulk at most 1048576: NARROWER than '..Said'. Prove '..Said' where nothing that the law and all that it calls make is longer than what came in: it says more and counts as full. Else prove '..UptoSaid'. A law counts once. -/
mutual
def uptoBulk {H : Type} : DataW H → Nat
  | .lit (.string bytes) => bytes.length + 1
  | .lit _ => 1
  | .nil => 1
  | .ptr d => uptoBulk d + 1
  | .slice elems spare => uptoBulkAll elems + uptoBulkAll spare + 1
  | .agg parts => uptoBulkAll parts + 1
  | .iface _ d => uptoBulk d + 1
  | .map entries => uptoBulkEntries entries + 1
  | .held _ => 1
def uptoBulkAll {H : Type} : List (DataW H) → Nat
  | [] => 0
  | d :: r => uptoBulk d + uptoBulkAll r
def uptoBulkEntries {H : Type} : List (Lit × DataW H) → Nat
  | [] => 0
  | x :: r => uptoBulkEntry x + uptoBulkEntries r
def uptoBulkEntry {H : Type} : Lit × DataW H → Nat
  | (.string bytes, d) => bytes.length + uptoBulk d + 1
  | (_, d) => uptoBulk d + 1
 end
def uptoSmall : (H : Type) → List (DataW H) → Bool := fun _ ds => decide (uptoBulkAll ds ≤ 1048576)
def OpenSpec.upto (s : _root_.Go.ChangeSpec) : _root_.Go.OpenSpec := { _root_.Go.OpenSpec.ofChange s with cond := some uptoSmall }

/-- 'temperalaw43.HookChains', WHERE WHAT IT READS IS OF BULK AT MOST 1048576: true; the input reads as it did. -/
def hookChainsUptoRow : OpenClaim := { program := "ytmadcmmkbngemaa", sum := "ddfe6bf23d9d9dbc9c06c9e1076059a1af68c87a42198cb3e30fbb9bbb0756b8", func := "tempera/temperalaw43.HookChains", spec := "hookChains", unfollowed := true, recurses := true, apart := false, narrowed := true }
def HookChainsUptoSaid : Prop := hookChainsUptoRow.holds Try.pinned (OpenSpec.upto hookChainsSpec)

/-- 'temperalaw43.HookAsks', WHERE WHAT IT READS IS OF BULK AT MOST 1048576: true; the input reads as it did. -/
def hookAsksUptoRow : OpenClaim := { program := "ytmadcmmkbngemaa", sum := "ddfe6bf23d9d9dbc9c06c9e1076059a1af68c87a42198cb3e30fbb9bbb0756b8", func := "tempera/temperalaw43.HookAsks", spec := "hookAsks", unfollowed := true, recurses := true, apart := false, narrowed := true }
def HookAsksUptoSaid : Prop := hookAsksUptoRow.holds Try.pinned (OpenSpec.upto hookAsksSpec)

/-- 'temperalaw43.HookNone', WHERE WHAT IT READS IS OF BULK AT MOST 1048576: true; the input reads as it did. -/
def hookNoneUptoRow : OpenClaim := { program := "ytmadcmmkbngemaa", sum := "ddfe6bf23d9d9dbc9c06c9e1076059a1af68c87a42198cb3e30fbb9bbb0756b8", func := "tempera/temperalaw43.HookNone", spec := "hookNone", unfollowed := true, recurses := true, apart := false, narrowed := true }
def HookNoneUptoSaid : Prop := hookNoneUptoRow.holds Try.pinned (OpenSpec.upto hookNoneSpec)

end Rows
end Go.Proofs.Ytmadcmmkbngemaa
