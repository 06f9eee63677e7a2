/- For every axis, every number of quarters and every vector the law VecTurns answers true: who turns by a quarter goes to where the reference says. -/
import Derived.KernelRfl
import Derived.Test.YtngmoidenkfgdaaEng16
import Derived.Test.YtngmoidenkfgdaaM05
import Derived.Test.YtngmoidenkfgdaaRows
set_option linter.unusedVariables false
set_option maxRecDepth 100000
namespace Go.Proofs.Ytngmoidenkfgdaa
open Go Go.RowKit Go.WideShapes Go.ChangeShapes Go.ChangeAt

noncomputable def vecTurnsFn : Func := (Try.checked.prog.funcs[6]?).getD default
theorem vecTurnsFn_eq : Try.checked.prog.funcs[6]? = some vecTurnsFn := by kernel_rfl

def vecTurnsShapes : List Sh := [(.i .i64), (.i .i64), (.agg [(.i .i64), (.i .i64), (.i .i64), (.i .i64)])]

/-- Whatever comes in, the evaluator answers true. -/
theorem vecTurns_true : ∀ lvs, IsArgs vecTurnsShapes lvs → ∃ n h', evF cm n 6 lvs [] 0 = some (.v (.bool true), h') := by
  rintro lvs ⟨_, _, rfl, ⟨x0, ⟨⟩, l0, u0⟩, ⟨_, _, rfl, ⟨x1, ⟨⟩, l1, u1⟩, ⟨_, _, rfl, ⟨_, rfl, ⟨_, _, rfl, ⟨x2, rfl, l2, u2⟩, ⟨_, _, rfl, ⟨x3, rfl, l3, u3⟩, ⟨_, _, rfl, ⟨x4, rfl, l4, u4⟩, ⟨_, _, rfl, ⟨x5, rfl, l5, u5⟩, rfl⟩⟩⟩⟩⟩, rfl⟩⟩⟩
  exact ⟨90, law_true (e6 0 x0 x1 x2 x3 x4 x5 ⟨l1, u1⟩)⟩

theorem vecTurns_lifted (os : Os) (started : os.Started) (H : Type) (enc : TypeId × Value → H) :
    ReturnsInHanded {} Try.checked os 6 .any (Rows.vecTurnsSpec.pre6 enc Try.checked.prog vecTurnsFn Rows.vecTurnsRow.domain false) (Rows.vecTurnsSpec.post enc Try.checked.prog vecTurnsFn false Rows.vecTurnsRow.fresh Rows.vecTurnsRow.handsOn Rows.vecTurnsRow.again) :=
  row_lifted (ks := vecTurnsShapes) (d := 20) (tb := 4) (by kernel_rfl) started (by kernel_rfl) vecTurnsFn_eq
    (ChangeSpec.witness6 (enc := enc) (C := Try.checked) false ⟨#[], #[.int .i64 0, .int .i64 0, .agg #[.int .i64 0, .int .i64 0, .int .i64 0, .int .i64 0]], []⟩ 12 (by kernel_rfl) (by kernel_rfl) (by kernel_rfl) (by kernel_rfl))
    hcm (by kernel_rfl) (by kernel_rfl) (by kernel_rfl) (by kernel_rfl) (by kernel_rfl) (by kernel_rfl) rfl
    (fun ds h => by
      have h' : ds.length = 3 := h.trans (by kernel_rfl)
      match ds, h' with
      | [d0, d1, d2], _ => rfl)
    vecTurns_true

theorem vecTurns_holds : Rows.VecTurnsSaid :=
  OpenClaim.holds_of_wide 6 vecTurnsFn rfl rfl rfl rfl rfl rfl rfl ⟨rfl, rfl, rfl, rfl, rfl⟩ rfl rfl rfl rfl rfl (by kernel_rfl) vecTurnsFn_eq (by kernel_rfl)
    (of_decide_eq_true (by kernel_rfl)) (by unfold Func.isWrapper; rw [if_neg (by decide +kernel)]; exact ⟨rfl, rfl⟩)
    (fun os started H enc _ => vecTurns_lifted os started H enc)

#print axioms vecTurns_holds
end Go.Proofs.Ytngmoidenkfgdaa
