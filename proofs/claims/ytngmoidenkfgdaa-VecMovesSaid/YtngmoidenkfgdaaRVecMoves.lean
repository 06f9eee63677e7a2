/- For every three numbers and every vertex the law VecMoves answers true: who is moved goes just that far, and who is scaled is scaled. -/
import Derived.KernelRfl
import Derived.Test.YtngmoidenkfgdaaEng16
import Derived.Test.YtngmoidenkfgdaaK05
import Derived.Test.YtngmoidenkfgdaaRows
set_option linter.unusedVariables false
set_option maxRecDepth 100000
namespace Go.Proofs.Ytngmoidenkfgdaa
open Go Go.RowKit Go.WideShapes Go.ChangeShapes Go.ChangeAt

noncomputable def vecMovesFn : Func := (Try.checked.prog.funcs[4]?).getD default
theorem vecMovesFn_eq : Try.checked.prog.funcs[4]? = some vecMovesFn := by kernel_rfl

def vecMovesShapes : List Sh := [(.agg [(.i .i64), (.i .i64), (.i .i64)]), (.agg [(.i .i64), (.i .i64), (.i .i64), (.agg [(.i .i64), (.i .i64), (.i .i64), (.i .i64)]), (.i .i64), (.i .i64)])]

/-- Whatever comes in, the evaluator answers true. -/
theorem vecMoves_true : ∀ lvs, IsArgs vecMovesShapes lvs → ∃ n h', evF cm n 4 lvs [] 0 = some (.v (.bool true), h') := by
  rintro lvs ⟨_, _, rfl, ⟨_, rfl, ⟨_, _, rfl, ⟨x0, rfl, l0, u0⟩, ⟨_, _, rfl, ⟨x1, rfl, l1, u1⟩, ⟨_, _, rfl, ⟨x2, rfl, l2, u2⟩, rfl⟩⟩⟩⟩, ⟨_, _, rfl, ⟨_, rfl, ⟨_, _, rfl, ⟨x3, rfl, l3, u3⟩, ⟨_, _, rfl, ⟨x4, rfl, l4, u4⟩, ⟨_, _, rfl, ⟨x5, rfl, l5, u5⟩, ⟨_, _, rfl, ⟨_, _, rfl, ⟨x6, rfl, l6, u6⟩, ⟨_, _, rfl, ⟨x7, rfl, l7, u7⟩, ⟨_, _, rfl, ⟨x8, rfl, l8, u8⟩, ⟨_, _, rfl, ⟨x9, rfl, l9, u9⟩, rfl⟩⟩⟩⟩, ⟨_, _, rfl, ⟨x10, rfl, l10, u10⟩, ⟨_, _, rfl, ⟨x11, rfl, l11, u11⟩, rfl⟩⟩⟩⟩⟩⟩⟩, rfl⟩⟩
  exact ⟨90, law_true (e4 0 x0 x1 x2 x3 x4 x5 x6 x7 x8 x9 x10 x11)⟩

theorem vecMoves_lifted (os : Os) (started : os.Started) (H : Type) (enc : TypeId × Value → H) :
    ReturnsInHanded {} Try.checked os 4 .any (Rows.vecMovesSpec.pre6 enc Try.checked.prog vecMovesFn Rows.vecMovesRow.domain false) (Rows.vecMovesSpec.post enc Try.checked.prog vecMovesFn false Rows.vecMovesRow.fresh Rows.vecMovesRow.handsOn Rows.vecMovesRow.again) :=
  row_lifted (ks := vecMovesShapes) (d := 20) (tb := 4) (by kernel_rfl) started (by kernel_rfl) vecMovesFn_eq
    (ChangeSpec.witness6 (enc := enc) (C := Try.checked) false ⟨#[], #[.agg #[.int .i64 0, .int .i64 0, .int .i64 0], .agg #[.int .i64 0, .int .i64 0, .int .i64 0, .int .i64 0, .int .i64 0, .int .i64 0, .int .i64 0, .int .i64 0, .int .i64 0]], []⟩ 12 (by kernel_rfl) (by kernel_rfl) (by kernel_rfl) (by kernel_rfl))
    hcm (by kernel_rfl) (by kernel_rfl) (by kernel_rfl) (by kernel_rfl) (by kernel_rfl) (by kernel_rfl) rfl
    (fun ds h => by
      have h' : ds.length = 2 := h.trans (by kernel_rfl)
      match ds, h' with
      | [d0, d1], _ => rfl)
    vecMoves_true

theorem vecMoves_holds : Rows.VecMovesSaid :=
  OpenClaim.holds_of_wide 4 vecMovesFn rfl rfl rfl rfl rfl rfl rfl ⟨rfl, rfl, rfl, rfl, rfl⟩ rfl rfl rfl rfl rfl (by kernel_rfl) vecMovesFn_eq (by kernel_rfl)
    (of_decide_eq_true (by kernel_rfl)) (by unfold Func.isWrapper; rw [if_neg (by decide +kernel)]; exact ⟨rfl, rfl⟩)
    (fun os started H enc _ => vecMoves_lifted os started H enc)

#print axioms vecMoves_holds
end Go.Proofs.Ytngmoidenkfgdaa
