/- For every two ints the law FixFloors answers true: quotients are cut downwards, or upwards, and what is left is less than the divisor. -/
import Derived.KernelRfl
import Derived.Test.YtlfapejkcjgfkaaEng16
import Derived.Test.YtlfapejkcjgfkaaG01
import Derived.Test.YtlfapejkcjgfkaaRows
set_option linter.unusedVariables false
set_option maxRecDepth 100000
namespace Go.Proofs.Ytlfapejkcjgfkaa
open Go Go.RowKit Go.WideShapes Go.ChangeShapes Go.ChangeAt

noncomputable def fixFloorsFn : Func := (Try.checked.prog.funcs[6]?).getD default
theorem fixFloorsFn_eq : Try.checked.prog.funcs[6]? = some fixFloorsFn := by kernel_rfl

def fixFloorsShapes : List Sh := [(.i .i64), (.i .i64)]

/-- Whatever comes in, the evaluator answers true. -/
theorem fixFloors_true : ∀ lvs, IsArgs fixFloorsShapes lvs → ∃ n h', evF cm n 6 lvs [] 0 = some (.v (.bool true), h') := by
  rintro lvs ⟨_, _, rfl, ⟨x0, ⟨⟩, l0, u0⟩, ⟨_, _, rfl, ⟨x1, ⟨⟩, l1, u1⟩, rfl⟩⟩
  exact ⟨20, law_true (e6 0 x0 x1 ⟨l0, u0⟩ ⟨l1, u1⟩)⟩

theorem fixFloors_lifted (os : Os) (started : os.Started) (H : Type) (enc : TypeId × Value → H) :
    ReturnsInHanded {} Try.checked os 6 .any (Rows.fixFloorsSpec.pre6 enc Try.checked.prog fixFloorsFn Rows.fixFloorsRow.domain false) (Rows.fixFloorsSpec.post enc Try.checked.prog fixFloorsFn false Rows.fixFloorsRow.fresh Rows.fixFloorsRow.handsOn Rows.fixFloorsRow.again) :=
  row_lifted (ks := fixFloorsShapes) (d := 20) (tb := 4) (by kernel_rfl) started (by kernel_rfl) fixFloorsFn_eq
    (ChangeSpec.witness6 (enc := enc) (C := Try.checked) false ⟨#[], #[.int .i64 0, .int .i64 0], []⟩ 12 (by kernel_rfl) (by kernel_rfl) (by kernel_rfl) (by kernel_rfl))
    hcm (by kernel_rfl) (by kernel_rfl) (by kernel_rfl) (by kernel_rfl) (by kernel_rfl) (by kernel_rfl) rfl
    (fun ds h => by
      have h' : ds.length = 2 := h.trans (by kernel_rfl)
      match ds, h' with
      | [d0, d1], _ => rfl)
    fixFloors_true

theorem fixFloors_holds : Rows.FixFloorsSaid :=
  OpenClaim.holds_of_wide 6 fixFloorsFn rfl rfl rfl rfl rfl rfl rfl ⟨rfl, rfl, rfl, rfl, rfl⟩ rfl rfl rfl rfl rfl (by kernel_rfl) fixFloorsFn_eq (by kernel_rfl)
    (of_decide_eq_true (by kernel_rfl)) (by unfold Func.isWrapper; rw [if_neg (by decide +kernel)]; exact ⟨rfl, rfl⟩)
    (fun os started H enc _ => fixFloors_lifted os started H enc)

#print axioms fixFloors_holds
end Go.Proofs.Ytlfapejkcjgfkaa
