/- For every three ints the law FixSats answers true: sums, differences and products end at the bounds, and a number is held between two. -/
import Derived.KernelRfl
import Derived.Test.YtlfapejkcjgfkaaEng16
import Derived.Test.YtlfapejkcjgfkaaH01
import Derived.Test.YtlfapejkcjgfkaaRows
set_option linter.unusedVariables false
set_option maxRecDepth 100000
namespace Go.Proofs.Ytlfapejkcjgfkaa
open Go Go.RowKit Go.WideShapes Go.ChangeShapes Go.ChangeAt

noncomputable def fixSatsFn : Func := (Try.checked.prog.funcs[5]?).getD default
theorem fixSatsFn_eq : Try.checked.prog.funcs[5]? = some fixSatsFn := by kernel_rfl

def fixSatsShapes : List Sh := [(.i .i64), (.i .i64), (.i .i64)]

/-- Whatever comes in, the evaluator answers true. -/
theorem fixSats_true : ∀ lvs, IsArgs fixSatsShapes lvs → ∃ n h', evF cm n 5 lvs [] 0 = some (.v (.bool true), h') := by
  rintro lvs ⟨_, _, rfl, ⟨x0, ⟨⟩, l0, u0⟩, ⟨_, _, rfl, ⟨x1, ⟨⟩, l1, u1⟩, ⟨_, _, rfl, ⟨x2, ⟨⟩, l2, u2⟩, rfl⟩⟩⟩
  exact ⟨120, law_true (e5 0 x0 x1 x2 ⟨l0, u0⟩ ⟨l1, u1⟩ ⟨l2, u2⟩)⟩

theorem fixSats_lifted (os : Os) (started : os.Started) (H : Type) (enc : TypeId × Value → H) :
    ReturnsInHanded {} Try.checked os 5 .any (Rows.fixSatsSpec.pre6 enc Try.checked.prog fixSatsFn Rows.fixSatsRow.domain false) (Rows.fixSatsSpec.post enc Try.checked.prog fixSatsFn false Rows.fixSatsRow.fresh Rows.fixSatsRow.handsOn Rows.fixSatsRow.again) :=
  row_lifted (ks := fixSatsShapes) (d := 20) (tb := 4) (by kernel_rfl) started (by kernel_rfl) fixSatsFn_eq
    (ChangeSpec.witness6 (enc := enc) (C := Try.checked) false ⟨#[], #[.int .i64 0, .int .i64 0, .int .i64 0], []⟩ 12 (by kernel_rfl) (by kernel_rfl) (by kernel_rfl) (by kernel_rfl))
    hcm (by kernel_rfl) (by kernel_rfl) (by kernel_rfl) (by kernel_rfl) (by kernel_rfl) (by kernel_rfl) rfl
    (fun ds h => by
      have h' : ds.length = 3 := h.trans (by kernel_rfl)
      match ds, h' with
      | [d0, d1, d2], _ => rfl)
    fixSats_true

theorem fixSats_holds : Rows.FixSatsSaid :=
  OpenClaim.holds_of_wide 5 fixSatsFn rfl rfl rfl rfl rfl rfl rfl ⟨rfl, rfl, rfl, rfl, rfl⟩ rfl rfl rfl rfl rfl (by kernel_rfl) fixSatsFn_eq (by kernel_rfl)
    (of_decide_eq_true (by kernel_rfl)) (by unfold Func.isWrapper; rw [if_neg (by decide +kernel)]; exact ⟨rfl, rfl⟩)
    (fun os started H enc _ => fixSats_lifted os started H enc)

#print axioms fixSats_holds
end Go.Proofs.Ytlfapejkcjgfkaa
