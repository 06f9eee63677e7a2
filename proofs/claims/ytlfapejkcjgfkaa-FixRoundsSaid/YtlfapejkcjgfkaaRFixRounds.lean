/- For every two ints the law FixRounds answers true: what is divided by a power of two goes to the nearest, halves go up. -/
import Derived.KernelRfl
import Derived.Test.YtlfapejkcjgfkaaEng16
import Derived.Test.YtlfapejkcjgfkaaG01
import Derived.Test.YtlfapejkcjgfkaaRows
set_option linter.unusedVariables false
set_option maxRecDepth 100000
namespace Go.Proofs.Ytlfapejkcjgfkaa
open Go Go.RowKit Go.WideShapes Go.ChangeShapes Go.ChangeAt

noncomputable def fixRoundsFn : Func := (Try.checked.prog.funcs[3]?).getD default
theorem fixRoundsFn_eq : Try.checked.prog.funcs[3]? = some fixRoundsFn := by kernel_rfl

def fixRoundsShapes : List Sh := [(.i .i64), (.i .i64)]

/-- Whatever comes in, the evaluator answers true. -/
theorem fixRounds_true : ∀ lvs, IsArgs fixRoundsShapes lvs → ∃ n h', evF cm n 3 lvs [] 0 = some (.v (.bool true), h') := by
  rintro lvs ⟨_, _, rfl, ⟨x0, ⟨⟩, l0, u0⟩, ⟨_, _, rfl, ⟨x1, ⟨⟩, l1, u1⟩, rfl⟩⟩
  exact ⟨120, law_true (e3 0 x0 x1 ⟨l0, u0⟩)⟩

theorem fixRounds_lifted (os : Os) (started : os.Started) (H : Type) (enc : TypeId × Value → H) :
    ReturnsInHanded {} Try.checked os 3 .any (Rows.fixRoundsSpec.pre6 enc Try.checked.prog fixRoundsFn Rows.fixRoundsRow.domain false) (Rows.fixRoundsSpec.post enc Try.checked.prog fixRoundsFn false Rows.fixRoundsRow.fresh Rows.fixRoundsRow.handsOn Rows.fixRoundsRow.again) :=
  row_lifted (ks := fixRoundsShapes) (d := 20) (tb := 4) (by kernel_rfl) started (by kernel_rfl) fixRoundsFn_eq
    (ChangeSpec.witness6 (enc := enc) (C := Try.checked) false ⟨#[], #[.int .i64 0, .int .i64 0], []⟩ 12 (by kernel_rfl) (by kernel_rfl) (by kernel_rfl) (by kernel_rfl))
    hcm (by kernel_rfl) (by kernel_rfl) (by kernel_rfl) (by kernel_rfl) (by kernel_rfl) (by kernel_rfl) rfl
    (fun ds h => by
      have h' : ds.length = 2 := h.trans (by kernel_rfl)
      match ds, h' with
      | [d0, d1], _ => rfl)
    fixRounds_true

theorem fixRounds_holds : Rows.FixRoundsSaid :=
  OpenClaim.holds_of_wide 3 fixRoundsFn rfl rfl rfl rfl rfl rfl rfl ⟨rfl, rfl, rfl, rfl, rfl⟩ rfl rfl rfl rfl rfl (by kernel_rfl) fixRoundsFn_eq (by kernel_rfl)
    (of_decide_eq_true (by kernel_rfl)) (by unfold Func.isWrapper; rw [if_neg (by decide +kernel)]; exact ⟨rfl, rfl⟩)
    (fun os started H enc _ => fixRounds_lifted os started H enc)

#print axioms fixRounds_holds
end Go.Proofs.Ytlfapejkcjgfkaa
