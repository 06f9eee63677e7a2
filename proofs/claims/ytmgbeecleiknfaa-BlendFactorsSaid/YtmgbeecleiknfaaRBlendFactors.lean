/- For every number and every two colours the law BlendFactors answers true: a factor says, of each channel, what the reference says. -/
import Derived.KernelRfl
import Derived.Test.YtmgbeecleiknfaaEng16
import Derived.Test.YtmgbeecleiknfaaH07
import Derived.Test.YtmgbeecleiknfaaRows
set_option linter.unusedVariables false
set_option maxRecDepth 100000
namespace Go.Proofs.Ytmgbeecleiknfaa
open Go Go.RowKit Go.WideShapes Go.ChangeShapes Go.ChangeAt

noncomputable def blendFactorsFn : Func := (Try.checked.prog.funcs[4]?).getD default
theorem blendFactorsFn_eq : Try.checked.prog.funcs[4]? = some blendFactorsFn := by kernel_rfl

def blendFactorsShapes : List Sh := [(.i .i64), (.agg [(.i .i64), (.i .i64), (.i .i64), (.i .i64)]), (.agg [(.i .i64), (.i .i64), (.i .i64), (.i .i64)])]

/-- Whatever comes in, the evaluator answers true. -/
theorem blendFactors_true : ∀ lvs, IsArgs blendFactorsShapes lvs → ∃ n h', evF cm n 4 lvs [] 0 = some (.v (.bool true), h') := by
  rintro lvs ⟨_, _, rfl, ⟨x0, ⟨⟩, l0, u0⟩, ⟨_, _, rfl, ⟨_, rfl, ⟨_, _, rfl, ⟨x1, rfl, l1, u1⟩, ⟨_, _, rfl, ⟨x2, rfl, l2, u2⟩, ⟨_, _, rfl, ⟨x3, rfl, l3, u3⟩, ⟨_, _, rfl, ⟨x4, rfl, l4, u4⟩, rfl⟩⟩⟩⟩⟩, ⟨_, _, rfl, ⟨_, rfl, ⟨_, _, rfl, ⟨x5, rfl, l5, u5⟩, ⟨_, _, rfl, ⟨x6, rfl, l6, u6⟩, ⟨_, _, rfl, ⟨x7, rfl, l7, u7⟩, ⟨_, _, rfl, ⟨x8, rfl, l8, u8⟩, rfl⟩⟩⟩⟩⟩, rfl⟩⟩⟩
  exact ⟨80, law_true (e4 0 x0 x1 x2 x3 x4 x5 x6 x7 x8)⟩

theorem blendFactors_lifted (os : Os) (started : os.Started) (H : Type) (enc : TypeId × Value → H) :
    ReturnsInHanded {} Try.checked os 4 .any (Rows.blendFactorsSpec.pre6 enc Try.checked.prog blendFactorsFn Rows.blendFactorsRow.domain false) (Rows.blendFactorsSpec.post enc Try.checked.prog blendFactorsFn false Rows.blendFactorsRow.fresh Rows.blendFactorsRow.handsOn Rows.blendFactorsRow.again) :=
  row_lifted (ks := blendFactorsShapes) (d := 20) (tb := 4) (by kernel_rfl) started (by kernel_rfl) blendFactorsFn_eq
    (ChangeSpec.witness6 (enc := enc) (C := Try.checked) false ⟨#[], #[.int .i64 0, .agg #[.int .i64 0, .int .i64 0, .int .i64 0, .int .i64 0], .agg #[.int .i64 0, .int .i64 0, .int .i64 0, .int .i64 0]], []⟩ 12 (by kernel_rfl) (by kernel_rfl) (by kernel_rfl) (by kernel_rfl))
    hcm (by kernel_rfl) (by kernel_rfl) (by kernel_rfl) (by kernel_rfl) (by kernel_rfl) (by kernel_rfl) rfl
    (fun ds h => by
      have h' : ds.length = 3 := h.trans (by kernel_rfl)
      match ds, h' with
      | [d0, d1, d2], _ => rfl)
    blendFactors_true

theorem blendFactors_holds : Rows.BlendFactorsSaid :=
  OpenClaim.holds_of_wide 4 blendFactorsFn rfl rfl rfl rfl rfl rfl rfl ⟨rfl, rfl, rfl, rfl, rfl⟩ rfl rfl rfl rfl rfl (by kernel_rfl) blendFactorsFn_eq (by kernel_rfl)
    (of_decide_eq_true (by kernel_rfl)) (by unfold Func.isWrapper; rw [if_neg (by decide +kernel)]; exact ⟨rfl, rfl⟩)
    (fun os started H enc _ => blendFactors_lifted os started H enc)

#print axioms blendFactors_holds
end Go.Proofs.Ytmgbeecleiknfaa
