/- For every two colours the law BlendStands answers true: by the plain blend what is new stands; a colour that is all there, put over another one, stands; one that is not there leaves it. -/
import Derived.KernelRfl
import Derived.Test.YtmgbeecleiknfaaEng16
import Derived.Test.YtmgbeecleiknfaaJ07
import Derived.Test.YtmgbeecleiknfaaRows
set_option linter.unusedVariables false
set_option maxRecDepth 100000
namespace Go.Proofs.Ytmgbeecleiknfaa
open Go Go.RowKit Go.WideShapes Go.ChangeShapes Go.ChangeAt

noncomputable def blendStandsFn : Func := (Try.checked.prog.funcs[5]?).getD default
theorem blendStandsFn_eq : Try.checked.prog.funcs[5]? = some blendStandsFn := by kernel_rfl

def blendStandsShapes : List Sh := [(.agg [(.i .i64), (.i .i64), (.i .i64), (.i .i64)]), (.agg [(.i .i64), (.i .i64), (.i .i64), (.i .i64)])]

/-- Whatever comes in, the evaluator answers true. -/
theorem blendStands_true : ∀ lvs, IsArgs blendStandsShapes lvs → ∃ n h', evF cm n 5 lvs [] 0 = some (.v (.bool true), h') := by
  rintro lvs ⟨_, _, rfl, ⟨_, rfl, ⟨_, _, rfl, ⟨x0, rfl, l0, u0⟩, ⟨_, _, rfl, ⟨x1, rfl, l1, u1⟩, ⟨_, _, rfl, ⟨x2, rfl, l2, u2⟩, ⟨_, _, rfl, ⟨x3, rfl, l3, u3⟩, rfl⟩⟩⟩⟩⟩, ⟨_, _, rfl, ⟨_, rfl, ⟨_, _, rfl, ⟨x4, rfl, l4, u4⟩, ⟨_, _, rfl, ⟨x5, rfl, l5, u5⟩, ⟨_, _, rfl, ⟨x6, rfl, l6, u6⟩, ⟨_, _, rfl, ⟨x7, rfl, l7, u7⟩, rfl⟩⟩⟩⟩⟩, rfl⟩⟩
  exact ⟨80, law_true (e5 0 x0 x1 x2 x3 x4 x5 x6 x7)⟩

theorem blendStands_lifted (os : Os) (started : os.Started) (H : Type) (enc : TypeId × Value → H) :
    ReturnsInHanded {} Try.checked os 5 .any (Rows.blendStandsSpec.pre6 enc Try.checked.prog blendStandsFn Rows.blendStandsRow.domain false) (Rows.blendStandsSpec.post enc Try.checked.prog blendStandsFn false Rows.blendStandsRow.fresh Rows.blendStandsRow.handsOn Rows.blendStandsRow.again) :=
  row_lifted (ks := blendStandsShapes) (d := 20) (tb := 4) (by kernel_rfl) started (by kernel_rfl) blendStandsFn_eq
    (ChangeSpec.witness6 (enc := enc) (C := Try.checked) false ⟨#[], #[.agg #[.int .i64 0, .int .i64 0, .int .i64 0, .int .i64 0], .agg #[.int .i64 0, .int .i64 0, .int .i64 0, .int .i64 0]], []⟩ 12 (by kernel_rfl) (by kernel_rfl) (by kernel_rfl) (by kernel_rfl))
    hcm (by kernel_rfl) (by kernel_rfl) (by kernel_rfl) (by kernel_rfl) (by kernel_rfl) (by kernel_rfl) rfl
    (fun ds h => by
      have h' : ds.length = 2 := h.trans (by kernel_rfl)
      match ds, h' with
      | [d0, d1], _ => rfl)
    blendStands_true

theorem blendStands_holds : Rows.BlendStandsSaid :=
  OpenClaim.holds_of_wide 5 blendStandsFn rfl rfl rfl rfl rfl rfl rfl ⟨rfl, rfl, rfl, rfl, rfl⟩ rfl rfl rfl rfl rfl (by kernel_rfl) blendStandsFn_eq (by kernel_rfl)
    (of_decide_eq_true (by kernel_rfl)) (by unfold Func.isWrapper; rw [if_neg (by decide +kernel)]; exact ⟨rfl, rfl⟩)
    (fun os started H enc _ => blendStands_lifted os started H enc)

#print axioms blendStands_holds
end Go.Proofs.Ytmgbeecleiknfaa
