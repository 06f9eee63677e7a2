/- For every blend and every two colours the law BlendMixes answers true: colours are mixed channel by channel, and stay colours; what the mask does not have stays. -/
import Derived.KernelRfl
import Derived.Test.YtmgbeecleiknfaaEng16
import Derived.Test.YtmgbeecleiknfaaH07
import Derived.Test.YtmgbeecleiknfaaRows
set_option linter.unusedVariables false
set_option maxRecDepth 100000
namespace Go.Proofs.Ytmgbeecleiknfaa
open Go Go.RowKit Go.WideShapes Go.ChangeShapes Go.ChangeAt

noncomputable def blendMixesFn : Func := (Try.checked.prog.funcs[3]?).getD default
theorem blendMixesFn_eq : Try.checked.prog.funcs[3]? = some blendMixesFn := by kernel_rfl

def blendMixesShapes : List Sh := [(.agg [(.i .i64), (.i .i64), (.i .i64), (.i .i64)]), (.agg [(.i .i64), (.i .i64), (.i .i64), (.i .i64)]), (.agg [(.i .i64), (.i .i64), (.i .i64), (.i .i64)])]

/-- Whatever comes in, the evaluator answers true. -/
theorem blendMixes_true : ∀ lvs, IsArgs blendMixesShapes lvs → ∃ n h', evF cm n 3 lvs [] 0 = some (.v (.bool true), h') := by
  rintro lvs ⟨_, _, rfl, ⟨_, rfl, ⟨_, _, rfl, ⟨x0, rfl, l0, u0⟩, ⟨_, _, rfl, ⟨x1, rfl, l1, u1⟩, ⟨_, _, rfl, ⟨x2, rfl, l2, u2⟩, ⟨_, _, rfl, ⟨x3, rfl, l3, u3⟩, rfl⟩⟩⟩⟩⟩, ⟨_, _, rfl, ⟨_, rfl, ⟨_, _, rfl, ⟨x4, rfl, l4, u4⟩, ⟨_, _, rfl, ⟨x5, rfl, l5, u5⟩, ⟨_, _, rfl, ⟨x6, rfl, l6, u6⟩, ⟨_, _, rfl, ⟨x7, rfl, l7, u7⟩, rfl⟩⟩⟩⟩⟩, ⟨_, _, rfl, ⟨_, rfl, ⟨_, _, rfl, ⟨x8, rfl, l8, u8⟩, ⟨_, _, rfl, ⟨x9, rfl, l9, u9⟩, ⟨_, _, rfl, ⟨x10, rfl, l10, u10⟩, ⟨_, _, rfl, ⟨x11, rfl, l11, u11⟩, rfl⟩⟩⟩⟩⟩, rfl⟩⟩⟩
  exact ⟨80, law_true (e3 0 x0 x1 x2 x3 x4 x5 x6 x7 x8 x9 x10 x11)⟩

theorem blendMixes_lifted (os : Os) (started : os.Started) (H : Type) (enc : TypeId × Value → H) :
    ReturnsInHanded {} Try.checked os 3 .any (Rows.blendMixesSpec.pre6 enc Try.checked.prog blendMixesFn Rows.blendMixesRow.domain false) (Rows.blendMixesSpec.post enc Try.checked.prog blendMixesFn false Rows.blendMixesRow.fresh Rows.blendMixesRow.handsOn Rows.blendMixesRow.again) :=
  row_lifted (ks := blendMixesShapes) (d := 20) (tb := 4) (by kernel_rfl) started (by kernel_rfl) blendMixesFn_eq
    (ChangeSpec.witness6 (enc := enc) (C := Try.checked) false ⟨#[], #[.agg #[.int .i64 0, .int .i64 0, .int .i64 0, .int .i64 0], .agg #[.int .i64 0, .int .i64 0, .int .i64 0, .int .i64 0], .agg #[.int .i64 0, .int .i64 0, .int .i64 0, .int .i64 0]], []⟩ 12 (by kernel_rfl) (by kernel_rfl) (by kernel_rfl) (by kernel_rfl))
    hcm (by kernel_rfl) (by kernel_rfl) (by kernel_rfl) (by kernel_rfl) (by kernel_rfl) (by kernel_rfl) rfl
    (fun ds h => by
      have h' : ds.length = 3 := h.trans (by kernel_rfl)
      match ds, h' with
      | [d0, d1, d2], _ => rfl)
    blendMixes_true

theorem blendMixes_holds : Rows.BlendMixesSaid :=
  OpenClaim.holds_of_wide 3 blendMixesFn rfl rfl rfl rfl rfl rfl rfl ⟨rfl, rfl, rfl, rfl, rfl⟩ rfl rfl rfl rfl rfl (by kernel_rfl) blendMixesFn_eq (by kernel_rfl)
    (of_decide_eq_true (by kernel_rfl)) (by unfold Func.isWrapper; rw [if_neg (by decide +kernel)]; exact ⟨rfl, rfl⟩)
    (fun os started H enc _ => blendMixes_lifted os started H enc)

#print axioms blendMixes_holds
end Go.Proofs.Ytmgbeecleiknfaa
