/- For every rectangle and every byte the law RectPixels answers true: pixels come row by row, as many as the area says, as long as they are wanted. -/
import Derived.KernelRfl
import Derived.Test.YtcljjjableaapaaEng16
import Derived.Test.YtcljjjableaapaaJ10
import Derived.Test.YtcljjjableaapaaRows
set_option linter.unusedVariables false
set_option maxRecDepth 100000
namespace Go.Proofs.Ytcljjjableaapaa
open Go Go.RowKit Go.WideShapes Go.ChangeShapes Go.ChangeAt

noncomputable def rectPixelsFn : Func := (Try.checked.prog.funcs[5]?).getD default
theorem rectPixelsFn_eq : Try.checked.prog.funcs[5]? = some rectPixelsFn := by kernel_rfl

def rectPixelsShapes : List Sh := [(.agg [(.i .i64), (.i .i64), (.i .i64), (.i .i64)]), (.i .u8)]

/-- Whatever comes in, the evaluator answers true. -/
theorem rectPixels_true : ∀ lvs, IsArgs rectPixelsShapes lvs → ∃ n h', evF cm n 5 lvs [] 0 = some (.v (.bool true), h') := by
  rintro lvs ⟨_, _, rfl, ⟨_, rfl, ⟨_, _, rfl, ⟨x0, rfl, l0, u0⟩, ⟨_, _, rfl, ⟨x1, rfl, l1, u1⟩, ⟨_, _, rfl, ⟨x2, rfl, l2, u2⟩, ⟨_, _, rfl, ⟨x3, rfl, l3, u3⟩, rfl⟩⟩⟩⟩⟩, ⟨_, _, rfl, ⟨x4, ⟨⟩, l4, u4⟩, rfl⟩⟩
  exact ⟨5000000 + 60, law_true (e5 5000000 (by omega) x0 x1 x2 x3 x4 ⟨l4, u4⟩)⟩

theorem rectPixels_lifted (os : Os) (started : os.Started) (H : Type) (enc : TypeId × Value → H) :
    ReturnsInHanded {} Try.checked os 5 .any (Rows.rectPixelsSpec.pre6 enc Try.checked.prog rectPixelsFn Rows.rectPixelsRow.domain false) (Rows.rectPixelsSpec.post enc Try.checked.prog rectPixelsFn false Rows.rectPixelsRow.fresh Rows.rectPixelsRow.handsOn Rows.rectPixelsRow.again) :=
  row_lifted (ks := rectPixelsShapes) (d := 20) (tb := 4) (by kernel_rfl) started (by kernel_rfl) rectPixelsFn_eq
    (ChangeSpec.witness6 (enc := enc) (C := Try.checked) false ⟨#[], #[.agg #[.int .i64 0, .int .i64 0, .int .i64 0, .int .i64 0], .int .u8 0], []⟩ 12 (by kernel_rfl) (by kernel_rfl) (by kernel_rfl) (by kernel_rfl))
    hcm (by kernel_rfl) (by kernel_rfl) (by kernel_rfl) (by kernel_rfl) (by kernel_rfl) (by kernel_rfl) rfl
    (fun ds h => by
      have h' : ds.length = 2 := h.trans (by kernel_rfl)
      match ds, h' with
      | [d0, d1], _ => rfl)
    rectPixels_true

theorem rectPixels_holds : Rows.RectPixelsSaid :=
  OpenClaim.holds_of_wide 5 rectPixelsFn rfl rfl rfl rfl rfl rfl rfl ⟨rfl, rfl, rfl, rfl, rfl⟩ rfl rfl rfl rfl rfl (by kernel_rfl) rectPixelsFn_eq (by kernel_rfl)
    (of_decide_eq_true (by kernel_rfl)) (by unfold Func.isWrapper; rw [if_neg (by decide +kernel)]; exact ⟨rfl, rfl⟩)
    (fun os started H enc _ => rectPixels_lifted os started H enc)

#print axioms rectPixels_holds
end Go.Proofs.Ytcljjjableaapaa
