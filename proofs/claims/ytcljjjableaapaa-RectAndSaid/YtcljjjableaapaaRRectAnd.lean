/- Whatever two rectangles and point come in, temperalaw10.RectAnd returns true, and what came in reads on as it did; on no conditions. -/
import Derived.KernelRfl
import Derived.Test.YtcljjjableaapaaEng16
import Derived.Test.YtcljjjableaapaaH10
import Derived.Test.YtcljjjableaapaaRows
set_option linter.unusedVariables false
set_option maxRecDepth 100000
namespace Go.Proofs.Ytcljjjableaapaa
open Go Go.RowKit Go.WideShapes Go.ChangeShapes Go.ChangeAt

noncomputable def rectAndFn : Func := (Try.checked.prog.funcs[4]?).getD default
theorem rectAndFn_eq : Try.checked.prog.funcs[4]? = some rectAndFn := by kernel_rfl

def rectAndShapes : List Sh := [(.agg [(.i .i64), (.i .i64), (.i .i64), (.i .i64)]), (.agg [(.i .i64), (.i .i64), (.i .i64), (.i .i64)]), (.agg [(.i .i64), (.i .i64)])]

/-- Whatever comes in, the evaluator answers true. -/
theorem rectAnd_true : ∀ lvs, IsArgs rectAndShapes lvs → ∃ n h', evF cm n 4 lvs [] 0 = some (.v (.bool true), h') := by
  rintro lvs ⟨_, _, rfl, ⟨_, rfl, ⟨_, _, rfl, ⟨x0, rfl, l0, u0⟩, ⟨_, _, rfl, ⟨x1, rfl, l1, u1⟩, ⟨_, _, rfl, ⟨x2, rfl, l2, u2⟩, ⟨_, _, rfl, ⟨x3, rfl, l3, u3⟩, rfl⟩⟩⟩⟩⟩, ⟨_, _, rfl, ⟨_, rfl, ⟨_, _, rfl, ⟨x4, rfl, l4, u4⟩, ⟨_, _, rfl, ⟨x5, rfl, l5, u5⟩, ⟨_, _, rfl, ⟨x6, rfl, l6, u6⟩, ⟨_, _, rfl, ⟨x7, rfl, l7, u7⟩, rfl⟩⟩⟩⟩⟩, ⟨_, _, rfl, ⟨_, rfl, ⟨_, _, rfl, ⟨x8, rfl, l8, u8⟩, ⟨_, _, rfl, ⟨x9, rfl, l9, u9⟩, rfl⟩⟩⟩, rfl⟩⟩⟩
  exact ⟨30, law_true (e4 0 x0 x1 x2 x3 x4 x5 x6 x7 x8 x9)⟩

theorem rectAnd_lifted (os : Os) (started : os.Started) (H : Type) (enc : TypeId × Value → H) :
    ReturnsInHanded {} Try.checked os 4 .any (Rows.rectAndSpec.pre6 enc Try.checked.prog rectAndFn Rows.rectAndRow.domain false) (Rows.rectAndSpec.post enc Try.checked.prog rectAndFn false Rows.rectAndRow.fresh Rows.rectAndRow.handsOn Rows.rectAndRow.again) :=
  row_lifted (ks := rectAndShapes) (d := 20) (tb := 4) (by kernel_rfl) started (by kernel_rfl) rectAndFn_eq
    (ChangeSpec.witness6 (enc := enc) (C := Try.checked) false ⟨#[], #[.agg #[.int .i64 0, .int .i64 0, .int .i64 0, .int .i64 0], .agg #[.int .i64 0, .int .i64 0, .int .i64 0, .int .i64 0], .agg #[.int .i64 0, .int .i64 0]], []⟩ 12 (by kernel_rfl) (by kernel_rfl) (by kernel_rfl) (by kernel_rfl))
    hcm (by kernel_rfl) (by kernel_rfl) (by kernel_rfl) (by kernel_rfl) (by kernel_rfl) (by kernel_rfl) rfl
    (fun ds h => by
      have h' : ds.length = 3 := h.trans (by kernel_rfl)
      match ds, h' with
      | [d0, d1, d2], _ => rfl)
    rectAnd_true

theorem rectAnd_holds : Rows.RectAndSaid :=
  OpenClaim.holds_of_wide 4 rectAndFn rfl rfl rfl rfl rfl rfl rfl ⟨rfl, rfl, rfl, rfl, rfl⟩ rfl rfl rfl rfl rfl (by kernel_rfl) rectAndFn_eq (by kernel_rfl)
    (of_decide_eq_true (by kernel_rfl)) (by unfold Func.isWrapper; rw [if_neg (by decide +kernel)]; exact ⟨rfl, rfl⟩)
    (fun os started H enc _ => rectAnd_lifted os started H enc)

#print axioms rectAnd_holds
end Go.Proofs.Ytcljjjableaapaa
