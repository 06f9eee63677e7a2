/- Whatever place and sides come in, temperalaw10.RectOf returns true, and what came in reads on as it did; on no conditions. -/
import Derived.KernelRfl
import Derived.Test.YtcljjjableaapaaEng16
import Derived.Test.YtcljjjableaapaaG10
import Derived.Test.YtcljjjableaapaaRows
set_option linter.unusedVariables false
set_option maxRecDepth 100000
namespace Go.Proofs.Ytcljjjableaapaa
open Go Go.RowKit Go.WideShapes Go.ChangeShapes Go.ChangeAt

noncomputable def rectOfFn : Func := (Try.checked.prog.funcs[3]?).getD default
theorem rectOfFn_eq : Try.checked.prog.funcs[3]? = some rectOfFn := by kernel_rfl

def rectOfShapes : List Sh := [(.agg [(.i .i64), (.i .i64)]), (.agg [(.i .i64), (.i .i64)])]

/-- Whatever comes in, the evaluator answers true. -/
theorem rectOf_true : ∀ lvs, IsArgs rectOfShapes lvs → ∃ n h', evF cm n 3 lvs [] 0 = some (.v (.bool true), h') := by
  rintro lvs ⟨_, _, rfl, ⟨_, rfl, ⟨_, _, rfl, ⟨x0, rfl, l0, u0⟩, ⟨_, _, rfl, ⟨x1, rfl, l1, u1⟩, rfl⟩⟩⟩, ⟨_, _, rfl, ⟨_, rfl, ⟨_, _, rfl, ⟨x2, rfl, l2, u2⟩, ⟨_, _, rfl, ⟨x3, rfl, l3, u3⟩, rfl⟩⟩⟩, rfl⟩⟩
  exact ⟨30, law_true (e3 0 x0 x1 x2 x3)⟩

theorem rectOf_lifted (os : Os) (started : os.Started) (H : Type) (enc : TypeId × Value → H) :
    ReturnsInHanded {} Try.checked os 3 .any (Rows.rectOfSpec.pre6 enc Try.checked.prog rectOfFn Rows.rectOfRow.domain false) (Rows.rectOfSpec.post enc Try.checked.prog rectOfFn false Rows.rectOfRow.fresh Rows.rectOfRow.handsOn Rows.rectOfRow.again) :=
  row_lifted (ks := rectOfShapes) (d := 20) (tb := 4) (by kernel_rfl) started (by kernel_rfl) rectOfFn_eq
    (ChangeSpec.witness6 (enc := enc) (C := Try.checked) false ⟨#[], #[.agg #[.int .i64 0, .int .i64 0], .agg #[.int .i64 0, .int .i64 0]], []⟩ 12 (by kernel_rfl) (by kernel_rfl) (by kernel_rfl) (by kernel_rfl))
    hcm (by kernel_rfl) (by kernel_rfl) (by kernel_rfl) (by kernel_rfl) (by kernel_rfl) (by kernel_rfl) rfl
    (fun ds h => by
      have h' : ds.length = 2 := h.trans (by kernel_rfl)
      match ds, h' with
      | [d0, d1], _ => rfl)
    rectOf_true

theorem rectOf_holds : Rows.RectOfSaid :=
  OpenClaim.holds_of_wide 3 rectOfFn rfl rfl rfl rfl rfl rfl rfl ⟨rfl, rfl, rfl, rfl, rfl⟩ rfl rfl rfl rfl rfl (by kernel_rfl) rectOfFn_eq (by kernel_rfl)
    (of_decide_eq_true (by kernel_rfl)) (by unfold Func.isWrapper; rw [if_neg (by decide +kernel)]; exact ⟨rfl, rfl⟩)
    (fun os started H enc _ => rectOf_lifted os started H enc)

#print axioms rectOf_holds
end Go.Proofs.Ytcljjjableaapaa
