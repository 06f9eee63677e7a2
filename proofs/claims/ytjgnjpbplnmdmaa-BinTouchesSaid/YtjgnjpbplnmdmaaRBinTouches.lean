/- A prim touches the tiles that the document says. No conditions. -/
import Derived.KernelRfl
import Derived.Test.YtjgnjpbplnmdmaaEng16
import Derived.Test.YtjgnjpbplnmdmaaBZA
import Derived.Test.YtjgnjpbplnmdmaaRows
set_option linter.unusedVariables false
set_option maxRecDepth 100000
namespace Go.Proofs.Ytjgnjpbplnmdmaa
open Go Go.RowKit Go.WideShapes Go.ChangeShapes Go.ChangeAt

noncomputable def binTouchesFn : Func := (Try.checked.prog.funcs[3]?).getD default
theorem binTouchesFn_eq : Try.checked.prog.funcs[3]? = some binTouchesFn := by kernel_rfl

def binTouchesShapes : List Sh := [(.i .i64), (.i .i64), (.agg [(.i .i64), (.agg [(.agg [(.agg [(.agg [(.i .i64), (.i .i64)]), (.i .i64), (.agg [(.i .i64), (.i .i64), (.i .i64), (.i .i64), (.i .i64), (.i .i64)])]), (.agg [(.agg [(.i .i64), (.i .i64)]), (.i .i64), (.agg [(.i .i64), (.i .i64), (.i .i64), (.i .i64), (.i .i64), (.i .i64)])]), (.agg [(.agg [(.i .i64), (.i .i64)]), (.i .i64), (.agg [(.i .i64), (.i .i64), (.i .i64), (.i .i64), (.i .i64), (.i .i64)])])]), (.i .i64), (.agg [(.i .i64), (.i .i64), (.i .i64), (.i .i64)])]), (.agg [(.agg [(.i .i64), (.i .i64), (.i .i64), (.i .i64), (.i .i64), (.i .i64), (.i .i64), (.i .i64), (.i .i64), (.i .i64), (.i .i64), (.i .i64), (.i .i64), (.i .i64), (.i .i64), (.i .i64)]), (.agg [(.i .i64), (.i .i64), (.i .i64), (.i .i64)]), (.agg [(.i .i64), (.i .i64), (.i .i64), (.i .i64)]), (.i .i64), .b, (.agg [(.i .i64), (.i .i64), (.i .i64), (.i .i64), (.i .i64), (.i .i64), (.i .i64)]), (.agg [(.i .i64), (.i .i64), (.i .i64), (.i .i64)]), (.i .i64), (.i .i64), (.i .i64), .b]), (.agg [(.i .i64), (.i .i64), (.sl (.i .i64))]), (.i .i64), (.agg [(.agg [(.i .i64), (.i .i64), (.i .i64), (.i .i64)]), (.i .i64), (.i .i64)]), (.agg [(.i .i64), (.i .i64), (.i .i64), (.i .i64)])])]

/-- Whatever comes in, the evaluator answers true. -/
theorem binTouches_true : ∀ lvs, IsArgs binTouchesShapes lvs → ∃ n h', evF cm n 3 lvs [] 0 = some (.v (.bool true), h') := by
  exact law3_all

theorem binTouches_lifted (os : Os) (started : os.Started) (H : Type) (enc : TypeId × Value → H) :
    ReturnsInHanded {} Try.checked os 3 .any (Rows.binTouchesSpec.pre6 enc Try.checked.prog binTouchesFn Rows.binTouchesRow.domain false) (Rows.binTouchesSpec.post enc Try.checked.prog binTouchesFn false Rows.binTouchesRow.fresh Rows.binTouchesRow.handsOn Rows.binTouchesRow.again) :=
  row_lifted (ks := binTouchesShapes) (d := 20) (tb := 4) (by kernel_rfl) started (by kernel_rfl) binTouchesFn_eq
    (ChangeSpec.witness6 (enc := enc) (C := Try.checked) false ⟨#[], #[.int .i64 0, .int .i64 0, .agg #[.int .i64 0, .int .i64 0, .int .i64 0, .int .i64 0, .int .i64 0, .int .i64 0, .int .i64 0, .int .i64 0, .int .i64 0, .int .i64 0, .int .i64 0, .int .i64 0, .int .i64 0, .int .i64 0, .int .i64 0, .int .i64 0, .int .i64 0, .int .i64 0, .int .i64 0, .int .i64 0, .int .i64 0, .int .i64 0, .int .i64 0, .int .i64 0, .int .i64 0, .int .i64 0, .int .i64 0, .int .i64 0, .int .i64 0, .int .i64 0, .int .i64 0, .int .i64 0, .int .i64 0, .int .i64 0, .int .i64 0, .int .i64 0, .int .i64 0, .int .i64 0, .int .i64 0, .int .i64 0, .int .i64 0, .int .i64 0, .int .i64 0, .int .i64 0, .int .i64 0, .int .i64 0, .int .i64 0, .int .i64 0, .int .i64 0, .int .i64 0, .int .i64 0, .int .i64 0, .int .i64 0, .int .i64 0, .int .i64 0, .int .i64 0, .int .i64 0, .int .i64 0, .bool false, .int .i64 0, .int .i64 0, .int .i64 0, .int .i64 0, .int .i64 0, .int .i64 0, .int .i64 0, .int .i64 0, .int .i64 0, .int .i64 0, .int .i64 0, .int .i64 0, .int .i64 0, .int .i64 0, .bool false, .int .i64 0, .int .i64 0, .slice none 0 0, .int .i64 0, .int .i64 0, .int .i64 0, .int .i64 0, .int .i64 0, .int .i64 0, .int .i64 0, .int .i64 0, .int .i64 0, .int .i64 0, .int .i64 0]], []⟩ 12 (by kernel_rfl) (by kernel_rfl) (by kernel_rfl) (by kernel_rfl))
    hcm (by kernel_rfl) (by kernel_rfl) (by kernel_rfl) (by kernel_rfl) (by kernel_rfl) (by kernel_rfl) rfl
    (fun ds h => by
      have h' : ds.length = 3 := h.trans (by kernel_rfl)
      match ds, h' with
      | [d0, d1, d2], _ => rfl)
    binTouches_true

theorem binTouches_holds : Rows.BinTouchesSaid :=
  OpenClaim.holds_of_wide 3 binTouchesFn rfl rfl rfl rfl rfl rfl rfl ⟨rfl, rfl, rfl, rfl, rfl⟩ rfl rfl rfl rfl rfl (by kernel_rfl) binTouchesFn_eq (by kernel_rfl)
    (of_decide_eq_true (by kernel_rfl)) (by unfold Func.isWrapper; rw [if_neg (by decide +kernel)]; exact ⟨rfl, rfl⟩)
    (fun os started H enc _ => binTouches_lifted os started H enc)

#print axioms binTouches_holds
end Go.Proofs.Ytjgnjpbplnmdmaa
