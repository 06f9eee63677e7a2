/- No memory does anything. -/
import Derived.KernelRfl
import Derived.Test.YtlbcandecifkcaaEng16
import Derived.Test.YtlbcandecifkcaaB30
import Derived.Test.YtlbcandecifkcaaRows
set_option linter.unusedVariables false
set_option maxRecDepth 100000
namespace Go.Proofs.Ytlbcandecifkcaa
open Go Go.RowKit Go.WideShapes Go.ChangeShapes Go.ChangeAt

noncomputable def cellNoneFn : Func := (Try.checked.prog.funcs[5]?).getD default
theorem cellNoneFn_eq : Try.checked.prog.funcs[5]? = some cellNoneFn := by kernel_rfl

def cellNoneShapes : List Sh := [(.agg [(.i .i64), (.i .i64), (.i .i64), (.i .i64), (.i .i64)])]

/-- Whatever comes in, the evaluator answers true. -/
theorem cellNone_true : ∀ lvs, IsArgs cellNoneShapes lvs → ∃ n h', evF cm n 5 lvs [] 0 = some (.v (.bool true), h') := by
  rintro lvs ⟨_, _, rfl, ⟨_, rfl, ⟨_, _, rfl, ⟨x0, rfl, l0, u0⟩, ⟨_, _, rfl, ⟨x1, rfl, l1, u1⟩, ⟨_, _, rfl, ⟨x2, rfl, l2, u2⟩, ⟨_, _, rfl, ⟨x3, rfl, l3, u3⟩, ⟨_, _, rfl, ⟨x4, rfl, l4, u4⟩, rfl⟩⟩⟩⟩⟩⟩, rfl⟩
  exact ⟨300, law_true (e5 0 x0 x1 x2 x3 x4)⟩

theorem cellNone_lifted (os : Os) (started : os.Started) (H : Type) (enc : TypeId × Value → H) :
    ReturnsInHanded {} Try.checked os 5 .any (Rows.cellNoneSpec.pre6 enc Try.checked.prog cellNoneFn Rows.cellNoneRow.domain false) (Rows.cellNoneSpec.post enc Try.checked.prog cellNoneFn false Rows.cellNoneRow.fresh Rows.cellNoneRow.handsOn Rows.cellNoneRow.again) :=
  row_lifted (ks := cellNoneShapes) (d := 20) (tb := 4) (by kernel_rfl) started (by kernel_rfl) cellNoneFn_eq
    (ChangeSpec.witness6 (enc := enc) (C := Try.checked) false ⟨#[], #[.agg #[.int .i64 0, .int .i64 0, .int .i64 0, .int .i64 0, .int .i64 0]], []⟩ 12 (by kernel_rfl) (by kernel_rfl) (by kernel_rfl) (by kernel_rfl))
    hcm (by kernel_rfl) (by kernel_rfl) (by kernel_rfl) (by kernel_rfl) (by kernel_rfl) (by kernel_rfl) rfl
    (fun ds h => by
      have h' : ds.length = 1 := h.trans (by kernel_rfl)
      match ds, h' with
      | [d0], _ => rfl)
    cellNone_true

theorem cellNone_holds : Rows.CellNoneSaid :=
  OpenClaim.holds_of_wide 5 cellNoneFn rfl rfl rfl rfl rfl rfl rfl ⟨rfl, rfl, rfl, rfl, rfl⟩ rfl rfl rfl rfl rfl (by kernel_rfl) cellNoneFn_eq (by kernel_rfl)
    (of_decide_eq_true (by kernel_rfl)) (by unfold Func.isWrapper; rw [if_neg (by decide +kernel)]; exact ⟨rfl, rfl⟩)
    (fun os started H enc _ => cellNone_lifted os started H enc)

#print axioms cellNone_holds
end Go.Proofs.Ytlbcandecifkcaa
