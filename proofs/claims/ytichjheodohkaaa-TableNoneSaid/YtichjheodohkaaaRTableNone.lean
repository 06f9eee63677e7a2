/- No table names anything (TableNone), for every handle. -/
import Derived.KernelRfl
import Derived.Test.YtichjheodohkaaaEng16
import Derived.Test.YtichjheodohkaaaIA22
import Derived.Test.YtichjheodohkaaaRows
set_option linter.unusedVariables false
set_option maxRecDepth 100000
namespace Go.Proofs.Ytichjheodohkaaa
open Go Go.RowKit Go.WideShapes Go.ChangeShapes Go.ChangeAt

noncomputable def tableNoneFn : Func := (Try.checked.prog.funcs[5]?).getD default
theorem tableNoneFn_eq : Try.checked.prog.funcs[5]? = some tableNoneFn := by kernel_rfl

def tableNoneShapes : List Sh := [(.i .i64)]

/-- Whatever comes in, the evaluator answers true. -/
theorem tableNone_true : ∀ lvs, IsArgs tableNoneShapes lvs → ∃ n h', evF cm2 n 5 lvs [] 0 = some (.v (.bool true), h') := by
  rintro lvs ⟨_, _, rfl, ⟨x0, ⟨⟩, l0, u0⟩, rfl⟩
  exact ⟨100, law_true (e5 0 x0)⟩

theorem tableNone_lifted (os : Os) (started : os.Started) (H : Type) (enc : TypeId × Value → H) :
    ReturnsInHanded {} Try.checked os 5 .any (Rows.tableNoneSpec.pre6 enc Try.checked.prog tableNoneFn Rows.tableNoneRow.domain false) (Rows.tableNoneSpec.post enc Try.checked.prog tableNoneFn false Rows.tableNoneRow.fresh Rows.tableNoneRow.handsOn Rows.tableNoneRow.again) :=
  row_lifted (ks := tableNoneShapes) (d := 20) (tb := 4) (by kernel_rfl) started (by kernel_rfl) tableNoneFn_eq
    (ChangeSpec.witness6 (enc := enc) (C := Try.checked) false ⟨#[], #[.int .i64 0], []⟩ 12 (by kernel_rfl) (by kernel_rfl) (by kernel_rfl) (by kernel_rfl))
    hcm2 (by kernel_rfl) (by kernel_rfl) (by kernel_rfl) (by kernel_rfl) (by kernel_rfl) (by kernel_rfl) rfl
    (fun ds h => by
      have h' : ds.length = 1 := h.trans (by kernel_rfl)
      match ds, h' with
      | [d0], _ => rfl)
    tableNone_true

theorem tableNone_holds : Rows.TableNoneSaid :=
  OpenClaim.holds_of_wide 5 tableNoneFn rfl rfl rfl rfl rfl rfl rfl ⟨rfl, rfl, rfl, rfl, rfl⟩ rfl rfl rfl rfl rfl (by kernel_rfl) tableNoneFn_eq (by kernel_rfl)
    (of_decide_eq_true (by kernel_rfl)) (by unfold Func.isWrapper; rw [if_neg (by decide +kernel)]; exact ⟨rfl, rfl⟩)
    (fun os started H enc _ => tableNone_lifted os started H enc)

#print axioms tableNone_holds
end Go.Proofs.Ytichjheodohkaaa
