/- A count does as many steps as it has. -/
import Derived.KernelRfl
import Derived.Test.YtbmfmcimcdajcaaEng16
import Derived.Test.YtbmfmcimcdajcaaB34
import Derived.Test.YtbmfmcimcdajcaaRows
set_option linter.unusedVariables false
set_option maxRecDepth 100000
namespace Go.Proofs.Ytbmfmcimcdajcaa
open Go Go.RowKit Go.WideShapes Go.ChangeShapes Go.ChangeAt

noncomputable def schedCountsFn : Func := (Try.checked.prog.funcs[5]?).getD default
theorem schedCountsFn_eq : Try.checked.prog.funcs[5]? = some schedCountsFn := by kernel_rfl

def schedCountsShapes : List Sh := [(.i .i64)]

/-- Whatever comes in, the evaluator answers true. -/
theorem schedCounts_true : ∀ lvs, IsArgs schedCountsShapes lvs → ∃ n h', evF cm n 5 lvs [] 0 = some (.v (.bool true), h') := by
  rintro lvs ⟨_, _, rfl, ⟨x0, ⟨⟩, l0, u0⟩, rfl⟩
  exact ⟨300, law_true (e5 0 x0 (Int.le_trans u0 (by decide)))⟩

theorem schedCounts_lifted (os : Os) (started : os.Started) (H : Type) (enc : TypeId × Value → H) :
    ReturnsInHanded {} Try.checked os 5 .any (Rows.schedCountsSpec.pre6 enc Try.checked.prog schedCountsFn Rows.schedCountsRow.domain false) (Rows.schedCountsSpec.post enc Try.checked.prog schedCountsFn false Rows.schedCountsRow.fresh Rows.schedCountsRow.handsOn Rows.schedCountsRow.again) :=
  row_lifted (ks := schedCountsShapes) (d := 20) (tb := 4) (by kernel_rfl) started (by kernel_rfl) schedCountsFn_eq
    (ChangeSpec.witness6 (enc := enc) (C := Try.checked) false ⟨#[], #[.int .i64 0], []⟩ 12 (by kernel_rfl) (by kernel_rfl) (by kernel_rfl) (by kernel_rfl))
    hcm (by kernel_rfl) (by kernel_rfl) (by kernel_rfl) (by kernel_rfl) (by kernel_rfl) (by kernel_rfl) rfl
    (fun ds h => by
      have h' : ds.length = 1 := h.trans (by kernel_rfl)
      match ds, h' with
      | [d0], _ => rfl)
    schedCounts_true

theorem schedCounts_holds : Rows.SchedCountsSaid :=
  OpenClaim.holds_of_wide 5 schedCountsFn rfl rfl rfl rfl rfl rfl rfl ⟨rfl, rfl, rfl, rfl, rfl⟩ rfl rfl rfl rfl rfl (by kernel_rfl) schedCountsFn_eq (by kernel_rfl)
    (of_decide_eq_true (by kernel_rfl)) (by unfold Func.isWrapper; rw [if_neg (by decide +kernel)]; exact ⟨rfl, rfl⟩)
    (fun os started H enc _ => schedCounts_lifted os started H enc)

#print axioms schedCounts_holds
end Go.Proofs.Ytbmfmcimcdajcaa
