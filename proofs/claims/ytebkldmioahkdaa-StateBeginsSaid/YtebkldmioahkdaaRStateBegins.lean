/- The state at the beginning may be, and is what the document says. -/
import Derived.KernelRfl
import Derived.Test.YtebkldmioahkdaaEng16
import Derived.Test.YtebkldmioahkdaaH18
import Derived.Test.YtebkldmioahkdaaRows
set_option linter.unusedVariables false
set_option maxRecDepth 100000
namespace Go.Proofs.Ytebkldmioahkdaa
open Go Go.RowKit Go.WideShapes Go.ChangeShapes Go.ChangeAt

noncomputable def stateBeginsFn : Func := (Try.checked.prog.funcs[4]?).getD default
theorem stateBeginsFn_eq : Try.checked.prog.funcs[4]? = some stateBeginsFn := by kernel_rfl

def stateBeginsShapes : List Sh := [(.i .i64), (.i .i64)]

/-- Whatever comes in, the evaluator answers true. -/
theorem stateBegins_true : ∀ lvs, IsArgs stateBeginsShapes lvs → ∃ n h', evF cm n 4 lvs [] 0 = some (.v (.bool true), h') := by
  rintro lvs ⟨_, _, rfl, ⟨x0, ⟨⟩, l0, u0⟩, ⟨_, _, rfl, ⟨x1, ⟨⟩, l1, u1⟩, rfl⟩⟩
  exact ⟨200, law_true (e4 0 x0 x1)⟩

theorem stateBegins_lifted (os : Os) (started : os.Started) (H : Type) (enc : TypeId × Value → H) :
    ReturnsInHanded {} Try.checked os 4 .any (Rows.stateBeginsSpec.pre6 enc Try.checked.prog stateBeginsFn Rows.stateBeginsRow.domain false) (Rows.stateBeginsSpec.post enc Try.checked.prog stateBeginsFn false Rows.stateBeginsRow.fresh Rows.stateBeginsRow.handsOn Rows.stateBeginsRow.again) :=
  row_lifted (ks := stateBeginsShapes) (d := 20) (tb := 4) (by kernel_rfl) started (by kernel_rfl) stateBeginsFn_eq
    (ChangeSpec.witness6 (enc := enc) (C := Try.checked) false ⟨#[], #[.int .i64 0, .int .i64 0], []⟩ 12 (by kernel_rfl) (by kernel_rfl) (by kernel_rfl) (by kernel_rfl))
    hcm (by kernel_rfl) (by kernel_rfl) (by kernel_rfl) (by kernel_rfl) (by kernel_rfl) (by kernel_rfl) rfl
    (fun ds h => by
      have h' : ds.length = 2 := h.trans (by kernel_rfl)
      match ds, h' with
      | [d0, d1], _ => rfl)
    stateBegins_true

theorem stateBegins_holds : Rows.StateBeginsSaid :=
  OpenClaim.holds_of_wide 4 stateBeginsFn rfl rfl rfl rfl rfl rfl rfl ⟨rfl, rfl, rfl, rfl, rfl⟩ rfl rfl rfl rfl rfl (by kernel_rfl) stateBeginsFn_eq (by kernel_rfl)
    (of_decide_eq_true (by kernel_rfl)) (by unfold Func.isWrapper; rw [if_neg (by decide +kernel)]; exact ⟨rfl, rfl⟩)
    (fun os started H enc _ => stateBegins_lifted os started H enc)

#print axioms stateBegins_holds
end Go.Proofs.Ytebkldmioahkdaa
