/- Whatever sides and number come in, temperalaw11.TileBoxes returns true, and what came in reads on as it did; on no conditions. -/
import Derived.KernelRfl
import Derived.Test.YtbbmfacfmmpefaaEng16
import Derived.Test.YtbbmfacfmmpefaaG11
import Derived.Test.YtbbmfacfmmpefaaRows
set_option linter.unusedVariables false
set_option maxRecDepth 100000
namespace Go.Proofs.Ytbbmfacfmmpefaa
open Go Go.RowKit Go.WideShapes Go.ChangeShapes Go.ChangeAt

noncomputable def tileBoxesFn : Func := (Try.checked.prog.funcs[4]?).getD default
theorem tileBoxesFn_eq : Try.checked.prog.funcs[4]? = some tileBoxesFn := by kernel_rfl

def tileBoxesShapes : List Sh := [(.i .i64), (.i .i64), (.i .i64)]

/-- Whatever comes in, the evaluator answers true. -/
theorem tileBoxes_true : ∀ lvs, IsArgs tileBoxesShapes lvs → ∃ n h', evF cm n 4 lvs [] 0 = some (.v (.bool true), h') := by
  rintro lvs ⟨_, _, rfl, ⟨x0, ⟨⟩, l0, u0⟩, ⟨_, _, rfl, ⟨x1, ⟨⟩, l1, u1⟩, ⟨_, _, rfl, ⟨x2, ⟨⟩, l2, u2⟩, rfl⟩⟩⟩
  exact ⟨30, law_true (e4 0 x0 x1 x2)⟩

theorem tileBoxes_lifted (os : Os) (started : os.Started) (H : Type) (enc : TypeId × Value → H) :
    ReturnsInHanded {} Try.checked os 4 .any (Rows.tileBoxesSpec.pre6 enc Try.checked.prog tileBoxesFn Rows.tileBoxesRow.domain false) (Rows.tileBoxesSpec.post enc Try.checked.prog tileBoxesFn false Rows.tileBoxesRow.fresh Rows.tileBoxesRow.handsOn Rows.tileBoxesRow.again) :=
  row_lifted (ks := tileBoxesShapes) (d := 20) (tb := 4) (by kernel_rfl) started (by kernel_rfl) tileBoxesFn_eq
    (ChangeSpec.witness6 (enc := enc) (C := Try.checked) false ⟨#[], #[.int .i64 0, .int .i64 0, .int .i64 0], []⟩ 12 (by kernel_rfl) (by kernel_rfl) (by kernel_rfl) (by kernel_rfl))
    hcm (by kernel_rfl) (by kernel_rfl) (by kernel_rfl) (by kernel_rfl) (by kernel_rfl) (by kernel_rfl) rfl
    (fun ds h => by
      have h' : ds.length = 3 := h.trans (by kernel_rfl)
      match ds, h' with
      | [d0, d1, d2], _ => rfl)
    tileBoxes_true

theorem tileBoxes_holds : Rows.TileBoxesSaid :=
  OpenClaim.holds_of_wide 4 tileBoxesFn rfl rfl rfl rfl rfl rfl rfl ⟨rfl, rfl, rfl, rfl, rfl⟩ rfl rfl rfl rfl rfl (by kernel_rfl) tileBoxesFn_eq (by kernel_rfl)
    (of_decide_eq_true (by kernel_rfl)) (by unfold Func.isWrapper; rw [if_neg (by decide +kernel)]; exact ⟨rfl, rfl⟩)
    (fun os started H enc _ => tileBoxes_lifted os started H enc)

#print axioms tileBoxes_holds
end Go.Proofs.Ytbbmfacfmmpefaa
