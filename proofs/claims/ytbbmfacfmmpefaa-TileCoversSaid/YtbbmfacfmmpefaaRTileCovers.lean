/- the tiles that a rectangle covers are those that the reference names -/
import Derived.KernelRfl
import Derived.Test.YtbbmfacfmmpefaaEng16
import Derived.Test.YtbbmfacfmmpefaaM11
import Derived.Test.YtbbmfacfmmpefaaRows
set_option linter.unusedVariables false
set_option maxRecDepth 100000
namespace Go.Proofs.Ytbbmfacfmmpefaa
open Go Go.RowKit Go.WideShapes Go.ChangeShapes Go.ChangeAt

noncomputable def tileCoversFn : Func := (Try.checked.prog.funcs[5]?).getD default
theorem tileCoversFn_eq : Try.checked.prog.funcs[5]? = some tileCoversFn := by kernel_rfl

def tileCoversShapes : List Sh := [(.i .i64), (.i .i64), (.agg [(.i .i64), (.i .i64), (.i .i64), (.i .i64)])]

/-- Whatever comes in, the evaluator answers true. -/
theorem tileCovers_true : ∀ lvs, IsArgs tileCoversShapes lvs → ∃ n h', evF cm n 5 lvs [] 0 = some (.v (.bool true), h') := by
  rintro lvs ⟨_, _, rfl, ⟨x0, ⟨⟩, l0, u0⟩, ⟨_, _, rfl, ⟨x1, ⟨⟩, l1, u1⟩, ⟨_, _, rfl, ⟨_, rfl, ⟨_, _, rfl, ⟨x2, rfl, l2, u2⟩, ⟨_, _, rfl, ⟨x3, rfl, l3, u3⟩, ⟨_, _, rfl, ⟨x4, rfl, l4, u4⟩, ⟨_, _, rfl, ⟨x5, rfl, l5, u5⟩, rfl⟩⟩⟩⟩⟩, rfl⟩⟩⟩
  exact ⟨410, law_true (e5 0 x0 x1 x2 x3 x4 x5)⟩

theorem tileCovers_lifted (os : Os) (started : os.Started) (H : Type) (enc : TypeId × Value → H) :
    ReturnsInHanded {} Try.checked os 5 .any (Rows.tileCoversSpec.pre6 enc Try.checked.prog tileCoversFn Rows.tileCoversRow.domain false) (Rows.tileCoversSpec.post enc Try.checked.prog tileCoversFn false Rows.tileCoversRow.fresh Rows.tileCoversRow.handsOn Rows.tileCoversRow.again) :=
  row_lifted (ks := tileCoversShapes) (d := 20) (tb := 4) (by kernel_rfl) started (by kernel_rfl) tileCoversFn_eq
    (ChangeSpec.witness6 (enc := enc) (C := Try.checked) false ⟨#[], #[.int .i64 0, .int .i64 0, .agg #[.int .i64 0, .int .i64 0, .int .i64 0, .int .i64 0]], []⟩ 12 (by kernel_rfl) (by kernel_rfl) (by kernel_rfl) (by kernel_rfl))
    hcm (by kernel_rfl) (by kernel_rfl) (by kernel_rfl) (by kernel_rfl) (by kernel_rfl) (by kernel_rfl) rfl
    (fun ds h => by
      have h' : ds.length = 3 := h.trans (by kernel_rfl)
      match ds, h' with
      | [d0, d1, d2], _ => rfl)
    tileCovers_true

theorem tileCovers_holds : Rows.TileCoversSaid :=
  OpenClaim.holds_of_wide 5 tileCoversFn rfl rfl rfl rfl rfl rfl rfl ⟨rfl, rfl, rfl, rfl, rfl⟩ rfl rfl rfl rfl rfl (by kernel_rfl) tileCoversFn_eq (by kernel_rfl)
    (of_decide_eq_true (by kernel_rfl)) (by unfold Func.isWrapper; rw [if_neg (by decide +kernel)]; exact ⟨rfl, rfl⟩)
    (fun os started H enc _ => tileCovers_lifted os started H enc)

#print axioms tileCovers_holds
end Go.Proofs.Ytbbmfacfmmpefaa
