/- Whatever sides and pixel come in, temperalaw11.TileOnce returns true, and what came in reads on as it did; on no conditions. -/
import Derived.KernelRfl
import Derived.Test.YtbbmfacfmmpefaaEng16
import Derived.Test.YtbbmfacfmmpefaaI11
import Derived.Test.YtbbmfacfmmpefaaRows
set_option linter.unusedVariables false
set_option maxRecDepth 100000
namespace Go.Proofs.Ytbbmfacfmmpefaa
open Go Go.RowKit Go.WideShapes Go.ChangeShapes Go.ChangeAt

noncomputable def tileOnceFn : Func := (Try.checked.prog.funcs[3]?).getD default
theorem tileOnceFn_eq : Try.checked.prog.funcs[3]? = some tileOnceFn := by kernel_rfl

def tileOnceShapes : List Sh := [(.i .i64), (.i .i64), (.agg [(.i .i64), (.i .i64)])]

/-- Whatever comes in, the evaluator answers true. -/
theorem tileOnce_true : ∀ lvs, IsArgs tileOnceShapes lvs → ∃ n h', evF cm n 3 lvs [] 0 = some (.v (.bool true), h') := by
  rintro lvs ⟨_, _, rfl, ⟨x0, ⟨⟩, l0, u0⟩, ⟨_, _, rfl, ⟨x1, ⟨⟩, l1, u1⟩, ⟨_, _, rfl, ⟨_, rfl, ⟨_, _, rfl, ⟨x2, rfl, l2, u2⟩, ⟨_, _, rfl, ⟨x3, rfl, l3, u3⟩, rfl⟩⟩⟩, rfl⟩⟩⟩
  exact ⟨300, law_true (e3 0 x0 x1 x2 x3)⟩

theorem tileOnce_lifted (os : Os) (started : os.Started) (H : Type) (enc : TypeId × Value → H) :
    ReturnsInHanded {} Try.checked os 3 .any (Rows.tileOnceSpec.pre6 enc Try.checked.prog tileOnceFn Rows.tileOnceRow.domain false) (Rows.tileOnceSpec.post enc Try.checked.prog tileOnceFn false Rows.tileOnceRow.fresh Rows.tileOnceRow.handsOn Rows.tileOnceRow.again) :=
  row_lifted (ks := tileOnceShapes) (d := 20) (tb := 4) (by kernel_rfl) started (by kernel_rfl) tileOnceFn_eq
    (ChangeSpec.witness6 (enc := enc) (C := Try.checked) false ⟨#[], #[.int .i64 0, .int .i64 0, .agg #[.int .i64 0, .int .i64 0]], []⟩ 12 (by kernel_rfl) (by kernel_rfl) (by kernel_rfl) (by kernel_rfl))
    hcm (by kernel_rfl) (by kernel_rfl) (by kernel_rfl) (by kernel_rfl) (by kernel_rfl) (by kernel_rfl) rfl
    (fun ds h => by
      have h' : ds.length = 3 := h.trans (by kernel_rfl)
      match ds, h' with
      | [d0, d1, d2], _ => rfl)
    tileOnce_true

theorem tileOnce_holds : Rows.TileOnceSaid :=
  OpenClaim.holds_of_wide 3 tileOnceFn rfl rfl rfl rfl rfl rfl rfl ⟨rfl, rfl, rfl, rfl, rfl⟩ rfl rfl rfl rfl rfl (by kernel_rfl) tileOnceFn_eq (by kernel_rfl)
    (of_decide_eq_true (by kernel_rfl)) (by unfold Func.isWrapper; rw [if_neg (by decide +kernel)]; exact ⟨rfl, rfl⟩)
    (fun os started H enc _ => tileOnce_lifted os started H enc)

#print axioms tileOnce_holds
end Go.Proofs.Ytbbmfacfmmpefaa
