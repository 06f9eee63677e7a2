/- For every three ints the law FixLerps answers true: who goes from one number to another one stays between them. -/
import Derived.KernelRfl
import Derived.Test.YtlfapejkcjgfkaaEng16
import Derived.Test.YtlfapejkcjgfkaaG01
import Derived.Test.YtlfapejkcjgfkaaRows
set_option linter.unusedVariables false
set_option maxRecDepth 100000
namespace Go.Proofs.Ytlfapejkcjgfkaa
open Go Go.RowKit Go.WideShapes Go.ChangeShapes Go.ChangeAt

noncomputable def fixLerpsFn : Func := (Try.checked.prog.funcs[4]?).getD default
theorem fixLerpsFn_eq : Try.checked.prog.funcs[4]? = some fixLerpsFn := by kernel_rfl

def fixLerpsShapes : List Sh := [(.i .i64), (.i .i64), (.i .i64)]

/-- Whatever comes in, the evaluator answers true. -/
theorem fixLerps_true : ∀ lvs, IsArgs fixLerpsShapes lvs → ∃ n h', evF cm n 4 lvs [] 0 = some (.v (.bool true), h') := by
  rintro lvs ⟨_, _, rfl, ⟨x0, ⟨⟩, l0, u0⟩, ⟨_, _, rfl, ⟨x1, ⟨⟩, l1, u1⟩, ⟨_, _, rfl, ⟨x2, ⟨⟩, l2, u2⟩, rfl⟩⟩⟩
  exact ⟨20, law_true (e4 0 x0 x1 x2)⟩

theorem fixLerps_lifted (os : Os) (started : os.Started) (H : Type) (enc : TypeId × Value → H) :
    ReturnsInHanded {} Try.checked os 4 .any (Rows.fixLerpsSpec.pre6 enc Try.checked.prog fixLerpsFn Rows.fixLerpsRow.domain false) (Rows.fixLerpsSpec.post enc Try.checked.prog fixLerpsFn false Rows.fixLerpsRow.fresh Rows.fixLerpsRow.handsOn Rows.fixLerpsRow.again) :=
  row_lifted (ks := fixLerpsShapes) (d := 20) (tb := 4) (by kernel_rfl) started (by kernel_rfl) fixLerpsFn_eq
    (ChangeSpec.witness6 (enc := enc) (C := Try.checked) false ⟨#[], #[.int .i64 0, .int .i64 0, .int .i64 0], []⟩ 12 (by kernel_rfl) (by kernel_rfl) (by kernel_rfl) (by kernel_rfl))
    hcm (by kernel_rfl) (by kernel_rfl) (by kernel_rfl) (by kernel_rfl) (by kernel_rfl) (by kernel_rfl) rfl
    (fun ds h => by
      have h' : ds.length = 3 := h.trans (by kernel_rfl)
      match ds, h' with
      | [d0, d1, d2], _ => rfl)
    fixLerps_true

theorem fixLerps_holds : Rows.FixLerpsSaid :=
  OpenClaim.holds_of_wide 4 fixLerpsFn rfl rfl rfl rfl rfl rfl rfl ⟨rfl, rfl, rfl, rfl, rfl⟩ rfl rfl rfl rfl rfl (by kernel_rfl) fixLerpsFn_eq (by kernel_rfl)
    (of_decide_eq_true (by kernel_rfl)) (by unfold Func.isWrapper; rw [if_neg (by decide +kernel)]; exact ⟨rfl, rfl⟩)
    (fun os started H enc _ => fixLerps_lifted os started H enc)

#print axioms fixLerps_holds
end Go.Proofs.Ytlfapejkcjgfkaa
