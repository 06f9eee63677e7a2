/- What may not be done does nothing. -/
import Derived.KernelRfl
import Derived.Test.YtjoldlaoncdcgaaEng16
import Derived.Test.YtjoldlaoncdcgaaB31
import Derived.Test.YtjoldlaoncdcgaaRows
set_option linter.unusedVariables false
set_option maxRecDepth 100000
namespace Go.Proofs.Ytjoldlaoncdcgaa
open Go Go.RowKit Go.WideShapes Go.ChangeShapes Go.ChangeAt

noncomputable def dequeNoneFn : Func := (Try.checked.prog.funcs[5]?).getD default
theorem dequeNoneFn_eq : Try.checked.prog.funcs[5]? = some dequeNoneFn := by kernel_rfl

def dequeNoneShapes : List Sh := [(.agg [(.i .i64), (.i .i64)]), (.i .i64)]

/-- Whatever comes in, the evaluator answers true. -/
theorem dequeNone_true : ∀ lvs, IsArgs dequeNoneShapes lvs → ∃ n h', evF cm n 5 lvs [] 0 = some (.v (.bool true), h') := by
  rintro lvs ⟨_, _, rfl, ⟨_, rfl, ⟨_, _, rfl, ⟨x0, rfl, l0, u0⟩, ⟨_, _, rfl, ⟨x1, rfl, l1, u1⟩, rfl⟩⟩⟩, ⟨_, _, rfl, ⟨x2, ⟨⟩, l2, u2⟩, rfl⟩⟩
  exact ⟨300, law_true (e5 0 x0 x1 x2)⟩

theorem dequeNone_lifted (os : Os) (started : os.Started) (H : Type) (enc : TypeId × Value → H) :
    ReturnsInHanded {} Try.checked os 5 .any (Rows.dequeNoneSpec.pre6 enc Try.checked.prog dequeNoneFn Rows.dequeNoneRow.domain false) (Rows.dequeNoneSpec.post enc Try.checked.prog dequeNoneFn false Rows.dequeNoneRow.fresh Rows.dequeNoneRow.handsOn Rows.dequeNoneRow.again) :=
  row_lifted (ks := dequeNoneShapes) (d := 20) (tb := 4) (by kernel_rfl) started (by kernel_rfl) dequeNoneFn_eq
    (ChangeSpec.witness6 (enc := enc) (C := Try.checked) false ⟨#[], #[.agg #[.int .i64 0, .int .i64 0], .int .i64 0], []⟩ 12 (by kernel_rfl) (by kernel_rfl) (by kernel_rfl) (by kernel_rfl))
    hcm (by kernel_rfl) (by kernel_rfl) (by kernel_rfl) (by kernel_rfl) (by kernel_rfl) (by kernel_rfl) rfl
    (fun ds h => by
      have h' : ds.length = 2 := h.trans (by kernel_rfl)
      match ds, h' with
      | [d0, d1], _ => rfl)
    dequeNone_true

theorem dequeNone_holds : Rows.DequeNoneSaid :=
  OpenClaim.holds_of_wide 5 dequeNoneFn rfl rfl rfl rfl rfl rfl rfl ⟨rfl, rfl, rfl, rfl, rfl⟩ rfl rfl rfl rfl rfl (by kernel_rfl) dequeNoneFn_eq (by kernel_rfl)
    (of_decide_eq_true (by kernel_rfl)) (by unfold Func.isWrapper; rw [if_neg (by decide +kernel)]; exact ⟨rfl, rfl⟩)
    (fun os started H enc _ => dequeNone_lifted os started H enc)

#print axioms dequeNone_holds
end Go.Proofs.Ytjoldlaoncdcgaa
