/- No ring, and no operation, does anything. -/
import Derived.KernelRfl
import Derived.Test.YtcmlnjkbdlakfaaEng16
import Derived.Test.YtcmlnjkbdlakfaaB32
import Derived.Test.YtcmlnjkbdlakfaaRows
set_option linter.unusedVariables false
set_option maxRecDepth 100000
namespace Go.Proofs.Ytcmlnjkbdlakfaa
open Go Go.RowKit Go.WideShapes Go.ChangeShapes Go.ChangeAt

noncomputable def ringNoneFn : Func := (Try.checked.prog.funcs[5]?).getD default
theorem ringNoneFn_eq : Try.checked.prog.funcs[5]? = some ringNoneFn := by kernel_rfl

def ringNoneShapes : List Sh := [(.i .i64)]

/-- Whatever comes in, the evaluator answers true. -/
theorem ringNone_true : ∀ lvs, IsArgs ringNoneShapes lvs → ∃ n h', evF cm n 5 lvs [] 0 = some (.v (.bool true), h') := by
  rintro lvs ⟨_, _, rfl, ⟨x0, ⟨⟩, l0, u0⟩, rfl⟩
  exact ⟨300, law_true (e5 0 x0)⟩

theorem ringNone_lifted (os : Os) (started : os.Started) (H : Type) (enc : TypeId × Value → H) :
    ReturnsInHanded {} Try.checked os 5 .any (Rows.ringNoneSpec.pre6 enc Try.checked.prog ringNoneFn Rows.ringNoneRow.domain false) (Rows.ringNoneSpec.post enc Try.checked.prog ringNoneFn false Rows.ringNoneRow.fresh Rows.ringNoneRow.handsOn Rows.ringNoneRow.again) :=
  row_lifted (ks := ringNoneShapes) (d := 20) (tb := 4) (by kernel_rfl) started (by kernel_rfl) ringNoneFn_eq
    (ChangeSpec.witness6 (enc := enc) (C := Try.checked) false ⟨#[], #[.int .i64 0], []⟩ 12 (by kernel_rfl) (by kernel_rfl) (by kernel_rfl) (by kernel_rfl))
    hcm (by kernel_rfl) (by kernel_rfl) (by kernel_rfl) (by kernel_rfl) (by kernel_rfl) (by kernel_rfl) rfl
    (fun ds h => by
      have h' : ds.length = 1 := h.trans (by kernel_rfl)
      match ds, h' with
      | [d0], _ => rfl)
    ringNone_true

theorem ringNone_holds : Rows.RingNoneSaid :=
  OpenClaim.holds_of_wide 5 ringNoneFn rfl rfl rfl rfl rfl rfl rfl ⟨rfl, rfl, rfl, rfl, rfl⟩ rfl rfl rfl rfl rfl (by kernel_rfl) ringNoneFn_eq (by kernel_rfl)
    (of_decide_eq_true (by kernel_rfl)) (by unfold Func.isWrapper; rw [if_neg (by decide +kernel)]; exact ⟨rfl, rfl⟩)
    (fun os started H enc _ => ringNone_lifted os started H enc)

#print axioms ringNone_holds
end Go.Proofs.Ytcmlnjkbdlakfaa
