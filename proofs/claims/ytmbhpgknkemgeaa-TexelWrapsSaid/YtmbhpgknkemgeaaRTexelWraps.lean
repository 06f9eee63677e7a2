/- Whatever kind, place and side come in, temperalaw14.TexelWraps returns true, and what came in reads on as it did; on no conditions. -/
import Derived.KernelRfl
import Derived.Test.YtmbhpgknkemgeaaEng16
import Derived.Test.YtmbhpgknkemgeaaF14
import Derived.Test.YtmbhpgknkemgeaaRows
set_option linter.unusedVariables false
set_option maxRecDepth 100000
namespace Go.Proofs.Ytmbhpgknkemgeaa
open Go Go.RowKit Go.WideShapes Go.ChangeShapes Go.ChangeAt

noncomputable def texelWrapsFn : Func := (Try.checked.prog.funcs[3]?).getD default
theorem texelWrapsFn_eq : Try.checked.prog.funcs[3]? = some texelWrapsFn := by kernel_rfl

def texelWrapsShapes : List Sh := [(.i .i64), (.i .i64), (.i .i64)]

/-- Whatever comes in, the evaluator answers true. -/
theorem texelWraps_true : ∀ lvs, IsArgs texelWrapsShapes lvs → ∃ n h', evF cm n 3 lvs [] 0 = some (.v (.bool true), h') := by
  rintro lvs ⟨_, _, rfl, ⟨x0, ⟨⟩, l0, u0⟩, ⟨_, _, rfl, ⟨x1, ⟨⟩, l1, u1⟩, ⟨_, _, rfl, ⟨x2, ⟨⟩, l2, u2⟩, rfl⟩⟩⟩
  exact ⟨30, law_true (e3 0 x0 x1 x2)⟩

theorem texelWraps_lifted (os : Os) (started : os.Started) (H : Type) (enc : TypeId × Value → H) :
    ReturnsInHanded {} Try.checked os 3 .any (Rows.texelWrapsSpec.pre6 enc Try.checked.prog texelWrapsFn Rows.texelWrapsRow.domain false) (Rows.texelWrapsSpec.post enc Try.checked.prog texelWrapsFn false Rows.texelWrapsRow.fresh Rows.texelWrapsRow.handsOn Rows.texelWrapsRow.again) :=
  row_lifted (ks := texelWrapsShapes) (d := 20) (tb := 4) (by kernel_rfl) started (by kernel_rfl) texelWrapsFn_eq
    (ChangeSpec.witness6 (enc := enc) (C := Try.checked) false ⟨#[], #[.int .i64 0, .int .i64 0, .int .i64 0], []⟩ 12 (by kernel_rfl) (by kernel_rfl) (by kernel_rfl) (by kernel_rfl))
    hcm (by kernel_rfl) (by kernel_rfl) (by kernel_rfl) (by kernel_rfl) (by kernel_rfl) (by kernel_rfl) rfl
    (fun ds h => by
      have h' : ds.length = 3 := h.trans (by kernel_rfl)
      match ds, h' with
      | [d0, d1, d2], _ => rfl)
    texelWraps_true

theorem texelWraps_holds : Rows.TexelWrapsSaid :=
  OpenClaim.holds_of_wide 3 texelWrapsFn rfl rfl rfl rfl rfl rfl rfl ⟨rfl, rfl, rfl, rfl, rfl⟩ rfl rfl rfl rfl rfl (by kernel_rfl) texelWrapsFn_eq (by kernel_rfl)
    (of_decide_eq_true (by kernel_rfl)) (by unfold Func.isWrapper; rw [if_neg (by decide +kernel)]; exact ⟨rfl, rfl⟩)
    (fun os started H enc _ => texelWraps_lifted os started H enc)

#print axioms texelWraps_holds
end Go.Proofs.Ytmbhpgknkemgeaa
