/- For every texture and every spot the law TexelSamples answers true: a texture is sampled as the reference says, or there is the same error. -/
import Derived.KernelRfl
import Derived.Test.YtmbhpgknkemgeaaEng16
import Derived.Test.YtmbhpgknkemgeaaL14
import Derived.Test.YtmbhpgknkemgeaaRows
set_option linter.unusedVariables false
set_option maxRecDepth 100000
namespace Go.Proofs.Ytmbhpgknkemgeaa
open Go Go.RowKit Go.WideShapes Go.ChangeShapes Go.ChangeAt

noncomputable def texelSamplesFn : Func := (Try.checked.prog.funcs[5]?).getD default
theorem texelSamplesFn_eq : Try.checked.prog.funcs[5]? = some texelSamplesFn := by kernel_rfl

def texelSamplesShapes : List Sh := [(.agg [(.i .i64), (.i .i64), (.sl (.i .i64))]), (.agg [(.i .i64), (.i .i64), (.i .i64), .b])]

/-- Whatever comes in, the evaluator answers true. -/
theorem texelSamples_true : ∀ lvs, IsArgs texelSamplesShapes lvs → ∃ n h', evF cm n 5 lvs [] 0 = some (.v (.bool true), h') := by
  rintro lvs ⟨_, _, rfl, ⟨_, rfl, ⟨_, _, rfl, ⟨x0, rfl, l0, u0⟩, ⟨_, _, rfl, ⟨x1, rfl, l1, u1⟩, ⟨_, _, rfl, s2, rfl⟩⟩⟩⟩, ⟨_, _, rfl, ⟨_, rfl, ⟨_, _, rfl, ⟨x3, rfl, l3, u3⟩, ⟨_, _, rfl, ⟨x4, rfl, l4, u4⟩, ⟨_, _, rfl, ⟨x5, rfl, l5, u5⟩, ⟨_, _, rfl, ⟨x6, rfl⟩, rfl⟩⟩⟩⟩⟩, rfl⟩⟩
  exact by obtain ⟨l, S, rfl, hS, _⟩ := slI_of s2; exact ⟨6000 + 60, law_true (e5 6000 (by omega) x0 x1 l S hS x3 x4 x5 x6)⟩

theorem texelSamples_lifted (os : Os) (started : os.Started) (H : Type) (enc : TypeId × Value → H) :
    ReturnsInHanded {} Try.checked os 5 .any (Rows.texelSamplesSpec.pre6 enc Try.checked.prog texelSamplesFn Rows.texelSamplesRow.domain false) (Rows.texelSamplesSpec.post enc Try.checked.prog texelSamplesFn false Rows.texelSamplesRow.fresh Rows.texelSamplesRow.handsOn Rows.texelSamplesRow.again) :=
  row_lifted (ks := texelSamplesShapes) (d := 20) (tb := 4) (by kernel_rfl) started (by kernel_rfl) texelSamplesFn_eq
    (ChangeSpec.witness6 (enc := enc) (C := Try.checked) false ⟨#[], #[.agg #[.int .i64 0, .int .i64 0, .slice none 0 0], .agg #[.int .i64 0, .int .i64 0, .int .i64 0, .bool false]], []⟩ 12 (by kernel_rfl) (by kernel_rfl) (by kernel_rfl) (by kernel_rfl))
    hcm (by kernel_rfl) (by kernel_rfl) (by kernel_rfl) (by kernel_rfl) (by kernel_rfl) (by kernel_rfl) rfl
    (fun ds h => by
      have h' : ds.length = 2 := h.trans (by kernel_rfl)
      match ds, h' with
      | [d0, d1], _ => rfl)
    texelSamples_true

theorem texelSamples_holds : Rows.TexelSamplesSaid :=
  OpenClaim.holds_of_wide 5 texelSamplesFn rfl rfl rfl rfl rfl rfl rfl ⟨rfl, rfl, rfl, rfl, rfl⟩ rfl rfl rfl rfl rfl (by kernel_rfl) texelSamplesFn_eq (by kernel_rfl)
    (of_decide_eq_true (by kernel_rfl)) (by unfold Func.isWrapper; rw [if_neg (by decide +kernel)]; exact ⟨rfl, rfl⟩)
    (fun os started H enc _ => texelSamples_lifted os started H enc)

#print axioms texelSamples_holds
end Go.Proofs.Ytmbhpgknkemgeaa
