/- For every texture, every spot and every number the law TexelPlain answers true: of a texture of one colour each sample is that colour; a soft sample in a texel's middle is a hard one. -/
import Derived.KernelRfl
import Derived.Test.YtmbhpgknkemgeaaEng16
import Derived.Test.YtmbhpgknkemgeaaN14
import Derived.Test.YtmbhpgknkemgeaaRows
set_option linter.unusedVariables false
set_option maxRecDepth 100000
namespace Go.Proofs.Ytmbhpgknkemgeaa
open Go Go.RowKit Go.WideShapes Go.ChangeShapes Go.ChangeAt

noncomputable def texelPlainFn : Func := (Try.checked.prog.funcs[4]?).getD default
theorem texelPlainFn_eq : Try.checked.prog.funcs[4]? = some texelPlainFn := by kernel_rfl

def texelPlainShapes : List Sh := [(.agg [(.i .i64), (.i .i64), (.sl (.i .i64))]), (.agg [(.i .i64), (.i .i64), (.i .i64), .b]), (.i .i64)]

/-- Whatever comes in, the evaluator answers true. -/
theorem texelPlain_true : ∀ lvs, IsArgs texelPlainShapes lvs → ∃ n h', evF cm n 4 lvs [] 0 = some (.v (.bool true), h') := by
  rintro lvs ⟨_, _, rfl, ⟨_, rfl, ⟨_, _, rfl, ⟨x0, rfl, l0, u0⟩, ⟨_, _, rfl, ⟨x1, rfl, l1, u1⟩, ⟨_, _, rfl, s2, rfl⟩⟩⟩⟩, ⟨_, _, rfl, ⟨_, rfl, ⟨_, _, rfl, ⟨x3, rfl, l3, u3⟩, ⟨_, _, rfl, ⟨x4, rfl, l4, u4⟩, ⟨_, _, rfl, ⟨x5, rfl, l5, u5⟩, ⟨_, _, rfl, ⟨x6, rfl⟩, rfl⟩⟩⟩⟩⟩, ⟨_, _, rfl, ⟨x7, ⟨⟩, l7, u7⟩, rfl⟩⟩⟩
  exact by obtain ⟨l, S, rfl, hS, _⟩ := slI_of s2; exact ⟨6000 + 70, law_true (e4 6000 (by omega) x0 x1 l S hS x3 x4 x5 x6 x7)⟩

theorem texelPlain_lifted (os : Os) (started : os.Started) (H : Type) (enc : TypeId × Value → H) :
    ReturnsInHanded {} Try.checked os 4 .any (Rows.texelPlainSpec.pre6 enc Try.checked.prog texelPlainFn Rows.texelPlainRow.domain false) (Rows.texelPlainSpec.post enc Try.checked.prog texelPlainFn false Rows.texelPlainRow.fresh Rows.texelPlainRow.handsOn Rows.texelPlainRow.again) :=
  row_lifted (ks := texelPlainShapes) (d := 20) (tb := 4) (by kernel_rfl) started (by kernel_rfl) texelPlainFn_eq
    (ChangeSpec.witness6 (enc := enc) (C := Try.checked) false ⟨#[], #[.agg #[.int .i64 0, .int .i64 0, .slice none 0 0], .agg #[.int .i64 0, .int .i64 0, .int .i64 0, .bool false], .int .i64 0], []⟩ 12 (by kernel_rfl) (by kernel_rfl) (by kernel_rfl) (by kernel_rfl))
    hcm (by kernel_rfl) (by kernel_rfl) (by kernel_rfl) (by kernel_rfl) (by kernel_rfl) (by kernel_rfl) rfl
    (fun ds h => by
      have h' : ds.length = 3 := h.trans (by kernel_rfl)
      match ds, h' with
      | [d0, d1, d2], _ => rfl)
    texelPlain_true

theorem texelPlain_holds : Rows.TexelPlainSaid :=
  OpenClaim.holds_of_wide 4 texelPlainFn rfl rfl rfl rfl rfl rfl rfl ⟨rfl, rfl, rfl, rfl, rfl⟩ rfl rfl rfl rfl rfl (by kernel_rfl) texelPlainFn_eq (by kernel_rfl)
    (of_decide_eq_true (by kernel_rfl)) (by unfold Func.isWrapper; rw [if_neg (by decide +kernel)]; exact ⟨rfl, rfl⟩)
    (fun os started H enc _ => texelPlain_lifted os started H enc)

#print axioms texelPlain_holds
end Go.Proofs.Ytmbhpgknkemgeaa
