/- Whatever colour and number come in, temperalaw06.TintPacks returns true, and what came in reads on as it did; on no conditions. -/
import Derived.KernelRfl
import Derived.Test.YtalhkhbdoinbdaaEng16
import Derived.Test.YtalhkhbdoinbdaaG06
import Derived.Test.YtalhkhbdoinbdaaRows
set_option linter.unusedVariables false
set_option maxRecDepth 100000
namespace Go.Proofs.Ytalhkhbdoinbdaa
open Go Go.RowKit Go.WideShapes Go.ChangeShapes Go.ChangeAt

noncomputable def tintPacksFn : Func := (Try.checked.prog.funcs[4]?).getD default
theorem tintPacksFn_eq : Try.checked.prog.funcs[4]? = some tintPacksFn := by kernel_rfl

def tintPacksShapes : List Sh := [(.agg [(.i .i64), (.i .i64), (.i .i64), (.i .i64)]), (.i .i64)]

/-- Whatever comes in, the evaluator answers true. -/
theorem tintPacks_true : ∀ lvs, IsArgs tintPacksShapes lvs → ∃ n h', evF cm n 4 lvs [] 0 = some (.v (.bool true), h') := by
  rintro lvs ⟨_, _, rfl, ⟨_, rfl, ⟨_, _, rfl, ⟨x0, rfl, l0, u0⟩, ⟨_, _, rfl, ⟨x1, rfl, l1, u1⟩, ⟨_, _, rfl, ⟨x2, rfl, l2, u2⟩, ⟨_, _, rfl, ⟨x3, rfl, l3, u3⟩, rfl⟩⟩⟩⟩⟩, ⟨_, _, rfl, ⟨x4, ⟨⟩, l4, u4⟩, rfl⟩⟩
  exact ⟨8, law_true (e4 0 x0 x1 x2 x3 x4)⟩

theorem tintPacks_lifted (os : Os) (started : os.Started) (H : Type) (enc : TypeId × Value → H) :
    ReturnsInHanded {} Try.checked os 4 .any (Rows.tintPacksSpec.pre6 enc Try.checked.prog tintPacksFn Rows.tintPacksRow.domain false) (Rows.tintPacksSpec.post enc Try.checked.prog tintPacksFn false Rows.tintPacksRow.fresh Rows.tintPacksRow.handsOn Rows.tintPacksRow.again) :=
  row_lifted (ks := tintPacksShapes) (d := 20) (tb := 4) (by kernel_rfl) started (by kernel_rfl) tintPacksFn_eq
    (ChangeSpec.witness6 (enc := enc) (C := Try.checked) false ⟨#[], #[.agg #[.int .i64 0, .int .i64 0, .int .i64 0, .int .i64 0], .int .i64 0], []⟩ 12 (by kernel_rfl) (by kernel_rfl) (by kernel_rfl) (by kernel_rfl))
    hcm (by kernel_rfl) (by kernel_rfl) (by kernel_rfl) (by kernel_rfl) (by kernel_rfl) (by kernel_rfl) rfl
    (fun ds h => by
      have h' : ds.length = 2 := h.trans (by kernel_rfl)
      match ds, h' with
      | [d0, d1], _ => rfl)
    tintPacks_true

theorem tintPacks_holds : Rows.TintPacksSaid :=
  OpenClaim.holds_of_wide 4 tintPacksFn rfl rfl rfl rfl rfl rfl rfl ⟨rfl, rfl, rfl, rfl, rfl⟩ rfl rfl rfl rfl rfl (by kernel_rfl) tintPacksFn_eq (by kernel_rfl)
    (of_decide_eq_true (by kernel_rfl)) (by unfold Func.isWrapper; rw [if_neg (by decide +kernel)]; exact ⟨rfl, rfl⟩)
    (fun os started H enc _ => tintPacks_lifted os started H enc)

#print axioms tintPacks_holds
end Go.Proofs.Ytalhkhbdoinbdaa
