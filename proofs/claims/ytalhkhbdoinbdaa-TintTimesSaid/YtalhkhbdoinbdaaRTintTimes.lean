/- Whatever two colours come in, temperalaw06.TintTimes returns true, and what came in reads on as it did; on no conditions. -/
import Derived.KernelRfl
import Derived.Test.YtalhkhbdoinbdaaEng16
import Derived.Test.YtalhkhbdoinbdaaG06
import Derived.Test.YtalhkhbdoinbdaaRows
set_option linter.unusedVariables false
set_option maxRecDepth 100000
namespace Go.Proofs.Ytalhkhbdoinbdaa
open Go Go.RowKit Go.WideShapes Go.ChangeShapes Go.ChangeAt

noncomputable def tintTimesFn : Func := (Try.checked.prog.funcs[5]?).getD default
theorem tintTimesFn_eq : Try.checked.prog.funcs[5]? = some tintTimesFn := by kernel_rfl

def tintTimesShapes : List Sh := [(.agg [(.i .i64), (.i .i64), (.i .i64), (.i .i64)]), (.agg [(.i .i64), (.i .i64), (.i .i64), (.i .i64)])]

/-- Whatever comes in, the evaluator answers true. -/
theorem tintTimes_true : ∀ lvs, IsArgs tintTimesShapes lvs → ∃ n h', evF cm n 5 lvs [] 0 = some (.v (.bool true), h') := by
  rintro lvs ⟨_, _, rfl, ⟨_, rfl, ⟨_, _, rfl, ⟨x0, rfl, l0, u0⟩, ⟨_, _, rfl, ⟨x1, rfl, l1, u1⟩, ⟨_, _, rfl, ⟨x2, rfl, l2, u2⟩, ⟨_, _, rfl, ⟨x3, rfl, l3, u3⟩, rfl⟩⟩⟩⟩⟩, ⟨_, _, rfl, ⟨_, rfl, ⟨_, _, rfl, ⟨x4, rfl, l4, u4⟩, ⟨_, _, rfl, ⟨x5, rfl, l5, u5⟩, ⟨_, _, rfl, ⟨x6, rfl, l6, u6⟩, ⟨_, _, rfl, ⟨x7, rfl, l7, u7⟩, rfl⟩⟩⟩⟩⟩, rfl⟩⟩
  exact ⟨8, law_true (e5 0 x0 x1 x2 x3 x4 x5 x6 x7)⟩

theorem tintTimes_lifted (os : Os) (started : os.Started) (H : Type) (enc : TypeId × Value → H) :
    ReturnsInHanded {} Try.checked os 5 .any (Rows.tintTimesSpec.pre6 enc Try.checked.prog tintTimesFn Rows.tintTimesRow.domain false) (Rows.tintTimesSpec.post enc Try.checked.prog tintTimesFn false Rows.tintTimesRow.fresh Rows.tintTimesRow.handsOn Rows.tintTimesRow.again) :=
  row_lifted (ks := tintTimesShapes) (d := 20) (tb := 4) (by kernel_rfl) started (by kernel_rfl) tintTimesFn_eq
    (ChangeSpec.witness6 (enc := enc) (C := Try.checked) false ⟨#[], #[.agg #[.int .i64 0, .int .i64 0, .int .i64 0, .int .i64 0], .agg #[.int .i64 0, .int .i64 0, .int .i64 0, .int .i64 0]], []⟩ 12 (by kernel_rfl) (by kernel_rfl) (by kernel_rfl) (by kernel_rfl))
    hcm (by kernel_rfl) (by kernel_rfl) (by kernel_rfl) (by kernel_rfl) (by kernel_rfl) (by kernel_rfl) rfl
    (fun ds h => by
      have h' : ds.length = 2 := h.trans (by kernel_rfl)
      match ds, h' with
      | [d0, d1], _ => rfl)
    tintTimes_true

theorem tintTimes_holds : Rows.TintTimesSaid :=
  OpenClaim.holds_of_wide 5 tintTimesFn rfl rfl rfl rfl rfl rfl rfl ⟨rfl, rfl, rfl, rfl, rfl⟩ rfl rfl rfl rfl rfl (by kernel_rfl) tintTimesFn_eq (by kernel_rfl)
    (of_decide_eq_true (by kernel_rfl)) (by unfold Func.isWrapper; rw [if_neg (by decide +kernel)]; exact ⟨rfl, rfl⟩)
    (fun os started H enc _ => tintTimes_lifted os started H enc)

#print axioms tintTimes_holds
end Go.Proofs.Ytalhkhbdoinbdaa
