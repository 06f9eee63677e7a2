/- Whatever six numbers come in, temperalaw06.TintOf returns true, and what came in reads on as it did; on no conditions. -/
import Derived.KernelRfl
import Derived.Test.YtalhkhbdoinbdaaEng16
import Derived.Test.YtalhkhbdoinbdaaG06
import Derived.Test.YtalhkhbdoinbdaaRows
set_option linter.unusedVariables false
set_option maxRecDepth 100000
namespace Go.Proofs.Ytalhkhbdoinbdaa
open Go Go.RowKit Go.WideShapes Go.ChangeShapes Go.ChangeAt

noncomputable def tintOfFn : Func := (Try.checked.prog.funcs[3]?).getD default
theorem tintOfFn_eq : Try.checked.prog.funcs[3]? = some tintOfFn := by kernel_rfl

def tintOfShapes : List Sh := [(.agg [(.i .i64), (.i .i64), (.i .i64), (.i .i64), (.i .i64), (.i .i64)])]

/-- Whatever comes in, the evaluator answers true. -/
theorem tintOf_true : ∀ lvs, IsArgs tintOfShapes lvs → ∃ n h', evF cm n 3 lvs [] 0 = some (.v (.bool true), h') := by
  rintro lvs ⟨_, _, rfl, ⟨_, rfl, ⟨_, _, rfl, ⟨x0, rfl, l0, u0⟩, ⟨_, _, rfl, ⟨x1, rfl, l1, u1⟩, ⟨_, _, rfl, ⟨x2, rfl, l2, u2⟩, ⟨_, _, rfl, ⟨x3, rfl, l3, u3⟩, ⟨_, _, rfl, ⟨x4, rfl, l4, u4⟩, ⟨_, _, rfl, ⟨x5, rfl, l5, u5⟩, rfl⟩⟩⟩⟩⟩⟩⟩, rfl⟩
  exact ⟨8, law_true (e3 0 x0 x1 x2 x3 x4 x5)⟩

theorem tintOf_lifted (os : Os) (started : os.Started) (H : Type) (enc : TypeId × Value → H) :
    ReturnsInHanded {} Try.checked os 3 .any (Rows.tintOfSpec.pre6 enc Try.checked.prog tintOfFn Rows.tintOfRow.domain false) (Rows.tintOfSpec.post enc Try.checked.prog tintOfFn false Rows.tintOfRow.fresh Rows.tintOfRow.handsOn Rows.tintOfRow.again) :=
  row_lifted (ks := tintOfShapes) (d := 20) (tb := 4) (by kernel_rfl) started (by kernel_rfl) tintOfFn_eq
    (ChangeSpec.witness6 (enc := enc) (C := Try.checked) false ⟨#[], #[.agg #[.int .i64 0, .int .i64 0, .int .i64 0, .int .i64 0, .int .i64 0, .int .i64 0]], []⟩ 12 (by kernel_rfl) (by kernel_rfl) (by kernel_rfl) (by kernel_rfl))
    hcm (by kernel_rfl) (by kernel_rfl) (by kernel_rfl) (by kernel_rfl) (by kernel_rfl) (by kernel_rfl) rfl
    (fun ds h => by
      have h' : ds.length = 1 := h.trans (by kernel_rfl)
      match ds, h' with
      | [d0], _ => rfl)
    tintOf_true

theorem tintOf_holds : Rows.TintOfSaid :=
  OpenClaim.holds_of_wide 3 tintOfFn rfl rfl rfl rfl rfl rfl rfl ⟨rfl, rfl, rfl, rfl, rfl⟩ rfl rfl rfl rfl rfl (by kernel_rfl) tintOfFn_eq (by kernel_rfl)
    (of_decide_eq_true (by kernel_rfl)) (by unfold Func.isWrapper; rw [if_neg (by decide +kernel)]; exact ⟨rfl, rfl⟩)
    (fun os started H enc _ => tintOf_lifted os started H enc)

#print axioms tintOf_holds
end Go.Proofs.Ytalhkhbdoinbdaa
