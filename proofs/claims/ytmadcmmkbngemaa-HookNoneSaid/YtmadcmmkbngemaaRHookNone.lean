/- Asking no shader answers nothing, and things are told by their types (HookNone), for every pixel, number and text. -/
import Derived.KernelRfl
import Derived.Test.YtmadcmmkbngemaaEng16
import Derived.Test.YtmadcmmkbngemaaNA43
import Derived.Test.YtmadcmmkbngemaaRows
set_option linter.unusedVariables false
set_option maxRecDepth 100000
namespace Go.Proofs.Ytmadcmmkbngemaa
open Go Go.RowKit Go.WideShapes Go.ChangeShapes Go.ChangeAt

noncomputable def hookNoneFn : Func := (Try.checked.prog.funcs[5]?).getD default
theorem hookNoneFn_eq : Try.checked.prog.funcs[5]? = some hookNoneFn := by kernel_rfl

def hookNoneShapes : List Sh := [(.agg [(.agg [(.i .i64), (.i .i64), (.i .i64), (.i .i64)]), (.i .i64), (.i .i64)]), (.i .i64), .s]

/-- Whatever comes in, the evaluator answers true. -/
theorem hookNone_true : ∀ lvs, IsArgs hookNoneShapes lvs → ∃ n h', evF cm2 n 5 lvs [] 0 = some (.v (.bool true), h') := by
  rintro lvs ⟨_, _, rfl, ⟨_, rfl, ⟨_, _, rfl, ⟨_, _, rfl, ⟨x0, rfl, l0, u0⟩, ⟨_, _, rfl, ⟨x1, rfl, l1, u1⟩, ⟨_, _, rfl, ⟨x2, rfl, l2, u2⟩, ⟨_, _, rfl, ⟨x3, rfl, l3, u3⟩, rfl⟩⟩⟩⟩, ⟨_, _, rfl, ⟨x4, rfl, l4, u4⟩, ⟨_, _, rfl, ⟨x5, rfl, l5, u5⟩, rfl⟩⟩⟩⟩, ⟨_, _, rfl, ⟨x6, ⟨⟩, l6, u6⟩, ⟨_, _, rfl, ⟨x7, ⟨⟩, l7⟩, rfl⟩⟩⟩
  exact ⟨400, law_true (e5 0 x0 x1 x2 x3 x4 x5 x6 x7)⟩

theorem hookNone_lifted (os : Os) (started : os.Started) (H : Type) (enc : TypeId × Value → H) :
    ReturnsInHanded {} Try.checked os 5 .any (Rows.hookNoneSpec.pre6 enc Try.checked.prog hookNoneFn Rows.hookNoneRow.domain false) (Rows.hookNoneSpec.post enc Try.checked.prog hookNoneFn false Rows.hookNoneRow.fresh Rows.hookNoneRow.handsOn Rows.hookNoneRow.again) :=
  row_lifted (ks := hookNoneShapes) (d := 20) (tb := 4) (by kernel_rfl) started (by kernel_rfl) hookNoneFn_eq
    (ChangeSpec.witness6 (enc := enc) (C := Try.checked) false ⟨#[], #[.agg #[.int .i64 0, .int .i64 0, .int .i64 0, .int .i64 0, .int .i64 0, .int .i64 0], .int .i64 0, .string ⟨#[]⟩], []⟩ 12 (by kernel_rfl) (by kernel_rfl) (by kernel_rfl) (by kernel_rfl))
    hcm2 (by kernel_rfl) (by kernel_rfl) (by kernel_rfl) (by kernel_rfl) (by kernel_rfl) (by kernel_rfl) rfl
    (fun ds h => by
      have h' : ds.length = 3 := h.trans (by kernel_rfl)
      match ds, h' with
      | [d0, d1, d2], _ => rfl)
    hookNone_true

theorem hookNone_holds : Rows.HookNoneSaid :=
  OpenClaim.holds_of_wide 5 hookNoneFn rfl rfl rfl rfl rfl rfl rfl ⟨rfl, rfl, rfl, rfl, rfl⟩ rfl rfl rfl rfl rfl (by kernel_rfl) hookNoneFn_eq (by kernel_rfl)
    (of_decide_eq_true (by kernel_rfl)) (by unfold Func.isWrapper; rw [if_neg (by decide +kernel)]; exact ⟨rfl, rfl⟩)
    (fun os started H enc _ => hookNone_lifted os started H enc)

#print axioms hookNone_holds
end Go.Proofs.Ytmadcmmkbngemaa
