/- Whatever a shader does, a pixel comes, or an error: what it answers is taken by its type (HookAsks), for every kind, number and pixel. -/
import Derived.KernelRfl
import Derived.Test.YtmadcmmkbngemaaEng16
import Derived.Test.YtmadcmmkbngemaaOA43
import Derived.Test.YtmadcmmkbngemaaRows
set_option linter.unusedVariables false
set_option maxRecDepth 100000
namespace Go.Proofs.Ytmadcmmkbngemaa
open Go Go.RowKit Go.WideShapes Go.ChangeShapes Go.ChangeAt

noncomputable def hookAsksFn : Func := (Try.checked.prog.funcs[4]?).getD default
theorem hookAsksFn_eq : Try.checked.prog.funcs[4]? = some hookAsksFn := by kernel_rfl

def hookAsksShapes : List Sh := [(.i .i64), (.i .i64), (.agg [(.agg [(.i .i64), (.i .i64), (.i .i64), (.i .i64)]), (.i .i64), (.i .i64)])]

/-- Whatever comes in, the evaluator answers true. -/
theorem hookAsks_true : ∀ lvs, IsArgs hookAsksShapes lvs → ∃ n h', evF cm2 n 4 lvs [] 0 = some (.v (.bool true), h') := by
  rintro lvs ⟨_, _, rfl, ⟨x0, ⟨⟩, l0, u0⟩, ⟨_, _, rfl, ⟨x1, ⟨⟩, l1, u1⟩, ⟨_, _, rfl, ⟨_, rfl, ⟨_, _, rfl, ⟨_, _, rfl, ⟨x2, rfl, l2, u2⟩, ⟨_, _, rfl, ⟨x3, rfl, l3, u3⟩, ⟨_, _, rfl, ⟨x4, rfl, l4, u4⟩, ⟨_, _, rfl, ⟨x5, rfl, l5, u5⟩, rfl⟩⟩⟩⟩, ⟨_, _, rfl, ⟨x6, rfl, l6, u6⟩, ⟨_, _, rfl, ⟨x7, rfl, l7, u7⟩, rfl⟩⟩⟩⟩, rfl⟩⟩⟩
  exact ⟨400, law_true (e4 0 x0 x1 x2 x3 x4 x5 x6 x7)⟩

theorem hookAsks_lifted (os : Os) (started : os.Started) (H : Type) (enc : TypeId × Value → H) :
    ReturnsInHanded {} Try.checked os 4 .any (Rows.hookAsksSpec.pre6 enc Try.checked.prog hookAsksFn Rows.hookAsksRow.domain false) (Rows.hookAsksSpec.post enc Try.checked.prog hookAsksFn false Rows.hookAsksRow.fresh Rows.hookAsksRow.handsOn Rows.hookAsksRow.again) :=
  row_lifted (ks := hookAsksShapes) (d := 20) (tb := 4) (by kernel_rfl) started (by kernel_rfl) hookAsksFn_eq
    (ChangeSpec.witness6 (enc := enc) (C := Try.checked) false ⟨#[], #[.int .i64 0, .int .i64 0, .agg #[.int .i64 0, .int .i64 0, .int .i64 0, .int .i64 0, .int .i64 0, .int .i64 0]], []⟩ 12 (by kernel_rfl) (by kernel_rfl) (by kernel_rfl) (by kernel_rfl))
    hcm2 (by kernel_rfl) (by kernel_rfl) (by kernel_rfl) (by kernel_rfl) (by kernel_rfl) (by kernel_rfl) rfl
    (fun ds h => by
      have h' : ds.length = 3 := h.trans (by kernel_rfl)
      match ds, h' with
      | [d0, d1, d2], _ => rfl)
    hookAsks_true

theorem hookAsks_holds : Rows.HookAsksSaid :=
  OpenClaim.holds_of_wide 4 hookAsksFn rfl rfl rfl rfl rfl rfl rfl ⟨rfl, rfl, rfl, rfl, rfl⟩ rfl rfl rfl rfl rfl (by kernel_rfl) hookAsksFn_eq (by kernel_rfl)
    (of_decide_eq_true (by kernel_rfl)) (by unfold Func.isWrapper; rw [if_neg (by decide +kernel)]; exact ⟨rfl, rfl⟩)
    (fun os started H enc _ => hookAsks_lifted os started H enc)

#print axioms hookAsks_holds
end Go.Proofs.Ytmadcmmkbngemaa
