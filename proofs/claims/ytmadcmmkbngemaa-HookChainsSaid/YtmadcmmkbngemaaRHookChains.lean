/- A shader that is asked again and again answers of the pixel that there is, and the first error ends the chain (HookChains), for every kind, number and count. -/
import Derived.KernelRfl
import Derived.Test.YtmadcmmkbngemaaEng16
import Derived.Test.YtmadcmmkbngemaaMA43
import Derived.Test.YtmadcmmkbngemaaRows
set_option linter.unusedVariables false
set_option maxRecDepth 100000
namespace Go.Proofs.Ytmadcmmkbngemaa
open Go Go.RowKit Go.WideShapes Go.ChangeShapes Go.ChangeAt

noncomputable def hookChainsFn : Func := (Try.checked.prog.funcs[3]?).getD default
theorem hookChainsFn_eq : Try.checked.prog.funcs[3]? = some hookChainsFn := by kernel_rfl

def hookChainsShapes : List Sh := [(.i .i64), (.i .i64), (.i .i64)]

/-- Whatever comes in, the evaluator answers true. -/
theorem hookChains_true : ∀ lvs, IsArgs hookChainsShapes lvs → ∃ n h', evF cm2 n 3 lvs [] 0 = some (.v (.bool true), h') := by
  rintro lvs ⟨_, _, rfl, ⟨x0, ⟨⟩, l0, u0⟩, ⟨_, _, rfl, ⟨x1, ⟨⟩, l1, u1⟩, ⟨_, _, rfl, ⟨x2, ⟨⟩, l2, u2⟩, rfl⟩⟩⟩
  exact ⟨400, law_true (e3 0 x0 x1 x2)⟩

theorem hookChains_lifted (os : Os) (started : os.Started) (H : Type) (enc : TypeId × Value → H) :
    ReturnsInHanded {} Try.checked os 3 .any (Rows.hookChainsSpec.pre6 enc Try.checked.prog hookChainsFn Rows.hookChainsRow.domain false) (Rows.hookChainsSpec.post enc Try.checked.prog hookChainsFn false Rows.hookChainsRow.fresh Rows.hookChainsRow.handsOn Rows.hookChainsRow.again) :=
  row_lifted (ks := hookChainsShapes) (d := 20) (tb := 4) (by kernel_rfl) started (by kernel_rfl) hookChainsFn_eq
    (ChangeSpec.witness6 (enc := enc) (C := Try.checked) false ⟨#[], #[.int .i64 0, .int .i64 0, .int .i64 0], []⟩ 12 (by kernel_rfl) (by kernel_rfl) (by kernel_rfl) (by kernel_rfl))
    hcm2 (by kernel_rfl) (by kernel_rfl) (by kernel_rfl) (by kernel_rfl) (by kernel_rfl) (by kernel_rfl) rfl
    (fun ds h => by
      have h' : ds.length = 3 := h.trans (by kernel_rfl)
      match ds, h' with
      | [d0, d1, d2], _ => rfl)
    hookChains_true

theorem hookChains_holds : Rows.HookChainsSaid :=
  OpenClaim.holds_of_wide 3 hookChainsFn rfl rfl rfl rfl rfl rfl rfl ⟨rfl, rfl, rfl, rfl, rfl⟩ rfl rfl rfl rfl rfl (by kernel_rfl) hookChainsFn_eq (by kernel_rfl)
    (of_decide_eq_true (by kernel_rfl)) (by unfold Func.isWrapper; rw [if_neg (by decide +kernel)]; exact ⟨rfl, rfl⟩)
    (fun os started H enc _ => hookChains_lifted os started H enc)

#print axioms hookChains_holds
end Go.Proofs.Ytmadcmmkbngemaa
