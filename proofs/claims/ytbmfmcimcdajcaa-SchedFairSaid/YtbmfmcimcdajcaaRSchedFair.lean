/- Behind the picks each live thread does a step. -/
import Derived.KernelRfl
import Derived.Test.YtbmfmcimcdajcaaEng16
import Derived.Test.YtbmfmcimcdajcaaW34
import Derived.Test.YtbmfmcimcdajcaaRows
set_option linter.unusedVariables false
set_option maxRecDepth 100000
namespace Go.Proofs.Ytbmfmcimcdajcaa
open Go Go.RowKit Go.WideShapes Go.ChangeShapes Go.ChangeAt

noncomputable def schedFairFn : Func := (Try.checked.prog.funcs[4]?).getD default
theorem schedFairFn_eq : Try.checked.prog.funcs[4]? = some schedFairFn := by kernel_rfl

def schedFairShapes : List Sh := [(.sl (.i .i64)), (.sl (.i .i64))]

/-- Whatever comes in, the evaluator answers true. -/
theorem schedFair_true : ∀ lvs, IsArgs schedFairShapes lvs → ∃ n h', evF cm n 4 lvs [] 0 = some (.v (.bool true), h') := by
  rintro lvs ⟨_, _, rfl, s0, ⟨_, _, rfl, s1, rfl⟩⟩
  exact by obtain ⟨L, S, hcs, hS, _⟩ := pk_of s0; cases hcs; obtain ⟨P, PK, hcp, hPK, hP⟩ := pk_of s1; cases hcp; exact ⟨800, law_true (e4 0 L P _ _ hS hPK hP)⟩

theorem schedFair_lifted (os : Os) (started : os.Started) (H : Type) (enc : TypeId × Value → H) :
    ReturnsInHanded {} Try.checked os 4 .any (Rows.schedFairSpec.pre6 enc Try.checked.prog schedFairFn Rows.schedFairRow.domain false) (Rows.schedFairSpec.post enc Try.checked.prog schedFairFn false Rows.schedFairRow.fresh Rows.schedFairRow.handsOn Rows.schedFairRow.again) :=
  row_lifted (ks := schedFairShapes) (d := 20) (tb := 4) (by kernel_rfl) started (by kernel_rfl) schedFairFn_eq
    (ChangeSpec.witness6 (enc := enc) (C := Try.checked) false ⟨#[], #[.slice none 0 0, .slice none 0 0], []⟩ 12 (by kernel_rfl) (by kernel_rfl) (by kernel_rfl) (by kernel_rfl))
    hcm (by kernel_rfl) (by kernel_rfl) (by kernel_rfl) (by kernel_rfl) (by kernel_rfl) (by kernel_rfl) rfl
    (fun ds h => by
      have h' : ds.length = 2 := h.trans (by kernel_rfl)
      match ds, h' with
      | [d0, d1], _ => rfl)
    schedFair_true

theorem schedFair_holds : Rows.SchedFairSaid :=
  OpenClaim.holds_of_wide 4 schedFairFn rfl rfl rfl rfl rfl rfl rfl ⟨rfl, rfl, rfl, rfl, rfl⟩ rfl rfl rfl rfl rfl (by kernel_rfl) schedFairFn_eq (by kernel_rfl)
    (of_decide_eq_true (by kernel_rfl)) (by unfold Func.isWrapper; rw [if_neg (by decide +kernel)]; exact ⟨rfl, rfl⟩)
    (fun os started H enc _ => schedFair_lifted os started H enc)

#print axioms schedFair_holds
end Go.Proofs.Ytbmfmcimcdajcaa
