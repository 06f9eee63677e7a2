/- Counts that are run as threads do what Turns says of their numbers. -/
import Derived.KernelRfl
import Derived.Test.YtbmfmcimcdajcaaEng16
import Derived.Test.YtbmfmcimcdajcaaO34
import Derived.Test.YtbmfmcimcdajcaaRows
set_option linter.unusedVariables false
set_option maxRecDepth 100000
namespace Go.Proofs.Ytbmfmcimcdajcaa
open Go Go.RowKit Go.WideShapes Go.ChangeShapes Go.ChangeAt

noncomputable def schedRunsFn : Func := (Try.checked.prog.funcs[6]?).getD default
theorem schedRunsFn_eq : Try.checked.prog.funcs[6]? = some schedRunsFn := by kernel_rfl

def schedRunsShapes : List Sh := [(.sl (.i .i64)), (.sl (.i .i64)), (.i .i64)]

/-- Whatever comes in, the evaluator answers true. -/
theorem schedRuns_true : ∀ lvs, IsArgs schedRunsShapes lvs → ∃ n h', evF cm n 6 lvs [] 0 = some (.v (.bool true), h') := by
  rintro lvs ⟨_, _, rfl, s0, ⟨_, _, rfl, s1, ⟨_, _, rfl, ⟨x2, ⟨⟩, l2, u2⟩, rfl⟩⟩⟩
  exact by obtain ⟨L, S, hcs, hS, _⟩ := pk_of s0; cases hcs; obtain ⟨P, PK, hcp, hPK, hP⟩ := pk_of s1; cases hcp; exact ⟨700, law_true (e6 0 L P _ _ hS hPK hP x2)⟩

theorem schedRuns_lifted (os : Os) (started : os.Started) (H : Type) (enc : TypeId × Value → H) :
    ReturnsInHanded {} Try.checked os 6 .any (Rows.schedRunsSpec.pre6 enc Try.checked.prog schedRunsFn Rows.schedRunsRow.domain false) (Rows.schedRunsSpec.post enc Try.checked.prog schedRunsFn false Rows.schedRunsRow.fresh Rows.schedRunsRow.handsOn Rows.schedRunsRow.again) :=
  row_lifted (ks := schedRunsShapes) (d := 20) (tb := 4) (by kernel_rfl) started (by kernel_rfl) schedRunsFn_eq
    (ChangeSpec.witness6 (enc := enc) (C := Try.checked) false ⟨#[], #[.slice none 0 0, .slice none 0 0, .int .i64 0], []⟩ 12 (by kernel_rfl) (by kernel_rfl) (by kernel_rfl) (by kernel_rfl))
    hcm (by kernel_rfl) (by kernel_rfl) (by kernel_rfl) (by kernel_rfl) (by kernel_rfl) (by kernel_rfl) rfl
    (fun ds h => by
      have h' : ds.length = 3 := h.trans (by kernel_rfl)
      match ds, h' with
      | [d0, d1, d2], _ => rfl)
    schedRuns_true

theorem schedRuns_holds : Rows.SchedRunsSaid :=
  OpenClaim.holds_of_wide 6 schedRunsFn rfl rfl rfl rfl rfl rfl rfl ⟨rfl, rfl, rfl, rfl, rfl⟩ rfl rfl rfl rfl rfl (by kernel_rfl) schedRunsFn_eq (by kernel_rfl)
    (of_decide_eq_true (by kernel_rfl)) (by unfold Func.isWrapper; rw [if_neg (by decide +kernel)]; exact ⟨rfl, rfl⟩)
    (fun os started H enc _ => schedRuns_lifted os started H enc)

#print axioms schedRuns_holds
end Go.Proofs.Ytbmfmcimcdajcaa
