/- Who holds a lock while it accesses a cell clashes with nobody who does so, too: whatever operations come, CellLocks answers true. Conditions: none. -/
import Derived.KernelRfl
import Derived.Test.YtlbcandecifkcaaEng16
import Derived.Test.YtlbcandecifkcaaL30
import Derived.Test.YtlbcandecifkcaaRows
set_option linter.unusedVariables false
set_option maxRecDepth 100000
namespace Go.Proofs.Ytlbcandecifkcaa
open Go Go.RowKit Go.WideShapes Go.ChangeShapes Go.ChangeAt

noncomputable def cellLocksFn : Func := (Try.checked.prog.funcs[3]?).getD default
theorem cellLocksFn_eq : Try.checked.prog.funcs[3]? = some cellLocksFn := by kernel_rfl

def cellLocksShapes : List Sh := [(.sl (.agg [(.i .i64), (.i .i64), (.i .i64), (.i .i64), (.i .i64)]))]

/-- Whatever comes in, the evaluator answers true. -/
theorem cellLocks_true : ∀ lvs, IsArgs cellLocksShapes lvs → ∃ n h', evF cm n 3 lvs [] 0 = some (.v (.bool true), h') := by
  rintro lvs ⟨_, _, rfl, s0, rfl⟩
  exact by obtain ⟨n, L, S, hcs, hS, _⟩ := slE_of (e := 5) op_of s0; cases hcs; exact ⟨300, e3 0 n L _ hS⟩

theorem cellLocks_lifted (os : Os) (started : os.Started) (H : Type) (enc : TypeId × Value → H) :
    ReturnsInHanded {} Try.checked os 3 .any (Rows.cellLocksSpec.pre6 enc Try.checked.prog cellLocksFn Rows.cellLocksRow.domain false) (Rows.cellLocksSpec.post enc Try.checked.prog cellLocksFn false Rows.cellLocksRow.fresh Rows.cellLocksRow.handsOn Rows.cellLocksRow.again) :=
  row_lifted (ks := cellLocksShapes) (d := 20) (tb := 4) (by kernel_rfl) started (by kernel_rfl) cellLocksFn_eq
    (ChangeSpec.witness6 (enc := enc) (C := Try.checked) false ⟨#[], #[.slice none 0 0], []⟩ 12 (by kernel_rfl) (by kernel_rfl) (by kernel_rfl) (by kernel_rfl))
    hcm (by kernel_rfl) (by kernel_rfl) (by kernel_rfl) (by kernel_rfl) (by kernel_rfl) (by kernel_rfl) rfl
    (fun ds h => by
      have h' : ds.length = 1 := h.trans (by kernel_rfl)
      match ds, h' with
      | [d0], _ => rfl)
    cellLocks_true

theorem cellLocks_holds : Rows.CellLocksSaid :=
  OpenClaim.holds_of_wide 3 cellLocksFn rfl rfl rfl rfl rfl rfl rfl ⟨rfl, rfl, rfl, rfl, rfl⟩ rfl rfl rfl rfl rfl (by kernel_rfl) cellLocksFn_eq (by kernel_rfl)
    (of_decide_eq_true (by kernel_rfl)) (by unfold Func.isWrapper; rw [if_neg (by decide +kernel)]; exact ⟨rfl, rfl⟩)
    (fun os started H enc _ => cellLocks_lifted os started H enc)

#print axioms cellLocks_holds
end Go.Proofs.Ytlbcandecifkcaa
