/- Whatever threads do to a memory, each operation tells what the document says, and so are the clashes told, by all that orders them: CellDoes answers true for all sizes and all operations. Conditions: none. -/
import Derived.KernelRfl
import Derived.Test.YtlbcandecifkcaaEng16
import Derived.Test.YtlbcandecifkcaaW30
import Derived.Test.YtlbcandecifkcaaRows
set_option linter.unusedVariables false
set_option maxRecDepth 100000
namespace Go.Proofs.Ytlbcandecifkcaa
open Go Go.RowKit Go.WideShapes Go.ChangeShapes Go.ChangeAt

noncomputable def cellDoesFn : Func := (Try.checked.prog.funcs[4]?).getD default
theorem cellDoesFn_eq : Try.checked.prog.funcs[4]? = some cellDoesFn := by kernel_rfl

def cellDoesShapes : List Sh := [(.agg [(.i .i64), (.i .i64), (.i .i64), (.i .i64)]), (.sl (.agg [(.i .i64), (.i .i64), (.i .i64), (.i .i64), (.i .i64)]))]

/-- Whatever comes in, the evaluator answers true. -/
theorem cellDoes_true : ∀ lvs, IsArgs cellDoesShapes lvs → ∃ n h', evF cm n 4 lvs [] 0 = some (.v (.bool true), h') := by
  rintro lvs ⟨_, _, rfl, ⟨_, rfl, ⟨_, _, rfl, ⟨x0, rfl, l0, u0⟩, ⟨_, _, rfl, ⟨x1, rfl, l1, u1⟩, ⟨_, _, rfl, ⟨x2, rfl, l2, u2⟩, ⟨_, _, rfl, ⟨x3, rfl, l3, u3⟩, rfl⟩⟩⟩⟩⟩, ⟨_, _, rfl, s4, rfl⟩⟩
  exact by obtain ⟨n, L, S, hcs, hS, _⟩ := slE_of (e := 5) op_of s4; cases hcs; exact ⟨70000, e4 0 n L _ hS x0 x1 x2 x3⟩

theorem cellDoes_lifted (os : Os) (started : os.Started) (H : Type) (enc : TypeId × Value → H) :
    ReturnsInHanded {} Try.checked os 4 .any (Rows.cellDoesSpec.pre6 enc Try.checked.prog cellDoesFn Rows.cellDoesRow.domain false) (Rows.cellDoesSpec.post enc Try.checked.prog cellDoesFn false Rows.cellDoesRow.fresh Rows.cellDoesRow.handsOn Rows.cellDoesRow.again) :=
  row_lifted (ks := cellDoesShapes) (d := 20) (tb := 4) (by kernel_rfl) started (by kernel_rfl) cellDoesFn_eq
    (ChangeSpec.witness6 (enc := enc) (C := Try.checked) false ⟨#[], #[.agg #[.int .i64 0, .int .i64 0, .int .i64 0, .int .i64 0], .slice none 0 0], []⟩ 12 (by kernel_rfl) (by kernel_rfl) (by kernel_rfl) (by kernel_rfl))
    hcm (by kernel_rfl) (by kernel_rfl) (by kernel_rfl) (by kernel_rfl) (by kernel_rfl) (by kernel_rfl) rfl
    (fun ds h => by
      have h' : ds.length = 2 := h.trans (by kernel_rfl)
      match ds, h' with
      | [d0, d1], _ => rfl)
    cellDoes_true

theorem cellDoes_holds : Rows.CellDoesSaid :=
  OpenClaim.holds_of_wide 4 cellDoesFn rfl rfl rfl rfl rfl rfl rfl ⟨rfl, rfl, rfl, rfl, rfl⟩ rfl rfl rfl rfl rfl (by kernel_rfl) cellDoesFn_eq (by kernel_rfl)
    (of_decide_eq_true (by kernel_rfl)) (by unfold Func.isWrapper; rw [if_neg (by decide +kernel)]; exact ⟨rfl, rfl⟩)
    (fun os started H enc _ => cellDoes_lifted os started H enc)

#print axioms cellDoes_holds
end Go.Proofs.Ytlbcandecifkcaa
