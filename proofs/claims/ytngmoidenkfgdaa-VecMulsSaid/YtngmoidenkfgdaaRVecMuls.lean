/- For every two matrices the law VecMuls answers true: matrices are multiplied, and the one that moves nothing changes none. -/
import Derived.KernelRfl
import Derived.Test.YtngmoidenkfgdaaEng16
import Derived.Test.YtngmoidenkfgdaaJ05
import Derived.Test.YtngmoidenkfgdaaRows
set_option linter.unusedVariables false
set_option maxRecDepth 100000
namespace Go.Proofs.Ytngmoidenkfgdaa
open Go Go.RowKit Go.WideShapes Go.ChangeShapes Go.ChangeAt

noncomputable def vecMulsFn : Func := (Try.checked.prog.funcs[5]?).getD default
theorem vecMulsFn_eq : Try.checked.prog.funcs[5]? = some vecMulsFn := by kernel_rfl

def vecMulsShapes : List Sh := [(.agg [(.i .i64), (.i .i64), (.i .i64), (.i .i64), (.i .i64), (.i .i64), (.i .i64), (.i .i64), (.i .i64), (.i .i64), (.i .i64), (.i .i64), (.i .i64), (.i .i64), (.i .i64), (.i .i64)]), (.agg [(.i .i64), (.i .i64), (.i .i64), (.i .i64), (.i .i64), (.i .i64), (.i .i64), (.i .i64), (.i .i64), (.i .i64), (.i .i64), (.i .i64), (.i .i64), (.i .i64), (.i .i64), (.i .i64)])]

/-- Whatever comes in, the evaluator answers true. -/
theorem vecMuls_true : ∀ lvs, IsArgs vecMulsShapes lvs → ∃ n h', evF cm n 5 lvs [] 0 = some (.v (.bool true), h') := by
  rintro lvs ⟨_, _, rfl, ⟨_, rfl, ⟨_, _, rfl, ⟨x0, rfl, l0, u0⟩, ⟨_, _, rfl, ⟨x1, rfl, l1, u1⟩, ⟨_, _, rfl, ⟨x2, rfl, l2, u2⟩, ⟨_, _, rfl, ⟨x3, rfl, l3, u3⟩, ⟨_, _, rfl, ⟨x4, rfl, l4, u4⟩, ⟨_, _, rfl, ⟨x5, rfl, l5, u5⟩, ⟨_, _, rfl, ⟨x6, rfl, l6, u6⟩, ⟨_, _, rfl, ⟨x7, rfl, l7, u7⟩, ⟨_, _, rfl, ⟨x8, rfl, l8, u8⟩, ⟨_, _, rfl, ⟨x9, rfl, l9, u9⟩, ⟨_, _, rfl, ⟨x10, rfl, l10, u10⟩, ⟨_, _, rfl, ⟨x11, rfl, l11, u11⟩, ⟨_, _, rfl, ⟨x12, rfl, l12, u12⟩, ⟨_, _, rfl, ⟨x13, rfl, l13, u13⟩, ⟨_, _, rfl, ⟨x14, rfl, l14, u14⟩, ⟨_, _, rfl, ⟨x15, rfl, l15, u15⟩, rfl⟩⟩⟩⟩⟩⟩⟩⟩⟩⟩⟩⟩⟩⟩⟩⟩⟩, ⟨_, _, rfl, ⟨_, rfl, ⟨_, _, rfl, ⟨x16, rfl, l16, u16⟩, ⟨_, _, rfl, ⟨x17, rfl, l17, u17⟩, ⟨_, _, rfl, ⟨x18, rfl, l18, u18⟩, ⟨_, _, rfl, ⟨x19, rfl, l19, u19⟩, ⟨_, _, rfl, ⟨x20, rfl, l20, u20⟩, ⟨_, _, rfl, ⟨x21, rfl, l21, u21⟩, ⟨_, _, rfl, ⟨x22, rfl, l22, u22⟩, ⟨_, _, rfl, ⟨x23, rfl, l23, u23⟩, ⟨_, _, rfl, ⟨x24, rfl, l24, u24⟩, ⟨_, _, rfl, ⟨x25, rfl, l25, u25⟩, ⟨_, _, rfl, ⟨x26, rfl, l26, u26⟩, ⟨_, _, rfl, ⟨x27, rfl, l27, u27⟩, ⟨_, _, rfl, ⟨x28, rfl, l28, u28⟩, ⟨_, _, rfl, ⟨x29, rfl, l29, u29⟩, ⟨_, _, rfl, ⟨x30, rfl, l30, u30⟩, ⟨_, _, rfl, ⟨x31, rfl, l31, u31⟩, rfl⟩⟩⟩⟩⟩⟩⟩⟩⟩⟩⟩⟩⟩⟩⟩⟩⟩, rfl⟩⟩
  exact ⟨70, law_true (e5 0 x0 x1 x2 x3 x4 x5 x6 x7 x8 x9 x10 x11 x12 x13 x14 x15 x16 x17 x18 x19 x20 x21 x22 x23 x24 x25 x26 x27 x28 x29 x30 x31)⟩

theorem vecMuls_lifted (os : Os) (started : os.Started) (H : Type) (enc : TypeId × Value → H) :
    ReturnsInHanded {} Try.checked os 5 .any (Rows.vecMulsSpec.pre6 enc Try.checked.prog vecMulsFn Rows.vecMulsRow.domain false) (Rows.vecMulsSpec.post enc Try.checked.prog vecMulsFn false Rows.vecMulsRow.fresh Rows.vecMulsRow.handsOn Rows.vecMulsRow.again) :=
  row_lifted (ks := vecMulsShapes) (d := 20) (tb := 4) (by kernel_rfl) started (by kernel_rfl) vecMulsFn_eq
    (ChangeSpec.witness6 (enc := enc) (C := Try.checked) false ⟨#[], #[.agg #[.int .i64 0, .int .i64 0, .int .i64 0, .int .i64 0, .int .i64 0, .int .i64 0, .int .i64 0, .int .i64 0, .int .i64 0, .int .i64 0, .int .i64 0, .int .i64 0, .int .i64 0, .int .i64 0, .int .i64 0, .int .i64 0], .agg #[.int .i64 0, .int .i64 0, .int .i64 0, .int .i64 0, .int .i64 0, .int .i64 0, .int .i64 0, .int .i64 0, .int .i64 0, .int .i64 0, .int .i64 0, .int .i64 0, .int .i64 0, .int .i64 0, .int .i64 0, .int .i64 0]], []⟩ 12 (by kernel_rfl) (by kernel_rfl) (by kernel_rfl) (by kernel_rfl))
    hcm (by kernel_rfl) (by kernel_rfl) (by kernel_rfl) (by kernel_rfl) (by kernel_rfl) (by kernel_rfl) rfl
    (fun ds h => by
      have h' : ds.length = 2 := h.trans (by kernel_rfl)
      match ds, h' with
      | [d0, d1], _ => rfl)
    vecMuls_true

theorem vecMuls_holds : Rows.VecMulsSaid :=
  OpenClaim.holds_of_wide 5 vecMulsFn rfl rfl rfl rfl rfl rfl rfl ⟨rfl, rfl, rfl, rfl, rfl⟩ rfl rfl rfl rfl rfl (by kernel_rfl) vecMulsFn_eq (by kernel_rfl)
    (of_decide_eq_true (by kernel_rfl)) (by unfold Func.isWrapper; rw [if_neg (by decide +kernel)]; exact ⟨rfl, rfl⟩)
    (fun os started H enc _ => vecMuls_lifted os started H enc)

#print axioms vecMuls_holds
end Go.Proofs.Ytngmoidenkfgdaa
