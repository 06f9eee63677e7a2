/- A vertex goes to clip space as the matrix says, and keeps its colour, and its place in the texture (FetchCorners), for every matrix and every three vertices. -/
import Derived.KernelRfl
import Derived.Test.YteeghebaankmlaaEng16
import Derived.Test.YteeghebaankmlaaLT24
import Derived.Test.YteeghebaankmlaaRows
set_option linter.unusedVariables false
set_option maxRecDepth 100000
namespace Go.Proofs.Yteeghebaankmlaa
open Go Go.RowKit Go.WideShapes Go.ChangeShapes Go.ChangeAt

noncomputable def fetchCornersFn : Func := (Try.checked.prog.funcs[4]?).getD default
theorem fetchCornersFn_eq : Try.checked.prog.funcs[4]? = some fetchCornersFn := by kernel_rfl

def fetchCornersShapes : List Sh := [(.agg [(.i .i64), (.i .i64), (.i .i64), (.i .i64), (.i .i64), (.i .i64), (.i .i64), (.i .i64), (.i .i64), (.i .i64), (.i .i64), (.i .i64), (.i .i64), (.i .i64), (.i .i64), (.i .i64)]), (.agg [(.agg [(.i .i64), (.i .i64), (.i .i64), (.agg [(.i .i64), (.i .i64), (.i .i64), (.i .i64)]), (.i .i64), (.i .i64)]), (.agg [(.i .i64), (.i .i64), (.i .i64), (.agg [(.i .i64), (.i .i64), (.i .i64), (.i .i64)]), (.i .i64), (.i .i64)]), (.agg [(.i .i64), (.i .i64), (.i .i64), (.agg [(.i .i64), (.i .i64), (.i .i64), (.i .i64)]), (.i .i64), (.i .i64)])])]

/-- Whatever comes in, the evaluator answers true. -/
theorem fetchCorners_true : ∀ lvs, IsArgs fetchCornersShapes lvs → ∃ n h', evF cm2 n 4 lvs [] 0 = some (.v (.bool true), h') := by
  rintro lvs ⟨_, _, rfl, ⟨_, rfl, ⟨_, _, rfl, ⟨x0, rfl, l0, u0⟩, ⟨_, _, rfl, ⟨x1, rfl, l1, u1⟩, ⟨_, _, rfl, ⟨x2, rfl, l2, u2⟩, ⟨_, _, rfl, ⟨x3, rfl, l3, u3⟩, ⟨_, _, rfl, ⟨x4, rfl, l4, u4⟩, ⟨_, _, rfl, ⟨x5, rfl, l5, u5⟩, ⟨_, _, rfl, ⟨x6, rfl, l6, u6⟩, ⟨_, _, rfl, ⟨x7, rfl, l7, u7⟩, ⟨_, _, rfl, ⟨x8, rfl, l8, u8⟩, ⟨_, _, rfl, ⟨x9, rfl, l9, u9⟩, ⟨_, _, rfl, ⟨x10, rfl, l10, u10⟩, ⟨_, _, rfl, ⟨x11, rfl, l11, u11⟩, ⟨_, _, rfl, ⟨x12, rfl, l12, u12⟩, ⟨_, _, rfl, ⟨x13, rfl, l13, u13⟩, ⟨_, _, rfl, ⟨x14, rfl, l14, u14⟩, ⟨_, _, rfl, ⟨x15, rfl, l15, u15⟩, rfl⟩⟩⟩⟩⟩⟩⟩⟩⟩⟩⟩⟩⟩⟩⟩⟩⟩, ⟨_, _, rfl, ⟨_, rfl, ⟨_, _, rfl, ⟨_, _, rfl, ⟨x16, rfl, l16, u16⟩, ⟨_, _, rfl, ⟨x17, rfl, l17, u17⟩, ⟨_, _, rfl, ⟨x18, rfl, l18, u18⟩, ⟨_, _, rfl, ⟨_, _, rfl, ⟨x19, rfl, l19, u19⟩, ⟨_, _, rfl, ⟨x20, rfl, l20, u20⟩, ⟨_, _, rfl, ⟨x21, rfl, l21, u21⟩, ⟨_, _, rfl, ⟨x22, rfl, l22, u22⟩, rfl⟩⟩⟩⟩, ⟨_, _, rfl, ⟨x23, rfl, l23, u23⟩, ⟨_, _, rfl, ⟨x24, rfl, l24, u24⟩, rfl⟩⟩⟩⟩⟩⟩, ⟨_, _, rfl, ⟨_, _, rfl, ⟨x25, rfl, l25, u25⟩, ⟨_, _, rfl, ⟨x26, rfl, l26, u26⟩, ⟨_, _, rfl, ⟨x27, rfl, l27, u27⟩, ⟨_, _, rfl, ⟨_, _, rfl, ⟨x28, rfl, l28, u28⟩, ⟨_, _, rfl, ⟨x29, rfl, l29, u29⟩, ⟨_, _, rfl, ⟨x30, rfl, l30, u30⟩, ⟨_, _, rfl, ⟨x31, rfl, l31, u31⟩, rfl⟩⟩⟩⟩, ⟨_, _, rfl, ⟨x32, rfl, l32, u32⟩, ⟨_, _, rfl, ⟨x33, rfl, l33, u33⟩, rfl⟩⟩⟩⟩⟩⟩, ⟨_, _, rfl, ⟨_, _, rfl, ⟨x34, rfl, l34, u34⟩, ⟨_, _, rfl, ⟨x35, rfl, l35, u35⟩, ⟨_, _, rfl, ⟨x36, rfl, l36, u36⟩, ⟨_, _, rfl, ⟨_, _, rfl, ⟨x37, rfl, l37, u37⟩, ⟨_, _, rfl, ⟨x38, rfl, l38, u38⟩, ⟨_, _, rfl, ⟨x39, rfl, l39, u39⟩, ⟨_, _, rfl, ⟨x40, rfl, l40, u40⟩, rfl⟩⟩⟩⟩, ⟨_, _, rfl, ⟨x41, rfl, l41, u41⟩, ⟨_, _, rfl, ⟨x42, rfl, l42, u42⟩, rfl⟩⟩⟩⟩⟩⟩, rfl⟩⟩⟩⟩, rfl⟩⟩
  exact ⟨90, law_true (e4 x0 x1 x2 x3 x4 x5 x6 x7 x8 x9 x10 x11 x12 x13 x14 x15 x16 x17 x18 x19 x20 x21 x22 x23 x24 x25 x26 x27 x28 x29 x30 x31 x32 x33 x34 x35 x36 x37 x38 x39 x40 x41 x42 0)⟩

theorem fetchCorners_lifted (os : Os) (started : os.Started) (H : Type) (enc : TypeId × Value → H) :
    ReturnsInHanded {} Try.checked os 4 .any (Rows.fetchCornersSpec.pre6 enc Try.checked.prog fetchCornersFn Rows.fetchCornersRow.domain false) (Rows.fetchCornersSpec.post enc Try.checked.prog fetchCornersFn false Rows.fetchCornersRow.fresh Rows.fetchCornersRow.handsOn Rows.fetchCornersRow.again) :=
  row_lifted (ks := fetchCornersShapes) (d := 20) (tb := 4) (by kernel_rfl) started (by kernel_rfl) fetchCornersFn_eq
    (ChangeSpec.witness6 (enc := enc) (C := Try.checked) false ⟨#[], #[.agg #[.int .i64 0, .int .i64 0, .int .i64 0, .int .i64 0, .int .i64 0, .int .i64 0, .int .i64 0, .int .i64 0, .int .i64 0, .int .i64 0, .int .i64 0, .int .i64 0, .int .i64 0, .int .i64 0, .int .i64 0, .int .i64 0], .agg #[.int .i64 0, .int .i64 0, .int .i64 0, .int .i64 0, .int .i64 0, .int .i64 0, .int .i64 0, .int .i64 0, .int .i64 0, .int .i64 0, .int .i64 0, .int .i64 0, .int .i64 0, .int .i64 0, .int .i64 0, .int .i64 0, .int .i64 0, .int .i64 0, .int .i64 0, .int .i64 0, .int .i64 0, .int .i64 0, .int .i64 0, .int .i64 0, .int .i64 0, .int .i64 0, .int .i64 0]], []⟩ 12 (by kernel_rfl) (by kernel_rfl) (by kernel_rfl) (by kernel_rfl))
    hcm2 (by kernel_rfl) (by kernel_rfl) (by kernel_rfl) (by kernel_rfl) (by kernel_rfl) (by kernel_rfl) rfl
    (fun ds h => by
      have h' : ds.length = 2 := h.trans (by kernel_rfl)
      match ds, h' with
      | [d0, d1], _ => rfl)
    fetchCorners_true

theorem fetchCorners_holds : Rows.FetchCornersSaid :=
  OpenClaim.holds_of_wide 4 fetchCornersFn rfl rfl rfl rfl rfl rfl rfl ⟨rfl, rfl, rfl, rfl, rfl⟩ rfl rfl rfl rfl rfl (by kernel_rfl) fetchCornersFn_eq (by kernel_rfl)
    (of_decide_eq_true (by kernel_rfl)) (by unfold Func.isWrapper; rw [if_neg (by decide +kernel)]; exact ⟨rfl, rfl⟩)
    (fun os started H enc _ => fetchCorners_lifted os started H enc)

#print axioms fetchCorners_holds
end Go.Proofs.Yteeghebaankmlaa
