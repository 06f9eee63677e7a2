/- For every two corners and every rectangle the law ViewOrders answers true: of two corners of one W the greater X is not to the left, the greater Y not below, the greater Z not nearer. -/
import Derived.KernelRfl
import Derived.Test.YteafdihiigbifaaEng16
import Derived.Test.YteafdihiigbifaaH16
import Derived.Test.YteafdihiigbifaaRows
set_option linter.unusedVariables false
set_option maxRecDepth 100000
namespace Go.Proofs.Yteafdihiigbifaa
open Go Go.RowKit Go.WideShapes Go.ChangeShapes Go.ChangeAt

noncomputable def viewOrdersFn : Func := (Try.checked.prog.funcs[4]?).getD default
theorem viewOrdersFn_eq : Try.checked.prog.funcs[4]? = some viewOrdersFn := by kernel_rfl

def viewOrdersShapes : List Sh := [(.agg [(.agg [(.i .i64), (.i .i64), (.i .i64), (.i .i64)]), (.agg [(.i .i64), (.i .i64), (.i .i64), (.i .i64), (.i .i64), (.i .i64)])]), (.agg [(.agg [(.i .i64), (.i .i64), (.i .i64), (.i .i64)]), (.agg [(.i .i64), (.i .i64), (.i .i64), (.i .i64), (.i .i64), (.i .i64)])]), (.agg [(.i .i64), (.i .i64), (.i .i64), (.i .i64)])]

/-- Whatever comes in, the evaluator answers true. -/
theorem viewOrders_true : ∀ lvs, IsArgs viewOrdersShapes lvs → ∃ n h', evF cm n 4 lvs [] 0 = some (.v (.bool true), h') := by
  rintro lvs ⟨_, _, rfl, ⟨_, rfl, ⟨_, _, rfl, ⟨_, _, rfl, ⟨x0, rfl, l0, u0⟩, ⟨_, _, rfl, ⟨x1, rfl, l1, u1⟩, ⟨_, _, rfl, ⟨x2, rfl, l2, u2⟩, ⟨_, _, rfl, ⟨x3, rfl, l3, u3⟩, rfl⟩⟩⟩⟩, ⟨_, _, rfl, ⟨_, _, rfl, ⟨x4, rfl, l4, u4⟩, ⟨_, _, rfl, ⟨x5, rfl, l5, u5⟩, ⟨_, _, rfl, ⟨x6, rfl, l6, u6⟩, ⟨_, _, rfl, ⟨x7, rfl, l7, u7⟩, ⟨_, _, rfl, ⟨x8, rfl, l8, u8⟩, ⟨_, _, rfl, ⟨x9, rfl, l9, u9⟩, rfl⟩⟩⟩⟩⟩⟩, rfl⟩⟩⟩, ⟨_, _, rfl, ⟨_, rfl, ⟨_, _, rfl, ⟨_, _, rfl, ⟨x10, rfl, l10, u10⟩, ⟨_, _, rfl, ⟨x11, rfl, l11, u11⟩, ⟨_, _, rfl, ⟨x12, rfl, l12, u12⟩, ⟨_, _, rfl, ⟨x13, rfl, l13, u13⟩, rfl⟩⟩⟩⟩, ⟨_, _, rfl, ⟨_, _, rfl, ⟨x14, rfl, l14, u14⟩, ⟨_, _, rfl, ⟨x15, rfl, l15, u15⟩, ⟨_, _, rfl, ⟨x16, rfl, l16, u16⟩, ⟨_, _, rfl, ⟨x17, rfl, l17, u17⟩, ⟨_, _, rfl, ⟨x18, rfl, l18, u18⟩, ⟨_, _, rfl, ⟨x19, rfl, l19, u19⟩, rfl⟩⟩⟩⟩⟩⟩, rfl⟩⟩⟩, ⟨_, _, rfl, ⟨_, rfl, ⟨_, _, rfl, ⟨x20, rfl, l20, u20⟩, ⟨_, _, rfl, ⟨x21, rfl, l21, u21⟩, ⟨_, _, rfl, ⟨x22, rfl, l22, u22⟩, ⟨_, _, rfl, ⟨x23, rfl, l23, u23⟩, rfl⟩⟩⟩⟩⟩, rfl⟩⟩⟩
  exact ⟨70, law_true (e4 0 x0 x1 x2 x3 x4 x5 x6 x7 x8 x9 x10 x11 x12 x13 x14 x15 x16 x17 x18 x19 x20 x21 x22 x23)⟩

theorem viewOrders_lifted (os : Os) (started : os.Started) (H : Type) (enc : TypeId × Value → H) :
    ReturnsInHanded {} Try.checked os 4 .any (Rows.viewOrdersSpec.pre6 enc Try.checked.prog viewOrdersFn Rows.viewOrdersRow.domain false) (Rows.viewOrdersSpec.post enc Try.checked.prog viewOrdersFn false Rows.viewOrdersRow.fresh Rows.viewOrdersRow.handsOn Rows.viewOrdersRow.again) :=
  row_lifted (ks := viewOrdersShapes) (d := 20) (tb := 4) (by kernel_rfl) started (by kernel_rfl) viewOrdersFn_eq
    (ChangeSpec.witness6 (enc := enc) (C := Try.checked) false ⟨#[], #[.agg #[.int .i64 0, .int .i64 0, .int .i64 0, .int .i64 0, .int .i64 0, .int .i64 0, .int .i64 0, .int .i64 0, .int .i64 0, .int .i64 0], .agg #[.int .i64 0, .int .i64 0, .int .i64 0, .int .i64 0, .int .i64 0, .int .i64 0, .int .i64 0, .int .i64 0, .int .i64 0, .int .i64 0], .agg #[.int .i64 0, .int .i64 0, .int .i64 0, .int .i64 0]], []⟩ 12 (by kernel_rfl) (by kernel_rfl) (by kernel_rfl) (by kernel_rfl))
    hcm (by kernel_rfl) (by kernel_rfl) (by kernel_rfl) (by kernel_rfl) (by kernel_rfl) (by kernel_rfl) rfl
    (fun ds h => by
      have h' : ds.length = 3 := h.trans (by kernel_rfl)
      match ds, h' with
      | [d0, d1, d2], _ => rfl)
    viewOrders_true

theorem viewOrders_holds : Rows.ViewOrdersSaid :=
  OpenClaim.holds_of_wide 4 viewOrdersFn rfl rfl rfl rfl rfl rfl rfl ⟨rfl, rfl, rfl, rfl, rfl⟩ rfl rfl rfl rfl rfl (by kernel_rfl) viewOrdersFn_eq (by kernel_rfl)
    (of_decide_eq_true (by kernel_rfl)) (by unfold Func.isWrapper; rw [if_neg (by decide +kernel)]; exact ⟨rfl, rfl⟩)
    (fun os started H enc _ => viewOrders_lifted os started H enc)

#print axioms viewOrders_holds
end Go.Proofs.Yteafdihiigbifaa
