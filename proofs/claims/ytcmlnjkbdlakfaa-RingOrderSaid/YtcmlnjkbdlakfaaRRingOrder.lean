/- However the steps of who publishes and of workers come, frames are claimed once each, in order, and nothing clashes. No conditions. -/
import Derived.KernelRfl
import Derived.Test.YtcmlnjkbdlakfaaEng16
import Derived.Test.YtcmlnjkbdlakfaaR2T
import Derived.Test.YtcmlnjkbdlakfaaRows
set_option linter.unusedVariables false
set_option maxRecDepth 100000
namespace Go.Proofs.Ytcmlnjkbdlakfaa
open Go Go.RowKit Go.WideShapes Go.ChangeShapes Go.ChangeAt

noncomputable def ringOrderFn : Func := (Try.checked.prog.funcs[3]?).getD default
theorem ringOrderFn_eq : Try.checked.prog.funcs[3]? = some ringOrderFn := by kernel_rfl

def ringOrderShapes : List Sh := [(.agg [(.i .i64), (.sl (.i .i64)), (.i .i64), (.sl (.i .u8))])]

/-- Whatever comes in, the evaluator answers true. -/
theorem ringOrder_true : ∀ lvs, IsArgs ringOrderShapes lvs → ∃ n h', evF cm n 3 lvs [] 0 = some (.v (.bool true), h') := by
  rintro lvs ⟨_, _, rfl, ⟨_, rfl, ⟨_, _, rfl, ⟨x0, rfl, l0, u0⟩, ⟨_, _, rfl, s1, ⟨_, _, rfl, ⟨x2, rfl, l2, u2⟩, ⟨_, _, rfl, s3, rfl⟩⟩⟩⟩⟩, rfl⟩
  exact by obtain ⟨l, S, hcs, hS, _⟩ := slI_of s1; have z := slI_eq s1 hcs; obtain ⟨p, U, hcu, hU⟩ := slU_of s3; cases hcs; cases hcu; exact ⟨30000, e3 0 l p _ _ hS z hU x0 x2⟩

theorem ringOrder_lifted (os : Os) (started : os.Started) (H : Type) (enc : TypeId × Value → H) :
    ReturnsInHanded {} Try.checked os 3 .any (Rows.ringOrderSpec.pre6 enc Try.checked.prog ringOrderFn Rows.ringOrderRow.domain false) (Rows.ringOrderSpec.post enc Try.checked.prog ringOrderFn false Rows.ringOrderRow.fresh Rows.ringOrderRow.handsOn Rows.ringOrderRow.again) :=
  row_lifted (ks := ringOrderShapes) (d := 20) (tb := 4) (by kernel_rfl) started (by kernel_rfl) ringOrderFn_eq
    (ChangeSpec.witness6 (enc := enc) (C := Try.checked) false ⟨#[], #[.agg #[.int .i64 0, .slice none 0 0, .int .i64 0, .slice none 0 0]], []⟩ 12 (by kernel_rfl) (by kernel_rfl) (by kernel_rfl) (by kernel_rfl))
    hcm (by kernel_rfl) (by kernel_rfl) (by kernel_rfl) (by kernel_rfl) (by kernel_rfl) (by kernel_rfl) rfl
    (fun ds h => by
      have h' : ds.length = 1 := h.trans (by kernel_rfl)
      match ds, h' with
      | [d0], _ => rfl)
    ringOrder_true

theorem ringOrder_holds : Rows.RingOrderSaid :=
  OpenClaim.holds_of_wide 3 ringOrderFn rfl rfl rfl rfl rfl rfl rfl ⟨rfl, rfl, rfl, rfl, rfl⟩ rfl rfl rfl rfl rfl (by kernel_rfl) ringOrderFn_eq (by kernel_rfl)
    (of_decide_eq_true (by kernel_rfl)) (by unfold Func.isWrapper; rw [if_neg (by decide +kernel)]; exact ⟨rfl, rfl⟩)
    (fun os started H enc _ => ringOrder_lifted os started H enc)

#print axioms ringOrder_holds
end Go.Proofs.Ytcmlnjkbdlakfaa
