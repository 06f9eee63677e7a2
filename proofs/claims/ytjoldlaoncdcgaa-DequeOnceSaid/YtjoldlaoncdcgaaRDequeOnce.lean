/- However the steps of an owner and of thieves of a deque come one behind the other, each number that was pushed is got, once, and what is stolen comes in the order in which it was pushed (DequeOnce), for every play. -/
import Derived.KernelRfl
import Derived.Test.YtjoldlaoncdcgaaEng16
import Derived.Test.YtjoldlaoncdcgaaEK
import Derived.Test.YtjoldlaoncdcgaaRows
set_option linter.unusedVariables false
set_option maxRecDepth 100000
namespace Go.Proofs.Ytjoldlaoncdcgaa
open Go Go.RowKit Go.WideShapes Go.ChangeShapes Go.ChangeAt

noncomputable def dequeOnceFn : Func := (Try.checked.prog.funcs[4]?).getD default
theorem dequeOnceFn_eq : Try.checked.prog.funcs[4]? = some dequeOnceFn := by kernel_rfl

def dequeOnceShapes : List Sh := [(.agg [(.sl .b), (.i .i64), (.i .i64), (.sl (.i .u8))])]

/-- Whatever comes in, the evaluator answers true. -/
theorem dequeOnce_true : ∀ lvs, IsArgs dequeOnceShapes lvs → ∃ n h', evF cm n 4 lvs [] 0 = some (.v (.bool true), h') := by
  rintro lvs ⟨_, _, rfl, ⟨_, rfl, ⟨_, _, rfl, s0, ⟨_, _, rfl, ⟨x1, rfl, l1, u1⟩, ⟨_, _, rfl, ⟨x2, rfl, l2, u2⟩, ⟨_, _, rfl, s3, rfl⟩⟩⟩⟩⟩, rfl⟩
  exact by obtain ⟨P, S, hcs, hS⟩ := slB_of s0; obtain ⟨L, U, hcu, hU⟩ := slU_of s3; cases hcs; cases hcu; exact ⟨30000, e4 0 P L _ _ hS hU x1 x2⟩

theorem dequeOnce_lifted (os : Os) (started : os.Started) (H : Type) (enc : TypeId × Value → H) :
    ReturnsInHanded {} Try.checked os 4 .any (Rows.dequeOnceSpec.pre6 enc Try.checked.prog dequeOnceFn Rows.dequeOnceRow.domain false) (Rows.dequeOnceSpec.post enc Try.checked.prog dequeOnceFn false Rows.dequeOnceRow.fresh Rows.dequeOnceRow.handsOn Rows.dequeOnceRow.again) :=
  row_lifted (ks := dequeOnceShapes) (d := 20) (tb := 4) (by kernel_rfl) started (by kernel_rfl) dequeOnceFn_eq
    (ChangeSpec.witness6 (enc := enc) (C := Try.checked) false ⟨#[], #[.agg #[.slice none 0 0, .int .i64 0, .int .i64 0, .slice none 0 0]], []⟩ 12 (by kernel_rfl) (by kernel_rfl) (by kernel_rfl) (by kernel_rfl))
    hcm (by kernel_rfl) (by kernel_rfl) (by kernel_rfl) (by kernel_rfl) (by kernel_rfl) (by kernel_rfl) rfl
    (fun ds h => by
      have h' : ds.length = 1 := h.trans (by kernel_rfl)
      match ds, h' with
      | [d0], _ => rfl)
    dequeOnce_true

theorem dequeOnce_holds : Rows.DequeOnceSaid :=
  OpenClaim.holds_of_wide 4 dequeOnceFn rfl rfl rfl rfl rfl rfl rfl ⟨rfl, rfl, rfl, rfl, rfl⟩ rfl rfl rfl rfl rfl (by kernel_rfl) dequeOnceFn_eq (by kernel_rfl)
    (of_decide_eq_true (by kernel_rfl)) (by unfold Func.isWrapper; rw [if_neg (by decide +kernel)]; exact ⟨rfl, rfl⟩)
    (fun os started H enc _ => dequeOnce_lifted os started H enc)

#print axioms dequeOnce_holds
end Go.Proofs.Ytjoldlaoncdcgaa
