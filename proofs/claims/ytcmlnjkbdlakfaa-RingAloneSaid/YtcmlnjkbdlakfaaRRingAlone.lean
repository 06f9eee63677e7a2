/- Operations of a ring that are done one behind the other do what the document says (RingAlone), for every number of slots and every list of numbers. -/
import Derived.KernelRfl
import Derived.Test.YtcmlnjkbdlakfaaEng16
import Derived.Test.YtcmlnjkbdlakfaaRU
import Derived.Test.YtcmlnjkbdlakfaaRows
set_option linter.unusedVariables false
set_option maxRecDepth 100000
namespace Go.Proofs.Ytcmlnjkbdlakfaa
open Go Go.RowKit Go.WideShapes Go.ChangeShapes Go.ChangeAt

noncomputable def ringAloneFn : Func := (Try.checked.prog.funcs[4]?).getD default
theorem ringAloneFn_eq : Try.checked.prog.funcs[4]? = some ringAloneFn := by kernel_rfl

def ringAloneShapes : List Sh := [(.i .i64), (.sl (.i .i64))]

/-- Whatever comes in, the evaluator answers true. -/
theorem ringAlone_true : ∀ lvs, IsArgs ringAloneShapes lvs → ∃ n h', evF cm n 4 lvs [] 0 = some (.v (.bool true), h') := by
  rintro lvs ⟨_, _, rfl, ⟨x0, ⟨⟩, l0, u0⟩, ⟨_, _, rfl, s1, rfl⟩⟩
  exact by obtain ⟨L, S, hcs, hS, _⟩ := slI_of s1; cases hcs; exact ⟨600, e4 0 x0 L _ hS⟩

theorem ringAlone_lifted (os : Os) (started : os.Started) (H : Type) (enc : TypeId × Value → H) :
    ReturnsInHanded {} Try.checked os 4 .any (Rows.ringAloneSpec.pre6 enc Try.checked.prog ringAloneFn Rows.ringAloneRow.domain false) (Rows.ringAloneSpec.post enc Try.checked.prog ringAloneFn false Rows.ringAloneRow.fresh Rows.ringAloneRow.handsOn Rows.ringAloneRow.again) :=
  row_lifted (ks := ringAloneShapes) (d := 20) (tb := 4) (by kernel_rfl) started (by kernel_rfl) ringAloneFn_eq
    (ChangeSpec.witness6 (enc := enc) (C := Try.checked) false ⟨#[], #[.int .i64 0, .slice none 0 0], []⟩ 12 (by kernel_rfl) (by kernel_rfl) (by kernel_rfl) (by kernel_rfl))
    hcm (by kernel_rfl) (by kernel_rfl) (by kernel_rfl) (by kernel_rfl) (by kernel_rfl) (by kernel_rfl) rfl
    (fun ds h => by
      have h' : ds.length = 2 := h.trans (by kernel_rfl)
      match ds, h' with
      | [d0, d1], _ => rfl)
    ringAlone_true

theorem ringAlone_holds : Rows.RingAloneSaid :=
  OpenClaim.holds_of_wide 4 ringAloneFn rfl rfl rfl rfl rfl rfl rfl ⟨rfl, rfl, rfl, rfl, rfl⟩ rfl rfl rfl rfl rfl (by kernel_rfl) ringAloneFn_eq (by kernel_rfl)
    (of_decide_eq_true (by kernel_rfl)) (by unfold Func.isWrapper; rw [if_neg (by decide +kernel)]; exact ⟨rfl, rfl⟩)
    (fun os started H enc _ => ringAlone_lifted os started H enc)

#print axioms ringAlone_holds
end Go.Proofs.Ytcmlnjkbdlakfaa
