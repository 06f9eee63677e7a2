/- Operations of a deque that are done one behind the other do what they do to a list (DequeAlone), for every count of slots and every list. -/
import Derived.KernelRfl
import Derived.Test.YtjoldlaoncdcgaaEng16
import Derived.Test.YtjoldlaoncdcgaaDM
import Derived.Test.YtjoldlaoncdcgaaRows
set_option linter.unusedVariables false
set_option maxRecDepth 100000
namespace Go.Proofs.Ytjoldlaoncdcgaa
open Go Go.RowKit Go.WideShapes Go.ChangeShapes Go.ChangeAt

noncomputable def dequeAloneFn : Func := (Try.checked.prog.funcs[3]?).getD default
theorem dequeAloneFn_eq : Try.checked.prog.funcs[3]? = some dequeAloneFn := by kernel_rfl

def dequeAloneShapes : List Sh := [(.i .u8), (.sl (.i .i64))]

/-- Whatever comes in, the evaluator answers true. -/
theorem dequeAlone_true : ∀ lvs, IsArgs dequeAloneShapes lvs → ∃ n h', evF cm n 3 lvs [] 0 = some (.v (.bool true), h') := by
  rintro lvs ⟨_, _, rfl, ⟨x0, ⟨⟩, l0, u0⟩, ⟨_, _, rfl, s1, rfl⟩⟩
  exact by obtain ⟨L, S, hcs, hS, _⟩ := slI_of s1; cases hcs; exact ⟨600, e3 0 x0 ⟨l0, u0⟩ L _ hS⟩

theorem dequeAlone_lifted (os : Os) (started : os.Started) (H : Type) (enc : TypeId × Value → H) :
    ReturnsInHanded {} Try.checked os 3 .any (Rows.dequeAloneSpec.pre6 enc Try.checked.prog dequeAloneFn Rows.dequeAloneRow.domain false) (Rows.dequeAloneSpec.post enc Try.checked.prog dequeAloneFn false Rows.dequeAloneRow.fresh Rows.dequeAloneRow.handsOn Rows.dequeAloneRow.again) :=
  row_lifted (ks := dequeAloneShapes) (d := 20) (tb := 4) (by kernel_rfl) started (by kernel_rfl) dequeAloneFn_eq
    (ChangeSpec.witness6 (enc := enc) (C := Try.checked) false ⟨#[], #[.int .u8 0, .slice none 0 0], []⟩ 12 (by kernel_rfl) (by kernel_rfl) (by kernel_rfl) (by kernel_rfl))
    hcm (by kernel_rfl) (by kernel_rfl) (by kernel_rfl) (by kernel_rfl) (by kernel_rfl) (by kernel_rfl) rfl
    (fun ds h => by
      have h' : ds.length = 2 := h.trans (by kernel_rfl)
      match ds, h' with
      | [d0, d1], _ => rfl)
    dequeAlone_true

theorem dequeAlone_holds : Rows.DequeAloneSaid :=
  OpenClaim.holds_of_wide 3 dequeAloneFn rfl rfl rfl rfl rfl rfl rfl ⟨rfl, rfl, rfl, rfl, rfl⟩ rfl rfl rfl rfl rfl (by kernel_rfl) dequeAloneFn_eq (by kernel_rfl)
    (of_decide_eq_true (by kernel_rfl)) (by unfold Func.isWrapper; rw [if_neg (by decide +kernel)]; exact ⟨rfl, rfl⟩)
    (fun os started H enc _ => dequeAlone_lifted os started H enc)

#print axioms dequeAlone_holds
end Go.Proofs.Ytjoldlaoncdcgaa
