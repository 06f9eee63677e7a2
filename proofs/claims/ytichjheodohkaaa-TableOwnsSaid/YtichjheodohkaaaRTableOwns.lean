/- What was put is a thing of its own; what is told is new (TableOwns), for every vertices and every numbers. -/
import Derived.KernelRfl
import Derived.Test.YtichjheodohkaaaEng16
import Derived.Test.YtichjheodohkaaaWA22
import Derived.Test.YtichjheodohkaaaRows
set_option linter.unusedVariables false
set_option maxRecDepth 100000
namespace Go.Proofs.Ytichjheodohkaaa
open Go Go.RowKit Go.WideShapes Go.ChangeShapes Go.ChangeAt

noncomputable def tableOwnsFn : Func := (Try.checked.prog.funcs[3]?).getD default
theorem tableOwnsFn_eq : Try.checked.prog.funcs[3]? = some tableOwnsFn := by kernel_rfl

def tableOwnsShapes : List Sh := [(.sl (.agg [(.i .i64), (.i .i64), (.i .i64), (.agg [(.i .i64), (.i .i64), (.i .i64), (.i .i64)]), (.i .i64), (.i .i64)])), (.sl (.i .i64))]

/-- Whatever comes in, the evaluator answers true. -/
theorem tableOwns_true : ∀ lvs, IsArgs tableOwnsShapes lvs → ∃ n h', evF cm3 n 3 lvs [] 0 = some (.v (.bool true), h') := by
  rintro lvs ⟨_, _, rfl, s0, ⟨_, _, rfl, s1, rfl⟩⟩
  exact by obtain ⟨n, L, S, hcs, hS, dS, _⟩ := sl_form is_vert s0; cases hcs; obtain ⟨m, J, I, hcs, _, dI, _⟩ := sl_form is_int s1; cases hcs; exact ⟨1, law_true (e3 _ _ dS dI)⟩

theorem tableOwns_lifted (os : Os) (started : os.Started) (H : Type) (enc : TypeId × Value → H) :
    ReturnsInHanded {} Try.checked os 3 .any (Rows.tableOwnsSpec.pre6 enc Try.checked.prog tableOwnsFn Rows.tableOwnsRow.domain false) (Rows.tableOwnsSpec.post enc Try.checked.prog tableOwnsFn false Rows.tableOwnsRow.fresh Rows.tableOwnsRow.handsOn Rows.tableOwnsRow.again) :=
  row_lifted (ks := tableOwnsShapes) (d := 20) (tb := 4) (by kernel_rfl) started (by kernel_rfl) tableOwnsFn_eq
    (ChangeSpec.witness6 (enc := enc) (C := Try.checked) false ⟨#[], #[.slice none 0 0, .slice none 0 0], []⟩ 12 (by kernel_rfl) (by kernel_rfl) (by kernel_rfl) (by kernel_rfl))
    hcm3 (by kernel_rfl) (by kernel_rfl) (by kernel_rfl) (by kernel_rfl) (by kernel_rfl) (by kernel_rfl) rfl
    (fun ds h => by
      have h' : ds.length = 2 := h.trans (by kernel_rfl)
      match ds, h' with
      | [d0, d1], _ => rfl)
    tableOwns_true

theorem tableOwns_holds : Rows.TableOwnsSaid :=
  OpenClaim.holds_of_wide 3 tableOwnsFn rfl rfl rfl rfl rfl rfl rfl ⟨rfl, rfl, rfl, rfl, rfl⟩ rfl rfl rfl rfl rfl (by kernel_rfl) tableOwnsFn_eq (by kernel_rfl)
    (of_decide_eq_true (by kernel_rfl)) (by unfold Func.isWrapper; rw [if_neg (by decide +kernel)]; exact ⟨rfl, rfl⟩)
    (fun os started H enc _ => tableOwns_lifted os started H enc)

#print axioms tableOwns_holds
end Go.Proofs.Ytichjheodohkaaa
