/- For every polygon of corners and every rectangle the law ViewPolys answers true: the spots of a polygon are those of its corners. -/
import Derived.KernelRfl
import Derived.Test.YteafdihiigbifaaEng16
import Derived.Test.YteafdihiigbifaaL16
import Derived.Test.YteafdihiigbifaaRows
set_option linter.unusedVariables false
set_option maxRecDepth 100000
namespace Go.Proofs.Yteafdihiigbifaa
open Go Go.RowKit Go.WideShapes Go.ChangeShapes Go.ChangeAt

noncomputable def viewPolysFn : Func := (Try.checked.prog.funcs[5]?).getD default
theorem viewPolysFn_eq : Try.checked.prog.funcs[5]? = some viewPolysFn := by kernel_rfl

def viewPolysShapes : List Sh := [(.sl (.agg [(.agg [(.i .i64), (.i .i64), (.i .i64), (.i .i64)]), (.agg [(.i .i64), (.i .i64), (.i .i64), (.i .i64), (.i .i64), (.i .i64)])])), (.agg [(.i .i64), (.i .i64), (.i .i64), (.i .i64)])]

/-- Whatever comes in, the evaluator answers true. -/
theorem viewPolys_true : ∀ lvs, IsArgs viewPolysShapes lvs → ∃ n h', evF cm n 5 lvs [] 0 = some (.v (.bool true), h') := by
  rintro lvs ⟨_, _, rfl, s0, ⟨_, _, rfl, ⟨_, rfl, ⟨_, _, rfl, ⟨x1, rfl, l1, u1⟩, ⟨_, _, rfl, ⟨x2, rfl, l2, u2⟩, ⟨_, _, rfl, ⟨x3, rfl, l3, u3⟩, ⟨_, _, rfl, ⟨x4, rfl, l4, u4⟩, rfl⟩⟩⟩⟩⟩, rfl⟩⟩
  exact by obtain ⟨n, L, S, hcs, hS, _⟩ := slE_of (e := 10) corner_of s0; cases hcs; exact ⟨300, law_true (e5 0 n L _ hS x1 x2 x3 x4)⟩

theorem viewPolys_lifted (os : Os) (started : os.Started) (H : Type) (enc : TypeId × Value → H) :
    ReturnsInHanded {} Try.checked os 5 .any (Rows.viewPolysSpec.pre6 enc Try.checked.prog viewPolysFn Rows.viewPolysRow.domain false) (Rows.viewPolysSpec.post enc Try.checked.prog viewPolysFn false Rows.viewPolysRow.fresh Rows.viewPolysRow.handsOn Rows.viewPolysRow.again) :=
  row_lifted (ks := viewPolysShapes) (d := 20) (tb := 4) (by kernel_rfl) started (by kernel_rfl) viewPolysFn_eq
    (ChangeSpec.witness6 (enc := enc) (C := Try.checked) false ⟨#[], #[.slice none 0 0, .agg #[.int .i64 0, .int .i64 0, .int .i64 0, .int .i64 0]], []⟩ 12 (by kernel_rfl) (by kernel_rfl) (by kernel_rfl) (by kernel_rfl))
    hcm (by kernel_rfl) (by kernel_rfl) (by kernel_rfl) (by kernel_rfl) (by kernel_rfl) (by kernel_rfl) rfl
    (fun ds h => by
      have h' : ds.length = 2 := h.trans (by kernel_rfl)
      match ds, h' with
      | [d0, d1], _ => rfl)
    viewPolys_true

theorem viewPolys_holds : Rows.ViewPolysSaid :=
  OpenClaim.holds_of_wide 5 viewPolysFn rfl rfl rfl rfl rfl rfl rfl ⟨rfl, rfl, rfl, rfl, rfl⟩ rfl rfl rfl rfl rfl (by kernel_rfl) viewPolysFn_eq (by kernel_rfl)
    (of_decide_eq_true (by kernel_rfl)) (by unfold Func.isWrapper; rw [if_neg (by decide +kernel)]; exact ⟨rfl, rfl⟩)
    (fun os started H enc _ => viewPolys_lifted os started H enc)

#print axioms viewPolys_holds
end Go.Proofs.Yteafdihiigbifaa
