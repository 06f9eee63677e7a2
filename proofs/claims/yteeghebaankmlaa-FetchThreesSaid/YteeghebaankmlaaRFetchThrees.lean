/- Indices name vertices, three by three; what names none is an error (FetchThrees), for every vertices, every indices and every two numbers. -/
import Derived.KernelRfl
import Derived.Test.YteeghebaankmlaaEng16
import Derived.Test.YteeghebaankmlaaNT24
import Derived.Test.YteeghebaankmlaaRows
set_option linter.unusedVariables false
set_option maxRecDepth 100000
namespace Go.Proofs.Yteeghebaankmlaa
open Go Go.RowKit Go.WideShapes Go.ChangeShapes Go.ChangeAt

noncomputable def fetchThreesFn : Func := (Try.checked.prog.funcs[3]?).getD default
theorem fetchThreesFn_eq : Try.checked.prog.funcs[3]? = some fetchThreesFn := by kernel_rfl

def fetchThreesShapes : List Sh := [(.sl (.agg [(.i .i64), (.i .i64), (.i .i64), (.agg [(.i .i64), (.i .i64), (.i .i64), (.i .i64)]), (.i .i64), (.i .i64)])), (.sl (.i .i64)), (.agg [(.i .i64), (.i .i64)])]

/-- Whatever comes in, the evaluator answers true. -/
theorem fetchThrees_true : ∀ lvs, IsArgs fetchThreesShapes lvs → ∃ n h', evF cm2 n 3 lvs [] 0 = some (.v (.bool true), h') := by
  rintro lvs ⟨_, _, rfl, s0, ⟨_, _, rfl, s1, ⟨_, _, rfl, ⟨_, rfl, ⟨_, _, rfl, ⟨x2, rfl, l2, u2⟩, ⟨_, _, rfl, ⟨x3, rfl, l3, u3⟩, rfl⟩⟩⟩, rfl⟩⟩⟩
  exact by obtain ⟨n, L, S, hcs, hS, dS, _⟩ := sl_form is_vert s0; cases hcs; obtain ⟨m, J, I, hcs, _, dI, hI⟩ := sl_form is_int s1; cases hcs; obtain ⟨rfl, hJ⟩ := hI rfl; exact ⟨5200, law_true (e3 hS hJ 0 x2 x3 dS dI)⟩

theorem fetchThrees_lifted (os : Os) (started : os.Started) (H : Type) (enc : TypeId × Value → H) :
    ReturnsInHanded {} Try.checked os 3 .any (Rows.fetchThreesSpec.pre6 enc Try.checked.prog fetchThreesFn Rows.fetchThreesRow.domain false) (Rows.fetchThreesSpec.post enc Try.checked.prog fetchThreesFn false Rows.fetchThreesRow.fresh Rows.fetchThreesRow.handsOn Rows.fetchThreesRow.again) :=
  row_lifted (ks := fetchThreesShapes) (d := 20) (tb := 4) (by kernel_rfl) started (by kernel_rfl) fetchThreesFn_eq
    (ChangeSpec.witness6 (enc := enc) (C := Try.checked) false ⟨#[], #[.slice none 0 0, .slice none 0 0, .agg #[.int .i64 0, .int .i64 0]], []⟩ 12 (by kernel_rfl) (by kernel_rfl) (by kernel_rfl) (by kernel_rfl))
    hcm2 (by kernel_rfl) (by kernel_rfl) (by kernel_rfl) (by kernel_rfl) (by kernel_rfl) (by kernel_rfl) rfl
    (fun ds h => by
      have h' : ds.length = 3 := h.trans (by kernel_rfl)
      match ds, h' with
      | [d0, d1, d2], _ => rfl)
    fetchThrees_true

theorem fetchThrees_holds : Rows.FetchThreesSaid :=
  OpenClaim.holds_of_wide 3 fetchThreesFn rfl rfl rfl rfl rfl rfl rfl ⟨rfl, rfl, rfl, rfl, rfl⟩ rfl rfl rfl rfl rfl (by kernel_rfl) fetchThreesFn_eq (by kernel_rfl)
    (of_decide_eq_true (by kernel_rfl)) (by unfold Func.isWrapper; rw [if_neg (by decide +kernel)]; exact ⟨rfl, rfl⟩)
    (fun os started H enc _ => fetchThrees_lifted os started H enc)

#print axioms fetchThrees_holds
end Go.Proofs.Yteeghebaankmlaa
