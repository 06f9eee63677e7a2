/- What may not be a crew, a frame, a tile, or a worker, is none (CrewArgs), for every three numbers, every row of tiles and every number. -/
import Derived.KernelRfl
import Derived.Test.YtnnpkpceodpfhaaEng16
import Derived.Test.YtnnpkpceodpfhaaCG
import Derived.Test.YtnnpkpceodpfhaaRows
set_option linter.unusedVariables false
set_option maxRecDepth 100000
namespace Go.Proofs.Ytnnpkpceodpfhaa
open Go Go.RowKit Go.WideShapes Go.ChangeShapes Go.ChangeAt

noncomputable def crewArgsFn : Func := (Try.checked.prog.funcs[3]?).getD default
theorem crewArgsFn_eq : Try.checked.prog.funcs[3]? = some crewArgsFn := by kernel_rfl

def crewArgsShapes : List Sh := [(.agg [(.i .i64), (.i .i64), (.i .i64)]), (.sl (.i .i64)), (.i .i64)]

/-- Whatever comes in, the evaluator answers true. -/
theorem crewArgs_true : ∀ lvs, IsArgs crewArgsShapes lvs → ∃ n h', evF cm n 3 lvs [] 0 = some (.v (.bool true), h') := by
  rintro lvs ⟨_, _, rfl, ⟨_, rfl, ⟨_, _, rfl, ⟨x0, rfl, l0, u0⟩, ⟨_, _, rfl, ⟨x1, rfl, l1, u1⟩, ⟨_, _, rfl, ⟨x2, rfl, l2, u2⟩, rfl⟩⟩⟩⟩, ⟨_, _, rfl, s3, ⟨_, _, rfl, ⟨x4, ⟨⟩, l4, u4⟩, rfl⟩⟩⟩
  exact by obtain ⟨L, S, hcs, hS, hf, hl⟩ := slI_form s3; cases hcs; exact ⟨L.length + 1000, law_true (e3 x0 x1 x2 x4 L _ hS hf hl)⟩

theorem crewArgs_lifted (os : Os) (started : os.Started) (H : Type) (enc : TypeId × Value → H) :
    ReturnsInHanded {} Try.checked os 3 .any (Rows.crewArgsSpec.pre6 enc Try.checked.prog crewArgsFn Rows.crewArgsRow.domain false) (Rows.crewArgsSpec.post enc Try.checked.prog crewArgsFn false Rows.crewArgsRow.fresh Rows.crewArgsRow.handsOn Rows.crewArgsRow.again) :=
  row_lifted (ks := crewArgsShapes) (d := 20) (tb := 4) (by kernel_rfl) started (by kernel_rfl) crewArgsFn_eq
    (ChangeSpec.witness6 (enc := enc) (C := Try.checked) false ⟨#[], #[.agg #[.int .i64 0, .int .i64 0, .int .i64 0], .slice none 0 0, .int .i64 0], []⟩ 12 (by kernel_rfl) (by kernel_rfl) (by kernel_rfl) (by kernel_rfl))
    hcm (by kernel_rfl) (by kernel_rfl) (by kernel_rfl) (by kernel_rfl) (by kernel_rfl) (by kernel_rfl) rfl
    (fun ds h => by
      have h' : ds.length = 3 := h.trans (by kernel_rfl)
      match ds, h' with
      | [d0, d1, d2], _ => rfl)
    crewArgs_true

theorem crewArgs_holds : Rows.CrewArgsSaid :=
  OpenClaim.holds_of_wide 3 crewArgsFn rfl rfl rfl rfl rfl rfl rfl ⟨rfl, rfl, rfl, rfl, rfl⟩ rfl rfl rfl rfl rfl (by kernel_rfl) crewArgsFn_eq (by kernel_rfl)
    (of_decide_eq_true (by kernel_rfl)) (by unfold Func.isWrapper; rw [if_neg (by decide +kernel)]; exact ⟨rfl, rfl⟩)
    (fun os started H enc _ => crewArgs_lifted os started H enc)

#print axioms crewArgs_holds
end Go.Proofs.Ytnnpkpceodpfhaa
