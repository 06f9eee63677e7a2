/- Corners as they come in. -/
import Derived.Test.YteafdihiigbifaaK16
set_option linter.unusedSimpArgs false
set_option linter.unusedVariables false
namespace Go.Proofs.Yteafdihiigbifaa
open Go
theorem corner_of : ∀ x, Is (.agg [.agg [.i .i64, .i .i64, .i .i64, .i .i64], .agg [.i .i64, .i .i64, .i .i64, .i .i64, .i .i64, .i .i64]]) x → ∃ l : List Int, x = l.map LV.i ∧ l.length = 10 ∧ ∀ n ∈ l, -9223372036854775808 ≤ n ∧ n ≤ 9223372036854775807 := by
  rintro _ ⟨_, _, rfl, ⟨_, _, rfl, ⟨x0, rfl, l0, u0⟩, ⟨_, _, rfl, ⟨x1, rfl, l1, u1⟩, ⟨_, _, rfl, ⟨x2, rfl, l2, u2⟩, ⟨_, _, rfl, ⟨x3, rfl, l3, u3⟩, rfl⟩⟩⟩⟩, ⟨_, _, rfl, ⟨_, _, rfl, ⟨y0, rfl, m0, v0⟩, ⟨_, _, rfl, ⟨y1, rfl, m1, v1⟩, ⟨_, _, rfl, ⟨y2, rfl, m2, v2⟩, ⟨_, _, rfl, ⟨y3, rfl, m3, v3⟩, ⟨_, _, rfl, ⟨y4, rfl, m4, v4⟩, ⟨_, _, rfl, ⟨y5, rfl, m5, v5⟩, rfl⟩⟩⟩⟩⟩⟩, rfl⟩⟩
  refine ⟨[x0, x1, x2, x3, y0, y1, y2, y3, y4, y5], rfl, rfl, fun n hn => ?_⟩
  simp only [List.mem_cons, List.not_mem_nil, or_false] at hn
  simp only [IntKind.min, IntKind.max] at *
  rcases hn with rfl | rfl | rfl | rfl | rfl | rfl | rfl | rfl | rfl | rfl <;> constructor <;> assumption
end Go.Proofs.Yteafdihiigbifaa
