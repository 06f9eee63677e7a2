/- A count does as many steps as it has (SchedCounts), as the evaluator answers. -/
import Derived.Test.YtbmfmcimcdajcaaA34
set_option linter.unusedSimpArgs false
set_option linter.unusedVariables false
set_option maxRecDepth 100000
set_option maxHeartbeats 16000000
namespace Go.Proofs.Ytbmfmcimcdajcaa
open Go
theorem e16n (k : Nat) : evP (evF cm (k + 1)) 16 [.v (.pointer none)] = some (.b true) := by kernel_rfl
theorem e16s (k : Nat) (n : Int) (hn : n < 1) : evF cm (k + 1) 16 [.p 0 0 0] [⟨0, [.i n]⟩] 0 = some (.b true, [⟨0, [.i n]⟩]) := by
  rw [evH_fun (m := c16) rfl _ _ _ _ rfl]
  simp -implicitDefEqProofs only [c16, hn, push_cast, Nat.reduceAdd, Nat.reduceMul, Nat.reduceSub, Nat.reduceLT, Nat.reduceLeDiff, Nat.reduceEqDiff, Nat.reducePow, Int.reduceToNat, Int.reduceLT, Int.reduceLE, Int.reduceNeg, Int.reduceEq, Int.reducePow, reduceIte, reduceCtorEq, Int.reduceMul, Int.reduceAdd, Int.reduceSub, Int.reduceMod, Int.reduceDiv, Int.reduceTDiv, Int.reduceTMod, iter_s]
theorem e16g (k : Nat) (n : Int) (hn : ¬ n < 1) (hu : n ≤ 9223372036854775807) : evF cm (k + 1) 16 [.p 0 0 0] [⟨0, [.i n]⟩] 0 = some (.b (decide (n = 1)), [⟨0, [.i (n - 1)]⟩]) := by
  have hw : IntKind.i64.wrap (n - 1) = n - 1 := by rw [IntKind.wrap_i64]; omega
  have hd : decide (n - 1 = 0) = decide (n = 1) := by rw [decide_eq_decide]; omega
  rw [evH_fun (m := c16) rfl _ _ _ _ rfl]
  simp -implicitDefEqProofs only [c16, hn, hw, hd, push_cast, Nat.reduceAdd, Nat.reduceMul, Nat.reduceSub, Nat.reduceLT, Nat.reduceLeDiff, Nat.reduceEqDiff, Nat.reducePow, Int.reduceToNat, Int.reduceLT, Int.reduceLE, Int.reduceNeg, Int.reduceEq, Int.reducePow, reduceIte, reduceCtorEq, Int.reduceMul, Int.reduceAdd, Int.reduceSub, Int.reduceMod, Int.reduceDiv, Int.reduceTDiv, Int.reduceTMod, iter_s]
theorem e5 (k : Nat) (n : Int) (hu : n ≤ 9223372036854775807) : evP (evF cm (k + 300)) 5 [.i n] = some (.b true) := by
  rw [evP_fun (m := c5) rfl _ _ rfl]
  by_cases hn : n < 1
  · have h16 := fun k => e16s k n hn
    simp -implicitDefEqProofs only [c5, call_S, h16, e16n, e8, hn, push_cast, Nat.reduceAdd, Nat.reduceMul, Nat.reduceSub, Nat.reduceLT, Nat.reduceLeDiff, Nat.reduceEqDiff, Nat.reducePow, Int.reduceToNat, Int.reduceLT, Int.reduceLE, Int.reduceNeg, Int.reduceEq, Int.reducePow, reduceIte, reduceCtorEq, Int.reduceMul, Int.reduceAdd, Int.reduceSub, Int.reduceMod, Int.reduceDiv, Int.reduceTDiv, Int.reduceTMod, iter_s]
  · have h16 := fun k => e16g k n hn hu
    have hw : IntKind.i64.wrap (n - 1) = n - 1 := by rw [IntKind.wrap_i64]; omega
    simp -implicitDefEqProofs only [c5, call_S, h16, e16n, e8, hn, hw, push_cast, Nat.reduceAdd, Nat.reduceMul, Nat.reduceSub, Nat.reduceLT, Nat.reduceLeDiff, Nat.reduceEqDiff, Nat.reducePow, Int.reduceToNat, Int.reduceLT, Int.reduceLE, Int.reduceNeg, Int.reduceEq, Int.reducePow, reduceIte, reduceCtorEq, Int.reduceMul, Int.reduceAdd, Int.reduceSub, Int.reduceMod, Int.reduceDiv, Int.reduceTDiv, Int.reduceTMod, iter_s]
end Go.Proofs.Ytbmfmcimcdajcaa
