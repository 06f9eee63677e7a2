/- No memory does anything (CellNone), as the evaluator answers. -/
import Derived.Test.YtlbcandecifkcaaA30
set_option linter.unusedSimpArgs false
set_option linter.unusedVariables false
set_option maxRecDepth 100000
set_option maxHeartbeats 16000000
namespace Go.Proofs.Ytlbcandecifkcaa
open Go
abbrev np : LV := .v (.pointer none)
theorem e20n (k : Nat) (t a m : Int) : evP (evF cm (k + 1)) 20 [np, .i t, .i a, .i m] = some (.i 1) := by
  rw [evP_fun (m := c20) rfl _ _ rfl]
  simp -implicitDefEqProofs only [c20, push_cast, Nat.reduceAdd, Nat.reduceMul, Nat.reduceSub, Nat.reduceLT, Nat.reduceLeDiff, Nat.reduceEqDiff, Nat.reducePow, Int.reduceToNat, Int.reduceLT, Int.reduceLE, Int.reduceNeg, Int.reduceEq, Int.reducePow, reduceIte, reduceCtorEq, Int.reduceMul, Int.reduceAdd, Int.reduceSub, Int.reduceMod, Int.reduceDiv, Int.reduceTDiv, Int.reduceTMod, iter_s]
theorem e34n (k : Nat) : evP (evF cm (k + 1)) 34 [np, .f 35 []] = some (.i 0) := by kernel_rfl
theorem e37n (k : Nat) : evP (evF cm (k + 1)) 37 [np, .f 38 []] = some (.i 0) := by kernel_rfl
theorem e21n (k : Nat) : evP (evF cm (k + 1)) 21 [np, .f 22 []] = some (.i 0) := by kernel_rfl
theorem e19n (k : Nat) (t a : Int) : evP (evF cm (k + 2)) 19 [np, .i t, .i a] = some (.tup [.i 0, .i 1]) := by
  rw [evP_fun (m := c19) rfl _ _ rfl]
  simp -implicitDefEqProofs only [c19, e34n, e20n, push_cast, Nat.reduceAdd, Nat.reduceMul, Nat.reduceSub, Nat.reduceLT, Nat.reduceLeDiff, Nat.reduceEqDiff, Nat.reducePow, Int.reduceToNat, Int.reduceLT, Int.reduceLE, Int.reduceNeg, Int.reduceEq, Int.reducePow, reduceIte, reduceCtorEq, Int.reduceMul, Int.reduceAdd, Int.reduceSub, Int.reduceMod, Int.reduceDiv, Int.reduceTDiv, Int.reduceTMod, iter_s]
theorem e18n (k : Nat) (t a n : Int) : evP (evF cm (k + 2)) 18 [np, .i t, .i a, .i n] = some (.i 1) := by
  rw [evP_fun (m := c18) rfl _ _ rfl]
  simp -implicitDefEqProofs only [c18, e34n, e20n, push_cast, Nat.reduceAdd, Nat.reduceMul, Nat.reduceSub, Nat.reduceLT, Nat.reduceLeDiff, Nat.reduceEqDiff, Nat.reducePow, Int.reduceToNat, Int.reduceLT, Int.reduceLE, Int.reduceNeg, Int.reduceEq, Int.reducePow, reduceIte, reduceCtorEq, Int.reduceMul, Int.reduceAdd, Int.reduceSub, Int.reduceMod, Int.reduceDiv, Int.reduceTDiv, Int.reduceTMod, iter_s]
theorem e27n (k : Nat) (t a o n : Int) : evP (evF cm (k + 2)) 27 [np, .i t, .i a, .i o, .i n] = some (.tup [.b false, .i 1]) := by
  rw [evP_fun (m := c27) rfl _ _ rfl]
  simp -implicitDefEqProofs only [c27, e34n, e20n, push_cast, Nat.reduceAdd, Nat.reduceMul, Nat.reduceSub, Nat.reduceLT, Nat.reduceLeDiff, Nat.reduceEqDiff, Nat.reducePow, Int.reduceToNat, Int.reduceLT, Int.reduceLE, Int.reduceNeg, Int.reduceEq, Int.reducePow, reduceIte, reduceCtorEq, Int.reduceMul, Int.reduceAdd, Int.reduceSub, Int.reduceMod, Int.reduceDiv, Int.reduceTDiv, Int.reduceTMod, iter_s]
theorem e28n (k : Nat) (t a n : Int) : evP (evF cm (k + 2)) 28 [np, .i t, .i a, .i n] = some (.tup [.i 0, .i 1]) := by
  rw [evP_fun (m := c28) rfl _ _ rfl]
  simp -implicitDefEqProofs only [c28, e34n, e20n, push_cast, Nat.reduceAdd, Nat.reduceMul, Nat.reduceSub, Nat.reduceLT, Nat.reduceLeDiff, Nat.reduceEqDiff, Nat.reducePow, Int.reduceToNat, Int.reduceLT, Int.reduceLE, Int.reduceNeg, Int.reduceEq, Int.reducePow, reduceIte, reduceCtorEq, Int.reduceMul, Int.reduceAdd, Int.reduceSub, Int.reduceMod, Int.reduceDiv, Int.reduceTDiv, Int.reduceTMod, iter_s]
theorem e25n (k : Nat) (t a : Int) (w : Bool) : evP (evF cm (k + 2)) 25 [np, .i t, .i a, .b w] = some (.i 1) := by
  rw [evP_fun (m := c25) rfl _ _ rfl]
  simp -implicitDefEqProofs only [c25, e37n, e20n, push_cast, Nat.reduceAdd, Nat.reduceMul, Nat.reduceSub, Nat.reduceLT, Nat.reduceLeDiff, Nat.reduceEqDiff, Nat.reducePow, Int.reduceToNat, Int.reduceLT, Int.reduceLE, Int.reduceNeg, Int.reduceEq, Int.reducePow, reduceIte, reduceCtorEq, Int.reduceMul, Int.reduceAdd, Int.reduceSub, Int.reduceMod, Int.reduceDiv, Int.reduceTDiv, Int.reduceTMod, iter_s]
theorem e10n (k : Nat) (t a : Int) : evP (evF cm (k + 3)) 10 [np, .i t, .i a] = some (.i 1) := by
  rw [evP_fun (m := c10) rfl _ _ rfl]
  simp -implicitDefEqProofs only [c10, e25n, push_cast, Nat.reduceAdd, Nat.reduceMul, Nat.reduceSub, Nat.reduceLT, Nat.reduceLeDiff, Nat.reduceEqDiff, Nat.reducePow, Int.reduceToNat, Int.reduceLT, Int.reduceLE, Int.reduceNeg, Int.reduceEq, Int.reducePow, reduceIte, reduceCtorEq, Int.reduceMul, Int.reduceAdd, Int.reduceSub, Int.reduceMod, Int.reduceDiv, Int.reduceTDiv, Int.reduceTMod, iter_s]
theorem e11n (k : Nat) (t a : Int) : evP (evF cm (k + 3)) 11 [np, .i t, .i a] = some (.i 1) := by
  rw [evP_fun (m := c11) rfl _ _ rfl]
  simp -implicitDefEqProofs only [c11, e25n, push_cast, Nat.reduceAdd, Nat.reduceMul, Nat.reduceSub, Nat.reduceLT, Nat.reduceLeDiff, Nat.reduceEqDiff, Nat.reducePow, Int.reduceToNat, Int.reduceLT, Int.reduceLE, Int.reduceNeg, Int.reduceEq, Int.reducePow, reduceIte, reduceCtorEq, Int.reduceMul, Int.reduceAdd, Int.reduceSub, Int.reduceMod, Int.reduceDiv, Int.reduceTDiv, Int.reduceTMod, iter_s]
theorem e8n (k : Nat) (t a : Int) : evP (evF cm (k + 2)) 8 [np, .i t, .i a] = some (.tup [.b false, .i 1]) := by
  rw [evP_fun (m := c8) rfl _ _ rfl]
  simp -implicitDefEqProofs only [c8, e21n, e20n, push_cast, Nat.reduceAdd, Nat.reduceMul, Nat.reduceSub, Nat.reduceLT, Nat.reduceLeDiff, Nat.reduceEqDiff, Nat.reducePow, Int.reduceToNat, Int.reduceLT, Int.reduceLE, Int.reduceNeg, Int.reduceEq, Int.reducePow, reduceIte, reduceCtorEq, Int.reduceMul, Int.reduceAdd, Int.reduceSub, Int.reduceMod, Int.reduceDiv, Int.reduceTDiv, Int.reduceTMod, iter_s]
theorem e9n (k : Nat) (t a : Int) : evP (evF cm (k + 2)) 9 [np, .i t, .i a] = some (.i 1) := by
  rw [evP_fun (m := c9) rfl _ _ rfl]
  by_cases h : 0 ≤ a
  · have h1 : ¬ a < 0 := by omega
    simp -implicitDefEqProofs only [c9, e21n, e20n, h, h1, push_cast, Nat.reduceAdd, Nat.reduceMul, Nat.reduceSub, Nat.reduceLT, Nat.reduceLeDiff, Nat.reduceEqDiff, Nat.reducePow, Int.reduceToNat, Int.reduceLT, Int.reduceLE, Int.reduceNeg, Int.reduceEq, Int.reducePow, reduceIte, reduceCtorEq, Int.reduceMul, Int.reduceAdd, Int.reduceSub, Int.reduceMod, Int.reduceDiv, Int.reduceTDiv, Int.reduceTMod, iter_s]
  · simp -implicitDefEqProofs only [c9, e21n, e20n, h, push_cast, Nat.reduceAdd, Nat.reduceMul, Nat.reduceSub, Nat.reduceLT, Nat.reduceLeDiff, Nat.reduceEqDiff, Nat.reducePow, Int.reduceToNat, Int.reduceLT, Int.reduceLE, Int.reduceNeg, Int.reduceEq, Int.reducePow, reduceIte, reduceCtorEq, Int.reduceMul, Int.reduceAdd, Int.reduceSub, Int.reduceMod, Int.reduceDiv, Int.reduceTDiv, Int.reduceTMod, iter_s]
theorem e12n (k : Nat) : evP (evF cm (k + 1)) 12 [np] = some .nils := by kernel_rfl
theorem e15n (k : Nat) : evP (evF cm (k + 1)) 15 [np] = some (.i 0) := by kernel_rfl
theorem e13n (k : Nat) (o t a x n : Int) (h : 0 ≤ o ∧ o ≤ 7) : evP (evF cm (k + 4)) 13 [np, .agg [.i o, .i t, .i a, .i x, .i n]] = some (.agg [.i 0, .b false, .i 1]) := by
  rw [evP_fun (m := c13) rfl _ _ rfl]
  have hc : o = 0 ∨ o = 1 ∨ o = 2 ∨ o = 3 ∨ o = 4 ∨ o = 5 ∨ o = 6 ∨ o = 7 := by omega
  rcases hc with rfl | rfl | rfl | rfl | rfl | rfl | rfl | rfl <;>
    simp -implicitDefEqProofs only [c13, e19n, e18n, e27n, e28n, e10n, e11n, e8n, e9n, push_cast, Nat.reduceAdd, Nat.reduceMul, Nat.reduceSub, Nat.reduceLT, Nat.reduceLeDiff, Nat.reduceEqDiff, Nat.reducePow, Int.reduceToNat, Int.reduceLT, Int.reduceLE, Int.reduceNeg, Int.reduceEq, Int.reducePow, reduceIte, reduceCtorEq, Int.reduceMul, Int.reduceAdd, Int.reduceSub, Int.reduceMod, Int.reduceDiv, Int.reduceTDiv, Int.reduceTMod, iter_s]
theorem e5 (k : Nat) (o t a x n : Int) : evP (evF cm (k + 300)) 5 [.agg [.i o, .i t, .i a, .i x, .i n]] = some (.b true) := by
  rw [evP_fun (m := c5) rfl _ _ rfl]
  by_cases h0 : o < 0
  · simp -implicitDefEqProofs only [c5, e6, h0, push_cast, Nat.reduceAdd, Nat.reduceMul, Nat.reduceSub, Nat.reduceLT, Nat.reduceLeDiff, Nat.reduceEqDiff, Nat.reducePow, Int.reduceToNat, Int.reduceLT, Int.reduceLE, Int.reduceNeg, Int.reduceEq, Int.reducePow, reduceIte, reduceCtorEq, Int.reduceMul, Int.reduceAdd, Int.reduceSub, Int.reduceMod, Int.reduceDiv, Int.reduceTDiv, Int.reduceTMod, iter_s]
  · by_cases h7 : 7 < o
    · simp -implicitDefEqProofs only [c5, e6, h0, h7, push_cast, Nat.reduceAdd, Nat.reduceMul, Nat.reduceSub, Nat.reduceLT, Nat.reduceLeDiff, Nat.reduceEqDiff, Nat.reducePow, Int.reduceToNat, Int.reduceLT, Int.reduceLE, Int.reduceNeg, Int.reduceEq, Int.reducePow, reduceIte, reduceCtorEq, Int.reduceMul, Int.reduceAdd, Int.reduceSub, Int.reduceMod, Int.reduceDiv, Int.reduceTDiv, Int.reduceTMod, iter_s]
    · simp -implicitDefEqProofs only [c5, e6, h0, h7, e13n _ o t a x n (by omega), e12n, e15n, push_cast, Nat.reduceAdd, Nat.reduceMul, Nat.reduceSub, Nat.reduceLT, Nat.reduceLeDiff, Nat.reduceEqDiff, Nat.reducePow, Int.reduceToNat, Int.reduceLT, Int.reduceLE, Int.reduceNeg, Int.reduceEq, Int.reducePow, reduceIte, reduceCtorEq, Int.reduceMul, Int.reduceAdd, Int.reduceSub, Int.reduceMod, Int.reduceDiv, Int.reduceTDiv, Int.reduceTMod, iter_s]
end Go.Proofs.Ytlbcandecifkcaa
