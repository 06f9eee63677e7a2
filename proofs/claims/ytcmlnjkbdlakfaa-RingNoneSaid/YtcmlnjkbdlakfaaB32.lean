/- No ring does anything (RingNone), as the evaluator answers. -/
import Derived.Test.YtcmlnjkbdlakfaaA32
set_option linter.unusedSimpArgs false
set_option linter.unusedVariables false
set_option maxRecDepth 100000
set_option maxHeartbeats 16000000
namespace Go.Proofs.Ytcmlnjkbdlakfaa
open Go
abbrev np : LV := .v (.pointer none)
theorem e25n (k : Nat) (n : Int) : evP (evF cm (k + 1)) 25 [np, np, .i n] = some (.tup [.b false, .i 1]) := by
  rw [evP_fun (m := c25) rfl _ _ rfl]
  simp -implicitDefEqProofs only [c25, push_cast, Nat.reduceAdd, Nat.reduceMul, Nat.reduceSub, Nat.reduceLT, Nat.reduceLeDiff, Nat.reduceEqDiff, Nat.reducePow, Int.reduceToNat, Int.reduceLT, Int.reduceLE, Int.reduceNeg, Int.reduceEq, Int.reducePow, reduceIte, reduceCtorEq, Int.reduceMul, Int.reduceAdd, Int.reduceSub, Int.reduceMod, Int.reduceDiv, Int.reduceTDiv, Int.reduceTMod, iter_s]
theorem e28n (k : Nat) (g : Nat) (a b : Int) : evP (evF cm (k + 1)) 28 [np, .f g [], .i a, .i b] = some np := by
  rw [evP_fun (m := c28) rfl _ _ rfl]
  simp -implicitDefEqProofs only [c28, push_cast, Nat.reduceAdd, Nat.reduceMul, Nat.reduceSub, Nat.reduceLT, Nat.reduceLeDiff, Nat.reduceEqDiff, Nat.reducePow, Int.reduceToNat, Int.reduceLT, Int.reduceLE, Int.reduceNeg, Int.reduceEq, Int.reducePow, reduceIte, reduceCtorEq, Int.reduceMul, Int.reduceAdd, Int.reduceSub, Int.reduceMod, Int.reduceDiv, Int.reduceTDiv, Int.reduceTMod, iter_s]
theorem e13n (k : Nat) (n : Int) : evP (evF cm (k + 2)) 13 [np, .i n] = some np := by
  rw [evP_fun (m := c13) rfl _ _ rfl]
  simp -implicitDefEqProofs only [c13, e28n, push_cast, Nat.reduceAdd, Nat.reduceMul, Nat.reduceSub, Nat.reduceLT, Nat.reduceLeDiff, Nat.reduceEqDiff, Nat.reducePow, Int.reduceToNat, Int.reduceLT, Int.reduceLE, Int.reduceNeg, Int.reduceEq, Int.reducePow, reduceIte, reduceCtorEq, Int.reduceMul, Int.reduceAdd, Int.reduceSub, Int.reduceMod, Int.reduceDiv, Int.reduceTDiv, Int.reduceTMod, iter_s]
theorem e23n (k : Nat) (n : Int) : evP (evF cm (k + 2)) 23 [np, .i n] = some np := by
  rw [evP_fun (m := c23) rfl _ _ rfl]
  simp -implicitDefEqProofs only [c23, e28n, push_cast, Nat.reduceAdd, Nat.reduceMul, Nat.reduceSub, Nat.reduceLT, Nat.reduceLeDiff, Nat.reduceEqDiff, Nat.reducePow, Int.reduceToNat, Int.reduceLT, Int.reduceLE, Int.reduceNeg, Int.reduceEq, Int.reducePow, reduceIte, reduceCtorEq, Int.reduceMul, Int.reduceAdd, Int.reduceSub, Int.reduceMod, Int.reduceDiv, Int.reduceTDiv, Int.reduceTMod, iter_s]
theorem e24n (k : Nat) : evP (evF cm (k + 2)) 24 [np] = some np := by
  rw [evP_fun (m := c24) rfl _ _ rfl]
  simp -implicitDefEqProofs only [c24, e28n, push_cast, Nat.reduceAdd, Nat.reduceMul, Nat.reduceSub, Nat.reduceLT, Nat.reduceLeDiff, Nat.reduceEqDiff, Nat.reducePow, Int.reduceToNat, Int.reduceLT, Int.reduceLE, Int.reduceNeg, Int.reduceEq, Int.reducePow, reduceIte, reduceCtorEq, Int.reduceMul, Int.reduceAdd, Int.reduceSub, Int.reduceMod, Int.reduceDiv, Int.reduceTDiv, Int.reduceTMod, iter_s]
theorem e19n (k : Nat) : evP (evF cm (k + 2)) 19 [np] = some np := by
  rw [evP_fun (m := c19) rfl _ _ rfl]
  simp -implicitDefEqProofs only [c19, e28n, push_cast, Nat.reduceAdd, Nat.reduceMul, Nat.reduceSub, Nat.reduceLT, Nat.reduceLeDiff, Nat.reduceEqDiff, Nat.reducePow, Int.reduceToNat, Int.reduceLT, Int.reduceLE, Int.reduceNeg, Int.reduceEq, Int.reducePow, reduceIte, reduceCtorEq, Int.reduceMul, Int.reduceAdd, Int.reduceSub, Int.reduceMod, Int.reduceDiv, Int.reduceTDiv, Int.reduceTMod, iter_s]
theorem e21n (k : Nat) (n : Int) : evP (evF cm (k + 2)) 21 [np, .i n] = some np := by
  rw [evP_fun (m := c21) rfl _ _ rfl]
  simp -implicitDefEqProofs only [c21, e28n, push_cast, Nat.reduceAdd, Nat.reduceMul, Nat.reduceSub, Nat.reduceLT, Nat.reduceLeDiff, Nat.reduceEqDiff, Nat.reducePow, Int.reduceToNat, Int.reduceLT, Int.reduceLE, Int.reduceNeg, Int.reduceEq, Int.reducePow, reduceIte, reduceCtorEq, Int.reduceMul, Int.reduceAdd, Int.reduceSub, Int.reduceMod, Int.reduceDiv, Int.reduceTDiv, Int.reduceTMod, iter_s]
theorem e18n (k : Nat) : evP (evF cm (k + 1)) 18 [np] = some (.i 0) := by kernel_rfl
theorem e16n (k : Nat) : evP (evF cm (k + 1)) 16 [np] = some (.i 0) := by kernel_rfl
theorem e17n (k : Nat) : evP (evF cm (k + 1)) 17 [np] = some (.i (-1)) := by kernel_rfl
theorem e5 (k : Nat) (n : Int) : evP (evF cm (k + 300)) 5 [.i n] = some (.b true) := by
  rw [evP_fun (m := c5) rfl _ _ rfl]
  simp -implicitDefEqProofs only [c5, e25n, e13n, e23n, e24n, e19n, e21n, e18n, e16n, e17n, e6, push_cast, Nat.reduceAdd, Nat.reduceMul, Nat.reduceSub, Nat.reduceLT, Nat.reduceLeDiff, Nat.reduceEqDiff, Nat.reducePow, Int.reduceToNat, Int.reduceLT, Int.reduceLE, Int.reduceNeg, Int.reduceEq, Int.reducePow, reduceIte, reduceCtorEq, Int.reduceMul, Int.reduceAdd, Int.reduceSub, Int.reduceMod, Int.reduceDiv, Int.reduceTDiv, Int.reduceTMod, iter_s]
end Go.Proofs.Ytcmlnjkbdlakfaa
