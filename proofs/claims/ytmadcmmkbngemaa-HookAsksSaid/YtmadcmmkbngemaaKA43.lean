/- The first error ends a chain (HookChains), as the evaluator answers. -/
import Derived.Test.YtmadcmmkbngemaaJA43
set_option linter.unusedSimpArgs false
set_option linter.unusedVariables false
set_option maxRecDepth 100000
set_option maxHeartbeats 8000000
namespace Go.Proofs.Ytmadcmmkbngemaa
open Go
def sh (kind n : Int) : LV := .f 14 [.pi [.i kind], .pi [.i n]]
theorem e8 (k : Nat) (kind n : Int) : evP (evF cm2 (k + 1)) 8 [.i kind, .i n] = some (sh kind n) := by
  have e : evF cm2 (k + 1) 8 [.i kind, .i n] [] 0 = some (sh kind n, []) := rfl
  unfold evP
  rw [e]
  simp [sh, frz, closed, closedL]
theorem e21 (k : Nat) (x : Int) : evP (evF cm2 (k + 1)) 21 [.i x] = some (.b (decide (ch x))) := by
  rw [evP_fun (m := c21) rfl _ _ rfl]
  simp -implicitDefEqProofs only [c21, push_cast, Nat.reduceAdd, Nat.reduceMul, Nat.reduceSub, Nat.reduceLT, Nat.reduceLeDiff, Nat.reduceEqDiff, Nat.reducePow, Int.reduceToNat, Int.reduceLT, Int.reduceLE, Int.reduceNeg, Int.reduceEq, Int.reducePow, reduceIte, reduceCtorEq, Int.reduceMul, Int.reduceAdd, Int.reduceSub, Int.reduceMod, Int.reduceDiv, Int.reduceTDiv, Int.reduceTMod, iter_s]
  by_cases h : 0 ≤ x <;> simp [h, ch]
theorem e17 (k : Nat) (x : Int) : evP (evF cm2 (k + 1)) 17 [.i x] = some (.b (decide (ch x))) := by
  rw [evP_fun (m := c17) rfl _ _ rfl]
  simp -implicitDefEqProofs only [c17, push_cast, Nat.reduceAdd, Nat.reduceMul, Nat.reduceSub, Nat.reduceLT, Nat.reduceLeDiff, Nat.reduceEqDiff, Nat.reducePow, Int.reduceToNat, Int.reduceLT, Int.reduceLE, Int.reduceNeg, Int.reduceEq, Int.reducePow, reduceIte, reduceCtorEq, Int.reduceMul, Int.reduceAdd, Int.reduceSub, Int.reduceMod, Int.reduceDiv, Int.reduceTDiv, Int.reduceTMod, iter_s]
  by_cases h : 0 ≤ x <;> simp [h, ch]
theorem e16 (k : Nat) (x : Int) : evP (evF cm2 (k + 1)) 16 [.i x] = some (.b (decide (dp x))) := by
  rw [evP_fun (m := c16) rfl _ _ rfl]
  simp -implicitDefEqProofs only [c16, push_cast, Nat.reduceAdd, Nat.reduceMul, Nat.reduceSub, Nat.reduceLT, Nat.reduceLeDiff, Nat.reduceEqDiff, Nat.reducePow, Int.reduceToNat, Int.reduceLT, Int.reduceLE, Int.reduceNeg, Int.reduceEq, Int.reducePow, reduceIte, reduceCtorEq, Int.reduceMul, Int.reduceAdd, Int.reduceSub, Int.reduceMod, Int.reduceDiv, Int.reduceTDiv, Int.reduceTMod, iter_s]
  by_cases h : 0 ≤ x <;> simp [h, dp]
theorem e15 (k : Nat) (r g b a : Int) : evP (evF cm2 (k + 2)) 15 [.agg [.i r, .i g, .i b, .i a]] = some (.b (Rt r g b a)) := by
  rw [evP_fun (m := c15) rfl _ _ rfl]
  by_cases h1 : ch r
  · by_cases h2 : ch g
    · by_cases h3 : ch b
      · simp -implicitDefEqProofs only [c15, e21, h1, h2, h3, Rt, decide_true, Bool.true_and, push_cast, Nat.reduceAdd, Nat.reduceMul, Nat.reduceSub, Nat.reduceLT, Nat.reduceLeDiff, Nat.reduceEqDiff, Nat.reducePow, Int.reduceToNat, Int.reduceLT, Int.reduceLE, Int.reduceNeg, Int.reduceEq, Int.reducePow, reduceIte, reduceCtorEq, Int.reduceMul, Int.reduceAdd, Int.reduceSub, Int.reduceMod, Int.reduceDiv, Int.reduceTDiv, Int.reduceTMod, iter_s]
      · simp -implicitDefEqProofs only [c15, e21, h1, h2, h3, Rt, decide_true, decide_false, Bool.true_and, Bool.false_and, push_cast, Nat.reduceAdd, Nat.reduceMul, Nat.reduceSub, Nat.reduceLT, Nat.reduceLeDiff, Nat.reduceEqDiff, Nat.reducePow, Int.reduceToNat, Int.reduceLT, Int.reduceLE, Int.reduceNeg, Int.reduceEq, Int.reducePow, reduceIte, reduceCtorEq, Int.reduceMul, Int.reduceAdd, Int.reduceSub, Int.reduceMod, Int.reduceDiv, Int.reduceTDiv, Int.reduceTMod, iter_s]
    · simp -implicitDefEqProofs only [c15, e21, h1, h2, Rt, decide_true, decide_false, Bool.true_and, Bool.false_and, push_cast, Nat.reduceAdd, Nat.reduceMul, Nat.reduceSub, Nat.reduceLT, Nat.reduceLeDiff, Nat.reduceEqDiff, Nat.reducePow, Int.reduceToNat, Int.reduceLT, Int.reduceLE, Int.reduceNeg, Int.reduceEq, Int.reducePow, reduceIte, reduceCtorEq, Int.reduceMul, Int.reduceAdd, Int.reduceSub, Int.reduceMod, Int.reduceDiv, Int.reduceTDiv, Int.reduceTMod, iter_s]
  · simp -implicitDefEqProofs only [c15, e21, h1, Rt, decide_false, Bool.false_and, push_cast, Nat.reduceAdd, Nat.reduceMul, Nat.reduceSub, Nat.reduceLT, Nat.reduceLeDiff, Nat.reduceEqDiff, Nat.reducePow, Int.reduceToNat, Int.reduceLT, Int.reduceLE, Int.reduceNeg, Int.reduceEq, Int.reducePow, reduceIte, reduceCtorEq, Int.reduceMul, Int.reduceAdd, Int.reduceSub, Int.reduceMod, Int.reduceDiv, Int.reduceTDiv, Int.reduceTMod, iter_s]
theorem e10 (k : Nat) (r g b a z s : Int) : evP (evF cm2 (k + 3)) 10 [px r g b a z s] = some (.b (Rx r g b a z s)) := by
  unfold px
  rw [evP_fun (m := c10) rfl _ _ rfl]
  cases h1 : Rt r g b a with
  | false => simp -implicitDefEqProofs only [c10, e15, h1, Rx, Bool.false_and, push_cast, Nat.reduceAdd, Nat.reduceMul, Nat.reduceSub, Nat.reduceLT, Nat.reduceLeDiff, Nat.reduceEqDiff, Nat.reducePow, Int.reduceToNat, Int.reduceLT, Int.reduceLE, Int.reduceNeg, Int.reduceEq, Int.reducePow, reduceIte, reduceCtorEq, Int.reduceMul, Int.reduceAdd, Int.reduceSub, Int.reduceMod, Int.reduceDiv, Int.reduceTDiv, Int.reduceTMod, iter_s]
  | true =>
    by_cases h2 : dp z
    · simp -implicitDefEqProofs only [c10, e15, e16, e17, h1, h2, Rx, decide_true, Bool.true_and, push_cast, Nat.reduceAdd, Nat.reduceMul, Nat.reduceSub, Nat.reduceLT, Nat.reduceLeDiff, Nat.reduceEqDiff, Nat.reducePow, Int.reduceToNat, Int.reduceLT, Int.reduceLE, Int.reduceNeg, Int.reduceEq, Int.reducePow, reduceIte, reduceCtorEq, Int.reduceMul, Int.reduceAdd, Int.reduceSub, Int.reduceMod, Int.reduceDiv, Int.reduceTDiv, Int.reduceTMod, iter_s]
    · simp -implicitDefEqProofs only [c10, e15, e16, h1, h2, Rx, decide_false, Bool.true_and, Bool.false_and, push_cast, Nat.reduceAdd, Nat.reduceMul, Nat.reduceSub, Nat.reduceLT, Nat.reduceLeDiff, Nat.reduceEqDiff, Nat.reducePow, Int.reduceToNat, Int.reduceLT, Int.reduceLE, Int.reduceNeg, Int.reduceEq, Int.reducePow, reduceIte, reduceCtorEq, Int.reduceMul, Int.reduceAdd, Int.reduceSub, Int.reduceMod, Int.reduceDiv, Int.reduceTDiv, Int.reduceTMod, iter_s]
/-- What is asked for. -/
def wantV (kind n r g b a z s : Int) : LV :=
  if kind = 0 then .tup [px r g b a n s, .b true] else if kind = 1 then .tup [px n 0 0 0 z s, .b true] else if kind = 2 then .tup [px r g b a z n, .b true] else .tup [px 0 0 0 0 0 0, .b false]
theorem e9 (k : Nat) (kind n r g b a z s : Int) : evP (evF cm2 (k + 1)) 9 [.i kind, .i n, px r g b a z s] = some (wantV kind n r g b a z s) := by
  unfold px wantV
  rw [evP_fun (m := c9) rfl _ _ rfl]
  by_cases h0 : kind = 0
  · simp -implicitDefEqProofs only [c9, h0, px, push_cast, Nat.reduceAdd, Nat.reduceMul, Nat.reduceSub, Nat.reduceLT, Nat.reduceLeDiff, Nat.reduceEqDiff, Nat.reducePow, Int.reduceToNat, Int.reduceLT, Int.reduceLE, Int.reduceNeg, Int.reduceEq, Int.reducePow, reduceIte, reduceCtorEq, Int.reduceMul, Int.reduceAdd, Int.reduceSub, Int.reduceMod, Int.reduceDiv, Int.reduceTDiv, Int.reduceTMod, iter_s]
  by_cases h1 : kind = 1
  · simp -implicitDefEqProofs only [c9, h0, h1, px, push_cast, Nat.reduceAdd, Nat.reduceMul, Nat.reduceSub, Nat.reduceLT, Nat.reduceLeDiff, Nat.reduceEqDiff, Nat.reducePow, Int.reduceToNat, Int.reduceLT, Int.reduceLE, Int.reduceNeg, Int.reduceEq, Int.reducePow, reduceIte, reduceCtorEq, Int.reduceMul, Int.reduceAdd, Int.reduceSub, Int.reduceMod, Int.reduceDiv, Int.reduceTDiv, Int.reduceTMod, iter_s]
  by_cases h2 : kind = 2
  · simp -implicitDefEqProofs only [c9, h0, h1, h2, px, push_cast, Nat.reduceAdd, Nat.reduceMul, Nat.reduceSub, Nat.reduceLT, Nat.reduceLeDiff, Nat.reduceEqDiff, Nat.reducePow, Int.reduceToNat, Int.reduceLT, Int.reduceLE, Int.reduceNeg, Int.reduceEq, Int.reducePow, reduceIte, reduceCtorEq, Int.reduceMul, Int.reduceAdd, Int.reduceSub, Int.reduceMod, Int.reduceDiv, Int.reduceTDiv, Int.reduceTMod, iter_s]
  · simp -implicitDefEqProofs only [c9, h0, h1, h2, px, push_cast, Nat.reduceAdd, Nat.reduceMul, Nat.reduceSub, Nat.reduceLT, Nat.reduceLeDiff, Nat.reduceEqDiff, Nat.reducePow, Int.reduceToNat, Int.reduceLT, Int.reduceLE, Int.reduceNeg, Int.reduceEq, Int.reducePow, reduceIte, reduceCtorEq, Int.reduceMul, Int.reduceAdd, Int.reduceSub, Int.reduceMod, Int.reduceDiv, Int.reduceTDiv, Int.reduceTMod, iter_s]
theorem e11 (k : Nat) (kind n r g b a z s : Int) (x : LV) (h : ansA kind n r g b a z s = some x) (hx : closed x = true) : evP (evF cm2 (k + 1)) 11 [.ifc 31 (sh kind n), px r g b a z s, fr0] = some x := by
  have e : evF cm2 (k + 1) 11 [.ifc 31 (sh kind n), px r g b a z s, fr0] [] 0 = some (x, []) := by
    show askO [.ifc 31 (sh kind n), px r g b a z s, fr0] [] 0 = some (x, [])
    unfold sh px fr0 askO
    simp only [rdQ, h, Option.map_some]
  have hz : frz [] x = x := frz_flat [] x (by
    revert hx h
    unfold ansA tell
    repeat' split
    all_goals first | (intro h; cases h; done) | (intro h; cases h; intro _; rfl))
  unfold evP
  rw [e]
  simp only [hz, hx, if_true]
end Go.Proofs.Ytmadcmmkbngemaa
