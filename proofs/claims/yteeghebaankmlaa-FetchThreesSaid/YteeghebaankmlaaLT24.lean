/- A triangle's corners: the law FetchCorners, as the evaluator answers. -/
import Derived.Test.YteeghebaankmlaaKT24
set_option linter.unusedSimpArgs false
set_option linter.unusedVariables false
set_option maxRecDepth 100000
set_option maxHeartbeats 16000000
namespace Go.Proofs.Yteeghebaankmlaa
open Go
theorem e5' (k : Nat) : evP (evF cm2 (k + 85)) 5 [] = some (.b true) := by kernel_rfl
section
variable (m0 m1 m2 m3 m4 m5 m6 m7 m8 m9 m10 m11 m12 m13 m14 m15 : Int) (x0 y0 z0 a0 b0 c0 d0 u0 v0 x1 y1 z1 a1 b1 c1 d1 u1 v1 x2 y2 z2 a2 b2 c2 d2 u2 v2 : Int)
theorem e9n (k : Nat) (hm : may [m0, m1, m2, m3, m4, m5, m6, m7, m8, m9, m10, m11, m12, m13, m14, m15] = false) : evP (evF cm2 (k + 70)) 9 [.agg [.i m0, .i m1, .i m2, .i m3, .i m4, .i m5, .i m6, .i m7, .i m8, .i m9, .i m10, .i m11, .i m12, .i m13, .i m14, .i m15], .agg [.i x0, .i y0, .i z0, .i a0, .i b0, .i c0, .i d0, .i u0, .i v0, .i x1, .i y1, .i z1, .i a1, .i b1, .i c1, .i d1, .i u1, .i v1, .i x2, .i y2, .i z2, .i a2, .i b2, .i c2, .i d2, .i u2, .i v2]] = some (.tup [.agg [.i 0, .i 0, .i 0, .i 0, .i 0, .i 0, .i 0, .i 0, .i 0, .i 0, .i 0, .i 0, .i 0, .i 0, .i 0, .i 0, .i 0, .i 0, .i 0, .i 0, .i 0, .i 0, .i 0, .i 0, .i 0, .i 0, .i 0, .i 0, .i 0, .i 0], .i 3]) := by
  have q0 := fun k => e10n m0 m1 m2 m3 m4 m5 m6 m7 m8 m9 m10 m11 m12 m13 m14 m15 k x0 y0 z0 a0 b0 c0 d0 u0 v0 (.inl hm)
  rw [evP_fun (m := c9) rfl _ _ rfl]
  simp -implicitDefEqProofs (maxSteps := 2000000) only [c9, c9b0, q0, push_cast, Nat.reduceAdd, Nat.reduceMul, Nat.reduceSub, Nat.reduceLT, Nat.reduceLeDiff, Nat.reduceEqDiff, Nat.reducePow, Int.reduceToNat, Int.reduceLT, Int.reduceLE, Int.reduceNeg, Int.reduceEq, Int.reducePow, reduceIte, reduceCtorEq, Int.reduceMul, Int.reduceAdd, Int.reduceSub, Int.reduceMod, Int.reduceDiv, Int.reduceTDiv, Int.reduceTMod, iter_s]
theorem e90 (k : Nat) (hm : may [m0, m1, m2, m3, m4, m5, m6, m7, m8, m9, m10, m11, m12, m13, m14, m15] = true) (h0 : fits x0 y0 z0 256 = false) : evP (evF cm2 (k + 70)) 9 [.agg [.i m0, .i m1, .i m2, .i m3, .i m4, .i m5, .i m6, .i m7, .i m8, .i m9, .i m10, .i m11, .i m12, .i m13, .i m14, .i m15], .agg [.i x0, .i y0, .i z0, .i a0, .i b0, .i c0, .i d0, .i u0, .i v0, .i x1, .i y1, .i z1, .i a1, .i b1, .i c1, .i d1, .i u1, .i v1, .i x2, .i y2, .i z2, .i a2, .i b2, .i c2, .i d2, .i u2, .i v2]] = some (.tup [.agg [.i 0, .i 0, .i 0, .i 0, .i 0, .i 0, .i 0, .i 0, .i 0, .i 0, .i 0, .i 0, .i 0, .i 0, .i 0, .i 0, .i 0, .i 0, .i 0, .i 0, .i 0, .i 0, .i 0, .i 0, .i 0, .i 0, .i 0, .i 0, .i 0, .i 0], .i 3]) := by
  have q0 := fun k => e10n m0 m1 m2 m3 m4 m5 m6 m7 m8 m9 m10 m11 m12 m13 m14 m15 k x0 y0 z0 a0 b0 c0 d0 u0 v0 (.inr h0)
  rw [evP_fun (m := c9) rfl _ _ rfl]
  simp -implicitDefEqProofs (maxSteps := 2000000) only [c9, c9b0, q0, push_cast, Nat.reduceAdd, Nat.reduceMul, Nat.reduceSub, Nat.reduceLT, Nat.reduceLeDiff, Nat.reduceEqDiff, Nat.reducePow, Int.reduceToNat, Int.reduceLT, Int.reduceLE, Int.reduceNeg, Int.reduceEq, Int.reducePow, reduceIte, reduceCtorEq, Int.reduceMul, Int.reduceAdd, Int.reduceSub, Int.reduceMod, Int.reduceDiv, Int.reduceTDiv, Int.reduceTMod, iter_s]
theorem e91 (k : Nat) (hm : may [m0, m1, m2, m3, m4, m5, m6, m7, m8, m9, m10, m11, m12, m13, m14, m15] = true) (h0 : fits x0 y0 z0 256 = true) (h1 : fits x1 y1 z1 256 = false) : evP (evF cm2 (k + 70)) 9 [.agg [.i m0, .i m1, .i m2, .i m3, .i m4, .i m5, .i m6, .i m7, .i m8, .i m9, .i m10, .i m11, .i m12, .i m13, .i m14, .i m15], .agg [.i x0, .i y0, .i z0, .i a0, .i b0, .i c0, .i d0, .i u0, .i v0, .i x1, .i y1, .i z1, .i a1, .i b1, .i c1, .i d1, .i u1, .i v1, .i x2, .i y2, .i z2, .i a2, .i b2, .i c2, .i d2, .i u2, .i v2]] = some (.tup [.agg [.i 0, .i 0, .i 0, .i 0, .i 0, .i 0, .i 0, .i 0, .i 0, .i 0, .i 0, .i 0, .i 0, .i 0, .i 0, .i 0, .i 0, .i 0, .i 0, .i 0, .i 0, .i 0, .i 0, .i 0, .i 0, .i 0, .i 0, .i 0, .i 0, .i 0], .i 3]) := by
  have q0 := fun k => e10y m0 m1 m2 m3 m4 m5 m6 m7 m8 m9 m10 m11 m12 m13 m14 m15 k x0 y0 z0 a0 b0 c0 d0 u0 v0 hm h0
  have q1 := fun k => e10n m0 m1 m2 m3 m4 m5 m6 m7 m8 m9 m10 m11 m12 m13 m14 m15 k x1 y1 z1 a1 b1 c1 d1 u1 v1 (.inr h1)
  rw [evP_fun (m := c9) rfl _ _ rfl]
  simp -implicitDefEqProofs (maxSteps := 2000000) only [c9, c9b0, q0, q1, push_cast, Nat.reduceAdd, Nat.reduceMul, Nat.reduceSub, Nat.reduceLT, Nat.reduceLeDiff, Nat.reduceEqDiff, Nat.reducePow, Int.reduceToNat, Int.reduceLT, Int.reduceLE, Int.reduceNeg, Int.reduceEq, Int.reducePow, reduceIte, reduceCtorEq, Int.reduceMul, Int.reduceAdd, Int.reduceSub, Int.reduceMod, Int.reduceDiv, Int.reduceTDiv, Int.reduceTMod, iter_s]
theorem e92 (k : Nat) (hm : may [m0, m1, m2, m3, m4, m5, m6, m7, m8, m9, m10, m11, m12, m13, m14, m15] = true) (h0 : fits x0 y0 z0 256 = true) (h1 : fits x1 y1 z1 256 = true) (h2 : fits x2 y2 z2 256 = false) : evP (evF cm2 (k + 70)) 9 [.agg [.i m0, .i m1, .i m2, .i m3, .i m4, .i m5, .i m6, .i m7, .i m8, .i m9, .i m10, .i m11, .i m12, .i m13, .i m14, .i m15], .agg [.i x0, .i y0, .i z0, .i a0, .i b0, .i c0, .i d0, .i u0, .i v0, .i x1, .i y1, .i z1, .i a1, .i b1, .i c1, .i d1, .i u1, .i v1, .i x2, .i y2, .i z2, .i a2, .i b2, .i c2, .i d2, .i u2, .i v2]] = some (.tup [.agg [.i 0, .i 0, .i 0, .i 0, .i 0, .i 0, .i 0, .i 0, .i 0, .i 0, .i 0, .i 0, .i 0, .i 0, .i 0, .i 0, .i 0, .i 0, .i 0, .i 0, .i 0, .i 0, .i 0, .i 0, .i 0, .i 0, .i 0, .i 0, .i 0, .i 0], .i 3]) := by
  have q0 := fun k => e10y m0 m1 m2 m3 m4 m5 m6 m7 m8 m9 m10 m11 m12 m13 m14 m15 k x0 y0 z0 a0 b0 c0 d0 u0 v0 hm h0
  have q1 := fun k => e10y m0 m1 m2 m3 m4 m5 m6 m7 m8 m9 m10 m11 m12 m13 m14 m15 k x1 y1 z1 a1 b1 c1 d1 u1 v1 hm h1
  have q2 := fun k => e10n m0 m1 m2 m3 m4 m5 m6 m7 m8 m9 m10 m11 m12 m13 m14 m15 k x2 y2 z2 a2 b2 c2 d2 u2 v2 (.inr h2)
  rw [evP_fun (m := c9) rfl _ _ rfl]
  simp -implicitDefEqProofs (maxSteps := 2000000) only [c9, c9b0, q0, q1, q2, push_cast, Nat.reduceAdd, Nat.reduceMul, Nat.reduceSub, Nat.reduceLT, Nat.reduceLeDiff, Nat.reduceEqDiff, Nat.reducePow, Int.reduceToNat, Int.reduceLT, Int.reduceLE, Int.reduceNeg, Int.reduceEq, Int.reducePow, reduceIte, reduceCtorEq, Int.reduceMul, Int.reduceAdd, Int.reduceSub, Int.reduceMod, Int.reduceDiv, Int.reduceTDiv, Int.reduceTMod, iter_s]
theorem e9y (k : Nat) (hm : may [m0, m1, m2, m3, m4, m5, m6, m7, m8, m9, m10, m11, m12, m13, m14, m15] = true) (h0 : fits x0 y0 z0 256 = true) (h1 : fits x1 y1 z1 256 = true) (h2 : fits x2 y2 z2 256 = true) : evP (evF cm2 (k + 70)) 9 [.agg [.i m0, .i m1, .i m2, .i m3, .i m4, .i m5, .i m6, .i m7, .i m8, .i m9, .i m10, .i m11, .i m12, .i m13, .i m14, .i m15], .agg [.i x0, .i y0, .i z0, .i a0, .i b0, .i c0, .i d0, .i u0, .i v0, .i x1, .i y1, .i z1, .i a1, .i b1, .i c1, .i d1, .i u1, .i v1, .i x2, .i y2, .i z2, .i a2, .i b2, .i c2, .i d2, .i u2, .i v2]] = some (.tup [.agg [.i (rw4 m0 m1 m2 m3 x0 y0 z0 256), .i (rw4 m4 m5 m6 m7 x0 y0 z0 256), .i (rw4 m8 m9 m10 m11 x0 y0 z0 256), .i (rw4 m12 m13 m14 m15 x0 y0 z0 256), .i a0, .i b0, .i c0, .i d0, .i u0, .i v0, .i (rw4 m0 m1 m2 m3 x1 y1 z1 256), .i (rw4 m4 m5 m6 m7 x1 y1 z1 256), .i (rw4 m8 m9 m10 m11 x1 y1 z1 256), .i (rw4 m12 m13 m14 m15 x1 y1 z1 256), .i a1, .i b1, .i c1, .i d1, .i u1, .i v1, .i (rw4 m0 m1 m2 m3 x2 y2 z2 256), .i (rw4 m4 m5 m6 m7 x2 y2 z2 256), .i (rw4 m8 m9 m10 m11 x2 y2 z2 256), .i (rw4 m12 m13 m14 m15 x2 y2 z2 256), .i a2, .i b2, .i c2, .i d2, .i u2, .i v2], .i 0]) := by
  have q0 := fun k => e10y m0 m1 m2 m3 m4 m5 m6 m7 m8 m9 m10 m11 m12 m13 m14 m15 k x0 y0 z0 a0 b0 c0 d0 u0 v0 hm h0
  have q1 := fun k => e10y m0 m1 m2 m3 m4 m5 m6 m7 m8 m9 m10 m11 m12 m13 m14 m15 k x1 y1 z1 a1 b1 c1 d1 u1 v1 hm h1
  have q2 := fun k => e10y m0 m1 m2 m3 m4 m5 m6 m7 m8 m9 m10 m11 m12 m13 m14 m15 k x2 y2 z2 a2 b2 c2 d2 u2 v2 hm h2
  rw [evP_fun (m := c9) rfl _ _ rfl]
  simp -implicitDefEqProofs (maxSteps := 2000000) only [c9, c9b0, q0, q1, q2, push_cast, Nat.reduceAdd, Nat.reduceMul, Nat.reduceSub, Nat.reduceLT, Nat.reduceLeDiff, Nat.reduceEqDiff, Nat.reducePow, Int.reduceToNat, Int.reduceLT, Int.reduceLE, Int.reduceNeg, Int.reduceEq, Int.reducePow, reduceIte, reduceCtorEq, Int.reduceMul, Int.reduceAdd, Int.reduceSub, Int.reduceMod, Int.reduceDiv, Int.reduceTDiv, Int.reduceTMod, iter_s]
theorem e4n (k : Nat) (hm : may [m0, m1, m2, m3, m4, m5, m6, m7, m8, m9, m10, m11, m12, m13, m14, m15] = false) : evP (evF cm2 (k + 90)) 4 [.agg [.i m0, .i m1, .i m2, .i m3, .i m4, .i m5, .i m6, .i m7, .i m8, .i m9, .i m10, .i m11, .i m12, .i m13, .i m14, .i m15], .agg [.i x0, .i y0, .i z0, .i a0, .i b0, .i c0, .i d0, .i u0, .i v0, .i x1, .i y1, .i z1, .i a1, .i b1, .i c1, .i d1, .i u1, .i v1, .i x2, .i y2, .i z2, .i a2, .i b2, .i c2, .i d2, .i u2, .i v2]] = some (.b true) := by
  have q9 := fun k => e9n m0 m1 m2 m3 m4 m5 m6 m7 m8 m9 m10 m11 m12 m13 m14 m15 x0 y0 z0 a0 b0 c0 d0 u0 v0 x1 y1 z1 a1 b1 c1 d1 u1 v1 x2 y2 z2 a2 b2 c2 d2 u2 v2 k hm
  have r1 := fun k => rMay k m0 m1 m2 m3 m4 m5 m6 m7 m8 m9 m10 m11 m12 m13 m14 m15
  have q0 := fun k => e10n m0 m1 m2 m3 m4 m5 m6 m7 m8 m9 m10 m11 m12 m13 m14 m15 k x0 y0 z0 a0 b0 c0 d0 u0 v0 (.inl hm)
  have p0 := fun k => e13' k x0 y0 z0 a0 b0 c0 d0 u0 v0
  rw [evP_fun (m := c4) rfl _ _ rfl]
  simp -implicitDefEqProofs (maxSteps := 4000000) only [c4, c4b0, e5', q9, r1, hm, q0, p0, push_cast, Nat.reduceAdd, Nat.reduceMul, Nat.reduceSub, Nat.reduceLT, Nat.reduceLeDiff, Nat.reduceEqDiff, Nat.reducePow, Int.reduceToNat, Int.reduceLT, Int.reduceLE, Int.reduceNeg, Int.reduceEq, Int.reducePow, reduceIte, reduceCtorEq, Int.reduceMul, Int.reduceAdd, Int.reduceSub, Int.reduceMod, Int.reduceDiv, Int.reduceTDiv, Int.reduceTMod, iter_s]
theorem e40 (k : Nat) (hm : may [m0, m1, m2, m3, m4, m5, m6, m7, m8, m9, m10, m11, m12, m13, m14, m15] = true) (h0 : fits x0 y0 z0 256 = false) : evP (evF cm2 (k + 90)) 4 [.agg [.i m0, .i m1, .i m2, .i m3, .i m4, .i m5, .i m6, .i m7, .i m8, .i m9, .i m10, .i m11, .i m12, .i m13, .i m14, .i m15], .agg [.i x0, .i y0, .i z0, .i a0, .i b0, .i c0, .i d0, .i u0, .i v0, .i x1, .i y1, .i z1, .i a1, .i b1, .i c1, .i d1, .i u1, .i v1, .i x2, .i y2, .i z2, .i a2, .i b2, .i c2, .i d2, .i u2, .i v2]] = some (.b true) := by
  have q9 := fun k => e90 m0 m1 m2 m3 m4 m5 m6 m7 m8 m9 m10 m11 m12 m13 m14 m15 x0 y0 z0 a0 b0 c0 d0 u0 v0 x1 y1 z1 a1 b1 c1 d1 u1 v1 x2 y2 z2 a2 b2 c2 d2 u2 v2 k hm h0
  have r1 := fun k => rMay k m0 m1 m2 m3 m4 m5 m6 m7 m8 m9 m10 m11 m12 m13 m14 m15
  have q0 := fun k => e10n m0 m1 m2 m3 m4 m5 m6 m7 m8 m9 m10 m11 m12 m13 m14 m15 k x0 y0 z0 a0 b0 c0 d0 u0 v0 (.inr h0)
  have p0 := fun k => e13' k x0 y0 z0 a0 b0 c0 d0 u0 v0
  have f0 := fun k => rFits k x0 y0 z0 256
  rw [evP_fun (m := c4) rfl _ _ rfl]
  simp -implicitDefEqProofs (maxSteps := 4000000) only [c4, c4b0, e5', q9, r1, hm, q0, p0, f0, h0, push_cast, Nat.reduceAdd, Nat.reduceMul, Nat.reduceSub, Nat.reduceLT, Nat.reduceLeDiff, Nat.reduceEqDiff, Nat.reducePow, Int.reduceToNat, Int.reduceLT, Int.reduceLE, Int.reduceNeg, Int.reduceEq, Int.reducePow, reduceIte, reduceCtorEq, Int.reduceMul, Int.reduceAdd, Int.reduceSub, Int.reduceMod, Int.reduceDiv, Int.reduceTDiv, Int.reduceTMod, iter_s]
theorem e41 (k : Nat) (hm : may [m0, m1, m2, m3, m4, m5, m6, m7, m8, m9, m10, m11, m12, m13, m14, m15] = true) (h0 : fits x0 y0 z0 256 = true) (h1 : fits x1 y1 z1 256 = false) : evP (evF cm2 (k + 90)) 4 [.agg [.i m0, .i m1, .i m2, .i m3, .i m4, .i m5, .i m6, .i m7, .i m8, .i m9, .i m10, .i m11, .i m12, .i m13, .i m14, .i m15], .agg [.i x0, .i y0, .i z0, .i a0, .i b0, .i c0, .i d0, .i u0, .i v0, .i x1, .i y1, .i z1, .i a1, .i b1, .i c1, .i d1, .i u1, .i v1, .i x2, .i y2, .i z2, .i a2, .i b2, .i c2, .i d2, .i u2, .i v2]] = some (.b true) := by
  have q9 := fun k => e91 m0 m1 m2 m3 m4 m5 m6 m7 m8 m9 m10 m11 m12 m13 m14 m15 x0 y0 z0 a0 b0 c0 d0 u0 v0 x1 y1 z1 a1 b1 c1 d1 u1 v1 x2 y2 z2 a2 b2 c2 d2 u2 v2 k hm h0 h1
  have r1 := fun k => rMay k m0 m1 m2 m3 m4 m5 m6 m7 m8 m9 m10 m11 m12 m13 m14 m15
  have q0 := fun k => e10y m0 m1 m2 m3 m4 m5 m6 m7 m8 m9 m10 m11 m12 m13 m14 m15 k x0 y0 z0 a0 b0 c0 d0 u0 v0 hm h0
  have s0 := fun k => e14' m0 m1 m2 m3 m4 m5 m6 m7 m8 m9 m10 m11 m12 m13 m14 m15 k x0 y0 z0 a0 b0 c0 d0 u0 v0 hm h0
  have q1 := fun k => e10n m0 m1 m2 m3 m4 m5 m6 m7 m8 m9 m10 m11 m12 m13 m14 m15 k x1 y1 z1 a1 b1 c1 d1 u1 v1 (.inr h1)
  have p0 := fun k => e13' k x0 y0 z0 a0 b0 c0 d0 u0 v0
  have f0 := fun k => rFits k x0 y0 z0 256
  have p1 := fun k => e13' k x1 y1 z1 a1 b1 c1 d1 u1 v1
  have f1 := fun k => rFits k x1 y1 z1 256
  rw [evP_fun (m := c4) rfl _ _ rfl]
  simp -implicitDefEqProofs (maxSteps := 4000000) only [c4, c4b0, e5', q9, r1, hm, q0, s0, q1, p0, f0, h0, p1, f1, h1, push_cast, Nat.reduceAdd, Nat.reduceMul, Nat.reduceSub, Nat.reduceLT, Nat.reduceLeDiff, Nat.reduceEqDiff, Nat.reducePow, Int.reduceToNat, Int.reduceLT, Int.reduceLE, Int.reduceNeg, Int.reduceEq, Int.reducePow, reduceIte, reduceCtorEq, Int.reduceMul, Int.reduceAdd, Int.reduceSub, Int.reduceMod, Int.reduceDiv, Int.reduceTDiv, Int.reduceTMod, iter_s]
theorem e42 (k : Nat) (hm : may [m0, m1, m2, m3, m4, m5, m6, m7, m8, m9, m10, m11, m12, m13, m14, m15] = true) (h0 : fits x0 y0 z0 256 = true) (h1 : fits x1 y1 z1 256 = true) (h2 : fits x2 y2 z2 256 = false) : evP (evF cm2 (k + 90)) 4 [.agg [.i m0, .i m1, .i m2, .i m3, .i m4, .i m5, .i m6, .i m7, .i m8, .i m9, .i m10, .i m11, .i m12, .i m13, .i m14, .i m15], .agg [.i x0, .i y0, .i z0, .i a0, .i b0, .i c0, .i d0, .i u0, .i v0, .i x1, .i y1, .i z1, .i a1, .i b1, .i c1, .i d1, .i u1, .i v1, .i x2, .i y2, .i z2, .i a2, .i b2, .i c2, .i d2, .i u2, .i v2]] = some (.b true) := by
  have q9 := fun k => e92 m0 m1 m2 m3 m4 m5 m6 m7 m8 m9 m10 m11 m12 m13 m14 m15 x0 y0 z0 a0 b0 c0 d0 u0 v0 x1 y1 z1 a1 b1 c1 d1 u1 v1 x2 y2 z2 a2 b2 c2 d2 u2 v2 k hm h0 h1 h2
  have r1 := fun k => rMay k m0 m1 m2 m3 m4 m5 m6 m7 m8 m9 m10 m11 m12 m13 m14 m15
  have q0 := fun k => e10y m0 m1 m2 m3 m4 m5 m6 m7 m8 m9 m10 m11 m12 m13 m14 m15 k x0 y0 z0 a0 b0 c0 d0 u0 v0 hm h0
  have s0 := fun k => e14' m0 m1 m2 m3 m4 m5 m6 m7 m8 m9 m10 m11 m12 m13 m14 m15 k x0 y0 z0 a0 b0 c0 d0 u0 v0 hm h0
  have q1 := fun k => e10y m0 m1 m2 m3 m4 m5 m6 m7 m8 m9 m10 m11 m12 m13 m14 m15 k x1 y1 z1 a1 b1 c1 d1 u1 v1 hm h1
  have s1 := fun k => e14' m0 m1 m2 m3 m4 m5 m6 m7 m8 m9 m10 m11 m12 m13 m14 m15 k x1 y1 z1 a1 b1 c1 d1 u1 v1 hm h1
  have q2 := fun k => e10n m0 m1 m2 m3 m4 m5 m6 m7 m8 m9 m10 m11 m12 m13 m14 m15 k x2 y2 z2 a2 b2 c2 d2 u2 v2 (.inr h2)
  have p0 := fun k => e13' k x0 y0 z0 a0 b0 c0 d0 u0 v0
  have f0 := fun k => rFits k x0 y0 z0 256
  have p1 := fun k => e13' k x1 y1 z1 a1 b1 c1 d1 u1 v1
  have f1 := fun k => rFits k x1 y1 z1 256
  have p2 := fun k => e13' k x2 y2 z2 a2 b2 c2 d2 u2 v2
  have f2 := fun k => rFits k x2 y2 z2 256
  rw [evP_fun (m := c4) rfl _ _ rfl]
  simp -implicitDefEqProofs (maxSteps := 4000000) only [c4, c4b0, e5', q9, r1, hm, q0, s0, q1, s1, q2, p0, f0, h0, p1, f1, h1, p2, f2, h2, push_cast, Nat.reduceAdd, Nat.reduceMul, Nat.reduceSub, Nat.reduceLT, Nat.reduceLeDiff, Nat.reduceEqDiff, Nat.reducePow, Int.reduceToNat, Int.reduceLT, Int.reduceLE, Int.reduceNeg, Int.reduceEq, Int.reducePow, reduceIte, reduceCtorEq, Int.reduceMul, Int.reduceAdd, Int.reduceSub, Int.reduceMod, Int.reduceDiv, Int.reduceTDiv, Int.reduceTMod, iter_s]
theorem e4y (k : Nat) (hm : may [m0, m1, m2, m3, m4, m5, m6, m7, m8, m9, m10, m11, m12, m13, m14, m15] = true) (h0 : fits x0 y0 z0 256 = true) (h1 : fits x1 y1 z1 256 = true) (h2 : fits x2 y2 z2 256 = true) : evP (evF cm2 (k + 90)) 4 [.agg [.i m0, .i m1, .i m2, .i m3, .i m4, .i m5, .i m6, .i m7, .i m8, .i m9, .i m10, .i m11, .i m12, .i m13, .i m14, .i m15], .agg [.i x0, .i y0, .i z0, .i a0, .i b0, .i c0, .i d0, .i u0, .i v0, .i x1, .i y1, .i z1, .i a1, .i b1, .i c1, .i d1, .i u1, .i v1, .i x2, .i y2, .i z2, .i a2, .i b2, .i c2, .i d2, .i u2, .i v2]] = some (.b true) := by
  have q9 := fun k => e9y m0 m1 m2 m3 m4 m5 m6 m7 m8 m9 m10 m11 m12 m13 m14 m15 x0 y0 z0 a0 b0 c0 d0 u0 v0 x1 y1 z1 a1 b1 c1 d1 u1 v1 x2 y2 z2 a2 b2 c2 d2 u2 v2 k hm h0 h1 h2
  have r1 := fun k => rMay k m0 m1 m2 m3 m4 m5 m6 m7 m8 m9 m10 m11 m12 m13 m14 m15
  have q0 := fun k => e10y m0 m1 m2 m3 m4 m5 m6 m7 m8 m9 m10 m11 m12 m13 m14 m15 k x0 y0 z0 a0 b0 c0 d0 u0 v0 hm h0
  have s0 := fun k => e14' m0 m1 m2 m3 m4 m5 m6 m7 m8 m9 m10 m11 m12 m13 m14 m15 k x0 y0 z0 a0 b0 c0 d0 u0 v0 hm h0
  have q1 := fun k => e10y m0 m1 m2 m3 m4 m5 m6 m7 m8 m9 m10 m11 m12 m13 m14 m15 k x1 y1 z1 a1 b1 c1 d1 u1 v1 hm h1
  have s1 := fun k => e14' m0 m1 m2 m3 m4 m5 m6 m7 m8 m9 m10 m11 m12 m13 m14 m15 k x1 y1 z1 a1 b1 c1 d1 u1 v1 hm h1
  have q2 := fun k => e10y m0 m1 m2 m3 m4 m5 m6 m7 m8 m9 m10 m11 m12 m13 m14 m15 k x2 y2 z2 a2 b2 c2 d2 u2 v2 hm h2
  have s2 := fun k => e14' m0 m1 m2 m3 m4 m5 m6 m7 m8 m9 m10 m11 m12 m13 m14 m15 k x2 y2 z2 a2 b2 c2 d2 u2 v2 hm h2
  have p0 := fun k => e13' k x0 y0 z0 a0 b0 c0 d0 u0 v0
  have f0 := fun k => rFits k x0 y0 z0 256
  have p1 := fun k => e13' k x1 y1 z1 a1 b1 c1 d1 u1 v1
  have f1 := fun k => rFits k x1 y1 z1 256
  have p2 := fun k => e13' k x2 y2 z2 a2 b2 c2 d2 u2 v2
  have f2 := fun k => rFits k x2 y2 z2 256
  rw [evP_fun (m := c4) rfl _ _ rfl]
  simp -implicitDefEqProofs (maxSteps := 4000000) only [c4, c4b0, e5', q9, r1, hm, q0, s0, q1, s1, q2, s2, p0, f0, h0, p1, f1, h1, p2, f2, h2, push_cast, Nat.reduceAdd, Nat.reduceMul, Nat.reduceSub, Nat.reduceLT, Nat.reduceLeDiff, Nat.reduceEqDiff, Nat.reducePow, Int.reduceToNat, Int.reduceLT, Int.reduceLE, Int.reduceNeg, Int.reduceEq, Int.reducePow, reduceIte, reduceCtorEq, Int.reduceMul, Int.reduceAdd, Int.reduceSub, Int.reduceMod, Int.reduceDiv, Int.reduceTDiv, Int.reduceTMod, iter_s]
theorem e4 (k : Nat) : evP (evF cm2 (k + 90)) 4 [.agg [.i m0, .i m1, .i m2, .i m3, .i m4, .i m5, .i m6, .i m7, .i m8, .i m9, .i m10, .i m11, .i m12, .i m13, .i m14, .i m15], .agg [.i x0, .i y0, .i z0, .i a0, .i b0, .i c0, .i d0, .i u0, .i v0, .i x1, .i y1, .i z1, .i a1, .i b1, .i c1, .i d1, .i u1, .i v1, .i x2, .i y2, .i z2, .i a2, .i b2, .i c2, .i d2, .i u2, .i v2]] = some (.b true) := by
  cases hm : may [m0, m1, m2, m3, m4, m5, m6, m7, m8, m9, m10, m11, m12, m13, m14, m15]
  · exact e4n m0 m1 m2 m3 m4 m5 m6 m7 m8 m9 m10 m11 m12 m13 m14 m15 x0 y0 z0 a0 b0 c0 d0 u0 v0 x1 y1 z1 a1 b1 c1 d1 u1 v1 x2 y2 z2 a2 b2 c2 d2 u2 v2 k hm
  · cases h0 : fits x0 y0 z0 256
    · exact e40 m0 m1 m2 m3 m4 m5 m6 m7 m8 m9 m10 m11 m12 m13 m14 m15 x0 y0 z0 a0 b0 c0 d0 u0 v0 x1 y1 z1 a1 b1 c1 d1 u1 v1 x2 y2 z2 a2 b2 c2 d2 u2 v2 k hm h0
    · cases h1 : fits x1 y1 z1 256
      · exact e41 m0 m1 m2 m3 m4 m5 m6 m7 m8 m9 m10 m11 m12 m13 m14 m15 x0 y0 z0 a0 b0 c0 d0 u0 v0 x1 y1 z1 a1 b1 c1 d1 u1 v1 x2 y2 z2 a2 b2 c2 d2 u2 v2 k hm h0 h1
      · cases h2 : fits x2 y2 z2 256
        · exact e42 m0 m1 m2 m3 m4 m5 m6 m7 m8 m9 m10 m11 m12 m13 m14 m15 x0 y0 z0 a0 b0 c0 d0 u0 v0 x1 y1 z1 a1 b1 c1 d1 u1 v1 x2 y2 z2 a2 b2 c2 d2 u2 v2 k hm h0 h1 h2
        · exact e4y m0 m1 m2 m3 m4 m5 m6 m7 m8 m9 m10 m11 m12 m13 m14 m15 x0 y0 z0 a0 b0 c0 d0 u0 v0 x1 y1 z1 a1 b1 c1 d1 u1 v1 x2 y2 z2 a2 b2 c2 d2 u2 v2 k hm h0 h1 h2
end
end Go.Proofs.Yteeghebaankmlaa
