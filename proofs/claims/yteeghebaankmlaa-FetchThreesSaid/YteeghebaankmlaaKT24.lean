/- A vertex goes to clip space: the law FetchCorners, as the evaluator answers. -/
import Derived.Test.YteeghebaankmlaaF24
set_option linter.unusedSimpArgs false
set_option linter.unusedVariables false
set_option maxRecDepth 100000
set_option maxHeartbeats 16000000
namespace Go.Proofs.Yteeghebaankmlaa
open Go
theorem e13' (k : Nat) (x y z a b c d u v : Int) : evP (evF cm2 (k + 1)) 13 [.agg [.i x, .i y, .i z, .i a, .i b, .i c, .i d, .i u, .i v]] = some (.agg [.i x, .i y, .i z, .i 256]) := by
  rw [evP_fun (m := c13) rfl _ _ rfl]
  simp -implicitDefEqProofs only [c13, push_cast, Nat.reduceAdd, Nat.reduceMul, Nat.reduceSub, Nat.reduceLT, Nat.reduceLeDiff, Nat.reduceEqDiff, Nat.reducePow, Int.reduceToNat, Int.reduceLT, Int.reduceLE, Int.reduceNeg, Int.reduceEq, Int.reducePow, reduceIte, reduceCtorEq, Int.reduceMul, Int.reduceAdd, Int.reduceSub, Int.reduceMod, Int.reduceDiv, Int.reduceTDiv, Int.reduceTMod, iter_s]
theorem e17' (k : Nat) (x y z a b c d u v : Int) : evP (evF cm2 (k + 1)) 17 [.agg [.i x, .i y, .i z, .i a, .i b, .i c, .i d, .i u, .i v]] = some (.agg [.i x, .i y, .i z, .i 256]) := by
  rw [evP_fun (m := c17) rfl _ _ rfl]
  simp -implicitDefEqProofs only [c17, push_cast, Nat.reduceAdd, Nat.reduceMul, Nat.reduceSub, Nat.reduceLT, Nat.reduceLeDiff, Nat.reduceEqDiff, Nat.reducePow, Int.reduceToNat, Int.reduceLT, Int.reduceLE, Int.reduceNeg, Int.reduceEq, Int.reducePow, reduceIte, reduceCtorEq, Int.reduceMul, Int.reduceAdd, Int.reduceSub, Int.reduceMod, Int.reduceDiv, Int.reduceTDiv, Int.reduceTMod, iter_s]
section
variable (m0 m1 m2 m3 m4 m5 m6 m7 m8 m9 m10 m11 m12 m13 m14 m15 : Int)
theorem e14' (k : Nat) (x y z a b c d u v : Int) (hm : may [m0, m1, m2, m3, m4, m5, m6, m7, m8, m9, m10, m11, m12, m13, m14, m15] = true) (hv : fits x y z 256 = true) : evP (evF cm2 (k + 50)) 14 [.agg [.i m0, .i m1, .i m2, .i m3, .i m4, .i m5, .i m6, .i m7, .i m8, .i m9, .i m10, .i m11, .i m12, .i m13, .i m14, .i m15], .agg [.i x, .i y, .i z, .i a, .i b, .i c, .i d, .i u, .i v]] = some (.agg [.i (rw4 m0 m1 m2 m3 x y z 256), .i (rw4 m4 m5 m6 m7 x y z 256), .i (rw4 m8 m9 m10 m11 x y z 256), .i (rw4 m12 m13 m14 m15 x y z 256), .i a, .i b, .i c, .i d, .i u, .i v]) := by
  have h1 := fun k => e13' k x y z a b c d u v
  have h2 := fun k => rApply k m0 m1 m2 m3 m4 m5 m6 m7 m8 m9 m10 m11 m12 m13 m14 m15 x y z 256 hm hv
  rw [evP_fun (m := c14) rfl _ _ rfl]
  simp -implicitDefEqProofs only [c14, h1, h2, push_cast, Nat.reduceAdd, Nat.reduceMul, Nat.reduceSub, Nat.reduceLT, Nat.reduceLeDiff, Nat.reduceEqDiff, Nat.reducePow, Int.reduceToNat, Int.reduceLT, Int.reduceLE, Int.reduceNeg, Int.reduceEq, Int.reducePow, reduceIte, reduceCtorEq, Int.reduceMul, Int.reduceAdd, Int.reduceSub, Int.reduceMod, Int.reduceDiv, Int.reduceTDiv, Int.reduceTMod, iter_s]
theorem e10y (k : Nat) (x y z a b c d u v : Int) (hm : may [m0, m1, m2, m3, m4, m5, m6, m7, m8, m9, m10, m11, m12, m13, m14, m15] = true) (hv : fits x y z 256 = true) : evP (evF cm2 (k + 50)) 10 [.agg [.i m0, .i m1, .i m2, .i m3, .i m4, .i m5, .i m6, .i m7, .i m8, .i m9, .i m10, .i m11, .i m12, .i m13, .i m14, .i m15], .agg [.i x, .i y, .i z, .i a, .i b, .i c, .i d, .i u, .i v]] = some (.tup [.agg [.i (rw4 m0 m1 m2 m3 x y z 256), .i (rw4 m4 m5 m6 m7 x y z 256), .i (rw4 m8 m9 m10 m11 x y z 256), .i (rw4 m12 m13 m14 m15 x y z 256), .i a, .i b, .i c, .i d, .i u, .i v], .i 0]) := by
  have h1 := fun k => e17' k x y z a b c d u v
  have h2 := fun k => vApply k m0 m1 m2 m3 m4 m5 m6 m7 m8 m9 m10 m11 m12 m13 m14 m15 x y z 256 hm hv
  rw [evP_fun (m := c10) rfl _ _ rfl]
  simp -implicitDefEqProofs only [c10, h1, h2, push_cast, Nat.reduceAdd, Nat.reduceMul, Nat.reduceSub, Nat.reduceLT, Nat.reduceLeDiff, Nat.reduceEqDiff, Nat.reducePow, Int.reduceToNat, Int.reduceLT, Int.reduceLE, Int.reduceNeg, Int.reduceEq, Int.reducePow, reduceIte, reduceCtorEq, Int.reduceMul, Int.reduceAdd, Int.reduceSub, Int.reduceMod, Int.reduceDiv, Int.reduceTDiv, Int.reduceTMod, iter_s]
theorem e10n (k : Nat) (x y z a b c d u v : Int) (hb : may [m0, m1, m2, m3, m4, m5, m6, m7, m8, m9, m10, m11, m12, m13, m14, m15] = false ∨ fits x y z 256 = false) : evP (evF cm2 (k + 50)) 10 [.agg [.i m0, .i m1, .i m2, .i m3, .i m4, .i m5, .i m6, .i m7, .i m8, .i m9, .i m10, .i m11, .i m12, .i m13, .i m14, .i m15], .agg [.i x, .i y, .i z, .i a, .i b, .i c, .i d, .i u, .i v]] = some (.tup [.agg [.i 0, .i 0, .i 0, .i 0, .i 0, .i 0, .i 0, .i 0, .i 0, .i 0], .i 3]) := by
  have h1 := fun k => e17' k x y z a b c d u v
  have h2 : ∀ k, evP (evF cm2 (k + 40)) 16 [.agg [.i m0, .i m1, .i m2, .i m3, .i m4, .i m5, .i m6, .i m7, .i m8, .i m9, .i m10, .i m11, .i m12, .i m13, .i m14, .i m15], .agg [.i x, .i y, .i z, .i 256]] = some (.tup [.agg [.i 0, .i 0, .i 0, .i 0], .i 3]) := fun k => by
    cases hm : may [m0, m1, m2, m3, m4, m5, m6, m7, m8, m9, m10, m11, m12, m13, m14, m15]
    · exact e7m k m0 m1 m2 m3 m4 m5 m6 m7 m8 m9 m10 m11 m12 m13 m14 m15 x y z 256 hm
    · exact e7v k m0 m1 m2 m3 m4 m5 m6 m7 m8 m9 m10 m11 m12 m13 m14 m15 x y z 256 hm (hb.resolve_left (by rw [hm]; simp))
  rw [evP_fun (m := c10) rfl _ _ rfl]
  simp -implicitDefEqProofs only [c10, h1, h2, push_cast, Nat.reduceAdd, Nat.reduceMul, Nat.reduceSub, Nat.reduceLT, Nat.reduceLeDiff, Nat.reduceEqDiff, Nat.reducePow, Int.reduceToNat, Int.reduceLT, Int.reduceLE, Int.reduceNeg, Int.reduceEq, Int.reducePow, reduceIte, reduceCtorEq, Int.reduceMul, Int.reduceAdd, Int.reduceSub, Int.reduceMod, Int.reduceDiv, Int.reduceTDiv, Int.reduceTMod, iter_s]
end
end Go.Proofs.Yteeghebaankmlaa
