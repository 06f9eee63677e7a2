/- A triangle's setting up, and a prim's check, the program's and the document's, as the evaluator answers. -/
import Derived.Test.YtjgnjpbplnmdmaaBT
import Derived.Test.YtjgnjpbplnmdmaaBS
set_option linter.unusedSimpArgs false
set_option linter.unusedVariables false
set_option linter.unusedSectionVars false
set_option maxRecDepth 100000
set_option maxHeartbeats 16000000
namespace Go.Proofs.Ytjgnjpbplnmdmaa
open Go
def zT : LV := .agg [.i 0, .i 0, .i 0, .i 0, .i 0, .i 0, .i 0, .i 0, .i 0, .i 0, .i 0, .i 0, .i 0, .i 0, .i 0, .i 0, .i 0, .i 0, .i 0, .i 0, .i 0, .i 0, .i 0, .i 0, .i 0, .i 0, .i 0, .i 0, .i 0, .i 0, .i 0, .i 0]
section
variable (k : Nat) (x0 y0 z0 a0 a1 a2 a3 a4 a5 x1 y1 z1 b0 b1 b2 b3 b4 b5 x2 y2 z2 c0 c1 c2 c3 c4 c5 : Int)
theorem w_setupF (h : ¬ sm x0 y0 z0 a0 a1 a2 a3 a4 a5 ∨ (sm x0 y0 z0 a0 a1 a2 a3 a4 a5 ∧ ¬ sm x1 y1 z1 b0 b1 b2 b3 b4 b5) ∨ (sm x0 y0 z0 a0 a1 a2 a3 a4 a5 ∧ sm x1 y1 z1 b0 b1 b2 b3 b4 b5 ∧ ¬ sm x2 y2 z2 c0 c1 c2 c3 c4 c5)) :
    evP (evF cm (k + 40)) 32 [.agg [.i x0, .i y0, .i z0, .i a0, .i a1, .i a2, .i a3, .i a4, .i a5, .i x1, .i y1, .i z1, .i b0, .i b1, .i b2, .i b3, .i b4, .i b5, .i x2, .i y2, .i z2, .i c0, .i c1, .i c2, .i c3, .i c4, .i c5], .i 0] = some (.tup [zT, .b false, .i 3]) := by
  rw [evP_fun (m := c32) rfl _ _ rfl]
  rcases h with h | ⟨h1, h⟩ | ⟨h1, h2, h⟩
  · simp -implicitDefEqProofs (maxSteps := 4000000) only [c32, c32b0, w_smay, h, zT, push_cast, Nat.reduceAdd, Nat.reduceMul, Nat.reduceSub, Nat.reduceLT, Nat.reduceLeDiff, Nat.reduceEqDiff, Nat.reducePow, Int.reduceToNat, Int.reduceLT, Int.reduceLE, Int.reduceNeg, Int.reduceEq, Int.reducePow, reduceIte, reduceCtorEq, Int.reduceMul, Int.reduceAdd, Int.reduceSub, Int.reduceMod, Int.reduceDiv, Int.reduceTDiv, Int.reduceTMod, iter_s]
  · simp -implicitDefEqProofs (maxSteps := 4000000) only [c32, c32b0, w_smay, h1, h, zT, push_cast, Nat.reduceAdd, Nat.reduceMul, Nat.reduceSub, Nat.reduceLT, Nat.reduceLeDiff, Nat.reduceEqDiff, Nat.reducePow, Int.reduceToNat, Int.reduceLT, Int.reduceLE, Int.reduceNeg, Int.reduceEq, Int.reducePow, reduceIte, reduceCtorEq, Int.reduceMul, Int.reduceAdd, Int.reduceSub, Int.reduceMod, Int.reduceDiv, Int.reduceTDiv, Int.reduceTMod, iter_s]
  · simp -implicitDefEqProofs (maxSteps := 4000000) only [c32, c32b0, w_smay, h1, h2, h, zT, push_cast, Nat.reduceAdd, Nat.reduceMul, Nat.reduceSub, Nat.reduceLT, Nat.reduceLeDiff, Nat.reduceEqDiff, Nat.reducePow, Int.reduceToNat, Int.reduceLT, Int.reduceLE, Int.reduceNeg, Int.reduceEq, Int.reducePow, reduceIte, reduceCtorEq, Int.reduceMul, Int.reduceAdd, Int.reduceSub, Int.reduceMod, Int.reduceDiv, Int.reduceTDiv, Int.reduceTMod, iter_s]
variable (s0 : sm x0 y0 z0 a0 a1 a2 a3 a4 a5) (s1 : sm x1 y1 z1 b0 b1 b2 b3 b4 b5) (s2 : sm x2 y2 z2 c0 c1 c2 c3 c4 c5)
include s0 s1 s2
theorem w_setup0 (hA : sd x0 y0 x1 y1 x2 y2 = 0) : evP (evF cm (k + 40)) 32 [.agg [.i x0, .i y0, .i z0, .i a0, .i a1, .i a2, .i a3, .i a4, .i a5, .i x1, .i y1, .i z1, .i b0, .i b1, .i b2, .i b3, .i b4, .i b5, .i x2, .i y2, .i z2, .i c0, .i c1, .i c2, .i c3, .i c4, .i c5], .i 0] = some (.tup [zT, .b false, .i 0]) := by
  rw [evP_fun (m := c32) rfl _ _ rfl]
  have e1 := fun k => w_side k s0.1 s1.1 s2.1
  rw [hA] at e1
  simp -implicitDefEqProofs (maxSteps := 4000000) only [c32, c32b0, w_smay, s0, s1, s2, e1, zT, push_cast, Nat.reduceAdd, Nat.reduceMul, Nat.reduceSub, Nat.reduceLT, Nat.reduceLeDiff, Nat.reduceEqDiff, Nat.reducePow, Int.reduceToNat, Int.reduceLT, Int.reduceLE, Int.reduceNeg, Int.reduceEq, Int.reducePow, reduceIte, reduceCtorEq, Int.reduceMul, Int.reduceAdd, Int.reduceSub, Int.reduceMod, Int.reduceDiv, Int.reduceTDiv, Int.reduceTMod, iter_s]
theorem w_setupP (hA : 0 < sd x0 y0 x1 y1 x2 y2) : evP (evF cm (k + 40)) 32 [.agg [.i x0, .i y0, .i z0, .i a0, .i a1, .i a2, .i a3, .i a4, .i a5, .i x1, .i y1, .i z1, .i b0, .i b1, .i b2, .i b3, .i b4, .i b5, .i x2, .i y2, .i z2, .i c0, .i c1, .i c2, .i c3, .i c4, .i c5], .i 0] =
    some (.tup [.agg [.i x0, .i y0, .i z0, .i a0, .i a1, .i a2, .i a3, .i a4, .i a5, .i x1, .i y1, .i z1, .i b0, .i b1, .i b2, .i b3, .i b4, .i b5, .i x2, .i y2, .i z2, .i c0, .i c1, .i c2, .i c3, .i c4, .i c5, .i (sd x0 y0 x1 y1 x2 y2), .i (cl16 (l3 x0 x1 x2)), .i (cl16 (l3 y0 y1 y2)), .i (fl16 (h3 x0 x1 x2)), .i (fl16 (h3 y0 y1 y2))], .b true, .i 0]) := by
  rw [evP_fun (m := c32) rfl _ _ rfl]
  have e1 := fun k => w_side k s0.1 s1.1 s2.1
  have e2 := fun k => w_tbox k x0 y0 z0 a0 a1 a2 a3 a4 a5 x1 y1 z1 b0 b1 b2 b3 b4 b5 x2 y2 z2 c0 c1 c2 c3 c4 c5 s0.1.1 s0.1.2 s1.1.1 s1.1.2 s2.1.1 s2.1.2
  have n1 : ¬ sd x0 y0 x1 y1 x2 y2 = 0 := by omega
  have n2 : ¬ sd x0 y0 x1 y1 x2 y2 < 0 := by omega
  simp -implicitDefEqProofs (maxSteps := 4000000) only [c32, c32b0, w_smay, s0, s1, s2, e1, e2, n1, n2, hA, push_cast, Nat.reduceAdd, Nat.reduceMul, Nat.reduceSub, Nat.reduceLT, Nat.reduceLeDiff, Nat.reduceEqDiff, Nat.reducePow, Int.reduceToNat, Int.reduceLT, Int.reduceLE, Int.reduceNeg, Int.reduceEq, Int.reducePow, reduceIte, reduceCtorEq, Int.reduceMul, Int.reduceAdd, Int.reduceSub, Int.reduceMod, Int.reduceDiv, Int.reduceTDiv, Int.reduceTMod, iter_s]
theorem w_setupN (hA : sd x0 y0 x1 y1 x2 y2 < 0) : evP (evF cm (k + 40)) 32 [.agg [.i x0, .i y0, .i z0, .i a0, .i a1, .i a2, .i a3, .i a4, .i a5, .i x1, .i y1, .i z1, .i b0, .i b1, .i b2, .i b3, .i b4, .i b5, .i x2, .i y2, .i z2, .i c0, .i c1, .i c2, .i c3, .i c4, .i c5], .i 0] =
    some (.tup [.agg [.i x0, .i y0, .i z0, .i a0, .i a1, .i a2, .i a3, .i a4, .i a5, .i x2, .i y2, .i z2, .i c0, .i c1, .i c2, .i c3, .i c4, .i c5, .i x1, .i y1, .i z1, .i b0, .i b1, .i b2, .i b3, .i b4, .i b5, .i (0 - sd x0 y0 x1 y1 x2 y2), .i (cl16 (l3 x0 x2 x1)), .i (cl16 (l3 y0 y2 y1)), .i (fl16 (h3 x0 x2 x1)), .i (fl16 (h3 y0 y2 y1))], .b true, .i 0]) := by
  rw [evP_fun (m := c32) rfl _ _ rfl]
  have e1 := fun k => w_side k s0.1 s1.1 s2.1
  have e2 := fun k => w_tbox k x0 y0 z0 a0 a1 a2 a3 a4 a5 x2 y2 z2 c0 c1 c2 c3 c4 c5 x1 y1 z1 b0 b1 b2 b3 b4 b5 s0.1.1 s0.1.2 s2.1.1 s2.1.2 s1.1.1 s1.1.2
  obtain ⟨_, _, _, _, _, _, _, bd⟩ := sd_w (pm_nr s0.1).1 (pm_nr s0.1).2 (pm_nr s1.1).1 (pm_nr s1.1).2 (pm_nr s2.1).1 (pm_nr s2.1).2
  have n1 : ¬ sd x0 y0 x1 y1 x2 y2 = 0 := by omega
  have w1 : IntKind.i64.wrap (0 - sd x0 y0 x1 y1 x2 y2) = 0 - sd x0 y0 x1 y1 x2 y2 := w64 _ (by omega) (by omega)
  simp -implicitDefEqProofs (maxSteps := 4000000) only [c32, c32b0, w_smay, s0, s1, s2, e1, e2, n1, w1, hA, push_cast, Nat.reduceAdd, Nat.reduceMul, Nat.reduceSub, Nat.reduceLT, Nat.reduceLeDiff, Nat.reduceEqDiff, Nat.reducePow, Int.reduceToNat, Int.reduceLT, Int.reduceLE, Int.reduceNeg, Int.reduceEq, Int.reducePow, reduceIte, reduceCtorEq, Int.reduceMul, Int.reduceAdd, Int.reduceSub, Int.reduceMod, Int.reduceDiv, Int.reduceTDiv, Int.reduceTMod, iter_s]
theorem w_rsetup0 (hA : sd x0 y0 x1 y1 x2 y2 = 0) : evP (evF cm (k + 40)) 23 [.agg [.i x0, .i y0, .i z0, .i a0, .i a1, .i a2, .i a3, .i a4, .i a5, .i x1, .i y1, .i z1, .i b0, .i b1, .i b2, .i b3, .i b4, .i b5, .i x2, .i y2, .i z2, .i c0, .i c1, .i c2, .i c3, .i c4, .i c5], .i 0] = some (.tup [zT, .b false]) := by
  rw [evP_fun (m := c23) rfl _ _ rfl]
  have e1 := fun k => w_rside k (pm_nr s0.1).1 (pm_nr s0.1).2 (pm_nr s1.1).1 (pm_nr s1.1).2 (pm_nr s2.1).1 (pm_nr s2.1).2
  rw [hA] at e1
  simp -implicitDefEqProofs (maxSteps := 4000000) only [c23, e1, zT, push_cast, Nat.reduceAdd, Nat.reduceMul, Nat.reduceSub, Nat.reduceLT, Nat.reduceLeDiff, Nat.reduceEqDiff, Nat.reducePow, Int.reduceToNat, Int.reduceLT, Int.reduceLE, Int.reduceNeg, Int.reduceEq, Int.reducePow, reduceIte, reduceCtorEq, Int.reduceMul, Int.reduceAdd, Int.reduceSub, Int.reduceMod, Int.reduceDiv, Int.reduceTDiv, Int.reduceTMod, iter_s]
theorem w_rsetupP (hA : 0 < sd x0 y0 x1 y1 x2 y2) : evP (evF cm (k + 40)) 23 [.agg [.i x0, .i y0, .i z0, .i a0, .i a1, .i a2, .i a3, .i a4, .i a5, .i x1, .i y1, .i z1, .i b0, .i b1, .i b2, .i b3, .i b4, .i b5, .i x2, .i y2, .i z2, .i c0, .i c1, .i c2, .i c3, .i c4, .i c5], .i 0] =
    some (.tup [.agg [.i x0, .i y0, .i z0, .i a0, .i a1, .i a2, .i a3, .i a4, .i a5, .i x1, .i y1, .i z1, .i b0, .i b1, .i b2, .i b3, .i b4, .i b5, .i x2, .i y2, .i z2, .i c0, .i c1, .i c2, .i c3, .i c4, .i c5, .i (sd x0 y0 x1 y1 x2 y2), .i (cl16 (l3 x0 x1 x2)), .i (cl16 (l3 y0 y1 y2)), .i (fl16 (h3 x0 x1 x2)), .i (fl16 (h3 y0 y1 y2))], .b true]) := by
  rw [evP_fun (m := c23) rfl _ _ rfl]
  have e1 := fun k => w_rside k (pm_nr s0.1).1 (pm_nr s0.1).2 (pm_nr s1.1).1 (pm_nr s1.1).2 (pm_nr s2.1).1 (pm_nr s2.1).2
  have e2 := fun k => w_rtbox k x0 y0 z0 a0 a1 a2 a3 a4 a5 x1 y1 z1 b0 b1 b2 b3 b4 b5 x2 y2 z2 c0 c1 c2 c3 c4 c5 s0.1.1 s0.1.2 s1.1.1 s1.1.2 s2.1.1 s2.1.2
  have n1 : ¬ sd x0 y0 x1 y1 x2 y2 = 0 := by omega
  have n2 : ¬ sd x0 y0 x1 y1 x2 y2 < 0 := by omega
  simp -implicitDefEqProofs (maxSteps := 4000000) only [c23, e1, e2, n1, n2, hA, push_cast, Nat.reduceAdd, Nat.reduceMul, Nat.reduceSub, Nat.reduceLT, Nat.reduceLeDiff, Nat.reduceEqDiff, Nat.reducePow, Int.reduceToNat, Int.reduceLT, Int.reduceLE, Int.reduceNeg, Int.reduceEq, Int.reducePow, reduceIte, reduceCtorEq, Int.reduceMul, Int.reduceAdd, Int.reduceSub, Int.reduceMod, Int.reduceDiv, Int.reduceTDiv, Int.reduceTMod, iter_s]
theorem w_rsetupN (hA : sd x0 y0 x1 y1 x2 y2 < 0) : evP (evF cm (k + 40)) 23 [.agg [.i x0, .i y0, .i z0, .i a0, .i a1, .i a2, .i a3, .i a4, .i a5, .i x1, .i y1, .i z1, .i b0, .i b1, .i b2, .i b3, .i b4, .i b5, .i x2, .i y2, .i z2, .i c0, .i c1, .i c2, .i c3, .i c4, .i c5], .i 0] =
    some (.tup [.agg [.i x0, .i y0, .i z0, .i a0, .i a1, .i a2, .i a3, .i a4, .i a5, .i x2, .i y2, .i z2, .i c0, .i c1, .i c2, .i c3, .i c4, .i c5, .i x1, .i y1, .i z1, .i b0, .i b1, .i b2, .i b3, .i b4, .i b5, .i (0 - sd x0 y0 x1 y1 x2 y2), .i (cl16 (l3 x0 x2 x1)), .i (cl16 (l3 y0 y2 y1)), .i (fl16 (h3 x0 x2 x1)), .i (fl16 (h3 y0 y2 y1))], .b true]) := by
  rw [evP_fun (m := c23) rfl _ _ rfl]
  have e1 := fun k => w_rside k (pm_nr s0.1).1 (pm_nr s0.1).2 (pm_nr s1.1).1 (pm_nr s1.1).2 (pm_nr s2.1).1 (pm_nr s2.1).2
  have e2 := fun k => w_rtbox k x0 y0 z0 a0 a1 a2 a3 a4 a5 x2 y2 z2 c0 c1 c2 c3 c4 c5 x1 y1 z1 b0 b1 b2 b3 b4 b5 s0.1.1 s0.1.2 s2.1.1 s2.1.2 s1.1.1 s1.1.2
  obtain ⟨_, _, _, _, _, _, _, bd⟩ := sd_w (pm_nr s0.1).1 (pm_nr s0.1).2 (pm_nr s1.1).1 (pm_nr s1.1).2 (pm_nr s2.1).1 (pm_nr s2.1).2
  have n1 : ¬ sd x0 y0 x1 y1 x2 y2 = 0 := by omega
  have w1 : IntKind.i64.wrap (0 - sd x0 y0 x1 y1 x2 y2) = 0 - sd x0 y0 x1 y1 x2 y2 := w64 _ (by omega) (by omega)
  simp -implicitDefEqProofs (maxSteps := 4000000) only [c23, e1, e2, n1, w1, hA, push_cast, Nat.reduceAdd, Nat.reduceMul, Nat.reduceSub, Nat.reduceLT, Nat.reduceLeDiff, Nat.reduceEqDiff, Nat.reducePow, Int.reduceToNat, Int.reduceLT, Int.reduceLE, Int.reduceNeg, Int.reduceEq, Int.reducePow, reduceIte, reduceCtorEq, Int.reduceMul, Int.reduceAdd, Int.reduceSub, Int.reduceMod, Int.reduceDiv, Int.reduceTDiv, Int.reduceTMod, iter_s]
end
end Go.Proofs.Ytjgnjpbplnmdmaa
