/- Near a tile, the program's and the document's, as the evaluator answers. -/
import Derived.Test.YtjgnjpbplnmdmaaBV
set_option linter.unusedSimpArgs false
set_option linter.unusedVariables false
set_option linter.unusedSectionVars false
set_option maxRecDepth 100000
set_option maxHeartbeats 16000000
namespace Go.Proofs.Ytjgnjpbplnmdmaa
open Go
def md (x : Int) : Int := 16 * x + 8
def inn (x : Int) : Prop := 0 ≤ x ∧ x ≤ 300
theorem md_mr {x y : Int} (h : inn x) (h' : inn y) : pm (md x) (md y) := by unfold inn at h h'; unfold md pm; omega
theorem w_mid (k : Nat) {x y : Int} (h : inn x) (h' : inn y) : evP (evF cm (k + 1)) 35 [.i x, .i y] = some (.tup [.agg [.i (md x), .i (md y)], .i 0]) := by
  unfold inn at h h'
  rw [evP_fun (m := c35) rfl _ _ rfl]
  have g1 : ¬ x < -32768 := by omega
  have g2 : ¬ 32768 ≤ x := by omega
  have g3 : ¬ y < -32768 := by omega
  have g4 : ¬ 32768 ≤ y := by omega
  have w1 : IntKind.i64.wrap (x * 16) = x * 16 := w64 _ (by omega) (by omega)
  have w2 : IntKind.i64.wrap (x * 16 + 8) = md x := by rw [w64 _ (by omega) (by omega)]; unfold md; omega
  have w3 : IntKind.i64.wrap (y * 16) = y * 16 := w64 _ (by omega) (by omega)
  have w4 : IntKind.i64.wrap (y * 16 + 8) = md y := by rw [w64 _ (by omega) (by omega)]; unfold md; omega
  simp -implicitDefEqProofs only [c35, g1, g2, g3, g4, w1, w2, w3, w4, push_cast, Nat.reduceAdd, Nat.reduceMul, Nat.reduceSub, Nat.reduceLT, Nat.reduceLeDiff, Nat.reduceEqDiff, Nat.reducePow, Int.reduceToNat, Int.reduceLT, Int.reduceLE, Int.reduceNeg, Int.reduceEq, Int.reducePow, reduceIte, reduceCtorEq, Int.reduceMul, Int.reduceAdd, Int.reduceSub, Int.reduceMod, Int.reduceDiv, Int.reduceTDiv, Int.reduceTMod, iter_s]
theorem w_rmid (k : Nat) {x y : Int} (h : inn x) (h' : inn y) : evP (evF cm (k + 1)) 72 [.i x, .i y] = some (.agg [.i (md x), .i (md y)]) := by
  unfold inn at h h'
  rw [evP_fun (m := c72) rfl _ _ rfl]
  have w1 : IntKind.i64.wrap (16 * x) = 16 * x := w64 _ (by omega) (by omega)
  have w2 : IntKind.i64.wrap (16 * x + 8) = md x := w64 _ (by omega) (by omega)
  have w3 : IntKind.i64.wrap (16 * y) = 16 * y := w64 _ (by omega) (by omega)
  have w4 : IntKind.i64.wrap (16 * y + 8) = md y := w64 _ (by omega) (by omega)
  simp -implicitDefEqProofs only [c72, w1, w2, w3, w4, push_cast, Nat.reduceAdd, Nat.reduceMul, Nat.reduceSub, Nat.reduceLT, Nat.reduceLeDiff, Nat.reduceEqDiff, Nat.reducePow, Int.reduceToNat, Int.reduceLT, Int.reduceLE, Int.reduceNeg, Int.reduceEq, Int.reducePow, reduceIte, reduceCtorEq, Int.reduceMul, Int.reduceAdd, Int.reduceSub, Int.reduceMod, Int.reduceDiv, Int.reduceTDiv, Int.reduceTMod, iter_s]
/-- Has one of a tile's corner pixels a side that is not below 0, of an edge? -/
def nrE (ax ay bx by' x0 y0 x1 y1 : Int) : Bool := decide (0 ≤ sd ax ay bx by' (md x0) (md y0)) || decide (0 ≤ sd ax ay bx by' (md (x1 - 1)) (md y0)) || decide (0 ≤ sd ax ay bx by' (md x0) (md (y1 - 1))) || decide (0 ≤ sd ax ay bx by' (md (x1 - 1)) (md (y1 - 1)))
theorem tlT {n : Nat} {T : List LV} (h : T.length = n) : T = (List.range n).map (getT T) := by subst h; exact tlist T
theorem tl77 {T : List LV} (h : T.length = 77) : T = [getT T 0, getT T 1, getT T 2, getT T 3, getT T 4, getT T 5, getT T 6, getT T 7, getT T 8, getT T 9, getT T 10, getT T 11, getT T 12, getT T 13, getT T 14, getT T 15, getT T 16, getT T 17, getT T 18, getT T 19, getT T 20, getT T 21, getT T 22, getT T 23, getT T 24, getT T 25, getT T 26, getT T 27, getT T 28, getT T 29, getT T 30, getT T 31, getT T 32, getT T 33, getT T 34, getT T 35, getT T 36, getT T 37, getT T 38, getT T 39, getT T 40, getT T 41, getT T 42, getT T 43, getT T 44, getT T 45, getT T 46, getT T 47, getT T 48, getT T 49, getT T 50, getT T 51, getT T 52, getT T 53, getT T 54, getT T 55, getT T 56, getT T 57, getT T 58, getT T 59, getT T 60, getT T 61, getT T 62, getT T 63, getT T 64, getT T 65, getT T 66, getT T 67, getT T 68, getT T 69, getT T 70, getT T 71, getT T 72, getT T 73, getT T 74, getT T 75, getT T 76] := tlT h
def fgN : List Nat := [76, 4, 53, 75, 74, 73, 72, 71, 64, 70, 69, 68, 67, 66, 65, 63, 62, 56, 61, 60, 59, 58, 57, 55, 54, 52, 51, 50, 49, 48, 47, 46, 45, 44, 43]
section
variable (n0 n1 n2 n3 n4 n5 n6 n7 n8 n9 n10 n11 n12 n13 n14 n15 n16 n17 n18 n19 n20 n21 n22 n23 n24 n25 n26 n27 n28 n29 n30 n31 bx0 by0 bx1 by1 : Int)
def HN : List Row := [⟨0, [.i n0, .i n1, .i n2, .i n3, .i n4, .i n5, .i n6, .i n7, .i n8, .i n9, .i n10, .i n11, .i n12, .i n13, .i n14, .i n15, .i n16, .i n17, .i n18, .i n19, .i n20, .i n21, .i n22, .i n23, .i n24, .i n25, .i n26, .i n27, .i n28, .i n29, .i n30, .i n31]⟩, ⟨0, [.i bx0, .i by0, .i bx1, .i by1]⟩, ⟨0, [.i bx0, .i by0, .i (bx1 - 1), .i by0, .i bx0, .i (by1 - 1), .i (bx1 - 1), .i (by1 - 1)]⟩]
def SN (i : Nat) (s : St) : Prop := ∃ T, clean fgN 3 0 s = (T, HN n0 n1 n2 n3 n4 n5 n6 n7 n8 n9 n10 n11 n12 n13 n14 n15 n16 n17 n18 n19 n20 n21 n22 n23 n24 n25 n26 n27 n28 n29 n30 n31 bx0 by0 bx1 by1) ∧ T.length = 77 ∧ getT T 2 = .p 0 0 0 ∧ getT T 3 = .p 1 0 0 ∧ getT T 5 = .p 2 0 0 ∧ getT T 41 = .agg [.i n0, .i n1, .i n2, .i n3, .i n4, .i n5, .i n6, .i n7, .i n8, .i n9, .i n10, .i n11, .i n12, .i n13, .i n14, .i n15, .i n16, .i n17, .i n18, .i n19, .i n20, .i n21, .i n22, .i n23, .i n24, .i n25, .i n26] ∧ getT T 42 = .i i
def RN (s : St) : Prop := ∃ T h, s = (T, h) ∧ T.length = 77 ∧ getT T 4 = .b false
variable (k : Nat) (a0 : pm n0 n1) (a1 : pm n9 n10) (a2 : pm n18 n19) (i0 : inn bx0) (i1 : inn by0) (i2 : inn (bx1 - 1)) (i3 : inn (by1 - 1))
include a0 a1 a2 i0 i1 i2 i3
theorem near_r0 (s : St) (hs : SN n0 n1 n2 n3 n4 n5 n6 n7 n8 n9 n10 n11 n12 n13 n14 n15 n16 n17 n18 n19 n20 n21 n22 n23 n24 n25 n26 n27 n28 n29 n30 n31 bx0 by0 bx1 by1 0 s) : (nrE n0 n1 n9 n10 bx0 by0 bx1 by1 = true → ∃ s', evCode (evF cm (k + 40)) (k + 40) 0 c19b1 (clean fgN 3 0 s) = some (.nrm, s') ∧ SN n0 n1 n2 n3 n4 n5 n6 n7 n8 n9 n10 n11 n12 n13 n14 n15 n16 n17 n18 n19 n20 n21 n22 n23 n24 n25 n26 n27 n28 n29 n30 n31 bx0 by0 bx1 by1 1 s') ∧ (nrE n0 n1 n9 n10 bx0 by0 bx1 by1 = false → ∃ s', evCode (evF cm (k + 40)) (k + 40) 0 c19b1 (clean fgN 3 0 s) = some (.ret, s') ∧ RN s') := by
  obtain ⟨T, hs, hT, t2, t3, t5, t41, t42⟩ := hs
  rw [hs, tl77 hT]
  have z : ((0 : Nat) : Int) = 0 := rfl
  rw [z] at t42
  have d0 := fun k => w_side k a0 a1 (md_mr i0 i1)
  have e0 := fun k => w_mid k i0 i1
  have d1 := fun k => w_side k a0 a1 (md_mr i2 i1)
  have e1 := fun k => w_mid k i2 i1
  have d2 := fun k => w_side k a0 a1 (md_mr i0 i3)
  have e2 := fun k => w_mid k i0 i3
  have d3 := fun k => w_side k a0 a1 (md_mr i2 i3)
  have e3 := fun k => w_mid k i2 i3
  have w1 : IntKind.i64.wrap ((0 : Int) + 1) = 1 := rfl
  have w2 : IntKind.i64.wrap ((1 : Int).tmod 3) = 1 := rfl
  by_cases h0 : 0 ≤ sd n0 n1 n9 n10 (md bx0) (md by0)
  · refine ⟨fun _ => ?_, fun h => ?_⟩
    · simp -implicitDefEqProofs (maxSteps := 8000000) only [c19b1, c19b0, HN, t2, t3, t5, t41, t42, w1, w2, e0, e1, e2, e3, d0, d1, d2, d3, h0, push_cast, Nat.reduceAdd, Nat.reduceMul, Nat.reduceSub, Nat.reduceLT, Nat.reduceLeDiff, Nat.reduceEqDiff, Nat.reducePow, Int.reduceToNat, Int.reduceLT, Int.reduceLE, Int.reduceNeg, Int.reduceEq, Int.reducePow, reduceIte, reduceCtorEq, Int.reduceMul, Int.reduceAdd, Int.reduceSub, Int.reduceMod, Int.reduceDiv, Int.reduceTDiv, Int.reduceTMod, iter_s]
      refine ⟨_, rfl, ?_⟩
      simp -implicitDefEqProofs only [SN, fgN, HN, push_cast, Nat.reduceAdd, Nat.reduceMul, Nat.reduceSub, Nat.reduceLT, Nat.reduceLeDiff, Nat.reduceEqDiff, Nat.reducePow, Int.reduceToNat, Int.reduceLT, Int.reduceLE, Int.reduceNeg, Int.reduceEq, Int.reducePow, reduceIte, reduceCtorEq, Int.reduceMul, Int.reduceAdd, Int.reduceSub, Int.reduceMod, Int.reduceDiv, Int.reduceTDiv, Int.reduceTMod, iter_s]
      exact ⟨_, rfl, rfl, rfl, rfl, rfl, rfl, rfl⟩
    · simp [nrE, h0] at h
  by_cases h1 : 0 ≤ sd n0 n1 n9 n10 (md (bx1 - 1)) (md by0)
  · refine ⟨fun _ => ?_, fun h => ?_⟩
    · simp -implicitDefEqProofs (maxSteps := 8000000) only [c19b1, c19b0, HN, t2, t3, t5, t41, t42, w1, w2, e0, e1, e2, e3, d0, d1, d2, d3, h0, h1, push_cast, Nat.reduceAdd, Nat.reduceMul, Nat.reduceSub, Nat.reduceLT, Nat.reduceLeDiff, Nat.reduceEqDiff, Nat.reducePow, Int.reduceToNat, Int.reduceLT, Int.reduceLE, Int.reduceNeg, Int.reduceEq, Int.reducePow, reduceIte, reduceCtorEq, Int.reduceMul, Int.reduceAdd, Int.reduceSub, Int.reduceMod, Int.reduceDiv, Int.reduceTDiv, Int.reduceTMod, iter_s]
      refine ⟨_, rfl, ?_⟩
      simp -implicitDefEqProofs only [SN, fgN, HN, push_cast, Nat.reduceAdd, Nat.reduceMul, Nat.reduceSub, Nat.reduceLT, Nat.reduceLeDiff, Nat.reduceEqDiff, Nat.reducePow, Int.reduceToNat, Int.reduceLT, Int.reduceLE, Int.reduceNeg, Int.reduceEq, Int.reducePow, reduceIte, reduceCtorEq, Int.reduceMul, Int.reduceAdd, Int.reduceSub, Int.reduceMod, Int.reduceDiv, Int.reduceTDiv, Int.reduceTMod, iter_s]
      exact ⟨_, rfl, rfl, rfl, rfl, rfl, rfl, rfl⟩
    · simp [nrE, h1] at h
  by_cases h2 : 0 ≤ sd n0 n1 n9 n10 (md bx0) (md (by1 - 1))
  · refine ⟨fun _ => ?_, fun h => ?_⟩
    · simp -implicitDefEqProofs (maxSteps := 8000000) only [c19b1, c19b0, HN, t2, t3, t5, t41, t42, w1, w2, e0, e1, e2, e3, d0, d1, d2, d3, h0, h1, h2, push_cast, Nat.reduceAdd, Nat.reduceMul, Nat.reduceSub, Nat.reduceLT, Nat.reduceLeDiff, Nat.reduceEqDiff, Nat.reducePow, Int.reduceToNat, Int.reduceLT, Int.reduceLE, Int.reduceNeg, Int.reduceEq, Int.reducePow, reduceIte, reduceCtorEq, Int.reduceMul, Int.reduceAdd, Int.reduceSub, Int.reduceMod, Int.reduceDiv, Int.reduceTDiv, Int.reduceTMod, iter_s]
      refine ⟨_, rfl, ?_⟩
      simp -implicitDefEqProofs only [SN, fgN, HN, push_cast, Nat.reduceAdd, Nat.reduceMul, Nat.reduceSub, Nat.reduceLT, Nat.reduceLeDiff, Nat.reduceEqDiff, Nat.reducePow, Int.reduceToNat, Int.reduceLT, Int.reduceLE, Int.reduceNeg, Int.reduceEq, Int.reducePow, reduceIte, reduceCtorEq, Int.reduceMul, Int.reduceAdd, Int.reduceSub, Int.reduceMod, Int.reduceDiv, Int.reduceTDiv, Int.reduceTMod, iter_s]
      exact ⟨_, rfl, rfl, rfl, rfl, rfl, rfl, rfl⟩
    · simp [nrE, h2] at h
  by_cases h3 : 0 ≤ sd n0 n1 n9 n10 (md (bx1 - 1)) (md (by1 - 1))
  · refine ⟨fun _ => ?_, fun h => ?_⟩
    · simp -implicitDefEqProofs (maxSteps := 8000000) only [c19b1, c19b0, HN, t2, t3, t5, t41, t42, w1, w2, e0, e1, e2, e3, d0, d1, d2, d3, h0, h1, h2, h3, push_cast, Nat.reduceAdd, Nat.reduceMul, Nat.reduceSub, Nat.reduceLT, Nat.reduceLeDiff, Nat.reduceEqDiff, Nat.reducePow, Int.reduceToNat, Int.reduceLT, Int.reduceLE, Int.reduceNeg, Int.reduceEq, Int.reducePow, reduceIte, reduceCtorEq, Int.reduceMul, Int.reduceAdd, Int.reduceSub, Int.reduceMod, Int.reduceDiv, Int.reduceTDiv, Int.reduceTMod, iter_s]
      refine ⟨_, rfl, ?_⟩
      simp -implicitDefEqProofs only [SN, fgN, HN, push_cast, Nat.reduceAdd, Nat.reduceMul, Nat.reduceSub, Nat.reduceLT, Nat.reduceLeDiff, Nat.reduceEqDiff, Nat.reducePow, Int.reduceToNat, Int.reduceLT, Int.reduceLE, Int.reduceNeg, Int.reduceEq, Int.reducePow, reduceIte, reduceCtorEq, Int.reduceMul, Int.reduceAdd, Int.reduceSub, Int.reduceMod, Int.reduceDiv, Int.reduceTDiv, Int.reduceTMod, iter_s]
      exact ⟨_, rfl, rfl, rfl, rfl, rfl, rfl, rfl⟩
    · simp [nrE, h3] at h
  refine ⟨fun h => ?_, fun _ => ?_⟩
  · simp [nrE, h0, h1, h2, h3] at h
  · simp -implicitDefEqProofs (maxSteps := 8000000) only [c19b1, c19b0, HN, t2, t3, t5, t41, t42, w1, w2, e0, e1, e2, e3, d0, d1, d2, d3, h0, h1, h2, h3, push_cast, Nat.reduceAdd, Nat.reduceMul, Nat.reduceSub, Nat.reduceLT, Nat.reduceLeDiff, Nat.reduceEqDiff, Nat.reducePow, Int.reduceToNat, Int.reduceLT, Int.reduceLE, Int.reduceNeg, Int.reduceEq, Int.reducePow, reduceIte, reduceCtorEq, Int.reduceMul, Int.reduceAdd, Int.reduceSub, Int.reduceMod, Int.reduceDiv, Int.reduceTDiv, Int.reduceTMod, iter_s]
    refine ⟨_, rfl, ?_⟩
    exact ⟨_, _, rfl, rfl, rfl⟩
theorem near_r1 (s : St) (hs : SN n0 n1 n2 n3 n4 n5 n6 n7 n8 n9 n10 n11 n12 n13 n14 n15 n16 n17 n18 n19 n20 n21 n22 n23 n24 n25 n26 n27 n28 n29 n30 n31 bx0 by0 bx1 by1 1 s) : (nrE n9 n10 n18 n19 bx0 by0 bx1 by1 = true → ∃ s', evCode (evF cm (k + 40)) (k + 40) 0 c19b1 (clean fgN 3 0 s) = some (.nrm, s') ∧ SN n0 n1 n2 n3 n4 n5 n6 n7 n8 n9 n10 n11 n12 n13 n14 n15 n16 n17 n18 n19 n20 n21 n22 n23 n24 n25 n26 n27 n28 n29 n30 n31 bx0 by0 bx1 by1 2 s') ∧ (nrE n9 n10 n18 n19 bx0 by0 bx1 by1 = false → ∃ s', evCode (evF cm (k + 40)) (k + 40) 0 c19b1 (clean fgN 3 0 s) = some (.ret, s') ∧ RN s') := by
  obtain ⟨T, hs, hT, t2, t3, t5, t41, t42⟩ := hs
  rw [hs, tl77 hT]
  have z : ((1 : Nat) : Int) = 1 := rfl
  rw [z] at t42
  have d0 := fun k => w_side k a1 a2 (md_mr i0 i1)
  have e0 := fun k => w_mid k i0 i1
  have d1 := fun k => w_side k a1 a2 (md_mr i2 i1)
  have e1 := fun k => w_mid k i2 i1
  have d2 := fun k => w_side k a1 a2 (md_mr i0 i3)
  have e2 := fun k => w_mid k i0 i3
  have d3 := fun k => w_side k a1 a2 (md_mr i2 i3)
  have e3 := fun k => w_mid k i2 i3
  have w1 : IntKind.i64.wrap ((1 : Int) + 1) = 2 := rfl
  have w2 : IntKind.i64.wrap ((2 : Int).tmod 3) = 2 := rfl
  by_cases h0 : 0 ≤ sd n9 n10 n18 n19 (md bx0) (md by0)
  · refine ⟨fun _ => ?_, fun h => ?_⟩
    · simp -implicitDefEqProofs (maxSteps := 8000000) only [c19b1, c19b0, HN, t2, t3, t5, t41, t42, w1, w2, e0, e1, e2, e3, d0, d1, d2, d3, h0, push_cast, Nat.reduceAdd, Nat.reduceMul, Nat.reduceSub, Nat.reduceLT, Nat.reduceLeDiff, Nat.reduceEqDiff, Nat.reducePow, Int.reduceToNat, Int.reduceLT, Int.reduceLE, Int.reduceNeg, Int.reduceEq, Int.reducePow, reduceIte, reduceCtorEq, Int.reduceMul, Int.reduceAdd, Int.reduceSub, Int.reduceMod, Int.reduceDiv, Int.reduceTDiv, Int.reduceTMod, iter_s]
      refine ⟨_, rfl, ?_⟩
      simp -implicitDefEqProofs only [SN, fgN, HN, push_cast, Nat.reduceAdd, Nat.reduceMul, Nat.reduceSub, Nat.reduceLT, Nat.reduceLeDiff, Nat.reduceEqDiff, Nat.reducePow, Int.reduceToNat, Int.reduceLT, Int.reduceLE, Int.reduceNeg, Int.reduceEq, Int.reducePow, reduceIte, reduceCtorEq, Int.reduceMul, Int.reduceAdd, Int.reduceSub, Int.reduceMod, Int.reduceDiv, Int.reduceTDiv, Int.reduceTMod, iter_s]
      exact ⟨_, rfl, rfl, rfl, rfl, rfl, rfl, rfl⟩
    · simp [nrE, h0] at h
  by_cases h1 : 0 ≤ sd n9 n10 n18 n19 (md (bx1 - 1)) (md by0)
  · refine ⟨fun _ => ?_, fun h => ?_⟩
    · simp -implicitDefEqProofs (maxSteps := 8000000) only [c19b1, c19b0, HN, t2, t3, t5, t41, t42, w1, w2, e0, e1, e2, e3, d0, d1, d2, d3, h0, h1, push_cast, Nat.reduceAdd, Nat.reduceMul, Nat.reduceSub, Nat.reduceLT, Nat.reduceLeDiff, Nat.reduceEqDiff, Nat.reducePow, Int.reduceToNat, Int.reduceLT, Int.reduceLE, Int.reduceNeg, Int.reduceEq, Int.reducePow, reduceIte, reduceCtorEq, Int.reduceMul, Int.reduceAdd, Int.reduceSub, Int.reduceMod, Int.reduceDiv, Int.reduceTDiv, Int.reduceTMod, iter_s]
      refine ⟨_, rfl, ?_⟩
      simp -implicitDefEqProofs only [SN, fgN, HN, push_cast, Nat.reduceAdd, Nat.reduceMul, Nat.reduceSub, Nat.reduceLT, Nat.reduceLeDiff, Nat.reduceEqDiff, Nat.reducePow, Int.reduceToNat, Int.reduceLT, Int.reduceLE, Int.reduceNeg, Int.reduceEq, Int.reducePow, reduceIte, reduceCtorEq, Int.reduceMul, Int.reduceAdd, Int.reduceSub, Int.reduceMod, Int.reduceDiv, Int.reduceTDiv, Int.reduceTMod, iter_s]
      exact ⟨_, rfl, rfl, rfl, rfl, rfl, rfl, rfl⟩
    · simp [nrE, h1] at h
  by_cases h2 : 0 ≤ sd n9 n10 n18 n19 (md bx0) (md (by1 - 1))
  · refine ⟨fun _ => ?_, fun h => ?_⟩
    · simp -implicitDefEqProofs (maxSteps := 8000000) only [c19b1, c19b0, HN, t2, t3, t5, t41, t42, w1, w2, e0, e1, e2, e3, d0, d1, d2, d3, h0, h1, h2, push_cast, Nat.reduceAdd, Nat.reduceMul, Nat.reduceSub, Nat.reduceLT, Nat.reduceLeDiff, Nat.reduceEqDiff, Nat.reducePow, Int.reduceToNat, Int.reduceLT, Int.reduceLE, Int.reduceNeg, Int.reduceEq, Int.reducePow, reduceIte, reduceCtorEq, Int.reduceMul, Int.reduceAdd, Int.reduceSub, Int.reduceMod, Int.reduceDiv, Int.reduceTDiv, Int.reduceTMod, iter_s]
      refine ⟨_, rfl, ?_⟩
      simp -implicitDefEqProofs only [SN, fgN, HN, push_cast, Nat.reduceAdd, Nat.reduceMul, Nat.reduceSub, Nat.reduceLT, Nat.reduceLeDiff, Nat.reduceEqDiff, Nat.reducePow, Int.reduceToNat, Int.reduceLT, Int.reduceLE, Int.reduceNeg, Int.reduceEq, Int.reducePow, reduceIte, reduceCtorEq, Int.reduceMul, Int.reduceAdd, Int.reduceSub, Int.reduceMod, Int.reduceDiv, Int.reduceTDiv, Int.reduceTMod, iter_s]
      exact ⟨_, rfl, rfl, rfl, rfl, rfl, rfl, rfl⟩
    · simp [nrE, h2] at h
  by_cases h3 : 0 ≤ sd n9 n10 n18 n19 (md (bx1 - 1)) (md (by1 - 1))
  · refine ⟨fun _ => ?_, fun h => ?_⟩
    · simp -implicitDefEqProofs (maxSteps := 8000000) only [c19b1, c19b0, HN, t2, t3, t5, t41, t42, w1, w2, e0, e1, e2, e3, d0, d1, d2, d3, h0, h1, h2, h3, push_cast, Nat.reduceAdd, Nat.reduceMul, Nat.reduceSub, Nat.reduceLT, Nat.reduceLeDiff, Nat.reduceEqDiff, Nat.reducePow, Int.reduceToNat, Int.reduceLT, Int.reduceLE, Int.reduceNeg, Int.reduceEq, Int.reducePow, reduceIte, reduceCtorEq, Int.reduceMul, Int.reduceAdd, Int.reduceSub, Int.reduceMod, Int.reduceDiv, Int.reduceTDiv, Int.reduceTMod, iter_s]
      refine ⟨_, rfl, ?_⟩
      simp -implicitDefEqProofs only [SN, fgN, HN, push_cast, Nat.reduceAdd, Nat.reduceMul, Nat.reduceSub, Nat.reduceLT, Nat.reduceLeDiff, Nat.reduceEqDiff, Nat.reducePow, Int.reduceToNat, Int.reduceLT, Int.reduceLE, Int.reduceNeg, Int.reduceEq, Int.reducePow, reduceIte, reduceCtorEq, Int.reduceMul, Int.reduceAdd, Int.reduceSub, Int.reduceMod, Int.reduceDiv, Int.reduceTDiv, Int.reduceTMod, iter_s]
      exact ⟨_, rfl, rfl, rfl, rfl, rfl, rfl, rfl⟩
    · simp [nrE, h3] at h
  refine ⟨fun h => ?_, fun _ => ?_⟩
  · simp [nrE, h0, h1, h2, h3] at h
  · simp -implicitDefEqProofs (maxSteps := 8000000) only [c19b1, c19b0, HN, t2, t3, t5, t41, t42, w1, w2, e0, e1, e2, e3, d0, d1, d2, d3, h0, h1, h2, h3, push_cast, Nat.reduceAdd, Nat.reduceMul, Nat.reduceSub, Nat.reduceLT, Nat.reduceLeDiff, Nat.reduceEqDiff, Nat.reducePow, Int.reduceToNat, Int.reduceLT, Int.reduceLE, Int.reduceNeg, Int.reduceEq, Int.reducePow, reduceIte, reduceCtorEq, Int.reduceMul, Int.reduceAdd, Int.reduceSub, Int.reduceMod, Int.reduceDiv, Int.reduceTDiv, Int.reduceTMod, iter_s]
    refine ⟨_, rfl, ?_⟩
    exact ⟨_, _, rfl, rfl, rfl⟩
theorem near_r2 (s : St) (hs : SN n0 n1 n2 n3 n4 n5 n6 n7 n8 n9 n10 n11 n12 n13 n14 n15 n16 n17 n18 n19 n20 n21 n22 n23 n24 n25 n26 n27 n28 n29 n30 n31 bx0 by0 bx1 by1 2 s) : (nrE n18 n19 n0 n1 bx0 by0 bx1 by1 = true → ∃ s', evCode (evF cm (k + 40)) (k + 40) 0 c19b1 (clean fgN 3 0 s) = some (.nrm, s') ∧ SN n0 n1 n2 n3 n4 n5 n6 n7 n8 n9 n10 n11 n12 n13 n14 n15 n16 n17 n18 n19 n20 n21 n22 n23 n24 n25 n26 n27 n28 n29 n30 n31 bx0 by0 bx1 by1 3 s') ∧ (nrE n18 n19 n0 n1 bx0 by0 bx1 by1 = false → ∃ s', evCode (evF cm (k + 40)) (k + 40) 0 c19b1 (clean fgN 3 0 s) = some (.ret, s') ∧ RN s') := by
  obtain ⟨T, hs, hT, t2, t3, t5, t41, t42⟩ := hs
  rw [hs, tl77 hT]
  have z : ((2 : Nat) : Int) = 2 := rfl
  rw [z] at t42
  have d0 := fun k => w_side k a2 a0 (md_mr i0 i1)
  have e0 := fun k => w_mid k i0 i1
  have d1 := fun k => w_side k a2 a0 (md_mr i2 i1)
  have e1 := fun k => w_mid k i2 i1
  have d2 := fun k => w_side k a2 a0 (md_mr i0 i3)
  have e2 := fun k => w_mid k i0 i3
  have d3 := fun k => w_side k a2 a0 (md_mr i2 i3)
  have e3 := fun k => w_mid k i2 i3
  have w1 : IntKind.i64.wrap ((2 : Int) + 1) = 3 := rfl
  have w2 : IntKind.i64.wrap ((3 : Int).tmod 3) = 0 := rfl
  by_cases h0 : 0 ≤ sd n18 n19 n0 n1 (md bx0) (md by0)
  · refine ⟨fun _ => ?_, fun h => ?_⟩
    · simp -implicitDefEqProofs (maxSteps := 8000000) only [c19b1, c19b0, HN, t2, t3, t5, t41, t42, w1, w2, e0, e1, e2, e3, d0, d1, d2, d3, h0, push_cast, Nat.reduceAdd, Nat.reduceMul, Nat.reduceSub, Nat.reduceLT, Nat.reduceLeDiff, Nat.reduceEqDiff, Nat.reducePow, Int.reduceToNat, Int.reduceLT, Int.reduceLE, Int.reduceNeg, Int.reduceEq, Int.reducePow, reduceIte, reduceCtorEq, Int.reduceMul, Int.reduceAdd, Int.reduceSub, Int.reduceMod, Int.reduceDiv, Int.reduceTDiv, Int.reduceTMod, iter_s]
      refine ⟨_, rfl, ?_⟩
      simp -implicitDefEqProofs only [SN, fgN, HN, push_cast, Nat.reduceAdd, Nat.reduceMul, Nat.reduceSub, Nat.reduceLT, Nat.reduceLeDiff, Nat.reduceEqDiff, Nat.reducePow, Int.reduceToNat, Int.reduceLT, Int.reduceLE, Int.reduceNeg, Int.reduceEq, Int.reducePow, reduceIte, reduceCtorEq, Int.reduceMul, Int.reduceAdd, Int.reduceSub, Int.reduceMod, Int.reduceDiv, Int.reduceTDiv, Int.reduceTMod, iter_s]
      exact ⟨_, rfl, rfl, rfl, rfl, rfl, rfl, rfl⟩
    · simp [nrE, h0] at h
  by_cases h1 : 0 ≤ sd n18 n19 n0 n1 (md (bx1 - 1)) (md by0)
  · refine ⟨fun _ => ?_, fun h => ?_⟩
    · simp -implicitDefEqProofs (maxSteps := 8000000) only [c19b1, c19b0, HN, t2, t3, t5, t41, t42, w1, w2, e0, e1, e2, e3, d0, d1, d2, d3, h0, h1, push_cast, Nat.reduceAdd, Nat.reduceMul, Nat.reduceSub, Nat.reduceLT, Nat.reduceLeDiff, Nat.reduceEqDiff, Nat.reducePow, Int.reduceToNat, Int.reduceLT, Int.reduceLE, Int.reduceNeg, Int.reduceEq, Int.reducePow, reduceIte, reduceCtorEq, Int.reduceMul, Int.reduceAdd, Int.reduceSub, Int.reduceMod, Int.reduceDiv, Int.reduceTDiv, Int.reduceTMod, iter_s]
      refine ⟨_, rfl, ?_⟩
      simp -implicitDefEqProofs only [SN, fgN, HN, push_cast, Nat.reduceAdd, Nat.reduceMul, Nat.reduceSub, Nat.reduceLT, Nat.reduceLeDiff, Nat.reduceEqDiff, Nat.reducePow, Int.reduceToNat, Int.reduceLT, Int.reduceLE, Int.reduceNeg, Int.reduceEq, Int.reducePow, reduceIte, reduceCtorEq, Int.reduceMul, Int.reduceAdd, Int.reduceSub, Int.reduceMod, Int.reduceDiv, Int.reduceTDiv, Int.reduceTMod, iter_s]
      exact ⟨_, rfl, rfl, rfl, rfl, rfl, rfl, rfl⟩
    · simp [nrE, h1] at h
  by_cases h2 : 0 ≤ sd n18 n19 n0 n1 (md bx0) (md (by1 - 1))
  · refine ⟨fun _ => ?_, fun h => ?_⟩
    · simp -implicitDefEqProofs (maxSteps := 8000000) only [c19b1, c19b0, HN, t2, t3, t5, t41, t42, w1, w2, e0, e1, e2, e3, d0, d1, d2, d3, h0, h1, h2, push_cast, Nat.reduceAdd, Nat.reduceMul, Nat.reduceSub, Nat.reduceLT, Nat.reduceLeDiff, Nat.reduceEqDiff, Nat.reducePow, Int.reduceToNat, Int.reduceLT, Int.reduceLE, Int.reduceNeg, Int.reduceEq, Int.reducePow, reduceIte, reduceCtorEq, Int.reduceMul, Int.reduceAdd, Int.reduceSub, Int.reduceMod, Int.reduceDiv, Int.reduceTDiv, Int.reduceTMod, iter_s]
      refine ⟨_, rfl, ?_⟩
      simp -implicitDefEqProofs only [SN, fgN, HN, push_cast, Nat.reduceAdd, Nat.reduceMul, Nat.reduceSub, Nat.reduceLT, Nat.reduceLeDiff, Nat.reduceEqDiff, Nat.reducePow, Int.reduceToNat, Int.reduceLT, Int.reduceLE, Int.reduceNeg, Int.reduceEq, Int.reducePow, reduceIte, reduceCtorEq, Int.reduceMul, Int.reduceAdd, Int.reduceSub, Int.reduceMod, Int.reduceDiv, Int.reduceTDiv, Int.reduceTMod, iter_s]
      exact ⟨_, rfl, rfl, rfl, rfl, rfl, rfl, rfl⟩
    · simp [nrE, h2] at h
  by_cases h3 : 0 ≤ sd n18 n19 n0 n1 (md (bx1 - 1)) (md (by1 - 1))
  · refine ⟨fun _ => ?_, fun h => ?_⟩
    · simp -implicitDefEqProofs (maxSteps := 8000000) only [c19b1, c19b0, HN, t2, t3, t5, t41, t42, w1, w2, e0, e1, e2, e3, d0, d1, d2, d3, h0, h1, h2, h3, push_cast, Nat.reduceAdd, Nat.reduceMul, Nat.reduceSub, Nat.reduceLT, Nat.reduceLeDiff, Nat.reduceEqDiff, Nat.reducePow, Int.reduceToNat, Int.reduceLT, Int.reduceLE, Int.reduceNeg, Int.reduceEq, Int.reducePow, reduceIte, reduceCtorEq, Int.reduceMul, Int.reduceAdd, Int.reduceSub, Int.reduceMod, Int.reduceDiv, Int.reduceTDiv, Int.reduceTMod, iter_s]
      refine ⟨_, rfl, ?_⟩
      simp -implicitDefEqProofs only [SN, fgN, HN, push_cast, Nat.reduceAdd, Nat.reduceMul, Nat.reduceSub, Nat.reduceLT, Nat.reduceLeDiff, Nat.reduceEqDiff, Nat.reducePow, Int.reduceToNat, Int.reduceLT, Int.reduceLE, Int.reduceNeg, Int.reduceEq, Int.reducePow, reduceIte, reduceCtorEq, Int.reduceMul, Int.reduceAdd, Int.reduceSub, Int.reduceMod, Int.reduceDiv, Int.reduceTDiv, Int.reduceTMod, iter_s]
      exact ⟨_, rfl, rfl, rfl, rfl, rfl, rfl, rfl⟩
    · simp [nrE, h3] at h
  refine ⟨fun h => ?_, fun _ => ?_⟩
  · simp [nrE, h0, h1, h2, h3] at h
  · simp -implicitDefEqProofs (maxSteps := 8000000) only [c19b1, c19b0, HN, t2, t3, t5, t41, t42, w1, w2, e0, e1, e2, e3, d0, d1, d2, d3, h0, h1, h2, h3, push_cast, Nat.reduceAdd, Nat.reduceMul, Nat.reduceSub, Nat.reduceLT, Nat.reduceLeDiff, Nat.reduceEqDiff, Nat.reducePow, Int.reduceToNat, Int.reduceLT, Int.reduceLE, Int.reduceNeg, Int.reduceEq, Int.reducePow, reduceIte, reduceCtorEq, Int.reduceMul, Int.reduceAdd, Int.reduceSub, Int.reduceMod, Int.reduceDiv, Int.reduceTDiv, Int.reduceTMod, iter_s]
    refine ⟨_, rfl, ?_⟩
    exact ⟨_, _, rfl, rfl, rfl⟩
theorem near_x (s : St) (hs : SN n0 n1 n2 n3 n4 n5 n6 n7 n8 n9 n10 n11 n12 n13 n14 n15 n16 n17 n18 n19 n20 n21 n22 n23 n24 n25 n26 n27 n28 n29 n30 n31 bx0 by0 bx1 by1 3 s) : ∃ s', evCode (evF cm (k + 40)) (k + 40) 0 c19b1 (clean fgN 3 0 s) = some (.exit 0, s') ∧ ∃ T, s' = (T, HN n0 n1 n2 n3 n4 n5 n6 n7 n8 n9 n10 n11 n12 n13 n14 n15 n16 n17 n18 n19 n20 n21 n22 n23 n24 n25 n26 n27 n28 n29 n30 n31 bx0 by0 bx1 by1) ∧ T.length = 77 := by
  obtain ⟨T, hs, hT, t2, t3, t5, t41, t42⟩ := hs
  rw [hs, tl77 hT]
  have z : ((3 : Nat) : Int) = 3 := rfl
  rw [z] at t42
  simp -implicitDefEqProofs only [c19b1, t42, push_cast, Nat.reduceAdd, Nat.reduceMul, Nat.reduceSub, Nat.reduceLT, Nat.reduceLeDiff, Nat.reduceEqDiff, Nat.reducePow, Int.reduceToNat, Int.reduceLT, Int.reduceLE, Int.reduceNeg, Int.reduceEq, Int.reducePow, reduceIte, reduceCtorEq, Int.reduceMul, Int.reduceAdd, Int.reduceSub, Int.reduceMod, Int.reduceDiv, Int.reduceTDiv, Int.reduceTMod, iter_s]
  exact ⟨_, rfl, _, rfl, rfl⟩
theorem near_ok : evP (evF cm (k + 41)) 19 [.agg [.i n0, .i n1, .i n2, .i n3, .i n4, .i n5, .i n6, .i n7, .i n8, .i n9, .i n10, .i n11, .i n12, .i n13, .i n14, .i n15, .i n16, .i n17, .i n18, .i n19, .i n20, .i n21, .i n22, .i n23, .i n24, .i n25, .i n26, .i n27, .i n28, .i n29, .i n30, .i n31], .agg [.i bx0, .i by0, .i bx1, .i by1]] = some (.b ((nrE n0 n1 n9 n10 bx0 by0 bx1 by1 && nrE n9 n10 n18 n19 bx0 by0 bx1 by1 && nrE n18 n19 n0 n1 bx0 by0 bx1 by1))) := by
  rw [evP_fun (m := c19) rfl _ _ rfl]
  have key : ∀ s I, iter (evCode (evF cm (k + 40)) (k + 40) 0 c19b1) (clean fgN 3 0) (k + 40) s = I → SN n0 n1 n2 n3 n4 n5 n6 n7 n8 n9 n10 n11 n12 n13 n14 n15 n16 n17 n18 n19 n20 n21 n22 n23 n24 n25 n26 n27 n28 n29 n30 n31 bx0 by0 bx1 by1 0 s → ((nrE n0 n1 n9 n10 bx0 by0 bx1 by1 && nrE n9 n10 n18 n19 bx0 by0 bx1 by1 && nrE n18 n19 n0 n1 bx0 by0 bx1 by1) = true ∧ ∃ T, I = some (.exit 0, (T, HN n0 n1 n2 n3 n4 n5 n6 n7 n8 n9 n10 n11 n12 n13 n14 n15 n16 n17 n18 n19 n20 n21 n22 n23 n24 n25 n26 n27 n28 n29 n30 n31 bx0 by0 bx1 by1)) ∧ T.length = 77) ∨ ((nrE n0 n1 n9 n10 bx0 by0 bx1 by1 && nrE n9 n10 n18 n19 bx0 by0 bx1 by1 && nrE n18 n19 n0 n1 bx0 by0 bx1 by1) = false ∧ ∃ T h, I = some (.ret, (T, h)) ∧ T.length = 77 ∧ getT T 4 = .b false) := by
    intro s I hI hs
    subst hI
    have r0 := near_r0 n0 n1 n2 n3 n4 n5 n6 n7 n8 n9 n10 n11 n12 n13 n14 n15 n16 n17 n18 n19 n20 n21 n22 n23 n24 n25 n26 n27 n28 n29 n30 n31 bx0 by0 bx1 by1 k a0 a1 a2 i0 i1 i2 i3 s hs
    cases h0 : nrE n0 n1 n9 n10 bx0 by0 bx1 by1 with
    | false =>
      right
      obtain ⟨s1, e1, T, h, rfl, q1, q2⟩ := r0.2 h0
      exact ⟨by simp [h0], T, h, by rw [show k + 40 = (k + 39) + 1 from rfl, iter, e1], q1, q2⟩
    | true =>
      obtain ⟨s1, e1, hs1⟩ := r0.1 h0
      have r1 := near_r1 n0 n1 n2 n3 n4 n5 n6 n7 n8 n9 n10 n11 n12 n13 n14 n15 n16 n17 n18 n19 n20 n21 n22 n23 n24 n25 n26 n27 n28 n29 n30 n31 bx0 by0 bx1 by1 k a0 a1 a2 i0 i1 i2 i3 s1 hs1
      cases h1 : nrE n9 n10 n18 n19 bx0 by0 bx1 by1 with
      | false =>
        right
        obtain ⟨s2, e2, T, h, rfl, q1, q2⟩ := r1.2 h1
        exact ⟨by simp [h0, h1], T, h, by rw [show k + 40 = (k + 38) + 1 + 1 from rfl, iter, e1]; simp only [iter]; rw [e2], q1, q2⟩
      | true =>
        obtain ⟨s2, e2, hs2⟩ := r1.1 h1
        have r2 := near_r2 n0 n1 n2 n3 n4 n5 n6 n7 n8 n9 n10 n11 n12 n13 n14 n15 n16 n17 n18 n19 n20 n21 n22 n23 n24 n25 n26 n27 n28 n29 n30 n31 bx0 by0 bx1 by1 k a0 a1 a2 i0 i1 i2 i3 s2 hs2
        cases h2 : nrE n18 n19 n0 n1 bx0 by0 bx1 by1 with
        | false =>
          right
          obtain ⟨s3, e3, T, h, rfl, q1, q2⟩ := r2.2 h2
          exact ⟨by simp [h0, h1, h2], T, h, by rw [show k + 40 = (k + 37) + 1 + 1 + 1 from rfl, iter, e1]; simp only [iter]; rw [e2]; simp only; rw [e3], q1, q2⟩
        | true =>
          left
          obtain ⟨s3, e3, hs3⟩ := r2.1 h2
          obtain ⟨s4, e4, T, rfl, q1⟩ := near_x n0 n1 n2 n3 n4 n5 n6 n7 n8 n9 n10 n11 n12 n13 n14 n15 n16 n17 n18 n19 n20 n21 n22 n23 n24 n25 n26 n27 n28 n29 n30 n31 bx0 by0 bx1 by1 k a0 a1 a2 i0 i1 i2 i3 s3 hs3
          exact ⟨by simp [h0, h1, h2], T, by rw [show k + 40 = (k + 36) + 1 + 1 + 1 + 1 from rfl, iter, e1]; simp only [iter]; rw [e2]; simp only; rw [e3]; simp only; rw [e4], q1⟩
  have w1 : IntKind.i64.wrap (bx1 - 1) = bx1 - 1 := by unfold inn at i2; exact w64 _ (by omega) (by omega)
  have w2 : IntKind.i64.wrap (by1 - 1) = by1 - 1 := by unfold inn at i3; exact w64 _ (by omega) (by omega)
  simp -implicitDefEqProofs (maxSteps := 4000000) only [c19, w1, w2, push_cast, Nat.reduceAdd, Nat.reduceMul, Nat.reduceSub, Nat.reduceLT, Nat.reduceLeDiff, Nat.reduceEqDiff, Nat.reducePow, Int.reduceToNat, Int.reduceLT, Int.reduceLE, Int.reduceNeg, Int.reduceEq, Int.reducePow, reduceIte, reduceCtorEq, Int.reduceMul, Int.reduceAdd, Int.reduceSub, Int.reduceMod, Int.reduceDiv, Int.reduceTDiv, Int.reduceTMod]
  generalize hI : iter _ _ _ _ = I
  rcases key _ _ hI (by
    simp -implicitDefEqProofs only [SN, fgN, HN, push_cast, Nat.reduceAdd, Nat.reduceMul, Nat.reduceSub, Nat.reduceLT, Nat.reduceLeDiff, Nat.reduceEqDiff, Nat.reducePow, Int.reduceToNat, Int.reduceLT, Int.reduceLE, Int.reduceNeg, Int.reduceEq, Int.reducePow, reduceIte, reduceCtorEq, Int.reduceMul, Int.reduceAdd, Int.reduceSub, Int.reduceMod, Int.reduceDiv, Int.reduceTDiv, Int.reduceTMod, iter_s]
    exact ⟨_, rfl, rfl, rfl, rfl, rfl, rfl, rfl⟩) with ⟨hb, T, rfl, hT⟩ | ⟨hb, T, h, rfl, hT, t4⟩
  · rw [hb, tl77 hT]
    simp -implicitDefEqProofs only [push_cast, Nat.reduceAdd, Nat.reduceMul, Nat.reduceSub, Nat.reduceLT, Nat.reduceLeDiff, Nat.reduceEqDiff, Nat.reducePow, Int.reduceToNat, Int.reduceLT, Int.reduceLE, Int.reduceNeg, Int.reduceEq, Int.reducePow, reduceIte, reduceCtorEq, Int.reduceMul, Int.reduceAdd, Int.reduceSub, Int.reduceMod, Int.reduceDiv, Int.reduceTDiv, Int.reduceTMod]
  · rw [hb, tl77 hT]
    simp -implicitDefEqProofs only [t4, push_cast, Nat.reduceAdd, Nat.reduceMul, Nat.reduceSub, Nat.reduceLT, Nat.reduceLeDiff, Nat.reduceEqDiff, Nat.reducePow, Int.reduceToNat, Int.reduceLT, Int.reduceLE, Int.reduceNeg, Int.reduceEq, Int.reducePow, reduceIte, reduceCtorEq, Int.reduceMul, Int.reduceAdd, Int.reduceSub, Int.reduceMod, Int.reduceDiv, Int.reduceTDiv, Int.reduceTMod]
end
section
variable (ax ay bx by' bx0 by0 bx1 by1 : Int) (k : Nat) (a0 : pm ax ay) (a1 : pm bx by') (i0 : inn bx0) (i1 : inn by0) (i2 : inn (bx1 - 1)) (i3 : inn (by1 - 1))
include a0 a1 i0 i1 i2 i3
theorem rnear_ok : evP (evF cm (k + 41)) 51 [.agg [.i ax, .i ay], .agg [.i bx, .i by'], .agg [.i bx0, .i by0, .i bx1, .i by1]] = some (.b (nrE ax ay bx by' bx0 by0 bx1 by1)) := by
  rw [evP_fun (m := c51) rfl _ _ rfl]
  have w1 : IntKind.i64.wrap (bx1 - 1) = bx1 - 1 := by unfold inn at i2; exact w64 _ (by omega) (by omega)
  have w2 : IntKind.i64.wrap (by1 - 1) = by1 - 1 := by unfold inn at i3; exact w64 _ (by omega) (by omega)
  have m0 := md_mr i0 i1
  have m1 := md_mr i2 i1
  have m2 := md_mr i0 i3
  have m3 := md_mr i2 i3
  have d0 := fun k => w_rside k (pm_nr a0).1 (pm_nr a0).2 (pm_nr a1).1 (pm_nr a1).2 (pm_nr m0).1 (pm_nr m0).2
  have d1 := fun k => w_rside k (pm_nr a0).1 (pm_nr a0).2 (pm_nr a1).1 (pm_nr a1).2 (pm_nr m1).1 (pm_nr m1).2
  have d2 := fun k => w_rside k (pm_nr a0).1 (pm_nr a0).2 (pm_nr a1).1 (pm_nr a1).2 (pm_nr m2).1 (pm_nr m2).2
  have d3 := fun k => w_rside k (pm_nr a0).1 (pm_nr a0).2 (pm_nr a1).1 (pm_nr a1).2 (pm_nr m3).1 (pm_nr m3).2
  have e0 := fun k => w_rmid k i0 i1
  have e1 := fun k => w_rmid k i2 i1
  have e2 := fun k => w_rmid k i0 i3
  have e3 := fun k => w_rmid k i2 i3
  have t0 : (0 : Int).tmod 2 = 0 := rfl
  have t1 : (1 : Int).tmod 2 = 1 := rfl
  have t2 : (2 : Int).tmod 2 = 0 := rfl
  have t3 : (3 : Int).tmod 2 = 1 := rfl
  have v0 : (0 : Int).tdiv 2 = 0 := rfl
  have v1 : (1 : Int).tdiv 2 = 0 := rfl
  have v2 : (2 : Int).tdiv 2 = 1 := rfl
  have v3 : (3 : Int).tdiv 2 = 1 := rfl
  unfold nrE
  by_cases h0 : 0 ≤ sd ax ay bx by' (md bx0) (md by0)
  · simp -implicitDefEqProofs (maxSteps := 8000000) only [c51, c51b0, w1, w2, d0, d1, d2, d3, e0, e1, e2, e3, t0, t1, t2, t3, v0, v1, v2, v3, h0, push_cast, Nat.reduceAdd, Nat.reduceMul, Nat.reduceSub, Nat.reduceLT, Nat.reduceLeDiff, Nat.reduceEqDiff, Nat.reducePow, Int.reduceToNat, Int.reduceLT, Int.reduceLE, Int.reduceNeg, Int.reduceEq, Int.reducePow, reduceIte, reduceCtorEq, Int.reduceMul, Int.reduceAdd, Int.reduceSub, Int.reduceMod, Int.reduceDiv, Int.reduceTDiv, Int.reduceTMod, iter_s]
  by_cases h1 : 0 ≤ sd ax ay bx by' (md (bx1 - 1)) (md by0)
  · simp -implicitDefEqProofs (maxSteps := 8000000) only [c51, c51b0, w1, w2, d0, d1, d2, d3, e0, e1, e2, e3, t0, t1, t2, t3, v0, v1, v2, v3, h0, h1, push_cast, Nat.reduceAdd, Nat.reduceMul, Nat.reduceSub, Nat.reduceLT, Nat.reduceLeDiff, Nat.reduceEqDiff, Nat.reducePow, Int.reduceToNat, Int.reduceLT, Int.reduceLE, Int.reduceNeg, Int.reduceEq, Int.reducePow, reduceIte, reduceCtorEq, Int.reduceMul, Int.reduceAdd, Int.reduceSub, Int.reduceMod, Int.reduceDiv, Int.reduceTDiv, Int.reduceTMod, iter_s]
  by_cases h2 : 0 ≤ sd ax ay bx by' (md bx0) (md (by1 - 1))
  · simp -implicitDefEqProofs (maxSteps := 8000000) only [c51, c51b0, w1, w2, d0, d1, d2, d3, e0, e1, e2, e3, t0, t1, t2, t3, v0, v1, v2, v3, h0, h1, h2, push_cast, Nat.reduceAdd, Nat.reduceMul, Nat.reduceSub, Nat.reduceLT, Nat.reduceLeDiff, Nat.reduceEqDiff, Nat.reducePow, Int.reduceToNat, Int.reduceLT, Int.reduceLE, Int.reduceNeg, Int.reduceEq, Int.reducePow, reduceIte, reduceCtorEq, Int.reduceMul, Int.reduceAdd, Int.reduceSub, Int.reduceMod, Int.reduceDiv, Int.reduceTDiv, Int.reduceTMod, iter_s]
  by_cases h3 : 0 ≤ sd ax ay bx by' (md (bx1 - 1)) (md (by1 - 1))
  · simp -implicitDefEqProofs (maxSteps := 8000000) only [c51, c51b0, w1, w2, d0, d1, d2, d3, e0, e1, e2, e3, t0, t1, t2, t3, v0, v1, v2, v3, h0, h1, h2, h3, push_cast, Nat.reduceAdd, Nat.reduceMul, Nat.reduceSub, Nat.reduceLT, Nat.reduceLeDiff, Nat.reduceEqDiff, Nat.reducePow, Int.reduceToNat, Int.reduceLT, Int.reduceLE, Int.reduceNeg, Int.reduceEq, Int.reducePow, reduceIte, reduceCtorEq, Int.reduceMul, Int.reduceAdd, Int.reduceSub, Int.reduceMod, Int.reduceDiv, Int.reduceTDiv, Int.reduceTMod, iter_s]
  · simp -implicitDefEqProofs (maxSteps := 8000000) only [c51, c51b0, w1, w2, d0, d1, d2, d3, e0, e1, e2, e3, t0, t1, t2, t3, v0, v1, v2, v3, h0, h1, h2, h3, push_cast, Nat.reduceAdd, Nat.reduceMul, Nat.reduceSub, Nat.reduceLT, Nat.reduceLeDiff, Nat.reduceEqDiff, Nat.reducePow, Int.reduceToNat, Int.reduceLT, Int.reduceLE, Int.reduceNeg, Int.reduceEq, Int.reducePow, reduceIte, reduceCtorEq, Int.reduceMul, Int.reduceAdd, Int.reduceSub, Int.reduceMod, Int.reduceDiv, Int.reduceTDiv, Int.reduceTMod, iter_s]
end
end Go.Proofs.Ytjgnjpbplnmdmaa

