/- Triangles that are set up, the program's and the document's, as the evaluator answers. -/
import Derived.Test.YtjgnjpbplnmdmaaBA
set_option linter.unusedSimpArgs false
set_option linter.unusedVariables false
set_option maxRecDepth 100000
set_option maxHeartbeats 16000000
namespace Go.Proofs.Ytjgnjpbplnmdmaa
open Go
def pm (x y : Int) : Prop := (-524288 ≤ x ∧ x ≤ 524288) ∧ (-524288 ≤ y ∧ y ≤ 524288)
instance (x y : Int) : Decidable (pm x y) := inferInstanceAs (Decidable ((-524288 ≤ x ∧ x ≤ 524288) ∧ (-524288 ≤ y ∧ y ≤ 524288)))
def sd (ax ay bx by' px py : Int) : Int := (bx - ax) * (py - ay) - (by' - ay) * (px - ax)
theorem mul_bd {a b m n : Int} (ha : -m ≤ a ∧ a ≤ m) (hb : -n ≤ b ∧ b ≤ n) (hm : 0 ≤ m) (hn : 0 ≤ n) : -(m * n) ≤ a * b ∧ a * b ≤ m * n := by
  have h1 : a.natAbs ≤ m.toNat := by omega
  have h2 : b.natAbs ≤ n.toNat := by omega
  have h3 := Nat.mul_le_mul h1 h2
  rw [← Int.natAbs_mul] at h3
  have h4 : ((m.toNat * n.toNat : Nat) : Int) = m * n := by rw [Int.natCast_mul, Int.toNat_of_nonneg hm, Int.toNat_of_nonneg hn]
  omega
/-- Points that are not too far. -/
def nr (x : Int) : Prop := -600000 ≤ x ∧ x ≤ 600000
theorem sd_w {ax ay bx by' px py : Int} (h1 : nr ax) (h2 : nr ay) (h3 : nr bx) (h4 : nr by') (h5 : nr px) (h6 : nr py) :
    IntKind.i64.wrap (bx - ax) = bx - ax ∧ IntKind.i64.wrap (py - ay) = py - ay ∧ IntKind.i64.wrap (by' - ay) = by' - ay ∧ IntKind.i64.wrap (px - ax) = px - ax ∧ IntKind.i64.wrap ((bx - ax) * (py - ay)) = (bx - ax) * (py - ay) ∧ IntKind.i64.wrap ((by' - ay) * (px - ax)) = (by' - ay) * (px - ax) ∧
      IntKind.i64.wrap ((bx - ax) * (py - ay) - (by' - ay) * (px - ax)) = sd ax ay bx by' px py ∧ (-10000000000000 ≤ sd ax ay bx by' px py ∧ sd ax ay bx by' px py ≤ 10000000000000) := by
  unfold nr at *
  have a1 := mul_bd (a := bx - ax) (b := py - ay) (m := 1200000) (n := 1200000) (by omega) (by omega) (by omega) (by omega)
  have a2 := mul_bd (a := by' - ay) (b := px - ax) (m := 1200000) (n := 1200000) (by omega) (by omega) (by omega) (by omega)
  unfold sd
  refine ⟨w64 _ (by omega) (by omega), w64 _ (by omega) (by omega), w64 _ (by omega) (by omega), w64 _ (by omega) (by omega), w64 _ (by omega) (by omega), w64 _ (by omega) (by omega), w64 _ (by omega) (by omega), by omega, by omega⟩
theorem pm_nr {x y : Int} (h : pm x y) : nr x ∧ nr y := by unfold pm at h; unfold nr; omega
theorem w_side0 (k : Nat) {ax ay bx by' px py : Int} (h1 : nr ax) (h2 : nr ay) (h3 : nr bx) (h4 : nr by') (h5 : nr px) (h6 : nr py) : evP (evF cm (k + 1)) 66 [.agg [.i ax, .i ay], .agg [.i bx, .i by'], .agg [.i px, .i py]] = some (.i (sd ax ay bx by' px py)) := by
  rw [evP_fun (m := c66) rfl _ _ rfl]
  obtain ⟨w1, w2, w3, w4, w5, w6, w7, _⟩ := sd_w h1 h2 h3 h4 h5 h6
  simp -implicitDefEqProofs only [c66, w1, w2, w3, w4, w5, w6, w7, push_cast, Nat.reduceAdd, Nat.reduceMul, Nat.reduceSub, Nat.reduceLT, Nat.reduceLeDiff, Nat.reduceEqDiff, Nat.reducePow, Int.reduceToNat, Int.reduceLT, Int.reduceLE, Int.reduceNeg, Int.reduceEq, Int.reducePow, reduceIte, reduceCtorEq, Int.reduceMul, Int.reduceAdd, Int.reduceSub, Int.reduceMod, Int.reduceDiv, Int.reduceTDiv, Int.reduceTMod, iter_s]
theorem w_rside (k : Nat) {ax ay bx by' px py : Int} (h1 : nr ax) (h2 : nr ay) (h3 : nr bx) (h4 : nr by') (h5 : nr px) (h6 : nr py) : evP (evF cm (k + 1)) 46 [.agg [.i ax, .i ay], .agg [.i bx, .i by'], .agg [.i px, .i py]] = some (.i (sd ax ay bx by' px py)) := by
  rw [evP_fun (m := c46) rfl _ _ rfl]
  obtain ⟨w1, w2, w3, w4, w5, w6, w7, _⟩ := sd_w h1 h2 h3 h4 h5 h6
  simp -implicitDefEqProofs only [c46, w1, w2, w3, w4, w5, w6, w7, push_cast, Nat.reduceAdd, Nat.reduceMul, Nat.reduceSub, Nat.reduceLT, Nat.reduceLeDiff, Nat.reduceEqDiff, Nat.reducePow, Int.reduceToNat, Int.reduceLT, Int.reduceLE, Int.reduceNeg, Int.reduceEq, Int.reducePow, reduceIte, reduceCtorEq, Int.reduceMul, Int.reduceAdd, Int.reduceSub, Int.reduceMod, Int.reduceDiv, Int.reduceTDiv, Int.reduceTMod, iter_s]
theorem w_rpm (k : Nat) (x y : Int) : evP (evF cm (k + 1)) 45 [.agg [.i x, .i y]] = some (.b (decide (pm x y))) := by
  rw [evP_fun (m := c45) rfl _ _ rfl]
  simp -implicitDefEqProofs only [c45, push_cast, Nat.reduceAdd, Nat.reduceMul, Nat.reduceSub, Nat.reduceLT, Nat.reduceLeDiff, Nat.reduceEqDiff, Nat.reducePow, Int.reduceToNat, Int.reduceLT, Int.reduceLE, Int.reduceNeg, Int.reduceEq, Int.reducePow, reduceIte, reduceCtorEq, Int.reduceMul, Int.reduceAdd, Int.reduceSub, Int.reduceMod, Int.reduceDiv, Int.reduceTDiv, Int.reduceTMod, iter_s]
  unfold pm
  repeat' split
  all_goals first | exact sbt (by omega) | exact sbf (by omega) | exact sbe (by omega)
theorem pm_split {x y : Int} (h : ¬ pm x y) : x < -524288 ∨ (¬ x < -524288 ∧ 524288 < x) ∨ (¬ x < -524288 ∧ ¬ 524288 < x ∧ y < -524288) ∨ (¬ x < -524288 ∧ ¬ 524288 < x ∧ ¬ y < -524288 ∧ 524288 < y) := by unfold pm at h; omega
theorem pm_no {x y : Int} (h : pm x y) : ¬ x < -524288 ∧ ¬ 524288 < x ∧ ¬ y < -524288 ∧ ¬ 524288 < y := by unfold pm at h; omega
theorem w_may3 (k : Nat) {ax ay bx by' px py : Int} (b : Bool) (h1 : pm ax ay) (h2 : pm bx by') (h3 : pm px py) : evP (evF cm (k + 10)) 65 [.im [.i ax, .i ay, .i bx, .i by', .i px, .i py] 3 b] = some (.b true) := by
  rw [evP_fun (m := c65) rfl _ _ rfl]
  obtain ⟨a1, a2, a3, a4⟩ := pm_no h1
  obtain ⟨b1, b2, b3, b4⟩ := pm_no h2
  obtain ⟨d1, d2, d3, d4⟩ := pm_no h3
  simp -implicitDefEqProofs only [c65, c65b0, a1, a2, a3, a4, b1, b2, b3, b4, d1, d2, d3, d4, push_cast, Nat.reduceAdd, Nat.reduceMul, Nat.reduceSub, Nat.reduceLT, Nat.reduceLeDiff, Nat.reduceEqDiff, Nat.reducePow, Int.reduceToNat, Int.reduceLT, Int.reduceLE, Int.reduceNeg, Int.reduceEq, Int.reducePow, reduceIte, reduceCtorEq, Int.reduceMul, Int.reduceAdd, Int.reduceSub, Int.reduceMod, Int.reduceDiv, Int.reduceTDiv, Int.reduceTMod, iter_s]
/-- The first that may not be is found. -/
theorem w_may3f (k : Nat) {ax ay bx by' px py : Int} (b : Bool) (h : ¬ pm ax ay ∨ (pm ax ay ∧ ¬ pm bx by') ∨ (pm ax ay ∧ pm bx by' ∧ ¬ pm px py)) : evP (evF cm (k + 10)) 65 [.im [.i ax, .i ay, .i bx, .i by', .i px, .i py] 3 b] = some (.b false) := by
  rw [evP_fun (m := c65) rfl _ _ rfl]
  rcases h with h | ⟨h1, h⟩ | ⟨h1, h2, h⟩
  · rcases pm_split h with h | ⟨g1, h⟩ | ⟨g1, g2, h⟩ | ⟨g1, g2, g3, h⟩
    · simp -implicitDefEqProofs only [c65, c65b0, h, push_cast, Nat.reduceAdd, Nat.reduceMul, Nat.reduceSub, Nat.reduceLT, Nat.reduceLeDiff, Nat.reduceEqDiff, Nat.reducePow, Int.reduceToNat, Int.reduceLT, Int.reduceLE, Int.reduceNeg, Int.reduceEq, Int.reducePow, reduceIte, reduceCtorEq, Int.reduceMul, Int.reduceAdd, Int.reduceSub, Int.reduceMod, Int.reduceDiv, Int.reduceTDiv, Int.reduceTMod, iter_s]
    · simp -implicitDefEqProofs only [c65, c65b0, g1, h, push_cast, Nat.reduceAdd, Nat.reduceMul, Nat.reduceSub, Nat.reduceLT, Nat.reduceLeDiff, Nat.reduceEqDiff, Nat.reducePow, Int.reduceToNat, Int.reduceLT, Int.reduceLE, Int.reduceNeg, Int.reduceEq, Int.reducePow, reduceIte, reduceCtorEq, Int.reduceMul, Int.reduceAdd, Int.reduceSub, Int.reduceMod, Int.reduceDiv, Int.reduceTDiv, Int.reduceTMod, iter_s]
    · simp -implicitDefEqProofs only [c65, c65b0, g1, g2, h, push_cast, Nat.reduceAdd, Nat.reduceMul, Nat.reduceSub, Nat.reduceLT, Nat.reduceLeDiff, Nat.reduceEqDiff, Nat.reducePow, Int.reduceToNat, Int.reduceLT, Int.reduceLE, Int.reduceNeg, Int.reduceEq, Int.reducePow, reduceIte, reduceCtorEq, Int.reduceMul, Int.reduceAdd, Int.reduceSub, Int.reduceMod, Int.reduceDiv, Int.reduceTDiv, Int.reduceTMod, iter_s]
    · simp -implicitDefEqProofs only [c65, c65b0, g1, g2, g3, h, push_cast, Nat.reduceAdd, Nat.reduceMul, Nat.reduceSub, Nat.reduceLT, Nat.reduceLeDiff, Nat.reduceEqDiff, Nat.reducePow, Int.reduceToNat, Int.reduceLT, Int.reduceLE, Int.reduceNeg, Int.reduceEq, Int.reducePow, reduceIte, reduceCtorEq, Int.reduceMul, Int.reduceAdd, Int.reduceSub, Int.reduceMod, Int.reduceDiv, Int.reduceTDiv, Int.reduceTMod, iter_s]
  · obtain ⟨a1, a2, a3, a4⟩ := pm_no h1
    rcases pm_split h with h | ⟨g1, h⟩ | ⟨g1, g2, h⟩ | ⟨g1, g2, g3, h⟩
    · simp -implicitDefEqProofs only [c65, c65b0, a1, a2, a3, a4, h, push_cast, Nat.reduceAdd, Nat.reduceMul, Nat.reduceSub, Nat.reduceLT, Nat.reduceLeDiff, Nat.reduceEqDiff, Nat.reducePow, Int.reduceToNat, Int.reduceLT, Int.reduceLE, Int.reduceNeg, Int.reduceEq, Int.reducePow, reduceIte, reduceCtorEq, Int.reduceMul, Int.reduceAdd, Int.reduceSub, Int.reduceMod, Int.reduceDiv, Int.reduceTDiv, Int.reduceTMod, iter_s]
    · simp -implicitDefEqProofs only [c65, c65b0, a1, a2, a3, a4, g1, h, push_cast, Nat.reduceAdd, Nat.reduceMul, Nat.reduceSub, Nat.reduceLT, Nat.reduceLeDiff, Nat.reduceEqDiff, Nat.reducePow, Int.reduceToNat, Int.reduceLT, Int.reduceLE, Int.reduceNeg, Int.reduceEq, Int.reducePow, reduceIte, reduceCtorEq, Int.reduceMul, Int.reduceAdd, Int.reduceSub, Int.reduceMod, Int.reduceDiv, Int.reduceTDiv, Int.reduceTMod, iter_s]
    · simp -implicitDefEqProofs only [c65, c65b0, a1, a2, a3, a4, g1, g2, h, push_cast, Nat.reduceAdd, Nat.reduceMul, Nat.reduceSub, Nat.reduceLT, Nat.reduceLeDiff, Nat.reduceEqDiff, Nat.reducePow, Int.reduceToNat, Int.reduceLT, Int.reduceLE, Int.reduceNeg, Int.reduceEq, Int.reducePow, reduceIte, reduceCtorEq, Int.reduceMul, Int.reduceAdd, Int.reduceSub, Int.reduceMod, Int.reduceDiv, Int.reduceTDiv, Int.reduceTMod, iter_s]
    · simp -implicitDefEqProofs only [c65, c65b0, a1, a2, a3, a4, g1, g2, g3, h, push_cast, Nat.reduceAdd, Nat.reduceMul, Nat.reduceSub, Nat.reduceLT, Nat.reduceLeDiff, Nat.reduceEqDiff, Nat.reducePow, Int.reduceToNat, Int.reduceLT, Int.reduceLE, Int.reduceNeg, Int.reduceEq, Int.reducePow, reduceIte, reduceCtorEq, Int.reduceMul, Int.reduceAdd, Int.reduceSub, Int.reduceMod, Int.reduceDiv, Int.reduceTDiv, Int.reduceTMod, iter_s]
  · obtain ⟨a1, a2, a3, a4⟩ := pm_no h1
    obtain ⟨b1, b2, b3, b4⟩ := pm_no h2
    rcases pm_split h with h | ⟨g1, h⟩ | ⟨g1, g2, h⟩ | ⟨g1, g2, g3, h⟩
    · simp -implicitDefEqProofs only [c65, c65b0, a1, a2, a3, a4, b1, b2, b3, b4, h, push_cast, Nat.reduceAdd, Nat.reduceMul, Nat.reduceSub, Nat.reduceLT, Nat.reduceLeDiff, Nat.reduceEqDiff, Nat.reducePow, Int.reduceToNat, Int.reduceLT, Int.reduceLE, Int.reduceNeg, Int.reduceEq, Int.reducePow, reduceIte, reduceCtorEq, Int.reduceMul, Int.reduceAdd, Int.reduceSub, Int.reduceMod, Int.reduceDiv, Int.reduceTDiv, Int.reduceTMod, iter_s]
    · simp -implicitDefEqProofs only [c65, c65b0, a1, a2, a3, a4, b1, b2, b3, b4, g1, h, push_cast, Nat.reduceAdd, Nat.reduceMul, Nat.reduceSub, Nat.reduceLT, Nat.reduceLeDiff, Nat.reduceEqDiff, Nat.reducePow, Int.reduceToNat, Int.reduceLT, Int.reduceLE, Int.reduceNeg, Int.reduceEq, Int.reducePow, reduceIte, reduceCtorEq, Int.reduceMul, Int.reduceAdd, Int.reduceSub, Int.reduceMod, Int.reduceDiv, Int.reduceTDiv, Int.reduceTMod, iter_s]
    · simp -implicitDefEqProofs only [c65, c65b0, a1, a2, a3, a4, b1, b2, b3, b4, g1, g2, h, push_cast, Nat.reduceAdd, Nat.reduceMul, Nat.reduceSub, Nat.reduceLT, Nat.reduceLeDiff, Nat.reduceEqDiff, Nat.reducePow, Int.reduceToNat, Int.reduceLT, Int.reduceLE, Int.reduceNeg, Int.reduceEq, Int.reducePow, reduceIte, reduceCtorEq, Int.reduceMul, Int.reduceAdd, Int.reduceSub, Int.reduceMod, Int.reduceDiv, Int.reduceTDiv, Int.reduceTMod, iter_s]
    · simp -implicitDefEqProofs only [c65, c65b0, a1, a2, a3, a4, b1, b2, b3, b4, g1, g2, g3, h, push_cast, Nat.reduceAdd, Nat.reduceMul, Nat.reduceSub, Nat.reduceLT, Nat.reduceLeDiff, Nat.reduceEqDiff, Nat.reducePow, Int.reduceToNat, Int.reduceLT, Int.reduceLE, Int.reduceNeg, Int.reduceEq, Int.reducePow, reduceIte, reduceCtorEq, Int.reduceMul, Int.reduceAdd, Int.reduceSub, Int.reduceMod, Int.reduceDiv, Int.reduceTDiv, Int.reduceTMod, iter_s]
theorem w_side (k : Nat) {ax ay bx by' px py : Int} (h1 : pm ax ay) (h2 : pm bx by') (h3 : pm px py) : evP (evF cm (k + 12)) 36 [.agg [.i ax, .i ay], .agg [.i bx, .i by'], .agg [.i px, .i py]] = some (.tup [.i (sd ax ay bx by' px py), .i 0]) := by
  rw [evP_fun (m := c36) rfl _ _ rfl]
  have e1 := fun k b => w_may3 k b h1 h2 h3
  have e2 := fun k => w_side0 k (pm_nr h1).1 (pm_nr h1).2 (pm_nr h2).1 (pm_nr h2).2 (pm_nr h3).1 (pm_nr h3).2
  simp -implicitDefEqProofs only [c36, e1, e2, push_cast, Nat.reduceAdd, Nat.reduceMul, Nat.reduceSub, Nat.reduceLT, Nat.reduceLeDiff, Nat.reduceEqDiff, Nat.reducePow, Int.reduceToNat, Int.reduceLT, Int.reduceLE, Int.reduceNeg, Int.reduceEq, Int.reducePow, reduceIte, reduceCtorEq, Int.reduceMul, Int.reduceAdd, Int.reduceSub, Int.reduceMod, Int.reduceDiv, Int.reduceTDiv, Int.reduceTMod, iter_s]
theorem w_sidef (k : Nat) {ax ay bx by' px py : Int} (h : ¬ pm ax ay ∨ (pm ax ay ∧ ¬ pm bx by') ∨ (pm ax ay ∧ pm bx by' ∧ ¬ pm px py)) : evP (evF cm (k + 12)) 36 [.agg [.i ax, .i ay], .agg [.i bx, .i by'], .agg [.i px, .i py]] = some (.tup [.i 0, .i 3]) := by
  rw [evP_fun (m := c36) rfl _ _ rfl]
  have e1 := fun k b => w_may3f k b h
  simp -implicitDefEqProofs only [c36, e1, push_cast, Nat.reduceAdd, Nat.reduceMul, Nat.reduceSub, Nat.reduceLT, Nat.reduceLeDiff, Nat.reduceEqDiff, Nat.reducePow, Int.reduceToNat, Int.reduceLT, Int.reduceLE, Int.reduceNeg, Int.reduceEq, Int.reducePow, reduceIte, reduceCtorEq, Int.reduceMul, Int.reduceAdd, Int.reduceSub, Int.reduceMod, Int.reduceDiv, Int.reduceTDiv, Int.reduceTMod, iter_s]
/-! ### spots -/
def ar (n : Int) : Prop := -1048576 ≤ n ∧ n ≤ 1048576
instance (n : Int) : Decidable (ar n) := inferInstanceAs (Decidable (-1048576 ≤ n ∧ n ≤ 1048576))
def az (n : Int) : Prop := 0 ≤ n ∧ n ≤ 65535
instance (n : Int) : Decidable (az n) := inferInstanceAs (Decidable (0 ≤ n ∧ n ≤ 65535))
def sm (x y z a b c d e f : Int) : Prop := pm x y ∧ az z ∧ ar a ∧ ar b ∧ ar c ∧ ar d ∧ ar e ∧ ar f
instance (x y z a b c d e f : Int) : Decidable (sm x y z a b c d e f) := inferInstanceAs (Decidable (pm x y ∧ az z ∧ ar a ∧ ar b ∧ ar c ∧ ar d ∧ ar e ∧ ar f))
theorem ar_split {n : Int} (h : ¬ ar n) : n < -1048576 ∨ (¬ n < -1048576 ∧ 1048576 < n) := by unfold ar at h; omega
theorem ar_no {n : Int} (h : ar n) : ¬ n < -1048576 ∧ ¬ 1048576 < n := by unfold ar at h; omega
theorem az_split {n : Int} (h : ¬ az n) : n < 0 ∨ (¬ n < 0 ∧ 65535 < n) := by unfold az at h; omega
theorem az_no {n : Int} (h : az n) : ¬ n < 0 ∧ ¬ 65535 < n := by unfold az at h; omega
theorem w_smay (k : Nat) (x y z a b c d e f : Int) : evP (evF cm (k + 30)) 61 [.agg [.i x, .i y, .i z, .i a, .i b, .i c, .i d, .i e, .i f]] = some (.b (decide (sm x y z a b c d e f))) := by
  rw [evP_fun (m := c61) rfl _ _ rfl]
  by_cases h0 : pm x y
  rotate_left
  · rw [decide_eq_false (fun h => h0 h.1)]
    have q0 := fun k => w_sidef (ax := x) (ay := y) (bx := x) (by' := y) (px := x) (py := y) k (.inl h0)
    simp -implicitDefEqProofs (maxSteps := 4000000) only [c61, c61b0, q0, push_cast, Nat.reduceAdd, Nat.reduceMul, Nat.reduceSub, Nat.reduceLT, Nat.reduceLeDiff, Nat.reduceEqDiff, Nat.reducePow, Int.reduceToNat, Int.reduceLT, Int.reduceLE, Int.reduceNeg, Int.reduceEq, Int.reducePow, reduceIte, reduceCtorEq, Int.reduceMul, Int.reduceAdd, Int.reduceSub, Int.reduceMod, Int.reduceDiv, Int.reduceTDiv, Int.reduceTMod, iter_s]
  have q0 := fun k => w_side k h0 h0 h0
  by_cases hz : az z
  rotate_left
  · rw [decide_eq_false (fun h => hz h.2.1)]
    rcases az_split hz with g | ⟨g, g2⟩
    · simp -implicitDefEqProofs (maxSteps := 4000000) only [c61, c61b0, q0, g, push_cast, Nat.reduceAdd, Nat.reduceMul, Nat.reduceSub, Nat.reduceLT, Nat.reduceLeDiff, Nat.reduceEqDiff, Nat.reducePow, Int.reduceToNat, Int.reduceLT, Int.reduceLE, Int.reduceNeg, Int.reduceEq, Int.reducePow, reduceIte, reduceCtorEq, Int.reduceMul, Int.reduceAdd, Int.reduceSub, Int.reduceMod, Int.reduceDiv, Int.reduceTDiv, Int.reduceTMod, iter_s]
    · simp -implicitDefEqProofs (maxSteps := 4000000) only [c61, c61b0, q0, g, g2, push_cast, Nat.reduceAdd, Nat.reduceMul, Nat.reduceSub, Nat.reduceLT, Nat.reduceLeDiff, Nat.reduceEqDiff, Nat.reducePow, Int.reduceToNat, Int.reduceLT, Int.reduceLE, Int.reduceNeg, Int.reduceEq, Int.reducePow, reduceIte, reduceCtorEq, Int.reduceMul, Int.reduceAdd, Int.reduceSub, Int.reduceMod, Int.reduceDiv, Int.reduceTDiv, Int.reduceTMod, iter_s]
  obtain ⟨z1, z2⟩ := az_no hz
  by_cases ha : ar a
  rotate_left
  · rw [decide_eq_false (fun h => ha h.2.2.1)]
    rcases ar_split ha with g | ⟨g, g2⟩
    · simp -implicitDefEqProofs (maxSteps := 4000000) only [c61, c61b0, q0, z1, z2, g, push_cast, Nat.reduceAdd, Nat.reduceMul, Nat.reduceSub, Nat.reduceLT, Nat.reduceLeDiff, Nat.reduceEqDiff, Nat.reducePow, Int.reduceToNat, Int.reduceLT, Int.reduceLE, Int.reduceNeg, Int.reduceEq, Int.reducePow, reduceIte, reduceCtorEq, Int.reduceMul, Int.reduceAdd, Int.reduceSub, Int.reduceMod, Int.reduceDiv, Int.reduceTDiv, Int.reduceTMod, iter_s]
    · simp -implicitDefEqProofs (maxSteps := 4000000) only [c61, c61b0, q0, z1, z2, g, g2, push_cast, Nat.reduceAdd, Nat.reduceMul, Nat.reduceSub, Nat.reduceLT, Nat.reduceLeDiff, Nat.reduceEqDiff, Nat.reducePow, Int.reduceToNat, Int.reduceLT, Int.reduceLE, Int.reduceNeg, Int.reduceEq, Int.reducePow, reduceIte, reduceCtorEq, Int.reduceMul, Int.reduceAdd, Int.reduceSub, Int.reduceMod, Int.reduceDiv, Int.reduceTDiv, Int.reduceTMod, iter_s]
  obtain ⟨a1, a2⟩ := ar_no ha
  by_cases hb : ar b
  rotate_left
  · rw [decide_eq_false (fun h => hb h.2.2.2.1)]
    rcases ar_split hb with g | ⟨g, g2⟩
    · simp -implicitDefEqProofs (maxSteps := 4000000) only [c61, c61b0, q0, z1, z2, a1, a2, g, push_cast, Nat.reduceAdd, Nat.reduceMul, Nat.reduceSub, Nat.reduceLT, Nat.reduceLeDiff, Nat.reduceEqDiff, Nat.reducePow, Int.reduceToNat, Int.reduceLT, Int.reduceLE, Int.reduceNeg, Int.reduceEq, Int.reducePow, reduceIte, reduceCtorEq, Int.reduceMul, Int.reduceAdd, Int.reduceSub, Int.reduceMod, Int.reduceDiv, Int.reduceTDiv, Int.reduceTMod, iter_s]
    · simp -implicitDefEqProofs (maxSteps := 4000000) only [c61, c61b0, q0, z1, z2, a1, a2, g, g2, push_cast, Nat.reduceAdd, Nat.reduceMul, Nat.reduceSub, Nat.reduceLT, Nat.reduceLeDiff, Nat.reduceEqDiff, Nat.reducePow, Int.reduceToNat, Int.reduceLT, Int.reduceLE, Int.reduceNeg, Int.reduceEq, Int.reducePow, reduceIte, reduceCtorEq, Int.reduceMul, Int.reduceAdd, Int.reduceSub, Int.reduceMod, Int.reduceDiv, Int.reduceTDiv, Int.reduceTMod, iter_s]
  obtain ⟨b1, b2⟩ := ar_no hb
  by_cases hc : ar c
  rotate_left
  · rw [decide_eq_false (fun h => hc h.2.2.2.2.1)]
    rcases ar_split hc with g | ⟨g, g2⟩
    · simp -implicitDefEqProofs (maxSteps := 4000000) only [c61, c61b0, q0, z1, z2, a1, a2, b1, b2, g, push_cast, Nat.reduceAdd, Nat.reduceMul, Nat.reduceSub, Nat.reduceLT, Nat.reduceLeDiff, Nat.reduceEqDiff, Nat.reducePow, Int.reduceToNat, Int.reduceLT, Int.reduceLE, Int.reduceNeg, Int.reduceEq, Int.reducePow, reduceIte, reduceCtorEq, Int.reduceMul, Int.reduceAdd, Int.reduceSub, Int.reduceMod, Int.reduceDiv, Int.reduceTDiv, Int.reduceTMod, iter_s]
    · simp -implicitDefEqProofs (maxSteps := 4000000) only [c61, c61b0, q0, z1, z2, a1, a2, b1, b2, g, g2, push_cast, Nat.reduceAdd, Nat.reduceMul, Nat.reduceSub, Nat.reduceLT, Nat.reduceLeDiff, Nat.reduceEqDiff, Nat.reducePow, Int.reduceToNat, Int.reduceLT, Int.reduceLE, Int.reduceNeg, Int.reduceEq, Int.reducePow, reduceIte, reduceCtorEq, Int.reduceMul, Int.reduceAdd, Int.reduceSub, Int.reduceMod, Int.reduceDiv, Int.reduceTDiv, Int.reduceTMod, iter_s]
  obtain ⟨c1, c2⟩ := ar_no hc
  by_cases hd : ar d
  rotate_left
  · rw [decide_eq_false (fun h => hd h.2.2.2.2.2.1)]
    rcases ar_split hd with g | ⟨g, g2⟩
    · simp -implicitDefEqProofs (maxSteps := 4000000) only [c61, c61b0, q0, z1, z2, a1, a2, b1, b2, c1, c2, g, push_cast, Nat.reduceAdd, Nat.reduceMul, Nat.reduceSub, Nat.reduceLT, Nat.reduceLeDiff, Nat.reduceEqDiff, Nat.reducePow, Int.reduceToNat, Int.reduceLT, Int.reduceLE, Int.reduceNeg, Int.reduceEq, Int.reducePow, reduceIte, reduceCtorEq, Int.reduceMul, Int.reduceAdd, Int.reduceSub, Int.reduceMod, Int.reduceDiv, Int.reduceTDiv, Int.reduceTMod, iter_s]
    · simp -implicitDefEqProofs (maxSteps := 4000000) only [c61, c61b0, q0, z1, z2, a1, a2, b1, b2, c1, c2, g, g2, push_cast, Nat.reduceAdd, Nat.reduceMul, Nat.reduceSub, Nat.reduceLT, Nat.reduceLeDiff, Nat.reduceEqDiff, Nat.reducePow, Int.reduceToNat, Int.reduceLT, Int.reduceLE, Int.reduceNeg, Int.reduceEq, Int.reducePow, reduceIte, reduceCtorEq, Int.reduceMul, Int.reduceAdd, Int.reduceSub, Int.reduceMod, Int.reduceDiv, Int.reduceTDiv, Int.reduceTMod, iter_s]
  obtain ⟨d1, d2⟩ := ar_no hd
  by_cases he : ar e
  rotate_left
  · rw [decide_eq_false (fun h => he h.2.2.2.2.2.2.1)]
    rcases ar_split he with g | ⟨g, g2⟩
    · simp -implicitDefEqProofs (maxSteps := 4000000) only [c61, c61b0, q0, z1, z2, a1, a2, b1, b2, c1, c2, d1, d2, g, push_cast, Nat.reduceAdd, Nat.reduceMul, Nat.reduceSub, Nat.reduceLT, Nat.reduceLeDiff, Nat.reduceEqDiff, Nat.reducePow, Int.reduceToNat, Int.reduceLT, Int.reduceLE, Int.reduceNeg, Int.reduceEq, Int.reducePow, reduceIte, reduceCtorEq, Int.reduceMul, Int.reduceAdd, Int.reduceSub, Int.reduceMod, Int.reduceDiv, Int.reduceTDiv, Int.reduceTMod, iter_s]
    · simp -implicitDefEqProofs (maxSteps := 4000000) only [c61, c61b0, q0, z1, z2, a1, a2, b1, b2, c1, c2, d1, d2, g, g2, push_cast, Nat.reduceAdd, Nat.reduceMul, Nat.reduceSub, Nat.reduceLT, Nat.reduceLeDiff, Nat.reduceEqDiff, Nat.reducePow, Int.reduceToNat, Int.reduceLT, Int.reduceLE, Int.reduceNeg, Int.reduceEq, Int.reducePow, reduceIte, reduceCtorEq, Int.reduceMul, Int.reduceAdd, Int.reduceSub, Int.reduceMod, Int.reduceDiv, Int.reduceTDiv, Int.reduceTMod, iter_s]
  obtain ⟨e1, e2⟩ := ar_no he
  by_cases hf : ar f
  rotate_left
  · rw [decide_eq_false (fun h => hf h.2.2.2.2.2.2.2)]
    rcases ar_split hf with g | ⟨g, g2⟩
    · simp -implicitDefEqProofs (maxSteps := 4000000) only [c61, c61b0, q0, z1, z2, a1, a2, b1, b2, c1, c2, d1, d2, e1, e2, g, push_cast, Nat.reduceAdd, Nat.reduceMul, Nat.reduceSub, Nat.reduceLT, Nat.reduceLeDiff, Nat.reduceEqDiff, Nat.reducePow, Int.reduceToNat, Int.reduceLT, Int.reduceLE, Int.reduceNeg, Int.reduceEq, Int.reducePow, reduceIte, reduceCtorEq, Int.reduceMul, Int.reduceAdd, Int.reduceSub, Int.reduceMod, Int.reduceDiv, Int.reduceTDiv, Int.reduceTMod, iter_s]
    · simp -implicitDefEqProofs (maxSteps := 4000000) only [c61, c61b0, q0, z1, z2, a1, a2, b1, b2, c1, c2, d1, d2, e1, e2, g, g2, push_cast, Nat.reduceAdd, Nat.reduceMul, Nat.reduceSub, Nat.reduceLT, Nat.reduceLeDiff, Nat.reduceEqDiff, Nat.reducePow, Int.reduceToNat, Int.reduceLT, Int.reduceLE, Int.reduceNeg, Int.reduceEq, Int.reducePow, reduceIte, reduceCtorEq, Int.reduceMul, Int.reduceAdd, Int.reduceSub, Int.reduceMod, Int.reduceDiv, Int.reduceTDiv, Int.reduceTMod, iter_s]
  obtain ⟨f1, f2⟩ := ar_no hf
  rw [decide_eq_true (show sm x y z a b c d e f from ⟨h0, hz, ha, hb, hc, hd, he, hf⟩)]
  simp -implicitDefEqProofs (maxSteps := 4000000) only [c61, c61b0, q0, z1, z2, a1, a2, b1, b2, c1, c2, d1, d2, e1, e2, f1, f2, push_cast, Nat.reduceAdd, Nat.reduceMul, Nat.reduceSub, Nat.reduceLT, Nat.reduceLeDiff, Nat.reduceEqDiff, Nat.reducePow, Int.reduceToNat, Int.reduceLT, Int.reduceLE, Int.reduceNeg, Int.reduceEq, Int.reducePow, reduceIte, reduceCtorEq, Int.reduceMul, Int.reduceAdd, Int.reduceSub, Int.reduceMod, Int.reduceDiv, Int.reduceTDiv, Int.reduceTMod, iter_s]
theorem w_rsmay (k : Nat) (x y z a b c d e f : Int) : evP (evF cm (k + 30)) 22 [.agg [.i x, .i y, .i z, .i a, .i b, .i c, .i d, .i e, .i f]] = some (.b (decide (sm x y z a b c d e f))) := by
  rw [evP_fun (m := c22) rfl _ _ rfl]
  have q0 := fun k => w_rpm k x y
  by_cases h0 : pm x y
  rotate_left
  · rw [decide_eq_false (fun h => h0 h.1)]
    simp -implicitDefEqProofs (maxSteps := 4000000) only [c22, c22b0, q0, h0, push_cast, Nat.reduceAdd, Nat.reduceMul, Nat.reduceSub, Nat.reduceLT, Nat.reduceLeDiff, Nat.reduceEqDiff, Nat.reducePow, Int.reduceToNat, Int.reduceLT, Int.reduceLE, Int.reduceNeg, Int.reduceEq, Int.reducePow, reduceIte, reduceCtorEq, Int.reduceMul, Int.reduceAdd, Int.reduceSub, Int.reduceMod, Int.reduceDiv, Int.reduceTDiv, Int.reduceTMod, iter_s]
  by_cases hz : az z
  rotate_left
  · rw [decide_eq_false (fun h => hz h.2.1)]
    rcases az_split hz with g | ⟨g, g2⟩
    · simp -implicitDefEqProofs (maxSteps := 4000000) only [c22, c22b0, q0, h0, g, push_cast, Nat.reduceAdd, Nat.reduceMul, Nat.reduceSub, Nat.reduceLT, Nat.reduceLeDiff, Nat.reduceEqDiff, Nat.reducePow, Int.reduceToNat, Int.reduceLT, Int.reduceLE, Int.reduceNeg, Int.reduceEq, Int.reducePow, reduceIte, reduceCtorEq, Int.reduceMul, Int.reduceAdd, Int.reduceSub, Int.reduceMod, Int.reduceDiv, Int.reduceTDiv, Int.reduceTMod, iter_s]
    · simp -implicitDefEqProofs (maxSteps := 4000000) only [c22, c22b0, q0, h0, g, g2, push_cast, Nat.reduceAdd, Nat.reduceMul, Nat.reduceSub, Nat.reduceLT, Nat.reduceLeDiff, Nat.reduceEqDiff, Nat.reducePow, Int.reduceToNat, Int.reduceLT, Int.reduceLE, Int.reduceNeg, Int.reduceEq, Int.reducePow, reduceIte, reduceCtorEq, Int.reduceMul, Int.reduceAdd, Int.reduceSub, Int.reduceMod, Int.reduceDiv, Int.reduceTDiv, Int.reduceTMod, iter_s]
  obtain ⟨z1, z2⟩ := az_no hz
  by_cases ha : ar a
  rotate_left
  · rw [decide_eq_false (fun h => ha h.2.2.1)]
    rcases ar_split ha with g | ⟨g, g2⟩
    · simp -implicitDefEqProofs (maxSteps := 4000000) only [c22, c22b0, q0, h0, z1, z2, g, push_cast, Nat.reduceAdd, Nat.reduceMul, Nat.reduceSub, Nat.reduceLT, Nat.reduceLeDiff, Nat.reduceEqDiff, Nat.reducePow, Int.reduceToNat, Int.reduceLT, Int.reduceLE, Int.reduceNeg, Int.reduceEq, Int.reducePow, reduceIte, reduceCtorEq, Int.reduceMul, Int.reduceAdd, Int.reduceSub, Int.reduceMod, Int.reduceDiv, Int.reduceTDiv, Int.reduceTMod, iter_s]
    · simp -implicitDefEqProofs (maxSteps := 4000000) only [c22, c22b0, q0, h0, z1, z2, g, g2, push_cast, Nat.reduceAdd, Nat.reduceMul, Nat.reduceSub, Nat.reduceLT, Nat.reduceLeDiff, Nat.reduceEqDiff, Nat.reducePow, Int.reduceToNat, Int.reduceLT, Int.reduceLE, Int.reduceNeg, Int.reduceEq, Int.reducePow, reduceIte, reduceCtorEq, Int.reduceMul, Int.reduceAdd, Int.reduceSub, Int.reduceMod, Int.reduceDiv, Int.reduceTDiv, Int.reduceTMod, iter_s]
  obtain ⟨a1, a2⟩ := ar_no ha
  by_cases hb : ar b
  rotate_left
  · rw [decide_eq_false (fun h => hb h.2.2.2.1)]
    rcases ar_split hb with g | ⟨g, g2⟩
    · simp -implicitDefEqProofs (maxSteps := 4000000) only [c22, c22b0, q0, h0, z1, z2, a1, a2, g, push_cast, Nat.reduceAdd, Nat.reduceMul, Nat.reduceSub, Nat.reduceLT, Nat.reduceLeDiff, Nat.reduceEqDiff, Nat.reducePow, Int.reduceToNat, Int.reduceLT, Int.reduceLE, Int.reduceNeg, Int.reduceEq, Int.reducePow, reduceIte, reduceCtorEq, Int.reduceMul, Int.reduceAdd, Int.reduceSub, Int.reduceMod, Int.reduceDiv, Int.reduceTDiv, Int.reduceTMod, iter_s]
    · simp -implicitDefEqProofs (maxSteps := 4000000) only [c22, c22b0, q0, h0, z1, z2, a1, a2, g, g2, push_cast, Nat.reduceAdd, Nat.reduceMul, Nat.reduceSub, Nat.reduceLT, Nat.reduceLeDiff, Nat.reduceEqDiff, Nat.reducePow, Int.reduceToNat, Int.reduceLT, Int.reduceLE, Int.reduceNeg, Int.reduceEq, Int.reducePow, reduceIte, reduceCtorEq, Int.reduceMul, Int.reduceAdd, Int.reduceSub, Int.reduceMod, Int.reduceDiv, Int.reduceTDiv, Int.reduceTMod, iter_s]
  obtain ⟨b1, b2⟩ := ar_no hb
  by_cases hc : ar c
  rotate_left
  · rw [decide_eq_false (fun h => hc h.2.2.2.2.1)]
    rcases ar_split hc with g | ⟨g, g2⟩
    · simp -implicitDefEqProofs (maxSteps := 4000000) only [c22, c22b0, q0, h0, z1, z2, a1, a2, b1, b2, g, push_cast, Nat.reduceAdd, Nat.reduceMul, Nat.reduceSub, Nat.reduceLT, Nat.reduceLeDiff, Nat.reduceEqDiff, Nat.reducePow, Int.reduceToNat, Int.reduceLT, Int.reduceLE, Int.reduceNeg, Int.reduceEq, Int.reducePow, reduceIte, reduceCtorEq, Int.reduceMul, Int.reduceAdd, Int.reduceSub, Int.reduceMod, Int.reduceDiv, Int.reduceTDiv, Int.reduceTMod, iter_s]
    · simp -implicitDefEqProofs (maxSteps := 4000000) only [c22, c22b0, q0, h0, z1, z2, a1, a2, b1, b2, g, g2, push_cast, Nat.reduceAdd, Nat.reduceMul, Nat.reduceSub, Nat.reduceLT, Nat.reduceLeDiff, Nat.reduceEqDiff, Nat.reducePow, Int.reduceToNat, Int.reduceLT, Int.reduceLE, Int.reduceNeg, Int.reduceEq, Int.reducePow, reduceIte, reduceCtorEq, Int.reduceMul, Int.reduceAdd, Int.reduceSub, Int.reduceMod, Int.reduceDiv, Int.reduceTDiv, Int.reduceTMod, iter_s]
  obtain ⟨c1, c2⟩ := ar_no hc
  by_cases hd : ar d
  rotate_left
  · rw [decide_eq_false (fun h => hd h.2.2.2.2.2.1)]
    rcases ar_split hd with g | ⟨g, g2⟩
    · simp -implicitDefEqProofs (maxSteps := 4000000) only [c22, c22b0, q0, h0, z1, z2, a1, a2, b1, b2, c1, c2, g, push_cast, Nat.reduceAdd, Nat.reduceMul, Nat.reduceSub, Nat.reduceLT, Nat.reduceLeDiff, Nat.reduceEqDiff, Nat.reducePow, Int.reduceToNat, Int.reduceLT, Int.reduceLE, Int.reduceNeg, Int.reduceEq, Int.reducePow, reduceIte, reduceCtorEq, Int.reduceMul, Int.reduceAdd, Int.reduceSub, Int.reduceMod, Int.reduceDiv, Int.reduceTDiv, Int.reduceTMod, iter_s]
    · simp -implicitDefEqProofs (maxSteps := 4000000) only [c22, c22b0, q0, h0, z1, z2, a1, a2, b1, b2, c1, c2, g, g2, push_cast, Nat.reduceAdd, Nat.reduceMul, Nat.reduceSub, Nat.reduceLT, Nat.reduceLeDiff, Nat.reduceEqDiff, Nat.reducePow, Int.reduceToNat, Int.reduceLT, Int.reduceLE, Int.reduceNeg, Int.reduceEq, Int.reducePow, reduceIte, reduceCtorEq, Int.reduceMul, Int.reduceAdd, Int.reduceSub, Int.reduceMod, Int.reduceDiv, Int.reduceTDiv, Int.reduceTMod, iter_s]
  obtain ⟨d1, d2⟩ := ar_no hd
  by_cases he : ar e
  rotate_left
  · rw [decide_eq_false (fun h => he h.2.2.2.2.2.2.1)]
    rcases ar_split he with g | ⟨g, g2⟩
    · simp -implicitDefEqProofs (maxSteps := 4000000) only [c22, c22b0, q0, h0, z1, z2, a1, a2, b1, b2, c1, c2, d1, d2, g, push_cast, Nat.reduceAdd, Nat.reduceMul, Nat.reduceSub, Nat.reduceLT, Nat.reduceLeDiff, Nat.reduceEqDiff, Nat.reducePow, Int.reduceToNat, Int.reduceLT, Int.reduceLE, Int.reduceNeg, Int.reduceEq, Int.reducePow, reduceIte, reduceCtorEq, Int.reduceMul, Int.reduceAdd, Int.reduceSub, Int.reduceMod, Int.reduceDiv, Int.reduceTDiv, Int.reduceTMod, iter_s]
    · simp -implicitDefEqProofs (maxSteps := 4000000) only [c22, c22b0, q0, h0, z1, z2, a1, a2, b1, b2, c1, c2, d1, d2, g, g2, push_cast, Nat.reduceAdd, Nat.reduceMul, Nat.reduceSub, Nat.reduceLT, Nat.reduceLeDiff, Nat.reduceEqDiff, Nat.reducePow, Int.reduceToNat, Int.reduceLT, Int.reduceLE, Int.reduceNeg, Int.reduceEq, Int.reducePow, reduceIte, reduceCtorEq, Int.reduceMul, Int.reduceAdd, Int.reduceSub, Int.reduceMod, Int.reduceDiv, Int.reduceTDiv, Int.reduceTMod, iter_s]
  obtain ⟨e1, e2⟩ := ar_no he
  by_cases hf : ar f
  rotate_left
  · rw [decide_eq_false (fun h => hf h.2.2.2.2.2.2.2)]
    rcases ar_split hf with g | ⟨g, g2⟩
    · simp -implicitDefEqProofs (maxSteps := 4000000) only [c22, c22b0, q0, h0, z1, z2, a1, a2, b1, b2, c1, c2, d1, d2, e1, e2, g, push_cast, Nat.reduceAdd, Nat.reduceMul, Nat.reduceSub, Nat.reduceLT, Nat.reduceLeDiff, Nat.reduceEqDiff, Nat.reducePow, Int.reduceToNat, Int.reduceLT, Int.reduceLE, Int.reduceNeg, Int.reduceEq, Int.reducePow, reduceIte, reduceCtorEq, Int.reduceMul, Int.reduceAdd, Int.reduceSub, Int.reduceMod, Int.reduceDiv, Int.reduceTDiv, Int.reduceTMod, iter_s]
    · simp -implicitDefEqProofs (maxSteps := 4000000) only [c22, c22b0, q0, h0, z1, z2, a1, a2, b1, b2, c1, c2, d1, d2, e1, e2, g, g2, push_cast, Nat.reduceAdd, Nat.reduceMul, Nat.reduceSub, Nat.reduceLT, Nat.reduceLeDiff, Nat.reduceEqDiff, Nat.reducePow, Int.reduceToNat, Int.reduceLT, Int.reduceLE, Int.reduceNeg, Int.reduceEq, Int.reducePow, reduceIte, reduceCtorEq, Int.reduceMul, Int.reduceAdd, Int.reduceSub, Int.reduceMod, Int.reduceDiv, Int.reduceTDiv, Int.reduceTMod, iter_s]
  obtain ⟨f1, f2⟩ := ar_no hf
  rw [decide_eq_true (show sm x y z a b c d e f from ⟨h0, hz, ha, hb, hc, hd, he, hf⟩)]
  simp -implicitDefEqProofs (maxSteps := 4000000) only [c22, c22b0, q0, h0, z1, z2, a1, a2, b1, b2, c1, c2, d1, d2, e1, e2, f1, f2, push_cast, Nat.reduceAdd, Nat.reduceMul, Nat.reduceSub, Nat.reduceLT, Nat.reduceLeDiff, Nat.reduceEqDiff, Nat.reducePow, Int.reduceToNat, Int.reduceLT, Int.reduceLE, Int.reduceNeg, Int.reduceEq, Int.reducePow, reduceIte, reduceCtorEq, Int.reduceMul, Int.reduceAdd, Int.reduceSub, Int.reduceMod, Int.reduceDiv, Int.reduceTDiv, Int.reduceTMod, iter_s]
end Go.Proofs.Ytjgnjpbplnmdmaa
