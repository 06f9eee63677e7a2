/- A state's check, the program's and the document's, as the evaluator answers (out of chapter 18's texts). -/
import Derived.Test.YtjgnjpbplnmdmaaBA
set_option linter.unusedSimpArgs false
set_option linter.unusedVariables false
set_option maxRecDepth 100000
set_option maxHeartbeats 16000000
namespace Go.Proofs.Ytjgnjpbplnmdmaa
open Go
def wi (n m : Int) : Bool := decide (-m ≤ n ∧ n ≤ m)
theorem s18_40 (k : Nat) (n m : Int) (hm : 0 ≤ m ∧ m ≤ 1099511627776) : evP (evF cm (k + 1)) 68 [.i n, .i m] = some (.b (wi n m)) := by
  rw [evP_fun (m := c68) rfl _ _ rfl]
  simp -implicitDefEqProofs only [c68, push_cast, Nat.reduceAdd, Nat.reduceMul, Nat.reduceSub, Nat.reduceLT, Nat.reduceLeDiff, Nat.reduceEqDiff, Nat.reducePow, Int.reduceToNat, Int.reduceLT, Int.reduceLE, Int.reduceNeg, Int.reduceEq, Int.reducePow, reduceIte, reduceCtorEq, Int.reduceMul, Int.reduceAdd, Int.reduceSub, Int.reduceMod, Int.reduceDiv, Int.reduceTDiv, Int.reduceTMod, iter_s]
  rw [w64 (0 - m) (by omega) (by omega)]
  unfold wi
  split
  · exact sbe (by omega)
  · exact sbf (by omega)
theorem s18_49 (k : Nat) (n m : Int) (hm : 0 ≤ m ∧ m ≤ 1099511627776) : evP (evF cm (k + 1)) 83 [.i n, .i m] = some (.b (wi n m)) := by
  rw [evP_fun (m := c83) rfl _ _ rfl]
  simp -implicitDefEqProofs only [c83, push_cast, Nat.reduceAdd, Nat.reduceMul, Nat.reduceSub, Nat.reduceLT, Nat.reduceLeDiff, Nat.reduceEqDiff, Nat.reducePow, Int.reduceToNat, Int.reduceLT, Int.reduceLE, Int.reduceNeg, Int.reduceEq, Int.reducePow, reduceIte, reduceCtorEq, Int.reduceMul, Int.reduceAdd, Int.reduceSub, Int.reduceMod, Int.reduceDiv, Int.reduceTDiv, Int.reduceTMod, iter_s]
  rw [w64 (0 - m) (by omega) (by omega)]
  unfold wi
  split
  · exact sbe (by omega)
  · exact sbf (by omega)
def may (l : List Int) : Bool := l.all fun n => wi n 16777216
theorem s18_15 (k : Nat) (m0 m1 m2 m3 m4 m5 m6 m7 m8 m9 m10 m11 m12 m13 m14 m15 : Int) : evP (evF cm (k + 30)) 40 [.agg [.i m0, .i m1, .i m2, .i m3, .i m4, .i m5, .i m6, .i m7, .i m8, .i m9, .i m10, .i m11, .i m12, .i m13, .i m14, .i m15]] = some (.b (may [m0, m1, m2, m3, m4, m5, m6, m7, m8, m9, m10, m11, m12, m13, m14, m15])) := by
  rw [evP_fun (m := c40) rfl _ _ rfl]
  simp -implicitDefEqProofs only [c40, c40b0, s18_40 _ _ 16777216 (by omega), push_cast, Nat.reduceAdd, Nat.reduceMul, Nat.reduceSub, Nat.reduceLT, Nat.reduceLeDiff, Nat.reduceEqDiff, Nat.reducePow, Int.reduceToNat, Int.reduceLT, Int.reduceLE, Int.reduceNeg, Int.reduceEq, Int.reducePow, reduceIte, reduceCtorEq, Int.reduceMul, Int.reduceAdd, Int.reduceSub, Int.reduceMod, Int.reduceDiv, Int.reduceTDiv, Int.reduceTMod, iter_s]
  simp only [may, List.all_cons, List.all_nil]
  cases wi m0 16777216
  · rfl
  cases wi m1 16777216
  · rfl
  cases wi m2 16777216
  · rfl
  cases wi m3 16777216
  · rfl
  cases wi m4 16777216
  · rfl
  cases wi m5 16777216
  · rfl
  cases wi m6 16777216
  · rfl
  cases wi m7 16777216
  · rfl
  cases wi m8 16777216
  · rfl
  cases wi m9 16777216
  · rfl
  cases wi m10 16777216
  · rfl
  cases wi m11 16777216
  · rfl
  cases wi m12 16777216
  · rfl
  cases wi m13 16777216
  · rfl
  cases wi m14 16777216
  · rfl
  cases wi m15 16777216
  · rfl
  rfl
theorem s18_48 (k : Nat) (m0 m1 m2 m3 m4 m5 m6 m7 m8 m9 m10 m11 m12 m13 m14 m15 : Int) : evP (evF cm (k + 30)) 82 [.agg [.i m0, .i m1, .i m2, .i m3, .i m4, .i m5, .i m6, .i m7, .i m8, .i m9, .i m10, .i m11, .i m12, .i m13, .i m14, .i m15]] = some (.b (may [m0, m1, m2, m3, m4, m5, m6, m7, m8, m9, m10, m11, m12, m13, m14, m15])) := by
  rw [evP_fun (m := c82) rfl _ _ rfl]
  simp -implicitDefEqProofs only [c82, c82b0, s18_49 _ _ 16777216 (by omega), push_cast, Nat.reduceAdd, Nat.reduceMul, Nat.reduceSub, Nat.reduceLT, Nat.reduceLeDiff, Nat.reduceEqDiff, Nat.reducePow, Int.reduceToNat, Int.reduceLT, Int.reduceLE, Int.reduceNeg, Int.reduceEq, Int.reducePow, reduceIte, reduceCtorEq, Int.reduceMul, Int.reduceAdd, Int.reduceSub, Int.reduceMod, Int.reduceDiv, Int.reduceTDiv, Int.reduceTMod, iter_s]
  simp only [may, List.all_cons, List.all_nil]
  cases wi m0 16777216
  · rfl
  cases wi m1 16777216
  · rfl
  cases wi m2 16777216
  · rfl
  cases wi m3 16777216
  · rfl
  cases wi m4 16777216
  · rfl
  cases wi m5 16777216
  · rfl
  cases wi m6 16777216
  · rfl
  cases wi m7 16777216
  · rfl
  cases wi m8 16777216
  · rfl
  cases wi m9 16777216
  · rfl
  cases wi m10 16777216
  · rfl
  cases wi m11 16777216
  · rfl
  cases wi m12 16777216
  · rfl
  cases wi m13 16777216
  · rfl
  cases wi m14 16777216
  · rfl
  cases wi m15 16777216
  · rfl
  rfl
theorem s18_47 (k : Nat) (x y z w : Int) : evP (evF cm (k + 1)) 81 [.agg [.i x, .i y, .i z, .i w]] = some (.agg [.i x, .i y, .i z, .i w]) := by
  rw [evP_fun (m := c81) rfl _ _ rfl]
  simp -implicitDefEqProofs only [c81, push_cast, Nat.reduceAdd, Nat.reduceMul, Nat.reduceSub, Nat.reduceLT, Nat.reduceLeDiff, Nat.reduceEqDiff, Nat.reducePow, Int.reduceToNat, Int.reduceLT, Int.reduceLE, Int.reduceNeg, Int.reduceEq, Int.reducePow, reduceIte, reduceCtorEq, Int.reduceMul, Int.reduceAdd, Int.reduceSub, Int.reduceMod, Int.reduceDiv, Int.reduceTDiv, Int.reduceTMod, iter_s]
theorem wi0 : wi 0 1073741824 = true := by decide
def mc (l : List Int) : Int := if may l then 0 else 11
theorem s18_42 (k : Nat) (m0 m1 m2 m3 m4 m5 m6 m7 m8 m9 m10 m11 m12 m13 m14 m15 : Int) (hm : may [m0, m1, m2, m3, m4, m5, m6, m7, m8, m9, m10, m11, m12, m13, m14, m15] = true) : evP (evF cm (k + 40)) 73 [.agg [.i m0, .i m1, .i m2, .i m3, .i m4, .i m5, .i m6, .i m7, .i m8, .i m9, .i m10, .i m11, .i m12, .i m13, .i m14, .i m15], .agg [.i 0, .i 0, .i 0, .i 0]] = some (.tup [.agg [.i 0, .i 0, .i 0, .i 0], .i 0]) := by
  rw [evP_fun (m := c73) rfl _ _ rfl]
  have f0 : (0 : Int).fdiv 65536 = 0 := rfl
  have w0 : IntKind.i64.wrap 0 = 0 := by decide
  simp -implicitDefEqProofs (maxSteps := 4000000) only [c73, c73b0, c73b1, s18_47, s18_48, s18_49 _ _ 1073741824 (by omega), hm, wi0, Int.mul_zero, Int.add_zero, w0, f0, push_cast, Nat.reduceAdd, Nat.reduceMul, Nat.reduceSub, Nat.reduceLT, Nat.reduceLeDiff, Nat.reduceEqDiff, Nat.reducePow, Int.reduceToNat, Int.reduceLT, Int.reduceLE, Int.reduceNeg, Int.reduceEq, Int.reducePow, reduceIte, reduceCtorEq, Int.reduceMul, Int.reduceAdd, Int.reduceSub, Int.reduceMod, Int.reduceDiv, Int.reduceTDiv, Int.reduceTMod, iter_s]
theorem s18_42f (k : Nat) (m0 m1 m2 m3 m4 m5 m6 m7 m8 m9 m10 m11 m12 m13 m14 m15 : Int) (hm : may [m0, m1, m2, m3, m4, m5, m6, m7, m8, m9, m10, m11, m12, m13, m14, m15] = false) : evP (evF cm (k + 40)) 73 [.agg [.i m0, .i m1, .i m2, .i m3, .i m4, .i m5, .i m6, .i m7, .i m8, .i m9, .i m10, .i m11, .i m12, .i m13, .i m14, .i m15], .agg [.i 0, .i 0, .i 0, .i 0]] = some (.tup [.agg [.i 0, .i 0, .i 0, .i 0], .i 3]) := by
  rw [evP_fun (m := c73) rfl _ _ rfl]
  simp -implicitDefEqProofs (maxSteps := 4000000) only [c73, s18_47, s18_48, hm, push_cast, Nat.reduceAdd, Nat.reduceMul, Nat.reduceSub, Nat.reduceLT, Nat.reduceLeDiff, Nat.reduceEqDiff, Nat.reducePow, Int.reduceToNat, Int.reduceLT, Int.reduceLE, Int.reduceNeg, Int.reduceEq, Int.reducePow, reduceIte, reduceCtorEq, Int.reduceMul, Int.reduceAdd, Int.reduceSub, Int.reduceMod, Int.reduceDiv, Int.reduceTDiv, Int.reduceTMod, iter_s]
theorem s18_21 (k : Nat) (m0 m1 m2 m3 m4 m5 m6 m7 m8 m9 m10 m11 m12 m13 m14 m15 : Int) : evP (evF cm (k + 42)) 54 [.agg [.i m0, .i m1, .i m2, .i m3, .i m4, .i m5, .i m6, .i m7, .i m8, .i m9, .i m10, .i m11, .i m12, .i m13, .i m14, .i m15]] = some (.i (mc [m0, m1, m2, m3, m4, m5, m6, m7, m8, m9, m10, m11, m12, m13, m14, m15])) := by
  rw [evP_fun (m := c54) rfl _ _ rfl]
  unfold mc
  cases hm : may [m0, m1, m2, m3, m4, m5, m6, m7, m8, m9, m10, m11, m12, m13, m14, m15]
  · simp -implicitDefEqProofs (maxSteps := 4000000) only [c54, s18_42f _ m0 m1 m2 m3 m4 m5 m6 m7 m8 m9 m10 m11 m12 m13 m14 m15 hm, push_cast, Nat.reduceAdd, Nat.reduceMul, Nat.reduceSub, Nat.reduceLT, Nat.reduceLeDiff, Nat.reduceEqDiff, Nat.reducePow, Int.reduceToNat, Int.reduceLT, Int.reduceLE, Int.reduceNeg, Int.reduceEq, Int.reducePow, reduceIte, reduceCtorEq, Int.reduceMul, Int.reduceAdd, Int.reduceSub, Int.reduceMod, Int.reduceDiv, Int.reduceTDiv, Int.reduceTMod, iter_s]
  · simp -implicitDefEqProofs (maxSteps := 4000000) only [c54, s18_42 _ m0 m1 m2 m3 m4 m5 m6 m7 m8 m9 m10 m11 m12 m13 m14 m15 hm, push_cast, Nat.reduceAdd, Nat.reduceMul, Nat.reduceSub, Nat.reduceLT, Nat.reduceLeDiff, Nat.reduceEqDiff, Nat.reducePow, Int.reduceToNat, Int.reduceLT, Int.reduceLE, Int.reduceNeg, Int.reduceEq, Int.reducePow, reduceIte, reduceCtorEq, Int.reduceMul, Int.reduceAdd, Int.reduceSub, Int.reduceMod, Int.reduceDiv, Int.reduceTDiv, Int.reduceTMod, iter_s]
def vw (p q r s : Int) : Prop := (-4096 ≤ p ∧ p ≤ 4096) ∧ (-4096 ≤ q ∧ q ≤ 4096) ∧ (p ≤ r ∧ r ≤ p + 4096) ∧ (q ≤ s ∧ s ≤ q + 4096)
instance (p q r s : Int) : Decidable (vw p q r s) := inferInstanceAs (Decidable ((-4096 ≤ p ∧ p ≤ 4096) ∧ (-4096 ≤ q ∧ q ≤ 4096) ∧ (p ≤ r ∧ r ≤ p + 4096) ∧ (q ≤ s ∧ s ≤ q + 4096)))
def vc (p q r s : Int) : Int := if vw p q r s then 0 else 12
theorem s18_22 (k : Nat) (p q r s : Int) : evP (evF cm (k + 2)) 55 [.agg [.i p, .i q, .i r, .i s]] = some (.i (vc p q r s)) := by
  rw [evP_fun (m := c55) rfl _ _ rfl]
  unfold vc
  by_cases hv : vw p q r s
  · rw [if_pos hv]
    unfold vw at hv
    simp -implicitDefEqProofs only [c55, push_cast, Nat.reduceAdd, Nat.reduceMul, Nat.reduceSub, Nat.reduceLT, Nat.reduceLeDiff, Nat.reduceEqDiff, Nat.reducePow, Int.reduceToNat, Int.reduceLT, Int.reduceLE, Int.reduceNeg, Int.reduceEq, Int.reducePow, reduceIte, reduceCtorEq, Int.reduceMul, Int.reduceAdd, Int.reduceSub, Int.reduceMod, Int.reduceDiv, Int.reduceTDiv, Int.reduceTMod, iter_s]
    simp only [IntKind.wrap_i64]
    repeat' split
    all_goals first | rfl | (exfalso; omega)
  · rw [if_neg hv]
    unfold vw at hv
    simp -implicitDefEqProofs only [c55, push_cast, Nat.reduceAdd, Nat.reduceMul, Nat.reduceSub, Nat.reduceLT, Nat.reduceLeDiff, Nat.reduceEqDiff, Nat.reducePow, Int.reduceToNat, Int.reduceLT, Int.reduceLE, Int.reduceNeg, Int.reduceEq, Int.reducePow, reduceIte, reduceCtorEq, Int.reduceMul, Int.reduceAdd, Int.reduceSub, Int.reduceMod, Int.reduceDiv, Int.reduceTDiv, Int.reduceTMod, iter_s]
    simp only [IntKind.wrap_i64]
    repeat' split
    all_goals first | rfl | (exfalso; omega)
theorem s18_16 (k : Nat) (p q r s : Int) : evP (evF cm (k + 2)) 41 [.agg [.i p, .i q, .i r, .i s]] = some (.b (decide (vw p q r s))) := by
  rw [evP_fun (m := c41) rfl _ _ rfl]
  simp -implicitDefEqProofs only [c41, push_cast, Nat.reduceAdd, Nat.reduceMul, Nat.reduceSub, Nat.reduceLT, Nat.reduceLeDiff, Nat.reduceEqDiff, Nat.reducePow, Int.reduceToNat, Int.reduceLT, Int.reduceLE, Int.reduceNeg, Int.reduceEq, Int.reducePow, reduceIte, reduceCtorEq, Int.reduceMul, Int.reduceAdd, Int.reduceSub, Int.reduceMod, Int.reduceDiv, Int.reduceTDiv, Int.reduceTMod, iter_s]
  simp only [IntKind.wrap_i64]
  unfold vw
  repeat' split
  all_goals first | exact sbt (by omega) | exact sbf (by omega) | exact sbe (by omega)
def tk7 (n : Int) : Prop := 0 ≤ n ∧ n ≤ 7
instance (n : Int) : Decidable (tk7 n) := inferInstanceAs (Decidable (0 ≤ n ∧ n ≤ 7))
def yk8 (n : Int) : Prop := 0 ≤ n ∧ n ≤ 255
instance (n : Int) : Decidable (yk8 n) := inferInstanceAs (Decidable (0 ≤ n ∧ n ≤ 255))
theorem s18_17 (k : Nat) (n : Int) : evP (evF cm (k + 1)) 42 [.i n] = some (.b (decide (tk7 n))) := by
  rw [evP_fun (m := c42) rfl _ _ rfl]
  simp -implicitDefEqProofs only [c42, push_cast, Nat.reduceAdd, Nat.reduceMul, Nat.reduceSub, Nat.reduceLT, Nat.reduceLeDiff, Nat.reduceEqDiff, Nat.reducePow, Int.reduceToNat, Int.reduceLT, Int.reduceLE, Int.reduceNeg, Int.reduceEq, Int.reducePow, reduceIte, reduceCtorEq, Int.reduceMul, Int.reduceAdd, Int.reduceSub, Int.reduceMod, Int.reduceDiv, Int.reduceTDiv, Int.reduceTMod, iter_s]
  unfold tk7
  repeat' split
  all_goals first | exact sbt (by omega) | exact sbf (by omega) | exact sbe (by omega) | rfl
theorem s18_41 (k : Nat) (n : Int) : evP (evF cm (k + 1)) 39 [.i n] = some (.b (decide (yk8 n))) := by
  rw [evP_fun (m := c39) rfl _ _ rfl]
  simp -implicitDefEqProofs only [c39, push_cast, Nat.reduceAdd, Nat.reduceMul, Nat.reduceSub, Nat.reduceLT, Nat.reduceLeDiff, Nat.reduceEqDiff, Nat.reducePow, Int.reduceToNat, Int.reduceLT, Int.reduceLE, Int.reduceNeg, Int.reduceEq, Int.reducePow, reduceIte, reduceCtorEq, Int.reduceMul, Int.reduceAdd, Int.reduceSub, Int.reduceMod, Int.reduceDiv, Int.reduceTDiv, Int.reduceTMod, iter_s]
  unfold yk8
  repeat' split
  all_goals first | exact sbt (by omega) | exact sbf (by omega) | exact sbe (by omega) | rfl
theorem s18_44 (k : Nat) (n : Int) : evP (evF cm (k + 1)) 75 [.i n] = some (.b (decide (tk7 n))) := by
  rw [evP_fun (m := c75) rfl _ _ rfl]
  simp -implicitDefEqProofs only [c75, push_cast, Nat.reduceAdd, Nat.reduceMul, Nat.reduceSub, Nat.reduceLT, Nat.reduceLeDiff, Nat.reduceEqDiff, Nat.reducePow, Int.reduceToNat, Int.reduceLT, Int.reduceLE, Int.reduceNeg, Int.reduceEq, Int.reducePow, reduceIte, reduceCtorEq, Int.reduceMul, Int.reduceAdd, Int.reduceSub, Int.reduceMod, Int.reduceDiv, Int.reduceTDiv, Int.reduceTMod, iter_s]
  unfold tk7
  repeat' split
  all_goals first | exact sbt (by omega) | exact sbf (by omega) | exact sbe (by omega) | rfl
theorem s18_45 (k : Nat) (n : Int) : evP (evF cm (k + 1)) 76 [.i n] = some (.b (decide (yk8 n))) := by
  rw [evP_fun (m := c76) rfl _ _ rfl]
  simp -implicitDefEqProofs only [c76, push_cast, Nat.reduceAdd, Nat.reduceMul, Nat.reduceSub, Nat.reduceLT, Nat.reduceLeDiff, Nat.reduceEqDiff, Nat.reducePow, Int.reduceToNat, Int.reduceLT, Int.reduceLE, Int.reduceNeg, Int.reduceEq, Int.reducePow, reduceIte, reduceCtorEq, Int.reduceMul, Int.reduceAdd, Int.reduceSub, Int.reduceMod, Int.reduceDiv, Int.reduceTDiv, Int.reduceTMod, iter_s]
  unfold yk8
  repeat' split
  all_goals first | exact sbt (by omega) | exact sbf (by omega) | exact sbe (by omega) | rfl
def tc (n : Int) : Int := if tk7 n then 0 else 9
theorem s18_50 (k : Nat) (n : Int) : evP (evF cm (k + 1)) 84 [.i n] = some (.i (tc n)) := by
  rw [evP_fun (m := c84) rfl _ _ rfl]
  unfold tc
  by_cases h : tk7 n
  · rw [if_pos h]
    unfold tk7 at h
    simp -implicitDefEqProofs only [c84, push_cast, Nat.reduceAdd, Nat.reduceMul, Nat.reduceSub, Nat.reduceLT, Nat.reduceLeDiff, Nat.reduceEqDiff, Nat.reducePow, Int.reduceToNat, Int.reduceLT, Int.reduceLE, Int.reduceNeg, Int.reduceEq, Int.reducePow, reduceIte, reduceCtorEq, Int.reduceMul, Int.reduceAdd, Int.reduceSub, Int.reduceMod, Int.reduceDiv, Int.reduceTDiv, Int.reduceTMod, iter_s]
    (repeat' split) <;> first | rfl | (exfalso; omega)
  · rw [if_neg h]
    unfold tk7 at h
    simp -implicitDefEqProofs only [c84, push_cast, Nat.reduceAdd, Nat.reduceMul, Nat.reduceSub, Nat.reduceLT, Nat.reduceLeDiff, Nat.reduceEqDiff, Nat.reducePow, Int.reduceToNat, Int.reduceLT, Int.reduceLE, Int.reduceNeg, Int.reduceEq, Int.reducePow, reduceIte, reduceCtorEq, Int.reduceMul, Int.reduceAdd, Int.reduceSub, Int.reduceMod, Int.reduceDiv, Int.reduceTDiv, Int.reduceTMod, iter_s]
    (repeat' split) <;> first | rfl | (exfalso; omega)
theorem s18_43 (k : Nat) (n : Int) : ∃ z, evP (evF cm (k + 2)) 74 [.i n] = some (.tup [.i z, .i (tc n)]) := by
  rw [evP_fun (m := c74) rfl _ _ rfl]
  by_cases h : tc n = 0
  · simp -implicitDefEqProofs only [c74, s18_50, h, push_cast, Nat.reduceAdd, Nat.reduceMul, Nat.reduceSub, Nat.reduceLT, Nat.reduceLeDiff, Nat.reduceEqDiff, Nat.reducePow, Int.reduceToNat, Int.reduceLT, Int.reduceLE, Int.reduceNeg, Int.reduceEq, Int.reducePow, reduceIte, reduceCtorEq, Int.reduceMul, Int.reduceAdd, Int.reduceSub, Int.reduceMod, Int.reduceDiv, Int.reduceTDiv, Int.reduceTMod, iter_s]
    exact ⟨_, rfl⟩
  · simp -implicitDefEqProofs only [c74, s18_50, h, push_cast, Nat.reduceAdd, Nat.reduceMul, Nat.reduceSub, Nat.reduceLT, Nat.reduceLeDiff, Nat.reduceEqDiff, Nat.reducePow, Int.reduceToNat, Int.reduceLT, Int.reduceLE, Int.reduceNeg, Int.reduceEq, Int.reducePow, reduceIte, reduceCtorEq, Int.reduceMul, Int.reduceAdd, Int.reduceSub, Int.reduceMod, Int.reduceDiv, Int.reduceTDiv, Int.reduceTMod, iter_s]
    exact ⟨_, rfl⟩
theorem s18_23 (k : Nat) (n : Int) : evP (evF cm (k + 3)) 56 [.i n] = some (.i (tc n)) := by
  rw [evP_fun (m := c56) rfl _ _ rfl]
  obtain ⟨z, hz⟩ := s18_43 k n
  simp -implicitDefEqProofs only [c56, hz, push_cast, Nat.reduceAdd, Nat.reduceMul, Nat.reduceSub, Nat.reduceLT, Nat.reduceLeDiff, Nat.reduceEqDiff, Nat.reducePow, Int.reduceToNat, Int.reduceLT, Int.reduceLE, Int.reduceNeg, Int.reduceEq, Int.reducePow, reduceIte, reduceCtorEq, Int.reduceMul, Int.reduceAdd, Int.reduceSub, Int.reduceMod, Int.reduceDiv, Int.reduceTDiv, Int.reduceTMod, iter_s]
def sc (t0 t1 t2 t3 t4 t5 t6 : Int) : Int := if tk7 t0 ∧ tk7 t4 ∧ tk7 t5 ∧ tk7 t6 then (if yk8 t1 ∧ yk8 t2 ∧ yk8 t3 then 0 else 3) else 9
theorem s18_18 (k : Nat) (t0 t1 t2 t3 t4 t5 t6 : Int) : evP (evF cm (k + 4)) 43 [.agg [.i t0, .i t1, .i t2, .i t3, .i t4, .i t5, .i t6]] = some (.i (sc t0 t1 t2 t3 t4 t5 t6)) := by
  rw [evP_fun (m := c43) rfl _ _ rfl]
  unfold sc
  by_cases g0 : tk7 t0
  · skip
    by_cases g4 : tk7 t4
    · skip
      by_cases g5 : tk7 t5
      · skip
        by_cases g6 : tk7 t6
        · skip
          by_cases g1 : yk8 t1
          · skip
            by_cases g2 : yk8 t2
            · skip
              by_cases g3 : yk8 t3
              · skip
                simp -implicitDefEqProofs only [c43, s18_17, s18_41, g0, g4, g5, g6, g1, g2, g3, push_cast, Nat.reduceAdd, Nat.reduceMul, Nat.reduceSub, Nat.reduceLT, Nat.reduceLeDiff, Nat.reduceEqDiff, Nat.reducePow, Int.reduceToNat, Int.reduceLT, Int.reduceLE, Int.reduceNeg, Int.reduceEq, Int.reducePow, reduceIte, reduceCtorEq, Int.reduceMul, Int.reduceAdd, Int.reduceSub, Int.reduceMod, Int.reduceDiv, Int.reduceTDiv, Int.reduceTMod, iter_s]
              · simp -implicitDefEqProofs only [c43, s18_17, s18_41, g0, g4, g5, g6, g1, g2, g3, push_cast, Nat.reduceAdd, Nat.reduceMul, Nat.reduceSub, Nat.reduceLT, Nat.reduceLeDiff, Nat.reduceEqDiff, Nat.reducePow, Int.reduceToNat, Int.reduceLT, Int.reduceLE, Int.reduceNeg, Int.reduceEq, Int.reducePow, reduceIte, reduceCtorEq, Int.reduceMul, Int.reduceAdd, Int.reduceSub, Int.reduceMod, Int.reduceDiv, Int.reduceTDiv, Int.reduceTMod, iter_s]
            · simp -implicitDefEqProofs only [c43, s18_17, s18_41, g0, g4, g5, g6, g1, g2, push_cast, Nat.reduceAdd, Nat.reduceMul, Nat.reduceSub, Nat.reduceLT, Nat.reduceLeDiff, Nat.reduceEqDiff, Nat.reducePow, Int.reduceToNat, Int.reduceLT, Int.reduceLE, Int.reduceNeg, Int.reduceEq, Int.reducePow, reduceIte, reduceCtorEq, Int.reduceMul, Int.reduceAdd, Int.reduceSub, Int.reduceMod, Int.reduceDiv, Int.reduceTDiv, Int.reduceTMod, iter_s]
          · simp -implicitDefEqProofs only [c43, s18_17, s18_41, g0, g4, g5, g6, g1, push_cast, Nat.reduceAdd, Nat.reduceMul, Nat.reduceSub, Nat.reduceLT, Nat.reduceLeDiff, Nat.reduceEqDiff, Nat.reducePow, Int.reduceToNat, Int.reduceLT, Int.reduceLE, Int.reduceNeg, Int.reduceEq, Int.reducePow, reduceIte, reduceCtorEq, Int.reduceMul, Int.reduceAdd, Int.reduceSub, Int.reduceMod, Int.reduceDiv, Int.reduceTDiv, Int.reduceTMod, iter_s]
        · simp -implicitDefEqProofs only [c43, s18_17, s18_41, g0, g4, g5, g6, push_cast, Nat.reduceAdd, Nat.reduceMul, Nat.reduceSub, Nat.reduceLT, Nat.reduceLeDiff, Nat.reduceEqDiff, Nat.reducePow, Int.reduceToNat, Int.reduceLT, Int.reduceLE, Int.reduceNeg, Int.reduceEq, Int.reducePow, reduceIte, reduceCtorEq, Int.reduceMul, Int.reduceAdd, Int.reduceSub, Int.reduceMod, Int.reduceDiv, Int.reduceTDiv, Int.reduceTMod, iter_s]
      · simp -implicitDefEqProofs only [c43, s18_17, s18_41, g0, g4, g5, push_cast, Nat.reduceAdd, Nat.reduceMul, Nat.reduceSub, Nat.reduceLT, Nat.reduceLeDiff, Nat.reduceEqDiff, Nat.reducePow, Int.reduceToNat, Int.reduceLT, Int.reduceLE, Int.reduceNeg, Int.reduceEq, Int.reducePow, reduceIte, reduceCtorEq, Int.reduceMul, Int.reduceAdd, Int.reduceSub, Int.reduceMod, Int.reduceDiv, Int.reduceTDiv, Int.reduceTMod, iter_s]
    · simp -implicitDefEqProofs only [c43, s18_17, s18_41, g0, g4, push_cast, Nat.reduceAdd, Nat.reduceMul, Nat.reduceSub, Nat.reduceLT, Nat.reduceLeDiff, Nat.reduceEqDiff, Nat.reducePow, Int.reduceToNat, Int.reduceLT, Int.reduceLE, Int.reduceNeg, Int.reduceEq, Int.reducePow, reduceIte, reduceCtorEq, Int.reduceMul, Int.reduceAdd, Int.reduceSub, Int.reduceMod, Int.reduceDiv, Int.reduceTDiv, Int.reduceTMod, iter_s]
  · simp -implicitDefEqProofs only [c43, s18_17, s18_41, g0, push_cast, Nat.reduceAdd, Nat.reduceMul, Nat.reduceSub, Nat.reduceLT, Nat.reduceLeDiff, Nat.reduceEqDiff, Nat.reducePow, Int.reduceToNat, Int.reduceLT, Int.reduceLE, Int.reduceNeg, Int.reduceEq, Int.reducePow, reduceIte, reduceCtorEq, Int.reduceMul, Int.reduceAdd, Int.reduceSub, Int.reduceMod, Int.reduceDiv, Int.reduceTDiv, Int.reduceTMod, iter_s]
theorem s18_24 (k : Nat) (t0 t1 t2 t3 t4 t5 t6 : Int) : evP (evF cm (k + 4)) 57 [.agg [.i t0, .i t1, .i t2, .i t3, .i t4, .i t5, .i t6]] = some (.i (sc t0 t1 t2 t3 t4 t5 t6)) := by
  rw [evP_fun (m := c57) rfl _ _ rfl]
  unfold sc
  by_cases g0 : tk7 t0
  · have g00 := g0
    unfold tk7 at g00
    have n0 : ¬ t0 < 0 := by omega
    have n1 : ¬ 7 < t0 := by omega
    by_cases g4 : tk7 t4
    · skip
      by_cases g5 : tk7 t5
      · skip
        by_cases g6 : tk7 t6
        · skip
          by_cases g1 : yk8 t1
          · skip
            by_cases g2 : yk8 t2
            · skip
              by_cases g3 : yk8 t3
              · skip
                simp -implicitDefEqProofs only [c57, s18_44, s18_45, n0, n1, g0, g4, g5, g6, g1, g2, g3, push_cast, Nat.reduceAdd, Nat.reduceMul, Nat.reduceSub, Nat.reduceLT, Nat.reduceLeDiff, Nat.reduceEqDiff, Nat.reducePow, Int.reduceToNat, Int.reduceLT, Int.reduceLE, Int.reduceNeg, Int.reduceEq, Int.reducePow, reduceIte, reduceCtorEq, Int.reduceMul, Int.reduceAdd, Int.reduceSub, Int.reduceMod, Int.reduceDiv, Int.reduceTDiv, Int.reduceTMod, iter_s]
              · simp -implicitDefEqProofs only [c57, s18_44, s18_45, n0, n1, g0, g4, g5, g6, g1, g2, g3, push_cast, Nat.reduceAdd, Nat.reduceMul, Nat.reduceSub, Nat.reduceLT, Nat.reduceLeDiff, Nat.reduceEqDiff, Nat.reducePow, Int.reduceToNat, Int.reduceLT, Int.reduceLE, Int.reduceNeg, Int.reduceEq, Int.reducePow, reduceIte, reduceCtorEq, Int.reduceMul, Int.reduceAdd, Int.reduceSub, Int.reduceMod, Int.reduceDiv, Int.reduceTDiv, Int.reduceTMod, iter_s]
            · simp -implicitDefEqProofs only [c57, s18_44, s18_45, n0, n1, g0, g4, g5, g6, g1, g2, push_cast, Nat.reduceAdd, Nat.reduceMul, Nat.reduceSub, Nat.reduceLT, Nat.reduceLeDiff, Nat.reduceEqDiff, Nat.reducePow, Int.reduceToNat, Int.reduceLT, Int.reduceLE, Int.reduceNeg, Int.reduceEq, Int.reducePow, reduceIte, reduceCtorEq, Int.reduceMul, Int.reduceAdd, Int.reduceSub, Int.reduceMod, Int.reduceDiv, Int.reduceTDiv, Int.reduceTMod, iter_s]
          · simp -implicitDefEqProofs only [c57, s18_44, s18_45, n0, n1, g0, g4, g5, g6, g1, push_cast, Nat.reduceAdd, Nat.reduceMul, Nat.reduceSub, Nat.reduceLT, Nat.reduceLeDiff, Nat.reduceEqDiff, Nat.reducePow, Int.reduceToNat, Int.reduceLT, Int.reduceLE, Int.reduceNeg, Int.reduceEq, Int.reducePow, reduceIte, reduceCtorEq, Int.reduceMul, Int.reduceAdd, Int.reduceSub, Int.reduceMod, Int.reduceDiv, Int.reduceTDiv, Int.reduceTMod, iter_s]
        · simp -implicitDefEqProofs only [c57, s18_44, s18_45, n0, n1, g0, g4, g5, g6, push_cast, Nat.reduceAdd, Nat.reduceMul, Nat.reduceSub, Nat.reduceLT, Nat.reduceLeDiff, Nat.reduceEqDiff, Nat.reducePow, Int.reduceToNat, Int.reduceLT, Int.reduceLE, Int.reduceNeg, Int.reduceEq, Int.reducePow, reduceIte, reduceCtorEq, Int.reduceMul, Int.reduceAdd, Int.reduceSub, Int.reduceMod, Int.reduceDiv, Int.reduceTDiv, Int.reduceTMod, iter_s]
      · simp -implicitDefEqProofs only [c57, s18_44, s18_45, n0, n1, g0, g4, g5, push_cast, Nat.reduceAdd, Nat.reduceMul, Nat.reduceSub, Nat.reduceLT, Nat.reduceLeDiff, Nat.reduceEqDiff, Nat.reducePow, Int.reduceToNat, Int.reduceLT, Int.reduceLE, Int.reduceNeg, Int.reduceEq, Int.reducePow, reduceIte, reduceCtorEq, Int.reduceMul, Int.reduceAdd, Int.reduceSub, Int.reduceMod, Int.reduceDiv, Int.reduceTDiv, Int.reduceTMod, iter_s]
    · simp -implicitDefEqProofs only [c57, s18_44, s18_45, n0, n1, g0, g4, push_cast, Nat.reduceAdd, Nat.reduceMul, Nat.reduceSub, Nat.reduceLT, Nat.reduceLeDiff, Nat.reduceEqDiff, Nat.reducePow, Int.reduceToNat, Int.reduceLT, Int.reduceLE, Int.reduceNeg, Int.reduceEq, Int.reducePow, reduceIte, reduceCtorEq, Int.reduceMul, Int.reduceAdd, Int.reduceSub, Int.reduceMod, Int.reduceDiv, Int.reduceTDiv, Int.reduceTMod, iter_s]
  · by_cases n0 : t0 < 0
    · simp -implicitDefEqProofs only [c57, s18_44, s18_45, n0, g0, push_cast, Nat.reduceAdd, Nat.reduceMul, Nat.reduceSub, Nat.reduceLT, Nat.reduceLeDiff, Nat.reduceEqDiff, Nat.reducePow, Int.reduceToNat, Int.reduceLT, Int.reduceLE, Int.reduceNeg, Int.reduceEq, Int.reducePow, reduceIte, reduceCtorEq, Int.reduceMul, Int.reduceAdd, Int.reduceSub, Int.reduceMod, Int.reduceDiv, Int.reduceTDiv, Int.reduceTMod, iter_s]
    · have n1 : 7 < t0 := by unfold tk7 at g0; omega
      simp -implicitDefEqProofs only [c57, s18_44, s18_45, n0, n1, g0, push_cast, Nat.reduceAdd, Nat.reduceMul, Nat.reduceSub, Nat.reduceLT, Nat.reduceLeDiff, Nat.reduceEqDiff, Nat.reducePow, Int.reduceToNat, Int.reduceLT, Int.reduceLE, Int.reduceNeg, Int.reduceEq, Int.reducePow, reduceIte, reduceCtorEq, Int.reduceMul, Int.reduceAdd, Int.reduceSub, Int.reduceMod, Int.reduceDiv, Int.reduceTDiv, Int.reduceTMod, iter_s]
def bq (p q e : Int) : Prop := (0 ≤ p ∧ p ≤ 9) ∧ (0 ≤ q ∧ q ≤ 9) ∧ (0 ≤ e ∧ e ≤ 4)
instance (p q e : Int) : Decidable (bq p q e) := inferInstanceAs (Decidable ((0 ≤ p ∧ p ≤ 9) ∧ (0 ≤ q ∧ q ≤ 9) ∧ (0 ≤ e ∧ e ≤ 4)))
def bc (p q e m : Int) : Int := if bq p q e then (if 0 ≤ m ∧ m ≤ 15 then 0 else 3) else 9
theorem s18_25 (k : Nat) (p q e m : Int) : evP (evF cm (k + 2)) 58 [.agg [.i p, .i q, .i e, .i m]] = some (.i (bc p q e m)) := by
  rw [evP_fun (m := c58) rfl _ _ rfl]
  unfold bc
  by_cases h : bq p q e
  · rw [if_pos h]
    unfold bq at h
    by_cases h' : 0 ≤ m ∧ m ≤ 15
    · rw [if_pos h']
      simp -implicitDefEqProofs only [c58, push_cast, Nat.reduceAdd, Nat.reduceMul, Nat.reduceSub, Nat.reduceLT, Nat.reduceLeDiff, Nat.reduceEqDiff, Nat.reducePow, Int.reduceToNat, Int.reduceLT, Int.reduceLE, Int.reduceNeg, Int.reduceEq, Int.reducePow, reduceIte, reduceCtorEq, Int.reduceMul, Int.reduceAdd, Int.reduceSub, Int.reduceMod, Int.reduceDiv, Int.reduceTDiv, Int.reduceTMod, iter_s]
      (repeat' split) <;> first | rfl | (exfalso; omega)
    · rw [if_neg h']
      simp -implicitDefEqProofs only [c58, push_cast, Nat.reduceAdd, Nat.reduceMul, Nat.reduceSub, Nat.reduceLT, Nat.reduceLeDiff, Nat.reduceEqDiff, Nat.reducePow, Int.reduceToNat, Int.reduceLT, Int.reduceLE, Int.reduceNeg, Int.reduceEq, Int.reducePow, reduceIte, reduceCtorEq, Int.reduceMul, Int.reduceAdd, Int.reduceSub, Int.reduceMod, Int.reduceDiv, Int.reduceTDiv, Int.reduceTMod, iter_s]
      (repeat' split) <;> first | rfl | (exfalso; omega)
  · rw [if_neg h]
    unfold bq at h
    simp -implicitDefEqProofs only [c58, push_cast, Nat.reduceAdd, Nat.reduceMul, Nat.reduceSub, Nat.reduceLT, Nat.reduceLeDiff, Nat.reduceEqDiff, Nat.reducePow, Int.reduceToNat, Int.reduceLT, Int.reduceLE, Int.reduceNeg, Int.reduceEq, Int.reducePow, reduceIte, reduceCtorEq, Int.reduceMul, Int.reduceAdd, Int.reduceSub, Int.reduceMod, Int.reduceDiv, Int.reduceTDiv, Int.reduceTMod, iter_s]
    (repeat' split) <;> first | rfl | (exfalso; omega)
theorem s18_19 (k : Nat) (p q e m : Int) : evP (evF cm (k + 2)) 44 [.agg [.i p, .i q, .i e, .i m]] = some (.i (bc p q e m)) := by
  rw [evP_fun (m := c44) rfl _ _ rfl]
  unfold bc
  by_cases h : bq p q e
  · rw [if_pos h]
    unfold bq at h
    by_cases h' : 0 ≤ m ∧ m ≤ 15
    · rw [if_pos h']
      simp -implicitDefEqProofs only [c44, push_cast, Nat.reduceAdd, Nat.reduceMul, Nat.reduceSub, Nat.reduceLT, Nat.reduceLeDiff, Nat.reduceEqDiff, Nat.reducePow, Int.reduceToNat, Int.reduceLT, Int.reduceLE, Int.reduceNeg, Int.reduceEq, Int.reducePow, reduceIte, reduceCtorEq, Int.reduceMul, Int.reduceAdd, Int.reduceSub, Int.reduceMod, Int.reduceDiv, Int.reduceTDiv, Int.reduceTMod, iter_s]
      (repeat' split) <;> first | rfl | (exfalso; omega)
    · rw [if_neg h']
      simp -implicitDefEqProofs only [c44, push_cast, Nat.reduceAdd, Nat.reduceMul, Nat.reduceSub, Nat.reduceLT, Nat.reduceLeDiff, Nat.reduceEqDiff, Nat.reducePow, Int.reduceToNat, Int.reduceLT, Int.reduceLE, Int.reduceNeg, Int.reduceEq, Int.reducePow, reduceIte, reduceCtorEq, Int.reduceMul, Int.reduceAdd, Int.reduceSub, Int.reduceMod, Int.reduceDiv, Int.reduceTDiv, Int.reduceTMod, iter_s]
      (repeat' split) <;> first | rfl | (exfalso; omega)
  · rw [if_neg h]
    unfold bq at h
    simp -implicitDefEqProofs only [c44, push_cast, Nat.reduceAdd, Nat.reduceMul, Nat.reduceSub, Nat.reduceLT, Nat.reduceLeDiff, Nat.reduceEqDiff, Nat.reducePow, Int.reduceToNat, Int.reduceLT, Int.reduceLE, Int.reduceNeg, Int.reduceEq, Int.reducePow, reduceIte, reduceCtorEq, Int.reduceMul, Int.reduceAdd, Int.reduceSub, Int.reduceMod, Int.reduceDiv, Int.reduceTDiv, Int.reduceTMod, iter_s]
    (repeat' split) <;> first | rfl | (exfalso; omega)
def kc (n : Int) : Int := if 0 ≤ n ∧ n ≤ 2 then 0 else 9
theorem s18_26 (k : Nat) (n : Int) : evP (evF cm (k + 1)) 59 [.i n] = some (.i (kc n)) := by
  rw [evP_fun (m := c59) rfl _ _ rfl]
  unfold kc
  by_cases hv : 0 ≤ n ∧ n ≤ 2
  · rw [if_pos hv]
    simp -implicitDefEqProofs only [c59, push_cast, Nat.reduceAdd, Nat.reduceMul, Nat.reduceSub, Nat.reduceLT, Nat.reduceLeDiff, Nat.reduceEqDiff, Nat.reducePow, Int.reduceToNat, Int.reduceLT, Int.reduceLE, Int.reduceNeg, Int.reduceEq, Int.reducePow, reduceIte, reduceCtorEq, Int.reduceMul, Int.reduceAdd, Int.reduceSub, Int.reduceMod, Int.reduceDiv, Int.reduceTDiv, Int.reduceTMod, iter_s]
    (repeat' split) <;> first | rfl | (exfalso; omega)
  · rw [if_neg hv]
    simp -implicitDefEqProofs only [c59, push_cast, Nat.reduceAdd, Nat.reduceMul, Nat.reduceSub, Nat.reduceLT, Nat.reduceLeDiff, Nat.reduceEqDiff, Nat.reducePow, Int.reduceToNat, Int.reduceLT, Int.reduceLE, Int.reduceNeg, Int.reduceEq, Int.reducePow, reduceIte, reduceCtorEq, Int.reduceMul, Int.reduceAdd, Int.reduceSub, Int.reduceMod, Int.reduceDiv, Int.reduceTDiv, Int.reduceTMod, iter_s]
    (repeat' split) <;> first | rfl | (exfalso; omega)
def hc (n : Int) : Int := if 0 ≤ n ∧ n ≤ 64 then 0 else 7
theorem s18_27 (k : Nat) (n : Int) : evP (evF cm (k + 1)) 60 [.i n] = some (.i (hc n)) := by
  rw [evP_fun (m := c60) rfl _ _ rfl]
  unfold hc
  by_cases hv : 0 ≤ n ∧ n ≤ 64
  · rw [if_pos hv]
    simp -implicitDefEqProofs only [c60, push_cast, Nat.reduceAdd, Nat.reduceMul, Nat.reduceSub, Nat.reduceLT, Nat.reduceLeDiff, Nat.reduceEqDiff, Nat.reducePow, Int.reduceToNat, Int.reduceLT, Int.reduceLE, Int.reduceNeg, Int.reduceEq, Int.reducePow, reduceIte, reduceCtorEq, Int.reduceMul, Int.reduceAdd, Int.reduceSub, Int.reduceMod, Int.reduceDiv, Int.reduceTDiv, Int.reduceTMod, iter_s]
    (repeat' split) <;> first | rfl | (exfalso; omega)
  · rw [if_neg hv]
    simp -implicitDefEqProofs only [c60, push_cast, Nat.reduceAdd, Nat.reduceMul, Nat.reduceSub, Nat.reduceLT, Nat.reduceLeDiff, Nat.reduceEqDiff, Nat.reducePow, Int.reduceToNat, Int.reduceLT, Int.reduceLE, Int.reduceNeg, Int.reduceEq, Int.reducePow, reduceIte, reduceCtorEq, Int.reduceMul, Int.reduceAdd, Int.reduceSub, Int.reduceMod, Int.reduceDiv, Int.reduceTDiv, Int.reduceTMod, iter_s]
    (repeat' split) <;> first | rfl | (exfalso; omega)
def uc (n : Int) : Int := if n = 0 ∨ n = 1 then 0 else 2
def oq (x y w h : Int) : Prop := (-4096 ≤ x ∧ x ≤ 4096) ∧ (-4096 ≤ y ∧ y ≤ 4096) ∧ (0 ≤ w ∧ w ≤ 4096) ∧ (0 ≤ h ∧ h ≤ 4096)
instance (x y w h : Int) : Decidable (oq x y w h) := inferInstanceAs (Decidable ((-4096 ≤ x ∧ x ≤ 4096) ∧ (-4096 ≤ y ∧ y ≤ 4096) ∧ (0 ≤ w ∧ w ≤ 4096) ∧ (0 ≤ h ∧ h ≤ 4096)))
def fst2 (x0 x1 : Int) : Int := if x0 = 0 then (x1) else x0
theorem s18_20_2 (k : Nat) (x0 x1 : Int) : evP (evF cm (k + 15)) 53 [.im [.i x0, .i x1] 2 true] = some (.i (fst2 x0 x1)) := by
  rw [evP_fun (m := c53) rfl _ _ rfl]
  unfold fst2
  by_cases h0 : x0 = 0
  · skip
    by_cases h1 : x1 = 0
    · skip
      simp -implicitDefEqProofs only [c53, c53b0, h0, h1, push_cast, Nat.reduceAdd, Nat.reduceMul, Nat.reduceSub, Nat.reduceLT, Nat.reduceLeDiff, Nat.reduceEqDiff, Nat.reducePow, Int.reduceToNat, Int.reduceLT, Int.reduceLE, Int.reduceNeg, Int.reduceEq, Int.reducePow, reduceIte, reduceCtorEq, Int.reduceMul, Int.reduceAdd, Int.reduceSub, Int.reduceMod, Int.reduceDiv, Int.reduceTDiv, Int.reduceTMod, iter_s]
    · simp -implicitDefEqProofs only [c53, c53b0, h0, h1, push_cast, Nat.reduceAdd, Nat.reduceMul, Nat.reduceSub, Nat.reduceLT, Nat.reduceLeDiff, Nat.reduceEqDiff, Nat.reducePow, Int.reduceToNat, Int.reduceLT, Int.reduceLE, Int.reduceNeg, Int.reduceEq, Int.reducePow, reduceIte, reduceCtorEq, Int.reduceMul, Int.reduceAdd, Int.reduceSub, Int.reduceMod, Int.reduceDiv, Int.reduceTDiv, Int.reduceTMod, iter_s]
  · simp -implicitDefEqProofs only [c53, c53b0, h0, push_cast, Nat.reduceAdd, Nat.reduceMul, Nat.reduceSub, Nat.reduceLT, Nat.reduceLeDiff, Nat.reduceEqDiff, Nat.reducePow, Int.reduceToNat, Int.reduceLT, Int.reduceLE, Int.reduceNeg, Int.reduceEq, Int.reducePow, reduceIte, reduceCtorEq, Int.reduceMul, Int.reduceAdd, Int.reduceSub, Int.reduceMod, Int.reduceDiv, Int.reduceTDiv, Int.reduceTMod, iter_s]
def fst3 (x0 x1 x2 : Int) : Int := if x0 = 0 then (if x1 = 0 then (x2) else x1) else x0
theorem s18_20_3 (k : Nat) (x0 x1 x2 : Int) : evP (evF cm (k + 15)) 53 [.im [.i x0, .i x1, .i x2] 3 true] = some (.i (fst3 x0 x1 x2)) := by
  rw [evP_fun (m := c53) rfl _ _ rfl]
  unfold fst3
  by_cases h0 : x0 = 0
  · skip
    by_cases h1 : x1 = 0
    · skip
      by_cases h2 : x2 = 0
      · skip
        simp -implicitDefEqProofs only [c53, c53b0, h0, h1, h2, push_cast, Nat.reduceAdd, Nat.reduceMul, Nat.reduceSub, Nat.reduceLT, Nat.reduceLeDiff, Nat.reduceEqDiff, Nat.reducePow, Int.reduceToNat, Int.reduceLT, Int.reduceLE, Int.reduceNeg, Int.reduceEq, Int.reducePow, reduceIte, reduceCtorEq, Int.reduceMul, Int.reduceAdd, Int.reduceSub, Int.reduceMod, Int.reduceDiv, Int.reduceTDiv, Int.reduceTMod, iter_s]
      · simp -implicitDefEqProofs only [c53, c53b0, h0, h1, h2, push_cast, Nat.reduceAdd, Nat.reduceMul, Nat.reduceSub, Nat.reduceLT, Nat.reduceLeDiff, Nat.reduceEqDiff, Nat.reducePow, Int.reduceToNat, Int.reduceLT, Int.reduceLE, Int.reduceNeg, Int.reduceEq, Int.reducePow, reduceIte, reduceCtorEq, Int.reduceMul, Int.reduceAdd, Int.reduceSub, Int.reduceMod, Int.reduceDiv, Int.reduceTDiv, Int.reduceTMod, iter_s]
    · simp -implicitDefEqProofs only [c53, c53b0, h0, h1, push_cast, Nat.reduceAdd, Nat.reduceMul, Nat.reduceSub, Nat.reduceLT, Nat.reduceLeDiff, Nat.reduceEqDiff, Nat.reducePow, Int.reduceToNat, Int.reduceLT, Int.reduceLE, Int.reduceNeg, Int.reduceEq, Int.reducePow, reduceIte, reduceCtorEq, Int.reduceMul, Int.reduceAdd, Int.reduceSub, Int.reduceMod, Int.reduceDiv, Int.reduceTDiv, Int.reduceTMod, iter_s]
  · simp -implicitDefEqProofs only [c53, c53b0, h0, push_cast, Nat.reduceAdd, Nat.reduceMul, Nat.reduceSub, Nat.reduceLT, Nat.reduceLeDiff, Nat.reduceEqDiff, Nat.reducePow, Int.reduceToNat, Int.reduceLT, Int.reduceLE, Int.reduceNeg, Int.reduceEq, Int.reducePow, reduceIte, reduceCtorEq, Int.reduceMul, Int.reduceAdd, Int.reduceSub, Int.reduceMod, Int.reduceDiv, Int.reduceTDiv, Int.reduceTMod, iter_s]
def fst9 (x0 x1 x2 x3 x4 x5 x6 x7 x8 : Int) : Int := if x0 = 0 then (if x1 = 0 then (if x2 = 0 then (if x3 = 0 then (if x4 = 0 then (if x5 = 0 then (if x6 = 0 then (if x7 = 0 then (x8) else x7) else x6) else x5) else x4) else x3) else x2) else x1) else x0
theorem s18_20_9 (k : Nat) (x0 x1 x2 x3 x4 x5 x6 x7 x8 : Int) : evP (evF cm (k + 15)) 53 [.im [.i x0, .i x1, .i x2, .i x3, .i x4, .i x5, .i x6, .i x7, .i x8] 9 true] = some (.i (fst9 x0 x1 x2 x3 x4 x5 x6 x7 x8)) := by
  rw [evP_fun (m := c53) rfl _ _ rfl]
  unfold fst9
  by_cases h0 : x0 = 0
  · skip
    by_cases h1 : x1 = 0
    · skip
      by_cases h2 : x2 = 0
      · skip
        by_cases h3 : x3 = 0
        · skip
          by_cases h4 : x4 = 0
          · skip
            by_cases h5 : x5 = 0
            · skip
              by_cases h6 : x6 = 0
              · skip
                by_cases h7 : x7 = 0
                · skip
                  by_cases h8 : x8 = 0
                  · skip
                    simp -implicitDefEqProofs only [c53, c53b0, h0, h1, h2, h3, h4, h5, h6, h7, h8, push_cast, Nat.reduceAdd, Nat.reduceMul, Nat.reduceSub, Nat.reduceLT, Nat.reduceLeDiff, Nat.reduceEqDiff, Nat.reducePow, Int.reduceToNat, Int.reduceLT, Int.reduceLE, Int.reduceNeg, Int.reduceEq, Int.reducePow, reduceIte, reduceCtorEq, Int.reduceMul, Int.reduceAdd, Int.reduceSub, Int.reduceMod, Int.reduceDiv, Int.reduceTDiv, Int.reduceTMod, iter_s]
                  · simp -implicitDefEqProofs only [c53, c53b0, h0, h1, h2, h3, h4, h5, h6, h7, h8, push_cast, Nat.reduceAdd, Nat.reduceMul, Nat.reduceSub, Nat.reduceLT, Nat.reduceLeDiff, Nat.reduceEqDiff, Nat.reducePow, Int.reduceToNat, Int.reduceLT, Int.reduceLE, Int.reduceNeg, Int.reduceEq, Int.reducePow, reduceIte, reduceCtorEq, Int.reduceMul, Int.reduceAdd, Int.reduceSub, Int.reduceMod, Int.reduceDiv, Int.reduceTDiv, Int.reduceTMod, iter_s]
                · simp -implicitDefEqProofs only [c53, c53b0, h0, h1, h2, h3, h4, h5, h6, h7, push_cast, Nat.reduceAdd, Nat.reduceMul, Nat.reduceSub, Nat.reduceLT, Nat.reduceLeDiff, Nat.reduceEqDiff, Nat.reducePow, Int.reduceToNat, Int.reduceLT, Int.reduceLE, Int.reduceNeg, Int.reduceEq, Int.reducePow, reduceIte, reduceCtorEq, Int.reduceMul, Int.reduceAdd, Int.reduceSub, Int.reduceMod, Int.reduceDiv, Int.reduceTDiv, Int.reduceTMod, iter_s]
              · simp -implicitDefEqProofs only [c53, c53b0, h0, h1, h2, h3, h4, h5, h6, push_cast, Nat.reduceAdd, Nat.reduceMul, Nat.reduceSub, Nat.reduceLT, Nat.reduceLeDiff, Nat.reduceEqDiff, Nat.reducePow, Int.reduceToNat, Int.reduceLT, Int.reduceLE, Int.reduceNeg, Int.reduceEq, Int.reducePow, reduceIte, reduceCtorEq, Int.reduceMul, Int.reduceAdd, Int.reduceSub, Int.reduceMod, Int.reduceDiv, Int.reduceTDiv, Int.reduceTMod, iter_s]
            · simp -implicitDefEqProofs only [c53, c53b0, h0, h1, h2, h3, h4, h5, push_cast, Nat.reduceAdd, Nat.reduceMul, Nat.reduceSub, Nat.reduceLT, Nat.reduceLeDiff, Nat.reduceEqDiff, Nat.reducePow, Int.reduceToNat, Int.reduceLT, Int.reduceLE, Int.reduceNeg, Int.reduceEq, Int.reducePow, reduceIte, reduceCtorEq, Int.reduceMul, Int.reduceAdd, Int.reduceSub, Int.reduceMod, Int.reduceDiv, Int.reduceTDiv, Int.reduceTMod, iter_s]
          · simp -implicitDefEqProofs only [c53, c53b0, h0, h1, h2, h3, h4, push_cast, Nat.reduceAdd, Nat.reduceMul, Nat.reduceSub, Nat.reduceLT, Nat.reduceLeDiff, Nat.reduceEqDiff, Nat.reducePow, Int.reduceToNat, Int.reduceLT, Int.reduceLE, Int.reduceNeg, Int.reduceEq, Int.reducePow, reduceIte, reduceCtorEq, Int.reduceMul, Int.reduceAdd, Int.reduceSub, Int.reduceMod, Int.reduceDiv, Int.reduceTDiv, Int.reduceTMod, iter_s]
        · simp -implicitDefEqProofs only [c53, c53b0, h0, h1, h2, h3, push_cast, Nat.reduceAdd, Nat.reduceMul, Nat.reduceSub, Nat.reduceLT, Nat.reduceLeDiff, Nat.reduceEqDiff, Nat.reducePow, Int.reduceToNat, Int.reduceLT, Int.reduceLE, Int.reduceNeg, Int.reduceEq, Int.reducePow, reduceIte, reduceCtorEq, Int.reduceMul, Int.reduceAdd, Int.reduceSub, Int.reduceMod, Int.reduceDiv, Int.reduceTDiv, Int.reduceTMod, iter_s]
      · simp -implicitDefEqProofs only [c53, c53b0, h0, h1, h2, push_cast, Nat.reduceAdd, Nat.reduceMul, Nat.reduceSub, Nat.reduceLT, Nat.reduceLeDiff, Nat.reduceEqDiff, Nat.reducePow, Int.reduceToNat, Int.reduceLT, Int.reduceLE, Int.reduceNeg, Int.reduceEq, Int.reducePow, reduceIte, reduceCtorEq, Int.reduceMul, Int.reduceAdd, Int.reduceSub, Int.reduceMod, Int.reduceDiv, Int.reduceTDiv, Int.reduceTMod, iter_s]
    · simp -implicitDefEqProofs only [c53, c53b0, h0, h1, push_cast, Nat.reduceAdd, Nat.reduceMul, Nat.reduceSub, Nat.reduceLT, Nat.reduceLeDiff, Nat.reduceEqDiff, Nat.reducePow, Int.reduceToNat, Int.reduceLT, Int.reduceLE, Int.reduceNeg, Int.reduceEq, Int.reducePow, reduceIte, reduceCtorEq, Int.reduceMul, Int.reduceAdd, Int.reduceSub, Int.reduceMod, Int.reduceDiv, Int.reduceTDiv, Int.reduceTMod, iter_s]
  · simp -implicitDefEqProofs only [c53, c53b0, h0, push_cast, Nat.reduceAdd, Nat.reduceMul, Nat.reduceSub, Nat.reduceLT, Nat.reduceLeDiff, Nat.reduceEqDiff, Nat.reducePow, Int.reduceToNat, Int.reduceLT, Int.reduceLE, Int.reduceNeg, Int.reduceEq, Int.reducePow, reduceIte, reduceCtorEq, Int.reduceMul, Int.reduceAdd, Int.reduceSub, Int.reduceMod, Int.reduceDiv, Int.reduceTDiv, Int.reduceTMod, iter_s]
theorem s18_8 (k : Nat) (m0 m1 m2 m3 m4 m5 m6 m7 m8 m9 m10 m11 m12 m13 m14 m15 v0 v1 v2 v3 u0 u1 u2 u3 d t0 t1 t2 t3 t4 t5 t6 b0 b1 b2 b3 cu tx wr : Int) (p so : Bool) : evP (evF cm (k + 70)) 31 [.agg [.i m0, .i m1, .i m2, .i m3, .i m4, .i m5, .i m6, .i m7, .i m8, .i m9, .i m10, .i m11, .i m12, .i m13, .i m14, .i m15, .i v0, .i v1, .i v2, .i v3, .i u0, .i u1, .i u2, .i u3, .i d, .b p, .i t0, .i t1, .i t2, .i t3, .i t4, .i t5, .i t6, .i b0, .i b1, .i b2, .i b3, .i cu, .i tx, .i wr, .b so]] = some (.i (fst9 (mc [m0, m1, m2, m3, m4, m5, m6, m7, m8, m9, m10, m11, m12, m13, m14, m15]) (vc v0 v1 v2 v3) (vc u0 u1 u2 u3) (tc d) (sc t0 t1 t2 t3 t4 t5 t6) (bc b0 b1 b2 b3) (kc cu) (hc tx) (kc wr))) := by
  rw [evP_fun (m := c31) rfl _ _ rfl]
  simp -implicitDefEqProofs (maxSteps := 8000000) only [c31, s18_21, s18_22, s18_23, s18_24, s18_25, s18_26, s18_27, s18_20_9, push_cast, Nat.reduceAdd, Nat.reduceMul, Nat.reduceSub, Nat.reduceLT, Nat.reduceLeDiff, Nat.reduceEqDiff, Nat.reducePow, Int.reduceToNat, Int.reduceLT, Int.reduceLE, Int.reduceNeg, Int.reduceEq, Int.reducePow, reduceIte, reduceCtorEq, Int.reduceMul, Int.reduceAdd, Int.reduceSub, Int.reduceMod, Int.reduceDiv, Int.reduceTDiv, Int.reduceTMod, iter_s]
theorem fst9_0 {a b c d e f g h i : Int} : fst9 a b c d e f g h i = 0 ↔ a = 0 ∧ b = 0 ∧ c = 0 ∧ d = 0 ∧ e = 0 ∧ f = 0 ∧ g = 0 ∧ h = 0 ∧ i = 0 := by
  unfold fst9
  repeat' split
  all_goals omega
theorem kc_0 {n : Int} : kc n = 0 ↔ (0 ≤ n ∧ n ≤ 2) := by unfold kc; split <;> simp [*]
theorem hc_0 {n : Int} : hc n = 0 ↔ (0 ≤ n ∧ n ≤ 64) := by unfold hc; split <;> simp [*]
theorem tc_0 {n : Int} : tc n = 0 ↔ tk7 n := by unfold tc; split <;> simp [*]
theorem vc_0 {p q r s : Int} : vc p q r s = 0 ↔ vw p q r s := by unfold vc; split <;> simp [*]
theorem mc_0 {l : List Int} : mc l = 0 ↔ may l = true := by unfold mc; split <;> simp [*]
theorem s18_7 (k : Nat) (m0 m1 m2 m3 m4 m5 m6 m7 m8 m9 m10 m11 m12 m13 m14 m15 v0 v1 v2 v3 u0 u1 u2 u3 d t0 t1 t2 t3 t4 t5 t6 b0 b1 b2 b3 cu tx wr : Int) (p so : Bool) : evP (evF cm (k + 70)) 21 [.agg [.i m0, .i m1, .i m2, .i m3, .i m4, .i m5, .i m6, .i m7, .i m8, .i m9, .i m10, .i m11, .i m12, .i m13, .i m14, .i m15, .i v0, .i v1, .i v2, .i v3, .i u0, .i u1, .i u2, .i u3, .i d, .b p, .i t0, .i t1, .i t2, .i t3, .i t4, .i t5, .i t6, .i b0, .i b1, .i b2, .i b3, .i cu, .i tx, .i wr, .b so]] = some (.i (fst9 (mc [m0, m1, m2, m3, m4, m5, m6, m7, m8, m9, m10, m11, m12, m13, m14, m15]) (vc v0 v1 v2 v3) (vc u0 u1 u2 u3) (tc d) (sc t0 t1 t2 t3 t4 t5 t6) (bc b0 b1 b2 b3) (kc cu) (hc tx) (kc wr))) := by
  rw [evP_fun (m := c21) rfl _ _ rfl]
  by_cases hm : may [m0, m1, m2, m3, m4, m5, m6, m7, m8, m9, m10, m11, m12, m13, m14, m15] = true
  · skip
    by_cases hv : vw v0 v1 v2 v3
    · skip
      by_cases hu : vw u0 u1 u2 u3
      · skip
        by_cases ht : tk7 d
        · skip
          by_cases hs : sc t0 t1 t2 t3 t4 t5 t6 = 0
          · skip
            by_cases hb : bc b0 b1 b2 b3 = 0
            · skip
              by_cases k0 : 0 ≤ cu ∧ cu ≤ 2
              · have k1 : ¬ cu < 0 := by omega
                have k2 : ¬ 2 < cu := by omega
                by_cases l0 : 0 ≤ tx ∧ tx ≤ 64
                · have l1 : ¬ tx < 0 := by omega
                  have l2 : ¬ 64 < tx := by omega
                  by_cases w0 : 0 ≤ wr ∧ wr ≤ 2
                  · have w1 : ¬ wr < 0 := by omega
                    have w2 : ¬ 2 < wr := by omega
                    simp -implicitDefEqProofs (maxSteps := 8000000) only [c21, s18_15, s18_16, s18_17, s18_18, s18_19, fst9, mc, vc, tc, kc, hc, hm, hv, hu, ht, hs, hb, k0, k1, k2, l0, l1, l2, w0, w1, w2, push_cast, Nat.reduceAdd, Nat.reduceMul, Nat.reduceSub, Nat.reduceLT, Nat.reduceLeDiff, Nat.reduceEqDiff, Nat.reducePow, Int.reduceToNat, Int.reduceLT, Int.reduceLE, Int.reduceNeg, Int.reduceEq, Int.reducePow, reduceIte, reduceCtorEq, Int.reduceMul, Int.reduceAdd, Int.reduceSub, Int.reduceMod, Int.reduceDiv, Int.reduceTDiv, Int.reduceTMod, iter_s]
                  · by_cases w1 : wr < 0
                    · simp -implicitDefEqProofs (maxSteps := 8000000) only [c21, s18_15, s18_16, s18_17, s18_18, s18_19, fst9, mc, vc, tc, kc, hc, hm, hv, hu, ht, hs, hb, k0, k1, k2, l0, l1, l2, w0, w1, push_cast, Nat.reduceAdd, Nat.reduceMul, Nat.reduceSub, Nat.reduceLT, Nat.reduceLeDiff, Nat.reduceEqDiff, Nat.reducePow, Int.reduceToNat, Int.reduceLT, Int.reduceLE, Int.reduceNeg, Int.reduceEq, Int.reducePow, reduceIte, reduceCtorEq, Int.reduceMul, Int.reduceAdd, Int.reduceSub, Int.reduceMod, Int.reduceDiv, Int.reduceTDiv, Int.reduceTMod, iter_s]
                    · have w2 : 2 < wr := by omega
                      simp -implicitDefEqProofs (maxSteps := 8000000) only [c21, s18_15, s18_16, s18_17, s18_18, s18_19, fst9, mc, vc, tc, kc, hc, hm, hv, hu, ht, hs, hb, k0, k1, k2, l0, l1, l2, w0, w1, w2, push_cast, Nat.reduceAdd, Nat.reduceMul, Nat.reduceSub, Nat.reduceLT, Nat.reduceLeDiff, Nat.reduceEqDiff, Nat.reducePow, Int.reduceToNat, Int.reduceLT, Int.reduceLE, Int.reduceNeg, Int.reduceEq, Int.reducePow, reduceIte, reduceCtorEq, Int.reduceMul, Int.reduceAdd, Int.reduceSub, Int.reduceMod, Int.reduceDiv, Int.reduceTDiv, Int.reduceTMod, iter_s]
                · by_cases l1 : tx < 0
                  · simp -implicitDefEqProofs (maxSteps := 8000000) only [c21, s18_15, s18_16, s18_17, s18_18, s18_19, fst9, mc, vc, tc, kc, hc, hm, hv, hu, ht, hs, hb, k0, k1, k2, l0, l1, push_cast, Nat.reduceAdd, Nat.reduceMul, Nat.reduceSub, Nat.reduceLT, Nat.reduceLeDiff, Nat.reduceEqDiff, Nat.reducePow, Int.reduceToNat, Int.reduceLT, Int.reduceLE, Int.reduceNeg, Int.reduceEq, Int.reducePow, reduceIte, reduceCtorEq, Int.reduceMul, Int.reduceAdd, Int.reduceSub, Int.reduceMod, Int.reduceDiv, Int.reduceTDiv, Int.reduceTMod, iter_s]
                  · have l2 : 64 < tx := by omega
                    simp -implicitDefEqProofs (maxSteps := 8000000) only [c21, s18_15, s18_16, s18_17, s18_18, s18_19, fst9, mc, vc, tc, kc, hc, hm, hv, hu, ht, hs, hb, k0, k1, k2, l0, l1, l2, push_cast, Nat.reduceAdd, Nat.reduceMul, Nat.reduceSub, Nat.reduceLT, Nat.reduceLeDiff, Nat.reduceEqDiff, Nat.reducePow, Int.reduceToNat, Int.reduceLT, Int.reduceLE, Int.reduceNeg, Int.reduceEq, Int.reducePow, reduceIte, reduceCtorEq, Int.reduceMul, Int.reduceAdd, Int.reduceSub, Int.reduceMod, Int.reduceDiv, Int.reduceTDiv, Int.reduceTMod, iter_s]
              · by_cases k1 : cu < 0
                · simp -implicitDefEqProofs (maxSteps := 8000000) only [c21, s18_15, s18_16, s18_17, s18_18, s18_19, fst9, mc, vc, tc, kc, hc, hm, hv, hu, ht, hs, hb, k0, k1, push_cast, Nat.reduceAdd, Nat.reduceMul, Nat.reduceSub, Nat.reduceLT, Nat.reduceLeDiff, Nat.reduceEqDiff, Nat.reducePow, Int.reduceToNat, Int.reduceLT, Int.reduceLE, Int.reduceNeg, Int.reduceEq, Int.reducePow, reduceIte, reduceCtorEq, Int.reduceMul, Int.reduceAdd, Int.reduceSub, Int.reduceMod, Int.reduceDiv, Int.reduceTDiv, Int.reduceTMod, iter_s]
                · have k2 : 2 < cu := by omega
                  simp -implicitDefEqProofs (maxSteps := 8000000) only [c21, s18_15, s18_16, s18_17, s18_18, s18_19, fst9, mc, vc, tc, kc, hc, hm, hv, hu, ht, hs, hb, k0, k1, k2, push_cast, Nat.reduceAdd, Nat.reduceMul, Nat.reduceSub, Nat.reduceLT, Nat.reduceLeDiff, Nat.reduceEqDiff, Nat.reducePow, Int.reduceToNat, Int.reduceLT, Int.reduceLE, Int.reduceNeg, Int.reduceEq, Int.reducePow, reduceIte, reduceCtorEq, Int.reduceMul, Int.reduceAdd, Int.reduceSub, Int.reduceMod, Int.reduceDiv, Int.reduceTDiv, Int.reduceTMod, iter_s]
            · simp -implicitDefEqProofs (maxSteps := 8000000) only [c21, s18_15, s18_16, s18_17, s18_18, s18_19, fst9, mc, vc, tc, hm, hv, hu, ht, hs, hb, push_cast, Nat.reduceAdd, Nat.reduceMul, Nat.reduceSub, Nat.reduceLT, Nat.reduceLeDiff, Nat.reduceEqDiff, Nat.reducePow, Int.reduceToNat, Int.reduceLT, Int.reduceLE, Int.reduceNeg, Int.reduceEq, Int.reducePow, reduceIte, reduceCtorEq, Int.reduceMul, Int.reduceAdd, Int.reduceSub, Int.reduceMod, Int.reduceDiv, Int.reduceTDiv, Int.reduceTMod, iter_s]
          · simp -implicitDefEqProofs (maxSteps := 8000000) only [c21, s18_15, s18_16, s18_17, s18_18, s18_19, fst9, mc, vc, tc, hm, hv, hu, ht, hs, push_cast, Nat.reduceAdd, Nat.reduceMul, Nat.reduceSub, Nat.reduceLT, Nat.reduceLeDiff, Nat.reduceEqDiff, Nat.reducePow, Int.reduceToNat, Int.reduceLT, Int.reduceLE, Int.reduceNeg, Int.reduceEq, Int.reducePow, reduceIte, reduceCtorEq, Int.reduceMul, Int.reduceAdd, Int.reduceSub, Int.reduceMod, Int.reduceDiv, Int.reduceTDiv, Int.reduceTMod, iter_s]
        · simp -implicitDefEqProofs (maxSteps := 8000000) only [c21, s18_15, s18_16, s18_17, s18_18, s18_19, fst9, mc, vc, tc, hm, hv, hu, ht, push_cast, Nat.reduceAdd, Nat.reduceMul, Nat.reduceSub, Nat.reduceLT, Nat.reduceLeDiff, Nat.reduceEqDiff, Nat.reducePow, Int.reduceToNat, Int.reduceLT, Int.reduceLE, Int.reduceNeg, Int.reduceEq, Int.reducePow, reduceIte, reduceCtorEq, Int.reduceMul, Int.reduceAdd, Int.reduceSub, Int.reduceMod, Int.reduceDiv, Int.reduceTDiv, Int.reduceTMod, iter_s]
      · simp -implicitDefEqProofs (maxSteps := 8000000) only [c21, s18_15, s18_16, s18_17, s18_18, s18_19, fst9, mc, vc, tc, hm, hv, hu, push_cast, Nat.reduceAdd, Nat.reduceMul, Nat.reduceSub, Nat.reduceLT, Nat.reduceLeDiff, Nat.reduceEqDiff, Nat.reducePow, Int.reduceToNat, Int.reduceLT, Int.reduceLE, Int.reduceNeg, Int.reduceEq, Int.reducePow, reduceIte, reduceCtorEq, Int.reduceMul, Int.reduceAdd, Int.reduceSub, Int.reduceMod, Int.reduceDiv, Int.reduceTDiv, Int.reduceTMod, iter_s]
    · simp -implicitDefEqProofs (maxSteps := 8000000) only [c21, s18_15, s18_16, s18_17, s18_18, s18_19, fst9, mc, vc, tc, hm, hv, push_cast, Nat.reduceAdd, Nat.reduceMul, Nat.reduceSub, Nat.reduceLT, Nat.reduceLeDiff, Nat.reduceEqDiff, Nat.reducePow, Int.reduceToNat, Int.reduceLT, Int.reduceLE, Int.reduceNeg, Int.reduceEq, Int.reducePow, reduceIte, reduceCtorEq, Int.reduceMul, Int.reduceAdd, Int.reduceSub, Int.reduceMod, Int.reduceDiv, Int.reduceTDiv, Int.reduceTMod, iter_s]
  · simp -implicitDefEqProofs (maxSteps := 8000000) only [c21, s18_15, s18_16, s18_17, s18_18, s18_19, fst9, mc, vc, tc, hm, push_cast, Nat.reduceAdd, Nat.reduceMul, Nat.reduceSub, Nat.reduceLT, Nat.reduceLeDiff, Nat.reduceEqDiff, Nat.reducePow, Int.reduceToNat, Int.reduceLT, Int.reduceLE, Int.reduceNeg, Int.reduceEq, Int.reducePow, reduceIte, reduceCtorEq, Int.reduceMul, Int.reduceAdd, Int.reduceSub, Int.reduceMod, Int.reduceDiv, Int.reduceTDiv, Int.reduceTMod, iter_s]
end Go.Proofs.Ytjgnjpbplnmdmaa
