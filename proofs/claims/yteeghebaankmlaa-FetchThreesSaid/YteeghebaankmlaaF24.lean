/- Vectors, moved, and what may be, as the evaluator answers. -/
import Derived.Test.YteeghebaankmlaaJT24
import Derived.Test.YteeghebaankmlaaEng20
set_option linter.unusedSimpArgs false
set_option linter.unusedVariables false
set_option maxRecDepth 100000
set_option maxHeartbeats 16000000
namespace Go.Proofs.Yteeghebaankmlaa
open Go
theorem sbt {p : Prop} [Decidable p] (h : p) : some (LV.v (.bool true)) = some (LV.v (.bool (decide p))) := by rw [decide_eq_true h]
theorem sbf {p : Prop} [Decidable p] (h : ¬ p) : some (LV.v (.bool false)) = some (LV.v (.bool (decide p))) := by rw [decide_eq_false h]
theorem sbe {p q : Prop} [Decidable p] [Decidable q] (h : p ↔ q) : some (LV.v (.bool (decide p))) = some (LV.v (.bool (decide q))) := by rw [decide_eq_decide.2 h]
def wi (n m : Int) : Bool := decide (-m ≤ n ∧ n ≤ m)
theorem vwithin (k : Nat) (n m : Int) (hm : 0 ≤ m ∧ m ≤ 1099511627776) : evP (evF cm2 (k + 1)) 23 [.i n, .i m] = some (.b (wi n m)) := by
  rw [evP_fun (m := c23) rfl _ _ rfl]
  simp -implicitDefEqProofs only [c23, push_cast, Nat.reduceAdd, Nat.reduceMul, Nat.reduceSub, Nat.reduceLT, Nat.reduceLeDiff, Nat.reduceEqDiff, Nat.reducePow, Int.reduceToNat, Int.reduceLT, Int.reduceLE, Int.reduceNeg, Int.reduceEq, Int.reducePow, reduceIte, reduceCtorEq, Int.reduceMul, Int.reduceAdd, Int.reduceSub, Int.reduceMod, Int.reduceDiv, Int.reduceTDiv, Int.reduceTMod, iter_s]
  rw [w64 (0 - m) (by omega) (by omega)]
  unfold wi
  split
  · exact sbe (by omega)
  · exact sbf (by omega)
theorem rWithin (k : Nat) (n m : Int) (hm : 0 ≤ m ∧ m ≤ 1099511627776) : evP (evF cm2 (k + 1)) 18 [.i n, .i m] = some (.b (wi n m)) := by
  rw [evP_fun (m := c18) rfl _ _ rfl]
  simp -implicitDefEqProofs only [c18, push_cast, Nat.reduceAdd, Nat.reduceMul, Nat.reduceSub, Nat.reduceLT, Nat.reduceLeDiff, Nat.reduceEqDiff, Nat.reducePow, Int.reduceToNat, Int.reduceLT, Int.reduceLE, Int.reduceNeg, Int.reduceEq, Int.reducePow, reduceIte, reduceCtorEq, Int.reduceMul, Int.reduceAdd, Int.reduceSub, Int.reduceMod, Int.reduceDiv, Int.reduceTDiv, Int.reduceTMod, iter_s]
  rw [w64 (0 - m) (by omega) (by omega)]
  unfold wi
  split
  · exact sbe (by omega)
  · exact sbf (by omega)
def may (l : List Int) : Bool := l.all fun n => wi n 16777216
theorem rMay (k : Nat) (m0 m1 m2 m3 m4 m5 m6 m7 m8 m9 m10 m11 m12 m13 m14 m15 : Int) : evP (evF cm2 (k + 30)) 11 [.agg [.i m0, .i m1, .i m2, .i m3, .i m4, .i m5, .i m6, .i m7, .i m8, .i m9, .i m10, .i m11, .i m12, .i m13, .i m14, .i m15]] = some (.b (may [m0, m1, m2, m3, m4, m5, m6, m7, m8, m9, m10, m11, m12, m13, m14, m15])) := by
  rw [evP_fun (m := c11) rfl _ _ rfl]
  simp -implicitDefEqProofs only [c11, c11b0, rWithin _ _ 16777216 (by omega), push_cast, Nat.reduceAdd, Nat.reduceMul, Nat.reduceSub, Nat.reduceLT, Nat.reduceLeDiff, Nat.reduceEqDiff, Nat.reducePow, Int.reduceToNat, Int.reduceLT, Int.reduceLE, Int.reduceNeg, Int.reduceEq, Int.reducePow, reduceIte, reduceCtorEq, Int.reduceMul, Int.reduceAdd, Int.reduceSub, Int.reduceMod, Int.reduceDiv, Int.reduceTDiv, Int.reduceTMod, iter_s]
  simp only [may, List.all_cons, List.all_nil]
  cases wi m0 16777216
  · rfl
  cases wi m1 16777216
  · rfl
  cases wi m2 16777216
  · rfl
  cases wi m3 16777216
  · rfl
  cases wi m4 16777216
  · rfl
  cases wi m5 16777216
  · rfl
  cases wi m6 16777216
  · rfl
  cases wi m7 16777216
  · rfl
  cases wi m8 16777216
  · rfl
  cases wi m9 16777216
  · rfl
  cases wi m10 16777216
  · rfl
  cases wi m11 16777216
  · rfl
  cases wi m12 16777216
  · rfl
  cases wi m13 16777216
  · rfl
  cases wi m14 16777216
  · rfl
  cases wi m15 16777216
  · rfl
  rfl
theorem vmay (k : Nat) (m0 m1 m2 m3 m4 m5 m6 m7 m8 m9 m10 m11 m12 m13 m14 m15 : Int) : evP (evF cm2 (k + 30)) 22 [.agg [.i m0, .i m1, .i m2, .i m3, .i m4, .i m5, .i m6, .i m7, .i m8, .i m9, .i m10, .i m11, .i m12, .i m13, .i m14, .i m15]] = some (.b (may [m0, m1, m2, m3, m4, m5, m6, m7, m8, m9, m10, m11, m12, m13, m14, m15])) := by
  rw [evP_fun (m := c22) rfl _ _ rfl]
  simp -implicitDefEqProofs only [c22, c22b0, vwithin _ _ 16777216 (by omega), push_cast, Nat.reduceAdd, Nat.reduceMul, Nat.reduceSub, Nat.reduceLT, Nat.reduceLeDiff, Nat.reduceEqDiff, Nat.reducePow, Int.reduceToNat, Int.reduceLT, Int.reduceLE, Int.reduceNeg, Int.reduceEq, Int.reducePow, reduceIte, reduceCtorEq, Int.reduceMul, Int.reduceAdd, Int.reduceSub, Int.reduceMod, Int.reduceDiv, Int.reduceTDiv, Int.reduceTMod, iter_s]
  simp only [may, List.all_cons, List.all_nil]
  cases wi m0 16777216
  · rfl
  cases wi m1 16777216
  · rfl
  cases wi m2 16777216
  · rfl
  cases wi m3 16777216
  · rfl
  cases wi m4 16777216
  · rfl
  cases wi m5 16777216
  · rfl
  cases wi m6 16777216
  · rfl
  cases wi m7 16777216
  · rfl
  cases wi m8 16777216
  · rfl
  cases wi m9 16777216
  · rfl
  cases wi m10 16777216
  · rfl
  cases wi m11 16777216
  · rfl
  cases wi m12 16777216
  · rfl
  cases wi m13 16777216
  · rfl
  cases wi m14 16777216
  · rfl
  cases wi m15 16777216
  · rfl
  rfl
def fits (x y z w : Int) : Bool := wi x 1073741824 && (wi y 1073741824 && (wi z 1073741824 && wi w 1073741824))
theorem rFits (k : Nat) (x y z w : Int) : evP (evF cm2 (k + 2)) 12 [.agg [.i x, .i y, .i z, .i w]] = some (.b (fits x y z w)) := by
  rw [evP_fun (m := c12) rfl _ _ rfl]
  simp -implicitDefEqProofs only [c12, rWithin _ _ 1073741824 (by omega), push_cast, Nat.reduceAdd, Nat.reduceMul, Nat.reduceSub, Nat.reduceLT, Nat.reduceLeDiff, Nat.reduceEqDiff, Nat.reducePow, Int.reduceToNat, Int.reduceLT, Int.reduceLE, Int.reduceNeg, Int.reduceEq, Int.reducePow, reduceIte, reduceCtorEq, Int.reduceMul, Int.reduceAdd, Int.reduceSub, Int.reduceMod, Int.reduceDiv, Int.reduceTDiv, Int.reduceTMod, iter_s]
  unfold fits
  cases wi x 1073741824 <;> cases wi y 1073741824 <;> cases wi z 1073741824 <;> rfl
theorem vlist (k : Nat) (x y z w : Int) : evP (evF cm2 (k + 1)) 21 [.agg [.i x, .i y, .i z, .i w]] = some (.agg [.i x, .i y, .i z, .i w]) := by
  rw [evP_fun (m := c21) rfl _ _ rfl]
  simp -implicitDefEqProofs only [c21, push_cast, Nat.reduceAdd, Nat.reduceMul, Nat.reduceSub, Nat.reduceLT, Nat.reduceLeDiff, Nat.reduceEqDiff, Nat.reducePow, Int.reduceToNat, Int.reduceLT, Int.reduceLE, Int.reduceNeg, Int.reduceEq, Int.reducePow, reduceIte, reduceCtorEq, Int.reduceMul, Int.reduceAdd, Int.reduceSub, Int.reduceMod, Int.reduceDiv, Int.reduceTDiv, Int.reduceTMod, iter_s]
theorem rFloor (k : Nat) (a b : Int) (h : 0 < b) (hb : b ≤ 100000) (ha : -4611686018427387904 ≤ a ∧ a ≤ 4611686018427387904) : evP (evF cm2 (k + 1)) 25 [.i a, .i b] = some (.i (a / b)) := by
  rw [evP_fun (m := c25) rfl _ _ rfl]
  simp -implicitDefEqProofs only [c25, push_cast, Nat.reduceAdd, Nat.reduceMul, Nat.reduceSub, Nat.reduceLT, Nat.reduceLeDiff, Nat.reduceEqDiff, Nat.reducePow, Int.reduceToNat, Int.reduceLT, Int.reduceLE, Int.reduceNeg, Int.reduceEq, Int.reducePow, reduceIte, reduceCtorEq, Int.reduceMul, Int.reduceAdd, Int.reduceSub, Int.reduceMod, Int.reduceDiv, Int.reduceTDiv, Int.reduceTMod, iter_s]
  obtain ⟨q1, q2⟩ := sub_tdiv (a := a) h (by omega) (by omega)
  have q3 := tdiv_bound (a := a) h (M := 4611686018427387904) (by omega)
  rw [if_neg (by omega), if_neg (by omega)]
  rw [q1, q2]
  by_cases hr : a.tmod b < 0
  · rw [if_pos hr, if_pos h, (fl_neg h hr).1, w64 _ (by omega) (by omega)]
  · rw [if_neg hr, (fl_pos h hr).1, if_neg (by omega : ¬ b < 0), ite_self]
def dot (a b c d x y z w : Int) : Int := a * x + b * y + c * z + d * w
theorem wi_of {n : Int} {m : Int} (h : wi n m = true) : -m ≤ n ∧ n ≤ m := of_decide_eq_true h
theorem term {m v : Int} (h : wi m 16777216 = true) (h' : wi v 1073741824 = true) : -18014398509481984 ≤ m * v ∧ m * v ≤ 18014398509481984 :=
  mul_bound (A := 16777216) (B := 1073741824) (wi_of h) (wi_of h')
theorem dot_w {a b c d x y z w : Int} (ha : wi a 16777216 = true) (hb : wi b 16777216 = true) (hc : wi c 16777216 = true) (hd : wi d 16777216 = true) (hx : wi x 1073741824 = true) (hy : wi y 1073741824 = true) (hz : wi z 1073741824 = true) (hw : wi w 1073741824 = true) :
    IntKind.i64.wrap (a * x) = a * x ∧ IntKind.i64.wrap (b * y) = b * y ∧ IntKind.i64.wrap (c * z) = c * z ∧ IntKind.i64.wrap (d * w) = d * w ∧ IntKind.i64.wrap (a * x + b * y) = a * x + b * y ∧ IntKind.i64.wrap (a * x + b * y + c * z) = a * x + b * y + c * z ∧
      IntKind.i64.wrap (a * x + b * y + c * z + d * w) = dot a b c d x y z w ∧ IntKind.i64.wrap (0 + a * x) = a * x ∧ -72057594037927936 ≤ dot a b c d x y z w ∧ dot a b c d x y z w ≤ 72057594037927936 := by
  have h1 := term ha hx
  have h2 := term hb hy
  have h3 := term hc hz
  have h4 := term hd hw
  unfold dot
  rw [Int.zero_add]
  refine ⟨w64 _ (by omega) (by omega), w64 _ (by omega) (by omega), w64 _ (by omega) (by omega), w64 _ (by omega) (by omega), w64 _ (by omega) (by omega), w64 _ (by omega) (by omega), w64 _ (by omega) (by omega), w64 _ (by omega) (by omega), by omega, by omega⟩
def rw4 (a b c d x y z w : Int) : Int := dot a b c d x y z w / 65536
theorem may_of {l : List Int} (h : may l = true) (n : Int) (hn : n ∈ l) : wi n 16777216 = true := List.all_eq_true.1 h n hn
theorem fits_of {x y z w : Int} (h : fits x y z w = true) : wi x 1073741824 = true ∧ wi y 1073741824 = true ∧ wi z 1073741824 = true ∧ wi w 1073741824 = true := by
  unfold fits at h; simpa only [Bool.and_eq_true] using h
theorem rrow_0 (k : Nat) (m0 m1 m2 m3 m4 m5 m6 m7 m8 m9 m10 m11 m12 m13 m14 m15 x y z w : Int) (hm : may [m0, m1, m2, m3, m4, m5, m6, m7, m8, m9, m10, m11, m12, m13, m14, m15] = true) (hv : fits x y z w = true) : evP (evF cm2 (k + 2)) 24 [.agg [.i m0, .i m1, .i m2, .i m3, .i m4, .i m5, .i m6, .i m7, .i m8, .i m9, .i m10, .i m11, .i m12, .i m13, .i m14, .i m15], .i 0, .agg [.i x, .i y, .i z, .i w]] = some (.i (rw4 m0 m1 m2 m3 x y z w)) := by
  rw [evP_fun (m := c24) rfl _ _ rfl]
  obtain ⟨v1, v2, v3, v4⟩ := fits_of hv
  obtain ⟨q1, q2, q3, q4, q5, q6, q7, q8, q9, q10⟩ := dot_w (may_of hm m0 (by simp)) (may_of hm m1 (by simp)) (may_of hm m2 (by simp)) (may_of hm m3 (by simp)) v1 v2 v3 v4
  simp -implicitDefEqProofs only [c24, push_cast, Nat.reduceAdd, Nat.reduceMul, Nat.reduceSub, Nat.reduceLT, Nat.reduceLeDiff, Nat.reduceEqDiff, Nat.reducePow, Int.reduceToNat, Int.reduceLT, Int.reduceLE, Int.reduceNeg, Int.reduceEq, Int.reducePow, reduceIte, reduceCtorEq, Int.reduceMul, Int.reduceAdd, Int.reduceSub, Int.reduceMod, Int.reduceDiv, Int.reduceTDiv, Int.reduceTMod, iter_s, q1, q2, q3, q4, q5, q6, q7, rFloor _ _ 65536 (by omega) (by omega) (by omega : -4611686018427387904 ≤ dot m0 m1 m2 m3 x y z w ∧ dot m0 m1 m2 m3 x y z w ≤ 4611686018427387904)]
  rfl
theorem rrow_1 (k : Nat) (m0 m1 m2 m3 m4 m5 m6 m7 m8 m9 m10 m11 m12 m13 m14 m15 x y z w : Int) (hm : may [m0, m1, m2, m3, m4, m5, m6, m7, m8, m9, m10, m11, m12, m13, m14, m15] = true) (hv : fits x y z w = true) : evP (evF cm2 (k + 2)) 24 [.agg [.i m0, .i m1, .i m2, .i m3, .i m4, .i m5, .i m6, .i m7, .i m8, .i m9, .i m10, .i m11, .i m12, .i m13, .i m14, .i m15], .i 1, .agg [.i x, .i y, .i z, .i w]] = some (.i (rw4 m4 m5 m6 m7 x y z w)) := by
  rw [evP_fun (m := c24) rfl _ _ rfl]
  obtain ⟨v1, v2, v3, v4⟩ := fits_of hv
  obtain ⟨q1, q2, q3, q4, q5, q6, q7, q8, q9, q10⟩ := dot_w (may_of hm m4 (by simp)) (may_of hm m5 (by simp)) (may_of hm m6 (by simp)) (may_of hm m7 (by simp)) v1 v2 v3 v4
  simp -implicitDefEqProofs only [c24, push_cast, Nat.reduceAdd, Nat.reduceMul, Nat.reduceSub, Nat.reduceLT, Nat.reduceLeDiff, Nat.reduceEqDiff, Nat.reducePow, Int.reduceToNat, Int.reduceLT, Int.reduceLE, Int.reduceNeg, Int.reduceEq, Int.reducePow, reduceIte, reduceCtorEq, Int.reduceMul, Int.reduceAdd, Int.reduceSub, Int.reduceMod, Int.reduceDiv, Int.reduceTDiv, Int.reduceTMod, iter_s, q1, q2, q3, q4, q5, q6, q7, rFloor _ _ 65536 (by omega) (by omega) (by omega : -4611686018427387904 ≤ dot m4 m5 m6 m7 x y z w ∧ dot m4 m5 m6 m7 x y z w ≤ 4611686018427387904)]
  rfl
theorem rrow_2 (k : Nat) (m0 m1 m2 m3 m4 m5 m6 m7 m8 m9 m10 m11 m12 m13 m14 m15 x y z w : Int) (hm : may [m0, m1, m2, m3, m4, m5, m6, m7, m8, m9, m10, m11, m12, m13, m14, m15] = true) (hv : fits x y z w = true) : evP (evF cm2 (k + 2)) 24 [.agg [.i m0, .i m1, .i m2, .i m3, .i m4, .i m5, .i m6, .i m7, .i m8, .i m9, .i m10, .i m11, .i m12, .i m13, .i m14, .i m15], .i 2, .agg [.i x, .i y, .i z, .i w]] = some (.i (rw4 m8 m9 m10 m11 x y z w)) := by
  rw [evP_fun (m := c24) rfl _ _ rfl]
  obtain ⟨v1, v2, v3, v4⟩ := fits_of hv
  obtain ⟨q1, q2, q3, q4, q5, q6, q7, q8, q9, q10⟩ := dot_w (may_of hm m8 (by simp)) (may_of hm m9 (by simp)) (may_of hm m10 (by simp)) (may_of hm m11 (by simp)) v1 v2 v3 v4
  simp -implicitDefEqProofs only [c24, push_cast, Nat.reduceAdd, Nat.reduceMul, Nat.reduceSub, Nat.reduceLT, Nat.reduceLeDiff, Nat.reduceEqDiff, Nat.reducePow, Int.reduceToNat, Int.reduceLT, Int.reduceLE, Int.reduceNeg, Int.reduceEq, Int.reducePow, reduceIte, reduceCtorEq, Int.reduceMul, Int.reduceAdd, Int.reduceSub, Int.reduceMod, Int.reduceDiv, Int.reduceTDiv, Int.reduceTMod, iter_s, q1, q2, q3, q4, q5, q6, q7, rFloor _ _ 65536 (by omega) (by omega) (by omega : -4611686018427387904 ≤ dot m8 m9 m10 m11 x y z w ∧ dot m8 m9 m10 m11 x y z w ≤ 4611686018427387904)]
  rfl
theorem rrow_3 (k : Nat) (m0 m1 m2 m3 m4 m5 m6 m7 m8 m9 m10 m11 m12 m13 m14 m15 x y z w : Int) (hm : may [m0, m1, m2, m3, m4, m5, m6, m7, m8, m9, m10, m11, m12, m13, m14, m15] = true) (hv : fits x y z w = true) : evP (evF cm2 (k + 2)) 24 [.agg [.i m0, .i m1, .i m2, .i m3, .i m4, .i m5, .i m6, .i m7, .i m8, .i m9, .i m10, .i m11, .i m12, .i m13, .i m14, .i m15], .i 3, .agg [.i x, .i y, .i z, .i w]] = some (.i (rw4 m12 m13 m14 m15 x y z w)) := by
  rw [evP_fun (m := c24) rfl _ _ rfl]
  obtain ⟨v1, v2, v3, v4⟩ := fits_of hv
  obtain ⟨q1, q2, q3, q4, q5, q6, q7, q8, q9, q10⟩ := dot_w (may_of hm m12 (by simp)) (may_of hm m13 (by simp)) (may_of hm m14 (by simp)) (may_of hm m15 (by simp)) v1 v2 v3 v4
  simp -implicitDefEqProofs only [c24, push_cast, Nat.reduceAdd, Nat.reduceMul, Nat.reduceSub, Nat.reduceLT, Nat.reduceLeDiff, Nat.reduceEqDiff, Nat.reducePow, Int.reduceToNat, Int.reduceLT, Int.reduceLE, Int.reduceNeg, Int.reduceEq, Int.reducePow, reduceIte, reduceCtorEq, Int.reduceMul, Int.reduceAdd, Int.reduceSub, Int.reduceMod, Int.reduceDiv, Int.reduceTDiv, Int.reduceTMod, iter_s, q1, q2, q3, q4, q5, q6, q7, rFloor _ _ 65536 (by omega) (by omega) (by omega : -4611686018427387904 ≤ dot m12 m13 m14 m15 x y z w ∧ dot m12 m13 m14 m15 x y z w ≤ 4611686018427387904)]
  rfl
theorem rApply (k : Nat) (m0 m1 m2 m3 m4 m5 m6 m7 m8 m9 m10 m11 m12 m13 m14 m15 x y z w : Int) (hm : may [m0, m1, m2, m3, m4, m5, m6, m7, m8, m9, m10, m11, m12, m13, m14, m15] = true) (hv : fits x y z w = true) : evP (evF cm2 (k + 3)) 19 [.agg [.i m0, .i m1, .i m2, .i m3, .i m4, .i m5, .i m6, .i m7, .i m8, .i m9, .i m10, .i m11, .i m12, .i m13, .i m14, .i m15], .agg [.i x, .i y, .i z, .i w]] = some (.agg [.i (rw4 m0 m1 m2 m3 x y z w), .i (rw4 m4 m5 m6 m7 x y z w), .i (rw4 m8 m9 m10 m11 x y z w), .i (rw4 m12 m13 m14 m15 x y z w)]) := by
  rw [evP_fun (m := c19) rfl _ _ rfl]
  have a0 := fun k => rrow_0 k m0 m1 m2 m3 m4 m5 m6 m7 m8 m9 m10 m11 m12 m13 m14 m15 x y z w hm hv
  have a1 := fun k => rrow_1 k m0 m1 m2 m3 m4 m5 m6 m7 m8 m9 m10 m11 m12 m13 m14 m15 x y z w hm hv
  have a2 := fun k => rrow_2 k m0 m1 m2 m3 m4 m5 m6 m7 m8 m9 m10 m11 m12 m13 m14 m15 x y z w hm hv
  have a3 := fun k => rrow_3 k m0 m1 m2 m3 m4 m5 m6 m7 m8 m9 m10 m11 m12 m13 m14 m15 x y z w hm hv
  simp -implicitDefEqProofs only [c19, a0, a1, a2, a3, push_cast, Nat.reduceAdd, Nat.reduceMul, Nat.reduceSub, Nat.reduceLT, Nat.reduceLeDiff, Nat.reduceEqDiff, Nat.reducePow, Int.reduceToNat, Int.reduceLT, Int.reduceLE, Int.reduceNeg, Int.reduceEq, Int.reducePow, reduceIte, reduceCtorEq, Int.reduceMul, Int.reduceAdd, Int.reduceSub, Int.reduceMod, Int.reduceDiv, Int.reduceTDiv, Int.reduceTMod, iter_s]
theorem fd16 (a : Int) : a.fdiv 65536 = a / 65536 := fdiv_pos (by omega)
theorem vApply (k : Nat) (m0 m1 m2 m3 m4 m5 m6 m7 m8 m9 m10 m11 m12 m13 m14 m15 x y z w : Int) (hm : may [m0, m1, m2, m3, m4, m5, m6, m7, m8, m9, m10, m11, m12, m13, m14, m15] = true) (hv : fits x y z w = true) : evP (evF cm2 (k + 40)) 16 [.agg [.i m0, .i m1, .i m2, .i m3, .i m4, .i m5, .i m6, .i m7, .i m8, .i m9, .i m10, .i m11, .i m12, .i m13, .i m14, .i m15], .agg [.i x, .i y, .i z, .i w]] = some (.tup [.agg [.i (rw4 m0 m1 m2 m3 x y z w), .i (rw4 m4 m5 m6 m7 x y z w), .i (rw4 m8 m9 m10 m11 x y z w), .i (rw4 m12 m13 m14 m15 x y z w)], .i 0]) := by
  rw [evP_fun (m := c16) rfl _ _ rfl]
  obtain ⟨v1, v2, v3, v4⟩ := fits_of hv
  obtain ⟨q0_0, q0_1, q0_2, q0_3, q0_4, q0_5, q0_6, q0_7, _, _⟩ := dot_w (may_of hm m0 (by simp)) (may_of hm m1 (by simp)) (may_of hm m2 (by simp)) (may_of hm m3 (by simp)) v1 v2 v3 v4
  obtain ⟨q1_0, q1_1, q1_2, q1_3, q1_4, q1_5, q1_6, q1_7, _, _⟩ := dot_w (may_of hm m4 (by simp)) (may_of hm m5 (by simp)) (may_of hm m6 (by simp)) (may_of hm m7 (by simp)) v1 v2 v3 v4
  obtain ⟨q2_0, q2_1, q2_2, q2_3, q2_4, q2_5, q2_6, q2_7, _, _⟩ := dot_w (may_of hm m8 (by simp)) (may_of hm m9 (by simp)) (may_of hm m10 (by simp)) (may_of hm m11 (by simp)) v1 v2 v3 v4
  obtain ⟨q3_0, q3_1, q3_2, q3_3, q3_4, q3_5, q3_6, q3_7, _, _⟩ := dot_w (may_of hm m12 (by simp)) (may_of hm m13 (by simp)) (may_of hm m14 (by simp)) (may_of hm m15 (by simp)) v1 v2 v3 v4
  simp -implicitDefEqProofs (maxSteps := 4000000) only [c16, c16b0, c16b1, vlist, vmay, vwithin _ _ 1073741824 (by omega), hm, v1, v2, v3, v4, q0_0, q0_1, q0_2, q0_3, q0_4, q0_5, q0_6, q0_7, q1_0, q1_1, q1_2, q1_3, q1_4, q1_5, q1_6, q1_7, q2_0, q2_1, q2_2, q2_3, q2_4, q2_5, q2_6, q2_7, q3_0, q3_1, q3_2, q3_3, q3_4, q3_5, q3_6, q3_7, fd16, push_cast, Nat.reduceAdd, Nat.reduceMul, Nat.reduceSub, Nat.reduceLT, Nat.reduceLeDiff, Nat.reduceEqDiff, Nat.reducePow, Int.reduceToNat, Int.reduceLT, Int.reduceLE, Int.reduceNeg, Int.reduceEq, Int.reducePow, reduceIte, reduceCtorEq, Int.reduceMul, Int.reduceAdd, Int.reduceSub, Int.reduceMod, Int.reduceDiv, Int.reduceTDiv, Int.reduceTMod, iter_s]
  rfl
theorem e7m (k : Nat) (m0 m1 m2 m3 m4 m5 m6 m7 m8 m9 m10 m11 m12 m13 m14 m15 x y z w : Int) (hm : may [m0, m1, m2, m3, m4, m5, m6, m7, m8, m9, m10, m11, m12, m13, m14, m15] = false) : evP (evF cm2 (k + 40)) 16 [.agg [.i m0, .i m1, .i m2, .i m3, .i m4, .i m5, .i m6, .i m7, .i m8, .i m9, .i m10, .i m11, .i m12, .i m13, .i m14, .i m15], .agg [.i x, .i y, .i z, .i w]] = some (.tup [.agg [.i 0, .i 0, .i 0, .i 0], .i 3]) := by
  rw [evP_fun (m := c16) rfl _ _ rfl]
  simp -implicitDefEqProofs (maxSteps := 4000000) only [c16, vlist, vmay, hm, push_cast, Nat.reduceAdd, Nat.reduceMul, Nat.reduceSub, Nat.reduceLT, Nat.reduceLeDiff, Nat.reduceEqDiff, Nat.reducePow, Int.reduceToNat, Int.reduceLT, Int.reduceLE, Int.reduceNeg, Int.reduceEq, Int.reducePow, reduceIte, reduceCtorEq, Int.reduceMul, Int.reduceAdd, Int.reduceSub, Int.reduceMod, Int.reduceDiv, Int.reduceTDiv, Int.reduceTMod, iter_s]
theorem e7v (k : Nat) (m0 m1 m2 m3 m4 m5 m6 m7 m8 m9 m10 m11 m12 m13 m14 m15 x y z w : Int) (hm : may [m0, m1, m2, m3, m4, m5, m6, m7, m8, m9, m10, m11, m12, m13, m14, m15] = true) (hv : fits x y z w = false) : evP (evF cm2 (k + 40)) 16 [.agg [.i m0, .i m1, .i m2, .i m3, .i m4, .i m5, .i m6, .i m7, .i m8, .i m9, .i m10, .i m11, .i m12, .i m13, .i m14, .i m15], .agg [.i x, .i y, .i z, .i w]] = some (.tup [.agg [.i 0, .i 0, .i 0, .i 0], .i 3]) := by
  rw [evP_fun (m := c16) rfl _ _ rfl]
  unfold fits at hv
  cases h1 : wi x 1073741824
  · simp -implicitDefEqProofs (maxSteps := 4000000) only [c16, vlist, vmay, vwithin _ _ 1073741824 (by omega), hm, h1, push_cast, Nat.reduceAdd, Nat.reduceMul, Nat.reduceSub, Nat.reduceLT, Nat.reduceLeDiff, Nat.reduceEqDiff, Nat.reducePow, Int.reduceToNat, Int.reduceLT, Int.reduceLE, Int.reduceNeg, Int.reduceEq, Int.reducePow, reduceIte, reduceCtorEq, Int.reduceMul, Int.reduceAdd, Int.reduceSub, Int.reduceMod, Int.reduceDiv, Int.reduceTDiv, Int.reduceTMod, iter_s]
  · cases h2 : wi y 1073741824
    · simp -implicitDefEqProofs (maxSteps := 4000000) only [c16, vlist, vmay, vwithin _ _ 1073741824 (by omega), hm, h1, h2, push_cast, Nat.reduceAdd, Nat.reduceMul, Nat.reduceSub, Nat.reduceLT, Nat.reduceLeDiff, Nat.reduceEqDiff, Nat.reducePow, Int.reduceToNat, Int.reduceLT, Int.reduceLE, Int.reduceNeg, Int.reduceEq, Int.reducePow, reduceIte, reduceCtorEq, Int.reduceMul, Int.reduceAdd, Int.reduceSub, Int.reduceMod, Int.reduceDiv, Int.reduceTDiv, Int.reduceTMod, iter_s]
    · cases h3 : wi z 1073741824
      · simp -implicitDefEqProofs (maxSteps := 4000000) only [c16, vlist, vmay, vwithin _ _ 1073741824 (by omega), hm, h1, h2, h3, push_cast, Nat.reduceAdd, Nat.reduceMul, Nat.reduceSub, Nat.reduceLT, Nat.reduceLeDiff, Nat.reduceEqDiff, Nat.reducePow, Int.reduceToNat, Int.reduceLT, Int.reduceLE, Int.reduceNeg, Int.reduceEq, Int.reducePow, reduceIte, reduceCtorEq, Int.reduceMul, Int.reduceAdd, Int.reduceSub, Int.reduceMod, Int.reduceDiv, Int.reduceTDiv, Int.reduceTMod, iter_s]
      · cases h4 : wi w 1073741824
        · simp -implicitDefEqProofs (maxSteps := 4000000) only [c16, vlist, vmay, vwithin _ _ 1073741824 (by omega), hm, h1, h2, h3, h4, push_cast, Nat.reduceAdd, Nat.reduceMul, Nat.reduceSub, Nat.reduceLT, Nat.reduceLeDiff, Nat.reduceEqDiff, Nat.reducePow, Int.reduceToNat, Int.reduceLT, Int.reduceLE, Int.reduceNeg, Int.reduceEq, Int.reducePow, reduceIte, reduceCtorEq, Int.reduceMul, Int.reduceAdd, Int.reduceSub, Int.reduceMod, Int.reduceDiv, Int.reduceTDiv, Int.reduceTMod, iter_s]
        · simp [h1, h2, h3, h4] at hv
end Go.Proofs.Yteeghebaankmlaa
