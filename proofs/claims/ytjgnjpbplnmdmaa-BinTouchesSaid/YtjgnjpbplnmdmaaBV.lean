/- A prim's check, the program's and the document's, as the evaluator answers. -/
import Derived.Test.YtjgnjpbplnmdmaaBU
set_option linter.unusedSimpArgs false
set_option linter.unusedVariables false
set_option linter.unusedSectionVars false
set_option maxRecDepth 100000
set_option maxHeartbeats 16000000
namespace Go.Proofs.Ytjgnjpbplnmdmaa
open Go
def sat (x a b : Int) : Int := if x < a then a else if b < x then b else x
theorem w_sat (k : Nat) (x a b : Int) : evP (evF cm (k + 1)) 80 [.i x, .i a, .i b] = some (.i (sat x a b)) := by
  rw [evP_fun (m := c80) rfl _ _ rfl]
  simp -implicitDefEqProofs only [c80, push_cast, Nat.reduceAdd, Nat.reduceMul, Nat.reduceSub, Nat.reduceLT, Nat.reduceLeDiff, Nat.reduceEqDiff, Nat.reducePow, Int.reduceToNat, Int.reduceLT, Int.reduceLE, Int.reduceNeg, Int.reduceEq, Int.reducePow, reduceIte, reduceCtorEq, Int.reduceMul, Int.reduceAdd, Int.reduceSub, Int.reduceMod, Int.reduceDiv, Int.reduceTDiv, Int.reduceTMod, iter_s]
  unfold sat; split <;> (try split) <;> rfl
theorem w_clos (k : Nat) (x a : Int) : evP (evF cm (k + 2)) 79 [.i x, .i a] = some (.i (sat x 0 255)) := by
  rw [evP_fun (m := c79) rfl _ _ rfl]
  simp -implicitDefEqProofs only [c79, w_sat, push_cast, Nat.reduceAdd, Nat.reduceMul, Nat.reduceSub, Nat.reduceLT, Nat.reduceLeDiff, Nat.reduceEqDiff, Nat.reducePow, Int.reduceToNat, Int.reduceLT, Int.reduceLE, Int.reduceNeg, Int.reduceEq, Int.reducePow, reduceIte, reduceCtorEq, Int.reduceMul, Int.reduceAdd, Int.reduceSub, Int.reduceMod, Int.reduceDiv, Int.reduceTDiv, Int.reduceTMod, iter_s]
theorem w_each (k : Nat) (r g b a r' g' b' a' : Int) : evP (evF cm (k + 3)) 78 [.agg [.i r, .i g, .i b, .i a], .agg [.i r', .i g', .i b', .i a'], .f 79 []] = some (.agg [.i (sat r 0 255), .i (sat g 0 255), .i (sat b 0 255), .i (sat a 0 255)]) := by
  rw [evP_fun (m := c78) rfl _ _ rfl]
  simp -implicitDefEqProofs only [c78, w_clos, push_cast, Nat.reduceAdd, Nat.reduceMul, Nat.reduceSub, Nat.reduceLT, Nat.reduceLeDiff, Nat.reduceEqDiff, Nat.reducePow, Int.reduceToNat, Int.reduceLT, Int.reduceLE, Int.reduceNeg, Int.reduceEq, Int.reducePow, reduceIte, reduceCtorEq, Int.reduceMul, Int.reduceAdd, Int.reduceSub, Int.reduceMod, Int.reduceDiv, Int.reduceTDiv, Int.reduceTMod, iter_s]
def ch (x : Int) : Prop := 0 ≤ x ∧ x ≤ 255
instance (x : Int) : Decidable (ch x) := inferInstanceAs (Decidable (0 ≤ x ∧ x ≤ 255))
def Rt (r g b a : Int) : Bool := decide (ch r) && (decide (ch g) && (decide (ch b) && decide (ch a)))
theorem sat_self (x : Int) : decide (x = sat x 0 255) = decide (ch x) := by
  rw [decide_eq_decide]; unfold sat ch; split <;> (try split) <;> omega
theorem w_right (k : Nat) (r g b a : Int) : evP (evF cm (k + 4)) 63 [.agg [.i r, .i g, .i b, .i a]] = some (.b (Rt r g b a)) := by
  rw [evP_fun (m := c63) rfl _ _ rfl]
  simp -implicitDefEqProofs only [c63, w_each, push_cast, Nat.reduceAdd, Nat.reduceMul, Nat.reduceSub, Nat.reduceLT, Nat.reduceLeDiff, Nat.reduceEqDiff, Nat.reducePow, Int.reduceToNat, Int.reduceLT, Int.reduceLE, Int.reduceNeg, Int.reduceEq, Int.reducePow, reduceIte, reduceCtorEq, Int.reduceMul, Int.reduceAdd, Int.reduceSub, Int.reduceMod, Int.reduceDiv, Int.reduceTDiv, Int.reduceTMod, iter_s, sat_self, Rt]
theorem w_ris (k : Nat) (x : Int) : evP (evF cm (k + 1)) 67 [.i x] = some (.b (decide (ch x))) := by
  rw [evP_fun (m := c67) rfl _ _ rfl]
  simp -implicitDefEqProofs only [c67, push_cast, Nat.reduceAdd, Nat.reduceMul, Nat.reduceSub, Nat.reduceLT, Nat.reduceLeDiff, Nat.reduceEqDiff, Nat.reducePow, Int.reduceToNat, Int.reduceLT, Int.reduceLE, Int.reduceNeg, Int.reduceEq, Int.reducePow, reduceIte, reduceCtorEq, Int.reduceMul, Int.reduceAdd, Int.reduceSub, Int.reduceMod, Int.reduceDiv, Int.reduceTDiv, Int.reduceTMod, iter_s]
  by_cases h : 0 ≤ x <;> simp [h, ch]
theorem w_rright (k : Nat) (r g b a : Int) : evP (evF cm (k + 2)) 37 [.agg [.i r, .i g, .i b, .i a]] = some (.b (Rt r g b a)) := by
  rw [evP_fun (m := c37) rfl _ _ rfl]
  unfold Rt
  by_cases h1 : ch r
  · by_cases h2 : ch g
    · by_cases h3 : ch b
      · simp -implicitDefEqProofs only [c37, w_ris, h1, h2, h3, Bool.true_and, push_cast, Nat.reduceAdd, Nat.reduceMul, Nat.reduceSub, Nat.reduceLT, Nat.reduceLeDiff, Nat.reduceEqDiff, Nat.reducePow, Int.reduceToNat, Int.reduceLT, Int.reduceLE, Int.reduceNeg, Int.reduceEq, Int.reducePow, reduceIte, reduceCtorEq, Int.reduceMul, Int.reduceAdd, Int.reduceSub, Int.reduceMod, Int.reduceDiv, Int.reduceTDiv, Int.reduceTMod, iter_s]
      · simp -implicitDefEqProofs only [c37, w_ris, h1, h2, h3, Bool.true_and, Bool.false_and, push_cast, Nat.reduceAdd, Nat.reduceMul, Nat.reduceSub, Nat.reduceLT, Nat.reduceLeDiff, Nat.reduceEqDiff, Nat.reducePow, Int.reduceToNat, Int.reduceLT, Int.reduceLE, Int.reduceNeg, Int.reduceEq, Int.reducePow, reduceIte, reduceCtorEq, Int.reduceMul, Int.reduceAdd, Int.reduceSub, Int.reduceMod, Int.reduceDiv, Int.reduceTDiv, Int.reduceTMod, iter_s]
    · simp -implicitDefEqProofs only [c37, w_ris, h1, h2, Bool.true_and, Bool.false_and, push_cast, Nat.reduceAdd, Nat.reduceMul, Nat.reduceSub, Nat.reduceLT, Nat.reduceLeDiff, Nat.reduceEqDiff, Nat.reducePow, Int.reduceToNat, Int.reduceLT, Int.reduceLE, Int.reduceNeg, Int.reduceEq, Int.reducePow, reduceIte, reduceCtorEq, Int.reduceMul, Int.reduceAdd, Int.reduceSub, Int.reduceMod, Int.reduceDiv, Int.reduceTDiv, Int.reduceTMod, iter_s]
  · simp -implicitDefEqProofs only [c37, w_ris, h1, Bool.false_and, push_cast, Nat.reduceAdd, Nat.reduceMul, Nat.reduceSub, Nat.reduceLT, Nat.reduceLeDiff, Nat.reduceEqDiff, Nat.reducePow, Int.reduceToNat, Int.reduceLT, Int.reduceLE, Int.reduceNeg, Int.reduceEq, Int.reducePow, reduceIte, reduceCtorEq, Int.reduceMul, Int.reduceAdd, Int.reduceSub, Int.reduceMod, Int.reduceDiv, Int.reduceTDiv, Int.reduceTMod, iter_s]
def Pr (r g b a z s : Int) : Bool := Rt r g b a && decide (az z) && decide (ch s)
theorem w_deep (k : Nat) (x : Int) : evP (evF cm (k + 1)) 64 [.i x] = some (.b (decide (az x))) := by
  rw [evP_fun (m := c64) rfl _ _ rfl]
  simp -implicitDefEqProofs only [c64, push_cast, Nat.reduceAdd, Nat.reduceMul, Nat.reduceSub, Nat.reduceLT, Nat.reduceLeDiff, Nat.reduceEqDiff, Nat.reducePow, Int.reduceToNat, Int.reduceLT, Int.reduceLE, Int.reduceNeg, Int.reduceEq, Int.reducePow, reduceIte, reduceCtorEq, Int.reduceMul, Int.reduceAdd, Int.reduceSub, Int.reduceMod, Int.reduceDiv, Int.reduceTDiv, Int.reduceTMod, iter_s]
  by_cases h : 0 ≤ x <;> simp [h, az]
theorem w_rdeep (k : Nat) (x : Int) : evP (evF cm (k + 1)) 38 [.i x] = some (.b (decide (az x))) := by
  rw [evP_fun (m := c38) rfl _ _ rfl]
  simp -implicitDefEqProofs only [c38, push_cast, Nat.reduceAdd, Nat.reduceMul, Nat.reduceSub, Nat.reduceLT, Nat.reduceLeDiff, Nat.reduceEqDiff, Nat.reducePow, Int.reduceToNat, Int.reduceLT, Int.reduceLE, Int.reduceNeg, Int.reduceEq, Int.reducePow, reduceIte, reduceCtorEq, Int.reduceMul, Int.reduceAdd, Int.reduceSub, Int.reduceMod, Int.reduceDiv, Int.reduceTDiv, Int.reduceTMod, iter_s]
  by_cases h : 0 ≤ x <;> simp [h, az]
theorem w_r9is (k : Nat) (x : Int) : evP (evF cm (k + 1)) 39 [.i x] = some (.b (decide (ch x))) := by
  rw [evP_fun (m := c39) rfl _ _ rfl]
  simp -implicitDefEqProofs only [c39, push_cast, Nat.reduceAdd, Nat.reduceMul, Nat.reduceSub, Nat.reduceLT, Nat.reduceLeDiff, Nat.reduceEqDiff, Nat.reducePow, Int.reduceToNat, Int.reduceLT, Int.reduceLE, Int.reduceNeg, Int.reduceEq, Int.reducePow, reduceIte, reduceCtorEq, Int.reduceMul, Int.reduceAdd, Int.reduceSub, Int.reduceMod, Int.reduceDiv, Int.reduceTDiv, Int.reduceTMod, iter_s]
  by_cases h : 0 ≤ x <;> simp [h, ch]
theorem w_px (k : Nat) (r g b a z s : Int) : evP (evF cm (k + 6)) 33 [.agg [.i r, .i g, .i b, .i a, .i z, .i s]] = some (.b (Pr r g b a z s)) := by
  rw [evP_fun (m := c33) rfl _ _ rfl]
  unfold Pr
  cases h1 : Rt r g b a
  · simp -implicitDefEqProofs only [c33, w_right, h1, Bool.false_and, push_cast, Nat.reduceAdd, Nat.reduceMul, Nat.reduceSub, Nat.reduceLT, Nat.reduceLeDiff, Nat.reduceEqDiff, Nat.reducePow, Int.reduceToNat, Int.reduceLT, Int.reduceLE, Int.reduceNeg, Int.reduceEq, Int.reducePow, reduceIte, reduceCtorEq, Int.reduceMul, Int.reduceAdd, Int.reduceSub, Int.reduceMod, Int.reduceDiv, Int.reduceTDiv, Int.reduceTMod, iter_s]
  by_cases h2 : az z
  · by_cases h3 : 0 ≤ s
    · by_cases h4 : s ≤ 255
      · have h5 : ch s := ⟨h3, h4⟩
        simp -implicitDefEqProofs only [c33, w_right, w_deep, h1, h2, h3, h4, h5, Bool.true_and, push_cast, Nat.reduceAdd, Nat.reduceMul, Nat.reduceSub, Nat.reduceLT, Nat.reduceLeDiff, Nat.reduceEqDiff, Nat.reducePow, Int.reduceToNat, Int.reduceLT, Int.reduceLE, Int.reduceNeg, Int.reduceEq, Int.reducePow, reduceIte, reduceCtorEq, Int.reduceMul, Int.reduceAdd, Int.reduceSub, Int.reduceMod, Int.reduceDiv, Int.reduceTDiv, Int.reduceTMod, iter_s]
      · have h5 : ¬ ch s := fun h => h4 h.2
        simp -implicitDefEqProofs only [c33, w_right, w_deep, h1, h2, h3, h4, h5, Bool.true_and, push_cast, Nat.reduceAdd, Nat.reduceMul, Nat.reduceSub, Nat.reduceLT, Nat.reduceLeDiff, Nat.reduceEqDiff, Nat.reducePow, Int.reduceToNat, Int.reduceLT, Int.reduceLE, Int.reduceNeg, Int.reduceEq, Int.reducePow, reduceIte, reduceCtorEq, Int.reduceMul, Int.reduceAdd, Int.reduceSub, Int.reduceMod, Int.reduceDiv, Int.reduceTDiv, Int.reduceTMod, iter_s]
    · have h5 : ¬ ch s := fun h => h3 h.1
      simp -implicitDefEqProofs only [c33, w_right, w_deep, h1, h2, h3, h5, Bool.true_and, push_cast, Nat.reduceAdd, Nat.reduceMul, Nat.reduceSub, Nat.reduceLT, Nat.reduceLeDiff, Nat.reduceEqDiff, Nat.reducePow, Int.reduceToNat, Int.reduceLT, Int.reduceLE, Int.reduceNeg, Int.reduceEq, Int.reducePow, reduceIte, reduceCtorEq, Int.reduceMul, Int.reduceAdd, Int.reduceSub, Int.reduceMod, Int.reduceDiv, Int.reduceTDiv, Int.reduceTMod, iter_s]
  · simp -implicitDefEqProofs only [c33, w_right, w_deep, h1, h2, Bool.true_and, Bool.false_and, push_cast, Nat.reduceAdd, Nat.reduceMul, Nat.reduceSub, Nat.reduceLT, Nat.reduceLeDiff, Nat.reduceEqDiff, Nat.reducePow, Int.reduceToNat, Int.reduceLT, Int.reduceLE, Int.reduceNeg, Int.reduceEq, Int.reducePow, reduceIte, reduceCtorEq, Int.reduceMul, Int.reduceAdd, Int.reduceSub, Int.reduceMod, Int.reduceDiv, Int.reduceTDiv, Int.reduceTMod, iter_s]
theorem w_rpx (k : Nat) (r g b a z s : Int) : evP (evF cm (k + 6)) 20 [.agg [.i r, .i g, .i b, .i a, .i z, .i s]] = some (.b (Pr r g b a z s)) := by
  rw [evP_fun (m := c20) rfl _ _ rfl]
  unfold Pr
  cases h1 : Rt r g b a
  · simp -implicitDefEqProofs only [c20, w_rright, h1, Bool.false_and, push_cast, Nat.reduceAdd, Nat.reduceMul, Nat.reduceSub, Nat.reduceLT, Nat.reduceLeDiff, Nat.reduceEqDiff, Nat.reducePow, Int.reduceToNat, Int.reduceLT, Int.reduceLE, Int.reduceNeg, Int.reduceEq, Int.reducePow, reduceIte, reduceCtorEq, Int.reduceMul, Int.reduceAdd, Int.reduceSub, Int.reduceMod, Int.reduceDiv, Int.reduceTDiv, Int.reduceTMod, iter_s]
  by_cases h2 : az z
  · simp -implicitDefEqProofs only [c20, w_rright, w_rdeep, w_r9is, h1, h2, Bool.true_and, push_cast, Nat.reduceAdd, Nat.reduceMul, Nat.reduceSub, Nat.reduceLT, Nat.reduceLeDiff, Nat.reduceEqDiff, Nat.reducePow, Int.reduceToNat, Int.reduceLT, Int.reduceLE, Int.reduceNeg, Int.reduceEq, Int.reducePow, reduceIte, reduceCtorEq, Int.reduceMul, Int.reduceAdd, Int.reduceSub, Int.reduceMod, Int.reduceDiv, Int.reduceTDiv, Int.reduceTMod, iter_s]
  · simp -implicitDefEqProofs only [c20, w_rright, w_rdeep, h1, h2, Bool.true_and, Bool.false_and, push_cast, Nat.reduceAdd, Nat.reduceMul, Nat.reduceSub, Nat.reduceLT, Nat.reduceLeDiff, Nat.reduceEqDiff, Nat.reducePow, Int.reduceToNat, Int.reduceLT, Int.reduceLE, Int.reduceNeg, Int.reduceEq, Int.reducePow, reduceIte, reduceCtorEq, Int.reduceMul, Int.reduceAdd, Int.reduceSub, Int.reduceMod, Int.reduceDiv, Int.reduceTDiv, Int.reduceTMod, iter_s]
def primC (q n0 n1 n2 n3 n4 n5 n6 n7 n8 n9 n10 n11 n12 n13 n14 n15 n16 n17 n18 n19 n20 n21 n22 n23 n24 n25 n26 n27 n28 n29 n30 n31 m0 m1 m2 m3 m4 m5 m6 m7 m8 m9 m10 m11 m12 m13 m14 m15 v0 v1 v2 v3 u0 u1 u2 u3 d t0 t1 t2 t3 t4 t5 t6 b0 b1 b2 b3 cu tx wr iw ih wh r g b a z s c0 c1 c2 c3 : Int) (p so : Bool) (L : LV) : LV := .agg [.i q, .i n0, .i n1, .i n2, .i n3, .i n4, .i n5, .i n6, .i n7, .i n8, .i n9, .i n10, .i n11, .i n12, .i n13, .i n14, .i n15, .i n16, .i n17, .i n18, .i n19, .i n20, .i n21, .i n22, .i n23, .i n24, .i n25, .i n26, .i n27, .i n28, .i n29, .i n30, .i n31, .i m0, .i m1, .i m2, .i m3, .i m4, .i m5, .i m6, .i m7, .i m8, .i m9, .i m10, .i m11, .i m12, .i m13, .i m14, .i m15, .i v0, .i v1, .i v2, .i v3, .i u0, .i u1, .i u2, .i u3, .i d, .b p, .i t0, .i t1, .i t2, .i t3, .i t4, .i t5, .i t6, .i b0, .i b1, .i b2, .i b3, .i cu, .i tx, .i wr, .b so, .i iw, .i ih, L, .i wh, .i r, .i g, .i b, .i a, .i z, .i s, .i c0, .i c1, .i c2, .i c3]
/-- A prim's check, and what holds of one that may be. -/
theorem prim_chk (q n0 n1 n2 n3 n4 n5 n6 n7 n8 n9 n10 n11 n12 n13 n14 n15 n16 n17 n18 n19 n20 n21 n22 n23 n24 n25 n26 n27 n28 n29 n30 n31 m0 m1 m2 m3 m4 m5 m6 m7 m8 m9 m10 m11 m12 m13 m14 m15 v0 v1 v2 v3 u0 u1 u2 u3 d t0 t1 t2 t3 t4 t5 t6 b0 b1 b2 b3 cu tx wr iw ih wh r g b a z s c0 c1 c2 c3 : Int) (p so : Bool) (l : List Int) (L : LV) (hS : SlI l L) : ∃ e : Int,
    (∀ k, evP (evF cm (k + 80)) 15 [.agg [.i q, .i n0, .i n1, .i n2, .i n3, .i n4, .i n5, .i n6, .i n7, .i n8, .i n9, .i n10, .i n11, .i n12, .i n13, .i n14, .i n15, .i n16, .i n17, .i n18, .i n19, .i n20, .i n21, .i n22, .i n23, .i n24, .i n25, .i n26, .i n27, .i n28, .i n29, .i n30, .i n31, .i m0, .i m1, .i m2, .i m3, .i m4, .i m5, .i m6, .i m7, .i m8, .i m9, .i m10, .i m11, .i m12, .i m13, .i m14, .i m15, .i v0, .i v1, .i v2, .i v3, .i u0, .i u1, .i u2, .i u3, .i d, .b p, .i t0, .i t1, .i t2, .i t3, .i t4, .i t5, .i t6, .i b0, .i b1, .i b2, .i b3, .i cu, .i tx, .i wr, .b so, .i iw, .i ih, L, .i wh, .i r, .i g, .i b, .i a, .i z, .i s, .i c0, .i c1, .i c2, .i c3]] = some (.i e)) ∧ (∀ k, evP (evF cm (k + 80)) 7 [.agg [.i q, .i n0, .i n1, .i n2, .i n3, .i n4, .i n5, .i n6, .i n7, .i n8, .i n9, .i n10, .i n11, .i n12, .i n13, .i n14, .i n15, .i n16, .i n17, .i n18, .i n19, .i n20, .i n21, .i n22, .i n23, .i n24, .i n25, .i n26, .i n27, .i n28, .i n29, .i n30, .i n31, .i m0, .i m1, .i m2, .i m3, .i m4, .i m5, .i m6, .i m7, .i m8, .i m9, .i m10, .i m11, .i m12, .i m13, .i m14, .i m15, .i v0, .i v1, .i v2, .i v3, .i u0, .i u1, .i u2, .i u3, .i d, .b p, .i t0, .i t1, .i t2, .i t3, .i t4, .i t5, .i t6, .i b0, .i b1, .i b2, .i b3, .i cu, .i tx, .i wr, .b so, .i iw, .i ih, L, .i wh, .i r, .i g, .i b, .i a, .i z, .i s, .i c0, .i c1, .i c2, .i c3]] = some (.i e)) ∧
    (e = 0 → q = 1 ∨ (q = 0 ∧ sm n0 n1 n2 n3 n4 n5 n6 n7 n8 ∧ sm n9 n10 n11 n12 n13 n14 n15 n16 n17 ∧ sm n18 n19 n20 n21 n22 n23 n24 n25 n26)) := by
  have hat := hS.atm
  have hcl := hS.cl
  have hce := hS.cells
  have hln := hS.len
  have k8 := fun k => s18_8 k m0 m1 m2 m3 m4 m5 m6 m7 m8 m9 m10 m11 m12 m13 m14 m15 v0 v1 v2 v3 u0 u1 u2 u3 d t0 t1 t2 t3 t4 t5 t6 b0 b1 b2 b3 cu tx wr p so
  have k7 := fun k => s18_7 k m0 m1 m2 m3 m4 m5 m6 m7 m8 m9 m10 m11 m12 m13 m14 m15 v0 v1 v2 v3 u0 u1 u2 u3 d t0 t1 t2 t3 t4 t5 t6 b0 b1 b2 b3 cu tx wr p so
  generalize hst : (fst9 (mc [m0, m1, m2, m3, m4, m5, m6, m7, m8, m9, m10, m11, m12, m13, m14, m15]) (vc v0 v1 v2 v3) (vc u0 u1 u2 u3) (tc d) (sc t0 t1 t2 t3 t4 t5 t6) (bc b0 b1 b2 b3) (kc cu) (hc tx) (kc wr)) = st at k7 k8
  clear hst
  by_cases q1 : q = 1
  · subst q1
    by_cases g1 : wh < 1
    · exact ⟨9, fun k => by
        rw [evP_fun (m := c15) rfl _ _ rfl]
        simp -implicitDefEqProofs (maxSteps := 4000000) only [c15, hat, hcl, hce, hln, g1, push_cast, Nat.reduceAdd, Nat.reduceMul, Nat.reduceSub, Nat.reduceLT, Nat.reduceLeDiff, Nat.reduceEqDiff, Nat.reducePow, Int.reduceToNat, Int.reduceLT, Int.reduceLE, Int.reduceNeg, Int.reduceEq, Int.reducePow, reduceIte, reduceCtorEq, Int.reduceMul, Int.reduceAdd, Int.reduceSub, Int.reduceMod, Int.reduceDiv, Int.reduceTDiv, Int.reduceTMod, iter_s], fun k => by
        rw [evP_fun (m := c7) rfl _ _ rfl]
        simp -implicitDefEqProofs (maxSteps := 4000000) only [c7, hat, hcl, hce, hln, g1, push_cast, Nat.reduceAdd, Nat.reduceMul, Nat.reduceSub, Nat.reduceLT, Nat.reduceLeDiff, Nat.reduceEqDiff, Nat.reducePow, Int.reduceToNat, Int.reduceLT, Int.reduceLE, Int.reduceNeg, Int.reduceEq, Int.reducePow, reduceIte, reduceCtorEq, Int.reduceMul, Int.reduceAdd, Int.reduceSub, Int.reduceMod, Int.reduceDiv, Int.reduceTDiv, Int.reduceTMod, iter_s], fun h => by omega⟩
    by_cases g2 : 7 < wh
    · exact ⟨9, fun k => by
        rw [evP_fun (m := c15) rfl _ _ rfl]
        simp -implicitDefEqProofs (maxSteps := 4000000) only [c15, hat, hcl, hce, hln, g1, g2, push_cast, Nat.reduceAdd, Nat.reduceMul, Nat.reduceSub, Nat.reduceLT, Nat.reduceLeDiff, Nat.reduceEqDiff, Nat.reducePow, Int.reduceToNat, Int.reduceLT, Int.reduceLE, Int.reduceNeg, Int.reduceEq, Int.reducePow, reduceIte, reduceCtorEq, Int.reduceMul, Int.reduceAdd, Int.reduceSub, Int.reduceMod, Int.reduceDiv, Int.reduceTDiv, Int.reduceTMod, iter_s], fun k => by
        rw [evP_fun (m := c7) rfl _ _ rfl]
        simp -implicitDefEqProofs (maxSteps := 4000000) only [c7, hat, hcl, hce, hln, g1, g2, push_cast, Nat.reduceAdd, Nat.reduceMul, Nat.reduceSub, Nat.reduceLT, Nat.reduceLeDiff, Nat.reduceEqDiff, Nat.reducePow, Int.reduceToNat, Int.reduceLT, Int.reduceLE, Int.reduceNeg, Int.reduceEq, Int.reducePow, reduceIte, reduceCtorEq, Int.reduceMul, Int.reduceAdd, Int.reduceSub, Int.reduceMod, Int.reduceDiv, Int.reduceTDiv, Int.reduceTMod, iter_s], fun h => by omega⟩
    cases g3 : Pr r g b a z s
    · exact ⟨3, fun k => by
        rw [evP_fun (m := c15) rfl _ _ rfl]
        simp -implicitDefEqProofs (maxSteps := 4000000) only [c15, hat, hcl, hce, hln, g1, g2, g3, w_px, push_cast, Nat.reduceAdd, Nat.reduceMul, Nat.reduceSub, Nat.reduceLT, Nat.reduceLeDiff, Nat.reduceEqDiff, Nat.reducePow, Int.reduceToNat, Int.reduceLT, Int.reduceLE, Int.reduceNeg, Int.reduceEq, Int.reducePow, reduceIte, reduceCtorEq, Int.reduceMul, Int.reduceAdd, Int.reduceSub, Int.reduceMod, Int.reduceDiv, Int.reduceTDiv, Int.reduceTMod, iter_s], fun k => by
        rw [evP_fun (m := c7) rfl _ _ rfl]
        simp -implicitDefEqProofs (maxSteps := 4000000) only [c7, hat, hcl, hce, hln, g1, g2, g3, w_rpx, push_cast, Nat.reduceAdd, Nat.reduceMul, Nat.reduceSub, Nat.reduceLT, Nat.reduceLeDiff, Nat.reduceEqDiff, Nat.reducePow, Int.reduceToNat, Int.reduceLT, Int.reduceLE, Int.reduceNeg, Int.reduceEq, Int.reducePow, reduceIte, reduceCtorEq, Int.reduceMul, Int.reduceAdd, Int.reduceSub, Int.reduceMod, Int.reduceDiv, Int.reduceTDiv, Int.reduceTMod, iter_s], fun h => by omega⟩
    · exact ⟨0, fun k => by
        rw [evP_fun (m := c15) rfl _ _ rfl]
        simp -implicitDefEqProofs (maxSteps := 4000000) only [c15, hat, hcl, hce, hln, g1, g2, g3, w_px, push_cast, Nat.reduceAdd, Nat.reduceMul, Nat.reduceSub, Nat.reduceLT, Nat.reduceLeDiff, Nat.reduceEqDiff, Nat.reducePow, Int.reduceToNat, Int.reduceLT, Int.reduceLE, Int.reduceNeg, Int.reduceEq, Int.reducePow, reduceIte, reduceCtorEq, Int.reduceMul, Int.reduceAdd, Int.reduceSub, Int.reduceMod, Int.reduceDiv, Int.reduceTDiv, Int.reduceTMod, iter_s], fun k => by
        rw [evP_fun (m := c7) rfl _ _ rfl]
        simp -implicitDefEqProofs (maxSteps := 4000000) only [c7, hat, hcl, hce, hln, g1, g2, g3, w_rpx, push_cast, Nat.reduceAdd, Nat.reduceMul, Nat.reduceSub, Nat.reduceLT, Nat.reduceLeDiff, Nat.reduceEqDiff, Nat.reducePow, Int.reduceToNat, Int.reduceLT, Int.reduceLE, Int.reduceNeg, Int.reduceEq, Int.reducePow, reduceIte, reduceCtorEq, Int.reduceMul, Int.reduceAdd, Int.reduceSub, Int.reduceMod, Int.reduceDiv, Int.reduceTDiv, Int.reduceTMod, iter_s], fun _ => .inl rfl⟩
  by_cases q0 : q = 0
  rotate_left
  · exact ⟨9, fun k => by
      rw [evP_fun (m := c15) rfl _ _ rfl]
      simp -implicitDefEqProofs (maxSteps := 4000000) only [c15, hat, hcl, hce, hln, q0, q1, push_cast, Nat.reduceAdd, Nat.reduceMul, Nat.reduceSub, Nat.reduceLT, Nat.reduceLeDiff, Nat.reduceEqDiff, Nat.reducePow, Int.reduceToNat, Int.reduceLT, Int.reduceLE, Int.reduceNeg, Int.reduceEq, Int.reducePow, reduceIte, reduceCtorEq, Int.reduceMul, Int.reduceAdd, Int.reduceSub, Int.reduceMod, Int.reduceDiv, Int.reduceTDiv, Int.reduceTMod, iter_s], fun k => by
      rw [evP_fun (m := c7) rfl _ _ rfl]
      simp -implicitDefEqProofs (maxSteps := 4000000) only [c7, hat, hcl, hce, hln, q0, q1, push_cast, Nat.reduceAdd, Nat.reduceMul, Nat.reduceSub, Nat.reduceLT, Nat.reduceLeDiff, Nat.reduceEqDiff, Nat.reducePow, Int.reduceToNat, Int.reduceLT, Int.reduceLE, Int.reduceNeg, Int.reduceEq, Int.reducePow, reduceIte, reduceCtorEq, Int.reduceMul, Int.reduceAdd, Int.reduceSub, Int.reduceMod, Int.reduceDiv, Int.reduceTDiv, Int.reduceTMod, iter_s], fun h => by omega⟩
  subst q0
  by_cases hst : st = 0
  rotate_left
  · exact ⟨st, fun k => by
      rw [evP_fun (m := c15) rfl _ _ rfl]
      simp -implicitDefEqProofs (maxSteps := 4000000) only [c15, hat, hcl, hce, hln, k8, hst, push_cast, Nat.reduceAdd, Nat.reduceMul, Nat.reduceSub, Nat.reduceLT, Nat.reduceLeDiff, Nat.reduceEqDiff, Nat.reducePow, Int.reduceToNat, Int.reduceLT, Int.reduceLE, Int.reduceNeg, Int.reduceEq, Int.reducePow, reduceIte, reduceCtorEq, Int.reduceMul, Int.reduceAdd, Int.reduceSub, Int.reduceMod, Int.reduceDiv, Int.reduceTDiv, Int.reduceTMod, iter_s], fun k => by
      rw [evP_fun (m := c7) rfl _ _ rfl]
      simp -implicitDefEqProofs (maxSteps := 4000000) only [c7, hat, hcl, hce, hln, k7, hst, push_cast, Nat.reduceAdd, Nat.reduceMul, Nat.reduceSub, Nat.reduceLT, Nat.reduceLeDiff, Nat.reduceEqDiff, Nat.reducePow, Int.reduceToNat, Int.reduceLT, Int.reduceLE, Int.reduceNeg, Int.reduceEq, Int.reducePow, reduceIte, reduceCtorEq, Int.reduceMul, Int.reduceAdd, Int.reduceSub, Int.reduceMod, Int.reduceDiv, Int.reduceTDiv, Int.reduceTMod, iter_s], fun h => absurd h hst⟩
  subst hst
  by_cases s0 : sm n0 n1 n2 n3 n4 n5 n6 n7 n8
  rotate_left
  · have e1 := fun k => w_setupF k n0 n1 n2 n3 n4 n5 n6 n7 n8 n9 n10 n11 n12 n13 n14 n15 n16 n17 n18 n19 n20 n21 n22 n23 n24 n25 n26 (.inl s0)
    exact ⟨6, fun k => by
      rw [evP_fun (m := c15) rfl _ _ rfl]
      simp -implicitDefEqProofs (maxSteps := 4000000) only [c15, hat, hcl, hce, hln, k8, e1, zT, push_cast, Nat.reduceAdd, Nat.reduceMul, Nat.reduceSub, Nat.reduceLT, Nat.reduceLeDiff, Nat.reduceEqDiff, Nat.reducePow, Int.reduceToNat, Int.reduceLT, Int.reduceLE, Int.reduceNeg, Int.reduceEq, Int.reducePow, reduceIte, reduceCtorEq, Int.reduceMul, Int.reduceAdd, Int.reduceSub, Int.reduceMod, Int.reduceDiv, Int.reduceTDiv, Int.reduceTMod, iter_s], fun k => by
      rw [evP_fun (m := c7) rfl _ _ rfl]
      simp -implicitDefEqProofs (maxSteps := 4000000) only [c7, c7b0, hat, hcl, hce, hln, k7, w_rsmay, s0, push_cast, Nat.reduceAdd, Nat.reduceMul, Nat.reduceSub, Nat.reduceLT, Nat.reduceLeDiff, Nat.reduceEqDiff, Nat.reducePow, Int.reduceToNat, Int.reduceLT, Int.reduceLE, Int.reduceNeg, Int.reduceEq, Int.reducePow, reduceIte, reduceCtorEq, Int.reduceMul, Int.reduceAdd, Int.reduceSub, Int.reduceMod, Int.reduceDiv, Int.reduceTDiv, Int.reduceTMod, iter_s], fun h => by omega⟩
  by_cases s1 : sm n9 n10 n11 n12 n13 n14 n15 n16 n17
  rotate_left
  · have e1 := fun k => w_setupF k n0 n1 n2 n3 n4 n5 n6 n7 n8 n9 n10 n11 n12 n13 n14 n15 n16 n17 n18 n19 n20 n21 n22 n23 n24 n25 n26 (.inr (.inl ⟨s0, s1⟩))
    exact ⟨6, fun k => by
      rw [evP_fun (m := c15) rfl _ _ rfl]
      simp -implicitDefEqProofs (maxSteps := 4000000) only [c15, hat, hcl, hce, hln, k8, e1, zT, push_cast, Nat.reduceAdd, Nat.reduceMul, Nat.reduceSub, Nat.reduceLT, Nat.reduceLeDiff, Nat.reduceEqDiff, Nat.reducePow, Int.reduceToNat, Int.reduceLT, Int.reduceLE, Int.reduceNeg, Int.reduceEq, Int.reducePow, reduceIte, reduceCtorEq, Int.reduceMul, Int.reduceAdd, Int.reduceSub, Int.reduceMod, Int.reduceDiv, Int.reduceTDiv, Int.reduceTMod, iter_s], fun k => by
      rw [evP_fun (m := c7) rfl _ _ rfl]
      simp -implicitDefEqProofs (maxSteps := 4000000) only [c7, c7b0, hat, hcl, hce, hln, k7, w_rsmay, s0, s1, push_cast, Nat.reduceAdd, Nat.reduceMul, Nat.reduceSub, Nat.reduceLT, Nat.reduceLeDiff, Nat.reduceEqDiff, Nat.reducePow, Int.reduceToNat, Int.reduceLT, Int.reduceLE, Int.reduceNeg, Int.reduceEq, Int.reducePow, reduceIte, reduceCtorEq, Int.reduceMul, Int.reduceAdd, Int.reduceSub, Int.reduceMod, Int.reduceDiv, Int.reduceTDiv, Int.reduceTMod, iter_s], fun h => by omega⟩
  by_cases s2 : sm n18 n19 n20 n21 n22 n23 n24 n25 n26
  rotate_left
  · have e1 := fun k => w_setupF k n0 n1 n2 n3 n4 n5 n6 n7 n8 n9 n10 n11 n12 n13 n14 n15 n16 n17 n18 n19 n20 n21 n22 n23 n24 n25 n26 (.inr (.inr ⟨s0, s1, s2⟩))
    exact ⟨6, fun k => by
      rw [evP_fun (m := c15) rfl _ _ rfl]
      simp -implicitDefEqProofs (maxSteps := 4000000) only [c15, hat, hcl, hce, hln, k8, e1, zT, push_cast, Nat.reduceAdd, Nat.reduceMul, Nat.reduceSub, Nat.reduceLT, Nat.reduceLeDiff, Nat.reduceEqDiff, Nat.reducePow, Int.reduceToNat, Int.reduceLT, Int.reduceLE, Int.reduceNeg, Int.reduceEq, Int.reducePow, reduceIte, reduceCtorEq, Int.reduceMul, Int.reduceAdd, Int.reduceSub, Int.reduceMod, Int.reduceDiv, Int.reduceTDiv, Int.reduceTMod, iter_s], fun k => by
      rw [evP_fun (m := c7) rfl _ _ rfl]
      simp -implicitDefEqProofs (maxSteps := 4000000) only [c7, c7b0, hat, hcl, hce, hln, k7, w_rsmay, s0, s1, s2, push_cast, Nat.reduceAdd, Nat.reduceMul, Nat.reduceSub, Nat.reduceLT, Nat.reduceLeDiff, Nat.reduceEqDiff, Nat.reducePow, Int.reduceToNat, Int.reduceLT, Int.reduceLE, Int.reduceNeg, Int.reduceEq, Int.reducePow, reduceIte, reduceCtorEq, Int.reduceMul, Int.reduceAdd, Int.reduceSub, Int.reduceMod, Int.reduceDiv, Int.reduceTDiv, Int.reduceTMod, iter_s], fun h => by omega⟩
  by_cases hA : sd n0 n1 n9 n10 n18 n19 = 0
  · have e1 := fun k => w_setup0 k n0 n1 n2 n3 n4 n5 n6 n7 n8 n9 n10 n11 n12 n13 n14 n15 n16 n17 n18 n19 n20 n21 n22 n23 n24 n25 n26 s0 s1 s2 hA
    have e2 := fun k => w_rsetup0 k n0 n1 n2 n3 n4 n5 n6 n7 n8 n9 n10 n11 n12 n13 n14 n15 n16 n17 n18 n19 n20 n21 n22 n23 n24 n25 n26 s0 s1 s2 hA
    exact ⟨6, fun k => by
      rw [evP_fun (m := c15) rfl _ _ rfl]
      simp -implicitDefEqProofs (maxSteps := 4000000) only [c15, hat, hcl, hce, hln, k8, e1, zT, push_cast, Nat.reduceAdd, Nat.reduceMul, Nat.reduceSub, Nat.reduceLT, Nat.reduceLeDiff, Nat.reduceEqDiff, Nat.reducePow, Int.reduceToNat, Int.reduceLT, Int.reduceLE, Int.reduceNeg, Int.reduceEq, Int.reducePow, reduceIte, reduceCtorEq, Int.reduceMul, Int.reduceAdd, Int.reduceSub, Int.reduceMod, Int.reduceDiv, Int.reduceTDiv, Int.reduceTMod, iter_s], fun k => by
      rw [evP_fun (m := c7) rfl _ _ rfl]
      simp -implicitDefEqProofs (maxSteps := 4000000) only [c7, c7b0, hat, hcl, hce, hln, k7, w_rsmay, s0, s1, s2, e2, zT, push_cast, Nat.reduceAdd, Nat.reduceMul, Nat.reduceSub, Nat.reduceLT, Nat.reduceLeDiff, Nat.reduceEqDiff, Nat.reducePow, Int.reduceToNat, Int.reduceLT, Int.reduceLE, Int.reduceNeg, Int.reduceEq, Int.reducePow, reduceIte, reduceCtorEq, Int.reduceMul, Int.reduceAdd, Int.reduceSub, Int.reduceMod, Int.reduceDiv, Int.reduceTDiv, Int.reduceTMod, iter_s], fun h => by omega⟩
  have fin : ∀ T0 T1 T2 T3 T4 T5 T6 T7 T8 T9 T10 T11 T12 T13 T14 T15 T16 T17 T18 T19 T20 T21 T22 T23 T24 T25 T26 T27 T28 T29 T30 T31 : Int, (∀ k, evP (evF cm (k + 40)) 32 [.agg [.i n0, .i n1, .i n2, .i n3, .i n4, .i n5, .i n6, .i n7, .i n8, .i n9, .i n10, .i n11, .i n12, .i n13, .i n14, .i n15, .i n16, .i n17, .i n18, .i n19, .i n20, .i n21, .i n22, .i n23, .i n24, .i n25, .i n26], .i 0] = some (.tup [.agg [.i T0, .i T1, .i T2, .i T3, .i T4, .i T5, .i T6, .i T7, .i T8, .i T9, .i T10, .i T11, .i T12, .i T13, .i T14, .i T15, .i T16, .i T17, .i T18, .i T19, .i T20, .i T21, .i T22, .i T23, .i T24, .i T25, .i T26, .i T27, .i T28, .i T29, .i T30, .i T31], .b true, .i 0])) → (∀ k, evP (evF cm (k + 40)) 23 [.agg [.i n0, .i n1, .i n2, .i n3, .i n4, .i n5, .i n6, .i n7, .i n8, .i n9, .i n10, .i n11, .i n12, .i n13, .i n14, .i n15, .i n16, .i n17, .i n18, .i n19, .i n20, .i n21, .i n22, .i n23, .i n24, .i n25, .i n26], .i 0] = some (.tup [.agg [.i T0, .i T1, .i T2, .i T3, .i T4, .i T5, .i T6, .i T7, .i T8, .i T9, .i T10, .i T11, .i T12, .i T13, .i T14, .i T15, .i T16, .i T17, .i T18, .i T19, .i T20, .i T21, .i T22, .i T23, .i T24, .i T25, .i T26, .i T27, .i T28, .i T29, .i T30, .i T31], .b true])) → ∃ e : Int,
    (∀ k, evP (evF cm (k + 80)) 15 [.agg [.i 0, .i n0, .i n1, .i n2, .i n3, .i n4, .i n5, .i n6, .i n7, .i n8, .i n9, .i n10, .i n11, .i n12, .i n13, .i n14, .i n15, .i n16, .i n17, .i n18, .i n19, .i n20, .i n21, .i n22, .i n23, .i n24, .i n25, .i n26, .i n27, .i n28, .i n29, .i n30, .i n31, .i m0, .i m1, .i m2, .i m3, .i m4, .i m5, .i m6, .i m7, .i m8, .i m9, .i m10, .i m11, .i m12, .i m13, .i m14, .i m15, .i v0, .i v1, .i v2, .i v3, .i u0, .i u1, .i u2, .i u3, .i d, .b p, .i t0, .i t1, .i t2, .i t3, .i t4, .i t5, .i t6, .i b0, .i b1, .i b2, .i b3, .i cu, .i tx, .i wr, .b so, .i iw, .i ih, L, .i wh, .i r, .i g, .i b, .i a, .i z, .i s, .i c0, .i c1, .i c2, .i c3]] = some (.i e)) ∧ (∀ k, evP (evF cm (k + 80)) 7 [.agg [.i 0, .i n0, .i n1, .i n2, .i n3, .i n4, .i n5, .i n6, .i n7, .i n8, .i n9, .i n10, .i n11, .i n12, .i n13, .i n14, .i n15, .i n16, .i n17, .i n18, .i n19, .i n20, .i n21, .i n22, .i n23, .i n24, .i n25, .i n26, .i n27, .i n28, .i n29, .i n30, .i n31, .i m0, .i m1, .i m2, .i m3, .i m4, .i m5, .i m6, .i m7, .i m8, .i m9, .i m10, .i m11, .i m12, .i m13, .i m14, .i m15, .i v0, .i v1, .i v2, .i v3, .i u0, .i u1, .i u2, .i u3, .i d, .b p, .i t0, .i t1, .i t2, .i t3, .i t4, .i t5, .i t6, .i b0, .i b1, .i b2, .i b3, .i cu, .i tx, .i wr, .b so, .i iw, .i ih, L, .i wh, .i r, .i g, .i b, .i a, .i z, .i s, .i c0, .i c1, .i c2, .i c3]] = some (.i e)) ∧
    (e = 0 → (0 : Int) = 1 ∨ ((0 : Int) = 0 ∧ sm n0 n1 n2 n3 n4 n5 n6 n7 n8 ∧ sm n9 n10 n11 n12 n13 n14 n15 n16 n17 ∧ sm n18 n19 n20 n21 n22 n23 n24 n25 n26)) := by
    intro T0 T1 T2 T3 T4 T5 T6 T7 T8 T9 T10 T11 T12 T13 T14 T15 T16 T17 T18 T19 T20 T21 T22 T23 T24 T25 T26 T27 T28 T29 T30 T31 e1 e2
    cases hE : (decide (T0 = n0) && (decide (T1 = n1) && (decide (T2 = n2) && (decide (T3 = n3) && (decide (T4 = n4) && (decide (T5 = n5) && (decide (T6 = n6) && (decide (T7 = n7) && (decide (T8 = n8) && (decide (T9 = n9) && (decide (T10 = n10) && (decide (T11 = n11) && (decide (T12 = n12) && (decide (T13 = n13) && (decide (T14 = n14) && (decide (T15 = n15) && (decide (T16 = n16) && (decide (T17 = n17) && (decide (T18 = n18) && (decide (T19 = n19) && (decide (T20 = n20) && (decide (T21 = n21) && (decide (T22 = n22) && (decide (T23 = n23) && (decide (T24 = n24) && (decide (T25 = n25) && (decide (T26 = n26) && (decide (T27 = n27) && (decide (T28 = n28) && (decide (T29 = n29) && (decide (T30 = n30) && decide (T31 = n31)))))))))))))))))))))))))))))))) with
    | true =>
      exact ⟨0, fun k => by
        rw [evP_fun (m := c15) rfl _ _ rfl]
        simp -implicitDefEqProofs (maxSteps := 8000000) only [c15, hat, hcl, hce, hln, k8, e1, hE, push_cast, Nat.reduceAdd, Nat.reduceMul, Nat.reduceSub, Nat.reduceLT, Nat.reduceLeDiff, Nat.reduceEqDiff, Nat.reducePow, Int.reduceToNat, Int.reduceLT, Int.reduceLE, Int.reduceNeg, Int.reduceEq, Int.reducePow, reduceIte, reduceCtorEq, Int.reduceMul, Int.reduceAdd, Int.reduceSub, Int.reduceMod, Int.reduceDiv, Int.reduceTDiv, Int.reduceTMod, iter_s], fun k => by
        rw [evP_fun (m := c7) rfl _ _ rfl]
        simp -implicitDefEqProofs (maxSteps := 8000000) only [c7, c7b0, hat, hcl, hce, hln, k7, w_rsmay, s0, s1, s2, e2, hE, push_cast, Nat.reduceAdd, Nat.reduceMul, Nat.reduceSub, Nat.reduceLT, Nat.reduceLeDiff, Nat.reduceEqDiff, Nat.reducePow, Int.reduceToNat, Int.reduceLT, Int.reduceLE, Int.reduceNeg, Int.reduceEq, Int.reducePow, reduceIte, reduceCtorEq, Int.reduceMul, Int.reduceAdd, Int.reduceSub, Int.reduceMod, Int.reduceDiv, Int.reduceTDiv, Int.reduceTMod, iter_s], fun _ => .inr ⟨rfl, s0, s1, s2⟩⟩
    | false =>
      exact ⟨6, fun k => by
        rw [evP_fun (m := c15) rfl _ _ rfl]
        simp -implicitDefEqProofs (maxSteps := 8000000) only [c15, hat, hcl, hce, hln, k8, e1, hE, push_cast, Nat.reduceAdd, Nat.reduceMul, Nat.reduceSub, Nat.reduceLT, Nat.reduceLeDiff, Nat.reduceEqDiff, Nat.reducePow, Int.reduceToNat, Int.reduceLT, Int.reduceLE, Int.reduceNeg, Int.reduceEq, Int.reducePow, reduceIte, reduceCtorEq, Int.reduceMul, Int.reduceAdd, Int.reduceSub, Int.reduceMod, Int.reduceDiv, Int.reduceTDiv, Int.reduceTMod, iter_s], fun k => by
        rw [evP_fun (m := c7) rfl _ _ rfl]
        simp -implicitDefEqProofs (maxSteps := 8000000) only [c7, c7b0, hat, hcl, hce, hln, k7, w_rsmay, s0, s1, s2, e2, hE, push_cast, Nat.reduceAdd, Nat.reduceMul, Nat.reduceSub, Nat.reduceLT, Nat.reduceLeDiff, Nat.reduceEqDiff, Nat.reducePow, Int.reduceToNat, Int.reduceLT, Int.reduceLE, Int.reduceNeg, Int.reduceEq, Int.reducePow, reduceIte, reduceCtorEq, Int.reduceMul, Int.reduceAdd, Int.reduceSub, Int.reduceMod, Int.reduceDiv, Int.reduceTDiv, Int.reduceTMod, iter_s], fun h => by omega⟩
  rcases Int.lt_or_gt_of_ne hA with hA' | hA'
  · exact fin _ _ _ _ _ _ _ _ _ _ _ _ _ _ _ _ _ _ _ _ _ _ _ _ _ _ _ _ _ _ _ _ (fun k => w_setupN k n0 n1 n2 n3 n4 n5 n6 n7 n8 n9 n10 n11 n12 n13 n14 n15 n16 n17 n18 n19 n20 n21 n22 n23 n24 n25 n26 s0 s1 s2 hA') (fun k => w_rsetupN k n0 n1 n2 n3 n4 n5 n6 n7 n8 n9 n10 n11 n12 n13 n14 n15 n16 n17 n18 n19 n20 n21 n22 n23 n24 n25 n26 s0 s1 s2 hA')
  · exact fin _ _ _ _ _ _ _ _ _ _ _ _ _ _ _ _ _ _ _ _ _ _ _ _ _ _ _ _ _ _ _ _ (fun k => w_setupP k n0 n1 n2 n3 n4 n5 n6 n7 n8 n9 n10 n11 n12 n13 n14 n15 n16 n17 n18 n19 n20 n21 n22 n23 n24 n25 n26 s0 s1 s2 hA') (fun k => w_rsetupP k n0 n1 n2 n3 n4 n5 n6 n7 n8 n9 n10 n11 n12 n13 n14 n15 n16 n17 n18 n19 n20 n21 n22 n23 n24 n25 n26 s0 s1 s2 hA')
end Go.Proofs.Ytjgnjpbplnmdmaa

