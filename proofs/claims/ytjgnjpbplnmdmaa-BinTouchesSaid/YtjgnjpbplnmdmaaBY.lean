/- The tiles that a prim touches, the program's and the document's, as the evaluator answers. -/
import Derived.Test.YtjgnjpbplnmdmaaBX
set_option linter.unusedSimpArgs false
set_option linter.unusedVariables false
set_option linter.unusedSectionVars false
set_option maxRecDepth 100000
set_option maxHeartbeats 16000000
namespace Go.Proofs.Ytjgnjpbplnmdmaa
open Go
theorem e_awake (k : Nat) : evP (evF cm (k + 200)) 4 [] = some (.b true) := by kernel_rfl
/-- A tile's box, by its sides. -/
theorem tile_inn {w h n : Int} (hp : pic w h) (hn : 0 ≤ n ∧ n < cols w * cols h) : inn (tx w n) ∧ inn (ty w n) ∧ inn (lo (tx w n + 16) w - 1) ∧ inn (lo (ty w n + 16) h - 1) := by
  obtain ⟨⟨b1, b2⟩, b3, b4⟩ := tile_in hp hn
  have hw := hp.1; have hh := hp.2
  unfold inn lo
  refine ⟨by omega, by omega, ?_, ?_⟩ <;> split <;> omega
def nr3 (n0 n1 n9 n10 n18 n19 : Int) (w h i : Int) : Bool := nrE n0 n1 n9 n10 (tx w i) (ty w i) (lo (tx w i + 16) w) (lo (ty w i + 16) h) && nrE n9 n10 n18 n19 (tx w i) (ty w i) (lo (tx w i + 16) w) (lo (ty w i + 16) h) && nrE n18 n19 n0 n1 (tx w i) (ty w i) (lo (tx w i + 16) w) (lo (ty w i + 16) h)
/-- What two rectangles have, the program's and the document's. -/
theorem and_ex (a b c d a' b' c' d' : Int) : ∃ e0 e1 e2 e3, (∀ k, evP (evF cm (k + 2)) 17 [.agg [.i a, .i b, .i c, .i d], .agg [.i a', .i b', .i c', .i d']] = some (.agg [.i e0, .i e1, .i e2, .i e3])) ∧ (∀ k, evP (evF cm (k + 2)) 50 [.agg [.i a, .i b, .i c, .i d], .agg [.i a', .i b', .i c', .i d']] = some (.agg [.i e0, .i e1, .i e2, .i e3])) := by
  cases he : emp (hi a a') (hi b b') (lo c c') (lo d d') with
  | true => exact ⟨0, 0, 0, 0, fun k => w_andz k _ _ _ _ _ _ _ _ he, fun k => w_bothz k _ _ _ _ _ _ _ _ he⟩
  | false => exact ⟨_, _, _, _, fun k => w_and k _ _ _ _ _ _ _ _ he, fun k => w_both k _ _ _ _ _ _ _ _ he⟩
/-- Has a tile a pixel of a rectangle, by the document. -/
theorem w_roff (k : Nat) (w h n x0 y0 x1 y1 : Int) : ∃ r, evP (evF cm (k + 2)) 50 [.agg [.i (tx w n), .i (ty w n), .i (lo (tx w n + 16) w), .i (lo (ty w n + 16) h)], .agg [.i x0, .i y0, .i x1, .i y1]] = some r ∧ (∀ k, evP (evF cm (k + 1)) 49 [r] = some (.b (off w h x0 y0 x1 y1 n))) ∧ ∃ a b c d, r = .agg [.i a, .i b, .i c, .i d] := by
  cases he : off w h x0 y0 x1 y1 n with
  | true => exact ⟨_, w_bothz k _ _ _ _ _ _ _ _ he, fun k => by rw [w_rempty, emp0], _, _, _, _, rfl⟩
  | false => exact ⟨_, w_both k _ _ _ _ _ _ _ _ he, fun k => by rw [w_rempty]; exact congrArg (fun x => some (LV.b x)) he, _, _, _, _, rfl⟩
section
variable (q n0 n1 n2 n3 n4 n5 n6 n7 n8 n9 n10 n11 n12 n13 n14 n15 n16 n17 n18 n19 n20 n21 n22 n23 n24 n25 n26 n27 n28 n29 n30 n31 m0 m1 m2 m3 m4 m5 m6 m7 m8 m9 m10 m11 m12 m13 m14 m15 v0 v1 v2 v3 u0 u1 u2 u3 dfn t0 t1 t2 t3 t4 t5 t6 b0 b1 b2 b3 cu txx wr iw ih wh cr cg cb ca0 cz cs c0 c1 c2 c3 : Int) (p so : Bool) (l : List Int) (L : LV) (hS : SlI l L) (w h : Int) (hp : pic w h)
include hS hp
theorem touched1 (k : Nat) (n : Int) (hn : 0 ≤ n ∧ n < cols w * cols h) (hq : q = 1) : evP (evF cm (k + 60)) 25 [.agg [.i q, .i n0, .i n1, .i n2, .i n3, .i n4, .i n5, .i n6, .i n7, .i n8, .i n9, .i n10, .i n11, .i n12, .i n13, .i n14, .i n15, .i n16, .i n17, .i n18, .i n19, .i n20, .i n21, .i n22, .i n23, .i n24, .i n25, .i n26, .i n27, .i n28, .i n29, .i n30, .i n31, .i m0, .i m1, .i m2, .i m3, .i m4, .i m5, .i m6, .i m7, .i m8, .i m9, .i m10, .i m11, .i m12, .i m13, .i m14, .i m15, .i v0, .i v1, .i v2, .i v3, .i u0, .i u1, .i u2, .i u3, .i dfn, .b p, .i t0, .i t1, .i t2, .i t3, .i t4, .i t5, .i t6, .i b0, .i b1, .i b2, .i b3, .i cu, .i txx, .i wr, .b so, .i iw, .i ih, L, .i wh, .i cr, .i cg, .i cb, .i ca0, .i cz, .i cs, .i c0, .i c1, .i c2, .i c3], .agg [.i (tx w n), .i (ty w n), .i (lo (tx w n + 16) w), .i (lo (ty w n + 16) h)]] = some (.b (!off w h c0 c1 c2 c3 n)) := by
  subst hq
  have hat := hS.atm
  have hcl := hS.cl
  have hce := hS.cells
  have hln := hS.len
  rw [evP_fun (m := c25) rfl _ _ rfl]
  obtain ⟨r, e1, e2, a, b, c, d, rfl⟩ := w_roff (k + 57) w h n c0 c1 c2 c3
  simp -implicitDefEqProofs (maxSteps := 4000000) only [c25, hat, hcl, hce, hln, e1, e2, push_cast, Nat.reduceAdd, Nat.reduceMul, Nat.reduceSub, Nat.reduceLT, Nat.reduceLeDiff, Nat.reduceEqDiff, Nat.reducePow, Int.reduceToNat, Int.reduceLT, Int.reduceLE, Int.reduceNeg, Int.reduceEq, Int.reducePow, reduceIte, reduceCtorEq, Int.reduceMul, Int.reduceAdd, Int.reduceSub, Int.reduceMod, Int.reduceDiv, Int.reduceTDiv, Int.reduceTMod, iter_s]
theorem touched0 (k : Nat) (n : Int) (hn : 0 ≤ n ∧ n < cols w * cols h) (hq : q = 0) (s0 : sm n0 n1 n2 n3 n4 n5 n6 n7 n8) (s1 : sm n9 n10 n11 n12 n13 n14 n15 n16 n17) (s2 : sm n18 n19 n20 n21 n22 n23 n24 n25 n26) {e0 e1 e2 e3 : Int} (hB : ∀ k, evP (evF cm (k + 2)) 50 [.agg [.i n28, .i n29, .i n30, .i n31], .agg [.i u0, .i u1, .i u2, .i u3]] = some (.agg [.i e0, .i e1, .i e2, .i e3])) :
    evP (evF cm (k + 60)) 25 [.agg [.i q, .i n0, .i n1, .i n2, .i n3, .i n4, .i n5, .i n6, .i n7, .i n8, .i n9, .i n10, .i n11, .i n12, .i n13, .i n14, .i n15, .i n16, .i n17, .i n18, .i n19, .i n20, .i n21, .i n22, .i n23, .i n24, .i n25, .i n26, .i n27, .i n28, .i n29, .i n30, .i n31, .i m0, .i m1, .i m2, .i m3, .i m4, .i m5, .i m6, .i m7, .i m8, .i m9, .i m10, .i m11, .i m12, .i m13, .i m14, .i m15, .i v0, .i v1, .i v2, .i v3, .i u0, .i u1, .i u2, .i u3, .i dfn, .b p, .i t0, .i t1, .i t2, .i t3, .i t4, .i t5, .i t6, .i b0, .i b1, .i b2, .i b3, .i cu, .i txx, .i wr, .b so, .i iw, .i ih, L, .i wh, .i cr, .i cg, .i cb, .i ca0, .i cz, .i cs, .i c0, .i c1, .i c2, .i c3], .agg [.i (tx w n), .i (ty w n), .i (lo (tx w n + 16) w), .i (lo (ty w n + 16) h)]] = some (.b (!off w h e0 e1 e2 e3 n && nr3 n0 n1 n9 n10 n18 n19 w h n)) := by
  subst hq
  have hat := hS.atm
  have hcl := hS.cl
  have hce := hS.cells
  have hln := hS.len
  obtain ⟨i0, i1, i2, i3⟩ := tile_inn hp hn
  have d0 := fun k => rnear_ok n0 n1 n9 n10 (tx w n) (ty w n) (lo (tx w n + 16) w) (lo (ty w n + 16) h) k s0.1 s1.1 i0 i1 i2 i3
  have d1 := fun k => rnear_ok n9 n10 n18 n19 (tx w n) (ty w n) (lo (tx w n + 16) w) (lo (ty w n + 16) h) k s1.1 s2.1 i0 i1 i2 i3
  have d2 := fun k => rnear_ok n18 n19 n0 n1 (tx w n) (ty w n) (lo (tx w n + 16) w) (lo (ty w n + 16) h) k s2.1 s0.1 i0 i1 i2 i3
  rw [evP_fun (m := c25) rfl _ _ rfl]
  obtain ⟨r, e1', e2', a, b, c, d, rfl⟩ := w_roff (k + 57) w h n e0 e1 e2 e3
  unfold nr3
  cases ho : off w h e0 e1 e2 e3 n with
  | true =>
    rw [ho] at e2'
    simp -implicitDefEqProofs (maxSteps := 4000000) only [c25, hat, hcl, hce, hln, hB, e1', e2', Bool.not_true, Bool.false_and, push_cast, Nat.reduceAdd, Nat.reduceMul, Nat.reduceSub, Nat.reduceLT, Nat.reduceLeDiff, Nat.reduceEqDiff, Nat.reducePow, Int.reduceToNat, Int.reduceLT, Int.reduceLE, Int.reduceNeg, Int.reduceEq, Int.reducePow, reduceIte, reduceCtorEq, Int.reduceMul, Int.reduceAdd, Int.reduceSub, Int.reduceMod, Int.reduceDiv, Int.reduceTDiv, Int.reduceTMod, iter_s]
  | false =>
    rw [ho] at e2'
    cases h0 : nrE n0 n1 n9 n10 (tx w n) (ty w n) (lo (tx w n + 16) w) (lo (ty w n + 16) h) with
    | false =>
      rw [h0] at d0
      simp -implicitDefEqProofs (maxSteps := 4000000) only [c25, hat, hcl, hce, hln, hB, e1', e2', d0, Bool.not_false, Bool.true_and, Bool.false_and, push_cast, Nat.reduceAdd, Nat.reduceMul, Nat.reduceSub, Nat.reduceLT, Nat.reduceLeDiff, Nat.reduceEqDiff, Nat.reducePow, Int.reduceToNat, Int.reduceLT, Int.reduceLE, Int.reduceNeg, Int.reduceEq, Int.reducePow, reduceIte, reduceCtorEq, Int.reduceMul, Int.reduceAdd, Int.reduceSub, Int.reduceMod, Int.reduceDiv, Int.reduceTDiv, Int.reduceTMod, iter_s]
    | true =>
      rw [h0] at d0
      cases h1 : nrE n9 n10 n18 n19 (tx w n) (ty w n) (lo (tx w n + 16) w) (lo (ty w n + 16) h) with
      | false =>
        rw [h1] at d1
        simp -implicitDefEqProofs (maxSteps := 4000000) only [c25, hat, hcl, hce, hln, hB, e1', e2', d0, d1, Bool.not_false, Bool.true_and, Bool.false_and, push_cast, Nat.reduceAdd, Nat.reduceMul, Nat.reduceSub, Nat.reduceLT, Nat.reduceLeDiff, Nat.reduceEqDiff, Nat.reducePow, Int.reduceToNat, Int.reduceLT, Int.reduceLE, Int.reduceNeg, Int.reduceEq, Int.reducePow, reduceIte, reduceCtorEq, Int.reduceMul, Int.reduceAdd, Int.reduceSub, Int.reduceMod, Int.reduceDiv, Int.reduceTDiv, Int.reduceTMod, iter_s]
      | true =>
        rw [h1] at d1
        simp -implicitDefEqProofs (maxSteps := 4000000) only [c25, hat, hcl, hce, hln, hB, e1', e2', d0, d1, d2, Bool.not_false, Bool.true_and, push_cast, Nat.reduceAdd, Nat.reduceMul, Nat.reduceSub, Nat.reduceLT, Nat.reduceLeDiff, Nat.reduceEqDiff, Nat.reducePow, Int.reduceToNat, Int.reduceLT, Int.reduceLE, Int.reduceNeg, Int.reduceEq, Int.reducePow, reduceIte, reduceCtorEq, Int.reduceMul, Int.reduceAdd, Int.reduceSub, Int.reduceMod, Int.reduceDiv, Int.reduceTDiv, Int.reduceTMod, iter_s]
end
/-! ### the document's -/
theorem tl27 {T : List LV} (h : T.length = 27) : T = [getT T 0, getT T 1, getT T 2, getT T 3, getT T 4, getT T 5, getT T 6, getT T 7, getT T 8, getT T 9, getT T 10, getT T 11, getT T 12, getT T 13, getT T 14, getT T 15, getT T 16, getT T 17, getT T 18, getT T 19, getT T 20, getT T 21, getT T 22, getT T 23, getT T 24, getT T 25, getT T 26] := tlT h
def fgR : List Nat := [15, 14, 25, 24, 23, 22, 21, 20, 19, 18, 17, 16, 13, 12, 11, 10, 9]
section
variable (q n0 n1 n2 n3 n4 n5 n6 n7 n8 n9 n10 n11 n12 n13 n14 n15 n16 n17 n18 n19 n20 n21 n22 n23 n24 n25 n26 n27 n28 n29 n30 n31 m0 m1 m2 m3 m4 m5 m6 m7 m8 m9 m10 m11 m12 m13 m14 m15 v0 v1 v2 v3 u0 u1 u2 u3 dfn t0 t1 t2 t3 t4 t5 t6 b0 b1 b2 b3 cu txx wr iw ih wh cr cg cb ca0 cz cs c0 c1 c2 c3 : Int) (p so : Bool) (l : List Int) (L : LV) (hS : SlI l L) (w h : Int) (P : Nat → Bool)
def SR (i : Nat) (s : St) : Prop := ∃ T hh r, s = (T, hh) ∧ T.length = 27 ∧ getT T 0 = .i w ∧ getT T 1 = .i h ∧ getT T 5 = .p 0 0 0 ∧ getT T 7 = outG 1 r (fl P i).length ∧ getT T 8 = .i i ∧ hh[0]? = some ⟨0, [.i q, .i n0, .i n1, .i n2, .i n3, .i n4, .i n5, .i n6, .i n7, .i n8, .i n9, .i n10, .i n11, .i n12, .i n13, .i n14, .i n15, .i n16, .i n17, .i n18, .i n19, .i n20, .i n21, .i n22, .i n23, .i n24, .i n25, .i n26, .i n27, .i n28, .i n29, .i n30, .i n31, .i m0, .i m1, .i m2, .i m3, .i m4, .i m5, .i m6, .i m7, .i m8, .i m9, .i m10, .i m11, .i m12, .i m13, .i m14, .i m15, .i v0, .i v1, .i v2, .i v3, .i u0, .i u1, .i u2, .i u3, .i dfn, .b p, .i t0, .i t1, .i t2, .i t3, .i t4, .i t5, .i t6, .i b0, .i b1, .i b2, .i b3, .i cu, .i txx, .i wr, .b so, .i iw, .i ih, L, .i wh, .i cr, .i cg, .i cb, .i ca0, .i cz, .i cs, .i c0, .i c1, .i c2, .i c3]⟩ ∧ Grows hh 1 r (fl P i)
variable (hp : pic w h) (hP : ∀ (k : Nat) (i : Nat), i < (cols w * cols h).toNat → evP (evF cm (k + 60)) 25 [.agg [.i q, .i n0, .i n1, .i n2, .i n3, .i n4, .i n5, .i n6, .i n7, .i n8, .i n9, .i n10, .i n11, .i n12, .i n13, .i n14, .i n15, .i n16, .i n17, .i n18, .i n19, .i n20, .i n21, .i n22, .i n23, .i n24, .i n25, .i n26, .i n27, .i n28, .i n29, .i n30, .i n31, .i m0, .i m1, .i m2, .i m3, .i m4, .i m5, .i m6, .i m7, .i m8, .i m9, .i m10, .i m11, .i m12, .i m13, .i m14, .i m15, .i v0, .i v1, .i v2, .i v3, .i u0, .i u1, .i u2, .i u3, .i dfn, .b p, .i t0, .i t1, .i t2, .i t3, .i t4, .i t5, .i t6, .i b0, .i b1, .i b2, .i b3, .i cu, .i txx, .i wr, .b so, .i iw, .i ih, L, .i wh, .i cr, .i cg, .i cb, .i ca0, .i cz, .i cs, .i c0, .i c1, .i c2, .i c3], .agg [.i (tx w i), .i (ty w i), .i (lo (tx w i + 16) w), .i (lo (ty w i + 16) h)]] = some (.b (P i)))
include hS hp hP
theorem ref_round (K : Nat) (hK : 100 ≤ K) (i : Nat) (s : St) (hi' : i < (cols w * cols h).toNat) (hs : SR q n0 n1 n2 n3 n4 n5 n6 n7 n8 n9 n10 n11 n12 n13 n14 n15 n16 n17 n18 n19 n20 n21 n22 n23 n24 n25 n26 n27 n28 n29 n30 n31 m0 m1 m2 m3 m4 m5 m6 m7 m8 m9 m10 m11 m12 m13 m14 m15 v0 v1 v2 v3 u0 u1 u2 u3 dfn t0 t1 t2 t3 t4 t5 t6 b0 b1 b2 b3 cu txx wr iw ih wh cr cg cb ca0 cz cs c0 c1 c2 c3 p so L w h P i s) :
    ∃ s', evCode (evF cm K) K 0 c9b0 (cleanN fgR s) = some (.nrm, s') ∧ SR q n0 n1 n2 n3 n4 n5 n6 n7 n8 n9 n10 n11 n12 n13 n14 n15 n16 n17 n18 n19 n20 n21 n22 n23 n24 n25 n26 n27 n28 n29 n30 n31 m0 m1 m2 m3 m4 m5 m6 m7 m8 m9 m10 m11 m12 m13 m14 m15 v0 v1 v2 v3 u0 u1 u2 u3 dfn t0 t1 t2 t3 t4 t5 t6 b0 b1 b2 b3 cu txx wr iw ih wh cr cg cb ca0 cz cs c0 c1 c2 c3 p so L w h P (i + 1) s' := by
  obtain ⟨k, rfl⟩ : ∃ k, K = k + 60 := ⟨K - 60, by omega⟩
  obtain ⟨T, hh, r, rfl, ht, t0, t1, t5, t7, t8, q2, G⟩ := hs
  rw [tl27 ht]
  have hat := hS.atm
  have hcl := hS.cl
  have hce := hS.cells
  have hln := hS.len
  have hcc := cc_bound hp
  have hn : 0 ≤ (i : Int) ∧ (i : Int) < cols w * cols h := by omega
  have g1 : (i : Int) < cols w * cols h := hn.2
  have w1 : IntKind.i64.wrap ((i : Int) + 1) = ((i + 1 : Nat) : Int) := by rw [w64 _ (by omega) (by omega)]; rfl
  have hl := fl_len P i
  have k14 := fun k => w_rbox k w h i hp hn
  have k10 := fun k => w_rcount k w h hp
  have kt := fun k => hP k i hi'
  have qq := rowOf_at q2
  have hne : hh.isEmpty = false := by cases hh with | nil => simp at q2 | cons _ _ => rfl
  unfold SR
  cases ho : P i with
  | false =>
    rw [ho] at kt
    have ec : fl P (i + 1) = fl P i := by simp [fl, ho]
    rw [ec]
    simp -implicitDefEqProofs (maxSteps := 4000000) only [c9b0, fgR, t0, t1, t5, t7, t8, g1, w1, k10, k14, kt, qq, hat, hcl, hce, hln, push_cast, Nat.reduceAdd, Nat.reduceMul, Nat.reduceSub, Nat.reduceLT, Nat.reduceLeDiff, Nat.reduceEqDiff, Nat.reducePow, Int.reduceToNat, Int.reduceLT, Int.reduceLE, Int.reduceNeg, Int.reduceEq, Int.reducePow, reduceIte, reduceCtorEq, Int.reduceMul, Int.reduceAdd, Int.reduceSub, Int.reduceMod, Int.reduceDiv, Int.reduceTDiv, Int.reduceTMod, iter_s]
    refine ⟨_, rfl, ?_⟩
    exact ⟨_, _, r, rfl, rfl, rfl, rfl, rfl, rfl, rfl, q2, G⟩
  | true =>
    rw [ho] at kt
    have ec : fl P (i + 1) = fl P i ++ [(i : Int)] := by simp [fl, ho]
    rw [ec]
    obtain ⟨h1, r1, ap, G1, same⟩ := G.more (i : Int) (by omega)
    have q21 := (same 0 (by omega)).trans q2
    have cc := fun e r i => outG_cells e r i
    have ca := fun e r i => outG_atom e r i
    simp -implicitDefEqProofs (maxSteps := 4000000) only [c9b0, fgR, t0, t1, t5, t7, t8, g1, w1, k10, k14, kt, qq, hat, hcl, hce, hln, ap, cc, ca, push_cast, Nat.reduceAdd, Nat.reduceMul, Nat.reduceSub, Nat.reduceLT, Nat.reduceLeDiff, Nat.reduceEqDiff, Nat.reducePow, Int.reduceToNat, Int.reduceLT, Int.reduceLE, Int.reduceNeg, Int.reduceEq, Int.reducePow, reduceIte, reduceCtorEq, Int.reduceMul, Int.reduceAdd, Int.reduceSub, Int.reduceMod, Int.reduceDiv, Int.reduceTDiv, Int.reduceTMod, iter_s]
    refine ⟨_, rfl, ?_⟩
    exact ⟨_, _, r1, rfl, rfl, rfl, rfl, rfl, by rw [List.length_append]; rfl, rfl, q21, G1⟩
omit hS hP in
theorem ref_last (K : Nat) (hK : 100 ≤ K) (s : St) (hs : SR q n0 n1 n2 n3 n4 n5 n6 n7 n8 n9 n10 n11 n12 n13 n14 n15 n16 n17 n18 n19 n20 n21 n22 n23 n24 n25 n26 n27 n28 n29 n30 n31 m0 m1 m2 m3 m4 m5 m6 m7 m8 m9 m10 m11 m12 m13 m14 m15 v0 v1 v2 v3 u0 u1 u2 u3 dfn t0 t1 t2 t3 t4 t5 t6 b0 b1 b2 b3 cu txx wr iw ih wh cr cg cb ca0 cz cs c0 c1 c2 c3 p so L w h P (cols w * cols h).toNat s) :
    ∃ s', evCode (evF cm K) K 0 c9b0 (cleanN fgR s) = some (.exit 0, s') ∧ SR q n0 n1 n2 n3 n4 n5 n6 n7 n8 n9 n10 n11 n12 n13 n14 n15 n16 n17 n18 n19 n20 n21 n22 n23 n24 n25 n26 n27 n28 n29 n30 n31 m0 m1 m2 m3 m4 m5 m6 m7 m8 m9 m10 m11 m12 m13 m14 m15 v0 v1 v2 v3 u0 u1 u2 u3 dfn t0 t1 t2 t3 t4 t5 t6 b0 b1 b2 b3 cu txx wr iw ih wh cr cg cb ca0 cz cs c0 c1 c2 c3 p so L w h P (cols w * cols h).toNat s' := by
  obtain ⟨k, rfl⟩ : ∃ k, K = k + 60 := ⟨K - 60, by omega⟩
  obtain ⟨T, hh, r, rfl, ht, t0, t1, t5, t7, t8, q2, G⟩ := hs
  rw [tl27 ht]
  have hcc := cc_bound hp
  have k10 := fun k => w_rcount k w h hp
  have g1 : ¬ (((cols w * cols h).toNat : Nat) : Int) < cols w * cols h := by omega
  simp -implicitDefEqProofs only [c9b0, fgR, t0, t1, t5, t7, t8, g1, k10, push_cast, Nat.reduceAdd, Nat.reduceMul, Nat.reduceSub, Nat.reduceLT, Nat.reduceLeDiff, Nat.reduceEqDiff, Nat.reducePow, Int.reduceToNat, Int.reduceLT, Int.reduceLE, Int.reduceNeg, Int.reduceEq, Int.reducePow, reduceIte, reduceCtorEq, Int.reduceMul, Int.reduceAdd, Int.reduceSub, Int.reduceMod, Int.reduceDiv, Int.reduceTDiv, Int.reduceTMod, iter_s]
  refine ⟨_, rfl, ?_⟩
  exact ⟨_, hh, r, rfl, rfl, rfl, rfl, rfl, rfl, rfl, q2, G⟩
theorem ref_touches (k : Nat) : evP (evF cm (k + 500)) 9 [.i w, .i h, .agg [.i q, .i n0, .i n1, .i n2, .i n3, .i n4, .i n5, .i n6, .i n7, .i n8, .i n9, .i n10, .i n11, .i n12, .i n13, .i n14, .i n15, .i n16, .i n17, .i n18, .i n19, .i n20, .i n21, .i n22, .i n23, .i n24, .i n25, .i n26, .i n27, .i n28, .i n29, .i n30, .i n31, .i m0, .i m1, .i m2, .i m3, .i m4, .i m5, .i m6, .i m7, .i m8, .i m9, .i m10, .i m11, .i m12, .i m13, .i m14, .i m15, .i v0, .i v1, .i v2, .i v3, .i u0, .i u1, .i u2, .i u3, .i dfn, .b p, .i t0, .i t1, .i t2, .i t3, .i t4, .i t5, .i t6, .i b0, .i b1, .i b2, .i b3, .i cu, .i txx, .i wr, .b so, .i iw, .i ih, L, .i wh, .i cr, .i cg, .i cb, .i ca0, .i cz, .i cs, .i c0, .i c1, .i c2, .i c3]] = some (slv (fl P (cols w * cols h).toNat)) := by
  rw [evP_fun (m := c9) rfl _ _ rfl]
  have hat := hS.atm
  have hcl := hS.cl
  have hce := hS.cells
  have hln := hS.len
  have hcc := cc_bound hp
  have key : ∀ s I, iter (evCode (evF cm (k + 499)) (k + 499) 0 c9b0) (cleanN fgR) (k + 499) s = I → SR q n0 n1 n2 n3 n4 n5 n6 n7 n8 n9 n10 n11 n12 n13 n14 n15 n16 n17 n18 n19 n20 n21 n22 n23 n24 n25 n26 n27 n28 n29 n30 n31 m0 m1 m2 m3 m4 m5 m6 m7 m8 m9 m10 m11 m12 m13 m14 m15 v0 v1 v2 v3 u0 u1 u2 u3 dfn t0 t1 t2 t3 t4 t5 t6 b0 b1 b2 b3 cu txx wr iw ih wh cr cg cb ca0 cz cs c0 c1 c2 c3 p so L w h P 0 s → ∃ s', I = some (.exit 0, s') ∧ SR q n0 n1 n2 n3 n4 n5 n6 n7 n8 n9 n10 n11 n12 n13 n14 n15 n16 n17 n18 n19 n20 n21 n22 n23 n24 n25 n26 n27 n28 n29 n30 n31 m0 m1 m2 m3 m4 m5 m6 m7 m8 m9 m10 m11 m12 m13 m14 m15 v0 v1 v2 v3 u0 u1 u2 u3 dfn t0 t1 t2 t3 t4 t5 t6 b0 b1 b2 b3 cu txx wr iw ih wh cr cg cb ca0 cz cs c0 c1 c2 c3 p so L w h P (cols w * cols h).toNat s' := by
    intro s I hI hs
    obtain ⟨s', h1, h3⟩ := iter_count (fun i s hi hs => ref_round q n0 n1 n2 n3 n4 n5 n6 n7 n8 n9 n10 n11 n12 n13 n14 n15 n16 n17 n18 n19 n20 n21 n22 n23 n24 n25 n26 n27 n28 n29 n30 n31 m0 m1 m2 m3 m4 m5 m6 m7 m8 m9 m10 m11 m12 m13 m14 m15 v0 v1 v2 v3 u0 u1 u2 u3 dfn t0 t1 t2 t3 t4 t5 t6 b0 b1 b2 b3 cu txx wr iw ih wh cr cg cb ca0 cz cs c0 c1 c2 c3 p so l L hS w h P hp hP (k + 499) (by omega) i s hi hs) (fun s hs => ref_last q n0 n1 n2 n3 n4 n5 n6 n7 n8 n9 n10 n11 n12 n13 n14 n15 n16 n17 n18 n19 n20 n21 n22 n23 n24 n25 n26 n27 n28 n29 n30 n31 m0 m1 m2 m3 m4 m5 m6 m7 m8 m9 m10 m11 m12 m13 m14 m15 v0 v1 v2 v3 u0 u1 u2 u3 dfn t0 t1 t2 t3 t4 t5 t6 b0 b1 b2 b3 cu txx wr iw ih wh cr cg cb ca0 cz cs c0 c1 c2 c3 p so L w h P hp (k + 499) (by omega) s hs) (cols w * cols h).toNat 0 s (k + 499) (by omega) (by omega) hs
    exact ⟨s', hI.symm.trans h1, h3⟩
  simp -implicitDefEqProofs only [c9, hat, hcl, hce, hln, push_cast, Nat.reduceAdd, Nat.reduceMul, Nat.reduceSub, Nat.reduceLT, Nat.reduceLeDiff, Nat.reduceEqDiff, Nat.reducePow, Int.reduceToNat, Int.reduceLT, Int.reduceLE, Int.reduceNeg, Int.reduceEq, Int.reducePow, reduceIte, reduceCtorEq, Int.reduceMul, Int.reduceAdd, Int.reduceSub, Int.reduceMod, Int.reduceDiv, Int.reduceTDiv, Int.reduceTMod]
  generalize hI : iter _ _ _ _ = I
  obtain ⟨s', hI2, T, hh, r, rfl, ht, t0, t1, t5, t7, t8, q2, G⟩ := key _ _ hI ⟨_, _, 0, rfl, rfl, rfl, rfl, rfl, rfl, rfl, rfl, ⟨Nat.le_refl _, fun h => absurd rfl h⟩⟩
  subst hI2
  clear hI
  rw [tl27 ht]
  cases hc : fl P (cols w * cols h).toNat with
  | nil =>
    rw [hc] at t7
    simp -implicitDefEqProofs only [outG, slv, t7, List.length_nil, push_cast, Nat.reduceAdd, Nat.reduceMul, Nat.reduceSub, Nat.reduceLT, Nat.reduceLeDiff, Nat.reduceEqDiff, Nat.reducePow, Int.reduceToNat, Int.reduceLT, Int.reduceLE, Int.reduceNeg, Int.reduceEq, Int.reducePow, reduceIte, reduceCtorEq, Int.reduceMul, Int.reduceAdd, Int.reduceSub, Int.reduceMod, Int.reduceDiv, Int.reduceTDiv, Int.reduceTMod]
  | cons x l =>
    rw [hc] at t7 G
    have rr := rowOf_at (G.2 (by simp)).2
    simp only [List.length_cons, Nat.add_sub_cancel] at rr t7
    have h0 : (List.map LV.i l).length = l.length := List.length_map _
    have h1 : List.take l.length (List.map LV.i l) = List.map LV.i l := List.take_of_length_le (by rw [h0]; omega)
    have h2 := closedL_ints l
    simp -implicitDefEqProofs only [outG, slv, t7, rr, h0, h1, h2, push_cast, Nat.reduceAdd, Nat.reduceMul, Nat.reduceSub, Nat.reduceLT, Nat.reduceLeDiff, Nat.reduceEqDiff, Nat.reducePow, Int.reduceToNat, Int.reduceLT, Int.reduceLE, Int.reduceNeg, Int.reduceEq, Int.reducePow, reduceIte, reduceCtorEq, Int.reduceMul, Int.reduceAdd, Int.reduceSub, Int.reduceMod, Int.reduceDiv, Int.reduceTDiv, Int.reduceTMod]
end
end Go.Proofs.Ytjgnjpbplnmdmaa

