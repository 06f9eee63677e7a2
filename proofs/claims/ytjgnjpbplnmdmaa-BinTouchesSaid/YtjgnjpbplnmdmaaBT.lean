/- A triangle's box, and its setting up, the program's and the document's, as the evaluator answers. -/
import Derived.Test.YtjgnjpbplnmdmaaBB
set_option linter.unusedSimpArgs false
set_option linter.unusedVariables false
set_option linter.unusedSectionVars false
set_option maxRecDepth 100000
set_option maxHeartbeats 16000000
namespace Go.Proofs.Ytjgnjpbplnmdmaa
open Go
def l3 (a b c : Int) : Int := lo (lo a b) c
def h3 (a b c : Int) : Int := hi (hi a b) c
theorem lo_self (a : Int) : lo a a = a := by unfold lo; split <;> rfl
theorem hi_self (a : Int) : hi a a = a := by unfold hi; split <;> rfl
def mr (x : Int) : Prop := -524288 ≤ x ∧ x ≤ 524288
theorem l3_mr {a b c : Int} (h1 : mr a) (h2 : mr b) (h3 : mr c) : mr (l3 a b c) := by
  unfold l3 lo mr at *; repeat' split
  all_goals omega
theorem h3_mr {a b c : Int} (h1 : mr a) (h2 : mr b) (h3 : mr c) : mr (Go.Proofs.Ytjgnjpbplnmdmaa.h3 a b c) := by
  unfold Go.Proofs.Ytjgnjpbplnmdmaa.h3 hi mr at *; repeat' split
  all_goals omega
def cl16 (m : Int) : Int := (m + 7).fdiv 16
def fl16 (m : Int) : Int := (m - 8).fdiv 16 + 1
theorem w_span (k : Nat) {a b : Int} (h1 : mr a) (h2 : mr b) : evP (evF cm (k + 1)) 77 [.i a, .i b] = some (.tup [.i (cl16 a), .i (fl16 b)]) := by
  unfold mr at h1 h2
  rw [evP_fun (m := c77) rfl _ _ rfl]
  have w1 : IntKind.i64.wrap (a - 8) = a - 8 := w64 _ (by omega) (by omega)
  have w2 : IntKind.i64.wrap (a - 8 + 16) = a - 8 + 16 := w64 _ (by omega) (by omega)
  have w3 : IntKind.i64.wrap (a - 8 + 16 - 1) = a + 7 := by rw [w64 _ (by omega) (by omega)]; omega
  have w4 : IntKind.i64.wrap (b - 8) = b - 8 := w64 _ (by omega) (by omega)
  have hf : (b - 8).fdiv 16 = (b - 8) / 16 := fdiv_pos (by omega)
  have w5 : IntKind.i64.wrap ((b - 8).fdiv 16 + 1) = fl16 b := by rw [w64 _ (by omega) (by omega)]; rfl
  have e1 : (a + 7).fdiv 16 = cl16 a := rfl
  simp -implicitDefEqProofs only [c77, w1, w2, w3, w4, w5, e1, push_cast, Nat.reduceAdd, Nat.reduceMul, Nat.reduceSub, Nat.reduceLT, Nat.reduceLeDiff, Nat.reduceEqDiff, Nat.reducePow, Int.reduceToNat, Int.reduceLT, Int.reduceLE, Int.reduceNeg, Int.reduceEq, Int.reducePow, reduceIte, reduceCtorEq, Int.reduceMul, Int.reduceAdd, Int.reduceSub, Int.reduceMod, Int.reduceDiv, Int.reduceTDiv, Int.reduceTMod, iter_s]
theorem w_ceil (k : Nat) {a : Int} (h : -1000000 ≤ a ∧ a ≤ 1000000) : evP (evF cm (k + 1)) 70 [.i a, .i 16] = some (.i ((a + 15).fdiv 16)) := by
  rw [evP_fun (m := c70) rfl _ _ rfl]
  have hf : (a + 15).fdiv 16 = (a + 15) / 16 := fdiv_pos (by omega)
  have hn : ¬ a = -9223372036854775808 := by omega
  obtain ⟨s1, s2⟩ := sub_tdiv (a := a) (b := 16) (by omega) (by omega) (by omega)
  obtain ⟨t1, t2, t3⟩ := tq (a := a) (b := 16) (by omega)
  rw [hf]
  by_cases h0 : 0 < a.tmod 16
  · have w1 : IntKind.i64.wrap (a.tdiv 16 + 1) = a.tdiv 16 + 1 := w64 _ (by omega) (by omega)
    simp -implicitDefEqProofs only [c70, hn, s1, s2, h0, w1, push_cast, Nat.reduceAdd, Nat.reduceMul, Nat.reduceSub, Nat.reduceLT, Nat.reduceLeDiff, Nat.reduceEqDiff, Nat.reducePow, Int.reduceToNat, Int.reduceLT, Int.reduceLE, Int.reduceNeg, Int.reduceEq, Int.reducePow, reduceIte, reduceCtorEq, Int.reduceMul, Int.reduceAdd, Int.reduceSub, Int.reduceMod, Int.reduceDiv, Int.reduceTDiv, Int.reduceTMod, iter_s]
    exact congrArg (fun x => some (LV.i x)) (by omega)
  · simp -implicitDefEqProofs only [c70, hn, s1, s2, h0, push_cast, Nat.reduceAdd, Nat.reduceMul, Nat.reduceSub, Nat.reduceLT, Nat.reduceLeDiff, Nat.reduceEqDiff, Nat.reducePow, Int.reduceToNat, Int.reduceLT, Int.reduceLE, Int.reduceNeg, Int.reduceEq, Int.reducePow, reduceIte, reduceCtorEq, Int.reduceMul, Int.reduceAdd, Int.reduceSub, Int.reduceMod, Int.reduceDiv, Int.reduceTDiv, Int.reduceTMod, iter_s]
    exact congrArg (fun x => some (LV.i x)) (by omega)
theorem w_floor (k : Nat) {a : Int} (h : -1000000 ≤ a ∧ a ≤ 1000000) : evP (evF cm (k + 1)) 71 [.i a, .i 16] = some (.i (a.fdiv 16)) := by
  rw [evP_fun (m := c71) rfl _ _ rfl]
  have hf : a.fdiv 16 = a / 16 := fdiv_pos (by omega)
  have hn : ¬ a = -9223372036854775808 := by omega
  obtain ⟨s1, s2⟩ := sub_tdiv (a := a) (b := 16) (by omega) (by omega) (by omega)
  obtain ⟨t1, t2, t3⟩ := tq (a := a) (b := 16) (by omega)
  rw [hf]
  by_cases h0 : a.tmod 16 < 0
  · have w1 : IntKind.i64.wrap (a.tdiv 16 - 1) = a.tdiv 16 - 1 := w64 _ (by omega) (by omega)
    simp -implicitDefEqProofs only [c71, hn, s1, s2, h0, w1, push_cast, Nat.reduceAdd, Nat.reduceMul, Nat.reduceSub, Nat.reduceLT, Nat.reduceLeDiff, Nat.reduceEqDiff, Nat.reducePow, Int.reduceToNat, Int.reduceLT, Int.reduceLE, Int.reduceNeg, Int.reduceEq, Int.reducePow, reduceIte, reduceCtorEq, Int.reduceMul, Int.reduceAdd, Int.reduceSub, Int.reduceMod, Int.reduceDiv, Int.reduceTDiv, Int.reduceTMod, iter_s]
    exact congrArg (fun x => some (LV.i x)) (by omega)
  · simp -implicitDefEqProofs only [c71, hn, s1, s2, h0, push_cast, Nat.reduceAdd, Nat.reduceMul, Nat.reduceSub, Nat.reduceLT, Nat.reduceLeDiff, Nat.reduceEqDiff, Nat.reducePow, Int.reduceToNat, Int.reduceLT, Int.reduceLE, Int.reduceNeg, Int.reduceEq, Int.reducePow, reduceIte, reduceCtorEq, Int.reduceMul, Int.reduceAdd, Int.reduceSub, Int.reduceMod, Int.reduceDiv, Int.reduceTDiv, Int.reduceTMod, iter_s]
    exact congrArg (fun x => some (LV.i x)) (by omega)
section
variable (k : Nat) (x0 y0 z0 a0 a1 a2 a3 a4 a5 x1 y1 z1 b0 b1 b2 b3 b4 b5 x2 y2 z2 c0 c1 c2 c3 c4 c5 : Int) (hx0 : mr x0) (hy0 : mr y0) (hx1 : mr x1) (hy1 : mr y1) (hx2 : mr x2) (hy2 : mr y2)
include hx0 hy0 hx1 hy1 hx2 hy2
theorem w_tbox : evP (evF cm (k + 20)) 62 [.agg [.i x0, .i y0, .i z0, .i a0, .i a1, .i a2, .i a3, .i a4, .i a5, .i x1, .i y1, .i z1, .i b0, .i b1, .i b2, .i b3, .i b4, .i b5, .i x2, .i y2, .i z2, .i c0, .i c1, .i c2, .i c3, .i c4, .i c5]] = some (.agg [.i (cl16 (l3 x0 x1 x2)), .i (cl16 (l3 y0 y1 y2)), .i (fl16 (h3 x0 x1 x2)), .i (fl16 (h3 y0 y1 y2))]) := by
  rw [evP_fun (m := c62) rfl _ _ rfl]
  have e1 := fun k => w_span k (l3_mr hx0 hx1 hx2) (h3_mr hx0 hx1 hx2)
  have e2 := fun k => w_span k (l3_mr hy0 hy1 hy2) (h3_mr hy0 hy1 hy2)
  simp only [l3, Go.Proofs.Ytjgnjpbplnmdmaa.h3] at *
  simp -implicitDefEqProofs (maxSteps := 4000000) only [c62, c62b0, mx, mn, lo_self, hi_self, e1, e2, push_cast, Nat.reduceAdd, Nat.reduceMul, Nat.reduceSub, Nat.reduceLT, Nat.reduceLeDiff, Nat.reduceEqDiff, Nat.reducePow, Int.reduceToNat, Int.reduceLT, Int.reduceLE, Int.reduceNeg, Int.reduceEq, Int.reducePow, reduceIte, reduceCtorEq, Int.reduceMul, Int.reduceAdd, Int.reduceSub, Int.reduceMod, Int.reduceDiv, Int.reduceTDiv, Int.reduceTMod, iter_s]
theorem w_rtbox : evP (evF cm (k + 20)) 47 [.agg [.i x0, .i y0, .i z0, .i a0, .i a1, .i a2, .i a3, .i a4, .i a5, .i x1, .i y1, .i z1, .i b0, .i b1, .i b2, .i b3, .i b4, .i b5, .i x2, .i y2, .i z2, .i c0, .i c1, .i c2, .i c3, .i c4, .i c5]] = some (.agg [.i (cl16 (l3 x0 x1 x2)), .i (cl16 (l3 y0 y1 y2)), .i (fl16 (h3 x0 x1 x2)), .i (fl16 (h3 y0 y1 y2))]) := by
  rw [evP_fun (m := c47) rfl _ _ rfl]
  have g1 := l3_mr hx0 hx1 hx2
  have g2 := h3_mr hx0 hx1 hx2
  have g3 := l3_mr hy0 hy1 hy2
  have g4 := h3_mr hy0 hy1 hy2
  simp only [l3, Go.Proofs.Ytjgnjpbplnmdmaa.h3] at *
  generalize e1 : lo (lo x0 x1) x2 = p at *
  generalize e2 : hi (hi x0 x1) x2 = q at *
  generalize e3 : lo (lo y0 y1) y2 = r at *
  generalize e4 : hi (hi y0 y1) y2 = s at *
  unfold mr at g1 g2 g3 g4
  have w1 : IntKind.i64.wrap (p - 8) = p - 8 := w64 _ (by omega) (by omega)
  have w2 : IntKind.i64.wrap (q - 8) = q - 8 := w64 _ (by omega) (by omega)
  have w3 : IntKind.i64.wrap (r - 8) = r - 8 := w64 _ (by omega) (by omega)
  have w4 : IntKind.i64.wrap (s - 8) = s - 8 := w64 _ (by omega) (by omega)
  have k1 := fun k => w_ceil k (a := p - 8) (by omega)
  have k2 := fun k => w_floor k (a := q - 8) (by omega)
  have k3 := fun k => w_ceil k (a := r - 8) (by omega)
  have k4 := fun k => w_floor k (a := s - 8) (by omega)
  have a1 : (p - 8 + 15).fdiv 16 = cl16 p := by unfold cl16; rw [show p - 8 + 15 = p + 7 by omega]
  have a3 : (r - 8 + 15).fdiv 16 = cl16 r := by unfold cl16; rw [show r - 8 + 15 = r + 7 by omega]
  have hq : (q - 8).fdiv 16 = (q - 8) / 16 := fdiv_pos (by omega)
  have hs : (s - 8).fdiv 16 = (s - 8) / 16 := fdiv_pos (by omega)
  have a2 : IntKind.i64.wrap ((q - 8).fdiv 16 + 1) = fl16 q := by rw [w64 _ (by omega) (by omega)]; rfl
  have a4 : IntKind.i64.wrap ((s - 8).fdiv 16 + 1) = fl16 s := by rw [w64 _ (by omega) (by omega)]; rfl
  rw [a1] at k1
  rw [a3] at k3
  simp -implicitDefEqProofs (maxSteps := 4000000) only [c47, w_Low, w_High, e1, e2, e3, e4, w1, w2, w3, w4, k1, k2, k3, k4, a2, a4, push_cast, Nat.reduceAdd, Nat.reduceMul, Nat.reduceSub, Nat.reduceLT, Nat.reduceLeDiff, Nat.reduceEqDiff, Nat.reducePow, Int.reduceToNat, Int.reduceLT, Int.reduceLE, Int.reduceNeg, Int.reduceEq, Int.reducePow, reduceIte, reduceCtorEq, Int.reduceMul, Int.reduceAdd, Int.reduceSub, Int.reduceMod, Int.reduceDiv, Int.reduceTDiv, Int.reduceTMod, iter_s]
end
end Go.Proofs.Ytjgnjpbplnmdmaa
