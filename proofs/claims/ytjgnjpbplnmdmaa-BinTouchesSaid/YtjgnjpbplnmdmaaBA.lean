/- Rectangles and tiles, the program's and the document's, as the evaluator answers. -/
import Derived.Test.YtjgnjpbplnmdmaaEng20
import Derived.Test.YtjgnjpbplnmdmaaC28
set_option linter.unusedSimpArgs false
set_option linter.unusedVariables false
set_option maxRecDepth 100000
set_option maxHeartbeats 8000000
namespace Go.Proofs.Ytjgnjpbplnmdmaa
open Go
theorem sbt {p : Prop} [Decidable p] (h : p) : some (LV.v (.bool true)) = some (LV.v (.bool (decide p))) := by rw [decide_eq_true h]
theorem sbf {p : Prop} [Decidable p] (h : ¬ p) : some (LV.v (.bool false)) = some (LV.v (.bool (decide p))) := by rw [decide_eq_false h]
theorem sbe {p q : Prop} [Decidable p] [Decidable q] (h : p ↔ q) : some (LV.v (.bool (decide p))) = some (LV.v (.bool (decide q))) := by rw [decide_eq_decide.2 h]
def hi (a b : Int) : Int := if b < a then a else b
def lo (a b : Int) : Int := if a < b then a else b
theorem w_Low (k : Nat) (a b : Int) : evP (evF cm (k + 1)) 52 [.i a, .i b] = some (.i (lo a b)) := by
  rw [evP_fun (m := c52) rfl _ _ rfl]
  simp -implicitDefEqProofs only [c52, push_cast, Nat.reduceAdd, Nat.reduceMul, Nat.reduceSub, Nat.reduceLT, Nat.reduceLeDiff, Nat.reduceEqDiff, Nat.reducePow, Int.reduceToNat, Int.reduceLT, Int.reduceLE, Int.reduceNeg, Int.reduceEq, Int.reducePow, reduceIte, reduceCtorEq, Int.reduceMul, Int.reduceAdd, Int.reduceSub, Int.reduceMod, Int.reduceDiv, Int.reduceTDiv, Int.reduceTMod, iter_s]
  unfold lo; split <;> rfl
def pic (w h : Int) : Prop := (1 ≤ w ∧ w ≤ 256) ∧ (1 ≤ h ∧ h ≤ 256)
instance (w h : Int) : Decidable (pic w h) := inferInstanceAs (Decidable ((1 ≤ w ∧ w ≤ 256) ∧ (1 ≤ h ∧ h ≤ 256)))
theorem w_isp (k : Nat) (w h : Int) : evP (evF cm (k + 1)) 6 [.i w, .i h] = some (.b (decide (pic w h))) := by
  rw [evP_fun (m := c6) rfl _ _ rfl]
  simp -implicitDefEqProofs only [c6, push_cast, Nat.reduceAdd, Nat.reduceMul, Nat.reduceSub, Nat.reduceLT, Nat.reduceLeDiff, Nat.reduceEqDiff, Nat.reducePow, Int.reduceToNat, Int.reduceLT, Int.reduceLE, Int.reduceNeg, Int.reduceEq, Int.reducePow, reduceIte, reduceCtorEq, Int.reduceMul, Int.reduceAdd, Int.reduceSub, Int.reduceMod, Int.reduceDiv, Int.reduceTDiv, Int.reduceTMod, iter_s]
  unfold pic
  repeat' split
  all_goals first | exact sbt (by omega) | exact sbf (by omega) | exact sbe (by omega)
theorem w_picture (k : Nat) (w h : Int) (hp : pic w h) : evP (evF cm (k + 1)) 30 [.i w, .i h] = some (.tup [.agg [.i 0, .i 0, .i w, .i h], .i 0]) := by
  rw [evP_fun (m := c30) rfl _ _ rfl]
  simp -implicitDefEqProofs only [c30, push_cast, Nat.reduceAdd, Nat.reduceMul, Nat.reduceSub, Nat.reduceLT, Nat.reduceLeDiff, Nat.reduceEqDiff, Nat.reducePow, Int.reduceToNat, Int.reduceLT, Int.reduceLE, Int.reduceNeg, Int.reduceEq, Int.reducePow, reduceIte, reduceCtorEq, Int.reduceMul, Int.reduceAdd, Int.reduceSub, Int.reduceMod, Int.reduceDiv, Int.reduceTDiv, Int.reduceTMod, iter_s]
  unfold pic at hp
  repeat' split
  all_goals first | rfl | (exfalso; omega)
theorem w_picturef (k : Nat) (w h : Int) (hp : ¬ pic w h) : evP (evF cm (k + 1)) 30 [.i w, .i h] = some (.tup [.agg [.i 0, .i 0, .i 0, .i 0], .i 3]) := by
  rw [evP_fun (m := c30) rfl _ _ rfl]
  simp -implicitDefEqProofs only [c30, push_cast, Nat.reduceAdd, Nat.reduceMul, Nat.reduceSub, Nat.reduceLT, Nat.reduceLeDiff, Nat.reduceEqDiff, Nat.reducePow, Int.reduceToNat, Int.reduceLT, Int.reduceLE, Int.reduceNeg, Int.reduceEq, Int.reducePow, reduceIte, reduceCtorEq, Int.reduceMul, Int.reduceAdd, Int.reduceSub, Int.reduceMod, Int.reduceDiv, Int.reduceTDiv, Int.reduceTMod, iter_s]
  unfold pic at hp
  repeat' split
  all_goals first | rfl | (exfalso; omega)
def cols (w : Int) : Int := (w + 15) / 16
theorem cols_in {w : Int} (h : 1 ≤ w ∧ w ≤ 256) : 1 ≤ cols w ∧ cols w ≤ 16 ∧ 16 * cols w ≤ w + 15 ∧ w ≤ 16 * cols w := by unfold cols; omega
theorem w_count (k : Nat) (w h : Int) (hp : pic w h) : evP (evF cm (k + 2)) 14 [.i w, .i h] = some (.tup [.i (cols w), .i (cols h), .i 0]) := by
  rw [evP_fun (m := c14) rfl _ _ rfl]
  simp -implicitDefEqProofs only [c14, w_picture _ _ _ hp, push_cast, Nat.reduceAdd, Nat.reduceMul, Nat.reduceSub, Nat.reduceLT, Nat.reduceLeDiff, Nat.reduceEqDiff, Nat.reducePow, Int.reduceToNat, Int.reduceLT, Int.reduceLE, Int.reduceNeg, Int.reduceEq, Int.reducePow, reduceIte, reduceCtorEq, Int.reduceMul, Int.reduceAdd, Int.reduceSub, Int.reduceMod, Int.reduceDiv, Int.reduceTDiv, Int.reduceTMod, iter_s]
  unfold pic at hp
  rw [w64 (w + 16) (by omega) (by omega), w64 (h + 16) (by omega) (by omega), w64 (w + 16 - 1) (by omega) (by omega), w64 (h + 16 - 1) (by omega) (by omega), tdiv_pos (by omega), tdiv_pos (by omega), w64 _ (by omega) (by omega), w64 _ (by omega) (by omega)]
  unfold cols
  rw [show w + 16 - 1 = w + 15 by omega, show h + 16 - 1 = h + 15 by omega]
theorem w_countf (k : Nat) (w h : Int) (hp : ¬ pic w h) : evP (evF cm (k + 2)) 14 [.i w, .i h] = some (.tup [.i 0, .i 0, .i 3]) := by
  rw [evP_fun (m := c14) rfl _ _ rfl]
  simp -implicitDefEqProofs only [c14, w_picturef _ _ _ hp, push_cast, Nat.reduceAdd, Nat.reduceMul, Nat.reduceSub, Nat.reduceLT, Nat.reduceLeDiff, Nat.reduceEqDiff, Nat.reducePow, Int.reduceToNat, Int.reduceLT, Int.reduceLE, Int.reduceNeg, Int.reduceEq, Int.reducePow, reduceIte, reduceCtorEq, Int.reduceMul, Int.reduceAdd, Int.reduceSub, Int.reduceMod, Int.reduceDiv, Int.reduceTDiv, Int.reduceTMod, iter_s]
theorem w_cols (k : Nat) (w : Int) (hw : 1 ≤ w ∧ w ≤ 256) : evP (evF cm (k + 1)) 48 [.i w] = some (.i (cols w)) := by
  rw [evP_fun (m := c48) rfl _ _ rfl]
  simp -implicitDefEqProofs only [c48, push_cast, Nat.reduceAdd, Nat.reduceMul, Nat.reduceSub, Nat.reduceLT, Nat.reduceLeDiff, Nat.reduceEqDiff, Nat.reducePow, Int.reduceToNat, Int.reduceLT, Int.reduceLE, Int.reduceNeg, Int.reduceEq, Int.reducePow, reduceIte, reduceCtorEq, Int.reduceMul, Int.reduceAdd, Int.reduceSub, Int.reduceMod, Int.reduceDiv, Int.reduceTDiv, Int.reduceTMod, iter_s]
  rw [w64 (w + 15) (by omega) (by omega), tdiv_pos (by omega), w64 _ (by omega) (by omega)]
  rfl
theorem cc_bound {w h : Int} (hp : pic w h) : 1 ≤ cols w * cols h ∧ cols w * cols h ≤ 256 := by
  obtain ⟨a1, a2, _⟩ := cols_in hp.1
  obtain ⟨b1, b2, _⟩ := cols_in hp.2
  have h1 : 1 * 1 ≤ cols w * cols h := Int.mul_le_mul a1 b1 (by omega) (by omega)
  have h2 : cols w * cols h ≤ 16 * 16 := Int.mul_le_mul a2 b2 (by omega) (by omega)
  omega
theorem w_rcount (k : Nat) (w h : Int) (hp : pic w h) : evP (evF cm (k + 2)) 24 [.i w, .i h] = some (.i (cols w * cols h)) := by
  rw [evP_fun (m := c24) rfl _ _ rfl]
  have := cc_bound hp
  simp -implicitDefEqProofs only [c24, w_cols _ _ hp.1, w_cols _ _ hp.2, push_cast, Nat.reduceAdd, Nat.reduceMul, Nat.reduceSub, Nat.reduceLT, Nat.reduceLeDiff, Nat.reduceEqDiff, Nat.reducePow, Int.reduceToNat, Int.reduceLT, Int.reduceLE, Int.reduceNeg, Int.reduceEq, Int.reducePow, reduceIte, reduceCtorEq, Int.reduceMul, Int.reduceAdd, Int.reduceSub, Int.reduceMod, Int.reduceDiv, Int.reduceTDiv, Int.reduceTMod, iter_s]
  rw [w64 _ (by omega) (by omega)]
def emp (x0 y0 x1 y1 : Int) : Bool := decide (x1 ≤ x0) || decide (y1 ≤ y0)
theorem w_empty (k : Nat) (a b c d : Int) : evP (evF cm (k + 1)) 34 [.agg [.i a, .i b, .i c, .i d]] = some (.b (emp a b c d)) := by
  rw [evP_fun (m := c34) rfl _ _ rfl]
  simp -implicitDefEqProofs only [c34, push_cast, Nat.reduceAdd, Nat.reduceMul, Nat.reduceSub, Nat.reduceLT, Nat.reduceLeDiff, Nat.reduceEqDiff, Nat.reducePow, Int.reduceToNat, Int.reduceLT, Int.reduceLE, Int.reduceNeg, Int.reduceEq, Int.reducePow, reduceIte, reduceCtorEq, Int.reduceMul, Int.reduceAdd, Int.reduceSub, Int.reduceMod, Int.reduceDiv, Int.reduceTDiv, Int.reduceTMod, iter_s]
  unfold emp; by_cases h : c ≤ a <;> simp [h]
theorem w_rempty (k : Nat) (a b c d : Int) : evP (evF cm (k + 1)) 49 [.agg [.i a, .i b, .i c, .i d]] = some (.b (emp a b c d)) := by
  rw [evP_fun (m := c49) rfl _ _ rfl]
  simp -implicitDefEqProofs only [c49, push_cast, Nat.reduceAdd, Nat.reduceMul, Nat.reduceSub, Nat.reduceLT, Nat.reduceLeDiff, Nat.reduceEqDiff, Nat.reducePow, Int.reduceToNat, Int.reduceLT, Int.reduceLE, Int.reduceNeg, Int.reduceEq, Int.reducePow, reduceIte, reduceCtorEq, Int.reduceMul, Int.reduceAdd, Int.reduceSub, Int.reduceMod, Int.reduceDiv, Int.reduceTDiv, Int.reduceTMod, iter_s]
  unfold emp; by_cases h : c ≤ a <;> simp [h]
theorem mx (a b : Int) : (if a < b then b else a) = hi a b := by unfold hi; split <;> split <;> omega
theorem mn (a b : Int) : (if b < a then b else a) = lo a b := by unfold lo; split <;> split <;> omega
theorem w_and (k : Nat) (a b c d a' b' c' d' : Int) (he : emp (hi a a') (hi b b') (lo c c') (lo d d') = false) : evP (evF cm (k + 2)) 17 [.agg [.i a, .i b, .i c, .i d], .agg [.i a', .i b', .i c', .i d']] =
    some (.agg [.i (hi a a'), .i (hi b b'), .i (lo c c'), .i (lo d d')]) := by
  rw [evP_fun (m := c17) rfl _ _ rfl]
  simp -implicitDefEqProofs only [c17, w_empty, mx, mn, he, push_cast, Nat.reduceAdd, Nat.reduceMul, Nat.reduceSub, Nat.reduceLT, Nat.reduceLeDiff, Nat.reduceEqDiff, Nat.reducePow, Int.reduceToNat, Int.reduceLT, Int.reduceLE, Int.reduceNeg, Int.reduceEq, Int.reducePow, reduceIte, reduceCtorEq, Int.reduceMul, Int.reduceAdd, Int.reduceSub, Int.reduceMod, Int.reduceDiv, Int.reduceTDiv, Int.reduceTMod, iter_s]
theorem tile_at {w h n : Int} (hp : pic w h) (hn : 0 ≤ n ∧ n < cols w * cols h) : (0 ≤ n % cols w ∧ n % cols w < cols w) ∧ (0 ≤ n / cols w ∧ n / cols w < cols h) := by
  obtain ⟨a1, a2, _⟩ := cols_in hp.1
  refine ⟨⟨Int.emod_nonneg n (by omega), Int.emod_lt_of_pos n (by omega)⟩, Int.ediv_nonneg hn.1 (by omega), ?_⟩
  exact Int.ediv_lt_of_lt_mul (by omega) (by rw [Int.mul_comm]; exact hn.2)
def tx (w n : Int) : Int := n % cols w * 16
def ty (w n : Int) : Int := n / cols w * 16
theorem tile_in {w h n : Int} (hp : pic w h) (hn : 0 ≤ n ∧ n < cols w * cols h) : (0 ≤ tx w n ∧ tx w n < w) ∧ (0 ≤ ty w n ∧ ty w n < h) := by
  obtain ⟨⟨b1, b2⟩, b3, b4⟩ := tile_at hp hn
  obtain ⟨a1, a2, a3, a4⟩ := cols_in hp.1
  obtain ⟨c1, c2, c3, c4⟩ := cols_in hp.2
  unfold tx ty
  omega
theorem w_box (k : Nat) (w h n : Int) (hp : pic w h) (hn : 0 ≤ n ∧ n < cols w * cols h) : evP (evF cm (k + 5)) 18 [.i w, .i h, .i n] = some (.tup [.agg [.i (tx w n), .i (ty w n), .i (lo (tx w n + 16) w), .i (lo (ty w n + 16) h)], .i 0]) := by
  rw [evP_fun (m := c18) rfl _ _ rfl]
  obtain ⟨⟨b1, b2⟩, b3, b4⟩ := tile_in hp hn
  obtain ⟨d1, d2, d3, d4⟩ := cols_in hp.1
  obtain ⟨d5, d6, d7, d8⟩ := cols_in hp.2
  have hcc := cc_bound hp
  have hw := hp.1; have hh := hp.2
  have g1 : ¬ n < 0 := by omega
  have g2 : ¬ cols w * cols h ≤ n := by omega
  have w1 : IntKind.i64.wrap (cols w * cols h) = cols w * cols h := w64 _ (by omega) (by omega)
  have w2 : n.tmod (cols w) = n % cols w := tmod_pos hn.1
  have w3 : n.tdiv (cols w) = n / cols w := tdiv_pos hn.1
  obtain ⟨⟨f1, f2⟩, f3, f4⟩ := tile_at hp hn
  have w4 : IntKind.i64.wrap (n / cols w) = n / cols w := w64 _ (by omega) (by omega)
  have w5 : IntKind.i64.wrap (n % cols w * 16) = tx w n := w64 _ (by omega) (by omega)
  have w6 : IntKind.i64.wrap (n / cols w * 16) = ty w n := w64 _ (by omega) (by omega)
  have w7 : IntKind.i64.wrap (tx w n + 16) = tx w n + 16 := w64 _ (by omega) (by omega)
  have w8 : IntKind.i64.wrap (ty w n + 16) = ty w n + 16 := w64 _ (by omega) (by omega)
  have nz : ¬ cols w = 0 := by omega
  have h1 : hi 0 (tx w n) = tx w n := by unfold hi; split <;> omega
  have h2 : hi 0 (ty w n) = ty w n := by unfold hi; split <;> omega
  have h3 : lo w (tx w n + 16) = lo (tx w n + 16) w := by unfold lo; split <;> split <;> omega
  have h4 : lo h (ty w n + 16) = lo (ty w n + 16) h := by unfold lo; split <;> split <;> omega
  have he : emp (hi 0 (tx w n)) (hi 0 (ty w n)) (lo w (tx w n + 16)) (lo h (ty w n + 16)) = false := by
    rw [h1, h2]; unfold emp lo
    simp only [Bool.or_eq_false_iff, decide_eq_false_iff_not]
    constructor <;> split <;> omega
  have hand := w_and (k + 2) 0 0 w h (tx w n) (ty w n) (tx w n + 16) (ty w n + 16) he
  rw [h1, h2, h3, h4] at hand
  simp -implicitDefEqProofs only [c18, w_picture _ _ _ hp, w_count _ _ _ hp, g1, g2, w1, w2, w3, w4, w5, w6, w7, w8, nz, hand, push_cast, Nat.reduceAdd, Nat.reduceMul, Nat.reduceSub, Nat.reduceLT, Nat.reduceLeDiff, Nat.reduceEqDiff, Nat.reducePow, Int.reduceToNat, Int.reduceLT, Int.reduceLE, Int.reduceNeg, Int.reduceEq, Int.reducePow, reduceIte, reduceCtorEq, Int.reduceMul, Int.reduceAdd, Int.reduceSub, Int.reduceMod, Int.reduceDiv, Int.reduceTDiv, Int.reduceTMod, iter_s]
theorem w_rbox (k : Nat) (w h n : Int) (hp : pic w h) (hn : 0 ≤ n ∧ n < cols w * cols h) : evP (evF cm (k + 5)) 26 [.i w, .i h, .i n] = some (.agg [.i (tx w n), .i (ty w n), .i (lo (tx w n + 16) w), .i (lo (ty w n + 16) h)]) := by
  rw [evP_fun (m := c26) rfl _ _ rfl]
  obtain ⟨⟨b1, b2⟩, b3, b4⟩ := tile_in hp hn
  obtain ⟨d1, d2, d3, d4⟩ := cols_in hp.1
  have hcc := cc_bound hp
  have hw := hp.1; have hh := hp.2
  have w2 : n.tmod (cols w) = n % cols w := tmod_pos hn.1
  have w3 : n.tdiv (cols w) = n / cols w := tdiv_pos hn.1
  obtain ⟨⟨f1, f2⟩, f3, f4⟩ := tile_at hp hn
  obtain ⟨d5, d6, d7, d8⟩ := cols_in hp.2
  have w4 : IntKind.i64.wrap (n / cols w) = n / cols w := w64 _ (by omega) (by omega)
  have w5 : IntKind.i64.wrap (n % cols w * 16) = tx w n := w64 _ (by omega) (by omega)
  have w6 : IntKind.i64.wrap (n / cols w * 16) = ty w n := w64 _ (by omega) (by omega)
  have w7 : IntKind.i64.wrap (tx w n + 16) = tx w n + 16 := w64 _ (by omega) (by omega)
  have w8 : IntKind.i64.wrap (ty w n + 16) = ty w n + 16 := w64 _ (by omega) (by omega)
  have nz : ¬ cols w = 0 := by omega
  simp -implicitDefEqProofs only [c26, w_cols _ _ hp.1, w_Low, w2, w3, w4, w5, w6, w7, w8, nz, push_cast, Nat.reduceAdd, Nat.reduceMul, Nat.reduceSub, Nat.reduceLT, Nat.reduceLeDiff, Nat.reduceEqDiff, Nat.reducePow, Int.reduceToNat, Int.reduceLT, Int.reduceLE, Int.reduceNeg, Int.reduceEq, Int.reducePow, reduceIte, reduceCtorEq, Int.reduceMul, Int.reduceAdd, Int.reduceSub, Int.reduceMod, Int.reduceDiv, Int.reduceTDiv, Int.reduceTMod, iter_s]
theorem w_andz (k : Nat) (a b c d a' b' c' d' : Int) (he : emp (hi a a') (hi b b') (lo c c') (lo d d') = true) : evP (evF cm (k + 2)) 17 [.agg [.i a, .i b, .i c, .i d], .agg [.i a', .i b', .i c', .i d']] = some (.agg [.i 0, .i 0, .i 0, .i 0]) := by
  rw [evP_fun (m := c17) rfl _ _ rfl]
  simp -implicitDefEqProofs only [c17, w_empty, mx, mn, he, push_cast, Nat.reduceAdd, Nat.reduceMul, Nat.reduceSub, Nat.reduceLT, Nat.reduceLeDiff, Nat.reduceEqDiff, Nat.reducePow, Int.reduceToNat, Int.reduceLT, Int.reduceLE, Int.reduceNeg, Int.reduceEq, Int.reducePow, reduceIte, reduceCtorEq, Int.reduceMul, Int.reduceAdd, Int.reduceSub, Int.reduceMod, Int.reduceDiv, Int.reduceTDiv, Int.reduceTMod, iter_s]
theorem w_High (k : Nat) (a b : Int) : evP (evF cm (k + 1)) 69 [.i a, .i b] = some (.i (hi a b)) := by
  rw [evP_fun (m := c69) rfl _ _ rfl]
  simp -implicitDefEqProofs only [c69, push_cast, Nat.reduceAdd, Nat.reduceMul, Nat.reduceSub, Nat.reduceLT, Nat.reduceLeDiff, Nat.reduceEqDiff, Nat.reducePow, Int.reduceToNat, Int.reduceLT, Int.reduceLE, Int.reduceNeg, Int.reduceEq, Int.reducePow, reduceIte, reduceCtorEq, Int.reduceMul, Int.reduceAdd, Int.reduceSub, Int.reduceMod, Int.reduceDiv, Int.reduceTDiv, Int.reduceTMod, iter_s]
  unfold hi; split <;> rfl
theorem w_both (k : Nat) (a b c d a' b' c' d' : Int) (he : emp (hi a a') (hi b b') (lo c c') (lo d d') = false) : evP (evF cm (k + 2)) 50 [.agg [.i a, .i b, .i c, .i d], .agg [.i a', .i b', .i c', .i d']] = some (.agg [.i (hi a a'), .i (hi b b'), .i (lo c c'), .i (lo d d')]) := by
  rw [evP_fun (m := c50) rfl _ _ rfl]
  simp -implicitDefEqProofs only [c50, w_rempty, w_Low, w_High, he, push_cast, Nat.reduceAdd, Nat.reduceMul, Nat.reduceSub, Nat.reduceLT, Nat.reduceLeDiff, Nat.reduceEqDiff, Nat.reducePow, Int.reduceToNat, Int.reduceLT, Int.reduceLE, Int.reduceNeg, Int.reduceEq, Int.reducePow, reduceIte, reduceCtorEq, Int.reduceMul, Int.reduceAdd, Int.reduceSub, Int.reduceMod, Int.reduceDiv, Int.reduceTDiv, Int.reduceTMod, iter_s]
theorem w_bothz (k : Nat) (a b c d a' b' c' d' : Int) (he : emp (hi a a') (hi b b') (lo c c') (lo d d') = true) : evP (evF cm (k + 2)) 50 [.agg [.i a, .i b, .i c, .i d], .agg [.i a', .i b', .i c', .i d']] = some (.agg [.i 0, .i 0, .i 0, .i 0]) := by
  rw [evP_fun (m := c50) rfl _ _ rfl]
  simp -implicitDefEqProofs only [c50, w_rempty, w_Low, w_High, he, push_cast, Nat.reduceAdd, Nat.reduceMul, Nat.reduceSub, Nat.reduceLT, Nat.reduceLeDiff, Nat.reduceEqDiff, Nat.reducePow, Int.reduceToNat, Int.reduceLT, Int.reduceLE, Int.reduceNeg, Int.reduceEq, Int.reducePow, reduceIte, reduceCtorEq, Int.reduceMul, Int.reduceAdd, Int.reduceSub, Int.reduceMod, Int.reduceDiv, Int.reduceTDiv, Int.reduceTMod, iter_s]
theorem emp0 : emp 0 0 0 0 = true := by decide
end Go.Proofs.Ytjgnjpbplnmdmaa
