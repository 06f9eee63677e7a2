/- A ring's operations that are done one behind the other (RingAlone), as the evaluator answers: the parts. -/
import Derived.Test.YtcmlnjkbdlakfaaRP
import Derived.Test.YtcmlnjkbdlakfaaRA
import Derived.Test.YtcmlnjkbdlakfaaMN
import Derived.Test.YtcmlnjkbdlakfaaA32
set_option linter.unusedSimpArgs false
set_option linter.unusedVariables false
set_option linter.unusedSectionVars false
set_option maxRecDepth 100000
set_option maxHeartbeats 16000000
namespace Go.Proofs.Ytcmlnjkbdlakfaa
open Go
theorem evX_P {k : Nat} {g : FuncId} {ar : List LV} (hs : isS cm g = true) : evP (evF cm k) g ar = none := by unfold evP; rw [evX_none hs]
theorem evX_N {k lim : Nat} {g : FuncId} {ar : List LV} (hs : isS cm g = true) : evF cm k g ar [] lim = none := evX_none hs _ _ _
theorem and3 (x : Int) : 0 ≤ bits .and .i64 x 3 ∧ bits .and .i64 x 3 ≤ 3 := by
  have hx : (BitVec.ofInt 64 x &&& BitVec.ofInt 64 3).toNat ≤ 3 := by
    rw [BitVec.toNat_and]; exact Nat.and_le_right
  have : bits .and .i64 x 3 = ((BitVec.ofInt 64 x &&& BitVec.ofInt 64 3).toNat : Int) := by
    show IntKind.i64.wrap ((BitVec.ofInt 64 x &&& BitVec.ofInt 64 3).toNat : Int) = _
    exact w64 _ (by omega) (by omega)
  omega
/-! ### operations are made -/
section
variable (k : Nat) {h : List Row} (hn : h.isEmpty = false) (rr : Nat)
include hn
theorem op_mk (f : Nat) (x y : Int) : evF cm (k + 1) 28 [.p rr 0 0, .f f [], .i x, .i y] h 0 = some (.p h.length 0 0, h ++ [⟨0, opR rr (.f f []) 0 0 x 0 y (-1)⟩]) := by
  unfold opR
  rw [evX_fun (m := c28) rfl _ _ _ _ hn rfl]
  simp -implicitDefEqProofs only [c28, push_cast, Nat.reduceAdd, Nat.reduceMul, Nat.reduceSub, Nat.reduceLT, Nat.reduceLeDiff, Nat.reduceEqDiff, Nat.reducePow, Int.reduceToNat, Int.reduceLT, Int.reduceLE, Int.reduceNeg, Int.reduceEq, Int.reducePow, reduceIte, reduceCtorEq, Int.reduceMul, Int.reduceAdd, Int.reduceSub, Int.reduceMod, Int.reduceDiv, Int.reduceTDiv, Int.reduceTMod, iter_s]
theorem publish_mk (x : Int) : evF cm (k + 2) 13 [.p rr 0 0, .i x] h 0 = some (.p h.length 0 0, h ++ [⟨0, (RO.new .publish 0 x).cells rr⟩]) := by
  have e := fun k => op_mk k hn rr 29 0 x
  rw [evX_fun (m := c13) rfl _ _ _ _ hn rfl]
  simp -implicitDefEqProofs only [c13, e, push_cast, Nat.reduceAdd, Nat.reduceMul, Nat.reduceSub, Nat.reduceLT, Nat.reduceLeDiff, Nat.reduceEqDiff, Nat.reducePow, Int.reduceToNat, Int.reduceLT, Int.reduceLE, Int.reduceNeg, Int.reduceEq, Int.reducePow, reduceIte, reduceCtorEq, Int.reduceMul, Int.reduceAdd, Int.reduceSub, Int.reduceMod, Int.reduceDiv, Int.reduceTDiv, Int.reduceTMod, iter_s]
  rfl
theorem await_mk (x : Int) : evF cm (k + 2) 23 [.p rr 0 0, .i x] h 0 = some (.p h.length 0 0, h ++ [⟨0, (RO.new .await x 0).cells rr⟩]) := by
  have e := fun k => op_mk k hn rr 32 x 0
  rw [evX_fun (m := c23) rfl _ _ _ _ hn rfl]
  simp -implicitDefEqProofs only [c23, e, push_cast, Nat.reduceAdd, Nat.reduceMul, Nat.reduceSub, Nat.reduceLT, Nat.reduceLeDiff, Nat.reduceEqDiff, Nat.reducePow, Int.reduceToNat, Int.reduceLT, Int.reduceLE, Int.reduceNeg, Int.reduceEq, Int.reducePow, reduceIte, reduceCtorEq, Int.reduceMul, Int.reduceAdd, Int.reduceSub, Int.reduceMod, Int.reduceDiv, Int.reduceTDiv, Int.reduceTMod, iter_s]
  rfl
theorem stop_mk : evF cm (k + 2) 24 [.p rr 0 0] h 0 = some (.p h.length 0 0, h ++ [⟨0, (RO.new .stop 0 0).cells rr⟩]) := by
  have e := fun k => op_mk k hn rr 33 0 0
  rw [evX_fun (m := c24) rfl _ _ _ _ hn rfl]
  simp -implicitDefEqProofs only [c24, e, push_cast, Nat.reduceAdd, Nat.reduceMul, Nat.reduceSub, Nat.reduceLT, Nat.reduceLeDiff, Nat.reduceEqDiff, Nat.reducePow, Int.reduceToNat, Int.reduceLT, Int.reduceLE, Int.reduceNeg, Int.reduceEq, Int.reducePow, reduceIte, reduceCtorEq, Int.reduceMul, Int.reduceAdd, Int.reduceSub, Int.reduceMod, Int.reduceDiv, Int.reduceTDiv, Int.reduceTMod, iter_s]
  rfl
theorem claim_mk : evF cm (k + 2) 19 [.p rr 0 0] h 0 = some (.p h.length 0 0, h ++ [⟨0, (RO.new .claim 0 0).cells rr⟩]) := by
  have e := fun k => op_mk k hn rr 30 0 0
  rw [evX_fun (m := c19) rfl _ _ _ _ hn rfl]
  simp -implicitDefEqProofs only [c19, e, push_cast, Nat.reduceAdd, Nat.reduceMul, Nat.reduceSub, Nat.reduceLT, Nat.reduceLeDiff, Nat.reduceEqDiff, Nat.reducePow, Int.reduceToNat, Int.reduceLT, Int.reduceLE, Int.reduceNeg, Int.reduceEq, Int.reducePow, reduceIte, reduceCtorEq, Int.reduceMul, Int.reduceAdd, Int.reduceSub, Int.reduceMod, Int.reduceDiv, Int.reduceTDiv, Int.reduceTMod, iter_s]
  rfl
theorem finish_mk (x : Int) : evF cm (k + 2) 21 [.p rr 0 0, .i x] h 0 = some (.p h.length 0 0, h ++ [⟨0, (RO.new .finish x 0).cells rr⟩]) := by
  have e := fun k => op_mk k hn rr 31 x 0
  rw [evX_fun (m := c21) rfl _ _ _ _ hn rfl]
  simp -implicitDefEqProofs only [c21, e, push_cast, Nat.reduceAdd, Nat.reduceMul, Nat.reduceSub, Nat.reduceLT, Nat.reduceLeDiff, Nat.reduceEqDiff, Nat.reducePow, Int.reduceToNat, Int.reduceLT, Int.reduceLE, Int.reduceNeg, Int.reduceEq, Int.reducePow, reduceIte, reduceCtorEq, Int.reduceMul, Int.reduceAdd, Int.reduceSub, Int.reduceMod, Int.reduceDiv, Int.reduceTDiv, Int.reduceTMod, iter_s]
  rfl
end
/-! ### the document's answer -/
def xC (K H D T : Int) (L : Nat → Int) (stp : Bool) : List LV := [.i K, .i H, .i D, .i T, .i (L 0), .i (L 1), .i (L 2), .i (L 3), .i (L 4), .i (L 5), .i (L 6), .i (L 7), .b stp]
section
variable {K : Nat} (hK : 0 < K ∧ K ≤ 8) {H D : Nat} {T : Int} {L : Nat → Int} {stp : Bool}
include hK
theorem e14_full (k : Nat) (x : Int) (hH : H ≤ 1000) (hT : -1000 ≤ T ∧ T ≤ 1000) (hf : (K : Int) ≤ (H : Int) - T) : evP (evF cm (k + 1)) 14 [.agg (xC K H D T L stp), .i x] = some (.tup [.agg (xC K H D T L stp), .b false]) := by
  have w1 : IntKind.i64.wrap ((H : Int) - T) = (H : Int) - T := w64 _ (by omega) (by omega)
  unfold xC
  rw [evP_fun (m := c14) rfl _ _ rfl]
  simp -implicitDefEqProofs only [c14, w1, hf, push_cast, Nat.reduceAdd, Nat.reduceMul, Nat.reduceSub, Nat.reduceLT, Nat.reduceLeDiff, Nat.reduceEqDiff, Nat.reducePow, Int.reduceToNat, Int.reduceLT, Int.reduceLE, Int.reduceNeg, Int.reduceEq, Int.reducePow, reduceIte, reduceCtorEq, Int.reduceMul, Int.reduceAdd, Int.reduceSub, Int.reduceMod, Int.reduceDiv, Int.reduceTDiv, Int.reduceTMod, iter_s]
theorem e14_fine (k : Nat) (x : Int) (hH : H ≤ 1000) (hT : -1000 ≤ T ∧ T ≤ 1000) (hf : ¬ (K : Int) ≤ (H : Int) - T) : evP (evF cm (k + 1)) 14 [.agg (xC K H D T L stp), .i x] = some (.tup [.agg (xC K (H + 1 : Nat) D T (upd L (sl K H) x) stp), .b true]) := by
  have w1 : IntKind.i64.wrap ((H : Int) - T) = (H : Int) - T := w64 _ (by omega) (by omega)
  have w2 : IntKind.i64.wrap ((H : Int) + 1) = ((H + 1 : Nat) : Int) := by rw [w64 _ (by omega) (by omega)]; omega
  have hq := sl_lt hK.1 (H : Int)
  have eq0 : (H : Int).tmod (K : Int) = ((sl K H : Nat) : Int) := by
    have h0 := Int.emod_nonneg (H : Int) (b := (K : Int)) (by omega)
    rw [tmod_pos (by omega)]; unfold sl; omega
  have hq8 : sl K H < 8 := by omega
  have g1 : ¬ (K : Int) = 0 := by omega
  have g0 : ¬ K = 0 := by omega
  generalize sl K H = q at *
  generalize ((H + 1 : Nat) : Int) = H1 at *
  unfold xC
  have hc : q = 0 ∨ q = 1 ∨ q = 2 ∨ q = 3 ∨ q = 4 ∨ q = 5 ∨ q = 6 ∨ q = 7 := by omega
  have w3 : ∀ j : Nat, j < 8 → IntKind.i64.wrap (j : Int) = (j : Int) := fun j hj => w64 _ (by omega) (by omega)
  rw [evP_fun (m := c14) rfl _ _ rfl]
  rcases hc with rfl | rfl | rfl | rfl | rfl | rfl | rfl | rfl <;>
  simp -implicitDefEqProofs [c14, w1, w2, hf, g0, g1, eq0, upd, push_cast, Nat.reduceAdd, Nat.reduceMul, Nat.reduceSub, Nat.reduceLT, Nat.reduceLeDiff, Nat.reduceEqDiff, Nat.reducePow, Int.reduceToNat, Int.reduceLT, Int.reduceLE, Int.reduceNeg, Int.reduceEq, Int.reducePow, reduceIte, reduceCtorEq, Int.reduceMul, Int.reduceAdd, Int.reduceSub, Int.reduceMod, Int.reduceDiv, Int.reduceTDiv, Int.reduceTMod, iter_s]
theorem e20_none (k : Nat) (hf : (H : Int) ≤ T) : evP (evF cm (k + 1)) 20 [.agg (xC K H D T L stp)] = some (.tup [.agg (xC K H D T L stp), .i (if stp then 3 else 2), .i (-1)]) := by
  unfold xC
  rw [evP_fun (m := c20) rfl _ _ rfl]
  cases stp <;> simp -implicitDefEqProofs only [c20, hf, push_cast, Nat.reduceAdd, Nat.reduceMul, Nat.reduceSub, Nat.reduceLT, Nat.reduceLeDiff, Nat.reduceEqDiff, Nat.reducePow, Int.reduceToNat, Int.reduceLT, Int.reduceLE, Int.reduceNeg, Int.reduceEq, Int.reducePow, reduceIte, reduceCtorEq, Int.reduceMul, Int.reduceAdd, Int.reduceSub, Int.reduceMod, Int.reduceDiv, Int.reduceTDiv, Int.reduceTMod, iter_s]
theorem e20_busy (k : Nat) (hf : ¬ (H : Int) ≤ T) (hD : ¬ (D : Int) = T) : evP (evF cm (k + 1)) 20 [.agg (xC K H D T L stp)] = some (.tup [.agg (xC K H D T L stp), .i 2, .i (-1)]) := by
  unfold xC
  rw [evP_fun (m := c20) rfl _ _ rfl]
  simp -implicitDefEqProofs only [c20, hf, hD, push_cast, Nat.reduceAdd, Nat.reduceMul, Nat.reduceSub, Nat.reduceLT, Nat.reduceLeDiff, Nat.reduceEqDiff, Nat.reducePow, Int.reduceToNat, Int.reduceLT, Int.reduceLE, Int.reduceNeg, Int.reduceEq, Int.reducePow, reduceIte, reduceCtorEq, Int.reduceMul, Int.reduceAdd, Int.reduceSub, Int.reduceMod, Int.reduceDiv, Int.reduceTDiv, Int.reduceTMod, iter_s]
theorem e20_fine (k : Nat) (hd : D ≤ 1000) (hf : ¬ (H : Int) ≤ T) (hD : (D : Int) = T) : evP (evF cm (k + 1)) 20 [.agg (xC K H D T L stp)] = some (.tup [.agg (xC K H (D + 1 : Nat) T L stp), .i 1, .i T]) := by
  have w2 : IntKind.i64.wrap (T + 1) = ((D + 1 : Nat) : Int) := by rw [w64 _ (by omega) (by omega)]; omega
  generalize ((D + 1 : Nat) : Int) = D1 at *
  unfold xC
  rw [evP_fun (m := c20) rfl _ _ rfl]
  simp -implicitDefEqProofs only [c20, hf, hD, w2, push_cast, Nat.reduceAdd, Nat.reduceMul, Nat.reduceSub, Nat.reduceLT, Nat.reduceLeDiff, Nat.reduceEqDiff, Nat.reducePow, Int.reduceToNat, Int.reduceLT, Int.reduceLE, Int.reduceNeg, Int.reduceEq, Int.reducePow, reduceIte, reduceCtorEq, Int.reduceMul, Int.reduceAdd, Int.reduceSub, Int.reduceMod, Int.reduceDiv, Int.reduceTDiv, Int.reduceTMod, iter_s]
theorem e22_on (k : Nat) (n : Int) (hn : -1000 ≤ n ∧ n ≤ 1000) (hL : ∀ j, -100000 ≤ L j ∧ L j ≤ 100000) (hf : ¬ L (sl K n) - 1 = 0) : evP (evF cm (k + 1)) 22 [.agg (xC K H D T L stp), .i n] = some (.tup [.agg (xC K H D T (upd L (sl K n) (L (sl K n) - 1)) stp), .i 2]) := by
  have hq := sl_lt hK.1 n
  have h0 := Int.emod_nonneg n (b := (K : Int)) (by omega)
  have h1 := Int.lt_tmod_of_pos n (b := (K : Int)) (by omega)
  have h2 := Int.tmod_lt_of_pos n (b := (K : Int)) (by omega)
  have w2 : IntKind.i64.wrap (n.tmod (K : Int) + (K : Int)) = n.tmod (K : Int) + (K : Int) := w64 _ (by omega) (by omega)
  have eq0 : (n.tmod (K : Int) + (K : Int)).tmod (K : Int) = ((sl K n : Nat) : Int) := by rw [tmod2 _ _ (by omega)]; unfold sl; omega
  have hl := hL (sl K n)
  have wL : IntKind.i64.wrap (L (sl K n) - 1) = L (sl K n) - 1 := w64 _ (by omega) (by omega)
  have hq8 : sl K n < 8 := by omega
  have g1 : ¬ (K : Int) = 0 := by omega
  have g0 : ¬ K = 0 := by omega
  generalize sl K n = q at *
  unfold xC
  have hc : q = 0 ∨ q = 1 ∨ q = 2 ∨ q = 3 ∨ q = 4 ∨ q = 5 ∨ q = 6 ∨ q = 7 := by omega
  rw [evP_fun (m := c22) rfl _ _ rfl]
  rcases hc with rfl | rfl | rfl | rfl | rfl | rfl | rfl | rfl <;>
  simp -implicitDefEqProofs [c22, w2, wL, hf, g0, g1, eq0, upd, push_cast, Nat.reduceAdd, Nat.reduceMul, Nat.reduceSub, Nat.reduceLT, Nat.reduceLeDiff, Nat.reduceEqDiff, Nat.reducePow, Int.reduceToNat, Int.reduceLT, Int.reduceLE, Int.reduceNeg, Int.reduceEq, Int.reducePow, reduceIte, reduceCtorEq, Int.reduceMul, Int.reduceAdd, Int.reduceSub, Int.reduceMod, Int.reduceDiv, Int.reduceTDiv, Int.reduceTMod, iter_s]
theorem e22_done (k : Nat) (n : Int) (hn : -1000 ≤ n ∧ n ≤ 1000) (hf : L (sl K n) = 1) : evP (evF cm (k + 1)) 22 [.agg (xC K H D T L stp), .i n] = some (.tup [.agg (xC K H D (n + 1) (upd L (sl K n) (L (sl K n) - 1)) stp), .i 1]) := by
  have hq := sl_lt hK.1 n
  have h0 := Int.emod_nonneg n (b := (K : Int)) (by omega)
  have h1 := Int.lt_tmod_of_pos n (b := (K : Int)) (by omega)
  have h2 := Int.tmod_lt_of_pos n (b := (K : Int)) (by omega)
  have w2 : IntKind.i64.wrap (n.tmod (K : Int) + (K : Int)) = n.tmod (K : Int) + (K : Int) := w64 _ (by omega) (by omega)
  have eq0 : (n.tmod (K : Int) + (K : Int)).tmod (K : Int) = ((sl K n : Nat) : Int) := by rw [tmod2 _ _ (by omega)]; unfold sl; omega
  have wn : IntKind.i64.wrap (n + 1) = n + 1 := w64 _ (by omega) (by omega)
  have w0 : IntKind.i64.wrap ((1 : Int) - 1) = 0 := rfl
  have hq8 : sl K n < 8 := by omega
  have g1 : ¬ (K : Int) = 0 := by omega
  have g0 : ¬ K = 0 := by omega
  generalize sl K n = q at *
  unfold xC
  have hc : q = 0 ∨ q = 1 ∨ q = 2 ∨ q = 3 ∨ q = 4 ∨ q = 5 ∨ q = 6 ∨ q = 7 := by omega
  rw [evP_fun (m := c22) rfl _ _ rfl]
  rcases hc with rfl | rfl | rfl | rfl | rfl | rfl | rfl | rfl <;>
  simp -implicitDefEqProofs [c22, w2, wn, w0, hf, g0, g1, eq0, upd, push_cast, Nat.reduceAdd, Nat.reduceMul, Nat.reduceSub, Nat.reduceLT, Nat.reduceLeDiff, Nat.reduceEqDiff, Nat.reducePow, Int.reduceToNat, Int.reduceLT, Int.reduceLE, Int.reduceNeg, Int.reduceEq, Int.reducePow, reduceIte, reduceCtorEq, Int.reduceMul, Int.reduceAdd, Int.reduceSub, Int.reduceMod, Int.reduceDiv, Int.reduceTDiv, Int.reduceTMod, iter_s]
end
end Go.Proofs.Ytcmlnjkbdlakfaa
