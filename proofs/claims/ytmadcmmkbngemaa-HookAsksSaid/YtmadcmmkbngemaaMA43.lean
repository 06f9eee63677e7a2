/- The first error ends a chain (HookChains), as the evaluator answers: the law. -/
import Derived.Test.YtmadcmmkbngemaaLA43
set_option linter.unusedSimpArgs false
set_option linter.unusedVariables false
set_option maxRecDepth 100000
set_option maxHeartbeats 8000000
namespace Go.Proofs.Ytmadcmmkbngemaa
open Go
theorem tell_yes {r g b a z s : Int} (h : Rx r g b a z s = true) : tell r g b a z s = .tup [px r g b a z s, .i 0] := if_pos h
theorem tell_no {r g b a z s : Int} (h : Rx r g b a z s = false) : tell r g b a z s = .tup [px 0 0 0 0 0 0, .i 3] := if_neg (by rw [h]; simp)
theorem e3_fine (k : Nat) (kind n : Int) (N : Nat) (hN : N ≤ 100) (h0 : 0 < N) (hk : 0 ≤ kind ∧ kind ≤ 4) {r2 g2 b2 a2 z2 s2 : Int} (hw : wantV kind n 0 0 0 0 7 2 = .tup [px r2 g2 b2 a2 z2 s2, .b true]) (hR : Rx r2 g2 b2 a2 z2 s2 = true) (h1 : ansA kind n 0 0 0 0 7 2 = some (.tup [px r2 g2 b2 a2 z2 s2, .i 0])) (h2 : ansA kind n r2 g2 b2 a2 z2 s2 = some (.tup [px r2 g2 b2 a2 z2 s2, .i 0])) :
    evP (evF cm2 (k + 400)) 3 [.i kind, .i n, .i N] = some (.b true) := by
  have e := chain_fine (k + 197) N hN rfl h1 h2
  rw [if_neg (by omega)] at e
  have e9' := e9 (k + 398) kind n 0 0 0 0 7 2
  rw [hw] at e9'
  have e10' := fun k => e10 k r2 g2 b2 a2 z2 s2
  rw [hR] at e10'
  have e6' := e6 (k + 299)
  have g1 : ¬ kind < 0 := by omega
  have g2' : ¬ 4 < kind := by omega
  have g3 : ¬ (N : Int) < 0 := by omega
  have g4 : ¬ 100 < (N : Int) := by omega
  have g5 : ¬ (N : Int) = 0 := by omega
  have cs := sh_closed kind n
  have ca := sh_atom kind n
  unfold px fr0 at e
  unfold px at e9' e10'
  rw [evP_fun (m := c3) rfl _ _ rfl]
  simp -implicitDefEqProofs only [c3, g1, g2', g3, g4, g5, e8, e, e9', e10', e6', cs, ca, eq_self, push_cast, Nat.reduceAdd, Nat.reduceMul, Nat.reduceSub, Nat.reduceLT, Nat.reduceLeDiff, Nat.reduceEqDiff, Nat.reducePow, Int.reduceToNat, Int.reduceLT, Int.reduceLE, Int.reduceNeg, Int.reduceEq, Int.reducePow, reduceIte, reduceCtorEq, Int.reduceMul, Int.reduceAdd, Int.reduceSub, Int.reduceMod, Int.reduceDiv, Int.reduceTDiv, Int.reduceTMod, iter_s]
theorem e3_wild (k : Nat) (kind n : Int) (hk : kind < 0 ∨ 4 < kind) (t : Int) : evP (evF cm2 (k + 400)) 3 [.i kind, .i n, .i t] = some (.b true) := by
  have e6' := e6 (k + 299)
  rw [evP_fun (m := c3) rfl _ _ rfl]
  by_cases h : kind < 0
  · simp -implicitDefEqProofs only [c3, h, e6', push_cast, Nat.reduceAdd, Nat.reduceMul, Nat.reduceSub, Nat.reduceLT, Nat.reduceLeDiff, Nat.reduceEqDiff, Nat.reducePow, Int.reduceToNat, Int.reduceLT, Int.reduceLE, Int.reduceNeg, Int.reduceEq, Int.reducePow, reduceIte, reduceCtorEq, Int.reduceMul, Int.reduceAdd, Int.reduceSub, Int.reduceMod, Int.reduceDiv, Int.reduceTDiv, Int.reduceTMod, iter_s]
  · have h2 : 4 < kind := by omega
    simp -implicitDefEqProofs only [c3, h, h2, e6', push_cast, Nat.reduceAdd, Nat.reduceMul, Nat.reduceSub, Nat.reduceLT, Nat.reduceLeDiff, Nat.reduceEqDiff, Nat.reducePow, Int.reduceToNat, Int.reduceLT, Int.reduceLE, Int.reduceNeg, Int.reduceEq, Int.reducePow, reduceIte, reduceCtorEq, Int.reduceMul, Int.reduceAdd, Int.reduceSub, Int.reduceMod, Int.reduceDiv, Int.reduceTDiv, Int.reduceTMod, iter_s]
theorem e3_times (k : Nat) (kind n : Int) (hk : 0 ≤ kind ∧ kind ≤ 4) (t : Int) (ht : t < 0 ∨ 100 < t) : evP (evF cm2 (k + 400)) 3 [.i kind, .i n, .i t] = some (.b true) := by
  have e := chain_bad (kind := kind) (n := n) (r := 0) (g := 0) (b := 0) (a := 0) (z := 7) (s := 2) (k + 398) ht
  have e6' := e6 (k + 299)
  have g1 : ¬ kind < 0 := by omega
  have g2' : ¬ 4 < kind := by omega
  have cs := sh_closed kind n
  have ca := sh_atom kind n
  unfold px fr0 at e
  rw [evP_fun (m := c3) rfl _ _ rfl]
  by_cases h : t < 0
  · simp -implicitDefEqProofs only [c3, g1, g2', h, e8, e, e6', cs, ca, eq_self, push_cast, Nat.reduceAdd, Nat.reduceMul, Nat.reduceSub, Nat.reduceLT, Nat.reduceLeDiff, Nat.reduceEqDiff, Nat.reducePow, Int.reduceToNat, Int.reduceLT, Int.reduceLE, Int.reduceNeg, Int.reduceEq, Int.reducePow, reduceIte, reduceCtorEq, Int.reduceMul, Int.reduceAdd, Int.reduceSub, Int.reduceMod, Int.reduceDiv, Int.reduceTDiv, Int.reduceTMod, iter_s]
  · have h2 : 100 < t := by omega
    simp -implicitDefEqProofs only [c3, g1, g2', h, h2, e8, e, e6', cs, ca, eq_self, push_cast, Nat.reduceAdd, Nat.reduceMul, Nat.reduceSub, Nat.reduceLT, Nat.reduceLeDiff, Nat.reduceEqDiff, Nat.reducePow, Int.reduceToNat, Int.reduceLT, Int.reduceLE, Int.reduceNeg, Int.reduceEq, Int.reducePow, reduceIte, reduceCtorEq, Int.reduceMul, Int.reduceAdd, Int.reduceSub, Int.reduceMod, Int.reduceDiv, Int.reduceTDiv, Int.reduceTMod, iter_s]
theorem e3_zero (k : Nat) (kind n : Int) (hk : 0 ≤ kind ∧ kind ≤ 4) : evP (evF cm2 (k + 400)) 3 [.i kind, .i n, .i 0] = some (.b true) := by
  have e := chain_zero (kind := kind) (n := n) (r := 0) (g := 0) (b := 0) (a := 0) (z := 7) (s := 2) (times := 0) (k + 197) rfl
  have e6' := e6 (k + 299)
  have g1 : ¬ kind < 0 := by omega
  have g2' : ¬ 4 < kind := by omega
  have cs := sh_closed kind n
  have ca := sh_atom kind n
  unfold px fr0 at e
  rw [evP_fun (m := c3) rfl _ _ rfl]
  simp -implicitDefEqProofs only [c3, g1, g2', e8, e, e6', cs, ca, eq_self, push_cast, Nat.reduceAdd, Nat.reduceMul, Nat.reduceSub, Nat.reduceLT, Nat.reduceLeDiff, Nat.reduceEqDiff, Nat.reducePow, Int.reduceToNat, Int.reduceLT, Int.reduceLE, Int.reduceNeg, Int.reduceEq, Int.reducePow, reduceIte, reduceCtorEq, Int.reduceMul, Int.reduceAdd, Int.reduceSub, Int.reduceMod, Int.reduceDiv, Int.reduceTDiv, Int.reduceTMod, iter_s]
theorem e3_14 (k : Nat) (kind n : Int) (N : Nat) (hN : N ≤ 100) (h0 : 0 < N) (hk : kind = 3 ∨ kind = 4) : evP (evF cm2 (k + 400)) 3 [.i kind, .i n, .i N] = some (.b true) := by
  have hA : ansA kind n 0 0 0 0 7 2 = some (.tup [px 0 0 0 0 0 0, .i 14]) := by rcases hk with rfl | rfl <;> rfl
  have hW : wantV kind n 0 0 0 0 7 2 = .tup [px 0 0 0 0 0 0, .b false] := by rcases hk with rfl | rfl <;> rfl
  have e := chain_err (k + 197) N hN h0 rfl (by decide) hA
  have e9' := e9 (k + 398) kind n 0 0 0 0 7 2
  rw [hW] at e9'
  have e6' := e6 (k + 299)
  have g1 : ¬ kind < 0 := by omega
  have g2' : ¬ 4 < kind := by omega
  have cs := sh_closed kind n
  have ca := sh_atom kind n
  have g3 : ¬ (N : Int) < 0 := by omega
  have g4 : ¬ 100 < (N : Int) := by omega
  have g5 : ¬ (N : Int) = 0 := by omega
  unfold px fr0 at e
  unfold px at e9'
  rw [evP_fun (m := c3) rfl _ _ rfl]
  simp -implicitDefEqProofs only [c3, g1, g2', g3, g4, g5, e8, e, e9', e6', cs, ca, eq_self, push_cast, Nat.reduceAdd, Nat.reduceMul, Nat.reduceSub, Nat.reduceLT, Nat.reduceLeDiff, Nat.reduceEqDiff, Nat.reducePow, Int.reduceToNat, Int.reduceLT, Int.reduceLE, Int.reduceNeg, Int.reduceEq, Int.reducePow, reduceIte, reduceCtorEq, Int.reduceMul, Int.reduceAdd, Int.reduceSub, Int.reduceMod, Int.reduceDiv, Int.reduceTDiv, Int.reduceTMod, iter_s]
theorem e3_3 (k : Nat) (kind n : Int) (N : Nat) (hN : N ≤ 100) (h0 : 0 < N) (hk : 0 ≤ kind ∧ kind ≤ 4) {r2 g2 b2 a2 z2 s2 : Int} (hw : wantV kind n 0 0 0 0 7 2 = .tup [px r2 g2 b2 a2 z2 s2, .b true]) (hR : Rx r2 g2 b2 a2 z2 s2 = false) (hA : ansA kind n 0 0 0 0 7 2 = some (.tup [px 0 0 0 0 0 0, .i 3])) : evP (evF cm2 (k + 400)) 3 [.i kind, .i n, .i N] = some (.b true) := by
  have e := chain_err (k + 197) N hN h0 rfl (by decide) hA
  have e9' := e9 (k + 398) kind n 0 0 0 0 7 2
  rw [hw] at e9'
  have e10' := fun k => e10 k r2 g2 b2 a2 z2 s2
  rw [hR] at e10'
  have e6' := e6 (k + 299)
  have g1 : ¬ kind < 0 := by omega
  have g2' : ¬ 4 < kind := by omega
  have cs := sh_closed kind n
  have ca := sh_atom kind n
  have g3 : ¬ (N : Int) < 0 := by omega
  have g4 : ¬ 100 < (N : Int) := by omega
  have g5 : ¬ (N : Int) = 0 := by omega
  unfold px fr0 at e
  unfold px at e9' e10'
  rw [evP_fun (m := c3) rfl _ _ rfl]
  simp -implicitDefEqProofs only [c3, g1, g2', g3, g4, g5, e8, e, e9', e10', e6', cs, ca, eq_self, push_cast, Nat.reduceAdd, Nat.reduceMul, Nat.reduceSub, Nat.reduceLT, Nat.reduceLeDiff, Nat.reduceEqDiff, Nat.reducePow, Int.reduceToNat, Int.reduceLT, Int.reduceLE, Int.reduceNeg, Int.reduceEq, Int.reducePow, reduceIte, reduceCtorEq, Int.reduceMul, Int.reduceAdd, Int.reduceSub, Int.reduceMod, Int.reduceDiv, Int.reduceTDiv, Int.reduceTMod, iter_s]
theorem e3 (k : Nat) (kind n t : Int) : evP (evF cm2 (k + 400)) 3 [.i kind, .i n, .i t] = some (.b true) := by
  by_cases hk : 0 ≤ kind ∧ kind ≤ 4
  · by_cases ht : 0 ≤ t ∧ t ≤ 100
    · obtain ⟨N, rfl⟩ : ∃ N : Nat, t = N := ⟨t.toNat, by omega⟩
      by_cases h0 : N = 0
      · subst h0; exact e3_zero k kind n hk
      · have hN : N ≤ 100 := by omega
        have h0' : 0 < N := by omega
        have hc : kind = 0 ∨ kind = 1 ∨ kind = 2 ∨ (kind = 3 ∨ kind = 4) := by omega
        rcases hc with rfl | rfl | rfl | h
        · cases hR : Rx 0 0 0 0 n 2 with
          | true => exact e3_fine k 0 n N hN h0' hk rfl hR (congrArg some (tell_yes hR)) (congrArg some (tell_yes hR))
          | false => exact e3_3 k 0 n N hN h0' hk rfl hR (congrArg some (tell_no hR))
        · cases hR : Rx n 0 0 0 7 2 with
          | true => exact e3_fine k 1 n N hN h0' hk rfl hR (congrArg some (tell_yes hR)) (congrArg some (tell_yes hR))
          | false => exact e3_3 k 1 n N hN h0' hk rfl hR (congrArg some (tell_no hR))
        · cases hR : Rx 0 0 0 0 7 n with
          | true => exact e3_fine k 2 n N hN h0' hk rfl hR (congrArg some (tell_yes hR)) (congrArg some (tell_yes hR))
          | false => exact e3_3 k 2 n N hN h0' hk rfl hR (congrArg some (tell_no hR))
        · exact e3_14 k kind n N hN h0' h
    · exact e3_times k kind n hk t (by omega)
  · exact e3_wild k kind n (by omega) t
end Go.Proofs.Ytmadcmmkbngemaa
